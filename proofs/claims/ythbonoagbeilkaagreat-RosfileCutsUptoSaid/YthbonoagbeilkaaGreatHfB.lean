import Derived.Test.YthbonoagbeilkaaGreatHcW
import Derived.Test.YthbonoagbeilkaaGreatExQ
import Derived.Test.YthbonoagbeilkaaGreatProg
import Derived.Test.YthbonoagbeilkaaGreatHbA
import Derived.Shelf.SlSortCmp.NoneTotal
import Derived.Shelf.SlLaysF0
set_option linter.unusedVariables false
set_option linter.unusedSimpArgs false
namespace Go.Proofs.YthbonoagbeilkaaGreat.Hay
noncomputable section
open Option renaming bind_some→Z0,all_some→Zl,map_some→Zt
open List renaming getElem?_eq_getElem→Z1,take_of_length_le→Z2,range→Z3,getElem_mem→Z4,all_eq_true→Z6,drop_eq_getElem_cons→Z8,take_append_drop→Z9,length_append→Za,getElem_of_mem→Zc,getElem?_append_right→Zd,map_append→Ze,pairwise_iff_getElem→Zf,drop_of_length_le→Zg,mem_range→Zh,append_assoc→Zj,cons_append→Zn,getElem_map→Zo,mem_of_mem_drop→Zp,mem_of_mem_take→Zq,take_append_of_le_length→Zr,getElem?_append_left→Zv,getElem_append_right→Zw,take_length→Zy,contains_eq_mem→X3,drop_take→X4,length_cons→X5,flatten_append→X6,map_congr_left→X7,nil_append→X9,getElem?_take_of_lt→Xb,mem_map→Xc,getElem_cons_zero→Xd,getElem_cons_succ→Xe,length_drop→Xg,map_cons→Xh,range_succ→Xi,mem_append→Xj,drop_left'→Xk,append_nil→Xl,take_left'→Xm,drop_left→Xn,replicate→Xp,mem_cons→Xq
open Nat renaming le_refl→Zm,min_eq_left→Xf
open Bool renaming and_eq_true→Zb,not_eq_true'→Zi,eq_iff_iff→Zs,or_eq_false_iff→Zu,eq_false_or_eq_true→Zx,and_eq_false_iff→Zz,true_and→X8,false_and→Xo
open Int renaming eq_ofNat_of_zero_le→Z5,emod_eq_of_lt→Z7,toNat_natCast→Xa
open BitVec renaming ofInt→Xr
open IntKind renaming i64→Zk,u8→Xs,u64→Xt
theorem EW {O:Type} [DecidableEq O]{l:List O}{i:Nat}{x:O}(h:i<=l.length):(Z3 i).all (λk=>(l[k]?).all λy=> !decide (y=x))= !(l.take i).contains x:=by
 rw[Zs];simp only[Z6,Zh,Zi,X3,decide_eq_false_iff_not];constructor
 ·intro W hm
  obtain⟨k,J,he⟩:=Zc hm;have a0:k<i:=by simp at J;omega
  have h2:=W k a0
  have h3:l[k]? =some x:=by
   rw[Z1 (by omega)];simpa using he
  rw[h3,Zl] at h2;simp at h2
 ·intro W k J
  have Z:k<l.length:=by omega
  rw[Z1 Z,Zl];simp only[Zi,decide_eq_false_iff_not];intro e;apply W;rw[←e];exact List.mem_of_getElem? (i:=k) (by rw[Xb J,Z1 Z])
theorem K2 {O:Type}(l:List O)(p:O->Bool):(Z3 l.length).all (λi=>(l[i]?).all λx=>p x)=l.all p:=by
 rw[Zs];simp only[Z6,Zh];constructor
 ·intro h x J
  obtain⟨i,hi,rfl⟩:=Zc J;have:=h i hi;rwa[Z1 hi,Zl] at this
 ·intro h i hi
  rw[Z1 hi,Zl];exact h _ (Z4 hi)
theorem EX {cols:Int}{l:List aa}(hl:l.length<=4096)(hv:∀v∈l,lQ v)(i:Nat)(hi:i<l.length):
  o8 cols l (i:Int)=if rj cols l i then some (.inl ((i+1:Nat):Int)) else some (.inr 81):=by
 have Z:=hv _ (Z4 hi);have a1:=Z.len
 have h6:l8 l (i:Int) l[i]=if !((l.take i).map (·.fId)).contains l[i].fId then some (.inl ((i+1:Nat):Int)) else some (.inr 81):=by
  have a0:((l.take i).map (·.fId))=(l.map (·.fId)).take i:=by simp
  have ha:=EW (l:=l.map (·.fId)) (i:=i) (x:=l[i].fId) (by simp;omega);rw[a0,←ha];unfold l8
  have e:(Z3 i).all (λk=>((l.map (·.fId))[k]?).all λy=> !decide (y=l[i].fId))=(Z3 i).all (λk=>(l[k]?).all λy=> !decide (y.fId=l[i].fId)):=by
   congr 1;funext k;rw[List.getElem?_map];cases l[k]? <;>rfl
  rw[e];refine md (λk=>(k:Int)) i (λk=>(l[k]?).all λy=> !decide (y.fId=l[i].fId)) (Sum.inr 81) (some (.inl ((i+1:Nat):Int))) rfl (λk J h=>?_) (λk J h=>?_) ?_
  ·have W:k<l.length:=by omega
   simp only[Z1 W,Zl] at h;simp only[o6];rw[if_pos (by simpa using J),aw W,Z0,if_neg (by simpa using h),ai (by omega)];rfl
  ·have W:k<l.length:=by omega
   simp only[Z1 W,Zl] at h;simp only[o6];rw[if_pos (by simpa using J),aw W,Z0,if_pos (by simpa using h)];rfl
  ·simp only[o6]
   rw[if_neg (by simp),wM,ai (by omega)];rfl
 have h5:∀b,gH l (i:Int) l[i] b=if b then some (.inr 81) else if l[i].fRow.all right then l8 l (i:Int) l[i] else some (.inr 81):=by
  intro b;unfold gH;cases b
  ·rw[if_neg (by simp),if_neg (by simp),←K2]
   refine md (λk=>(k:Int)) l[i].fRow.length (λk=>(l[i].fRow[k]?).all λx=>right x) (Sum.inr 81) (l8 l (i:Int) l[i]) rfl (λk J h=>?_) (λk J h=>?_) ?_
   ·simp only[Z1 J,Zl] at h
    simp only[o7];rw[if_pos (by simpa using J),aw J,Z0,qb,Z0,h,if_neg (by simp),ai (by omega)];rfl
   ·simp only[Z1 J,Zl] at h
    simp only[o7];rw[if_pos (by simpa using J),aw J,Z0,qb,Z0,h,if_pos (by simp)];rfl
   ·simp only[o7]
    rw[if_neg (by simp)]
  ·rfl
 simp only[o8];rw[if_pos (by simpa using hi),aw hi,Z0];simp only[h5,h6];unfold rj tu;rw[Z1 hi];dsimp only;have he:=Z.ep;have hd:=Z.de
 rcases Zx (((l.take i).map (·.fId)).contains l[i].fId) with hq|hq<;>rcases Zx (l[i].fRow.all right) with hz|hz<;>simp only[hq,hz]<;>
  by_cases c1:(l[i].fRow.length:Int)=cols<;>by_cases c2:l[i].fId.fEpoch=0<;>by_cases c3:9223372036854775807<l[i].fId.fEpoch<;>by_cases c4:9223372036854775807<l[i].fDeleted<;>by_cases c5:l[i].fDeleted=0<;>by_cases c6:l[i].fDeleted<=l[i].fId.fEpoch<;>
  simp[c1,c2,c3,c4,c5,c6]<;>omega
theorem Gm {cols:Int}{srt:List Int}{l:List aa}(hs:srt.length<=1048576)(hv:∀v∈l,lQ v):nN cols srt l=some (nj cols srt l):=by
 have h2:l9 cols l=some (if 4096<l.length then 81 else if qg cols l then 0 else 81):=by
  unfold l9
  by_cases h:4096<l.length
  ·rw[if_pos (by simp;omega),if_pos h]
  ·rw[if_neg (by simp;omega),if_neg h]
   refine(md (λi=>(i:Int)) l.length (rj cols l) 81 (some 0) rfl (λi hi J=>?_) (λi hi J=>?_) ?_).trans ?_
   ·rw[EX (by omega) hv i hi,J];rfl
   ·rw[EX (by omega) hv i hi,J];rfl
   ·simp only[o8]
    rw[if_neg (by simp)];rfl
   ·show(if qg cols l then some 0 else some 81)=_
    cases qg cols l<;>rfl
 have h8:∀(i:Nat) (hi:i<srt.length) b,pa srt (i:Int) b=if b then some (.inr 1) else if !(srt.take i).contains srt[i] then some (.inl ((i+1:Nat):Int)) else some (.inr 1):=by
  intro i hi b;unfold pa;cases b
  ·rw[if_neg (by simp),if_neg (by simp),←EW (by omega)]
   refine md (λk=>(k:Int)) i (λk=>(srt[k]?).all λy=> !decide (y=srt[i])) (Sum.inr 1) (some (.inl ((i+1:Nat):Int))) rfl (λk hk J=>?_) (λk hk J=>?_) ?_
   ·have W:k<srt.length:=by omega
    simp only[Z1 W,Zl] at J;simp only[o9];rw[if_pos (by simpa using hk),aw W,Z0,aw hi,Z0,if_neg (by simpa using J),ai (by omega)];rfl
   ·have W:k<srt.length:=by omega
    simp only[Z1 W,Zl] at J;simp only[o9];rw[if_pos (by simpa using hk),aw W,Z0,aw hi,Z0,if_pos (by simpa using J)];rfl
   ·simp only[o9]
    rw[if_neg (by simp),wN,ai (by omega)];rfl
  ·rfl
 have h1:∀b,pd cols srt l b=if b then some 1 else if sk cols srt then l9 cols l else some 1:=by
  intro b;unfold pd;cases b
  ·rw [if_neg (by simp),if_neg (by simp)]
   have hb:∀(i:Nat) (hi:i<srt.length),pc cols srt l (i:Int)=if sj cols srt i then some (.inl ((i+1:Nat):Int)) else some (.inr 1):=by
    intro i hi;simp only[pc];rw[if_pos (by simpa using hi),aw hi,Z0,Z0];simp only[h8 i hi];unfold sj;rw[Z1 hi];dsimp only
    by_cases q1:srt[i]<0
    ·have Z: ¬ 0<=srt[i]:=by omega
     simp[q1,Z]
    ·by_cases q2:cols<=srt[i]
     ·have q3: ¬ srt[i]<cols:=by omega
      simp[q1,q2,q3]
     ·have q3:srt[i]<cols:=by omega
      have Z:0<=srt[i]:=by omega
      rw[if_neg (by simp[q1]),if_neg (by simp[q2])];rcases Zx ((srt.take i).contains srt[i]) with hq|hq<;>simp only[hq,decide_eq_true q3,decide_eq_true Z]<;>rfl
   refine md (λi=>(i:Int)) srt.length (sj cols srt) 1 (l9 cols l) rfl (λi hi J=>?_) (λi hi J=>?_) ?_
   ·rw[hb i hi,J];rfl
   ·rw[hb i hi,J];rfl
   ·simp only[pc]
    rw[if_neg (by simp)]
  ·rfl
 unfold nN nj;simp only[h1,h2]
 by_cases q1:cols<1
 ·simp[q1]
 ·by_cases q2:8<cols
  ·simp[q1,q2]
  ·simp only[q1,q2,decide_false,Bool.false_eq_true,if_false,or_self]
   cases sk cols srt<;>simp
structure py (cols:Int)(srt:List Int)(l:List aa):Prop where
 co:1<=cols/\cols<=8
 so:sk cols srt=true
 le:l.length<=4096
 ro:qg cols l=true
theorem UL {cols:Int}{srt:List Int}{l:List aa}:nj cols srt l=0↔py cols srt l:=by
 unfold nj;constructor
 ·intro h
  by_cases c1:cols<1\/8<cols
  ·rw[if_pos c1] at h;cases h
  ·rw[if_neg c1] at h
   cases c2:sk cols srt with
   |false=>rw[c2] at h;cases h
   | true=>
    rw[c2,if_pos rfl] at h
    by_cases c3:4096<l.length
    ·rw[if_pos c3] at h;cases h
    ·rw[if_neg c3] at h
     cases c4:qg cols l with
     |false=>rw[c4] at h;cases h
     |true=>exact⟨by omega,c2,by omega,c4⟩
 ·intro h
  have J:=h.co;have W:=h.le;rw[if_neg (by omega),h.so,if_pos rfl,if_neg (by omega),h.ro,if_pos rfl]
theorem py.ver {cols:Int}{srt:List Int}{l:List aa}(h:py cols srt l):∀v∈l,tu cols v=true:=by
 intro v W;obtain⟨i,hi,rfl⟩:=Zc W;have J:=Z6.1 h.ro i (Zh.2 hi);unfold rj at J;rw[Z1 hi] at J;simp only[Zb] at J;exact J.1
theorem un {cols:Int}{v:aa}(Z:lQ v)(h:tu cols v=true):(∀x∈v.fRow,Rgt x)/\(v.fRow.length:Int)=cols/\1<=v.fId.fEpoch/\v.fId.fEpoch<=9223372036854775807/\(v.fDeleted=0\/v.fId.fEpoch<v.fDeleted/\v.fDeleted<=9223372036854775807):=by
 unfold tu at h;simp only[Zb,decide_eq_true_eq,Zi,Zz,Zu,decide_eq_false_iff_not,Z6] at h;obtain⟨h1,h2,h3,h4,J⟩:=h;refine⟨λx W=>Rgt.of (Z.row x W) (h1 x W),h2,h3,h4,?_⟩;rcases J with J|J
 ·left;simpa using J
 ·right;omega
structure CV (cols:Int)(l:List aa):Prop where
 co:1<=cols/\cols<=8
 le:l.length<=4096
 ok:∀v∈l,lQ v/\tu cols v=true
theorem CV.of {cols:Int}{srt:List Int}{l:List aa}(h:py cols srt l)(W:∀v∈l,lQ v):CV cols l:=⟨h.co,h.le,λv J=>⟨W v J,h.ver v J⟩⟩
theorem CV.mem {cols:Int}{l J:List aa}(h:CV cols l)(hl:J.length=l.length)(Z:∀v∈J,v∈l):CV cols J:=⟨h.co,by rw[hl];exact h.le,λv W=>h.ok v (Z v W)⟩
def gM (cols:Int)(n:Nat)(v:aa):Ap:=
 if (n:Int)<cols then v.fRow.getD n it else if (n:Int)=cols then gI v.fId.fEpoch else if (n:Int)=cols+1 then gI v.fId.fNumber else gI v.fDeleted
def lR (cols:Int)(n:Nat)(l:List aa):List Ap:=l.map (gM cols n)
theorem Gn {cols:Int}{l:List aa}(h:CV cols l){v:aa}(Z:v∈l)(n:Nat):Rgt (gM cols n v):=by
 obtain⟨W,h2⟩:=h.ok v Z;obtain⟨h3,h4,h5,h6,h7⟩:=un W h2;unfold gM;split
 ·have J:n<v.fRow.length:=by omega
  have:v.fRow.getD n it=v.fRow[n]:=by simp[J]
  rw[this];exact h3 _ (Z4 J)
 ·have hd:=W.de
  have J:=W.nu;split
  ·exact Rgt.int _ (by unfold cC;omega)
  ·split
   ·exact Rgt.int _ (by unfold cC;omega)
   ·exact Rgt.int _ (by unfold cC;omega)
theorem M7 {cols:Int}{n:Nat}{l:List aa}{f:List Ap×Int->Option ((List Ap×Int)⊕List Ap)}(W:l.length<=4096)
  (step:∀(i:Nat) (h:i<l.length) (x:List Ap),x.length=i->f (x,(i:Int))=some (.inl (x++[gM cols n l[i]],((i+1:Nat):Int)))) (J:∀x,f (x,(l.length:Int))=some (.inr x)):am f ([],0)=some (lR cols n l):=by
 refine jB (λi=>((l.take i).map (gM cols n),(i:Int))) l.length (by simp) (λi hi=>?_) ?_
 ·show f ((l.take i).map (gM cols n),(i:Int))=_
  rw[step i hi _ (by simp;omega),jh hi,Ze]
  rfl
 ·show f ((l.take l.length).map (gM cols n),(l.length:Int))=_
  rw[J,Zy];rfl
theorem IV {cols:Int}{n:Nat}{l:List aa}(h:CV cols l)(hn:(n:Int)<cols+3):lc cols (n:Int) l=some (lR cols n l):=by
 have a0:=h.le;have a1:=h.co;unfold lc;refine M7 a0 (λi hi x hx=>?_) (λx=>?_)
 ·obtain⟨J,h2⟩:=h.ok _ (Z4 hi)
  obtain⟨h3,h4,h5,h6,h7⟩:=un J h2;have hd:=J.de;have a2:=J.nu;simp only[om,eI,Z0];have hj:∀z,gA (i:Int) z=some (.inl (z,((i+1:Nat):Int))):=λz=>by unfold gA;rw[ai (by omega)];rfl
  have Z:∀y:Ap,app 3518437208883 x [y]=some (x++[y]):=λy=>aI (by simp;omega);rw[if_pos (by simpa using hi),aw hi,Z0,ai (n:=(n:Int) - cols) (by omega)];simp only[Z,Z0,hj];unfold gM
  by_cases c1:(n:Int)=cols
  ·rw[if_pos (by simp;omega),if_neg (by omega),if_pos c1,ai (by omega)]
  ·rw[if_neg (by simp;omega)]
   by_cases c2:(n:Int)=cols+1
   ·rw[if_pos (by simp;omega),if_neg (by omega),if_neg c1,if_pos c2,ai (by omega)]
   ·rw[if_neg (by simp;omega)]
    by_cases c3:(n:Int)=cols+2
    ·rw[if_pos (by simp;omega),if_neg (by omega),if_neg c1,if_neg c2,ai (by omega)]
    ·have W:n<l[i].fRow.length:=by omega
     rw[if_neg (by simp;omega),if_pos (by omega),aw W,Z0];simp[W]
 ·simp only[om]
  rw[if_neg (by simp)];rfl
def eW (l:List Ap)(i:Nat):List Ap:=(l.drop (64*i)).take 64
def jR (l:List Ap):Nat:=(l.length+63)/64
def jC (l:List Ap):List (List Ap):=(Z3 (jR l)).map (eW l)
theorem sm (i:Nat):Z3 (i+1)=Z3 i++[i]:=Xi
theorem K3 {l:List Ap}{i:Nat}(hi:i<jR l)(J:l.length<=4096):(l.take (min l.length (64*i+64))).drop (64*i)=eW l i:=by
 unfold eW jR at*;rw[X4];rcases Nat.le_total l.length (64*i+64) with h|h
 ·rw[Xf h,Z2 (by simp),Z2 (by simp;omega)]
 ·rw[Nat.min_eq_right h]
  congr 1;omega
theorem K4 {l:List Ap}(J:l.length<=4096):iD l 64=some (jC l):=by
 unfold iD;rw[if_neg (by simp)];unfold iL fX gm
 have:am (λs:Int×List (List Ap)=>cK (λ(s:List (List Ap)) x=>some (s++[x],true)) l 64 s.1 s.2) (0,[])=some (jC l):=by
  refine jB (λi=>(((64*i:Nat):Int),(Z3 i).map (eW l))) (jR l) (by simp) (λi hi=>?_) ?_
  ·have Z:64*i<l.length:=by unfold jR at hi;omega
   simp only[cK]
   have h:sub l ((64*i:Nat):Int) (l.length:Int)=some (l.drop (64*i)):=by
    have:=cP (xs:=l) (lo:=64*i) (hi:=l.length) (by omega) (Zm _);rwa[Zy] at this
   have W:sub l ((64*i:Nat):Int) (Zk.wrap (((64*i:Nat):Int)+(if ((l.drop (64*i)).length:Int)<64 then ((l.drop (64*i)).length:Int) else 64)))=some (eW l i):=by
    have e:Zk.wrap (((64*i:Nat):Int)+(if ((l.drop (64*i)).length:Int)<64 then ((l.drop (64*i)).length:Int) else 64))=((min l.length (64*i+64):Nat):Int):=by
     rw[Xg];split<;>rw[ai (by omega)]<;>omega
    rw[e,cP (by omega) (by omega),K3 hi J]
   rw[if_pos (by simp;omega),h,Z0,W,Z0,Z0,if_neg (by simp),ai (by omega),sm,Ze];congr 2
  ·have a0:l.length<=64*jR l:=by unfold jR;omega
   simp only[cK];rw[if_neg (by simp;omega)];rfl
 rw[this];rfl
def BS (kind:Int)(p:List Ap):Int:=if (enc kind p).2=0 then kind else -1
def i7 (kind:Int)(p:List Ap):List Int:=(wr (BS kind p) p).1
def sn (kind:Int)(l:List Ap):List Int:=((jC l).map (i7 kind)).flatten
theorem BT {kind:Int}{p:List Ap}(h:∀v∈p,VOK v):Byt (i7 kind p)/\(i7 kind p).length<=100000:=by
 unfold i7
 by_cases hw:(wr (BS kind p) p).2=0
 ·exact IF h hw
 ·have:(wr (BS kind p) p).1=[]:=by
   unfold wr at hw ⊢;split
   ·rfl
   ·rename_i W
    rw[if_neg W] at hw;split
    ·rfl
    ·rename_i Z;rw[if_neg Z] at hw;exact absurd rfl hw
  rw[this];exact⟨λc J=>by simp at J,by simp⟩
theorem ww {l:List Ap}{i:Nat}{v:Ap}(h:v∈eW l i):v∈l:=Zp (Zq h)
theorem EY (l:List Ap)(i:Nat):(eW l i).length<=64:=by unfold eW;simp;omega
theorem CN {kind:Int}{l:List Ap}(h:∀v∈l,VOK v):∀k,Byt ((((Z3 k).map (eW l)).map (i7 kind)).flatten)/\((((Z3 k).map (eW l)).map (i7 kind)).flatten).length<=100000*k:=by
 intro k
 induction k with
 |zero=>exact⟨λc J=>by simp at J,by simp⟩
 |succ k ih=>
  have Z:=BT (kind:=kind) (p:=eW l k) (λv W=>h v (ww W));rw[sm,Ze,Ze,X6];simp only[Xh,List.map_nil,List.flatten_singleton];refine⟨λc J=>?_,by rw[Za];omega⟩;rcases Xj.1 J with J|J
  ·exact ih.1 c J
  ·exact Z.1 c J
theorem zM {kind:Int}{l:List Ap}(h:∀v∈l,VOK v)(J:l.length<=4096):Byt (sn kind l)/\(sn kind l).length<=6400000:=by
 have:=CN (kind:=kind) h (jR l);refine⟨this.1,Nat.le_trans this.2 ?_⟩;unfold jR;omega
theorem IW {kind:Int}{l:List Ap}(h:∀v∈l,VOK v)(hl:l.length<=4096):ld kind l=some (sn kind l):=by
 have a0:∀(out:List Int) (p:List Ap),(∀v∈p,VOK v)->p.length<=64->out.length<=10000000->eZ kind out p=some (out++i7 kind p,true):=by
  intro out p W a1 ho;have J:=(BT (kind:=kind) W).2
  have Z:∀k,(wr k p).1.length<=100000->gB out p k=some (out++(wr k p).1,true):=λk hk=>by
   unfold gB;rw[KM k W (by omega),Z0,aI (by omega),Z0]
  simp only[eZ,rY];rw[uh kind W (by omega),Z0,Z0];unfold i7 BS at*
  by_cases hc:(enc kind p).2=0
  ·rw[if_pos hc] at J ⊢
   rw[if_neg (by simp[hc]),Z _ J]
  ·rw[if_neg hc] at J ⊢
   rw[if_pos (by simp[hc]),Z _ J]
 unfold ld;rw[K4 hl,Z0]
 have key:∀(k i:Nat),i+k=jR l->fP (λ(s:List Int) (x:List Ap)=>eZ kind s x) ((((Z3 i).map (eW l)).map (i7 kind)).flatten) ((List.range' i k).map (eW l))=some (sn kind l,true):=by
  intro k
  induction k with
  |zero=>
   intro i hi;obtain rfl:i=jR l:=by omega
   rfl
  | succ k ih=>
   intro i hi;rw[List.range'_succ,Xh];have J:=CN (kind:=kind) h i;have hi':i<64:=by unfold jR at hi;omega
   simp only[fP];rw[a0 _ _ (λv hv=>h v (ww hv)) (EY l i) (by omega),Z0,if_pos rfl]
   have e:(((Z3 i).map (eW l)).map (i7 kind)).flatten++i7 kind (eW l i)=(((Z3 (i+1)).map (eW l)).map (i7 kind)).flatten:=by
    rw[sm,Ze,Ze,X6];simp
   rw[e];exact ih (i+1) (by omega)
 have:=key (jR l) 0 (by omega);rw[←List.range_eq_range'] at this;have h0:(((Z3 0).map (eW l)).map (i7 kind)).flatten=[]:=rfl;rw[h0] at this;unfold jC;rw[this,Z0,if_pos rfl]
theorem BU {b:List Int}{n:Int}(h:b.length<=1000000000):jw b n=some (b++be4 n):=by
 unfold jw;have W:aX .i64 n 24=n/2^24:=Hm (k:=24) (by decide);have e2:aX .i64 n 16=n/2^16:=Hm (k:=16) (by decide);have J:aX .i64 n 8=n/2^8:=Hm (k:=8) (by decide);rw[aI (by simp;omega),Z0,W,e2,J,bB,bB,bB,bB]
 rfl
def sq (cols:Int)(srt:List Int):List Int:=[72,65,89,49,Xs.wrap cols,Xs.wrap (srt.length:Int)]
def nmB (cols:Int)(srt:List Int)(m:Int):List Int:=sq cols srt++srt.map Xs.wrap++be4 m
def mJ (cols:Int)(kinds:List Int)(n:Nat):Int:=if (n:Int)<cols/\n<kinds.length then kinds.getD n 0 else -1
def nk (cols:Int)(kinds:List Int)(T:List aa)(n:Nat):List Int:=
 be4 ((sn (mJ cols kinds n) (lR cols n T)).length:Int)++sn (mJ cols kinds n) (lR cols n T)
def gu (cols:Int)(kinds:List Int)(T:List aa)(k:Nat):List Int:=((Z3 k).map (nk cols kinds T)).flatten
def jD (cols:Int)(srt kinds:List Int)(T:List aa):List Int:=nmB cols srt (T.length:Int)++gu cols kinds T (cols+3).toNat
def kJ (cols:Int)(srt kinds:List Int)(T:List aa):List Int:=jD cols srt kinds T++be4 (fD (jD cols srt kinds T))
theorem CO (cols:Int)(kinds:List Int)(T:List aa)(k:Nat):gu cols kinds T (k+1)=gu cols kinds T k++nk cols kinds T k:=by
 unfold gu;rw[sm,Ze,X6];simp
theorem BV {cols:Int}{n:Nat}{T:List aa}(h:CV cols T):(∀v∈lR cols n T,VOK v)/\(lR cols n T).length<=4096:=by
 refine⟨λv J=>?_,by unfold lR;simpa using h.le⟩;obtain⟨x,W,rfl⟩:=Xc.1 J;exact(Gn h W n).ok
theorem EZ (n:Int):0<=Xs.wrap n/\Xs.wrap n<256:=by rw[bB];omega
theorem vl {a b:List Int}(J:Byt a)(W:Byt b):Byt (a++b):=λc h=>by
 rcases Xj.1 h with h|h
 ·exact J c h
 ·exact W c h
theorem Gp {cols:Int}{kinds:List Int}{T:List aa}(h:CV cols T)(n:Nat):Byt (nk cols kinds T n)/\(nk cols kinds T n).length<=6400004:=by
 obtain⟨W,Z⟩:=BV (n:=n) h;obtain⟨J,h4⟩:=zM (kind:=mJ cols kinds n) W Z;unfold nk;exact⟨vl (yH _) J,by rw[Za,eV];omega⟩
theorem zN {cols:Int}{kinds:List Int}{T:List aa}(h:CV cols T):∀k,Byt (gu cols kinds T k)/\(gu cols kinds T k).length<=6400004*k:=by
 intro k
 induction k with
 |zero=>exact⟨λc J=>by simp[gu] at J,by simp[gu]⟩
 |succ k ih=>
  have W:=Gp (kinds:=kinds) h k;rw[CO];exact⟨vl ih.1 W.1,by rw[Za];omega⟩
theorem OB (cols:Int)(srt:List Int)(m:Int):Byt (nmB cols srt m):=by
 unfold nmB sq;refine vl (vl ?_ ?_) (yH m)
 ·intro c h
  have J:=EZ cols;have W:=EZ (srt.length:Int);simp only[Xq,List.not_mem_nil,or_false] at h;rcases h with rfl|rfl|rfl|rfl|rfl|rfl<;>omega
 ·intro c h
  obtain⟨x,_,rfl⟩:=Xc.1 h;exact EZ x
theorem IX (cols:Int)(srt:List Int)(m:Int):(nmB cols srt m).length=10+srt.length:=by
 unfold nmB sq;simp[eV];omega
theorem BW {cols:Int}{srt kinds:List Int}{T:List aa}(h:CV cols T)(Z:srt.length<=1048576):Byt (jD cols srt kinds T)/\(jD cols srt kinds T).length<=100000000:=by
 have J:=zN (kinds:=kinds) h (cols+3).toNat;have a0:=h.co;have W:=IX cols srt (T.length:Int);unfold jD;refine⟨vl (OB _ _ _) J.1,?_⟩;rw[Za,W];have:(cols+3).toNat<=11:=by omega
 have:6400004*(cols+3).toNat<=6400004*11:=Nat.mul_le_mul_left _ this;omega
theorem M8 {cols:Int}{srt kinds:List Int}{T:List aa}(h:CV cols T)(hs:srt.length<=1048576)(hk:kinds.length<=1048576):
  am (λs:(List Int×Int)=>gZ cols kinds T s.1 s.2) (nmB cols srt (T.length:Int),0)=some (kJ cols srt kinds T,0):=by
 have a2:=h.co;have b0:=BW (srt:=srt) (kinds:=kinds) h hs;have a0:=IX cols srt (T.length:Int);refine jB (λn=>(nmB cols srt (T.length:Int)++gu cols kinds T n,(n:Int))) (cols+3).toNat (by simp[gu]) (λn hn=>?_) ?_
 ·have a6:=zN (kinds:=kinds) h n
  have a4:n<11:=by omega
  have a3:(nmB cols srt (T.length:Int)++gu cols kinds T n).length<=200000000:=by rw[Za,a0];omega
  obtain⟨hv,hl⟩:=BV (n:=n) h;obtain⟨a5,a9⟩:=zM (kind:=mJ cols kinds n) hv hl
  have W:gY cols T (nmB cols srt (T.length:Int)++gu cols kinds T n) (n:Int) (mJ cols kinds n)=some (.inl (nmB cols srt (T.length:Int)++gu cols kinds T (n+1),((n+1:Nat):Int))):=by
   unfold gY;rw[IV h (by omega),Z0,IW hv hl,Z0,BU (by omega),Z0,aI (by rw[Za,eV];omega),Z0,ai (by omega),CO];unfold nk;simp only[Zj]
   rfl
  have a1:∀b,(b=true↔n<kinds.length)->(n:Int)<cols->fC cols kinds T (nmB cols srt (T.length:Int)++gu cols kinds T n) (n:Int) b=some (.inl (nmB cols srt (T.length:Int)++gu cols kinds T (n+1),((n+1:Nat):Int))):=by
   intro b hb J;unfold fC;cases b with
   |true=>
    have Z:=hb.1 rfl;rw[if_pos rfl,aw Z,Z0];have:mJ cols kinds n=kinds[n]:=by unfold mJ;rw[if_pos ⟨J,Z⟩];simp[Z]
    rw[←this,W]
   | false=>
    rw[if_neg (by simp)]
    have:mJ cols kinds n= -1:=by
     unfold mJ;rw[if_neg (λhh=>by have:=hb.2 hh.2;cases this)]
    rw[←this,W]
  simp only[gZ];rw[ai (by omega),if_pos (by simp;omega)]
  by_cases J:(n:Int)<cols
  ·rw[if_pos (by simpa using J)]
   exact a1 _ (by simp) J
  ·rw[if_neg (by simpa using J)]
   unfold fC;rw[if_neg (by simp)];have:mJ cols kinds n= -1:=by unfold mJ;rw[if_neg (λhh=>J hh.1)]
   rw[←this,W]
 ·simp only[gZ]
  rw[ai (by omega),if_neg (by simp;omega)];show(jx (jD cols srt kinds T)).map Sum.inr=_;unfold jx;obtain⟨h1,h2⟩:=tp (b:=jD cols srt kinds T) (by omega);unfold U32 at h2;rw[h1,Z0,ai (by omega),BU (by omega)]
  rfl
theorem AZ {cols:Int}{srt kinds:List Int}{l:List aa}(hs:srt.length<=1048576)(hk:kinds.length<=1048576)(J:∀v∈l,lQ v):
  (nj cols srt l≠0/\gG cols srt kinds l=some ([],nj cols srt l))\/
  (py cols srt l/\∃T,Stb (qlt srt) l T/\CV cols T/\gG cols srt kinds l=some (kJ cols srt kinds T,0)):=by
 unfold gG;rw[qh hs J,Z0]
 by_cases hr:nj cols srt l=0
 ·right
  have W:=UL.1 hr;have a2:=W.le;have a0:Rok l:=λv Z=>(J v Z).len;obtain⟨T',h1,h⟩:=xX (cs:=srt) (xs:=l) hs (by omega) a0;have hT:CV cols T':=(CV.of W J).mem (h.len (iM srt)) (λv Z=>(h.mem (iM srt)).1 Z);have a1:=h.len (iM srt);refine⟨W,T',h,hT,?_⟩;rw[if_neg (by simp[hr]),h1,Z0,aI (by simp),Z0];refine(jB (λi=>(sq cols srt++(srt.take i).map Xs.wrap,(i:Int))) srt.length (by simp[sq]) (λi hi=>?_) (b:=jy cols kinds T' (sq cols srt++srt.map Xs.wrap)) ?_).trans ?_
  ·simp only[jz]
   rw[if_pos (by simpa using hi),aw hi,Z0,aI (by simp[sq];omega),Z0,ai (by omega),jh hi,Ze];simp only[Zj]
   rfl
  ·simp only[jz]
   rw[if_neg (by simp),Zy]
  ·unfold jy
   rw[BU (by simp[sq];omega),Z0];exact M8 hT hs hk
 ·left
  exact⟨hr,by rw[if_pos (by simpa using hr)]⟩
theorem orS {a b:Nat}(k:Nat)(W:b<2^k)(h:2^k*a+b<4294967296):bOr .i64 ((2^k*a:Nat):Int) (b:Int)=((2^k*a+b:Nat):Int):=by
 unfold bOr
 have J:(Xr Zk.bits ((2^k*a:Nat):Int)).toNat=2^k*a:=by
  show(Xr 64 ((2^k*a:Nat):Int)).toNat=2^k*a;rw[BitVec.toNat_ofInt];omega
 have Z:(Xr Zk.bits (b:Int)).toNat=b:=by
  show(Xr 64 (b:Int)).toNat=b;rw[BitVec.toNat_ofInt];omega
 rw[BitVec.toNat_or,J,Z,←Nat.two_pow_add_eq_or_of_lt W,ai (by omega)]
theorem shI {a:Nat}(k:Nat)(J:k<=24)(Z:a<256):dZ .i64 (a:Int) (k:Int)=((2^k*a:Nat):Int):=by
 unfold dZ;have e:min ((k:Int)).toNat Zk.bits=k:=by simp[IntKind.bits];omega
 have h:2^k<=2^24:=Nat.pow_le_pow_right (by decide) J;have W:2^k*a<=2^24*255:=Nat.mul_le_mul h (by omega);rw[e,show(a:Int)*2^k=((2^k*a:Nat):Int) by rw[Nat.mul_comm];push_cast;rfl,ai (by omega)]
theorem A0 {a b c d:Int}{t:List Int}(ha:0<=a/\a<256)(hb:0<=b/\b<256)(hc:0<=c/\c<256)(hd:0<=d/\d<256):dG (a::b::c::d::t)=some (bq [a,b,c,d]):=by
 have e0:idx (a::b::c::d::t) 0=some a:=aw (xs:=a::b::c::d::t) (i:=0) (by simp);have e1:idx (a::b::c::d::t) 1=some b:=aw (xs:=a::b::c::d::t) (i:=1) (by simp);have e2:idx (a::b::c::d::t) 2=some c:=aw (xs:=a::b::c::d::t) (i:=2) (by simp);have Z:idx (a::b::c::d::t) 3=some d:=aw (xs:=a::b::c::d::t) (i:=3) (by simp);unfold dG;rw[e0,Z0,e1,Z0,e2,Z0,Z,Z0,ai (by omega),ai (by omega),ai (by omega),ai (by omega)];obtain⟨a,rfl⟩:=Z5 ha.1;obtain⟨b,rfl⟩:=Z5 hb.1;obtain⟨c,rfl⟩:=Z5 hc.1;obtain⟨d,rfl⟩:=Z5 hd.1;have J:=shI (a:=a) 24 (by omega) (by omega);have h:=shI (a:=b) 16 (by omega) (by omega)
 have W:=shI (a:=c) 8 (by omega) (by omega);rw[show((24:Nat):Int)=24 from rfl] at J;rw[show((16:Nat):Int)=16 from rfl] at h;rw[show((8:Nat):Int)=8 from rfl] at W;rw[J,h,W,orS 24 (by omega) (by omega),show 2^24*a+2^16*b=2^16*(2^8*a+b) by omega,orS 16 (by omega) (by omega),show 2^16*(2^8*a+b)+2^8*c=2^8*(2^8*(2^8*a+b)+c) by omega,orS 8 (by omega) (by omega)];unfold bq;simp only[List.foldl_cons,List.foldl_nil];congr 1;omega
theorem uP {b:List Int}(J:Byt b)(h:4<=b.length):dG b=some (bq (b.take 4)):=by
 match b,h with
 |a::b::c::d::t,_=>exact A0 J.head J.tail.head J.tail.tail.head J.tail.tail.tail.head
theorem wy {n:Int}(h:U32 n)(t:List Int):dG (be4 n++t)=some n:=by
 have:=EN h;unfold be4 at*;rw[Zn,Zn,Zn,Zn,A0 (by omega) (by omega) (by omega) (by omega),this]
theorem IY {kind:Int}{p:List Ap}(h:∀v∈p,Rgt v)(W:p≠[])(hl:p.length<=64):(wr (BS kind p) p).2=0:=by
 have key:∀k,(enc (mc k p) p).2=0->(wr k p).2=0:=λk Z=>by
  unfold wr;rw[if_neg W,if_neg (by simpa using Z)]
 apply key;unfold BS;split
 ·rename_i J
  unfold mc;rw[if_neg]
  ·exact J
  ·rintro rfl
   unfold enc at J;rw[if_pos (by omega)] at J;cases J
 ·unfold mc
  rw[if_pos rfl,VJ.1];unfold enc;have hr:p.all right=true:=Z6.2 λv hv=>(h v hv).right;rw[if_neg (by omega),if_neg (by omega),if_neg (by simp[hr]),if_neg (λhh=>by omega),if_neg W]
theorem K5 {kind:Int}{p:List Ap}(h:∀v∈p,Rgt v)(hp:p≠[])(Z:p.length<=64){t:List Int}(ht:Byt t)(W:t.length<=900000000000):io (i7 kind p++t)=some (p,((i7 kind p).length:Int),0):=by
 unfold i7;exact M2 (λv J=>(h v J).ok) (IY h hp Z) ht W
theorem M9 {kind:Int}{p:List Ap}(h:∀v∈p,Rgt v)(hp:p≠[])(W:p.length<=64):0<(i7 kind p).length:=by
 unfold i7;obtain⟨k,_,_,_,_,J,_⟩:=EK (λv Z=>(h v Z).ok) (IY (kind:=kind) h hp W);rw[J];unfold pg;simp[eV]
theorem CP {kind:Int}{l:List Ap}{i:Nat}(hi:i<jR l):(((jC l).drop i).map (i7 kind)).flatten=i7 kind (eW l i)++(((jC l).drop (i+1)).map (i7 kind)).flatten:=by
 have h:i<(jC l).length:=by unfold jC;simpa using hi
 rw[Z8 h];have:(jC l)[i]=eW l i:=by simp[jC]
 rw[this];rfl
theorem IZ {kind:Int}{l:List Ap}(h:∀v∈l,VOK v)(Z:l.length<=4096):∀k i:Nat,i+k=jR l->Byt ((((jC l).drop i).map (i7 kind)).flatten)/\((((jC l).drop i).map (i7 kind)).flatten).length<=100000*k:=by
 intro k
 induction k with
 |zero=>
  intro i hi;rw[Zg (by unfold jC;simp;omega)];exact⟨.nil,by simp⟩
 |succ k ih=>
  intro i hi;have W:=BT (kind:=kind) (p:=eW l i) (λv J=>h v (ww J));have:=ih (i+1) (by omega);rw[CP (by omega)];exact⟨W.1.app this.1,by rw[Za];omega⟩
theorem I0 {kind:Int}{l:List Ap}(h:∀v∈l,Rgt v)(hl:l.length<=4096):d9 (sn kind l) (l.length:Int)=some (l,true):=by
 unfold d9;have J:∀v∈l,VOK v:=λv J=>(h v J).ok;refine jB (λi=>((((jC l).drop i).map (i7 kind)).flatten,l.take (64*i))) (jR l) (by simp[sn]) (λi hi=>?_) ?_
 ·have a5:64*i<l.length:=by unfold jR at hi;omega
  have hp:∀v∈eW l i,Rgt v:=λv J=>h v (ww J);have a1:=EY l i;have W:(eW l i).length=min 64 (l.length - 64*i):=by unfold eW;simp
  have Z:eW l i≠[]:=λe=>by rw[e] at W;simp at W;omega
  have a6:=M9 (kind:=kind) hp Z a1;obtain⟨a3,a9⟩:=IZ (kind:=kind) J hl (jR l - (i+1)) (i+1) (by omega);have a4:jR l<=64:=by unfold jR;omega
  have a0:(l.take (64*i)).length=64*i:=by simp;omega
  have ht:l.take (64*(i+1))=l.take (64*i)++eW l i:=by unfold eW;rw[←List.take_add];congr 1
  simp only[bT];rw[CP hi,if_pos (by simp;omega),K5 hp Z a1 a3 (by omega),Z0,if_neg (by simp),a0,ai (by omega)]
  have hm:(((eW l i).length:Int) != (if (l.length:Int) - ((64*i:Nat):Int)<64 then (l.length:Int) - ((64*i:Nat):Int) else 64))=false:=by
   rw[W];simp;split<;>omega
  dsimp only;rw[hm];unfold gC;rw[if_neg (by simp)];dsimp only;rw[aI (by rw[a0];omega),Z0,bZ (by simp),Z0,Xn,ht]
 ·have a2:l.length<=64*jR l:=by unfold jR;omega
  simp only[bT];rw[Zg (by unfold jC;simp),if_neg (by simp),Z2 a2];unfold kN;simp
def tkV (cols:Int)(n:Nat)(v:aa):aa:=
 ⟨⟨if cols<(n:Int) then v.fId.fEpoch else 0,if cols+1<(n:Int) then v.fId.fNumber else 0⟩,v.fRow.take n,if cols+2<(n:Int) then v.fDeleted else 0⟩
theorem Na {cols:Int}(h:1<=cols)(v:aa):tkV cols 0 v=aa.zero:=by
 unfold tkV;rw[if_neg (by omega),if_neg (by omega),if_neg (by omega)]
 rfl
theorem OC {cols:Int}{v:aa}(J:1<=cols)(h:(v.fRow.length:Int)=cols):tkV cols (cols+3).toNat v=v:=by
 unfold tkV;rw[if_pos (by omega),if_pos (by omega),if_pos (by omega),Z2 (by omega)]
theorem I1 {O:Type}{A B:List O}{x:O}{i:Nat}(h:A.length=i):(A++x::B)[i]? =some x:=by simp[←h]
theorem E0 {O:Type}{A B:List O}{x y:O}{i:Nat}(h:A.length=i):(A++x::B).set i y=A++y::B:=by simp[←h]
theorem K6 {cols:Int}{srt:List Int}{T:List aa}(h:CV cols T){n:Nat}(hn:(n:Int)<cols+3):
  dt ⟨cols,srt,[]⟩ (T.map (tkV cols n)) (n:Int) (lR cols n T)=some (true,T.map (tkV cols (n+1))):=by
 have c4:=h.le;have b5:=h.co;have b7:(lR cols n T).length=T.length:=by simp[lR]
 unfold dt;refine jB (λi=>((i:Int),(T.take i).map (tkV cols (n+1))++(T.drop i).map (tkV cols n))) T.length (by simp) (λi hi=>?_) ?_
 ·obtain⟨h1,h2⟩:=h.ok _ (Z4 hi)
  obtain⟨h3,h4,h5,h6,h7⟩:=un h1 h2;have b6:=h1.de;have c0:=h1.nu;have a9:((T.take i).map (tkV cols (n+1))).length=i:=by simp;omega
  obtain⟨A,hA⟩:∃A,A=(T.take i).map (tkV cols (n+1)):=⟨_,rfl⟩
  obtain⟨B,hB⟩:∃B,B=(T.drop (i+1)).map (tkV cols n):=⟨_,rfl⟩
  have hS:(T.take i).map (tkV cols (n+1))++(T.drop i).map (tkV cols n)=A++tkV cols n T[i]::B:=by
   rw[Z8 hi,Xh,hA,hB]
  have b3:(T.take (i+1)).map (tkV cols (n+1))++(T.drop (i+1)).map (tkV cols n)=A++tkV cols (n+1) T[i]::B:=by
   rw[jh hi,Ze,hA,hB];simp
  have a4:A.length=i:=by rw[hA];exact a9
  have hx:(A++tkV cols n T[i]::B)[i]? =some (tkV cols n T[i]):=I1 a4;have b4:∀y,(A++tkV cols n T[i]::B).set i y=A++y::B:=λy=>E0 a4
  have hc:idx (lR cols n T) (i:Int)=some (gM cols n T[i]):=by
   rw[aw (by omega)];simp[lR]
  show bM ⟨cols,srt,[]⟩ (n:Int) (lR cols n T) (i:Int) ((T.take i).map (tkV cols (n+1))++(T.drop i).map (tkV cols n))=some (.inl (((i+1:Nat):Int),(T.take (i+1)).map (tkV cols (n+1))++(T.drop (i+1)).map (tkV cols n)));rw[hS,b3];unfold bM;rw[if_pos (by simp;omega),hc,Z0,nU (by simp;omega),Z0]
  have a6:∀z,cE (i:Int) z=some (.inl (((i+1:Nat):Int),z)):=λz=>by
   unfold cE;rw[ai (by omega)];rfl
  have a5:cF ⟨cols,srt,[]⟩ (n:Int) (i:Int) (A++tkV cols n T[i]::B) (gM cols n T[i]) i false=some (.inl (((i+1:Nat):Int),A++tkV cols (n+1) T[i]::B)):=by
   unfold cF;dsimp only;rw[if_neg (by simp),ai (by omega),hx];simp only[Z0,b4,a6]
   by_cases c1:(n:Int)=cols
   ·rw[if_pos (by simp;omega)]
    have a3:gM cols n T[i]=gI T[i].fId.fEpoch:=by unfold gM;rw[if_neg (by omega),if_pos c1]
    rw[a3,aT];unfold tkV;dsimp only[gI];rw[Z7 (by omega) (by omega),Z2 (by omega),Z2 (by omega)];have a0:(cols<(n:Int))=False:=eq_false (by omega);have J:(cols<((n+1:Nat):Int))=True:=eq_true (by omega);have a1:(cols+1<(n:Int))=False:=eq_false (by omega);have Z:(cols+1<((n+1:Nat):Int))=False:=eq_false (by omega);have W:(cols+2<(n:Int))=False:=eq_false (by omega);have b2:(cols+2<((n+1:Nat):Int))=False:=eq_false (by omega);simp only[a0,J,a1,Z,W,b2,if_true,if_false]
   ·rw [if_neg (by simp;omega)]
    by_cases c2:(n:Int)=cols+1
    ·rw[if_pos (by simp;omega)]
     have a3:gM cols n T[i]=gI T[i].fId.fNumber:=by unfold gM;rw[if_neg (by omega),if_neg c1,if_pos c2]
     rw[a3,jU];unfold tkV;dsimp only[gI];rw[if_neg (by simp;omega),Z7 (by omega) (by omega),Z2 (by omega),Z2 (by omega)];have a0:(cols<(n:Int))=True:=eq_true (by omega);have J:(cols<((n+1:Nat):Int))=True:=eq_true (by omega);have a1:(cols+1<(n:Int))=False:=eq_false (by omega);have Z:(cols+1<((n+1:Nat):Int))=True:=eq_true (by omega);have W:(cols+2<(n:Int))=False:=eq_false (by omega);have b2:(cols+2<((n+1:Nat):Int))=False:=eq_false (by omega);simp only[a0,J,a1,Z,W,b2,if_true,if_false]
    ·rw[if_neg (by simp;omega)]
     by_cases c3:(n:Int)=cols+2
     ·rw[if_pos (by simp;omega)]
      have a3:gM cols n T[i]=gI T[i].fDeleted:=by unfold gM;rw[if_neg (by omega),if_neg c1,if_neg c2]
      rw[a3,aT];unfold tkV;dsimp only[gI];rw[Z7 (by omega) (by omega),Z2 (by omega),Z2 (by omega)];have a0:(cols<(n:Int))=True:=eq_true (by omega);have J:(cols<((n+1:Nat):Int))=True:=eq_true (by omega);have a1:(cols+1<(n:Int))=True:=eq_true (by omega);have Z:(cols+1<((n+1:Nat):Int))=True:=eq_true (by omega);have W:(cols+2<(n:Int))=False:=eq_false (by omega);have b2:(cols+2<((n+1:Nat):Int))=True:=eq_true (by omega);simp only[a0,J,a1,Z,W,b2,if_true,if_false]
     ·rw[if_neg (by simp;omega)]
      have hr:n<T[i].fRow.length:=by omega
      have e:T[i].fRow.take (n+1)=T[i].fRow.take n++[gM cols n T[i]]:=by
       unfold gM;rw[jh hr,if_pos (by omega)];simp[hr]
      have c5:(tkV cols n T[i]).fRow.length<=1048576:=by
       have:=h1.len;unfold tkV;simp;omega
      rw[aI (by simp;omega),Z0]
      have:tkV cols (n+1) T[i]={ tkV cols n T[i] with fRow:=(tkV cols n T[i]).fRow++[gM cols n T[i]] }:=by
       unfold tkV;dsimp only;rw[e,if_neg (by omega),if_neg (by omega),if_neg (by omega),if_neg (by omega),if_neg (by omega),if_neg (by omega)]
      rw[this]
  by_cases hnc:cols<=(n:Int)
  ·rw[if_pos (by simpa using hnc)]
   have hk:(gM cols n T[i]).fKind=2/\0<=(gM cols n T[i]).fInt:=by
    unfold gM;rw[if_neg (by omega)];split
    ·exact⟨rfl,by simp only[gI];omega⟩
    ·split
     ·exact⟨rfl,by simp only[gI];omega⟩
     ·exact⟨rfl,by simp only[gI];omega⟩
   rw[if_neg (by simp[hk.1]),decide_eq_false (by omega)];exact a5
  ·rw[if_neg (by simpa using hnc)]
   exact a5
 ·show bM ⟨cols,srt,[]⟩ (n:Int) (lR cols n T) (T.length:Int) ((T.take T.length).map (tkV cols (n+1))++(T.drop T.length).map (tkV cols n))=_
  unfold bM;rw[if_neg (by simp;omega),Zy,List.drop_length];unfold gq;simp
theorem nodup_iff {O:Type} [DecidableEq O](l:List O):l.Nodup↔ ∀(i:Nat) (h:i<l.length),(l.take i).contains l[i]=false:=by
 unfold List.Nodup;rw[Zf];constructor
 ·intro h i hi
  rw[X3,decide_eq_false_iff_not];intro hm;obtain⟨k,W,Z⟩:=Zc hm;have J:k<i:=by simp at W;omega
  have:=h k i (by omega) hi J;apply this;rw[←Z];simp
 ·intro h i j hi hj a0 e
  have:=h j hj;rw[X3,decide_eq_false_iff_not] at this;apply this;rw[←e];exact List.mem_of_getElem? (i:=i) (by rw[Xb a0,Z1 hi])
theorem UU {cols:Int}{srt:List Int}:sk cols srt=true↔(∀s∈srt,0<=s/\s<cols)/\srt.Nodup:=by
 unfold sk;rw[nodup_iff];simp only[Z6,Zh];constructor
 ·intro h
  have key:∀(i:Nat) (hi:i<srt.length),0<=srt[i]/\srt[i]<cols/\(srt.take i).contains srt[i]=false:=by
   intro i hi;have:=h i hi;unfold sj at this;rw[Z1 hi] at this;simp only[Zb,decide_eq_true_eq,Zi] at this;exact this
  refine⟨λs J=>?_,λi hi=>(key i hi).2.2⟩;obtain⟨i,hi,rfl⟩:=Zc J;exact⟨(key i hi).1,(key i hi).2.1⟩
 ·rintro ⟨W,Z⟩ i hi
  unfold sj;rw[Z1 hi];simp only[Zb,decide_eq_true_eq,Zi];have:=W _ (Z4 hi);exact⟨this.1,this.2,Z i hi⟩
theorem UV {cols:Int}{l:List aa}:qg cols l=true↔(∀v∈l,tu cols v=true)/\(l.map (·.fId)).Nodup:=by
 unfold qg;rw[nodup_iff];simp only[Z6,Zh,List.length_map,Zo];constructor
 ·intro h
  have key:∀(i:Nat) (hi:i<l.length),tu cols l[i]=true/\((l.take i).map (·.fId)).contains l[i].fId=false:=by
   intro i hi;have:=h i hi;unfold rj at this;rw[Z1 hi] at this;simp only[Zb,Zi] at this;exact this
  refine⟨λs J=>?_,λi hi=>?_⟩
  ·obtain⟨i,hi,rfl⟩:=Zc J
   exact(key i hi).1
  ·have:=(key i hi).2
   rw[List.map_take] at this;exact this
 ·rintro ⟨W,Z⟩ i hi
  unfold rj;rw[Z1 hi];simp only[Zb,Zi];refine⟨W _ (Z4 hi),?_⟩;have:=Z i hi;rw[List.map_take];exact this
theorem K7:∀(n:Nat) (l:List Int),l.Nodup->(∀s∈l,0<=s/\s<(n:Int))->l.length<=n:=by
 intro n
 induction n with
 |zero=>
  intro l _ h;cases l with
  |nil=>simp
  |cons a l=>have:=h a (by simp);omega
 | succ n ih=>
  intro l J h
  have h1:=ih (l.filter λx=> !decide (x=(n:Int))) (J.filter _) (λs hs=>by
   obtain⟨W,Z⟩:=List.mem_filter.1 hs;have:=h s W;have:s≠(n:Int):=by simpa using Z
   omega)
  have h2:l.count (n:Int)<=1:=List.nodup_iff_count.1 J _;have h3:=List.length_eq_countP_add_countP (p:=λx=> !decide (x=(n:Int))) (l:=l);rw[List.countP_eq_length_filter] at h3
  have h4:List.countP (λa=>decide ¬((!decide (a=(n:Int)))=true)) l=l.count (n:Int):=by
   unfold List.count;congr 1;funext a
   by_cases e:a=(n:Int)<;>simp[e]
  omega
theorem py.srt_le {cols:Int}{srt:List Int}{l:List aa}(h:py cols srt l):srt.length<=8:=by
 obtain⟨W,Z⟩:=UU.1 h.so;have hc:=h.co;exact K7 8 srt Z λs J=>by have:=W s J;omega
theorem py.stb {cols:Int}{srt:List Int}{l T:List aa}(h:py cols srt l)(hs:Stb (qlt srt) l T):py cols srt T:=by
 have J:=hs.perm (iM srt);obtain⟨Z,h2⟩:=UV.1 h.ro;refine⟨h.co,h.so,by rw[J.length_eq];exact h.le,UV.2 ⟨λv W=>Z v (J.mem_iff.1 W),?_⟩⟩;exact(J.map _).nodup_iff.2 h2
theorem py.none {cols:Int}{srt:List Int}{l:List aa}(h:py cols srt l):py cols srt []:=⟨h.co,h.so,by simp,rfl⟩
theorem py.id_srt {cols:Int}{srt:List Int}{l:List aa}(h:py cols srt l):srt.map Xs.wrap=srt:=by
 obtain⟨W,_⟩:=UU.1 h.so;have Z:=h.co;rw[X7 (g:=id),List.map_id];intro s J;have:=W s J;rw[bB,Z7 (by omega) (by omega)];rfl
theorem K8 {cols:Int}{srt kinds:List Int}{T:List aa}(h:py cols srt T)(hs:Byt (gu cols kinds T (cols+3).toNat)/\(gu cols kinds T (cols+3).toNat).length<=100000000):
  dq (jD cols srt kinds T)=some ((T.length:Int),gu cols kinds T (cols+3).toNat,true,⟨cols,srt,[]⟩):=by
 have a3:=h.co;have a5:=h.le;have a6:=h.srt_le;obtain⟨a1,a0⟩:=hs;obtain⟨S,hS⟩:∃S,S=gu cols kinds T (cols+3).toNat:=⟨_,rfl⟩
 rw[←hS] at a1 a0 ⊢
 have hb:jD cols srt kinds T=72::65::89::49::cols::(srt.length:Int)::(srt++(be4 (T.length:Int)++S)):=by
  unfold jD nmB sq;rw[h.id_srt,bB,bB,Z7 (by omega) (by omega),Z7 (by omega) (by omega),←hS];simp
 rw[hb];obtain⟨p,J⟩:∃p,p=72::65::89::49::cols::(srt.length:Int)::(srt++(be4 (T.length:Int)++S)):=⟨_,rfl⟩
 rw[←J];have a4:p.length=6+(srt.length+(4+S.length)):=by rw[J];simp[eV];omega
 have e1:sub p 0 4=some [72,65,89,49]:=by
  have:=cP (xs:=p) (lo:=0) (hi:=4) (by omega) (by omega);rw[J] at this ⊢;exact this
 have i4:idx p 4=some cols:=by rw[J];exact aw (i:=4) (by simp)
 have i5:idx p 5=some (srt.length:Int):=by rw[J];exact aw (i:=5) (by simp)
 have e2:sub p 6 (p.length:Int)=some (srt++(be4 (T.length:Int)++S)):=by
  have:=bZ (xs:=p) (k:=6) (by omega);rw[show((6:Nat):Int)=6 from rfl] at this;rw[this,J];rfl
 have a2:(srt++(be4 (T.length:Int)++S)).length=srt.length+(4+S.length):=by simp[eV]
 have e3:sub (srt++(be4 (T.length:Int)++S)) 0 (srt.length:Int)=some srt:=by
  have:=cP (xs:=srt++(be4 (T.length:Int)++S)) (lo:=0) (hi:=srt.length) (by omega) (by omega);rw[List.take_left] at this;exact this
 have Z:Zk.wrap (srt.length:Int)=(srt.length:Int):=ai (by omega);have W:Zk.wrap ((srt.length:Int)+4)=((srt.length+4:Nat):Int):=by rw[ai (by omega)];omega
 unfold dq;rw[if_neg (by simp;omega),e1,Z0];show dz p (!decide ((72,65,89,49)=((72,65,89,49):Int×Int×Int×Int)))=_;unfold dz;rw[if_neg (by simp),i4,Z0,i5,Z0,e2,Z0,Z,W,a2,if_neg (by simp;omega),e3,Z0];refine jB (λi=>((i:Int),(⟨cols,srt.take i,[]⟩:aB))) srt.length ?_ (λi hi=>?_) ?_
 ·rw[ai (by omega)];rfl
 ·simp only[dW]
  obtain⟨hr,_⟩:=UU.1 h.so;have:=hr _ (Z4 hi);rw[if_pos (by simpa using hi),aw hi,Z0,aI (by simp;omega),Z0,ai (by omega),ai (by omega),jh hi]
  rfl
 ·simp only[dW]
  rw[if_neg (by simp),Zy];unfold gp
  have e4:sub (srt++(be4 (T.length:Int)++S)) (srt.length:Int) ((srt++(be4 (T.length:Int)++S)).length:Int)=some (be4 (T.length:Int)++S):=by
   rw[bZ (by simp),Xn]
  have e5:sub (srt++(be4 (T.length:Int)++S)) ((srt.length+4:Nat):Int) ((srt++(be4 (T.length:Int)++S)).length:Int)=some S:=by
   rw[bZ (by omega),←Zj,Xk (by simp[eV])]
  rw[Z,W,e4,Z0,wy (by unfold U32;omega),Z0,e5,Z0];dsimp only;rw[qh (by omega) (by simp),Z0,UL.2 h.none,if_pos (by simp)];unfold gn;rw[decide_eq_true (by omega)]
theorem BX {xs:List aa}(h:xs.length<=1048576):dH xs xs bR=some true:=by
 unfold dH;rw[if_neg (by simp)];refine jB (λi=>(i:Int)) xs.length rfl (λi hi=>?_) ?_
 ·simp only[bH]
  rw[if_pos (by simpa using hi),aw hi,Z0,Z0];simp only[bR];rw[Z0,if_neg (by simp),ai (by omega)];rfl
 ·simp only[bH]
  rw[if_neg (by simp)];rfl
theorem K9 {cols:Int}{srt kinds:List Int}{T:List aa}(h:py cols srt T)(hv:∀v∈T,lQ v)(hS:Srt (qlt srt) T)(hk:kinds.length<=1048576):
  dI (kJ cols srt kinds T)=some (some ⟨cols,srt,T⟩,0):=by
 have a1:=h.co;have d1:=h.le;have e3:=h.srt_le;have J:CV cols T:=CV.of h hv;obtain⟨c6,d2⟩:=BW (srt:=srt) (kinds:=kinds) J (by omega);obtain⟨b4,a2⟩:=tp (b:=jD cols srt kinds T) (by omega);obtain⟨b7,c3⟩:=zN (kinds:=kinds) J (cols+3).toNat;have d0:(cols+3).toNat<=11:=by omega
 have b6:(gu cols kinds T (cols+3).toNat).length<=100000000:=Nat.le_trans c3 (by omega);have b5:(kJ cols srt kinds T).length=(jD cols srt kinds T).length+4:=by unfold kJ;rw[Za,eV]
 have hw:Zk.wrap (((kJ cols srt kinds T).length:Int) - 4)=((jD cols srt kinds T).length:Int):=by rw[b5,ai (by omega)];omega
 have e1:sub (kJ cols srt kinds T) ((jD cols srt kinds T).length:Int) ((kJ cols srt kinds T).length:Int)=some (be4 (fD (jD cols srt kinds T))):=by
  rw[bZ (by omega)];unfold kJ;rw[Xn]
 have e2:sub (kJ cols srt kinds T) 0 ((jD cols srt kinds T).length:Int)=some (jD cols srt kinds T):=by
  have:=cP (xs:=kJ cols srt kinds T) (lo:=0) (hi:=(jD cols srt kinds T).length) (by omega) (by omega);have e:(kJ cols srt kinds T).take (jD cols srt kinds T).length=jD cols srt kinds T:=by unfold kJ;rw[List.take_left]
  rw[e] at this;exact this
 have a6:=wy a2 [];rw[Xl] at a6
 have b2:Zk.wrap (fD (jD cols srt kinds T))=fD (jD cols srt kinds T):=by
  unfold U32 at a2;rw[ai (by omega)]
 unfold dI;rw[if_neg (by simp;omega),hw,e1,Z0,a6,Z0,e2,Z0,b4,Z0,b2];unfold gr;rw[if_neg (by simp),hw,e2,Z0,K8 h ⟨b7,b6⟩,Z0,if_neg (by simp)];dsimp only
 have c1:mk 5864062014805 (T.length:Int) aa.zero=some (T.map (tkV cols 0)):=by
  rw[ue (by omega),X7 (g:=λ_=>aa.zero) (λv _=>Na a1.1 v),List.map_const']
 rw[c1,Z0]
 have a4:∀n,n<(cols+3).toNat->(((Z3 (cols+3).toNat).drop n).map (nk cols kinds T)).flatten=nk cols kinds T n++(((Z3 (cols+3).toNat).drop (n+1)).map (nk cols kinds T)).flatten:=by
  intro n Z;rw[Z8 (by simpa using Z)];simp
 have b0:∀k n:Nat,n+k=(cols+3).toNat->((((Z3 (cols+3).toNat).drop n).map (nk cols kinds T)).flatten).length<=6400004*k:=by
  intro k
  induction k with
  |zero=>intro n Z;rw[Zg (by simp;omega)];simp
  |succ k ih=>
   intro n Z;rw[a4 n (by omega),Za];have:=(Gp (kinds:=kinds) J n).2;have:=ih (n+1) (by omega);omega
 refine jB (λn=>((((Z3 (cols+3).toNat).drop n).map (nk cols kinds T)).flatten,(n:Int),T.map (tkV cols n))) (cols+3).toNat (by simp[gu]) (λn Z=>?_) ?_
 ·have c4:=b0 ((cols+3).toNat - (n+1)) (n+1) (by omega)
  have e0:6400004*((cols+3).toNat - (n+1))<=6400004*11:=Nat.mul_le_mul_left _ (by omega);obtain⟨R,hR⟩:∃R,R=(((Z3 (cols+3).toNat).drop (n+1)).map (nk cols kinds T)).flatten:=⟨_,rfl⟩
  obtain⟨B,hB⟩:∃B,B=sn (mJ cols kinds n) (lR cols n T):=⟨_,rfl⟩
  obtain⟨b3,a3⟩:=BV (n:=n) J;have c5:=(zM (kind:=mJ cols kinds n) b3 a3).2;rw[←hB] at c5;rw[←hR] at c4;show bG ((T.length:Int),gu cols kinds T (cols+3).toNat,true,⟨cols,srt,[]⟩) ((((Z3 (cols+3).toNat).drop n).map (nk cols kinds T)).flatten) (n:Int) (T.map (tkV cols n))=some (.inl ((((Z3 (cols+3).toNat).drop (n+1)).map (nk cols kinds T)).flatten,((n+1:Nat):Int),T.map (tkV cols (n+1))))
  have hx:(((Z3 (cols+3).toNat).drop n).map (nk cols kinds T)).flatten=be4 (B.length:Int)++(B++R):=by
   rw[a4 n Z,←hR];unfold nk;rw[←hB,Zj]
  rw[hx,←hR];obtain⟨X,W⟩:∃X,X=be4 (B.length:Int)++(B++R):=⟨_,rfl⟩
  have c7:X.length=4+(B.length+R.length):=by rw[W];simp[eV]
  have a5:dG X=some (B.length:Int):=by rw[W];exact wy (by unfold U32;omega) _
  have a0:Zk.wrap (4+(B.length:Int))=((4+B.length:Nat):Int):=by rw[ai (by omega)];omega
  have s1:sub X 4 ((4+B.length:Nat):Int)=some B:=by
   have:=cP (xs:=X) (lo:=4) (hi:=4+B.length) (by omega) (by omega);rw[show((4:Nat):Int)=4 from rfl] at this;rw[this,W,←Zj,Xm (by simp[eV]),Xk (eV _)]
  have s2:sub X ((4+B.length:Nat):Int) (X.length:Int)=some R:=by
   rw[bZ (by omega),W,←Zj,Xk (by simp[eV])]
  have c0:d9 B (T.length:Int)=some (lR cols n T,true):=by
   have c2:∀v∈lR cols n T,Rgt v:=λv hv=>by
    obtain⟨x,hx,rfl⟩:=Xc.1 hv;exact Gn J hx n
   have:=I0 (kind:=mJ cols kinds n) c2 a3;rw[←hB] at this;rw[show(lR cols n T).length=T.length by simp[lR]] at this;exact this
  rw[←W];unfold bG;dsimp only;rw[ai (by omega),if_pos (by simp;omega),if_neg (by simp;omega),a5,Z0,a0,decide_eq_false (by omega)];unfold ew;rw[if_neg (by simp),a5,Z0,a0,s1,Z0];dsimp only;rw[c0,Z0,if_neg (by simp)];dsimp only;rw[K6 J (by omega),Z0];unfold fe;rw[if_neg (by simp),a0,s2,Z0,ai (by omega)]
  rfl
 ·show bG ((T.length:Int),gu cols kinds T (cols+3).toNat,true,⟨cols,srt,[]⟩) ((((Z3 (cols+3).toNat).drop (cols+3).toNat).map (nk cols kinds T)).flatten) ((cols+3).toNat:Int) (T.map (tkV cols (cols+3).toNat))=_
  have hT:T.map (tkV cols (cols+3).toNat)=T:=by
   rw[X7 (g:=id) (λv hm=>?_),List.map_id];obtain⟨h1,h2⟩:=J.ok v hm;exact OC a1.1 (un h1 h2).2.1
  rw[hT,Zg (by simp)];unfold bG;dsimp only;rw[ai (by omega),if_neg (by simp;omega)];have b1:Rok T:=λv hm=>(hv v hm).len;obtain⟨T',h1,h2⟩:=xX (cs:=srt) (xs:=T) (by omega) (by omega) b1;obtain rfl:=h2.unique (iM srt) (Stb.refl hS)
  have a9:ej (some ⟨cols,srt,T'⟩)=some true:=by
   unfold ej;simp only[Z0];rw[h1,Z0,BX (by omega)]
   rfl
  unfold eu;rw[if_neg (by simp)];simp only[Z0];rw[qh (by omega) hv,Z0,UL.2 h,if_neg (by simp),a9,Z0]
  rfl
def atB (l:List aa)(id:aM):Option Nat:=l.findIdx? λv=>decide (v.fId=id)
theorem I3 {l:List aa}{id:aM}(h:l.length<=1048576):eN l (λy=>c9 y id)=some (((atB l id).map λi:Nat=>(i:Int)).getD (-1)):=by
  unfold eN
  have key:∀k i:Nat,i+k=l.length->am (λs:Int=>dQ l (λy=>c9 y id) s) (i:Int)=some (((atB (l.drop i) id).map λj=>((i+j:Nat):Int)).getD (-1)):=by
    intro k
    induction k with
    | zero=>
      intro i hi;rw[Zg (by omega)];apply aR;simp only[dQ];rw[if_neg (by simp;omega)];rfl
    | succ k ih=>
      intro i hi;have J:i<l.length:=by omega
      unfold atB;rw[Z8 J,List.findIdx?_cons]
      by_cases he:l[i].fId=id
      · rw[if_pos (by simpa using he)]
        apply aR;simp only[dQ];rw[if_pos (by simpa using J),aw J,Z0];simp only[c9];rw[Z0,if_pos (by simpa using he)];simp
      · rw[if_neg (by simpa using he)]
        rw[bJ (s':=((i+1:Nat):Int))]
        · rw[ih (i+1) (by omega)]
          unfold atB;cases (l.drop (i+1)).findIdx? λv=>decide (v.fId=id) with
          |none=>rfl
          |some j=>simp only[Zt,Option.getD_some];congr 1;omega
        · simp only[dQ]
          rw[if_pos (by simpa using J),aw J,Z0];simp only[c9];rw[Z0,if_neg (by simpa using he),ai (by omega)];rfl
  have:=key l.length 0 (by omega);rw[List.drop_zero] at this;simpa using this
theorem Nb {f:aB}{id:aM}(h:f.fL.length<=1048576):gD (some f) id=some (((atB f.fL id).map λi:Nat=>(i:Int)).getD 0,(atB f.fL id).isSome):=by
  unfold gD;rw[Z0,I3 h,Z0];cases atB f.fL id with
  |none=>rfl
  | some i=>
    simp only[Zt,Option.getD_some,Option.isSome_some];rw[if_neg (by omega),decide_eq_true (by omega)]
theorem xY:s6=some true:=by
  let v1:aa:=⟨⟨1,0⟩,[⟨2,false,2,[]⟩],0⟩
  let v2:aa:=⟨⟨2,0⟩,[⟨2,false,1,[]⟩],0⟩
  have ok:∀(e n:Int),0<=e->e<10->0<=n->n<10->lQ ⟨⟨e,0⟩,[⟨2,false,n,[]⟩],0⟩:=by
    intro e n h1 W h3 h4;refine⟨by dsimp only;omega,by dsimp only;omega,by dsimp only;omega,?_,by simp⟩;intro x hx;have:x=gI n:=by simpa using hx
    subst this;exact(Rgt.int n (by unfold cC;omega)).ok
  have J:∀v∈[v1,v2],lQ v:=by
    intro v J;simp only[Xq,List.not_mem_nil,or_false] at J;rcases J with rfl|rfl
    ·exact ok 1 2 (by omega) (by omega) (by omega) (by omega)
    ·exact ok 2 1 (by omega) (by omega) (by omega) (by omega)
  have Z:py 1 [0] [v1,v2]:=UL.1 (by decide);rcases AZ (cols:=1) (srt:=[0]) (kinds:=[]) (by simp) (by simp) J with⟨h,_⟩|⟨_,T,W,hC,hw⟩
  ·exact absurd (UL.2 Z) h
  have hi:Stb (qlt [0]) ([]++[v1]++[v2]) ([]++v2::[v1]):=Stb.ins (iM [0]) (by simp[Srt]) (by
    intro s hs
    rw[List.mem_singleton] at hs;subst hs;decide) (by simp)
  obtain rfl:T=[v2,v1]:=Stb.unique (iM [0]) W hi;have hr:=K9 (kinds:=[]) (Z.stb W) (λv hm=>J v ((W.mem (iM [0])).1 hm)) W.srt (by simp);unfold s6;rw[hw,Z0,hr,Z0,if_neg (by simp),if_neg (by simp)];unfold rf;dsimp only;rw[if_neg (by simp),Nb (by simp),Z0]
  rfl
structure I4 (c:dp):Prop where
  so:c.fSort.length<=1048576
  ki:c.fKinds.length<=1048576
  le:c.fL.length<=1048576
  ok:∀v∈c.fL,lQ v
theorem FN {b:List Int}(W:Byt b)(hl:b.length<=1000000000):∃g n e,io b=some (g,n,e)/\qC b=some (g,n,e)/\(e=0->(∀v∈g,Rgt v)/\1<=g.length/\∃k:Nat,n=(k:Int)/\0<k/\k<=b.length):=by
 rcases BP W (by omega) with⟨k,m,z,v,w,d,r,hB,_⟩|⟨_,a0⟩
 ·have J:=EJ W (by omega) hB
  have Z:=IK W hl hB;rcases FL k m z v w d r with⟨e,e1,e2⟩|⟨g,e1,c1,g1,g2,g3,_⟩
  ·rw[e1] at J Z
   exact⟨_,_,_,J,Z,λh=>absurd h e2⟩
  ·rw[e1] at J Z
   have hm:=hB.hm;have he:=hB.eq;refine⟨_,_,_,J,Z,λ_=>⟨g1,by omega,_,rfl,by omega,?_⟩⟩
   have hr:4<=r.length:=by
    have:=congrArg List.length c1;rw[eV,List.length_take] at this;omega
   rw[he,Za];omega
 ·obtain⟨J,_⟩:=M1 W (by omega) a0
  exact⟨_,_,_,J,KU W hl a0,λh=>by cases h⟩
def i9 (b:List Int)(many:Int):List Ap×Bool:=(d9 b many).getD ([],false)
theorem I5 (many:Nat)(hm:many<=4096):∀(n:Nat) (b:List Int) (J:List Ap),b.length=n->Byt b->b.length<=1000000000->J.length<=many->(∀v∈J,Rgt v)->
  ∃l ok,am (λs:(List Int×List Ap)=>bT (many:Int) s.1 s.2) (b,J)=some (l,ok)/\am (λs:(List Int×List Ap)=>eO (many:Int) s.1 s.2) (b,J)=some (l,ok)/\(ok=true->l.length=many/\∀v∈l,Rgt v):=by
 intro n
 induction n using Nat.strongRecOn with
 | _ n ih=>
  intro b J hn hb hl ha hr
  by_cases h0:0<b.length
  ·obtain⟨g,q,e,h1,h2,h3⟩:=FN hb hl
   by_cases he:e=0
   ·obtain⟨g1,g2,k,rfl,k1,k2⟩:=h3 he
    have a0:(if Zk.wrap ((many:Int) - (J.length:Int))<64 then Zk.wrap ((many:Int) - (J.length:Int)) else 64)=((min 64 (many - J.length):Nat):Int):=by
     rw[ai (by omega)];split<;>omega
    by_cases hc:g.length=min 64 (many - J.length)
    ·have Z:(((g.length:Int)) != ((min 64 (many - J.length):Nat):Int))=false:=by rw[hc];simp
     have s1:bT (many:Int) b J=some (.inl (b.drop k,J++g)):=by
      unfold bT;rw[if_pos (by simpa using h0),h1,Z0,if_neg (by simp[he])];dsimp only;rw[a0,Z];unfold gC;rw[if_neg (by simp)];dsimp only;rw[aI (by omega),Z0,bZ k2];rfl
     have s2:eO (many:Int) b J=some (.inl (b.drop k,J++g)):=by
      unfold eO;rw[if_pos (by simpa using h0),h2,Z0,if_neg (by simp[he])];dsimp only;rw[a0,Z];unfold s7;rw[if_neg (by simp)];dsimp only;rw[aI (by omega),Z0,bZ k2];rfl
     have q1:=bJ (f:=λs:(List Int×List Ap)=>bT (many:Int) s.1 s.2) (s:=(b,J)) s1;have q2:=bJ (f:=λs:(List Int×List Ap)=>eO (many:Int) s.1 s.2) (s:=(b,J)) s2;rw[q1,q2];refine ih (b.drop k).length (by simp;omega) _ _ rfl (λc hc=>hb c (Zp hc)) (by simp;omega) (by simp;omega) (λv W=>?_);rcases Xj.1 W with W|W
     ·exact hr v W
     ·exact g1 v W
    ·have Z:(((g.length:Int)) != ((min 64 (many - J.length):Nat):Int))=true:=by simp;omega
     refine⟨[],false,aR ?_,aR ?_,λh=>by cases h⟩
     ·show bT (many:Int) b J=_
      unfold bT;rw[if_pos (by simpa using h0),h1,Z0,if_neg (by simp[he])];dsimp only;rw[a0,Z];rfl
     ·show eO (many:Int) b J=_
      unfold eO;rw[if_pos (by simpa using h0),h2,Z0,if_neg (by simp[he])];dsimp only;rw[a0,Z];rfl
   ·refine⟨[],false,aR ?_,aR ?_,λh=>by cases h⟩
    ·show bT (many:Int) b J=_
     unfold bT;rw[if_pos (by simpa using h0),h1,Z0,if_pos (by simpa using he)];rfl
    ·show eO (many:Int) b J=_
     unfold eO;rw[if_pos (by simpa using h0),h2,Z0,if_pos (by simpa using he)];rfl
  ·refine⟨J,((J.length:Int)==(many:Int)),aR ?_,aR ?_,λh=>⟨by simp at h;omega,hr⟩⟩
   ·show bT (many:Int) b J=_
    unfold bT;rw[if_neg (by simpa using h0)];rfl
   ·show eO (many:Int) b J=_
    unfold eO;rw[if_neg (by simpa using h0)];rfl
theorem CR {b:List Int}{many:Nat}(J:Byt b)(hl:b.length<=1000000000)(hm:many<=4096):d9 b (many:Int)=some (i9 b many)/\rB b (many:Int)=some (i9 b many)/\((i9 b many).2=true->(i9 b many).1.length=many/\∀v∈(i9 b many).1,Rgt v):=by
 obtain⟨l,ok,Z,h2,h3⟩:=I5 many hm _ b [] rfl J hl (by simp) (by simp);have h:d9 b (many:Int)=some (l,ok):=Z;have W:i9 b many=(l,ok):=by unfold i9;rw[h];rfl
 rw[W];exact⟨h,h2,h3⟩
def lS (many:Nat):Nat->List Int->Option (List (List Ap)×List Int)
 |0,X=>some ([],X)
 |k+1,X=>
  if X.length<4 then none
  else if X.length<4+(bq (X.take 4)).toNat then none
  else if (i9 ((X.drop 4).take (bq (X.take 4)).toNat) many).2 then (lS many k (X.drop (4+(bq (X.take 4)).toNat))).map λr=>((i9 ((X.drop 4).take (bq (X.take 4)).toNat) many).1::r.1,r.2)
  else none
theorem La (many:Nat)(hm:many<=4096):∀(k:Nat) (X:List Int) (r:List (List Ap)×List Int),Byt X->X.length<=1000000000->lS many k X=some r->r.1.length=k/\(∀l∈r.1,l.length=many/\∀v∈l,Rgt v)/\Byt r.2/\r.2.length<=X.length:=by
 intro k
 induction k with
 |zero=>
  intro X r W J h;simp only[lS] at h;injection h with h
  subst h;exact⟨rfl,by simp,W,Zm _⟩
 | succ k ih=>
  intro X r W J h;simp only[lS] at h
  by_cases c1:X.length<4
  ·rw[if_pos c1] at h;cases h
  rw[if_neg c1] at h
  by_cases c2:X.length<4+(bq (X.take 4)).toNat
  ·rw[if_pos c2] at h;cases h
  rw[if_neg c2] at h
  by_cases c3:(i9 ((X.drop 4).take (bq (X.take 4)).toNat) many).2=true
  ·rw[if_pos c3] at h
   obtain⟨r',h1,rfl⟩:=Option.map_eq_some_iff.1 h;have hb:Byt ((X.drop 4).take (bq (X.take 4)).toNat):=λc Z=>W c (Zp (Zq Z));obtain⟨i1,i2,i3,i4⟩:=ih (X.drop (4+(bq (X.take 4)).toNat)) r' (λc Z=>W c (Zp Z)) (by simp;omega) h1;obtain⟨_,_,h4⟩:=CR (many:=many) hb (by simp;omega) hm;refine⟨by simp[i1],λl J=>?_,i3,by rw[Xg] at i4;show r'.2.length<=X.length;omega⟩;rcases Xq.1 J with rfl|J
   ·exact h4 c3
   ·exact i2 l J
  ·rw[if_neg c3] at h;cases h
theorem Nc {σ β:Type}{f:σ->Option (σ⊕β)}{s:σ}(S:Nat->σ)(n:Nat)(J:Nat->Bool)(P:β->Prop)(W:s=S 0)(step:∀i,i<n->J i=true->f (S i)=some (.inl (S (i+1))))(out:∀i,i<n->J i=false->∃b,P b/\f (S i)=some (.inr b))
  (a0:(Z3 n).all J=false):∃b,P b/\am f s=some b:=by
 have key:∀k i:Nat,i+k=n->(List.range' i k).all J=false->∃b,P b/\am f (S i)=some b:=by
  intro k
  induction k with
  |zero=>intro i hi h;simp at h
  | succ k ih=>
   intro i hi h;rw[List.range'_succ,List.all_cons] at h;cases hg:J i with
   |true=>
    rw[hg,X8] at h;rw[bJ (step i (by omega) hg)];exact ih (i+1) (by omega) h
   |false=>
    obtain⟨b,Z,h2⟩:=out i (by omega) hg;exact⟨b,Z,aR h2⟩
 rw[W];exact key n 0 (by omega) (by rw[←List.range_eq_range'];exact a0)
def atV (l:List Ap)(i:Nat):Ap:=l.getD i it
def ja (c n:Nat)(v:Ap):Bool:=decide (n<c)||((v.fKind==2&&decide (0<=v.fInt))&&(decide (n≠c+1)||decide (v.fInt<=4294967295)))
def ff (c n:Nat)(l:List Ap):Bool:=l.all (ja c n)
def tkP (c:Nat)(pre:List (List Ap))(i:Nat):aa:=
 ⟨⟨(pre[c]?).elim 0 λl=>(atV l i).fInt,(pre[c+1]?).elim 0 λl=>(atV l i).fInt⟩,(pre.take c).map λl=>atV l i,(pre[c+2]?).elim 0 λl=>(atV l i).fInt⟩
def dO (c:Nat)(pre:List (List Ap))(many:Nat):List aa:=(Z3 many).map (tkP c pre)
theorem I6 (c:Nat)(pre:List (List Ap))(many:Nat):(dO c pre many).length=many:=by simp[dO]
section
variable {c i:Nat}{pre:List (List Ap)}{l:List Ap}
theorem ib {n:Nat}(h:pre.length<=n):pre[n]? =none:=List.getElem?_eq_none h
theorem Nd (h:pre.length<c):tkP c (pre++[l]) i={ tkP c pre i with fRow:=(tkP c pre i).fRow++[atV l i] }:=by
 unfold tkP
 rw[ib (pre:=pre++[l]) (n:=c) (by simp;omega),ib (pre:=pre++[l]) (n:=c+1) (by simp;omega),ib (pre:=pre++[l]) (n:=c+2) (by simp;omega),ib (pre:=pre) (n:=c) (by omega),ib (pre:=pre) (n:=c+1) (by omega),ib (pre:=pre) (n:=c+2) (by omega),
  Z2 (by simp;omega),Z2 (by omega)]
 simp
theorem OD (h:pre.length=c):tkP c (pre++[l]) i={ tkP c pre i with fId:={ (tkP c pre i).fId with fEpoch:=(atV l i).fInt } }:=by
 unfold tkP
 rw[ib (pre:=pre++[l]) (n:=c+1) (by simp;omega),ib (pre:=pre++[l]) (n:=c+2) (by simp;omega),ib (pre:=pre) (n:=c) (by omega),ib (pre:=pre) (n:=c+1) (by omega),ib (pre:=pre) (n:=c+2) (by omega),
  Xm h,Z2 (by omega),Zd (by omega),h]
 simp
theorem OE (h:pre.length=c+1):tkP c (pre++[l]) i={ tkP c pre i with fId:={ (tkP c pre i).fId with fNumber:=(atV l i).fInt } }:=by
 unfold tkP
 rw[ib (pre:=pre++[l]) (n:=c+2) (by simp;omega),ib (pre:=pre) (n:=c+1) (by omega),ib (pre:=pre) (n:=c+2) (by omega),
  Zr (by omega),Zv (i:=c) (by omega),Zd (i:=c+1) (by omega),h]
 simp
theorem OF (h:pre.length=c+2):tkP c (pre++[l]) i={ tkP c pre i with fDeleted:=(atV l i).fInt }:=by
 unfold tkP
 rw[ib (pre:=pre) (n:=c+2) (by omega),
  Zr (by omega),Zv (i:=c) (by omega),Zv (i:=c+1) (by omega),Zd (i:=c+2) (by omega),h]
 simp
end
theorem jV {l:List Ap}{i:Nat}(h:i<l.length):atV l i=l[i]:=by simp[atV,h]
theorem nq {v:Ap}(h:Rgt v):cC v.fInt:=h.ok.int
theorem A3 {many:Nat}{l:List Ap}(h:l.length=many)(p:Ap->Bool):(Z3 many).all (λi=>p (atV l i))=l.all p:=by
 rw[Zs,Z6,Z6];constructor
 ·intro J v W
  obtain⟨i,hi,rfl⟩:=Zc W;have:=J i (Zh.2 (by omega));rw[jV hi] at this;exact this
 ·intro J i hi
  have hi':i<l.length:=by have:=Zh.1 hi;omega
  rw[jV hi'];exact J _ (Z4 hi')
theorem I7 {c n many:Nat}{srt:List Int}{pre:List (List Ap)}{l:List Ap}(hc:1<=c/\c<=8)(hn:pre.length=n)(b2:n<c+3)(hl:l.length=many)(hm:many<=4096)(hr:∀v∈l,Rgt v):
  (ff c n l=true->dt ⟨(c:Int),srt,[]⟩ (dO c pre many) (n:Int) l=some (true,dO c (pre++[l]) many))/\
  (ff c n l=false->∃xs,dt ⟨(c:Int),srt,[]⟩ (dO c pre many) (n:Int) l=some (false,xs)):=by
 let S:Nat->Int×List aa:=λi=>((i:Int),(Z3 i).map (tkP c (pre++[l]))++((Z3 many).drop i).map (tkP c pre))
 have step:∀i,i<many->(λs:Int×List aa=>bM ⟨(c:Int),srt,[]⟩ (n:Int) l s.1 s.2) (S i)=if ja c n (atV l i) then some (.inl (S (i+1))) else some (.inr (false,(S i).2)):=by
  intro i hi;obtain⟨A,hA⟩:∃A,A=(Z3 i).map (tkP c (pre++[l])):=⟨_,rfl⟩
  obtain⟨B,hB⟩:∃B,B=((Z3 many).drop (i+1)).map (tkP c pre):=⟨_,rfl⟩
  have a2:A.length=i:=by rw[hA];simp
  have hS:(S i).2=A++tkP c pre i::B:=by
   show(Z3 i).map (tkP c (pre++[l]))++((Z3 many).drop i).map (tkP c pre)=_;rw[Z8 (by simpa using hi),Xh,hA,hB,List.getElem_range]
  have a9:S (i+1)=(((i+1:Nat):Int),A++tkP c (pre++[l]) i::B):=by
   show(((i+1:Nat):Int),(Z3 (i+1)).map (tkP c (pre++[l]))++((Z3 many).drop (i+1)).map (tkP c pre))=_;rw[Xi,Ze,hA,hB];simp
  have hx:(A++tkP c pre i::B)[i]? =some (tkP c pre i):=I1 a2;have b0:∀y,(A++tkP c pre i::B).set i y=A++y::B:=λy=>E0 a2;have W:i<l.length:=by omega
  have hv:idx l (i:Int)=some (atV l i):=by rw[aw W,jV W]
  have a1:=nq (hr _ (Z4 W));rw[←jV W] at a1;unfold cC at a1;rw[a9];show bM ⟨(c:Int),srt,[]⟩ (n:Int) l (i:Int) (S i).2=_;rw[hS];unfold bM;rw[if_pos (by simp;omega),hv,Z0,nU (by simp;omega),Z0];obtain⟨v,J⟩:∃v,v=atV l i:=⟨_,rfl⟩
  rw[←J] at a1 ⊢
  have a6:∀z,cE (i:Int) z=some (.inl (((i+1:Nat):Int),z)):=λz=>by
   unfold cE;rw[ai (by omega)];rfl
  have a4:cF ⟨(c:Int),srt,[]⟩ (n:Int) (i:Int) (A++tkP c pre i::B) v i true=some (.inr (false,A++tkP c pre i::B)):=rfl
  have a3:(c<=n->0<=v.fInt)->cF ⟨(c:Int),srt,[]⟩ (n:Int) (i:Int) (A++tkP c pre i::B) v i false=if (n≠c+1\/v.fInt<=4294967295) then some (.inl (((i+1:Nat):Int),A++tkP c (pre++[l]) i::B)) else some (.inr (false,A++tkP c pre i::B)):=by
   intro a0;unfold cF;dsimp only;rw[if_neg (by simp),ai (by omega),hx];simp only[Z0,b0,a6]
   by_cases c1:n=c
   ·have:=a0 (by omega)
    rw[if_pos (by simp;omega),if_pos (.inl (by omega)),OD (by omega),←J,aT,Z7 (by omega) (by omega)]
   ·rw[if_neg (by simp;omega)]
    by_cases c2:n=c+1
    ·have:=a0 (by omega)
     rw[if_pos (by simp;omega)]
     by_cases c5:v.fInt<=4294967295
     ·rw[if_neg (by simp;omega),if_pos (.inr c5),OE (by omega),←J,jU,Z7 (by omega) (by omega)]
     ·rw[if_pos (by simp;omega),if_neg (by omega)];rfl
    ·have hR:(n≠c+1\/v.fInt<=4294967295):= .inl c2
     rw[if_neg (by simp;omega),if_pos hR]
     by_cases c3:n=c+2
     ·have:=a0 (by omega)
      rw[if_pos (by simp;omega),OF (by omega),←J,aT,Z7 (by omega) (by omega)]
     ·have b1:(tkP c pre i).fRow.length<=8:=by simp[tkP];omega
      rw[if_neg (by simp;omega),aI (by simp;omega),Z0,Nd (by omega),←J]
  unfold ja
  by_cases hnc:c<=n
  ·have hd:decide (n<c)=false:=decide_eq_false (by omega)
   rw[if_pos (by simpa using hnc),hd,Bool.false_or]
   by_cases hk:v.fKind=2
   ·rw[if_neg (by simp[hk])]
    by_cases hp:0<=v.fInt
    ·rw[decide_eq_false (by omega),a3 (λ_=>hp)]
     have e:((v.fKind==2&&decide (0<=v.fInt))&&(decide (n≠c+1)||decide (v.fInt<=4294967295)))=decide (n≠c+1\/v.fInt<=4294967295):=by
      rw[hk,decide_eq_true hp,Bool.decide_or];simp
     rw[e]
     by_cases hq:n≠c+1\/v.fInt<=4294967295
     ·rw[if_pos hq,if_pos (by simpa using hq)]
     ·rw[if_neg hq,if_neg (by simpa using hq)]
    ·rw[decide_eq_true (by omega),a4,if_neg (by simp;omega)]
   ·rw[if_pos (by simpa using hk),a4,if_neg (by simp[hk])]
  ·rw[if_neg (by simpa using hnc),decide_eq_true (by omega),Bool.true_or,if_pos rfl,a3 (λh=>absurd h hnc),if_pos (.inl (by omega))]
 have a5:((0:Int),dO c pre many)=S 0:=by
  show _=(((0:Nat):Int),(Z3 0).map (tkP c (pre++[l]))++((Z3 many).drop 0).map (tkP c pre))
  simp[dO]
 have Z:(Z3 many).all (λi=>ja c n (atV l i))=ff c n l:=A3 hl _;constructor
 ·intro hg
  rw[hg] at Z;unfold dt;refine jB S many a5 (λi hi=>?_) ?_
  ·have:=step i hi
   rw[Z6.1 Z i (Zh.2 hi),if_pos rfl] at this;exact this
  ·show bM ⟨(c:Int),srt,[]⟩ (n:Int) l (many:Int) ((Z3 many).map (tkP c (pre++[l]))++((Z3 many).drop many).map (tkP c pre))=_
   unfold bM;rw[if_neg (by simp;omega),Zg (by simp)];unfold gq;simp[dO]
 ·intro hg
  rw[hg] at Z;unfold dt
  obtain⟨b,⟨xs,rfl⟩,h2⟩:=Nc (f:=λs:Int×List aa=>bM ⟨(c:Int),srt,[]⟩ (n:Int) l s.1 s.2) S many (λi=>ja c n (atV l i)) (λb=>∃xs,b=(false,xs)) a5
   (λi hi h=>by have:=step i hi;rw[h,if_pos rfl] at this;exact this)
   (λi hi h=>by have:=step i hi;rw[h,if_neg (by simp)] at this;exact⟨_,⟨_,rfl⟩,this⟩) Z
  exact⟨xs,h2⟩
theorem E1 {c i:Nat}{pre:List (List Ap)}{x y z:List Ap}(h:pre.length=c):tkP c (pre++[x,y,z]) i=⟨⟨(atV x i).fInt,(atV y i).fInt⟩,pre.map λl=>atV l i,(atV z i).fInt⟩:=by
 unfold tkP;rw[Xm h,Zd (by omega),Zd (by omega),Zd (by omega),show c - pre.length=0 by omega,show c+1 - pre.length=1 by omega,show c+2 - pre.length=2 by omega]
 rfl
theorem C7 {c many:Nat}{pre:List (List Ap)}{x y z:List Ap}(hc:1<=c/\c<=8)(W:pre.length=c)(hl:∀l∈pre++[x,y,z],l.length=many/\∀v∈l,Rgt v)(hm:many<=4096):
  rg (c:Int) (pre++[x,y,z]) (many:Int)=some (if ff c c x&&ff c (c+1) y&&ff c (c+2) z then (dO c (pre++[x,y,z]) many,true) else ([],false)):=by
 obtain⟨all,J⟩:∃all,all=pre++[x,y,z]:=⟨_,rfl⟩
 have hx:=hl x (by simp);have hy:=hl y (by simp);have hz:=hl z (by simp)
 have ip:∀(j:Nat) (h:j<c),idx all (j:Int)=some (pre[j]'(by omega)):=λj h=>by
  rw[aw (by rw[J];simp;omega)];simp[J,List.getElem_append_left (by omega:j<pre.length)]
 have i0:idx all (c:Int)=some x:=by
  rw[aw (by rw[J];simp;omega)];simp[J,Zw,W]
 have i1:idx all ((c:Int)+1)=some y:=by
  rw[show(c:Int)+1=((c+1:Nat):Int) by omega,aw (by rw[J];simp;omega)];simp[J,Zw,W]
 have i2:idx all ((c:Int)+2)=some z:=by
  rw[show(c:Int)+2=((c+2:Nat):Int) by omega,aw (by rw[J];simp;omega)];simp[J,Zw,W]
 have cell:∀{l:List Ap} {i:Nat},l.length=many->i<many->idx l (i:Int)=some (atV l i):=λh hi=>by
  rw[aw (by omega),jV (by omega)]
 rw[←J]
 have row:∀(i:Nat) (xs:List aa),i<many->xs.length<=4096->fN (c:Int) all (many:Int) xs (i:Int)=if ja c c (atV x i)&&ja c (c+1) (atV y i)&&ja c (c+2) (atV z i) then some (.inl (xs++[tkP c all i],((i+1:Nat):Int))) else some (.inr ([],false)):=by
  intro i xs hi b4;have bx:=nq (hx.2 (atV x i) (by rw[jV (by omega)];exact Z4 _));have by_:=nq (hy.2 (atV y i) (by rw[jV (by omega)];exact Z4 _));have bz:=nq (hz.2 (atV z i) (by rw[jV (by omega)];exact Z4 _));unfold cC at bx by_ bz;unfold fN;rw[if_pos (by simpa using hi)];refine jB (λj=>((j:Int),(⟨aM.zero,(pre.take j).map (λl=>atV l i),0⟩:aa))) c (by simp) (λj Z=>?_) ?_
  ·simp only[lg]
   rw[if_pos (by simpa using Z),ip j Z,Z0,cell (hl _ (by simp[Z4])).1 hi,Z0,aI (by simp;omega),Z0,ai (by omega),jh (by omega),Ze]
   rfl
  ·simp only[lg]
   rw[if_neg (by simp)];congr 1;unfold nQ;rw[Z2 (by omega)]
   let kz:List Ap->Bool:=λl=>(atV l i).fKind==2&&decide (0<=(atV l i).fInt)
   obtain⟨v0,a6⟩:∃v0,v0=(⟨aM.zero,pre.map (λl=>atV l i),0⟩:aa):=⟨_,rfl⟩
   rw[←a6]
   have st:∀(n:Nat) (l:List Ap),n<c+3->idx all (n:Int)=some l->l.length=many->fM (c:Int) all xs (i:Int) v0 (n:Int)=if kz l then some (.inl ((n+1:Nat):Int)) else some (.inr (.inr ([],false))):=by
    intro n l hn hi' a5;unfold fM;rw[ai (by omega),if_pos (by simp;omega),hi',Z0,cell a5 hi,Z0];show _=if (atV l i).fKind==2&&decide (0<=(atV l i).fInt) then _ else _
    by_cases hk:(atV l i).fKind=2
    ·have e:((atV l i).fKind==2)=true:=by simpa using hk
     rw[if_neg (by simp[hk]),Z0,cell a5 hi,Z0,e,X8]
     by_cases W:0<=(atV l i).fInt
     ·rw[decide_eq_false (by omega),decide_eq_true W,if_pos rfl]
      unfold lf;rw[if_neg (by simp),ai (by omega)];rfl
     ·rw[decide_eq_true (by omega),decide_eq_false W,if_neg (by simp)];rfl
    ·have e:((atV l i).fKind==2)=false:=by simpa using hk
     rw[if_pos (by simpa using hk),e,Xo,if_neg (by simp)];rfl
   have a9:fM (c:Int) all xs (i:Int) v0 ((c+3:Nat):Int)=(if decide ((atV y i).fInt<=4294967295) then some (Sum.inl (xs++[({ { v0 with fId:=(⟨Xt.wrap (atV x i).fInt,IntKind.u32.wrap (atV y i).fInt⟩:aM) } with fDeleted:=Xt.wrap (atV z i).fInt }:aa)],((i+1:Nat):Int))) else some (Sum.inr ([],false)):Option ((List aa×Int)⊕(List aa×Bool))).map Sum.inr:=by
    unfold fM;rw[ai (by omega),if_neg (by simp)];congr 1;unfold nP;rw[ai (n:=(c:Int)+1) (by omega),i1,Z0,cell hy.1 hi,Z0]
    by_cases hq:(atV y i).fInt<=4294967295
    ·rw[if_neg (by simp;omega),i0,Z0,cell hx.1 hi,Z0,Z0,cell hy.1 hi,Z0,ai (n:=(c:Int)+2) (by omega),i2,Z0,cell hz.1 hi,Z0,aI (by simp;omega),Z0,if_pos (by simpa using hq)]
     unfold nO;rw[ai (by omega)];rfl
    ·rw[if_pos (by simp;omega),if_neg (by simpa using hq)];rfl
   have hg:∀j:Nat,j<3->∃l,idx all ((c+j:Nat):Int)=some l/\l.length=many/\l=(if j=0 then x else if j=1 then y else z):=by
    intro j Z;rcases(by omega:j=0\/j=1\/j=2) with rfl|rfl|rfl
    ·exact⟨x,i0,hx.1,rfl⟩
    ·exact⟨y,by rw[show((c+1:Nat):Int)=(c:Int)+1 by omega];exact i1,hy.1,rfl⟩
    ·exact⟨z,by rw[show((c+2:Nat):Int)=(c:Int)+2 by omega];exact i2,hz.1,rfl⟩
   have a0:=md (f:=λs:Int=>fM (c:Int) all xs (i:Int) v0 s) (s:=(c:Int)) (λj=>((c+j:Nat):Int)) 3 (λj=>kz (if j=0 then x else if j=1 then y else z)) (.inr ([],false)) _ rfl
    (λj Z h=>by
     obtain⟨l,h1,h2,h3⟩:=hg j Z;have:=st (c+j) l (by omega) h1 h2;rw[h3,h,if_pos rfl] at this
     exact this)
    (λj Z h=>by
     obtain⟨l,h1,h2,h3⟩:=hg j Z;have:=st (c+j) l (by omega) h1 h2;rw[h3,h,if_neg (by simp)] at this
     exact this) a9
   refine a0.trans ?_
   have e3:(Z3 3).all (λj=>kz (if j=0 then x else if j=1 then y else z))=(kz x&&(kz y&&kz z)):=by
    show(kz x&&(kz y&&(kz z&&true)))=_;rw[Bool.and_true]
   rw[e3]
   have g0:ja c c (atV x i)=kz x:=by
    show(decide (c<c)||(kz x&&(decide (c≠c+1)||_)))=kz x;rw[decide_eq_false (by omega),decide_eq_true (by omega)];simp
   have g1:ja c (c+1) (atV y i)=(kz y&&decide ((atV y i).fInt<=4294967295)):=by
    show(decide (c+1<c)||(kz y&&(decide (c+1≠c+1)||_)))=_;rw[decide_eq_false (by omega),decide_eq_false (by omega)];simp
   have g2:ja c (c+2) (atV z i)=kz z:=by
    show(decide (c+2<c)||(kz z&&(decide (c+2≠c+1)||_)))=kz z;rw[decide_eq_false (by omega),decide_eq_true (by omega)];simp
   rw[g0,g1,g2]
   have b0:kz x=true->kz y=true->kz z=true->(atV y i).fInt<=4294967295->({ { v0 with fId:=(⟨Xt.wrap (atV x i).fInt,IntKind.u32.wrap (atV y i).fInt⟩:aM) } with fDeleted:=Xt.wrap (atV z i).fInt }:aa)=tkP c all i:=by
    intro a1 a2 a3 a4;have p1:0<=(atV x i).fInt:=of_decide_eq_true (Zb _ _ ▸ a1).2;have p2:0<=(atV y i).fInt:=of_decide_eq_true (Zb _ _ ▸ a2).2;have p3:0<=(atV z i).fInt:=of_decide_eq_true (Zb _ _ ▸ a3).2;rw[J,E1 W,a6,aT,aT,jU,Z7 p1 (by omega),Z7 p2 (by omega),Z7 p3 (by omega)]
   cases b1:kz x with
   |false=>rfl
   | true=>
    cases b2:kz y with
    |false=>rfl
    | true=>
     cases b3:kz z with
     |false=>simp
     |true=>
      by_cases hq:(atV y i).fInt<=4294967295
      ·rw[decide_eq_true hq,b0 b1 b2 b3 hq];rfl
      ·rw[decide_eq_false hq];rfl
 have a0:=md (f:=λs:List aa×Int=>fN (c:Int) all (many:Int) s.1 s.2) (s:=([],0)) (λi=>((Z3 i).map (tkP c all),(i:Int))) many (λi=>ja c c (atV x i)&&ja c (c+1) (atV y i)&&ja c (c+2) (atV z i)) ([],false) (some (dO c all many,true)) rfl
  (λi hi h=>by
   have:=row i ((Z3 i).map (tkP c all)) hi (by simp;omega);rw[h,if_pos rfl] at this;rw[Xi,Ze]
   exact this)
  (λi hi h=>by
   have:=row i ((Z3 i).map (tkP c all)) hi (by simp;omega);rw[h,if_neg (by simp)] at this
   exact this)
  (by
   show fN (c:Int) all (many:Int) ((Z3 many).map (tkP c all)) (many:Int)=_;unfold fN
   rw[if_neg (by simp)];rfl)
 refine a0.trans ?_
 have e:(Z3 many).all (λi=>ja c c (atV x i)&&ja c (c+1) (atV y i)&&ja c (c+2) (atV z i))=(ff c c x&&ff c (c+1) y&&ff c (c+2) z):=by
  unfold ff;rw[←A3 hx.1,←A3 hy.1,←A3 hz.1,Zs];simp only[Zb,Z6];exact⟨λh=>⟨⟨λi hi=>(h i hi).1.1,λi hi=>(h i hi).1.2⟩,λi hi=>(h i hi).2⟩,λh i hi=>⟨⟨h.1.1 i hi,h.1.2 i hi⟩,h.2 i hi⟩⟩
 rw[e];cases (ff c c x&&ff c (c+1) y&&ff c (c+2) z)<;>rfl
def sr (c:Nat):Nat->List (List Ap)->Bool
 |_,[]=>true
 |n,l::ls=>ff c n l&&sr c (n+1) ls
theorem lT {X:List Int}(h:Byt X)(n:Nat):Byt (X.take n):=λc J=>h c (Zq J)
theorem iP {X:List Int}(h:Byt X)(n:Nat):Byt (X.drop n):=λc J=>h c (Zp J)
theorem wz {X:List Int}(h:Byt X)(J:4<=X.length):0<=bq (X.take 4)/\bq (X.take 4)<4294967296:=by
 have:=vh (X.take 4) (lT h 4);rw[List.length_take,Xf J] at this;exact this
theorem E2 {many k:Nat}{X:List Int}(J:Byt X)(hl:X.length<=1000000000)(Z:many<=4096)(h4:4<=X.length)(n:Nat)(h:bq (X.take 4)=(n:Int))(a0:4+n<=X.length):
  d9 ((X.drop 4).take n) (many:Int)=some (i9 ((X.drop 4).take n) many)/\rB ((X.drop 4).take n) (many:Int)=some (i9 ((X.drop 4).take n) many)/\((i9 ((X.drop 4).take n) many).2=true->(i9 ((X.drop 4).take n) many).1.length=many/\∀v∈(i9 ((X.drop 4).take n) many).1,Rgt v)/\
  lS many (k+1) X=if (i9 ((X.drop 4).take n) many).2 then (lS many k (X.drop (4+n))).map λr=>((i9 ((X.drop 4).take n) many).1::r.1,r.2) else none:=by
 obtain⟨W,h2,h3⟩:=CR (many:=many) (lT (iP J 4) n) (by simp;omega) Z;refine⟨W,h2,h3,?_⟩;simp only[lS];rw[h,Xa,if_neg (by omega),if_neg (by omega)]
theorem Nf {c many:Nat}{srt rest0:List Int}{ok:Bool}(hc:1<=c/\c<=8)(hm:many<=4096):∀(k:Nat) (X:List Int) (pre:List (List Ap)),pre.length+k=c+3->Byt X->X.length<=1000000000->
  am (λs:(List Int×Int×List aa)=>bG ((many:Int),rest0,ok,⟨(c:Int),srt,[]⟩) s.1 s.2.1 s.2.2) (X,(pre.length:Int),dO c pre many)=
   match lS many k X with
   |none=>some (none,80)
   |some r=>if sr c pre.length r.1 then eu ((many:Int),rest0,ok,⟨(c:Int),srt,[]⟩) r.2 (dO c (pre++r.1) many) else some (none,80):=by
 intro k
 induction k with
 | zero=>
  intro X pre hk W hl;simp only[lS,sr,if_true,Xl];rw[mK]
  have:bG ((many:Int),rest0,ok,⟨(c:Int),srt,[]⟩) X (pre.length:Int) (dO c pre many)=(eu ((many:Int),rest0,ok,⟨(c:Int),srt,[]⟩) X (dO c pre many)).map Sum.inr:=by
   unfold bG;dsimp only;rw[ai (by omega),if_neg (by simp;omega)]
  simp only[this];cases eu ((many:Int),rest0,ok,⟨(c:Int),srt,[]⟩) X (dO c pre many)<;>rfl
 | succ k ih=>
  intro X pre hk W hl;have Z:∀q,bG ((many:Int),rest0,ok,⟨(c:Int),srt,[]⟩) X (pre.length:Int) (dO c pre many)=q->q=some (.inr (none,80))->am (λs:(List Int×Int×List aa)=>bG ((many:Int),rest0,ok,⟨(c:Int),srt,[]⟩) s.1 s.2.1 s.2.2) (X,(pre.length:Int),dO c pre many)=some (none,80):=λq h1 h2=>aR (h1.trans h2)
  by_cases h4:4<=X.length
  ·obtain⟨a4,a3⟩:=wz W h4
   obtain⟨n,hn⟩:=Z5 a4;have a1:=uP W h4;rw[hn] at a1 a3;have hw:Zk.wrap (4+(n:Int))=((4+n:Nat):Int):=by rw[ai (by omega)];omega
   have h:bG ((many:Int),rest0,ok,⟨(c:Int),srt,[]⟩) X (pre.length:Int) (dO c pre many)=ew ((many:Int),rest0,ok,⟨(c:Int),srt,[]⟩) X (pre.length:Int) (dO c pre many) (decide (X.length<4+n)):=by
    unfold bG;dsimp only;rw[ai (by omega),if_pos (by simp;omega),if_neg (by simp;omega),a1,Z0,hw];congr 1;rw[Zs,decide_eq_true_eq,decide_eq_true_eq];omega
   by_cases hle:4+n<=X.length
   ·obtain⟨v1,_,v3,v4⟩:=E2 (k:=k) W hl hm h4 n hn hle
    rw[decide_eq_false (by omega)] at h
    have a6:sub X 4 ((4+n:Nat):Int)=some ((X.drop 4).take n):=by
     have:=cP (xs:=X) (lo:=4) (hi:=4+n) (by omega) (by omega);rw[show((4:Nat):Int)=4 from rfl] at this;rw[this,X4,show 4+n - 4=n by omega]
    obtain⟨l,a0,hv⟩:∃l a0,i9 ((X.drop 4).take n) many=(l,a0):=⟨_,_,rfl⟩
    rw[hv] at v1 v3 v4
    have J:ew ((many:Int),rest0,ok,⟨(c:Int),srt,[]⟩) X (pre.length:Int) (dO c pre many) false=if !a0 then fe X (pre.length:Int) (n:Int) true (dO c pre many) else (dt ⟨(c:Int),srt,[]⟩ (dO c pre many) (pre.length:Int) l).bind λa2=>fe X (pre.length:Int) (n:Int) (!a2.1) a2.2:=by
     unfold ew;dsimp only;rw[if_neg (by simp),a1,Z0,hw,a6,Z0,v1,Z0]
    rw[v4];cases a0 with
    |false=>exact Z _ (h.trans J) rfl
    | true=>
     obtain⟨w1,w2⟩:=v3 rfl;obtain⟨t1,t2⟩:=I7 (srt:=srt) (pre:=pre) hc rfl (by omega) w1 hm w2;dsimp only at J ⊢;rw[if_neg (by simp)] at J;rw[if_pos rfl];cases hg:ff c pre.length l with
     | false=>
      obtain⟨xs,t3⟩:=t2 hg;rw[t3,Z0] at J;rw[Z _ (h.trans J) rfl];cases lS many k (X.drop (4+n)) with
      |none=>rfl
      |some r=>
       simp only[Zt,sr,hg,Xo]
       rfl
     | true=>
      rw[t1 hg,Z0] at J
      have a5:bG ((many:Int),rest0,ok,⟨(c:Int),srt,[]⟩) X (pre.length:Int) (dO c pre many)=some (.inl (X.drop (4+n),(((pre++[l]).length:Nat):Int),dO c (pre++[l]) many)):=by
       rw[h,J];unfold fe;rw[if_neg (by simp),hw,bZ hle,Z0,ai (by omega)];simp
      have q1:=bJ (f:=λs:(List Int×Int×List aa)=>bG ((many:Int),rest0,ok,⟨(c:Int),srt,[]⟩) s.1 s.2.1 s.2.2) (s:=(X,(pre.length:Int),dO c pre many)) a5;rw[q1,ih (X.drop (4+n)) (pre++[l]) (by simp;omega) (iP W _) (by simp;omega)];cases lS many k (X.drop (4+n)) with
      |none=>rfl
      |some r=>
       simp only[Zt,sr,hg,X8,Za,X5,List.length_nil,Zj,Zn,X9]
   ·rw[decide_eq_true (by omega)] at h
    rw[Z _ h rfl];simp only[lS];rw[hn,Xa,if_neg (by omega),if_pos (by omega)]
  ·have h:bG ((many:Int),rest0,ok,⟨(c:Int),srt,[]⟩) X (pre.length:Int) (dO c pre many)=ew ((many:Int),rest0,ok,⟨(c:Int),srt,[]⟩) X (pre.length:Int) (dO c pre many) true:=by
    unfold bG;dsimp only;rw[ai (by omega),if_pos (by simp;omega),if_pos (by simp;omega)]
   rw[Z _ h rfl];simp only[lS];rw[if_pos (by omega)]
def tw:bI×Int:=(⟨0,[],[]⟩,80)
theorem Lb {c many e:Nat}{p0 srt:List Int}(hc:1<=c/\c<=8)(hm:many<=4096)(hp:Byt p0)(b5:p0.length=e+4)(he:e<=1000000000):∀(k a:Nat) (pre:List (List Ap)),pre.length+k=c+3->a<=e->
  am (λs:(Int×(List (List Ap))×Int)=>ez p0 ⟨(c:Int),srt,[]⟩ (many:Int) s.1 s.2.1 s.2.2) ((a:Int),pre,(pre.length:Int))=
   match lS many k ((p0.take e).drop a) with
   |none=>some tw
   |some r=>kj p0 ⟨(c:Int),srt,[]⟩ (many:Int) ((e - r.2.length:Nat):Int) (pre++r.1):=by
 have a3:Zk.wrap ((p0.length:Int) - 4)=(e:Int):=by rw[ai (by omega)];omega
 intro k
 induction k with
 | zero=>
  intro a pre hk ha;simp only[lS,Xl];have b3:e - ((p0.take e).drop a).length=a:=by simp;omega
  rw[mK,b3]
  have:ez p0 ⟨(c:Int),srt,[]⟩ (many:Int) (a:Int) pre (pre.length:Int)=(kj p0 ⟨(c:Int),srt,[]⟩ (many:Int) (a:Int) pre).map Sum.inr:=by
   unfold ez;dsimp only;rw[ai (n:=(c:Int)+3) (by omega),if_neg (by simp;omega)]
  simp only[this];cases kj p0 ⟨(c:Int),srt,[]⟩ (many:Int) (a:Int) pre<;>rfl
 | succ k ih=>
  intro a pre hk ha;obtain⟨X,J⟩:∃X,X=(p0.take e).drop a:=⟨_,rfl⟩
  have hX:Byt X:=by rw[J];exact iP (lT hp _) _
  have b6:X.length=e - a:=by rw[J];simp;omega
  rw[←J];have a0:Zk.wrap ((a:Int)+4)=((a+4:Nat):Int):=by rw[ai (by omega)];omega
  have a1:∀q,ez p0 ⟨(c:Int),srt,[]⟩ (many:Int) (a:Int) pre (pre.length:Int)=q->q=some (.inr tw)->am (λs:(Int×(List (List Ap))×Int)=>ez p0 ⟨(c:Int),srt,[]⟩ (many:Int) s.1 s.2.1 s.2.2) ((a:Int),pre,(pre.length:Int))=some tw:=λq h1 h2=>aR (h1.trans h2)
  have b0:∀i j:Nat,i<=j->a+j<=e->(p0.take (a+j)).drop (a+i)=(X.drop i).take (j - i):=by
   intro i j b7 hj;rw[J,List.drop_drop,X4,X4,List.take_take];congr 1;omega
  by_cases h4:4<=X.length
  ·obtain⟨b2,b1⟩:=wz hX h4
   obtain⟨n,Z⟩:=Z5 b2
   have a6:sub p0 (a:Int) ((a+4:Nat):Int)=some (X.take 4):=by
    rw[cP (xs:=p0) (lo:=a) (hi:=a+4) (by omega) (by omega)];have:=b0 0 4 (by omega) (by omega);simpa using this
   have a5:gW (X.take 4)=some (n:Int):=by
    rw[mr _ (lT hX 4) (by simp;omega),Z]
   rw[Z] at b1;have a4:Zk.wrap (n:Int)=(n:Int):=ai (by omega);have a9:Zk.wrap (((a+4:Nat):Int)+(n:Int))=((a+(4+n):Nat):Int):=by rw[ai (by omega)];omega
   have h:ez p0 ⟨(c:Int),srt,[]⟩ (many:Int) (a:Int) pre (pre.length:Int)=ko p0 (many:Int) (a:Int) pre (pre.length:Int) (decide (X.length<4+n)):=by
    unfold ez;dsimp only;rw[ai (n:=(c:Int)+3) (by omega),if_pos (by simp;omega),a3,a0,if_neg (by simp;omega),a6,Z0,a5,Z0,a4,a9];congr 1;rw[Zs,decide_eq_true_eq,decide_eq_true_eq];omega
   by_cases hle:4+n<=X.length
   ·obtain⟨_,v1,v3,v4⟩:=E2 (k:=k) hX (by omega) hm h4 n Z hle
    rw[decide_eq_false (by omega)] at h
    have b4:sub p0 ((a+4:Nat):Int) ((a+(4+n):Nat):Int)=some ((X.drop 4).take n):=by
     rw[cP (xs:=p0) (lo:=a+4) (hi:=a+(4+n)) (by omega) (by omega),b0 4 (4+n) (by omega) (by omega),show 4+n - 4=n by omega]
    obtain⟨l,W,hv⟩:∃l W,i9 ((X.drop 4).take n) many=(l,W):=⟨_,_,rfl⟩
    rw[hv] at v1 v3 v4
    have a2:ko p0 (many:Int) (a:Int) pre (pre.length:Int) false=if !W then some (.inr tw) else some (.inl (((a+(4+n):Nat):Int),pre++[l],(((pre++[l]).length:Nat):Int))):=by
     unfold ko;rw[if_neg (by simp),a0,a6,Z0,a5,Z0,a4,a9,b4,Z0,ai (n:=(many:Int)) (by omega),v1,Z0];cases W with
     |false=>rfl
     |true=>
      rw[if_neg (by simp),if_neg (by simp),aI (by simp;omega),Z0,ai (by omega)];simp
    rw[v4];cases W with
    |false=>exact a1 _ (h.trans a2) rfl
    |true=>
     rw[if_neg (by simp)] at a2;have q1:=bJ (f:=λs:(Int×(List (List Ap))×Int)=>ez p0 ⟨(c:Int),srt,[]⟩ (many:Int) s.1 s.2.1 s.2.2) (s:=((a:Int),pre,(pre.length:Int))) (h.trans a2);dsimp only at q1 ⊢;rw[q1,ih (a+(4+n)) (pre++[l]) (by simp;omega) (by omega),if_pos rfl];have hd:(p0.take e).drop (a+(4+n))=X.drop (4+n):=by rw[J,List.drop_drop]
     rw[hd];cases lS many k (X.drop (4+n)) with
     |none=>rfl
     |some r=>simp only[Zt,Zj,Zn,X9]
   ·rw[decide_eq_true (by omega)] at h
    rw[a1 _ h rfl];simp only[lS];rw[Z,Xa,if_neg (by omega),if_pos (by omega)]
  ·have h:ez p0 ⟨(c:Int),srt,[]⟩ (many:Int) (a:Int) pre (pre.length:Int)=ko p0 (many:Int) (a:Int) pre (pre.length:Int) true:=by
    unfold ez;dsimp only;rw[ai (n:=(c:Int)+3) (by omega),if_pos (by simp;omega),a3,a0,if_pos (by simp;omega)]
   rw[a1 _ h rfl];simp only[lS];rw[if_pos (by omega)]
def E3 (srt:List Int)(T:List aa)(i:Nat):Bool:=match T[i]?,T[i+1]? with
 |some a,some b=>qlt srt a b
 |_,_=>true
def rD (srt:List Int)(T:List aa):Bool:=(Z3 (T.length - 1)).all (E3 srt T)
theorem yK {srt:List Int}{T:List aa}{i:Nat}(h:i+1<T.length):E3 srt T i=qlt srt T[i] T[i+1]:=by
 unfold E3;rw[Z1 (by omega),Z1 h]
theorem Ng {srt:List Int}{a b:aa}(W:qlt srt a b=false)(Z:qlt srt b a=false):a.fId=b.fId:=by
 unfold qlt pw at W Z;have e1:=Zu.1 W;have e2:=Zu.1 Z;have J:ilt a.fId b.fId=false:=by have:=e1.2;rw[e2.1] at this;simpa using this
 have h:ilt b.fId a.fId=false:=by have:=e2.2;rw[e1.1] at this;simpa using this
 unfold ilt pw at J h;simp only[Zu,Zz,decide_eq_false_iff_not,Bool.not_eq_false',decide_eq_true_eq] at J h;cases ha:a.fId;cases hb:b.fId;rw[ha,hb] at J h;dsimp only at J h;congr 1<;>omega
theorem OG {T:List aa}(h:(T.map (·.fId)).Nodup){a b:aa}(Z:a∈T)(hb:b∈T)(J:a.fId=b.fId):a=b:=by
 obtain⟨i,hi,rfl⟩:=Zc Z;obtain⟨j,W,rfl⟩:=Zc hb;unfold List.Nodup at h;rw[Zf] at h;rcases Nat.lt_trichotomy i j with h1|h1|h1
 ·exact absurd (by rw[Zo,Zo];exact J) (h i j (by simpa using hi) (by simpa using W) h1)
 ·subst h1;rfl
 ·exact absurd (by rw[Zo,Zo];exact J.symm) (h j i (by simpa using W) (by simpa using hi) h1)
theorem CT {srt:List Int}{T:List aa}(h:rD srt T=true):Srt (qlt srt) T:=by
 have step:∀i,i+1<T.length->∀(J:i+1<T.length),qlt srt T[i] T[i+1]=true:=λi hi J=>by
  rw[←yK J];exact Z6.1 h i (Zh.2 (by omega))
 have key:∀(k i:Nat) (J:i+(k+1)<T.length),qlt srt T[i] T[i+(k+1)]=true:=by
  intro k
  induction k with
  |zero=>intro i J;exact step i (by omega) J
  |succ k ih=>
   intro i J;exact(iM srt).tr _ _ _ (ih i (by omega)) (step (i+(k+1)) (by omega) (by omega))
 unfold Srt;rw[Zf];intro i j hi Z W;have:=key (j - i - 1) i (by omega);have e:i+(j - i - 1+1)=j:=by omega
 simp only[e] at this;exact(iM srt).asym this
theorem E4 {cols:Int}{srt:List Int}{T:List aa}(hs:srt.length<=1048576)(hA:py cols srt T)(hr:Rok T):ej (some ⟨cols,srt,T⟩)=some (rD srt T):=by
 have a2:=hA.le;obtain⟨_,W⟩:=UV.1 hA.ro;obtain⟨T',h1,Z⟩:=xX (cs:=srt) (xs:=T) hs (by omega) hr;have hl:T'.length=T.length:=Z.len (iM srt);unfold ej;simp only[Z0];rw[h1,Z0];unfold dH;rw[if_neg (by simp;omega)]
 let same:Nat->Bool:=λi=>decide ((T'[i]?).map (·.fId)=(T[i]?).map (·.fId))
 have a1:=md (f:=λs:Int=>bH T' T bR s) (s:=0) (λi=>(i:Int)) T'.length same false (some true) rfl
  (λi hi h=>by
   have J:=of_decide_eq_true h;rw[Z1 hi,Z1 (by omega)] at J;simp only[Zt,Option.some.injEq] at J;show bH T' T bR (i:Int)=_;unfold bH;rw[if_pos (by simpa using hi),aw hi,Z0,aw (by omega),Z0];unfold bR
   rw[Z0,decide_eq_true J,if_neg (by simp),ai (by omega)];rfl)
  (λi hi h=>by
   have J:=of_decide_eq_false h;rw[Z1 hi,Z1 (by omega)] at J;simp only[Zt,Option.some.injEq] at J;show bH T' T bR (i:Int)=_;unfold bH;rw[if_pos (by simpa using hi),aw hi,Z0,aw (by omega),Z0];unfold bR
   rw[Z0,decide_eq_false J,if_pos (by simp)];rfl)
  (by
   show bH T' T bR (T'.length:Int)=_;unfold bH
   rw[if_neg (by simp)];rfl)
 rw[a1]
 have e:(Z3 T'.length).all same=rD srt T:=by
  rw[Zs];constructor
  ·intro h
   have a0:T'=T:=by
    apply List.ext_getElem hl;intro i h3 h4;have h5:=of_decide_eq_true (Z6.1 h i (Zh.2 h3));rw[Z1 h3,Z1 h4] at h5;simp only[Zt,Option.some.injEq] at h5;exact OG W ((Z.mem (iM srt)).1 (Z4 h3)) (Z4 h4) h5
   have hS:=Z.srt;rw[a0] at hS;unfold Srt at hS;rw[Zf] at hS;unfold rD;rw[Z6];intro i hi;have hi':i+1<T.length:=by have:=Zh.1 hi;omega
   rw[yK hi'];have h6:=hS i (i+1) (by omega) hi' (by omega);cases h7:qlt srt T[i] T[i+1] with
   |true=>rfl
   |false=>
    have h8:=Ng h7 h6;unfold List.Nodup at W;rw[Zf] at W;exact absurd (by rw[Zo,Zo];exact h8) (W i (i+1) (by simp;omega) (by simpa using hi') (by omega))
  ·intro h
   have a0:T'=T:=Z.unique (iM srt) (Stb.refl (CT h));rw[Z6];intro i _;show decide _=true;rw[a0];simp
 rw[e];cases rD srt T<;>rfl
theorem I8 {c n:Nat}(h:n<c)(l:List Ap):ff c n l=true:=by
 unfold ff ja;rw[decide_eq_true h];simp
theorem A4 {c:Nat}{x y z:List Ap}:∀(pre:List (List Ap)) (n:Nat),n+pre.length=c->sr c n (pre++[x,y,z])=(ff c c x&&ff c (c+1) y&&ff c (c+2) z)
 |[],n,h=>by
  obtain rfl:n=c:=by simpa using h
  simp[sr,Bool.and_assoc]
 |l::ls,n,h=>by
  simp only[X5] at h;rw[Zn,sr,I8 (by omega),X8];exact A4 ls (n+1) (by omega)
theorem Ld {c many:Nat}{pre:List (List Ap)}{x y z:List Ap}(hc:1<=c/\c<=8)(hp:pre.length=c)(J:∀l∈pre++[x,y,z],l.length=many/\∀v∈l,Rgt v)
  (h:(ff c c x&&ff c (c+1) y&&ff c (c+2) z)=true):∀v∈dO c (pre++[x,y,z]) many,lQ v:=by
 intro v hv;obtain⟨i,hi,rfl⟩:=Xc.1 hv;have hi':=Zh.1 hi;have hx:=J x (by simp);have hy:=J y (by simp);have hz:=J z (by simp);simp only[Zb] at h;have mx:atV x i∈x:=by rw[jV (by omega)];exact Z4 _
 have Z:atV y i∈y:=by rw[jV (by omega)];exact Z4 _
 have mz:atV z i∈z:=by rw[jV (by omega)];exact Z4 _
 have gx:=Z6.1 h.1.1 _ mx;have W:=Z6.1 h.1.2 _ Z;have gz:=Z6.1 h.2 _ mz;have bx:=nq (hx.2 _ mx);have by_:=nq (hy.2 _ Z);have bz:=nq (hz.2 _ mz);unfold cC at bx by_ bz;unfold ja at gx W gz;rw[decide_eq_false (by omega)] at gx W gz;simp only[Bool.false_or,Zb,Bool.or_eq_true,decide_eq_true_eq] at gx W gz;rw[E1 hp];refine⟨by dsimp only;omega,by dsimp only;omega,by dsimp only;omega,λw hw=>?_,by simp;omega⟩;obtain⟨l,a0,rfl⟩:=Xc.1 hw;have h3:=J l (by simp[a0]);exact(h3.2 _ (by rw[jV (by omega)];exact Z4 _)).ok
def LQ (p:Option (Option aB×Int))(q:Option (bI×Int)):Prop:=
 (p=some (none,80)/\q=some tw)\/ ∃cols srt T,py cols srt T/\(∀v∈T,lQ v)/\Srt (qlt srt) T/\srt.length<=1048576/\p=some (some ⟨cols,srt,T⟩,0)/\q=some (⟨cols,srt,T⟩,0)
theorem I9 {c many e:Nat}{b srt rest0 rest:List Int}{cs:List (List Ap)}{ok:Bool}(hc:1<=c/\c<=8)(hm:many<=4096)(W:srt.length<=1048576)(a6:cs.length=c+3)(hl:∀l∈cs,l.length=many/\∀v∈l,Rgt v)(a5:b.length=e+4)(he:e<=1000000000)(a9:rest.length<=e):
  LQ (if sr c 0 cs then eu ((many:Int),rest0,ok,⟨(c:Int),srt,[]⟩) rest (dO c cs many) else some (none,80)) (kj b ⟨(c:Int),srt,[]⟩ (many:Int) ((e - rest.length:Nat):Int) cs):=by
 obtain⟨pre,x,y,z,hp,rfl⟩:∃pre x y z,pre.length=c/\cs=pre++[x,y,z]:=by
  refine⟨cs.take c,cs[c],cs[c+1],cs[c+2],by simp;omega,?_⟩
  have h1:cs.drop c=[cs[c],cs[c+1],cs[c+2]]:=by
   rw[Z8 (by omega),Z8 (by omega),Z8 (by omega),Zg (by omega)]
  rw[←h1,Z9]
 have a3:Zk.wrap ((b.length:Int) - 4)=(e:Int):=by rw[ai (by omega)];omega
 have hv:=C7 hc hp hl hm;rw[A4 pre 0 (by omega)];unfold kj;dsimp only;rw[ai (n:=(many:Int)) (by omega),hv,Z0];cases hg:(ff c c x&&ff c (c+1) y&&ff c (c+2) z) with
 |false=>exact .inl ⟨rfl,rfl⟩
 | true=>
  have J:=Ld hc hp hl hg;have a4:=I6 c (pre++[x,y,z]) many;obtain⟨T,hT⟩:∃T,T=dO c (pre++[x,y,z]) many:=⟨_,rfl⟩
  rw[←hT] at J a4 ⊢;have a0:Rok T:=λv hm=>(J v hm).len;rw[if_pos rfl,if_pos rfl,if_neg (by simp),a3];unfold eu
  by_cases h0:0<rest.length
  ·rw[if_pos (by simpa using h0),if_pos (by simp;omega)]
   exact .inl ⟨rfl,rfl⟩
  ·rw [if_neg (by simpa using h0),if_neg (by simp;omega)]
   simp only[Z0];rw[qh W J,Gm W J,Z0,Z0]
   by_cases hr:nj (c:Int) srt T=0
   ·have Z:=UL.1 hr
    have b0:=Z.le;rw[hr,if_neg (by simp),E4 W Z a0,Z0]
    have a2:lM ⟨(c:Int),srt,[]⟩ (T,true) ((0:Int) != 0)=some (if rD srt T then (⟨(c:Int),srt,T⟩,0) else tw):=by
     unfold lM;rw[if_neg (by simp)]
     have a1:=md (f:=λs:Int=>iq ⟨(c:Int),srt,[]⟩ (T,true) s) (s:=1) (λi=>((i+1:Nat):Int)) (T.length - 1) (E3 srt T) tw (some (⟨(c:Int),srt,T⟩,0)) rfl
      (λi hi h=>by
       rw[yK (by omega)] at h;show iq ⟨(c:Int),srt,[]⟩ (T,true) ((i+1:Nat):Int)=_;unfold iq;dsimp only
       rw[if_pos (by simp;omega),ai (by omega),show((i+1:Nat):Int) - 1=(i:Int) by omega,aw (by omega),Z0,aw (by omega),Z0,CM (by omega),Z0,h,if_neg (by simp),ai (by omega)];rfl)
      (λi hi h=>by
       rw[yK (by omega)] at h;show iq ⟨(c:Int),srt,[]⟩ (T,true) ((i+1:Nat):Int)=_;unfold iq;dsimp only
       rw[if_pos (by simp;omega),ai (by omega),show((i+1:Nat):Int) - 1=(i:Int) by omega,aw (by omega),Z0,aw (by omega),Z0,CM (by omega),Z0,h,if_pos (by simp)];rfl)
      (by
       show iq ⟨(c:Int),srt,[]⟩ (T,true) ((T.length - 1+1:Nat):Int)=_;unfold iq;dsimp only
       rw[if_neg (by simp;omega)];rfl)
     rw[a1];unfold rD;cases (Z3 (T.length - 1)).all (E3 srt T)<;>rfl
    rw[a2];cases hch:rD srt T with
    |true=>exact .inr ⟨_,_,T,Z,J,CT hch,W,rfl,rfl⟩
    |false=>exact .inl ⟨rfl,rfl⟩
   ·rw[if_pos (by simpa using hr)]
    have:(nj (c:Int) srt T != 0)=true:=by simpa using hr
    rw[this];exact .inl ⟨rfl,rfl⟩
theorem zO {b:List Int}{n:Nat}(h:n<=b.length):sub b 0 (n:Int)=some (b.take n):=by
 have:=cP (xs:=b) (lo:=0) (hi:=n) (by omega) h;simpa using this
theorem Le {D:List Int}(W:Byt D)(hl:D.length<=1000000000):
  (∃r,dq D=some r/\r.2.2.1=false/\∀(c n:Nat) (t:List Int),D=72::65::89::49::(c:Int)::(n:Int)::t-> ¬ n+4<=t.length)\/
  ∃(c n:Nat) (t:List Int),D=72::65::89::49::(c:Int)::(n:Int)::t/\n+4<=t.length/\c<256/\n<256/\
   dq D=some (bq ((t.drop n).take 4),t.drop (n+4),decide (nj (c:Int) (t.take n) []=0)&&decide (bq ((t.drop n).take 4)<=4096),⟨(c:Int),t.take n,[]⟩):=by
 match D,W with
 |[],_=>exact .inl ⟨_,rfl,rfl,λc n t h=>by cases h⟩
 |[_],_=>exact .inl ⟨_,rfl,rfl,λc n t h=>by cases h⟩
 |[_,_],_=>exact .inl ⟨_,rfl,rfl,λc n t h=>by cases h⟩
 |[_,_,_],_=>exact .inl ⟨_,rfl,rfl,λc n t h=>by cases h⟩
 |[_,_,_,_],_=>exact .inl ⟨_,rfl,rfl,λc n t h=>by cases h⟩
 |[_,_,_,_,_],_=>exact .inl ⟨_,rfl,rfl,λc n t h=>by cases h⟩
 | a0::a1::a2::a3::a4::a5::t,W=>
  have b4:=W.tail.tail.tail.tail.head;have b5:=W.tail.tail.tail.tail.tail.head;have hT:Byt t:=W.tail.tail.tail.tail.tail.tail;obtain⟨c,rfl⟩:=Z5 b4.1;obtain⟨n,rfl⟩:=Z5 b5.1;simp only[X5] at hl;obtain⟨p,J⟩:∃p,p=a0::a1::a2::a3::(c:Int)::(n:Int)::t:=⟨_,rfl⟩
  have b0:p.length=t.length+6:=by rw[J];simp
  have e1:sub p 0 4=some [a0,a1,a2,a3]:=by
   have:=zO (b:=p) (n:=4) (by omega);rw[show((4:Nat):Int)=4 from rfl] at this;rw[this,J];rfl
  have hh:dq p=dz p (!decide ((a0,a1,a2,a3)=((72,65,89,49):Int×Int×Int×Int))):=by
   unfold dq;rw[if_neg (by simp;omega),e1,Z0]
   rfl
  rw[←J]
  by_cases hm:(a0,a1,a2,a3)=((72,65,89,49):Int×Int×Int×Int)
  ·have i4:idx p 4=some (c:Int):=by rw[J];exact aw (i:=4) (by simp)
   have i5:idx p 5=some (n:Int):=by rw[J];exact aw (i:=5) (by simp)
   have e2:sub p 6 (p.length:Int)=some t:=by
    have:=bZ (xs:=p) (k:=6) (by omega);rw[show((6:Nat):Int)=6 from rfl] at this;rw[this,J];rfl
   have hw:Zk.wrap (n:Int)=(n:Int):=ai (by omega);have a6:Zk.wrap (c:Int)=(c:Int):=ai (by omega);have Z:Zk.wrap ((n:Int)+4)=((n+4:Nat):Int):=by rw[ai (by omega)];omega
   have ha:a0=72/\a1=65/\a2=89/\a3=49:=by simpa using hm
   obtain⟨rfl,rfl,rfl,rfl⟩:=ha;rw[hh,decide_eq_true hm];unfold dz;rw[if_neg (by simp),i4,Z0,i5,Z0,e2,Z0,hw,Z,a6]
   by_cases hle:n+4<=t.length
   ·refine .inr ⟨c,n,t,J,hle,by omega,by omega,?_⟩
    rw[if_neg (by simp;omega),zO (by omega),Z0];have b1:(t.take n).length=n:=by simp;omega
    refine jB (λi=>((i:Int),(⟨(c:Int),(t.take n).take i,[]⟩:aB))) n rfl (λi hi=>?_) ?_
    ·simp only[dW]
     have hi':i<(t.take n).length:=by omega
     have a9:=hT _ (Zq (Z4 hi'));rw[if_pos (by simp;omega),aw hi',Z0,aI (by simp;omega),Z0,ai (by omega),ai (by omega),jh hi']
     rfl
    ·simp only[dW]
     rw[if_neg (by simp;omega),Z2 (l:=t.take n) (by omega)];unfold gp;rw[hw,Z,bZ (by omega),Z0,uP (iP hT n) (by simp;omega),Z0,bZ hle,Z0];dsimp only;rw[qh (by simp;omega) (by simp),Z0]
     by_cases hr:nj (c:Int) (t.take n) []=0
     ·rw[if_pos (by simpa using hr),decide_eq_true hr,X8];rfl
     ·rw[if_neg (by simpa using hr),decide_eq_false hr,Xo];rfl
   ·left
    rw[if_pos (by simp;omega)];refine⟨_,rfl,rfl,λc' n' t' h=>?_⟩;rw[J] at h;simp only[List.cons.injEq,true_and] at h;obtain⟨_,h1,rfl⟩:=h;omega
  ·left
   rw[hh,decide_eq_false hm];refine⟨_,rfl,rfl,λc' n' t' h=>?_⟩;rw[J] at h;simp only[List.cons.injEq] at h;exact absurd (by simp[h]) hm
theorem Lf (c many:Nat):dO c [] many=Xp many aa.zero:=by
 unfold dO
 have:tkP c []=λ_=>aa.zero:=by
  funext i;simp[tkP];rfl
 rw[this,List.map_const',List.length_range]
theorem Lg {b D t:List Int}{e c n:Nat}(hb:Byt b)(b2:b.length=e+4)(he:e<=1000000000)(hD:D=b.take e)(W:D=72::65::89::49::(c:Int)::(n:Int)::t)(b6:n+4<=t.length)(hc:c<256)(hn:n<256)(a9:bq (b.drop e)=fD D):
  lh b=if nj (c:Int) (t.take n) []=0/\bq ((t.drop n).take 4)<=4096 then
   am (λs:(Int×(List (List Ap))×Int)=>ez b ⟨(c:Int),t.take n,[]⟩ (bq ((t.drop n).take 4)) s.1 s.2.1 s.2.2) (((n+10:Nat):Int),[],0) else some tw:=by
 have b7:D.length=t.length+6:=by rw[W];simp
 have b5:D.length=e:=by rw[hD];simp;omega
 have a0:Byt D:=by rw[hD];exact lT hb e
 have hT:Byt t:=by rw[W] at a0;exact a0.tail.tail.tail.tail.tail.tail
 have J:∀i (h:i<e),idx b (i:Int)=some (D[i]'(by omega)):=λi h=>by
  rw[aw (by omega)];simp[hD]
 have b0:Zk.wrap ((b.length:Int) - 4)=(e:Int):=by rw[ai (by omega)];omega
 obtain⟨b3,a4⟩:=tp (b:=D) (by omega);unfold U32 at a4;have j0:=J 0 (by omega);have j1:=J 1 (by omega);have j2:=J 2 (by omega);have j3:=J 3 (by omega);have j4:=J 4 (by omega);have j5:=J 5 (by omega);simp only[W,Xd,Xe] at j0 j1 j2 j3 j4 j5;have hw:Zk.wrap (n:Int)=(n:Int):=ai (by omega);have a2:Zk.wrap (c:Int)=(c:Int):=ai (by omega);have Z:Zk.wrap (6+(n:Int))=((n+6:Nat):Int):=by rw[ai (by omega)];omega
 have a1:Zk.wrap (((n+6:Nat):Int)+4)=((n+10:Nat):Int):=by rw[ai (by omega)];omega
 have s4:(b.drop e).length=4:=by simp;omega
 unfold lh;rw[if_neg (by simp;omega),show(0:Int)=((0:Nat):Int) from rfl,j0,Z0,if_neg (by simp),show(1:Int)=((1:Nat):Int) from rfl,j1,Z0,if_neg (by simp),show(2:Int)=((2:Nat):Int) from rfl,j2,Z0,if_neg (by simp),show(3:Int)=((3:Nat):Int) from rfl,j3,Z0];unfold ir;rw[if_neg (by simp),b0,bZ (by omega),Z0,mr _ (iP hb e) (by omega),Z0,zO (by omega),Z0,←hD,BQ a0 (by omega),Z0,aT,Z7 (by omega) (by omega),a9,if_neg (by simp),show(4:Int)=((4:Nat):Int) from rfl,j4,Z0,show(5:Int)=((5:Nat):Int) from rfl,j5,Z0,hw,Z,show((4:Nat):Int)=4 from rfl,a1,if_neg (by simp;omega),a2]
 have b4:(t.take n).length=n:=by simp;omega
 refine jB (λi=>(((i+6:Nat):Int),(⟨(c:Int),(t.take n).take i,[]⟩:bI))) n rfl (λi hi=>?_) ?_
 ·simp only[qa]
  have hi':i<(t.take n).length:=by omega
  have b1:=hT _ (Zq (Z4 hi'))
  have a5:idx b ((i+6:Nat):Int)=some (t.take n)[i]:=by
   rw[J (i+6) (by omega)];simp[W]
  rw[hw,Z,if_pos (by rw[decide_eq_true_eq];omega),a5,Z0,aI (by simp;omega),Z0,ai (by omega),ai (by omega),jh hi']
  rfl
 ·simp only[qa]
  rw[hw,Z,if_neg (by simp),Z2 (l:=t.take n) (by omega)];congr 1;unfold rZ
  have a6:sub b ((n+6:Nat):Int) ((n+10:Nat):Int)=some ((t.drop n).take 4):=by
   rw[cP (by omega) (by omega)];have h1:b.take (n+10)=D.take (n+10):=by rw[hD,List.take_take,Xf (by omega)]
   have h5:D.drop (n+6)=t.drop n:=by rw[W];rfl
   rw[h1,X4,h5,show n+10 - (n+6)=4 by omega]
  have a3:gW ((t.drop n).take 4)=some (bq ((t.drop n).take 4)):=mr _ (lT (iP hT n) 4) (by simp;omega);obtain⟨m1,m2⟩:=wz (iP hT n) (by simp;omega);rw[hw,Z,a1,a6,Z0,a3,Z0];dsimp only;rw[Gm (by simp;omega) (by simp),Z0];unfold p9
  by_cases hr:nj (c:Int) (t.take n) []=0
  ·rw[if_neg (by simpa using hr),ai (n:=bq ((t.drop n).take 4)) (by omega)]
   by_cases hm:bq ((t.drop n).take 4)<=4096
   ·rw[if_neg (by simp;omega),if_pos ⟨hr,hm⟩,hw,Z,a1];rfl
   ·rw[if_pos (by simp;omega),if_neg (λh=>hm h.2)];rfl
  ·rw[if_pos (by simpa using hr),if_pos rfl,if_neg (λh=>hr h.1)];rfl
theorem Gq {b D:List Int}{e:Nat}(hb:Byt b)(b2:b.length=e+4)(he:e<=1000000000)(W:D=b.take e)(h:bq (b.drop e)≠fD D\/ ∀(c n:Nat)(t:List Int),D=72::65::89::49::(c:Int)::(n:Int)::t-> ¬ n+4<=t.length):
  lh b=some tw:=by
 unfold lh
 by_cases h14:b.length<14
 ·rw[if_pos (by simp;omega)];rfl
 rw[if_neg (by simp;omega)];have Z:Byt D:=by rw[W];exact lT hb e
 have a9:D.length=e:=by rw[W];simp;omega
 have J:∀i (h:i<e),idx b (i:Int)=some (D[i]'(by omega)):=λi h=>by
  rw[aw (by omega)];simp[W]
 have b1:Zk.wrap ((b.length:Int) - 4)=(e:Int):=by rw[ai (by omega)];omega
 match D,Z,a9,J,W,h with
 | a0 ::a1::a2::a3::a4::a5::t,Z,a9,J,W,h=>
  obtain⟨D,a6⟩:∃D,D=a0::a1::a2::a3::a4::a5::t:=⟨_,rfl⟩
  have b4:=Z.tail.tail.tail.tail.head;have b5:=Z.tail.tail.tail.tail.tail.head;simp only[X5] at a9;have j0:=J 0 (by omega);have j1:=J 1 (by omega);have j2:=J 2 (by omega);have j3:=J 3 (by omega);have j4:=J 4 (by omega);have j5:=J 5 (by omega);simp only[Xd,Xe] at j0 j1 j2 j3 j4 j5;rw[show((0:Nat):Int)=0 from rfl] at j0;rw[show((1:Nat):Int)=1 from rfl] at j1;rw[show((2:Nat):Int)=2 from rfl] at j2;rw[show((3:Nat):Int)=3 from rfl] at j3;rw[show((4:Nat):Int)=4 from rfl] at j4;rw[show((5:Nat):Int)=5 from rfl] at j5
  have hj:∀q,q=true->ir b q=some tw:=λq hq=>by subst hq;rfl
  rw[j0,Z0]
  by_cases c0:a0=72
  ·rw [if_neg (by simpa using c0),j1,Z0]
   by_cases c1:a1=65
   ·rw [if_neg (by simpa using c1),j2,Z0]
    by_cases c2:a2=89
    ·rw[if_neg (by simpa using c2),j3,Z0]
     by_cases c3:a3=49
     ·subst c0 c1 c2 c3
      obtain⟨c,rfl⟩:=Z5 b4.1;obtain⟨n,rfl⟩:=Z5 b5.1;rw[←a6] at W Z h;obtain⟨b3,b0⟩:=tp (b:=D) (by rw[a6];simp;omega);unfold U32 at b0;have s4:(b.drop e).length=4:=by simp;omega
      unfold ir;rw[if_neg (by simp),b1,bZ (by omega),Z0,mr _ (iP hb e) (by omega),Z0,zO (by omega),Z0,←W,BQ Z (by rw[a6];simp;omega),Z0,aT,Z7 (by omega) (by omega)]
      by_cases hs:bq (b.drop e)=fD D
      ·rw[if_neg (by simpa using hs)]
       have b6:=(h.resolve_left (λhh=>hh hs)) c n t a6;rw[j4,Z0,j5,Z0,ai (n:=(n:Int)) (by omega),ai (n:=6+(n:Int)) (by omega),ai (n:=6+(n:Int)+4) (by omega),if_pos (by simp;omega)]
       rfl
      ·rw[if_pos (by simpa using hs)];rfl
     ·exact hj _ (by simpa using c3)
    ·rw[if_pos (by simpa using c2)];rfl
   ·rw[if_pos (by simpa using c1)];rfl
  ·rw[if_pos (by simpa using c0)];rfl
 |[],_,h,_,_,_=>simp at h;omega
 |[_],_,h,_,_,_=>simp at h;omega
 |[_,_],_,h,_,_,_=>simp at h;omega
 |[_,_,_],_,h,_,_,_=>simp at h;omega
 |[_,_,_,_],_,h,_,_,_=>simp at h;omega
 |[_,_,_,_,_],_,h,_,_,_=>simp at h;omega
theorem CU {b:List Int}(J:Byt b)(hl:b.length<=1000000000):LQ (dI b) (lh b):=by
 by_cases h4:b.length<4
 ·refine .inl ⟨?_,?_⟩
  ·unfold dI
   rw[if_pos (by simp;omega)];rfl
  ·unfold lh
   rw[if_pos (by simp;omega)];rfl
 obtain⟨e,Z⟩:∃e,b.length=e+4:=⟨b.length - 4,by omega⟩
 obtain⟨D,h⟩:∃D,D=b.take e:=⟨_,rfl⟩
 have a0:Byt D:=by rw[h];exact lT J e
 have b1:D.length=e:=by rw[h];simp;omega
 have a3:Zk.wrap ((b.length:Int) - 4)=(e:Int):=by rw[ai (by omega)];omega
 obtain⟨a9,a6⟩:=tp (b:=D) (by omega);have a5:Zk.wrap (fD D)=fD D:=by unfold U32 at a6;rw[ai (by omega)]
 have s4:(b.drop e).length=4:=by simp;omega
 have hP:dI b=gr b (bq (b.drop e) != fD D):=by
  unfold dI;rw[if_neg (by simp;omega),a3,bZ (by omega),Z0,uP (iP J e) (by omega),Z0,zO (by omega),Z0,←h,a9,Z0,a5,Z2 (l:=b.drop e) (by omega)]
 by_cases hs:bq (b.drop e)=fD D
 ·have a2:dI b=(dq D).bind λr24=>if !r24.2.2.1 then some ((none:(Option aB)),80) else (mk 5864062014805 r24.1 aa.zero).bind λb0=>am (λs:(List Int×Int×List aa)=>bG r24 s.1 s.2.1 s.2.2) (r24.2.1,0,b0):=by
   rw[hP,hs];unfold gr;rw[if_neg (by simp),a3,zO (by omega),Z0,←h]
  rcases Le a0 (by omega) with⟨r,W,h2,h3⟩|⟨c,n,t,W,h2,hc,hn,h3⟩
  ·refine .inl ⟨?_,Gq J Z (by omega) h (.inr h3)⟩
   rw[a2,W,Z0,h2];rfl
  ·have hR:=Lg J Z (by omega) h W h2 hc hn hs
   have a1:Byt t:=by rw[W] at a0;exact a0.tail.tail.tail.tail.tail.tail
   have b3:t.length+6=e:=by rw[←b1,W];simp
   obtain⟨m1,m2⟩:=wz (iP a1 n) (by simp;omega);obtain⟨many,a4⟩:=Z5 m1;rw[a4] at hR h3;rw[a2,h3,Z0];dsimp only
   by_cases hr:nj (c:Int) (t.take n) []=0/\(many:Int)<=4096
   ·have b2:=(UL.1 hr.1).co
    rw[hR,if_pos hr,decide_eq_true hr.1,decide_eq_true hr.2,if_neg (by simp),ue (by omega),Z0,←Lf c many]
    have hX:D.drop (n+10)=t.drop (n+4):=by
     rw[W,show n+10=(n+4)+6 by omega];rfl
    have q1:=Nf (srt:=t.take n) (rest0:=t.drop (n+4)) (ok:=true&&true) (c:=c) (many:=many) (by omega) (by omega) (c+3) (t.drop (n+4)) [] (by simp) (iP a1 _) (by simp;omega);have q2:=Lb (srt:=t.take n) (c:=c) (many:=many) (by omega) (by omega) J Z (by omega) (c+3) (n+10) [] (by simp) (by omega);rw[←h,hX] at q2;simp only[List.length_nil,X9] at q1 q2;rw[show((0:Nat):Int)=0 from rfl] at q1 q2;rw[q1,q2];cases hsec:lS many (c+3) (t.drop (n+4)) with
    |none=>exact .inl ⟨rfl,rfl⟩
    |some r=>
     obtain⟨g1,g2,g3,g4⟩:=La many (by omega) (c+3) _ r (iP a1 _) (by simp;omega) hsec;simp only[Xg] at g4;exact I9 (by omega) (by omega) (by simp;omega) g1 g2 Z (by omega) (by omega)
   ·rw[hR,if_neg hr]
    refine .inl ⟨?_,rfl⟩;rw[if_pos];rw[Zi,Zz,decide_eq_false_iff_not,decide_eq_false_iff_not]
    by_cases h5:nj (c:Int) (t.take n) []=0
    ·right;intro h6;exact hr ⟨h5,h6⟩
    ·exact .inl h5
 ·refine .inl ⟨?_,Gq J Z (by omega) h (.inl hs)⟩
  rw[hP];have:(bq (b.drop e) != fD D)=true:=by simpa using hs
  rw[this];rfl
theorem Ja {c:dp}{cut more:Int}(h:I4 c)(hm:0<=more/\more<256):nR c cut more=some true:=by
 unfold nR;rcases AZ (cols:=c.fColumns) (kinds:=c.fKinds) h.so h.ki h.ok with⟨h1,J⟩|⟨hA,T,hS,hC,J⟩
 ·rw[J,Z0,if_pos (by simpa using h1)]
  unfold fa;rw[if_pos rfl,xY];rfl
 ·rw[J,Z0,if_neg (by simp)]
  have W:fa cut more (kJ c.fColumns c.fSort c.fKinds T,0) true=some true:=by
   unfold fa;rw[if_pos rfl,xY];rfl
  by_cases h0:cut<0
  ·rw[if_pos (by simpa using h0),W]
  rw[if_neg (by simpa using h0)];obtain⟨a0,a4⟩:=BW (srt:=c.fSort) (kinds:=c.fKinds) hC h.so;have a3:(kJ c.fColumns c.fSort c.fKinds T).length=(jD c.fColumns c.fSort c.fKinds T).length+4:=by unfold kJ;rw[Za,eV]
  obtain⟨n,rfl⟩:=Z5 (Int.not_lt.1 h0);dsimp only
  by_cases hle:(kJ c.fColumns c.fSort c.fKinds T).length<=n
  ·rw[decide_eq_true (by omega),W]
  rw[decide_eq_false (by omega)];unfold fa;dsimp only
  have Z:Byt (kJ c.fColumns c.fSort c.fKinds T):=by
   unfold kJ;exact a0.app (yH _)
  have a1:=CU (b:=(kJ c.fColumns c.fSort c.fKinds T).take n) (lT Z n) (by simp;omega);have a2:=CU (b:=kJ c.fColumns c.fSort c.fKinds T++[more]) (Z.app (.cons hm .nil)) (by simp;omega);rw[if_neg (by simp),zO (by omega),Z0,aI (by simp;omega),X9]
  rcases a1 with⟨p1,q1⟩|⟨c1,s1,T1,_,_,_,_,p1,q1⟩<;>rcases a2 with⟨p2,q2⟩|⟨c2,s2,T2,_,_,_,_,p2,q2⟩<;>
   rw[p1,Z0,Z0,aI (by simp;omega),Z0,p2,Z0,Z0,q1,Z0,q2,Z0,xY,Z0,if_pos rfl]<;>
   simp[cO,hU,tw]
set_option maxRecDepth 100000
open Go.Proofs Tryz
theorem mixed:prog.follows .mixedOrders=true:=by kernel_rfl
def Ap.pr (x:Ap):Int×Bool×Int×List Int:=(x.fKind,x.fBool,x.fInt,x.fText)
def kAp:Kd Ap:=ph Ap.pr (bL (ag .i64) (bL cL (bL (ag .i64) rF)))
theorem Jb:Fld kAp (ag .i64) 0 (λx=>x.fKind):=bP cY
theorem OH:StF kAp (ag .i64) 0 (λx y=>{ x with fKind:=y }):=bQ dc (λ_ _=>rfl)
theorem OI:Fld kAp cL 1 (λx=>x.fBool):=bP (aY cY)
theorem OK:StF kAp cL 1 (λx y=>{ x with fBool:=y }):=bQ (aU dc) (λ_ _=>rfl)
theorem vm:Fld kAp (ag .i64) 2 (λx=>x.fInt):=bP (aY (aY cY))
theorem OL:StF kAp (ag .i64) 2 (λx y=>{ x with fInt:=y }):=bQ (aU (aU dc)) (λ_ _=>rfl)
theorem OM:Fld kAp rF 3 (λx=>x.fText):=bP (aY (aY (aY iN)))
theorem ON:StF kAp rF 3 (λx y=>{ x with fText:=y }):=bQ (aU (aU (aU bW))) (λ_ _=>rfl)
def aS.pr (x:aS):Int×Ap:=(x.fMany,x.fValue)
def cy:Kd aS:=ph aS.pr (bL (ag .i64) kAp)
theorem Nh:Fld cy (ag .i64) 0 (λx=>x.fMany):=bP cY
theorem BY:StF cy (ag .i64) 0 (λx y=>{ x with fMany:=y }):=bQ dc (λ_ _=>rfl)
theorem Ni:Fld cy kAp 1 (λx=>x.fValue):=bP (aY iN)
theorem Gr:StF cy kAp 1 (λx y=>{ x with fValue:=y }):=bQ (aU bW) (λ_ _=>rfl)
def bv.pr (x:bv):Int×Int×Ap×Ap×Int×Int:=(x.fKind,x.fMany,x.fMin,x.fMax,x.fNulls,x.fBytes)
def cX:Kd bv:=ph bv.pr (bL (ag .i64) (bL (ag .i64) (bL kAp (bL kAp (bL (ag .i64) (ag .i64))))))
theorem OO:Fld cX (ag .i64) 0 (λx=>x.fKind):=bP cY
theorem Jc:StF cX (ag .i64) 0 (λx y=>{ x with fKind:=y }):=bQ dc (λ_ _=>rfl)
theorem OP:Fld cX (ag .i64) 1 (λx=>x.fMany):=bP (aY cY)
theorem Jd:StF cX (ag .i64) 1 (λx y=>{ x with fMany:=y }):=bQ (aU dc) (λ_ _=>rfl)
theorem OQ:Fld cX kAp 2 (λx=>x.fMin):=bP (aY (aY cY))
theorem Je:StF cX kAp 2 (λx y=>{ x with fMin:=y }):=bQ (aU (aU dc)) (λ_ _=>rfl)
theorem OR:Fld cX kAp 6 (λx=>x.fMax):=bP (aY (aY (aY cY)))
theorem Jf:StF cX kAp 6 (λx y=>{ x with fMax:=y }):=bQ (aU (aU (aU dc))) (λ_ _=>rfl)
theorem OS:Fld cX (ag .i64) 10 (λx=>x.fNulls):=bP (aY (aY (aY (aY cY))))
theorem Jg:StF cX (ag .i64) 10 (λx y=>{ x with fNulls:=y }):=bQ (aU (aU (aU (aU dc)))) (λ_ _=>rfl)
theorem OT:Fld cX (ag .i64) 11 (λx=>x.fBytes):=bP (aY (aY (aY (aY (aY iN)))))
theorem OU:StF cX (ag .i64) 11 (λx y=>{ x with fBytes:=y }):=bQ (aU (aU (aU (aU (aU bW))))) (λ_ _=>rfl)
def d3.pr (x:d3):Int×Ap:=(x.fMany,x.fValue)
def cQ:Kd d3:=ph d3.pr (bL (ag .i64) kAp)
theorem Nj:Fld cQ (ag .i64) 0 (λx=>x.fMany):=bP cY
theorem BZ:StF cQ (ag .i64) 0 (λx y=>{ x with fMany:=y }):=bQ dc (λ_ _=>rfl)
theorem Nk:Fld cQ kAp 1 (λx=>x.fValue):=bP (aY iN)
theorem Gs:StF cQ kAp 1 (λx y=>{ x with fValue:=y }):=bQ (aU bW) (λ_ _=>rfl)
def cd.pr (x:cd):Int×Int×Ap×Ap×Int×Int:=(x.fKind,x.fMany,x.fMin,x.fMax,x.fNulls,x.fBytes)
def fE:Kd cd:=ph cd.pr (bL (ag .i64) (bL (ag .i64) (bL kAp (bL kAp (bL (ag .i64) (ag .i64))))))
theorem OV:Fld fE (ag .i64) 0 (λx=>x.fKind):=bP cY
theorem OW:StF fE (ag .i64) 0 (λx y=>{ x with fKind:=y }):=bQ dc (λ_ _=>rfl)
theorem OX:Fld fE (ag .i64) 1 (λx=>x.fMany):=bP (aY cY)
theorem OY:StF fE (ag .i64) 1 (λx y=>{ x with fMany:=y }):=bQ (aU dc) (λ_ _=>rfl)
theorem OZ:Fld fE kAp 2 (λx=>x.fMin):=bP (aY (aY cY))
theorem O0:StF fE kAp 2 (λx y=>{ x with fMin:=y }):=bQ (aU (aU dc)) (λ_ _=>rfl)
theorem O1:Fld fE kAp 6 (λx=>x.fMax):=bP (aY (aY (aY cY)))
theorem O2:StF fE kAp 6 (λx y=>{ x with fMax:=y }):=bQ (aU (aU (aU dc))) (λ_ _=>rfl)
theorem O3:Fld fE (ag .i64) 10 (λx=>x.fNulls):=bP (aY (aY (aY (aY cY))))
theorem O4:StF fE (ag .i64) 10 (λx y=>{ x with fNulls:=y }):=bQ (aU (aU (aU (aU dc)))) (λ_ _=>rfl)
theorem O5:Fld fE (ag .i64) 11 (λx=>x.fBytes):=bP (aY (aY (aY (aY (aY iN)))))
theorem O6:StF fE (ag .i64) 11 (λx y=>{ x with fBytes:=y }):=bQ (aU (aU (aU (aU (aU bW))))) (λ_ _=>rfl)
def ah.pr (x:ah):List Int×Bool:=(x.fB,x.fOk)
def jm:Kd ah:=ph ah.pr (bL (kSl (ag .u8)) cL)
theorem Nl:Fld jm (kSl (ag .u8)) 0 (λx=>x.fB):=bP cY
theorem Nm:StF jm (kSl (ag .u8)) 0 (λx y=>{ x with fB:=y }):=bQ dc (λ_ _=>rfl)
theorem Nn:Fld jm cL 1 (λx=>x.fOk):=bP (aY iN)
theorem No:StF jm cL 1 (λx y=>{ x with fOk:=y }):=bQ (aU bW) (λ_ _=>rfl)
def aM.pr (x:aM):Int×Int:=(x.fEpoch,x.fNumber)
def bO:Kd aM:=ph aM.pr (bL (ag .u64) (ag .u32))
theorem O7:Fld bO (ag .u64) 0 (λx=>x.fEpoch):=bP cY
theorem E5:StF bO (ag .u64) 0 (λx y=>{ x with fEpoch:=y }):=bQ dc (λ_ _=>rfl)
theorem O8:Fld bO (ag .u32) 1 (λx=>x.fNumber):=bP (aY iN)
theorem E6:StF bO (ag .u32) 1 (λx y=>{ x with fNumber:=y }):=bQ (aU bW) (λ_ _=>rfl)
def aa.pr (x:aa):aM×List Ap×Int:=(x.fId,x.fRow,x.fDeleted)
def aj:Kd aa:=ph aa.pr (bL bO (bL (kSl kAp) (ag .u64)))
theorem A5:Fld aj bO 0 (λx=>x.fId):=bP cY
theorem A6:StF aj bO 0 (λx y=>{ x with fId:=y }):=bQ dc (λ_ _=>rfl)
theorem O9:Fld aj (kSl kAp) 2 (λx=>x.fRow):=bP (aY cY)
theorem E7:StF aj (kSl kAp) 2 (λx y=>{ x with fRow:=y }):=bQ (aU dc) (λ_ _=>rfl)
theorem Pa:Fld aj (ag .u64) 3 (λx=>x.fDeleted):=bP (aY (aY iN))
theorem E8:StF aj (ag .u64) 3 (λx y=>{ x with fDeleted:=y }):=bQ (aU (aU bW)) (λ_ _=>rfl)
def aB.pr (x:aB):Int×List Int×List aa:=(x.fColumns,x.fSort,x.fL)
def bS:Kd aB:=ph aB.pr (bL (ag .i64) (bL (kSl (ag .i64)) (kSl aj)))
theorem Gt:Fld bS (ag .i64) 0 (λx=>x.fColumns):=bP cY
theorem Gu:StF bS (ag .i64) 0 (λx y=>{ x with fColumns:=y }):=bQ dc (λ_ _=>rfl)
theorem B3:Fld bS (kSl (ag .i64)) 1 (λx=>x.fSort):=bP (aY cY)
theorem Gv:StF bS (kSl (ag .i64)) 1 (λx y=>{ x with fSort:=y }):=bQ (aU dc) (λ_ _=>rfl)
theorem vn:Fld bS (kSl aj) 2 (λx=>x.fL):=bP (aY (aY iN))
theorem Np:StF bS (kSl aj) 2 (λx y=>{ x with fL:=y }):=bQ (aU (aU bW)) (λ_ _=>rfl)
def dp.pr (x:dp):Int×List Int×List Int×List aa:=(x.fColumns,x.fSort,x.fKinds,x.fL)
def ce:Kd dp:=ph dp.pr (bL (ag .i64) (bL (kSl (ag .i64)) (bL (kSl (ag .i64)) (kSl aj))))
theorem Pb:Fld ce (ag .i64) 0 (λx=>x.fColumns):=bP cY
theorem Pc:StF ce (ag .i64) 0 (λx y=>{ x with fColumns:=y }):=bQ dc (λ_ _=>rfl)
theorem Pd:Fld ce (kSl (ag .i64)) 1 (λx=>x.fSort):=bP (aY cY)
theorem Pe:StF ce (kSl (ag .i64)) 1 (λx y=>{ x with fSort:=y }):=bQ (aU dc) (λ_ _=>rfl)
theorem Pf:Fld ce (kSl (ag .i64)) 2 (λx=>x.fKinds):=bP (aY (aY cY))
theorem Pg:StF ce (kSl (ag .i64)) 2 (λx y=>{ x with fKinds:=y }):=bQ (aU (aU dc)) (λ_ _=>rfl)
theorem Ph:Fld ce (kSl aj) 3 (λx=>x.fL):=bP (aY (aY (aY iN)))
theorem Pi:StF ce (kSl aj) 3 (λx y=>{ x with fL:=y }):=bQ (aU (aU (aU bW))) (λ_ _=>rfl)
def bI.pr (x:bI):Int×List Int×List aa:=(x.fColumns,x.fSort,x.fL)
def jE:Kd bI:=ph bI.pr (bL (ag .i64) (bL (kSl (ag .i64)) (kSl aj)))
theorem Pj:Fld jE (ag .i64) 0 (λx=>x.fColumns):=bP cY
theorem E9:StF jE (ag .i64) 0 (λx y=>{ x with fColumns:=y }):=bQ dc (λ_ _=>rfl)
theorem Pk:Fld jE (kSl (ag .i64)) 1 (λx=>x.fSort):=bP (aY cY)
theorem Jh:StF jE (kSl (ag .i64)) 1 (λx y=>{ x with fSort:=y }):=bQ (aU dc) (λ_ _=>rfl)
theorem Pn:Fld jE (kSl aj) 2 (λx=>x.fL):=bP (aY (aY iN))
theorem Ji:StF jE (kSl aj) 2 (λx y=>{ x with fL:=y }):=bQ (aU (aU bW)) (λ_ _=>rfl)
theorem B4:pi prog 32 4 40:=⟨⟨t32,_,type32,rfl,rfl,rfl,rfl⟩⟩
theorem eD:du prog 32 kAp:=⟨sizeOf32,isAgg32⟩
def xZ:List Value:=[.int .i64 0,.bool false,.int .i64 0,.string (bts [])]
theorem tz:∀m,kAp.R m xZ Ap.zero:=λ_=>⟨⟨rfl,au (by decide)⟩,⟨rfl,⟨⟨rfl,au (by decide)⟩,⟨rfl,(by decide),(by decide)⟩⟩⟩⟩
theorem A7:cI prog 32 0 0:=cA underlying32 rfl sizeOf3 (by decide) rfl
theorem ty3:du prog 3 (ag .i64):=⟨sizeOf3,isAgg3⟩
theorem B5 {m:M}{cs:List Value}{x:Ap}(h:kAp.R m cs x):cs=[.int .i64 x.fKind,.bool x.fBool,.int .i64 x.fInt,.string (bts x.fText)]/\(∀n∈x.fText,0<=n/\n<256):=by
 obtain⟨W,Z,h2,J⟩:=h;refine⟨?_,J.2.1⟩;rw[←Z9 1 cs,show(cs).take 1=_ from W.1,←Z9 1 ((cs).drop 1),show((cs).drop 1).take 1=_ from Z,←Z9 1 (((cs).drop 1).drop 1),show(((cs).drop 1).drop 1).take 1=_ from h2.1,show(((cs).drop 1).drop 1).drop 1=_ from J.1]
 rfl
theorem zP:w7 prog 32 kAp:=by
 refine⟨λm cs ds x y d w Z J=>?_,λop o o' cs ds w=>?_⟩
 ·obtain⟨rfl,h⟩:=B5 Z
  obtain⟨rfl,W⟩:=B5 J;have e:x=y↔x.fKind=y.fKind/\x.fBool=y.fBool/\x.fInt=y.fInt/\x.fText=y.fText:=by cases x;cases y;simp
  show(Op.equalIn (d+20) 32 (.agg #[_,_,_,_]) (.agg #[_,_,_,_])).run _ _=_;rw[run_equalIn_struct w (d+19) 32 _ _ underlying32 stoodInHeld32];simp only[Program.fieldsOf,underlying32,Op.eqFields];simp[part,run_equalIn_int,run_equalIn_bool',run_equalIn_string,yk h W]
  repeat' split
  all_goals simp_all
 ·show(eqGuard op 32 o o' (.agg _) (.agg _)).run _ _=_
  cases op<;>simp[eqGuard]
theorem Po:cI prog 32 1 1:=cA underlying32 rfl sizeOf4 (by decide) rfl
theorem nr:cI prog 32 2 2:=cA underlying32 rfl sizeOf2 (by decide) rfl
theorem ty2:du prog 2 (ag .i64):=⟨sizeOf2,isAgg2⟩
theorem Pp:cI prog 32 3 3:=cA underlying32 rfl sizeOf9 (by decide) rfl
theorem el2:pi prog 2 1 8:=⟨⟨t2,_,type2,rfl,rfl,rfl,rfl⟩⟩
theorem Gw:cI prog 187 1 1:=cA underlying187 rfl sizeOf32 (by decide) rfl
theorem B6:cI prog 187 0 0:=cA underlying187 rfl sizeOf3 (by decide) rfl
def S8:List Value:=[.int .i64 0,.int .i64 0,.bool false,.int .i64 0,.string (bts [])]
theorem Hw:∀m,cy.R m S8 aS.zero:=λ_=>⟨⟨rfl,au (by decide)⟩,⟨⟨rfl,au (by decide)⟩,⟨rfl,⟨⟨rfl,au (by decide)⟩,⟨rfl,(by decide),(by decide)⟩⟩⟩⟩⟩
theorem LS:pi prog 187 5 48:=⟨⟨t187,_,type187,rfl,rfl,rfl,rfl⟩⟩
def zc5:List Value:=[.int .u8 0]
theorem zr5:∀m,(ag .u8).R m zc5 0:=λ_=>⟨rfl,au (by decide)⟩
def Hx:List Value:=(Xp 8 zc5).flatten
theorem S9:∀m b,GS (ag .u8) m b Hx (.slice (some ⟨b,0,none⟩) 8 8) (Xp 8 0):=λ_ _=>GS.zero zr5 rfl
theorem ty5:du prog 5 (ag .u8):=⟨sizeOf5,isAgg5⟩
theorem el5:pi prog 5 1 1:=⟨⟨t5,_,type5,rfl,rfl,rfl,rfl⟩⟩
theorem Ta:du prog 187 cy:=⟨sizeOf187,isAgg187⟩
theorem Lh:du prog 54 (ag .u64):=⟨sizeOf54,isAgg54⟩
theorem Pq:pi prog 54 1 8:=⟨⟨t54,_,type54,rfl,rfl,rfl,rfl⟩⟩
theorem nt:du prog 22 (kSl kAp):=⟨sizeOf22,isAgg22⟩
def wA:List Value:=[.int .i64 0,.int .i64 0,.int .i64 0,.bool false,.int .i64 0,.string (bts []),.int .i64 0,.bool false,.int .i64 0,.string (bts []),.int .i64 0,.int .i64 0]
theorem zQ:∀m,cX.R m wA bv.zero:=λ_=>⟨⟨rfl,au (by decide)⟩,⟨⟨rfl,au (by decide)⟩,⟨⟨⟨rfl,au (by decide)⟩,⟨rfl,⟨⟨rfl,au (by decide)⟩,⟨rfl,(by decide),(by decide)⟩⟩⟩⟩,⟨⟨⟨rfl,au (by decide)⟩,⟨rfl,⟨⟨rfl,au (by decide)⟩,⟨rfl,(by decide),(by decide)⟩⟩⟩⟩,⟨⟨rfl,au (by decide)⟩,⟨rfl,au (by decide)⟩⟩⟩⟩⟩⟩
theorem zR:du prog 34 cX:=⟨sizeOf34,isAgg34⟩
theorem ya:cI prog 34 4 10:=cA underlying34 rfl sizeOf3 (by decide) rfl
theorem UW:du prog 55 (ag .u32):=⟨sizeOf55,isAgg55⟩
theorem Jj:cI prog 34 1 1:=cA underlying34 rfl sizeOf3 (by decide) rfl
theorem Fa:cI prog 34 2 2:=cA underlying34 rfl sizeOf32 (by decide) rfl
theorem Fb:cI prog 34 3 6:=cA underlying34 rfl sizeOf32 (by decide) rfl
theorem yL:du prog 155 cQ:=⟨sizeOf155,isAgg155⟩
def LT:List Value:=[.int .i64 0,.int .i64 0,.bool false,.int .i64 0,.string (bts [])]
theorem Dt:∀m,cQ.R m LT d3.zero:=λ_=>⟨⟨rfl,au (by decide)⟩,⟨⟨rfl,au (by decide)⟩,⟨rfl,⟨⟨rfl,au (by decide)⟩,⟨rfl,(by decide),(by decide)⟩⟩⟩⟩⟩
theorem B7:cI prog 155 0 0:=cA underlying155 rfl sizeOf3 (by decide) rfl
theorem Du:pi prog 155 5 48:=⟨⟨t155,_,type155,rfl,rfl,rfl,rfl⟩⟩
theorem Nq:cI prog 155 1 1:=cA underlying155 rfl sizeOf32 (by decide) rfl
def UX:List Value:=[.int .i64 0,.int .i64 0,.int .i64 0,.bool false,.int .i64 0,.string (bts []),.int .i64 0,.bool false,.int .i64 0,.string (bts []),.int .i64 0,.int .i64 0]
theorem Pr:∀m,fE.R m UX cd.zero:=λ_=>⟨⟨rfl,au (by decide)⟩,⟨⟨rfl,au (by decide)⟩,⟨⟨⟨rfl,au (by decide)⟩,⟨rfl,⟨⟨rfl,au (by decide)⟩,⟨rfl,(by decide),(by decide)⟩⟩⟩⟩,⟨⟨⟨rfl,au (by decide)⟩,⟨rfl,⟨⟨rfl,au (by decide)⟩,⟨rfl,(by decide),(by decide)⟩⟩⟩⟩,⟨⟨rfl,au (by decide)⟩,⟨rfl,au (by decide)⟩⟩⟩⟩⟩⟩
theorem UY:du prog 37 fE:=⟨sizeOf37,isAgg37⟩
theorem Ps:cI prog 37 2 2:=cA underlying37 rfl sizeOf32 (by decide) rfl
theorem Pt:cI prog 37 3 6:=cA underlying37 rfl sizeOf32 (by decide) rfl
theorem Pu:cI prog 37 4 10:=cA underlying37 rfl sizeOf3 (by decide) rfl
theorem Pv:cI prog 37 1 1:=cA underlying37 rfl sizeOf3 (by decide) rfl
theorem A8:cI prog 34 5 11:=cA underlying34 rfl sizeOf3 (by decide) rfl
theorem Nr:cI prog 161 0 0:=cA underlying161 rfl sizeOf24 (by decide) rfl
theorem Li:du prog 24 (kSl (ag .u8)):=⟨sizeOf24,isAgg24⟩
theorem Ns:cI prog 161 1 1:=cA underlying161 rfl sizeOf4 (by decide) rfl
def Tb:List Value:=[.slice none 0 0,.bool false]
theorem LU:∀m,jm.R m Tb ah.zero:=λ_=>⟨⟨none,0,0,rfl,rfl,Zm _,(by decide),rfl⟩,rfl⟩
theorem Fc:cI prog 34 0 0:=cA underlying34 rfl sizeOf3 (by decide) rfl
theorem Pw:cI prog 37 5 11:=cA underlying37 rfl sizeOf3 (by decide) rfl
theorem Px:cI prog 37 0 0:=cA underlying37 rfl sizeOf3 (by decide) rfl
theorem LV (d:Nat)(w:World)(x y:Ap)(p0:∀n∈x.fText,0<=n/\n<256)(h:∀n∈y.fText,0<=n/\n<256):(Op.equalIn (d+10) 32 (.agg #[.int .i64 x.fKind,.bool x.fBool,.int .i64 x.fInt,.string (bts x.fText)]) (.agg #[.int .i64 y.fKind,.bool y.fBool,.int .i64 y.fInt,.string (bts y.fText)])).run prog w= .ok (decide (x=y)) w:=by
 have e:x=y↔x.fKind=y.fKind/\x.fBool=y.fBool/\x.fInt=y.fInt/\x.fText=y.fText:=by cases x;cases y;simp
 rw[run_equalIn_struct w (d+9) 32 _ _ underlying32 stoodInHeld32];simp only[Program.fieldsOf,underlying32,Op.eqFields];simp[part,run_equalIn_int,run_equalIn_bool',run_equalIn_string,yk p0 h]
 repeat' split
 all_goals simp_all
theorem Py {m:M}{cs:List Value}{x:cd}(h:fE.R m cs x):cs=[.int .i64 x.fKind,.int .i64 x.fMany,.int .i64 x.fMin.fKind,.bool x.fMin.fBool,.int .i64 x.fMin.fInt,.string (bts x.fMin.fText),.int .i64 x.fMax.fKind,.bool x.fMax.fBool,.int .i64 x.fMax.fInt,.string (bts x.fMax.fText),.int .i64 x.fNulls,.int .i64 x.fBytes]/\(∀n∈x.fMin.fText,0<=n/\n<256)/\(∀n∈x.fMax.fText,0<=n/\n<256):=by
 obtain⟨Z,h1,J,W,h4,h5⟩:=h;refine⟨?_,(B5 J).2,(B5 W).2⟩;rw[←Z9 1 cs,show(cs).take 1=_ from Z.1,←Z9 1 ((cs).drop 1),show((cs).drop 1).take 1=_ from h1.1,←Z9 4 (((cs).drop 1).drop 1),show(((cs).drop 1).drop 1).take 4=_ from(B5 J).1,←Z9 4 ((((cs).drop 1).drop 1).drop 4),show((((cs).drop 1).drop 1).drop 4).take 4=_ from(B5 W).1,←Z9 1 (((((cs).drop 1).drop 1).drop 4).drop 4),show(((((cs).drop 1).drop 1).drop 4).drop 4).take 1=_ from h4.1,show(((((cs).drop 1).drop 1).drop 4).drop 4).drop 1=_ from h5.1]
 rfl
theorem UZ:w7 prog 37 fE:=by
 refine⟨λm cs ds x y d w hx J=>?_,λop o o' cs ds w=>?_⟩
 ·obtain⟨rfl,p0,p1⟩:=Py hx
  obtain⟨rfl,W,Z⟩:=Py J;have e:x=y↔x.fKind=y.fKind/\x.fMany=y.fMany/\x.fMin=y.fMin/\x.fMax=y.fMax/\x.fNulls=y.fNulls/\x.fBytes=y.fBytes:=by cases x;cases y;simp
  have e2:=λw=>LV (d+9) w x.fMin y.fMin p0 W;have h:=λw=>LV (d+9) w x.fMax y.fMax p1 Z;show(Op.equalIn (d+20) 37 (.agg #[_,_,_,_,_,_,_,_,_,_,_,_]) (.agg #[_,_,_,_,_,_,_,_,_,_,_,_])).run _ _=_;rw[run_equalIn_struct w (d+19) 37 _ _ underlying37 stoodInHeld37];simp only[Program.fieldsOf,underlying37,Op.eqFields];simp[part,run_equalIn_int,run_equalIn_bool',run_equalIn_string,e2,h]
  repeat' split
  all_goals simp_all
 ·show(eqGuard op 37 o o' (.agg _) (.agg _)).run _ _=_
  cases op<;>simp[eqGuard]
theorem tA:du prog 59 aj:=⟨sizeOf59,isAgg59⟩
def Fd:List Value:=[.int .u64 0,.int .u32 0,.slice none 0 0,.int .u64 0]
theorem zS:∀m,aj.R m Fd aa.zero:=λ_=>⟨⟨⟨rfl,au (by decide)⟩,⟨rfl,au (by decide)⟩⟩,⟨⟨none,0,0,rfl,rfl,Zm _,(by decide),rfl⟩,⟨rfl,au (by decide)⟩⟩⟩
theorem tB:cI prog 59 1 2:=cA underlying59 rfl sizeOf22 (by decide) rfl
theorem Lj:pi prog 59 4 48:=⟨⟨t59,_,type59,rfl,rfl,rfl,rfl⟩⟩
theorem Jk:cI prog 57 0 0:=cA underlying57 rfl sizeOf54 (by decide) rfl
theorem Jl:cI prog 57 1 1:=cA underlying57 rfl sizeOf55 (by decide) rfl
theorem qQ:du prog 49 (kSl (ag .i64)):=⟨sizeOf49,isAgg49⟩
theorem qi:cI prog 59 0 0:=cA underlying59 rfl sizeOf57 (by decide) rfl
theorem yb:du prog 57 bO:=⟨sizeOf57,isAgg57⟩
theorem Fe:cI prog 59 2 3:=cA underlying59 rfl sizeOf54 (by decide) rfl
theorem Lk {m:M}{cs:List Value}{x:aM}(h:bO.R m cs x):cs=[.int .u64 x.fEpoch,.int .u32 x.fNumber]:=by
 obtain⟨J,W⟩:=h
 skip
 rw[←Z9 1 cs,show(cs).take 1=_ from J.1,show(cs).drop 1=_ from W.1]
 rfl
theorem Pz:w7 prog 57 bO:=by
 refine⟨λm cs ds x y d w J h=>?_,λop o o' cs ds w=>?_⟩
 ·obtain rfl:=Lk J
  obtain rfl:=Lk h;have e:x=y↔x.fEpoch=y.fEpoch/\x.fNumber=y.fNumber:=by cases x;cases y;simp
  show(Op.equalIn (d+20) 57 (.agg #[_,_]) (.agg #[_,_])).run _ _=_;rw[run_equalIn_struct w (d+19) 57 _ _ underlying57 stoodInHeld57];simp only[Program.fieldsOf,underlying57,Op.eqFields];simp[part,run_equalIn_int,run_equalIn_bool',run_equalIn_string]
  repeat' split
  all_goals simp_all
 ·show(eqGuard op 57 o o' (.agg _) (.agg _)).run _ _=_
  cases op<;>simp[eqGuard]
theorem Td:laidOutB prog=true:=by kernel_rfl
def Ff (x:aM):Value:= .agg #[.int .u64 x.fEpoch,.int .u32 x.fNumber]
theorem PA {m:M}{v:Value}{x:aM}(h:RV bO m v x):v=Ff x:=by
 obtain⟨cs,h,rfl⟩:=h;obtain rfl:=Lk h
 rfl
theorem U0 {m:M}{v:Value}{x:aM}(h:RV bO m v x):∃l,keyOf prog 57 v=some l:=by
 rw[PA h];obtain⟨cs,h,rfl⟩:=h;obtain⟨J,W⟩:=h;exact HY (d:=250) underlying57 (by decide) underlying54 underlying55 rfl rfl (by kernel_rfl) (by kernel_rfl) (by kernel_rfl) (by kernel_rfl) (by kernel_rfl) (LC J.2) (LC W.2)
theorem U3 {x y:aM}(h:Ff x=Ff y):x=y:=by
 obtain⟨J,W⟩:=x;obtain⟨Z,b1⟩:=y;simp[Ff] at h;simp[h]
def Hy:DV prog 57 bO:=⟨Ff,PA,U3,deep_law_laid Td (m:=2) (by omega) (of_decide_eq_true (by kernel_rfl)) (by kernel_rfl) (by rw[underlying57]),U0⟩
def uo:List Value:=[.int .i64 0,.slice none 0 0,.slice none 0 0]
theorem Dv:∀m,bS.R m uo aB.zero:=λ_=>⟨⟨rfl,au (by decide)⟩,⟨⟨none,0,0,rfl,rfl,Zm _,(by decide),rfl⟩,⟨none,0,0,rfl,rfl,Zm _,(by decide),rfl⟩⟩⟩
theorem Te:du prog 178 kA4:=⟨sizeOf178,isAgg178⟩
theorem Tf:w7 prog 178 kA4:=UQ underlying178 type5 (by kernel_rfl) underlying5 isAgg5 (by kernel_rfl)
theorem pH:cI prog 120 0 0:=cA underlying120 rfl sizeOf3 (by decide) rfl
theorem qR:cI prog 120 1 1:=cA underlying120 rfl sizeOf49 (by decide) rfl
theorem el3:pi prog 3 1 8:=⟨⟨t3,_,type3,rfl,rfl,rfl,rfl⟩⟩
theorem qS:cI prog 120 2 2:=cA underlying120 rfl sizeOf50 (by decide) rfl
theorem Fg:du prog 50 (kSl aj):=⟨sizeOf50,isAgg50⟩
def U4:List Value:=[.int .u64 0,.int .u32 0]
theorem Ll:∀m,bO.R m U4 aM.zero:=λ_=>⟨⟨rfl,au (by decide)⟩,⟨rfl,au (by decide)⟩⟩
theorem PB:cI prog 62 3 3:=cA underlying62 rfl sizeOf50 (by decide) rfl
theorem PC:cI prog 62 0 0:=cA underlying62 rfl sizeOf3 (by decide) rfl
theorem PD:cI prog 62 1 1:=cA underlying62 rfl sizeOf49 (by decide) rfl
theorem PE:cI prog 62 2 2:=cA underlying62 rfl sizeOf49 (by decide) rfl
def ov:List Value:=[.int .i64 0,.slice none 0 0,.slice none 0 0]
theorem gv:∀m,jE.R m ov bI.zero:=λ_=>⟨⟨rfl,au (by decide)⟩,⟨⟨none,0,0,rfl,rfl,Zm _,(by decide),rfl⟩,⟨none,0,0,rfl,rfl,Zm _,(by decide),rfl⟩⟩⟩
theorem kK:du prog 70 jE:=⟨sizeOf70,isAgg70⟩
theorem vo:cI prog 70 1 1:=cA underlying70 rfl sizeOf49 (by decide) rfl
theorem U5:du prog 65 (kPt bS):=⟨sizeOf65,isAgg65⟩
theorem Jm:cI prog 70 2 2:=cA underlying70 rfl sizeOf50 (by decide) rfl
theorem yc:cI prog 70 0 0:=cA underlying70 rfl sizeOf3 (by decide) rfl
theorem PF:pi prog 22 1 24:=⟨⟨t22,_,type22,rfl,rfl,rfl,rfl⟩⟩
open Go.Proofs Go.Shelf Go.Lib
open Go.Sort (putRowK flatK HoldsK SWO PermIn SortedIn)
section
variable {P:Program}{W0:Bse}{m:M}{L:List (Nat×List Value)}{TL:List (Nat×Value)}{w:World}{O:Type}{k:Kd O}{b:Nat}{cs:List Value}{xs:List O}
theorem S.rebase (h:S W0 m w L TL):S ⟨w,λ_=>none⟩ m w [] []:=
 ⟨⟨Bel.refl _ _,λk o h=>by cases h⟩,h.imm,λi e J=>by simp at J,λi j e e' J=>by simp at J,λi e J=>by simp at J,λi j e e' J=>by simp at J⟩
theorem PG (l:List (El k m xs)):Rl k m (l.flatMap λa=>a.1.1) (l.map λa=>a.1.2):=by
 induction l with
 |nil=>exact Rl.nil
 |cons a r ih=>exact Rl.app (Rl.single a.2.1) ih
theorem Hz {ρ:Ren}{v fv:Value}{a0:O->O->Option Int}{r:List O}(Ly:SlLaysF0.n6 P ρ)(aE:∀w,(isAgg (ρ.t 24)).run P w= .ok true w)(zE:∀w,(Go.sizeOf (ρ.t 24)).run P w= .ok k.sz w)(d2:k.agg=true)
  (hS:S W0 m w ((b,cs)::L) TL) (hg:GS k m b cs v xs) (hf:Fn2 P k k (ag .i64) m fv a0) (h:yn a0 xs=some r):
  Calls P (ρ.f 6) #[v,fv] w (Ret λ_ w'=>∃m',M.le m m'/\∃q0:List Value,S W0 m' w' ((b,q0)::L) TL/\GS k m' b q0 v r):=by
 obtain⟨g,cb,rfl,eg,e6⟩:=hf;obtain⟨a3,a9,e0⟩:=z7 h;have a5:r.length=xs.length:=a9.length_eq
 by_cases hx:xs=[]
 ·subst hx
  have hr:r=[]:=List.eq_nil_of_length_eq_zero a5;subst hr;obtain⟨a,cap,rfl,_⟩:=hg.val;refine(AnyF.slices_SortFunc_none Ly a cap (.func (.func g) #[] cb) w).mono ?_;rintro e w' ⟨rfl,rfl⟩;exact⟨m,M.le.refl m,cs,hS,hg⟩
 ·have e9:=hg
  obtain⟨h0,⟨rfl,_⟩|⟨cap,rfl,h2,h3,h4⟩⟩:=hg
  ·exact absurd rfl hx
  have hn:0<xs.length:=List.length_pos_iff.2 hx;have hp:=k.pos;have e8:xs.length*k.sz<=cap*k.sz:=Nat.mul_le_mul_right _ h2;have e7:0<xs.length*k.sz:=Nat.mul_pos hn hp;have b3:cs≠[]:=λe=>by subst e;simp at h3;omega
  obtain⟨W,b7,e5⟩:=GE h4
  have a1:W.length=xs.length:=by
   have:=congrArg List.length b7;simpa using this
  obtain⟨hB,hm,t,ht⟩:=hS.own 0 _ rfl b3;simp only at hB hm ht;have hi:Inhabited (El k m xs):=⟨W[0]'(by omega)⟩
  have c3:b<w.heap.size:=(Array.getElem?_eq_some_iff.1 ht).1
  have b4:∀(J:Nat) (os:Array Obj) (dk:Array (El k m xs)),dk.size=xs.length->sortWorldK (λa:El k m xs=>a.1.1) k.sz w b 0 J dk os=Go.Sort.grow ((Go.Sort.ahead w J).setRow b (((dk.toList.flatMap λa=>a.1.1)++cs.drop (xs.length*k.sz)).toArray)) os:=by
   intro J os dk a6;unfold sortWorldK;rw[HT _ _ (Go.Sort.ahead w J) b cs t dk ht (by rw[a6];omega),DQ,a6]
  have b6:∀(J:Nat) (os:Array Obj) (q:List Value),S W0 m (Go.Sort.grow ((Go.Sort.ahead w J).setRow b q.toArray) os) ((b,q)::L) TL:=λJ os q=>((hS.aheadN J).setL (i:=0) rfl b3 q).more os;have e4:∀x y:El k m xs,∃c,a0 x.1.2 y.1.2=some c/\inR .i64 c:=λx y=>a3.1 _ x.2.2 _ y.2.2
  have e3:CmpLays P g cb (λa:El k m xs=>a.1.1) k.sz (λx y=>(a0 x.1.2 y.1.2).getD 0) b 0 W.toArray.size w:=by
   intro J os dk a6 x y;rw[b4 J os dk (by rw[a6];simpa using a1)];generalize hw1:Go.Sort.grow ((Go.Sort.ahead w J).setRow b _) os=w1;have b2:=(b6 J os ((dk.toList.flatMap λa=>a.1.1)++cs.drop (xs.length*k.sz))).rebase;rw[hw1] at b2;obtain⟨c,hc,_⟩:=e4 x y;have hv:∀z:El k m xs,Value.agg z.1.1.toArray=k.val z.1.1:=λz=>by simp[Kd.val,d2]
   rw[hv x,hv y];refine(e6 ⟨w1,λ_=>none⟩ m w1 [] [] _ _ x.1.2 y.1.2 c (M.le.refl m) b2 ⟨_,x.2.1,rfl⟩ ⟨_,y.2.1,rfl⟩ hc).mono ?_;intro e w' he;cases e with
   |returned u=>
    obtain⟨m',_,d1,hu⟩:=he;obtain⟨rfl,_⟩:=aJ hu;exact⟨by simp[hc],DP d1.below.toBel⟩
   |panicked ch=>exact he.elim
   |outgrown=>exact he.elim
  have hO:SWO (ltOf λx y:El k m xs=>(a0 x.1.2 y.1.2).getD 0):=by
   refine⟨λx=>?_,λx y z h1 h2=>?_,λx y z h1 h2=>?_⟩
   ·simp only[ltOf,decide_eq_false_iff_not];exact a3.2.1 _ x.2.2
   ·simp only[ltOf,decide_eq_true_eq] at*;exact a3.2.2.1 _ x.2.2 _ y.2.2 _ z.2.2 h1 h2
   ·simp only[ltOf,decide_eq_false_iff_not] at*;exact a3.2.2.2.1 _ x.2.2 _ y.2.2 _ z.2.2 h1 h2
  have hH:HoldsK (λa:El k m xs=>a.1.1) k.sz w b 0 W.toArray:=by
   intro j hj;have a2:j<xs.length*k.sz:=by simpa[a1] using hj
   have b1:=DQ W.toArray
   have e1:(flatK (λa:El k m xs=>a.1.1) k.sz W.toArray)[j]! =cs[j]'(by omega):=by
    rw[getElem!_pos _ j (by simpa[a1] using a2)]
    have:(flatK (λa:El k m xs=>a.1.1) k.sz W.toArray).toList[j]? =cs[j]? :=by
     rw[b1];show(W.flatMap _)[j]? =_;rw[e5,List.getElem?_take,if_pos a2]
    rw[Z1 (by simpa[a1] using a2),Z1 (by omega)] at this;injection this with this
   refine⟨?_,?_⟩
   ·rw[e1]
    simp[World.cell?,ht,show j<cs.length by omega]
   ·simp[World.frozen?,ht]
  have c0:=AnyQ.slices_SortFunc Ly k.sz aE zE (λa:El k m xs=>a.1.1) (λx=>k.len x.2.1) (λx v hv=>k.one x.2.1 v hv) (λx y=>(a0 x.1.2 y.1.2).getD 0) hO g cb b 0 cap W.toArray w eg e3 hH c3 (by have:xs.length<=281474976710656:=h0;simp[a1];omega);have b0:W.toArray.size=xs.length:=by simpa using a1
  rw[b0] at c0;refine c0.mono ?_;rintro e w' ⟨rfl,Z,n,os,b5,c2,rfl⟩;have a4:Z.size=xs.length:=by rw[b5.1,b0]
  rw[b4 n os Z a4];refine⟨m,M.le.refl m,_,b6 n os _,?_⟩;have hR:=PG Z.toList
  have c5:(Z.toList.map λa=>a.1.2)=r:=by
   have c1:(Z.toList.map λa=>a.1.2).Perm xs:=by
    have:=b5.2.2;rw[←a4,Array.extract_size] at this;rw[a4,←b0,Array.extract_size] at this;have h9:=this.map (λa:El k m xs=>a.1.2);rw[List.toList_toArray,b7] at h9;exact h9
   have c6:(Z.toList.map λa=>a.1.2).Pairwise (λx y=> ¬ (a0 y x).getD 0<0):=by
    rw[List.pairwise_map,Zf];intro i j hi' a2 c7;have:=c2 i j (Nat.zero_le _) c7 (by simpa[a4] using a2);rw[getElem!_pos Z i (by simpa using hi'),getElem!_pos Z j (by simpa using a2)] at this;simpa[ltOf] using this
   refine List.Perm.eq_of_pairwise (le:=λx y=> ¬ (a0 y x).getD 0<0) ?_ c6 e0 (c1.trans a9.symm);intro x y d0 c4 h1 h2;exact a3.2.2.2.2 x (c1.mem_iff.1 d0) y (a9.mem_iff.1 c4) h2 h1
  have b1:(Z.toList.flatMap λa=>a.1.1).length=xs.length*k.sz:=by
   have:=hR.1;simpa[a4] using this
  refine⟨by rw[a5];exact h0,.inr ⟨cap,by rw[a5],by rw[a5];exact h2,by simp[b1];omega,?_⟩⟩;rw[a5,Zr (by omega),Z2 (by omega),←c5];exact hR
end
open Go.Proofs Tryz
def zb:Go.Shelf.Ren:=⟨fun|6=>148|15=>152|14=>178|28=>179|29=>154|20=>186|21=>187|22=>188|23=>189|24=>190|25=>191|26=>192|27=>193|46=>199|47=>200|48=>201|49=>202|50=>203|57=>204|n=>n,fun|22=>22|24=>32|25=>134|3=>3|39=>94|0=>0|53=>55|55=>54|4=>4|46=>219|45=>218|50=>78|5=>5|9=>9|66=>228|70=>231|76=>233|77=>234|n=>n,λn=>n⟩
theorem Nt:SlLaysF0.n6 prog zb:={
 mixed:=by kernel_rfl
 f6:=⟨f148.name,by decide,func148.trans (congrArg some (by kernel_rfl))⟩
 f14:=⟨f178.name,by decide,func178.trans (congrArg some (by kernel_rfl))⟩
 f15:=func152.trans (congrArg some (by kernel_rfl))
 f20:=⟨f186.name,by decide,func186.trans (congrArg some (by kernel_rfl))⟩
 f21:=⟨f187.name,by decide,func187.trans (congrArg some (by kernel_rfl))⟩
 f22:=⟨f188.name,by decide,func188.trans (congrArg some (by kernel_rfl))⟩
 f23:=⟨f189.name,by decide,func189.trans (congrArg some (by kernel_rfl))⟩
 f24:=⟨f190.name,by decide,func190.trans (congrArg some (by kernel_rfl))⟩
 f25:=⟨f191.name,by decide,func191.trans (congrArg some (by kernel_rfl))⟩
 f26:=⟨f192.name,by decide,func192.trans (congrArg some (by kernel_rfl))⟩
 f27:=⟨f193.name,by decide,func193.trans (congrArg some (by kernel_rfl))⟩
 f28:=func179.trans (congrArg some (by kernel_rfl))
 f29:=func154.trans (congrArg some (by kernel_rfl))
 f46:=⟨f199.name,by decide,func199.trans (congrArg some (by kernel_rfl))⟩
 f47:=func200.trans (congrArg some (by kernel_rfl))
 f48:=func201.trans (congrArg some (by kernel_rfl))
 f49:=⟨f202.name,by decide,func202.trans (congrArg some (by kernel_rfl))⟩
 f50:=⟨f203.name,by decide,func203.trans (congrArg some (by kernel_rfl))⟩
 f57:=⟨f204.name,by decide,func204.trans (congrArg some (by kernel_rfl))⟩
 t0:=underlying0
 a0:=isAgg0
 z0:=sizeOf0
 v0:=zeroValue0
 t3:=underlying3
 a3:=isAgg3
 z3:=sizeOf3
 v3:=zeroValue3
 t4:=underlying4
 a4:=isAgg4
 z4:=sizeOf4
 v4:=zeroValue4
 t5:=underlying5
 a5:=isAgg5
 z5:=sizeOf5
 v5:=zeroValue5
 t9:=underlying9
 a9:=isAgg9
 z9:=sizeOf9
 v9:=zeroValue9
 t22:=underlying22
 a22:=isAgg22
 z22:=sizeOf22
 v22:=zeroValue22
 t25:=underlying134
 a25:=isAgg134
 z25:=sizeOf134
 v25:=zeroValue134
 t39:=underlying94
 a39:=isAgg94
 z39:=sizeOf94
 v39:=zeroValue94
 t45:=underlying218
 a45:=isAgg218
 z45:=sizeOf218
 v45:=zeroValue218
 t46:=underlying219
 a46:=isAgg219
 z46:=sizeOf219
 v46:=zeroValue219
 t50:=underlying78
 a50:=isAgg78
 z50:=sizeOf78
 v50:=zeroValue78
 t53:=underlying55
 a53:=isAgg55
 z53:=sizeOf55
 v53:=zeroValue55
 t55:=underlying54
 a55:=isAgg54
 z55:=sizeOf54
 v55:=zeroValue54
 t66:=underlying228
 a66:=isAgg228
 z66:=sizeOf228
 v66:=zeroValue228
 t70:=underlying231
 a70:=isAgg231
 z70:=sizeOf231
 v70:=zeroValue231
 t76:=underlying233
 a76:=isAgg233
 z76:=sizeOf233
 v76:=zeroValue233
 t77:=underlying234
 a77:=isAgg234
 z77:=sizeOf234
 v77:=zeroValue234
}
set_option maxRecDepth 100000
open Go.Proofs Tryz
theorem Tg:du prog 161 jm:=⟨sizeOf161,isAgg161⟩
theorem U6:du prog 62 ce:=⟨sizeOf62,isAgg62⟩
def U7:List Value:=[.int .i64 0,.slice none 0 0,.slice none 0 0,.slice none 0 0]
theorem PH:∀m,ce.R m U7 dp.zero:=λ_=>⟨⟨rfl,au (by decide)⟩,⟨⟨none,0,0,rfl,rfl,Zm _,(by decide),rfl⟩,⟨⟨none,0,0,rfl,rfl,Zm _,(by decide),rfl⟩,⟨none,0,0,rfl,rfl,Zm _,(by decide),rfl⟩⟩⟩⟩
def U8:List Value:=[.pointer none]
theorem U9:∀m,(kPt bS).R m U8 none:=λ_=>rfl
theorem Th:du prog 120 bS:=⟨sizeOf120,isAgg120⟩
def Sz:Sg:=UT [(32,⟨Ap,kAp⟩),(57,⟨aM,bO⟩),(59,⟨aa,aj⟩),(187,⟨aS,cy⟩),(34,⟨bv,cX⟩),(120,⟨aB,bS⟩),(161,⟨ah,jm⟩),(37,⟨cd,fE⟩),(155,⟨d3,cQ⟩),(70,⟨bI,jE⟩),(62,⟨dp,ce⟩),(65,⟨(Option aB),(kPt bS)⟩)]
def ti2:TI prog Sz 2:=pJ underlying2 sizeOf2 isAgg2 zeroValue2 rfl (by decide)
def ti3:TI prog Sz 3:=pJ underlying3 sizeOf3 isAgg3 zeroValue3 rfl (by decide)
def ti4:TI prog Sz 4:=Of underlying4 sizeOf4 isAgg4 zeroValue4 rfl
def ti5:TI prog Sz 5:=pJ underlying5 sizeOf5 isAgg5 zeroValue5 rfl (by decide)
def ti6:TI prog Sz 6:=pJ underlying6 sizeOf6 isAgg6 zeroValue6 rfl (by decide)
def ti9:TI prog Sz 9:=G5 underlying9 sizeOf9 isAgg9 zeroValue9 rfl
def Va:TI prog Sz 10:=G5 underlying10 sizeOf10 isAgg10 zeroValue10 rfl
def Vb:TI prog Sz 11:=G5 underlying11 sizeOf11 isAgg11 zeroValue11 rfl
def Vc:TI prog Sz 12:=pJ underlying12 sizeOf12 isAgg12 zeroValue12 rfl (by decide)
def Vd:TI prog Sz 21:=pJ underlying21 sizeOf21 isAgg21 zeroValue21 rfl (by decide)
def Ve:TI prog Sz 25:=pJ underlying25 sizeOf25 isAgg25 zeroValue25 rfl (by decide)
def PI:TI prog Sz 54:=pJ underlying54 sizeOf54 isAgg54 zeroValue54 rfl (by decide)
def PJ:TI prog Sz 55:=pJ underlying55 sizeOf55 isAgg55 zeroValue55 rfl (by decide)
def Vf:TI prog Sz 94:=pJ underlying94 sizeOf94 isAgg94 zeroValue94 rfl (by decide)
def Ti:TI prog Sz 218:=pJ underlying218 sizeOf218 isAgg218 zeroValue218 rfl (by decide)
def Vg:TI prog Sz 24:=vJ _ (slI ti5 _ 1 underlying24 sizeOf5 el5 type5 rfl rfl rfl) sizeOf24 isAgg24 zeroValue24 rfl
def PK:TI prog Sz 32:=rH eD zeroValue32 Ap.zero tz
def Vh:TI prog Sz 49:=vJ _ (slI ti3 _ 8 underlying49 sizeOf3 el3 type3 rfl rfl rfl) sizeOf49 isAgg49 zeroValue49 rfl
def Vi:TI prog Sz 57:=rH yb zeroValue57 aM.zero Ll
def Tj:TI prog Sz 143:=vJ _ (slI ti2 _ 8 underlying143 sizeOf2 el2 type2 rfl rfl rfl) sizeOf143 isAgg143 zeroValue143 rfl
def Tk:TI prog Sz 189:=vJ _ (slI PI _ 8 underlying189 sizeOf54 Pq type54 rfl rfl rfl) sizeOf189 isAgg189 zeroValue189 rfl
def PL:TI prog Sz 22:=vJ _ (slI PK _ 40 underlying22 sizeOf32 B4 type32 rfl rfl rfl) sizeOf22 isAgg22 zeroValue22 rfl
def Vj:TI prog Sz 34:=rH zR zeroValue34 bv.zero zQ
def Vk:TI prog Sz 37:=rH UY zeroValue37 cd.zero Pr
def LW:TI prog Sz 155:=rH yL zeroValue155 d3.zero Dt
def Tl:TI prog Sz 161:=rH Tg zeroValue161 ah.zero LU
def LX:TI prog Sz 187:=rH Ta zeroValue187 aS.zero Hw
def PM:TI prog Sz 59:=rH tA zeroValue59 aa.zero zS
def Tn:TI prog Sz 126:=vJ _ (slI PL _ 24 underlying126 sizeOf22 PF type22 rfl rfl rfl) sizeOf126 isAgg126 zeroValue126 rfl
def To:TI prog Sz 152:=vJ _ (slI LW _ 48 underlying152 sizeOf155 Du type155 rfl rfl rfl) sizeOf152 isAgg152 zeroValue152 rfl
def Tq:TI prog Sz 185:=vJ _ (slI LX _ 48 underlying185 sizeOf187 LS type187 rfl rfl rfl) sizeOf185 isAgg185 zeroValue185 rfl
def Vl:TI prog Sz 50:=vJ _ (slI PM _ 48 underlying50 sizeOf59 Lj type59 rfl rfl rfl) sizeOf50 isAgg50 zeroValue50 rfl
def Vm:TI prog Sz 62:=rH U6 zeroValue62 dp.zero PH
def Vn:TI prog Sz 70:=rH kK zeroValue70 bI.zero gv
def Tt:TI prog Sz 120:=rH Th zeroValue120 aB.zero Dv
def Vo:TI prog Sz 65:=rH U5 zeroValue65 none U9
def Tu:AI prog Sz 177:=arI PJ 16 underlying177 sizeOf55 zeroValue177 rfl rfl
def Tv:AI prog Sz 178:=arI ti5 4 underlying178 sizeOf5 zeroValue178 rfl rfl
def Tw:AI prog Sz 224:=arI ti5 8 underlying224 sizeOf5 zeroValue224 rfl rfl
def PN:FI prog Sz 32 0:=⟨(.int .i64),⟨0,λx=>x.fKind,λx y=>{ x with fKind:=y },Jb,OH⟩,A7⟩
def PO:FI prog Sz 32 1:=⟨.bool,⟨1,λx=>x.fBool,λx y=>{ x with fBool:=y },OI,OK⟩,Po⟩
def PP:FI prog Sz 32 2:=⟨(.int .i64),⟨2,λx=>x.fInt,λx y=>{ x with fInt:=y },vm,OL⟩,nr⟩
def PQ:FI prog Sz 32 3:=⟨.str,⟨3,λx=>x.fText,λx y=>{ x with fText:=y },OM,ON⟩,Pp⟩
def Vp:BI prog Sz 32:=⟨_,[(0,1),(1,1),(2,1),(3,1)],Ap.zero,_,underlying32,rfl,zeroValue32,tz,rfl⟩
def PS:FI prog Sz 57 0:=⟨(.int .u64),⟨0,λx=>x.fEpoch,λx y=>{ x with fEpoch:=y },O7,E5⟩,Jk⟩
def PT:FI prog Sz 57 1:=⟨(.int .u32),⟨1,λx=>x.fNumber,λx y=>{ x with fNumber:=y },O8,E6⟩,Jl⟩
def Vq:BI prog Sz 57:=⟨_,[(0,1),(1,1)],aM.zero,_,underlying57,rfl,zeroValue57,Ll,rfl⟩
def PU:FI prog Sz 59 0:=⟨(.st 57),⟨0,λx=>x.fId,λx y=>{ x with fId:=y },A5,A6⟩,qi⟩
def PV:FI prog Sz 59 1:=⟨(.sl (.st 32)),⟨2,λx=>x.fRow,λx y=>{ x with fRow:=y },O9,E7⟩,tB⟩
def PW:FI prog Sz 59 2:=⟨(.int .u64),⟨3,λx=>x.fDeleted,λx y=>{ x with fDeleted:=y },Pa,E8⟩,Fe⟩
def Vr:BI prog Sz 59:=⟨_,[(0,2),(2,1),(3,1)],aa.zero,_,underlying59,rfl,zeroValue59,zS,rfl⟩
def Nu:FI prog Sz 187 0:=⟨(.int .i64),⟨0,λx=>x.fMany,λx y=>{ x with fMany:=y },Nh,BY⟩,B6⟩
def Nv:FI prog Sz 187 1:=⟨(.st 32),⟨1,λx=>x.fValue,λx y=>{ x with fValue:=y },Ni,Gr⟩,Gw⟩
def Tx:BI prog Sz 187:=⟨_,[(0,1),(1,4)],aS.zero,_,underlying187,rfl,zeroValue187,Hw,rfl⟩
def PX:FI prog Sz 34 0:=⟨(.int .i64),⟨0,λx=>x.fKind,λx y=>{ x with fKind:=y },OO,Jc⟩,Fc⟩
def PY:FI prog Sz 34 1:=⟨(.int .i64),⟨1,λx=>x.fMany,λx y=>{ x with fMany:=y },OP,Jd⟩,Jj⟩
def PZ:FI prog Sz 34 2:=⟨(.st 32),⟨2,λx=>x.fMin,λx y=>{ x with fMin:=y },OQ,Je⟩,Fa⟩
def P0:FI prog Sz 34 3:=⟨(.st 32),⟨6,λx=>x.fMax,λx y=>{ x with fMax:=y },OR,Jf⟩,Fb⟩
def P1:FI prog Sz 34 4:=⟨(.int .i64),⟨10,λx=>x.fNulls,λx y=>{ x with fNulls:=y },OS,Jg⟩,ya⟩
def P2:FI prog Sz 34 5:=⟨(.int .i64),⟨11,λx=>x.fBytes,λx y=>{ x with fBytes:=y },OT,OU⟩,A8⟩
def Vs:BI prog Sz 34:=⟨_,[(0,1),(1,1),(2,4),(6,4),(10,1),(11,1)],bv.zero,_,underlying34,rfl,zeroValue34,zQ,rfl⟩
def Nw:FI prog Sz 120 0:=⟨(.int .i64),⟨0,λx=>x.fColumns,λx y=>{ x with fColumns:=y },Gt,Gu⟩,pH⟩
def Nx:FI prog Sz 120 1:=⟨(.sl (.int .i64)),⟨1,λx=>x.fSort,λx y=>{ x with fSort:=y },B3,Gv⟩,qR⟩
def Ny:FI prog Sz 120 2:=⟨(.sl (.st 59)),⟨2,λx=>x.fL,λx y=>{ x with fL:=y },vn,Np⟩,qS⟩
def Tz:BI prog Sz 120:=⟨_,[(0,1),(1,1),(2,1)],aB.zero,_,underlying120,rfl,zeroValue120,Dv,rfl⟩
def Nz:FI prog Sz 161 0:=⟨(.sl (.int .u8)),⟨0,λx=>x.fB,λx y=>{ x with fB:=y },Nl,Nm⟩,Nr⟩
def NA:FI prog Sz 161 1:=⟨.bool,⟨1,λx=>x.fOk,λx y=>{ x with fOk:=y },Nn,No⟩,Ns⟩
def TA:BI prog Sz 161:=⟨_,[(0,1),(1,1)],ah.zero,_,underlying161,rfl,zeroValue161,LU,rfl⟩
def P3:FI prog Sz 37 0:=⟨(.int .i64),⟨0,λx=>x.fKind,λx y=>{ x with fKind:=y },OV,OW⟩,Px⟩
def P4:FI prog Sz 37 1:=⟨(.int .i64),⟨1,λx=>x.fMany,λx y=>{ x with fMany:=y },OX,OY⟩,Pv⟩
def P5:FI prog Sz 37 2:=⟨(.st 32),⟨2,λx=>x.fMin,λx y=>{ x with fMin:=y },OZ,O0⟩,Ps⟩
def P6:FI prog Sz 37 3:=⟨(.st 32),⟨6,λx=>x.fMax,λx y=>{ x with fMax:=y },O1,O2⟩,Pt⟩
def P7:FI prog Sz 37 4:=⟨(.int .i64),⟨10,λx=>x.fNulls,λx y=>{ x with fNulls:=y },O3,O4⟩,Pu⟩
def P8:FI prog Sz 37 5:=⟨(.int .i64),⟨11,λx=>x.fBytes,λx y=>{ x with fBytes:=y },O5,O6⟩,Pw⟩
def Vt:BI prog Sz 37:=⟨_,[(0,1),(1,1),(2,4),(6,4),(10,1),(11,1)],cd.zero,_,underlying37,rfl,zeroValue37,Pr,rfl⟩
def NB:FI prog Sz 155 0:=⟨(.int .i64),⟨0,λx=>x.fMany,λx y=>{ x with fMany:=y },Nj,BZ⟩,B7⟩
def NC:FI prog Sz 155 1:=⟨(.st 32),⟨1,λx=>x.fValue,λx y=>{ x with fValue:=y },Nk,Gs⟩,Nq⟩
def TB:BI prog Sz 155:=⟨_,[(0,1),(1,4)],d3.zero,_,underlying155,rfl,zeroValue155,Dt,rfl⟩
def P9:FI prog Sz 70 0:=⟨(.int .i64),⟨0,λx=>x.fColumns,λx y=>{ x with fColumns:=y },Pj,E9⟩,yc⟩
def Qa:FI prog Sz 70 1:=⟨(.sl (.int .i64)),⟨1,λx=>x.fSort,λx y=>{ x with fSort:=y },Pk,Jh⟩,vo⟩
def Qb:FI prog Sz 70 2:=⟨(.sl (.st 59)),⟨2,λx=>x.fL,λx y=>{ x with fL:=y },Pn,Ji⟩,Jm⟩
def Vu:BI prog Sz 70:=⟨_,[(0,1),(1,1),(2,1)],bI.zero,_,underlying70,rfl,zeroValue70,gv,rfl⟩
def Qc:FI prog Sz 62 0:=⟨(.int .i64),⟨0,λx=>x.fColumns,λx y=>{ x with fColumns:=y },Pb,Pc⟩,PC⟩
def Qd:FI prog Sz 62 1:=⟨(.sl (.int .i64)),⟨1,λx=>x.fSort,λx y=>{ x with fSort:=y },Pd,Pe⟩,PD⟩
def Qe:FI prog Sz 62 2:=⟨(.sl (.int .i64)),⟨2,λx=>x.fKinds,λx y=>{ x with fKinds:=y },Pf,Pg⟩,PE⟩
def Qf:FI prog Sz 62 3:=⟨(.sl (.st 59)),⟨3,λx=>x.fL,λx y=>{ x with fL:=y },Ph,Pi⟩,PB⟩
def Vv:BI prog Sz 62:=⟨_,[(0,1),(1,1),(2,1),(3,1)],dp.zero,_,underlying62,rfl,zeroValue62,PH,rfl⟩
def Qg:EI prog Sz 32:=⟨inferInstanceAs (DecidableEq Ap),zP,rfl⟩
def Qh:EI prog Sz 57:=⟨inferInstanceAs (DecidableEq aM),Pz,rfl⟩
def Qi:EI prog Sz 37:=⟨inferInstanceAs (DecidableEq cd),UZ,rfl⟩
def Vw:NI prog Sz 65:=⟨120,λx=>x,_,underlying65,λ_ _ _ h=>h⟩
def Γ:Tab prog Sz:=⟨yx [⟨2,ti2⟩,⟨3,ti3⟩,⟨4,ti4⟩,⟨5,ti5⟩,⟨6,ti6⟩,⟨9,ti9⟩,⟨10,Va⟩,⟨11,Vb⟩,⟨12,Vc⟩,⟨21,Vd⟩,⟨22,PL⟩,⟨24,Vg⟩,⟨25,Ve⟩,⟨32,PK⟩,⟨34,Vj⟩,⟨37,Vk⟩,⟨49,Vh⟩,⟨50,Vl⟩,⟨54,PI⟩,⟨55,PJ⟩,⟨57,Vi⟩,⟨59,PM⟩,⟨62,Vm⟩,⟨65,Vo⟩,⟨70,Vn⟩,⟨94,Vf⟩,⟨120,Tt⟩,⟨126,Tn⟩,⟨143,Tj⟩,⟨152,To⟩,⟨155,LW⟩,⟨161,Tl⟩,⟨185,Tq⟩,⟨187,LX⟩,⟨189,Tk⟩,⟨218,Ti⟩],yx [⟨177,Tu⟩,⟨178,Tv⟩,⟨224,Tw⟩],En [⟨32,0,PN⟩,⟨32,1,PO⟩,⟨32,2,PP⟩,⟨32,3,PQ⟩,⟨57,0,PS⟩,⟨57,1,PT⟩,⟨59,0,PU⟩,⟨59,1,PV⟩,⟨59,2,PW⟩,⟨187,0,Nu⟩,⟨187,1,Nv⟩,⟨34,0,PX⟩,⟨34,1,PY⟩,⟨34,2,PZ⟩,⟨34,3,P0⟩,⟨34,4,P1⟩,⟨34,5,P2⟩,⟨120,0,Nw⟩,⟨120,1,Nx⟩,⟨120,2,Ny⟩,⟨161,0,Nz⟩,⟨161,1,NA⟩,⟨37,0,P3⟩,⟨37,1,P4⟩,⟨37,2,P5⟩,⟨37,3,P6⟩,⟨37,4,P7⟩,⟨37,5,P8⟩,⟨155,0,NB⟩,⟨155,1,NC⟩,⟨70,0,P9⟩,⟨70,1,Qa⟩,⟨70,2,Qb⟩,⟨62,0,Qc⟩,⟨62,1,Qd⟩,⟨62,2,Qe⟩,⟨62,3,Qf⟩],yx [⟨32,Qg⟩,⟨57,Qh⟩,⟨37,Qi⟩],yx [⟨32,Vp⟩,⟨57,Vq⟩,⟨59,Vr⟩,⟨187,Tx⟩,⟨34,Vs⟩,⟨120,Tz⟩,⟨161,TA⟩,⟨37,Vt⟩,⟨155,TB⟩,⟨70,Vu⟩,⟨62,Vv⟩],yx [⟨65,Vw⟩]⟩
def mC {f:FuncId}{ps:List Pm}{rs:List Rm}{g:d6 Sz ps->Option (bC Sz (gT ps rs))}(ok:Ctr Sz prog f ps rs g)(h:∀vs w,(callFunc f vs).run prog w= .ok (.enter f vs) w):CS prog Sz:=⟨f,ps,rs,g,ok,h⟩
theorem ncR {f:FuncId}{fn:Func}{n:Nat}{ps:List Pm}{rs:List Rm}{g:d6 Sz ps->Option (bC Sz (gT ps rs))}(D:List (CS prog Sz))(res:List Nat)(Z:prog.funcs[f]? =some fn)(W:fn.ntmps=n)(A:An Sz (bC Sz (gT ps rs)))(h:∀x,exF n Γ D (fn.body.getD .skip) ps rs res A x=g x)
  (hA:A.nc=true:=by exact rfl) (J:fn.body=some (fn.body.getD .skip):=by exact rfl) (a1:Nat.ble ps.length n=true:=by exact rfl) (a0:fn.results.toList=res.map ResultVar.tmp:=by exact rfl):Ctr Sz prog f ps rs g:=Ctr.nc A hA mixed Z J W a1 a0 h
theorem nxR {f:FuncId}{fn:Func}{n:Nat}{ps:List Pm}{rs:List Rm}{g:d6 Sz ps->Option (bC Sz (gT ps rs))}(D:List (CS prog Sz))(res:List ResultVar)(Z:prog.funcs[f]? =some fn)(W:fn.ntmps=n)(A:An Sz (bC Sz (gT ps rs)))(h:∀x,exX n Γ D (fn.body.getD .skip) ps rs res A x=g x)
  (hA:A.nc=true:=by exact rfl) (J:fn.body=some (fn.body.getD .skip):=by exact rfl) (a1:Nat.ble ps.length n=true:=by exact rfl) (a0:fn.results.toList=res:=by exact rfl):Ctr Sz prog f ps rs g:=Ctr.nX A hA mixed Z J W a1 a0 h
end
end Go.Proofs.YthbonoagbeilkaaGreat.Hay
