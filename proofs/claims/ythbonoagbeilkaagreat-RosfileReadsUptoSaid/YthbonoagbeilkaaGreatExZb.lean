import Derived.Test.YthbonoagbeilkaaGreatHbV
import Derived.Test.YthbonoagbeilkaaGreatHbA
set_option linter.unusedVariables false
set_option linter.unusedSimpArgs false
namespace Go.Proofs.YthbonoagbeilkaaGreat.Hay
open Option renaming bind_some→Z2
open List renaming mem_cons→Z4,all_eq_true→Z5,mem_append→Z8,getElem?_eq_some_iff→Za,getElem?_append_left→Zb,drop_append_of_le_length→Zd,replicate→Ze,any_eq_true→Zf,getElem?_append_right→Zg,drop_eq_getElem_cons→Zh,length_cons→Zi,take_succ_eq_append_getElem→Zj,eq_nil_of_length_eq_zero→Zn,mem_zipIdx_iff_getElem?→Zp,mem_of_mem_take→Zr,length_append→Zw,getElem?_eq_getElem→Zz,mem_map→X5
open Nat renaming le_of_ble_eq_true→zx,eq_of_beq_eq_true→Z1,beq→Z7,le_refl→Z9,blt→Zc,ble_eq_true_of_le→Zk,add_zero→Zo,ble→Zq,beq_refl→Zu,zero_add→X3,le_trans→X4,not_le→X6
open Bool renaming and_eq_true→Z3,or_eq_true→Zl,not_eq_true'→Zm,false_eq_true→Zx
open Int renaming fdiv_eq_ediv_of_nonneg→Zs
open M.le renaming refl→X7
open BitVec renaming toNat_ofInt→Zt,ofInt→Zv
open IntKind renaming i64→j6,u64→Z0,u8→Z6,u32→Zy
theorem Ig{o:Oper}{ρ ρ':Operand->Value}(J:okT o.op=true)(h:∀x∈dV o.op,ρ x=ρ' x):execOp ρ o=execOp ρ' o:=by obtain⟨dst,op,ty,pos,aft,g⟩:=o;cases op with
 |call c=>obtain⟨Z,args,a0⟩:=c;cases Z with
   |builtin b=>
     cases b<;>try cases J
     have:args.map ρ=args.map ρ':=Array.map_congr_left λx W=>h x (by simpa[dV]using W);simp only[execOp,resolve,this]|_=>cases J
 |buildSlice t len ps=>
   have:(ps.map λ(i,x)=>(i,ρ x))=(ps.map λ(i,x)=>(i,ρ' x)):=Array.map_congr_left λx W=>by have:=h x.2 (by simp only[dV,X5];exact⟨x,by simpa using W,rfl⟩);simp[this]
   simp only[execOp,this]|move x=>simp only[execOp,h x (by simp[dV])]|assign x=>simp only[execOp,h x (by simp[dV])]|load t x=>simp only[execOp,h x (by simp[dV])]|store t x y=>simp only[execOp,h x (by simp[dV]),h y (by simp[dV])]|indexAddr t x y=>simp only[execOp,h x (by simp[dV]),h y (by simp[dV])]|fieldAddr t x f=>simp only[execOp,h x (by simp[dV])]|binOp b t x y t2=>simp only[execOp,h x (by simp[dV]),h y (by simp[dV])]|convert t t2 x=>simp only[execOp,h x (by simp[dV])]|_=>cases J
def FC (r:Result Next):Prop:=match r with
 |.ok (.value _) _=>True|.ok .skip _=>True|.halt _ _=>True|_=>False
theorem wh{P:Program}{w:World}(s:Sem Value):FC ((do pure (.value (←s)):Sem Next).run P w):=by simp only[Sem.run_bind];cases s.run P w with
 |ok v w'=>simp[FC]|halt h w'=>trivial
theorem PH{P:Program}{w:World}(s:Sem Unit):FC ((do s;pure .skip:Sem Next).run P w):=by simp only[Sem.run_bind];cases s.run P w with
 |ok v w'=>simp[FC]|halt h w'=>trivial
theorem JA{P:Program}{w:World}{o:Oper}{ρ:Operand->Value}(J:okT o.op=true):FC ((execOp ρ o).run P w):=by obtain⟨dst,op,ty,pos,aft,g⟩:=o;cases op with
 |call c=>obtain⟨W,args,Z⟩:=c;cases W with
   |builtin b=>
     cases b<;>try cases J
     simp only[execOp,resolve,Sem.run_bind,Sem.run_pure,Result.andThen_ok,invoke,builtin];cases (Builtin.append_ Z ty (args.map ρ)).run P w with
     |ok v w'=>trivial|halt h w'=>trivial
   |_=>cases J
 |buildSlice t len ps=>exact wh _|move x=>trivial|assign x=>trivial|load t x=>exact wh _|store t x y=>exact PH _|indexAddr t x y=>exact wh _|fieldAddr t x f=>exact wh _|binOp b t x y t2=>exact wh _|convert t t2 x=>exact wh _|_=>cases J
section
variable{P:Program}{a b:Act}{w:World}{o:Oper}
theorem Ho{d:Option Nat}{u v:Value}(hs:a.tmps.size=b.tmps.size)(h:b.put d u=b.put d v):a.put d u=a.put d v:=by cases d with
 |none=>rfl|some d=>
   by_cases hd:d<b.tmps.size
   · have J:=congrArg (λx=>x.tmps.getD d undef) h;have Z:u=v:=by simpa[Act.put,hd]using J
     rw[Z]
   · have J:∀x:Value,a.put (some d) x=a:=λx=>by
      have W:a.tmps.size<=d:=by omega
      show{a with tmps:=a.tmps.setIfInBounds d x}=a;rw[Array.setIfInBounds_eq_of_size_le W]
     rw[J,J]
theorem a8.congr{Post:Value->World->Prop}(W:okT o.op=true)(h:∀x∈dV o.op,a.eval x=b.eval x)(a1:a.tmps.size=b.tmps.size)(hs:a8 P o b w Post):a8 P o a w Post:=by
 intro ro Kk Q hK;obtain⟨_,J⟩:=hs ro (λc w'=>∃v,c=b.put o.dst v/\Post v w') (λ_ _ _=>False) (λv w' hp=>⟨v,rfl,hp⟩);refine⟨λf _=>trivial,?_⟩;have a0:∀c,o.op≠.defer c:=λc e=>by rw[e]at W;cases W
 rw[Oper.semAt_eq _ a.eval o a0,Ig W h];rw[Oper.semAt_eq _ b.eval o a0]at J;have hv:=JA (P:=P) (w:=w) (ρ:=b.eval) W;cases hr:(execOp b.eval o).run P w with
 |ok x w'=>rw[hr]at J hv;cases x with
   |value v=>obtain⟨u,Z,h4⟩:=J;show Kk (a.put o.dst v) w';rw[Ho a1 Z];exact hK u w' h4|skip=>obtain⟨u,Z,h4⟩:=J;show Kk (a.put o.dst undef) w';rw[Ho a1 Z];exact hK u w' h4|_=>exact hv.elim
 |halt e w'=>rw[hr]at J;cases e with
   |panic v=>exact J.elim|_=>exact J.elim
theorem a8.value{Post:Value->World->Prop}{d:Nat}(hd:o.dst=some d)(hn:d<a.tmps.size){v:Value}(W:ay P o a w v w)(a0:∀c,o.op≠.defer c)(hs:a8 P o a w Post):Post v w:=by
 obtain⟨_,h⟩:=hs none (λc w'=>∃v,c=a.put o.dst v/\Post v w') (λ_ _ _=>False) (λv w' Z=>⟨v,rfl,Z⟩);rw[Oper.semAt_eq _ a.eval o a0]at h;unfold ay at W;rw[W]at h;obtain⟨u,J,h4⟩:=h;rw[hd]at J;have h1:=congrArg (λx=>x.tmps.getD d undef) J;have:v=u:=by simpa[Act.put,hn]using h1
 rw[this];exact h4
end
theorem XA{l:List Nat}{j:Nat}:inN l j=true↔j∈l:=by unfold inN;rw[Zf];exact⟨λ⟨x,J,W⟩=>by rw[Z1 W];exact J,λh=>⟨j,h,Zu j⟩⟩
structure TF (all:List Oper)(k:Nat):Prop where
 lt:k<all.length
 tl:∀(p:Nat) (o:Oper),all[p]?=some o->k<=p->o.guard=none/\okT o.op=true/\(p=k\/p-1∈bm o/\k<p)/\∀j∈d8 all k,∃oj,all[j]?=some oj/\LP o oj j=true
 fr:∀j∈d8 all k,∃oj,all[j]?=some oj/\oj.guard=none/\LO oj.op=true/\(∀e∈bm oj,e∈d8 all k/\e<j)/\∀i∈d8 all k,∃oi d,all[i]?=some oi/\oi.dst=some d/\(i∈bm oj\/∀x∈dV oj.op,opT d x=false)cv:∀o,all[k]?=some o->∀j,j<k->j∉d8 all k->j∈cov all 12 (bm o)ltF:∀j∈d8 all k,j<k
theorem Uk{all:List Oper}{k:Nat}(h:z6 all k=true):TF all k:=by
 unfold z6 at h;simp only[Z3]at h;obtain⟨⟨h1,h3⟩,h2⟩:=h;have h1:k<all.length:=zx h1;refine⟨h1,λp o ho hp=>?_,λj Z=>?_,λo ho j Z hn=>?_,λj Z=>?_⟩
 · have J  :=Z5.1 h2 (o,p) (Zp.2 (by simpa using ho));simp only[Zl,Z3,Zf,Z5]at J;rcases J with J|⟨⟨⟨J,h5⟩,h6⟩,h7⟩
   ·have:p<k:=zx J;omega
   · refine⟨by simpa using J,h5,?_,λj Z=>?_⟩
     · rcases h6 with h6|⟨e,h6,h8⟩;·exact .inl (Z1 h6)
       · have h8:=Z1 h8;by_cases hpk:p=k;·exact .inl hpk
         ·refine .inr ⟨?_,by omega⟩;rw[show p-1=e by omega];exact h6
     · have:=h7 j Z;split at this;·rename_i oj a0;exact⟨oj,a0,this⟩
       ·cases this
 · have J:=Z5.1 h3 j Z;split at J
   · rename_i oj a0;simp only[Z3,Z5]at J;obtain⟨⟨⟨h5,h6⟩,h7⟩,h8⟩:=J;refine⟨oj,a0,by simpa using h5,h6,λe he=>⟨XA.1 (h7 e he).1,zx (h7 e he).2⟩,λi hi=>?_⟩;have W:=h8 i hi;split at W
     · rename_i oi a1;split at W
       · rename_i d hd;refine⟨oi,d,a1,hd,?_⟩;simp only[Zl,Zm]at W;rcases W with W|W;·exact .inl (XA.1 W)
         ·exact .inr λx hx=>by cases hxx:opT d x with
            |false=>rfl|true=>rw[Zf.2 ⟨x,hx,hxx⟩]at W;cases W
       ·cases W
     ·cases W
   ·cases J
 ·unfold d8 at hn;rw[ho]at hn;simp only[List.mem_filter,List.mem_range,Zm,not_and,Bool.not_eq_false]at hn;have:=hn Z;obtain⟨e,J,h5⟩:=Zf.1 this;rw[Z1 h5];exact J
 · unfold d8 at Z;split at Z;·exact List.mem_range.1 (List.mem_filter.1 Z).1
   ·cases Z
theorem Ih (os:List Oper):o5 os os.length=true:=by unfold o5;rw[List.getElem?_eq_none (Z9 _),Bool.true_and,Z5];intro p h;have:=(Za.1 (Zp.1 h)).1;rw[Zl];exact .inl (Zk (by omega))
theorem FE{all:List Oper}{k:Nat}:∀{f p:Nat},EC all f p=some k->z6 all k=true
 |0,p,h=>by cases h|f+1,p,h=>by
   unfold EC at h;split at h;·injection h with h;subst h;assumption
   ·exact FE h
theorem Ul{all:List Oper}{k:Nat}(h:fK all=some k):z6 all k=true:=by
 unfold fK at h;split at h
 · split at h
   · rename_i k' J;split at h;·cases h
     ·injection h with h;subst h;exact FE J
   ·cases h
 ·cases h
section
variable{G:Sg}{P:Program}{δ:List Nat}{n:Nat}{W0:Bse}{L0:Rs}{T0:List (Nat×Value)}{m m0:M}{z:Cz}{st:St G}{a:Act}{w:World}{Γ:Tab P G}{D:List (CS P G)}{all:List Oper}{k:Nat}
theorem pZ{a:Act}{d q:Nat}{v:Value}:(a.put (some d) v).tmps.getD q undef=if d=q/\q<a.tmps.size then v else a.tmps.getD q undef:=by
 show(a.tmps.setIfInBounds d v).getD q undef=_;by_cases h:d=q
 · subst h;by_cases hd:d<a.tmps.size;·rw[if_pos ⟨rfl,hd⟩];simp[hd]
   ·rw[if_neg (λx=>hd x.2),Array.setIfInBounds_eq_of_size_le (by omega)]
 ·rw[if_neg (λx=>h x.1)];simp[Array.getElem?_setIfInBounds_ne h]
theorem FF{a:Act}{d:Nat}{v:Value}{x:Operand}(h:opT d x=false):(a.put (some d) v).eval x=a.eval x:=by cases x with
 |tmp q=>
   have J:¬(d=q/\q<a.tmps.size):=λe=>by
    have:opT d (.tmp q)=true:=by rw[e.1];exact Zu q
    rw[this]at h;cases h
   show(a.put (some d) v).tmps.getD q undef=a.tmps.getD q undef;rw[pZ,if_neg J]|_=>rfl
theorem Hp{a b:Act}{x:Operand}(h:∀q,x=.tmp q->a.tmps.getD q undef=b.tmps.getD q undef):a.eval x=b.eval x:=by cases x with
 |tmp q=>exact h q rfl|_=>rfl
theorem LT{s:Nat->Bool}(hc:∀(j:Nat)(o':Oper),all[j]?=some o'->s j=true->∀e∈bm o',s e=true):∀f Z,(∀e∈Z,s e=true)->∀e∈cov all f Z,s e=true:=by
 intro f;induction f with
 |zero=>exactλZ h=>h|succ f ih=>
   intro Z h e J;rcases Z8.1 J with J|J;·exact h e J
   ·refine ih _ (λe' a0=>?_) e J;obtain⟨j,hj,W⟩:=List.mem_flatMap.1 a0;cases ho:all[j]?with
     |none=>rw[ho]at W;cases W|some o=>rw[ho]at W;exact hc j o ho (h j hj) e' W
theorem PI{ev:Nat->EV G}(hD:Dis all k n) (a9:∀j o,(all.take k)[j]?=some o->OpF G P Γ D n all k st ev j o){i:Nat}{o:Oper}(a6:all[i]?=some o) (b0:i<k) (hg:o.guard=none) (hf:LO o.op=true){s:Nat->Bool}(hJ:OJ G P δ n W0 L0 T0 all k st ev m z s a w) (b5:s i=false)(b2:∀e∈bm o,s e=true) (a0:∀(j:Nat) (o':Oper),all[j]?=some o'->s j=true->∀e∈bm o',s e=true):∃d v,o.dst=some d/\d<n/\OJ G P δ n W0 L0 T0 all k st ev m z (upd s i) (a.put (some d) v) w/\∀a' w',(∀x∈dV o.op,a'.eval x=a.eval x)->ay P o a' w' v w':=by
 obtain⟨d,hd,b7,b3⟩:=a9 i o (tX a6 b0);have b4:d<n:=zx b7;have a2:=yM hD a9 i o a6 b0 s a w hJ b5 b2 a0;have hw:Region.wanted o (yielded all.toArray a.tmps)=true:=by simp[Region.wanted,hg]
 rw[if_pos hw]at a2;have b6:a.tmps.size=n:=by obtain⟨_,_,_,_,h,_⟩:=hJ;exact h
 rw[hg]at b3;obtain⟨R,bb,ρ,hR,hb,he,c2⟩:=b3;obtain⟨m',a4⟩:=OJ.reads hJ b5 b2 a0 c2;obtain⟨dst,op,ty,pos,aft,g⟩:=o;have out:∀v,(∀a' w',(∀x∈dV op,a'.eval x=a.eval x)->ay P ⟨dst,op,ty,pos,aft,g⟩ a' w' v w')->(∀c,op≠.defer c)->∃d v,dst=some d/\d<n/\OJ G P δ n W0 L0 T0 all k st ev m z (upd s i) (a.put (some d) v) w/\∀a' w',(∀x∈dV op,a'.eval x=a.eval x)->ay P ⟨dst,op,ty,pos,aft,g⟩ a' w' v w':=by intro v hv c3;have Z:=a8.value (d:=d) hd (by rw[b6];exact b4) (hv a w λ_ _=>rfl) c3 a2;have c1:dst=some d:=hd;refine⟨d,v,hd,b4,?_,hv⟩;simp only[c1]at Z;exact Z
 cases op with
 |move x=>refine out (a.eval x) (λa' w' h=>?_) (λc e=>by cases e);have:=h x (by simp[dV]);simp[ay,execOp,this]|binOp bo t x y t2=>
   have a3:(bo=.add\/bo=.sub)->∃J p q,a.eval x=.int J p/\a.eval y=.int J q:=by
    intro a5;have W:(match av? (ρ x),av? (ρ y)with|some a,some b=>Fi Γ bo t a b|_,_=>none)=some R:=hR;split at W
    · rename_i a1 b1 e1 e2;unfold Fi at W;split at W
      · rename_i J p c4 q e3 e4;have r1:=AV.i_rel e3 (bp a4 e1);have r2:=AV.i_rel e4 (bp a4 e2);have c0:J=c4:=by rcases a5 with rfl|rfl<;>simp only[H3]at W<;>split at W<;>first|assumption|cases W
        subst c0;exact⟨J,p,q,r1.1,r2.1⟩
      ·exfalso;rcases a5 with rfl|rfl<;>(repeat' split at W)<;>simp_all
    ·cases W
   cases bo with
   |add=>obtain⟨J,p,q,e1,e2⟩:=a3 (.inl rfl);refine out (.int J (J.wrap (p+q))) (λa' w' h=>?_) (λc e=>by cases e);have Z:=h x (by simp[dV]);have h2:=h y (by simp[dV]);rw[e1]at Z;rw[e2]at h2;simp[ay,execOp,Z,h2,eqGuard_at_int,cp (t:=t) (P:=P) (rfl:J.wrap (p+q)=_)]|sub=>obtain⟨J,p,q,e1,e2⟩:=a3 (.inr rfl);refine out (.int J (J.wrap (p-q))) (λa' w' h=>?_) (λc e=>by cases e);have Z:=h x (by simp[dV]);have h2:=h y (by simp[dV]);rw[e1]at Z;rw[e2]at h2;simp[ay,execOp,Z,h2,eqGuard_at_int,kf (t:=t) (P:=P) (rfl:J.wrap (p-q)=_)]|_=>cases hf
 |_=>cases hf
def FD (P:Program)(all:List Oper)(j:Nat)(b:Act):Prop:=∀o d,all[j]?=some o->o.dst=some d->∀a' w',(∀x∈dV o.op,a'.eval x=b.eval x)->ay P o a' w' (b.tmps.getD d undef) w'
theorem FD.put{j e:Nat}{b:Act}{v:Value}(h:FD P all j b)(h1:∀o d,all[j]?=some o->o.dst=some d->d≠e/\∀x∈dV o.op,opT e x=false):FD P all j (b.put (some e) v):=by intro o d W J a' w' hx;obtain⟨Z,h3⟩:=h1 o d W J;rw[pZ,if_neg (λx=>Z x.1.symm)];exact h o d W J a' w' λx hm=>by rw[hx x hm,FF (h3 x hm)]
theorem LU{ev:Nat->EV G}(hD:Dis all k n) (hT:TF all k) (c4:∀j o,(all.take k)[j]?=some o->OpF G P Γ D n all k st ev j o){s:Nat->Bool}(hJ:OJ G P δ n W0 L0 T0 all k st ev m z s a w) (d1:∀p,k<=p->s p=false) (b7:∀(j:Nat) (o':Oper),all[j]?=some o'->s j=true->∀e∈bm o',s e=true):∀t,t<=k->∃b,OJ G P δ n W0 L0 T0 all k st ev m z (λj=>s j||(inN (d8 all k) j&&Zc j t)) b w/\(∀q,(∀j∈d8 all k,s j=false->∀o,all[j]?=some o->o.dst≠some q)->b.tmps.getD q undef=a.tmps.getD q undef)/\∀j∈d8 all k,j<t->s j=false->FD P all j b:=by
 intro t;induction t with
 |zero=>
   intro _;refine⟨a,?_,λ_ _=>rfl,λj _ h=>by omega⟩;have:(λj=>s j||(inN (d8 all k) j&&Zc j 0))=s:=by
    funext j;have:Zc j 0=false:=by cases h:Zc j 0 with|false=>rfl|true=>exact absurd (zx h) (by omega)
    rw[this,Bool.and_false,Bool.or_false]
   rw[this];exact hJ|succ t ih=>
   intro ht;obtain⟨b,a9,b6,b4⟩:=ih (by omega);have a3:∀i j:Nat,Zc i j=true↔i<j:=λi j=>⟨λh=>zx h,λh=>Zk h⟩;by_cases a0:t∈d8 all k/\s t=false
   · obtain⟨a0,b2⟩:=a0;obtain⟨o,ho,hg,hf,a6,c6⟩:=hT.fr t a0;have d0:(λj=>s j||(inN (d8 all k) j&&Zc j t)) t=false:=by
      show(s t||(inN (d8 all k) t&&Zc t t))=false;have:Zc t t=false:=by cases h:Zc t t with|false=>rfl|true=>exact absurd ((a3 _ _).1 h) (by omega)
      rw[b2,this];simp
     have b3:∀e,e∈d8 all k->e<t->(s e||(inN (d8 all k) e&&Zc e t))=true:=λe h1 h2=>by rw[XA.2 h1,(a3 _ _).2 h2];simp
     obtain⟨d,v,hd,c1,b5,c7⟩:=PI hD c4 ho (by omega) hg hf a9 d0 (λe he=>b3 e (a6 e he).1 (a6 e he).2) (λj o' J Z e he=>by
      simp only[Zl,Z3]at Z;rcases Z with Z|⟨h1,h2⟩
      ·show(s e||_)=true;rw[b7 j o' J Z e he];rfl
      ·obtain⟨oj,b0,_,_,a5,_⟩:=hT.fr j (XA.1 h1);rw[b0]at J;injection J with J;subst J;exact b3 e (a5 e he).1 (by have:=(a5 e he).2;have:=(a3 _ _).1 h2;omega));have c3:upd (λj=>s j||(inN (d8 all k) j&&Zc j t)) t=λj=>s j||(inN (d8 all k) j&&Zc j (t+1)):=by
      funext j;unfold upd;by_cases W:j=t;·rw[if_pos W,W,XA.2 a0,(a3 t (t+1)).2 (by omega)];simp
      · rw[if_neg W];have:Zc j t=Zc j (t+1):=by rw[Bool.eq_iff_iff,a3,a3];omega
        show(s j||(inN (d8 all k) j&&Zc j t))=_;rw[this]
     rw[c3]at b5;have dn:∀j o' d',all[j]?=some o'->j<k->o'.dst=some d'->j≠t->d'≠d:=λj o' d' J W a4 b1 e=>by subst e;exact b1 (hD.ne j t d' (XG.2 ⟨o',tX J W,a4⟩) (XG.2 ⟨o,tX ho (by omega),hd⟩))
     refine⟨b.put (some d) v,b5,λq hq=>?_,λj W c5 Z=>?_⟩
     ·have b1:d≠q:=λe=>hq t a0 b2 o ho (by rw[hd,e]);rw[pZ,if_neg (λx=>b1 x.1)];exact b6 q hq
     · by_cases hjt':j=t
       · subst hjt';intro o' d' J a4 a' w' hx;rw[ho]at J;injection J with J;subst J;rw[hd]at a4;injection a4 with a4;subst a4;have c0:b.tmps.size=n:=by obtain⟨_,_,_,_,h,_⟩:=a9;exact h
         rw[pZ,if_pos ⟨rfl,by rw[c0];exact c1⟩];refine c7 a' w' λx hm=>?_;rw[hx x hm];obtain⟨oi,di,a2,a1,h4⟩:=c6 j a0;rw[ho]at a2;injection a2 with a2;subst a2;rw[hd]at a1;injection a1 with a1;subst a1;rcases h4 with h4|h4;·have:=(a6 j h4).2;omega
         ·exact FF (h4 x hm)
       · refine(b4 j W (by omega) Z).put λo' d' J a4=>⟨dn j o' d' J (hT.ltF j W) a4 hjt',?_⟩;obtain⟨oj,b0,_,_,a5,c2⟩:=hT.fr j W;rw[b0]at J;injection J with J;subst J;obtain⟨oi,di,a2,a1,h4⟩:=c2 t a0;rw[ho]at a2;injection a2 with a2;subst a2;rw[hd]at a1;injection a1 with a1;subst a1;rcases h4 with h4|h4;·have:=(a5 t h4).2;omega
         ·exact h4
   · refine⟨b,?_,b6,λj W c5 Z=>?_⟩
     · have:(λj=>s j||(inN (d8 all k) j&&Zc j (t+1)))=λj=>s j||(inN (d8 all k) j&&Zc j t):=by
        funext j;by_cases W:j=t
        ·subst W;cases Z:s j with
          |true=>rfl|false=>
            have:inN (d8 all k) j=false:=by cases h:inN (d8 all k) j with
             |false=>rfl|true=>exact absurd ⟨XA.1 h,Z⟩ a0
            rw[this];rfl
        · have:Zc j (t+1)=Zc j t:=by rw[Bool.eq_iff_iff,a3,a3];omega
          rw[this]
       rw[this];exact a9
     ·have:j≠t:=λe=>a0 ⟨by rw[←e];exact W,by rw[←e];exact Z⟩;exact b4 j W (by omega) Z
theorem JB{a b:Act}{d:Option Nat}{v:Value}{q:Nat}(J:a.tmps.size=b.tmps.size)(h:d≠some q->a.tmps.getD q undef=b.tmps.getD q undef)(W:¬q<b.tmps.size->a.tmps.getD q undef=b.tmps.getD q undef):(a.put d v).tmps.getD q undef=(b.put d v).tmps.getD q undef:=by cases d with
 |none=>exact h (by simp)|some d=>
   rw[pZ,pZ,J];by_cases hq:d=q/\q<b.tmps.size;·rw[if_pos hq,if_pos hq]
   · rw[if_neg hq,if_neg hq];by_cases hd:d=q;·exact W λx=>hq ⟨hd,x⟩
     ·exact h λe=>hd (by injection e)
theorem JC{a b:Act}{q:Nat}(h:¬q<a.tmps.size)(J:¬q<b.tmps.size):a.tmps.getD q undef=b.tmps.getD q undef:=by simp[h,J]
def J2 (G:Sg)(P:Program)(δ:List Nat)(n:Nat)(W0:Bse)(L0:Rs)(T0:List (Nat×Value))(m0:M)(Γ:Tab P G)(D:List (CS P G))(all:List Oper)(k:Nat)(st:St G){ρ:Type}(h:St G->Option ρ)(r:ρ)(s:Nat->Bool)(a:Act)(w:World):Prop:=∃c b st',k<c/\c<=all.length/\(∀p,k<=p->p<all.length->(s p=true↔p<c))/\(∀j,j<k->j∉d8 all k->s j=true)/\a.defers=b.defers/\a.tmps.size=n/\(∀q,(∀j∈d8 all k,s j=false->∀o,all[j]?=some o->o.dst≠some q)->a.tmps.getD q undef=b.tmps.getD q undef)/\(∀j∈d8 all k,s j=false->FD P all j b)/\Sat G P δ n W0 L0 T0 m0 st' b w/\Ext st.c st st'/\st'.c=st.c/\iB n Γ D all (all.drop c) st' h=some r
theorem DJ{ρ:Type}{K':St G->Option ρ}{r:ρ}{st':St G}{s:Nat->Bool}{b:Act}{c:Nat}{o:Oper}(hT:TF all k) (ho:all[c]?=some o) (c2:k<=c) (c1:∀e∈bm o,s e=true) (c4:∀p,k<=p->p<all.length->(s p=true↔p<c)) (c3:∀j,j<k->j∉d8 all k->s j=true) (c0:a.defers=b.defers) (a4:a.tmps.size=n)(b3:∀q,(∀j∈d8 all k,s j=false->∀o,all[j]?=some o->o.dst≠some q)->a.tmps.getD q undef=b.tmps.getD q undef) (b6:∀j∈d8 all k,s j=false->FD P all j b)(hS:Sat G P δ n W0 L0 T0 m0 st' b w) (hX:Ext st.c st st') (hc:st'.c=st.c) (hK:iB n Γ D all (all.drop c) st' K'=some r):a8 P o a w (λv w'=>J2 G P δ n W0 L0 T0 m0 Γ D all k st K' r (upd s c) (a.put o.dst v) w'):=by
 have c7:c<all.length:=(Za.1 ho).1;obtain⟨hg,hk,_,c6⟩:=hT.tl c o ho c2;have hd:all.drop c=o::all.drop (c+1):=by rw[Zh c7];have:=(Za.1 ho).2;rw[this]
 rw[hd]at hK;unfold iB at hK;rw[hg]at hK;have a5:=hS.sz;have b4:a8 P o b w (λv w'=>∃W,Sat G P δ n W0 L0 T0 m0 W (b.put o.dst v) w'/\Ext st.c st W/\W.c=st.c/\iB n Γ D all (all.drop (c+1)) W K'=some r):=xc (N:=λa w=>∃W,Sat G P δ n W0 L0 T0 m0 W a w/\Ext st.c st W/\W.c=st.c/\iB n Γ D all (all.drop (c+1)) W K'=some r) hS hK λW a' w' q1 q2 q3 q4=>⟨W,q2,hX.trans (by rw[hc]at q3;exact q3),by rw[q4,hc],q1⟩;have a9:∀j∈d8 all k,s j=false->∀oj d,all[j]?=some oj->oj.dst=some d->(∀x∈dV o.op,opT d x=false)/\∀e,o.dst=some e->d≠e/\∀x∈dV oj.op,opT e x=false:=by
  intro j Z a1 oj d a2 a0;obtain⟨d0,a3,J⟩:=c6 j Z;rw[a2]at a3;injection a3 with a3;subst a3;unfold LP at J;rw[Zl]at J;rcases J with J|J
  ·have:=c1 j (XA.1 J);rw[a1]at this;cases this
  · rw[a0]at J;simp only[Z3,Zm]at J;have b2:∀(xs:List Operand) (t:Nat),xs.any (opT t)=false->∀x∈xs,opT t x=false:=λxs t h x hx=>by cases hxx:opT t x with
     |false=>rfl|true=>rw[Zf.2 ⟨x,hx,hxx⟩]at h;cases h
    refine⟨b2 _ _ J.1,λe he=>?_⟩;rw[he]at J;simp only[Z3,Zm]at J;refine⟨λx=>?_,b2 _ _ J.2.2⟩;subst x;rw[Zu]at J;cases J.2.1
 have c5:∀x∈dV o.op,a.eval x=b.eval x:=λx hx=>Hp λq hq=>b3 q λj Z a1 oj a2 a0=>by have:=(a9 j Z a1 oj q a2 a0).1 x hx;rw[hq]at this;have h2:opT q (.tmp q)=true:=Zu q;rw[h2]at this;cases this
 have b5:∀j,upd s c j=false->s j=false/\j≠c:=λj h=>by
  unfold upd at h;split at h;·cases h
  ·exact⟨h,‹_›⟩
 refine(a8.congr hk c5 (by rw[a4];exact a5.symm) b4).imp λv w'⟨W,q1,q2,q3,q4⟩=>?_;refine⟨c+1,b.put o.dst v,W,by omega,by omega,λp hp b7=>?_,λj Z hn=>?_,?_,?_,λq hq=>?_,λj Z a1=>?_,q1,q2,q3,q4⟩
 · unfold upd;by_cases hpc:p=c;·rw[if_pos hpc];simp;omega
   ·rw[if_neg hpc,c4 p hp b7];omega
 · unfold upd;split;·rfl
   ·exact c3 j Z hn
 ·cases hdd:o.dst<;>simp[Act.put,c0]
 ·cases hdd:o.dst<;>simp[Act.put,a4]
 · refine JB (by rw[a4];exact a5.symm) (λd1=>b3 q λj Z a1 oj a2 a0=>?_) (λb1=>JC (by rw[a4,←a5];exact b1) b1);by_cases b0:j=c;·have:=hT.ltF j Z;omega
   ·exact hq j Z (by unfold upd;rw[if_neg b0];exact a1) oj a2 a0
 ·obtain⟨a6,b0⟩:=b5 j a1;have J:=b6 j Z a6;cases hdd:o.dst with
   |none=>exact J|some e=>exact J.put λoj d a2 a0=>(a9 j Z a6 oj d a2 a0).2 e hdd
theorem LV{ρ:Type}{ro:Option Nat}{id:Nat}{K':St G->Option ρ}{r:ρ}{N Rt:Act->World->Prop}{X:List (Nat×(Act->World->Prop))}(c7:(all.take k).any jG=false) (e3:P.follows .mixedOrders=true) (hs:Sat G P δ n W0 L0 T0 m0 st a w) (hD:Dis all k n) (f4:z6 all k=true)(h:kj n Γ D all k 0 (all.take k) st (λst'=>iB n Γ D all (all.drop k) st' K')=some r) (hN:Nxt G P δ n W0 L0 T0 m0 K' r st N):K ro P (.region id all.toArray true) N X Rt a w:=by
 obtain⟨⟨m,z,h0,hr,hM⟩,hdf,hsz⟩:=hs;have e8:∀o∈all.take k,jG o=false:=λo ho=>by cases hq:jG o with
  |false=>rfl|true=>rw[Zf.2 ⟨o,ho,hq⟩]at c7;cases c7
 obtain⟨ev,e9,_,hF,hK,hC⟩:=yL (G:=G) (P:=P) (st0:=st) (ev:=λ_=>.one .und) hD (i:=0) (rest:=[]) (by simp) e8 ⟨rfl,rfl,rfl,λe he=>.inr ⟨λj W=>by omega,he⟩⟩ h;rw[X3]at hC;have c6:∀j o,(all.take k)[j]?=some o->OpF G P Γ D n all k st ev j o:=λj o ho=>hF j o (Nat.zero_le _) (by have:=(Za.1 ho).1;omega) ho;have Z:=Uk f4;refine EY (k:=all.length) e3 hD.ed (Ih all) (λs a w=>((∀p,k<=p->s p=false)/\OJ G P δ n W0 L0 T0 all k st ev m z s a w)\/J2 G P δ n W0 L0 T0 m0 Γ D all k st K' r s a w) ?_ ?_ ?_;·exact .inl ⟨λ_ _=>rfl,m,X7 m,hM.drew,hdf,hsz,(λj o _ h=>Bool.noConfusion h),λe he _=>hr e he⟩
 · intro i o a2 f5 s a w hJ b2 a3 c2;rcases hJ with⟨b1,hJ⟩|⟨c,b,st',d0,d2,b0,a4,b5,b3,a6,a9,hS,hX,hc,b4⟩
   · by_cases hik:i<k
     · have J:=yM hD c6 i o a2 hik s a w hJ b2 a3 c2;have h2:∀p,k<=p->upd s i p=false:=λp hp=>by unfold upd;rw[if_neg (by omega)];exact b1 p hp
       by_cases hw:Region.wanted o (yielded all.toArray a.tmps)=true
       ·rw[if_pos hw]at J⊢;exact J.imp λv w' h3=>.inl ⟨h2,h3⟩
       ·rw[if_neg hw]at J⊢;exact .inl ⟨h2,J⟩
     · obtain⟨hg,hk,c3,_⟩:=Z.tl i o a2 (by omega);have f0:i=k:=by
        rcases c3 with J|⟨J,h2⟩;·exact J
        ·have:=a3 _ J;rw[b1 (i-1) (by omega)]at this;cases this
       subst f0;have hw:Region.wanted o (yielded all.toArray a.tmps)=true:=by simp[Region.wanted,hg]
       rw[if_pos hw];have a4:∀j,j<i->j∉d8 all i->s j=true:=λj W hn=>LT c2 12 (bm o) a3 j (Z.cv o a2 j W hn);obtain⟨b,c5,a6,a9⟩:=LU hD Z c6 hJ b1 c2 i (Z9 _);have b6:∀j,j<i->j<all.length->(s j||(inN (d8 all i) j&&Zc j i))=true:=λj W _=>by
        by_cases hjF:j∈d8 all i
        ·have:Zc j i=true:=Zk W;rw[XA.2 hjF,this];simp
        ·rw[a4 j W hjF];rfl
       obtain⟨g0,e6⟩:=FA (ρ:=ρ) hC h0 b w c5 b6;have e1:a.tmps.size=n:=by obtain⟨_,_,_,_,h,_⟩:=hJ;exact h
       have e0:a.defers=b.defers:=by obtain⟨_,_,_,J,_⟩:=hJ;obtain⟨_,_,_,h2,_⟩:=c5;rw[J,h2]
       refine(DJ (st':=e9) (b:=b) Z a2 (Z9 _) a3 (λp hp _=>?_) a4 e0 e1 (λq hq=>(a6 q hq).symm) (λj W a0=>a9 j W (Z.ltF j W) a0) g0 e6 hC.c hK).imp λv w' J=>.inr J;rw[b1 p hp];simp;omega
   · by_cases hik:i<k
     · have c4:i∈d8 all k:=by refine Classical.byContradiction λhn=>?_;rw[a4 i hik hn]at b2;cases b2
       obtain⟨oj,a1,hg,_,_,d1⟩:=Z.fr i c4;rw[a2]at a1;injection a1 with a1;subst a1;obtain⟨oi,d,c1,hd,_⟩:=d1 i c4;rw[a2]at c1;injection c1 with c1;subst c1;have hw:Region.wanted o (yielded all.toArray a.tmps)=true:=by simp[Region.wanted,hg]
       rw[if_pos hw];have f3:=a9 i c4 b2 o d a2 hd a w λx hx=>Hp λq hq=>a6 q λj W a0 oj a1 a5=>by
        obtain⟨g1,di,b7,c0,h4⟩:=d1 j W;rw[a1]at b7;injection b7 with b7;subst b7;rw[a5]at c0;injection c0 with c0;subst c0;rcases h4 with h4|h4;·rw[a3 j h4]at a0;cases a0
        ·have:=h4 x hx;rw[hq]at this;have h2:opT q (.tmp q)=true:=Zu q;rw[h2]at this;cases this
       refine f3.step (.inr ⟨c,b,st',d0,d2,λp hp e5=>?_,λj W hn=>?_,?_,?_,λq hq=>?_,λj W a0=>?_,hS,hX,hc,b4⟩);·unfold upd;rw[if_neg (by omega)];exact b0 p hp e5
       · unfold upd;split;·rfl
         ·exact a4 j W hn
       ·rw[hd];simp[Act.put,b5]
       ·rw[hd];simp[Act.put,b3]
       · rw[hd,pZ];by_cases hq':d=q/\q<a.tmps.size;·rw[if_pos hq',hq'.1]
         · rw[if_neg hq'];by_cases hdq:d=q;·exact JC (λx=>hq' ⟨hdq,x⟩) (λx=>hq' ⟨hdq,by rw[b3,←hS.sz];exact x⟩)
           · refine a6 q λj W a0 oj a1 a5=>?_;by_cases hji:j=i
             ·subst hji;rw[a2]at a1;injection a1 with a1;subst a1;rw[hd]at a5;injection a5 with a5;exact hdq a5
             ·exact hq j W (by unfold upd;rw[if_neg hji];exact a0) oj a1 a5
       · refine a9 j W ?_;unfold upd at a0;split at a0;·cases a0
         ·exact a0
     · obtain⟨hg,_,c3,_⟩:=Z.tl i o a2 (by omega);have e4:i=c:=by
        have J:¬i<c:=λx=>by rw[(b0 i (by omega) f5).2 x]at b2;cases b2
        rcases c3 with h2|⟨h2,h3⟩;·omega
        ·have h4:=a3 _ h2;have:=(b0 (i-1) (by omega) (by omega)).1 h4;omega
       subst e4;have hw:Region.wanted o (yielded all.toArray a.tmps)=true:=by simp[Region.wanted,hg]
       rw[if_pos hw];exact(DJ Z a2 (by omega) a3 b0 a4 b5 b3 a6 a9 hS hX hc b4).imp λv w' J=>.inr J
 · intro s a w hJ b6;rcases hJ with⟨b1,_⟩|⟨c,b,st',d0,d2,b0,a4,b5,b3,a6,a9,hS,hX,hc,b4⟩
   ·have:=b6 k Z.lt Z.lt;rw[b1 k (Z9 _)]at this;cases this
   · have e7:c=all.length:=by
      refine Classical.byContradiction λg2=>?_;have J:c<all.length:=by omega
      have:=(b0 c (by omega) J).1 (b6 c J J);omega
     have f6:a=b:=by
      have ht:a.tmps=b.tmps:=by
       apply Array.ext;·rw[b3,hS.sz]
       · intro q J h2;have:=a6 q λj W a0=>by rw[b6 j (by have:=Z.ltF j W;have:=Z.lt;omega) (by have:=Z.ltF j W;have:=Z.lt;omega)]at a0;cases a0
         simpa[J,h2]using this
      cases a;cases b;simp only at ht b5;rw[ht,b5]
     subst f6;rw[e7,List.drop_length]at b4;rw[List.drop_length];exact ag (hN st' a w b4 hS hX hc)
end
inductive Sh where|dat (t:Ty) (o:Option Nat)|ptr (t:Ty)|fn1 (a b:Ty)|fn2 (a c b:Ty)
def Sh.den (G:Sg):Sh->Type
 |.dat t _=>t.den G|.ptr t=>t.den G|.fn1 a b=>a.den G->Option (b.den G)|.fn2 a c b=>a.den G->c.den G->Option (b.den G)
inductive It where|v (q lv:Nat) (s:Sh)|b (i lv:Nat) (t:Ty)|a (i lv:Nat) (t:Ty) (n:Option Nat)
def It.den (G:Sg):It->Type
 |.v _ _ s=>s.den G|.b _ _ t=>t.den G|.a _ _ t _=>List (t.den G)
def fE (G:Sg):List It->Type
 |[]=>Unit|[i]=>i.den G|i::i'::r=>i.den G×fE G (i'::r)
def hdI (G:Sg)(i:It):(r:List It)->fE G (i::r)->i.den G
 |[],x=>x|_::_,x=>x.1
def tlI (G:Sg)(i:It):(r:List It)->fE G (i::r)->fE G r
 |[],_=>()|_::_,x=>x.2
def mkI (G:Sg)(i:It):(r:List It)->i.den G->fE G r->fE G (i::r)
 |[],x,_=>x|_::_,x,y=>(x,y)
inductive Fx where|blk (i:Nat)|own (i:Nat)|nils|und
section
variable{G:Sg}{P:Program}
def Sh.mk (G:Sg):(s:Sh)->s.den G->AV G
 |.dat t o,x=>.dat t x o|.ptr t,x=>.ptr t x|.fn1 a b,f=>.fn1 a b f|.fn2 a c b,f=>.fn2 a c b f
def Fx.mk (G:Sg):Fx->AV G
 |.blk i=>.blk i|.own i=>.own i|.nils=>.nils|.und=>.und
def Fx.is:Fx->AV G->Bool
 |.blk i,.blk j=>Z7 i j|.own i,.own j=>Z7 i j|.nils,.nils=>true|.und,.und=>true|_,_=>false
def BC.of (G:Sg):(i:It)->i.den G->BC G
 |.v _ _ _,_=>.gone|.b _ _ t,x=>.dat t x|.a _ _ t n,x=>.arr t n x
def mV (G:Sg):(its:List It)->fE G its->List (Nat×Nat×EV G)
 |[],_=>[]|.v q lv s::r,x=>(q,lv,.one (s.mk G (hdI G (.v q lv s) r x)))::mV G r (tlI G (.v q lv s) r x)|.b i lv t::r,x=>mV G r (tlI G (.b i lv t) r x)|.a i lv t n::r,x=>mV G r (tlI G (.a i lv t n) r x)
def eL (G:Sg):(its:List It)->fE G its->Nat->Option (Nat×BC G)
 |[],_,_=>none|.v q lv s::r,x,k=>eL G r (tlI G (.v q lv s) r x) k|.b i lv t::r,x,k=>if Z7 i k then some (lv,.dat t (hdI G (.b i lv t) r x))else eL G r (tlI G (.b i lv t) r x) k|.a i lv t n::r,x,k=>if Z7 i k then some (lv,.arr t n (hdI G (.a i lv t n) r x))else eL G r (tlI G (.a i lv t n) r x) k
def o6{O:Type}(f:Nat->O):Nat->List O
 |0=>[]|n+1=>f n::o6 f n
def AV.dt?:AV G->Option ((t:Ty)×(t.den G)×Option Nat)
 |.dat t x o=>some ⟨t,x,o⟩|_=>none
def AV.pt?:AV G->Option ((t:Ty)×t.den G)
 |.ptr t x=>some ⟨t,x⟩|_=>none
def AV.f1?:AV G->Option ((a:Ty)×(b:Ty)×(a.den G->Option (b.den G)))
 |.fn1 a b f=>some ⟨a,b,f⟩|_=>none
def AV.f2?:AV G->Option ((a:Ty)×(c:Ty)×(b:Ty)×(a.den G->c.den G->Option (b.den G)))
 |.fn2 a c b f=>some ⟨a,c,b,f⟩|_=>none
theorem AV.dt_eq{b:AV G}{q:(t:Ty)×(t.den G)×Option Nat}(h:b.dt?=some q):b=.dat q.1 q.2.1 q.2.2:=by cases b<;>simp[AV.dt?]at h;subst h;rfl
theorem AV.pt_eq{b:AV G}{q:(t:Ty)×t.den G}(h:b.pt?=some q):b=.ptr q.1 q.2:=by cases b<;>simp[AV.pt?]at h;subst h;rfl
theorem AV.f1_eq{p:AV G}{q:(a:Ty)×(b:Ty)×(a.den G->Option (b.den G))}(h:p.f1?=some q):p=.fn1 q.1 q.2.1 q.2.2:=by cases p<;>simp[AV.f1?]at h;subst h;rfl
theorem AV.f2_eq{p:AV G}{q:(a:Ty)×(c:Ty)×(b:Ty)×(a.den G->c.den G->Option (b.den G))}(h:p.f2?=some q):p=.fn2 q.1 q.2.1 q.2.2.1 q.2.2.2:=by cases p<;>simp[AV.f2?]at h;subst h;rfl
def PJ (h:Nat):Option Nat->Bool
 |some j=>Zc j h|none=>true
def shX (G:Sg)(J:Nat)(s:Sh)(b:AV G):Option (s.den G):=match s with
 |.dat t o=>(match b.dt? with
  |some q=>if q.2.2=o/\PJ J o=true then dR G q.1 t q.2.1 else none|none=>none)|.ptr t=>(match b.pt? with|some q=>dR G q.1 t q.2|none=>none)|.fn1 a b'=>(match b.f1? with|some q=>if h:q.1=a/\q.2.1=b' then some (h.1▸h.2▸q.2.2)else none|none=>none)|.fn2 a c b'=>(match b.f2? with|some q=>if h:q.1=a/\q.2.1=c/\q.2.2.1=b' then some (h.1▸h.2.1▸h.2.2▸q.2.2.2)else none|none=>none)
def shA (Γ:Tab P G)(h:Nat)(s:Sh)(b:AV G):Option (s.den G):=match s with
 |.dat t none=>b.as Γ t|s=>shX G h s b
def oT (Γ:Tab P G)(h:Nat)(st:St G):(its:List It)->Option (fE G its)
 |[]=>some ()|.v q lv s::r=>(match lke st.env q,oT Γ h st r with
  |some (lv',.one b),some y=>if st.c<=lv\/lv'<=lv then (match (if st.c<=lv then shA Γ h s b else shX G h s b)with|some x=>some (mkI G (.v q lv s) r x y)|none=>none)else none|_,_=>none)|.b i lv t::r=>(match fb st.L i,oT Γ h st r with
  |some (lv',.dat t' x),some y=>if st.c<=lv\/lv'<=lv then (match dR G t' t x with|some x=>some (mkI G (.b i lv t) r x y)|none=>none)else none|_,_=>none)|.a i lv t n::r=>(match fb st.L i,oT Γ h st r with
  |some (lv',.arr t' n' x),some y=>if (st.c<=lv\/lv'<=lv)/\n'=n then (match dR G (.sl t') (.sl t) x with|some x=>some (mkI G (.a i lv t n) r x y)|none=>none)else none|_,_=>none)
def nilT (G:Sg)(q:Nat)(c:Ty)(st:St G):St G:=match lke st.env q with
 |some (_,.one .nils)=>{st with T:=(c.kd G).sz::st.T}.put q (.one (.dat (.sl c) [] (some st.T.length)))|_=>st
def FH (G:Sg)(q j:Nat)(st:St G):St G:=match lke st.env q with
 |some (_,.one (.dat t x (some j')))=>if j'=j then st else(match fb st.T j,fb st.T j' with
  |some s,some s'=>if s=s' then{st with env:=(q,st.c,.one (.dat t x (some j)))::rmk (pC j' st.c (pC j st.c st.env)) q}else st|_,_=>st)|_=>st
def pD (G:Sg):List It->St G->St G
 |[],st=>st|.v q _ (.dat (.sl c) (some j))::r,st=>pD G r (FH G q j (nilT G q c st))|_::r,st=>pD G r st
structure Tm where
 fx:List (Nat×Nat×Fx)its:List It
 nb:Nat
 T:List Nat
def Tm.st (G:Sg)(T:Tm)(c:Nat)(x:fE G T.its):St G:={env:=T.fx.map (λe=>(e.1,e.2.1,.one (e.2.2.mk G)))++mV G T.its x,c:=c,L:=o6 (λi=>match eL G T.its x i with|some e=>e|none=>(c,.gone)) T.nb,T:=T.T}
def Ii (st:St G)(nb:Nat):List (Nat×Nat×Fx)->Bool
 |[]=>true|(q,lv,f)::r=>(match lke st.env q with
  |some (lv',.one b)=>(Zq st.c lv||Zq lv' lv)&&f.is b&&(match f with|.blk i=>Zc i nb|.own i=>Zc i nb|_=>true)|_=>false)&&Ii st nb r
def Tm.fit (Γ:Tab P G)(T:Tm)(st0:St G):Option (fE G T.its):=let st:=pD G T.its st0
 match Ii st T.nb T.fx&&Zq T.nb st.L.length&&decide (st.T.drop (st.T.length-T.T.length)=T.T)with
 |true=>oT Γ T.T.length st T.its|false=>none
structure Lt where
 its:List It
 keep:List Nat
 nb:Nat
 T:List Nat
def tM (env:List (Nat×Nat×EV G))(d:Nat):List Nat->List (Nat×Nat×EV G)
 |[]=>[]|q::r=>(match lke env q with|some (lv,e)=>(q,min lv d,e)::tM env d r|none=>tM env d r)
def Lt.st (G:Sg)(T:Lt)(st:St G)(x:fE G T.its):St G:={env:=mV G T.its x++tM st.env st.c T.keep,c:=st.c+1,L:=o6 (λi=>match eL G T.its x i with|some e=>e|none=>(match fb st.L i with|some e=>(min e.1 st.c,e.2)|none=>(0,.gone))) T.nb,T:=T.T}
def rz (d:Nat):List It->Bool
 |[]=>true|.v _ lv _::r=>Z7 lv (d+1)&&rz d r|.b _ lv _::r=>Z7 lv (d+1)&&rz d r|.a _ lv _ _::r=>Z7 lv (d+1)&&rz d r
def Lt.fit (Γ:Tab P G)(T:Lt)(st0:St G):Option (St G×fE G T.its):=let st:=pD G T.its st0
 match Z7 st.L.length T.nb&&decide (st.T=T.T)&&wc T.keep&&rz st.c T.its&&T.keep.all (λq=>(lke st.env q).isSome)with
 |true=>(match oT Γ T.T.length st T.its with|some x=>some (st,x)|none=>none)|false=>none
def uT (k:Nat):List It->Bool
 |[]=>false|.v _ _ _::r=>uT k r|.b i _ _::r=>Z7 i k||uT k r|.a i _ _ _::r=>Z7 i k||uT k r
def JD (T:Lt)(d:Nat)(st:St G):Bool:=T.keep.all (λq=>match lke st.env q with|some (lv,_)=>Zq lv d|none=>false)&&Zq T.nb st.L.length&&decide (st.T.drop (st.T.length-T.T.length)=T.T)&&(List.range T.nb).all λi=>uT i T.its||(match fb st.L i with|some (lv,_)=>Zq lv d|none=>false)
def Lt.back (Γ:Tab P G)(T:Lt)(d:Nat)(st0:St G):Option (fE G T.its):=let st:=pD G T.its st0
 match JD T d st with
 |true=>oT Γ T.T.length st T.its|false=>none
end
inductive An (G:Sg):Type->Type 1 where|o{ρ:Type}:An G ρ|s{ρ:Type}(l r:An G ρ):An G ρ|c{ρ:Type}(l:An G ρ) (T:Tm) (J:fE G T.its->Option ρ) (r:An G ρ):An G ρ|l{ρ:Type}(T:Lt) (b:An G (fE G T.its⊕ρ)):An G ρ|b{ρ:Type}(x:An G ρ):An G ρ|i{ρ:Type}(x y:An G ρ):An G ρ
noncomputable section
variable{G:Sg}{P:Program}
def low (d:Nat)(st:St G):St G:={st with c:=d}
def ex (n:Nat) (Γ:Tab P G) (D:List (CS P G)):Code->{ρ:Type}->An G ρ->St G->(St G->Option ρ)->(Nat->St G->Option ρ)->(St G->Option ρ)->Option ρ
 |.skip,_,_,st,N,_,_=>N st|.label _,_,_,st,N,_,_=>N st|.region _ ops dr,_,_,st,N,_,_=>Ba n Γ D ops.toList dr st N|.seq x y,_,A,st,N,X,R=>(match A with
  |.s l r=>ex n Γ D x l st (λst'=>ex n Γ D y r st' N X R) X R|.c l T J r=>ex n Γ D x l st (λst'=>match T.fit Γ st' with|some v=>J v|none=>none) X R|_=>ex n Γ D x .o st (λst'=>ex n Γ D y .o st' N X R) X R)|.cond c x y,_,A,st,N,X,R=>(match av? (st.op c)with
  |some v=>(match v.b? with
   |some b=>(match A with
    |.i l r=>if b=true then ex n Γ D x l st N X R else ex n Γ D y r st N X R|_=>if b=true then ex n Γ D x .o st N X R else ex n Γ D y .o st N X R)|none=>none)|none=>none)|.block id c,_,A,st,N,X,R=>(match A with
  |.b a=>ex n Γ D c a st N (λj st'=>match Z7 j id with|true=>N st'|false=>X j st') R|_=>ex n Γ D c .o st N (λj st'=>match Z7 j id with|true=>N st'|false=>X j st') R)|.scope c,_,A,st,N,X,R=>(match A with
  |.b a=>ex n Γ D c a st N X R|_=>ex n Γ D c .o st N X R)|.loop c,_,A,st,N,X,R=>(match A with
  |.l T b=>(match T.fit Γ st with
   |some (st1,x)=>am (λs=>ex n Γ D c b (T.st G st1 s) (λst'=>match T.back Γ st.c st' with|some s'=>some (.inl s')|none=>none) (λj st'=>(X j (low st.c st')).map .inr) (λst'=>(R (low st.c st')).map .inr)) x|none=>none)|_=>none)|.exit id,_,_,st,_,X,_=>X id st|.ret,_,_,st,_,_,R=>R st|_,_,_,_,_,_,_=>none
def Obl (np n:Nat)(Γ:Tab P G)(D:List (CS P G)):Code->{ρ:Type}->An G ρ->Nat->(St G->Option ρ)->(Nat->St G->Option ρ)->(St G->Option ρ)->Prop
 |.seq x y,_,A,d,N,X,R=>(match A with
  |.s l r=>Obl np n Γ D x l d (λst'=>ex n Γ D y r st' N X R) X R/\Obl np n Γ D y r d N X R|.c l T J r=>Obl np n Γ D x l d (λst'=>match T.fit Γ st' with|some v=>J v|none=>none) X R/\Zq np T.nb=true/\(∀v,ex n Γ D y r (T.st G d v) N X R=J v)/\Obl np n Γ D y r d N X R|_=>True)|.cond _ x y,_,A,d,N,X,R=>(match A with
  |.i l r=>Obl np n Γ D x l d N X R/\Obl np n Γ D y r d N X R|_=>True)|.block id c,_,A,d,N,X,R=>(match A with
  |.b a=>Obl np n Γ D c a d N (λj st'=>match Z7 j id with|true=>N st'|false=>X j st') R|_=>True)|.scope c,_,A,d,N,X,R=>(match A with
  |.b a=>Obl np n Γ D c a d N X R|_=>True)|.loop c,_,A,d,N,X,R=>(match A with
  |.l T b=>Obl np n Γ D c b (d+1) (λst'=>match T.back Γ d st' with|some s'=>some (.inl s')|none=>none) (λj st'=>(X j (low d st')).map .inr) (λst'=>(R (low d st')).map .inr)|_=>True)|_,_,_,_,_,_,_=>True
theorem Obl.o (np n:Nat)(Γ:Tab P G)(D:List (CS P G))(c:Code){ρ:Type}(d:Nat)(N:St G->Option ρ)(X:Nat->St G->Option ρ)(R:St G->Option ρ):Obl np n Γ D c .o d N X R:=by cases c<;>exact trivial
end
section
variable{G:Sg}{P:Program}{δ:List Nat}{n:Nat}{W0:Bse}{L0:Rs}{T0:List (Nat×Value)}{m m0:M}{z:Cz}{st:St G}{a:Act}{w:World}{Γ:Tab P G}{D:List (CS P G)}
theorem CT{O:Type}{l:List O}{k i:Nat}(h:i<(l.drop k).length):fb (l.drop k) i=fb l i:=by induction l generalizing k with
 |nil=>simp|cons x l ih=>cases k with
   |zero=>rfl|succ k=>
     simp only[List.drop_succ_cons]at h⊢;rw[ih h];have hi:i<l.length:=by simp at h;omega
     have:Z7 i l.length=false:=by cases hb:Z7 i l.length with
      |false=>rfl|true=>have:=Z1 hb;omega
     simp[fb,this]
theorem LR.drop{J:List (Nat×BC G)}{ps:List (Nat×Value)}{es:List (Nat×List Value)}(h:LR G m J ps es)(k:Nat):LR G m (J.drop k) (ps.drop k) (es.drop k):=by induction J generalizing ps es k with
 |nil=>cases ps<;>cases es<;>first|exact h.elim|(simp;exact trivial)
 |cons B J ih=>cases ps with
   |nil=>cases es<;>exact h.elim|cons p ps=>cases es with
     |nil=>exact h.elim|cons e es=>cases k with
       |zero=>exact h|succ k=>exact ih h.2.2 k
theorem TRl.drop{J:List Nat}{vs:List Value}{es:List (Nat×Value)}(h:TRl J vs es)(k:Nat):TRl (J.drop k) (vs.drop k) (es.drop k):=by induction J generalizing vs es k with
 |nil=>cases vs<;>cases es<;>first|exact h.elim|(simp;exact trivial)
 |cons s J ih=>cases vs with
   |nil=>cases es<;>exact h.elim|cons v vs=>cases es with
     |nil=>exact h.elim|cons e es=>cases k with
       |zero=>exact h|succ k=>exact ih h.2 k
theorem S.voids{L L':List (Nat×List Value)}{TL:List (Nat×Value)}(h:S W0 m w L TL)(W:∀(i:Nat)(e:Nat×List Value),L'[i]?=some e->e.2=[]\/L[i]?=some e):S W0 m w L' TL:=⟨h.below,h.imm,λi e Z J=>(W i e Z).elim (λx=>absurd x J) (λx=>h.own i e x J),λi j e e' Z a1 a2 J a0=>(W i e Z).elim (λx=>absurd x J) (λx=>(W j e' a1).elim (λy=>absurd y a0) (λy=>h.nodup i j e e' x y a2 J a0)),h.tails,h.apart⟩
theorem xd{O:Type}{f:Nat->O}:∀{n:Nat},(o6 f n).length=n
 |0=>rfl|n+1=>by simp[o6,xd]
theorem xe{O:Type}{f:Nat->O}:∀{n i:Nat}{y:O},fb (o6 f n) i=some y->i<n/\y=f i
 |0,i,y,h=>by simp[o6,fb]at h|n+1,i,y,h=>by
   simp only[o6,fb,xd]at h;split at h
   ·rename_i e;have:=Z1 e;subst this;injection h with h;exact⟨by omega,h.symm⟩
   ·have:=xe h;exact⟨by omega,this.2⟩
theorem LR.build{f:Nat->Nat×BC G}:∀{n:Nat}{J:List (Nat×BC G)}{ps:List (Nat×Value)}{es:List (Nat×List Value)},LR G m J ps es->J.length=n->(∀i,i<n->(f i).2=.gone\/∃s,fb J i=some (s,(f i).2))->∃W,LR G m (o6 f n) ps W/\W.length=es.length/\∀(i:Nat) (e:Nat×List Value),W[i]?=some e->e.2=[]\/es[i]?=some e
 |0,J,ps,es,h,hl,_=>by have:J=[]:=Zn hl;subst this;cases ps<;>cases es<;>first|exact h.elim|exact⟨[],trivial,rfl,λi e he=>.inr he⟩
 |n+1,[],ps,es,h,hl,_=>by simp at hl|n+1,B::J,[],es,h,hl,_=>by cases es<;>exact h.elim|n+1,B::J,p::ps,[],h,hl,_=>h.elim|n+1,B::J,p::ps,e::es,h,hl,hf=>by
   obtain⟨h1,h2,h3⟩:=h;have a0:J.length=n:=by simpa using hl
   obtain⟨W,k1,k2,k3⟩:=LR.build (f:=f) h3 a0 (λi hi=>by
    rcases hf i (by omega)with h|⟨s,h⟩;·exact .inl h
    · refine .inr ⟨s,?_⟩;have:Z7 i J.length=false:=by cases hb:Z7 i J.length with
       |false=>rfl|true=>have:=Z1 hb;omega
      simp only[fb,this]at h;exact h);rcases hf n (by omega)with hg|⟨s,hs⟩
   ·refine⟨(p.1,[])::W,⟨rfl,by rw[hg];rfl,k1⟩,by simp[k2],λi x Z=>?_⟩;cases i with
     |zero=>simp at Z;subst Z;exact .inl rfl|succ i=>exact k3 i x (by simpa using Z)
   · have:fb (B::J) n=some B:=by rw[←a0];exact ki
     rw[this]at hs;injection hs with hs;refine⟨e::W,⟨h1,by rw[show(f n).2=B.2 by rw[hs]];exact h2,k1⟩,by simp[k2],λi x Z=>?_⟩;cases i with
     |zero=>exact .inr (by simpa using Z)|succ i=>exact k3 i x (by simpa using Z)
theorem gB.cut{Ls:List (Nat×BC G)}{Ts T':List Nat}{nb:Nat}{f:Nat->Nat×BC G}(h:gB G W0 L0 T0 Ls Ts m z w)(a5:nb<=Ls.length)(hf:∀i,i<nb->(f i).2=.gone\/∃s,fb Ls i=some (s,(f i).2))(hT:Ts.drop (Ts.length-T'.length)=T')(a6:L0.nm.length<=nb):∃z',gB G W0 L0 T0 (o6 f nb) T' m z' w/\(∀i p,i<nb->fb z.b i=some p->fb z'.b i=some p)/\(∀j v,j<T'.length->fb z.t j=some v->fb z'.t j=some v):=by
 obtain⟨Lc,Tc,h1,Z,hS,a4⟩:=h;have hl:=h1.len;have b0:=Z.len;have d1:=h1.drop (Ls.length-nb);have a2:(Ls.drop (Ls.length-nb)).length=nb:=by simp;omega
 obtain⟨a3,k1,k2,k3⟩:=LR.build (f:=f) d1 a2 (λi hi=>by rw[CT (by omega)];exact hf i hi);have d2:=Z.drop (Ts.length-T'.length);rw[hT]at d2;have a9:T'.length<=Ts.length:=by have:=congrArg List.length hT;simp at this;omega
 refine⟨⟨z.b.drop (Ls.length-nb),z.t.drop (Ts.length-T'.length)⟩,⟨a3,Tc.drop (Ts.length-T'.length),k1,d2,?_,a4.drop (by omega)⟩,λi p hi hp=>?_,λj v hj hv=>?_⟩
 · have a0:=hS.dropL (Ls.length-nb);rw[Zd (by omega)]at a0;have a1:=a0.dropT (Ts.length-T'.length);rw[Zd (by omega)]at a1;refine a1.voids λi e J=>?_;rw[List.getElem?_append]at J⊢;rw[k2]at J;split at J
   ·rename_i W;rw[if_pos W];exact k3 i e J
   ·rename_i W;rw[if_neg W];exact .inr J
 ·rw[CT (by simp;omega)];exact hp
 ·rw[CT (by simp;omega)];exact hv
theorem N7{q:Nat}{c:Ty}(Z:Sat G P δ n W0 L0 T0 m0 st a w):Sat G P δ n W0 L0 T0 m0 (nilT G q c st) a w/\Ext st.c st (nilT G q c st)/\(nilT G q c st).c=st.c:=by
 unfold nilT;split
 · rename_i lv h;obtain⟨⟨m,z,h0,W,J⟩,hdf,hsz⟩:=Z;have a1:=J.len;obtain⟨Lc,Tc,h1,h2,hS,a0⟩:=J;have hv:a.tmps.getD q undef=.slice none 0 0:=W _ (iX h);refine⟨⟨⟨m,⟨z.b,.slice none 0 0::z.t⟩,h0,λe h=>?_,Lc,((c.kd G).sz,.slice none 0 0)::Tc,h1,⟨rfl,h2⟩,hS.tail0 _,a0⟩,hdf,hsz⟩,(Ext.envL (st:=st) (st':={st with T:=(c.kd G).sz::st.T}) rfl rfl).trans (Ext.put (st:={st with T:=(c.kd G).sz::st.T})),rfl⟩;rcases Z4.1 h with rfl|h
   ·show RV _ m (a.tmps.getD q undef) _/\Tag _ _ _;rw[hv];refine⟨dK,?_⟩;show fb (.slice none 0 0::z.t) st.T.length=_;rw[←a1.2];exact ki
   ·exact((W e (mr h).1)).z (Zle.pushT z _)
 ·exact⟨Z,Ext.refl _ _,rfl⟩
theorem Bd{O:Type}:∀{l:List O}{i:Nat},i<l.length->∃y,fb l i=some y:=by
 intro l;induction l with
 |nil=>intro i h;simp at h|cons a l ih=>
   intro i h;simp only[fb];split;·exact⟨_,rfl⟩
   · rename_i J;have:i≠l.length:=λe=>by subst e;simp at J
     simp at h;exact ih (by omega)
theorem TRl.get2{J:List Nat}{vs:List Value}{es:List (Nat×Value)}(h:TRl J vs es){i s:Nat}{v:Value}(Z:fb J i=some s) (W:fb vs i=some v):i<J.length/\es[J.length-1-i]?=some (s,v)/\∀v',TRl J (sb vs i v') (es.set (J.length-1-i) (s,v')):=by induction J generalizing vs es with
 |nil=>cases vs<;>simp[fb]at Z|cons s0 J ih=>cases vs with
   |nil=>cases es<;>exact h.elim|cons v0 vs=>cases es with
     |nil=>exact h.elim|cons e es=>
       obtain⟨h1,h2⟩:=h;have hl:vs.length=J.length:=h2.len.1;simp only[fb]at Z W;rw[hl]at W;split at Z
       · rename_i hi;rw[if_pos hi]at W;injection Z with Z;injection W with W;subst Z;subst W;have hi':=Z1 hi;subst hi';have e0:(s0::J).length-1-J.length=0:=by simp
         rw[e0];refine⟨by simp,by simp[h1],λv'=>?_⟩;simp only[sb,hl,hi,if_true,List.set_cons_zero];exact⟨rfl,h2⟩
       · rename_i hi;rw[if_neg hi]at W;obtain⟨g0,g1,g2⟩:=ih h2 Z W;have e0:(s0::J).length-1-i=(J.length-1-i)+1:=by simp;omega
         rw[e0];refine⟨by simp;omega,by simpa using g1,λv'=>?_⟩;simp only[sb,hl,hi,List.set_cons_succ];exact⟨h1,g2 v'⟩
theorem S.swapT{TL:List (Nat×Value)}{L:List (Nat×List Value)}(h:S W0 m w L TL){k1 k2:Nat}{Z e2:Nat×Value}(h1:TL[k1]?=some Z)(h2:TL[k2]?=some e2)(hk:k1≠k2):S W0 m w L ((TL.set k1 e2).set k2 Z):=by
 refine h.selT _ (λi=>if i=k1 then k2 else if i=k2 then k1 else i) (λi e J=>?_) (λi j W=>?_)
 · rw[List.getElem?_set]at J;split at J
   · rename_i e;subst e;split at J
     ·injection J with J;subst J;rw[if_neg (λe=>hk e.symm),if_pos rfl];exact h1
     ·cases J
   · rename_i hn;rw[List.getElem?_set]at J;split at J
     · rename_i e;subst e;split at J
       ·injection J with J;subst J;rw[if_pos rfl];exact h2
       ·cases J
     ·rename_i a0;rw[if_neg (λe=>a0 e.symm),if_neg (λe=>hn e.symm)];exact J
 ·split at W<;>split at W<;>(try split at W)<;>(try split at W)<;>omega
theorem Ext.er2{j k:Nat}:Ext st.c st {st with env:=pC k st.c (pC j st.c st.env)}:=(Ext.er (st:=st) (j:=j)).trans (Ext.er (st:={st with env:=pC j st.c st.env}) (j:=k))
theorem N8{q j:Nat}(hs:Sat G P δ n W0 L0 T0 m0 st a w):Sat G P δ n W0 L0 T0 m0 (FH G q j st) a w/\Ext st.c st (FH G q j st)/\(FH G q j st).c=st.c:=by
 unfold FH;split
 · rename_i lv t x h W;split;·exact⟨hs,Ext.refl _ _,rfl⟩
   · rename_i a1;split
     · rename_i s s' hj a0;split
       · rename_i a3;subst a3;obtain⟨⟨m,z,h0,hr,hM⟩,hdf,hsz⟩:=hs;have a2:=hM.len;obtain⟨Lc,Tc,h1,J,hS,a4⟩:=hM;obtain⟨hv,Z⟩:=hr _ (iX W);simp only at hv Z;have Z:fb z.t h=some (a.tmps.getD q undef):=Z;obtain⟨u,hu⟩:=Bd (l:=z.t) (i:=j) (by rw[a2.2];exact zX hj);obtain⟨p1,p2,p3⟩:=J.get2 hj hu;obtain⟨q1,q2,q3⟩:=(p3 (a.tmps.getD q undef)).get2 a0 (show fb (sb z.t j _) h=_ by rw[kG (λe=>a1 e.symm)];exact Z);obtain⟨_,r2,_⟩:=J.get2 a0 Z;have hk:st.T.length-1-j≠st.T.length-1-h:=by omega
         refine⟨⟨⟨m,⟨z.b,sb (sb z.t j (a.tmps.getD q undef)) h u⟩,h0,λe W=>?_,Lc,_,h1,q3 u,?_,a4⟩,hdf,hsz⟩,Ext.er2.trans (Ext.put (st:={st with env:=pC h st.c (pC j st.c st.env)}) (d:=q)),rfl⟩
         · rcases Z4.1 W with rfl|W
           ·refine⟨hv,?_⟩;show fb (sb (sb z.t j (a.tmps.getD q undef)) h u) j=_;rw[kG a1,pY hu]
           ·exact uS (uS hr) e (mr W).1
         ·have:=hS.swapT (k1:=st.T.length-1-j) (k2:=st.T.length-1-h) (by rw[Zb (by have:=J.len.2;omega)];exact p2) (by rw[Zb (by have:=J.len.2;omega)];exact r2) hk;rw[List.set_append_left _ _ (by have:=J.len.2;omega),List.set_append_left _ _ (by have:=J.len.2;simp;omega)]at this;exact this
       ·exact⟨hs,Ext.refl _ _,rfl⟩
     ·exact⟨hs,Ext.refl _ _,rfl⟩
 ·exact⟨hs,Ext.refl _ _,rfl⟩
theorem Be:∀{its:List It}{st:St G},Sat G P δ n W0 L0 T0 m0 st a w->Sat G P δ n W0 L0 T0 m0 (pD G its st) a w/\Ext st.c st (pD G its st)/\(pD G its st).c=st.c:=by
 intro its;induction its with
 |nil=>intro st J;exact⟨J,Ext.refl _ _,rfl⟩|cons i its ih=>
   intro st J;unfold pD;split
   ·rename_i h;cases h
   ·rename_i q lv c j r h;injection h with h1 h2;subst h2;obtain⟨k1,k2,Z⟩:=N7 (q:=q) (c:=c) J;obtain⟨l1,l2,l3⟩:=N8 (q:=q) (j:=j) k1;obtain⟨r1,W,r3⟩:=ih l1;rw[l3,Z]at W r3;rw[Z]at l2;exact⟨r1,k2.trans (l2.trans W),r3⟩
   ·rename_i h;injection h with h1 h2;subst h2;exact ih J
theorem PK{nT:Nat}{s:Sh}{b:AV G}{x:s.den G}(h:shX G nT s b=some x):s.mk G x=b/\∀t j,s=.dat t (some j)->j<nT:=by cases s with
 |dat t o=>unfold shX at h;dsimp only at h;cases hb:b.dt? with
   |none=>simp[hb]at h|some q=>
     simp only[hb]at h;have h':(if q.2.2=o/\PJ nT o=true then dR G q.1 t q.2.1 else none)=some (show t.den G from x):=h;clear h;split at h'
     ·rename_i Z;obtain⟨J,Z⟩:=Z;obtain⟨e,h⟩:=bW h';rw[AV.dt_eq hb];obtain⟨t',x',o'⟩:=q;simp only at e J;subst e;subst J;subst h;exact⟨rfl,λt j e=>by injection e with e1 e2;rw[e2]at Z;exact zx Z⟩
     ·cases h'
 |ptr t=>unfold shX at h;dsimp only at h;cases hb:b.pt? with
   |none=>simp[hb]at h|some q=>simp only[hb]at h;obtain⟨e,h⟩:=bW h;rw[AV.pt_eq hb];obtain⟨t',x'⟩:=q;simp only at e;subst e;subst h;exact⟨rfl,λt j e=>by cases e⟩
 |fn1 c d=>unfold shX at h;dsimp only at h;cases hb:b.f1? with
   |none=>simp[hb]at h|some q=>
     simp only[hb]at h;split at h
     ·rename_i hh;rw[AV.f1_eq hb];obtain⟨a',b',f⟩:=q;obtain⟨J,W⟩:=hh;simp only at J W;subst J;subst W;injection h with h;subst h;exact⟨rfl,λt j e=>by cases e⟩
     ·cases h
 |fn2 c e d=>unfold shX at h;dsimp only at h;cases hb:b.f2? with
   |none=>simp[hb]at h|some q=>
     simp only[hb]at h;split at h
     ·rename_i hh;rw[AV.f2_eq hb];obtain⟨a',c',b',f⟩:=q;obtain⟨J,W,h3⟩:=hh;simp only at J W h3;subst J;subst W;subst h3;injection h with h;subst h;exact⟨rfl,λt j e=>by cases e⟩
     ·cases h
theorem WO{J:Nat}{s:Sh}{x:s.den G}{v:Value}{z':Cz}(h:(s.mk G x).Rel G P m z v)(W:∀t j,s=.dat t (some j)->j<J)(Z:∀j v,j<J->fb z.t j=some v->fb z'.t j=some v):(s.mk G x).Rel G P m z' v:=by cases s with
 |dat t o=>refine⟨h.1,?_⟩;cases o with
   |none=>trivial|some j=>exact Z _ _ (W t j rfl) h.2
 |_=>exact h
theorem yN{Z:Nat}{s:Sh}{b:AV G}{x:s.den G}{v:Value}{z':Cz}(h:shX G Z s b=some x)(W:b.Rel G P m z v)(hz:∀j v,j<Z->fb z.t j=some v->fb z'.t j=some v):(s.mk G x).Rel G P m z' v/\s.mk G x=b:=by obtain⟨J,h2⟩:=PK h;rw[←J]at W;exact⟨WO W h2 hz,J⟩
theorem PL{W:Nat}{s:Sh}{b:AV G}{x:s.den G}{v:Value}{z':Cz}(h:shA Γ W s b=some x)(Z:b.Rel G P m z v)(hz:∀j v,j<W->fb z.t j=some v->fb z'.t j=some v):(s.mk G x).Rel G P m z' v:=by cases s with
 |dat t o=>cases o with
   |none=>have J:b.as Γ t=some x:=h;exact⟨AV.as_rel J Z,trivial⟩|some j=>have J:shX G W (.dat t (some j)) b=some x:=h;exact(yN J Z hz).1
 |ptr t=>have J:shX G W (.ptr t) b=some x:=h;exact(yN J Z hz).1|fn1 c d=>have J:shX G W (.fn1 c d) b=some x:=h;exact(yN J Z hz).1|fn2 c e d=>have J:shX G W (.fn2 c e d) b=some x:=h;exact(yN J Z hz).1
theorem N9{q lv:Nat}{s:Sh}{its:List It}{u:s.den G}{y:fE G its}:mV G (.v q lv s::its) (mkI G (.v q lv s) its u y)=(q,lv,.one (s.mk G u))::mV G its y:=by cases its<;>rfl
theorem Oa{i lv:Nat}{t:Ty}{its:List It}{u:t.den G}{y:fE G its}:mV G (.b i lv t::its) (mkI G (.b i lv t) its u y)=mV G its y:=by cases its<;>rfl
theorem Ob{i lv:Nat}{t:Ty}{nn:Option Nat}{its:List It}{u:List (t.den G)}{y:fE G its}:mV G (.a i lv t nn::its) (mkI G (.a i lv t nn) its u y)=mV G its y:=by cases its<;>rfl
theorem Oc{q lv:Nat}{s:Sh}{its:List It}{u:s.den G}{y:fE G its}{k:Nat}:eL G (.v q lv s::its) (mkI G (.v q lv s) its u y) k=eL G its y k:=by cases its<;>rfl
theorem Od{i lv:Nat}{t:Ty}{its:List It}{u:t.den G}{y:fE G its}{k:Nat}:eL G (.b i lv t::its) (mkI G (.b i lv t) its u y) k=if Z7 i k then some (lv,.dat t u)else eL G its y k:=by cases its<;>rfl
theorem Oe{i lv:Nat}{t:Ty}{nn:Option Nat}{its:List It}{u:List (t.den G)}{y:fE G its}{k:Nat}:eL G (.a i lv t nn::its) (mkI G (.a i lv t nn) its u y) k=if Z7 i k then some (lv,.arr t nn u)else eL G its y k:=by cases its<;>rfl
theorem Bf{nT:Nat}{z':Cz}(hE:kI G P m z st.env a) (hz:∀j v,j<nT->fb z.t j=some v->fb z'.t j=some v):∀{its:List It}{x:fE G its},oT Γ nT st its=some x->∀e∈mV G its x,e.2.2.Rel G P m z' (a.tmps.getD e.1 undef)/\(e.2.1<st.c->∃lv,lv<=e.2.1/\(e.1,lv,e.2.2)∈st.env):=by
 intro its;induction its with
 |nil=>intro x h e J;cases J|cons i its ih=>intro x h;cases i with
   |v q lv s=>
     simp only[oT]at h;split at h
     · rename_i a0 b y Z W;split at h
       · rename_i a2;split at h
         · rename_i u hu;injection h with h;subst h;intro e J;rw[N9]at J;rcases Z4.1 J with rfl|J
           · have hr:b.Rel G P m z (a.tmps.getD q undef):=hE _ (iX Z);split at hu
             ·rename_i hc;exact⟨PL hu hr hz,λh=>absurd h (by show¬lv<st.c;omega)⟩
             ·obtain⟨k1,k2⟩:=yN hu hr hz;exact⟨k1,λa3=>⟨a0,a2.resolve_left (X6.2 a3),by rw[k2];exact iX Z⟩⟩
           ·exact ih W e J
         ·cases h
       ·cases h
     ·cases h|b i lv t=>
     simp only[oT]at h;split at h
     · rename_i a0 t' u y Z W;split at h
       · split at h
         ·injection h with h;subst h;intro e J;rw[Oa]at J;exact ih W e J
         ·cases h
       ·cases h
     ·cases h|a i lv t nn=>
     simp only[oT]at h;split at h
     · rename_i a0 t' n' u y Z W;split at h
       · split at h
         · injection h with h;subst h;intro e J;have a1:e∈mV G its y:=by rw[←Ob (i:=i) (lv:=lv) (t:=t) (nn:=nn)];exact J
           exact ih W e a1
         ·cases h
       ·cases h
     ·cases h
theorem Bg{nT:Nat}:∀{its:List It}{x:fE G its},oT Γ nT st its=some x->∀k e,eL G its x k=some e->∃lv,(e.1<st.c->lv<=e.1)/\fb st.L k=some (lv,e.2):=by
 intro its;induction its with
 |nil=>intro x h k e J;cases J|cons i its ih=>intro x h;cases i with
   |v q lv s=>
     simp only[oT]at h;split at h
     · rename_i a1 b y hq hy;split at h
       · split at h
         ·injection h with h;subst h;intro k e J;rw[Oc]at J;exact ih hy k e J
         ·cases h
       ·cases h
     ·cases h|b i lv t=>
     simp only[oT]at h;split at h
     · rename_i a1 t' u y hq hy;split at h
       · rename_i Z;split at h
         · rename_i u' W;obtain⟨e,W⟩:=bW W;subst e;subst W;injection h with h;subst h;intro k e J;rw[Od]at J;split at J
           ·rename_i hb;have:=Z1 hb;subst this;injection J with J;subst J;exact⟨a1,λa2=>Z.resolve_left (X6.2 a2),hq⟩
           ·exact ih hy k e J
         ·cases h
       ·cases h
     ·cases h|a i lv t nn=>
     simp only[oT]at h;split at h
     · rename_i a1 t' n' u y hq hy;split at h
       · rename_i Z;obtain⟨Z,rfl⟩:=Z;split at h
         · rename_i u' W;obtain⟨e,W⟩:=bW W;injection e with e;subst e;subst W;injection h with h;subst h;intro k e J;have a0:=(Oe (G:=G) (i:=i) (lv:=lv) (t:=t')).symm.trans J;clear J;split at a0
           ·rename_i hb;have:=Z1 hb;subst this;injection a0 with a0;subst a0;exact⟨a1,λa2=>Z.resolve_left (X6.2 a2),hq⟩
           ·exact ih hy k e a0
         ·cases h
       ·cases h
     ·cases h
end
section
variable{G:Sg}{P:Program}{δ:List Nat}{n:Nat}{W0:Bse}{L0:Rs}{T0:List (Nat×Value)}{m m0:M}{z:Cz}{st:St G}{a:Act}{w:World}{Γ:Tab P G}{D:List (CS P G)}
theorem Fx.is_eq{f:Fx}{b:AV G}(h:f.is b=true):b=f.mk G:=by cases f<;>cases b<;>simp[Fx.is]at h<;>simp[Fx.mk,h]
theorem LW{nb:Nat}:∀{Z:List (Nat×Nat×Fx)},Ii st nb Z=true->∀e∈Z,∃a0,lke st.env e.1=some (a0,.one (e.2.2.mk G))/\(e.2.1<st.c->a0<=e.2.1)/\(∀i,e.2.2=.blk i->i<nb)/\(∀i,e.2.2=.own i->i<nb):=by
 intro Z;induction Z with
 |nil=>intro _ e W;cases W|cons x Z ih=>
   intro h e W;obtain⟨q,lv,f⟩:=x;simp only[Ii,Z3]at h;rcases Z4.1 W with rfl|W
   · obtain⟨J,_⟩:=h;split at J
     · rename_i a0 b hq;simp only[Z3]at J;obtain⟨⟨J,h2⟩,h3⟩:=J;have:=Fx.is_eq h2;subst this;refine⟨a0,hq,λa1=>?_,λi hi=>?_,λi hi=>?_⟩
       · rcases Bool.or_eq_true_iff.1 J with J|J;·exact absurd (zx J) (X6.2 a1)
         ·exact zx J
       ·simp only at hi;subst hi;exact zx h3
       ·simp only at hi;subst hi;exact zx h3
     ·cases J
   ·exact ih h.2 e W
theorem Tm.ok{T:Tm}{x:fE G T.its}(b2:L0.nm.length<=T.nb)(h:T.fit Γ st=some x)(hs:Sat G P δ n W0 L0 T0 m0 st a w):Sat G P δ n W0 L0 T0 m0 (T.st G st.c x) a w/\Ext st.c st (T.st G st.c x):=by
 obtain⟨b0,a9,a6⟩:=Be (its:=T.its) hs;unfold Tm.fit at h;simp only at h;generalize pD G T.its st=st1 at*;split at h
 · rename_i hc;simp only[Z3]at hc;obtain⟨⟨a0,a1⟩,hT⟩:=hc;have hT:=of_decide_eq_true hT;have a1:=zx a1;have a0:=LW a0;obtain⟨⟨m,z,h0,hr,hM⟩,hdf,hsz⟩:=b0;have a5:=Bg h;obtain⟨z',b3,a3,b1⟩:=gB.cut (f:=λi=>match eL G T.its x i with|some e=>e|none=>(st.c,.gone)) hM a1 (λi hi=>by cases hi:eL G T.its x i with
    |none=>exact .inl rfl|some e=>obtain⟨lv,_,h2⟩:=a5 i e hi;exact .inr ⟨lv,h2⟩) hT b2;have a2:=Bf hr b1 h;refine⟨⟨⟨m,z',h0,λe J=>?_,b3⟩,hdf,hsz⟩,?_⟩
   · rcases Z8.1 J with J|J
     ·obtain⟨f,hf,rfl⟩:=X5.1 J;obtain⟨a4,k1,k2,k3,k4⟩:=a0 f hf;have W:=hr _ (iX k1);show AV.Rel G P m z' (f.2.2.mk G) _;cases hff:f.2.2 with
       |blk i=>rw[hff]at W;obtain⟨p,q1,q2⟩:=W;exact⟨p,a3 i p (k3 i hff) q1,q2⟩|own i=>rw[hff]at W;obtain⟨p,q1,q2⟩:=W;exact⟨p,a3 i p (k4 i hff) q1,q2⟩|nils=>rw[hff]at W;exact W|und=>rw[hff]at W;exact W
     ·exact(a2 e J).1
   · rw[a6]at a2;refine a9.trans ⟨λk hk e J hl=>?_,λk hk i s B hb b4=>?_⟩
     · rcases Z8.1 J with J|J
       ·obtain⟨f,hf,rfl⟩:=X5.1 J;obtain⟨a4,k1,k2,_⟩:=a0 f hf;have hl:f.2.1<=k:=hl;exact⟨a4,X4 (k2 (by rw[a6];omega)) hl,iX k1⟩
       ·obtain⟨lv,k1,k2⟩:=(a2 e J).2 (by omega);exact⟨lv,X4 k1 hl,k2⟩
     ·obtain⟨_,Z⟩:=xe hb;cases hi:eL G T.its x i with
       |none=>rw[hi]at Z;injection Z with Z _;omega|some e=>rw[hi]at Z;simp only at Z;subst Z;obtain⟨lv,k1,k2⟩:=a5 i _ hi;exact⟨lv,X4 (k1 (by simp only;omega)) b4,k2⟩
 ·cases h
theorem se{env:List (Nat×Nat×EV G)}{d:Nat}:∀{ks:List Nat}{e:Nat×Nat×EV G},e∈tM env d ks->e.1∈ks/\∃lv,lke env e.1=some (lv,e.2.2)/\e.2.1=min lv d:=by
 intro ks;induction ks with
 |nil=>intro e h;cases h|cons q ks ih=>
   intro e h;simp only[tM]at h;split at h
   · rename_i lv ev Z;rcases Z4.1 h with rfl|h;·exact⟨by simp,lv,Z,rfl⟩
     ·obtain⟨J,W⟩:=ih h;exact⟨by simp[J],W⟩
   ·obtain⟨J,W⟩:=ih h;exact⟨by simp[J],W⟩
theorem FJ{d:Nat}:∀{its:List It}{x:fE G its},rz d its=true->∀e∈mV G its x,e.2.1=d+1:=by
 intro its;induction its with
 |nil=>intro x _ e J;cases J|cons i its ih=>intro x h e J;cases i with
   |v q lv s=>
     simp only[rz,Z3]at h;rcases Z4.1 J with rfl|J;·exact Z1 h.1
     ·exact ih h.2 e J|b i lv t=>simp only[rz,Z3]at h;exact ih h.2 e J|a i lv t nn=>simp only[rz,Z3]at h;exact ih h.2 e J
theorem LX{d:Nat}:∀{its:List It}{x:fE G its},rz d its=true->∀k e,eL G its x k=some e->e.1=d+1:=by
 intro its;induction its with
 |nil=>intro x _ k e J;cases J|cons i its ih=>intro x h k e J;cases i with
   |v q lv s=>simp only[rz,Z3]at h;exact ih h.2 k e J|b i lv t=>
     simp only[rz,Z3]at h;simp only[eL]at J;split at J;·injection J with J;subst J;exact Z1 h.1
     ·exact ih h.2 k e J|a i lv t nn=>
     simp only[rz,Z3]at h;simp only[eL]at J;split at J;·injection J with J;subst J;exact Z1 h.1
     ·exact ih h.2 k e J
theorem DK{k:Nat}:∀{its:List It}{x:fE G its},uT k its=(eL G its x k).isSome:=by
 intro its;induction its with
 |nil=>intro x;rfl|cons i its ih=>intro x;cases i with
   |v q lv s=>exact ih|b i lv t=>simp only[uT,eL];cases Z7 i k with
     |true=>rfl|false=>simpa using ih
   |a i lv t nn=>simp only[uT,eL];cases Z7 i k with
     |true=>rfl|false=>simpa using ih
theorem AV.Rel.z2{m1 m:M}{z1 z z':Cz}{b:AV G}{v1 v:Value}(h1:b.Rel G P m1 z1 v1)(h:b.Rel G P m z v)(hb:∀i p1 p,fb z1.b i=some p1->fb z.b i=some p->fb z'.b i=some p)(ht:∀j u1 u,fb z1.t j=some u1->fb z.t j=some u->fb z'.t j=some u):b.Rel G P m z' v:=by cases b with
 |dat t x o=>refine⟨h.1,?_⟩;cases o with
   |none=>trivial|some j=>exact ht j _ _ h1.2 h.2
 |loc i a b A=>obtain⟨p,J,W⟩:=h;obtain⟨p1,Z,_⟩:=h1;exact⟨p,hb _ _ _ Z J,W⟩|elp i j a b A=>obtain⟨p,J,W⟩:=h;obtain⟨p1,Z,_⟩:=h1;exact⟨p,hb _ _ _ Z J,W⟩|blk i=>obtain⟨p,J,W⟩:=h;obtain⟨p1,Z,_⟩:=h1;exact⟨p,hb _ _ _ Z J,W⟩|own i=>obtain⟨p,J,W⟩:=h;obtain⟨p1,Z,_⟩:=h1;exact⟨p,hb _ _ _ Z J,W⟩|_=>exact h
theorem EV.Rel.z2{m1 m:M}{Z z z':Cz}{e:EV G}{v1 v:Value}(h1:e.Rel G P m1 Z v1)(h:e.Rel G P m z v)(hb:∀i p1 p,fb Z.b i=some p1->fb z.b i=some p->fb z'.b i=some p)(ht:∀j u1 u,fb Z.t j=some u1->fb z.t j=some u->fb z'.t j=some u):e.Rel G P m z' v:=by cases e with
 |one b=>exact AV.Rel.z2 h1 h hb ht|tup asv=>
   obtain⟨J,k0,k1⟩:=h1;obtain⟨vs,k2,W⟩:=h;refine⟨vs,k2,?_⟩;clear k2 k0;induction asv generalizing vs J with
   |nil=>cases vs<;>exact W|cons b asv ih=>cases vs with
     |nil=>exact W|cons v vs=>cases J with
       |nil=>exact k1.elim|cons v1 J=>exact⟨AV.Rel.z2 k1.1 W.1 hb ht,ih J k1.2 vs W.2⟩
structure Ij (T:Lt)(st:St G):Prop where
 len:st.L.length=T.nb
 tls:st.T=T.T
 nd:wc T.keep=true
 lv:rz st.c T.its=true
 keep:∀q∈T.keep,∃e,lke st.env q=some e
theorem Lt.fit_ok{T:Lt}{J:St G}{x:fE G T.its}(h:T.fit Γ st=some (J,x)):J=pD G T.its st/\Ij T J/\oT Γ T.T.length J T.its=some x:=by
 unfold Lt.fit at h;simp only at h;split at h
 · rename_i W;split at h
   ·rename_i y hy;injection h with h;injection h with h1 h2;subst h1;subst h2;simp only[Z3]at W;obtain⟨⟨⟨⟨Z,c2⟩,c3⟩,c4⟩,c5⟩:=W;refine⟨rfl,⟨Z1 Z,of_decide_eq_true c2,c3,c4,λq hq=>?_⟩,hy⟩;exact Option.isSome_iff_exists.1 (Z5.1 c5 q hq)
   ·cases h
 ·cases h
theorem Lt.entry{T:Lt}{h:St G}{x:fE G T.its}(hs:Sat G P δ n W0 L0 T0 m0 h a w)(J:Ij T h)(hf:oT Γ T.T.length h T.its=some x):Sat G P δ n W0 L0 T0 m0 (T.st G h x) a w:=by
 obtain⟨⟨m,z,h0,hr,hM⟩,hdf,hsz⟩:=hs;have Z:=hM.len;have a3:=Bg hf;obtain⟨z',a4,a1,a0⟩:=gB.cut (T':=T.T) (nb:=T.nb) (f:=λi=>match eL G T.its x i with|some e=>e|none=>(match fb h.L i with|some e=>(min e.1 h.c,e.2)|none=>(0,.gone))) hM (by rw[J.len];exact Z9 _) (λi hi=>by cases hi:eL G T.its x i with
  |none=>cases hj:fb h.L i with
    |none=>exact .inl (by simp)|some e=>exact .inr ⟨e.1,by simp⟩
  |some e=>obtain⟨lv,_,h2⟩:=a3 i e hi;exact .inr ⟨lv,h2⟩) (by rw[J.tls];simp) (by obtain⟨_,_,_,_,_,a5⟩:=hM;have:=a5.len;rw[Z.1,J.len]at this;exact this);have hz:Zle z z':=⟨λi p hp=>a1 i p (by have:=zX hp;rw[Z.1,J.len]at this;exact this) hp,λj v hv=>a0 j v (by have:=zX hv;rw[Z.2,J.tls]at this;exact this) hv⟩;have a2:=Bf hr a0 hf;refine⟨⟨m,z',h0,λe W=>?_,a4⟩,hdf,hsz⟩;rcases Z8.1 W with W|W;·exact(a2 e W).1
 ·obtain⟨_,lv,h1,_⟩:=se W;exact(hr _ (iX h1)).z hz
theorem Lt.ext{T:Lt}{W:St G}{s:fE G T.its}(Z:Ij T W):Ext W.c W (T.st G W s):=by
 refine⟨λk a0 e h hl=>?_,λk a0 i sl B hb a1=>?_⟩
 · rcases Z8.1 h with h|h;·have:=FJ Z.lv e h;omega
   ·obtain⟨_,lv,h1,h2⟩:=se h;exact⟨lv,by omega,iX h1⟩
 ·obtain⟨hi,J⟩:=xe hb;cases hit:eL G T.its s i with
   |some e=>rw[hit]at J;have:=LX Z.lv i e hit;simp only at J;subst J;simp only at this;omega|none=>
     rw[hit]at J;obtain⟨e,h⟩:=Bd (l:=W.L) (i:=i) (by rw[Z.len];exact hi);simp only[h]at J;injection J with h1 h2;subst h2;exact⟨e.1,by omega,h⟩
theorem JE{env:List (Nat×Nat×EV G)}{d q lv:Nat}{e:EV G}:∀{ks:List Nat},(q,lv,e)∈tM env d ks->∃J,lke env q=some (J,e):=by intro ks h;obtain⟨_,J,W,_⟩:=se h;exact⟨J,W⟩
theorem Lt.back_ok{T:Lt}{h st':St G}{s s':fE G T.its}{a0:Act}{w0:World}(hk:Ij T h) (h0:Sat G P δ n W0 L0 T0 m0 (T.st G h s) a0 w0) (b2:Sat G P δ n W0 L0 T0 m0 st' a w) (b0:Ext (h.c+1) (T.st G h s) st') (hc:st'.c=h.c+1)(hb:T.back Γ h.c st'=some s'):Sat G P δ n W0 L0 T0 m0 (T.st G h s') a w:=by
 obtain⟨hs,a3,e4⟩:=Be (its:=T.its) b2;unfold Lt.back at hb;simp only at hb;rw[hc]at a3;have hx:=b0.trans a3;clear a3 b0 b2;generalize pD G T.its st'=st' at*;obtain⟨⟨m1,z1,_,e3,b3⟩,_,_⟩:=h0;have a2:=b3.len;have a4:(T.st G h s).L.length=T.nb:=xd;obtain⟨⟨m,z,c5,hr,hM⟩,hdf,hsz⟩:=hs;split at hb
 · rename_i a1;unfold JD at a1;simp only[Z3]at a1;obtain⟨⟨⟨c1,c2⟩,c3⟩,c4⟩:=a1;have d0:=Bg hb;have d2:∀i,i<T.nb->eL G T.its s' i=none->∃sl e,fb h.L i=some e/\fb st'.L i=some (sl,e.2):=by
    intro i hi hn;have J:=Z5.1 c4 i (by simpa using hi);have a5:uT i T.its=false:=by rw[DK (G:=G) (x:=s'),hn];rfl
    rw[a5,Bool.false_or]at J;split at J
    · rename_i lv B hB;have e1:=zx J;obtain⟨sl,_,h6⟩:=hx.blk h.c (Nat.lt_succ_self _) i lv B hB e1;obtain⟨_,hy⟩:=xe h6;have b7:eL G T.its s i=none:=by have:=DK (G:=G) (x:=s) (k:=i);rw[a5]at this;cases hq:eL G T.its s i with
       |none=>rfl|some e=>rw[hq]at this;cases this
      rw[b7]at hy;obtain⟨e,W⟩:=Bd (l:=h.L) (i:=i) (by rw[hk.len];exact hi);simp only[W]at hy;injection hy with _ hy;subst hy;exact⟨lv,e,W,hB⟩
    ·cases J
   obtain⟨z',e0,b5,a6⟩:=gB.cut (T':=T.T) (nb:=T.nb) (f:=λi=>match eL G T.its s' i with|some e=>e|none=>(match fb h.L i with|some e=>(min e.1 h.c,e.2)|none=>(0,.gone))) hM (zx c2) (λi hi=>by cases hii:eL G T.its s' i with
    |none=>obtain⟨sl,e,h1,Z⟩:=d2 i hi hii;exact .inr ⟨sl,by simp[h1,Z]⟩|some e=>obtain⟨lv,_,Z⟩:=d0 i e hii;exact .inr ⟨lv,Z⟩) (of_decide_eq_true c3) (by obtain⟨_,_,_,_,_,d1⟩:=b3;have:=d1.len;rw[a2.1,a4]at this;exact this);have b6:=Bf hr a6 hb;refine⟨⟨m,z',c5,λe W=>?_,e0⟩,hdf,hsz⟩;rcases Z8.1 W with W|W;·exact(b6 e W).1
   · obtain⟨hq,lv,h1,_⟩:=se W;have Z:=Z5.1 c1 e.1 hq;split at Z
     · rename_i c6 b1 a9;obtain⟨e6,h3,J⟩:=hx.env h.c (Nat.lt_succ_self _) (e.1,c6,b1) (iX a9) (zx Z);have c7:b1=e.2.2:=by
        rcases Z8.1 J with J|J
        ·have:=FJ hk.lv _ J;simp only at this;omega
        ·obtain⟨e5,h5⟩:=JE J;rw[h1]at h5;injection h5 with h5;injection h5 with _ h5;exact h5.symm
       subst c7;have r1:=e3 e (Z8.2 (.inr W));have r2:=hr _ (iX a9);refine EV.Rel.z2 r1 r2 (λi p1 p b4 hp=>b5 i p ?_ hp) (λj u1 u c0 hu=>a6 j u ?_ hu);·have:=zX b4;rw[a2.1,a4]at this;exact this
       ·have:=zX c0;rw[a2.2]at this;exact this
     ·cases Z
 ·cases hb
end
section
variable{G:Sg}{P:Program}{δ:List Nat}{n:Nat}{W0:Bse}{L0:Rs}{T0:List (Nat×Value)}{m0:M}{Γ:Tab P G}{D:List (CS P G)}{ro:Option Nat}
theorem GU{ρ:Type}{id:Nat}{ops:Array Oper}{dr:Bool}{st:St G}{K':St G->Option ρ}{r:ρ}{a:Act}{w:World}{NP RP:Act->World->Prop}{XP:List (Nat×(Act->World->Prop))}(a1:P.follows .mixedOrders=true)(h:Ba n Γ D ops.toList dr st K'=some r)(Z:Sat G P δ n W0 L0 T0 m0 st a w)(W:Nxt G P δ n W0 L0 T0 m0 K' r st NP):K ro P (.region id ops dr) NP XP RP a w:=by obtain⟨os⟩:=ops;cases dr with
 |false=>exact ak (A9 h Z λst' a' w' h1 h2 h3 h4=>ag (W st' a' w' h1 h2 h3 h4))|true=>
  unfold Ba at h;simp only at h;split at h
  ·rename_i k hk;split at h
   ·rename_i J;simp only[Z3]at J;split at h
    ·rename_i a0;exact LV a0 a1 Z (Fz J.1 J.2) (Ul hk) h W
    ·cases h
   ·cases h
  split at h
  ·rename_i J;simp only[Z3]at J;split at h
   ·rename_i a0;exact N5 a0 a1 Z (Fz J.1.1 J.2) J.1.2 h W
   ·split at h
    ·rename_i hg;exact LS a1 Z (Fz J.1.1 J.2) J.1.2 hg h W
    ·cases h
  ·cases h
theorem Hq{σ ρ:Type}{x:Option ρ}{r:σ⊕ρ}(h:x.map Sum.inr=some r):∃o,x=some o/\r=.inr o:=by cases x with
 |none=>cases h|some o=>injection h with h;exact⟨o,rfl,h.symm⟩
theorem Bh{np:Nat}(b4:L0.nm.length<=np)(b3:P.follows .mixedOrders=true):∀(c:Code){ρ:Type}(A:An G ρ) (st:St G) (N:St G->Option ρ) (X:Nat->St G->Option ρ) (R:St G->Option ρ) (r:ρ) (a:Act) (w:World) (NP W:Act->World->Prop) (XP:List (Nat×(Act->World->Prop))),ex n Γ D c A st N X R=some r->Obl np n Γ D c A st.c N X R->Sat G P δ n W0 L0 T0 m0 st a w->Nxt G P δ n W0 L0 T0 m0 N r st NP->(∀j,Nxt G P δ n W0 L0 T0 m0 (X j) r st (λa w=>∃e,XP.find? (λe=>Z7 e.1 j)=some e/\e.2 a w))->Nxt G P δ n W0 L0 T0 m0 R r st W->K ro P c NP XP W a w:=by
 intro c;induction c with
 |skip=>intro ρ A st N X R r a w NP W XP h _ Z hN _ _;exact a7 (hN st a w h Z (Ext.refl _ _) rfl)|label l=>intro ρ A st N X R r a w NP W XP h _ Z hN _ _;exact I5 (hN st a w h Z (Ext.refl _ _) rfl)|region id ops dr=>intro ρ A st N X R r a w NP W XP h _ Z hN _ _;exact GU b3 h Z hN|exit id=>intro ρ A st N X R r a w NP W XP h _ Z _ hX _;obtain⟨e,h1,h2⟩:=hX id st a w h Z (Ext.refl _ _) rfl;exact fe h1 rfl h2|ret=>intro ρ A st N X R r a w NP W XP h _ Z _ _ hR;exact bK (hR st a w h Z (Ext.refl _ _) rfl)|seq x y ihx ihy=>
  intro ρ A st N X R r a w NP W XP h hO Z hN hX hR;have a0:∀{Ax Ay:An G ρ},ex n Γ D x Ax st (λst'=>ex n Γ D y Ay st' N X R) X R=some r->Obl np n Γ D x Ax st.c (λst'=>ex n Γ D y Ay st' N X R) X R->Obl np n Γ D y Ay st.c N X R->K ro P (.seq x y) NP XP W a w:=by intro Ax Ay h a4 a5;refine ab (ihx Ax st _ X R r a w _ W XP h a4 Z (λst' a' w' h1 h2 h3 h4=>?_) hX hR);exact ihy Ay st' N X R r a' w' NP W XP h1 (by rw[h4];exact a5) h2 (hN.later h3 h4) (λj=>(hX j).later h3 h4) (hR.later h3 h4)
  cases A with
  |s l r'=>exact a0 h hO.1 hO.2|c l T J r'=>
   obtain⟨o1,o0,o2,o3⟩:=hO;refine ab (ihx l st _ X R r a w _ W XP h o1 Z (λst' a' w' h1 h2 h3 h4=>?_) hX hR);split at h1
   ·rename_i v hv;obtain⟨k1,k2⟩:=Tm.ok (X4 b4 (zx o0)) hv h2;rw[h4]at k1 k2;have hx:=h3.trans k2;refine ihy r' (T.st G st.c v) N X R r a' w' NP W XP (by rw[o2 v];exact h1) o3 k1 (hN.later hx rfl) (λj=>(hX j).later hx rfl) (hR.later hx rfl)
   ·cases h1|_=>exact a0 h (Obl.o ..) (Obl.o ..)
 |cond cnd x y ihx ihy=>
  intro ρ A st N X R r a w NP W XP h hO Z hN hX hR;unfold ex at h;split at h
  ·rename_i v hv;split at h
   ·rename_i b hb;obtain⟨⟨m,z,h0,hr,hM⟩,hdf,hsz⟩:=Z;have Z:Sat G P δ n W0 L0 T0 m0 st a w:=⟨⟨m,z,h0,hr,hM⟩,hdf,hsz⟩;have b6:=AV.b_rel hb (bp (fD hr) hv);have a0:∀{Ax Ay:An G ρ},(if b=true then ex n Γ D x Ax st N X R else ex n Γ D y Ay st N X R)=some r->Obl np n Γ D x Ax st.c N X R->Obl np n Γ D y Ay st.c N X R->K ro P (.cond cnd x y) NP XP W a w:=by
     intro Ax Ay h a4 a5;refine wpIn_cond_split b6 (λhb=>?_) (λhb=>?_)
     ·rw[if_pos hb]at h;exact ihx Ax st N X R r a w NP W XP h a4 Z hN hX hR
     ·rw[if_neg (by rw[hb];decide)]at h;exact ihy Ay st N X R r a w NP W XP h a5 Z hN hX hR
    cases A with
    |i l r'=>exact a0 h hO.1 hO.2|_=>exact a0 h (Obl.o ..) (Obl.o ..)
   ·cases h
  ·cases h|block id c ih=>
  intro ρ A st N X R r a w NP W XP h hO Z hN hX hR;have a0:∀{Ac:An G ρ},ex n Γ D c Ac st N (λj st'=>match Z7 j id with|true=>N st'|false=>X j st') R=some r->Obl np n Γ D c Ac st.c N (λj st'=>match Z7 j id with|true=>N st'|false=>X j st') R->K ro P (.block id c) NP XP W a w:=by
   intro Ac h c1;refine bj (ih Ac st N _ R r a w NP W _ h c1 Z hN (λj st' a' w' h1 h2 h3 h4=>?_) hR);split at h1
   ·rename_i hj;have:=Z1 hj;subst this;exact⟨(j,NP),by simp[List.find?],hN st' a' w' h1 h2 h3 h4⟩
   ·rename_i hj;obtain⟨e,q1,q2⟩:=hX j st' a' w' h1 h2 h3 h4;have c0:Z7 id j=false:=by cases hb:Z7 id j with
     |false=>rfl|true=>have:=Z1 hb;subst this;simp at hj
    exact⟨e,by simp only[List.find?,c0];exact q1,q2⟩
  cases A with
  |b x=>exact a0 h hO|_=>exact a0 h (Obl.o ..)
 |scope c ih=>intro ρ A st N X R r a w NP W XP h hO Z hN hX hR;cases A with
  |b x=>exact EQ (ih x st N X R r a w NP W XP h hO Z hN hX hR)|_=>exact EQ (ih .o st N X R r a w NP W XP h (Obl.o ..) Z hN hX hR)
 |loop c ih=>intro ρ A st N X R r a w NP W XP h hO Z hN hX hR;cases A with
  |l T b=>
   unfold ex at h;simp only at h;split at h
   ·rename_i a1 x0 b7;obtain⟨e1,hk,hf⟩:=Lt.fit_ok b7;obtain⟨b0,a9,a2⟩:=Be (its:=T.its) Z;rw[←e1]at b0 a9 a2;refine fN h (λs a w=>Sat G P δ n W0 L0 T0 m0 (T.st G a1 s) a w) (Lt.entry b0 hk hf) ?_;intro s a w hI r' b5 b1;have a3:(T.st G a1 s).c=st.c+1:=by show a1.c+1=_;rw[a2]
    have a6:∀{st':St G},Ext (T.st G a1 s).c (T.st G a1 s) st'->Ext st.c st (low st.c st'):=by intro st' hx;rw[a3]at hx;have h2:=Lt.ext (s:=s) hk;rw[a2]at h2;have h3:=a9.trans (h2.trans (hx.le (Nat.le_succ _)));exact⟨h3.env,h3.blk⟩
    have b2:∀{st':St G}{a':Act}{w':World},Sat G P δ n W0 L0 T0 m0 st' a' w'->Sat G P δ n W0 L0 T0 m0 (low st.c st') a' w':=λZ=>⟨Z.ex,Z.df,Z.sz⟩;refine ih b (T.st G a1 s) _ _ _ r' a w _ W XP b5 (by rw[a3];exact hO) hI (λst' a' w' h1 h2 h3 h4=>?_) (λj st' a' w' h1 h2 h3 h4=>?_) (λst' a' w' h1 h2 h3 h4=>?_)
    ·split at h1
     ·rename_i s' hb;injection h1 with h1;rw[←a2]at hb;refine⟨s',h1.symm,Lt.back_ok hk hI h2 ?_ ?_ hb⟩;·rw[a3,←a2]at h3;exact h3
      ·rw[h4,a3,a2]
     ·cases h1
    ·obtain⟨o,q1,q2⟩:=Hq h1;have:=b1 o q2;subst this;exact hX j _ a' w' q1 (b2 h2) (a6 h3) rfl
    ·obtain⟨o,q1,q2⟩:=Hq h1;have:=b1 o q2;subst this;exact hR _ a' w' q1 (b2 h2) (a6 h3) rfl
   ·cases h|_=>simp[ex]at h
 |rangeFunc f ps asg c _ _=>intro ρ A st N X R r a w NP W XP h;simp[ex]at h|goto l=>intro ρ A st N X R r a w NP W XP h;simp[ex]at h|refuse s=>intro ρ A st N X R r a w NP W XP h;simp[ex]at h
end
section
variable{G:Sg}{P:Program}
def sR (G:Sg):(ps:List Pm)->dH G ps->Nat->List (Nat×Nat×EV G)×List (Nat×BC G)×List Nat
 |[],_,_=>([],[],[])|.rd t::ps,x,i=>match sR G ps x.2 (i+1)with|(e,L,T)=>((i,0,.one (.dat t x.1 none))::e,L,T)
 |.ap t::ps,x,i=>match sR G ps x.2 (i+1)with|(e,L,T)=>((i,0,.one (.dat (.sl t) x.1 (some T.length)))::e,L,(t.kd G).sz::T)
 |.pt t::ps,x,i=>match sR G ps x.2 (i+1)with|(e,L,T)=>((i,0,.one (.blk L.length))::e,(0,.dat t x.1)::L,T)
 |.ow t::ps,x,i=>match sR G ps x.2 (i+1)with|(e,L,T)=>((i,0,.one (.own L.length))::e,(0,.arr t none x.1)::L,T)
 |.f1 a b::ps,x,i=>match sR G ps x.2 (i+1)with|(e,L,T)=>((i,0,.one (.fn1 a b x.1))::e,L,T)
 |.f2 a c b::ps,x,i=>match sR G ps x.2 (i+1)with|(e,L,T)=>((i,0,.one (.fn2 a c b x.1))::e,L,T)
def CU (G:Sg)(ps:List Pm)(x:dH G ps):St G:=match sR G ps x 0 with|(e,L,T)=>⟨e,0,L,T⟩
def nmA:List Pm->List Value->List (Nat×List Value)->List (Nat×Value)
 |.pt _::ps,v::vs,e::Lp=>(e.1,v)::nmA ps vs Lp|.ow _::ps,v::vs,e::Lp=>(e.1,v)::nmA ps vs Lp|.rd _::ps,_::vs,Lp=>nmA ps vs Lp|.ap _::ps,_::vs,Lp=>nmA ps vs Lp|.f1 _ _::ps,_::vs,Lp=>nmA ps vs Lp|.f2 _ _ _::ps,_::vs,Lp=>nmA ps vs Lp|_,_,_=>[]
def Rm.pm:Rm->Pm
 |.rd t=>.rd t|.ap t=>.ap t|.ow t=>.ow t
def lH (G:Sg)(os:List Ty):(rs:List Rm)->dH G (rs.map Rm.pm)->br G os->br G (rs.map Rm.ty++os)
 |[],_,o=>o|.rd t::rs,y,o=>mkT G t (rs.map Rm.ty++os) y.1 (lH G os rs y.2 o)|.ap t::rs,y,o=>mkT G (.sl t) (rs.map Rm.ty++os) y.1 (lH G os rs y.2 o)|.ow t::rs,y,o=>mkT G (.sl t) (rs.map Rm.ty++os) y.1 (lH G os rs y.2 o)
def BC.dt?:BC G->Option ((t:Ty)×t.den G)
 |.dat t x=>some ⟨t,x⟩|_=>none
def BC.ar?:BC G->Option ((t:Ty)×List (t.den G)×Option Nat)
 |.arr t n x=>some ⟨t,x,n⟩|_=>none
theorem BC.dt_eq{B:BC G}{q:(t:Ty)×t.den G}(h:B.dt?=some q):B=.dat q.1 q.2:=by cases B<;>simp[BC.dt?]at h;subst h;rfl
theorem BC.ar_eq{B:BC G}{q:(t:Ty)×List (t.den G)×Option Nat}(h:B.ar?=some q):B=.arr q.1 q.2.2 q.2.1:=by cases B<;>simp[BC.ar?]at h;subst h;rfl
def sS (G:Sg):(ps:List Pm)->List (Nat×BC G)->Option (br G (ps.filterMap Pm.out))
 |[],_=>some ()|p::ps,Bs=>match p with
  |.pt t=>(match Bs with
   |B::Bs=>(match B.2.dt? with
    |some q=>(match dR G q.1 t q.2,sS G ps Bs with|some x,some y=>some (mkT G t (ps.filterMap Pm.out) x y)|_,_=>none)|none=>none)|[]=>none)|.ow t=>(match Bs with
   |B::Bs=>(match B.2.ar? with
    |some q=>(match dR G (.sl q.1) (.sl t) q.2.1,sS G ps Bs with|some x,some y=>some (mkT G (.sl t) (ps.filterMap Pm.out) x y)|_,_=>none)|none=>none)|[]=>none)|.rd _=>sS G ps Bs|.ap _=>sS G ps Bs|.f1 _ _=>sS G ps Bs|.f2 _ _ _=>sS G ps Bs
def cnt (ps:List Pm):Nat:=(ps.filterMap Pm.out).length
def yO (Γ:Tab P G)(ps:List Pm)(rs:List Rm)(res:List Nat)(st:St G):Option (br G (gu ps rs)):=match iY Γ (rs.map Rm.pm) (res.map Operand.tmp) (xa (rs.map Rm.pm) (res.map Operand.tmp) st)with
 |some (y,st2,_)=>(match Zq (cnt ps) st2.L.length,sS G ps (st2.L.drop (st2.L.length-cnt ps))with
  |true,some o=>some (lH G (ps.filterMap Pm.out) rs y o)|_,_=>none)|none=>none
noncomputable def exF (n:Nat) (Γ:Tab P G) (D:List (CS P G)) (c:Code) (ps:List Pm) (rs:List Rm) (res:List Nat) (A:An G (br G (gu ps rs))) (x:dH G ps):Option (br G (gu ps rs)):=ex n Γ D c A (CU G ps x) (yO Γ ps rs res) (λ_ _=>none) (yO Γ ps rs res)
end
section
variable{G:Sg}{P:Program}{W0:Bse}{m:M}{z:Cz}{a:Act}{w:World}{Γ:Tab P G}
theorem yP:∀{ps:List Pm}{vs:List Value}{x:dH G ps}{Lp:List (Nat×List Value)}{Tp:List (Nat×Value)}{i:Nat},kH G P m ps vs x Lp Tp->(∀j v,vs[j]?=some v->a.tmps.getD (i+j) undef=v)->∃J,kI G P m ⟨nmA ps vs Lp,J⟩ (sR G ps x i).1 a/\LR G m (sR G ps x i).2.1 (nmA ps vs Lp) Lp/\TRl (sR G ps x i).2.2 J Tp/\vs.length=ps.length/\(nmA ps vs Lp).length=cnt ps:=by
 intro ps;induction ps with
 |nil=>intro vs x Lp Tp i h _;cases vs<;>cases Lp<;>cases Tp<;>first|exact h.elim|exact⟨[],λe W=>(by cases W),trivial,trivial,rfl,rfl⟩
 |cons p ps ih=>intro vs x Lp Tp i h ha;cases vs with
  |nil=>cases p<;>exact h.elim|cons v vs=>
   have Z:=ha 0 v rfl;have a0:∀j u,vs[j]?=some u->a.tmps.getD (i+1+j) undef=u:=λj u hu=>by have:=ha (j+1) u (by simpa using hu);rw[show i+1+j=i+(j+1)by omega];exact this
   cases p with
   |rd t=>
    obtain⟨h1,h2⟩:=h;obtain⟨J,k1,k2,k3,k4,k5⟩:=ih h2 a0;refine⟨J,λe W=>?_,k2,k3,by simp[k4],k5⟩;rcases Z4.1 W with rfl|W
    ·rw[Zo]at Z;show RV _ m (a.tmps.getD i undef) _/\True;rw[Z];exact⟨h1,trivial⟩
    ·exact k1 e W|ap t=>cases Tp with
    |nil=>exact h.elim|cons e Tp=>
     obtain⟨h1,rfl,h2⟩:=h;obtain⟨J,k1,k2,k3,k4,k5⟩:=ih h2 a0;refine⟨v::J,λe W=>?_,k2,⟨rfl,k3⟩,by simp[k4],k5⟩;rcases Z4.1 W with rfl|W
     ·rw[Zo]at Z;show RV _ m (a.tmps.getD i undef) _/\Tag _ _ _;rw[Z];refine⟨h1,?_⟩;show fb (v::J) _=some v;rw[←k3.len.1];exact ki
     ·exact(k1 e W).z (Zle.pushT _ v)
   |pt t=>cases Lp with
    |nil=>exact h.elim|cons e Lp=>
     obtain⟨h1,h3,h2⟩:=h;obtain⟨J,k1,k2,k3,k4,k5⟩:=ih h2 a0;refine⟨J,λq hq=>?_,⟨rfl,h1,k2⟩,k3,by simp[k4],by simp[nmA,k5,cnt,Pm.out]⟩;rcases Z4.1 hq with rfl|hq
     ·rw[Zo]at Z;refine⟨(e.1,v),?_,by rw[Z];exact h3⟩;show fb ((e.1,v)::nmA ps vs Lp) _=_;rw[←k2.len.1];exact ki
     ·exact(k1 q hq).z (Zle.pushB ⟨nmA ps vs Lp,J⟩ (e.1,v))
   |ow t=>cases Lp with
    |nil=>exact h.elim|cons e Lp=>
     obtain⟨h1,h2⟩:=h;obtain⟨J,k1,k2,k3,k4,k5⟩:=ih h2 a0;refine⟨J,λq hq=>?_,⟨rfl,⟨h1,trivial⟩,k2⟩,k3,by simp[k4],by simp[nmA,k5,cnt,Pm.out]⟩;rcases Z4.1 hq with rfl|hq
     ·rw[Zo]at Z;refine⟨(e.1,v),?_,by rw[Z]⟩;show fb ((e.1,v)::nmA ps vs Lp) _=_;rw[←k2.len.1];exact ki
     ·exact(k1 q hq).z (Zle.pushB ⟨nmA ps vs Lp,J⟩ (e.1,v))
   |f1 b c=>
    obtain⟨h1,h2⟩:=h;obtain⟨J,k1,k2,k3,k4,k5⟩:=ih h2 a0;refine⟨J,λe W=>?_,k2,k3,by simp[k4],k5⟩;rcases Z4.1 W with rfl|W
    ·rw[Zo]at Z;show Fn1 P _ _ m (a.tmps.getD i undef) _;rw[Z];exact h1
    ·exact k1 e W|f2 b c d=>
    obtain⟨h1,h2⟩:=h;obtain⟨J,k1,k2,k3,k4,k5⟩:=ih h2 a0;refine⟨J,λe W=>?_,k2,k3,by simp[k4],k5⟩;rcases Z4.1 W with rfl|W
    ·rw[Zo]at Z;show Fn2 P _ _ _ m (a.tmps.getD i undef) _;rw[Z];exact h1
    ·exact k1 e W
theorem Hr{os:List Ty}{o:br G os}:∀{rs:List Rm}{us:List Value}{y:dH G (rs.map Rm.pm)}{Lr:List (Nat×List Value)}{Tr:List (Nat×Value)},kH G P m (rs.map Rm.pm) us y Lr Tr->nw G m os rs us (lH G os rs y o) Lr Tr/\rest G os rs (lH G os rs y o)=o:=by
 intro rs;induction rs with
 |nil=>intro us y Lr Tr h;cases us<;>cases Lr<;>cases Tr<;>first|exact h.elim|exact⟨trivial,rfl⟩
 |cons r rs ih=>intro us y Lr Tr h;cases us with
  |nil=>cases r<;>exact h.elim|cons u us=>cases r with
   |rd t=>obtain⟨J,Z⟩:=h;obtain⟨k1,k2⟩:=ih Z;have W:hdT G t (rs.map Rm.ty++os) (lH G os (.rd t::rs) y o)=y.1:=BH;have e2:tlT G t (rs.map Rm.ty++os) (lH G os (.rd t::rs) y o)=lH G os rs y.2 o:=BJ;exact⟨⟨W.symm▸J,e2.symm▸k1⟩,(congrArg (rest G os rs) e2).trans k2⟩|ap t=>cases Tr with
    |nil=>exact h.elim|cons e Tr=>obtain⟨J,h3,Z⟩:=h;obtain⟨k1,k2⟩:=ih Z;have W:hdT G (.sl t) (rs.map Rm.ty++os) (lH G os (.ap t::rs) y o)=y.1:=BH;have e2:tlT G (.sl t) (rs.map Rm.ty++os) (lH G os (.ap t::rs) y o)=lH G os rs y.2 o:=BJ;exact⟨⟨W.symm▸J,h3,e2.symm▸k1⟩,(congrArg (rest G os rs) e2).trans k2⟩
   |ow t=>cases Lr with
    |nil=>exact h.elim|cons e Lr=>obtain⟨J,Z⟩:=h;obtain⟨k1,k2⟩:=ih Z;have W:hdT G (.sl t) (rs.map Rm.ty++os) (lH G os (.ow t::rs) y o)=y.1:=BH;have e2:tlT G (.sl t) (rs.map Rm.ty++os) (lH G os (.ow t::rs) y o)=lH G os rs y.2 o:=BJ;exact⟨⟨W.symm▸J,e2.symm▸k1⟩,(congrArg (rest G os rs) e2).trans k2⟩
theorem Hs:∀{ps:List Pm}{vs:List Value}{W:List (Nat×BC G)}{Lp Lp':List (Nat×List Value)}{x:dH G ps}{o:br G (ps.filterMap Pm.out)}{Tp:List (Nat×Value)}{m0:M},kH G P m0 ps vs x Lp Tp->sS G ps W=some o->W.length=cnt ps->LR G m W (nmA ps vs Lp) Lp'->i9 G m ps vs o Lp Lp':=by
 intro ps;induction ps with
 |nil=>intro vs W Lp Lp' x o Tp m0 h J hl Z;have:W=[]:=Zn hl;subst this;cases vs<;>cases Lp<;>cases Tp<;>cases Lp'<;>first|exact h.elim|exact Z.elim|trivial
 |cons p ps ih=>intro vs W Lp Lp' x o Tp m0 h J hl Z;cases vs with
  |nil=>cases p<;>exact h.elim|cons v vs=>cases p with
   |pt t=>cases Lp with
    |nil=>exact h.elim|cons e Lp=>obtain⟨_,_,h2⟩:=h;cases W with
     |nil=>simp[cnt,Pm.out]at hl|cons B W=>cases Lp' with
      |nil=>exact Z.elim|cons e' Lp'=>obtain⟨q1,q2,q3⟩:=Z;unfold sS at J;dsimp only at J;cases hq:B.2.dt? with
       |none=>simp[hq]at J|some q=>simp only[hq]at J;rw[BC.dt_eq hq]at q2;obtain⟨t',y⟩:=q;cases hc:dR G t' t y with
        |none=>simp[hc]at J|some y'=>cases ho':sS G ps W with
         |none=>simp[hc,ho']at J|some o'=>simp only[hc,ho']at J;obtain⟨ee,hy⟩:=bW hc;subst ee;subst hy;have J:=Option.some.inj J;subst J;have e1:hdT G t' (ps.filterMap Pm.out) (mkT G t' (ps.filterMap Pm.out) y o')=y:=BH;have e2:tlT G t' (ps.filterMap Pm.out) (mkT G t' (ps.filterMap Pm.out) y o')=o':=BJ;exact⟨q1,e1.symm▸q2,e2.symm▸ih h2 ho' (by simpa[cnt,Pm.out]using hl) q3⟩
   |ow t=>cases Lp with
    |nil=>exact h.elim|cons e Lp=>obtain⟨_,h2⟩:=h;cases W with
     |nil=>simp[cnt,Pm.out]at hl|cons B W=>cases Lp' with
      |nil=>exact Z.elim|cons e' Lp'=>obtain⟨q1,q2,q3⟩:=Z;unfold sS at J;dsimp only at J;cases hq:B.2.ar? with
       |none=>simp[hq]at J|some q=>simp only[hq]at J;rw[BC.ar_eq hq]at q2;obtain⟨t',y,nn⟩:=q;cases hc:dR G (.sl t') (.sl t) y with
        |none=>simp[hc]at J|some y'=>cases ho':sS G ps W with
         |none=>simp[hc,ho']at J|some o'=>
          simp only[hc,ho']at J;obtain⟨ee,hy⟩:=bW hc;injection ee with ee;subst ee;subst hy;have J:=Option.some.inj J;subst J;have e1:hdT G (.sl t') (ps.filterMap Pm.out) (mkT G (.sl t') (ps.filterMap Pm.out) y o')=y:=BH;have e2:tlT G (.sl t') (ps.filterMap Pm.out) (mkT G (.sl t') (ps.filterMap Pm.out) y o')=o':=BJ;refine⟨q1,e1.symm▸?_,e2.symm▸ih h2 ho' (by simpa[cnt,Pm.out]using hl) q3⟩;rw[q1];exact q2.1
   |rd t=>exact ih h.2 J hl Z|ap t=>cases Tp with
    |nil=>exact h.elim|cons e Tp=>exact ih h.2.2 J hl Z
   |f1 b c=>exact ih h.2 J hl Z|f2 b c d=>exact ih h.2 J hl Z
theorem S.between{A B C:List (Nat×List Value)}{TL:List (Nat×Value)}(h:S W0 m w (A++(B++C)) TL)(k:Nat)(Z:k<=B.length):S W0 m w (A++(B.drop k++C)) TL:=by
 refine h.selL _ (λi=>if i<A.length then i else i+k) (λi e J=>?_) (λi j W=>?_)
 ·by_cases hi:i<A.length
  ·rw[if_pos hi];rw[Zb hi]at J⊢;exact J
  ·rw[if_neg hi];rw[Zg (by omega)]at J⊢;rw[show B.drop k++C=(B++C).drop k from(Zd Z).symm,List.getElem?_drop]at J;rw[show i+k-A.length=k+(i-A.length)by omega];exact J
 ·split at W<;>split at W<;>omega
theorem S.betweenT{A B C:List (Nat×Value)}{L:List (Nat×List Value)}(h:S W0 m w L (A++(B++C))):S W0 m w L (A++C):=by
 refine h.selT _ (λi=>if i<A.length then i else i+B.length) (λi e J=>?_) (λi j W=>?_)
 ·by_cases hi:i<A.length
  ·rw[if_pos hi];rw[Zb hi]at J⊢;exact J
  ·rw[if_neg hi];rw[Zg (by omega)]at J⊢;rw[Zg (by omega),show i+B.length-A.length-B.length=i-A.length by omega];exact J
 ·split at W<;>split at W<;>omega
theorem DL{l:List (Nat×Value)}{n:Nat}(J:Env n a l):∀{res:List Nat},(∀t∈res,lk l t=some (a.tmps.getD t undef))->tR P a w (res.map ResultVar.tmp) (res.map λt=>a.tmps.getD t undef)
 |[],_=>.nil|t::res,h=>.tmp J (h t (by simp)) (DL J λu W=>h u (by simp[W]))
theorem JF{n:Nat}{fn:Func}{ps:List Pm}{rs:List Rm}{res:List Nat}{st:St G}{L:List (Nat×List Value)}{TL:List (Nat×Value)}{vs:List Value}{x:dH G ps}{Lp:List (Nat×List Value)}{Tp:List (Nat×Value)}{m0:M}{r:br G (gu ps rs)}(a9:fn.results.toList=res.map ResultVar.tmp) (hP:kH G P m0 ps vs x Lp Tp) (a6:(nmA ps vs Lp).length=cnt ps) (hs:Sat G P [] n W0 ⟨L,nmA ps vs Lp⟩ TL m0 st a w) (h:yO Γ ps rs res st=some r):Fin P fn (λv w'=>∃(m':M) (us:List Value) (Lr Lp':List (Nat×List Value)) (Tr:List (Nat×Value)),M.le m0 m'/\S W0 m' w' (Lr++(Lp'++L)) (Tr++TL)/\v=tup us/\nw G m' (ps.filterMap Pm.out) rs us r Lr Tr/\i9 G m' ps vs (rest G (ps.filterMap Pm.out) rs r) Lp Lp') a w:=by
 obtain⟨⟨m,z,h0,hr,Lc,Tc,h1,h2,hS,b1⟩,hdf,hsz⟩:=hs;unfold yO at h;obtain⟨m1,a4,hF,_,_⟩:=A7 (G:=G) (P:=P) (L0:=⟨L,nmA ps vs Lp⟩) (T0:=TL) (ps:=rs.map Rm.pm) (xs:=res.map Operand.tmp) (st:=st) (m:=m) (z:=z) ⟨hr,Lc,Tc,h1,h2,hS,b1⟩;split at h
 ·rename_i y J bk he;split at h
  ·rename_i o Z ho;injection h with h;subst h;obtain⟨z',Lr,Tr,hz,⟨_,a1,b3,k1,k2,b0,a2⟩,hPR,_⟩:=A8 hF he;have a5:=k1.len;have Z:=zx Z;obtain⟨pre,W⟩:=a2;simp only at W;have a3:pre.length=J.L.length-cnt ps:=by have:=congrArg List.length W;rw[Zw,a5.1,a6]at this;omega
   have a0:z'.b.drop (J.L.length-cnt ps)=nmA ps vs Lp:=by rw[W,←a3,List.drop_left]
   have kd:=k1.drop (J.L.length-cnt ps);rw[a0]at kd;have hO:=Hs hP ho (by simp;omega) kd;obtain⟨j1,j2⟩:=Hr (os:=ps.filterMap Pm.out) (o:=o) hPR;have b2:(res.map Operand.tmp).map a.eval=res.map λt=>a.tmps.getD t undef:=by simp only[List.map_map,Function.comp_def];rfl
   obtain⟨l,hE,hl⟩:=ez hdf hsz (res.map Operand.tmp);refine Fin.mk hE a9 (DL hE λt ht=>hl (.tmp t) (List.mem_map_of_mem ht)) ⟨m1,_,Lr,a1.drop (J.L.length-cnt ps),Tr,h0.trans a4,?_,rfl,?_,?_⟩;·exact(S.between b0 _ (by omega)).betweenT
   ·rw[←b2];exact j1
   ·rw[j2];exact hO
  ·cases h
 ·cases h
theorem Ctr.of{f:FuncId}{fn:Func}{c:Code}{n:Nat}{ps:List Pm}{rs:List Rm}{res:List Nat}{D:List (CS P G)}{g:dH G ps->Option (br G (gu ps rs))}(A:An G (br G (gu ps rs)))(a2:P.follows .mixedOrders=true) (hf:P.funcs[f]?=some fn) (J:fn.body=some c) (hn:fn.ntmps=n) (a3:Zq ps.length n=true) (a0:fn.results.toList=res.map ResultVar.tmp)(hO:Obl (cnt ps) n Γ D c A 0 (yO Γ ps rs res) (λ_ _=>none) (yO Γ ps rs res)) (h:∀x,exF n Γ D c ps rs res A x=g x):Ctr G P f ps rs g:=by
 intro W0 m w L TL vs x r Lp Tp hS Z hg;rw[←h x]at hg;have a4:vs.length=ps.length:=(yP (a:={tmps:=vs.toArray,defers:=[]}) (i:=0) Z (λj v hj=>by simp[hj])).choose_spec.2.2.2.1;refine wU hf J hn (by rw[a4];exact zx a3) λa hE=>?_;have a1:∀j v,vs[j]?=some v->a.tmps.getD (0+j) undef=v:=by
  intro j v hj;rw[X3];refine hE.at_ j v ?_;have key:∀(l:List Value) (k:Nat) (j:Nat) (v:Value),l[j]?=some v->lk ((List.range' k l.length).zip l) (k+j)=some v:=by
   intro l;induction l with
   |nil=>intro k j v h;simp at h|cons u l ih=>intro k j v h;simp only[Zi,List.range'_succ,List.zip_cons_cons,lk];cases j with
    |zero=>simp at h;subst h;simp|succ j=>
     have J:Z7 k (k+(j+1))=false:=by cases J:Z7 k (k+(j+1))with
      |false=>rfl|true=>have:=Z1 J;omega
     simp only[J];have:=ih (k+1) j v (by simpa using h);rw[show k+1+j=k+(j+1)by omega]at this;exact this
  have:=key vs 0 j v hj;rw[List.range_eq_range'];simpa using this
 obtain⟨zt,k1,k2,k3,_,k5⟩:=yP (a:=a) (i:=0) Z a1;have hs:Sat G P [] n W0 ⟨L,nmA ps vs Lp⟩ TL m (CU G ps x) a w:=⟨⟨m,⟨nmA ps vs Lp,zt⟩,X7 m,k1,Lp,Tp,k2,k3,hS,⟨[],rfl⟩⟩,hE.defers,hE.size⟩;refine Bh (np:=cnt ps) (L0:=⟨L,nmA ps vs Lp⟩) (by rw[k5];exact Z9 _) a2 c A (CU G ps x) _ _ _ r a w _ _ _ hg hO hs ?_ ?_ ?_;·intro st' a' w' W h2 _ _;exact JF a0 Z k5 h2 W
 ·intro j st' a' w' W;cases W
 ·intro st' a' w' W h2 _ _;exact JF a0 Z k5 h2 W
end
def Ab{β:Nat->Type}:List ((i:Nat)×β i)->(j:Nat)->Option (β j)
 |[],_=>none|⟨i,x⟩::l,j=>if h:i=j then some (h▸x)else Ab l j
def FK{β:Nat->Nat->Type}:List ((i:Nat)×(k:Nat)×β i k)->(j l:Nat)->Option (β j l)
 |[],_,_=>none|⟨i,k,x⟩::r,j,l=>if h:i=j then (if h':k=l then some (h▸h'▸x)else FK r j l)else FK r j l
def FL:List (Nat×((O:Type)×Kd O))->Nat->(O:Type)×Kd O
 |[],_=>⟨Bool,cS⟩|(i,p)::l,j=>if Z7 i j then p else FL l j
def WP (l:List (Nat×((O:Type)×Kd O))):Sg:=⟨λi=>(FL l i).1,λi=>(FL l i).2⟩
section
variable{P:Program}{G:Sg}
def qy{i:TypeId}{k:IntKind}{J:Value}(h:P.underlying i=some (.int k))(hs:∀w,(sizeOf i).run P w=.ok 1 w)(Z:∀w,(isAgg i).run P w=.ok false w)(hz:∀w,(zeroValue i).run P w=.ok J w)(W:J=.int k 0)(h0:k.wrap 0=0):TI P G i:=⟨.int k,⟨hs,Z⟩,⟨h⟩,(0:Int),J,hz,λm=>by subst W;exact⟨rfl,h0⟩⟩
def PM{i:TypeId}{J:Value}(h:P.underlying i=some .bool)(hs:∀w,(sizeOf i).run P w=.ok 1 w)(Z:∀w,(isAgg i).run P w=.ok false w)(hz:∀w,(zeroValue i).run P w=.ok J w)(W:J=.bool false):TI P G i:=⟨.bool,⟨hs,Z⟩,⟨h⟩,false,J,hz,λm=>by subst W;exact rfl⟩
def Ik{i:TypeId}{J:Value}(h:P.underlying i=some .string)(hs:∀w,(sizeOf i).run P w=.ok 1 w)(Z:∀w,(isAgg i).run P w=.ok false w)(hz:∀w,(zeroValue i).run P w=.ok J w)(W:J=.string ⟨#[]⟩):TI P G i:=⟨.str,⟨hs,Z⟩,⟨h⟩,([]:List Int),J,hz,λm=>by subst W;exact⟨rfl,by simp,by simp⟩⟩
def xf{i:TypeId}(t:Ty)(B:SlI P G i t){h:Value}(Z:∀w,(sizeOf i).run P w=.ok 1 w)(W:∀w,(isAgg i).run P w=.ok false w)(hz:∀w,(zeroValue i).run P w=.ok h w)(J:h=.slice none 0 0):TI P G i:=⟨.sl t,⟨Z,W⟩,B,([]:List (t.den G)),h,hz,λm=>by subst J;exact⟨none,0,0,rfl,rfl,Z9 _,by simp,rfl⟩⟩
end
section
variable{G:Sg}{P:Program}
def An.nc:{ρ:Type}->An G ρ->Bool
 |_,.o=>true|_,.s p q=>p.nc&&q.nc|_,.c _ _ _ _=>false|_,.l _ q=>q.nc|_,.b p=>p.nc|_,.i p q=>p.nc&&q.nc
theorem Obl.nc (np n:Nat)(Γ:Tab P G)(D:List (CS P G))(c:Code):∀{ρ:Type}(A:An G ρ) (d:Nat) (N:St G->Option ρ) (X:Nat->St G->Option ρ) (R:St G->Option ρ),A.nc=true->Obl np n Γ D c A d N X R:=by induction c with
 |seq x y hx hy=>intro ρ A d N X R h;cases A with
  |s l r=>have h:(l.nc&&r.nc)=true:=h;rw[Z3]at h;exact⟨hx l d _ X R h.1,hy r d N X R h.2⟩|c l T J r=>cases h|_=>exact trivial
 |cond c x y hx hy=>intro ρ A d N X R h;cases A with
  |i l r=>have h:(l.nc&&r.nc)=true:=h;rw[Z3]at h;exact⟨hx l d N X R h.1,hy r d N X R h.2⟩|_=>exact trivial
 |block id c hc=>intro ρ A d N X R h;cases A with
  |b a=>exact hc a d N _ R h|_=>exact trivial
 |scope c hc=>intro ρ A d N X R h;cases A with
  |b a=>exact hc a d N X R h|_=>exact trivial
 |loop c hc=>intro ρ A d N X R h;cases A with
  |l T b=>exact hc b (d+1) _ _ _ h|_=>exact trivial
 |_=>intro ρ A d N X R h;exact trivial
theorem Ctr.nc{Γ:Tab P G}{f:FuncId}{fn:Func}{c:Code}{n:Nat}{ps:List Pm}{rs:List Rm}{res:List Nat}{D:List (CS P G)}{g:dH G ps->Option (br G (gu ps rs))}(A:An G (br G (gu ps rs)))(hA:A.nc=true) (a1:P.follows .mixedOrders=true) (hf:P.funcs[f]?=some fn) (J:fn.body=some c) (Z:fn.ntmps=n) (W:Zq ps.length n=true) (a0:fn.results.toList=res.map ResultVar.tmp)(h:∀x,exF n Γ D c ps rs res A x=g x):Ctr G P f ps rs g:=Ctr.of A a1 hf J Z W a0 (Obl.nc _ _ _ _ c A 0 _ _ _ hA) h
end
section
variable{P:Program}{G:Sg}
def slI{i e:TypeId}(E:TI P G e)(h:TypeInfo)(by_:Nat)(W:P.underlying i=some (.slice e))(hs:∀w,(sizeOf e).run P w=.ok (E.T.kd G).sz w)(a0:pW P e (E.T.kd G).sz by_)(hi:P.info? e=some h)(J:h.zero=some E.zv)(Z:h.size=(E.T.kd G).sz)(a1:h.bytes=by_):SlI P G i E.T:=⟨e,by_,E.z,E.zv,h,W,hs,a0,E.hz,E.hzR,hi,J,Z,a1⟩
def tY{i:TypeId}{h:Value}(ok:dz P i (G.k i))(J:∀w,(zeroValue i).run P w=.ok h w)(z:G.O i)(W:∀m,(G.k i).R m h.cells.toList z):TI P G i:=⟨.st i,ok,(),z,h,J,W⟩
def arI{i e:TypeId}(E:TI P G e)(n:Nat){h:Value}(W:P.underlying i=some (.array n e))(hs:∀w,(sizeOf e).run P w=.ok (E.T.kd G).sz w)(hz:∀w,(zeroValue i).run P w=.ok h w)(J:h.cells=((Ze n E.zv.cells.toList).flatten).toArray)(Z:Zq n cz=true):AI P G i:=⟨n,E.T,e,E.z,h,E.zv.cells.toList,W,hs,hz,J,E.hzR,Z⟩
end
section
variable{G:Sg}{P:Program}{W0:Bse}{m:M}{z:Cz}{a:Act}{w:World}{Γ:Tab P G}
def M1 (Γ:Tab P G)(st:St G)(b t:Nat):Option (AV G):=match Γ.ty t,av? (st.op (.tmp b))with
 |some I,some (.blk i)=>(match fm st.L i with
   |some (.dat c x)=>if c=I.T then some (.dat c x none)else none|_=>none)|_,_=>none
def sF (Γ:Tab P G) (n:Nat):Nat->List ResultVar->St G->Option (List Nat×St G)
 |_,[],st=>some ([],st)|k,.tmp t::r,st=>(match Zc t n,sF Γ n k r st with
   |true,some (ts,st')=>some (t::ts,st')|_,_=>none)|k,.cell b t::r,st=>(match Zc b n,M1 Γ st b t with
   |true,some v=>(match sF Γ n (k+1) r (st.put k (.one v))with|some (ts,st')=>some (k::ts,st')|none=>none)|_,_=>none)
def xg (Γ:Tab P G)(n:Nat)(ps:List Pm)(rs:List Rm)(res:List ResultVar)(st:St G):Option (br G (gu ps rs)):=match sF Γ n n res st with
 |some (ts,st')=>yO Γ ps rs ts st'|none=>none
noncomputable def exX (n:Nat) (Γ:Tab P G) (D:List (CS P G)) (c:Code) (ps:List Pm) (rs:List Rm) (res:List ResultVar) (A:An G (br G (gu ps rs))) (x:dH G ps):Option (br G (gu ps rs)):=ex n Γ D c A (CU G ps x) (xg Γ n ps rs res) (λ_ _=>none) (xg Γ n ps rs res)
theorem tZ{xs:Array Value}{v:Value}{t:Nat}(h:t≠xs.size):(xs.push v).getD t undef=xs.getD t undef:=by simp only[Array.getD_eq_getD_getElem?,Array.getElem?_push];rw[if_neg h]
theorem yQ{xs:Array Value}{v:Value}:(xs.push v).getD xs.size undef=v:=by simp[Array.getD_eq_getD_getElem?,Array.getElem?_push]
theorem LY{n:Nat}{L0:Rs}{T0:List (Nat×Value)}{m0:M}:∀{res:List ResultVar}{k:Nat}{st:St G}{a':Act}{ts:List Nat}{st':St G},Sat G P [] k W0 L0 T0 m0 st a' w->n<=k->(∀t,t<n->a'.tmps.getD t undef=a.tmps.getD t undef)->sF Γ n k res st=some (ts,st')->∃(k':Nat) (W:Act),Sat G P [] k' W0 L0 T0 m0 st' W w/\(∀t,t<k->W.tmps.getD t undef=a'.tmps.getD t undef)/\tR P a w res (ts.map λt=>W.tmps.getD t undef):=by
 intro res;induction res with
 |nil=>intro k st a' ts st' hs hk ha h;unfold sF at h;obtain⟨rfl,rfl⟩:=Prod.mk.inj (Option.some.inj h);exact⟨k,a',hs,λ_ _=>rfl,.nil⟩|cons r res ih=>intro k st a' ts st' hs hk ha h;cases r with
   |tmp t=>
     unfold sF at h;split at h
     ·rename_i a1 st0 Z h0;obtain⟨rfl,rfl⟩:=Prod.mk.inj (Option.some.inj h);have Z:t<n:=zx Z;obtain⟨k',W,h1,h2,h3⟩:=ih hs hk ha h0;refine⟨k',W,h1,h2,.cons ?_ h3⟩;simp only;rw[←ha t Z,←h2 t (Nat.lt_of_lt_of_le Z hk)];rfl
     ·cases h|cell b t=>
     unfold sF at h;split at h
     ·rename_i v hb J;have hb:b<n:=zx hb;cases hq:sF Γ n (k+1) res (st.put k (.one v))with
       |none=>rw[hq]at h;cases h|some q=>
         rw[hq]at h;obtain⟨a1,st0⟩:=q;obtain⟨rfl,rfl⟩:=Prod.mk.inj (Option.some.inj h);unfold M1 at J;split at J
         · rename_i I i hI hi;split at J
           · rename_i c x hB;split at J
             · rename_i hc;injection J with J;subst J;subst hc;obtain⟨⟨m,z,h0,hr,hM⟩,hdf,hsz⟩:=hs;obtain⟨p',a0,a4⟩:=bp (fD hr) hi;obtain⟨L,TL,p,cs,j,hS,g1,g2,g3⟩:=hM.get hB;rw[g1]at a0;injection a0 with a0;subst a0;have a2:RV (I.T.kd G) m ((I.T.kd G).val cs) x:=vZ g3;have a3:Sat G P [] (k+1) W0 L0 T0 m0 (st.put k (.one (.dat I.T x none))) {a' with tmps:=a'.tmps.push ((I.T.kd G).val cs)} w:=by
                refine⟨⟨m,z,h0,?_,hM⟩,hdf,by simp[hsz]⟩;intro e he;rcases Z4.1 he with rfl|he
                ·simp only;rw[←hsz,yQ];exact⟨a2,trivial⟩
                ·obtain⟨q1,q2⟩:=mr he;have:=hr e q1;simp only;rw[tZ (by rw[hsz];exact q2)];exact this
               obtain⟨k',W,h1,h2,h3⟩:=ih a3 (by omega) (λt Z=>by
                simp only;rw[tZ (by rw[hsz];omega)];exact ha t Z) hq;refine⟨k',W,h1,λt Z=>?_,.cons ?_ h3⟩
               ·rw[h2 t (by omega)];simp only;rw[tZ (by rw[hsz];omega)]
               · have e1:W.tmps.getD k undef=(I.T.kd G).val cs:=by rw[h2 k (by omega)];simp only;rw[←hsz,yQ]
                 have e2:a.tmps.getD b undef=.pointer (some ⟨p.1,0,none⟩):=by rw[←ha b hb];exact a4
                 simp only;rw[e1,e2];have hA:At w p.1 0 cs:=by have:=hS.atL g2 (o:=0) (cs':=cs) (by simp) (by rw[(I.T.kd G).len g3];exact(I.T.kd G).pos);exact this
                 simp[asAddr,jE I.ok g3 hA]
             ·cases J
           ·cases J
         ·cases J
     ·cases h
theorem CW{n:Nat}{fn:Func}{ps:List Pm}{rs:List Rm}{res:List ResultVar}{st:St G}{L:List (Nat×List Value)}{TL:List (Nat×Value)}{vs:List Value}{x:dH G ps}{Lp:List (Nat×List Value)}{Tp:List (Nat×Value)}{m0:M}{r:br G (gu ps rs)}(b4:fn.results.toList=res) (hP:kH G P m0 ps vs x Lp Tp) (b3:(nmA ps vs Lp).length=cnt ps) (a0:Sat G P [] n W0 ⟨L,nmA ps vs Lp⟩ TL m0 st a w) (h:xg Γ n ps rs res st=some r):Fin P fn (λv w'=>∃(m':M) (us:List Value) (Lr Lp':List (Nat×List Value)) (Tr:List (Nat×Value)),M.le m0 m'/\S W0 m' w' (Lr++(Lp'++L)) (Tr++TL)/\v=tup us/\nw G m' (ps.filterMap Pm.out) rs us r Lr Tr/\i9 G m' ps vs (rest G (ps.filterMap Pm.out) rs r) Lp Lp') a w:=by
 unfold xg at h;split at h
 · rename_i Z a3 a5;obtain⟨k',a9,hs,_,b2⟩:=LY (a:=a) a0 (Z9 n) (λ_ _=>rfl) a5;obtain⟨l0,b7,_⟩:=ez a0.df a0.sz [];obtain⟨⟨m,z,h0,hr,Lc,Tc,h1,h2,hS,b6⟩,hdf,hsz⟩:=hs;unfold yO at h;obtain⟨m1,b0,hF,_,_⟩:=A7 (G:=G) (P:=P) (L0:=⟨L,nmA ps vs Lp⟩) (T0:=TL) (ps:=rs.map Rm.pm) (xs:=Z.map Operand.tmp) (st:=a3) (m:=m) (z:=z) ⟨hr,Lc,Tc,h1,h2,hS,b6⟩;split at h
   · rename_i y J bk he;split at h
     · rename_i o hc ho;injection h with h;subst h;obtain⟨z',Lr,Tr,hz,⟨_,a2,c1,k1,k2,b5,a4⟩,hPR,_⟩:=A8 hF he;have b1:=k1.len;have hc:=zx hc;obtain⟨pre,W⟩:=a4;simp only at W;have a6:pre.length=J.L.length-cnt ps:=by have:=congrArg List.length W;rw[Zw,b1.1,b3]at this;omega
       have a1:z'.b.drop (J.L.length-cnt ps)=nmA ps vs Lp:=by rw[W,←a6,List.drop_left]
       have kd:=k1.drop (J.L.length-cnt ps);rw[a1]at kd;have hO:=Hs hP ho (by simp;omega) kd;obtain⟨j1,j2⟩:=Hr (os:=ps.filterMap Pm.out) (o:=o) hPR;have c0:(Z.map Operand.tmp).map a9.eval=Z.map λt=>a9.tmps.getD t undef:=by simp only[List.map_map,Function.comp_def];rfl
       refine Fin.mk b7 b4 b2 ⟨m1,_,Lr,a2.drop (J.L.length-cnt ps),Tr,h0.trans b0,?_,rfl,?_,?_⟩;·exact(S.between b5 _ (by omega)).betweenT
       ·rw[←c0];exact j1
       ·rw[j2];exact hO
     ·cases h
   ·cases h
 ·cases h
theorem Ctr.ofX{f:FuncId}{fn:Func}{c:Code}{n:Nat}{ps:List Pm}{rs:List Rm}{res:List ResultVar}{D:List (CS P G)}{g:dH G ps->Option (br G (gu ps rs))}(A:An G (br G (gu ps rs)))(a2:P.follows .mixedOrders=true) (hf:P.funcs[f]?=some fn) (J:fn.body=some c) (hn:fn.ntmps=n) (a3:Zq ps.length n=true) (a0:fn.results.toList=res)(hO:Obl (cnt ps) n Γ D c A 0 (xg Γ n ps rs res) (λ_ _=>none) (xg Γ n ps rs res)) (h:∀x,exX n Γ D c ps rs res A x=g x):Ctr G P f ps rs g:=by
 intro W0 m w L TL vs x r Lp Tp hS Z hg;rw[←h x]at hg;have a4:vs.length=ps.length:=(yP (a:={tmps:=vs.toArray,defers:=[]}) (i:=0) Z (λj v hj=>by simp[hj])).choose_spec.2.2.2.1;refine wU hf J hn (by rw[a4];exact zx a3) λa hE=>?_;have a1:∀j v,vs[j]?=some v->a.tmps.getD (0+j) undef=v:=by
  intro j v hj;rw[X3];refine hE.at_ j v ?_;have key:∀(l:List Value) (k:Nat) (j:Nat) (v:Value),l[j]?=some v->lk ((List.range' k l.length).zip l) (k+j)=some v:=by
   intro l;induction l with
   |nil=>intro k j v h;simp at h|cons u l ih=>intro k j v h;simp only[Zi,List.range'_succ,List.zip_cons_cons,lk];cases j with
     |zero=>simp at h;subst h;simp|succ j=>
       have J:Z7 k (k+(j+1))=false:=by cases J:Z7 k (k+(j+1))with
        |false=>rfl|true=>have:=Z1 J;omega
       simp only[J];have:=ih (k+1) j v (by simpa using h);rw[show k+1+j=k+(j+1)by omega]at this;exact this
  have:=key vs 0 j v hj;rw[List.range_eq_range'];simpa using this
 obtain⟨zt,k1,k2,k3,_,k5⟩:=yP (a:=a) (i:=0) Z a1;have hs:Sat G P [] n W0 ⟨L,nmA ps vs Lp⟩ TL m (CU G ps x) a w:=⟨⟨m,⟨nmA ps vs Lp,zt⟩,X7 m,k1,Lp,Tp,k2,k3,hS,⟨[],rfl⟩⟩,hE.defers,hE.size⟩;refine Bh (np:=cnt ps) (L0:=⟨L,nmA ps vs Lp⟩) (by rw[k5];exact Z9 _) a2 c A (CU G ps x) _ _ _ r a w _ _ _ hg hO hs ?_ ?_ ?_;·intro st' a' w' W h2 _ _;exact CW a0 Z k5 h2 W
 ·intro j st' a' w' W;cases W
 ·intro st' a' w' W h2 _ _;exact CW a0 Z k5 h2 W
theorem Ctr.nX{Γ:Tab P G}{f:FuncId}{fn:Func}{c:Code}{n:Nat}{ps:List Pm}{rs:List Rm}{res:List ResultVar}{D:List (CS P G)}{g:dH G ps->Option (br G (gu ps rs))}(A:An G (br G (gu ps rs)))(hA:A.nc=true) (a1:P.follows .mixedOrders=true) (hf:P.funcs[f]?=some fn) (J:fn.body=some c) (Z:fn.ntmps=n) (W:Zq ps.length n=true) (a0:fn.results.toList=res)(h:∀x,exX n Γ D c ps rs res A x=g x):Ctr G P f ps rs g:=Ctr.ofX A a1 hf J Z W a0 (Obl.nc _ _ _ _ c A 0 _ _ _ hA) h
end
section
variable{G:Sg}{P:Program}{m:M}{os:List Ty}{ps:List Pm}{rs:List Rm}{vs us:List Value}{Lp Lp' Lr:List (Nat×List Value)}{Tp Tr:List (Nat×Value)}
theorem eT{x:dH G []}(h:kH G P m [] vs x Lp Tp):vs=[]/\Lp=[]/\Tp=[]:=by cases vs<;>cases Lp<;>cases Tp<;>first|exact⟨rfl,rfl,rfl⟩|exact h.elim
theorem cT{t:Ty}{x:dH G (.rd t::ps)}(h:kH G P m (.rd t::ps) vs x Lp Tp):∃v vs',vs=v::vs'/\RV (t.kd G) m v x.1/\kH G P m ps vs' x.2 Lp Tp:=by cases vs with
 |nil=>cases Lp<;>cases Tp<;>exact h.elim|cons v vs=>exact⟨v,vs,rfl,h.1,h.2⟩
theorem Um{t:Ty}{x:dH G (.ap t::ps)}(h:kH G P m (.ap t::ps) vs x Lp Tp):∃v vs' Tp',vs=v::vs'/\Tp=((t.kd G).sz,v)::Tp'/\RV (kSl (t.kd G)) m v x.1/\kH G P m ps vs' x.2 Lp Tp':=by cases vs with
 |nil=>cases Lp<;>cases Tp<;>exact h.elim|cons v vs=>cases Tp with
  |nil=>cases Lp<;>exact h.elim|cons e Tp=>obtain⟨J,rfl,W⟩:=h;exact⟨v,vs,Tp,rfl,rfl,J,W⟩
theorem cH{x:br G (([]:List Rm).map Rm.ty++os)}(h:nw G m os [] us x Lr Tr):us=[]/\Lr=[]/\Tr=[]:=by cases us<;>cases Lr<;>cases Tr<;>first|exact⟨rfl,rfl,rfl⟩|exact h.elim
theorem cN{t:Ty}{x:br G ((Rm.rd t::rs).map Rm.ty++os)}(h:nw G m os (.rd t::rs) us x Lr Tr):∃v us',us=v::us'/\RV (t.kd G) m v (hdT G t (rs.map Rm.ty++os) x)/\nw G m os rs us' (tlT G t (rs.map Rm.ty++os) x) Lr Tr:=by cases us with
 |nil=>cases Lr<;>cases Tr<;>exact h.elim|cons v us=>exact⟨v,us,rfl,h.1,h.2⟩
theorem Il{t:Ty}{x:br G ((Rm.ap t::rs).map Rm.ty++os)}(h:nw G m os (.ap t::rs) us x Lr Tr):∃v us' Tr',us=v::us'/\Tr=((t.kd G).sz,v)::Tr'/\RV (kSl (t.kd G)) m v (hdT G (.sl t) (rs.map Rm.ty++os) x)/\nw G m os rs us' (tlT G (.sl t) (rs.map Rm.ty++os) x) Lr Tr':=by cases us with
 |nil=>cases Lr<;>cases Tr<;>exact h.elim|cons v us=>cases Tr with
  |nil=>cases Lr<;>exact h.elim|cons e Tr=>obtain⟨J,rfl,W⟩:=h;exact⟨v,us,Tr,rfl,rfl,J,W⟩
theorem dC{x:br G (([]:List Pm).filterMap Pm.out)}(h:i9 G m [] vs x Lp Lp'):Lp'=[]:=by cases vs<;>cases Lp<;>cases Lp'<;>first|rfl|exact h.elim
theorem cO{t:Ty}{v:Value}{x:br G ((Pm.rd t::ps).filterMap Pm.out)}(h:i9 G m (.rd t::ps) (v::vs) x Lp Lp'):i9 G m ps vs x Lp Lp':=h
theorem Un{t:Ty}{v:Value}{x:br G ((Pm.ap t::ps).filterMap Pm.out)}(h:i9 G m (.ap t::ps) (v::vs) x Lp Lp'):i9 G m ps vs x Lp Lp':=h
theorem M2{a b:Ty}{v:Value}{x:br G ((Pm.f1 a b::ps).filterMap Pm.out)}(h:i9 G m (.f1 a b::ps) (v::vs) x Lp Lp'):i9 G m ps vs x Lp Lp':=h
theorem BQ{a c b:Ty}{v:Value}{x:br G ((Pm.f2 a c b::ps).filterMap Pm.out)}(h:i9 G m (.f2 a c b::ps) (v::vs) x Lp Lp'):i9 G m ps vs x Lp Lp':=h
theorem Uo{t:Ty}{v:Value}{b:Nat}{cs:List Value}{x:br G ((Pm.ow t::ps).filterMap Pm.out)}(h:i9 G m (.ow t::ps) (v::vs) x ((b,cs)::Lp) Lp'):∃cs' Lp'',Lp'=(b,cs')::Lp''/\GS (t.kd G) m b cs' v (hdT G (.sl t) (ps.filterMap Pm.out) x)/\i9 G m ps vs (tlT G (.sl t) (ps.filterMap Pm.out) x) Lp Lp'':=by cases Lp' with
 |nil=>exact h.elim|cons e Lp'=>obtain⟨b',cs'⟩:=e;obtain⟨J,W,Z⟩:=h;simp only at J;subst J;exact⟨cs',Lp',rfl,W,Z⟩
end
section
variable{G:Sg}{P:Program}{W0:Bse}{m:M}{δ:List Nat}{n:Nat}{a:Act}{w:World}{l:List (Nat×Value)}{Γ:Tab P G}{D:List (CS P G)}{L Lp:List (Nat×List Value)}{TL Tp:List (Nat×Value)}
def kIt{O:Type}(P:Program)(Rv:M->List Value->O->Prop):Kd (List O):={
 sz:=1
 agg:=false
 R:=λm cs xs=>∃v,cs=[v]/\v.oneCell'=true/\ItV P Rv m v xs
 mono:=λhm⟨v,h,J,W⟩=>⟨v,h,J,W.mono hm⟩
 len:=λ⟨v,h,_⟩=>by rw[h];rfl
 one:=λ⟨v,h,J,_⟩c hc=>by rw[h]at hc;simp at hc;rw[hc];exact J
 pos:=by decide
 flat:=λ_=>rfl
 }
theorem M3{O:Type}{Rv:M->List Value->O->Prop}{v:Value}{xs:List O}(h:ItV P Rv m v xs):RV (kIt P Rv) m v xs:=by
 refine⟨[v],⟨v,rfl,?_,h⟩,rfl⟩;obtain⟨J,W,rfl,_⟩:=h;rfl
theorem Up{O:Type}{Rv:M->List Value->O->Prop}{v:Value}{xs:List O}(h:RV (kIt P Rv) m v xs):ItV P Rv m v xs:=by obtain⟨cs,⟨u,rfl,_,h⟩,rfl⟩:=h;exact h
def stQ (G:Sg)(ps:List Pm)(x:dH G ps)(sl:List Nat):St G:=match sR G ps x 0 with|(e,L,T)=>⟨e.map λq=>(sl.getD q.1 0,q.2),0,L,T⟩
theorem Of:∀{ps:List Pm}{x:dH G ps}{i:Nat}{e:Nat×Nat×EV G},e∈(sR G ps x i).1->i<=e.1/\e.1<i+ps.length:=by
 intro ps;induction ps with
 |nil=>intro x i e h;cases h|cons p ps ih=>intro x i e h;cases p<;>(rcases Z4.1 h with rfl|h;exact⟨Z9 _,by simp⟩;have:=ih h;simp only[Zi];omega)
theorem WQ{ps:List Pm}{x:dH G ps}{sl:List Nat}{vs:List Value}(W:aw δ n a l)(hl:sl.map (lk l)=vs.map some)(hS:S W0 m w (Lp++L) (Tp++TL))(hP:kH G P m ps vs x Lp Tp):Sat G P δ n W0 ⟨L,[]⟩ TL m (stQ G ps x sl) a w:=by obtain⟨zt,k1,k2,k3,k4,_⟩:=yP (a:={tmps:=vs.toArray,defers:=[]}) (i:=0) hP (λj v hj=>by simp[hj]);refine⟨⟨m,⟨nmA ps vs Lp,zt⟩,X7 m,?_,Lp,Tp,k2,k3,hS,⟨_,(List.append_nil _).symm⟩⟩,W.defers,W.size⟩;intro e he;obtain⟨q,Z,rfl⟩:=X5.1 he;have h1:=k1 q Z;have J:=(Of Z).2;rw[X3,←k4]at J;have h:=congrArg (·[q.1]?) hl;simp only[List.getElem?_map,Zz J,Option.map_some]at h;cases h4:sl[q.1]?with
 |none=>rw[h4]at h;cases h|some s=>
  rw[h4]at h;injection h with h;have h5:=W.at_ s _ h;have e1:sl.getD q.1 0=s:=by rw[List.getD_eq_getElem?_getD,h4];rfl
  simp only[e1];rw[h5];have e2:(vs.toArray).getD q.1 undef=vs[q.1]:=by simp[Array.getD_eq_getD_getElem?,J]
  rw[←e2];exact h1
theorem wj{c:Code}{ps:List Pm}{rs:List Rm}{x:dH G ps}{sl:List Nat}{vs:List Value}{fn:Func}{res:List ResultVar}{R:Value->World->Prop}{y0:Option (br G (gu [] rs))}{y:br G (gu [] rs)}{X:List (Nat×(Act->World->Prop))}(A:An G (br G (gu [] rs)))(hE:Env n a l) (hS:S W0 m w (Lp++L) (Tp++TL)) (hP:kH G P m ps vs x Lp Tp) (h:y0=some y) (he:ex n Γ D c A (stQ G ps x sl) (xg Γ n [] rs res) (λ_ _=>none) (xg Γ n [] rs res)=y0) (a1:P.follows .mixedOrders=true)(k:∀v w' m' us Lr Tr,M.le m m'->S W0 m' w' (Lr++L) (Tr++TL)->v=tup us->nw G m' [] rs us y Lr Tr->R v w')(hl:sl.map (lk l)=vs.map some:=by exact rfl) (hA:A.nc=true:=by exact rfl) (a2:fn.results.toList=res:=by exact rfl):K none P c (Fin P fn R) X (Fin P fn R) a w:=by
 subst h;have Z:∀st' a' w',xg Γ n [] rs res st'=some y->Sat G P [] n W0 ⟨L,[]⟩ TL m st' a' w'->Fin P fn R a' w':=λst' a' w' J W=>by obtain⟨a0,h3,h4,h5⟩:=CW (G:=G) (ps:=[]) (vs:=[]) (x:=()) (Lp:=[]) (Tp:=[]) a2 trivial rfl W J;refine⟨a0,h3,h4,?_⟩;obtain⟨m',us,Lr,Lp',Tr,q1,q2,q3,q4,q5⟩:=h5;cases Lp' with
  |nil=>exact k _ _ m' us Lr Tr q1 q2 q3 q4|cons _ _=>exact q5.elim
 refine Bh (np:=0) (L0:=⟨L,[]⟩) (Nat.zero_le _) a1 c A (stQ G ps x sl) _ _ _ y a w _ _ _ he (Obl.nc _ _ _ _ c A 0 _ _ _ hA) (WQ hE hl hS hP) ?_ ?_ ?_;·intro st' a' w' J W _ _;exact Z st' a' w' J W
 ·intro j st' a' w' J;cases J
 ·intro st' a' w' J W _ _;exact Z st' a' w' J W
end
noncomputable section
structure Ap where
 fKind:Int
 fBool:Bool
 fInt:Int
 fText:(List Int)deriving DecidableEq
def Ap.zero:Ap:=⟨0,false,0,[]⟩
structure aS where
 fMany:Int
 fValue:Ap deriving DecidableEq
def aS.zero:aS:=⟨0,Ap.zero⟩
structure bw where
 fKind:Int
 fMany:Int
 fMin:Ap
 fMax:Ap
 fNulls:Int
 fBytes:Int deriving DecidableEq
def bw.zero:bw:=⟨0,0,Ap.zero,Ap.zero,0,0⟩
structure eo where
 fMany:Int
 fValue:Ap deriving DecidableEq
def eo.zero:eo:=⟨0,Ap.zero⟩
structure bY where
 fKind:Int
 fMany:Int
 fMin:Ap
 fMax:Ap
 fNulls:Int
 fBytes:Int deriving DecidableEq
def bY.zero:bY:=⟨0,0,Ap.zero,Ap.zero,0,0⟩
structure ai where
 fB:(List Int)fOk:Bool deriving DecidableEq
def ai.zero:ai:=⟨[],false⟩
structure aO where
 fEpoch:Int
 fNumber:Int deriving DecidableEq
def aO.zero:aO:=⟨0,0⟩
structure aa where
 fId:aO
 fRow:(List Ap)fDeleted:Int deriving DecidableEq
def aa.zero:aa:=⟨aO.zero,[],0⟩
structure aq where
 fColumns:Int
 fSort:(List Int)fL:(List aa)deriving DecidableEq
def aq.zero:aq:=⟨0,[],[]⟩
structure s8 where
 fColumns:Int
 fSort:(List Int)fKinds:(List Int)fL:(List aa)deriving DecidableEq
def s8.zero:s8:=⟨0,[],[],[]⟩
structure aX where
 fColumns:Int
 fSort:(List Int)fL:(List aa)deriving DecidableEq
def aX.zero:aX:=⟨0,[],[]⟩
def mW:Option Int:=some (-1)
def eM (p0:List Ap)(p1:(Ap->Option Bool))(h:Int):Option (Int⊕Int):=if decide (h<(p0.length:Int))then(idx p0 h).bind λW=>(p1 W).bind λJ=>if J then(some h).map Sum.inr else some (.inl (j6.wrap (h+1)))else(mW).map Sum.inr
def kJ (p0:List Ap)(p1:(Ap->Option Bool)):Option Int:=am (λs:Int=>eM p0 p1 s) 0
def eN (p0:List Ap)(p1:(Ap->Option Bool)):Option Bool:=(kJ p0 p1).bind λh=>some (decide (0<=h))
def lI:Option Ap:=some (⟨0,false,0,[]⟩:Ap)
def qz (p0:Bool):Option Ap:=some (⟨1,p0,0,[]⟩:Ap)
def eU (p0:Int):Option Ap:=some (⟨2,false,p0,[]⟩:Ap)
def qC (p0:List Int):Option Ap:=some (⟨3,false,0,p0⟩:Ap)
def rA (h:Bool):Option Bool:=some h
def mw (p0:Ap):Option Bool:=if p0.fKind==0 then(lI).bind λZ=>some (decide (p0=Z))else if p0.fKind==1 then(qz p0.fBool).bind λh=>some (decide (p0=h))else if p0.fKind==2 then(eU p0.fInt).bind λW=>some (decide (p0=W))else if p0.fKind==3 then(qC p0.fText).bind λJ=>if decide (p0=J)then rA (decide ((p0.fText.length:Int)<=64))else rA false else some false
def fq (p0:Ap):Option Bool:=(mw p0).bind λh=>some (!h)
def wk (h:List Int):Option (List Int×Bool):=some (h,true)
def n5 (p0:List Ap)(J:List Int)(h:Int):Option ((List Int×Int)⊕(List Int×Bool)):=if decide (h<(p0.length:Int))then(idx p0 h).bind λW=>if W.fKind !=2 then(some ([],false)).map Sum.inr else(app 17592186044416 J ([W.fInt])).bind λZ=>some (.inl (Z,j6.wrap (h+1)))else(wk J).map Sum.inr
def sg (p0:List Ap):Option (List Int×Bool):=am (λs:(List Int×Int)=>n5 p0 s.1 s.2) ([],0)
def n7 (h:List aS):Option (List aS):=some h
def jA (J:Int)(h:List aS):Option ((Int×List aS)⊕List aS):=some (.inl (j6.wrap (J+1),h))
def n8 (Z:Int)(J:List aS)(W:Ap):Option ((Int×List aS)⊕List aS):=(app 2932031007402 J ([(⟨1,W⟩:aS)])).bind λh=>jA Z h
def io (a0:Int)(h:List aS)(J:Int)(a2:Bool):Option (Int⊕((Int×List aS)⊕List aS)):=if a2 then(ix h J).bind λZ=>(h[Z]?).bind λa1=>(ix h J).bind λW=>(h[W]?).bind λx106=>(jA a0 (h.set W ({x106 with fMany:=j6.wrap (a1.fMany+1)}))).map Sum.inr else some (.inl (j6.wrap (J+1)))
def fh (W:Int)(h:List aS)(Z:Ap)(J:Int):Option (Int⊕((Int×List aS)⊕List aS)):=if decide (J<(h.length:Int))then if J==(j6.wrap ((h.length:Int)-1))then(ix h J).bind λa1=>(h[a1]?).bind λa0=>io W h J (decide (a0.fValue=Z))else io W h J false else(n8 W h Z).map Sum.inr
def lj (p0:List Ap)(h:Int)(J:List aS):Option ((Int×List aS)⊕List aS):=if decide (h<(p0.length:Int))then(idx p0 h).bind λW=>am (λs:Int=>fh h J W s) 0 else(n7 J).map Sum.inr
def mA (p0:List Ap):Option (List aS):=am (λs:(Int×List aS)=>lj p0 s.1 s.2) (0,([]:List aS))
def AA (p0:List Ap):Option Bool:=some (decide ((p0.length:Int)<=16))
def sh (p0:List Ap)(h:Int):Option (Int⊕Bool):=if decide (h<(p0.length:Int))then(idx p0 h).bind λW=>(mw W).bind λJ=>if !J then(some false).map Sum.inr else some (.inl (j6.wrap (h+1)))else(AA p0).map Sum.inr
def t6 (p0:List Ap):Option Bool:=am (λs:Int=>sh p0 s) 0
def pE (p0:List Int)(J:List Int):Option (List Int):=(app 140737488355328 p0 J).bind λh=>some h
def mb (p0:List Int)(p1:Int)(h:Int)(x24:List Int):Option ((Int×List Int)⊕List Int):=if decide (h<8)then(chk (decide (0<=(j6.wrap (56-(j6.wrap (8*h))))))).bind λZ=>(ix x24 h).bind λJ=>(x24[J]?).bind λW=>some (.inl (j6.wrap (h+1),(x24.set J (Z6.wrap (aV .u64 p1 (j6.wrap (56-(j6.wrap (8*h)))))))))else(pE p0 x24).map Sum.inr
def n9 (p0:List Int)(p1:Int):Option (List Int):=am (λs:(Int×List Int)=>mb p0 p1 s.1 s.2) (0,(Ze 8 0:List Int))
def xi (p0:List Int)(p1:Ap):Option (List Int):=(app 140737488355328 p0 ([Z6.wrap p1.fKind])).bind λh=>if p1.fKind==1 then if p1.fBool then(app 140737488355328 h ([1])).bind λa0=>some a0 else(app 140737488355328 h ([0])).bind λJ=>some J else if p1.fKind==2 then(n9 h (Z0.wrap p1.fInt)).bind λa1=>some a1 else if p1.fKind==3 then(app 140737488355328 h ([Z6.wrap (p1.fText.length:Int)])).bind λW=>(app 140737488355328 W p1.fText).bind λZ=>some Z else some h
def wm (h:List Int):Option (List Int×Int):=some (h,0)
def rB (p0:List Ap)(x36:List Int)(h:Int):Option ((List Int×Int)⊕(List Int×Int)):=if decide (h<(p0.length:Int))then(idx p0 h).bind λJ=>(xi x36 J).bind λW=>some (.inl (W,j6.wrap (h+1)))else(wm x36).map Sum.inr
def o7 (p0:List Ap):Option (List Int×Int):=(t6 p0).bind λh=>if !h then some ([],30)else am (λs:(List Int×Int)=>rB p0 s.1 s.2) ([Z6.wrap (p0.length:Int)],0)
def oa (p0:Ap):Option (List Int):=(o7 ([p0])).bind λh=>(sub h.1 1 h.1.length).bind λJ=>some J
def wo (h:List Int):Option (List Int):=some h
def rC (W:List aS)(J:List Int)(h:Int):Option ((List Int×Int)⊕List Int):=if decide (h<(W.length:Int))then(idx W h).bind λZ=>(app 140737488355328 J ([Z6.wrap Z.fMany])).bind λa1=>(oa Z.fValue).bind λa0=>(app 140737488355328 a1 a0).bind λa2=>some (.inl (a2,j6.wrap (h+1)))else(wo J).map Sum.inr
def si (p0:List Ap):Option (List Int):=(mA p0).bind λh=>am (λs:(List Int×Int)=>rC h s.1 s.2) ([],0)
def BR (x6:List Int):Option (List Int):=some x6
def gC (p0:Int)(J:List Int)(h:Int):Option ((List Int×Int)⊕List Int):=if decide (h<8)then(chk (decide (0<=(j6.wrap (56-(j6.wrap (8*h))))))).bind λZ=>(app 140737488355328 J ([Z6.wrap (aV .u64 p0 (j6.wrap (56-(j6.wrap (8*h)))))])).bind λW=>some (.inl (W,j6.wrap (h+1)))else(BR J).map Sum.inr
def nz (p0:Int):Option (List Int):=am (λs:(List Int×Int)=>gC p0 s.1 s.2) ([],0)
def uU (h:List Int):Option (List Int):=some h
def uV (h:Int)(x46:List Int):Option ((List Int×Int)⊕List Int):=some (.inl (x46,j6.wrap (h+1)))
def uW (Z:Int)(h:List Int)(J:Int):Option ((List Int×Int)⊕List Int):=(app 140737488355328 h ([Z6.wrap J])).bind λW=>uV Z W
def ko (W:Int)(x106:List Int)(h:Int):Option ((List Int×Int)⊕((List Int×Int)⊕List Int)):=if decide (127<h)then(app 140737488355328 x106 ([bOr .u8 (Z6.wrap h) 128])).bind λJ=>some (.inl (J,aV .u64 h 7))else(uW W x106 h).map Sum.inr
def qD (p0:List Int)(Z:List Int)(x35:List Int)(h:Int):Option ((List Int×Int)⊕List Int):=if decide (h<(Z.length:Int))then(idx Z h).bind λJ=>(idx p0 h).bind λW=>am (λs:(List Int×Int)=>ko h s.1 s.2) (x35,d7 .u64 (en .u64 (Z0.wrap (j6.wrap (J-W))) 1) (Z0.wrap (aV .i64 (j6.wrap (J-W)) 63)))else(uU x35).map Sum.inr
def qE (p0:List Int):Option (List Int):=(idx p0 0).bind λJ=>(nz (Z0.wrap J)).bind λW=>(sub p0 1 p0.length).bind λh=>am (λs:(List Int×Int)=>qD p0 h s.1 s.2) (W,0)
def d5 (p0:List Ap):Option (List Ap):=(app 3518437208883 ([]) p0).bind λh=>some h
def ll (p0:List Ap)(p1:(Ap->Ap->Option Int)):Option (List Ap):=zQ p1 p0
def mc (p0:Int):Option Bool:=some (p0 !=p0)
def iZ (p0:Int)(p1:Int):Option Int:=(mc p0).bind λJ=>(mc p1).bind λh=>if J then if h then some 0 else some (-1)else if h then some 1 else if decide (p0<p1)then some (-1)else if decide (p1<p0)then some 1 else some 0
def kp (p0:Int):Option Bool:=some (p0 !=p0)
def jh (p0:Int)(p1:Int):Option Int:=(kp p0).bind λJ=>(kp p1).bind λh=>if J then if h then some 0 else some (-1)else if h then some 1 else if decide (p0<p1)then some (-1)else if decide (p1<p0)then some 1 else some 0
def eR (p0:List Int)(p1:List Int):Option Int:=some (vt p0 p1)
def mX (p0:List Int)(p1:List Int):Option Int:=(eR p0 p1).bind λh=>some h
def fV (p0:Ap)(p1:Ap)(J:Bool):Option Int:=if J then if p1.fBool then some (-1)else some 1 else if p0.fKind==2 then(jh p0.fInt p1.fInt).bind λh=>some h else if p0.fKind==3 then(mX p0.fText p1.fText).bind λW=>some W else some 0
def cy (p0:Ap)(p1:Ap):Option Int:=if p0.fKind !=p1.fKind then(iZ p0.fKind p1.fKind).bind λh=>some h else if p0.fKind==1 then fV p0 p1 (!(p0.fBool==p1.fBool))else fV p0 p1 false
def qo:Option Int:=some (-1)
def f8 (p0:List Ap)(p1:Ap)(h:Int):Option (Int⊕Int):=if decide (h<(p0.length:Int))then(idx p0 h).bind λx24=>if decide (p1=x24)then(some h).map Sum.inr else some (.inl (j6.wrap (h+1)))else(qo).map Sum.inr
def kq (p0:List Ap)(p1:Ap):Option Int:=am (λs:Int=>f8 p0 p1 s) 0
def yd (J:Int)(W:Int):Option Int:=(idx ([0,1,2,2,3,3,3,3,4,4,4,4,4,4,4,4,5,5,5,5,5,5,5,5,5,5,5,5,5,5,5,5,6,6,6,6,6,6,6,6,6,6,6,6,6,6,6,6,6,6,6,6,6,6,6,6,6,6,6,6,6,6,6,6,7,7,7,7,7,7,7,7,7,7,7,7,7,7,7,7,7,7,7,7,7,7,7,7,7,7,7,7,7,7,7,7,7,7,7,7,7,7,7,7,7,7,7,7,7,7,7,7,7,7,7,7,7,7,7,7,7,7,7,7,7,7,7,7,8,8,8,8,8,8,8,8,8,8,8,8,8,8,8,8,8,8,8,8,8,8,8,8,8,8,8,8,8,8,8,8,8,8,8,8,8,8,8,8,8,8,8,8,8,8,8,8,8,8,8,8,8,8,8,8,8,8,8,8,8,8,8,8,8,8,8,8,8,8,8,8,8,8,8,8,8,8,8,8,8,8,8,8,8,8,8,8,8,8,8,8,8,8,8,8,8,8,8,8,8,8,8,8,8,8,8,8,8,8,8,8,8,8,8,8,8,8,8,8,8,8,8,8,8,8,8,8]) (Z6.wrap J)).bind λh=>some (j6.wrap (W+(j6.wrap h)))
def ye (x6:Int)(h:Int):Option Int:=if decide (256<=x6)then yd (aV .u32 x6 8) (j6.wrap (h+8))else yd x6 h
def Im (p0:Int):Option Int:=if decide (65536<=p0)then ye (aV .u32 p0 16) 16 else ye p0 0
def pF (x24:Int)(J:Int):Option Int:=(idx ([0,1,2,2,3,3,3,3,4,4,4,4,4,4,4,4,5,5,5,5,5,5,5,5,5,5,5,5,5,5,5,5,6,6,6,6,6,6,6,6,6,6,6,6,6,6,6,6,6,6,6,6,6,6,6,6,6,6,6,6,6,6,6,6,7,7,7,7,7,7,7,7,7,7,7,7,7,7,7,7,7,7,7,7,7,7,7,7,7,7,7,7,7,7,7,7,7,7,7,7,7,7,7,7,7,7,7,7,7,7,7,7,7,7,7,7,7,7,7,7,7,7,7,7,7,7,7,7,8,8,8,8,8,8,8,8,8,8,8,8,8,8,8,8,8,8,8,8,8,8,8,8,8,8,8,8,8,8,8,8,8,8,8,8,8,8,8,8,8,8,8,8,8,8,8,8,8,8,8,8,8,8,8,8,8,8,8,8,8,8,8,8,8,8,8,8,8,8,8,8,8,8,8,8,8,8,8,8,8,8,8,8,8,8,8,8,8,8,8,8,8,8,8,8,8,8,8,8,8,8,8,8,8,8,8,8,8,8,8,8,8,8,8,8,8,8,8,8,8,8,8,8,8,8,8,8]) (Z6.wrap x24)).bind λh=>some (j6.wrap (J+(j6.wrap h)))
def pG (h:Int)(J:Int):Option Int:=if decide (256<=h)then pF (aV .u64 h 8) (j6.wrap (J+8))else pF h J
def pH (x6:Int)(h:Int):Option Int:=if decide (65536<=x6)then pG (aV .u64 x6 16) (j6.wrap (h+16))else pG x6 h
def qH (p0:Int):Option Int:=if decide (4294967296<=p0)then pH (aV .u64 p0 32) 32 else pH p0 0
def t7 (p0:Int):Option Int:=(qH p0).bind λh=>some h
def t8 (h:List Int):Option (List Int):=some h
def ua (J:Int)(h:List Int):Option ((Int×List Int)⊕List Int):=some (.inl (j6.wrap (J+1),h))
def p9 (h:Int)(J:List Int):Option ((Int×List Int)⊕((Int×List Int)⊕List Int)):=some (.inl (j6.wrap (h+1),J))
def qa (p1:Int)(W:Int)(x46:Int)(h:Int)(J:List Int):Option ((Int×List Int)⊕((Int×List Int)⊕List Int)):=if decide (h<p1)then(chk (decide (0<=h))).bind λa2=>if (d4 .u64 (aV .u64 x46 h) 1)==1 then(ix J (j6.wrap ((j6.wrap ((j6.wrap (W*p1))+h)).tdiv 8))).bind λa1=>(J[a1]?).bind λa0=>(chk (decide (0<=((j6.wrap ((j6.wrap (W*p1))+h)).tmod 8)))).bind λa3=>(ix J (j6.wrap ((j6.wrap ((j6.wrap (W*p1))+h)).tdiv 8))).bind λZ=>(J[Z]?).bind λa4=>p9 h (J.set Z (bOr .u8 a0 (en .u8 1 ((j6.wrap ((j6.wrap (W*p1))+h)).tmod 8))))else p9 h J else(ua W J).map Sum.inr
def qb (p0:List Int)(p1:Int)(h:Int)(J:List Int):Option ((Int×List Int)⊕List Int):=if decide (h<(p0.length:Int))then(idx p0 h).bind λx46=>am (λs:(Int×List Int)=>qa p1 h x46 s.1 s.2) (0,J)else(t8 J).map Sum.inr
def md (p0:List Int)(p1:Int):Option (List Int):=(mk 281474976710656 (j6.wrap ((j6.wrap ((j6.wrap ((p0.length:Int)*p1))+7)).tdiv 8)) 0).bind λh=>am (λs:(Int×List Int)=>qb p0 p1 s.1 s.2) (0,h)
def gl (p0:List Ap):Option (List Ap):=some p0
def gm (h:Int):Option (Int⊕List Ap):=some (.inl (j6.wrap (h+1)))
def gn (J:Int)(h:List Ap):Option (Int⊕List Ap):=(vw h J h.length).bind λW=>(clr h W.1 W.2 Ap.zero).bind λZ=>(sub Z 0 J).bind λa0=>(some a0).map Sum.inr
def dI (x128:Int)(h:Int)(J:List Ap):Option ((Int×Int×List Ap)⊕(Int⊕List Ap)):=some (.inl (h,j6.wrap (x128+1),J))
def gp (J:Nat×Nat)(W:Int)(x128:Int)(h:List Ap):Option ((Int×Int×List Ap)⊕(Int⊕List Ap)):=(chk (Zq J.2 cz)).bind λa9=>if decide (x128<(J.2:Int))then(ixv J.1 J.2 x128).bind λa2=>(h[a2]?).bind λa0=>(ixv J.1 J.2 (j6.wrap (x128-1))).bind λa3=>(h[a3]?).bind λa4=>if !decide (a0=a4)then(ixv J.1 J.2 x128).bind λa1=>(h[a1]?).bind λa5=>(ix h W).bind λZ=>(h[Z]?).bind λa6=>dI x128 (j6.wrap (W+1)) (h.set Z a5)else dI x128 W h else(gn W h).map Sum.inr
def gq (p0:List Ap)(h:Int):Option (Int⊕List Ap):=if decide (h<(p0.length:Int))then(ix p0 h).bind λZ=>(p0[Z]?).bind λJ=>(ix p0 (j6.wrap (h-1))).bind λa1=>(p0[a1]?).bind λa0=>if decide (J=a0)then(vw p0 h p0.length).bind λW=>am (λs:(Int×Int×List Ap)=>gp W s.1 s.2.1 s.2.2) (h,1,p0)else gm h else(gl p0).map Sum.inr
def eE (p0:List Ap):Option (List Ap):=if decide ((p0.length:Int)<2)then some p0 else am (λs:Int=>gq p0 s) 1
def jm (p0:List Ap):Option (List Ap):=(app 3518437208883 ([]:List Ap) p0).bind λh=>some h
def wq (h:List Ap)(a1:List Int)(a0:List Int):Option (List Int):=(t7 (Z0.wrap (j6.wrap ((h.length:Int)-1)))).bind λW=>(md a0 W).bind λJ=>(app 140737488355328 a1 J).bind λZ=>some Z
def oc (p0:List Ap)(J:List Ap)(Z:List Int)(W:List Int)(h:Int):Option ((List Int×Int)⊕List Int):=if decide (h<(p0.length:Int))then(idx p0 h).bind λa0=>(kq J a0).bind λa1=>(app 17592186044416 W ([Z0.wrap a1])).bind λa2=>some (.inl (a2,j6.wrap (h+1)))else(wq J Z W).map Sum.inr
def wt (p0:List Ap)(h:List Ap)(J:List Int):Option (List Int):=am (λs:(List Int×Int)=>oc p0 h J s.1 s.2) ([],0)
def rD (p0:List Ap)(h:List Ap)(W:List Int)(J:Int):Option ((List Int×Int)⊕List Int):=if decide (J<(h.length:Int))then(idx h J).bind λZ=>(oa Z).bind λa1=>(app 140737488355328 W a1).bind λa0=>some (.inl (a0,j6.wrap (J+1)))else(wt p0 h W).map Sum.inr
def mB (p0:List Ap):Option (List Int):=(jm p0).bind λJ=>(ll J cy).bind λW=>(eE W).bind λh=>am (λs:(List Int×Int)=>rD p0 h s.1 s.2) ([Z6.wrap (h.length:Int)],0)
def rk (h:Int):Option Int:=some h
def mP (p0:List Int)(J:Int)(h:Int):Option ((Int×Int)⊕Int):=if decide (h<(p0.length:Int))then(idx p0 h).bind λW=>some (.inl ((if W<J then W else J),j6.wrap (h+1)))else(rk J).map Sum.inr
def rl (p0:List Int):Option Int:=(idx p0 0).bind λh=>am (λs:(Int×Int)=>mP p0 s.1 s.2) (h,1)
def lJ (p0:List Int):Option Int:=if decide ((p0.length:Int)<1)then none else rl p0
def uX (J:Int)(W:List Int)(h:Int):Option (List Int):=(nz (Z0.wrap J)).bind λa2=>(app 140737488355328 a2 ([Z6.wrap h])).bind λZ=>(md W h).bind λa1=>(app 140737488355328 Z a1).bind λa0=>some a0
def qI (p0:List Int)(J:Int)(a1:List Int)(h:Int)(W:Int):Option ((List Int×Int×Int)⊕List Int):=if decide (W<(p0.length:Int))then(idx p0 W).bind λa0=>(app 17592186044416 a1 ([Z0.wrap ((Z0.wrap a0)-(Z0.wrap J))])).bind λa2=>(qH (Z0.wrap ((Z0.wrap a0)-(Z0.wrap J)))).bind λZ=>some (.inl (a2,(if h<Z then Z else h),j6.wrap (W+1)))else(uX J a1 h).map Sum.inr
def qJ (p0:List Int):Option (List Int):=(lJ p0).bind λh=>am (λs:(List Int×Int×Int)=>qI p0 h s.1 s.2.1 s.2.2) ([],0,0)
def ub (h:List Int):Option (List Int×Int):=some (h,0)
def qc (p1:List Ap)(J:List Int)(h:Int):Option ((List Int×Int)⊕(List Int×Int)):=if decide (h<(p1.length:Int))then(idx p1 h).bind λa0=>(oa a0).bind λZ=>(app 140737488355328 J Z).bind λW=>some (.inl (W,j6.wrap (h+1)))else(ub J).map Sum.inr
def iq (p0:Int)(p1:List Ap)(h:List Int×Bool)(W:Bool):Option (List Int×Int):=if W then some ([],62)else if (p1.length:Int)==0 then some ([],0)else if p0==1 then(si p1).bind λa1=>some (a1,0)else if p0==2 then(qE h.1).bind λa0=>some (a0,0)else if p0==3 then(mB p1).bind λZ=>some (Z,0)else if p0==4 then(qJ h.1).bind λJ=>some (J,0)else am (λs:(List Int×Int)=>qc p1 s.1 s.2) ([],0)
def ir (p0:Int)(p1:List Ap)(J:Bool):Option (List Int×Int):=if J then some ([],62)else if decide (64<(p1.length:Int))then some ([],61)else(eN p1 fq).bind λW=>if W then some ([],60)else(sg p1).bind λh=>if !h.2 then if p0==2 then iq p0 p1 h true else iq p0 p1 h (p0==4)else iq p0 p1 h false
def fO (p0:Int)(p1:List Ap):Option (List Int×Int):=if decide (p0<0)then ir p0 p1 true else ir p0 p1 (decide (4<p0))
def CX (h:Int):Option Int:=some h
def rE (J:Int)(W:Int)(h:Int):Option ((Int×Int×Int)⊕Int):=some (.inl (W,h,j6.wrap (J+1)))
def od (W:Int)(Z:Int)(h:Int)(J:List Int×Int)(x44:Bool):Option ((Int×Int×Int)⊕Int):=if x44 then rE h h (J.1.length:Int)else rE h W Z
def wu (p0:List Ap)(Z:Int)(W:Int)(h:Int):Option ((Int×Int×Int)⊕Int):=if decide (h<=4)then(fO h p0).bind λJ=>if J.2==0 then if decide (W<0)then od Z W h J true else od Z W h J (decide ((J.1.length:Int)<W))else od Z W h J false else(CX Z).map Sum.inr
def sj (p0:List Ap):Option Int:=am (λs:(Int×Int×Int)=>wu p0 s.1 s.2.1 s.2.2) (0,(-1),0)
def oL (x24:Ap):Option Ap:=some x24
def jW (x35:Int)(h:Ap):Option ((Int×Ap)⊕Ap):=some (.inl (j6.wrap (x35+1),h))
def jX (p0:List Ap)(p1:(Ap->Ap->Option Int))(x35:Int)(h:Ap):Option ((Int×Ap)⊕Ap):=if decide (x35<(p0.length:Int))then(idx p0 x35).bind λZ=>(p1 Z h).bind λW=>if decide (W<0)then(idx p0 x35).bind λJ=>jW x35 J else jW x35 h else(oL h).map Sum.inr
def oM (p0:List Ap)(p1:(Ap->Ap->Option Int)):Option Ap:=(idx p0 0).bind λh=>am (λs:(Int×Ap)=>jX p0 p1 s.1 s.2) (1,h)
def gD (p0:List Ap)(p1:(Ap->Ap->Option Int)):Option Ap:=if decide ((p0.length:Int)<1)then none else oM p0 p1
def oN (x24:Ap):Option Ap:=some x24
def jY (x35:Int)(h:Ap):Option ((Int×Ap)⊕Ap):=some (.inl (j6.wrap (x35+1),h))
def jZ (p0:List Ap)(p1:(Ap->Ap->Option Int))(x35:Int)(h:Ap):Option ((Int×Ap)⊕Ap):=if decide (x35<(p0.length:Int))then(idx p0 x35).bind λZ=>(p1 Z h).bind λW=>if decide (0<W)then(idx p0 x35).bind λJ=>jY x35 J else jY x35 h else(oN h).map Sum.inr
def oO (p0:List Ap)(p1:(Ap->Ap->Option Int)):Option Ap:=(idx p0 0).bind λh=>am (λs:(Int×Ap)=>jZ p0 p1 s.1 s.2) (1,h)
def gE (p0:List Ap)(p1:(Ap->Ap->Option Int)):Option Ap:=if decide ((p0.length:Int)<1)then none else oO p0 p1
def jQ (p0:List Ap):Option (List Ap):=some p0
def fP (x36:bw)(h:Ap):Option (bw×Bool):=if h.fKind==0 then some (({x36 with fNulls:=j6.wrap (x36.fNulls+1)}),true)else some (x36,true)
def lK (p0:Int)(p1:List Ap):Option bw:=(gD p1 cy).bind λW=>(gE p1 cy).bind λZ=>(jQ p1).bind λJ=>(dB (λ(s:bw) (x:Ap)=>fP s x) (⟨p0,(p1.length:Int),W,Z,0,0⟩:bw) J).bind λh=>if h.2 then some h.1else none
def sG (p0:Ap):Option (List Int):=(o7 ([p0])).bind λh=>(sub h.1 1 h.1.length).bind λJ=>some J
def yR (h:Int):Option Int:=some (CJ .u32 h)
def qK (p0:List Int)(J:List Int)(h:Int)(Z:Int):Option ((Int×Int)⊕Int):=if decide (Z<(p0.length:Int))then(idx p0 Z).bind λW=>(ix J (d4 .u32 (d7 .u32 h (Zy.wrap W)) 15)).bind λa1=>(J[a1]?).bind λa0=>(ix J (d4 .u32 (d7 .u32 a0 (aV .u32 (d7 .u32 h (Zy.wrap W)) 4)) 15)).bind λa2=>(J[a2]?).bind λa3=>some (.inl (d7 .u32 a3 (aV .u32 (d7 .u32 a0 (aV .u32 (d7 .u32 h (Zy.wrap W)) 4)) 4),j6.wrap (Z+1)))else(yR h).map Sum.inr
def nA (p0:List Int)(h:List Int):Option Int:=am (λs:(Int×Int)=>qK p0 h s.1 s.2) (4294967295,0)
def uc (J:Int)(h:List Int):Option ((Int×List Int)⊕Int):=some (.inl (j6.wrap (J+1),h))
def ud (W:Int)(h:List Int)(Z:Int):Option ((Int×List Int)⊕Int):=(ix h W).bind λJ=>(h[J]?).bind λa0=>uc W (h.set J Z)
def nB (Z:Int)(W:List Int)(h:Int)(J:Int):Option ((Int×Int)⊕((Int×List Int)⊕Int)):=if decide (J<4)then some (.inl (d7 .u32 (aV .u32 h 1) (Zy.wrap (3988292384*(d4 .u32 h 1))),j6.wrap (J+1)))else(ud Z W h).map Sum.inr
def qL (p0:List Int)(h:Int)(J:List Int):Option ((Int×List Int)⊕Int):=if decide (h<16)then am (λs:(Int×Int)=>nB h J s.1 s.2) (Zy.wrap h,0)else(nA p0 J).map Sum.inr
def iQ (p0:List Int):Option Int:=am (λs:(Int×List Int)=>qL p0 s.1 s.2) (0,(Ze 16 0:List Int))
def lm (p0:List Int):Option (List Int):=(iQ p0).bind λh=>(app 140737488355328 p0 ([Z6.wrap (aV .u32 h 24),Z6.wrap (aV .u32 h 16),Z6.wrap (aV .u32 h 8),Z6.wrap h])).bind λJ=>some J
def oh (p1:List Ap)(W:Int):Option (List Int×Int):=(fO W p1).bind λh=>if h.2!=0 then some ([],h.2)else(lK W p1).bind λJ=>(sG J.fMin).bind λa1=>(app 140737488355328 ([Z6.wrap W,Z6.wrap J.fMany,Z6.wrap J.fNulls]) a1).bind λa5=>(sG J.fMax).bind λa4=>(app 140737488355328 a5 a4).bind λa2=>(app 140737488355328 a2 ([Z6.wrap (aV .i64 (h.1.length:Int) 8),Z6.wrap (h.1.length:Int)])).bind λa0=>(app 140737488355328 a0 h.1).bind λa3=>(lm a3).bind λZ=>some (Z,0)
def o8 (p0:Int)(p1:List Ap):Option (List Int×Int):=if (p1.length:Int)==0 then some ([],70)else if p0==(-1)then(sj p1).bind λh=>oh p1 h else oh p1 p0
def o9 (h:Bool):Option Bool:=some h
def vx (p0:Ap)(x46:Ap):Option Bool:=if decide (0<=p0.fKind)then if decide (p0.fKind<=3)then if decide (p0=x46)then o9 (decide ((p0.fText.length:Int)<=64))else o9 false else o9 false else o9 false
def vy (p0:Ap)(x35:Ap):Option Bool:=if p0.fKind==3 then vx p0 ({x35 with fText:=p0.fText})else vx p0 x35
def vz (p0:Ap)(x24:Ap):Option Bool:=if p0.fKind==2 then vy p0 ({x24 with fInt:=p0.fInt})else vy p0 x24
def ue (p0:Ap):Option Bool:=if p0.fKind==1 then vz p0 ({(⟨p0.fKind,false,0,[]⟩:Ap)with fBool:=p0.fBool})else vz p0 (⟨p0.fKind,false,0,[]⟩:Ap)
def yf:Option Int:=some 0
def me (x24:Int)(x35:Bool):Option (Int⊕Int):=if x35 then(some 62).map Sum.inr else some (.inl (j6.wrap (x24+1)))
def pI (p0:Int)(p1:List Ap)(x24:Int):Option (Int⊕Int):=if decide (x24<(p1.length:Int))then if p0==2 then(idx p1 x24).bind λh=>me x24 (h.fKind !=2)else if p0==4 then(idx p1 x24).bind λJ=>me x24 (J.fKind !=2)else me x24 false else(yf).map Sum.inr
def sT (p0:Int)(p1:List Ap):Option Int:=am (λs:Int=>pI p0 p1 s) 0
def mf (p0:Int)(p1:List Ap)(h:Int):Option (Int⊕Int):=if decide (h<(p1.length:Int))then(idx p1 h).bind λJ=>(ue J).bind λW=>if !W then(some 60).map Sum.inr else some (.inl (j6.wrap (h+1)))else(sT p0 p1).map Sum.inr
def pJ (p0:Int)(p1:List Ap)(h:Bool):Option Int:=if h then some 62 else if decide (64<(p1.length:Int))then some 61 else am (λs:Int=>mf p0 p1 s) 0
def tf (p0:Int)(p1:List Ap):Option Int:=if decide (p0<0)then pJ p0 p1 true else pJ p0 p1 (decide (4<p0))
def tg (x6:List eo):Option (List eo):=some x6
def ol (J:Int)(h:List eo):Option ((List eo×Int)⊕List eo):=some (.inl (h,j6.wrap (J+1)))
def lL (p0:List Ap)(h:List eo)(J:Int)(a0:Bool):Option ((List eo×Int)⊕List eo):=if a0 then(idx h (j6.wrap ((h.length:Int)-1))).bind λx44=>(sub h 0 (j6.wrap ((h.length:Int)-1))).bind λa3=>(app 2932031007402 ([]) a3).bind λa1=>(app 2932031007402 a1 ([{x44 with fMany:=j6.wrap (x44.fMany+1)}])).bind λW=>ol J W else(idx p0 J).bind λa2=>(app 2932031007402 h ([(⟨1,a2⟩:eo)])).bind λZ=>ol J Z
def qN (p0:List Ap)(J:List eo)(h:Int):Option ((List eo×Int)⊕List eo):=if decide (h<(p0.length:Int))then if decide (0<h)then(idx p0 h).bind λZ=>(idx p0 (j6.wrap (h-1))).bind λW=>lL p0 J h (decide (Z=W))else lL p0 J h false else(tg J).map Sum.inr
def tN (p0:List Ap):Option (List eo):=am (λs:(List eo×Int)=>qN p0 s.1 s.2) ([],0)
def FM (x6:List Int):Option (List Int):=some x6
def jH (p0:Int)(J:List Int)(h:Int):Option ((List Int×Int)⊕List Int):=if decide (0<=h)then(chk (decide (0<=h))).bind λZ=>(app 140737488355328 J ([Z6.wrap (aV .u64 p0 h)])).bind λW=>some (.inl (W,j6.wrap (h-8)))else(FM J).map Sum.inr
def qp (p0:Int):Option (List Int):=am (λs:(List Int×Int)=>jH p0 s.1 s.2) ([],56)
def yS (p0:Ap)(h:Bool):Option (List Int):=if h then(app 140737488355328 ([Z6.wrap p0.fKind]) ([1])).bind λa2=>some a2 else if p0.fKind==1 then(app 140737488355328 ([Z6.wrap p0.fKind]) ([0])).bind λa0=>some a0 else if p0.fKind==2 then(qp (Z0.wrap p0.fInt)).bind λJ=>(app 140737488355328 ([Z6.wrap p0.fKind]) J).bind λZ=>some Z else if p0.fKind==3 then(app 140737488355328 ([Z6.wrap p0.fKind]) ([Z6.wrap (p0.fText.length:Int)])).bind λW=>(app 140737488355328 W p0.fText).bind λa1=>some a1 else some ([Z6.wrap p0.fKind])
def wv (p0:Ap):Option (List Int):=if p0.fKind==1 then yS p0 p0.fBool else yS p0 false
def AB (x24:List Int):Option (List Int):=some x24
def AC (x35:Int)(x46:List Int):Option ((List Int×Int)⊕List Int):=some (.inl (x46,j6.wrap (x35+1)))
def AD (x35:Int)(J:List Int)(x144:Int):Option ((List Int×Int)⊕List Int):=(app 140737488355328 J ([Z6.wrap x144])).bind λh=>AC x35 h
def pa (x35:Int)(J:List Int)(h:Int):Option ((List Int×Int)⊕((List Int×Int)⊕List Int)):=if decide (128<=h)then(app 140737488355328 J ([Z6.wrap (Z0.wrap ((h.tmod 128)+128))])).bind λW=>some (.inl (W,Z0.wrap (h.tdiv 128)))else(AD x35 J h).map Sum.inr
def vA (h:List Int)(x35:Int)(J:Int):Option ((List Int×Int)⊕List Int):=am (λs:(List Int×Int)=>pa x35 s.1 s.2) (h,J)
def vB (p0:List Ap)(h:List Int)(x35:Int):Option ((List Int×Int)⊕List Int):=if decide (x35<(p0.length:Int))then(idx p0 x35).bind λJ=>(idx p0 (j6.wrap (x35-1))).bind λW=>if decide ((j6.wrap (J.fInt-W.fInt))<0)then vA h x35 (Z0.wrap (j6.wrap ((j6.wrap ((-2)*(j6.wrap (J.fInt-W.fInt))))-1)))else vA h x35 (Z0.wrap (j6.wrap (2*(j6.wrap (J.fInt-W.fInt)))))else(AB h).map Sum.inr
def xj (p0:List Ap):Option (List Int):=(idx p0 0).bind λh=>(qp (Z0.wrap h.fInt)).bind λJ=>am (λs:(List Int×Int)=>vB p0 s.1 s.2) (J,1)
def lM (h:Bool):Option Bool:=some h
def qO (h:Bool):Option Bool:=some h
def rF (p0:Ap)(p1:Ap):Option Bool:=if p0.fKind !=p1.fKind then some (decide (p0.fKind<p1.fKind))else if p0.fKind==1 then if !p0.fBool then lM p1.fBool else lM false else if p0.fKind==2 then some (decide (p0.fInt<p1.fInt))else if p0.fKind==3 then qO (ltB p0.fText p1.fText)else qO false
def jn (p0:Ap)(p1:Ap):Option Int:=(rF p0 p1).bind λJ=>(rF p1 p0).bind λh=>if J then some (-1)else if h then some 1 else some 0
def AE (x6:List Ap):Option (List Ap):=some x6
def AF (J:Int)(h:List Ap):Option ((List Ap×Int)⊕List Ap):=some (.inl (h,j6.wrap (J+1)))
def vC (J:Int)(h:List Ap):Option ((List Ap×Int)⊕List Ap):=AF J h
def AG (p0:List Ap)(h:Int)(J:List Ap)(W:Bool):Option ((List Ap×Int)⊕List Ap):=if !W then(idx p0 h).bind λZ=>(app 3518437208883 J ([Z])).bind λa0=>vC h a0 else vC h J
def vD (x82:Int)(J:List Ap)(h:Bool):Option ((List Ap×Bool×Int)⊕((List Ap×Int)⊕List Ap)):=some (.inl (J,h,j6.wrap (x82+1)))
def vE (a0:List Ap)(x82:Int)(W:List Ap)(h:Bool):Option ((List Ap×Bool×Int)⊕((List Ap×Int)⊕List Ap)):=(idx a0 x82).bind λJ=>(app 3518437208883 W ([J])).bind λZ=>vD x82 Z h
def vF (p0:List Ap)(W:List Ap)(a1:Int)(J:List Ap)(Z:Bool)(x82:Int)(a3:Int)(a2:Bool):Option ((List Ap×Bool×Int)⊕((List Ap×Int)⊕List Ap)):=if a2 then(idx p0 a1).bind λa0=>(app 3518437208883 J ([a0])).bind λh=>if a3==0 then vD x82 h true else vE W x82 h true else vE W x82 J Z
def vG (p0:List Ap)(W:List Ap)(J:Int)(Z:List Ap)(h:Bool)(x82:Int):Option ((List Ap×Bool×Int)⊕((List Ap×Int)⊕List Ap)):=if decide (x82<(W.length:Int))then(idx p0 J).bind λa1=>(idx W x82).bind λa2=>(jn a1 a2).bind λa0=>if !h then vF p0 W J Z h x82 a0 (decide (a0<=0))else vF p0 W J Z h x82 a0 false else(AG p0 J Z h).map Sum.inr
def vH (p0:List Ap)(h:List Ap)(J:Int):Option ((List Ap×Int)⊕List Ap):=if decide (J<(p0.length:Int))then am (λs:(List Ap×Bool×Int)=>vG p0 h J s.1 s.2.1 s.2.2) ([],false,0)else(AE h).map Sum.inr
def xk (p0:List Ap):Option (List Ap):=am (λs:(List Ap×Int)=>vH p0 s.1 s.2) ([],0)
def AH (h:Int):Option Int:=some h
def vI (h:Int)(J:Int):Option ((Int×Int)⊕Int):=if decide (0<h)then some (.inl (Z0.wrap (h.tdiv 2),j6.wrap (J+1)))else(AH J).map Sum.inr
def rG (p0:Int):Option Int:=am (λs:(Int×Int)=>vI s.1 s.2) (p0,0)
def yT (h:List Int):Option (List Int):=some h
def yU (h:Int)(x36:List Int):Option ((List Int×Int)⊕List Int):=some (.inl (x36,j6.wrap (h+8)))
def yV (Z:List Int)(h:Int)(W:Int):Option ((List Int×Int)⊕List Int):=(app 140737488355328 Z ([W])).bind λJ=>yU h J
def uf (h:Int)(J:Int):Option ((Int×Int)⊕((List Int×Int)⊕List Int)):=some (.inl (J,j6.wrap (h-1)))
def ug (x6:List Int)(a0:List Int)(W:Int)(J:Int)(h:Int):Option ((Int×Int)⊕((List Int×Int)⊕List Int)):=if decide (0<=h)then if decide ((j6.wrap (W+h))<(x6.length:Int))then(idx x6 (j6.wrap (W+h))).bind λZ=>uf h (Z6.wrap ((Z6.wrap (J*2))+Z))else uf h (Z6.wrap (J*2))else(yV a0 W J).map Sum.inr
def uh (x6:List Int)(J:List Int)(h:Int):Option ((List Int×Int)⊕List Int):=if decide (h<(x6.length:Int))then am (λs:(Int×Int)=>ug x6 J h s.1 s.2) (0,7)else(yT J).map Sum.inr
def ui (x6:List Int):Option (List Int):=am (λs:(List Int×Int)=>uh x6 s.1 s.2) ([],0)
def yW (h:Int)(x122:List Int):Option ((List Int×Int)⊕List Int):=some (.inl (x122,j6.wrap (h+1)))
def uj (p1:Int)(a0:Int)(J:List Int)(h:Int)(W:Int):Option ((List Int×Int×Int)⊕((List Int×Int)⊕List Int)):=if decide (W<p1)then(app 140737488355328 J ([Z6.wrap (h.tmod 2)])).bind λZ=>some (.inl (Z,Z0.wrap (h.tdiv 2),j6.wrap (W+1)))else(yW a0 J).map Sum.inr
def uk (p0:List Int)(p1:Int)(J:List Int)(h:Int):Option ((List Int×Int)⊕List Int):=if decide (h<(p0.length:Int))then(idx p0 h).bind λW=>am (λs:(List Int×Int×Int)=>uj p1 h s.1 s.2.1 s.2.2) (J,W,0)else(ui J).map Sum.inr
def sH (p0:List Int)(p1:Int):Option (List Int):=am (λs:(List Int×Int)=>uk p0 p1 s.1 s.2) ([],0)
def BS (J:List Ap)(a1:List Int)(h:List Int):Option (List Int):=(rG (Z0.wrap (j6.wrap ((J.length:Int)-1)))).bind λZ=>(sH h Z).bind λa0=>(app 140737488355328 a1 a0).bind λW=>some W
def BT (h:Int)(J:List Int):Option ((List Int×Int)⊕List Int):=some (.inl (J,j6.wrap (h+1)))
def xn (h:Int)(J:List Int):Option ((List Int×Int)⊕((List Int×Int)⊕List Int)):=some (.inl (J,j6.wrap (h+1)))
def xp (p0:List Ap)(Z:List Ap)(W:Int)(J:List Int)(h:Int):Option ((List Int×Int)⊕((List Int×Int)⊕List Int)):=if decide (h<(Z.length:Int))then(idx Z h).bind λa0=>(idx p0 W).bind λa1=>if decide (a0=a1)then(app 17592186044416 J ([Z0.wrap h])).bind λa2=>xn h a2 else xn h J else(BT W J).map Sum.inr
def th (p0:List Ap)(h:List Ap)(Z:List Int)(W:List Int)(J:Int):Option ((List Int×Int)⊕List Int):=if decide (J<(p0.length:Int))then am (λs:(List Int×Int)=>xp p0 h J s.1 s.2) (W,0)else(BS h Z W).map Sum.inr
def BU (p0:List Ap)(h:List Ap)(J:List Int):Option (List Int):=am (λs:(List Int×Int)=>th p0 h J s.1 s.2) ([],0)
def xq (p0:List Ap)(J:List Ap)(W:List Int)(h:Int):Option ((List Int×Int)⊕List Int):=if decide (h<(J.length:Int))then(idx J h).bind λa1=>(wv a1).bind λZ=>(app 140737488355328 W Z).bind λa0=>some (.inl (a0,j6.wrap (h+1)))else(BU p0 J W).map Sum.inr
def Ad (p0:List Ap):Option (List Int):=(xk p0).bind λh=>am (λs:(List Int×Int)=>xq p0 h s.1 s.2) ([Z6.wrap (h.length:Int)],0)
def AJ (W:Int)(a2:List Int)(h:Int):Option (List Int):=(qp (Z0.wrap W)).bind λZ=>(app 140737488355328 Z ([Z6.wrap h])).bind λJ=>(sH a2 h).bind λa1=>(app 140737488355328 J a1).bind λa0=>some a0
def sk (p0:List Ap)(h:Int)(Z:List Int)(J:Int)(W:Int):Option ((List Int×Int×Int)⊕List Int):=if decide (W<(p0.length:Int))then(idx p0 W).bind λx86=>(app 17592186044416 Z ([Z0.wrap ((Z0.wrap x86.fInt)-(Z0.wrap h))])).bind λa1=>(rG (Z0.wrap ((Z0.wrap x86.fInt)-(Z0.wrap h)))).bind λa0=>some (.inl (a1,(if J<a0 then a0 else J),j6.wrap (W+1)))else(AJ h Z J).map Sum.inr
def AK (p0:List Ap)(h:Int):Option (List Int):=am (λs:(List Int×Int×Int)=>sk p0 h s.1 s.2.1 s.2.2) ([],0,0)
def vJ (p0:List Ap)(h:Int)(J:Int):Option ((Int×Int)⊕List Int):=if decide (J<(p0.length:Int))then(idx p0 J).bind λx144=>some (.inl ((if x144.fInt<h then x144.fInt else h),j6.wrap (J+1)))else(AK p0 h).map Sum.inr
def xr (p0:List Ap):Option (List Int):=(idx p0 0).bind λh=>am (λs:(Int×Int)=>vJ p0 s.1 s.2) (h.fInt,0)
def iR (h:List Int):Option (List Int×Int):=some (h,0)
def ul (J:List eo)(x46:List Int)(h:Int):Option ((List Int×Int)⊕(List Int×Int)):=if decide (h<(J.length:Int))then(idx J h).bind λa0=>(app 140737488355328 x46 ([Z6.wrap a0.fMany])).bind λa1=>(idx J h).bind λx86=>(wv x86.fValue).bind λZ=>(app 140737488355328 a1 Z).bind λW=>some (.inl (W,j6.wrap (h+1)))else(iR x46).map Sum.inr
def um (p1:List Ap)(J:List Int)(h:Int):Option ((List Int×Int)⊕(List Int×Int)):=if decide (h<(p1.length:Int))then(idx p1 h).bind λZ=>(wv Z).bind λW=>(app 140737488355328 J W).bind λa0=>some (.inl (a0,j6.wrap (h+1)))else(iR J).map Sum.inr
def un (p0:Int)(p1:List Ap)(W:Int)(J:Bool):Option (List Int×Int):=if J then some ([],W)else if p0==1 then(tN p1).bind λa1=>am (λs:(List Int×Int)=>ul a1 s.1 s.2) ([],0)else if p0==2 then(xj p1).bind λZ=>iR Z else if p0==3 then(Ad p1).bind λh=>iR h else if p0==4 then(xr p1).bind λa0=>iR a0 else am (λs:(List Int×Int)=>um p1 s.1 s.2) ([],0)
def uY (p0:Int)(p1:List Ap):Option (List Int×Int):=(tf p0 p1).bind λh=>if h !=0 then un p0 p1 h true else un p0 p1 h ((p1.length:Int)==0)
def AL (h:bY):Option bY:=some h
def vK (h:Int)(J:bY):Option ((Int×bY)⊕bY):=some (.inl (j6.wrap (h+1),J))
def sm (p1:List Ap)(h:Int)(x196:bY):Option ((Int×bY)⊕bY):=(idx p1 h).bind λJ=>if J.fKind==0 then vK h ({x196 with fNulls:=j6.wrap (x196.fNulls+1)})else vK h x196
def sn (p1:List Ap)(h:Int)(x144:bY):Option ((Int×bY)⊕bY):=(idx p1 h).bind λW=>(jn W x144.fMax).bind λZ=>if decide (0<Z)then(idx p1 h).bind λJ=>sm p1 h ({x144 with fMax:=J})else sm p1 h x144
def vL (p1:List Ap)(h:Int)(x86:bY):Option ((Int×bY)⊕bY):=if decide (h<(p1.length:Int))then(idx p1 h).bind λZ=>(jn Z x86.fMin).bind λW=>if decide (W<0)then(idx p1 h).bind λJ=>sn p1 h ({x86 with fMin:=J})else sn p1 h x86 else(AL x86).map Sum.inr
def xt (p0:Int)(p1:List Ap):Option bY:=(idx p1 0).bind λh=>(idx p1 0).bind λJ=>am (λs:(Int×bY)=>vL p1 s.1 s.2) (0,(⟨p0,(p1.length:Int),h,J,0,0⟩:bY))
def DM (x6:Int):Option Int:=some (d7 .u32 x6 4294967295)
def DN (h:Int)(J:Int):Option ((Int×Int)⊕Int):=some (.inl (J,j6.wrap (h+1)))
def yY (J:Int)(h:Int):Option ((Int×Int)⊕((Int×Int)⊕Int)):=some (.inl (h,j6.wrap (J+1)))
def yZ (W:Int)(h:Int)(J:Int):Option ((Int×Int)⊕((Int×Int)⊕Int)):=if decide (J<8)then if (h.tmod 2)==1 then yY J (d7 .u32 (Zy.wrap (h.tdiv 2)) 3988292384)else yY J (Zy.wrap (h.tdiv 2))else(DN W h).map Sum.inr
def y5 (p0:List Int)(J:Int)(h:Int):Option ((Int×Int)⊕Int):=if decide (h<(p0.length:Int))then(idx p0 h).bind λx36=>am (λs:(Int×Int)=>yZ h s.1 s.2) (d7 .u32 J (Zy.wrap x36),0)else(DM J).map Sum.inr
def ww (p0:List Int):Option Int:=am (λs:(Int×Int)=>y5 p0 s.1 s.2) (4294967295,0)
def wy (x6:Int):Option Int:=some x6
def rH (p0:List Int)(J:Int)(h:Int):Option ((Int×Int)⊕Int):=if decide (h<8)then(idx p0 h).bind λW=>some (.inl (bOr .u64 (en .u64 J 8) (Z0.wrap W),j6.wrap (h+1)))else(wy J).map Sum.inr
def sq (p0:List Int):Option Int:=am (λs:(Int×Int)=>rH p0 s.1 s.2) (0,0)
def ln (h:List Int)(Z:Bool):Option (Ap×List Int×Bool):=if Z then(idx h 0).bind λa2=>(sub h 1 (Z6.wrap (1+a2))).bind λa0=>(qC a0).bind λW=>(idx h 0).bind λJ=>(sub h (Z6.wrap (1+J)) h.length).bind λa1=>some (W,a1,true)else some ((⟨0,false,0,[]⟩:Ap),[],false)
def qP (a1:Int)(h:List Int)(Z:Bool):Option (Ap×List Int×Bool):=if Z then(sq h).bind λW=>(eU (j6.wrap W)).bind λa0=>(sub h 8 h.length).bind λa2=>some (a0,a2,true)else if (j6.wrap a1)==3 then if decide (1<=(h.length:Int))then(idx h 0).bind λJ=>if decide (J<=64)then(idx h 0).bind λa3=>ln h (decide ((j6.wrap a3)<(h.length:Int)))else ln h false else ln h false else ln h false
def lp (J:Int)(h:List Int)(W:Bool):Option (Ap×List Int×Bool):=if W then(idx h 0).bind λx86=>(qz (x86==1)).bind λZ=>(sub h 1 h.length).bind λa0=>some (Z,a0,true)else if (j6.wrap J)==2 then qP J h (decide (8<=(h.length:Int)))else qP J h false
def uZ (p0:List Int):Option (Ap×List Int×Bool):=if (p0.length:Int)==0 then some ((⟨0,false,0,[]⟩:Ap),[],false)else(idx p0 0).bind λJ=>(sub p0 1 p0.length).bind λh=>if (j6.wrap J)==0 then(lI).bind λZ=>some (Z,h,true)else if (j6.wrap J)==1 then if decide (1<=(h.length:Int))then(idx h 0).bind λW=>lp J h (decide (W<=1))else lp J h false else lp J h false
def wz (J:List Int)(h:List Ap):Option (List Ap×Int):=if decide (0<(J.length:Int))then some ([],30)else some (h,0)
def lq (a0:Int)(x82:List Int)(W:List Ap)(J:Int):Option ((List Int×List Ap×Int)⊕(List Ap×Int)):=if decide (J<(j6.wrap a0))then(uZ x82).bind λh=>if !h.2.2 then(some ([],30)).map Sum.inr else(app 3518437208883 W ([h.1])).bind λZ=>some (.inl (h.2.1,Z,j6.wrap (J+1)))else(wz x82 W).map Sum.inr
def rJ (p0:List Int)(W:Bool):Option (List Ap×Int):=if W then some ([],30)else(idx p0 0).bind λh=>(sub p0 1 p0.length).bind λJ=>am (λs:(List Int×List Ap×Int)=>lq h s.1 s.2.1 s.2.2) (J,[],0)
def mD (p0:List Int):Option (List Ap×Int):=if (p0.length:Int)==0 then rJ p0 true else(idx p0 0).bind λh=>rJ p0 (decide (16<h))
def CY:Option (Ap×List Int×Bool):=some ((⟨0,false,0,[]⟩:Ap),[],false)
def om (p0:List Int)(h:Int)(x24:Bool):Option (Int⊕(Ap×List Int×Bool)):=if x24 then(sub p0 0 h).bind λa0=>(app 140737488355328 ([1]) a0).bind λW=>(mD W).bind λJ=>if J.2==0 then(idx J.1 0).bind λa1=>(sub p0 h p0.length).bind λZ=>(some (a1,Z,true)).map Sum.inr else some (.inl (j6.wrap (h+1)))else(CY).map Sum.inr
def ot (p0:List Int)(h:Int):Option (Int⊕(Ap×List Int×Bool)):=if decide (h<=(p0.length:Int))then om p0 h (decide (h<=66))else om p0 h false
def mE (p0:List Int):Option (Ap×List Int×Bool):=am (λs:Int=>ot p0 s) 1
def pK (p0:List Int)(a3:Int)(a1:Int)(a5:Int)(a0:Ap×List Int×Bool)(h:Ap×List Int×Bool)(a4:Bool):Option (bw×List Int×Bool):=if a4 then some ((⟨0,0,Ap.zero,Ap.zero,0,0⟩:bw),[],false)else(idx h.2.1 0).bind λW=>(idx h.2.1 1).bind λZ=>(sub h.2.1 2 h.2.1.length).bind λJ=>if decide ((J.length:Int)<(j6.wrap ((bOr .i64 (en .i64 (j6.wrap W) 8) (j6.wrap Z))+4)))then some ((⟨0,0,Ap.zero,Ap.zero,0,0⟩:bw),[],false)else(sub J 0 (bOr .i64 (en .i64 (j6.wrap W) 8) (j6.wrap Z))).bind λa2=>some ({{{(⟨j6.wrap a3,j6.wrap a1,Ap.zero,Ap.zero,j6.wrap a5,0⟩:bw)with fMin:=a0.1}with fMax:=h.1}with fBytes:=j6.wrap ((j6.wrap ((j6.wrap ((p0.length:Int)-(J.length:Int)))+(bOr .i64 (en .i64 (j6.wrap W) 8) (j6.wrap Z))))+4)},a2,true)
def gV (p0:List Int)(x7:Bool):Option (bw×List Int×Bool):=if x7 then some ((⟨0,0,Ap.zero,Ap.zero,0,0⟩:bw),[],false)else(idx p0 0).bind λZ=>(idx p0 1).bind λW=>(idx p0 2).bind λa0=>(sub p0 3 p0.length).bind λa1=>(mE a1).bind λh=>(mE h.2.1).bind λJ=>if !h.2.2 then pK p0 Z W a0 h J true else if !J.2.2 then pK p0 Z W a0 h J true else pK p0 Z W a0 h J (decide ((J.2.1.length:Int)<2))
def jo (p0:List Int):Option (bw×List Int×Bool):=if decide ((p0.length:Int)<3)then gV p0 true else(idx p0 0).bind λa0=>if decide (4<a0)then gV p0 true else(idx p0 1).bind λh=>if h==0 then gV p0 true else(idx p0 1).bind λJ=>if decide (64<J)then gV p0 true else(idx p0 2).bind λZ=>(idx p0 1).bind λW=>gV p0 (decide (W<Z))
def BV (p0:List Int):Option (bw×Int):=(jo p0).bind λh=>if !h.2.2 then some ((⟨0,0,Ap.zero,Ap.zero,0,0⟩:bw),70)else some (h.1,0)
def ji (p0:List Int):Option (List Int):=(app 140737488355328 ([]) p0).bind λh=>some h
def qQ:Option Bool:=some true
def gF (p0:List Int)(p1:List Int)(h:Int):Option (Int⊕Bool):=if decide (h<(p0.length:Int))then(idx p0 h).bind λJ=>(idx p1 h).bind λW=>if J !=W then(some false).map Sum.inr else some (.inl (j6.wrap (h+1)))else(qQ).map Sum.inr
def gP (p0:List Int)(p1:List Int):Option Bool:=if (p0.length:Int)!=(p1.length:Int)then some false else am (λs:Int=>gF p0 p1 s) 0
def vM (p0:ai):Option (Ap×ai):=some ((⟨0,false,0,[]⟩:Ap),{p0 with fOk:=false})
def iC (p0:ai)(h:Int)(Z:Bool):Option (Int⊕(Ap×ai)):=if Z then(sub p0.fB 0 h).bind λa2=>(app 140737488355328 ([1]) a2).bind λa0=>(mD a0).bind λJ=>if J.2==0 then(sub p0.fB h p0.fB.length).bind λW=>(idx J.1 0).bind λa1=>(some (a1,{p0 with fB:=W})).map Sum.inr else some (.inl (j6.wrap (h+1)))else(vM p0).map Sum.inr
def iD (p0:ai)(h:Int):Option (Int⊕(Ap×ai)):=if decide (h<=(p0.fB.length:Int))then iC p0 h (decide (h<=66))else iC p0 h false
def dN (p0:ai):Option (Ap×ai):=am (λs:Int=>iD p0 s) 1
def cY (p0:ai)(p1:Int):Option (List Int×ai):=if decide ((p0.fB.length:Int)<p1)then(mk 281474976710656 p1 0).bind λh=>some (h,{{p0 with fB:=[]}with fOk:=false})else(mk 281474976710656 p1 0).bind λJ=>(sub p0.fB p1 p0.fB.length).bind λW=>some ((cpy J p0.fB),{p0 with fB:=W})
def In (p0:Int)(p1:Int):Option (Int×Int):=some (Zy.wrap (aV .u64 (Z0.wrap ((Z0.wrap p0)*(Z0.wrap p1))) 32),Zy.wrap (Z0.wrap ((Z0.wrap p0)*(Z0.wrap p1))))
def tj (p0:Int)(p1:Int):Option (Int×Int):=some (Z0.wrap ((Z0.wrap ((Z0.wrap ((aV .u64 p0 32)*(aV .u64 p1 32)))+(aV .u64 (Z0.wrap ((Z0.wrap ((aV .u64 p0 32)*(d4 .u64 p1 4294967295)))+(aV .u64 (Z0.wrap ((d4 .u64 p0 4294967295)*(d4 .u64 p1 4294967295))) 32))) 32)))+(aV .u64 (Z0.wrap ((d4 .u64 (Z0.wrap ((Z0.wrap ((aV .u64 p0 32)*(d4 .u64 p1 4294967295)))+(aV .u64 (Z0.wrap ((d4 .u64 p0 4294967295)*(d4 .u64 p1 4294967295))) 32))) 4294967295)+(Z0.wrap ((d4 .u64 p0 4294967295)*(aV .u64 p1 32))))) 32)),Z0.wrap (p0*p1))
def xu (p0:Int)(p1:Int):Option (Int×Int):=(tj p0 p1).bind λh=>some (h.1,h.2)
def iE (h:List Ap):Option (List Ap):=some h
def iF (J:Int)(h:List Ap):Option ((Int×List Ap)⊕List Ap):=if decide (J<(h.length:Int))then(vw h J h.length).bind λW=>(vw h 0 J).bind λZ=>(chk (Zq (min Z.2 W.2) cz)).bind λa1=>(cpv h W Z).bind λa0=>some (.inl (j6.wrap (J+((min Z.2 W.2:Nat):Int)),a0))else(iE h).map Sum.inr
def iG (p0:List Ap)(J:Int×Int):Option (List Ap):=(mk 7036874417766 (j6.wrap J.2) Ap.zero).bind λh=>am (λs:(Int×List Ap)=>iF s.1 s.2) (((min p0.length h.length:Nat):Int),(cpy h p0))
def fF (p0:List Ap)(J:Int×Int)(h:Bool):Option (List Ap):=if h then none else iG p0 J
def iH (p0:List Ap)(p1:Int):Option (List Ap):=(xu (Z0.wrap (p0.length:Int)) (Z0.wrap p1)).bind λh=>if decide (0<h.1)then fF p0 h true else fF p0 h (decide (9223372036854775807<h.2))
def fy (p0:List Ap)(p1:Int):Option (List Ap):=if decide (p1<0)then none else iH p0 p1
def oP (J:List Int×ai)(h:Int):Option (Int×ai):=some (h,J.2)
def gZ (J:List Int×ai)(W:Int)(h:Int):Option ((Int×Int)⊕(Int×ai)):=if decide (h<(J.1.length:Int))then(idx J.1 h).bind λZ=>some (.inl (bOr .u64 (en .u64 W 8) (Z0.wrap Z),j6.wrap (h+1)))else(oP J W).map Sum.inr
def gG (p0:ai):Option (Int×ai):=(cY p0 8).bind λh=>am (λs:(Int×Int)=>gZ h s.1 s.2) (0,0)
def pc (x6:ai):Option (Int×ai):=some (0,{x6 with fOk:=false})
def iI (a0:Int)(h:Int)(Z:ai)(a1:Bool):Option ((Int×Int×ai)⊕(Int×ai)):=if a1 then(cY Z 1).bind λJ=>(idx J.1 0).bind λW=>(chk (decide (0<=h))).bind λa2=>if decide (W<128)then(some (bOr .u64 a0 (en .u64 (Z0.wrap (d4 .u8 W 127)) h),J.2)).map Sum.inr else some (.inl (bOr .u64 a0 (en .u64 (Z0.wrap (d4 .u8 W 127)) h),j6.wrap (h+7),J.2))else(pc Z).map Sum.inr
def kK (W:Int)(h:Int)(J:ai):Option ((Int×Int×ai)⊕(Int×ai)):=if decide (h<70)then iI W h J J.fOk else iI W h J false
def fz (p0:ai):Option (Int×ai):=am (λs:(Int×Int×ai)=>kK s.1 s.2.1 s.2.2) (0,0,p0)
def mY (h:List Int×ai)(J:List Int):Option (List Int×ai):=some (J,h.2)
def mZ (h:Int)(J:List Int):Option ((Int×List Int)⊕(List Int×ai)):=some (.inl (j6.wrap (h+1),J))
def jp (p2:Int)(a2:List Int×ai)(J:Int)(h:Int)(W:List Int):Option ((Int×List Int)⊕((Int×List Int)⊕(List Int×ai))):=if decide (h<p2)then(ix W J).bind λa0=>(W[a0]?).bind λa3=>(idx a2.1 (j6.wrap ((j6.wrap ((j6.wrap (J*p2))+h)).tdiv 8))).bind λa1=>(chk (decide (0<=((j6.wrap ((j6.wrap (J*p2))+h)).tmod 8)))).bind λa4=>(chk (decide (0<=h))).bind λa6=>(ix W J).bind λZ=>(W[Z]?).bind λa5=>some (.inl (j6.wrap (h+1),(W.set Z (bOr .u64 a3 (en .u64 (Z0.wrap (d4 .u8 (aV .u8 a1 ((j6.wrap ((j6.wrap (J*p2))+h)).tmod 8)) 1)) h)))))else(mZ J W).map Sum.inr
def gr (p2:Int)(h:List Int×ai)(Z:List Int)(J:Int)(W:List Int):Option ((Int×List Int)⊕(List Int×ai)):=if decide (J<(Z.length:Int))then am (λs:(Int×List Int)=>jp p2 h J s.1 s.2) (0,W)else(mY h W).map Sum.inr
def fG (p0:ai)(p1:Int)(p2:Int):Option (List Int×ai):=if decide (64<p2)then(mk 35184372088832 p1 0).bind λW=>some (W,{p0 with fOk:=false})else(cY p0 (j6.wrap ((j6.wrap ((j6.wrap (p1*p2))+7)).tdiv 8))).bind λJ=>(mk 35184372088832 p1 0).bind λh=>am (λs:(Int×List Int)=>gr p2 J h s.1 s.2) (0,h)
def cd (x6:List Ap)(h:ai):Option (List Ap×ai):=some (x6,h)
def kL (J:List Ap)(W:ai)(a0:Bool):Option ((List Ap×ai)⊕(List Ap×ai)):=if a0 then(dN W).bind λh=>(app 3518437208883 J ([h.1])).bind λZ=>some (.inl (Z,h.2))else(cd J W).map Sum.inr
def pd (p2:Int)(J:List Ap)(h:ai):Option ((List Ap×ai)⊕(List Ap×ai)):=if decide ((J.length:Int)<p2)then kL J h h.fOk else kL J h false
def kM (p2:Int)(h:List Ap)(a0:ai)(x82:Bool):Option ((List Ap×ai)⊕(List Ap×ai)):=if x82 then(cY a0 1).bind λW=>(idx W.1 0).bind λJ=>(dN W.2).bind λZ=>(fy ([Z.1]) (if (j6.wrap (p2-(h.length:Int)))<(j6.wrap J)then j6.wrap (p2-(h.length:Int))else j6.wrap J)).bind λa2=>(app 3518437208883 h a2).bind λa1=>some (.inl (a1,Z.2))else(cd h a0).map Sum.inr
def pf (p2:Int)(J:List Ap)(h:ai):Option ((List Ap×ai)⊕(List Ap×ai)):=if decide ((J.length:Int)<p2)then kM p2 J h h.fOk else kM p2 J h false
def kN (W:List Ap)(Z:Int)(J:ai)(a2:Bool):Option ((List Ap×Int×ai)⊕(List Ap×ai)):=if a2 then(fz J).bind λh=>(eU (j6.wrap (Z+(d7 .i64 (j6.wrap (aV .u64 h.1 1)) (j6.wrap (0-(j6.wrap (d4 .u64 h.1 1)))))))).bind λa1=>(app 3518437208883 W ([a1])).bind λa0=>some (.inl (a0,j6.wrap (Z+(d7 .i64 (j6.wrap (aV .u64 h.1 1)) (j6.wrap (0-(j6.wrap (d4 .u64 h.1 1)))))),h.2))else(cd W J).map Sum.inr
def pg (p2:Int)(h:List Ap)(W:Int)(J:ai):Option ((List Ap×Int×ai)⊕(List Ap×ai)):=if decide ((h.length:Int)<p2)then kN h W J J.fOk else kN h W J false
def kO (Z:List Ap)(h:List Int×ai)(a0:List Ap)(J:Int):Option ((List Ap×Int)⊕(List Ap×ai)):=if decide (J<(h.1.length:Int))then(idx h.1 J).bind λW=>if decide ((Z0.wrap (Z.length:Int))<=W)then(some ([],h.2)).map Sum.inr else(idx Z W).bind λa1=>(app 3518437208883 a0 ([a1])).bind λa2=>some (.inl (a2,j6.wrap (J+1)))else(cd a0 h.2).map Sum.inr
def ph (p2:Int)(h:List Ap)(W:ai):Option (List Ap×ai):=(t7 (Z0.wrap (j6.wrap ((if (h.length:Int)<1 then 1 else (h.length:Int))-1)))).bind λZ=>(fG W p2 Z).bind λJ=>am (λs:(List Ap×Int)=>kO h J s.1 s.2) ([],0)
def pi (p2:Int)(a1:Int)(J:List Ap)(W:Int)(Z:ai):Option ((List Ap×Int×ai)⊕(List Ap×ai)):=if decide (W<a1)then(dN Z).bind λh=>(app 3518437208883 J ([h.1])).bind λa0=>some (.inl (a0,Z6.wrap (W+1),h.2))else(ph p2 J Z).map Sum.inr
def pj (a2:Int×ai)(h:List Int×ai)(W:List Ap)(J:Int):Option ((List Ap×Int)⊕(List Ap×ai)):=if decide (J<(h.1.length:Int))then(idx h.1 J).bind λa1=>(eU (j6.wrap (Z0.wrap (a2.1+a1)))).bind λa0=>(app 3518437208883 W ([a0])).bind λZ=>some (.inl (Z,j6.wrap (J+1)))else(cd W h.2).map Sum.inr
def bR (p0:ai)(p1:Int)(p2:Int):Option (List Ap×ai):=if p1==0 then am (λs:(List Ap×ai)=>pd p2 s.1 s.2) ([],p0)else if p1==1 then am (λs:(List Ap×ai)=>pf p2 s.1 s.2) ([],p0)else if p1==2 then(gG p0).bind λh=>(eU (j6.wrap h.1)).bind λa4=>(app 3518437208883 ([]) ([a4])).bind λa0=>am (λs:(List Ap×Int×ai)=>pg p2 s.1 s.2.1 s.2.2) (a0,j6.wrap h.1,h.2)else if p1==3 then(cY p0 1).bind λJ=>(idx J.1 0).bind λa2=>am (λs:(List Ap×Int×ai)=>pi p2 a2 s.1 s.2.1 s.2.2) ([],0,J.2)else(gG p0).bind λZ=>(cY Z.2 1).bind λW=>(idx W.1 0).bind λa3=>(fG W.2 p2 (j6.wrap a3)).bind λa1=>am (λs:(List Ap×Int)=>pj Z a1 s.1 s.2) ([],0)
def jI (h:List Ap)(J:Bool):Option (List Ap×Int):=if J then some ([],60)else some (h,0)
def lN (p0:Int)(p1:List Int)(p2:Int)(h:List Ap)(Z:ai):Option (List Ap×Int):=(fO p0 h).bind λJ=>if !Z.fOk then jI h true else if J.2!=0 then jI h true else if (h.length:Int)!=p2 then jI h true else(gP J.1 p1).bind λW=>jI h (!W)
def lO (p0:Int)(p1:List Int)(p2:Int)(J:Bool):Option (List Ap×Int):=if J then some ([],61)else if decide (0<p2)then(bR (⟨p1,true⟩:ai) p0 p2).bind λh=>lN p0 p1 p2 h.1 h.2else lN p0 p1 p2 ([]) (⟨p1,true⟩:ai)
def lP (p0:Int)(p1:List Int)(p2:Int)(h:Bool):Option (List Ap×Int):=if h then some ([],62)else if decide (p2<0)then lO p0 p1 p2 true else lO p0 p1 p2 (decide (64<p2))
def pL (p0:Int)(p1:List Int)(p2:Int):Option (List Ap×Int):=if decide (p0<0)then lP p0 p1 p2 true else lP p0 p1 p2 (decide (4<p0))
def pM (h:bw×List Int×Bool)(W:List Ap×Int)(J:Bool):Option (List Ap×Int×Int):=if J then some ([],0,70)else some (W.1,h.1.fBytes,0)
def iJ (p0:List Int):Option (List Ap×Int×Int):=(jo p0).bind λh=>if !h.2.2 then some ([],0,70)else(sub p0 0 (j6.wrap (h.1.fBytes-4))).bind λa3=>(ji a3).bind λa0=>(lm a0).bind λZ=>(sub p0 0 h.1.fBytes).bind λa1=>(gP Z a1).bind λa2=>if !a2 then some ([],0,71)else(pL h.1.fKind h.2.1 h.1.fMany).bind λJ=>if J.2!=0 then some ([],0,70)else(lK h.1.fKind J.1).bind λW=>if W.fNulls !=h.1.fNulls then pM h J true else if !decide (W.fMin=h.1.fMin)then pM h J true else pM h J (!decide (W.fMax=h.1.fMax))
def Ee:Option Bool:=some true
def sU (p0:List Ap)(p1:List Ap)(h:Int):Option (Int⊕Bool):=if decide (h<(p0.length:Int))then(idx p0 h).bind λJ=>(idx p1 h).bind λW=>if !decide (J=W)then(some false).map Sum.inr else some (.inl (j6.wrap (h+1)))else(Ee).map Sum.inr
def ou (p0:List Ap)(p1:List Ap):Option Bool:=if (p0.length:Int)!=(p1.length:Int)then some false else am (λs:Int=>sU p0 p1 s) 0
def BW (x6:Int):Option Int:=some x6
def xv (p0:List Int)(J:Int)(h:Int):Option ((Int×Int)⊕Int):=if decide (h<(p0.length:Int))then(idx p0 h).bind λW=>some (.inl (Z0.wrap ((Z0.wrap (J*256))+(Z0.wrap W)),j6.wrap (h+1)))else(BW J).map Sum.inr
def it (p0:List Int):Option Int:=am (λs:(Int×Int)=>xv p0 s.1 s.2) (0,0)
def mF (p0:List Int)(W:Bool):Option (Ap×Int):=if W then(idx p0 1).bind λh=>(sub p0 2 (j6.wrap (2+(j6.wrap h)))).bind λJ=>some ((⟨3,false,0,J⟩:Ap),j6.wrap (2+(j6.wrap h)))else some ((⟨0,false,0,[]⟩:Ap),0)
def mG (p0:List Int)(h:Bool):Option (Ap×Int):=if h then(sub p0 1 9).bind λJ=>(it J).bind λa0=>some ((⟨2,false,j6.wrap a0,[]⟩:Ap),9)else if decide (1<(p0.length:Int))then(idx p0 0).bind λW=>if W==3 then(idx p0 1).bind λZ=>if decide (Z<=64)then(idx p0 1).bind λa1=>mF p0 (decide ((j6.wrap (2+(j6.wrap a1)))<=(p0.length:Int)))else mF p0 false else mF p0 false else mF p0 false
def jx (p0:List Int)(W:Bool):Option (Ap×Int):=if W then(idx p0 1).bind λh=>some ((⟨1,h==1,0,[]⟩:Ap),2)else if decide (8<(p0.length:Int))then(idx p0 0).bind λJ=>mG p0 (J==2)else mG p0 false
def pk (p0:List Int)(x6:Bool):Option (Ap×Int):=if x6 then some ((⟨0,false,0,[]⟩:Ap),1)else if decide (1<(p0.length:Int))then(idx p0 0).bind λh=>if h==1 then(idx p0 1).bind λJ=>jx p0 (decide (J<2))else jx p0 false else jx p0 false
def nC (p0:List Int):Option (Ap×Int):=if decide (0<(p0.length:Int))then(idx p0 0).bind λh=>pk p0 (h==0)else pk p0 false
def tn (p0:List Int)(a0:Int)(Z:Int)(a1:Int)(h:Ap×Int)(J:Ap×Int)(a2:Bool):Option (bY×Int×Int):=if a2 then some ((⟨0,0,Ap.zero,Ap.zero,0,0⟩:bY),0,70)else(sub p0 (j6.wrap ((j6.wrap (3+h.2))+J.2)) (j6.wrap ((j6.wrap ((j6.wrap (3+h.2))+J.2))+2))).bind λa3=>(it a3).bind λW=>if decide ((p0.length:Int)<(({{{(⟨j6.wrap a0,j6.wrap Z,Ap.zero,Ap.zero,j6.wrap a1,0⟩:bY)with fMin:=h.1}with fMax:=J.1}with fBytes:=j6.wrap ((j6.wrap ((j6.wrap ((j6.wrap ((j6.wrap (3+h.2))+J.2))+2))+(j6.wrap W)))+4)}).fBytes))then some ((⟨0,0,Ap.zero,Ap.zero,0,0⟩:bY),0,70)else some ({{{(⟨j6.wrap a0,j6.wrap Z,Ap.zero,Ap.zero,j6.wrap a1,0⟩:bY)with fMin:=h.1}with fMax:=J.1}with fBytes:=j6.wrap ((j6.wrap ((j6.wrap ((j6.wrap ((j6.wrap (3+h.2))+J.2))+2))+(j6.wrap W)))+4)},j6.wrap ((j6.wrap ((j6.wrap (3+h.2))+J.2))+2),0)
def kr (p0:List Int)(x7:Bool):Option (bY×Int×Int):=if x7 then some ((⟨0,0,Ap.zero,Ap.zero,0,0⟩:bY),0,70)else(idx p0 0).bind λZ=>(idx p0 1).bind λW=>(idx p0 2).bind λa0=>(sub p0 3 p0.length).bind λa2=>(nC a2).bind λh=>if h.2==0 then some ((⟨0,0,Ap.zero,Ap.zero,0,0⟩:bY),0,70)else(sub p0 (j6.wrap (3+h.2)) p0.length).bind λa1=>(nC a1).bind λJ=>if J.2==0 then tn p0 Z W a0 h J true else tn p0 Z W a0 h J (decide ((p0.length:Int)<(j6.wrap ((j6.wrap ((j6.wrap (3+h.2))+J.2))+2))))
def rK (p0:List Int):Option (bY×Int×Int):=if decide ((p0.length:Int)<3)then kr p0 true else(idx p0 0).bind λJ=>if decide (4<J)then kr p0 true else(idx p0 1).bind λZ=>if Z==0 then kr p0 true else(idx p0 1).bind λa0=>if decide (64<a0)then kr p0 true else(idx p0 2).bind λh=>(idx p0 1).bind λW=>kr p0 (decide (W<h))
def AM (h:List Ap):Option (List Ap):=some h
def AN (p0:List Int)(p1:Int)(Z:List Ap)(W:Int)(J:Int):Option ((List Ap×Int×Int)⊕List Ap):=if decide (J<p1)then(sub p0 W p0.length).bind λa0=>(nC a0).bind λh=>if h.2==0 then(some ([])).map Sum.inr else(app 3518437208883 Z ([h.1])).bind λa1=>some (.inl (a1,j6.wrap (W+h.2),j6.wrap (J+1)))else(AM Z).map Sum.inr
def xw (p0:List Int)(p1:Int):Option (List Ap):=am (λs:(List Ap×Int×Int)=>AN p0 p1 s.1 s.2.1 s.2.2) ([],0,0)
def BX (x6:List Ap):Option (List Ap):=some x6
def BY (W:Int)(h:Ap×Int)(J:List Ap):Option ((List Ap×Int)⊕List Ap):=some (.inl (J,j6.wrap ((j6.wrap (W+1))+h.2)))
def tp (p0:List Int)(J:Int)(W:Ap×Int)(h:List Ap)(Z:Int):Option ((List Ap×Int)⊕((List Ap×Int)⊕List Ap)):=(idx p0 J).bind λa0=>if decide (Z<(j6.wrap a0))then(app 3518437208883 h ([W.1])).bind λa1=>some (.inl (a1,j6.wrap (Z+1)))else(BY J W h).map Sum.inr
def xy (p0:List Int)(W:List Ap)(h:Int)(a0:Bool):Option ((List Ap×Int)⊕List Ap):=if a0 then(sub p0 (j6.wrap (h+1)) p0.length).bind λZ=>(nC Z).bind λJ=>if J.2==0 then(some ([])).map Sum.inr else am (λs:(List Ap×Int)=>tp p0 h J s.1 s.2) (W,0)else(BX W).map Sum.inr
def BZ (p0:List Int)(p1:Int)(h:List Ap)(J:Int):Option ((List Ap×Int)⊕List Ap):=if decide (J<(p0.length:Int))then xy p0 h J (decide ((h.length:Int)<p1))else xy p0 h J false
def Ae (p0:List Int)(p1:Int):Option (List Ap):=am (λs:(List Ap×Int)=>BZ p0 p1 s.1 s.2) ([],0)
def y6 (h:List Ap):Option (List Ap):=some h
def qR (W:Int)(h:Int)(J:List Ap)(Z:Int)(a0:Int):Option ((Int×List Ap×Int×Int×Int)⊕List Ap):=some (.inl (h,J,Z,a0,j6.wrap (W+1)))
def lr (x44:List Ap)(W:Int)(h:Int):Option ((Int×List Ap×Int×Int×Int)⊕List Ap):=(app 3518437208883 x44 ([(⟨2,false,h,[]⟩:Ap)])).bind λJ=>qR W h J 0 0
def uo (p0:List Int)(a0:Int)(x44:List Ap)(W:Int)(h:Int)(J:Int)(a1:Bool):Option ((Int×List Ap×Int×Int×Int)⊕List Ap):=if a1 then(idx p0 J).bind λZ=>(chk (decide (0<=h))).bind λa3=>(idx p0 J).bind λa2=>if decide (128<=a2)then qR J a0 x44 (Z0.wrap (W+(en .u64 (Z0.wrap (Z.tmod 128)) h))) (j6.wrap (h+7))else if ((Z0.wrap (W+(en .u64 (Z0.wrap (Z.tmod 128)) h))).tmod 2)==0 then lr x44 J (j6.wrap (a0+(j6.wrap (Z0.wrap ((Z0.wrap (W+(en .u64 (Z0.wrap (Z.tmod 128)) h))).tdiv 2)))))else lr x44 J (j6.wrap ((j6.wrap (a0-(j6.wrap (Z0.wrap ((Z0.wrap (W+(en .u64 (Z0.wrap (Z.tmod 128)) h))).tdiv 2)))))-1))else(y6 x44).map Sum.inr
def y7 (p0:List Int)(p1:Int)(Z:Int)(x44:List Ap)(J:Int)(W:Int)(h:Int):Option ((Int×List Ap×Int×Int×Int)⊕List Ap):=if decide (h<(p0.length:Int))then uo p0 Z x44 J W h (decide ((x44.length:Int)<p1))else uo p0 Z x44 J W h false
def u3 (p0:List Int)(p1:Int):Option (List Ap):=if decide ((p0.length:Int)<8)then some ([])else(sub p0 0 8).bind λJ=>(it J).bind λh=>am (λs:(Int×List Ap×Int×Int×Int)=>y7 p0 p1 s.1 s.2.1 s.2.2.1 s.2.2.2.1 s.2.2.2.2) (j6.wrap h,[(⟨2,false,j6.wrap h,[]⟩:Ap)],0,0,8)
def wA (h:Int):Option Int:=some h
def rL (p0:List Int)(p1:Int)(p2:Int)(J:Int)(h:Int):Option ((Int×Int)⊕Int):=if decide (0<=h)then(idx p0 (j6.wrap ((j6.wrap ((j6.wrap (p2*p1))+h)).tdiv 8))).bind λW=>(chk (decide (0<=((j6.wrap ((j6.wrap (p2*p1))+h)).tmod 8)))).bind λZ=>some (.inl (Z0.wrap ((Z0.wrap (J*2))+(Z0.wrap ((aV .u8 W ((j6.wrap ((j6.wrap (p2*p1))+h)).tmod 8)).tmod 2))),j6.wrap (h-1)))else(wA J).map Sum.inr
def pn (p0:List Int)(p1:Int)(p2:Int):Option Int:=am (λs:(Int×Int)=>rL p0 p1 p2 s.1 s.2) (0,j6.wrap (p1-1))
def AO (h:List Ap):Option (List Ap):=some h
def vN (p0:List Int)(p1:Int)(W:List Ap)(a1:Int)(a3:Int)(Z:List Ap)(h:Int):Option ((List Ap×Int)⊕List Ap):=if decide (h<p1)then(sub p0 a1 p0.length).bind λa2=>(pn a2 a3 h).bind λJ=>if decide ((Z0.wrap (W.length:Int))<=J)then(some ([])).map Sum.inr else(idx W J).bind λa4=>(app 3518437208883 Z ([a4])).bind λa0=>some (.inl (a0,j6.wrap (h+1)))else(AO Z).map Sum.inr
def AP (p0:List Int)(p1:Int)(h:List Ap)(W:Int):Option (List Ap):=if (h.length:Int)==0 then some ([])else(rG (Z0.wrap (j6.wrap ((h.length:Int)-1)))).bind λJ=>if (p0.length:Int)!=(j6.wrap (W+(j6.wrap ((j6.wrap ((j6.wrap (p1*J))+7)).tdiv 8))))then some ([])else am (λs:(List Ap×Int)=>vN p0 p1 h W J s.1 s.2) ([],0)
def AQ (p0:List Int)(p1:Int)(Z:List Ap)(J:Int)(W:Int):Option ((List Ap×Int×Int)⊕List Ap):=(idx p0 0).bind λa1=>if decide (W<(j6.wrap a1))then(sub p0 J p0.length).bind λa2=>(nC a2).bind λh=>if h.2==0 then(some ([])).map Sum.inr else(app 3518437208883 Z ([h.1])).bind λa0=>some (.inl (a0,j6.wrap (J+h.2),j6.wrap (W+1)))else(AP p0 p1 Z J).map Sum.inr
def xz (p0:List Int)(p1:Int):Option (List Ap):=if (p0.length:Int)==0 then some ([])else am (λs:(List Ap×Int×Int)=>AQ p0 p1 s.1 s.2.1 s.2.2) ([],1,0)
def y8 (h:List Ap):Option (List Ap):=some h
def y9 (p0:List Int)(p1:Int)(Z:Int)(h:List Ap)(x36:Int):Option ((List Ap×Int)⊕List Ap):=if decide (x36<p1)then(sub p0 9 p0.length).bind λx44=>(idx p0 8).bind λa0=>(pn x44 (j6.wrap a0) x36).bind λW=>(app 3518437208883 h ([(⟨2,false,j6.wrap (Z0.wrap (Z+W)),[]⟩:Ap)])).bind λJ=>some (.inl (J,j6.wrap (x36+1)))else(y8 h).map Sum.inr
def nD (p0:List Int)(p1:Int)(h:Bool):Option (List Ap):=if h then some ([])else(sub p0 0 8).bind λJ=>(it J).bind λW=>am (λs:(List Ap×Int)=>y9 p0 p1 W s.1 s.2) ([],0)
def u4 (p0:List Int)(p1:Int):Option (List Ap):=if decide ((p0.length:Int)<9)then nD p0 p1 true else(idx p0 8).bind λJ=>if decide (64<J)then nD p0 p1 true else(idx p0 8).bind λh=>nD p0 p1 ((p0.length:Int)!=(j6.wrap (9+(j6.wrap ((j6.wrap ((j6.wrap (p1*(j6.wrap h)))+7)).tdiv 8)))))
def qS (h:List Ap)(J:Bool):Option (List Ap×Int):=if J then some ([],60)else some (h,0)
def gH (p0:Int)(p1:List Int)(p2:Int)(h:List Ap):Option (List Ap×Int):=(uY p0 h).bind λJ=>if J.2!=0 then qS h true else if (h.length:Int)!=p2 then qS h true else qS h (!decide (J.1=p1))
def qU (p0:Int)(p1:List Int)(p2:Int)(Z:Bool):Option (List Ap×Int):=if Z then some ([],61)else if decide (0<p2)then if p0==0 then(xw p1 p2).bind λa0=>gH p0 p1 p2 a0 else if p0==1 then(Ae p1 p2).bind λa1=>gH p0 p1 p2 a1 else if p0==2 then(u3 p1 p2).bind λJ=>gH p0 p1 p2 J else if p0==3 then(xz p1 p2).bind λW=>gH p0 p1 p2 W else(u4 p1 p2).bind λh=>gH p0 p1 p2 h else gH p0 p1 p2 ([])
def qV (p0:Int)(p1:List Int)(p2:Int)(h:Bool):Option (List Ap×Int):=if h then some ([],62)else if decide (p2<0)then qU p0 p1 p2 true else qU p0 p1 p2 (decide (64<p2))
def u5 (p0:Int)(p1:List Int)(p2:Int):Option (List Ap×Int):=if decide (p0<0)then qV p0 p1 p2 true else qV p0 p1 p2 (decide (4<p0))
def rM (p0:List Int):Option (List Ap×Int×Int):=(rK p0).bind λh=>if h.2.2!=0 then some ([],0,h.2.2)else(sub p0 (j6.wrap (h.1.fBytes-4)) h.1.fBytes).bind λx44=>(it x44).bind λa1=>(sub p0 0 (j6.wrap (h.1.fBytes-4))).bind λZ=>(ww Z).bind λa0=>if a1 !=(Z0.wrap a0)then some ([],0,71)else(sub p0 h.2.1 (j6.wrap (h.1.fBytes-4))).bind λW=>(u5 h.1.fKind W h.1.fMany).bind λJ=>if J.2!=0 then some ([],0,70)else(xt h.1.fKind J.1).bind λr233=>if !decide ({r233 with fBytes:=h.1.fBytes}=h.1)then some ([],0,70)else some (J.1,h.1.fBytes,0)
def kP (p0:aa):Option aa:=(d5 p0.fRow).bind λh=>some ({p0 with fRow:=h})
def CZ (h:List Ap):Option (List Ap):=some h
def ov (J:List Ap)(Z:Int)(h:Ap):Option ((List Ap×Int)⊕List Ap):=(app 3518437208883 J ([h])).bind λW=>some (.inl (W,j6.wrap (Z+1)))
def ox (p1:List Ap)(h:List Ap)(J:Int)(a0:Int)(W:Ap)(x46:Bool):Option ((List Ap×Int)⊕List Ap):=if x46 then(idx p1 a0).bind λZ=>ov h J Z else ov h J W
def rN (p0:List Int)(p1:List Ap)(W:List Ap)(J:Int):Option ((List Ap×Int)⊕List Ap):=if decide (J<(p0.length:Int))then(idx p0 J).bind λh=>(lI).bind λZ=>if decide (0<=h)then ox p1 W J h Z (decide (h<(p1.length:Int)))else ox p1 W J h Z false else(CZ W).map Sum.inr
def kQ (p0:List Int)(p1:List Ap):Option (List Ap):=am (λs:(List Ap×Int)=>rN p0 p1 s.1 s.2) ([],0)
def yg (p0:List Ap)(p1:List Ap):Option Int:=(iZ (p0.length:Int) (p1.length:Int)).bind λh=>some h
def yh (p0:List Ap)(p1:List Ap)(h:Int):Option (Int⊕Int):=if decide (h<(if (p1.length:Int)<(p0.length:Int)then (p1.length:Int)else (p0.length:Int)))then(idx p0 h).bind λW=>(idx p1 h).bind λZ=>(cy W Z).bind λJ=>if J !=0 then(some J).map Sum.inr else some (.inl (j6.wrap (h+1)))else(yg p0 p1).map Sum.inr
def oy (p0:List Ap)(p1:List Ap):Option Int:=am (λs:Int=>yh p0 p1 s) 0
def lQ (p0:Int):Option Bool:=some (p0 !=p0)
def kt (p0:Int)(p1:Int):Option Int:=(lQ p0).bind λJ=>(lQ p1).bind λh=>if J then if h then some 0 else some (-1)else if h then some 1 else if decide (p0<p1)then some (-1)else if decide (p1<p0)then some 1 else some 0
def lR (p0:Int):Option Bool:=some (p0 !=p0)
def ku (p0:Int)(p1:Int):Option Int:=(lR p0).bind λJ=>(lR p1).bind λh=>if J then if h then some 0 else some (-1)else if h then some 1 else if decide (p0<p1)then some (-1)else if decide (p1<p0)then some 1 else some 0
def Ef:Option Int:=some 0
def gW (p0:List Int)(h:Int):Option (Int⊕Int):=if decide (h<(p0.length:Int))then(idx p0 h).bind λJ=>if J !=0 then(some J).map Sum.inr else some (.inl (j6.wrap (h+1)))else(Ef).map Sum.inr
def oz (p0:List Int):Option Int:=am (λs:Int=>gW p0 s) 0
def mg (p0:aO)(p1:aO):Option Int:=(kt p0.fEpoch p1.fEpoch).bind λW=>(ku p0.fNumber p1.fNumber).bind λJ=>(oz ([W,J])).bind λh=>some h
def eV (p0:aa)(p1:aa)(p2:List Int):Option Int:=(kQ p2 p0.fRow).bind λZ=>(kQ p2 p1.fRow).bind λh=>(oy Z h).bind λr24=>(mg p0.fId p1.fId).bind λJ=>(oz ([r24,J])).bind λW=>some W
def eI (x6:Int)(h:List aa):Option ((Int×List aa)⊕List aa):=some (.inl (j6.wrap (x6+1),h))
def bD (x6:Int)(J:Int)(h:List aa)(a3:Bool):Option ((Int×List aa)⊕((Int×List aa)⊕List aa)):=if a3 then(ix h (j6.wrap (J-1))).bind λa2=>(h[a2]?).bind λZ=>(ix h J).bind λa4=>(h[a4]?).bind λa1=>(ix h J).bind λW=>(h[W]?).bind λa6=>(ix (h.set W Z) (j6.wrap (J-1))).bind λa0=>((h.set W Z)[a0]?).bind λa5=>some (.inl (j6.wrap (J-1),((h.set W Z).set a0 a1)))else(eI x6 h).map Sum.inr
def bE (p1:Int)(Z:(aa->aa->Option Int))(x6:Int)(J:Int)(h:List aa):Option ((Int×List aa)⊕((Int×List aa)⊕List aa)):=if decide (p1<J)then(ix h J).bind λa0=>(h[a0]?).bind λa2=>(ix h (j6.wrap (J-1))).bind λa3=>(h[a3]?).bind λa1=>(Z a2 a1).bind λW=>bD x6 J h (decide (W<0))else bD x6 J h false
def bS (p1:Int)(p2:Int)(J:(aa->aa->Option Int))(x6:Int)(h:List aa):Option ((Int×List aa)⊕List aa):=if decide (x6<p2)then am (λs:(Int×List aa)=>bE p1 J x6 s.1 s.2) (x6,h)else(some h).map Sum.inr
def cP (p0:List aa)(p1:Int)(p2:Int)(h:(aa->aa->Option Int)):Option (List aa):=am (λs:(Int×List aa)=>bS p1 p2 h s.1 s.2) (j6.wrap (p1+1),p0)
def cf (p1:Int)(p2:Int)(p3:Int)(h:Int)(x6:List aa):Option ((Int×List aa)⊕List aa):=if decide (h<p3)then(ix x6 (j6.wrap (p2+h))).bind λa2=>(x6[a2]?).bind λW=>(ix x6 (j6.wrap (p1+h))).bind λa0=>(x6[a0]?).bind λa1=>(ix x6 (j6.wrap (p1+h))).bind λJ=>(x6[J]?).bind λa3=>(ix (x6.set J W) (j6.wrap (p2+h))).bind λZ=>((x6.set J W)[Z]?).bind λa4=>some (.inl (j6.wrap (h+1),((x6.set J W).set Z a1)))else(some x6).map Sum.inr
def cD (p0:List aa)(p1:Int)(p2:Int)(h:Int)(J:(aa->aa->Option Int)):Option (List aa):=am (λs:(Int×List aa)=>cf p1 p2 h s.1 s.2) (0,p0)
def jS (p2:Int)(J:(aa->aa->Option Int))(h:Int)(W:List aa):Option (List aa):=(cD W (j6.wrap (p2-h)) p2 h J).bind λr24=>some r24
def bZ (p2:Int)(W:(aa->aa->Option Int))(h:Int)(x35:Int)(J:List aa):Option ((Int×Int×List aa)⊕List aa):=if h !=x35 then if decide (x35<h)then(cD J (j6.wrap (p2-h)) p2 x35 W).bind λZ=>some (.inl (j6.wrap (h-x35),x35,Z))else(cD J (j6.wrap (p2-h)) (j6.wrap ((j6.wrap (p2+x35))-h)) h W).bind λa0=>some (.inl (h,j6.wrap (x35-h),a0))else(jS p2 W h J).map Sum.inr
def da (p0:List aa)(p1:Int)(p2:Int)(J:Int)(h:(aa->aa->Option Int)):Option (List aa):=am (λs:(Int×Int×List aa)=>bZ p2 h s.1 s.2.1 s.2.2) (j6.wrap (p2-p1),j6.wrap (J-p2),p0)
def jy (h:List aa):Option (List aa):=some h
def cj (a1:Int)(J:Int)(h:List aa):Option ((Int×List aa)⊕List aa):=if decide (J<(j6.wrap (a1-1)))then(ix h (j6.wrap (J+1))).bind λa3=>(h[a3]?).bind λZ=>(ix h J).bind λa2=>(h[a2]?).bind λa4=>(ix h J).bind λW=>(h[W]?).bind λa5=>(ix (h.set W Z) (j6.wrap (J+1))).bind λa0=>((h.set W Z)[a0]?).bind λa6=>some (.inl (j6.wrap (J+1),((h.set W Z).set a0 a4)))else(jy h).map Sum.inr
def fH (p0:List aa)(p1:Int)(h:Int):Option (List aa):=am (λs:(Int×List aa)=>cj h s.1 s.2) (p1,p0)
def cZ (p0:List aa)(p1:Int)(Z:(aa->aa->Option Int))(h:Int)(x144:Int):Option ((Int×Int)⊕List aa):=if decide (h<x144)then(ix p0 (j6.wrap (aV .u64 (Z0.wrap (j6.wrap (h+x144))) 1))).bind λa1=>(p0[a1]?).bind λW=>(ix p0 p1).bind λJ=>(p0[J]?).bind λa0=>(Z W a0).bind λa2=>if decide (a2<0)then some (.inl (j6.wrap ((j6.wrap (aV .u64 (Z0.wrap (j6.wrap (h+x144))) 1))+1),x144))else some (.inl (h,j6.wrap (aV .u64 (Z0.wrap (j6.wrap (h+x144))) 1)))else(fH p0 p1 h).map Sum.inr
def jz (h:List aa):Option (List aa):=some h
def cl (a4:Int)(J:Int)(h:List aa):Option ((Int×List aa)⊕List aa):=if decide (a4<J)then(ix h (j6.wrap (J-1))).bind λa2=>(h[a2]?).bind λZ=>(ix h J).bind λa1=>(h[a1]?).bind λa3=>(ix h J).bind λW=>(h[W]?).bind λa5=>(ix (h.set W Z) (j6.wrap (J-1))).bind λa0=>((h.set W Z)[a0]?).bind λa6=>some (.inl (j6.wrap (J-1),((h.set W Z).set a0 a3)))else(jz h).map Sum.inr
def fI (p0:List aa)(p2:Int)(h:Int):Option (List aa):=am (λs:(Int×List aa)=>cl h s.1 s.2) (p2,p0)
def c8 (p0:List aa)(p2:Int)(Z:(aa->aa->Option Int))(h:Int)(J:Int):Option ((Int×Int)⊕List aa):=if decide (h<J)then(ix p0 p2).bind λa1=>(p0[a1]?).bind λW=>(ix p0 (j6.wrap (aV .u64 (Z0.wrap (j6.wrap (h+J))) 1))).bind λa0=>(p0[a0]?).bind λa2=>(Z W a2).bind λa3=>if !(decide (a3<0))then some (.inl (j6.wrap ((j6.wrap (aV .u64 (Z0.wrap (j6.wrap (h+J))) 1))+1),J))else some (.inl (h,j6.wrap (aV .u64 (Z0.wrap (j6.wrap (h+J))) 1)))else(fI p0 p2 h).map Sum.inr
def fo (p1:Int)(p2:Int)(h:Int)(p4:(aa->aa->Option Int))(a1:((List aa)->Int->Int->Int->(aa->aa->Option Int)->Option (List aa)))(W:Int)(J:List aa)(a0:Bool):Option (List aa):=if a0 then(a1 J (j6.wrap (aV .u64 (Z0.wrap (j6.wrap (p1+h))) 1)) (j6.wrap ((j6.wrap ((j6.wrap (aV .u64 (Z0.wrap (j6.wrap (p1+h))) 1))+p2))-W)) h p4).bind λZ=>some Z else some J
def dP (p1:Int)(p2:Int)(h:Int)(Z:(aa->aa->Option Int))(a0:((List aa)->Int->Int->Int->(aa->aa->Option Int)->Option (List aa)))(J:Int)(W:List aa):Option (List aa):=if decide ((j6.wrap (aV .u64 (Z0.wrap (j6.wrap (p1+h))) 1))<(j6.wrap ((j6.wrap ((j6.wrap (aV .u64 (Z0.wrap (j6.wrap (p1+h))) 1))+p2))-J)))then fo p1 p2 h Z a0 J W (decide ((j6.wrap ((j6.wrap ((j6.wrap (aV .u64 (Z0.wrap (j6.wrap (p1+h))) 1))+p2))-J))<h))else fo p1 p2 h Z a0 J W false
def fJ (p1:Int)(p2:Int)(W:Int)(J:(aa->aa->Option Int))(Z:((List aa)->Int->Int->Int->(aa->aa->Option Int)->Option (List aa)))(h:Int)(a0:List aa)(a1:Bool):Option (List aa):=if a1 then(Z a0 p1 h (j6.wrap (aV .u64 (Z0.wrap (j6.wrap (p1+W))) 1)) J).bind λa2=>dP p1 p2 W J Z h a2 else dP p1 p2 W J Z h a0
def dW (p1:Int)(p2:Int)(J:Int)(W:(aa->aa->Option Int))(a0:((List aa)->Int->Int->Int->(aa->aa->Option Int)->Option (List aa)))(h:Int)(Z:List aa):Option (List aa):=if decide (p1<h)then fJ p1 p2 J W a0 h Z (decide (h<(j6.wrap (aV .u64 (Z0.wrap (j6.wrap (p1+J))) 1))))else fJ p1 p2 J W a0 h Z false
def fM (p0:List aa)(p1:Int)(p2:Int)(W:Int)(J:(aa->aa->Option Int))(Z:((List aa)->Int->Int->Int->(aa->aa->Option Int)->Option (List aa)))(h:Int)(a0:Bool):Option (List aa):=if a0 then(da p0 h p2 (j6.wrap ((j6.wrap ((j6.wrap (aV .u64 (Z0.wrap (j6.wrap (p1+W))) 1))+p2))-h)) J).bind λa1=>dW p1 p2 W J Z h a1 else dW p1 p2 W J Z h p0
def dX (p0:List aa)(p1:Int)(p2:Int)(J:Int)(W:(aa->aa->Option Int))(Z:((List aa)->Int->Int->Int->(aa->aa->Option Int)->Option (List aa)))(h:Int):Option (List aa):=if decide (h<p2)then fM p0 p1 p2 J W Z h (decide (p2<(j6.wrap ((j6.wrap ((j6.wrap (aV .u64 (Z0.wrap (j6.wrap (p1+J))) 1))+p2))-h))))else fM p0 p1 p2 J W Z h false
def dY (p0:List aa)(p1:Int)(p2:Int)(Z:Int)(W:(aa->aa->Option Int))(a5:((List aa)->Int->Int->Int->(aa->aa->Option Int)->Option (List aa)))(h:Int)(J:Int):Option ((Int×Int)⊕List aa):=if decide (h<J)then(ix p0 (j6.wrap ((j6.wrap ((j6.wrap ((j6.wrap (aV .u64 (Z0.wrap (j6.wrap (p1+Z))) 1))+p2))-1))-(j6.wrap (aV .u64 (Z0.wrap (j6.wrap (h+J))) 1))))).bind λa0=>(p0[a0]?).bind λa4=>(ix p0 (j6.wrap (aV .u64 (Z0.wrap (j6.wrap (h+J))) 1))).bind λa3=>(p0[a3]?).bind λa2=>(W a4 a2).bind λa1=>if !(decide (a1<0))then some (.inl (j6.wrap ((j6.wrap (aV .u64 (Z0.wrap (j6.wrap (h+J))) 1))+1),J))else some (.inl (h,j6.wrap (aV .u64 (Z0.wrap (j6.wrap (h+J))) 1)))else(dX p0 p1 p2 Z W a5 h).map Sum.inr
def dZ (p0:List aa)(p1:Int)(p2:Int)(W:Int)(J:(aa->aa->Option Int))(a0:((List aa)->Int->Int->Int->(aa->aa->Option Int)->Option (List aa)))(Z:Int)(h:Int):Option (List aa):=am (λs:(Int×Int)=>dY p0 p1 p2 W J a0 s.1 s.2) (Z,h)
def d9 (W:((List aa)->Int->Int->Int->(aa->aa->Option Int)->Option (List aa)))(p0:List aa)(p1:Int)(p2:Int)(h:Int)(J:(aa->aa->Option Int)):Option (List aa):=if (j6.wrap (p2-p1))==1 then am (λs:(Int×Int)=>cZ p0 p1 J s.1 s.2) (p2,h)else if (j6.wrap (h-p2))==1 then am (λs:(Int×Int)=>c8 p0 p2 J s.1 s.2) (p1,p2)else if decide ((j6.wrap (aV .u64 (Z0.wrap (j6.wrap (p1+h))) 1))<p2)then dZ p0 p1 p2 h J W (j6.wrap ((j6.wrap ((j6.wrap (aV .u64 (Z0.wrap (j6.wrap (p1+h))) 1))+p2))-h)) (j6.wrap (aV .u64 (Z0.wrap (j6.wrap (p1+h))) 1))else dZ p0 p1 p2 h J W p1 p2
def dh:Nat->(List aa)->Int->Int->Int->(aa->aa->Option Int)->Option (List aa)
 |0=>λ_ _ _ _ _=>none|n+1=>d9 (dh n)
def dD (p0:List aa)(p1:Int)(p2:Int)(J:Int)(h:(aa->aa->Option Int)):Option (List aa):=dh (p0.length+1) p0 p1 p2 J h
def eC (J:Int)(h:List aa):Option ((Int×List aa)⊕List aa):=some (.inl (j6.wrap (J*2),h))
def gv (p1:Int)(p2:(aa->aa->Option Int))(h:Int)(J:Int)(W:List aa):Option ((Int×List aa)⊕List aa):=if decide ((j6.wrap (J+h))<p1)then(dD W J (j6.wrap (J+h)) p1 p2).bind λZ=>eC h Z else eC h W
def cE (p1:Int)(p2:(aa->aa->Option Int))(J:Int)(h:Int)(x82:Int)(W:List aa):Option ((Int×Int×List aa)⊕((Int×List aa)⊕List aa)):=if decide (x82<=p1)then(dD W h (j6.wrap (h+J)) x82 p2).bind λZ=>some (.inl (x82,j6.wrap (x82+(j6.wrap (2*J))),Z))else(gv p1 p2 J h W).map Sum.inr
def bA (p1:Int)(p2:(aa->aa->Option Int))(h:Int)(J:List aa):Option ((Int×List aa)⊕List aa):=if decide (h<p1)then am (λs:(Int×Int×List aa)=>cE p1 p2 h s.1 s.2.1 s.2.2) (0,j6.wrap (2*h),J)else(some J).map Sum.inr
def jT (p1:Int)(p2:(aa->aa->Option Int))(J:Int)(h:List aa):Option (List aa):=(cP h J p1 p2).bind λW=>am (λs:(Int×List aa)=>bA p1 p2 s.1 s.2) (20,W)
def b8 (p1:Int)(p2:(aa->aa->Option Int))(W:Int)(h:Int)(J:List aa):Option ((Int×Int×List aa)⊕List aa):=if decide (h<=p1)then(cP J W h p2).bind λZ=>some (.inl (h,j6.wrap (h+20),Z))else(jT p1 p2 W J).map Sum.inr
def iu (p0:List aa)(p1:Int)(p2:(aa->aa->Option Int)):Option (List aa):=am (λs:(Int×Int×List aa)=>b8 p1 p2 s.1 s.2.1 s.2.2) (0,20,p0)
def dL (p0:List aa)(p1:(aa->aa->Option Int)):Option (List aa):=(iu p0 (p0.length:Int) p1).bind λh=>some h
def jj (p0:List Int)(h:List aa):Option (List aa):=(dL h (λW J=>eV W J p0)).bind λZ=>some Z
def jk (p0:List Int)(p1:List aa)(h:Int)(J:List aa):Option ((Int×List aa)⊕List aa):=if decide (h<(p1.length:Int))then(idx p1 h).bind λW=>(kP W).bind λZ=>(app 2932031007402 J ([Z])).bind λa0=>some (.inl (j6.wrap (h+1),a0))else(jj p0 J).map Sum.inr
def iv (p0:List Int)(p1:List aa):Option (List aa):=am (λs:(Int×List aa)=>jk p0 p1 s.1 s.2) (0,([]:List aa))
def JG (x6:List Ap):Option (List Ap):=some x6
def u6 (W:List Ap)(Z:Int)(J:Ap):Option ((List Ap×Int)⊕List Ap):=(app 3518437208883 W ([J])).bind λh=>some (.inl (h,j6.wrap (Z+1)))
def u7 (p0:List Int)(p1:List Ap)(J:List Ap)(h:Int)(x35:Bool):Option ((List Ap×Int)⊕List Ap):=if x35 then(idx p0 h).bind λW=>(idx p1 W).bind λZ=>u6 J h Z else u6 J h (⟨0,false,0,[]⟩:Ap)
def za (p0:List Int)(p1:List Ap)(J:List Ap)(h:Int):Option ((List Ap×Int)⊕List Ap):=if decide (h<(p0.length:Int))then(idx p0 h).bind λx82=>if decide (0<=x82)then(idx p0 h).bind λW=>u7 p0 p1 J h (decide (W<(p1.length:Int)))else u7 p0 p1 J h false else(JG J).map Sum.inr
def qW (p0:List Int)(p1:List Ap):Option (List Ap):=am (λs:(List Ap×Int)=>za p0 p1 s.1 s.2) ([],0)
def B3 (p0:List Ap)(p1:List Ap):Option Int:=if decide ((p0.length:Int)<(p1.length:Int))then some (-1)else some 0
def B4 (p0:List Ap)(p1:List Ap)(h:Int):Option (Int⊕Int):=if decide (h<(p0.length:Int))then if h==(p1.length:Int)then(some 1).map Sum.inr else(idx p0 h).bind λW=>(idx p1 h).bind λx35=>(jn W x35).bind λJ=>if J !=0 then(some J).map Sum.inr else some (.inl (j6.wrap (h+1)))else(B3 p0 p1).map Sum.inr
def tO (p0:List Ap)(p1:List Ap):Option Int:=am (λs:Int=>B4 p0 p1 s) 0
def u9 (p0:aO)(p1:aO):Option Bool:=if p0.fEpoch !=p1.fEpoch then some (decide (p0.fEpoch<p1.fEpoch))else some (decide (p0.fNumber<p1.fNumber))
def va (p0:List Int)(p1:aa)(p2:aa):Option Bool:=(qW p0 p1.fRow).bind λW=>(qW p0 p2.fRow).bind λZ=>(tO W Z).bind λh=>if h !=0 then some (decide (h<0))else(u9 p1.fId p2.fId).bind λJ=>some J
def yo:Option Int:=some (-1)
def ie (p0:List Int)(p1:Int)(h:Int):Option (Int⊕Int):=if decide (h<(p0.length:Int))then(idx p0 h).bind λJ=>if p1==J then(some h).map Sum.inr else some (.inl (j6.wrap (h+1)))else(yo).map Sum.inr
def lS (p0:List Int)(p1:Int):Option Int:=am (λs:Int=>ie p0 p1 s) 0
def ig (p0:List Int)(p1:Int):Option Bool:=(lS p0 p1).bind λh=>some (decide (0<=h))
def jJ (h:Bool):Option Bool:=some h
def jK (p0:Int)(p1:aa)(h:Bool):Option Bool:=if (p1.fRow.length:Int)==p0 then if decide (1<=p1.fId.fEpoch)then if decide (p1.fId.fEpoch<=9223372036854775807)then jJ (!h)else jJ false else jJ false else jJ false
def lT (p0:Int)(p1:aa):Option Bool:=if p1.fDeleted !=0 then if decide (p1.fDeleted<=p1.fId.fEpoch)then jK p0 p1 true else jK p0 p1 (decide (9223372036854775807<p1.fDeleted))else jK p0 p1 false
def lU (p0:Int)(p1:aa)(h:Int):Option (Int⊕Bool):=if decide (h<(p1.fRow.length:Int))then(idx p1.fRow h).bind λJ=>(mw J).bind λW=>if !W then(some false).map Sum.inr else some (.inl (j6.wrap (h+1)))else(lT p0 p1).map Sum.inr
def mh (p0:Int)(p1:aa):Option Bool:=am (λs:Int=>lU p0 p1 s) 0
def nE (h:List aO):Option Int:=some 0
def f9 (Z:Int)(h:List aO)(J:aa)(W:Bool):Option ((Int×List aO)⊕Int):=if W then(some 81).map Sum.inr else some (.inl (j6.wrap (Z+1),(J.fId::h)))
def dE (p0:Int)(p2:List aa)(W:Int)(J:List aO):Option ((Int×List aO)⊕Int):=if decide (W<(p2.length:Int))then(idx p2 W).bind λh=>(mh p0 h).bind λZ=>if !Z then f9 W J h true else f9 W J h (decide (1<(jV (h.fId::J) h.fId)))else(nE J).map Sum.inr
def eW (p0:Int)(p2:List aa):Option Int:=if decide (4096<(p2.length:Int))then some 81 else am (λs:(Int×List aO)=>dE p0 p2 s.1 s.2) (0,([]:List aO))
def eX (h:Int)(J:Bool):Option (Int⊕Int):=if J then(some 1).map Sum.inr else some (.inl (j6.wrap (h+1)))
def ga (p0:Int)(p1:List Int)(p2:List aa)(h:Int):Option (Int⊕Int):=if decide (h<(p1.length:Int))then(idx p1 h).bind λJ=>if decide (J<0)then eX h true else if decide (p0<=J)then eX h true else(sub p1 0 h).bind λZ=>(ig Z J).bind λW=>eX h W else(eW p0 p2).map Sum.inr
def gc (p0:Int)(p1:List Int)(p2:List aa)(h:Bool):Option Int:=if h then some 1 else am (λs:Int=>ga p0 p1 p2 s) 0
def ft (p0:Int)(p1:List Int)(p2:List aa):Option Int:=if decide (p0<1)then gc p0 p1 p2 true else gc p0 p1 p2 (decide (8<p0))
def lu (p0:List Int)(p1:Int):Option (List Int):=(app 140737488355328 p0 ([Z6.wrap (aV .i64 p1 24),Z6.wrap (aV .i64 p1 16),Z6.wrap (aV .i64 p1 8),Z6.wrap p1])).bind λh=>some h
def Av (h:List Ap):Option (List Ap):=some h
def gQ (J:Int)(h:List Ap):Option ((List Ap×Int)⊕List Ap):=some (.inl (h,j6.wrap (J+1)))
def oU (p0:Int)(p1:Int)(p2:List aa)(J:List Ap)(h:Int):Option ((List Ap×Int)⊕List Ap):=if decide (h<(p2.length:Int))then(idx p2 h).bind λW=>if (j6.wrap (p1-p0))==0 then(eU (j6.wrap W.fId.fEpoch)).bind λa0=>(app 3518437208883 J ([a0])).bind λZ=>gQ h Z else if (j6.wrap (p1-p0))==1 then(eU (j6.wrap W.fId.fNumber)).bind λa1=>(app 3518437208883 J ([a1])).bind λa3=>gQ h a3 else if (j6.wrap (p1-p0))==2 then(eU (j6.wrap W.fDeleted)).bind λa4=>(app 3518437208883 J ([a4])).bind λa5=>gQ h a5 else(idx W.fRow p1).bind λa2=>(app 3518437208883 J ([a2])).bind λa6=>gQ h a6 else(Av J).map Sum.inr
def oA (p0:Int)(p1:Int)(p2:List aa):Option (List Ap):=am (λs:(List Ap×Int)=>oU p0 p1 p2 s.1 s.2) ([],0)
def cR{σ:Type}(step:(σ->(List Ap)->Option (σ×Bool)))(p1:List Ap)(p2:Int)(h:Int)(x6:σ):Option ((Int×σ)⊕σ):=if decide (h<(p1.length:Int))then(sub p1 h p1.length).bind λW=>(sub p1 h (j6.wrap (h+(if (W.length:Int)<p2 then (W.length:Int)else p2)))).bind λZ=>(step x6 Z).bind λJ=>if !J.2 then(some J.1).map Sum.inr else some (.inl (j6.wrap (h+p2),J.1))else(some x6).map Sum.inr
def gI{σ:Type}(step:(σ->(List Ap)->Option (σ×Bool)))(h:σ)(p1:List Ap)(p2:Int):Option σ:=am (λs:(Int×σ)=>cR step p1 p2 s.1 s.2) (0,h)
def gt (p1:List Ap)(p2:Int):Option (List (List Ap)):=gI (λ(s:List (List Ap))x=>some (s++[x],true)) [] p1 p2
def i6 (p0:List Ap)(p1:Int):Option (List (List Ap)):=(gt p0 p1).bind λh=>some h
def iS (p0:List Ap)(p1:Int):Option (List (List Ap)):=if decide (p1<1)then none else i6 p0 p1
def tq (p0:Int)(p1:List Ap):Option Bool:=(fO p0 p1).bind λh=>some (h.2==0)
def gR (Z:List Int)(W:List Ap)(x44:Int):Option (List Int×Bool):=(o8 x44 W).bind λJ=>(app 140737488355328 Z J.1).bind λh=>some (h,true)
def fp (p0:Int)(J:List Int)(h:List Ap):Option (List Int×Bool):=(tq p0 h).bind λW=>if !W then gR J h (-1)else gR J h p0
def jB (p0:Int)(p1:List Ap):Option (List Int):=(iS p1 64).bind λJ=>(dB (λ(s:List Int) (x:List Ap)=>fp p0 s x) ([]:(List Int)) J).bind λh=>if h.2 then some h.1else none
def qd (h:List Int):Option (List Int×Int):=(iQ h).bind λJ=>(lu h (j6.wrap J)).bind λW=>some (W,0)
def lV (p0:Int)(W:List aa)(a2:List Int)(h:Int)(a3:Int):Option ((List Int×Int)⊕(List Int×Int)):=(oA p0 h W).bind λa1=>(jB a3 a1).bind λJ=>(lu a2 (J.length:Int)).bind λa0=>(app 140737488355328 a0 J).bind λZ=>some (.inl (Z,j6.wrap (h+1)))
def jL (p0:Int)(p2:List Int)(J:List aa)(W:List Int)(h:Int)(a0:Bool):Option ((List Int×Int)⊕(List Int×Int)):=if a0 then(idx p2 h).bind λZ=>lV p0 J W h Z else lV p0 J W h (-1)
def lW (p0:Int)(p2:List Int)(W:List aa)(J:List Int)(h:Int):Option ((List Int×Int)⊕(List Int×Int)):=if decide (h<(j6.wrap (p0+3)))then if decide (h<p0)then jL p0 p2 W J h (decide (h<(p2.length:Int)))else jL p0 p2 W J h false else(qd J).map Sum.inr
def qe (p0:Int)(p2:List Int)(h:List aa)(W:List Int):Option (List Int×Int):=(lu W (h.length:Int)).bind λJ=>am (λs:(List Int×Int)=>lW p0 p2 h s.1 s.2) (J,0)
def qf (p0:Int)(p1:List Int)(p2:List Int)(W:List aa)(J:List Int)(h:Int):Option ((List Int×Int)⊕(List Int×Int)):=if decide (h<(p1.length:Int))then(idx p1 h).bind λa0=>(app 140737488355328 J ([Z6.wrap a0])).bind λZ=>some (.inl (Z,j6.wrap (h+1)))else(qe p0 p2 W J).map Sum.inr
def ja (p0:Int)(p1:List Int)(p2:List Int)(h:List aa):Option (List Int×Int):=(ft p0 p1 h).bind λJ=>if J !=0 then some ([],J)else(iv p1 h).bind λZ=>(app 140737488355328 ([72,65,89,49]) ([Z6.wrap p0,Z6.wrap (p1.length:Int)])).bind λW=>am (λs:(List Int×Int)=>qf p0 p1 p2 Z s.1 s.2) (W,0)
def dS (p0:List Int):Option Int:=(idx p0 0).bind λh=>(idx p0 1).bind λW=>(idx p0 2).bind λJ=>(idx p0 3).bind λZ=>some (bOr .i64 (bOr .i64 (bOr .i64 (en .i64 (j6.wrap h) 24) (en .i64 (j6.wrap W) 16)) (en .i64 (j6.wrap J) 8)) (j6.wrap Z))
def gJ (J:aq)(Z:Int)(h:List Int)(W:Bool):Option (Int×List Int×Bool×aq):=some (Z,h,W,J)
def gK (Z:Int)(J:List Int)(h:aq):Option (Int×List Int×Bool×aq):=(sub J (j6.wrap Z) J.length).bind λa1=>(dS a1).bind λW=>(sub J (j6.wrap ((j6.wrap Z)+4)) J.length).bind λa0=>(ft h.fColumns h.fSort ([])).bind λa2=>if a2==0 then gJ h W a0 (decide (W<=4096))else gJ h W a0 false
def ef (W:Int)(a0:List Int)(J:List Int)(h:Int)(x307:aq):Option ((Int×aq)⊕(Int×List Int×Bool×aq)):=if decide (h<(J.length:Int))then(idx J h).bind λx316=>(app 17592186044416 x307.fSort ([j6.wrap x316])).bind λZ=>some (.inl (j6.wrap (h+1),{x307 with fSort:=Z}))else(gK W a0 x307).map Sum.inr
def dF (p1:List Int)(x6:Bool):Option (Int×List Int×Bool×aq):=if x6 then some (0,[],false,aq.zero)else(idx p1 4).bind λW=>(idx p1 5).bind λh=>(sub p1 6 p1.length).bind λJ=>if decide ((J.length:Int)<(j6.wrap ((j6.wrap h)+4)))then some (0,[],false,{aq.zero with fColumns:=j6.wrap W})else(sub J 0 (j6.wrap h)).bind λZ=>am (λs:(Int×aq)=>ef h J Z s.1 s.2) (0,{aq.zero with fColumns:=j6.wrap W})
def dv (p1:List Int):Option (Int×List Int×Bool×aq):=if decide ((p1.length:Int)<6)then dF p1 true else(sub p1 0 4).bind λh=>(Pw h).bind λJ=>dF p1 (!decide (J=(72,65,89,49)))
def k8 (p1:Int)(x6:List Ap):Option (List Ap×Bool):=some (x6,(x6.length:Int)==p1)
def gS (J:List Int)(a0:List Ap)(h:List Ap×Int×Int)(Z:Bool):Option ((List Int×List Ap)⊕(List Ap×Bool)):=if Z then(some ([],false)).map Sum.inr else(app 3518437208883 a0 h.1).bind λa1=>(sub J h.2.1 J.length).bind λW=>some (.inl (W,a1))
def bO (p1:Int)(J:List Int)(h:List Ap):Option ((List Int×List Ap)⊕(List Ap×Bool)):=if decide (0<(J.length:Int))then(iJ J).bind λW=>if W.2.2!=0 then gS J h W true else gS J h W ((W.1.length:Int)!=(if (j6.wrap (p1-(h.length:Int)))<64 then j6.wrap (p1-(h.length:Int))else 64))else(k8 p1 h).map Sum.inr
def eF (p0:List Int)(p1:Int):Option (List Ap×Bool):=am (λs:(List Int×List Ap)=>bO p1 s.1 s.2) (p0,[])
def gL (h:List aa):Option (Bool×List aa):=some (true,h)
def cB (J:Int)(h:List aa):Option ((Int×List aa)⊕(Bool×List aa)):=some (.inl (j6.wrap (J+1),h))
def cC (p0:aq)(p1:Int)(W:Int)(h:List aa)(x24:Ap)(J:Nat)(Z:Bool):Option ((Int×List aa)⊕(Bool×List aa)):=if Z then(some (false,h)).map Sum.inr else if (j6.wrap (p1-p0.fColumns))==0 then(h[J]?).bind λx82=>cB W (h.set J ({x82 with fId:={x82.fId with fEpoch:=Z0.wrap x24.fInt}}))else if (j6.wrap (p1-p0.fColumns))==1 then if decide (4294967295<x24.fInt)then(some (false,h)).map Sum.inr else(h[J]?).bind λx106=>cB W (h.set J ({x106 with fId:={x106.fId with fNumber:=Zy.wrap x24.fInt}}))else if (j6.wrap (p1-p0.fColumns))==2 then(h[J]?).bind λx122=>cB W (h.set J ({x122 with fDeleted:=Z0.wrap x24.fInt}))else(h[J]?).bind λa1=>(app 3518437208883 a1.fRow ([x24])).bind λa0=>(h[J]?).bind λx182=>cB W (h.set J ({x182 with fRow:=a0}))
def bL (p0:aq)(p1:Int)(p2:List Ap)(h:Int)(J:List aa):Option ((Int×List aa)⊕(Bool×List aa)):=if decide (h<(p2.length:Int))then(idx p2 h).bind λx24=>(ix J h).bind λW=>if decide (p0.fColumns<=p1)then if x24.fKind !=2 then cC p0 p1 h J x24 W true else cC p0 p1 h J x24 W (decide (x24.fInt<0))else cC p0 p1 h J x24 W false else(gL J).map Sum.inr
def dw (p0:aq)(h:List aa)(p1:Int)(p2:List Ap):Option (Bool×List aa):=am (λs:(Int×List aa)=>bL p0 p1 p2 s.1 s.2) (0,h)
def sI:Option Bool:=some true
def bH (p0:List aa)(p1:List aa)(p2:(aa->aa->Option Bool))(h:Int):Option (Int⊕Bool):=if decide (h<(p0.length:Int))then(idx p0 h).bind λJ=>(idx p1 h).bind λZ=>(p2 J Z).bind λW=>if !W then(some false).map Sum.inr else some (.inl (j6.wrap (h+1)))else(sI).map Sum.inr
def dT (p0:List aa)(p1:List aa)(p2:(aa->aa->Option Bool)):Option Bool:=if (p0.length:Int)!=(p1.length:Int)then some false else am (λs:Int=>bH p0 p1 p2 s) 0
def bM (p0:aa)(p1:aa):Option Bool:=some (decide (p0.fId=p1.fId))
def eJ (p0:(Option aq)):Option Bool:=(p0).bind λJ=>(p0).bind λx7=>(iv J.fSort x7.fL).bind λh=>(p0).bind λW=>(dT h W.fL bM).bind λZ=>some Z
def kw (r24:Int×List Int×Bool×aq)(J:List aa)(h:Bool):Option ((Option aq)×Int):=if h then some ((none:(Option aq)),80)else some ((some ({r24.2.2.2 with fL:=J})),0)
def eO (r24:Int×List Int×Bool×aq)(a1:List Int)(h:List aa):Option ((Option aq)×Int):=if decide (0<(a1.length:Int))then kw r24 h true else((some ({r24.2.2.2 with fL:=h}))).bind λa0=>((some ({r24.2.2.2 with fL:=h}))).bind λx144=>((some ({r24.2.2.2 with fL:=h}))).bind λZ=>(ft a0.fColumns x144.fSort Z.fL).bind λJ=>if J !=0 then kw r24 h true else(eJ (some ({r24.2.2.2 with fL:=h}))).bind λW=>kw r24 h (!W)
def fu (h:List Int)(a0:Int)(W:Int)(x307:Bool)(Z:List aa):Option ((List Int×Int×List aa)⊕((Option aq)×Int)):=if x307 then(some ((none:(Option aq)),80)).map Sum.inr else(sub h (j6.wrap (4+W)) h.length).bind λJ=>some (.inl (J,j6.wrap (a0+1),Z))
def eP (r24:Int×List Int×Bool×aq)(h:List Int)(W:Int)(a1:List aa)(a2:Bool):Option ((List Int×Int×List aa)⊕((Option aq)×Int)):=if a2 then(some ((none:(Option aq)),80)).map Sum.inr else(dS h).bind λJ=>(sub h 4 (j6.wrap (4+J))).bind λa3=>(eF a3 r24.1).bind λZ=>if !Z.2 then fu h W J true a1 else(dw r24.2.2.2 a1 W Z.1).bind λa0=>fu h W J (!a0.1) a0.2
def bF (r24:Int×List Int×Bool×aq)(h:List Int)(W:Int)(J:List aa):Option ((List Int×Int×List aa)⊕((Option aq)×Int)):=if decide (W<(j6.wrap (r24.2.2.2.fColumns+3)))then if decide ((h.length:Int)<4)then eP r24 h W J true else(dS h).bind λZ=>eP r24 h W J (decide ((h.length:Int)<(j6.wrap (4+Z))))else(eO r24 h J).map Sum.inr
def gM (p0:List Int)(J:Bool):Option ((Option aq)×Int):=if J then some ((none:(Option aq)),80)else(sub p0 0 (j6.wrap ((p0.length:Int)-4))).bind λW=>(dv W).bind λr24=>if !r24.2.2.1 then some ((none:(Option aq)),80)else(mk 5864062014805 r24.1 aa.zero).bind λh=>am (λs:(List Int×Int×List aa)=>bF r24 s.1 s.2.1 s.2.2) (r24.2.1,0,h)
def et (p0:List Int):Option ((Option aq)×Int):=if decide ((p0.length:Int)<4)then gM p0 true else(sub p0 (j6.wrap ((p0.length:Int)-4)) p0.length).bind λJ=>(dS J).bind λW=>(sub p0 0 (j6.wrap ((p0.length:Int)-4))).bind λh=>(iQ h).bind λZ=>gM p0 (W !=(j6.wrap Z))
def dm (p0:aa)(p1:aO):Option Bool:=some (decide (p0.fId=p1))
def sJ:Option Int:=some (-1)
def d6 (p0:List aa)(p1:(aa->Option Bool))(h:Int):Option (Int⊕Int):=if decide (h<(p0.length:Int))then(idx p0 h).bind λW=>(p1 W).bind λJ=>if J then(some h).map Sum.inr else some (.inl (j6.wrap (h+1)))else(sJ).map Sum.inr
def eY (p0:List aa)(p1:(aa->Option Bool)):Option Int:=am (λs:Int=>d6 p0 p1 s) 0
def eG (p0:(Option aq))(p1:aO):Option (Int×Bool):=(p0).bind λJ=>(eY J.fL (λW=>dm W p1)).bind λh=>some ((if h<0 then 0 else h),decide (0<=h))
def lX (p0:(Option aq)):Option Int:=(p0).bind λh=>some (h.fL.length:Int)
def vO (h:Bool):Option Bool:=some h
def sr (J:((Option aq)×Int))(W:Bool):Option Bool:=if W then some false else(eG J.1 (⟨1,0⟩:aO)).bind λh=>(lX J.1).bind λZ=>if Z==2 then if h.1==1 then vO h.2else vO false else vO false
def xA:Option Bool:=(ja 1 ([0]) ([]) ([(⟨(⟨1,0⟩:aO),[(⟨2,false,2,[]⟩:Ap)],0⟩:aa),(⟨(⟨2,0⟩:aO),[(⟨2,false,1,[]⟩:Ap)],0⟩:aa)])).bind λJ=>(et J.1).bind λh=>if J.2!=0 then sr h true else if h.2!=0 then sr h true else sr h h.1.isNone
def k9 (h:Bool):Option Bool:=some h
def oB (p0:aa)(p1:aa):Option Bool:=(ou p0.fRow p1.fRow).bind λh=>if h then if decide (p0.fId=p1.fId)then k9 (p0.fDeleted==p1.fDeleted)else k9 false else k9 false
def zb:Option Bool:=some true
def nF (p0:List aa)(p1:List aa)(h:Int):Option (Int⊕Bool):=if decide (h<(p0.length:Int))then(idx p0 h).bind λJ=>(idx p1 h).bind λW=>(oB J W).bind λZ=>if !Z then(some false).map Sum.inr else some (.inl (j6.wrap (h+1)))else(zb).map Sum.inr
def kx (p0:List aa)(p1:List aa):Option Bool:=if (p0.length:Int)!=(p1.length:Int)then some false else am (λs:Int=>nF p0 p1 s) 0
def Eg:Option Int:=some 0
def yi (x24:Int):Option (Int⊕Int):=some (.inl (j6.wrap (x24+1)))
def pN (p2:List aa)(x24:Int)(W:aa)(h:Int):Option (Int⊕(Int⊕Int)):=if decide (h<x24)then(idx p2 h).bind λJ=>if decide (J.fId=W.fId)then((some 81).map Sum.inr).map Sum.inr else some (.inl (j6.wrap (h+1)))else(yi x24).map Sum.inr
def mj (p2:List aa)(x24:Int)(h:aa):Option (Int⊕Int):=am (λs:Int=>pN p2 x24 h s) 0
def pO (p2:List aa)(x24:Int)(J:aa)(h:Int):Option (Int⊕(Int⊕Int)):=if decide (h<(J.fRow.length:Int))then(idx J.fRow h).bind λZ=>(ue Z).bind λW=>if !W then((some 81).map Sum.inr).map Sum.inr else some (.inl (j6.wrap (h+1)))else(mj p2 x24 J).map Sum.inr
def gX (p2:List aa)(x24:Int)(J:aa)(h:Bool):Option (Int⊕Int):=if h then(some 81).map Sum.inr else am (λs:Int=>pO p2 x24 J s) 0
def pP (p0:Int)(p2:List aa)(x24:Int):Option (Int⊕Int):=if decide (x24<(p2.length:Int))then(idx p2 x24).bind λh=>if (h.fRow.length:Int)!=p0 then gX p2 x24 h true else if h.fId.fEpoch==0 then gX p2 x24 h true else if decide (9223372036854775807<h.fId.fEpoch)then gX p2 x24 h true else if decide (9223372036854775807<h.fDeleted)then gX p2 x24 h true else if h.fDeleted !=0 then gX p2 x24 h (decide (h.fDeleted<=h.fId.fEpoch))else gX p2 x24 h false else(Eg).map Sum.inr
def ml (p0:Int)(p2:List aa):Option Int:=if decide (4096<(p2.length:Int))then some 81 else am (λs:Int=>pP p0 p2 s) 0
def yj (h:Int):Option (Int⊕Int):=some (.inl (j6.wrap (h+1)))
def pQ (p1:List Int)(J:Int)(h:Int):Option (Int⊕(Int⊕Int)):=if decide (h<J)then(idx p1 h).bind λW=>(idx p1 J).bind λZ=>if W==Z then((some 1).map Sum.inr).map Sum.inr else some (.inl (j6.wrap (h+1)))else(yj J).map Sum.inr
def pR (p1:List Int)(J:Int)(h:Bool):Option (Int⊕Int):=if h then(some 1).map Sum.inr else am (λs:Int=>pQ p1 J s) 0
def pS (p0:Int)(p1:List Int)(p2:List aa)(h:Int):Option (Int⊕Int):=if decide (h<(p1.length:Int))then(idx p1 h).bind λW=>if decide (W<0)then pR p1 h true else(idx p1 h).bind λJ=>pR p1 h (decide (p0<=J))else(ml p0 p2).map Sum.inr
def pT (p0:Int)(p1:List Int)(p2:List aa)(h:Bool):Option Int:=if h then some 1 else am (λs:Int=>pS p0 p1 p2 s) 0
def qY (p0:Int)(p1:List Int)(p2:List aa):Option Int:=if decide (p0<1)then pT p0 p1 p2 true else pT p0 p1 p2 (decide (8<p0))
def FN (p1:Int)(x6:List Ap):Option (List Ap×Bool):=some (x6,(x6.length:Int)==p1)
def up (J:List Int)(Z:List Ap)(h:List Ap×Int×Int)(W:Bool):Option ((List Int×List Ap)⊕(List Ap×Bool)):=if W then(some ([],false)).map Sum.inr else(app 3518437208883 Z h.1).bind λa1=>(sub J h.2.1 J.length).bind λa0=>some (.inl (a0,a1))
def eZ (p1:Int)(J:List Int)(h:List Ap):Option ((List Int×List Ap)⊕(List Ap×Bool)):=if decide (0<(J.length:Int))then(rM J).bind λW=>if W.2.2!=0 then up J h W true else up J h W ((W.1.length:Int)!=(if (j6.wrap (p1-(h.length:Int)))<64 then j6.wrap (p1-(h.length:Int))else 64))else(FN p1 h).map Sum.inr
def vb (p0:List Int)(p1:Int):Option (List Ap×Bool):=am (λs:(List Int×List Ap)=>eZ p1 s.1 s.2) (p0,[])
def rO (h:List aa):Option (List aa×Bool):=some (h,true)
def oC (J:Int)(h:List aa):Option ((List aa×Int)⊕(List aa×Bool)):=some (.inl (h,j6.wrap (J+1)))
def oD (p0:Int)(p1:(List (List Ap)))(a0:List aa)(h:Int)(x46:aa):Option ((List aa×Int)⊕(List aa×Bool)):=(idx p1 (j6.wrap (p0+1))).bind λa1=>(idx a1 h).bind λa2=>if decide (4294967295<a2.fInt)then(some ([],false)).map Sum.inr else(idx p1 p0).bind λW=>(idx W h).bind λa6=>(idx p1 (j6.wrap (p0+1))).bind λJ=>(idx J h).bind λa4=>(idx p1 (j6.wrap (p0+2))).bind λa3=>(idx a3 h).bind λZ=>(app 2932031007402 a0 ([{{x46 with fId:=(⟨Z0.wrap a6.fInt,Zy.wrap a4.fInt⟩:aO)}with fDeleted:=Z0.wrap Z.fInt}])).bind λa5=>oC h a5
def lw (J:Int)(h:Bool):Option (Int⊕((List aa×Int)⊕(List aa×Bool))):=if h then((some ([],false)).map Sum.inr).map Sum.inr else some (.inl (j6.wrap (J+1)))
def ge (p0:Int)(p1:(List (List Ap)))(a0:List aa)(J:Int)(x46:aa)(h:Int):Option (Int⊕((List aa×Int)⊕(List aa×Bool))):=if decide (h<(j6.wrap (p0+3)))then(idx p1 h).bind λZ=>(idx Z J).bind λa2=>if a2.fKind !=2 then lw h true else(idx p1 h).bind λW=>(idx W J).bind λa1=>lw h (decide (a1.fInt<0))else(oD p0 p1 a0 J x46).map Sum.inr
def oE (p0:Int)(p1:(List (List Ap)))(h:List aa)(J:Int)(x46:aa):Option ((List aa×Int)⊕(List aa×Bool)):=am (λs:Int=>ge p0 p1 h J x46 s) p0
def lx (p0:Int)(p1:(List (List Ap)))(a0:List aa)(J:Int)(h:Int)(x314:aa):Option ((Int×aa)⊕((List aa×Int)⊕(List aa×Bool))):=if decide (h<p0)then(idx p1 h).bind λa1=>(idx a1 J).bind λW=>(app 3518437208883 x314.fRow ([W])).bind λZ=>some (.inl (j6.wrap (h+1),{x314 with fRow:=Z}))else(oE p0 p1 a0 J x314).map Sum.inr
def gg (p0:Int)(p1:(List (List Ap)))(p2:Int)(h:List aa)(J:Int):Option ((List aa×Int)⊕(List aa×Bool)):=if decide (J<p2)then am (λs:(Int×aa)=>lx p0 p1 h J s.1 s.2) (0,(⟨aO.zero,[],0⟩:aa))else(rO h).map Sum.inr
def po (p0:Int)(p1:(List (List Ap)))(p2:Int):Option (List aa×Bool):=am (λs:(List aa×Int)=>gg p0 p1 p2 s.1 s.2) ([],0)
def cI{σ:Type}(step:(σ->aa->Option (σ×Bool)))(W:List aa)(J:Int)(Z:σ):Option ((Int×σ)⊕σ):=if decide (J<(W.length:Int))then(idx W J).bind λa0=>(kP a0).bind λa1=>(step Z a1).bind λh=>if !h.2 then(some h.1).map Sum.inr else some (.inl (j6.wrap (J+1),h.1))else(some Z).map Sum.inr
def dU{σ:Type}(step:(σ->aa->Option (σ×Bool)))(W:σ)(p1:(Option aq))(p2:Int):Option σ:=(p1).bind λh=>(sub h.fL p2 h.fL.length).bind λJ=>am (λs:(Int×σ)=>cI step J s.1 s.2) (0,W)
def eu (p1:(Option aq))(p2:Int):Option (List aa):=dU (λ(s:List aa)x=>some (s++[x],true)) [] p1 p2
def fA (p0:(Option aq))(p1:Int):Option (List aa):=(eu p0 p1).bind λh=>some h
def iw (p0:(Option aq)):Option (List aa):=(fA p0 0).bind λh=>some h
def cQ (p0:aa)(p1:List Ap)(p2:List Int):Option Int:=(kQ p2 p0.fRow).bind λh=>(oy h p1).bind λJ=>if decide (J<0)then some (-1)else some 1
def fW (J:Int)(h:Bool):Option (Int×Bool):=some (J,h)
def eh (p0:List aa)(p1:List Ap)(p2:(aa->(List Ap)->Option Int))(h:Int):Option (Int×Bool):=if decide (h<(p0.length:Int))then(idx p0 h).bind λJ=>(p2 J p1).bind λW=>fW h (W==0)else fW h false
def fX (p0:List aa)(p1:List Ap)(p2:(aa->(List Ap)->Option Int))(h:Int)(J:Int):Option ((Int×Int)⊕(Int×Bool)):=if decide (h<J)then(idx p0 (j6.wrap (aV .u64 (Z0.wrap (j6.wrap (h+J))) 1))).bind λZ=>(p2 Z p1).bind λW=>if decide (W<0)then some (.inl (j6.wrap ((j6.wrap (aV .u64 (Z0.wrap (j6.wrap (h+J))) 1))+1),J))else some (.inl (h,j6.wrap (aV .u64 (Z0.wrap (j6.wrap (h+J))) 1)))else(eh p0 p1 p2 h).map Sum.inr
def dM (p0:List aa)(p1:List Ap)(p2:(aa->(List Ap)->Option Int)):Option (Int×Bool):=am (λs:(Int×Int)=>fX p0 p1 p2 s.1 s.2) (0,(p0.length:Int))
def jM (p0:List Int):Option (List Int):=(app 17592186044416 ([]) p0).bind λh=>some h
def la (p0:(Option aq)):Option (List Int):=(p0).bind λh=>(jM h.fSort).bind λJ=>some J
def lY (p0:(Option aq)):Option Int:=(p0).bind λh=>some h.fColumns
def Io:Option (List aa):=some ([])
def xB (p0:aX)(p1:List Ap)(J:List Int)(h:Int):Option (Int⊕List aa):=if decide (h<(p0.fL.length:Int))then(idx p0.fL h).bind λx44=>(qW J x44.fRow).bind λZ=>(tO Z p1).bind λW=>if decide (0<=W)then(sub p0.fL h p0.fL.length).bind λa0=>(some a0).map Sum.inr else some (.inl (j6.wrap (h+1)))else(Io).map Sum.inr
def tu (p0:aX)(p1:List Ap)(h:List Int):Option (List aa):=am (λs:Int=>xB p0 p1 h s) 0
def Af (p0:aX)(p1:List Ap):Option (List aa):=if decide ((p1.length:Int)<(p0.fSort.length:Int))then(sub p0.fSort 0 (p1.length:Int)).bind λh=>tu p0 p1 h else tu p0 p1 p0.fSort
def pp (h:Int)(J:Int):Option (Int×Int):=some (h,J)
def kR (J:Int)(Z:Int)(h:aa)(W:Int):Option ((Int×Int×Int)⊕(Int×Int)):=some (.inl (W,(if J<h.fId.fEpoch then h.fId.fEpoch else J),j6.wrap (Z+1)))
def kS (Z:Int)(W:Int)(J:Int)(h:aa)(a0:Bool):Option ((Int×Int×Int)⊕(Int×Int)):=if a0 then kR W J h h.fId.fEpoch else kR W J h Z
def kU (x6:aq)(J:Int)(Z:Int)(h:Int):Option ((Int×Int×Int)⊕(Int×Int)):=if decide (h<(x6.fL.length:Int))then(idx x6.fL h).bind λW=>if h==0 then kS J Z h W true else kS J Z h W (decide (W.fId.fEpoch<J))else(pp J Z).map Sum.inr
def ii (p0:(Option aq)):Option (Int×Int):=(p0).bind λx6=>am (λs:(Int×Int×Int)=>kU x6 s.1 s.2.1 s.2.2) (0,0,0)
structure LZ where
 fColumn:Int
 fOp:Int
 fValue:Ap deriving DecidableEq
def LZ.zero:LZ:=⟨0,0,Ap.zero⟩
end
noncomputable section
def nG (J:List aa)(W:aa):Option (List aa×Bool):=(app 2932031007402 J ([W])).bind λh=>some (h,true)
def uq (p0:List aa):Option (List aa):=(dB (λ(s:List aa) (x:aa)=>nG s x) ([]:(List aa)) p0).bind λh=>if h.2 then some h.1else none
def gT (p0:(Option aq))(p1:List Ap):Option (List aa):=(d5 p1).bind λh=>(p0).bind λW=>(p0).bind λJ=>(sub W.fSort 0 (if (h.length:Int)<(J.fSort.length:Int)then (h.length:Int)else (J.fSort.length:Int))).bind λZ=>(p0).bind λa2=>(dM a2.fL h (λa4 a0=>cQ a4 a0 Z)).bind λa1=>(fA p0 a1.1).bind λa3=>some a3
end
noncomputable section
end
noncomputable section
def Ip (x128:aX)(h:List aa×Bool):Option (aX×Int):=some ({x128 with fL:=h.1},0)
def ky (x128:aX)(J:List aa×Bool)(h:Int):Option (Int⊕(aX×Int)):=if decide (h<(J.1.length:Int))then(idx J.1 (j6.wrap (h-1))).bind λW=>(idx J.1 h).bind λa0=>(va x128.fSort W a0).bind λZ=>if !Z then(some ((⟨0,[],[]⟩:aX),80)).map Sum.inr else some (.inl (j6.wrap (h+1)))else(Ip x128 J).map Sum.inr
def qZ (x128:aX)(h:List aa×Bool)(J:Bool):Option (aX×Int):=if J then some ((⟨0,[],[]⟩:aX),80)else am (λs:Int=>ky x128 h s) 1
def oF (p0:List Int)(x128:aX)(a0:Int)(Z:Int)(J:(List (List Ap))):Option (aX×Int):=(po x128.fColumns J (j6.wrap a0)).bind λh=>if !h.2 then qZ x128 h true else if Z !=(j6.wrap ((p0.length:Int)-4))then qZ x128 h true else(qY x128.fColumns x128.fSort h.1).bind λW=>qZ x128 h (W !=0)
def oG (p0:List Int)(Z:Int)(h:Int)(a0:(List (List Ap)))(a3:Int)(a1:Bool):Option ((Int×(List (List Ap))×Int)⊕(aX×Int)):=if a1 then(some ((⟨0,[],[]⟩:aX),80)).map Sum.inr else(sub p0 h (j6.wrap (h+4))).bind λa5=>(it a5).bind λJ=>(sub p0 (j6.wrap (h+4)) (j6.wrap ((j6.wrap (h+4))+(j6.wrap J)))).bind λa2=>(vb a2 (j6.wrap Z)).bind λW=>if !W.2 then(some ((⟨0,[],[]⟩:aX),80)).map Sum.inr else(app 5864062014805 a0 ([W.1])).bind λa4=>some (.inl (j6.wrap ((j6.wrap (h+4))+(j6.wrap J)),a4,j6.wrap (a3+1)))
def fQ (p0:List Int)(x128:aX)(Z:Int)(h:Int)(J:(List (List Ap)))(W:Int):Option ((Int×(List (List Ap))×Int)⊕(aX×Int)):=if decide (W<(j6.wrap (x128.fColumns+3)))then if decide ((j6.wrap ((p0.length:Int)-4))<(j6.wrap (h+4)))then oG p0 Z h J W true else(sub p0 h (j6.wrap (h+4))).bind λa1=>(it a1).bind λa0=>oG p0 Z h J W (decide ((j6.wrap ((p0.length:Int)-4))<(j6.wrap ((j6.wrap (h+4))+(j6.wrap a0)))))else(oF p0 x128 Z h J).map Sum.inr
def xC (p0:List Int)(J:Int)(x128:aX)(W:Int)(h:Bool):Option (aX×Int):=if h then some ((⟨0,[],[]⟩:aX),80)else am (λs:(Int×(List (List Ap))×Int)=>fQ p0 x128 W s.1 s.2.1 s.2.2) (j6.wrap ((j6.wrap (6+(j6.wrap J)))+4),[],0)
def xD (p0:List Int)(h:Int)(x128:aX):Option (aX×Int):=(sub p0 (j6.wrap (6+(j6.wrap h))) (j6.wrap ((j6.wrap (6+(j6.wrap h)))+4))).bind λZ=>(it Z).bind λJ=>(qY x128.fColumns x128.fSort ([])).bind λW=>if W !=0 then xC p0 h x128 J true else xC p0 h x128 J (decide (4096<(j6.wrap J)))
def q8 (p0:List Int)(J:Int)(h:Int)(x505:aX):Option ((Int×aX)⊕(aX×Int)):=if decide (h<(j6.wrap (6+(j6.wrap J))))then(idx p0 h).bind λZ=>(app 17592186044416 x505.fSort ([j6.wrap Z])).bind λW=>some (.inl (j6.wrap (h+1),{x505 with fSort:=W}))else(xD p0 J x505).map Sum.inr
def iK (p0:List Int)(x6:Bool):Option (aX×Int):=if x6 then some ((⟨0,[],[]⟩:aX),80)else(sub p0 (j6.wrap ((p0.length:Int)-4)) p0.length).bind λa1=>(it a1).bind λJ=>(sub p0 0 (j6.wrap ((p0.length:Int)-4))).bind λZ=>(ww Z).bind λa0=>if J !=(Z0.wrap a0)then some ((⟨0,[],[]⟩:aX),80)else(idx p0 4).bind λW=>(idx p0 5).bind λh=>if decide ((j6.wrap ((p0.length:Int)-4))<(j6.wrap ((j6.wrap (6+(j6.wrap h)))+4)))then some ((⟨0,[],[]⟩:aX),80)else am (λs:(Int×aX)=>q8 p0 h s.1 s.2) (6,(⟨j6.wrap W,[],[]⟩:aX))
def mH (p0:List Int):Option (aX×Int):=if decide ((p0.length:Int)<14)then iK p0 true else(idx p0 0).bind λh=>if h !=72 then iK p0 true else(idx p0 1).bind λZ=>if Z !=65 then iK p0 true else(idx p0 2).bind λW=>if W !=89 then iK p0 true else(idx p0 3).bind λJ=>iK p0 (J !=49)
end
noncomputable section
end
noncomputable section
end
noncomputable section
def cJ{σ:Type}(J:Int)(h:Bool)(x44:σ):Option ((Int×σ)⊕σ):=if h then(some x44).map Sum.inr else some (.inl (j6.wrap (J+1),x44))
def cK{σ:Type}(step:(σ->Ap->Option (σ×Bool)))(p2:Int)(x8:aq)(h:Int)(J:σ):Option ((Int×σ)⊕σ):=if decide (h<(x8.fL.length:Int))then(idx x8.fL h).bind λZ=>if decide (p2<0)then cJ h true J else if decide ((Z.fRow.length:Int)<=p2)then cJ h true J else(idx Z.fRow p2).bind λa0=>(step J a0).bind λW=>cJ h (!W.2) W.1else(some J).map Sum.inr
def du{σ:Type}(step:(σ->Ap->Option (σ×Bool)))(J:σ)(p1:(Option aq))(p2:Int):Option σ:=(p1).bind λh=>am (λs:(Int×σ)=>cK step p2 h s.1 s.2) (0,J)
def ew (p1:(Option aq))(p2:Int):Option (List Ap):=du (λ(s:List Ap)x=>some (s++[x],true)) [] p1 p2
def ij (p0:(Option aq))(p1:Int):Option (List Ap):=(ew p0 p1).bind λh=>some h
def kV (h:List Ap)(J:Ap):Option (List Ap×Bool):=(app 3518437208883 h ([J])).bind λW=>some (W,true)
def kW (h:Bool):Option Bool:=some h
def su (p0:(Option aq))(p2:Int)(a1:List Ap)(a3:Int)(a2:Int):Option Bool:=(ij p0 p2).bind λa0=>(dB (λ(s:List Ap) (x:Ap)=>kV s x) ([]:(List Ap)) a0).bind λJ=>if J.2 then(ii p0).bind λW=>(eG p0 (⟨0,0⟩:aO)).bind λh=>(ou J.1 a1).bind λZ=>if Z then if W.1==a3 then if W.2==a2 then if h.1==0 then kW (!h.2)else kW false else kW false else kW false else kW false else none
def pq (p1:aX)(x182:Int)(h:Int)(Z:List Ap)(W:Int):Option ((List Ap×Int×Int×Int)⊕Bool):=(idx p1.fL h).bind λJ=>some (.inl (Z,W,(if x182<J.fId.fEpoch then J.fId.fEpoch else x182),j6.wrap (h+1)))
def pu (p1:aX)(W:Int)(x182:Int)(h:Int)(J:List Ap)(Z:Bool):Option ((List Ap×Int×Int×Int)⊕Bool):=if Z then(idx p1.fL h).bind λa0=>pq p1 x182 h J a0.fId.fEpoch else pq p1 x182 h J W
def pw (p1:aX)(J:Int)(x182:Int)(h:Int)(W:List Ap)(Z:Bool):Option ((List Ap×Int×Int×Int)⊕Bool):=if Z then(some false).map Sum.inr else if h==0 then pu p1 J x182 h W true else(idx p1.fL h).bind λa0=>pu p1 J x182 h W (decide (a0.fId.fEpoch<J))
def mI (p0:(Option aq))(p1:aX)(J:Int)(x182:Int)(h:Int)(Z:List Ap):Option ((List Ap×Int×Int×Int)⊕Bool):=(idx p1.fL h).bind λa0=>(eG p0 a0.fId).bind λW=>if W.1!=h then pw p1 J x182 h Z true else pw p1 J x182 h Z (!W.2)
def kX (p0:(Option aq))(p1:aX)(p2:Int)(W:List Ap)(J:Int)(x182:Int)(h:Int)(Z:Bool):Option ((List Ap×Int×Int×Int)⊕Bool):=if Z then(idx p1.fL h).bind λa2=>(idx a2.fRow p2).bind λa0=>(app 3518437208883 W ([a0])).bind λa1=>mI p0 p1 J x182 h a1 else mI p0 p1 J x182 h W
def px (p0:(Option aq))(p1:aX)(p2:Int)(J:List Ap)(h:Int)(x182:Int)(W:Int):Option ((List Ap×Int×Int×Int)⊕Bool):=if decide (W<(p1.fL.length:Int))then if decide (0<=p2)then kX p0 p1 p2 J h x182 W (decide (p2<p1.fColumns))else kX p0 p1 p2 J h x182 W false else(su p0 p2 J h x182).map Sum.inr
def rP (p0:(Option aq))(p1:aX)(p2:Int):Option Bool:=am (λs:(List Ap×Int×Int×Int)=>px p0 p1 p2 s.1 s.2.1 s.2.2.1 s.2.2.2) ([],0,0,0)
def kA (x82:Bool):Option Bool:=some x82
def sK (p1:List Ap)(p2:Int)(h:((Option aq)×Int))(J:aX×Int):Option Bool:=(iw h.1).bind λa0=>(uq a0).bind λa1=>(kx a1 J.1.fL).bind λa2=>if a2 then(gT h.1 p1).bind λW=>(uq W).bind λa4=>(Af J.1 p1).bind λa5=>(kx a4 a5).bind λZ=>if Z then(rP h.1 J.1 p2).bind λa3=>kA a3 else kA false else kA false
def nH (p1:List Ap)(p2:Int)(Z:((Option aq)×Int))(W:aX×Int)(J:List Int)(h:Int):Option (Int⊕Bool):=if decide (h<(J.length:Int))then(idx J h).bind λa0=>(idx W.1.fSort h).bind λa1=>if a0 !=a1 then(some false).map Sum.inr else some (.inl (j6.wrap (h+1)))else(sK p1 p2 Z W).map Sum.inr
def kB (p1:List Ap)(p2:Int)(h:((Option aq)×Int))(Z:aX×Int)(J:List Int)(W:Bool):Option Bool:=if W then some false else am (λs:Int=>nH p1 p2 h Z J s) 0
def iT (p1:List Ap)(p2:Int)(h:((Option aq)×Int))(J:aX×Int)(Z:Bool):Option Bool:=if Z then some false else if h.1.isNone then some true else(la h.1).bind λW=>(lX h.1).bind λa1=>if a1 !=(J.1.fL.length:Int)then kB p1 p2 h J W true else(lY h.1).bind λa0=>if a0 !=J.1.fColumns then kB p1 p2 h J W true else kB p1 p2 h J W ((W.length:Int)!=(J.1.fSort.length:Int))
def nf (p0:List Int)(p1:List Ap)(p2:Int):Option Bool:=(app 140737488355328 ([]) p0).bind λW=>(et W).bind λh=>(mH p0).bind λJ=>(xA).bind λZ=>if !Z then iT p1 p2 h J true else if h.2!=J.2 then iT p1 p2 h J true else iT p1 p2 h J (!((h.2==0)==(!h.1.isNone)))
end
theorem Iq{σ β:Type}{f:σ->Option (σ⊕β)}{n:Nat}{s:σ}{b:β}(h:iW f n s=some b):∃k,n=k+1/\((f s=some (.inr b))\/∃s',f s=some (.inl s')/\iW f k s'=some b):=by cases n with
 |zero=>cases h|succ k=>rw[iW]at h;cases hf:f s with
  |none=>rw[hf]at h;cases h|some r=>rw[hf]at h;cases r with
   |inl s'=>exact⟨k,rfl,.inr ⟨s',rfl,h⟩⟩|inr b'=>injection h with h;subst h;exact⟨k,rfl,.inl rfl⟩
abbrev Ir{O:Type}:List O->O->Option (List O×Bool):=λs x=>some (s++[x],true)
theorem Bi{ι σ O:Type}{step:σ->O->Option (σ×Bool)}{s:σ}{xs:List O}{r:σ×Bool}(F:{τ:Type}->(τ->O->Option (τ×Bool))->ι->τ->Option ((ι×τ)⊕τ)) (c:ι->Bool) (el:ι->Option O) (nx:ι->ι)(hF:∀{τ:Type}(st:τ->O->Option (τ×Bool))i s,F st i s=if c i then (el i).bind λx=>(st s x).bind λr=>if !r.2 then (some r.1).map Sum.inr else some (.inl (nx i,r.1))else (some s).map Sum.inr){i0:ι}(h:am (λs:ι×List O=>F Ir s.1 s.2) (i0,[])=some xs) (J:dB step s xs=some r):am (λs:ι×σ=>F step s.1 s.2) (i0,s)=some r.1:=by
 have key:∀(k:Nat) (i:ι) (Z:List O) (out:List O),iW (λs:ι×List O=>F Ir s.1 s.2) k (i,Z)=some out->∃ys,out=Z++ys/\∀(s:σ)r,dB step s ys=some r->am (λs:ι×σ=>F step s.1 s.2) (i,s)=some r.1:=by
  intro k;induction k with
  |zero=>intro i Z out h;cases h|succ k ih=>
   intro i Z out h;obtain⟨k',hk,g⟩:=Iq h;obtain rfl:k'=k:=by omega
   clear h;have h:=g;clear g;rcases h with h|⟨s',W,h2⟩
   ·have h:F Ir i Z=some (.inr out):=h;rw[hF]at h;by_cases hc:c i=true
    ·rw[if_pos hc]at h;cases hx:el i with
     |none=>rw[hx]at h;cases h|some x=>rw[hx]at h;simp at h
    ·rw[if_neg hc]at h;simp only[Option.map_some,Option.some.injEq,Sum.inr.injEq]at h;subst h;refine⟨[],by simp,λs r J=>?_⟩;simp only[dB,Option.some.injEq]at J;subst J;refine aR ?_;show F step i s=_;rw[hF,if_neg hc];rfl
   ·have W:F Ir i Z=some (.inl s'):=W;rw[hF]at W;by_cases hc:c i=true
    ·rw[if_pos hc]at W;cases hx:el i with
     |none=>rw[hx]at W;cases W|some x=>rw[hx]at W;simp only[Z2,Bool.not_true,Zx,if_false,Option.some.injEq,Sum.inl.injEq]at W;subst W;obtain⟨ys,e,a0⟩:=ih _ _ _ h2;refine⟨x::ys,by rw[e];simp,λs r J=>?_⟩;simp only[dB]at J;cases hst:step s x with
      |none=>rw[hst]at J;cases J|some q=>rw[hst]at J;simp only[Z2]at J;cases hq:q.2 with
       |true=>
        rw[hq]at J;simp only[if_true]at J;rw[bI (s':=(nx i,q.1))];·exact a0 _ _ J
        ·show F step i s=_;rw[hF,if_pos hc,hx,Z2,hst,Z2,hq];rfl|false=>rw[hq]at J;simp only[Zx,if_false,Option.some.injEq]at J;subst J;refine aR ?_;show F step i s=_;rw[hF,if_pos hc,hx,Z2,hst,Z2,hq];rfl
    ·rw[if_neg hc]at W;cases W
 obtain⟨k,hk⟩:=I7.1 h;obtain⟨ys,e,a0⟩:=key k _ _ _ hk;simp only[List.nil_append]at e;subst e;exact a0 _ _ J
theorem tw{σ:Type}{step:σ->List Ap->Option (σ×Bool)}{s:σ}{xs:List (List Ap)}{p1:List Ap}{p2:Int}{r:σ×Bool}(h:gt p1 p2=some xs)(W:dB step s xs=some r):gI step s p1 p2=some r.1:=by refine Bi (λ{τ}st i s=>cR st p1 p2 i s) (λi=>decide (i<(p1.length:Int))) (λi=>(sub p1 i p1.length).bind λJ=>sub p1 i (j6.wrap (i+(if (J.length:Int)<p2 then (J.length:Int)else p2)))) (λi=>j6.wrap (i+p2)) (λst i s=>?_) h W;simp only[cR,Option.bind_assoc]
theorem sV{σ:Type}{step:σ->aa->Option (σ×Bool)}{s:σ}{xs:List aa}{p1:Option aq}{p2:Int}{r:σ×Bool}(h:eu p1 p2=some xs)(J:dB step s xs=some r):dU step s p1 p2=some r.1:=by unfold eu dU at h;unfold dU;cases p1 with
 |none=>cases h|some f=>simp only[Z2]at h⊢;cases hs:sub f.fL p2 (f.fL.length:Int)with
  |none=>rw[hs]at h;cases h|some l=>rw[hs]at h;simp only[Z2]at h⊢;refine Bi (λ{τ}st i s=>cI st l i s) (λi=>decide (i<(l.length:Int))) (λi=>(idx l i).bind λx=>kP x) (λi=>j6.wrap (i+1)) (λst i s=>?_) h J;simp only[cI,Option.bind_assoc]
theorem sW{σ:Type}{step:σ->Ap->Option (σ×Bool)}{s:σ}{xs:List Ap}{p1:Option aq}{p2:Int}{r:σ×Bool}(h:ew p1 p2=some xs)(J:dB step s xs=some r):du step s p1 p2=some r.1:=by unfold ew du at h;unfold du;cases p1 with
 |none=>cases h|some f=>
  simp only[Z2]at h⊢;refine Bi (λ{τ}st i s=>cK st p2 f i s) (λi=>decide (i<(f.fL.length:Int))&&(match idx f.fL i with|none=>true|some v=>!decide (p2<0)&&!decide ((v.fRow.length:Int)<=p2))) (λi=>(idx f.fL i).bind λv=>idx v.fRow p2) (λi=>j6.wrap (i+1)) (λst i s=>?_) h J;simp only[cK,cJ];by_cases h1:i<(f.fL.length:Int)
  ·rw[if_pos (by simpa using h1)];cases hx:idx f.fL i with
   |none=>simp[h1]|some v=>
    simp only[Z2];by_cases h2:p2<0;·simp[h1,h2]
    ·rw[if_neg (by simpa using h2)];by_cases h3:(v.fRow.length:Int)<=p2;·simp[h1,h2,h3]
     ·rw[if_neg (by simpa using h3)];simp[h1,h2,h3]
  ·simp[h1]
theorem dO{σ β:Type}{f:σ->Option (σ⊕β)}(I:σ->Prop)(μ:σ->Nat)(Q:β->Prop)(step:∀s,I s->(∃s',f s=some (.inl s')/\I s'/\μ s'<μ s)\/∃b,f s=some (.inr b)/\Q b){s:σ}(h:I s):∃b,am f s=some b/\Q b:=by
 generalize hn:μ s=n;induction n using Nat.strongRecOn generalizing s with|_ n ih=>
  rcases step s h with⟨s',W,J,h3⟩|⟨b,W,J⟩
  ·obtain⟨b,h4,Z⟩:=ih (μ s') (by omega) J rfl;exact⟨b,by rw[bI W];exact h4,Z⟩
  ·exact⟨b,aR W,J⟩
theorem nI{σ β:Type}{f:σ->Option (σ⊕β)}(I:σ->Prop)(μ:σ->Nat){b:β}(step:∀s,I s->(∃s',f s=some (.inl s')/\I s'/\μ s'<μ s)\/f s=some (.inr b)){s:σ}(h:I s):am f s=some b:=by obtain⟨c,J,rfl⟩:=dO I μ (λc=>c=b) (λs W=>(step s W).imp id λh=>⟨b,h,rfl⟩) h;exact J
theorem ah{n:Int}(h:-9223372036854775808<=n/\n<=9223372036854775807):j6.wrap n=n:=by
 have:inR .i64 n:=by rw[nv];exact h
 exact this
theorem au{O:Type}{xs:List O}{i:Nat}(h:i<xs.length):idx xs (i:Int)=some xs[i]:=by unfold idx;rw[if_pos (by omega)];simp[h]
theorem aD{O:Type}{N:Nat}{xs ys:List O}(h:xs.length+ys.length<=N):app N xs ys=some (xs++ys):=by unfold app;rw[if_pos h]
theorem cx{O:Type}{xs:List O}{lo hi:Nat}(h:lo<=hi)(J:hi<=xs.length):sub xs (lo:Int) (hi:Int)=some ((xs.take hi).drop lo):=by unfold sub;rw[if_pos (by omega)];simp
theorem aU (n:Int):Z0.wrap n=n%18446744073709551616:=by simp[IntKind.wrap,IntKind.bits,IntKind.signed]
theorem j9 (n:Int):Zy.wrap n=n%4294967296:=by simp[IntKind.wrap,IntKind.bits,IntKind.signed]
theorem bC (n:Int):Z6.wrap n=n%256:=by simp[IntKind.wrap,IntKind.bits,IntKind.signed]
theorem sw{x:Int}{k:Nat}(h:k<=64):aV .u64 x (k:Int)=x/2^k:=by unfold aV;rw[Zs _ (Int.le_of_lt (Int.pow_pos (by decide)))];congr 2;simp[IntKind.bits];omega
theorem PN{x:Int}{k:Nat}(h:k<=8):aV .u8 x (k:Int)=x/2^k:=by unfold aV;rw[Zs _ (Int.le_of_lt (Int.pow_pos (by decide)))];congr 2;simp[IntKind.bits];omega
theorem Ag{x:Int}{k:Nat}(h:k<=64):en .u64 x (k:Int)=(x*2^k)%18446744073709551616:=by unfold en;rw[aU];congr 3;simp[IntKind.bits];omega
theorem M4{a b:Nat}(Z:a<18446744073709551616)(W:b<18446744073709551616):d4 .u64 (a:Int) (b:Int)=((a&&&b:Nat):Int):=by
 unfold d4;rw[aU];have h:(Zv Z0.bits (a:Int)).toNat=a:=by show(Zv 64 (a:Int)).toNat=a;rw[Zt];omega
 have J:(Zv Z0.bits (b:Int)).toNat=b:=by show(Zv 64 (b:Int)).toNat=b;rw[Zt];omega
 rw[BitVec.toNat_and,h,J];have:a&&&b<=a:=Nat.and_le_left;omega
theorem L2{a b:Nat}(Z:a<18446744073709551616)(J:b<18446744073709551616):bOr .u64 (a:Int) (b:Int)=((a|||b:Nat):Int):=by
 unfold bOr;rw[aU];have h:(Zv Z0.bits (a:Int)).toNat=a:=by show(Zv 64 (a:Int)).toNat=a;rw[Zt];omega
 have W:(Zv Z0.bits (b:Int)).toNat=b:=by show(Zv 64 (b:Int)).toNat=b;rw[Zt];omega
 rw[BitVec.toNat_or,h,W];have:a|||b<2^64:=Nat.or_lt_two_pow (by simpa using Z) (by simpa using J);have e:(2:Nat)^64=18446744073709551616:=by decide
 omega
def be8 (n:Int):List Int:=[n/2^56%256,n/2^48%256,n/2^40%256,n/2^32%256,n/2^24%256,n/2^16%256,n/2^8%256,n%256]
theorem vc (n:Int):nz n=some (be8 n):=by
 unfold nz;have step:∀(l:List Int) (i:Nat),i<8->l.length<=8->gC n l (i:Int)=some (.inl (l++[n/2^(56-8*i)%256],((i+1:Nat):Int))):=by
  intro l i hi hl;unfold gC;have W:decide ((i:Int)<8)=true:=by simpa using by omega
  have h:j6.wrap (8*(i:Int))=((8*i:Nat):Int):=by rw[ah (by omega)];omega
  have J:j6.wrap (56-((8*i:Nat):Int))=((56-8*i:Nat):Int):=by rw[ah (by omega)];omega
  have h4:j6.wrap ((i:Int)+1)=((i+1:Nat):Int):=by rw[ah (by omega)];omega
  rw[if_pos W,h,J,sw (by omega),bC,h4];have Z:chk (decide (0<=((56-8*i:Nat):Int)))=some ():=by simp[chk]
  rw[Z,Z2,aD (by simp;omega),Z2]
 have e8:∀l:List Int,gC n l 8=some (.inr l):=λl=>by unfold gC;rw[if_neg (by decide)];rfl
 have s:∀(l:List Int) (i:Nat),i<8->l.length<=8->am (λs:(List Int×Int)=>gC n s.1 s.2) (l,(i:Int))=am (λs:(List Int×Int)=>gC n s.1 s.2) (l++[n/2^(56-8*i)%256],((i+1:Nat):Int)):=λl i hi hl=>bI (step l i hi hl);have:=s [] 0 (by omega) (by simp);rw[show((0:Nat):Int)=0 from rfl]at this;rw[this,s _ 1 (by omega) (by simp),s _ 2 (by omega) (by simp),s _ 3 (by omega) (by simp),s _ 4 (by omega) (by simp),s _ 5 (by omega) (by simp),s _ 6 (by omega) (by simp),s _ 7 (by omega) (by simp)];rw[show((7+1:Nat):Int)=8 from rfl,aR (e8 _)];simp[be8]
theorem zd (n:Int):qp n=some (be8 n):=by
 unfold qp;have step:∀(l:List Int) (i:Nat),i<8->l.length<=8->jH n l ((8*i:Nat):Int)=some (.inl (l++[n/2^(8*i)%256],(8*i:Nat)-8)):=by
  intro l i hi hl;unfold jH;have h:decide (0<=((8*i:Nat):Int))=true:=by simp;omega
  have Z:j6.wrap (((8*i:Nat):Int)-8)=((8*i:Nat):Int)-8:=by rw[ah (by omega)]
  rw[if_pos h,sw (by omega),bC,Z];have J:chk (decide (0<=((8*i:Nat):Int)))=some ():=by rw[h];rfl
  rw[J,Z2,aD (by simp;omega),Z2]
 have W:∀l:List Int,jH n l (-8)=some (.inr l):=λl=>by unfold jH;rw[if_neg (by decide)];rfl
 have s:∀(l:List Int) (i:Nat),i<8->l.length<=8->am (λs:(List Int×Int)=>jH n s.1 s.2) (l,((8*i:Nat):Int))=am (λs:(List Int×Int)=>jH n s.1 s.2) (l++[n/2^(8*i)%256],((8*i:Nat):Int)-8):=λl i hi hl=>bI (step l i hi hl);have e:∀i:Nat,((8*(i+1):Nat):Int)-8=((8*i:Nat):Int):=λi=>by omega
 have:=s [] 7 (by omega) (by simp);rw[show((8*7:Nat):Int)=56 from rfl]at this;rw[this,show(56:Int)-8=((8*6:Nat):Int)from rfl,s _ 6 (by omega) (by simp),e 5,s _ 5 (by omega) (by simp),e 4,s _ 4 (by omega) (by simp),e 3,s _ 3 (by omega) (by simp),e 2,s _ 2 (by omega) (by simp),e 1,s _ 1 (by omega) (by simp),e 0,s _ 0 (by omega) (by simp)];rw[show((8*0:Nat):Int)-8=-8 from rfl,aR (W _)];simp[be8]
def bv (l:List Int):Int:=l.foldl (λa c=>a*256+c) 0
theorem sy (l:List Int)(c:Int):bv (l++[c])=bv l*256+c:=by simp[bv]
theorem wB (l:List Int)(h:∀c∈l,0<=c/\c<256):0<=bv l/\bv l<256^l.length:=by
 have key:∀(r:List Int),(∀c∈r,0<=c/\c<256)->0<=bv r.reverse/\bv r.reverse<256^r.length:=by
  intro r;induction r with
  |nil=>intro _;simp[bv]|cons c r ih=>intro h;obtain⟨Z,h2⟩:=ih (λx W=>h x (by simp[W]));have J:=h c (by simp);rw[List.reverse_cons,sy,Zi,Int.pow_succ];omega
 have:=key l.reverse (λc J=>h c (by simpa using J));simpa using this
theorem ur{n:Int}(J:0<=n)(h:n<18446744073709551616):bv (be8 n)=n:=by simp only[bv,be8,List.foldl_cons,List.foldl_nil];omega
theorem ze (n:Int):∀c∈be8 n,0<=c/\c<256:=by intro c h;simp only[be8,Z4,List.not_mem_nil,or_false]at h;rcases h with rfl|rfl|rfl|rfl|rfl|rfl|rfl|rfl<;>omega
theorem bB (n:Int):(be8 n).length=8:=rfl
theorem mJ (l:List Int)(h:∀c∈l,0<=c/\c<256)(hl:l.length<=8):it l=some (bv l):=by
 unfold it;refine nI (I:=λs:Int×Int=>∃i:Nat,i<=l.length/\s=(bv (l.take i),(i:Int))) (μ:=λs=>l.length-s.2.toNat) ?_ ⟨0,by omega,by simp[bv]⟩;rintro _⟨i,hi,rfl⟩;by_cases hlt:i<l.length
 ·left;have hb:=wB (l.take i) (λc J=>h c (Zr J));have a0:=h l[i] (List.getElem_mem hlt);have hp:(256:Int)^(l.take i).length<=256^7:=by
   have:(l.take i).length<=7:=by simp;omega
   have W:=Nat.pow_le_pow_right (show 0<256 by omega) this;have Z:=Int.ofNat_le.2 W;simpa[Int.natCast_pow]using Z
  refine⟨(bv (l.take (i+1)),((i+1:Nat):Int)),?_,⟨i+1,by omega,rfl⟩,by simp;omega⟩;unfold xv;rw[if_pos (by simpa using hlt),au hlt,Z2];have e:bv (l.take (i+1))=bv (l.take i)*256+l[i]:=by rw[Zj hlt,sy]
  rw[e,aU,aU,aU,ah (by omega)];congr 3;omega
 ·right;have:i=l.length:=by omega
  subst this;unfold xv;rw[if_neg (by simp)];simp[BW]
theorem aW{σ β:Type}{f:σ->Option (σ⊕β)}{s:σ}{b:β}(S:Nat->σ)(n:Nat)(W:s=S 0)(step:∀i,i<n->f (S i)=some (.inl (S (i+1))))(J:f (S n)=some (.inr b)):am f s=some b:=by
 have key:∀i,i<=n->am f s=am f (S i):=by
  intro i;induction i with
  |zero=>intro _;rw[W]|succ i ih=>intro h;rw[ih (by omega),bI (step i (by omega))]
 rw[key n (Z9 n),aR J]
theorem xE{O β:Type}{f:Int->Option (Int⊕β)}(xs:List O)(p:O->Bool)(Z J:β)(step:∀(i:Nat)(h:i<xs.length),p xs[i]=true->f (i:Int)=some (.inl ((i+1:Nat):Int)))(out:∀(i:Nat) (h:i<xs.length),p xs[i]=false->f (i:Int)=some (.inr Z)) (a0:f (xs.length:Int)=some (.inr J)):am f 0=some (if xs.all p then J else Z):=by
 have key:∀k i:Nat,i+k=xs.length->am f (i:Int)=some (if (xs.drop i).all p then J else Z):=by
  intro k;induction k with
  |zero=>
   intro i hi;have:i=xs.length:=by omega
   subst this;rw[aR a0];simp|succ k ih=>
   intro i hi;have W:i<xs.length:=by omega
   rw[Zh W,List.all_cons];cases hp:p xs[i]with
   |true=>rw[bI (step i W hp),ih (i+1) (by omega)];simp|false=>rw[aR (out i W hp)];simp
 have:=key xs.length 0 (by omega);simpa using this
theorem DO{O β:Type}{f:Int->Option (Int⊕β)}(xs:List O)(p:O->Bool)(Z:Nat->β)(J:β)(step:∀(i:Nat)(h:i<xs.length),p xs[i]=false->f (i:Int)=some (.inl ((i+1:Nat):Int)))(out:∀(i:Nat) (h:i<xs.length),p xs[i]=true->f (i:Int)=some (.inr (Z i))) (a0:f (xs.length:Int)=some (.inr J)):am f 0=some (if xs.any p then Z (xs.findIdx p)else J):=by
 have key:∀k i:Nat,i+k=xs.length->am f (i:Int)=some (if (xs.drop i).any p then Z (i+(xs.drop i).findIdx p)else J):=by
  intro k;induction k with
  |zero=>
   intro i hi;have:i=xs.length:=by omega
   subst this;rw[aR a0];simp|succ k ih=>
   intro i hi;have W:i<xs.length:=by omega
   rw[Zh W,List.any_cons,List.findIdx_cons];cases hp:p xs[i]with
   |false=>rw[bI (step i W hp),ih (i+1) (by omega)];simp only[Bool.false_or,cond_false];congr 2;congr 1;omega|true=>rw[aR (out i W hp)];simp
 have:=key xs.length 0 (by omega);simpa using this
theorem aP{i:Nat}(h:i<4611686018427387904):j6.wrap ((i:Int)+1)=((i+1:Nat):Int):=by rw[ah (by omega)];rfl
theorem ut{b:Bool}(h:b=true):chk b=some ():=by subst h;rfl
def Byt (l:List Int):Prop:=∀c∈l,0<=c/\c<256
theorem Byt.nil:Byt []:=λc h=>by cases h
theorem Byt.cons{c:Int}{l:List Int}(W:0<=c/\c<256)(h:Byt l):Byt (c::l):=λd J=>by
 rcases Z4.1 J with rfl|J;·exact W
 ·exact h d J
theorem Byt.head{c:Int}{l:List Int}(h:Byt (c::l)):0<=c/\c<256:=h c (by simp)
theorem Byt.tail{c:Int}{l:List Int}(h:Byt (c::l)):Byt l:=λd J=>h d (by simp[J])
theorem Byt.app{a b:List Int}(h:Byt a)(k:Byt b):Byt (a++b):=λc J=>by
 rcases Z8.1 J with J|J;·exact h c J
 ·exact k c J
theorem Byt.take{a:List Int}(h:Byt a)(n:Nat):Byt (a.take n):=λc J=>h c (Zr J)
theorem Byt.drop{a:List Int}(h:Byt a)(n:Nat):Byt (a.drop n):=λc J=>h c (List.mem_of_mem_drop J)
theorem Byt.left{a b:List Int}(h:Byt (a++b)):Byt a:=λc J=>h c (by simp[J])
theorem Byt.right{a b:List Int}(h:Byt (a++b)):Byt b:=λc J=>h c (by simp[J])
def cL (n:Int):Prop:=-9223372036854775808<=n/\n<=9223372036854775807
structure VOK (v:Ap):Prop where
 kind:cL v.fKind
 int:cL v.fInt
 text:Byt v.fText
abbrev fR:Ap:=⟨0,false,0,[]⟩
abbrev B5 (b:Bool):Ap:=⟨1,b,0,[]⟩
abbrev gY (n:Int):Ap:=⟨2,false,n,[]⟩
abbrev xF (t:List Int):Ap:=⟨3,false,0,t⟩
def right (v:Ap):Bool:=if v.fKind==0 then decide (v=fR)else if v.fKind==1 then decide (v=B5 v.fBool)else if v.fKind==2 then decide (v=gY v.fInt)else if v.fKind==3 then decide (v=xF v.fText)&&decide ((v.fText.length:Int)<=64)else false
theorem jC (v:Ap):mw v=some (right v):=by
 obtain⟨k,b,n,t⟩:=v;unfold mw right lI qz eU qC rA;simp only[Z2];by_cases h0:k=0;·subst h0;rfl
 by_cases h1:k=1;·subst h1;rfl
 by_cases h2:k=2;·subst h2;rfl
 by_cases h3:k=3
 ·subst h3;by_cases h:(⟨3,b,n,t⟩:Ap)=xF t;·simp[h]
  ·simp[h]
 have Z:(k==0)=false:=by simpa using h0
 have J:(k==1)=false:=by simpa using h1
 have e2:(k==2)=false:=by simpa using h2
 have W:(k==3)=false:=by simpa using h3
 simp only[Z,J,e2,W];rfl
theorem q9 (v:Ap):ue v=some (right v):=by
 obtain⟨k,b,n,t⟩:=v;unfold ue vz vy vx o9 right;by_cases h0:k=0
 ·subst h0;by_cases h:b=false/\n=0/\t=[];·simp[h]
  ·simp[h]
 by_cases h1:k=1
 ·subst h1;by_cases h:n=0/\t=[];·simp[h]
  ·simp[h]
 by_cases h2:k=2
 ·subst h2;by_cases h:b=false/\t=[];·simp[h]
  ·simp[h]
 by_cases h3:k=3
 ·subst h3;simp;by_cases h:b=false/\n=0;·simp[h]
  ·rw[if_neg h];simp;intro J h6;exact absurd ⟨J,h6⟩ h
 have e0:(k==0)=false:=by simpa using h0
 have W:(k==1)=false:=by simpa using h1
 have e2:(k==2)=false:=by simpa using h2
 have Z:(k==3)=false:=by simpa using h3
 simp only[e0,W,e2,Z,Zx,if_false];by_cases h4:0<=k
 ·by_cases J:k<=3;·omega
  ·simp[J]
 ·simp[h4]
inductive Rgt:Ap->Prop|null:Rgt fR|bool (b:Bool):Rgt (B5 b)|int (n:Int) (h:cL n):Rgt (gY n)|text (t:List Int) (h:Byt t) (hl:t.length<=64):Rgt (xF t)
theorem Rgt.of{v:Ap}(h:VOK v)(J:right v=true):Rgt v:=by
 unfold right at J;split at J;·have:=of_decide_eq_true J;rw[this];exact .null
 split at J;·have:=of_decide_eq_true J;rw[this];exact .bool _
 split at J;·have:=of_decide_eq_true J;rw[this];exact .int _ h.int
 split at J
 ·simp only[Z3,decide_eq_true_eq]at J;rw[J.1];exact .text _ h.text (by omega)
 ·cases J
theorem Rgt.right{v:Ap}(h:Rgt v):right v=true:=by cases h with
 |null=>rfl|bool b=>cases b<;>rfl|int n _=>simp[Go.Proofs.YthbonoagbeilkaaGreat.Hay.right]|text t _ hl=>simp[Go.Proofs.YthbonoagbeilkaaGreat.Hay.right];omega
theorem Rgt.ok{v:Ap}(h:Rgt v):VOK v:=by cases h with
 |null=>exact⟨by simp[cL],by simp[cL],Byt.nil⟩|bool b=>exact⟨by simp[cL],by simp[cL],Byt.nil⟩|int n h=>exact⟨by simp[cL],h,Byt.nil⟩|text t h _=>exact⟨by simp[cL],by simp[cL],h⟩
def aZ (v:Ap):List Int:=if v.fKind=1 then[1,if v.fBool then 1 else 0]else if v.fKind=2 then 2::be8 (v.fInt%18446744073709551616)else if v.fKind=3 then 3::(v.fText.length:Int)::v.fText else[v.fKind]
theorem JH:aZ fR=[0]:=rfl
theorem JI (b:Bool):aZ (B5 b)=[1,if b then 1 else 0]:=rfl
theorem xG (n:Int):aZ (gY n)=2::be8 (n%18446744073709551616):=rfl
theorem vd (t:List Int):aZ (xF t)=3::(t.length:Int)::t:=rfl
theorem uu{v:Ap}(h:Rgt v):Byt (aZ v):=by cases h with
 |null=>exact .cons (by decide) .nil|bool b=>exact .cons (by decide) (.cons (by cases b<;>decide) .nil)|int n h=>exact .cons (by decide) (ze _)|text t h hl=>exact .cons (by decide) (.cons (by show 0<=(t.length:Int)/\(t.length:Int)<256;omega) h)
theorem eK{v:Ap}(h:Rgt v):1<=(aZ v).length/\(aZ v).length<=66:=by cases h with
 |null=>decide|bool b=>cases b<;>decide|int n h=>rw[xG];simp[bB]|text t h hl=>rw[vd];simp;omega
theorem Eh{p:List Int}(n:Int)(hp:p.length+8<=140737488355328):n9 p n=some (p++be8 n):=by
 unfold n9;refine aW (λi=>((i:Int),(be8 n).take i++Ze (8-i) 0)) 8 rfl ?_ ?_
 ·intro i hi;dsimp only;unfold mb;have Z:decide ((i:Int)<8)=true:=by simpa using by omega
  have J:j6.wrap (8*(i:Int))=((8*i:Nat):Int):=by rw[ah (by omega)];omega
  have W:j6.wrap (56-((8*i:Nat):Int))=((56-8*i:Nat):Int):=by rw[ah (by omega)];omega
  rw[if_pos Z,J,W,sw (by omega),bC,aP (by omega),ut (by simp),Z2];have hl:((be8 n).take i++Ze (8-i) (0:Int)).length=8:=by simp[bB];omega
  have h:ix ((be8 n).take i++Ze (8-i) (0:Int)) (i:Int)=some i:=by unfold ix;rw[if_pos (by rw[hl];omega)];simp
  rw[h,Z2,Zz (by omega),Z2];have:i=0\/i=1\/i=2\/i=3\/i=4\/i=5\/i=6\/i=7:=by omega
  rcases this with rfl|rfl|rfl|rfl|rfl|rfl|rfl|rfl<;>simp[be8,Ze]
 ·unfold mb pE;have e:(be8 n).take 8++Ze (8-8) (0:Int)=be8 n:=by simp[be8]
  dsimp only;rw[if_neg (by simp)];rw[e,aD (by simp[bB];omega)];rfl
theorem GV{p:List Int}{v:Ap}(h:Rgt v)(J:p.length+66<=140737488355328):xi p v=some (p++aZ v):=by unfold xi;rw[aD (by simp;omega),Z2];cases h with
 |null=>simp[aZ,bC]|bool b=>
  cases b
  ·simp only[aZ,bC];rw[if_pos (by decide),if_neg (by decide),aD (by simp;omega)];simp
  ·simp only[aZ,bC];rw[if_pos (by decide),if_pos (by decide),aD (by simp;omega)];simp|int n h=>simp only[bC,aU,aZ];rw[if_neg (by decide),if_pos (by decide),Eh _ (by simp;omega)];simp|text t h hl=>simp only[bC,aZ];rw[if_neg (by decide),if_neg (by decide),if_pos (by decide),aD (by simp;omega),Z2,aD (by simp;omega)];simp;omega
theorem GW (l:List Ap)(hl:l.length<=281474976710656):t6 l=some (l.all right&&decide (l.length<=16)):=by
 have h:t6 l=some (if l.all right then decide ((l.length:Int)<=16)else false):=by
  unfold t6;refine xE l right _ _ (λi h J=>?_) (λi h J=>?_) ?_
  ·unfold sh;rw[if_pos (by simpa using h),au h,Z2,jC,Z2,J,if_neg (by decide),aP (by omega)]
  ·unfold sh;rw[if_pos (by simpa using h),au h,Z2,jC,Z2,J];rfl
  ·unfold sh AA;rw[if_neg (by simp)];rfl
 rw[h];cases l.all right<;>simp;omega
def xH (l:List Ap):List Int:=(l.length:Int)::l.flatMap aZ
theorem jN{l:List Ap}(h:∀v∈l,Rgt v):(l.flatMap aZ).length<=66*l.length:=by induction l with
 |nil=>simp|cons v r ih=>have:=(eK (h v (by simp))).2;have:=ih (λx J=>h x (by simp[J]));rw[List.flatMap_cons,Zw,Zi];omega
theorem nJ{O:Type}{l:List O}{f:O->List Int}{i:Nat}(h:i<l.length):(l.take (i+1)).flatMap f=(l.take i).flatMap f++f l[i]:=by rw[Zj h,List.flatMap_append,List.flatMap_singleton]
theorem wC{l:List Ap}(h:∀v∈l,Rgt v)(hl:l.length<=16):o7 l=some (xH l,0):=by
 unfold o7;rw[GW l (by omega),Z2];have W:l.all right=true:=by rw[Z5];exactλv J=>(h v J).right
 rw[W,if_neg (by simpa using hl)];refine aW (λi=>((l.length:Int)::(l.take i).flatMap aZ,(i:Int))) l.length (by simp[bC];omega) (λi hi=>?_) ?_
 ·dsimp only;unfold rB;have:=jN (l:=l.take i) λv J=>h v (Zr J);rw[if_pos (by simpa using hi),au hi,Z2,GV (h _ (List.getElem_mem hi)) (by simp at this⊢;omega),Z2,aP (by omega),nJ hi];rfl
 ·unfold rB wm;rw[if_neg (by simp)];simp[xH]
theorem sX{v:Ap}(h:Rgt v):oa v=some (aZ v):=by
 unfold oa;rw[wC (l:=[v]) (by simpa using h) (by simp),Z2];have:sub (xH [v]) 1 ((xH [v]).length:Int)=some (aZ v):=by have:=cx (xs:=xH [v]) (lo:=1) (hi:=(xH [v]).length) (by simp[xH]) (Z9 _);rw[show((1:Nat):Int)=1 from rfl]at this;rw[this];simp[xH]
 dsimp only;rw[this];rfl
theorem xI{v:Ap}(h:Rgt v):wv v=some (aZ v):=by unfold wv yS;cases h with
 |null=>simp[aZ,bC]|bool b=>cases b<;>simp[aZ,bC,app]|int n h=>simp only[bC,aU,aZ];rw[if_neg (by decide),if_neg (by decide),if_neg (by decide),if_pos (by decide),zd,Z2,aD (by simp[bB])];simp|text t h hl=>simp only[bC,aZ];rw[if_neg (by decide),if_neg (by decide),if_neg (by decide),if_neg (by decide),if_pos (by decide),aD (by simp),Z2,aD (by simp;omega)];simp;omega
end Go.Proofs.YthbonoagbeilkaaGreat.Hay
