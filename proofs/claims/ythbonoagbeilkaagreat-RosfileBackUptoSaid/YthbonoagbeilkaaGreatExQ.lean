import Derived.Test.YthbonoagbeilkaaGreatHbW
import Derived.Test.YthbonoagbeilkaaGreatHbA
set_option linter.unusedVariables false
set_option linter.unusedSimpArgs false
namespace Go.Proofs.YthbonoagbeilkaaGreat.Hay
open Option renaming bind_some→qk,getD_some→Qv
open List renaming take_succ_eq_append_getElem→Q0,getElem?_eq_getElem→Q2,replicate→Q5,getD_eq_getElem?_getD→Q6,getElem_mem→Q7,take_length→Q9,mem_cons→Qa,mem_append→Qb,length_append→Qg,getElem?_append_left→Qh,mem_of_mem_take→Qk,length_cons→Ql,eq_nil_of_length_eq_zero→Qo,drop_append_of_le_length→Qp,getElem?_drop→Qr,pairwise_cons→Qs,length_singleton→Qt,getElem?_append_right→Qu,drop_eq_getElem_cons→Qw,pairwise_iff_getElem→Qy,all_eq_true→Z1,ext_getElem→Z2,range→Z4,mem_of_getLast?→Z8,length_take→Z9,mem_map→Za,getLast?_eq_none_iff→Zb,drop_drop→Zd,foldl_cons→Zi,length→Zm
open Nat renaming le_of_ble_eq_true→Q1,eq_of_beq_eq_true→Q4,le_refl→Qe,pow_le_pow_right→Qm,mul_le_mul→Qx,add_zero→Qz,lt_of_lt_of_le→Z0,beq→Z3,eq_of_testBit_eq→Z5,mul_le_mul_right→Z6,two_pow_add_eq_or_of_lt→Z7,strongRecOn→Ze,le_trans→Zg,pow_succ→Zh,add_mul→Zj,ble→Zk,not_le→Zn,mul_comm→Zq
open Bool renaming and_eq_true→Q8,false_eq_true→Qc,not_eq_true→Zf,not_true→Zo
open Int renaming natCast_pow→Qi,eq_ofNat_of_zero_le→Qj,fdiv_eq_ediv_of_nonneg→Qq,toNat_natCast→Zc,le_of_lt→Zp
open BitVec renaming ofInt→Qd,toNat_ofInt→Qf
open IntKind renaming i64→kz,u64→Q3,u8→Qn,u32→Zl
section
variable {G:Sg}{P:Program}{δ:List Nat}{n:Nat}{W0:Bse}{L0:Rs}{T0:List (Nat×Value)}{m m0:M}{z:Cz}{st:St G}{a:Act}{w:World}{Γ:Tab P G}{D:List (CS P G)}
theorem xg {O:Type}{l:List O}{k i:Nat}(h:i<(l.drop k).length):fb (l.drop k) i=fb l i:=by
  induction l generalizing k with
  |nil=>simp
  | cons x l ih=>
    cases k with
    |zero=>rfl
    | succ k=>
      simp only[List.drop_succ_cons] at h ⊢;rw[ih h];have hi:i<l.length:=by simp at h;omega
      have:Z3 i l.length=false:=by
        cases hb:Z3 i l.length with
        |false=>rfl
        |true=>have:=Q4 hb;omega
      simp[fb,this]
theorem LR.drop {J:List (Nat×BC G)}{ps:List (Nat×Value)}{es:List (Nat×List Value)}(h:LR G m J ps es)(k:Nat):LR G m (J.drop k) (ps.drop k) (es.drop k):=by
  induction J generalizing ps es k with
  |nil=>cases ps<;>cases es<;>first|exact h.elim|(simp;exact trivial)
  | cons B J ih=>
    cases ps with
    |nil=>cases es<;>exact h.elim
    | cons p ps=>
      cases es with
      |nil=>exact h.elim
      | cons e es=>
        cases k with
        |zero=>exact h
        |succ k=>exact ih h.2.2 k
theorem TRl.drop {J:List Nat}{vs:List Value}{es:List (Nat×Value)}(h:TRl J vs es)(k:Nat):TRl (J.drop k) (vs.drop k) (es.drop k):=by
  induction J generalizing vs es k with
  |nil=>cases vs<;>cases es<;>first|exact h.elim|(simp;exact trivial)
  | cons s J ih=>
    cases vs with
    |nil=>cases es<;>exact h.elim
    | cons v vs=>
      cases es with
      |nil=>exact h.elim
      | cons e es=>
        cases k with
        |zero=>exact h
        |succ k=>exact ih h.2 k
theorem S.voids {L L':List (Nat×List Value)}{TL:List (Nat×Value)}(h:S W0 m w L TL)(W:∀(i:Nat)(e:Nat×List Value),L'[i]? =some e->e.2=[]\/L[i]? =some e):S W0 m w L' TL:=
  ⟨h.below,h.imm,λi e Z J=>(W i e Z).elim (λx=>absurd x J) (λx=>h.own i e x J),
   λi j e e' Z a1 a2 J a0=>(W i e Z).elim (λx=>absurd x J) (λx=>(W j e' a1).elim (λy=>absurd y a0) (λy=>h.nodup i j e e' x y a2 J a0)),h.tails,h.apart⟩
theorem sE {O:Type}{f:Nat->O}:∀{n:Nat},(mo f n).length=n
  |0=>rfl
  |n+1=>by simp[mo,sE]
theorem sF {O:Type}{f:Nat->O}:∀{n i:Nat} {y:O},fb (mo f n) i=some y->i<n/\y=f i
  |0,i,y,h=>by simp[mo,fb] at h
  | n +1,i,y,h=>by
    simp only[mo,fb,sE] at h;split at h
    · rename_i e
      have:=Q4 e;subst this;injection h with h
      exact⟨by omega,h.symm⟩
    ·have:=sF h;exact⟨by omega,this.2⟩
theorem LR.build {f:Nat->Nat×BC G}:∀{n:Nat} {J:List (Nat×BC G)} {ps:List (Nat×Value)} {es:List (Nat×List Value)},LR G m J ps es->J.length=n->(∀i,i<n->(f i).2= .gone\/ ∃s,fb J i=some (s,(f i).2))->
    ∃W,LR G m (mo f n) ps W/\W.length=es.length/\∀(i:Nat) (e:Nat×List Value),W[i]? =some e->e.2=[]\/es[i]? =some e
  | 0,J,ps,es,h,hl,_=>by
    have:J=[]:=Qo hl;subst this;cases ps<;>cases es<;>first|exact h.elim|exact⟨[],trivial,rfl,λi e he=> .inr he⟩
  |n+1,[],ps,es,h,hl,_=>by simp at hl
  |n+1,B::J,[],es,h,hl,_=>by cases es<;>exact h.elim
  |n+1,B::J,p::ps,[],h,hl,_=>h.elim
  | n + 1,B::J,p::ps,e::es,h,hl,hf=>by
    obtain⟨h1,h2,h3⟩:=h;have a0:J.length=n:=by simpa using hl
    obtain⟨W,k1,k2,k3⟩:=LR.build (f:=f) h3 a0 (λi hi=>by
      rcases hf i (by omega) with h|⟨s,h⟩
      ·exact .inl h
      · refine .inr ⟨s,?_⟩
        have:Z3 i J.length=false:=by
          cases hb:Z3 i J.length with
          |false=>rfl
          |true=>have:=Q4 hb;omega
        simp only[fb,this] at h
        exact h)
    rcases hf n (by omega) with hg|⟨s,hs⟩
    · refine⟨(p.1,[])::W,⟨rfl,by rw[hg];rfl,k1⟩,by simp[k2],λi x Z=>?_⟩
      cases i with
      |zero=>simp at Z;subst Z;exact .inl rfl
      |succ i=>exact k3 i x (by simpa using Z)
    · have:fb (B::J) n=some B:=by rw[←a0];exact jb
      rw[this] at hs;injection hs with hs
      refine⟨e::W,⟨h1,by rw[show(f n).2=B.2 by rw[hs]];exact h2,k1⟩,by simp[k2],λi x Z=>?_⟩;cases i with
      |zero=>exact .inr (by simpa using Z)
      |succ i=>exact k3 i x (by simpa using Z)
theorem fC.cut {Ls:List (Nat×BC G)}{Ts T':List Nat}{nb:Nat}{f:Nat->Nat×BC G}(h:fC G W0 L0 T0 Ls Ts m z w)(b0:nb<=Ls.length)(hf:∀i,i<nb->(f i).2= .gone\/ ∃s,fb Ls i=some (s,(f i).2))(hT:Ts.drop (Ts.length - T'.length)=T')(a5:L0.nm.length<=nb):
    ∃z',fC G W0 L0 T0 (mo f nb) T' m z' w/\(∀i p,i<nb->fb z.b i=some p->fb z'.b i=some p)/\(∀j v,j<T'.length->fb z.t j=some v->fb z'.t j=some v):=by
  obtain⟨Lc,Tc,h1,Z,hS,a2⟩:=h;have hl:=h1.len;have a6:=Z.len;have d1:=h1.drop (Ls.length - nb);have a3:(Ls.drop (Ls.length - nb)).length=nb:=by simp;omega
  obtain⟨a4,k1,k2,k3⟩:=LR.build (f:=f) d1 a3 (λi hi=>by
    rw[xg (by omega)];exact hf i hi)
  have d2:=Z.drop (Ts.length - T'.length);rw[hT] at d2
  have a9:T'.length<=Ts.length:=by
    have:=congrArg Zm hT;simp at this;omega
  refine⟨⟨z.b.drop (Ls.length - nb),z.t.drop (Ts.length - T'.length)⟩,⟨a4,Tc.drop (Ts.length - T'.length),k1,d2,?_,a2.drop (by omega)⟩,λi p hi hp=>?_,λj v hj hv=>?_⟩
  · have a1:=hS.dropL (Ls.length - nb)
    rw[Qp (by omega)] at a1;have a0:=a1.dropT (Ts.length - T'.length);rw[Qp (by omega)] at a0;refine a0.voids λi e J=>?_;rw[List.getElem?_append] at J ⊢;rw[k2] at J;split at J
    · rename_i W
      rw[if_pos W];exact k3 i e J
    · rename_i W
      rw[if_neg W];exact .inr J
  ·rw[xg (by simp;omega)];exact hp
  ·rw[xg (by simp;omega)];exact hv
theorem HZ {q:Nat}{c:Ty}(W:Sat G P δ n W0 L0 T0 m0 st a w):Sat G P δ n W0 L0 T0 m0 (nilT G q c st) a w/\Ext st.c st (nilT G q c st)/\(nilT G q c st).c=st.c:=by
  unfold nilT;split
  · rename_i lv h
    obtain⟨⟨m,z,h0,J,Z⟩,hdf,hsz⟩:=W;have a0:=Z.len;obtain⟨Lc,Tc,h1,h2,hS,a1⟩:=Z;have hv:a.tmps.getD q undef= .slice none 0 0:=J _ (gU h);refine⟨⟨⟨m,⟨z.b,.slice none 0 0::z.t⟩,h0,λe h=>?_,Lc,((c.kd G).sz,.slice none 0 0)::Tc,h1,⟨rfl,h2⟩,hS.tail0 _,a1⟩,hdf,hsz⟩,(Ext.envL (st:=st) (st':={ st with T:=(c.kd G).sz::st.T }) rfl rfl).trans (Ext.put (st:={ st with T:=(c.kd G).sz::st.T })),rfl⟩;rcases Qa.1 h with rfl|h
    · show RV _ m (a.tmps.getD q undef) _/\Tag _ _ _
      rw[hv];refine⟨cN,?_⟩;show fb (.slice none 0 0::z.t) st.T.length=_;rw[←a0.2];exact jb
    ·exact((J e (kJ h).1)).z (Zle.pushT z _)
  ·exact⟨W,Ext.refl _ _,rfl⟩
theorem vl {O:Type}:∀{l:List O} {i:Nat},i<l.length->∃y,fb l i=some y:=by
  intro l
  induction l with
  |nil=>intro i h;simp at h
  | cons a l ih=>
    intro i h;simp only[fb];split
    ·exact⟨_,rfl⟩
    · rename_i J
      have:i≠l.length:=λe=>by subst e;simp at J
      simp at h;exact ih (by omega)
theorem TRl.get2 {J:List Nat} {vs:List Value} {es:List (Nat×Value)} (h:TRl J vs es) {i s:Nat} {v:Value} (Z:fb J i=some s) (W:fb vs i=some v):
    i<J.length/\es[J.length - 1 - i]? =some (s,v)/\∀v',TRl J (sb vs i v') (es.set (J.length - 1 - i) (s,v')):=by
  induction J generalizing vs es with
  |nil=>cases vs<;>simp[fb] at Z
  | cons s0 J ih=>
    cases vs with
    |nil=>cases es<;>exact h.elim
    | cons v0 vs=>
      cases es with
      |nil=>exact h.elim
      | cons e es=>
        obtain⟨h1,h2⟩:=h;have hl:vs.length=J.length:=h2.len.1;simp only[fb] at Z W;rw[hl] at W;split at Z
        · rename_i hi
          rw[if_pos hi] at W;injection Z with Z;injection W with W
          subst Z;subst W;have hi':=Q4 hi;subst hi';have e0:(s0::J).length - 1 - J.length=0:=by simp
          rw[e0];refine⟨by simp,by simp[h1],λv'=>?_⟩;simp only[sb,hl,hi,if_true,List.set_cons_zero];exact⟨rfl,h2⟩
        · rename_i hi
          rw[if_neg hi] at W;obtain⟨g0,g1,g2⟩:=ih h2 Z W;have e0:(s0::J).length - 1 - i=(J.length - 1 - i)+1:=by simp;omega
          rw[e0];refine⟨by simp;omega,by simpa using g1,λv'=>?_⟩;simp only[sb,hl,hi,List.set_cons_succ];exact⟨h1,g2 v'⟩
theorem S.swapT {TL:List (Nat×Value)}{L:List (Nat×List Value)}(h:S W0 m w L TL){k1 k2:Nat}{Z e2:Nat×Value}(h1:TL[k1]? =some Z)(h2:TL[k2]? =some e2)(hk:k1≠k2):S W0 m w L ((TL.set k1 e2).set k2 Z):=by
  refine h.selT _ (λi=>if i=k1 then k2 else if i=k2 then k1 else i) (λi e J=>?_) (λi j W=>?_)
  · rw[List.getElem?_set] at J
    split at J
    · rename_i e
      subst e;split at J
      · injection J with J;subst J
        rw[if_neg (λe=>hk e.symm),if_pos rfl];exact h1
      ·cases J
    · rename_i hn
      rw[List.getElem?_set] at J;split at J
      · rename_i e
        subst e;split at J
        · injection J with J;subst J
          rw[if_pos rfl];exact h2
        ·cases J
      · rename_i a0
        rw[if_neg (λe=>a0 e.symm),if_neg (λe=>hn e.symm)];exact J
  ·split at W<;>split at W<;>(try split at W)<;>(try split at W)<;>omega
theorem Ext.er2 {j k:Nat}:Ext st.c st { st with env:=mQ k st.c (mQ j st.c st.env) }:=
  (Ext.er (st:=st) (j:=j)).trans (Ext.er (st:={ st with env:=mQ j st.c st.env }) (j:=k))
theorem H0 {q j:Nat}(hs:Sat G P δ n W0 L0 T0 m0 st a w):Sat G P δ n W0 L0 T0 m0 (Ad G q j st) a w/\Ext st.c st (Ad G q j st)/\(Ad G q j st).c=st.c:=by
  unfold Ad;split
  · rename_i lv t x h Z
    split
    ·exact⟨hs,Ext.refl _ _,rfl⟩
    · rename_i a1
      split
      · rename_i s s' hj a0
        split
        · rename_i a3
          subst a3;obtain⟨⟨m,z,h0,hr,hM⟩,hdf,hsz⟩:=hs;have a4:=hM.len;obtain⟨Lc,Tc,h1,J,hS,a2⟩:=hM;obtain⟨hv,W⟩:=hr _ (gU Z);simp only at hv W;have W:fb z.t h=some (a.tmps.getD q undef):=W;obtain⟨u,hu⟩:=vl (l:=z.t) (i:=j) (by rw[a4.2];exact uB hj);obtain⟨p1,p2,p3⟩:=J.get2 hj hu;obtain⟨q1,q2,q3⟩:=(p3 (a.tmps.getD q undef)).get2 a0 (show fb (sb z.t j _) h=_ by rw[jv (λe=>a1 e.symm)];exact W);obtain⟨_,r2,_⟩:=J.get2 a0 W;have hk:st.T.length - 1 - j≠st.T.length - 1 - h:=by omega
          refine⟨⟨⟨m,⟨z.b,sb (sb z.t j (a.tmps.getD q undef)) h u⟩,h0,λe Z=>?_,Lc,_,h1,q3 u,?_,a2⟩,hdf,hsz⟩,Ext.er2.trans (Ext.put (st:={ st with env:=mQ h st.c (mQ j st.c st.env) }) (d:=q)),rfl⟩
          · rcases Qa.1 Z with rfl|Z
            · refine⟨hv,?_⟩
              show fb (sb (sb z.t j (a.tmps.getD q undef)) h u) j=_;rw[jv a1,mZ hu]
            ·exact qz (qz hr) e (kJ Z).1
          · have:=hS.swapT (k1:=st.T.length - 1 - j) (k2:=st.T.length - 1 - h) (by rw[Qh (by have:=J.len.2;omega)];exact p2) (by rw[Qh (by have:=J.len.2;omega)];exact r2) hk
            rw[List.set_append_left _ _ (by have:=J.len.2;omega),List.set_append_left _ _ (by have:=J.len.2;simp;omega)] at this;exact this
        ·exact⟨hs,Ext.refl _ _,rfl⟩
      ·exact⟨hs,Ext.refl _ _,rfl⟩
  ·exact⟨hs,Ext.refl _ _,rfl⟩
theorem vm:∀{its:List It} {st:St G},Sat G P δ n W0 L0 T0 m0 st a w->Sat G P δ n W0 L0 T0 m0 (mR G its st) a w/\Ext st.c st (mR G its st)/\(mR G its st).c=st.c:=by
  intro its
  induction its with
  |nil=>intro st J;exact⟨J,Ext.refl _ _,rfl⟩
  | cons i its ih=>
    intro st J;unfold mR;split
    · rename_i h
      cases h
    · rename_i q lv c j r h
      injection h with h1 h2
      subst h2;obtain⟨k1,k2,k3⟩:=HZ (q:=q) (c:=c) J;obtain⟨l1,Z,l3⟩:=H0 (q:=q) (j:=j) k1;obtain⟨r1,W,r3⟩:=ih l1;rw[l3,k3] at W r3;rw[k3] at Z;exact⟨r1,k2.trans (Z.trans W),r3⟩
    · rename_i h
      injection h with h1 h2
      subst h2;exact ih J
theorem Jo {nT:Nat}{s:Sh}{b:AV G}{x:s.den G}(h:shX G nT s b=some x):s.mk G x=b/\∀t j,s= .dat t (some j)->j<nT:=by
  cases s with
  | dat t o=>
    unfold shX at h;dsimp only at h;cases hb:b.dt? with
    |none=>simp[hb] at h
    | some q=>
      simp only[hb] at h;have h':(if q.2.2=o/\Jn nT o=true then c8 G q.1 t q.2.1 else none)=some (show t.den G from x):=h;clear h;split at h'
      · rename_i Z
        obtain⟨J,Z⟩:=Z;obtain⟨e,h⟩:=bE h';rw[AV.dt_eq hb];obtain⟨t',x',o'⟩:=q;simp only at e J;subst e;subst J;subst h;exact⟨rfl,λt j e=>by injection e with e1 e2;rw[e2] at Z;exact Q1 Z⟩
      ·cases h'
  | ptr t=>
    unfold shX at h;dsimp only at h;cases hb:b.pt? with
    |none=>simp[hb] at h
    | some q=>
      simp only[hb] at h;obtain⟨e,h⟩:=bE h;rw[AV.pt_eq hb];obtain⟨t',x'⟩:=q;simp only at e;subst e;subst h;exact⟨rfl,λt j e=>by cases e⟩
  | fn1 c d=>
    unfold shX at h;dsimp only at h;cases hb:b.f1? with
    |none=>simp[hb] at h
    | some q=>
      simp only[hb] at h;split at h
      · rename_i hh
        rw[AV.f1_eq hb];obtain⟨a',b',f⟩:=q;obtain⟨J,W⟩:=hh;simp only at J W;subst J;subst W;injection h with h;subst h
        exact⟨rfl,λt j e=>by cases e⟩
      ·cases h
  | fn2 c e d=>
    unfold shX at h;dsimp only at h;cases hb:b.f2? with
    |none=>simp[hb] at h
    | some q=>
      simp only[hb] at h;split at h
      · rename_i hh
        rw[AV.f2_eq hb];obtain⟨a',c',b',f⟩:=q;obtain⟨J,W,h3⟩:=hh;simp only at J W h3;subst J;subst W;subst h3;injection h with h;subst h
        exact⟨rfl,λt j e=>by cases e⟩
      ·cases h
theorem OH {J:Nat}{s:Sh}{x:s.den G}{v:Value}{z':Cz}(h:(s.mk G x).Rel G P m z v)(W:∀t j,s= .dat t (some j)->j<J)(Z:∀j v,j<J->fb z.t j=some v->fb z'.t j=some v):(s.mk G x).Rel G P m z' v:=by
  cases s with
  | dat t o=>
    refine⟨h.1,?_⟩;cases o with
    |none=>trivial
    |some j=>exact Z _ _ (W t j rfl) h.2
  |_=>exact h
theorem tQ {Z:Nat}{s:Sh}{b:AV G}{x:s.den G}{v:Value}{z':Cz}(h:shX G Z s b=some x)(J:b.Rel G P m z v)(hz:∀j v,j<Z->fb z.t j=some v->fb z'.t j=some v):(s.mk G x).Rel G P m z' v/\s.mk G x=b:=by
  obtain⟨W,h2⟩:=Jo h;rw[←W] at J;exact⟨OH J h2 hz,W⟩
theorem Jp {W:Nat}{s:Sh}{b:AV G}{x:s.den G}{v:Value}{z':Cz}(h:shA Γ W s b=some x)(Z:b.Rel G P m z v)(hz:∀j v,j<W->fb z.t j=some v->fb z'.t j=some v):(s.mk G x).Rel G P m z' v:=by
  cases s with
  | dat t o=>
    cases o with
    | none=>
      have J:b.as Γ t=some x:=h;exact⟨AV.as_rel J Z,trivial⟩
    | some j=>
      have J:shX G W (.dat t (some j)) b=some x:=h;exact(tQ J Z hz).1
  | ptr t=>
    have J:shX G W (.ptr t) b=some x:=h;exact(tQ J Z hz).1
  | fn1 c d=>
    have J:shX G W (.fn1 c d) b=some x:=h;exact(tQ J Z hz).1
  | fn2 c e d=>
    have J:shX G W (.fn2 c e d) b=some x:=h;exact(tQ J Z hz).1
theorem H1 {q lv:Nat}{s:Sh}{its:List It}{u:s.den G}{y:eM G its}:kV G (.v q lv s::its) (mkI G (.v q lv s) its u y)=(q,lv,.one (s.mk G u))::kV G its y:=by
  cases its<;>rfl
theorem H2 {i lv:Nat}{t:Ty}{its:List It}{u:t.den G}{y:eM G its}:kV G (.b i lv t::its) (mkI G (.b i lv t) its u y)=kV G its y:=by
  cases its<;>rfl
theorem H3 {i lv:Nat}{t:Ty}{nn:Option Nat}{its:List It}{u:List (t.den G)}{y:eM G its}:kV G (.a i lv t nn::its) (mkI G (.a i lv t nn) its u y)=kV G its y:=by
  cases its<;>rfl
theorem H4 {q lv:Nat}{s:Sh}{its:List It}{u:s.den G}{y:eM G its}{k:Nat}:dS G (.v q lv s::its) (mkI G (.v q lv s) its u y) k=dS G its y k:=by
  cases its<;>rfl
theorem H5 {i lv:Nat}{t:Ty}{its:List It}{u:t.den G}{y:eM G its}{k:Nat}:dS G (.b i lv t::its) (mkI G (.b i lv t) its u y) k=if Z3 i k then some (lv,.dat t u) else dS G its y k:=by
  cases its<;>rfl
theorem H6 {i lv:Nat}{t:Ty}{nn:Option Nat}{its:List It}{u:List (t.den G)}{y:eM G its}{k:Nat}:dS G (.a i lv t nn::its) (mkI G (.a i lv t nn) its u y) k=if Z3 i k then some (lv,.arr t nn u) else dS G its y k:=by
  cases its<;>rfl
theorem vn {nT:Nat} {z':Cz} (hE:jw G P m z st.env a) (hz:∀j v,j<nT->fb z.t j=some v->fb z'.t j=some v):∀{its:List It} {x:eM G its},mh Γ nT st its=some x->
    ∀e∈kV G its x,e.2.2.Rel G P m z' (a.tmps.getD e.1 undef)/\(e.2.1<st.c->∃lv,lv<=e.2.1/\(e.1,lv,e.2.2)∈st.env):=by
  intro its
  induction its with
  |nil=>intro x h e J;cases J
  | cons i its ih=>
    intro x h;cases i with
    | v q lv s=>
      simp only[mh] at h;split at h
      · rename_i a0 b y Z W
        split at h
        · rename_i a2
          split at h
          · rename_i u hu
            injection h with h
            subst h;intro e J;rw[H1] at J;rcases Qa.1 J with rfl|J
            · have hr:b.Rel G P m z (a.tmps.getD q undef):=hE _ (gU Z)
              split at hu
              · rename_i hc
                exact⟨Jp hu hr hz,λh=>absurd h (by show ¬ lv<st.c;omega)⟩
              · obtain⟨k1,k2⟩:=tQ hu hr hz
                exact⟨k1,λa3=>⟨a0,a2.resolve_left (Zn.2 a3),by rw[k2];exact gU Z⟩⟩
            ·exact ih W e J
          ·cases h
        ·cases h
      ·cases h
    | b i lv t=>
      simp only[mh] at h;split at h
      · rename_i a0 t' u y Z W
        split at h
        · split at h
          · injection h with h
            subst h;intro e J;rw[H2] at J;exact ih W e J
          ·cases h
        ·cases h
      ·cases h
    | a i lv t nn=>
      simp only[mh] at h;split at h
      · rename_i a0 t' n' u y Z W
        split at h
        · split at h
          · injection h with h
            subst h;intro e J;have a1:e∈kV G its y:=by rw[←H3 (i:=i) (lv:=lv) (t:=t) (nn:=nn)];exact J
            exact ih W e a1
          ·cases h
        ·cases h
      ·cases h
theorem vo {nT:Nat}:∀{its:List It} {x:eM G its},mh Γ nT st its=some x->∀k e,dS G its x k=some e->∃lv,(e.1<st.c->lv<=e.1)/\fb st.L k=some (lv,e.2):=by
  intro its
  induction its with
  |nil=>intro x h k e J;cases J
  | cons i its ih=>
    intro x h;cases i with
    | v q lv s=>
      simp only[mh] at h;split at h
      · rename_i a1 b y hq hy
        split at h
        · split at h
          · injection h with h
            subst h;intro k e J;rw[H4] at J;exact ih hy k e J
          ·cases h
        ·cases h
      ·cases h
    | b i lv t=>
      simp only[mh] at h;split at h
      · rename_i a1 t' u y hq hy
        split at h
        · rename_i Z
          split at h
          · rename_i u' W
            obtain⟨e,W⟩:=bE W;subst e;subst W;injection h with h
            subst h;intro k e J;rw[H5] at J;split at J
            · rename_i hb
              have:=Q4 hb;subst this;injection J with J;subst J
              exact⟨a1,λa2=>Z.resolve_left (Zn.2 a2),hq⟩
            ·exact ih hy k e J
          ·cases h
        ·cases h
      ·cases h
    | a i lv t nn=>
      simp only[mh] at h;split at h
      · rename_i a1 t' n' u y hq hy
        split at h
        · rename_i Z
          obtain⟨Z,rfl⟩:=Z;split at h
          · rename_i u' W
            obtain⟨e,W⟩:=bE W;injection e with e
            subst e;subst W;injection h with h
            subst h;intro k e J;have a0:=(H6 (G:=G) (i:=i) (lv:=lv) (t:=t')).symm.trans J;clear J;split at a0
            · rename_i hb
              have:=Q4 hb;subst this;injection a0 with a0;subst a0
              exact⟨a1,λa2=>Z.resolve_left (Zn.2 a2),hq⟩
            ·exact ih hy k e a0
          ·cases h
        ·cases h
      ·cases h
end
section
variable {G:Sg}{P:Program}{δ:List Nat}{n:Nat}{W0:Bse}{L0:Rs}{T0:List (Nat×Value)}{m m0:M}{z:Cz}{st:St G}{a:Act}{w:World}{Γ:Tab P G}{D:List (CS P G)}
theorem Fx.is_eq {f:Fx}{b:AV G}(h:f.is b=true):b=f.mk G:=by
  cases f<;>cases b<;>simp[Fx.is] at h<;>simp[Fx.mk,h]
theorem Gi {nb:Nat}:∀{W:List (Nat×Nat×Fx)},CK st nb W=true->∀e∈W,∃a0,lke st.env e.1=some (a0,.one (e.2.2.mk G))/\(e.2.1<st.c->a0<=e.2.1)/\(∀i,e.2.2= .blk i->i<nb)/\(∀i,e.2.2= .own i->i<nb):=by
  intro W
  induction W with
  |nil=>intro _ e Z;cases Z
  | cons x W ih=>
    intro h e Z;obtain⟨q,lv,f⟩:=x;simp only[CK,Q8] at h;rcases Qa.1 Z with rfl|Z
    · obtain⟨J,_⟩:=h
      split at J
      · rename_i a0 b hq
        simp only[Q8] at J;obtain⟨⟨J,h2⟩,h3⟩:=J;have:=Fx.is_eq h2;subst this;refine⟨a0,hq,λa1=>?_,λi hi=>?_,λi hi=>?_⟩
        · rcases Bool.or_eq_true_iff.1 J with J|J
          ·exact absurd (Q1 J) (Zn.2 a1)
          ·exact Q1 J
        ·simp only at hi;subst hi;exact Q1 h3
        ·simp only at hi;subst hi;exact Q1 h3
      ·cases J
    ·exact ih h.2 e Z
theorem Tm.ok {T:Tm}{x:eM G T.its}(b0:L0.nm.length<=T.nb)(h:T.fit Γ st=some x)(hs:Sat G P δ n W0 L0 T0 m0 st a w):Sat G P δ n W0 L0 T0 m0 (T.st G st.c x) a w/\Ext st.c st (T.st G st.c x):=by
  obtain⟨b3,b4,a5⟩:=vm (its:=T.its) hs;unfold Tm.fit at h;simp only at h;generalize mR G T.its st=st1 at*;split at h
  · rename_i hc
    simp only[Q8] at hc;obtain⟨⟨a0,a2⟩,hT⟩:=hc;have hT:=of_decide_eq_true hT;have a2:=Q1 a2;have a0:=Gi a0;obtain⟨⟨m,z,h0,hr,hM⟩,hdf,hsz⟩:=b3;have a4:=vo h
    obtain⟨z',a9,a3,b1⟩:=fC.cut (f:=λi=>match dS G T.its x i with|some e=>e|none=>(st.c,.gone)) hM a2 (λi hi=>by
      cases hi:dS G T.its x i with
      |none=>exact .inl rfl
      |some e=>obtain⟨lv,_,h2⟩:=a4 i e hi;exact .inr ⟨lv,h2⟩) hT b0
    have a1:=vn hr b1 h;refine⟨⟨⟨m,z',h0,λe J=>?_,a9⟩,hdf,hsz⟩,?_⟩
    · rcases Qb.1 J with J|J
      · obtain⟨f,hf,rfl⟩:=Za.1 J
        obtain⟨a6,k1,k2,k3,k4⟩:=a0 f hf;have W:=hr _ (gU k1);show AV.Rel G P m z' (f.2.2.mk G) _;cases hff:f.2.2 with
        |blk i=>rw[hff] at W;obtain⟨p,q1,q2⟩:=W;exact⟨p,a3 i p (k3 i hff) q1,q2⟩
        |own i=>rw[hff] at W;obtain⟨p,q1,q2⟩:=W;exact⟨p,a3 i p (k4 i hff) q1,q2⟩
        |nils=>rw[hff] at W;exact W
        |und=>rw[hff] at W;exact W
      ·exact(a1 e J).1
    · rw[a5] at a1
      refine b4.trans ⟨λk hk e J hl=>?_,λk hk i s B hb b2=>?_⟩
      · rcases Qb.1 J with J|J
        · obtain⟨f,hf,rfl⟩:=Za.1 J
          obtain⟨a6,k1,k2,_⟩:=a0 f hf;have hl:f.2.1<=k:=hl;exact⟨a6,Zg (k2 (by rw[a5];omega)) hl,gU k1⟩
        · obtain⟨lv,k1,k2⟩:=(a1 e J).2 (by omega)
          exact⟨lv,Zg k1 hl,k2⟩
      · obtain⟨_,Z⟩:=sF hb
        cases hi:dS G T.its x i with
        | none=>
          rw[hi] at Z;injection Z with Z _;omega
        | some e=>
          rw[hi] at Z;simp only at Z;subst Z;obtain⟨lv,k1,k2⟩:=a4 i _ hi;exact⟨lv,Zg (k1 (by simp only;omega)) b2,k2⟩
  ·cases h
theorem oK {env:List (Nat×Nat×EV G)}{d:Nat}:∀{ks:List Nat} {e:Nat×Nat×EV G},e∈pN env d ks->e.1∈ks/\∃lv,lke env e.1=some (lv,e.2.2)/\e.2.1=min lv d:=by
  intro ks
  induction ks with
  |nil=>intro e h;cases h
  | cons q ks ih=>
    intro e h;simp only[pN] at h;split at h
    · rename_i lv ev Z
      rcases Qa.1 h with rfl|h
      ·exact⟨by simp,lv,Z,rfl⟩
      ·obtain⟨J,W⟩:=ih h;exact⟨by simp[J],W⟩
    ·obtain⟨J,W⟩:=ih h;exact⟨by simp[J],W⟩
theorem Ae {d:Nat}:∀{its:List It} {x:eM G its},om d its=true->∀e∈kV G its x,e.2.1=d+1:=by
  intro its
  induction its with
  |nil=>intro x _ e J;cases J
  | cons i its ih=>
    intro x h e J;cases i with
    | v q lv s=>
      simp only[om,Q8] at h;rcases Qa.1 J with rfl|J
      ·exact Q4 h.1
      ·exact ih h.2 e J
    | b i lv t=>
      simp only[om,Q8] at h;exact ih h.2 e J
    | a i lv t nn=>
      simp only[om,Q8] at h;exact ih h.2 e J
theorem Gj {d:Nat}:∀{its:List It} {x:eM G its},om d its=true->∀k e,dS G its x k=some e->e.1=d+1:=by
  intro its
  induction its with
  |nil=>intro x _ k e J;cases J
  | cons i its ih=>
    intro x h k e J;cases i with
    | v q lv s=>
      simp only[om,Q8] at h;exact ih h.2 k e J
    | b i lv t=>
      simp only[om,Q8] at h;simp only[dS] at J;split at J
      ·injection J with J;subst J;exact Q4 h.1
      ·exact ih h.2 k e J
    | a i lv t nn=>
      simp only[om,Q8] at h;simp only[dS] at J;split at J
      ·injection J with J;subst J;exact Q4 h.1
      ·exact ih h.2 k e J
theorem yf {k:Nat}:∀{its:List It} {x:eM G its},qC k its=(dS G its x k).isSome:=by
  intro its
  induction its with
  |nil=>intro x;rfl
  | cons i its ih=>
    intro x;cases i with
    |v q lv s=>exact ih
    | b i lv t=>
      simp only[qC,dS];cases Z3 i k with
      |true=>rfl
      |false=>simpa using ih
    | a i lv t nn=>
      simp only[qC,dS];cases Z3 i k with
      |true=>rfl
      |false=>simpa using ih
theorem AV.Rel.z2 {m1 m:M}{z1 z z':Cz}{b:AV G}{v1 v:Value}(h1:b.Rel G P m1 z1 v1)(h:b.Rel G P m z v)(hb:∀i p1 p,fb z1.b i=some p1->fb z.b i=some p->fb z'.b i=some p)(ht:∀j u1 u,fb z1.t j=some u1->fb z.t j=some u->fb z'.t j=some u):b.Rel G P m z' v:=by
  cases b with
  | dat t x o=>
    refine⟨h.1,?_⟩;cases o with
    |none=>trivial
    |some j=>exact ht j _ _ h1.2 h.2
  |loc i a b A=>obtain⟨p,J,W⟩:=h;obtain⟨p1,Z,_⟩:=h1;exact⟨p,hb _ _ _ Z J,W⟩
  |elp i j a b A=>obtain⟨p,J,W⟩:=h;obtain⟨p1,Z,_⟩:=h1;exact⟨p,hb _ _ _ Z J,W⟩
  |blk i=>obtain⟨p,J,W⟩:=h;obtain⟨p1,Z,_⟩:=h1;exact⟨p,hb _ _ _ Z J,W⟩
  |own i=>obtain⟨p,J,W⟩:=h;obtain⟨p1,Z,_⟩:=h1;exact⟨p,hb _ _ _ Z J,W⟩
  |_=>exact h
theorem EV.Rel.z2 {m1 m:M}{Z z z':Cz}{e:EV G}{v1 v:Value}(h1:e.Rel G P m1 Z v1)(h:e.Rel G P m z v)(hb:∀i p1 p,fb Z.b i=some p1->fb z.b i=some p->fb z'.b i=some p)(ht:∀j u1 u,fb Z.t j=some u1->fb z.t j=some u->fb z'.t j=some u):e.Rel G P m z' v:=by
  cases e with
  |one b=>exact AV.Rel.z2 h1 h hb ht
  | tup asv=>
    obtain⟨J,k0,k1⟩:=h1;obtain⟨vs,k2,W⟩:=h;refine⟨vs,k2,?_⟩;clear k2 k0
    induction asv generalizing vs J with
    |nil=>cases vs<;>exact W
    | cons b asv ih=>
      cases vs with
      |nil=>exact W
      | cons v vs=>
        cases J with
        |nil=>exact k1.elim
        |cons v1 J=>exact⟨AV.Rel.z2 k1.1 W.1 hb ht,ih J k1.2 vs W.2⟩
structure CL (T:Lt)(st:St G):Prop where
  len:st.L.length=T.nb
  tls:st.T=T.T
  nd:rD T.keep=true
  lv:om st.c T.its=true
  keep:∀q∈T.keep,∃e,lke st.env q=some e
theorem Lt.fit_ok {T:Lt}{J:St G}{x:eM G T.its}(h:T.fit Γ st=some (J,x)):J=mR G T.its st/\CL T J/\mh Γ T.T.length J T.its=some x:=by
  unfold Lt.fit at h;simp only at h;split at h
  · rename_i W
    split at h
    · rename_i y hy
      injection h with h
      injection h with h1 h2
      subst h1;subst h2;simp only[Q8] at W;obtain⟨⟨⟨⟨c1,Z⟩,c3⟩,c4⟩,c5⟩:=W;refine⟨rfl,⟨Q4 c1,of_decide_eq_true Z,c3,c4,λq hq=>?_⟩,hy⟩;exact Option.isSome_iff_exists.1 (Z1.1 c5 q hq)
    ·cases h
  ·cases h
theorem Lt.entry {T:Lt}{h:St G}{x:eM G T.its}(hs:Sat G P δ n W0 L0 T0 m0 h a w)(J:CL T h)(hf:mh Γ T.T.length h T.its=some x):Sat G P δ n W0 L0 T0 m0 (T.st G h x) a w:=by
  obtain⟨⟨m,z,h0,hr,hM⟩,hdf,hsz⟩:=hs;have Z:=hM.len;have a5:=vo hf
  obtain⟨z',a1,a4,a0⟩:=fC.cut (T':=T.T) (nb:=T.nb) (f:=λi=>match dS G T.its x i with|some e=>e|none=>(match fb h.L i with|some e=>(min e.1 h.c,e.2)|none=>(0,.gone))) hM (by rw[J.len];exact Qe _) (λi hi=>by
      cases hi:dS G T.its x i with
      | none=>
        cases hj:fb h.L i with
        |none=>exact .inl (by simp)
        |some e=>exact .inr ⟨e.1,by simp⟩
      |some e=>obtain⟨lv,_,h2⟩:=a5 i e hi;exact .inr ⟨lv,h2⟩) (by rw[J.tls];simp) (by obtain⟨_,_,_,_,_,a3⟩:=hM;have:=a3.len;rw[Z.1,J.len] at this;exact this)
  have hz:Zle z z':=⟨λi p hp=>a4 i p (by have:=uB hp;rw[Z.1,J.len] at this;exact this) hp,λj v hv=>a0 j v (by have:=uB hv;rw[Z.2,J.tls] at this;exact this) hv⟩
  have a2:=vn hr a0 hf;refine⟨⟨m,z',h0,λe W=>?_,a1⟩,hdf,hsz⟩;rcases Qb.1 W with W|W
  ·exact(a2 e W).1
  · obtain⟨_,lv,h1,_⟩:=oK W
    exact(hr _ (gU h1)).z hz
theorem Lt.ext {T:Lt}{W:St G}{s:eM G T.its}(Z:CL T W):Ext W.c W (T.st G W s):=by
  refine⟨λk a0 e h hl=>?_,λk a0 i sl B hb a1=>?_⟩
  · rcases Qb.1 h with h|h
    ·have:=Ae Z.lv e h;omega
    · obtain⟨_,lv,h1,h2⟩:=oK h
      exact⟨lv,by omega,gU h1⟩
  · obtain⟨hi,J⟩:=sF hb
    cases hit:dS G T.its s i with
    | some e=>
      rw[hit] at J;have:=Gj Z.lv i e hit;simp only at J;subst J;simp only at this;omega
    | none=>
      rw[hit] at J;obtain⟨e,h⟩:=vl (l:=W.L) (i:=i) (by rw[Z.len];exact hi);simp only[h] at J;injection J with h1 h2
      subst h2;exact⟨e.1,by omega,h⟩
theorem D9 {env:List (Nat×Nat×EV G)}{d q lv:Nat}{e:EV G}:∀{ks:List Nat},(q,lv,e)∈pN env d ks->∃J,lke env q=some (J,e):=by
  intro ks h;obtain⟨_,J,W,_⟩:=oK h;exact⟨J,W⟩
theorem Lt.back_ok {T:Lt} {h st':St G} {s s':eM G T.its} {a0:Act} {w0:World} (hk:CL T h) (h0:Sat G P δ n W0 L0 T0 m0 (T.st G h s) a0 w0) (a4:Sat G P δ n W0 L0 T0 m0 st' a w) (b0:Ext (h.c+1) (T.st G h s) st') (hc:st'.c=h.c+1)
    (hb:T.back Γ h.c st'=some s'):Sat G P δ n W0 L0 T0 m0 (T.st G h s') a w:=by
  obtain⟨hs,a2,e6⟩:=vm (its:=T.its) a4;unfold Lt.back at hb;simp only at hb;rw[hc] at a2;have hx:=b0.trans a2;clear a2 b0 a4;generalize mR G T.its st'=st' at*;obtain⟨⟨m1,z1,_,e0,b1⟩,_,_⟩:=h0;have a3:=b1.len;have a6:(T.st G h s).L.length=T.nb:=sE;obtain⟨⟨m,z,c5,hr,hM⟩,hdf,hsz⟩:=hs;split at hb
  · rename_i a1
    unfold D8 at a1;simp only[Q8] at a1;obtain⟨⟨⟨c1,c2⟩,c3⟩,c4⟩:=a1;have c7:=vo hb
    have d2:∀i,i<T.nb->dS G T.its s' i=none->∃sl e,fb h.L i=some e/\fb st'.L i=some (sl,e.2):=by
      intro i hi hn;have J:=Z1.1 c4 i (by simpa using hi);have a9:qC i T.its=false:=by rw[yf (G:=G) (x:=s'),hn];rfl
      rw[a9,Bool.false_or] at J;split at J
      · rename_i lv B hB
        have d1:=Q1 J;obtain⟨sl,_,h6⟩:=hx.blk h.c (Nat.lt_succ_self _) i lv B hB d1;obtain⟨_,hy⟩:=sF h6
        have c6:dS G T.its s i=none:=by
          have:=yf (G:=G) (x:=s) (k:=i);rw[a9] at this;cases hq:dS G T.its s i with
          |none=>rfl
          |some e=>rw[hq] at this;cases this
        rw[c6] at hy;obtain⟨e,W⟩:=vl (l:=h.L) (i:=i) (by rw[hk.len];exact hi);simp only[W] at hy;injection hy with _ hy
        subst hy;exact⟨lv,e,W,hB⟩
      ·cases J
    obtain⟨z',b5,c0,a5⟩:=fC.cut (T':=T.T) (nb:=T.nb) (f:=λi=>match dS G T.its s' i with|some e=>e|none=>(match fb h.L i with|some e=>(min e.1 h.c,e.2)|none=>(0,.gone))) hM (Q1 c2) (λi hi=>by
        cases hii:dS G T.its s' i with
        | none=>
          obtain⟨sl,e,h1,Z⟩:=d2 i hi hii;exact .inr ⟨sl,by simp[h1,Z]⟩
        |some e=>obtain⟨lv,_,Z⟩:=c7 i e hii;exact .inr ⟨lv,Z⟩) (of_decide_eq_true c3) (by obtain⟨_,_,_,_,_,b7⟩:=b1;have:=b7.len;rw[a3.1,a6] at this;exact this)
    have b6:=vn hr a5 hb;refine⟨⟨m,z',c5,λe W=>?_,b5⟩,hdf,hsz⟩;rcases Qb.1 W with W|W
    ·exact(b6 e W).1
    · obtain⟨hq,lv,h1,_⟩:=oK W
      have Z:=Z1.1 c1 e.1 hq;split at Z
      · rename_i e3 b2 b3
        obtain⟨e4,h3,J⟩:=hx.env h.c (Nat.lt_succ_self _) (e.1,e3,b2) (gU b3) (Q1 Z)
        have d0:b2=e.2.2:=by
          rcases Qb.1 J with J|J
          · have:=Ae hk.lv _ J
            simp only at this;omega
          · obtain⟨e5,h5⟩:=D9 J
            rw[h1] at h5;injection h5 with h5;injection h5 with _ h5
            exact h5.symm
        subst d0;have r1:=e0 e (Qb.2 (.inr W));have r2:=hr _ (gU b3);refine EV.Rel.z2 r1 r2 (λi p1 p b4 hp=>c0 i p ?_ hp) (λj u1 u e1 hu=>a5 j u ?_ hu)
        ·have:=uB b4;rw[a3.1,a6] at this;exact this
        ·have:=uB e1;rw[a3.2] at this;exact this
      ·cases Z
  ·cases hb
end
section
variable {G:Sg}{P:Program}{δ:List Nat}{n:Nat}{W0:Bse}{L0:Rs}{T0:List (Nat×Value)}{m0:M}{Γ:Tab P G}{D:List (CS P G)}{ro:Option Nat}
theorem Bn {ρ:Type}{id:Nat}{ops:Array Oper}{dr:Bool}{st:St G}{K':St G->Option ρ}{r:ρ}{a:Act}{w:World}{NP RP:Act->World->Prop}{XP:List (Nat×(Act->World->Prop))}(a0:P.follows .mixedOrders=true)(h:vi n Γ D ops.toList dr st K'=some r)(W:Sat G P δ n W0 L0 T0 m0 st a w)
  (Z:Nxt G P δ n W0 L0 T0 m0 K' r st NP):K ro P (.region id ops dr) NP XP RP a w:=by
 obtain⟨os⟩:=ops;cases dr with
 |false=>exact aj (vh h W λst' a' w' h1 h2 h3 h4=>ag (Z st' a' w' h1 h2 h3 h4))
 | true=>
  unfold vi at h;simp only at h;split at h
  ·rename_i k hk
   split at h
   ·rename_i J
    simp only[Q8] at J;split at h
    ·rename_i a1
     exact Gh a1 a0 W (zX J.1 J.2) (MW hk) h Z
    ·cases h
   ·cases h
  split at h
  ·rename_i J
   simp only[Q8] at J;split at h
   ·rename_i a1
    exact HX a1 a0 W (zX J.1.1 J.2) J.1.2 h Z
   ·split at h
    ·rename_i hg
     exact Ge a0 W (zX J.1.1 J.2) J.1.2 hg h Z
    ·cases h
  ·cases h
theorem BP {σ ρ:Type}{x:Option ρ}{r:σ⊕ρ}(h:x.map Sum.inr=some r):∃o,x=some o/\r= .inr o:=by
 cases x with
 |none=>cases h
 |some o=>injection h with h;exact⟨o,rfl,h.symm⟩
theorem Af {np:Nat}(b5:L0.nm.length<=np)(b4:P.follows .mixedOrders=true):∀(c:Code) {ρ:Type} (A:An G ρ) (st:St G) (N:St G->Option ρ) (X:Nat->St G->Option ρ) (R:St G->Option ρ) (r:ρ) (a:Act) (w:World) (NP W:Act->World->Prop) (XP:List (Nat×(Act->World->Prop))),
  ex n Γ D c A st N X R=some r->Obl np n Γ D c A st.c N X R->Sat G P δ n W0 L0 T0 m0 st a w->Nxt G P δ n W0 L0 T0 m0 N r st NP->
  (∀j,Nxt G P δ n W0 L0 T0 m0 (X j) r st (λa w=>∃e,XP.find? (λe=>Z3 e.1 j)=some e/\e.2 a w))->Nxt G P δ n W0 L0 T0 m0 R r st W->K ro P c NP XP W a w:=by
 intro c
 induction c with
 |skip=>intro ρ A st N X R r a w NP W XP h _ Z hN _ _;exact aR (hN st a w h Z (Ext.refl _ _) rfl)
 |label l=>intro ρ A st N X R r a w NP W XP h _ Z hN _ _;exact Dy (hN st a w h Z (Ext.refl _ _) rfl)
 |region id ops dr=>intro ρ A st N X R r a w NP W XP h _ Z hN _ _;exact Bn b4 h Z hN
 |exit id=>
  intro ρ A st N X R r a w NP W XP h _ Z _ hX _;obtain⟨e,h1,h2⟩:=hX id st a w h Z (Ext.refl _ _) rfl;exact eG h1 rfl h2
 |ret=>intro ρ A st N X R r a w NP W XP h _ Z _ _ hR;exact bd (hR st a w h Z (Ext.refl _ _) rfl)
 | seq x y ihx ihy=>
  intro ρ A st N X R r a w NP W XP h hO Z hN hX hR
  have a0:∀{Ax Ay:An G ρ},ex n Γ D x Ax st (λst'=>ex n Γ D y Ay st' N X R) X R=some r->Obl np n Γ D x Ax st.c (λst'=>ex n Γ D y Ay st' N X R) X R->Obl np n Γ D y Ay st.c N X R->K ro P (.seq x y) NP XP W a w:=by
   intro Ax Ay h a4 a5;refine ab (ihx Ax st _ X R r a w _ W XP h a4 Z (λst' a' w' h1 h2 h3 h4=>?_) hX hR);exact ihy Ay st' N X R r a' w' NP W XP h1 (by rw[h4];exact a5) h2 (hN.later h3 h4) (λj=>(hX j).later h3 h4) (hR.later h3 h4)
  cases A with
  |s l r'=>exact a0 h hO.1 hO.2
  | c l T J r'=>
   obtain⟨o1,o0,o2,o3⟩:=hO;refine ab (ihx l st _ X R r a w _ W XP h o1 Z (λst' a' w' h1 h2 h3 h4=>?_) hX hR);split at h1
   ·rename_i v hv
    obtain⟨k1,k2⟩:=Tm.ok (Zg b5 (Q1 o0)) hv h2;rw[h4] at k1 k2;have hx:=h3.trans k2;refine ihy r' (T.st G st.c v) N X R r a' w' NP W XP (by rw[o2 v];exact h1) o3 k1 (hN.later hx rfl) (λj=>(hX j).later hx rfl) (hR.later hx rfl)
   ·cases h1
  |_=>exact a0 h (Obl.o ..) (Obl.o ..)
 | cond cnd x y ihx ihy=>
  intro ρ A st N X R r a w NP W XP h hO Z hN hX hR;unfold ex at h;split at h
  ·rename_i v hv
   split at h
   ·rename_i b hb
    obtain⟨⟨m,z,h0,hr,hM⟩,hdf,hsz⟩:=Z;have Z:Sat G P δ n W0 L0 T0 m0 st a w:=⟨⟨m,z,h0,hr,hM⟩,hdf,hsz⟩
    have b6:=AV.b_rel hb (aV (eL hr) hv)
    have a0:∀{Ax Ay:An G ρ},(if b=true then ex n Γ D x Ax st N X R else ex n Γ D y Ay st N X R)=some r->Obl np n Γ D x Ax st.c N X R->Obl np n Γ D y Ay st.c N X R->K ro P (.cond cnd x y) NP XP W a w:=by
     intro Ax Ay h a4 a5;refine wpIn_cond_split b6 (λhb=>?_) (λhb=>?_)
     ·rw[if_pos hb] at h
      exact ihx Ax st N X R r a w NP W XP h a4 Z hN hX hR
     ·rw[if_neg (by rw[hb];decide)] at h
      exact ihy Ay st N X R r a w NP W XP h a5 Z hN hX hR
    cases A with
    |i l r'=>exact a0 h hO.1 hO.2
    |_=>exact a0 h (Obl.o ..) (Obl.o ..)
   ·cases h
  ·cases h
 | block id c ih=>
  intro ρ A st N X R r a w NP W XP h hO Z hN hX hR
  have a0:∀{Ac:An G ρ},ex n Γ D c Ac st N (λj st'=>match Z3 j id with|true=>N st'|false=>X j st') R=some r->Obl np n Γ D c Ac st.c N (λj st'=>match Z3 j id with|true=>N st'|false=>X j st') R->K ro P (.block id c) NP XP W a w:=by
   intro Ac h c1;refine aW (ih Ac st N _ R r a w NP W _ h c1 Z hN (λj st' a' w' h1 h2 h3 h4=>?_) hR);split at h1
   ·rename_i hj
    have:=Q4 hj;subst this;exact⟨(j,NP),by simp[List.find?],hN st' a' w' h1 h2 h3 h4⟩
   ·rename_i hj
    obtain⟨e,q1,q2⟩:=hX j st' a' w' h1 h2 h3 h4
    have b7:Z3 id j=false:=by
     cases hb:Z3 id j with
     |false=>rfl
     |true=>
      have:=Q4 hb;subst this;simp at hj
    exact⟨e,by simp only[List.find?,b7];exact q1,q2⟩
  cases A with
  |b x=>exact a0 h hO
  |_=>exact a0 h (Obl.o ..)
 |scope c ih=>
  intro ρ A st N X R r a w NP W XP h hO Z hN hX hR;cases A with
  |b x=>exact zd (ih x st N X R r a w NP W XP h hO Z hN hX hR)
  |_=>exact zd (ih .o st N X R r a w NP W XP h (Obl.o ..) Z hN hX hR)
 | loop c ih=>
  intro ρ A st N X R r a w NP W XP h hO Z hN hX hR;cases A with
  | l T b=>
   unfold ex at h;simp only at h;split at h
   ·rename_i a1 x0 b3
    obtain⟨e1,hk,hf⟩:=Lt.fit_ok b3;obtain⟨b0,b1,a2⟩:=vm (its:=T.its) Z;rw[←e1] at b0 b1 a2;refine fw h (λs a w=>Sat G P δ n W0 L0 T0 m0 (T.st G a1 s) a w) (Lt.entry b0 hk hf) ?_;intro s a w hI r' c0 a6;have a3:(T.st G a1 s).c=st.c+1:=by show a1.c+1=_;rw[a2]
    have b2:∀{st':St G},Ext (T.st G a1 s).c (T.st G a1 s) st'->Ext st.c st (low st.c st'):=by
     intro st' hx;rw[a3] at hx;have h2:=Lt.ext (s:=s) hk;rw[a2] at h2;have h3:=b1.trans (h2.trans (hx.le (Nat.le_succ _)));exact⟨h3.env,h3.blk⟩
    have a9:∀{st':St G} {a':Act} {w':World},Sat G P δ n W0 L0 T0 m0 st' a' w'->Sat G P δ n W0 L0 T0 m0 (low st.c st') a' w':=λZ=>⟨Z.ex,Z.df,Z.sz⟩
    refine ih b (T.st G a1 s) _ _ _ r' a w _ W XP c0 (by rw[a3];exact hO) hI (λst' a' w' h1 h2 h3 h4=>?_) (λj st' a' w' h1 h2 h3 h4=>?_) (λst' a' w' h1 h2 h3 h4=>?_)
    ·split at h1
     ·rename_i s' hb
      injection h1 with h1
      rw[←a2] at hb;refine⟨s',h1.symm,Lt.back_ok hk hI h2 ?_ ?_ hb⟩
      ·rw[a3,←a2] at h3;exact h3
      ·rw[h4,a3,a2]
     ·cases h1
    ·obtain⟨o,q1,q2⟩:=BP h1
     have:=a6 o q2;subst this;exact hX j _ a' w' q1 (a9 h2) (b2 h3) rfl
    ·obtain⟨o,q1,q2⟩:=BP h1
     have:=a6 o q2;subst this;exact hR _ a' w' q1 (a9 h2) (b2 h3) rfl
   ·cases h
  |_=>simp[ex] at h
 |rangeFunc f ps asg c _ _=>intro ρ A st N X R r a w NP W XP h;simp[ex] at h
 |goto l=>intro ρ A st N X R r a w NP W XP h;simp[ex] at h
 |refuse s=>intro ρ A st N X R r a w NP W XP h;simp[ex] at h
end
section
variable {G:Sg}{P:Program}
def rg (G:Sg):(ps:List Pm)->dK G ps->Nat->List (Nat×Nat×EV G)×List (Nat×BC G)×List Nat
 |[],_,_=>([],[],[])
 | .rd t::ps,x,i=>match rg G ps x.2 (i+1) with|(e,L,T)=>((i,0,.one (.dat t x.1 none))::e,L,T)
 | .ap t::ps,x,i=>match rg G ps x.2 (i+1) with|(e,L,T)=>((i,0,.one (.dat (.sl t) x.1 (some T.length)))::e,L,(t.kd G).sz::T)
 | .pt t::ps,x,i=>match rg G ps x.2 (i+1) with|(e,L,T)=>((i,0,.one (.blk L.length))::e,(0,.dat t x.1)::L,T)
 | .ow t::ps,x,i=>match rg G ps x.2 (i+1) with|(e,L,T)=>((i,0,.one (.own L.length))::e,(0,.arr t none x.1)::L,T)
 | .f1 a b::ps,x,i=>match rg G ps x.2 (i+1) with|(e,L,T)=>((i,0,.one (.fn1 a b x.1))::e,L,T)
 | .f2 a c b::ps,x,i=>match rg G ps x.2 (i+1) with|(e,L,T)=>((i,0,.one (.fn2 a c b x.1))::e,L,T)
def xi (G:Sg)(ps:List Pm)(x:dK G ps):St G:=match rg G ps x 0 with|(e,L,T)=>⟨e,0,L,T⟩
def nmA:List Pm->List Value->List (Nat×List Value)->List (Nat×Value)
 | .pt _::ps,v::vs,e::Lp=>(e.1,v)::nmA ps vs Lp
 | .ow _::ps,v::vs,e::Lp=>(e.1,v)::nmA ps vs Lp
 | .rd _::ps,_::vs,Lp=>nmA ps vs Lp
 | .ap _::ps,_::vs,Lp=>nmA ps vs Lp
 | .f1 _ _::ps,_::vs,Lp=>nmA ps vs Lp
 | .f2 _ _ _::ps,_::vs,Lp=>nmA ps vs Lp
 |_,_,_=>[]
def Rm.pm:Rm->Pm
 | .rd t=> .rd t
 | .ap t=> .ap t
 | .ow t=> .ow t
def j6 (G:Sg)(os:List Ty):(rs:List Rm)->dK G (rs.map Rm.pm)->a8 G os->a8 G (rs.map Rm.ty++os)
 |[],_,o=>o
 | .rd t::rs,y,o=>mkT G t (rs.map Rm.ty++os) y.1 (j6 G os rs y.2 o)
 | .ap t::rs,y,o=>mkT G (.sl t) (rs.map Rm.ty++os) y.1 (j6 G os rs y.2 o)
 | .ow t::rs,y,o=>mkT G (.sl t) (rs.map Rm.ty++os) y.1 (j6 G os rs y.2 o)
def BC.dt?:BC G->Option ((t:Ty)×t.den G)
 | .dat t x=>some ⟨t,x⟩
 |_=>none
def BC.ar?:BC G->Option ((t:Ty)×List (t.den G)×Option Nat)
 | .arr t n x=>some ⟨t,x,n⟩
 |_=>none
theorem BC.dt_eq {B:BC G}{q:(t:Ty)×t.den G}(h:B.dt?=some q):B= .dat q.1 q.2:=by
 cases B<;>simp[BC.dt?] at h;subst h;rfl
theorem BC.ar_eq {B:BC G}{q:(t:Ty)×List (t.den G)×Option Nat}(h:B.ar?=some q):B= .arr q.1 q.2.2 q.2.1:=by
 cases B<;>simp[BC.ar?] at h;subst h;rfl
def pg (G:Sg):(ps:List Pm)->List (Nat×BC G)->Option (a8 G (ps.filterMap Pm.out))
 |[],_=>some ()
 | p::ps,Bs=>match p with
  | .pt t=>(match Bs with
   |B::Bs=>(match B.2.dt? with
    |some q=>(match c8 G q.1 t q.2,pg G ps Bs with|some x,some y=>some (mkT G t (ps.filterMap Pm.out) x y)|_,_=>none)
    |none=>none)
   |[]=>none)
  | .ow t=>(match Bs with
   |B::Bs=>(match B.2.ar? with
    |some q=>(match c8 G (.sl q.1) (.sl t) q.2.1,pg G ps Bs with|some x,some y=>some (mkT G (.sl t) (ps.filterMap Pm.out) x y)|_,_=>none)
    |none=>none)
   |[]=>none)
  | .rd _=>pg G ps Bs
  | .ap _=>pg G ps Bs
  | .f1 _ _=>pg G ps Bs
  | .f2 _ _ _=>pg G ps Bs
def cnt (ps:List Pm):Nat:=(ps.filterMap Pm.out).length
def tR (Γ:Tab P G)(ps:List Pm)(rs:List Rm)(res:List Nat)(st:St G):Option (a8 G (gr ps rs)):=
 match gV Γ (rs.map Rm.pm) (res.map Operand.tmp) (sB (rs.map Rm.pm) (res.map Operand.tmp) st) with
 |some (y,st2,_)=>(match Zk (cnt ps) st2.L.length,pg G ps (st2.L.drop (st2.L.length - cnt ps)) with
  |true,some o=>some (j6 G (ps.filterMap Pm.out) rs y o)
  |_,_=>none)
 |none=>none
noncomputable def exF (n:Nat) (Γ:Tab P G) (D:List (CS P G)) (c:Code) (ps:List Pm) (rs:List Rm) (res:List Nat) (A:An G (a8 G (gr ps rs))) (x:dK G ps):Option (a8 G (gr ps rs)):=
 ex n Γ D c A (xi G ps x) (tR Γ ps rs res) (λ_ _=>none) (tR Γ ps rs res)
end
section
variable {G:Sg}{P:Program}{W0:Bse}{m:M}{z:Cz}{a:Act}{w:World}{Γ:Tab P G}
theorem wm:∀{ps:List Pm} {vs:List Value} {x:dK G ps} {Lp:List (Nat×List Value)} {Tp:List (Nat×Value)} {i:Nat},j5 G P m ps vs x Lp Tp->(∀j v,vs[j]? =some v->a.tmps.getD (i+j) undef=v)->
  ∃J,jw G P m ⟨nmA ps vs Lp,J⟩ (rg G ps x i).1 a/\LR G m (rg G ps x i).2.1 (nmA ps vs Lp) Lp/\TRl (rg G ps x i).2.2 J Tp/\vs.length=ps.length/\(nmA ps vs Lp).length=cnt ps:=by
 intro ps
 induction ps with
 |nil=>
  intro vs x Lp Tp i h _;cases vs<;>cases Lp<;>cases Tp<;>first|exact h.elim|exact⟨[],λe W=>(by cases W),trivial,trivial,rfl,rfl⟩
 | cons p ps ih=>
  intro vs x Lp Tp i h ha;cases vs with
  |nil=>cases p<;>exact h.elim
  | cons v vs=>
   have Z:=ha 0 v rfl
   have a0:∀j u,vs[j]? =some u->a.tmps.getD (i+1+j) undef=u:=λj u hu=>by
    have:=ha (j+1) u (by simpa using hu);rw[show i+1+j=i+(j+1) by omega];exact this
   cases p with
   | rd t=>
    obtain⟨h1,h2⟩:=h;obtain⟨J,k1,k2,k3,k4,k5⟩:=ih h2 a0;refine⟨J,λe W=>?_,k2,k3,by simp[k4],k5⟩;rcases Qa.1 W with rfl|W
    ·rw[Qz] at Z
     show RV _ m (a.tmps.getD i undef) _/\True;rw[Z];exact⟨h1,trivial⟩
    ·exact k1 e W
   | ap t=>
    cases Tp with
    |nil=>exact h.elim
    | cons e Tp=>
     obtain⟨h1,rfl,h2⟩:=h;obtain⟨J,k1,k2,k3,k4,k5⟩:=ih h2 a0;refine⟨v::J,λe W=>?_,k2,⟨rfl,k3⟩,by simp[k4],k5⟩;rcases Qa.1 W with rfl|W
     ·rw[Qz] at Z
      show RV _ m (a.tmps.getD i undef) _/\Tag _ _ _;rw[Z];refine⟨h1,?_⟩;show fb (v::J) _=some v;rw[←k3.len.1];exact jb
     ·exact(k1 e W).z (Zle.pushT _ v)
   | pt t=>
    cases Lp with
    |nil=>exact h.elim
    | cons e Lp=>
     obtain⟨h1,h3,h2⟩:=h;obtain⟨J,k1,k2,k3,k4,k5⟩:=ih h2 a0;refine⟨J,λq hq=>?_,⟨rfl,h1,k2⟩,k3,by simp[k4],by simp[nmA,k5,cnt,Pm.out]⟩;rcases Qa.1 hq with rfl|hq
     ·rw[Qz] at Z
      refine⟨(e.1,v),?_,by rw[Z];exact h3⟩;show fb ((e.1,v)::nmA ps vs Lp) _=_;rw[←k2.len.1];exact jb
     ·exact(k1 q hq).z (Zle.pushB ⟨nmA ps vs Lp,J⟩ (e.1,v))
   | ow t=>
    cases Lp with
    |nil=>exact h.elim
    | cons e Lp=>
     obtain⟨h1,h2⟩:=h;obtain⟨J,k1,k2,k3,k4,k5⟩:=ih h2 a0;refine⟨J,λq hq=>?_,⟨rfl,⟨h1,trivial⟩,k2⟩,k3,by simp[k4],by simp[nmA,k5,cnt,Pm.out]⟩;rcases Qa.1 hq with rfl|hq
     ·rw[Qz] at Z
      refine⟨(e.1,v),?_,by rw[Z]⟩;show fb ((e.1,v)::nmA ps vs Lp) _=_;rw[←k2.len.1];exact jb
     ·exact(k1 q hq).z (Zle.pushB ⟨nmA ps vs Lp,J⟩ (e.1,v))
   | f1 b c=>
    obtain⟨h1,h2⟩:=h;obtain⟨J,k1,k2,k3,k4,k5⟩:=ih h2 a0;refine⟨J,λe W=>?_,k2,k3,by simp[k4],k5⟩;rcases Qa.1 W with rfl|W
    ·rw[Qz] at Z
     show Fn1 P _ _ m (a.tmps.getD i undef) _;rw[Z];exact h1
    ·exact k1 e W
   | f2 b c d=>
    obtain⟨h1,h2⟩:=h;obtain⟨J,k1,k2,k3,k4,k5⟩:=ih h2 a0;refine⟨J,λe W=>?_,k2,k3,by simp[k4],k5⟩;rcases Qa.1 W with rfl|W
    ·rw[Qz] at Z
     show Fn2 P _ _ _ m (a.tmps.getD i undef) _;rw[Z];exact h1
    ·exact k1 e W
theorem BQ {os:List Ty}{o:a8 G os}:∀{rs:List Rm} {us:List Value} {y:dK G (rs.map Rm.pm)} {Lr:List (Nat×List Value)} {Tr:List (Nat×Value)},j5 G P m (rs.map Rm.pm) us y Lr Tr->md G m os rs us (j6 G os rs y o) Lr Tr/\rest G os rs (j6 G os rs y o)=o:=by
 intro rs
 induction rs with
 |nil=>
  intro us y Lr Tr h;cases us<;>cases Lr<;>cases Tr<;>first|exact h.elim|exact⟨trivial,rfl⟩
 | cons r rs ih=>
  intro us y Lr Tr h;cases us with
  |nil=>cases r<;>exact h.elim
  | cons u us=>
   cases r with
   |rd t=>
    obtain⟨J,W⟩:=h;obtain⟨k1,k2⟩:=ih W;have Z:hdT G t (rs.map Rm.ty++os) (j6 G os (.rd t::rs) y o)=y.1:=wc;have e2:tlT G t (rs.map Rm.ty++os) (j6 G os (.rd t::rs) y o)=j6 G os rs y.2 o:=wd;exact⟨⟨Z.symm ▸ J,e2.symm ▸ k1⟩,(congrArg (rest G os rs) e2).trans k2⟩
   | ap t=>
    cases Tr with
    |nil=>exact h.elim
    |cons e Tr=>
     obtain⟨J,h3,W⟩:=h;obtain⟨k1,k2⟩:=ih W;have Z:hdT G (.sl t) (rs.map Rm.ty++os) (j6 G os (.ap t::rs) y o)=y.1:=wc;have e2:tlT G (.sl t) (rs.map Rm.ty++os) (j6 G os (.ap t::rs) y o)=j6 G os rs y.2 o:=wd;exact⟨⟨Z.symm ▸ J,h3,e2.symm ▸ k1⟩,(congrArg (rest G os rs) e2).trans k2⟩
   | ow t=>
    cases Lr with
    |nil=>exact h.elim
    |cons e Lr=>
     obtain⟨J,W⟩:=h;obtain⟨k1,k2⟩:=ih W;have Z:hdT G (.sl t) (rs.map Rm.ty++os) (j6 G os (.ow t::rs) y o)=y.1:=wc;have e2:tlT G (.sl t) (rs.map Rm.ty++os) (j6 G os (.ow t::rs) y o)=j6 G os rs y.2 o:=wd;exact⟨⟨Z.symm ▸ J,e2.symm ▸ k1⟩,(congrArg (rest G os rs) e2).trans k2⟩
theorem BR:∀{ps:List Pm} {vs:List Value} {W:List (Nat×BC G)} {Lp Lp':List (Nat×List Value)} {x:dK G ps} {o:a8 G (ps.filterMap Pm.out)} {Tp:List (Nat×Value)} {m0:M},j5 G P m0 ps vs x Lp Tp->pg G ps W=some o->W.length=cnt ps->LR G m W (nmA ps vs Lp) Lp'->gZ G m ps vs o Lp Lp':=by
 intro ps
 induction ps with
 |nil=>
  intro vs W Lp Lp' x o Tp m0 h J hl Z;have:W=[]:=Qo hl;subst this;cases vs<;>cases Lp<;>cases Tp<;>cases Lp'<;>first|exact h.elim|exact Z.elim|trivial
 | cons p ps ih=>
  intro vs W Lp Lp' x o Tp m0 h J hl Z;cases vs with
  |nil=>cases p<;>exact h.elim
  | cons v vs=>
   cases p with
   | pt t =>
    cases Lp with
    |nil=>exact h.elim
    | cons e Lp=>
     obtain⟨_,_,h2⟩:=h;cases W with
     |nil=>simp[cnt,Pm.out] at hl
     | cons B W=>
      cases Lp' with
      |nil=>exact Z.elim
      | cons e' Lp'=>
       obtain⟨q1,q2,q3⟩:=Z;unfold pg at J;dsimp only at J;cases hq:B.2.dt? with
       |none=>simp[hq] at J
       | some q=>
        simp only[hq] at J;rw[BC.dt_eq hq] at q2;obtain⟨t',y⟩:=q;cases hc:c8 G t' t y with
        |none=>simp[hc] at J
        | some y'=>
         cases ho':pg G ps W with
         |none=>simp[hc,ho'] at J
         |some o'=>
          simp only[hc,ho'] at J;obtain⟨ee,hy⟩:=bE hc;subst ee;subst hy;have J:=Option.some.inj J;subst J;have e1:hdT G t' (ps.filterMap Pm.out) (mkT G t' (ps.filterMap Pm.out) y o')=y:=wc;have e2:tlT G t' (ps.filterMap Pm.out) (mkT G t' (ps.filterMap Pm.out) y o')=o':=wd;exact⟨q1,e1.symm ▸ q2,e2.symm ▸ ih h2 ho' (by simpa[cnt,Pm.out] using hl) q3⟩
   | ow t =>
    cases Lp with
    |nil=>exact h.elim
    | cons e Lp=>
     obtain⟨_,h2⟩:=h;cases W with
     |nil=>simp[cnt,Pm.out] at hl
     | cons B W=>
      cases Lp' with
      |nil=>exact Z.elim
      | cons e' Lp'=>
       obtain⟨q1,q2,q3⟩:=Z;unfold pg at J;dsimp only at J;cases hq:B.2.ar? with
       |none=>simp[hq] at J
       | some q=>
        simp only[hq] at J;rw[BC.ar_eq hq] at q2;obtain⟨t',y,nn⟩:=q;cases hc:c8 G (.sl t') (.sl t) y with
        |none=>simp[hc] at J
        | some y'=>
         cases ho':pg G ps W with
         |none=>simp[hc,ho'] at J
         |some o'=>
          simp only[hc,ho'] at J;obtain⟨ee,hy⟩:=bE hc;injection ee with ee
          subst ee;subst hy;have J:=Option.some.inj J;subst J;have e1:hdT G (.sl t') (ps.filterMap Pm.out) (mkT G (.sl t') (ps.filterMap Pm.out) y o')=y:=wc;have e2:tlT G (.sl t') (ps.filterMap Pm.out) (mkT G (.sl t') (ps.filterMap Pm.out) y o')=o':=wd;refine⟨q1,e1.symm ▸ ?_,e2.symm ▸ ih h2 ho' (by simpa[cnt,Pm.out] using hl) q3⟩;rw[q1];exact q2.1
   |rd t=>exact ih h.2 J hl Z
   |ap t=>
    cases Tp with
    |nil=>exact h.elim
    |cons e Tp=>exact ih h.2.2 J hl Z
   |f1 b c=>exact ih h.2 J hl Z
   |f2 b c d=>exact ih h.2 J hl Z
theorem S.between {A B C:List (Nat×List Value)}{TL:List (Nat×Value)}(h:S W0 m w (A++(B++C)) TL)(k:Nat)(Z:k<=B.length):S W0 m w (A++(B.drop k++C)) TL:=by
 refine h.selL _ (λi=>if i<A.length then i else i+k) (λi e J=>?_) (λi j W=>?_)
 ·by_cases hi:i<A.length
  ·rw[if_pos hi]
   rw[Qh hi] at J ⊢;exact J
  ·rw[if_neg hi]
   rw[Qu (by omega)] at J ⊢;rw[show B.drop k++C=(B++C).drop k from(Qp Z).symm,Qr] at J;rw[show i+k - A.length=k+(i - A.length) by omega];exact J
 ·split at W<;>split at W<;>omega
theorem S.betweenT {A B C:List (Nat×Value)}{L:List (Nat×List Value)}(h:S W0 m w L (A++(B++C))):S W0 m w L (A++C):=by
 refine h.selT _ (λi=>if i<A.length then i else i+B.length) (λi e J=>?_) (λi j W=>?_)
 ·by_cases hi:i<A.length
  ·rw[if_pos hi]
   rw[Qh hi] at J ⊢;exact J
  ·rw[if_neg hi]
   rw[Qu (by omega)] at J ⊢;rw[Qu (by omega),show i+B.length - A.length - B.length=i - A.length by omega];exact J
 ·split at W<;>split at W<;>omega
theorem yg {l:List (Nat×Value)}{n:Nat}(J:Env n a l):∀{res:List Nat},(∀t∈res,lk l t=some (a.tmps.getD t undef))->pQ P a w (res.map ResultVar.tmp) (res.map λt=>a.tmps.getD t undef)
 |[],_=> .nil
 |t::res,h=> .tmp J (h t (by simp)) (yg J λu W=>h u (by simp[W]))
theorem Ea {n:Nat}{fn:Func}{ps:List Pm}{rs:List Rm}{res:List Nat}{st:St G}{L:List (Nat×List Value)}{TL:List (Nat×Value)}{vs:List Value}{x:dK G ps}{Lp:List (Nat×List Value)}{Tp:List (Nat×Value)}{m0:M}{r:a8 G (gr ps rs)}
  (a2:fn.results.toList=res.map ResultVar.tmp) (hP:j5 G P m0 ps vs x Lp Tp) (b1:(nmA ps vs Lp).length=cnt ps) (hs:Sat G P [] n W0 ⟨L,nmA ps vs Lp⟩ TL m0 st a w) (h:tR Γ ps rs res st=some r):
  Fin P fn (λv w'=>∃(m':M) (us:List Value) (Lr Lp':List (Nat×List Value)) (Tr:List (Nat×Value)),M.le m0 m'/\S W0 m' w' (Lr++(Lp'++L)) (Tr++TL)/\v=tup us/\md G m' (ps.filterMap Pm.out) rs us r Lr Tr/\gZ G m' ps vs (rest G (ps.filterMap Pm.out) rs r) Lp Lp') a w:=by
 obtain⟨⟨m,z,h0,hr,Lc,Tc,h1,h2,hS,a3⟩,hdf,hsz⟩:=hs;unfold tR at h;obtain⟨m1,b2,hF,_,_⟩:=vf (G:=G) (P:=P) (L0:=⟨L,nmA ps vs Lp⟩) (T0:=TL) (ps:=rs.map Rm.pm) (xs:=res.map Operand.tmp) (st:=st) (m:=m) (z:=z) ⟨hr,Lc,Tc,h1,h2,hS,a3⟩;split at h
 ·rename_i y J bk he
  split at h
  ·rename_i o hc ho
   injection h with h
   subst h;obtain⟨z',Lr,Tr,hz,⟨_,a9,b4,k1,k2,a5,b3⟩,hPR,_⟩:=vg hF he;have a6:=k1.len;have hc:=Q1 hc;obtain⟨a4,W⟩:=b3;simp only at W
   have b0:a4.length=J.L.length - cnt ps:=by
    have:=congrArg Zm W;rw[Qg,a6.1,b1] at this;omega
   have a1:z'.b.drop (J.L.length - cnt ps)=nmA ps vs Lp:=by rw[W,←b0,List.drop_left]
   have kd:=k1.drop (J.L.length - cnt ps);rw[a1] at kd;have hO:=BR hP ho (by simp;omega) kd;obtain⟨j1,j2⟩:=BQ (os:=ps.filterMap Pm.out) (o:=o) hPR
   have a0:(res.map Operand.tmp).map a.eval=res.map λt=>a.tmps.getD t undef:=by
    simp only[List.map_map,Function.comp_def];rfl
   obtain⟨l,Z,hl⟩:=dJ hdf hsz (res.map Operand.tmp);refine Fin.mk Z a2 (yg Z λt ht=>hl (.tmp t) (List.mem_map_of_mem ht)) ⟨m1,_,Lr,a9.drop (J.L.length - cnt ps),Tr,h0.trans b2,?_,rfl,?_,?_⟩
   ·exact(S.between a5 _ (by omega)).betweenT
   ·rw[←a0];exact j1
   ·rw[j2];exact hO
  ·cases h
 ·cases h
theorem Ctr.of {f:FuncId}{fn:Func}{c:Code}{n:Nat}{ps:List Pm}{rs:List Rm}{res:List Nat}{D:List (CS P G)}{g:dK G ps->Option (a8 G (gr ps rs))}(A:An G (a8 G (gr ps rs)))
  (a3:P.follows .mixedOrders=true) (hf:P.funcs[f]? =some fn) (J:fn.body=some c) (hn:fn.ntmps=n) (a1:Zk ps.length n=true) (a0:fn.results.toList=res.map ResultVar.tmp)
  (hO:Obl (cnt ps) n Γ D c A 0 (tR Γ ps rs res) (λ_ _=>none) (tR Γ ps rs res)) (h:∀x,exF n Γ D c ps rs res A x=g x):Ctr G P f ps rs g:=by
 intro W0 m w L TL vs x r Lp Tp hS Z hg;rw[←h x] at hg;have a4:vs.length=ps.length:=(wm (a:={ tmps:=vs.toArray,defers:=[] }) (i:=0) Z (λj v hj=>by simp[hj])).choose_spec.2.2.2.1;refine uu hf J hn (by rw[a4];exact Q1 a1) λa hE=>?_
 have a2:∀j v,vs[j]? =some v->a.tmps.getD (0+j) undef=v:=by
  intro j v hj;rw[Nat.zero_add];refine hE.at_ j v ?_
  have key:∀(l:List Value) (k:Nat) (j:Nat) (v:Value),l[j]? =some v->lk ((List.range' k l.length).zip l) (k+j)=some v:=by
   intro l
   induction l with
   |nil=>intro k j v h;simp at h
   | cons u l ih=>
    intro k j v h;simp only[Ql,List.range'_succ,List.zip_cons_cons,lk];cases j with
    |zero=>simp at h;subst h;simp
    | succ j=>
     have J:Z3 k (k+(j+1))=false:=by
      cases J:Z3 k (k+(j+1)) with
      |false=>rfl
      |true=>have:=Q4 J;omega
     simp only[J];have:=ih (k+1) j v (by simpa using h);rw[show k+1+j=k+(j+1) by omega] at this;exact this
  have:=key vs 0 j v hj;rw[List.range_eq_range'];simpa using this
 obtain⟨zt,k1,k2,k3,_,k5⟩:=wm (a:=a) (i:=0) Z a2;have hs:Sat G P [] n W0 ⟨L,nmA ps vs Lp⟩ TL m (xi G ps x) a w:=⟨⟨m,⟨nmA ps vs Lp,zt⟩,M.le.refl m,k1,Lp,Tp,k2,k3,hS,⟨[],rfl⟩⟩,hE.defers,hE.size⟩
 refine Af (np:=cnt ps) (L0:=⟨L,nmA ps vs Lp⟩) (by rw[k5];exact Qe _) a3 c A (xi G ps x) _ _ _ r a w _ _ _ hg hO hs ?_ ?_ ?_
 ·intro st' a' w' W h2 _ _;exact Ea a0 Z k5 h2 W
 ·intro j st' a' w' W;cases W
 ·intro st' a' w' W h2 _ _;exact Ea a0 Z k5 h2 W
end
def uG {β:Nat->Type}:List ((i:Nat)×β i)->(j:Nat)->Option (β j)
 |[],_=>none
 |⟨i,x⟩::l,j=>if h:i=j then some (h ▸ x) else uG l j
def Ag {β:Nat->Nat->Type}:List ((i:Nat)×(k:Nat)×β i k)->(j l:Nat)->Option (β j l)
 |[],_,_=>none
 |⟨i,k,x⟩::r,j,l=>if h:i=j then (if h':k=l then some (h ▸ h' ▸ x) else Ag r j l) else Ag r j l
def Ah:List (Nat×((O:Type)×Kd O))->Nat->(O:Type)×Kd O
 |[],_=>⟨Bool,cm⟩
 |(i,p)::l,j=>if Z3 i j then p else Ah l j
def OI (l:List (Nat×((O:Type)×Kd O))):Sg:=⟨λi=>(Ah l i).1,λi=>(Ah l i).2⟩
section
variable {P:Program}{G:Sg}
def nG {i:TypeId}{k:IntKind}{J:Value}(h:P.underlying i=some (.int k))(hs:∀w,(sizeOf i).run P w= .ok 1 w)(W:∀w,(isAgg i).run P w= .ok false w)(hz:∀w,(zeroValue i).run P w= .ok J w)(hv:J= .int k 0)(Z:k.wrap 0=0):TI P G i:=
 ⟨.int k,⟨hs,W⟩,⟨h⟩,(0:Int),J,hz,λm=>by subst hv;exact⟨rfl,Z⟩⟩
def Jq {i:TypeId}{J:Value}(h:P.underlying i=some .bool)(hs:∀w,(sizeOf i).run P w= .ok 1 w)(W:∀w,(isAgg i).run P w= .ok false w)(Z:∀w,(zeroValue i).run P w= .ok J w)(hv:J= .bool false):TI P G i:=
 ⟨.bool,⟨hs,W⟩,⟨h⟩,false,J,Z,λm=>by subst hv;exact rfl⟩
def CM {i:TypeId}{J:Value}(h:P.underlying i=some .string)(hs:∀w,(sizeOf i).run P w= .ok 1 w)(W:∀w,(isAgg i).run P w= .ok false w)(Z:∀w,(zeroValue i).run P w= .ok J w)(hv:J= .string ⟨#[]⟩):TI P G i:=
 ⟨.str,⟨hs,W⟩,⟨h⟩,([]:List Int),J,Z,λm=>by subst hv;exact⟨rfl,by simp,by simp⟩⟩
def tS {i:TypeId}(t:Ty)(B:SlI P G i t){h:Value}(Z:∀w,(sizeOf i).run P w= .ok 1 w)(J:∀w,(isAgg i).run P w= .ok false w)(W:∀w,(zeroValue i).run P w= .ok h w)(hv:h= .slice none 0 0):TI P G i:=
 ⟨.sl t,⟨Z,J⟩,B,([]:List (t.den G)),h,W,λm=>by subst hv;exact⟨none,0,0,rfl,rfl,Qe _,by simp,rfl⟩⟩
end
section
variable {G:Sg}{P:Program}
def An.nc:{ρ:Type}->An G ρ->Bool
 |_,.o=>true
 |_,.s p q=>p.nc&&q.nc
 |_,.c _ _ _ _=>false
 |_,.l _ q=>q.nc
 |_,.b p=>p.nc
 |_,.i p q=>p.nc&&q.nc
theorem Obl.nc (np n:Nat)(Γ:Tab P G)(D:List (CS P G))(c:Code):∀{ρ:Type} (A:An G ρ) (d:Nat) (N:St G->Option ρ) (X:Nat->St G->Option ρ) (R:St G->Option ρ),A.nc=true->Obl np n Γ D c A d N X R:=by
 induction c with
 | seq x y hx hy=>
  intro ρ A d N X R h;cases A with
  |s l r=>
   have h:(l.nc&&r.nc)=true:=h;rw[Q8] at h;exact⟨hx l d _ X R h.1,hy r d N X R h.2⟩
  |c l T J r=>cases h
  |_=>exact trivial
 | cond c x y hx hy=>
  intro ρ A d N X R h;cases A with
  |i l r=>
   have h:(l.nc&&r.nc)=true:=h;rw[Q8] at h;exact⟨hx l d N X R h.1,hy r d N X R h.2⟩
  |_=>exact trivial
 |block id c hc=>
  intro ρ A d N X R h;cases A with
  |b a=>exact hc a d N _ R h
  |_=>exact trivial
 |scope c hc=>
  intro ρ A d N X R h;cases A with
  |b a=>exact hc a d N X R h
  |_=>exact trivial
 |loop c hc=>
  intro ρ A d N X R h;cases A with
  |l T b=>exact hc b (d+1) _ _ _ h
  |_=>exact trivial
 |_=>intro ρ A d N X R h;exact trivial
theorem Ctr.nc {Γ:Tab P G}{f:FuncId}{fn:Func}{c:Code}{n:Nat}{ps:List Pm}{rs:List Rm}{res:List Nat}{D:List (CS P G)}{g:dK G ps->Option (a8 G (gr ps rs))}(A:An G (a8 G (gr ps rs)))
  (hA:A.nc=true) (W:P.follows .mixedOrders=true) (hf:P.funcs[f]? =some fn) (hb:fn.body=some c) (Z:fn.ntmps=n) (J:Zk ps.length n=true) (a0:fn.results.toList=res.map ResultVar.tmp)
  (h:∀x,exF n Γ D c ps rs res A x=g x):Ctr G P f ps rs g:=
 Ctr.of A W hf hb Z J a0 (Obl.nc _ _ _ _ c A 0 _ _ _ hA) h
end
section
variable {P:Program}{G:Sg}
def slI {i e:TypeId}(E:TI P G e)(h:TypeInfo)(by_:Nat)(W:P.underlying i=some (.slice e))(J:∀w,(sizeOf e).run P w= .ok (E.T.kd G).sz w)(a2:nF P e (E.T.kd G).sz by_)(hi:P.info? e=some h)(a1:h.zero=some E.zv)(a0:h.size=(E.T.kd G).sz)(Z:h.bytes=by_):SlI P G i E.T:=
 ⟨e,by_,E.z,E.zv,h,W,J,a2,E.hz,E.hzR,hi,a1,a0,Z⟩
def sG {i:TypeId}{h:Value}(ok:cR P i (G.k i))(W:∀w,(zeroValue i).run P w= .ok h w)(z:G.O i)(J:∀m,(G.k i).R m h.cells.toList z):TI P G i:=
 ⟨.st i,ok,(),z,h,W,J⟩
def arI {i e:TypeId}(E:TI P G e)(n:Nat){h:Value}(hu:P.underlying i=some (.array n e))(Z:∀w,(sizeOf e).run P w= .ok (E.T.kd G).sz w)(W:∀w,(zeroValue i).run P w= .ok h w)(a0:h.cells=((Q5 n E.zv.cells.toList).flatten).toArray)(J:Zk n cd=true):AI P G i:=
 ⟨n,E.T,e,E.z,h,E.zv.cells.toList,hu,Z,W,a0,E.hzR,J⟩
end
section
variable {G:Sg}{P:Program}{W0:Bse}{m:M}{z:Cz}{a:Act}{w:World}{Γ:Tab P G}
def Hf (Γ:Tab P G)(st:St G)(b t:Nat):Option (AV G):=
  match Γ.ty t,av? (st.op (.tmp b)) with
  | some I,some (.blk i)=>(match eC st.L i with
    |some (.dat c x)=>if c=I.T then some (.dat c x none) else none
    |_=>none)
  |_,_=>none
def oW (Γ:Tab P G) (n:Nat):Nat->List ResultVar->St G->Option (List Nat×St G)
  |_,[],st=>some ([],st)
  | k,.tmp t::r,st=>(match Nat.blt t n,oW Γ n k r st with
    |true,some (ts,st')=>some (t::ts,st')
    |_,_=>none)
  | k,.cell b t::r,st=>(match Nat.blt b n,Hf Γ st b t with
    |true,some v=>(match oW Γ n (k+1) r (st.put k (.one v)) with|some (ts,st')=>some (k::ts,st')|none=>none)
    |_,_=>none)
def xj (Γ:Tab P G)(n:Nat)(ps:List Pm)(rs:List Rm)(res:List ResultVar)(st:St G):Option (a8 G (gr ps rs)):=
  match oW Γ n n res st with
  |some (ts,st')=>tR Γ ps rs ts st'
  |none=>none
noncomputable def exX (n:Nat) (Γ:Tab P G) (D:List (CS P G)) (c:Code) (ps:List Pm) (rs:List Rm) (res:List ResultVar) (A:An G (a8 G (gr ps rs))) (x:dK G ps):Option (a8 G (gr ps rs)):=
  ex n Γ D c A (xi G ps x) (xj Γ n ps rs res) (λ_ _=>none) (xj Γ n ps rs res)
theorem pV {xs:Array Value}{v:Value}{t:Nat}(h:t≠xs.size):(xs.push v).getD t undef=xs.getD t undef:=by
  simp only[Array.getD_eq_getD_getElem?,Array.getElem?_push];rw[if_neg h]
theorem tT {xs:Array Value}{v:Value}:(xs.push v).getD xs.size undef=v:=by
  simp[Array.getD_eq_getD_getElem?,Array.getElem?_push]
theorem Gk {n : Nat} {L0:Rs} {T0:List (Nat×Value)} {m0:M}:∀{res:List ResultVar} {k:Nat} {st:St G} {a':Act} {ts:List Nat} {st':St G},Sat G P [] k W0 L0 T0 m0 st a' w->n<=k->(∀t,t<n->a'.tmps.getD t undef=a.tmps.getD t undef)->oW Γ n k res st=some (ts,st')->
    ∃(k':Nat) (W:Act),Sat G P [] k' W0 L0 T0 m0 st' W w/\(∀t,t<k->W.tmps.getD t undef=a'.tmps.getD t undef)/\pQ P a w res (ts.map λt=>W.tmps.getD t undef):=by
  intro res
  induction res with
  | nil=>
    intro k st a' ts st' hs hk ha h;unfold oW at h;obtain⟨rfl,rfl⟩:=Prod.mk.inj (Option.some.inj h);exact⟨k,a',hs,λ_ _=>rfl,.nil⟩
  | cons r res ih =>
    intro k st a' ts st' hs hk ha h;cases r with
    | tmp t=>
      unfold oW at h;split at h
      · rename_i a4 st0 Z h0
        obtain⟨rfl,rfl⟩:=Prod.mk.inj (Option.some.inj h);have Z:t<n:=Q1 Z;obtain⟨k',W,h1,h2,h3⟩:=ih hs hk ha h0;refine⟨k',W,h1,h2,.cons ?_ h3⟩;simp only;rw[←ha t Z,←h2 t (Z0 Z hk)]
        rfl
      ·cases h
    | cell b t=>
      unfold oW at h;split at h
      · rename_i v hb J
        have hb:b<n:=Q1 hb;cases hq:oW Γ n (k+1) res (st.put k (.one v)) with
        |none=>rw[hq] at h;cases h
        | some q=>
          rw[hq] at h;obtain⟨a4,st0⟩:=q;obtain⟨rfl,rfl⟩:=Prod.mk.inj (Option.some.inj h);unfold Hf at J;split at J
          · rename_i I i hI hi
            split at J
            · rename_i c x hB
              split at J
              · rename_i hc
                injection J with J
                subst J;subst hc;obtain⟨⟨m,z,h0,hr,hM⟩,hdf,hsz⟩:=hs;obtain⟨p',a0,a3⟩:=aV (eL hr) hi;obtain⟨L,TL,p,cs,j,hS,g1,g2,g3⟩:=hM.get hB;rw[g1] at a0;injection a0 with a0
                subst a0;have a1:RV (I.T.kd G) m ((I.T.kd G).val cs) x:=wZ g3
                have a2:Sat G P [] (k+1) W0 L0 T0 m0 (st.put k (.one (.dat I.T x none))) { a' with tmps:=a'.tmps.push ((I.T.kd G).val cs) } w:=by
                  refine⟨⟨m,z,h0,?_,hM⟩,hdf,by simp[hsz]⟩;intro e he;rcases Qa.1 he with rfl|he
                  · simp only
                    rw[←hsz,tT];exact⟨a1,trivial⟩
                  · obtain⟨q1,q2⟩:=kJ he
                    have:=hr e q1;simp only;rw[pV (by rw[hsz];exact q2)];exact this
                obtain⟨k',W,h1,h2,h3⟩:=ih a2 (by omega) (λt Z=>by
                  simp only;rw[pV (by rw[hsz];omega)]
                  exact ha t Z) hq
                refine⟨k',W,h1,λt Z=>?_,.cons ?_ h3⟩
                · rw[h2 t (by omega)]
                  simp only;rw[pV (by rw[hsz];omega)]
                · have e1:W.tmps.getD k undef=(I.T.kd G).val cs:=by
                    rw[h2 k (by omega)];simp only;rw[←hsz,tT]
                  have e2:a.tmps.getD b undef= .pointer (some ⟨p.1,0,none⟩):=by
                    rw[←ha b hb];exact a3
                  simp only;rw[e1,e2]
                  have hA:At w p.1 0 cs:=by
                    have:=hS.atL g2 (o:=0) (cs':=cs) (by simp) (by rw[(I.T.kd G).len g3];exact(I.T.kd G).pos);exact this
                  simp[asAddr,iA I.ok g3 hA]
              ·cases J
            ·cases J
          ·cases J
      ·cases h
theorem BS {n:Nat} {fn:Func} {ps:List Pm} {rs:List Rm} {res:List ResultVar} {st:St G} {L:List (Nat×List Value)} {TL:List (Nat×Value)} {vs:List Value} {x:dK G ps} {Lp:List (Nat×List Value)} {Tp:List (Nat×Value)} {m0:M} {r:a8 G (gr ps rs)}
    (a2:fn.results.toList=res) (hP:j5 G P m0 ps vs x Lp Tp) (b4:(nmA ps vs Lp).length=cnt ps) (Z:Sat G P [] n W0 ⟨L,nmA ps vs Lp⟩ TL m0 st a w) (h:xj Γ n ps rs res st=some r):
    Fin P fn (λv w'=>∃(m':M) (us:List Value) (Lr Lp':List (Nat×List Value)) (Tr:List (Nat×Value)),M.le m0 m'/\S W0 m' w' (Lr++(Lp'++L)) (Tr++TL)/\v=tup us/\md G m' (ps.filterMap Pm.out) rs us r Lr Tr/\gZ G m' ps vs (rest G (ps.filterMap Pm.out) rs r) Lp Lp') a w:=by
  unfold xj at h;split at h
  · rename_i ts a5 b3
    obtain⟨k',a9,hs,_,b5⟩:=Gk (a:=a) Z (Qe n) (λ_ _=>rfl) b3;obtain⟨l0,b6,_⟩:=dJ Z.df Z.sz [];obtain⟨⟨m,z,h0,hr,Lc,Tc,h1,h2,hS,a3⟩,hdf,hsz⟩:=hs;unfold tR at h;obtain⟨m1,b7,hF,_,_⟩:=vf (G:=G) (P:=P) (L0:=⟨L,nmA ps vs Lp⟩) (T0:=TL) (ps:=rs.map Rm.pm) (xs:=ts.map Operand.tmp) (st:=a5) (m:=m) (z:=z) ⟨hr,Lc,Tc,h1,h2,hS,a3⟩;split at h
    · rename_i y J bk he
      split at h
      · rename_i o hc ho
        injection h with h
        subst h;obtain⟨z',Lr,Tr,hz,⟨_,b1,c1,k1,k2,a6,c0⟩,hPR,_⟩:=vg hF he;have b0:=k1.len;have hc:=Q1 hc;obtain⟨a4,W⟩:=c0;simp only at W
        have b2:a4.length=J.L.length - cnt ps:=by
          have:=congrArg Zm W;rw[Qg,b0.1,b4] at this;omega
        have a1:z'.b.drop (J.L.length - cnt ps)=nmA ps vs Lp:=by rw[W,←b2,List.drop_left]
        have kd:=k1.drop (J.L.length - cnt ps);rw[a1] at kd;have hO:=BR hP ho (by simp;omega) kd;obtain⟨j1,j2⟩:=BQ (os:=ps.filterMap Pm.out) (o:=o) hPR
        have a0:(ts.map Operand.tmp).map a9.eval=ts.map λt=>a9.tmps.getD t undef:=by
          simp only[List.map_map,Function.comp_def];rfl
        refine Fin.mk b6 a2 b5 ⟨m1,_,Lr,b1.drop (J.L.length - cnt ps),Tr,h0.trans b7,?_,rfl,?_,?_⟩
        ·exact(S.between a6 _ (by omega)).betweenT
        ·rw[←a0];exact j1
        ·rw[j2];exact hO
      ·cases h
    ·cases h
  ·cases h
theorem Ctr.ofX {f:FuncId} {fn:Func} {c:Code} {n:Nat} {ps:List Pm} {rs:List Rm} {res:List ResultVar} {D:List (CS P G)} {g:dK G ps->Option (a8 G (gr ps rs))} (A:An G (a8 G (gr ps rs)))
    (a3:P.follows .mixedOrders=true) (hf:P.funcs[f]? =some fn) (J:fn.body=some c) (hn:fn.ntmps=n) (a1:Zk ps.length n=true) (a0:fn.results.toList=res)
    (hO:Obl (cnt ps) n Γ D c A 0 (xj Γ n ps rs res) (λ_ _=>none) (xj Γ n ps rs res)) (h:∀x,exX n Γ D c ps rs res A x=g x):Ctr G P f ps rs g:=by
  intro W0 m w L TL vs x r Lp Tp hS Z hg;rw[←h x] at hg;have a4:vs.length=ps.length:=(wm (a:={ tmps:=vs.toArray,defers:=[] }) (i:=0) Z (λj v hj=>by simp[hj])).choose_spec.2.2.2.1;refine uu hf J hn (by rw[a4];exact Q1 a1) λa hE=>?_
  have a2:∀j v,vs[j]? =some v->a.tmps.getD (0+j) undef=v:=by
    intro j v hj;rw[Nat.zero_add];refine hE.at_ j v ?_
    have key:∀(l:List Value) (k:Nat) (j:Nat) (v:Value),l[j]? =some v->lk ((List.range' k l.length).zip l) (k+j)=some v:=by
      intro l
      induction l with
      |nil=>intro k j v h;simp at h
      | cons u l ih=>
        intro k j v h;simp only[Ql,List.range'_succ,List.zip_cons_cons,lk];cases j with
        |zero=>simp at h;subst h;simp
        | succ j=>
          have J:Z3 k (k+(j+1))=false:=by
            cases J:Z3 k (k+(j+1)) with
            |false=>rfl
            |true=>have:=Q4 J;omega
          simp only[J];have:=ih (k+1) j v (by simpa using h);rw[show k+1+j=k+(j+1) by omega] at this;exact this
    have:=key vs 0 j v hj;rw[List.range_eq_range'];simpa using this
  obtain⟨zt,k1,k2,k3,_,k5⟩:=wm (a:=a) (i:=0) Z a2;have hs:Sat G P [] n W0 ⟨L,nmA ps vs Lp⟩ TL m (xi G ps x) a w:=⟨⟨m,⟨nmA ps vs Lp,zt⟩,M.le.refl m,k1,Lp,Tp,k2,k3,hS,⟨[],rfl⟩⟩,hE.defers,hE.size⟩
  refine Af (np:=cnt ps) (L0:=⟨L,nmA ps vs Lp⟩) (by rw[k5];exact Qe _) a3 c A (xi G ps x) _ _ _ r a w _ _ _ hg hO hs ?_ ?_ ?_
  ·intro st' a' w' W h2 _ _;exact BS a0 Z k5 h2 W
  ·intro j st' a' w' W;cases W
  ·intro st' a' w' W h2 _ _;exact BS a0 Z k5 h2 W
theorem Ctr.nX {Γ:Tab P G}{f:FuncId}{fn:Func}{c:Code}{n:Nat}{ps:List Pm}{rs:List Rm}{res:List ResultVar}{D:List (CS P G)}{g:dK G ps->Option (a8 G (gr ps rs))}(A:An G (a8 G (gr ps rs)))
    (hA:A.nc=true) (W:P.follows .mixedOrders=true) (hf:P.funcs[f]? =some fn) (hb:fn.body=some c) (Z:fn.ntmps=n) (J:Zk ps.length n=true) (a0:fn.results.toList=res)
    (h:∀x,exX n Γ D c ps rs res A x=g x):Ctr G P f ps rs g:=
  Ctr.ofX A W hf hb Z J a0 (Obl.nc _ _ _ _ c A 0 _ _ _ hA) h
end
section
variable {G:Sg}{P:Program}{m:M}{os:List Ty}{ps:List Pm}{rs:List Rm}{vs us:List Value}{Lp Lp' Lr:List (Nat×List Value)}{Tp Tr:List (Nat×Value)}
theorem mp {x:dK G []}(h:j5 G P m [] vs x Lp Tp):vs=[]/\Lp=[]/\Tp=[]:=by
 cases vs<;>cases Lp<;>cases Tp<;>first|exact⟨rfl,rfl,rfl⟩|exact h.elim
theorem iM {t:Ty}{x:dK G (.rd t::ps)}(h:j5 G P m (.rd t::ps) vs x Lp Tp):∃v vs',vs=v::vs'/\RV (t.kd G) m v x.1/\j5 G P m ps vs' x.2 Lp Tp:=by
 cases vs with
 |nil=>cases Lp<;>cases Tp<;>exact h.elim
 |cons v vs=>exact⟨v,vs,rfl,h.1,h.2⟩
theorem MX {t:Ty}{x:dK G (.ap t::ps)}(h:j5 G P m (.ap t::ps) vs x Lp Tp):∃v vs' Tp',vs=v::vs'/\Tp=((t.kd G).sz,v)::Tp'/\RV (kSl (t.kd G)) m v x.1/\j5 G P m ps vs' x.2 Lp Tp':=by
 cases vs with
 |nil=>cases Lp<;>cases Tp<;>exact h.elim
 |cons v vs=>
  cases Tp with
  |nil=>cases Lp<;>exact h.elim
  |cons e Tp=>obtain⟨J,rfl,W⟩:=h;exact⟨v,vs,Tp,rfl,rfl,J,W⟩
theorem bL {x:a8 G (([]:List Rm).map Rm.ty++os)}(h:md G m os [] us x Lr Tr):us=[]/\Lr=[]/\Tr=[]:=by
 cases us<;>cases Lr<;>cases Tr<;>first|exact⟨rfl,rfl,rfl⟩|exact h.elim
theorem cE {t:Ty}{x:a8 G ((Rm.rd t::rs).map Rm.ty++os)}(h:md G m os (.rd t::rs) us x Lr Tr):∃v us',us=v::us'/\RV (t.kd G) m v (hdT G t (rs.map Rm.ty++os) x)/\md G m os rs us' (tlT G t (rs.map Rm.ty++os) x) Lr Tr:=by
 cases us with
 |nil=>cases Lr<;>cases Tr<;>exact h.elim
 |cons v us=>exact⟨v,us,rfl,h.1,h.2⟩
theorem sH {t:Ty}{x:a8 G ((Rm.ap t::rs).map Rm.ty++os)}(h:md G m os (.ap t::rs) us x Lr Tr):∃v us' Tr',us=v::us'/\Tr=((t.kd G).sz,v)::Tr'/\RV (kSl (t.kd G)) m v (hdT G (.sl t) (rs.map Rm.ty++os) x)/\md G m os rs us' (tlT G (.sl t) (rs.map Rm.ty++os) x) Lr Tr':=by
 cases us with
 |nil=>cases Lr<;>cases Tr<;>exact h.elim
 |cons v us=>
  cases Tr with
  |nil=>cases Lr<;>exact h.elim
  |cons e Tr=>obtain⟨J,rfl,W⟩:=h;exact⟨v,us,Tr,rfl,rfl,J,W⟩
theorem bM {x:a8 G (([]:List Pm).filterMap Pm.out)}(h:gZ G m [] vs x Lp Lp'):Lp'=[]:=by
 cases vs<;>cases Lp<;>cases Lp'<;>first|rfl|exact h.elim
theorem bj {t:Ty}{v:Value}{x:a8 G ((Pm.rd t::ps).filterMap Pm.out)}(h:gZ G m (.rd t::ps) (v::vs) x Lp Lp'):gZ G m ps vs x Lp Lp':=h
theorem Hg {t:Ty}{v:Value}{x:a8 G ((Pm.ap t::ps).filterMap Pm.out)}(h:gZ G m (.ap t::ps) (v::vs) x Lp Lp'):gZ G m ps vs x Lp Lp':=h
theorem Hh {a b:Ty}{v:Value}{x:a8 G ((Pm.f1 a b::ps).filterMap Pm.out)}(h:gZ G m (.f1 a b::ps) (v::vs) x Lp Lp'):gZ G m ps vs x Lp Lp':=h
theorem wo {a c b:Ty}{v:Value}{x:a8 G ((Pm.f2 a c b::ps).filterMap Pm.out)}(h:gZ G m (.f2 a c b::ps) (v::vs) x Lp Lp'):gZ G m ps vs x Lp Lp':=h
theorem MY {t:Ty}{v:Value}{b:Nat}{cs:List Value}{x:a8 G ((Pm.ow t::ps).filterMap Pm.out)}(h:gZ G m (.ow t::ps) (v::vs) x ((b,cs)::Lp) Lp'):∃cs' Lp'',Lp'=(b,cs')::Lp''/\GS (t.kd G) m b cs' v (hdT G (.sl t) (ps.filterMap Pm.out) x)/\gZ G m ps vs (tlT G (.sl t) (ps.filterMap Pm.out) x) Lp Lp'':=by
 cases Lp' with
 |nil=>exact h.elim
 |cons e Lp'=>obtain⟨b',cs'⟩:=e;obtain⟨J,W,Z⟩:=h;simp only at J;subst J;exact⟨cs',Lp',rfl,W,Z⟩
end
noncomputable section
structure Ap where
 fKind:Int
 fBool:Bool
 fInt:Int
 fText:(List Int)
 deriving DecidableEq
def Ap.zero:Ap:=⟨0,false,0,[]⟩
structure aM where
 fMany:Int
 fValue:Ap
 deriving DecidableEq
def aM.zero:aM:=⟨0,Ap.zero⟩
structure bm where
 fKind:Int
 fMany:Int
 fMin:Ap
 fMax:Ap
 fNulls:Int
 fBytes:Int
 deriving DecidableEq
def bm.zero:bm:=⟨0,0,Ap.zero,Ap.zero,0,0⟩
structure Eb where
 fMany:Int
 fValue:Ap
 deriving DecidableEq
def Eb.zero:Eb:=⟨0,Ap.zero⟩
structure BT where
 fKind:Int
 fMany:Int
 fMin:Ap
 fMax:Ap
 fNulls:Int
 fBytes:Int
 deriving DecidableEq
def BT.zero:BT:=⟨0,0,Ap.zero,Ap.zero,0,0⟩
structure ah where
 fB:(List Int)
 fOk:Bool
 deriving DecidableEq
def ah.zero:ah:=⟨[],false⟩
structure aK where
 fEpoch:Int
 fNumber:Int
 deriving DecidableEq
def aK.zero:aK:=⟨0,0⟩
structure aa where
 fId:aK
 fRow:(List Ap)
 fDeleted:Int
 deriving DecidableEq
def aa.zero:aa:=⟨aK.zero,[],0⟩
structure aw where
 fColumns:Int
 fSort:(List Int)
 fL:(List aa)
 deriving DecidableEq
def aw.zero:aw:=⟨0,[],[]⟩
structure bY where
 fColumns:Int
 fSort:(List Int)
 fKinds:(List Int)
 fL:(List aa)
 deriving DecidableEq
def bY.zero:bY:=⟨0,[],[],[]⟩
structure BU where
 fColumns:Int
 fSort:(List Int)
 fL:(List aa)
 deriving DecidableEq
def BU.zero:BU:=⟨0,[],[]⟩
def kW:Option Int:=
 some (-1)
def dT (p0:List Ap)(p1:(Ap->Option Bool))(h:Int):Option (Int⊕Int):=
 if decide (h<(p0.length:Int)) then
  (idx p0 h).bind λW=>
  (p1 W).bind λJ=>
  if J then
   (some h).map Sum.inr
  else
   some (.inl (kz.wrap (h+1)))
 else
  (kW).map Sum.inr
def jx (p0:List Ap)(p1:(Ap->Option Bool)):Option Int:=
 au (λs:Int=>dT p0 p1 s) 0
def dU (p0:List Ap)(p1:(Ap->Option Bool)):Option Bool:=
 (jx p0 p1).bind λh=>
 some (decide (0<=h))
def j7:Option Ap:=
 some (⟨0,false,0,[]⟩:Ap)
def nH (p0:Bool):Option Ap:=
 some (⟨1,p0,0,[]⟩:Ap)
def d5 (p0:Int):Option Ap:=
 some (⟨2,false,p0,[]⟩:Ap)
def nI (p0:List Int):Option Ap:=
 some (⟨3,false,0,p0⟩:Ap)
def ot (h:Bool):Option Bool:=
 some h
def kM (p0:Ap):Option Bool:=
 if p0.fKind==0 then
  (j7).bind λJ=>
  some (decide (p0=J))
 else
  if p0.fKind==1 then
   (nH p0.fBool).bind λW=>
   some (decide (p0=W))
  else
   if p0.fKind==2 then
    (d5 p0.fInt).bind λZ=>
    some (decide (p0=Z))
   else
    if p0.fKind==3 then
     (nI p0.fText).bind λh=>
     if decide (p0=h) then
      ot (decide ((p0.fText.length:Int)<=64))
     else
      ot false
    else
     some false
def eH (p0:Ap):Option Bool:=
 (kM p0).bind λh=>
 some (!h)
def rJ (h:List Int):Option (List Int×Bool):=
 some (h,true)
def lD (p0:List Ap)(J:List Int)(h:Int):Option ((List Int×Int)⊕(List Int×Bool)):=
 if decide (h<(p0.length:Int)) then
  (idx p0 h).bind λW=>
  if W.fKind != 2 then
   (some ([],false)).map Sum.inr
  else
   (app 17592186044416 J ([W.fInt])).bind λZ=>
   some (.inl (Z,kz.wrap (h+1)))
 else
  (rJ J).map Sum.inr
def mq (p0:List Ap):Option (List Int×Bool):=
 au (λs:(List Int×Int)=>lD p0 s.1 s.2) ([],0)
def lE (h:List aM):Option (List aM):=
 some h
def it (h:Int)(J:List aM):Option ((Int×List aM)⊕List aM):=
 some (.inl (kz.wrap (h+1),J))
def lF (h:Int)(J:List aM)(W:Ap):Option ((Int×List aM)⊕List aM):=
 (app 2932031007402 J ([(⟨1,W⟩:aM)])).bind λZ=>
 it h Z
def gt (Z:Int)(h:List aM)(J:Int)(a2:Bool):Option (Int⊕((Int×List aM)⊕List aM)):=
 if a2 then
  (ix h J).bind λa1=>
  (h[a1]?).bind λa0=>
  (ix h J).bind λW=>
  (h[W]?).bind λx106=>
  (it Z (h.set W ({ x106 with fMany:=kz.wrap (a0.fMany+1) }))).map Sum.inr
 else
  some (.inl (kz.wrap (J+1)))
def en (W:Int)(h:List aM)(Z:Ap)(J:Int):Option (Int⊕((Int×List aM)⊕List aM)):=
 if decide (J<(h.length:Int)) then
  if J==(kz.wrap ((h.length:Int) - 1)) then
   (ix h J).bind λa0=>
   (h[a0]?).bind λa1=>
   gt W h J (decide (a1.fValue=Z))
  else
   gt W h J false
 else
  (lF W h Z).map Sum.inr
def jN (p0:List Ap)(h:Int)(J:List aM):Option ((Int×List aM)⊕List aM):=
 if decide (h<(p0.length:Int)) then
  (idx p0 h).bind λW=>
  au (λs:Int=>en h J W s) 0
 else
  (lE J).map Sum.inr
def kN (p0:List Ap):Option (List aM):=
 au (λs:(Int×List aM)=>jN p0 s.1 s.2) (0,([]:List aM))
def uS (p0:List Ap):Option Bool:=
 some (decide ((p0.length:Int)<=16))
def oL (p0:List Ap)(h:Int):Option (Int⊕Bool):=
 if decide (h<(p0.length:Int)) then
  (idx p0 h).bind λJ=>
  (kM J).bind λW=>
  if !W then
   (some false).map Sum.inr
  else
   some (.inl (kz.wrap (h+1)))
 else
  (uS p0).map Sum.inr
def pW (p0:List Ap):Option Bool:=
 au (λs:Int=>oL p0 s) 0
def mS (p0:List Int)(h:List Int):Option (List Int):=
 (app 140737488355328 p0 h).bind λJ=>
 some J
def kD (p0:List Int)(p1:Int)(h:Int)(J:List Int):Option ((Int×List Int)⊕List Int):=
 if decide (h<8) then
  (chk (decide (0<=(kz.wrap (56 - (kz.wrap (8*h))))))).bind λZ=>
  (ix J h).bind λW=>
  (J[W]?).bind λa0=>
  some (.inl (kz.wrap (h+1),(J.set W (Qn.wrap (aO .u64 p1 (kz.wrap (56 - (kz.wrap (8*h)))))))))
 else
  (mS p0 J).map Sum.inr
def lG (p0:List Int)(p1:Int):Option (List Int):=
 au (λs:(Int×List Int)=>kD p0 p1 s.1 s.2) (0,(Q5 8 0:List Int))
def sI (p0:List Int)(p1:Ap):Option (List Int):=
 (app 140737488355328 p0 ([Qn.wrap p1.fKind])).bind λh=>
 if p1.fKind==1 then
  if p1.fBool then
   (app 140737488355328 h ([1])).bind λW=>
   some W
  else
   (app 140737488355328 h ([0])).bind λZ=>
   some Z
 else
  if p1.fKind==2 then
   (lG h (Q3.wrap p1.fInt)).bind λJ=>
   some J
  else
   if p1.fKind==3 then
    (app 140737488355328 h ([Qn.wrap (p1.fText.length:Int)])).bind λa0=>
    (app 140737488355328 a0 p1.fText).bind λa1=>
    some a1
   else
    some h
def rK (h:List Int):Option (List Int×Int):=
 some (h,0)
def ou (p0:List Ap)(x36:List Int)(h:Int):Option ((List Int×Int)⊕(List Int×Int)):=
 if decide (h<(p0.length:Int)) then
  (idx p0 h).bind λW=>
  (sI x36 W).bind λJ=>
  some (.inl (J,kz.wrap (h+1)))
 else
  (rK x36).map Sum.inr
def mr (p0:List Ap):Option (List Int×Int):=
 (pW p0).bind λh=>
 if !h then
  some ([],30)
 else
  au (λs:(List Int×Int)=>ou p0 s.1 s.2) ([Qn.wrap (p0.length:Int)],0)
def j8 (p0:Ap):Option (List Int):=
 (mr ([p0])).bind λh=>
 (sub h.1 1 h.1.length).bind λJ=>
 some J
def rL (h:List Int):Option (List Int):=
 some h
def ov (J:List aM)(Z:List Int)(h:Int):Option ((List Int×Int)⊕List Int):=
 if decide (h<(J.length:Int)) then
  (idx J h).bind λW=>
  (app 140737488355328 Z ([Qn.wrap W.fMany])).bind λa1=>
  (j8 W.fValue).bind λa0=>
  (app 140737488355328 a1 a0).bind λa2=>
  some (.inl (a2,kz.wrap (h+1)))
 else
  (rL Z).map Sum.inr
def mt (p0:List Ap):Option (List Int):=
 (kN p0).bind λh=>
 au (λs:(List Int×Int)=>ov h s.1 s.2) ([],0)
def wq (x6:List Int):Option (List Int):=
 some x6
def fD (p0:Int)(J:List Int)(h:Int):Option ((List Int×Int)⊕List Int):=
 if decide (h<8) then
  (chk (decide (0<=(kz.wrap (56 - (kz.wrap (8*h))))))).bind λZ=>
  (app 140737488355328 J ([Qn.wrap (aO .u64 p0 (kz.wrap (56 - (kz.wrap (8*h)))))])).bind λW=>
  some (.inl (W,kz.wrap (h+1)))
 else
  (wq J).map Sum.inr
def lf (p0:Int):Option (List Int):=
 au (λs:(List Int×Int)=>fD p0 s.1 s.2) ([],0)
def qD (h:List Int):Option (List Int):=
 some h
def qE (h:Int)(J:List Int):Option ((List Int×Int)⊕List Int):=
 some (.inl (J,kz.wrap (h+1)))
def qH (h:Int)(J:List Int)(W:Int):Option ((List Int×Int)⊕List Int):=
 (app 140737488355328 J ([Qn.wrap W])).bind λZ=>
 qE h Z
def je (J:Int)(x106:List Int)(h:Int):Option ((List Int×Int)⊕((List Int×Int)⊕List Int)):=
 if decide (127<h) then
  (app 140737488355328 x106 ([bOr .u8 (Qn.wrap h) 128])).bind λW=>
  some (.inl (W,aO .u64 h 7))
 else
  (qH J x106 h).map Sum.inr
def nJ (p0:List Int)(J:List Int)(a0:List Int)(h:Int):Option ((List Int×Int)⊕List Int):=
 if decide (h<(J.length:Int)) then
  (idx J h).bind λW=>
  (idx p0 h).bind λZ=>
  au (λs:(List Int×Int)=>je h s.1 s.2) (a0,ft .u64 (eK .u64 (Q3.wrap (kz.wrap (W - Z))) 1) (Q3.wrap (aO .i64 (kz.wrap (W - Z)) 63)))
 else
  (qD a0).map Sum.inr
def lg (p0:List Int):Option (List Int):=
 (idx p0 0).bind λh=>
 (lf (Q3.wrap h)).bind λW=>
 (sub p0 1 p0.length).bind λJ=>
 au (λs:(List Int×Int)=>nJ p0 J s.1 s.2) (W,0)
def dv (p0:List Ap):Option (List Ap):=
 (app 3518437208883 ([]) p0).bind λh=>
 some h
def jO (p0:List Ap)(p1:(Ap->Ap->Option Int)):Option (List Ap):=
 ux p1 p0
def kE (p0:Int):Option Bool:=
 some (p0 != p0)
def gW (p0:Int)(p1:Int):Option Int:=
 (kE p0).bind λJ=>
 (kE p1).bind λh=>
 if J then
  if h then
   some 0
  else
   some (-1)
 else
  if h then
   some 1
  else
   if decide (p0<p1) then
    some (-1)
   else
    if decide (p1<p0) then
     some 1
    else
     some 0
def jf (p0:Int):Option Bool:=
 some (p0 != p0)
def hZ (p0:Int)(p1:Int):Option Int:=
 (jf p0).bind λJ=>
 (jf p1).bind λh=>
 if J then
  if h then
   some 0
  else
   some (-1)
 else
  if h then
   some 1
  else
   if decide (p0<p1) then
    some (-1)
   else
    if decide (p1<p0) then
     some 1
    else
     some 0
def dY (p0:List Int)(p1:List Int):Option Int:=
 some (rf p0 p1)
def kX (p0:List Int)(p1:List Int):Option Int:=
 (dY p0 p1).bind λh=>
 some h
def eV (p0:Ap)(p1:Ap)(J:Bool):Option Int:=
 if J then
  if p1.fBool then
   some (-1)
  else
   some 1
 else
  if p0.fKind==2 then
   (hZ p0.fInt p1.fInt).bind λh=>
   some h
  else
   if p0.fKind==3 then
    (kX p0.fText p1.fText).bind λW=>
    some W
   else
    some 0
def bZ (p0:Ap)(p1:Ap):Option Int:=
 if p0.fKind != p1.fKind then
  (gW p0.fKind p1.fKind).bind λh=>
  some h
 else
  if p0.fKind==1 then
   eV p0 p1 (!(p0.fBool==p1.fBool))
  else
   eV p0 p1 false
def nw:Option Int:=
 some (-1)
def eZ (p0:List Ap)(p1:Ap)(h:Int):Option (Int⊕Int):=
 if decide (h<(p0.length:Int)) then
  (idx p0 h).bind λJ=>
  if decide (p1=J) then
   (some h).map Sum.inr
  else
   some (.inl (kz.wrap (h+1)))
 else
  (nw).map Sum.inr
def gQ (p0:List Ap)(p1:Ap):Option Int:=
 au (λs:Int=>eZ p0 p1 s) 0
def td (W:Int)(J:Int):Option Int:=
 (idx ([0,1,2,2,3,3,3,3,4,4,4,4,4,4,4,4,5,5,5,5,5,5,5,5,5,5,5,5,5,5,5,5,6,6,6,6,6,6,6,6,6,6,6,6,6,6,6,6,6,6,6,6,6,6,6,6,6,6,6,6,6,6,6,6,7,7,7,7,7,7,7,7,7,7,7,7,7,7,7,7,7,7,7,7,7,7,7,7,7,7,7,7,7,7,7,7,7,7,7,7,7,7,7,7,7,7,7,7,7,7,7,7,7,7,7,7,7,7,7,7,7,7,7,7,7,7,7,7,8,8,8,8,8,8,8,8,8,8,8,8,8,8,8,8,8,8,8,8,8,8,8,8,8,8,8,8,8,8,8,8,8,8,8,8,8,8,8,8,8,8,8,8,8,8,8,8,8,8,8,8,8,8,8,8,8,8,8,8,8,8,8,8,8,8,8,8,8,8,8,8,8,8,8,8,8,8,8,8,8,8,8,8,8,8,8,8,8,8,8,8,8,8,8,8,8,8,8,8,8,8,8,8,8,8,8,8,8,8,8,8,8,8,8,8,8,8,8,8,8,8,8,8,8,8,8,8]) (Qn.wrap W)).bind λh=>
 some (kz.wrap (J+(kz.wrap h)))
def te (x6:Int)(h:Int):Option Int:=
 if decide (256<=x6) then
  td (aO .u32 x6 8) (kz.wrap (h+8))
 else
  td x6 h
def CN (p0:Int):Option Int:=
 if decide (65536<=p0) then
  te (aO .u32 p0 16) 16
 else
  te p0 0
def mT (J:Int)(h:Int):Option Int:=
 (idx ([0,1,2,2,3,3,3,3,4,4,4,4,4,4,4,4,5,5,5,5,5,5,5,5,5,5,5,5,5,5,5,5,6,6,6,6,6,6,6,6,6,6,6,6,6,6,6,6,6,6,6,6,6,6,6,6,6,6,6,6,6,6,6,6,7,7,7,7,7,7,7,7,7,7,7,7,7,7,7,7,7,7,7,7,7,7,7,7,7,7,7,7,7,7,7,7,7,7,7,7,7,7,7,7,7,7,7,7,7,7,7,7,7,7,7,7,7,7,7,7,7,7,7,7,7,7,7,7,8,8,8,8,8,8,8,8,8,8,8,8,8,8,8,8,8,8,8,8,8,8,8,8,8,8,8,8,8,8,8,8,8,8,8,8,8,8,8,8,8,8,8,8,8,8,8,8,8,8,8,8,8,8,8,8,8,8,8,8,8,8,8,8,8,8,8,8,8,8,8,8,8,8,8,8,8,8,8,8,8,8,8,8,8,8,8,8,8,8,8,8,8,8,8,8,8,8,8,8,8,8,8,8,8,8,8,8,8,8,8,8,8,8,8,8,8,8,8,8,8,8,8,8,8,8,8,8]) (Qn.wrap J)).bind λW=>
 some (kz.wrap (h+(kz.wrap W)))
def mU (h:Int)(J:Int):Option Int:=
 if decide (256<=h) then
  mT (aO .u64 h 8) (kz.wrap (J+8))
 else
  mT h J
def mV (x6:Int)(h:Int):Option Int:=
 if decide (65536<=x6) then
  mU (aO .u64 x6 16) (kz.wrap (h+16))
 else
  mU x6 h
def nK (p0:Int):Option Int:=
 if decide (4294967296<=p0) then
  mV (aO .u64 p0 32) 32
 else
  mV p0 0
def ox (p0:Int):Option Int:=
 (nK p0).bind λh=>
 some h
def pX (h:List Int):Option (List Int):=
 some h
def pY (h:Int)(J:List Int):Option ((Int×List Int)⊕List Int):=
 some (.inl (kz.wrap (h+1),J))
def ng (h:Int)(J:List Int):Option ((Int×List Int)⊕((Int×List Int)⊕List Int)):=
 some (.inl (kz.wrap (h+1),J))
def nh (p1:Int)(W:Int)(a2:Int)(h:Int)(J:List Int):Option ((Int×List Int)⊕((Int×List Int)⊕List Int)):=
 if decide (h<p1) then
  (chk (decide (0<=h))).bind λa3=>
  if (d4 .u64 (aO .u64 a2 h) 1)==1 then
   (ix J (kz.wrap ((kz.wrap ((kz.wrap (W*p1))+h)).tdiv 8))).bind λa1=>
   (J[a1]?).bind λa0=>
   (chk (decide (0<=((kz.wrap ((kz.wrap (W*p1))+h)).tmod 8)))).bind λa5=>
   (ix J (kz.wrap ((kz.wrap ((kz.wrap (W*p1))+h)).tdiv 8))).bind λZ=>
   (J[Z]?).bind λa4=>
   ng h (J.set Z (bOr .u8 a0 (eK .u8 1 ((kz.wrap ((kz.wrap (W*p1))+h)).tmod 8))))
  else
   ng h J
 else
  (pY W J).map Sum.inr
def ni (p0:List Int)(p1:Int)(h:Int)(J:List Int):Option ((Int×List Int)⊕List Int):=
 if decide (h<(p0.length:Int)) then
  (idx p0 h).bind λW=>
  au (λs:(Int×List Int)=>nh p1 h W s.1 s.2) (0,J)
 else
  (pX J).map Sum.inr
def i6 (p0:List Int)(p1:Int):Option (List Int):=
 (mk 281474976710656 (kz.wrap ((kz.wrap ((kz.wrap ((p0.length:Int)*p1))+7)).tdiv 8)) 0).bind λh=>
 au (λs:(Int×List Int)=>ni p0 p1 s.1 s.2) (0,h)
def fi (p0:List Ap):Option (List Ap):=
 some p0
def fj (h:Int):Option (Int⊕List Ap):=
 some (.inl (kz.wrap (h+1)))
def fk (J:Int)(h:List Ap):Option (Int⊕List Ap):=
 (vw h J h.length).bind λW=>
 (clr h W.1 W.2 Ap.zero).bind λZ=>
 (sub Z 0 J).bind λa0=>
 (some a0).map Sum.inr
def cU (J:Int)(W:Int)(h:List Ap):Option ((Int×Int×List Ap)⊕(Int⊕List Ap)):=
 some (.inl (W,kz.wrap (J+1),h))
def fm (J:Nat×Nat)(Z:Int)(W:Int)(h:List Ap):Option ((Int×Int×List Ap)⊕(Int⊕List Ap)):=
 (chk (Zk J.2 cd)).bind λa9=>
 if decide (W<(J.2:Int)) then
  (ixv J.1 J.2 W).bind λa5=>
  (h[a5]?).bind λa2=>
  (ixv J.1 J.2 (kz.wrap (W - 1))).bind λa4=>
  (h[a4]?).bind λa3=>
  if !decide (a2=a3) then
   (ixv J.1 J.2 W).bind λa6=>
   (h[a6]?).bind λa1=>
   (ix h Z).bind λa0=>
   (h[a0]?).bind λb0=>
   cU W (kz.wrap (Z+1)) (h.set a0 a1)
  else
   cU W Z h
 else
  (fk Z h).map Sum.inr
def fo (p0:List Ap)(h:Int):Option (Int⊕List Ap):=
 if decide (h<(p0.length:Int)) then
  (ix p0 h).bind λZ=>
  (p0[Z]?).bind λW=>
  (ix p0 (kz.wrap (h - 1))).bind λJ=>
  (p0[J]?).bind λa1=>
  if decide (W=a1) then
   (vw p0 h p0.length).bind λa0=>
   au (λs:(Int×Int×List Ap)=>fm a0 s.1 s.2.1 s.2.2) (h,1,p0)
  else
   fj h
 else
  (fi p0).map Sum.inr
def dM (p0:List Ap):Option (List Ap):=
 if decide ((p0.length:Int)<2) then
  some p0
 else
  au (λs:Int=>fo p0 s) 1
def fE (p0:List Ap):Option (List Ap):=
 (app 3518437208883 ([]:List Ap) p0).bind λh=>
 some h
def lH (W:List Ap)(h:List Int)(J:List Int):Option (List Int):=
 (ox (Q3.wrap (kz.wrap ((W.length:Int) - 1)))).bind λa1=>
 (i6 J a1).bind λa0=>
 (app 140737488355328 h a0).bind λZ=>
 some Z
def iu (p0:List Ap)(W:List Ap)(Z:List Int)(J:List Int)(h:Int):Option ((List Int×Int)⊕List Int):=
 if decide (h<(p0.length:Int)) then
  (idx p0 h).bind λa2=>
  (gQ W a2).bind λa0=>
  (app 17592186044416 J ([Q3.wrap a0])).bind λa1=>
  some (.inl (a1,kz.wrap (h+1)))
 else
  (lH W Z J).map Sum.inr
def lI (p0:List Ap)(h:List Ap)(J:List Int):Option (List Int):=
 au (λs:(List Int×Int)=>iu p0 h J s.1 s.2) ([],0)
def jP (p0:List Ap)(h:List Ap)(W:List Int)(J:Int):Option ((List Int×Int)⊕List Int):=
 if decide (J<(h.length:Int)) then
  (idx h J).bind λZ=>
  (j8 Z).bind λa0=>
  (app 140737488355328 W a0).bind λa1=>
  some (.inl (a1,kz.wrap (J+1)))
 else
  (lI p0 h W).map Sum.inr
def mu (p0:List Ap):Option (List Int):=
 (fE p0).bind λJ=>
 (jO J bZ).bind λW=>
 (dM W).bind λh=>
 au (λs:(List Int×Int)=>jP p0 h s.1 s.2) ([Qn.wrap (h.length:Int)],0)
def n5 (h:Int):Option Int:=
 some h
def kQ (p0:List Int)(J:Int)(h:Int):Option ((Int×Int)⊕Int):=
 if decide (h<(p0.length:Int)) then
  (idx p0 h).bind λW=>
  some (.inl ((if W<J then W else J),kz.wrap (h+1)))
 else
  (n5 J).map Sum.inr
def n7 (p0:List Int):Option Int:=
 (idx p0 0).bind λh=>
 au (λs:(Int×Int)=>kQ p0 s.1 s.2) (h,1)
def j9 (p0:List Int):Option Int:=
 if decide ((p0.length:Int)<1) then
  none
 else
  n7 p0
def qI (Z:Int)(a0:List Int)(h:Int):Option (List Int):=
 (lf (Q3.wrap Z)).bind λa2=>
 (app 140737488355328 a2 ([Qn.wrap h])).bind λJ=>
 (i6 a0 h).bind λW=>
 (app 140737488355328 J W).bind λa1=>
 some a1
def nL (p0:List Int)(J:Int)(Z:List Int)(h:Int)(W:Int):Option ((List Int×Int×Int)⊕List Int):=
 if decide (W<(p0.length:Int)) then
  (idx p0 W).bind λa0=>
  (app 17592186044416 Z ([Q3.wrap ((Q3.wrap a0) - (Q3.wrap J))])).bind λa2=>
  (nK (Q3.wrap ((Q3.wrap a0) - (Q3.wrap J)))).bind λa1=>
  some (.inl (a2,(if h<a1 then a1 else h),kz.wrap (W+1)))
 else
  (qI J Z h).map Sum.inr
def lh (p0:List Int):Option (List Int):=
 (j9 p0).bind λh=>
 au (λs:(List Int×Int×Int)=>nL p0 h s.1 s.2.1 s.2.2) ([],0,0)
def ke (h:List Int):Option (List Int×Int):=
 some (h,0)
def iC (p1:List Ap)(J:List Int)(h:Int):Option ((List Int×Int)⊕(List Int×Int)):=
 if decide (h<(p1.length:Int)) then
  (idx p1 h).bind λa0=>
  (j8 a0).bind λW=>
  (app 140737488355328 J W).bind λZ=>
  some (.inl (Z,kz.wrap (h+1)))
 else
  (ke J).map Sum.inr
def d6 (p0:Int)(p1:List Ap)(h:List Int×Bool)(W:Bool):Option (List Int×Int):=
 if W then
  some ([],62)
 else
  if (p1.length:Int)==0 then
   some ([],0)
  else
   if p0==1 then
    (mt p1).bind λa0=>
    some (a0,0)
   else
    if p0==2 then
     (lg h.1).bind λZ=>
     some (Z,0)
    else
     if p0==3 then
      (mu p1).bind λa1=>
      some (a1,0)
     else
      if p0==4 then
       (lh h.1).bind λJ=>
       some (J,0)
      else
       au (λs:(List Int×Int)=>iC p1 s.1 s.2) ([],0)
def gu (p0:Int)(p1:List Ap)(J:Bool):Option (List Int×Int):=
 if J then
  some ([],62)
 else
  if decide (64<(p1.length:Int)) then
   some ([],61)
  else
   (dU p1 eH).bind λW=>
   if W then
    some ([],60)
   else
    (mq p1).bind λh=>
    if !h.2 then
     if p0==2 then
      d6 p0 p1 h true
     else
      d6 p0 p1 h (p0==4)
    else
     d6 p0 p1 h false
def eT (p0:Int)(p1:List Ap):Option (List Int×Int):=
 if decide (p0<0) then
  gu p0 p1 true
 else
  gu p0 p1 (decide (4<p0))
def xk (h:Int):Option Int:=
 some h
def oy (h:Int)(J:Int)(W:Int):Option ((Int×Int×Int)⊕Int):=
 some (.inl (J,W,kz.wrap (h+1)))
def lJ (W:Int)(J:Int)(h:Int)(a0:List Int×Int)(Z:Bool):Option ((Int×Int×Int)⊕Int):=
 if Z then
  oy h h (a0.1.length:Int)
 else
  oy h W J
def rM (p0:List Ap)(Z:Int)(J:Int)(h:Int):Option ((Int×Int×Int)⊕Int):=
 if decide (h<=4) then
  (eT h p0).bind λW=>
  if W.2==0 then
   if decide (J<0) then
    lJ Z J h W true
   else
    lJ Z J h W (decide ((W.1.length:Int)<J))
  else
   lJ Z J h W false
 else
  (xk Z).map Sum.inr
def oM (p0:List Ap):Option Int:=
 au (λs:(Int×Int×Int)=>rM p0 s.1 s.2.1 s.2.2) (0,(-1),0)
def l8 (h:Ap):Option Ap:=
 some h
def iT (h:Int)(J:Ap):Option ((Int×Ap)⊕Ap):=
 some (.inl (kz.wrap (h+1),J))
def iU (p0:List Ap)(p1:(Ap->Ap->Option Int))(h:Int)(J:Ap):Option ((Int×Ap)⊕Ap):=
 if decide (h<(p0.length:Int)) then
  (idx p0 h).bind λa0=>
  (p1 a0 J).bind λW=>
  if decide (W<0) then
   (idx p0 h).bind λZ=>
   iT h Z
  else
   iT h J
 else
  (l8 J).map Sum.inr
def l9 (p0:List Ap)(p1:(Ap->Ap->Option Int)):Option Ap:=
 (idx p0 0).bind λh=>
 au (λs:(Int×Ap)=>iU p0 p1 s.1 s.2) (1,h)
def fF (p0:List Ap)(p1:(Ap->Ap->Option Int)):Option Ap:=
 if decide ((p0.length:Int)<1) then
  none
 else
  l9 p0 p1
def ma (h:Ap):Option Ap:=
 some h
def iV (h:Int)(J:Ap):Option ((Int×Ap)⊕Ap):=
 some (.inl (kz.wrap (h+1),J))
def iW (p0:List Ap)(p1:(Ap->Ap->Option Int))(h:Int)(J:Ap):Option ((Int×Ap)⊕Ap):=
 if decide (h<(p0.length:Int)) then
  (idx p0 h).bind λa0=>
  (p1 a0 J).bind λW=>
  if decide (0<W) then
   (idx p0 h).bind λZ=>
   iV h Z
  else
   iV h J
 else
  (ma J).map Sum.inr
def mb (p0:List Ap)(p1:(Ap->Ap->Option Int)):Option Ap:=
 (idx p0 0).bind λh=>
 au (λs:(Int×Ap)=>iW p0 p1 s.1 s.2) (1,h)
def fG (p0:List Ap)(p1:(Ap->Ap->Option Int)):Option Ap:=
 if decide ((p0.length:Int)<1) then
  none
 else
  mb p0 p1
def iN (p0:List Ap):Option (List Ap):=
 some p0
def eU (x36:bm)(h:Ap):Option (bm×Bool):=
 if h.fKind==0 then
  some (({ x36 with fNulls:=kz.wrap (x36.fNulls+1) }),true)
 else
  some (x36,true)
def kf (p0:Int)(p1:List Ap):Option bm:=
 (fF p1 bZ).bind λW=>
 (fG p1 bZ).bind λZ=>
 (iN p1).bind λJ=>
 (cD (λ(s:bm) (x:Ap)=>eU s x) (⟨p0,(p1.length:Int),W,Z,0,0⟩:bm) J).bind λh=>
 if h.2 then
  some h.1
 else
  none
def oX (p0:Ap):Option (List Int):=
 (mr ([p0])).bind λh=>
 (sub h.1 1 h.1.length).bind λJ=>
 some J
def Ai (h:Int):Option Int:=
 some (zg .u32 h)
def tU (p0:List Int)(J:List Int)(h:Int)(W:Int):Option ((Int×Int)⊕Int):=
 if decide (W<(p0.length:Int)) then
  (idx p0 W).bind λZ=>
  (ix J (d4 .u32 (ft .u32 h (Zl.wrap Z)) 15)).bind λa2=>
  (J[a2]?).bind λa0=>
  (ix J (d4 .u32 (ft .u32 a0 (aO .u32 (ft .u32 h (Zl.wrap Z)) 4)) 15)).bind λa1=>
  (J[a1]?).bind λa3=>
  some (.inl (ft .u32 a3 (aO .u32 (ft .u32 a0 (aO .u32 (ft .u32 h (Zl.wrap Z)) 4)) 4),kz.wrap (W+1)))
 else
  (Ai h).map Sum.inr
def pZ (p0:List Int)(h:List Int):Option Int:=
 au (λs:(Int×Int)=>tU p0 h s.1 s.2) (4294967295,0)
def tV (J:Int)(h:List Int):Option ((Int×List Int)⊕Int):=
 some (.inl (kz.wrap (J+1),h))
def tW (J:Int)(h:List Int)(Z:Int):Option ((Int×List Int)⊕Int):=
 (ix h J).bind λW=>
 (h[W]?).bind λa0=>
 tV J (h.set W Z)
def p9 (Z:Int)(W:List Int)(h:Int)(J:Int):Option ((Int×Int)⊕((Int×List Int)⊕Int)):=
 if decide (J<4) then
  some (.inl (ft .u32 (aO .u32 h 1) (Zl.wrap (3988292384*(d4 .u32 h 1))),kz.wrap (J+1)))
 else
  (tW Z W h).map Sum.inr
def tX (p0:List Int)(h:Int)(J:List Int):Option ((Int×List Int)⊕Int):=
 if decide (h<16) then
  au (λs:(Int×Int)=>p9 h J s.1 s.2) (Zl.wrap h,0)
 else
  (pZ p0 J).map Sum.inr
def jg (p0:List Int):Option Int:=
 au (λs:(Int×List Int)=>tX p0 s.1 s.2) (0,(Q5 16 0:List Int))
def jQ (p0:List Int):Option (List Int):=
 (jg p0).bind λh=>
 (app 140737488355328 p0 ([Qn.wrap (aO .u32 h 24),Qn.wrap (aO .u32 h 16),Qn.wrap (aO .u32 h 8),Qn.wrap h])).bind λJ=>
 some J
def lK (p1:List Ap)(W:Int):Option (List Int×Int):=
 (eT W p1).bind λh=>
 if h.2 != 0 then
  some ([],h.2)
 else
  (kf W p1).bind λJ=>
  (oX J.fMin).bind λa4=>
  (app 140737488355328 ([Qn.wrap W,Qn.wrap J.fMany,Qn.wrap J.fNulls]) a4).bind λa0=>
  (oX J.fMax).bind λZ=>
  (app 140737488355328 a0 Z).bind λa1=>
  (app 140737488355328 a1 ([Qn.wrap (aO .i64 (h.1.length:Int) 8),Qn.wrap (h.1.length:Int)])).bind λa2=>
  (app 140737488355328 a2 h.1).bind λa3=>
  (jQ a3).bind λa5=>
  some (a5,0)
def mw (p0:Int)(p1:List Ap):Option (List Int×Int):=
 if (p1.length:Int)==0 then
  some ([],70)
 else
  if p0==(-1) then
   (oM p1).bind λh=>
   lK p1 h
  else
   lK p1 p0
def lL (h:Bool):Option Bool:=
 some h
def pw (h:Bool):Option Bool:=
 some h
def rN (p0:Ap)(p1:Ap):Option Bool:=
 if p0.fKind != p1.fKind then
  some (decide (p0.fKind<p1.fKind))
 else
  if p0.fKind==1 then
   if !p0.fBool then
    lL p1.fBool
   else
    lL false
  else
   if p0.fKind==2 then
    some (decide (p0.fInt<p1.fInt))
   else
    if p0.fKind==3 then
     pw (ltB p0.fText p1.fText)
    else
     pw false
def px (p0:Ap)(p1:Ap):Option Int:=
 (rN p0 p1).bind λJ=>
 (rN p1 p0).bind λh=>
 if J then
  some (-1)
 else
  if h then
   some 1
  else
   some 0
def rO (x6:Int):Option Int:=
 some x6
def oz (p0:List Int)(J:Int)(h:Int):Option ((Int×Int)⊕Int):=
 if decide (h<8) then
  (idx p0 h).bind λW=>
  some (.inl (bOr .u64 (eK .u64 J 8) (Q3.wrap W),kz.wrap (h+1)))
 else
  (rO J).map Sum.inr
def oN (p0:List Int):Option Int:=
 au (λs:(Int×Int)=>oz p0 s.1 s.2) (0,0)
def jR (h:List Int)(a2:Bool):Option (Ap×List Int×Bool):=
 if a2 then
  (idx h 0).bind λW=>
  (sub h 1 (Qn.wrap (1+W))).bind λZ=>
  (nI Z).bind λa1=>
  (idx h 0).bind λa0=>
  (sub h (Qn.wrap (1+a0)) h.length).bind λJ=>
  some (a1,J,true)
 else
  some ((⟨0,false,0,[]⟩:Ap),[],false)
def nM (W:Int)(h:List Int)(Z:Bool):Option (Ap×List Int×Bool):=
 if Z then
  (oN h).bind λa3=>
  (d5 (kz.wrap a3)).bind λJ=>
  (sub h 8 h.length).bind λa1=>
  some (J,a1,true)
 else
  if (kz.wrap W)==3 then
   if decide (1<=(h.length:Int)) then
    (idx h 0).bind λa0=>
    if decide (a0<=64) then
     (idx h 0).bind λa2=>
     jR h (decide ((kz.wrap a2)<(h.length:Int)))
    else
     jR h false
   else
    jR h false
  else
   jR h false
def jS (J:Int)(h:List Int)(a1:Bool):Option (Ap×List Int×Bool):=
 if a1 then
  (idx h 0).bind λZ=>
  (nH (Z==1)).bind λa0=>
  (sub h 1 h.length).bind λW=>
  some (a0,W,true)
 else
  if (kz.wrap J)==2 then
   nM J h (decide (8<=(h.length:Int)))
  else
   nM J h false
def qJ (p0:List Int):Option (Ap×List Int×Bool):=
 if (p0.length:Int)==0 then
  some ((⟨0,false,0,[]⟩:Ap),[],false)
 else
  (idx p0 0).bind λJ=>
  (sub p0 1 p0.length).bind λh=>
  if (kz.wrap J)==0 then
   (j7).bind λZ=>
   some (Z,h,true)
  else
   if (kz.wrap J)==1 then
    if decide (1<=(h.length:Int)) then
     (idx h 0).bind λW=>
     jS J h (decide (W<=1))
    else
     jS J h false
   else
    jS J h false
def rP (h:List Int)(J:List Ap):Option (List Ap×Int):=
 if decide (0<(h.length:Int)) then
  some ([],30)
 else
  some (J,0)
def jT (a0:Int)(x82:List Int)(W:List Ap)(J:Int):Option ((List Int×List Ap×Int)⊕(List Ap×Int)):=
 if decide (J<(kz.wrap a0)) then
  (qJ x82).bind λh=>
  if !h.2.2 then
   (some ([],30)).map Sum.inr
  else
   (app 3518437208883 W ([h.1])).bind λZ=>
   some (.inl (h.2.1,Z,kz.wrap (J+1)))
 else
  (rP x82 W).map Sum.inr
def oA (p0:List Int)(J:Bool):Option (List Ap×Int):=
 if J then
  some ([],30)
 else
  (idx p0 0).bind λW=>
  (sub p0 1 p0.length).bind λh=>
  au (λs:(List Int×List Ap×Int)=>jT W s.1 s.2.1 s.2.2) (h,[],0)
def kO (p0:List Int):Option (List Ap×Int):=
 if (p0.length:Int)==0 then
  oA p0 true
 else
  (idx p0 0).bind λh=>
  oA p0 (decide (16<h))
def xn:Option (Ap×List Int×Bool):=
 some ((⟨0,false,0,[]⟩:Ap),[],false)
def lM (p0:List Int)(h:Int)(W:Bool):Option (Int⊕(Ap×List Int×Bool)):=
 if W then
  (sub p0 0 h).bind λa2=>
  (app 140737488355328 ([1]) a2).bind λa1=>
  (kO a1).bind λJ=>
  if J.2==0 then
   (idx J.1 0).bind λZ=>
   (sub p0 h p0.length).bind λa0=>
   (some (Z,a0,true)).map Sum.inr
  else
   some (.inl (kz.wrap (h+1)))
 else
  (xn).map Sum.inr
def lN (p0:List Int)(h:Int):Option (Int⊕(Ap×List Int×Bool)):=
 if decide (h<=(p0.length:Int)) then
  lM p0 h (decide (h<=66))
 else
  lM p0 h false
def kP (p0:List Int):Option (Ap×List Int×Bool):=
 au (λs:Int=>lN p0 s) 1
def mW (p0:List Int)(a4:Int)(a3:Int)(a2:Int)(a1:Ap×List Int×Bool)(h:Ap×List Int×Bool)(a0:Bool):Option (bm×List Int×Bool):=
 if a0 then
  some ((⟨0,0,Ap.zero,Ap.zero,0,0⟩:bm),[],false)
 else
  (idx h.2.1 0).bind λW=>
  (idx h.2.1 1).bind λJ=>
  (sub h.2.1 2 h.2.1.length).bind λZ=>
  if decide ((Z.length:Int)<(kz.wrap ((bOr .i64 (eK .i64 (kz.wrap W) 8) (kz.wrap J))+4))) then
   some ((⟨0,0,Ap.zero,Ap.zero,0,0⟩:bm),[],false)
  else
   (sub Z 0 (bOr .i64 (eK .i64 (kz.wrap W) 8) (kz.wrap J))).bind λa5=>
   some ({ { { (⟨kz.wrap a4,kz.wrap a3,Ap.zero,Ap.zero,kz.wrap a2,0⟩:bm) with fMin:=a1.1 } with fMax:=h.1 } with fBytes:=kz.wrap ((kz.wrap ((kz.wrap ((p0.length:Int) - (Z.length:Int)))+(bOr .i64 (eK .i64 (kz.wrap W) 8) (kz.wrap J))))+4) },a5,true)
def gc (p0:List Int)(x7:Bool):Option (bm×List Int×Bool):=
 if x7 then
  some ((⟨0,0,Ap.zero,Ap.zero,0,0⟩:bm),[],false)
 else
  (idx p0 0).bind λa0=>
  (idx p0 1).bind λZ=>
  (idx p0 2).bind λW=>
  (sub p0 3 p0.length).bind λa1=>
  (kP a1).bind λh=>
  (kP h.2.1).bind λJ=>
  if !h.2.2 then
   mW p0 a0 Z W h J true
  else
   if !J.2.2 then
    mW p0 a0 Z W h J true
   else
    mW p0 a0 Z W h J (decide ((J.2.1.length:Int)<2))
def jh (p0:List Int):Option (bm×List Int×Bool):=
 if decide ((p0.length:Int)<3) then
  gc p0 true
 else
  (idx p0 0).bind λZ=>
  if decide (4<Z) then
   gc p0 true
  else
   (idx p0 1).bind λa0=>
   if a0==0 then
    gc p0 true
   else
    (idx p0 1).bind λh=>
    if decide (64<h) then
     gc p0 true
    else
     (idx p0 2).bind λW=>
     (idx p0 1).bind λJ=>
     gc p0 (decide (J<W))
def jE (p0:List Int):Option (List Int):=
 (app 140737488355328 ([]) p0).bind λh=>
 some h
def nN:Option Bool:=
 some true
def fH (p0:List Int)(p1:List Int)(h:Int):Option (Int⊕Bool):=
 if decide (h<(p0.length:Int)) then
  (idx p0 h).bind λW=>
  (idx p1 h).bind λJ=>
  if W != J then
   (some false).map Sum.inr
  else
   some (.inl (kz.wrap (h+1)))
 else
  (nN).map Sum.inr
def fU (p0:List Int)(p1:List Int):Option Bool:=
 if (p0.length:Int) != (p1.length:Int) then
  some false
 else
  au (λs:Int=>fH p0 p1 s) 0
def rh (p0:ah):Option (Ap×ah):=
 some ((⟨0,false,0,[]⟩:Ap),{ p0 with fOk:=false })
def gB (p0:ah)(h:Int)(a0:Bool):Option (Int⊕(Ap×ah)):=
 if a0 then
  (sub p0.fB 0 h).bind λa2=>
  (app 140737488355328 ([1]) a2).bind λa1=>
  (kO a1).bind λJ=>
  if J.2==0 then
   (sub p0.fB h p0.fB.length).bind λZ=>
   (idx J.1 0).bind λW=>
   (some (W,{ p0 with fB:=Z })).map Sum.inr
  else
   some (.inl (kz.wrap (h+1)))
 else
  (rh p0).map Sum.inr
def gC (p0:ah)(h:Int):Option (Int⊕(Ap×ah)):=
 if decide (h<=(p0.fB.length:Int)) then
  gB p0 h (decide (h<=66))
 else
  gB p0 h false
def cY (p0:ah):Option (Ap×ah):=
 au (λs:Int=>gC p0 s) 1
def cp (p0:ah)(p1:Int):Option (List Int×ah):=
 if decide ((p0.fB.length:Int)<p1) then
  (mk 281474976710656 p1 0).bind λW=>
  some (W,{ { p0 with fB:=[] } with fOk:=false })
 else
  (mk 281474976710656 p1 0).bind λh=>
  (sub p0.fB p1 p0.fB.length).bind λJ=>
  some ((cpy h p0.fB),{ p0 with fB:=J })
def CO (p0:Int)(p1:Int):Option (Int×Int):=
 some (Zl.wrap (aO .u64 (Q3.wrap ((Q3.wrap p0)*(Q3.wrap p1))) 32),Zl.wrap (Q3.wrap ((Q3.wrap p0)*(Q3.wrap p1))))
def py (p0:Int)(p1:Int):Option (Int×Int):=
 some (Q3.wrap ((Q3.wrap ((Q3.wrap ((aO .u64 p0 32)*(aO .u64 p1 32)))+(aO .u64 (Q3.wrap ((Q3.wrap ((aO .u64 p0 32)*(d4 .u64 p1 4294967295)))+(aO .u64 (Q3.wrap ((d4 .u64 p0 4294967295)*(d4 .u64 p1 4294967295))) 32))) 32)))+(aO .u64 (Q3.wrap ((d4 .u64 (Q3.wrap ((Q3.wrap ((aO .u64 p0 32)*(d4 .u64 p1 4294967295)))+(aO .u64 (Q3.wrap ((d4 .u64 p0 4294967295)*(d4 .u64 p1 4294967295))) 32))) 4294967295)+(Q3.wrap ((d4 .u64 p0 4294967295)*(aO .u64 p1 32))))) 32)),Q3.wrap (p0*p1))
def sJ (p0:Int)(p1:Int):Option (Int×Int):=
 (py p0 p1).bind λh=>
 some (h.1,h.2)
def gD (h:List Ap):Option (List Ap):=
 some h
def gE (J:Int)(h:List Ap):Option ((Int×List Ap)⊕List Ap):=
 if decide (J<(h.length:Int)) then
  (vw h J h.length).bind λW=>
  (vw h 0 J).bind λZ=>
  (chk (Zk (min Z.2 W.2) cd)).bind λa1=>
  (cpv h W Z).bind λa0=>
  some (.inl (kz.wrap (J+((min Z.2 W.2:Nat):Int)),a0))
 else
  (gD h).map Sum.inr
def gF (p0:List Ap)(J:Int×Int):Option (List Ap):=
 (mk 7036874417766 (kz.wrap J.2) Ap.zero).bind λh=>
 au (λs:(Int×List Ap)=>gE s.1 s.2) (((min p0.length h.length:Nat):Int),(cpy h p0))
def eN (p0:List Ap)(J:Int×Int)(h:Bool):Option (List Ap):=
 if h then
  none
 else
  gF p0 J
def gG (p0:List Ap)(p1:Int):Option (List Ap):=
 (sJ (Q3.wrap (p0.length:Int)) (Q3.wrap p1)).bind λh=>
 if decide (0<h.1) then
  eN p0 h true
 else
  eN p0 h (decide (9223372036854775807<h.2))
def eI (p0:List Ap)(p1:Int):Option (List Ap):=
 if decide (p1<0) then
  none
 else
  gG p0 p1
def mc (J:List Int×ah)(h:Int):Option (Int×ah):=
 some (h,J.2)
def gh (J:List Int×ah)(W:Int)(h:Int):Option ((Int×Int)⊕(Int×ah)):=
 if decide (h<(J.1.length:Int)) then
  (idx J.1 h).bind λZ=>
  some (.inl (bOr .u64 (eK .u64 W 8) (Q3.wrap Z),kz.wrap (h+1)))
 else
  (mc J W).map Sum.inr
def fI (p0:ah):Option (Int×ah):=
 (cp p0 8).bind λh=>
 au (λs:(Int×Int)=>gh h s.1 s.2) (0,0)
def my (x6:ah):Option (Int×ah):=
 some (0,{ x6 with fOk:=false })
def gH (Z:Int)(h:Int)(a0:ah)(a1:Bool):Option ((Int×Int×ah)⊕(Int×ah)):=
 if a1 then
  (cp a0 1).bind λW=>
  (idx W.1 0).bind λJ=>
  (chk (decide (0<=h))).bind λa2=>
  if decide (J<128) then
   (some (bOr .u64 Z (eK .u64 (Q3.wrap (d4 .u8 J 127)) h),W.2)).map Sum.inr
  else
   some (.inl (bOr .u64 Z (eK .u64 (Q3.wrap (d4 .u8 J 127)) h),kz.wrap (h+7),W.2))
 else
  (my a0).map Sum.inr
def jy (W:Int)(h:Int)(J:ah):Option ((Int×Int×ah)⊕(Int×ah)):=
 if decide (h<70) then
  gH W h J J.fOk
 else
  gH W h J false
def eJ (p0:ah):Option (Int×ah):=
 au (λs:(Int×Int×ah)=>jy s.1 s.2.1 s.2.2) (0,0,p0)
def kY (h:List Int×ah)(J:List Int):Option (List Int×ah):=
 some (J,h.2)
def kZ (h:Int)(J:List Int):Option ((Int×List Int)⊕(List Int×ah)):=
 some (.inl (kz.wrap (h+1),J))
def ik (p2:Int)(a1:List Int×ah)(J:Int)(h:Int)(W:List Int):Option ((Int×List Int)⊕((Int×List Int)⊕(List Int×ah))):=
 if decide (h<p2) then
  (ix W J).bind λa0=>
  (W[a0]?).bind λa2=>
  (idx a1.1 (kz.wrap ((kz.wrap ((kz.wrap (J*p2))+h)).tdiv 8))).bind λa3=>
  (chk (decide (0<=((kz.wrap ((kz.wrap (J*p2))+h)).tmod 8)))).bind λa4=>
  (chk (decide (0<=h))).bind λa6=>
  (ix W J).bind λZ=>
  (W[Z]?).bind λa5=>
  some (.inl (kz.wrap (h+1),(W.set Z (bOr .u64 a2 (eK .u64 (Q3.wrap (d4 .u8 (aO .u8 a3 ((kz.wrap ((kz.wrap (J*p2))+h)).tmod 8)) 1)) h)))))
 else
  (kZ J W).map Sum.inr
def fp (p2:Int)(J:List Int×ah)(Z:List Int)(h:Int)(W:List Int):Option ((Int×List Int)⊕(List Int×ah)):=
 if decide (h<(Z.length:Int)) then
  au (λs:(Int×List Int)=>ik p2 J h s.1 s.2) (0,W)
 else
  (kY J W).map Sum.inr
def eO (p0:ah)(p1:Int)(p2:Int):Option (List Int×ah):=
 if decide (64<p2) then
  (mk 35184372088832 p1 0).bind λW=>
  some (W,{ p0 with fOk:=false })
 else
  (cp p0 (kz.wrap ((kz.wrap ((kz.wrap (p1*p2))+7)).tdiv 8))).bind λJ=>
  (mk 35184372088832 p1 0).bind λh=>
  au (λs:(Int×List Int)=>fp p2 J h s.1 s.2) (0,h)
def bJ (x6:List Ap)(h:ah):Option (List Ap×ah):=
 some (x6,h)
def jz (W:List Ap)(J:ah)(Z:Bool):Option ((List Ap×ah)⊕(List Ap×ah)):=
 if Z then
  (cY J).bind λh=>
  (app 3518437208883 W ([h.1])).bind λa0=>
  some (.inl (a0,h.2))
 else
  (bJ W J).map Sum.inr
def mz (p2:Int)(h:List Ap)(J:ah):Option ((List Ap×ah)⊕(List Ap×ah)):=
 if decide ((h.length:Int)<p2) then
  jz h J J.fOk
 else
  jz h J false
def jA (p2:Int)(h:List Ap)(a0:ah)(x82:Bool):Option ((List Ap×ah)⊕(List Ap×ah)):=
 if x82 then
  (cp a0 1).bind λW=>
  (idx W.1 0).bind λJ=>
  (cY W.2).bind λZ=>
  (eI ([Z.1]) (if (kz.wrap (p2 - (h.length:Int)))<(kz.wrap J) then kz.wrap (p2 - (h.length:Int)) else kz.wrap J)).bind λa2=>
  (app 3518437208883 h a2).bind λa1=>
  some (.inl (a1,Z.2))
 else
  (bJ h a0).map Sum.inr
def mA (p2:Int)(J:List Ap)(h:ah):Option ((List Ap×ah)⊕(List Ap×ah)):=
 if decide ((J.length:Int)<p2) then
  jA p2 J h h.fOk
 else
  jA p2 J h false
def jB (Z:List Ap)(J:Int)(W:ah)(a1:Bool):Option ((List Ap×Int×ah)⊕(List Ap×ah)):=
 if a1 then
  (eJ W).bind λh=>
  (d5 (kz.wrap (J+(ft .i64 (kz.wrap (aO .u64 h.1 1)) (kz.wrap (0 - (kz.wrap (d4 .u64 h.1 1)))))))).bind λa2=>
  (app 3518437208883 Z ([a2])).bind λa0=>
  some (.inl (a0,kz.wrap (J+(ft .i64 (kz.wrap (aO .u64 h.1 1)) (kz.wrap (0 - (kz.wrap (d4 .u64 h.1 1)))))),h.2))
 else
  (bJ Z W).map Sum.inr
def mB (p2:Int)(J:List Ap)(W:Int)(h:ah):Option ((List Ap×Int×ah)⊕(List Ap×ah)):=
 if decide ((J.length:Int)<p2) then
  jB J W h h.fOk
 else
  jB J W h false
def jC (a0:List Ap)(h:List Int×ah)(W:List Ap)(J:Int):Option ((List Ap×Int)⊕(List Ap×ah)):=
 if decide (J<(h.1.length:Int)) then
  (idx h.1 J).bind λZ=>
  if decide ((Q3.wrap (a0.length:Int))<=Z) then
   (some ([],h.2)).map Sum.inr
  else
   (idx a0 Z).bind λa2=>
   (app 3518437208883 W ([a2])).bind λa1=>
   some (.inl (a1,kz.wrap (J+1)))
 else
  (bJ W h.2).map Sum.inr
def mD (p2:Int)(h:List Ap)(Z:ah):Option (List Ap×ah):=
 (ox (Q3.wrap (kz.wrap ((if (h.length:Int)<1 then 1 else (h.length:Int)) - 1)))).bind λW=>
 (eO Z p2 W).bind λJ=>
 au (λs:(List Ap×Int)=>jC h J s.1 s.2) ([],0)
def mE (p2:Int)(a1:Int)(Z:List Ap)(h:Int)(J:ah):Option ((List Ap×Int×ah)⊕(List Ap×ah)):=
 if decide (h<a1) then
  (cY J).bind λW=>
  (app 3518437208883 Z ([W.1])).bind λa0=>
  some (.inl (a0,Qn.wrap (h+1),W.2))
 else
  (mD p2 Z J).map Sum.inr
def mF (a1:Int×ah)(J:List Int×ah)(W:List Ap)(h:Int):Option ((List Ap×Int)⊕(List Ap×ah)):=
 if decide (h<(J.1.length:Int)) then
  (idx J.1 h).bind λa0=>
  (d5 (kz.wrap (Q3.wrap (a1.1+a0)))).bind λZ=>
  (app 3518437208883 W ([Z])).bind λa2=>
  some (.inl (a2,kz.wrap (h+1)))
 else
  (bJ W J.2).map Sum.inr
def bB (p0:ah)(p1:Int)(p2:Int):Option (List Ap×ah):=
 if p1==0 then
  au (λs:(List Ap×ah)=>mz p2 s.1 s.2) ([],p0)
 else
  if p1==1 then
   au (λs:(List Ap×ah)=>mA p2 s.1 s.2) ([],p0)
  else
   if p1==2 then
    (fI p0).bind λh=>
    (d5 (kz.wrap h.1)).bind λa2=>
    (app 3518437208883 ([]) ([a2])).bind λa0=>
    au (λs:(List Ap×Int×ah)=>mB p2 s.1 s.2.1 s.2.2) (a0,kz.wrap h.1,h.2)
   else
    if p1==3 then
     (cp p0 1).bind λJ=>
     (idx J.1 0).bind λa1=>
     au (λs:(List Ap×Int×ah)=>mE p2 a1 s.1 s.2.1 s.2.2) ([],0,J.2)
    else
     (fI p0).bind λZ=>
     (cp Z.2 1).bind λW=>
     (idx W.1 0).bind λa3=>
     (eO W.2 p2 (kz.wrap a3)).bind λa4=>
     au (λs:(List Ap×Int)=>mF Z a4 s.1 s.2) ([],0)
def iD (h:List Ap)(J:Bool):Option (List Ap×Int):=
 if J then
  some ([],60)
 else
  some (h,0)
def kg (p0:Int)(p1:List Int)(p2:Int)(h:List Ap)(W:ah):Option (List Ap×Int):=
 (eT p0 h).bind λJ=>
 if !W.fOk then
  iD h true
 else
  if J.2 != 0 then
   iD h true
  else
   if (h.length:Int) != p2 then
    iD h true
   else
    (fU J.1 p1).bind λZ=>
    iD h (!Z)
def kj (p0:Int)(p1:List Int)(p2:Int)(J:Bool):Option (List Ap×Int):=
 if J then
  some ([],61)
 else
  if decide (0<p2) then
   (bB (⟨p1,true⟩:ah) p0 p2).bind λh=>
   kg p0 p1 p2 h.1 h.2
  else
   kg p0 p1 p2 ([]) (⟨p1,true⟩:ah)
def ko (p0:Int)(p1:List Int)(p2:Int)(h:Bool):Option (List Ap×Int):=
 if h then
  some ([],62)
 else
  if decide (p2<0) then
   kj p0 p1 p2 true
  else
   kj p0 p1 p2 (decide (64<p2))
def kF (p0:Int)(p1:List Int)(p2:Int):Option (List Ap×Int):=
 if decide (p0<0) then
  ko p0 p1 p2 true
 else
  ko p0 p1 p2 (decide (4<p0))
def i7 (J:bm×List Int×Bool)(h:List Ap×Int)(W:Bool):Option (List Ap×Int×Int):=
 if W then
  some ([],0,70)
 else
  some (h.1,J.1.fBytes,0)
def kp (p0:List Int):Option (List Ap×Int×Int):=
 (jh p0).bind λh=>
 if !h.2.2 then
  some ([],0,70)
 else
  (sub p0 0 (kz.wrap (h.1.fBytes - 4))).bind λa3=>
  (jE a3).bind λZ=>
  (jQ Z).bind λa2=>
  (sub p0 0 h.1.fBytes).bind λa0=>
  (fU a2 a0).bind λa1=>
  if !a1 then
   some ([],0,71)
  else
   (kF h.1.fKind h.2.1 h.1.fMany).bind λJ=>
   if J.2 != 0 then
    some ([],0,70)
   else
    (kf h.1.fKind J.1).bind λW=>
    if W.fNulls != h.1.fNulls then
     i7 h J true
    else
     if !decide (W.fMin=h.1.fMin) then
      i7 h J true
     else
      i7 h J (!decide (W.fMax=h.1.fMax))
def yE:Option Bool:=
 some true
def ph (p0:List Ap)(p1:List Ap)(h:Int):Option (Int⊕Bool):=
 if decide (h<(p0.length:Int)) then
  (idx p0 h).bind λJ=>
  (idx p1 h).bind λW=>
  if !decide (J=W) then
   (some false).map Sum.inr
  else
   some (.inl (kz.wrap (h+1)))
 else
  (yE).map Sum.inr
def pB (p0:List Ap)(p1:List Ap):Option Bool:=
 if (p0.length:Int) != (p1.length:Int) then
  some false
 else
  au (λs:Int=>ph p0 p1 s) 0
def gI (p0:aa):Option aa:=
 (dv p0.fRow).bind λh=>
 some ({ p0 with fRow:=h })
def xp (h:List Ap):Option (List Ap):=
 some h
def lO (h:List Ap)(J:Int)(Z:Ap):Option ((List Ap×Int)⊕List Ap):=
 (app 3518437208883 h ([Z])).bind λW=>
 some (.inl (W,kz.wrap (J+1)))
def lP (p1:List Ap)(h:List Ap)(J:Int)(Z:Int)(a0:Ap)(a1:Bool):Option ((List Ap×Int)⊕List Ap):=
 if a1 then
  (idx p1 Z).bind λW=>
  lO h J W
 else
  lO h J a0
def oB (p0:List Int)(p1:List Ap)(W:List Ap)(J:Int):Option ((List Ap×Int)⊕List Ap):=
 if decide (J<(p0.length:Int)) then
  (idx p0 J).bind λh=>
  (j7).bind λZ=>
  if decide (0<=h) then
   lP p1 W J h Z (decide (h<(p1.length:Int)))
  else
   lP p1 W J h Z false
 else
  (xp W).map Sum.inr
def jD (p0:List Int)(p1:List Ap):Option (List Ap):=
 au (λs:(List Ap×Int)=>oB p0 p1 s.1 s.2) ([],0)
def tf (p0:List Ap)(p1:List Ap):Option Int:=
 (gW (p0.length:Int) (p1.length:Int)).bind λh=>
 some h
def tg (p0:List Ap)(p1:List Ap)(h:Int):Option (Int⊕Int):=
 if decide (h<(if (p1.length:Int)<(p0.length:Int) then (p1.length:Int) else (p0.length:Int))) then
  (idx p0 h).bind λZ=>
  (idx p1 h).bind λW=>
  (bZ Z W).bind λJ=>
  if J != 0 then
   (some J).map Sum.inr
  else
   some (.inl (kz.wrap (h+1)))
 else
  (tf p0 p1).map Sum.inr
def lQ (p0:List Ap)(p1:List Ap):Option Int:=
 au (λs:Int=>tg p0 p1 s) 0
def kq (p0:Int):Option Bool:=
 some (p0 != p0)
def ji (p0:Int)(p1:Int):Option Int:=
 (kq p0).bind λJ=>
 (kq p1).bind λh=>
 if J then
  if h then
   some 0
  else
   some (-1)
 else
  if h then
   some 1
  else
   if decide (p0<p1) then
    some (-1)
   else
    if decide (p1<p0) then
     some 1
    else
     some 0
def kr (p0:Int):Option Bool:=
 some (p0 != p0)
def jj (p0:Int)(p1:Int):Option Int:=
 (kr p0).bind λJ=>
 (kr p1).bind λh=>
 if J then
  if h then
   some 0
  else
   some (-1)
 else
  if h then
   some 1
  else
   if decide (p0<p1) then
    some (-1)
   else
    if decide (p1<p0) then
     some 1
    else
     some 0
def yF:Option Int:=
 some 0
def ge (p0:List Int)(h:Int):Option (Int⊕Int):=
 if decide (h<(p0.length:Int)) then
  (idx p0 h).bind λJ=>
  if J != 0 then
   (some J).map Sum.inr
  else
   some (.inl (kz.wrap (h+1)))
 else
  (yF).map Sum.inr
def lR (p0:List Int):Option Int:=
 au (λs:Int=>ge p0 s) 0
def kG (p0:aK)(p1:aK):Option Int:=
 (ji p0.fEpoch p1.fEpoch).bind λJ=>
 (jj p0.fNumber p1.fNumber).bind λW=>
 (lR ([J,W])).bind λh=>
 some h
def d7 (p0:aa)(p1:aa)(p2:List Int):Option Int:=
 (jD p2 p0.fRow).bind λZ=>
 (jD p2 p1.fRow).bind λW=>
 (lQ Z W).bind λr24=>
 (kG p0.fId p1.fId).bind λJ=>
 (lR ([r24,J])).bind λh=>
 some h
def dQ (x6:Int)(h:List aa):Option ((Int×List aa)⊕List aa):=
 some (.inl (kz.wrap (x6+1),h))
def be (x6:Int)(J:Int)(h:List aa)(a4:Bool):Option ((Int×List aa)⊕((Int×List aa)⊕List aa)):=
 if a4 then
  (ix h (kz.wrap (J - 1))).bind λa3=>
  (h[a3]?).bind λZ=>
  (ix h J).bind λa2=>
  (h[a2]?).bind λa1=>
  (ix h J).bind λW=>
  (h[W]?).bind λa6=>
  (ix (h.set W Z) (kz.wrap (J - 1))).bind λa0=>
  ((h.set W Z)[a0]?).bind λa5=>
  some (.inl (kz.wrap (J - 1),((h.set W Z).set a0 a1)))
 else
  (dQ x6 h).map Sum.inr
def bg (p1:Int)(p3:(aa->aa->Option Int))(x6:Int)(J:Int)(h:List aa):Option ((Int×List aa)⊕((Int×List aa)⊕List aa)):=
 if decide (p1<J) then
  (ix h J).bind λW=>
  (h[W]?).bind λZ=>
  (ix h (kz.wrap (J - 1))).bind λa0=>
  (h[a0]?).bind λa1=>
  (p3 Z a1).bind λa2=>
  be x6 J h (decide (a2<0))
 else
  be x6 J h false
def bC (p1:Int)(p2:Int)(J:(aa->aa->Option Int))(x6:Int)(h:List aa):Option ((Int×List aa)⊕List aa):=
 if decide (x6<p2) then
  au (λs:(Int×List aa)=>bg p1 J x6 s.1 s.2) (x6,h)
 else
  (some h).map Sum.inr
def ce (p0:List aa)(p1:Int)(p2:Int)(h:(aa->aa->Option Int)):Option (List aa):=
 au (λs:(Int×List aa)=>bC p1 p2 h s.1 s.2) (kz.wrap (p1+1),p0)
def bO (p1:Int)(p2:Int)(p3:Int)(h:Int)(x6:List aa):Option ((Int×List aa)⊕List aa):=
 if decide (h<p3) then
  (ix x6 (kz.wrap (p2+h))).bind λa1=>
  (x6[a1]?).bind λW=>
  (ix x6 (kz.wrap (p1+h))).bind λa2=>
  (x6[a2]?).bind λa0=>
  (ix x6 (kz.wrap (p1+h))).bind λJ=>
  (x6[J]?).bind λa4=>
  (ix (x6.set J W) (kz.wrap (p2+h))).bind λZ=>
  ((x6.set J W)[Z]?).bind λa3=>
  some (.inl (kz.wrap (h+1),((x6.set J W).set Z a0)))
 else
  (some x6).map Sum.inr
def b8 (p0:List aa)(p1:Int)(p2:Int)(h:Int)(J:(aa->aa->Option Int)):Option (List aa):=
 au (λs:(Int×List aa)=>bO p1 p2 h s.1 s.2) (0,p0)
def iP (p2:Int)(J:(aa->aa->Option Int))(h:Int)(W:List aa):Option (List aa):=
 (b8 W (kz.wrap (p2 - h)) p2 h J).bind λr24=>
 some r24
def bG (p2:Int)(W:(aa->aa->Option Int))(h:Int)(J:Int)(Z:List aa):Option ((Int×Int×List aa)⊕List aa):=
 if h != J then
  if decide (J<h) then
   (b8 Z (kz.wrap (p2 - h)) p2 J W).bind λa1=>
   some (.inl (kz.wrap (h - J),J,a1))
  else
   (b8 Z (kz.wrap (p2 - h)) (kz.wrap ((kz.wrap (p2+J)) - h)) h W).bind λa0=>
   some (.inl (h,kz.wrap (J - h),a0))
 else
  (iP p2 W h Z).map Sum.inr
def cz (p0:List aa)(p1:Int)(p2:Int)(h:Int)(J:(aa->aa->Option Int)):Option (List aa):=
 au (λs:(Int×Int×List aa)=>bG p2 J s.1 s.2.1 s.2.2) (kz.wrap (p2 - p1),kz.wrap (h - p2),p0)
def iq (h:List aa):Option (List aa):=
 some h
def bP (a4:Int)(J:Int)(h:List aa):Option ((Int×List aa)⊕List aa):=
 if decide (J<(kz.wrap (a4 - 1))) then
  (ix h (kz.wrap (J+1))).bind λa1=>
  (h[a1]?).bind λZ=>
  (ix h J).bind λa3=>
  (h[a3]?).bind λa2=>
  (ix h J).bind λW=>
  (h[W]?).bind λa5=>
  (ix (h.set W Z) (kz.wrap (J+1))).bind λa0=>
  ((h.set W Z)[a0]?).bind λa6=>
  some (.inl (kz.wrap (J+1),((h.set W Z).set a0 a2)))
 else
  (iq h).map Sum.inr
def eP (p0:List aa)(p1:Int)(h:Int):Option (List aa):=
 au (λs:(Int×List aa)=>bP h s.1 s.2) (p1,p0)
def ct (p0:List aa)(p1:Int)(Z:(aa->aa->Option Int))(h:Int)(J:Int):Option ((Int×Int)⊕List aa):=
 if decide (h<J) then
  (ix p0 (kz.wrap (aO .u64 (Q3.wrap (kz.wrap (h+J))) 1))).bind λa0=>
  (p0[a0]?).bind λa3=>
  (ix p0 p1).bind λa1=>
  (p0[a1]?).bind λW=>
  (Z a3 W).bind λa2=>
  if decide (a2<0) then
   some (.inl (kz.wrap ((kz.wrap (aO .u64 (Q3.wrap (kz.wrap (h+J))) 1))+1),J))
  else
   some (.inl (h,kz.wrap (aO .u64 (Q3.wrap (kz.wrap (h+J))) 1)))
 else
  (eP p0 p1 h).map Sum.inr
def ir (h:List aa):Option (List aa):=
 some h
def bQ (a2:Int)(J:Int)(h:List aa):Option ((Int×List aa)⊕List aa):=
 if decide (a2<J) then
  (ix h (kz.wrap (J - 1))).bind λa1=>
  (h[a1]?).bind λZ=>
  (ix h J).bind λa3=>
  (h[a3]?).bind λa4=>
  (ix h J).bind λW=>
  (h[W]?).bind λa6=>
  (ix (h.set W Z) (kz.wrap (J - 1))).bind λa0=>
  ((h.set W Z)[a0]?).bind λa5=>
  some (.inl (kz.wrap (J - 1),((h.set W Z).set a0 a4)))
 else
  (ir h).map Sum.inr
def eQ (p0:List aa)(p2:Int)(h:Int):Option (List aa):=
 au (λs:(Int×List aa)=>bQ h s.1 s.2) (p2,p0)
def cu (p0:List aa)(p2:Int)(Z:(aa->aa->Option Int))(h:Int)(J:Int):Option ((Int×Int)⊕List aa):=
 if decide (h<J) then
  (ix p0 p2).bind λa1=>
  (p0[a1]?).bind λa0=>
  (ix p0 (kz.wrap (aO .u64 (Q3.wrap (kz.wrap (h+J))) 1))).bind λa3=>
  (p0[a3]?).bind λW=>
  (Z a0 W).bind λa2=>
  if !(decide (a2<0)) then
   some (.inl (kz.wrap ((kz.wrap (aO .u64 (Q3.wrap (kz.wrap (h+J))) 1))+1),J))
  else
   some (.inl (h,kz.wrap (aO .u64 (Q3.wrap (kz.wrap (h+J))) 1)))
 else
  (eQ p0 p2 h).map Sum.inr
def eD (p1:Int)(p2:Int)(h:Int)(Z:(aa->aa->Option Int))(a0:((List aa)->Int->Int->Int->(aa->aa->Option Int)->Option (List aa)))(W:Int)(J:List aa)(a1:Bool):Option (List aa):=
 if a1 then
  (a0 J (kz.wrap (aO .u64 (Q3.wrap (kz.wrap (p1+h))) 1)) (kz.wrap ((kz.wrap ((kz.wrap (aO .u64 (Q3.wrap (kz.wrap (p1+h))) 1))+p2)) - W)) h Z).bind λa2=>
  some a2
 else
  some J
def cZ (p1:Int)(p2:Int)(h:Int)(W:(aa->aa->Option Int))(Z:((List aa)->Int->Int->Int->(aa->aa->Option Int)->Option (List aa)))(J:Int)(a0:List aa):Option (List aa):=
 if decide ((kz.wrap (aO .u64 (Q3.wrap (kz.wrap (p1+h))) 1))<(kz.wrap ((kz.wrap ((kz.wrap (aO .u64 (Q3.wrap (kz.wrap (p1+h))) 1))+p2)) - J))) then
  eD p1 p2 h W Z J a0 (decide ((kz.wrap ((kz.wrap ((kz.wrap (aO .u64 (Q3.wrap (kz.wrap (p1+h))) 1))+p2)) - J))<h))
 else
  eD p1 p2 h W Z J a0 false
def eR (p1:Int)(p2:Int)(Z:Int)(J:(aa->aa->Option Int))(W:((List aa)->Int->Int->Int->(aa->aa->Option Int)->Option (List aa)))(h:Int)(a0:List aa)(a1:Bool):Option (List aa):=
 if a1 then
  (W a0 p1 h (kz.wrap (aO .u64 (Q3.wrap (kz.wrap (p1+Z))) 1)) J).bind λa2=>
  cZ p1 p2 Z J W h a2
 else
  cZ p1 p2 Z J W h a0
def dh (p1:Int)(p2:Int)(J:Int)(W:(aa->aa->Option Int))(Z:((List aa)->Int->Int->Int->(aa->aa->Option Int)->Option (List aa)))(h:Int)(a0:List aa):Option (List aa):=
 if decide (p1<h) then
  eR p1 p2 J W Z h a0 (decide (h<(kz.wrap (aO .u64 (Q3.wrap (kz.wrap (p1+J))) 1))))
 else
  eR p1 p2 J W Z h a0 false
def eS (p0:List aa)(p1:Int)(p2:Int)(W:Int)(J:(aa->aa->Option Int))(Z:((List aa)->Int->Int->Int->(aa->aa->Option Int)->Option (List aa)))(h:Int)(a0:Bool):Option (List aa):=
 if a0 then
  (cz p0 h p2 (kz.wrap ((kz.wrap ((kz.wrap (aO .u64 (Q3.wrap (kz.wrap (p1+W))) 1))+p2)) - h)) J).bind λa1=>
  dh p1 p2 W J Z h a1
 else
  dh p1 p2 W J Z h p0
def dm (p0:List aa)(p1:Int)(p2:Int)(J:Int)(W:(aa->aa->Option Int))(Z:((List aa)->Int->Int->Int->(aa->aa->Option Int)->Option (List aa)))(h:Int):Option (List aa):=
 if decide (h<p2) then
  eS p0 p1 p2 J W Z h (decide (p2<(kz.wrap ((kz.wrap ((kz.wrap (aO .u64 (Q3.wrap (kz.wrap (p1+J))) 1))+p2)) - h))))
 else
  eS p0 p1 p2 J W Z h false
def dp (p0:List aa)(p1:Int)(p2:Int)(Z:Int)(W:(aa->aa->Option Int))(a1:((List aa)->Int->Int->Int->(aa->aa->Option Int)->Option (List aa)))(h:Int)(J:Int):Option ((Int×Int)⊕List aa):=
 if decide (h<J) then
  (ix p0 (kz.wrap ((kz.wrap ((kz.wrap ((kz.wrap (aO .u64 (Q3.wrap (kz.wrap (p1+Z))) 1))+p2)) - 1)) - (kz.wrap (aO .u64 (Q3.wrap (kz.wrap (h+J))) 1))))).bind λa4=>
  (p0[a4]?).bind λa3=>
  (ix p0 (kz.wrap (aO .u64 (Q3.wrap (kz.wrap (h+J))) 1))).bind λa5=>
  (p0[a5]?).bind λa2=>
  (W a3 a2).bind λa0=>
  if !(decide (a0<0)) then
   some (.inl (kz.wrap ((kz.wrap (aO .u64 (Q3.wrap (kz.wrap (h+J))) 1))+1),J))
  else
   some (.inl (h,kz.wrap (aO .u64 (Q3.wrap (kz.wrap (h+J))) 1)))
 else
  (dm p0 p1 p2 Z W a1 h).map Sum.inr
def dq (p0:List aa)(p1:Int)(p2:Int)(Z:Int)(h:(aa->aa->Option Int))(J:((List aa)->Int->Int->Int->(aa->aa->Option Int)->Option (List aa)))(W:Int)(a0:Int):Option (List aa):=
 au (λs:(Int×Int)=>dp p0 p1 p2 Z h J s.1 s.2) (W,a0)
def dC (W:((List aa)->Int->Int->Int->(aa->aa->Option Int)->Option (List aa)))(p0:List aa)(p1:Int)(p2:Int)(h:Int)(J:(aa->aa->Option Int)):Option (List aa):=
 if (kz.wrap (p2 - p1))==1 then
  au (λs:(Int×Int)=>ct p0 p1 J s.1 s.2) (p2,h)
 else
  if (kz.wrap (h - p2))==1 then
   au (λs:(Int×Int)=>cu p0 p2 J s.1 s.2) (p1,p2)
  else
   if decide ((kz.wrap (aO .u64 (Q3.wrap (kz.wrap (p1+h))) 1))<p2) then
    dq p0 p1 p2 h J W (kz.wrap ((kz.wrap ((kz.wrap (aO .u64 (Q3.wrap (kz.wrap (p1+h))) 1))+p2)) - h)) (kz.wrap (aO .u64 (Q3.wrap (kz.wrap (p1+h))) 1))
   else
    dq p0 p1 p2 h J W p1 p2
def cH:Nat->(List aa)->Int->Int->Int->(aa->aa->Option Int)->Option (List aa)
 |0=>λ_ _ _ _ _=>none
 |n+1=>dC (cH n)
def cO (p0:List aa)(p1:Int)(p2:Int)(h:Int)(J:(aa->aa->Option Int)):Option (List aa):=cH (p0.length+1) p0 p1 p2 h J
def dL (h:Int)(J:List aa):Option ((Int×List aa)⊕List aa):=
 some (.inl (kz.wrap (h*2),J))
def fu (p1:Int)(p2:(aa->aa->Option Int))(h:Int)(J:Int)(W:List aa):Option ((Int×List aa)⊕List aa):=
 if decide ((kz.wrap (J+h))<p1) then
  (cO W J (kz.wrap (J+h)) p1 p2).bind λZ=>
  dL h Z
 else
  dL h W
def b9 (p1:Int)(p2:(aa->aa->Option Int))(h:Int)(J:Int)(x82:Int)(W:List aa):Option ((Int×Int×List aa)⊕((Int×List aa)⊕List aa)):=
 if decide (x82<=p1) then
  (cO W J (kz.wrap (J+h)) x82 p2).bind λZ=>
  some (.inl (x82,kz.wrap (x82+(kz.wrap (2*h))),Z))
 else
  (fu p1 p2 h J W).map Sum.inr
def a7 (p1:Int)(p2:(aa->aa->Option Int))(h:Int)(J:List aa):Option ((Int×List aa)⊕List aa):=
 if decide (h<p1) then
  au (λs:(Int×Int×List aa)=>b9 p1 p2 h s.1 s.2.1 s.2.2) (0,kz.wrap (2*h),J)
 else
  (some J).map Sum.inr
def iQ (p1:Int)(p2:(aa->aa->Option Int))(J:Int)(h:List aa):Option (List aa):=
 (ce h J p1 p2).bind λW=>
 au (λs:(Int×List aa)=>a7 p1 p2 s.1 s.2) (20,W)
def bH (p1:Int)(p2:(aa->aa->Option Int))(W:Int)(h:Int)(J:List aa):Option ((Int×Int×List aa)⊕List aa):=
 if decide (h<=p1) then
  (ce J W h p2).bind λZ=>
  some (.inl (h,kz.wrap (h+20),Z))
 else
  (iQ p1 p2 W J).map Sum.inr
def gv (p0:List aa)(p1:Int)(p2:(aa->aa->Option Int)):Option (List aa):=
 au (λs:(Int×Int×List aa)=>bH p1 p2 s.1 s.2.1 s.2.2) (0,20,p0)
def cV (p0:List aa)(p1:(aa->aa->Option Int)):Option (List aa):=
 (gv p0 (p0.length:Int) p1).bind λh=>
 some h
def ia (p0:List Int)(W:List aa):Option (List aa):=
 (cV W (λh Z=>d7 h Z p0)).bind λJ=>
 some J
def ib (p0:List Int)(p1:List aa)(h:Int)(J:List aa):Option ((Int×List aa)⊕List aa):=
 if decide (h<(p1.length:Int)) then
  (idx p1 h).bind λZ=>
  (gI Z).bind λa0=>
  (app 2932031007402 J ([a0])).bind λW=>
  some (.inl (kz.wrap (h+1),W))
 else
  (ia p0 J).map Sum.inr
def iv (p0:List Int)(p1:List aa):Option (List aa):=
 au (λs:(Int×List aa)=>ib p0 p1 s.1 s.2) (0,([]:List aa))
def Ec (x6:List Ap):Option (List Ap):=
 some x6
def qK (h:List Ap)(Z:Int)(W:Ap):Option ((List Ap×Int)⊕List Ap):=
 (app 3518437208883 h ([W])).bind λJ=>
 some (.inl (J,kz.wrap (Z+1)))
def qL (p0:List Int)(p1:List Ap)(J:List Ap)(h:Int)(a0:Bool):Option ((List Ap×Int)⊕List Ap):=
 if a0 then
  (idx p0 h).bind λW=>
  (idx p1 W).bind λZ=>
  qK J h Z
 else
  qK J h (⟨0,false,0,[]⟩:Ap)
def tY (p0:List Int)(p1:List Ap)(J:List Ap)(h:Int):Option ((List Ap×Int)⊕List Ap):=
 if decide (h<(p0.length:Int)) then
  (idx p0 h).bind λx82=>
  if decide (0<=x82) then
   (idx p0 h).bind λW=>
   qL p0 p1 J h (decide (W<(p1.length:Int)))
  else
   qL p0 p1 J h false
 else
  (Ec J).map Sum.inr
def tZ (p0:List Int)(p1:List Ap):Option (List Ap):=
 au (λs:(List Ap×Int)=>tY p0 p1 s.1 s.2) ([],0)
def wt (p0:List Ap)(p1:List Ap):Option Int:=
 if decide ((p0.length:Int)<(p1.length:Int)) then
  some (-1)
 else
  some 0
def wu (p0:List Ap)(p1:List Ap)(h:Int):Option (Int⊕Int):=
 if decide (h<(p0.length:Int)) then
  if h==(p1.length:Int) then
   (some 1).map Sum.inr
  else
   (idx p0 h).bind λZ=>
   (idx p1 h).bind λW=>
   (px Z W).bind λJ=>
   if J != 0 then
    (some J).map Sum.inr
   else
    some (.inl (kz.wrap (h+1)))
 else
  (wt p0 p1).map Sum.inr
def uH (p0:List Ap)(p1:List Ap):Option Int:=
 au (λs:Int=>wu p0 p1 s) 0
def qN (p0:aK)(p1:aK):Option Bool:=
 if p0.fEpoch != p1.fEpoch then
  some (decide (p0.fEpoch<p1.fEpoch))
 else
  some (decide (p0.fNumber<p1.fNumber))
def qO (p0:List Int)(p1:aa)(p2:aa):Option Bool:=
 (tZ p0 p1.fRow).bind λZ=>
 (tZ p0 p2.fRow).bind λJ=>
 (uH Z J).bind λh=>
 if h != 0 then
  some (decide (h<0))
 else
  (qN p1.fId p2.fId).bind λW=>
  some W
def Aj (x6:List aa):Option (List aa):=
 some x6
def qa (J:Int)(h:List aa):Option ((List aa×Int)⊕List aa):=
 some (.inl (h,kz.wrap (J+1)))
def nO (p1:List aa)(h:List aa)(W:Int)(J:Int):Option ((List aa×Int)⊕List aa):=
 (sub h 0 J).bind λa2=>
 (app 2932031007402 ([]) a2).bind λa0=>
 (idx p1 W).bind λa1=>
 (app 2932031007402 a0 ([a1])).bind λZ=>
 (sub h J h.length).bind λa3=>
 (app 2932031007402 Z a3).bind λa4=>
 qa W a4
def jU (p0:List Int)(p1:List aa)(J:List aa)(W:Int)(h:Int):Option (Int⊕((List aa×Int)⊕List aa)):=
 if decide (0<h) then
  (idx p1 W).bind λa0=>
  (idx J (kz.wrap (h - 1))).bind λZ=>
  (qO p0 a0 Z).bind λa1=>
  if !a1 then
   (nO p1 J W h).map Sum.inr
  else
   some (.inl (kz.wrap (h - 1)))
 else
  (nO p1 J W h).map Sum.inr
def t6 (p0:List Int)(p1:List aa)(h:List aa)(J:Int):Option ((List aa×Int)⊕List aa):=
 if decide (J<(p1.length:Int)) then
  au (λs:Int=>jU p0 p1 h J s) (h.length:Int)
 else
  (Aj h).map Sum.inr
def ny (p0:List Int)(p1:List aa):Option (List aa):=
 au (λs:(List aa×Int)=>t6 p0 p1 s.1 s.2) ([],0)
def tp:Option Int:=
 some (-1)
def gm (p0:List Int)(p1:Int)(h:Int):Option (Int⊕Int):=
 if decide (h<(p0.length:Int)) then
  (idx p0 h).bind λJ=>
  if p1==J then
   (some h).map Sum.inr
  else
   some (.inl (kz.wrap (h+1)))
 else
  (tp).map Sum.inr
def kt (p0:List Int)(p1:Int):Option Int:=
 au (λs:Int=>gm p0 p1 s) 0
def gn (p0:List Int)(p1:Int):Option Bool:=
 (kt p0 p1).bind λh=>
 some (decide (0<=h))
def iE (h:Bool):Option Bool:=
 some h
def iF (p0:Int)(p1:aa)(h:Bool):Option Bool:=
 if (p1.fRow.length:Int)==p0 then
  if decide (1<=p1.fId.fEpoch) then
   if decide (p1.fId.fEpoch<=9223372036854775807) then
    iE (!h)
   else
    iE false
  else
   iE false
 else
  iE false
def ku (p0:Int)(p1:aa):Option Bool:=
 if p1.fDeleted != 0 then
  if decide (p1.fDeleted<=p1.fId.fEpoch) then
   iF p0 p1 true
  else
   iF p0 p1 (decide (9223372036854775807<p1.fDeleted))
 else
  iF p0 p1 false
def kw (p0:Int)(p1:aa)(h:Int):Option (Int⊕Bool):=
 if decide (h<(p1.fRow.length:Int)) then
  (idx p1.fRow h).bind λW=>
  (kM W).bind λJ=>
  if !J then
   (some false).map Sum.inr
  else
   some (.inl (kz.wrap (h+1)))
 else
  (ku p0 p1).map Sum.inr
def kH (p0:Int)(p1:aa):Option Bool:=
 au (λs:Int=>kw p0 p1 s) 0
def lj (h:List aK):Option Int:=
 some 0
def fa (J:Int)(W:List aK)(Z:aa)(h:Bool):Option ((Int×List aK)⊕Int):=
 if h then
  (some 81).map Sum.inr
 else
  some (.inl (kz.wrap (J+1),(Z.fId::W)))
def cP (p0:Int)(p2:List aa)(J:Int)(W:List aK):Option ((Int×List aK)⊕Int):=
 if decide (J<(p2.length:Int)) then
  (idx p2 J).bind λh=>
  (kH p0 h).bind λZ=>
  if !Z then
   fa J W h true
  else
   fa J W h (decide (1<(iS (h.fId::W) h.fId)))
 else
  (lj W).map Sum.inr
def d8 (p0:Int)(p2:List aa):Option Int:=
 if decide (4096<(p2.length:Int)) then
  some 81
 else
  au (λs:(Int×List aK)=>cP p0 p2 s.1 s.2) (0,([]:List aK))
def d9 (h:Int)(J:Bool):Option (Int⊕Int):=
 if J then
  (some 1).map Sum.inr
 else
  some (.inl (kz.wrap (h+1)))
def fc (p0:Int)(p1:List Int)(p2:List aa)(h:Int):Option (Int⊕Int):=
 if decide (h<(p1.length:Int)) then
  (idx p1 h).bind λJ=>
  if decide (J<0) then
   d9 h true
  else
   if decide (p0<=J) then
    d9 h true
   else
    (sub p1 0 h).bind λZ=>
    (gn Z J).bind λW=>
    d9 h W
 else
  (d8 p0 p2).map Sum.inr
def fd (p0:Int)(p1:List Int)(p2:List aa)(h:Bool):Option Int:=
 if h then
  some 1
 else
  au (λs:Int=>fc p0 p1 p2 s) 0
def fJ (p0:Int)(p1:List Int)(p2:List aa):Option Int:=
 if decide (p0<1) then
  fd p0 p1 p2 true
 else
  fd p0 p1 p2 (decide (8<p0))
def iG (p0:List Int)(p1:Int):Option (List Int):=
 (app 140737488355328 p0 ([Qn.wrap (aO .i64 p1 24),Qn.wrap (aO .i64 p1 16),Qn.wrap (aO .i64 p1 8),Qn.wrap p1])).bind λh=>
 some h
def uP (h:List Ap):Option (List Ap):=
 some h
def fV (h:Int)(J:List Ap):Option ((List Ap×Int)⊕List Ap):=
 some (.inl (J,kz.wrap (h+1)))
def mj (p0:Int)(p1:Int)(p2:List aa)(J:List Ap)(h:Int):Option ((List Ap×Int)⊕List Ap):=
 if decide (h<(p2.length:Int)) then
  (idx p2 h).bind λW=>
  if (kz.wrap (p1 - p0))==0 then
   (d5 (kz.wrap W.fId.fEpoch)).bind λa1=>
   (app 3518437208883 J ([a1])).bind λa6=>
   fV h a6
  else
   if (kz.wrap (p1 - p0))==1 then
    (d5 (kz.wrap W.fId.fNumber)).bind λa2=>
    (app 3518437208883 J ([a2])).bind λa5=>
    fV h a5
   else
    if (kz.wrap (p1 - p0))==2 then
     (d5 (kz.wrap W.fDeleted)).bind λa4=>
     (app 3518437208883 J ([a4])).bind λa3=>
     fV h a3
    else
     (idx W.fRow p1).bind λa0=>
     (app 3518437208883 J ([a0])).bind λZ=>
     fV h Z
 else
  (uP J).map Sum.inr
def jV (p0:Int)(p1:Int)(p2:List aa):Option (List Ap):=
 au (λs:(List Ap×Int)=>mj p0 p1 p2 s.1 s.2) ([],0)
def cl {σ:Type}(step:(σ->(List Ap)->Option (σ×Bool)))(p1:List Ap)(p2:Int)(h:Int)(x6:σ):Option ((Int×σ)⊕σ):=
 if decide (h<(p1.length:Int)) then
  (sub p1 h p1.length).bind λW=>
  (sub p1 h (kz.wrap (h+(if (W.length:Int)<p2 then (W.length:Int) else p2)))).bind λZ=>
  (step x6 Z).bind λJ=>
  if !J.2 then
   (some J.1).map Sum.inr
  else
   some (.inl (kz.wrap (h+p2),J.1))
 else
  (some x6).map Sum.inr
def fM {σ:Type}(step:(σ->(List Ap)->Option (σ×Bool)))(h:σ)(p1:List Ap)(p2:Int):Option σ:=
 au (λs:(Int×σ)=>cl step p1 p2 s.1 s.2) (0,h)
def fq (p1:List Ap)(p2:Int):Option (List (List Ap)):=
 fM (λ(s:List (List Ap)) x=>some (s++[x],true)) [] p1 p2
def gY (p0:List Ap)(p1:Int):Option (List (List Ap)):=
 (fq p0 p1).bind λh=>
 some h
def gR (p0:List Ap)(p1:Int):Option (List (List Ap)):=
 if decide (p1<1) then
  none
 else
  gY p0 p1
def pC (p0:Int)(p1:List Ap):Option Bool:=
 (eT p0 p1).bind λh=>
 some (h.2==0)
def fW (W:List Int)(Z:List Ap)(J:Int):Option (List Int×Bool):=
 (mw J Z).bind λh=>
 (app 140737488355328 W h.1).bind λa0=>
 some (a0,true)
def eE (p0:Int)(J:List Int)(h:List Ap):Option (List Int×Bool):=
 (pC p0 h).bind λW=>
 if !W then
  fW J h (-1)
 else
  fW J h p0
def jW (p0:Int)(p1:List Ap):Option (List Int):=
 (gR p1 64).bind λJ=>
 (cD (λ(s:List Int) (x:List Ap)=>eE p0 s x) ([]:(List Int)) J).bind λh=>
 if h.2 then
  some h.1
 else
  none
def iH (h:List Int):Option (List Int×Int):=
 (jg h).bind λJ=>
 (iG h (kz.wrap J)).bind λW=>
 some (W,0)
def gw (p0:Int)(Z:List aa)(a1:List Int)(h:Int)(a2:Int):Option ((List Int×Int)⊕(List Int×Int)):=
 (jV p0 h Z).bind λW=>
 (jW a2 W).bind λJ=>
 (iG a1 (J.length:Int)).bind λa0=>
 (app 140737488355328 a0 J).bind λa3=>
 some (.inl (a3,kz.wrap (h+1)))
def eW (p0:Int)(p2:List Int)(J:List aa)(W:List Int)(h:Int)(Z:Bool):Option ((List Int×Int)⊕(List Int×Int)):=
 if Z then
  (idx p2 h).bind λa0=>
  gw p0 J W h a0
 else
  gw p0 J W h (-1)
def gy (p0:Int)(p2:List Int)(W:List aa)(J:List Int)(h:Int):Option ((List Int×Int)⊕(List Int×Int)):=
 if decide (h<(kz.wrap (p0+3))) then
  if decide (h<p0) then
   eW p0 p2 W J h (decide (h<(p2.length:Int)))
  else
   eW p0 p2 W J h false
 else
  (iH J).map Sum.inr
def iI (p0:Int)(p2:List Int)(h:List aa)(W:List Int):Option (List Int×Int):=
 (iG W (h.length:Int)).bind λJ=>
 au (λs:(List Int×Int)=>gy p0 p2 h s.1 s.2) (J,0)
def iJ (p0:Int)(p1:List Int)(p2:List Int)(Z:List aa)(J:List Int)(h:Int):Option ((List Int×Int)⊕(List Int×Int)):=
 if decide (h<(p1.length:Int)) then
  (idx p1 h).bind λW=>
  (app 140737488355328 J ([Qn.wrap W])).bind λa0=>
  some (.inl (a0,kz.wrap (h+1)))
 else
  (iI p0 p2 Z J).map Sum.inr
def dG (p0:Int)(p1:List Int)(p2:List Int)(h:List aa):Option (List Int×Int):=
 (fJ p0 p1 h).bind λJ=>
 if J != 0 then
  some ([],J)
 else
  (iv p1 h).bind λZ=>
  (app 140737488355328 ([72,65,89,49]) ([Qn.wrap p0,Qn.wrap (p1.length:Int)])).bind λW=>
  au (λs:(List Int×Int)=>iJ p0 p1 p2 Z s.1 s.2) (W,0)
def dN (p0:List Int):Option Int:=
 (idx p0 0).bind λh=>
 (idx p0 1).bind λJ=>
 (idx p0 2).bind λW=>
 (idx p0 3).bind λZ=>
 some (bOr .i64 (bOr .i64 (bOr .i64 (eK .i64 (kz.wrap h) 24) (eK .i64 (kz.wrap J) 16)) (eK .i64 (kz.wrap W) 8)) (kz.wrap Z))
def fN (J:aw)(W:Int)(Z:List Int)(h:Bool):Option (Int×List Int×Bool×aw):=
 some (W,Z,h,J)
def il (a0:Int)(J:List Int)(h:aw):Option (Int×List Int×Bool×aw):=
 (sub J (kz.wrap a0) J.length).bind λa2=>
 (dN a2).bind λW=>
 (sub J (kz.wrap ((kz.wrap a0)+4)) J.length).bind λZ=>
 (fJ h.fColumns h.fSort ([])).bind λa1=>
 if a1==0 then
  fN h W Z (decide (W<=4096))
 else
  fN h W Z false
def fO (Z:Int)(a0:List Int)(J:List Int)(h:Int)(x307:aw):Option ((Int×aw)⊕(Int×List Int×Bool×aw)):=
 if decide (h<(J.length:Int)) then
  (idx J h).bind λa1=>
  (app 17592186044416 x307.fSort ([kz.wrap a1])).bind λW=>
  some (.inl (kz.wrap (h+1),{ x307 with fSort:=W }))
 else
  (il Z a0 x307).map Sum.inr
def eo (p1:List Int)(x6:Bool):Option (Int×List Int×Bool×aw):=
 if x6 then
  some (0,[],false,aw.zero)
 else
  (idx p1 4).bind λW=>
  (idx p1 5).bind λh=>
  (sub p1 6 p1.length).bind λJ=>
  if decide ((J.length:Int)<(kz.wrap ((kz.wrap h)+4))) then
   some (0,[],false,{ aw.zero with fColumns:=kz.wrap W })
  else
   (sub J 0 (kz.wrap h)).bind λZ=>
   au (λs:(Int×aw)=>fO h J Z s.1 s.2) (0,{ aw.zero with fColumns:=kz.wrap W })
def ic (p1:List Int):Option (Int×List Int×Bool×aw):=
 if decide ((p1.length:Int)<6) then
  eo p1 true
 else
  (sub p1 0 4).bind λh=>
  (Jb h).bind λJ=>
  eo p1 (!decide (J=(72,65,89,49)))
def jF (p1:Int)(x6:List Ap):Option (List Ap×Bool):=
 some (x6,(x6.length:Int)==p1)
def ie (h:List Int)(W:List Ap)(J:List Ap×Int×Int)(Z:Bool):Option ((List Int×List Ap)⊕(List Ap×Bool)):=
 if Z then
  (some ([],false)).map Sum.inr
 else
  (app 3518437208883 W J.1).bind λa1=>
  (sub h J.2.1 h.length).bind λa0=>
  some (.inl (a0,a1))
def ig (p1:Int)(W:List Int)(h:List Ap):Option ((List Int×List Ap)⊕(List Ap×Bool)):=
 if decide (0<(W.length:Int)) then
  (kp W).bind λJ=>
  if J.2.2 != 0 then
   ie W h J true
  else
   ie W h J ((J.1.length:Int) != (if (kz.wrap (p1 - (h.length:Int)))<64 then kz.wrap (p1 - (h.length:Int)) else 64))
 else
  (jF p1 h).map Sum.inr
def iw (p0:List Int)(p1:Int):Option (List Ap×Bool):=
 au (λs:(List Int×List Ap)=>ig p1 s.1 s.2) (p0,[])
def im (h:List aa):Option (Bool×List aa):=
 some (true,h)
def cQ (h:Int)(J:List aa):Option ((Int×List aa)⊕(Bool×List aa)):=
 some (.inl (kz.wrap (h+1),J))
def dD (p0:aw)(p1:Int)(Z:Int)(h:List aa)(W:Ap)(J:Nat)(a1:Bool):Option ((Int×List aa)⊕(Bool×List aa)):=
 if a1 then
  (some (false,h)).map Sum.inr
 else
  if (kz.wrap (p1 - p0.fColumns))==0 then
   (h[J]?).bind λx82=>
   cQ Z (h.set J ({ x82 with fId:={ x82.fId with fEpoch:=Q3.wrap W.fInt } }))
  else
   if (kz.wrap (p1 - p0.fColumns))==1 then
    if decide (4294967295<W.fInt) then
     (some (false,h)).map Sum.inr
    else
     (h[J]?).bind λx106=>
     cQ Z (h.set J ({ x106 with fId:={ x106.fId with fNumber:=Zl.wrap W.fInt } }))
   else
    if (kz.wrap (p1 - p0.fColumns))==2 then
     (h[J]?).bind λx122=>
     cQ Z (h.set J ({ x122 with fDeleted:=Q3.wrap W.fInt }))
    else
     (h[J]?).bind λa2=>
     (app 3518437208883 a2.fRow ([W])).bind λa0=>
     (h[J]?).bind λx182=>
     cQ Z (h.set J ({ x182 with fRow:=a0 }))
def dE (p0:aw)(p1:Int)(p2:List Ap)(h:Int)(W:List aa):Option ((Int×List aa)⊕(Bool×List aa)):=
 if decide (h<(p2.length:Int)) then
  (idx p2 h).bind λJ=>
  (ix W h).bind λZ=>
  if decide (p0.fColumns<=p1) then
   if J.fKind != 2 then
    dD p0 p1 h W J Z true
   else
    dD p0 p1 h W J Z (decide (J.fInt<0))
  else
   dD p0 p1 h W J Z false
 else
  (im W).map Sum.inr
def ii (p0:aw)(h:List aa)(p1:Int)(p2:List Ap):Option (Bool×List aa):=
 au (λs:(Int×List aa)=>dE p0 p1 p2 s.1 s.2) (0,h)
def oY:Option Bool:=
 some true
def gS (p0:List aa)(p1:List aa)(p2:(aa->aa->Option Bool))(h:Int):Option (Int⊕Bool):=
 if decide (h<(p0.length:Int)) then
  (idx p0 h).bind λJ=>
  (idx p1 h).bind λW=>
  (p2 J W).bind λZ=>
  if !Z then
   (some false).map Sum.inr
  else
   some (.inl (kz.wrap (h+1)))
 else
  (oY).map Sum.inr
def ef (p0:List aa)(p1:List aa)(p2:(aa->aa->Option Bool)):Option Bool:=
 if (p0.length:Int) != (p1.length:Int) then
  some false
 else
  au (λs:Int=>gS p0 p1 p2 s) 0
def dZ (p0:aa)(p1:aa):Option Bool:=
 some (decide (p0.fId=p1.fId))
def gp (p0:(Option aw)):Option Bool:=
 (p0).bind λh=>
 (p0).bind λZ=>
 (iv h.fSort Z.fL).bind λJ=>
 (p0).bind λW=>
 (ef J W.fL dZ).bind λa0=>
 some a0
def jk (r24:Int×List Int×Bool×aw)(J:List aa)(h:Bool):Option ((Option aw)×Int):=
 if h then
  some ((none:(Option aw)),80)
 else
  some ((some ({ r24.2.2.2 with fL:=J })),0)
def k8 (r24:Int×List Int×Bool×aw)(a0:List Int)(h:List aa):Option ((Option aw)×Int):=
 if decide (0<(a0.length:Int)) then
  jk r24 h true
 else
  ((some ({ r24.2.2.2 with fL:=h }))).bind λZ=>
  ((some ({ r24.2.2.2 with fL:=h }))).bind λa1=>
  ((some ({ r24.2.2.2 with fL:=h }))).bind λW=>
  (fJ Z.fColumns a1.fSort W.fL).bind λa2=>
  if a2 != 0 then
   jk r24 h true
  else
   (gp (some ({ r24.2.2.2 with fL:=h }))).bind λJ=>
   jk r24 h (!J)
def jl (h:List Int)(W:Int)(Z:Int)(x307:Bool)(a0:List aa):Option ((List Int×Int×List aa)⊕((Option aw)×Int)):=
 if x307 then
  (some ((none:(Option aw)),80)).map Sum.inr
 else
  (sub h (kz.wrap (4+Z)) h.length).bind λJ=>
  some (.inl (J,kz.wrap (W+1),a0))
def jm (r24:Int×List Int×Bool×aw)(h:List Int)(J:Int)(a1:List aa)(a3:Bool):Option ((List Int×Int×List aa)⊕((Option aw)×Int)):=
 if a3 then
  (some ((none:(Option aw)),80)).map Sum.inr
 else
  (dN h).bind λW=>
  (sub h 4 (kz.wrap (4+W))).bind λa2=>
  (iw a2 r24.1).bind λa0=>
  if !a0.2 then
   jl h J W true a1
  else
   (ii r24.2.2.2 a1 J a0.1).bind λZ=>
   jl h J W (!Z.1) Z.2
def fP (r24:Int×List Int×Bool×aw)(h:List Int)(J:Int)(W:List aa):Option ((List Int×Int×List aa)⊕((Option aw)×Int)):=
 if decide (J<(kz.wrap (r24.2.2.2.fColumns+3))) then
  if decide ((h.length:Int)<4) then
   jm r24 h J W true
  else
   (dN h).bind λZ=>
   jm r24 h J W (decide ((h.length:Int)<(kz.wrap (4+Z))))
 else
  (k8 r24 h W).map Sum.inr
def jn (p0:List Int)(W:Bool):Option ((Option aw)×Int):=
 if W then
  some ((none:(Option aw)),80)
 else
  (sub p0 0 (kz.wrap ((p0.length:Int) - 4))).bind λh=>
  (ic h).bind λr24=>
  if !r24.2.2.1 then
   some ((none:(Option aw)),80)
  else
   (mk 5864062014805 r24.1 aa.zero).bind λJ=>
   au (λs:(List Int×Int×List aa)=>fP r24 s.1 s.2.1 s.2.2) (r24.2.1,0,J)
def dH (p0:List Int):Option ((Option aw)×Int):=
 if decide ((p0.length:Int)<4) then
  jn p0 true
 else
  (sub p0 (kz.wrap ((p0.length:Int) - 4)) p0.length).bind λh=>
  (dN h).bind λW=>
  (sub p0 0 (kz.wrap ((p0.length:Int) - 4))).bind λJ=>
  (jg J).bind λZ=>
  jn p0 (W != (kz.wrap Z))
def cI (p0:aa)(p1:aK):Option Bool:=
 some (decide (p0.fId=p1))
def oZ:Option Int:=
 some (-1)
def dw (p0:List aa)(p1:(aa->Option Bool))(h:Int):Option (Int⊕Int):=
 if decide (h<(p0.length:Int)) then
  (idx p0 h).bind λW=>
  (p1 W).bind λJ=>
  if J then
   (some h).map Sum.inr
  else
   some (.inl (kz.wrap (h+1)))
 else
  (oZ).map Sum.inr
def eh (p0:List aa)(p1:(aa->Option Bool)):Option Int:=
 au (λs:Int=>dw p0 p1 s) 0
def fX (p0:(Option aw))(p1:aK):Option (Int×Bool):=
 (p0).bind λW=>
 (eh W.fL (λJ=>cI J p1)).bind λh=>
 some ((if h<0 then 0 else h),decide (0<=h))
def qb (p0:(Option aw)):Option Int:=
 (p0).bind λh=>
 some (h.fL.length:Int)
def ri (h:Bool):Option Bool:=
 some h
def oO (J:((Option aw)×Int))(W:Bool):Option Bool:=
 if W then
  some false
 else
  (fX J.1 (⟨1,0⟩:aK)).bind λh=>
  (qb J.1).bind λZ=>
  if Z==2 then
   if h.1==1 then
    ri h.2
   else
    ri false
  else
   ri false
def qc:Option Bool:=
 (dG 1 ([0]) ([]) ([(⟨(⟨1,0⟩:aK),[(⟨2,false,2,[]⟩:Ap)],0⟩:aa),(⟨(⟨2,0⟩:aK),[(⟨2,false,1,[]⟩:Ap)],0⟩:aa)])).bind λJ=>
 (dH J.1).bind λh=>
 if J.2 != 0 then
  oO h true
 else
  if h.2 != 0 then
   oO h true
  else
   oO h h.1.isNone
def jG (h:Bool):Option Bool:=
 some h
def lS (p0:aa)(p1:aa):Option Bool:=
 (pB p0.fRow p1.fRow).bind λh=>
 if h then
  if decide (p0.fId=p1.fId) then
   jG (p0.fDeleted==p1.fDeleted)
  else
   jG false
 else
  jG false
def t7:Option Bool:=
 some true
def ll (p0:List aa)(p1:List aa)(h:Int):Option (Int⊕Bool):=
 if decide (h<(p0.length:Int)) then
  (idx p0 h).bind λJ=>
  (idx p1 h).bind λW=>
  (lS J W).bind λZ=>
  if !Z then
   (some false).map Sum.inr
  else
   some (.inl (kz.wrap (h+1)))
 else
  (t7).map Sum.inr
def dt (p0:List aa)(p1:List aa):Option Bool:=
 if (p0.length:Int) != (p1.length:Int) then
  some false
 else
  au (λs:Int=>ll p0 p1 s) 0
def cc {σ:Type}(step:(σ->aa->Option (σ×Bool)))(W:List aa)(h:Int)(Z:σ):Option ((Int×σ)⊕σ):=
 if decide (h<(W.length:Int)) then
  (idx W h).bind λa1=>
  (gI a1).bind λa0=>
  (step Z a0).bind λJ=>
  if !J.2 then
   (some J.1).map Sum.inr
  else
   some (.inl (kz.wrap (h+1),J.1))
 else
  (some Z).map Sum.inr
def c9 {σ:Type}(step:(σ->aa->Option (σ×Bool)))(W:σ)(p1:(Option aw))(p2:Int):Option σ:=
 (p1).bind λh=>
 (sub h.fL p2 h.fL.length).bind λJ=>
 au (λs:(Int×σ)=>cc step J s.1 s.2) (0,W)
def dI (p1:(Option aw))(p2:Int):Option (List aa):=
 c9 (λ(s:List aa) x=>some (s++[x],true)) [] p1 p2
def dR (p0:(Option aw))(p1:Int):Option (List aa):=
 (dI p0 p1).bind λh=>
 some h
def cS (p0:(Option aw)):Option (List aa):=
 (dR p0 0).bind λh=>
 some h
def cg (p0:aa)(p1:List Ap)(p2:List Int):Option Int:=
 (jD p2 p0.fRow).bind λJ=>
 (lQ J p1).bind λh=>
 if decide (h<0) then
  some (-1)
 else
  some 1
def eX (h:Int)(J:Bool):Option (Int×Bool):=
 some (h,J)
def dF (p0:List aa)(p1:List Ap)(p2:(aa->(List Ap)->Option Int))(h:Int):Option (Int×Bool):=
 if decide (h<(p0.length:Int)) then
  (idx p0 h).bind λW=>
  (p2 W p1).bind λJ=>
  eX h (J==0)
 else
  eX h false
def eY (p0:List aa)(p1:List Ap)(p2:(aa->(List Ap)->Option Int))(h:Int)(J:Int):Option ((Int×Int)⊕(Int×Bool)):=
 if decide (h<J) then
  (idx p0 (kz.wrap (aO .u64 (Q3.wrap (kz.wrap (h+J))) 1))).bind λZ=>
  (p2 Z p1).bind λW=>
  if decide (W<0) then
   some (.inl (kz.wrap ((kz.wrap (aO .u64 (Q3.wrap (kz.wrap (h+J))) 1))+1),J))
  else
   some (.inl (h,kz.wrap (aO .u64 (Q3.wrap (kz.wrap (h+J))) 1)))
 else
  (dF p0 p1 p2 h).map Sum.inr
def cW (p0:List aa)(p1:List Ap)(p2:(aa->(List Ap)->Option Int)):Option (Int×Bool):=
 au (λs:(Int×Int)=>eY p0 p1 p2 s.1 s.2) (0,(p0.length:Int))
structure Gl where
 fColumn:Int
 fOp:Int
 fValue:Ap
 deriving DecidableEq
def Gl.zero:Gl:=⟨0,0,Ap.zero⟩
end
noncomputable section
def lm (h:List aa)(W:aa):Option (List aa×Bool):=
 (app 2932031007402 h ([W])).bind λJ=>
 some (J,true)
def mG (p0:List aa):Option (List aa):=
 (cD (λ(s:List aa) (x:aa)=>lm s x) ([]:(List aa)) p0).bind λh=>
 if h.2 then
  some h.1
 else
  none
def fY (p0:(Option aw))(p1:List Ap):Option (List aa):=
 (dv p1).bind λh=>
 (p0).bind λa2=>
 (p0).bind λJ=>
 (sub a2.fSort 0 (if (h.length:Int)<(J.fSort.length:Int) then (h.length:Int) else (J.fSort.length:Int))).bind λa4=>
 (p0).bind λZ=>
 (cW Z.fL h (λa1 W=>cg a1 W a4)).bind λa3=>
 (dR p0 a3.1).bind λa0=>
 some a0
end
noncomputable section
end
noncomputable section
end
noncomputable section
def fZ (p2:Int)(h:Int)(J:aa):Option (Int×Bool):=
 if h==p2 then
  some (h,false)
 else
  some ((kz.wrap (h+1)),true)
def f7 (h:Bool):Option Bool:=
 some h
def f8 (h:Bool):Option Bool:=
 some h
def dO (p0:bY)(p2:Int)(h:((Option aw)×Int))(Z:((Option aw)×Int))(a3:Bool):Option Bool:=
 if a3 then
  some false
 else
  (cS h.1).bind λb0=>
  (cD (λ(s:Int) (x:aa)=>fZ p2 s x) 0 b0).bind λa0=>
  if a0.2 then
   (ny p0.fSort p0.fL).bind λW=>
   (cS h.1).bind λc4=>
   (mG c4).bind λa6=>
   (dt a6 W).bind λc1=>
   if c1 then
    (cS Z.1).bind λc3=>
    (mG c3).bind λb4=>
    (dt b4 W).bind λb5=>
    if b5 then
     (fY h.1 ([])).bind λb6=>
     (mG b6).bind λc0=>
     (dt c0 W).bind λa1=>
     f7 a1
    else
     f7 false
   else
    f7 false
  else
   (ny p0.fSort p0.fL).bind λJ=>
   (cS h.1).bind λa4=>
   (mG a4).bind λa5=>
   (dt a5 J).bind λa2=>
   if a2 then
    (cS Z.1).bind λb3=>
    (mG b3).bind λb1=>
    (dt b1 J).bind λa9=>
    if a9 then
     (fY h.1 ([])).bind λb7=>
     (mG b7).bind λb2=>
     (dt b2 J).bind λc2=>
     f8 c2
    else
     f8 false
   else
    f8 false
def lT (p0:bY)(p1:List Int)(p2:Int):Option Bool:=
 (qc).bind λa0=>
 if !a0 then
  some false
 else
  (dG p0.fColumns p0.fSort p0.fKinds p0.fL).bind λZ=>
  (dG p0.fColumns p0.fSort p1 p0.fL).bind λW=>
  if Z.2 != 0 then
   some (W.2==Z.2)
  else
   (dH Z.1).bind λh=>
   (dH W.1).bind λJ=>
   if W.2 != 0 then
    dO p0 p2 h J true
   else
    if h.2 != 0 then
     dO p0 p2 h J true
    else
     if J.2 != 0 then
      dO p0 p2 h J true
     else
      if h.1.isNone then
       dO p0 p2 h J true
      else
       dO p0 p2 h J J.1.isNone
end
theorem CP {σ β:Type}{f:σ->Option (σ⊕β)}{n:Nat}{s:σ}{b:β}(h:gT f n s=some b):∃k,n=k+1/\((f s=some (.inr b))\/ ∃s',f s=some (.inl s')/\gT f k s'=some b):=by
 cases n with
 |zero=>cases h
 | succ k=>
  rw[gT] at h;cases hf:f s with
  |none=>rw[hf] at h;cases h
  |some r=>
   rw[hf] at h;cases r with
   |inl s'=>exact⟨k,rfl,.inr ⟨s',rfl,h⟩⟩
   |inr b'=>injection h with h;subst h;exact⟨k,rfl,.inl rfl⟩
abbrev CQ {O:Type}:List O->O->Option (List O×Bool):=λs x=>some (s++[x],true)
theorem Ak {ι σ O:Type} {step:σ->O->Option (σ×Bool)} {s:σ} {xs:List O} {r:σ×Bool} (F:{τ:Type}->(τ->O->Option (τ×Bool))->ι->τ->Option ((ι×τ)⊕τ)) (c:ι->Bool) (el:ι->Option O) (nx:ι->ι)
  (hF:∀{τ:Type} (st:τ->O->Option (τ×Bool)) i s,F st i s=if c i then (el i).bind λx=>(st s x).bind λr=>if !r.2 then (some r.1).map Sum.inr else some (.inl (nx i,r.1)) else (some s).map Sum.inr)
  {i0:ι} (h:au (λs:ι×List O=>F CQ s.1 s.2) (i0,[])=some xs) (J:cD step s xs=some r):au (λs:ι×σ=>F step s.1 s.2) (i0,s)=some r.1:=by
 have key:∀(k:Nat) (i:ι) (Z:List O) (out:List O),gT (λs:ι×List O=>F CQ s.1 s.2) k (i,Z)=some out->∃ys,out=Z++ys/\∀(s:σ) r,cD step s ys=some r->au (λs:ι×σ=>F step s.1 s.2) (i,s)=some r.1:=by
  intro k
  induction k with
  |zero=>intro i Z out h;cases h
  | succ k ih=>
   intro i Z out h;obtain⟨k',hk,g⟩:=CP h;obtain rfl:k'=k:=by omega
   clear h;have h:=g;clear g;rcases h with h|⟨s',W,h2⟩
   ·have h:F CQ i Z=some (.inr out):=h
    rw[hF] at h
    by_cases hc:c i=true
    ·rw[if_pos hc] at h
     cases hx:el i with
     |none=>rw[hx] at h;cases h
     |some x=>rw[hx] at h;simp at h
    ·rw[if_neg hc] at h
     simp only[Option.map_some,Option.some.injEq,Sum.inr.injEq] at h;subst h;refine⟨[],by simp,λs r J=>?_⟩;simp only[cD,Option.some.injEq] at J;subst J;refine aT ?_;show F step i s=_;rw[hF,if_neg hc];rfl
   ·have W:F CQ i Z=some (.inl s'):=W
    rw[hF] at W
    by_cases hc:c i=true
    ·rw [if_pos hc] at W
     cases hx:el i with
     |none=>rw[hx] at W;cases W
     | some x=>
      rw[hx] at W;simp only[qk,Zo,Qc,if_false,Option.some.injEq,Sum.inl.injEq] at W;subst W;obtain⟨ys,e,a0⟩:=ih _ _ _ h2;refine⟨x::ys,by rw[e];simp,λs r J=>?_⟩;simp only[cD] at J;cases hst:step s x with
      |none=>rw[hst] at J;cases J
      | some q=>
       rw[hst] at J;simp only[qk] at J;cases hq:q.2 with
       | true=>
        rw[hq] at J;simp only[if_true] at J;rw[bK (s':=(nx i,q.1))]
        ·exact a0 _ _ J
        ·show F step i s=_
         rw[hF,if_pos hc,hx,qk,hst,qk,hq];rfl
       |false=>
        rw[hq] at J;simp only[Qc,if_false,Option.some.injEq] at J;subst J;refine aT ?_;show F step i s=_;rw[hF,if_pos hc,hx,qk,hst,qk,hq];rfl
    ·rw[if_neg hc] at W
     cases W
 obtain⟨k,hk⟩:=DA.1 h;obtain⟨ys,e,a0⟩:=key k _ _ _ hk;simp only[List.nil_append] at e;subst e;exact a0 _ _ J
theorem pD {σ:Type}{step:σ->List Ap->Option (σ×Bool)}{s:σ}{xs:List (List Ap)}{p1:List Ap}{p2:Int}{r:σ×Bool}(h:fq p1 p2=some xs)(W:cD step s xs=some r):fM step s p1 p2=some r.1:=by
 refine Ak (λ{τ} st i s=>cl st p1 p2 i s) (λi=>decide (i<(p1.length:Int))) (λi=>(sub p1 i p1.length).bind λJ=>sub p1 i (kz.wrap (i+(if (J.length:Int)<p2 then (J.length:Int) else p2)))) (λi=>kz.wrap (i+p2)) (λst i s=>?_) h W;simp only[cl,Option.bind_assoc]
theorem pi {σ:Type}{step:σ->aa->Option (σ×Bool)}{s:σ}{xs:List aa}{p1:Option aw}{p2:Int}{r:σ×Bool}(h:dI p1 p2=some xs)(J:cD step s xs=some r):c9 step s p1 p2=some r.1:=by
 unfold dI c9 at h;unfold c9;cases p1 with
 |none=>cases h
 | some f=>
  simp only[qk] at h ⊢;cases hs:sub f.fL p2 (f.fL.length:Int) with
  |none=>rw[hs] at h;cases h
  |some l=>
   rw[hs] at h;simp only[qk] at h ⊢;refine Ak (λ{τ} st i s=>cc st l i s) (λi=>decide (i<(l.length:Int))) (λi=>(idx l i).bind λx=>gI x) (λi=>kz.wrap (i+1)) (λst i s=>?_) h J;simp only[cc,Option.bind_assoc]
theorem fe {σ β:Type}{f:σ->Option (σ⊕β)}(I:σ->Prop)(μ:σ->Nat)(Q:β->Prop)
  (step:∀s,I s->(∃s',f s=some (.inl s')/\I s'/\μ s'<μ s)\/ ∃b,f s=some (.inr b)/\Q b) {s:σ} (h:I s):∃b,au f s=some b/\Q b:=by
 generalize hn:μ s=n
 induction n using Ze generalizing s with
 | _ n ih=>
  rcases step s h with⟨s',W,J,h3⟩|⟨b,W,J⟩
  ·obtain⟨b,h4,Z⟩:=ih (μ s') (by omega) J rfl
   exact⟨b,by rw[bK W];exact h4,Z⟩
  ·exact⟨b,aT W,J⟩
theorem nz {σ β:Type}{f:σ->Option (σ⊕β)}(I:σ->Prop)(μ:σ->Nat){b:β}
  (step:∀s,I s->(∃s',f s=some (.inl s')/\I s'/\μ s'<μ s)\/f s=some (.inr b)) {s:σ} (h:I s):au f s=some b:=by
 obtain⟨c,W,rfl⟩:=fe I μ (λc=>c=b) (λs J=>(step s J).imp id λh=>⟨b,h,rfl⟩) h;exact W
theorem ak {n:Int}(h: -9223372036854775808<=n/\n<=9223372036854775807):kz.wrap n=n:=by
 have:inR .i64 n:=by rw[la];exact h
 exact this
theorem aH {O:Type}{xs:List O}{i:Nat}(h:i<xs.length):idx xs (i:Int)=some xs[i]:=by
 unfold idx;rw[if_pos (by omega)];simp[h]
theorem aS {O:Type}{N:Nat}{xs ys:List O}(h:xs.length+ys.length<=N):app N xs ys=some (xs++ys):=by
 unfold app;rw[if_pos h]
theorem dV {O:Type}{xs:List O}{lo hi:Nat}(h:lo<=hi)(J:hi<=xs.length):sub xs (lo:Int) (hi:Int)=some ((xs.take hi).drop lo):=by
 unfold sub;rw[if_pos (by omega)];simp
theorem cA (n:Int):Q3.wrap n=n%18446744073709551616:=by
 simp[IntKind.wrap,IntKind.bits,IntKind.signed]
theorem xq (n:Int):Zl.wrap n=n%4294967296:=by
 simp[IntKind.wrap,IntKind.bits,IntKind.signed]
theorem bV (n:Int):Qn.wrap n=n%256:=by
 simp[IntKind.wrap,IntKind.bits,IntKind.signed]
theorem pE {x:Int}{k:Nat}(h:k<=64):aO .u64 x (k:Int)=x/2^k:=by
 unfold aO;rw[Qq _ (Zp (Int.pow_pos (by decide)))];congr 2;simp[IntKind.bits];omega
theorem OK {x:Int}{k:Nat}(h:k<=8):aO .u8 x (k:Int)=x/2^k:=by
 unfold aO;rw[Qq _ (Zp (Int.pow_pos (by decide)))];congr 2;simp[IntKind.bits];omega
theorem wv {x:Int}{k:Nat}(h:k<=64):eK .u64 x (k:Int)=(x*2^k)%18446744073709551616:=by
 unfold eK;rw[cA];congr 3;simp[IntKind.bits];omega
theorem Hi {a b:Nat}(W:a<18446744073709551616)(Z:b<18446744073709551616):d4 .u64 (a:Int) (b:Int)=((a&&&b:Nat):Int):=by
 unfold d4;rw[cA]
 have h:(Qd Q3.bits (a:Int)).toNat=a:=by
  show(Qd 64 (a:Int)).toNat=a;rw[Qf];omega
 have J:(Qd Q3.bits (b:Int)).toNat=b:=by
  show(Qd 64 (b:Int)).toNat=b;rw[Qf];omega
 rw[BitVec.toNat_and,h,J];have:a&&&b<=a:=Nat.and_le_left;omega
theorem Gm {a b:Nat}(h:a<18446744073709551616)(Z:b<18446744073709551616):bOr .u64 (a:Int) (b:Int)=((a|||b:Nat):Int):=by
 unfold bOr;rw[cA]
 have J:(Qd Q3.bits (a:Int)).toNat=a:=by
  show(Qd 64 (a:Int)).toNat=a;rw[Qf];omega
 have W:(Qd Q3.bits (b:Int)).toNat=b:=by
  show(Qd 64 (b:Int)).toNat=b;rw[Qf];omega
 rw[BitVec.toNat_or,J,W];have:a|||b<2^64:=Nat.or_lt_two_pow (by simpa using h) (by simpa using Z)
 have e:(2:Nat)^64=18446744073709551616:=by decide
 omega
def be8 (n:Int):List Int:=[n/2^56%256,n/2^48%256,n/2^40%256,n/2^32%256,n/2^24%256,n/2^16%256,n/2^8%256,n%256]
theorem qP (n:Int):lf n=some (be8 n):=by
 unfold lf
 have step:∀(l:List Int) (i:Nat),i<8->l.length<=8->fD n l (i:Int)=some (.inl (l++[n/2^(56 - 8*i)%256],((i+1:Nat):Int))):=by
  intro l i hi h;unfold fD;have W:decide ((i:Int)<8)=true:=by simpa using by omega
  have J:kz.wrap (8*(i:Int))=((8*i:Nat):Int):=by rw[ak (by omega)];omega
  have h3:kz.wrap (56 - ((8*i:Nat):Int))=((56 - 8*i:Nat):Int):=by rw[ak (by omega)];omega
  have h4:kz.wrap ((i:Int)+1)=((i+1:Nat):Int):=by rw[ak (by omega)];omega
  rw[if_pos W,J,h3,pE (by omega),bV,h4];have Z:chk (decide (0<=((56 - 8*i:Nat):Int)))=some ():=by simp[chk]
  rw[Z,qk,aS (by simp;omega),qk]
 have e8:∀l:List Int,fD n l 8=some (.inr l):=λl=>by
  unfold fD;rw[if_neg (by decide)];rfl
 have s:∀(l:List Int) (i:Nat),i<8->l.length<=8->au (λs:(List Int×Int)=>fD n s.1 s.2) (l,(i:Int))=au (λs:(List Int×Int)=>fD n s.1 s.2) (l++[n/2^(56 - 8*i)%256],((i+1:Nat):Int)):=λl i hi h=>bK (step l i hi h);have:=s [] 0 (by omega) (by simp);rw[show((0:Nat):Int)=0 from rfl] at this;rw[this,s _ 1 (by omega) (by simp),s _ 2 (by omega) (by simp),s _ 3 (by omega) (by simp),s _ 4 (by omega) (by simp),s _ 5 (by omega) (by simp),s _ 6 (by omega) (by simp),s _ 7 (by omega) (by simp)];rw[show((7+1:Nat):Int)=8 from rfl,aT (e8 _)];simp[be8]
def dW (l:List Int):Int:=l.foldl (λa c=>a*256+c) 0
theorem rj (l:List Int)(c:Int):dW (l++[c])=dW l*256+c:=by simp[dW]
theorem xr (l:List Int)(h:∀c∈l,0<=c/\c<256):0<=dW l/\dW l<256^l.length:=by
 have key:∀(r:List Int),(∀c∈r,0<=c/\c<256)->0<=dW r.reverse/\dW r.reverse<256^r.length:=by
  intro r
  induction r with
  |nil=>intro _;simp[dW]
  |cons c r ih=>
   intro h;obtain⟨Z,h2⟩:=ih (λx W=>h x (by simp[W]));have J:=h c (by simp);rw[List.reverse_cons,rj,Ql,Int.pow_succ];omega
 have:=key l.reverse (λc J=>h c (by simpa using J));simpa using this
theorem vp {n:Int}(J:0<=n)(h:n<18446744073709551616):dW (be8 n)=n:=by
 simp only[dW,be8,Zi,List.foldl_nil];omega
theorem t8 (n:Int):∀c∈be8 n,0<=c/\c<256:=by
 intro c h;simp only[be8,Qa,List.not_mem_nil,or_false] at h;rcases h with rfl|rfl|rfl|rfl|rfl|rfl|rfl|rfl<;>omega
theorem cf (n:Int):(be8 n).length=8:=rfl
theorem cj {σ β:Type}{f:σ->Option (σ⊕β)}{s:σ}{b:β}(S:Nat->σ)(n:Nat)(W:s=S 0)(step:∀i,i<n->f (S i)=some (.inl (S (i+1))))(J:f (S n)=some (.inr b)):au f s=some b:=by
 have key:∀i,i<=n->au f s=au f (S i):=by
  intro i
  induction i with
  |zero=>intro _;rw[W]
  |succ i ih=>intro h;rw[ih (by omega),bK (step i (by omega))]
 rw[key n (Qe n),aT J]
theorem Al {O β:Type}{f:Int->Option (Int⊕β)}(xs:List O)(p:O->Bool)(W J:β)(step:∀(i:Nat)(h:i<xs.length),p xs[i]=true->f (i:Int)=some (.inl ((i+1:Nat):Int)))
  (out:∀(i:Nat) (h:i<xs.length),p xs[i]=false->f (i:Int)=some (.inr W)) (a0:f (xs.length:Int)=some (.inr J)):au f 0=some (if xs.all p then J else W):=by
 have key:∀k i:Nat,i+k=xs.length->au f (i:Int)=some (if (xs.drop i).all p then J else W):=by
  intro k
  induction k with
  |zero=>
   intro i hi;have:i=xs.length:=by omega
   subst this;rw[aT a0];simp
  |succ k ih=>
   intro i hi;have Z:i<xs.length:=by omega
   rw[Qw Z,List.all_cons];cases hp:p xs[i] with
   |true=>rw[bK (step i Z hp),ih (i+1) (by omega)];simp
   |false=>rw[aT (out i Z hp)];simp
 have:=key xs.length 0 (by omega);simpa using this
theorem yh {O β:Type}{f:Int->Option (Int⊕β)}(xs:List O)(p:O->Bool)(W:Nat->β)(J:β)(step:∀(i:Nat)(h:i<xs.length),p xs[i]=false->f (i:Int)=some (.inl ((i+1:Nat):Int)))
  (out:∀(i:Nat) (h:i<xs.length),p xs[i]=true->f (i:Int)=some (.inr (W i))) (a0:f (xs.length:Int)=some (.inr J)):au f 0=some (if xs.any p then W (xs.findIdx p) else J):=by
 have key:∀k i:Nat,i+k=xs.length->au f (i:Int)=some (if (xs.drop i).any p then W (i+(xs.drop i).findIdx p) else J):=by
  intro k
  induction k with
  |zero=>
   intro i hi;have:i=xs.length:=by omega
   subst this;rw[aT a0];simp
  | succ k ih=>
   intro i hi;have Z:i<xs.length:=by omega
   rw[Qw Z,List.any_cons,List.findIdx_cons];cases hp:p xs[i] with
   |false=>
    rw[bK (step i Z hp),ih (i+1) (by omega)];simp only[Bool.false_or,cond_false];congr 2;congr 1;omega
   |true=>rw[aT (out i Z hp)];simp
 have:=key xs.length 0 (by omega);simpa using this
theorem bD {i:Nat}(h:i<4611686018427387904):kz.wrap ((i:Int)+1)=((i+1:Nat):Int):=by rw[ak (by omega)];rfl
theorem qd {b:Bool}(h:b=true):chk b=some ():=by subst h;rfl
def Byt (l:List Int):Prop:= ∀c∈l,0<=c/\c<256
theorem Byt.nil:Byt []:=λc h=>by cases h
theorem Byt.cons {c:Int}{l:List Int}(W:0<=c/\c<256)(h:Byt l):Byt (c::l):=λd J=>by
 rcases Qa.1 J with rfl|J
 ·exact W
 ·exact h d J
theorem Byt.head {c:Int}{l:List Int}(h:Byt (c::l)):0<=c/\c<256:=h c (by simp)
theorem Byt.tail {c:Int}{l:List Int}(h:Byt (c::l)):Byt l:=λd J=>h d (by simp[J])
theorem Byt.app {a b:List Int}(h:Byt a)(k:Byt b):Byt (a++b):=λc J=>by
 rcases Qb.1 J with J|J
 ·exact h c J
 ·exact k c J
theorem Byt.take {a:List Int}(h:Byt a)(n:Nat):Byt (a.take n):=λc J=>h c (Qk J)
theorem Byt.drop {a:List Int}(h:Byt a)(n:Nat):Byt (a.drop n):=λc J=>h c (List.mem_of_mem_drop J)
theorem Byt.left {a b:List Int}(h:Byt (a++b)):Byt a:=λc J=>h c (by simp[J])
theorem Byt.right {a b:List Int}(h:Byt (a++b)):Byt b:=λc J=>h c (by simp[J])
def cL (n:Int):Prop:= -9223372036854775808<=n/\n<=9223372036854775807
structure VOK (v:Ap):Prop where
 kind:cL v.fKind
 int:cL v.fInt
 text:Byt v.fText
abbrev kx:Ap:=⟨0,false,0,[]⟩
abbrev y6 (b:Bool):Ap:=⟨1,b,0,[]⟩
abbrev io (n:Int):Ap:=⟨2,false,n,[]⟩
abbrev uI (t:List Int):Ap:=⟨3,false,0,t⟩
def right (v:Ap):Bool:=
 if v.fKind==0 then decide (v=kx) else if v.fKind==1 then decide (v=y6 v.fBool) else if v.fKind==2 then decide (v=io v.fInt) else
 if v.fKind==3 then decide (v=uI v.fText)&&decide ((v.fText.length:Int)<=64) else false
theorem iy (v:Ap):kM v=some (right v):=by
 obtain⟨k,b,n,t⟩:=v;unfold kM right j7 nH d5 nI ot;simp only[qk]
 by_cases h0:k=0
 ·subst h0;rfl
 by_cases h1:k=1
 ·subst h1;rfl
 by_cases h2:k=2
 ·subst h2;rfl
 by_cases h3:k=3
 ·subst h3
  by_cases h:(⟨3,b,n,t⟩:Ap)=uI t
  ·simp[h]
  ·simp[h]
 have W:(k==0)=false:=by simpa using h0
 have J:(k==1)=false:=by simpa using h1
 have e2:(k==2)=false:=by simpa using h2
 have Z:(k==3)=false:=by simpa using h3
 simp only[W,J,e2,Z];rfl
inductive Rgt:Ap->Prop
 |null:Rgt kx
 |bool (b:Bool):Rgt (y6 b)
 |int (n:Int) (h:cL n):Rgt (io n)
 |text (t:List Int) (h:Byt t) (hl:t.length<=64):Rgt (uI t)
theorem Rgt.of {v:Ap}(h:VOK v)(J:right v=true):Rgt v:=by
 unfold right at J;split at J
 ·have:=of_decide_eq_true J;rw[this];exact .null
 split at J
 ·have:=of_decide_eq_true J;rw[this];exact .bool _
 split at J
 ·have:=of_decide_eq_true J;rw[this];exact .int _ h.int
 split at J
 ·simp only[Q8,decide_eq_true_eq] at J
  rw[J.1];exact .text _ h.text (by omega)
 ·cases J
theorem Rgt.right {v:Ap}(h:Rgt v):right v=true:=by
 cases h with
 |null=>rfl
 |bool b=>cases b<;>rfl
 |int n _=>simp[Go.Proofs.YthbonoagbeilkaaGreat.Hay.right]
 |text t _ hl=>simp[Go.Proofs.YthbonoagbeilkaaGreat.Hay.right];omega
theorem Rgt.ok {v:Ap}(h:Rgt v):VOK v:=by
 cases h with
 |null=>exact⟨by simp[cL],by simp[cL],Byt.nil⟩
 |bool b=>exact⟨by simp[cL],by simp[cL],Byt.nil⟩
 |int n h=>exact⟨by simp[cL],h,Byt.nil⟩
 |text t h _=>exact⟨by simp[cL],by simp[cL],h⟩
def bv (v:Ap):List Int:=
 if v.fKind=1 then [1,if v.fBool then 1 else 0] else if v.fKind=2 then 2::be8 (v.fInt%18446744073709551616) else if v.fKind=3 then 3::(v.fText.length:Int)::v.fText else [v.fKind]
theorem Ed:bv kx=[0]:=rfl
theorem Ee (b:Bool):bv (y6 b)=[1,if b then 1 else 0]:=rfl
theorem sK (n:Int):bv (io n)=2::be8 (n%18446744073709551616):=rfl
theorem qQ (t:List Int):bv (uI t)=3::(t.length:Int)::t:=rfl
theorem qe {v:Ap}(h:Rgt v):Byt (bv v):=by
 cases h with
 |null=>exact .cons (by decide) .nil
 |bool b=>exact .cons (by decide) (.cons (by cases b<;>decide) .nil)
 |int n h=>exact .cons (by decide) (t8 _)
 |text t h hl=>exact .cons (by decide) (.cons (by show 0<=(t.length:Int)/\(t.length:Int)<256;omega) h)
theorem g7 {v:Ap}(h:Rgt v):1<=(bv v).length/\(bv v).length<=66:=by
 cases h with
 |null=>decide
 |bool b=>cases b<;>decide
 |int n h=>rw[sK];simp[cf]
 |text t h hl=>rw[qQ];simp;omega
theorem yG {p:List Int}(n:Int)(hp:p.length+8<=140737488355328):lG p n=some (p++be8 n):=by
 unfold lG;refine cj (λi=>((i:Int),(be8 n).take i++Q5 (8 - i) 0)) 8 rfl ?_ ?_
 ·intro i hi
  dsimp only;unfold kD;have W:decide ((i:Int)<8)=true:=by simpa using by omega
  have J:kz.wrap (8*(i:Int))=((8*i:Nat):Int):=by rw[ak (by omega)];omega
  have Z:kz.wrap (56 - ((8*i:Nat):Int))=((56 - 8*i:Nat):Int):=by rw[ak (by omega)];omega
  rw[if_pos W,J,Z,pE (by omega),bV,bD (by omega),qd (by simp),qk];have hl:((be8 n).take i++Q5 (8 - i) (0:Int)).length=8:=by simp[cf];omega
  have h:ix ((be8 n).take i++Q5 (8 - i) (0:Int)) (i:Int)=some i:=by unfold ix;rw[if_pos (by rw[hl];omega)];simp
  rw[h,qk,Q2 (by omega),qk];have:i=0\/i=1\/i=2\/i=3\/i=4\/i=5\/i=6\/i=7:=by omega
  rcases this with rfl|rfl|rfl|rfl|rfl|rfl|rfl|rfl<;>simp[be8,Q5]
 ·unfold kD mS
  have e:(be8 n).take 8++Q5 (8 - 8) (0:Int)=be8 n:=by simp[be8]
  dsimp only;rw[if_neg (by simp)];rw[e,aS (by simp[cf];omega)];rfl
theorem Bo {p:List Int}{v:Ap}(h:Rgt v)(J:p.length+66<=140737488355328):sI p v=some (p++bv v):=by
 unfold sI;rw[aS (by simp;omega),qk];cases h with
 |null=>simp[bv,bV]
 | bool b=>
  cases b
  ·simp only[bv,bV]
   rw[if_pos (by decide),if_neg (by decide),aS (by simp;omega)];simp
  ·simp only[bv,bV]
   rw[if_pos (by decide),if_pos (by decide),aS (by simp;omega)];simp
 |int n h=>
  simp only[bV,cA,bv];rw[if_neg (by decide),if_pos (by decide),yG _ (by simp;omega)];simp
 |text t h hl=>
  simp only[bV,bv];rw[if_neg (by decide),if_neg (by decide),if_pos (by decide),aS (by simp;omega),qk,aS (by simp;omega)];simp;omega
theorem Bp (l:List Ap)(W:l.length<=281474976710656):pW l=some (l.all right&&decide (l.length<=16)):=by
 have h:pW l=some (if l.all right then decide ((l.length:Int)<=16) else false):=by
  unfold pW;refine Al l right _ _ (λi h J=>?_) (λi h J=>?_) ?_
  ·unfold oL
   rw[if_pos (by simpa using h),aH h,qk,iy,qk,J,if_neg (by decide),bD (by omega)]
  ·unfold oL
   rw[if_pos (by simpa using h),aH h,qk,iy,qk,J];rfl
  ·unfold oL uS
   rw[if_neg (by simp)];rfl
 rw[h];cases l.all right<;>simp;omega
def sL (l:List Ap):List Int:=(l.length:Int)::l.flatMap bv
theorem ln {l:List Ap}(h:∀v∈l,Rgt v):(l.flatMap bv).length<=66*l.length:=by
 induction l with
 |nil=>simp
 |cons v r ih=>
  have:=(g7 (h v (by simp))).2;have:=ih (λx J=>h x (by simp[J]));rw[List.flatMap_cons,Qg,Ql];omega
theorem qR {O:Type}{l:List O}{f:O->List Int}{i:Nat}(h:i<l.length):(l.take (i+1)).flatMap f=(l.take i).flatMap f++f l[i]:=by
 rw[Q0 h,List.flatMap_append,List.flatMap_singleton]
theorem rQ {l:List Ap}(h:∀v∈l,Rgt v)(Z:l.length<=16):mr l=some (sL l,0):=by
 unfold mr;rw[Bp l (by omega),qk];have W:l.all right=true:=by rw[Z1];exact λv J=>(h v J).right
 rw[W,if_neg (by simpa using Z)];refine cj (λi=>((l.length:Int)::(l.take i).flatMap bv,(i:Int))) l.length (by simp[bV];omega) (λi hi=>?_) ?_
 ·dsimp only
  unfold ou;have:=ln (l:=l.take i) λv J=>h v (Qk J);rw[if_pos (by simpa using hi),aH hi,qk,Bo (h _ (Q7 hi)) (by simp at this ⊢;omega),qk,bD (by omega),qR hi]
  rfl
 ·unfold ou rK
  rw[if_neg (by simp)];simp[sL]
theorem pj {v:Ap}(h:Rgt v):j8 v=some (bv v):=by
 unfold j8;rw[rQ (l:=[v]) (by simpa using h) (by simp),qk]
 have:sub (sL [v]) 1 ((sL [v]).length:Int)=some (bv v):=by
  have:=dV (xs:=sL [v]) (lo:=1) (hi:=(sL [v]).length) (by simp[sL]) (Qe _);rw[show((1:Nat):Int)=1 from rfl] at this;rw[this];simp[sL]
 dsimp only;rw[this];rfl
def bI:List Int->Option (Ap×Nat)
 |[]=>none
 |k::b=>
  if k=0 then some (kx,1) else
  if k=1 then (match b with|c::_=>if c<=1 then some (y6 (c==1),2) else none|[]=>none) else
  if k=2 then (if 8<=b.length then some (io (kz.wrap (dW (b.take 8))),9) else none) else
  if k=3 then (match b with|c::r=>if c<=64/\c<=(r.length:Int) then some (uI (r.take c.toNat),2+c.toNat) else none|[]=>none) else none
theorem Gn {l:List Int}(h:Byt l)(J:l.length=8):be8 (dW l)=l:=by
 match l,J with
 |[a,b,c,d,e,f,g,i],_=>
  have W:=h a (by simp);have hb:=h b (by simp);have hc:=h c (by simp);have hd:=h d (by simp);have he:=h e (by simp);have Z:=h f (by simp);have hg:=h g (by simp);have hi:=h i (by simp);simp only[be8,dW,Zi,List.foldl_nil,List.cons.injEq,and_true];refine⟨?_,?_,?_,?_,?_,?_,?_,?_⟩<;>omega
theorem lp (n:Int):kz.wrap n=(n+9223372036854775808)%18446744073709551616 - 9223372036854775808:=by
 simp only[IntKind.wrap,IntKind.bits,IntKind.signed];simp;omega
theorem Gp {n:Int}(h:0<=n/\n<18446744073709551616):kz.wrap n%18446744073709551616=n:=by
 rw[lp];omega
theorem vq {n:Int}(h:cL n):kz.wrap (n%18446744073709551616)=n:=by
 rw[lp];unfold cL at h;omega
theorem mH (n:Int):cL (kz.wrap n):=by rw[lp];unfold cL;omega
theorem o4 {v:Ap}(h:Rgt v)(r:List Int):bI (bv v++r)=some (v,(bv v).length):=by
 cases h with
 |null=>simp[Ed,bI]
 |bool b=>cases b<;>simp[Ee,bI]
 |int n h=>
  rw[sK];have W: ¬ ((2:Int)=0):=by decide
  have Z: ¬ ((2:Int)=1):=by decide
  have J:8<=(be8 (n%18446744073709551616)++r).length:=by simp[cf]
  have h4:(be8 (n%18446744073709551616)++r).take 8=be8 (n%18446744073709551616):=List.take_left' (cf _);simp only[List.cons_append,bI];rw[if_neg W,if_neg Z,if_pos trivial,if_pos J,h4,vp (by omega) (by omega),vq h];simp[cf]
 |text t h hl=>
  rw[qQ];simp only[List.cons_append,bI];rw[if_neg (by decide),if_neg (by decide),if_neg (by decide),if_pos trivial,if_pos (by simp;omega)];simp;omega
theorem lU {b:List Int}{v:Ap}{n:Nat}(W:Byt b)(h:bI b=some (v,n)):Rgt v/\∃r,b=bv v++r/\n=(bv v).length:=by
 cases b with
 |nil=>cases h
 | cons k b=>
  simp only[bI] at h;split at h
  ·rename_i J;subst J
   simp only[Option.some.injEq,Prod.mk.injEq] at h;obtain⟨rfl,rfl⟩:=h;exact⟨.null,b,rfl,rfl⟩
  split at h
  ·rename_i J;subst J
   cases b with
   |nil=>cases h
   | cons c r=>
    simp only at h;split at h
    ·rename_i hc
     simp only[Option.some.injEq,Prod.mk.injEq] at h;obtain⟨rfl,rfl⟩:=h;have h0:=W.tail.head;have:c=0\/c=1:=by omega
     rcases this with rfl|rfl
     ·exact⟨.bool _,r,rfl,rfl⟩
     ·exact⟨.bool _,r,rfl,rfl⟩
    ·cases h
  split at h
  ·rename_i J;subst J
   split at h
   ·rename_i hl
    simp only[Option.some.injEq,Prod.mk.injEq] at h;obtain⟨rfl,rfl⟩:=h;have Z:(b.take 8).length=8:=by simp;omega
    have a0:=xr (b.take 8) (W.tail.take 8);rw[Z] at a0;refine⟨.int _ (mH _),b.drop 8,?_,?_⟩
    ·rw[sK,Gp (by omega),Gn (W.tail.take 8) Z]
     simp
    ·rw[sK];simp[cf]
   ·cases h
  split at h
  ·rename_i J;subst J
   cases b with
   |nil=>cases h
   | cons c r=>
    simp only at h;split at h
    ·rename_i hc
     simp only[Option.some.injEq,Prod.mk.injEq] at h;obtain⟨rfl,rfl⟩:=h;have h0:=W.tail.head;refine⟨.text _ (W.tail.tail.take _) (by simp;omega),r.drop c.toNat,?_,?_⟩
     ·rw[qQ]
      have:((r.take c.toNat).length:Int)=c:=by simp;omega
      rw[this];simp
     ·rw[qQ];simp;omega
    ·cases h
  ·cases h
theorem qf {b:List Int}{v:Ap}{n:Nat}(W:Byt b)(h:bI b=some (v,n)):1<=n/\n<=66/\n<=b.length:=by
 obtain⟨J,r,rfl,rfl⟩:=lU W h;have:=g7 J;simp;omega
theorem pF {b:List Int}{v:Ap}{n k:Nat}(hb:Byt b)(h:bI (b.take k)=some (v,n)):bI b=some (v,n)/\n<=k:=by
 obtain⟨Z,r,J,rfl⟩:=lU (hb.take k) h;have W:b=bv v++(r++b.drop k):=by rw[←List.append_assoc,←J];simp
 refine⟨by rw[W];exact o4 Z _,?_⟩;have:=congrArg Zm J;simp at this;omega
theorem th {b:List Int}{v:Ap}{n k:Nat}(W:Byt b)(h:bI b=some (v,n))(Z:n<=k):bI (b.take k)=some (v,n):=by
 obtain⟨J,r,rfl,rfl⟩:=lU W h;rw[List.take_append,List.take_of_length_le Z];exact o4 J _
theorem Ef {x y:Int}(k:Nat)(hx:0<=x)(h:0<=y)(Z:y<2^k)(J:x*2^k+y<18446744073709551616):bOr .u64 (x*2^k) y=x*2^k+y:=by
 obtain⟨a,rfl⟩:=Qj hx;obtain⟨b,rfl⟩:=Qj h;have e:(a:Int)*2^k=((2^k*a:Nat):Int):=by rw[Int.natCast_mul,Qi,Int.mul_comm];rfl
 have e2:((2:Int)^k)=((2^k:Nat):Int):=by rw[Qi];rfl
 rw[e2] at Z;rw[e] at J ⊢;have W:b<2^k:=by omega
 rw[Gm (by omega) (by omega),←Z7 W];omega
theorem xt {b:List Int}(J:Byt b)(hl:8<=b.length):oN b=some (dW (b.take 8)):=by
 unfold oN;refine cj (λi=>(dW (b.take i),(i:Int))) 8 (by simp[dW]) (λi hi=>?_) ?_
 ·dsimp only
  unfold oz;have hi':i<b.length:=by omega
  have a0:=xr (b.take i) (J.take i);have a1:=J b[i] (Q7 hi')
  have hp:(256:Int)^(b.take i).length<=256^7:=by
   have:(b.take i).length<=7:=by simp;omega
   have h9:=Qm (show 0<256 by omega) this;have Z:=Int.ofNat_le.2 h9;simpa[Qi] using Z
  have h:=wv (x:=dW (b.take i)) (k:=8) (by omega);rw[show((8:Nat):Int)=8 from rfl] at h
  have e:dW (b.take (i+1))=dW (b.take i)*256+b[i]:=by
   rw[Q0 hi',rj]
  have W:dW (b.take i)*2^8%18446744073709551616=dW (b.take i)*2^8:=by omega
  have e2:b[i]%18446744073709551616=b[i]:=by omega
  rw[if_pos (by simpa using by omega),aH hi',qk,bD (by omega),h,cA,e,W,e2,Ef 8 (by omega) (by omega) (by omega) (by omega)]
  rfl
 ·unfold oz rO
  dsimp only;rw[if_neg (by simp)];rfl
theorem dx {O:Type}(a:O)(l:List O):idx (a::l) 0=some a:=aH (xs:=a::l) (i:=0) (by simp)
theorem yi {O:Type}(a b:O)(l:List O):idx (a::b::l) 1=some b:=aH (xs:=a::b::l) (i:=1) (by simp)
theorem fQ {O:Type}{xs:List O}{k:Nat}(h:k<=xs.length):sub xs (k:Int) (xs.length:Int)=some (xs.drop k):=by
 rw[dV h (Qe _),Q9]
theorem qS {O:Type}(a:O)(l:List O):sub (a::l) 1 ((a::l).length:Int)=some l:=by
 have:=fQ (xs:=a::l) (k:=1) (by simp);simpa using this
theorem rR {c:Int}(h:0<=c/\c<256):kz.wrap c=c:=ak (by omega)
theorem Am {b:List Int}(hb:Byt b):qJ b=some (match bI b with|some (v,n)=>(v,b.drop n,true)|none=>(kx,[],false)):=by
 cases b with
 |nil=>rfl
 | cons k r=>
  have Z:=hb.head;have hr:=hb.tail;unfold qJ;rw[if_neg (by simp;omega),dx,qk,qS,qk,rR Z]
  by_cases h0:k=0
  ·subst h0;simp[bI,j7]
  rw[if_neg (by simpa using h0)];have J:jR r false=some (kx,[],false):=rfl
  by_cases h1:k=1
  ·subst h1
   have e2:jS 1 r false=some (kx,[],false):=rfl;rw[if_pos (by simp)];cases r with
   |nil=>simp[bI,e2]
   | cons c r=>
    rw[if_pos (by simp;omega),dx,qk]
    by_cases h:c<=1
    ·unfold jS
     rw[if_pos (by simpa using h),dx,qk,qS];simp[bI,h,nH]
    ·have:decide (c<=1)=false:=by simpa using h
     rw[this,e2];simp[bI,h]
  rw[if_neg (by simpa using h1)];unfold jS;rw[if_neg (by decide),rR Z]
  by_cases h2:k=2
  ·subst h2
   rw[if_pos (by simp)];unfold nM
   by_cases hl:8<=r.length
   ·have W:=fQ (xs:=r) (k:=8) hl
    rw[show((8:Nat):Int)=8 from rfl] at W;rw[if_pos (by simpa using by omega),xt hr hl,qk];unfold d5;rw[qk,W];simp[bI,hl]
   ·rw[if_neg (by simpa using by omega),if_neg (by decide),J]
    simp[bI,hl]
  rw[if_neg (by simpa using h2)];unfold nM;rw[if_neg (by decide),rR Z]
  by_cases h3:k=3
  ·subst h3
   rw[if_pos (by simp)];cases r with
   |nil=>simp[bI,J]
   | cons c r=>
    have h:=hr.head;rw[if_pos (by simp;omega),dx,qk]
    by_cases hc64:c<=64
    ·rw[if_pos (by simpa using hc64),qk,rR h]
     by_cases hl:c<=(r.length:Int)
     ·obtain⟨n,rfl⟩:=Qj h.1
      have e3:Qn.wrap (1+(n:Int))=((1+n:Nat):Int):=by rw[bV];omega
      have W:=dV (xs:=(n:Int)::r) (lo:=1) (hi:=1+n) (by omega) (by simp;omega);rw[show((1:Nat):Int)=1 from rfl] at W;have a0:=fQ (xs:=(n:Int)::r) (k:=1+n) (by simp;omega);unfold jR;rw[if_pos (by simp;omega),dx,qk,e3,W,qk];unfold nI;rw[qk,qk,e3,a0]
      have e5:bI (3::(n:Int)::r)=some (uI (r.take n),2+n):=by
       simp only[bI];rw[if_neg (by decide),if_neg (by decide),if_neg (by decide),if_pos trivial,if_pos ⟨hc64,hl⟩];simp
      rw[e5];simp only[qk,Option.some.injEq,Prod.mk.injEq,and_true];have e6:1+n=n+1:=by omega
      have e7:2+n=n+1+1:=by omega
      rw[e6,e7];simp
     ·have:decide (c<(((c::r).length:Nat):Int))=false:=by simp;omega
      rw[this,J];simp[bI,hl]
    ·rw[if_neg (by simpa using hc64),J];simp[bI,hc64]
  rw[if_neg (by simpa using h3),J];simp[bI,h0,h1,h2,h3]
def o5:Nat->List Int->Option (List Ap×List Int)
 |0,b=>some ([],b)
 |n+1,b=>match bI b with
  |some (v,k)=>(o5 n (b.drop k)).map λx=>(v::x.1,x.2)
  |none=>none
theorem vt (many:Nat)(Z:many<=255):∀(n i:Nat) (b:List Int) (h:List Ap),i+n=many->Byt b->h.length=i->
  au (λs:(List Int×List Ap×Int)=>jT (many:Int) s.1 s.2.1 s.2.2) (b,h,(i:Int))=some (match o5 n b with|some (l,[])=>(h++l,0)|_=>([],30)):=by
 intro n
 induction n with
 |zero=>
  intro i b h hi J W;apply aT;dsimp only;unfold jT rP;rw[if_neg (by rw[ak (by omega)];simp;omega)];cases b with
  |nil=>simp[o5]
  |cons c r=>simp[o5]
 | succ n ih=>
  intro i b h hi J W
  have step:jT (many:Int) b h (i:Int)=match bI b with|some (v,k)=>some (.inl (b.drop k,h++[v],((i+1:Nat):Int)))|none=>some (.inr ([],30)):=by
   unfold jT;rw[if_pos (by rw[ak (by omega)];simp;omega),Am J,qk];cases hp:bI b with
   |none=>rfl
   |some x=>
    obtain⟨v,k⟩:=x;simp only[Zo,Qc,if_false];rw[aS (by simp;omega),qk,bD (by omega)]
  simp only[o5];cases hp:bI b with
  |none=>rw[hp] at step;rw[aT (by dsimp only;exact step)]
  | some x=>
   obtain⟨v,k⟩:=x;rw[hp] at step;rw[bK (by dsimp only;exact step),ih (i+1) _ _ (by omega) (J.drop _) (by simp;omega)];dsimp only;cases hq:o5 n (b.drop k) with
   |none=>rfl
   |some y=>
    obtain⟨l,r⟩:=y;cases r<;>simp
theorem xu {b:List Int}(J:Byt b):kO b=some (match b with|[]=>([],30)|c::r=>if c<=16 then (match o5 c.toNat r with|some (l,[])=>(l,0)|_=>([],30)) else ([],30)):=by
 cases b with
 |nil=>rfl
 | cons c r=>
  have W:=J.head;unfold kO;rw[if_neg (by simp;omega),dx,qk];unfold oA
  by_cases h:c<=16
  ·rw[if_neg (by simpa using h),dx,qk,qS,qk]
   have:=vt c.toNat (by omega) c.toNat 0 r [] (by omega) J.tail rfl;rw[show((c.toNat:Nat):Int)=c by omega] at this;rw[show((0:Nat):Int)=0 from rfl] at this;rw[this];simp[h]
  ·rw[if_pos (by simpa using by omega)];simp[h]
theorem qU {c:List Int}(J:Byt c):kO (1::c)=some (match bI c with|some (v,k)=>if k=c.length then ([v],0) else ([],30)|none=>([],30)):=by
 rw[xu (J.cons (by decide))];simp only[show((1:Int)<=16)=True by simp,if_true,show(1:Int).toNat=1 from rfl,o5];cases hp:bI c with
 |none=>rfl
 | some x=>
  obtain⟨v,k⟩:=x;have:=(qf J hp).2.2;simp only[Option.map_some]
  by_cases h:k=c.length
  ·subst h;simp
  ·rw[if_neg h]
   cases hd:c.drop k with
   |nil=>have:=List.drop_eq_nil_iff.1 hd;omega
   |cons _ _=>rfl
theorem Ao {r:ah}(W:Byt r.fB)(hl:r.fB.length<140737488355328):cY r=some (match bI r.fB with|some (v,n)=>(v,⟨r.fB.drop n,r.fOk⟩)|none=>(kx,⟨r.fB,false⟩)):=by
 unfold cY
 have step:∀k,1<=k->k<=r.fB.length->k<=66->gC r (k:Int)=match bI (r.fB.take k) with|some (v,n)=>(if n=k then some (.inr (v,⟨r.fB.drop k,r.fOk⟩)) else some (.inl ((k+1:Nat):Int)))|none=>some (.inl ((k+1:Nat):Int)):=by
  intro k J Z h3;have hs:=dV (xs:=r.fB) (lo:=0) (hi:=k) (by omega) Z;rw[show((0:Nat):Int)=0 from rfl] at hs;unfold gC gB;rw[if_pos (by simpa using by omega),if_pos (by simp;omega),hs,qk,aS (by simp;omega),qk,List.drop_zero,List.singleton_append,qU (W.take _),qk,fQ Z,bD (by omega)];have a0:(r.fB.take k).length=k:=by simp;omega
  cases hp:bI (r.fB.take k) with
  |none=>rfl
  |some x=>
   obtain⟨v,n⟩:=x;simp only[a0]
   by_cases e:n=k
   ·rw[if_pos e,if_pos e];rfl
   ·rw[if_neg e,if_neg e];rfl
 cases hp:bI r.fB with
 | some x=>
  obtain⟨v,n⟩:=x;have hn:=qf W hp;refine cj (λi=>((i+1:Nat):Int)) (n - 1) rfl (λi hi=>?_) ?_
  ·rw[step (i+1) (by omega) (by omega) (by omega)]
   cases hq:bI (r.fB.take (i+1)) with
   |none=>rfl
   |some y=>
    obtain⟨v',n'⟩:=y;obtain⟨J,Z⟩:=pF W hq;rw[hp] at J;simp only[Option.some.injEq,Prod.mk.injEq] at J;omega
  ·have e:n - 1+1=n:=by omega
   rw[e,step n (by omega) (by omega) (by omega),th W hp (Qe _)];simp
 | none=>
  refine cj (λi=>((i+1:Nat):Int)) (min r.fB.length 66) rfl (λi hi=>?_) ?_
  ·rw[step (i+1) (by omega) (by omega) (by omega)]
   cases hq:bI (r.fB.take (i+1)) with
   |none=>rfl
   |some y=>
    obtain⟨v',n'⟩:=y;obtain⟨J,Z⟩:=pF W hq;rw[hp] at J;cases J
  ·have e0:gB r ((min r.fB.length 66+1:Nat):Int) false=some (.inr (kx,⟨r.fB,false⟩)):=rfl
   unfold gC;split
   ·have:decide (((min r.fB.length 66+1:Nat):Int)<=66)=false:=by
     rename_i h;simp at h ⊢;omega
    rw[this,e0]
   ·exact e0
def gg (f:Nat->Bool):Nat->Nat
 |0=>0
 |n+1=>2^n*(f n).toNat+gg f n
theorem oC (f:Nat->Bool):∀n,gg f n<2^n
 |0=>by simp[gg]
 |n+1=>by
  have:=oC f n;simp only[gg];cases f n<;>simp[Zh]<;>omega
theorem nj (f:Nat->Bool):∀n k,(gg f n).testBit k=(decide (k<n)&&f k)
 |0,k=>by simp[gg]
 | n +1,k=>by
  simp only[gg];rw[Nat.testBit_two_pow_mul_add _ (oC f n),nj f n k]
  by_cases h:k<n
  ·rw[if_pos h];simp[h];intro _;omega
  ·rw[if_neg h]
   by_cases h':k=n
   ·subst h';simp;cases f k<;>rfl
   ·have: ¬ k<n+1:=by omega
    simp[this];have:k - n≠0:=by omega
    cases f n
    ·simp
    ·simp only[Bool.toNat_true]
     obtain⟨j,J⟩:∃j,k - n=j+1:=⟨k - n - 1,by omega⟩
     rw[J,Nat.testBit_succ];simp
theorem lV {f g:Nat->Bool}{n:Nat}(h:∀k,k<n->f k=g k):gg f n=gg g n:=by
 apply Z5;intro k;rw[nj,nj]
 by_cases hk:k<n
 ·rw[h k hk]
 ·simp[hk]
theorem Eg {x n:Nat}(h:x<2^n):gg (λk=>x.testBit k) n=x:=by
 apply Z5;intro k;rw[nj]
 by_cases hk:k<n
 ·simp[hk]
 ·have:=Nat.testBit_lt_two_pow (Z0 h (Qm (by decide) (Nat.le_of_not_lt hk)))
  simp[this]
def pG (l:List Int)(w p:Nat):Bool:=decide (p<l.length*w)&&(l.getD (p/w) 0).toNat.testBit (p%w)
def iO (l:List Int)(w q:Nat):List Int:=(Z4 ((l.length*w+7)/8)).map λj=>((gg (λk=>decide (8*j+k<q)&&pG l w (8*j+k)) 8:Nat):Int)
def eu (l:List Int)(w:Nat):List Int:=iO l w (l.length*w)
theorem jo (l:List Int)(w q:Nat):(iO l w q).length=(l.length*w+7)/8:=by simp[iO]
theorem nA (l:List Int)(w q j:Nat)(h:j<(iO l w q).length):(iO l w q)[j]=((gg (λk=>decide (8*j+k<q)&&pG l w (8*j+k)) 8:Nat):Int):=by simp[iO]
theorem ww (l:List Int)(w:Nat):Byt (eu l w):=λc h=>by
 simp only[eu,iO,Za] at h;obtain⟨j,_,rfl⟩:=h;have:=oC (λk=>decide (8*j+k<l.length*w)&&pG l w (8*j+k)) 8;omega
theorem Eh (l:List Int)(w q:Nat)(hq:q<l.length*w)(Z:pG l w q=true):
  ∃x:Nat,x<256/\(iO l w q)[q/8]? =some (x:Int)/\(iO l w q).set (q/8) (((x|||2^(q%8):Nat)):Int)=iO l w (q+1):=by
 have W:q/8<(iO l w q).length:=by rw[jo];omega
 refine⟨_,oC _ 8,by rw[Q2 W,nA],?_⟩;apply Z2
 ·simp[jo]
 intro j h1 h2;rw[List.getElem_set,nA];split
 ·rename_i e
  subst e;rw[nA];congr 1;apply Z5;intro k;rw[Nat.testBit_or,nj,nj,Nat.testBit_two_pow]
  by_cases h:k<8
  ·by_cases e:q%8=k
   ·have:8*(q/8)+k=q:=by omega
    simp[h,e,this,Z]
   ·have J:(8*(q/8)+k<q+1)=(8*(q/8)+k<q):=by apply propext;omega
    simp[e,J]
  ·have:q%8≠k:=by omega
   simp[h,this]
 ·rename_i e
  rw[nA];congr 1;apply lV;intro k h;have J:(8*j+k<q+1)=(8*j+k<q):=by apply propext;omega
  simp[J]
theorem CR (l:List Int)(w q:Nat)(J:pG l w q=false):iO l w q=iO l w (q+1):=by
 unfold iO;apply List.map_congr_left;intro j _;congr 1;apply lV;intro k W
 by_cases e:8*j+k=q
 ·rw[e,J];simp
 ·have h:(8*j+k<q+1)=(8*j+k<q):=by apply propext;omega
  simp[h]
theorem CT (l:List Int)(w:Nat):iO l w 0=Q5 ((l.length*w+7)/8) 0:=by
 apply Z2
 ·simp[jo]
 intro j h J;rw[nA];have:gg (λk=>decide (8*j+k<0)&&pG l w (8*j+k)) 8=gg (λ_=>false) 8:=lV λk _=>by simp
 rw[this];simp[gg]
def d3 (b:List Int)(p:Nat):Bool:=(b.getD (p/8) 0).toNat.testBit (p%8)
def unp (b:List Int)(w i:Nat):Nat:=gg (λk=>d3 b (i*w+k)) w
theorem xv (l:List Int)(w p:Nat)(r:List Int)(W:p<l.length*w):d3 (eu l w++r) p=pG l w p:=by
 have h:p/8<(eu l w).length:=by unfold eu;rw[jo];omega
 unfold d3;rw[Q6,Qh h,Q2 h];simp only[Qv];have e:(eu l w)[p/8]=_:=nA l w (l.length*w) (p/8) h;rw[e];simp only[Zc];rw[nj];have J:8*(p/8)+p%8=p:=by omega
 have Z:p%8<8:=by omega
 simp[J,Z,W]
theorem Aq (l:List Int)(w i k:Nat)(hi:i<l.length)(h:k<w):i*w+k<l.length*w/\pG l w (i*w+k)=(l[i]).toNat.testBit k:=by
 have J:i*w+k<l.length*w:=by
  have:(i+1)*w<=l.length*w:=Z6 _ hi;rw[Zj] at this;omega
 refine⟨J,?_⟩;unfold pG
 have W:(i*w+k)/w=i:=by
  rw[Zq,Nat.mul_add_div (by omega),Nat.div_eq_of_lt h];rfl
 have Z:(i*w+k)%w=k:=by
  rw[Zq,Nat.mul_add_mod,Nat.mod_eq_of_lt h]
 rw[W,Z,Q6,Q2 hi];simp[J]
theorem CU (l:List Int)(w i:Nat)(r:List Int)(hi:i<l.length)(Z:0<=l[i]/\l[i]<2^w):(unp (eu l w++r) w i:Int)=l[i]:=by
 have W:unp (eu l w++r) w i=gg (λk=>(l[i]).toNat.testBit k) w:=lV λk h=>by
  obtain⟨J,h3⟩:=Aq l w i k hi h;rw[xv _ _ _ _ J,h3]
 rw[W,Eg]
 ·omega
 ·have:((l[i].toNat:Nat):Int)<((2^w:Nat):Int):=by
   rw[Qi];have:((l[i].toNat:Nat):Int)=l[i]:=by omega
   rw[this];exact Z.2
  exact Int.ofNat_lt.1 this
theorem rS (n:Nat):chk (decide (0<=(n:Int)))=some ():=qd (decide_eq_true (Int.natCast_nonneg n))
theorem or8 {a b:Nat}(h:a<256)(Z:b<256):bOr .u8 (a:Int) (b:Int)=((a|||b:Nat):Int):=by
 unfold bOr;rw[bV]
 have J:(Qd Qn.bits (a:Int)).toNat=a:=by
  show(Qd 8 (a:Int)).toNat=a;rw[Qf];omega
 have W:(Qd Qn.bits (b:Int)).toNat=b:=by
  show(Qd 8 (b:Int)).toNat=b;rw[Qf];omega
 rw[BitVec.toNat_or,J,W];have:a|||b<2^8:=Nat.or_lt_two_pow (by simpa using h) (by simpa using Z)
 omega
theorem Jr {a b:Nat}(W:a<256)(Z:b<256):d4 .u8 (a:Int) (b:Int)=((a&&&b:Nat):Int):=by
 unfold d4;rw[bV]
 have h:(Qd Qn.bits (a:Int)).toNat=a:=by
  show(Qd 8 (a:Int)).toNat=a;rw[Qf];omega
 have J:(Qd Qn.bits (b:Int)).toNat=b:=by
  show(Qd 8 (b:Int)).toNat=b;rw[Qf];omega
 rw[BitVec.toNat_and,h,J];have:a&&&b<=a:=Nat.and_le_left;omega
theorem BV (x:Nat)(k:Nat):x/2^k&&&1=(x.testBit k).toNat:=by
 rw[Nat.and_one_is_mod,Nat.testBit_eq_decide_div_mod_eq];have:x/2^k%2=0\/x/2^k%2=1:=by omega
 rcases this with h|h<;>simp[h]
theorem Js {x:Int}{k:Nat}(h:0<=x/\x<18446744073709551616)(W:k<=64):d4 .u64 (aO .u64 x (k:Int)) 1=(x.toNat.testBit k).toNat:=by
 obtain⟨n,rfl⟩:=Qj h.1;rw[pE W];have J:((n:Int)/2^k)=((n/2^k:Nat):Int):=by simp[Qi]
 have Z:n/2^k<=n:=Nat.div_le_self _ _;rw[J,show(1:Int)=((1:Nat):Int) from rfl,Hi (by omega) (by omega),BV];simp
theorem H7 {x:Int}{k:Nat}(h:0<=x/\x<256)(W:k<=8):d4 .u8 (aO .u8 x (k:Int)) 1=(x.toNat.testBit k).toNat:=by
 obtain⟨n,rfl⟩:=Qj h.1;rw[OK W];have J:((n:Int)/2^k)=((n/2^k:Nat):Int):=by simp[Qi]
 have Z:n/2^k<=n:=Nat.div_le_self _ _;rw[J,show(1:Int)=((1:Nat):Int) from rfl,Jr (by omega) (by omega),BV];simp
theorem Gq {i w k:Nat}(hi:i<1048576)(h:w<=64)(J:k<=64):kz.wrap ((kz.wrap ((i:Int)*(w:Int)))+(k:Int))=((i*w+k:Nat):Int):=by
 have:i*w<=1048576*64:=Qx (by omega) h;have e:(i:Int)*(w:Int)=((i*w:Nat):Int):=by simp
 rw[e,ak (n:=((i*w:Nat):Int)) (by omega),ak (by omega)];omega
theorem CW (n:Nat):((n:Int)).tdiv 8=((n/8:Nat):Int):=by
 rw[Int.tdiv_eq_ediv_of_nonneg (by omega)];rfl
theorem Hj (n:Nat):((n:Int)).tmod 8=((n%8:Nat):Int):=by
 rw[Int.tmod_eq_emod_of_nonneg (by omega)];rfl
theorem Hk {i w:Nat}(hi:i<1048576)(h:w<=64):kz.wrap ((kz.wrap ((kz.wrap ((i:Int)*(w:Int)))+7)).tdiv 8)=(((i*w+7)/8:Nat):Int):=by
 have:i*w<=1048576*64:=Qx (by omega) h;have e:=Gq (i:=i) (w:=w) (k:=7) hi h (by omega);rw[show((7:Nat):Int)=7 from rfl] at e;rw[e,CW,ak (by omega)]
def U64 (l:List Int):Prop:= ∀x∈l,0<=x/\x<18446744073709551616
theorem sM {O:Type}{N n:Nat}{z:O}(h:n<=N):mk N (n:Int) z=some (Q5 n z):=by
 unfold mk;rw[if_pos (by omega)];simp
theorem nP {O:Type}{xs:List O}{i:Nat}(h:i<xs.length):ix xs (i:Int)=some i:=by
 unfold ix;rw[if_pos (by omega)];simp
theorem yj {l:List Int}{w:Nat}(hu:U64 l)(hl:l.length<1048576)(J:w<=64):i6 l (w:Int)=some (eu l w):=by
 have a3:l.length*w<=1048576*64:=Qx (by omega) J;unfold i6;rw[Hk hl J,sM (by omega),qk];refine cj (λi=>((i:Int),iO l w (i*w))) l.length (by simp[CT]) (λi hi=>?_) ?_
 ·dsimp only
  unfold ni;rw[if_pos (by simpa using hi),aH hi,qk];have hx:=hu l[i] (Q7 hi);refine cj (λk=>((k:Int),iO l w (i*w+k))) w rfl (λk Z=>?_) ?_
  ·dsimp only
   unfold nh ng;obtain⟨h1,h⟩:=Aq l w i k hi Z;rw[if_pos (by simpa using Z),qd (by simp),qk,Js hx (by omega),Gq (by omega) J (by omega),CW,Hj,ak (by omega),bD (by omega)];cases hb:l[i].toNat.testBit k with
   |false=>
    rw[hb] at h;rw[if_neg (by decide),CR l w _ h];rfl
   | true=>
    rw[hb] at h;obtain⟨x,a1,W,a2⟩:=Eh l w _ h1 h;have a0:(i*w+k)/8<(iO l w (i*w+k)).length:=by rw[jo];omega
    rw[if_pos (by decide),nP a0,qk,W,qk,rS,qk,qk,W,qk]
    have h8:eK .u8 1 (((i*w+k)%8:Nat):Int)=((2^((i*w+k)%8):Nat):Int):=by
     unfold eK;rw[bV];have hm:min (((i*w+k)%8:Nat):Int).toNat Qn.bits=(i*w+k)%8:=by simp[IntKind.bits];omega
     rw[hm];have:(2:Nat)^((i*w+k)%8)<=2^7:=Qm (by decide) (by omega);rw[Qi];have e:((2:Int)^((i*w+k)%8))=(((2:Nat)^((i*w+k)%8):Nat):Int):=by simp[Qi]
     rw[show((2:Nat):Int)=2 from rfl,e];generalize (2:Nat)^((i*w+k)%8)=m at*;omega
    have:(2:Nat)^((i*w+k)%8)<=2^7:=Qm (by decide) (by omega);rw[h8,or8 a1 (by omega),a2];rfl
  ·dsimp only
   unfold nh pY;rw[if_neg (by simp),bD (by omega)];simp[Zj]
 ·unfold ni pX
  rw[if_neg (by simp)];rfl
theorem xw {r:ah}{n:Nat}(J:n<=281474976710656):cp r (n:Int)=some (if r.fB.length<n then (Q5 n 0,⟨[],false⟩) else (r.fB.take n,⟨r.fB.drop n,r.fOk⟩)):=by
 unfold cp
 by_cases h:r.fB.length<n
 ·rw[if_pos (by simpa using h),if_pos h,sM J];rfl
 ·rw[if_neg (by simpa using h),if_neg h,sM J,qk,dV (by omega) (Qe _)]
  simp only[qk,Q9];unfold cpy;simp;omega
theorem H8 (f:Nat->Bool)(k:Nat):gg f k|||2^k*(f k).toNat=gg f (k+1):=by
 rw[Nat.or_comm,←Z7 (oC f k)];rfl
theorem Jt {b:Bool}{k:Nat}(h:k<64):eK .u64 ((b.toNat:Nat):Int) (k:Int)=((2^k*b.toNat:Nat):Int):=by
 rw[wv (by omega)];have J:(2:Nat)^k<2^64:=Nat.pow_lt_pow_right (by decide) h;have e:((2:Int)^k)=(((2:Nat)^k:Nat):Int):=by simp[Qi]
 rw[e];cases b
 ·simp
 ·simp only[Bool.toNat_true,Nat.mul_one]
  have:(2:Nat)^64=18446744073709551616:=by decide
  generalize (2:Nat)^k=m at*;omega
def qg (r:ah)(many w:Nat):List Int×ah:=
 if 64<w then (Q5 many 0,⟨r.fB,false⟩) else
 if r.fB.length<(many*w+7)/8 then (Q5 many 0,⟨[],false⟩) else
 ((Z4 many).map λi=>((unp r.fB w i:Nat):Int),⟨r.fB.drop ((many*w+7)/8),r.fOk⟩)
theorem Ei {l:List Int}{n i:Nat}(h:i<n):(l.take n).getD i 0=l.getD i 0:=by
 rw[Q6,Q6,List.getElem?_take,if_pos h]
theorem Gr (b:List Int)(w i n:Nat)(h:(i+1)*w<=8*n):unp (b.take n) w i=unp b w i:=lV λk J=>by
 rw[Zj] at h;unfold d3;rw[Ei (by omega)]
theorem Gs (n w i:Nat):unp (Q5 n 0) w i=0:=by
 have:unp (Q5 n 0) w i=gg (λ_=>false) w:=lV λk h=>by
  unfold d3;rw[Q6,List.getElem?_replicate];split<;>simp
 rw[this];have:∀w,gg (λ_=>false) w=0:=by intro w;induction w with|zero=>rfl|succ w ih=>simp[gg,ih]
 exact this w
theorem uT {r:ah}{many w:Nat}(hb:Byt r.fB)(hm:many<1048576):eO r (many:Int) (w:Int)=some (qg r many w):=by
 unfold eO qg
 by_cases hw:64<w
 ·rw[if_pos (by simpa using by omega),if_pos hw,sM (by omega)];rfl
 rw[if_neg (by simpa using by omega),if_neg hw];have Z:w<=64:=by omega
 have a6:many*w<=1048576*64:=Qx (by omega) Z;rw[Hk hm Z,xw (by omega),qk,sM (by omega),qk]
 have key:∀(b:List Int) (r':ah),Byt b->b.length=(many*w+7)/8->
   au (λs:(Int×List Int)=>fp (w:Int) (b,r') (Q5 many 0) s.1 s.2) (0,Q5 many 0)=some ((Z4 many).map λi=>((unp b w i:Nat):Int),r'):=by
  intro b r' hb h;refine cj (λi=>((i:Int),(Z4 i).map (λi=>((unp b w i:Nat):Int))++Q5 (many - i) 0)) many (by simp) (λi hi=>?_) ?_
  ·dsimp only
   unfold fp;rw[if_pos (by simpa using hi)];have a5:(i+1)*w<=many*w:=Z6 _ hi;rw[Zj] at a5
   have a2:∀k,k<=64->gg (λk=>d3 b (i*w+k)) k<18446744073709551616:=λk W=>by
    have:=oC (λk=>d3 b (i*w+k)) k;have h2:(2:Nat)^k<=2^64:=Qm (by decide) W;have:(2:Nat)^64=18446744073709551616:=by decide
    omega
   refine cj (λk=>((k:Int),(Z4 i).map (λi=>((unp b w i:Nat):Int))++((gg (λk=>d3 b (i*w+k)) k:Nat):Int)::Q5 (many - i - 1) 0)) w ?_ (λk W=>?_) ?_
   ·have:many - i=(many - i - 1)+1:=by omega
    rw[this,List.replicate_succ];simp[gg]
   ·dsimp only
    unfold ik;have a0:(i*w+k)/8<b.length:=by omega
    have a3:i<((Z4 i).map (λi=>((unp b w i:Nat):Int))++((gg (λk=>d3 b (i*w+k)) k:Nat):Int)::Q5 (many - i - 1) 0).length:=by simp
    have a1:((Z4 i).map (λi=>((unp b w i:Nat):Int))++((gg (λk=>d3 b (i*w+k)) k:Nat):Int)::Q5 (many - i - 1) 0)[i]? =some ((gg (λk=>d3 b (i*w+k)) k:Nat):Int):=by simp
    rw[if_pos (by simpa using W),nP a3,qk,a1,qk,Gq (by omega) Z (by omega),CW,Hj,ak (by omega),aH a0,qk,rS,qk,rS,qk,qk,a1,qk,bD (by omega)];have a4:=hb b[(i*w+k)/8] (Q7 a0);rw[H7 a4 (by omega)]
    have e:b[(i*w+k)/8].toNat.testBit ((i*w+k)%8)=d3 b (i*w+k):=by
     unfold d3;rw[Q6,Q2 a0];rfl
    rw[e,cA];have e2:(((d3 b (i*w+k)).toNat:Nat):Int)%18446744073709551616=(((d3 b (i*w+k)).toNat:Nat):Int):=by cases d3 b (i*w+k)<;>rfl
    have h3:2^k*(d3 b (i*w+k)).toNat<18446744073709551616:=by
     have J:(2:Nat)^k<2^64:=Nat.pow_lt_pow_right (by decide) (by omega);have:(2:Nat)^64=18446744073709551616:=by decide
     cases d3 b (i*w+k)<;>simp<;>omega
    rw[e2,Jt (by omega),Gm (a2 k (by omega)) h3,H8 (λk=>d3 b (i*w+k)) k];congr 3;rw[List.set_append_right _ _ (by simp)];simp
   ·dsimp only
    unfold ik kZ;rw[if_neg (by simp),bD (by omega)];have:many - i - 1=many - (i+1):=by omega
    rw[this];simp[List.range_succ,unp]
  ·dsimp only
   unfold fp kY;rw[if_neg (by simp)];simp
 by_cases h:r.fB.length<(many*w+7)/8
 ·rw[if_pos h,if_pos h,key _ _ (λc hc=>by rw[List.eq_of_mem_replicate hc];decide) (by simp)]
  congr 2;apply Z2
  ·simp
  ·intro j J h2;simp[Gs]
 ·rw[if_neg h,if_neg h,key _ _ (hb.take _) (by simp;omega)]
  congr 2;apply Z2
  ·simp
  ·intro j J h2
   simp only[List.getElem_map,List.getElem_range];rw[Gr];simp at J;have:(j+1)*w<=many*w:=Z6 _ J;omega
def wid (n:Nat):Nat:=if n=0 then 0 else n.log2+1
theorem Ej (n:Nat):n<2^wid n:=by
 unfold wid;split
 ·omega
 ·exact Nat.lt_log2_self
theorem Gt {n:Nat}(h:n≠0):wid n=wid (n/2)+1:=by
 unfold wid;rw[if_neg h]
 by_cases h1:n/2=0
 ·have:n=1:=by omega
  subst this;rfl
 ·rw[if_neg h1,Nat.log2_def,if_pos (by omega)]
theorem ua {n k:Nat}(h:2^k<=n):wid n=wid (n/2^k)+k:=by
 induction k generalizing n with
 |zero=>simp
 |succ k ih=>
  rw[Zh] at h;have:0<2^k:=Nat.pow_pos (by decide);rw[Gt (n:=n) (by omega),ih (n:=n/2) (by omega),Zh,Zq (2^k) 2,←Nat.div_div_eq_div_mul];omega
theorem rT {n w:Nat}(h:n<2^w):wid n<=w:=by
 unfold wid;split
 ·omega
 ·rename_i J
  have:=Nat.log2_lt J |>.2 h
  omega
def Gu:List Int:=[0,1,2,2,3,3,3,3,4,4,4,4,4,4,4,4,5,5,5,5,5,5,5,5,5,5,5,5,5,5,5,5,6,6,6,6,6,6,6,6,6,6,6,6,6,6,6,6,6,6,6,6,6,6,6,6,6,6,6,6,6,6,6,6,7,7,7,7,7,7,7,7,7,7,7,7,7,7,7,7,7,7,7,7,7,7,7,7,7,7,7,7,7,7,7,7,7,7,7,7,7,7,7,7,7,7,7,7,7,7,7,7,7,7,7,7,7,7,7,7,7,7,7,7,7,7,7,7,8,8,8,8,8,8,8,8,8,8,8,8,8,8,8,8,8,8,8,8,8,8,8,8,8,8,8,8,8,8,8,8,8,8,8,8,8,8,8,8,8,8,8,8,8,8,8,8,8,8,8,8,8,8,8,8,8,8,8,8,8,8,8,8,8,8,8,8,8,8,8,8,8,8,8,8,8,8,8,8,8,8,8,8,8,8,8,8,8,8,8,8,8,8,8,8,8,8,8,8,8,8,8,8,8,8,8,8,8,8,8,8,8,8,8,8,8,8,8,8,8,8,8,8,8,8,8,8]
theorem H9:∀n:_root_.Fin 256,idx Gu ((n.val:Nat):Int)=some ((wid n.val:Nat):Int):=by decide+kernel
set_option maxRecDepth 100000 in
theorem Ar (x y:Int):mT x y=(idx Gu (Qn.wrap x)).bind λr=>some (kz.wrap (y+kz.wrap r)):=rfl
theorem Au {n k:Nat}(h:n<256)(Z:k<=56):mT (n:Int) (k:Int)=some ((wid n+k:Nat):Int):=by
 have J:idx Gu (n:Int)=some ((wid n:Nat):Int):=H9 ⟨n,h⟩;have W:wid n<=8:=rT (by simpa using h);rw[Ar,bV,show((n:Int)%256)=(n:Int) by omega,J,qk,ak (n:=((wid n:Nat):Int)) (by omega),ak (by omega)];congr 1;omega
theorem Av {n k:Nat}(h:n<65536)(J:k<=48):mU (n:Int) (k:Int)=some ((wid n+k:Nat):Int):=by
 unfold mU
 by_cases h1:256<=n
 ·rw[if_pos (by simpa using by omega)]
  have e:aO .u64 (n:Int) 8=((n/2^8:Nat):Int):=by have:=pE (x:=(n:Int)) (k:=8) (by omega);simpa using this
  have e2:kz.wrap ((k:Int)+8)=((k+8:Nat):Int):=by rw[ak (by omega)];rfl
  rw[e,e2,Au (by omega) (by omega),ua (n:=n) (k:=8) (by omega)];congr 2;omega
 ·rw[if_neg (by simpa using by omega),Au (by omega) (by omega)]
theorem Aw {n k:Nat}(h:n<4294967296)(J:k<=32):mV (n:Int) (k:Int)=some ((wid n+k:Nat):Int):=by
 unfold mV
 by_cases h1:65536<=n
 ·rw[if_pos (by simpa using by omega)]
  have e:aO .u64 (n:Int) 16=((n/2^16:Nat):Int):=by have:=pE (x:=(n:Int)) (k:=16) (by omega);simpa using this
  have e2:kz.wrap ((k:Int)+16)=((k+16:Nat):Int):=by rw[ak (by omega)];rfl
  rw[e,e2,Av (by omega) (by omega),ua (n:=n) (k:=16) (by omega)];congr 2;omega
 ·rw[if_neg (by simpa using by omega),Av (by omega) (by omega)]
theorem Az {n:Nat}(h:n<18446744073709551616):nK (n:Int)=some ((wid n:Nat):Int):=by
 unfold nK
 by_cases h1:4294967296<=n
 ·rw[if_pos (by simpa using by omega)]
  have e:aO .u64 (n:Int) 32=((n/2^32:Nat):Int):=by have:=pE (x:=(n:Int)) (k:=32) (by omega);simpa using this
  rw[e,show(32:Int)=((32:Nat):Int) from rfl,Aw (by omega) (by omega),ua (n:=n) (k:=32) (by omega)]
 ·rw[if_neg (by simpa using by omega),show(0:Int)=((0:Nat):Int) from rfl,Aw (by omega) (by omega)]
  rfl
theorem len_eq {n:Nat}(h:n<18446744073709551616):ox (n:Int)=some ((wid n:Nat):Int):=by
 unfold ox;rw[Az h];rfl
theorem BW:∀s:List Int,ltB s s=false
 |[]=>rfl
 |a::x=>by simp[ltB,BW x]
theorem yk:∀{s u v:List Int},ltB s u=true->ltB u v=true->ltB s v=true
 |_,[],_,h,_=>by simp[ltB] at h
 |_,_::_,[],_,h=>by simp[ltB] at h
 |[],_::_,_::_,_,_=>rfl
 | a::x,b::y,c::z,h,k=>by
  simp only[ltB,Bool.or_eq_true,decide_eq_true_eq,Q8,beq_iff_eq] at*;rcases h with h|⟨rfl,h⟩
  ·rcases k with k|⟨rfl,k⟩
   ·left;omega
   ·left;exact h
  ·rcases k with k|⟨rfl,k⟩
   ·left;exact k
   ·right;exact⟨rfl,yk h k⟩
theorem BX:∀{s u:List Int},ltB s u=false->ltB u s=false->s=u
 |[],[],_,_=>rfl
 |[],_::_,h,_=>by simp[ltB] at h
 |_::_,[],_,h=>by simp[ltB] at h
 |a::x,b::y,h,k=>by
  simp only[ltB,Bool.or_eq_false_iff,decide_eq_false_iff_not] at h k;have e:a=b:=by omega
  subst e;simp only[beq_self_eq_true,Bool.true_and] at h k;rw[BX h.2 k.2]
def ltV (a b:Ap):Bool:=
 if a.fKind != b.fKind then decide (a.fKind<b.fKind) else if a.fKind==1 then !a.fBool&&b.fBool else if a.fKind==2 then decide (a.fInt<b.fInt) else
 if a.fKind==3 then ltB a.fText b.fText else false
theorem pO (a:Ap):ltV a a=false:=by
 unfold ltV
 repeat' split
 all_goals simp_all[BW]
theorem qV {a b c:Ap}(h:ltV a b=true)(k:ltV b c=true):ltV a c=true:=by
 obtain⟨ka,ba,na,ta⟩:=a;obtain⟨kb,bb,nb,tb⟩:=b;obtain⟨kc,bc,nc,tc⟩:=c;simp only[ltV] at*
 by_cases e1:ka=kb
 ·subst e1
  by_cases e2:ka=kc
  ·subst e2
   by_cases e1:ka=1
   ·subst e1;cases ba<;>cases bb<;>cases bc<;>simp_all
   by_cases e2:ka=2
   ·subst e2;simp at*;omega
   by_cases e3:ka=3
   ·subst e3;simp at*;exact yk h k
   ·have J:(ka==1)=false:=by simpa using e1
    have W:(ka==2)=false:=by simpa using e2
    have Z:(ka==3)=false:=by simpa using e3
    simp[J,W,Z] at h
  ·have:(ka != kc)=true:=by simpa using e2
   simp only[this,if_true] at*;exact k
 ·have J:(ka != kb)=true:=by simpa using e1
  simp only[J,if_true,decide_eq_true_eq] at h
  by_cases e2:kb=kc
  ·subst e2;simp only[J,if_true,decide_eq_true_eq];exact h
  ·have W:(kb != kc)=true:=by simpa using e2
   simp only[W,if_true,decide_eq_true_eq] at k;have Z:(ka != kc)=true:=by simp;omega
   simp only[Z,if_true,decide_eq_true_eq];omega
theorem rU {a b:Ap}(J:Rgt a)(W:Rgt b)(h:ltV a b=false)(k:ltV b a=false):a=b:=by
 cases J<;>cases W<;>simp[ltV] at h k
 ·rfl
 ·rename_i x y;cases x<;>cases y<;>simp_all
 ·have:∀x y:Int,x=y->io x=io y:=λx y h=>by rw[h]
  apply this;omega
 ·rw[BX h k]
def vu (a b:Ap):Int:=if ltV a b then -1 else if ltV b a then 1 else 0
theorem ej (a b:Ap):bZ a b=some (vu a b):=by
 unfold bZ eV gW hZ kE jf kX dY vu rf;simp only[bne_self_eq_false,qk,Qc,if_false];obtain⟨ka,W,na,ta⟩:=a;obtain⟨kb,bb,nb,tb⟩:=b;simp only[ltV]
 by_cases e:ka=kb
 ·subst e
  simp only[bne_self_eq_false,Qc,if_false]
  by_cases e1:ka=1
  ·subst e1;cases W<;>cases bb<;>simp
  ·have J:(ka==1)=false:=by simpa using e1
   simp only[J,Qc,if_false]
   by_cases e2:ka=2
   ·subst e2;simp
    repeat' split
    all_goals rfl
   ·have h:(ka==2)=false:=by simpa using e2
    simp only[h,Qc,if_false]
    by_cases e3:ka=3
    ·subst e3;simp
    ·have Z:(ka==3)=false:=by simpa using e3
     simp[Z]
 ·have J:(ka != kb)=true:=by simpa using e
  have h:(kb != ka)=true:=by simp;omega
  simp only[J,h,if_true,decide_eq_true_eq]
  repeat' split
  all_goals rfl
theorem AA {a b:Ap}(h:ltV a b=true):ltV b a=false:=by
 cases k:ltV b a with
 |false=>rfl
 |true=>have:=qV h k;rw[pO] at this;cases this
theorem nk (a b:Ap):vu a b<0↔ltV a b=true:=by
 unfold vu
 repeat' split
 all_goals simp_all
theorem Ju {l:List Ap}(h:∀v∈l,Rgt v):FH bZ l:=by
 refine⟨λx _ y _=>⟨_,ej x y,?_⟩,λx _=>?_,λx _ y _ z _ W J=>?_,λx hx y Z z hz W J h3=>?_,λx hx y Z W J=>?_⟩
 ·rw[la];unfold vu
  repeat' split
  all_goals decide
 ·rw[ej];simp only[Qv];rw[nk,pO];decide
 ·rw[ej] at*
  simp only[Qv,nk] at*;exact qV W J
 ·rw[ej] at*
  simp only[Qv,nk,Zf] at*;cases hyx:ltV y x with
  |true=>have:=qV hyx h3;rw[J] at this;cases this
  |false=>have:=rU (h x hx) (h y Z) W hyx;subst this;rw[J] at h3;cases h3
 ·rw[ej] at*
  simp only[Qv,nk,Zf] at*;exact rU (h x hx) (h y Z) W J
abbrev Ris (l:List Ap):Prop:=l.Pairwise λa b=>ltV a b=true
theorem Ris.one:∀{l k:List Ap},Ris l->Ris k->(∀v,v∈l↔v∈k)->l=k
 |[],[],_,_,_=>rfl
 |[],b::k,_,_,h=>by have:=(h b).2 (by simp);cases this
 |a::l,[],_,_,h=>by have:=(h a).1 (by simp);cases this
 | a::l,b::k,hl,hk,h=>by
  have a0:=Qs.1 hl;have a1:=Qs.1 hk
  have e:a=b:=by
   have Z:=(h a).1 (by simp);have W:=(h b).2 (by simp);rcases Qa.1 Z with Z|Z
   ·exact Z
   rcases Qa.1 W with W|W
   ·exact W.symm
   have:=AA (a1.1 a Z);rw[a0.1 b W] at this;cases this
  subst e;congr 1;refine Ris.one a0.2 a1.2 λv=>?_;have hv:=h v;simp only[Qa] at hv;constructor
  ·intro J
   rcases hv.1 (.inr J) with e|e
   ·subst e;have:=a0.1 v J;rw[pO] at this;cases this
   ·exact e
  ·intro J
   rcases hv.2 (.inr J) with e|e
   ·subst e;have:=a1.1 v J;rw[pO] at this;cases this
   ·exact e
theorem Ris.nodup {l:List Ap}(h:Ris l):l.Nodup:=h.imp λ{a b} h e=>by subst e;rw[pO] at h;cases h
def ins (v:Ap):List Ap->List Ap
 |[]=>[v]
 |x::r=>if ltV x v then x::ins v r else if v=x then x::r else v::x::r
theorem xy (v:Ap):∀(l:List Ap) (x:Ap),x∈ins v l↔x=v\/x∈l
 |[],x=>by simp[ins]
 | y::r,x=>by
  simp only[ins];split
  ·simp only[Qa,xy v r x]
   constructor<;>(intro h;rcases h with h|h|h<;>simp[h])
  split
  ·rename_i e;subst e;simp
  ·simp
theorem BY (v:Ap)(hv:Rgt v):∀{l:List Ap},(∀x∈l,Rgt x)->Ris l->Ris (ins v l)
 |[],_,_=>by simp[ins]
 | y::r,hr,h=>by
  have W:=Qs.1 h;simp only[ins];split
  ·rename_i a0
   refine Qs.2 ⟨λx J=>?_,BY v hv (λx J=>hr x (by simp[J])) W.2⟩;rcases(xy v r x).1 J with e|e
   ·subst e;exact a0
   ·exact W.1 x e
  split
  ·exact h
  ·rename_i h1 h2
   have Z:ltV v y=true:=by
    cases h3:ltV v y with
    |true=>rfl
    |false=>exact absurd (rU hv (hr y (by simp)) h3 (by simpa using h1)) h2
   refine Qs.2 ⟨λx J=>?_,h⟩;rcases Qa.1 J with e|e
   ·subst e;exact Z
   ·exact qV Z (W.1 x e)
def aX (l:List Ap):List Ap:=l.foldl (λout v=>ins v out) []
theorem CX (l:List Ap)(v:Ap):aX (l++[v])=ins v (aX l):=by simp[aX]
theorem CY {l:List Ap}{i:Nat}(h:i<l.length):aX (l.take (i+1))=ins l[i] (aX (l.take i)):=by
 rw[Q0 h,CX]
theorem gJ {l:List Ap}(h:∀v∈l,Rgt v):Ris (aX l)/\(∀v,v∈aX l↔v∈l)/\(aX l).length<=l.length:=by
 have key:∀i,i<=l.length->Ris (aX (l.take i))/\(∀v,v∈aX (l.take i)↔v∈l.take i)/\(aX (l.take i)).length<=i:=by
  intro i
  induction i with
  |zero=>intro _;simp[aX]
  | succ i ih=>
   intro hi;obtain⟨h1,W,h3⟩:=ih (by omega);have J:i<l.length:=by omega
   rw[CY J];have Z:∀x∈aX (l.take i),Rgt x:=λx hx=>h x (Qk ((W x).1 hx));refine⟨BY _ (h _ (Q7 J)) Z h1,λv=>?_,?_⟩
   ·rw[xy,W,Q0 J,Qb,List.mem_singleton]
    exact or_comm
   ·have:∀(v:Ap) (l:List Ap),(ins v l).length<=l.length+1:=by
     intro v l
     induction l with
     |nil=>simp[ins]
     |cons y r ih=>
      simp only[ins]
      repeat' split
      all_goals simp
      omega
    have:=this l[i] (aX (l.take i));omega
 have:=key l.length (Qe _);rwa[Q9] at this
theorem nQ {O β:Type}{f:β->O->β}{b:β}{l:List O}{i:Nat}(h:i<l.length):(l.take (i+1)).foldl f b=f ((l.take i).foldl f b) l[i]:=by
 rw[Q0 h,List.foldl_append];rfl
def dd (s:List Ap):List Ap:=s.foldl (λout v=>if out.getLast?=some v then out else out++[v]) []
theorem xz (s:List Ap)(v:Ap):dd (s++[v])=if (dd s).getLast?=some v then dd s else dd s++[v]:=by
 unfold dd;rw[List.foldl_append];rfl
theorem BZ (s:List Ap){i:Nat}(h:i<s.length):(dd (s.take (i+1))).getLast?=some s[i]:=by
 rw[Q0 h,xz];split
 ·assumption
 ·simp
theorem xA (s:List Ap){i:Nat}(h:i+1<s.length):dd (s.take (i+2))=if s[i+1]=s[i] then dd (s.take (i+1)) else dd (s.take (i+1))++[s[i+1]]:=by
 rw[Q0 h,xz,BZ s (by omega)]
 by_cases e:s[i+1]=s[i]
 ·rw[if_pos e,if_pos (by rw[e])]
 ·rw[if_neg e,if_neg (λh=>e (Option.some.inj h).symm)]
theorem Jv (s:List Ap)(h:0<s.length):dd (s.take 1)=s.take 1:=by
 match s,h with
 |a::r,_=>rfl
theorem Ia {s:List Ap}(Z:∀x∈s,Rgt x)(h:s.Pairwise λx y=>ltV y x=false):Ris (dd s)/\(∀v,v∈dd s↔v∈s):=by
 have key:∀i,i<=s.length->Ris (dd (s.take i))/\(∀v,v∈dd (s.take i)↔v∈s.take i):=by
  intro i
  induction i with
  |zero=>intro _;simp[dd]
  | succ i ih=>
   intro hi;obtain⟨h1,h2⟩:=ih (by omega);have W:i<s.length:=by omega
   rw[Q0 W,xz];split
   ·rename_i e
    refine⟨h1,λv=>?_⟩;rw[h2,Qb,List.mem_singleton];constructor
    ·exact .inl
    ·rintro (hm|rfl)
     ·exact hm
     ·exact(h2 _).1 (Z8 e)
   ·rename_i e
    refine⟨List.pairwise_append.2 ⟨h1,by simp,λa ha b hb=>?_⟩,λv=>by rw[Qb,Qb,h2]⟩;have a0:b=s[i]:=by simpa using hb
    subst a0;have a1:=(h2 a).1 ha
    obtain⟨j,hj,rfl⟩:=List.getElem_of_mem a1;simp only[Z9] at hj;have a2:ltV s[i] s[j]=false:=Qy.1 h j i (by omega) W (by omega);rw[List.getElem_take] at ha ⊢;cases hlt2:ltV s[j] s[i] with
    |true=>rfl
    | false=>
     have e2:=rU (Z _ (Q7 (by omega))) (Z _ (Q7 W)) hlt2 a2;exfalso;apply e;have a3:0<i:=by omega
     obtain⟨J,rfl⟩:∃J,i=J+1:=⟨i - 1,by omega⟩
     rw[BZ s (by omega)]
     congr 1;apply rU (Z _ (Q7 (by omega))) (Z _ (Q7 W))
     ·cases h3:ltV s[J] s[J+1] with
      |false=>rfl
      | true=>
       rw[←e2] at h3
       by_cases e3:j=J
       ·subst e3;rw[pO] at h3;cases h3
       ·have:=Qy.1 h j J (by omega) (by omega) (by omega)
        rw[this] at h3;cases h3
     ·exact Qy.1 h J (J+1) (by omega) W (by omega)
 have:=key s.length (Qe _);rwa[Q9] at this
theorem CZ (s:List Ap)(hs:s.length<1048576):dM s=some (dd s):=by
 unfold dM
 by_cases h2:s.length<2
 ·rw[if_pos (by simpa using by omega)]
  match s,h2 with
  |[],_=>rfl
  |[a],_=>rfl
 rw[if_neg (by simpa using by omega)];refine nz (I:=λs':Int=>∃i:Nat,s'=((i+1:Nat):Int)/\i+1<=s.length/\dd (s.take (i+1))=s.take (i+1)) (μ:=λx=>s.length - x.toNat) ?_ ⟨0,rfl,by omega,Jv s (by omega)⟩;rintro _ ⟨i,rfl,hi,J⟩;unfold fo
 by_cases hlt:i+1<s.length
 ·have e1:kz.wrap (((i+1:Nat):Int) - 1)=(i:Int):=by rw[ak (by omega)];omega
  rw[if_pos (by simpa using by omega),nP hlt,qk,Q2 hlt,qk,e1,nP (by omega),qk,Q2 (by omega),qk]
  by_cases e:s[i+1]=s[i]
  ·right
   rw[if_pos (by simpa using e)]
   have hv:vw s ((i+1:Nat):Int) (s.length:Int)=some (i+1,s.length - (i+1)):=by
    unfold vw;rw[if_pos (by omega)];simp only[Zc]
   rw[hv,qk];refine nz (I:=λt:Int×Int×List Ap=>∃p k2:Nat,p=i+1+k2/\1<=k2/\p<=s.length/\t.1=((dd (s.take p)).length:Int)/\t.2.1=(k2:Int)/\t.2.2.length=s.length/\(dd (s.take p)).length+1<=p/\t.2.2.take (dd (s.take p)).length=dd (s.take p)/\t.2.2.drop (p - 1)=s.drop (p - 1)) (μ:=λt=>s.length - t.2.1.toNat) ?_ ?_
   ·rintro ⟨t1,t2,xs⟩ ⟨p,k2,hp,a6,a9,rfl,rfl,a1,b1,Z,W⟩
    unfold fm;have hm:Zk (s.length - (i+1)) cd=true:=Nat.ble_eq_true_of_le (by unfold cd;omega);dsimp only at*;rw[qd hm,qk]
    by_cases hlt2:p<s.length
    ·left
     have a2:xs[p]? =some s[p]:=by
      have:(xs.drop (p - 1))[1]? =(s.drop (p - 1))[1]? :=by rw[W]
      rw[Qr,Qr] at this;have e:p - 1+1=p:=by omega
      rw[e] at this;rw[this,Q2 hlt2]
     have a5:xs[p - 1]? =some s[p - 1]:=by
      have:(xs.drop (p - 1))[0]? =(s.drop (p - 1))[0]? :=by rw[W]
      rw[Qr,Qr] at this;rw[Qz] at this;rw[this,Q2 (by omega)]
     have e2:ixv (i+1) (s.length - (i+1)) (k2:Int)=some p:=by unfold ixv;rw[if_pos (by omega)];simp;omega
     have e3:ixv (i+1) (s.length - (i+1)) (kz.wrap ((k2:Int) - 1))=some (p - 1):=by
      rw[ak (by omega)];unfold ixv;rw[if_pos (by omega)];simp;omega
     have h:=xA s (i:=p - 1) (by omega);have e4:p - 1+1=p:=by omega
     have e5:p - 1+2=p+1:=by omega
     simp only[e4,e5] at h;rw[if_pos (by simpa using by omega),e2,qk,a2,qk,e3,qk,a5,qk]
     by_cases e6:s[p]=s[p - 1]
     ·rw[if_pos e6] at h
      rw[if_neg (by simpa using e6)];unfold cU;refine⟨_,rfl,⟨p+1,k2+1,by omega,by omega,by omega,by rw[h],?_,a1,by rw[h];omega,by rw[h];exact Z,?_⟩,?_⟩
      ·exact bD (by omega)
      ·have:p+1 - 1=p - 1+1:=by omega
       rw[this,←Zd,←Zd,W]
      ·dsimp only;rw[bD (by omega)];simp;omega
     ·rw[if_neg e6] at h
      rw[if_pos (by simpa using e6)];have a0:(dd (s.take p)).length<xs.length:=by omega
      rw[qk,a2,qk,nP a0,qk,Q2 a0,qk];unfold cU;refine⟨_,rfl,⟨p+1,k2+1,by omega,by omega,by omega,?_,bD (by omega),by simp[a1],by rw[h];simp;omega,?_,?_⟩,?_⟩
      ·rw[h,bD (by omega)];simp
      ·rw[h]
       simp only[Qg,Qt];rw[Q0 (by simp;omega)];rw[List.take_set_of_le (Qe _),Z];simp
      ·rw[List.drop_set_of_lt (by omega)]
       have:p+1 - 1=p - 1+1:=by omega
       rw[this,←Zd,←Zd,W]
      ·dsimp only;rw[bD (by omega)];simp;omega
    ·right
     have a4:p=s.length:=by omega
     subst a4;rw[if_neg (by simpa using by omega)];unfold fk;rw[Q9] at*
     have a3:vw xs ((dd s).length:Int) (xs.length:Int)=some ((dd s).length,xs.length - (dd s).length):=by
      unfold vw;rw[if_pos (by omega)];simp only[Zc]
     rw[a3,qk];unfold clr;rw[if_pos (by dsimp only;omega),qk]
     have b0:(spl xs (dd s).length (Q5 (xs.length - (dd s).length) Ap.zero)).length=xs.length:=by
      unfold spl;simp;omega
     have:=dV (xs:=spl xs (dd s).length (Q5 (xs.length - (dd s).length) Ap.zero)) (lo:=0) (hi:=(dd s).length) (by omega) (by omega);rw[show((0:Nat):Int)=0 from rfl] at this;rw[this]
     have e7:(spl xs (dd s).length (Q5 (xs.length - (dd s).length) Ap.zero)).take (dd s).length=dd s:=by
      unfold spl;rw[List.append_assoc,List.take_left' (by simp;omega)];exact Z
     rw[List.drop_zero,e7];rfl
   ·have h:=xA s (i:=i) (by omega)
    rw[if_pos e,J] at h;refine⟨i+2,1,by omega,by omega,by omega,?_,rfl,rfl,?_,?_,rfl⟩
    ·rw[h];simp;omega
    ·rw[h];simp;omega
    ·rw[h];simp
  ·left
   rw[if_neg (by simpa using e)];unfold fj;refine⟨_,rfl,⟨i+1,bD (by omega),by omega,?_⟩,?_⟩
   ·rw[xA s (i:=i) (by omega),if_neg e,J]
    exact(Q0 hlt).symm
   ·rw[bD (by omega)];simp;omega
 ·right
  have:i+1=s.length:=by omega
  rw[if_neg (by simpa using by omega)];rw[this,Q9] at J;unfold fi;rw[J];rfl
theorem wy {l:List Ap}(h:∀v∈l,Rgt v)(hl:l.length<1048576):∃r,jO l bZ=some r/\dM r=some (aX l):=by
 obtain⟨r,W⟩:∃r,ux bZ l=some r:=by
  unfold ux;rw[if_pos (Ju h)];exact⟨_,rfl⟩
 obtain⟨_,J,hs⟩:=vS W;refine⟨r,W,?_⟩;rw[CZ r (by rw[J.length_eq];exact hl)];congr 1;have Z:∀x∈r,Rgt x:=λx hx=>h x (J.mem_iff.1 hx)
 have a0:r.Pairwise λx y=>ltV y x=false:=hs.imp λ{x y} h=>by
  rw[ej] at h;simp only[Qv,nk,Zf] at h;exact h
 obtain⟨h1,h2⟩:=Ia Z a0;obtain⟨h3,h4,_⟩:=gJ h;exact Ris.one h1 h3 λv=>by rw[h2,h4,J.mem_iff]
theorem Em {O β σ:Type}{f:σ->Option (σ⊕β)}{s:σ}(S:Nat->σ)(xs:List O)(p:O->Bool)(Z W:β)(h0:s=S 0)(step:∀(i:Nat)(h:i<xs.length),p xs[i]=true->f (S i)=some (.inl (S (i+1))))
  (out:∀(i:Nat) (h:i<xs.length),p xs[i]=false->f (S i)=some (.inr Z)) (a0:f (S xs.length)=some (.inr W)):au f s=some (if xs.all p then W else Z):=by
 have key:∀k i:Nat,i+k=xs.length->au f (S i)=some (if (xs.drop i).all p then W else Z):=by
  intro k
  induction k with
  |zero=>
   intro i hi;have:i=xs.length:=by omega
   subst this;rw[aT a0];simp
  |succ k ih=>
   intro i hi;have J:i<xs.length:=by omega
   rw[Qw J,List.all_cons];cases hp:p xs[i] with
   |true=>rw[bK (step i J hp),ih (i+1) (by omega)];simp
   |false=>rw[aT (out i J hp)];simp
 have:=key xs.length 0 (by omega);rw[h0];simpa using this
def C0 (out:List aM)(v:Ap):List aM:=
 match out.getLast? with
 |some r=>if r.fValue=v then out.dropLast++[⟨r.fMany+1,v⟩] else out++[⟨1,v⟩]
 |none=>[⟨1,v⟩]
def cJ (l:List Ap):List aM:=l.foldl C0 []
def gq (l:List aM):List Ap:=l.flatMap λr=>Q5 r.fMany.toNat r.fValue
theorem wz {l:List Ap}{i:Nat}(h:i<l.length):cJ (l.take (i+1))=C0 (cJ (l.take i)) l[i]:=nQ h
theorem tj {O:Type}{l:List O}{a:O}(h:l.getLast?=some a):l=l.dropLast++[a]:=by
 cases l with
 |nil=>cases h
 |cons x r=>
  have J:(x::r).getLast (by simp)=a:=by rw[List.getLast?_eq_some_getLast (by simp)] at h;exact Option.some.inj h
  rw[←J,List.dropLast_concat_getLast]
theorem yl (l:List Ap){i:Nat}(hi:i<=l.length):(∀r∈cJ (l.take i),1<=r.fMany/\r.fMany<=i/\r.fValue∈l)/\(cJ (l.take i)).length<=i/\gq (cJ (l.take i))=l.take i:=by
 induction i with
 |zero=>simp[cJ,gq]
 | succ i ih=>
  obtain⟨h1,h2,h3⟩:=ih (by omega);have a1:i<l.length:=by omega
  rw[wz a1,Q0 a1];generalize hw:cJ (l.take i)=W at*;unfold C0;have Z:=Q7 a1;split
  ·rename_i r J
   split
   ·rename_i e
    have a0:=tj J;have a2:r∈W:=Z8 J;obtain⟨g1,g2,g3⟩:=h1 r a2;refine⟨λx h=>?_,?_,?_⟩
    ·rcases Qb.1 h with h|h
     ·have:=h1 x (by rw[a0];exact List.mem_append_left _ h);exact⟨this.1,by omega,this.2.2⟩
     ·have:x=⟨r.fMany+1,l[i]⟩:=by simpa using h
      subst this;exact⟨by simp;omega,by simp;omega,Z⟩
    ·have:W.length=W.dropLast.length+1:=by rw[a0];simp
     simp;omega
    ·rw[←h3]
     have e1:gq W=gq W.dropLast++Q5 r.fMany.toNat r.fValue:=by
      conv=>lhs;rw[a0]
      simp[gq]
     rw[e1];have e2:(r.fMany+1).toNat=r.fMany.toNat+1:=by omega
     simp[gq,e2,List.replicate_succ',e]
   ·refine⟨λx h=>?_,by simp;omega,?_⟩
    ·rcases Qb.1 h with h|h
     ·have:=h1 x h;exact⟨this.1,by omega,this.2.2⟩
     ·have:x=⟨1,l[i]⟩:=by simpa using h
      subst this;exact⟨by simp,by simp;omega,Z⟩
    ·rw[←h3];simp[gq]
  ·rename_i J
   have:W=[]:=Zb.1 J;subst this;refine⟨λx h=>?_,by simp,?_⟩
   ·have:x=⟨1,l[i]⟩:=by simpa using h
    subst this;exact⟨by simp,by simp;omega,Z⟩
   ·rw[←h3];simp[gq]
theorem Gv {O:Type}(l:List O)(a:O)(n:Nat)(h:l.length=n+1):l.set n a=l.dropLast++[a]:=by
 apply Z2
 ·simp;omega
 intro j J W;rw[List.getElem_set];split
 ·rename_i e;subst e
  rw[List.getElem_append_right (by simp;omega)];simp
 ·simp at J
  rw[List.getElem_append_left (by simp;omega),List.getElem_dropLast]
theorem Ib (l:List Ap)(hl:l.length<=1048576):kN l=some (cJ l):=by
 unfold kN;refine cj (λi=>((i:Int),cJ (l.take i))) l.length (by simp[cJ]) (λi hi=>?_) ?_
 ·dsimp only
  obtain⟨h1,h2,_⟩:=yl l (i:=i) (by omega);rw[wz hi];generalize cJ (l.take i)=W at*;unfold jN;rw[if_pos (by simpa using hi),aH hi,qk]
  have J:en (i:Int) W l[i] (W.length:Int)=some (.inr (.inl ((((i+1:Nat):Int)),W++[⟨1,l[i]⟩]))):=by
   unfold en lF it;rw[if_neg (by simp),aS (by simp;omega),qk,bD (by omega)];rfl
  have a0:∀k,k+1<W.length->en (i:Int) W l[i] (k:Int)=some (.inl ((k+1:Nat):Int)):=by
   intro k hk;unfold en gt;rw[if_pos (by simpa using by omega),if_neg (by rw[ak (by omega)];simp;omega),if_neg (by decide),bD (by omega)]
  unfold C0;cases hg:W.getLast? with
  |none=>
   have:W=[]:=Zb.1 hg;subst this;exact aT J
  | some r=>
   dsimp only;have a1:=tj hg
   obtain⟨n,Z⟩:∃n,W.length=n+1:=⟨W.length - 1,by
    have:W.length=W.dropLast.length+1:=by rw[a1];simp
    omega⟩
   have h:W[n]? =some r:=by
    rw[List.getLast?_eq_getElem?,Z] at hg;exact hg
   have a2:=h1 r (Z8 hg)
   by_cases e:r.fValue=l[i]
   ·rw[if_pos e]
    refine cj (λk=>(k:Int)) n rfl (λk hk=>a0 k (by omega)) ?_;unfold en gt it;rw[if_pos (by simpa using by omega),if_pos (by rw[ak (by omega)];simp;omega),nP (by omega),qk,h,qk,if_pos (by simpa using e),qk,h,qk,qk,h,qk,bD (by omega),Gv _ _ _ Z,ak (by omega),e]
    rfl
   ·rw[if_neg e]
    refine cj (λk=>(k:Int)) W.length rfl (λk hk=>?_) J
    by_cases hk1:k+1<W.length
    ·exact a0 k hk1
    ·have:k=n:=by omega
     subst this;unfold en gt;rw[if_pos (by simpa using by omega),if_pos (by rw[ak (by omega)];simp;omega),nP (by omega),qk,h,qk,if_neg (by simpa using e),bD (by omega)]
 ·dsimp only
  unfold jN lE;rw[if_neg (by simp),Q9];rfl
def uJ (l:List Ap):List Int:=(cJ l).flatMap λr=>r.fMany::bv r.fValue
theorem pP {O:Type}(l:List O)(f:O->List Int)(k:Nat)(h:∀x∈l,(f x).length<=k):(l.flatMap f).length<=k*l.length:=by
 induction l with
 |nil=>simp
 |cons v r ih=>
  have:=h v (by simp);have:=ih λx J=>h x (by simp[J]);rw[List.flatMap_cons,Qg,Ql,Nat.mul_add];omega
theorem o6 {l:List Ap}:(∀r∈cJ l,1<=r.fMany/\r.fMany<=l.length/\r.fValue∈l)/\(cJ l).length<=l.length/\gq (cJ l)=l:=by
 have:=yl l (Qe _);rwa[Q9] at this
theorem xB {l:List Ap}(h:∀v∈l,Rgt v)(hl:l.length<=64):mt l=some (uJ l):=by
 obtain⟨W,h2,_⟩:=o6 (l:=l);unfold mt;rw[Ib l (by omega),qk];refine cj (λi=>(((cJ l).take i).flatMap λr=>r.fMany::bv r.fValue,(i:Int))) (cJ l).length (by simp) (λi hi=>?_) ?_
 ·dsimp only
  have Z:=W _ (Q7 hi);have J:=h _ Z.2.2
  have hb:=pP ((cJ l).take i) (λr=>r.fMany::bv r.fValue) 67 λx hx=>by
   have:=(g7 (h _ (W x (Qk hx)).2.2)).2;simp;omega
  have a0:=(g7 J).2;simp only[Z9] at hb;unfold ov;rw[if_pos (by simpa using hi),aH hi,qk,bV,aS (by simp only[Qt];omega),qk,pj J,qk,aS (by simp only[Qg,Qt];omega),qk,bD (by omega),qR hi];have:(cJ l)[i].fMany%256=(cJ l)[i].fMany:=by omega
  rw[this];simp
 ·dsimp only
  unfold ov rL;rw[if_neg (by simp),Q9];rfl
def zig (d:Int):Nat:=if d<0 then (-2*d - 1).toNat else (2*d).toNat
def gj (z:Nat):List Int:=if h:z<128 then [(z:Int)] else ((z%128+128:Nat):Int)::gj (z/128)
termination_by z
theorem qh {z:Nat}(h:z<128):gj z=[(z:Int)]:=by rw[gj,dif_pos h]
theorem sN {z:Nat}(h: ¬ z<128):gj z=((z%128+128:Nat):Int)::gj (z/128):=by rw[gj,dif_neg h]
theorem ym:∀(k z:Nat),z<128^(k+1)->(gj z).length<=k+1
 |0,z,h=>by rw[qh (by simpa using h)];simp
 | k+1,z,h=>by
  by_cases hz:z<128
  ·rw[qh hz];simp
  ·rw[sN hz]
   have:z/128<128^(k+1):=by rw[Nat.div_lt_iff_lt_mul (by decide)];rw[Zh] at h;exact h
   have:=ym k _ this;simp;omega
theorem oP {z:Nat}(h:z<18446744073709551616):(gj z).length<=10:=ym 9 z (Z0 h (by decide))
theorem En (z:Nat):Byt (gj z):=by
 induction z using Ze with
 |_ z ih=>
  by_cases hz:z<128
  ·rw[qh hz];exact .cons (by omega) .nil
  ·rw[sN hz];exact .cons (by omega) (ih _ (by omega))
theorem qi {d:Int}(h:cL d):zig d<18446744073709551616:=by
 unfold zig cL at*;split<;>omega
def mX (l:List Int)(i:Nat):List Int:=gj (zig (kz.wrap (l.getD (i+1) 0 - l.getD i 0)))
def o7 (l:List Int):List Int:=be8 (l.getD 0 0%18446744073709551616)++(Z4 (l.length - 1)).flatMap (mX l)
theorem MZ:∀n:_root_.Fin 256,n.val|||128=n.val%128+128:=by decide+kernel
theorem Bq (x:Nat):∀(z:Nat) (J:List Int),z<18446744073709551616->J.length+(gj z).length<=140737488355328->x<1000->
  au (λs:(List Int×Int)=>je (x:Int) s.1 s.2) (J,(z:Int))=some (.inl (J++gj z,((x+1:Nat):Int))):=by
 intro z
 induction z using Ze with
 | _ z ih=>
  intro J hz W hx
  by_cases h:z<128
  ·rw[qh h] at W ⊢
   apply aT;dsimp only;unfold je qH qE;rw[if_neg (by simp;omega),bV,aS (by simpa using W),qk,bD (by omega)];have:(z:Int)%256=z:=by omega
   rw[this];rfl
  ·rw[sN h] at W ⊢
   simp only[Ql] at W
   have e:je (x:Int) J (z:Int)=some (.inl (J++[((z%128+128:Nat):Int)],((z/128:Nat):Int))):=by
    unfold je
    have h1:bOr .u8 ((z:Int)%256) 128=((z%128+128:Nat):Int):=by
     have Z:=MZ ⟨z%256,by omega⟩;simp only at Z;rw[show((z:Int)%256)=((z%256:Nat):Int) by omega,show(128:Int)=((128:Nat):Int) from rfl,or8 (by omega) (by omega),Z];congr 1;omega
    have h3:aO .u64 (z:Int) 7=((z/128:Nat):Int):=by have:=pE (x:=(z:Int)) (k:=7) (by omega);simpa using this
    rw[if_pos (by simp;omega),bV,h1,h3,aS (by simp;omega),qk]
   rw[bK (by dsimp only;exact e),ih (z/128) (by omega) _ (by omega) (by simp;omega) hx];simp
theorem Gw {a:Nat}(W:a<18446744073709551616):ft .u64 (a:Int) 18446744073709551615=18446744073709551615 - (a:Int):=by
 unfold ft;rw[cA];show(((Qd 64 (a:Int)^^^Qd 64 18446744073709551615).toNat:Nat):Int)%18446744073709551616=_;have h:(Qd 64 (a:Int)).toNat=a:=by rw[Qf];omega
 have J:Qd 64 18446744073709551615=BitVec.allOnes 64:=by decide
 rw[J,BitVec.xor_allOnes,BitVec.toNat_not,h];have:(2:Nat)^64=18446744073709551616:=by decide
 omega
theorem xor_zero {a:Nat}(W:a<18446744073709551616):ft .u64 (a:Int) 0=(a:Int):=by
 unfold ft;rw[cA];show(((Qd 64 (a:Int)^^^Qd 64 0).toNat:Nat):Int)%18446744073709551616=_;have h:(Qd 64 (a:Int)).toNat=a:=by rw[Qf];omega
 have J:Qd 64 0=0#64:=by decide
 rw[J,BitVec.xor_zero,h];omega
theorem Jw {d:Int}(h:cL d):ft .u64 (eK .u64 (Q3.wrap d) 1) (Q3.wrap (aO .i64 d 63))=(zig d:Int):=by
 have J:aO .i64 d 63=if d<0 then -1 else 0:=by
  unfold aO cL at*;rw[Qq _ (Zp (Int.pow_pos (by decide)))];have:(2:Int)^(min (63:Int).toNat kz.bits)=9223372036854775808:=by decide
  rw[this];split<;>omega
 have W:eK .u64 (Q3.wrap d) 1=(2*d)%18446744073709551616:=by
  have:=wv (x:=Q3.wrap d) (k:=1) (by omega);rw[show((1:Nat):Int)=1 from rfl] at this;rw[this,cA];omega
 rw[J,W,cA];unfold zig cL at*;split
 ·have e:((2*d)%18446744073709551616)=((2*d+18446744073709551616).toNat:Int):=by omega
  rw[show((-1:Int)%18446744073709551616)=18446744073709551615 from by decide,e,Gw (by omega)];omega
 ·have e:((2*d)%18446744073709551616)=((2*d).toNat:Int):=by omega
  rw[show((0:Int)%18446744073709551616)=0 from by decide,e,xor_zero (by omega)]
theorem wA {l:List Int}(Z:0<l.length)(hl:l.length<=64):lg l=some (o7 l):=by
 unfold lg;have a1:idx l 0=some l[0]:=aH (i:=0) Z;have W:=dV (xs:=l) (lo:=1) (hi:=l.length) (by omega) (Qe _);rw[show((1:Nat):Int)=1 from rfl] at W;rw[a1,qk,cA,qP,qk,W,qk,Q9];have h:(l.drop 1).length=l.length - 1:=by simp
 have a0:l.getD 0 0=l[0]:=by rw[Q6,Q2 Z];rfl
 refine cj (λi=>(be8 (l[0]%18446744073709551616)++(Z4 i).flatMap (mX l),(i:Int))) (l.length - 1) (by simp) (λi hi=>?_) ?_
 ·dsimp only
  unfold nJ;rw[h,if_pos (by simpa using hi),aH (by rw[h];exact hi),qk,aH (by omega),qk];have J:=mH ((l.drop 1)[i]'(by rw[h];exact hi) - l[i]'(by omega));have hb:=pP (Z4 i) (mX l) 10 λx hx=>oP (qi (mH _));have a2:=oP (qi J);simp only[List.length_range] at hb
  have e:mX l i=gj (zig (kz.wrap ((l.drop 1)[i]'(by rw[h];exact hi) - l[i]'(by omega)))):=by
   unfold mX;rw[Q6,Q6,Q2 (show i+1<l.length by omega),Q2 (show i<l.length by omega)];simp only[Qv,List.getElem_drop];congr 5;omega
  rw[Jw J,Bq i _ _ (qi J) (by simp only[Qg,cf];omega) (by omega),List.range_succ,List.flatMap_append,←e];simp
 ·dsimp only
  unfold nJ qD;rw[h,if_neg (by simp)];unfold o7;rw[a0];rfl
theorem B3 {O:Type}{l:List O}{i:Nat}{d:O}(h:i<l.length):l.getD i d=l[i]:=by
 rw[Q6,Q2 h];rfl
def ky (w:List Ap)(v:Ap):Nat:=w.findIdx λx=>decide (v=x)
def oQ (l:List Ap):List Int:=((aX l).length:Int)::((aX l).flatMap bv++eu (l.map λv=>(ky (aX l) v:Int)) (wid ((aX l).length - 1)))
theorem Gy {w:List Ap}{v:Ap}(Z:w.length<1048576)(h:v∈w):gQ w v=some (ky w v:Int):=by
 unfold gQ;have:=yh (f:=λs:Int=>eZ w v s) w (λx=>decide (v=x)) (λi=>(i:Int)) (-1) (λi hi J=>?_) (λi hi J=>?_) ?_
 ·rw[this]
  have W:w.any (λx=>decide (v=x))=true:=List.any_eq_true.2 ⟨v,h,by simp⟩;rw[W];rfl
 ·unfold eZ
  rw[if_pos (by simpa using hi),aH hi,qk,J,if_neg (by decide),bD (by omega)]
 ·unfold eZ
  rw[if_pos (by simpa using hi),aH hi,qk,J,if_pos rfl];rfl
 ·unfold eZ nw
  rw[if_neg (by simp)];rfl
theorem oD {w:List Ap}{v:Ap}(h:v∈w):ky w v<w.length:=List.findIdx_lt_length_of_exists ⟨v,h,by simp⟩
theorem Gz {w:List Ap}{v:Ap}(h:v∈w):w[ky w v]'(oD h)=v:=by
 have:=List.findIdx_getElem (p:=λx=>decide (v=x)) (xs:=w) (w:=oD h);simp only[decide_eq_true_eq] at this;exact this.symm
theorem C1 {l w:List Ap}(h:∀v∈l,v∈w)(Z:w.length<1048576):U64 (l.map λv=>(ky w v:Int)):=λx W=>by
 obtain⟨v,J,rfl⟩:=Za.1 W;have:=oD (h v J);omega
theorem xC {l:List Ap}(h:∀v∈l,Rgt v)(hl:l.length<=64)(a5:l≠[]):mu l=some (oQ l):=by
 obtain⟨r,a4,a3⟩:=wy h (by omega);obtain⟨h3,Z,h5⟩:=gJ h;have W:∀v∈aX l,Rgt v:=λv J=>h v ((Z v).1 J);unfold mu fE;rw[aS (by simp;omega),qk,qk,List.nil_append,a4,qk,a3,qk,bV,show((aX l).length:Int)%256=(aX l).length by omega];have a6:=ln W;refine cj (λi=>(((aX l).length:Int)::((aX l).take i).flatMap bv,(i:Int))) (aX l).length (by simp) (λi hi=>?_) ?_
 ·dsimp only
  unfold jP;have h1:=ln (l:=(aX l).take i) λv J=>W v (Qk J);have h2:=(g7 (W _ (Q7 hi))).2;simp only[Z9] at h1;rw[if_pos (by simpa using hi),aH hi,qk,pj (W _ (Q7 hi)),qk,aS (by simp only[Ql];omega),qk,bD (by omega),qR hi]
  rfl
 ·dsimp only
  unfold jP;rw[if_neg (by simp),Q9];unfold lI
  have:au (λs:(List Int×Int)=>iu l (aX l) (((aX l).length:Int)::(aX l).flatMap bv) s.1 s.2) ([],0)=some (oQ l):=by
   refine cj (λi=>((l.take i).map λv=>(ky (aX l) v:Int),(i:Int))) l.length (by simp) (λi hi=>?_) ?_
   ·dsimp only
    unfold iu;have hm:=(Z l[i]).2 (Q7 hi);have hp:=oD hm;rw[if_pos (by simpa using hi),aH hi,qk,Gy (by omega) hm,qk,cA,aS (by simp;omega),qk,bD (by omega),Q0 hi];have:((ky (aX l) l[i]:Nat):Int)%18446744073709551616=(ky (aX l) l[i]:Nat):=by omega
    rw[this,List.map_append,List.map_cons,List.map_nil]
   ·dsimp only
    unfold iu lH;rw[if_neg (by simp),Q9]
    by_cases h0:(aX l).length=0
    ·have a1:aX l=[]:=Qo h0
     have a2:l=[]:=by
      cases l with
      |nil=>rfl
      |cons a t=>have:=(Z a).2 (by simp);rw[a1] at this;cases this
     subst a2;exfalso;exact absurd rfl a5
    have e1:Q3.wrap (kz.wrap (((aX l).length:Int) - 1))=(((aX l).length - 1:Nat):Int):=by rw[ak (by omega),cA];omega
    have a0:wid ((aX l).length - 1)<=64:=rT (Z0 (show(aX l).length - 1<64 by omega) (by decide))
    have a9:(eu (l.map λv=>(ky (aX l) v:Int)) (wid ((aX l).length - 1))).length<=64*64:=by
     unfold eu;rw[jo,List.length_map];have:=Qx hl a0;omega
    rw[e1,len_eq (by omega),qk,yj (C1 (λv J=>(Z v).2 J) (by omega)) (by simp;omega) a0,qk,aS (by simp only[Ql];omega)]
    rfl
  rw[this];rfl
def nR:List Int->Int
 |[]=>0
 |a::r=>r.foldl (λm x=>if x<m then x else m) a
theorem yn (r:List Int):∀a:Int,r.foldl (λm x=>if x<m then x else m) a<=a/\(∀x∈r,r.foldl (λm x=>if x<m then x else m) a<=x)/\(r.foldl (λm x=>if x<m then x else m) a=a\/r.foldl (λm x=>if x<m then x else m) a∈r):=by
 induction r with
 |nil=>intro a;simp
 | cons b r ih=>
  intro a;simp only[Zi];obtain⟨h1,W,h⟩:=ih (if b<a then b else a);have Z:(if b<a then b else a)<=a/\(if b<a then b else a)<=b/\((if b<a then b else a)=a\/(if b<a then b else a)=b):=by split<;>omega
  refine⟨by omega,λx J=>?_,?_⟩
  ·rcases Qa.1 J with rfl|J
   ·omega
   ·exact W x J
  ·rcases h with h|h
   ·rcases Z.2.2 with h4|h4
    ·left;omega
    ·right;rw[h,h4];simp
   ·right;simp[h]
theorem B4 {l:List Int}{x:Int}(h:x∈l):nR l<=x:=by
 cases l with
 |nil=>cases h
 |cons a r=>
  obtain⟨J,W,_⟩:=yn r a;rcases Qa.1 h with rfl|h
  ·exact J
  ·exact W x h
theorem AB {l:List Int}(h:l≠[]):nR l∈l:=by
 cases l with
 |nil=>exact absurd rfl h
 |cons a r=>
  obtain⟨_,_,J⟩:=yn r a;rcases J with J|J
  ·show r.foldl _ a∈_;rw[J];simp
  ·exact List.mem_cons_of_mem _ J
def ew (l:List Int):Nat:=l.foldl (λw x=>max w (wid x.toNat)) 0
theorem uU {l:List Int}{i:Nat}(h:i<l.length):ew (l.take (i+1))=max (ew (l.take i)) (wid l[i].toNat):=nQ h
theorem mI {l:List Int}(h:U64 l):ew l<=64/\∀x∈l,wid x.toNat<=ew l:=by
 have key:∀i,i<=l.length->ew (l.take i)<=64/\∀x∈l.take i,wid x.toNat<=ew (l.take i):=by
  intro i
  induction i with
  |zero=>intro _;simp[ew]
  | succ i ih=>
   intro hi;obtain⟨h1,Z⟩:=ih (by omega);have W:i<l.length:=by omega
   have J:=h l[i] (Q7 W);have hw:wid l[i].toNat<=64:=rT (by rw[show(2:Nat)^64=18446744073709551616 by decide];omega);rw[uU W];refine⟨by omega,λx J=>?_⟩;rw[Q0 W] at J;rcases Qb.1 J with J|J
   ·have:=Z x J;omega
   ·have:x=l[i]:=by simpa using J
    subst this;omega
 have:=key l.length (Qe _);rwa[Q9] at this
def bW (l:List Int):List Int:=l.map λx=>x - nR l
def o8 (l:List Int):List Int:=be8 (nR l%18446744073709551616)++[(ew (bW l):Int)]++eu (bW l) (ew (bW l))
theorem o9 {l:List Int}(h:∀x∈l,cL x):U64 (bW l):=λx hx=>by
 obtain⟨y,J,rfl⟩:=Za.1 hx;have h1:=B4 J;have W:=h y J;have Z:=h (nR l) (AB (List.ne_nil_of_mem J));unfold cL at W Z;omega
theorem GA {x m:Int}(W:cL x)(J:cL m)(h:m<=x):Q3.wrap ((Q3.wrap x) - (Q3.wrap m))=x - m:=by
 rw[cA,cA,cA];unfold cL at*;omega
theorem Jx {l:List Int}(J:0<l.length)(h:l.length<=1048576):j9 l=some (nR l):=by
 cases l with
 |nil=>simp at J
 | cons a r=>
  unfold j9 n7;rw[if_neg (by simp;omega),dx,qk];refine cj (λi=>((r.take i).foldl (λm x=>if x<m then x else m) a,((i+1:Nat):Int))) r.length (by simp) (λi hi=>?_) ?_
  ·dsimp only
   unfold kQ;rw[if_pos (by simpa using hi),aH (by simpa using hi),qk,bD (by simp at h;omega),nQ hi]
   rfl
  ·dsimp only
   unfold kQ n5;rw[if_neg (by simp),Q9];rfl
theorem Jy (a b:Nat):(if (a:Int)<(b:Int) then (b:Int) else (a:Int))=((max a b:Nat):Int):=by split<;>omega
theorem wB {l:List Int}(h:∀x∈l,cL x)(Z:0<l.length)(hl:l.length<=64):lh l=some (o8 l):=by
 have a2:l≠[]:=λe=>by subst e;simp at Z
 have hm:=h _ (AB a2);have J:=o9 h;obtain⟨hw,a5⟩:=mI J;have a1:(bW l).length=l.length:=by simp[bW]
 unfold lh;rw[Jx Z (by omega),qk];refine cj (λi=>((bW l).take i,((ew ((bW l).take i):Nat):Int),(i:Int))) l.length (by simp[ew]) (λi hi=>?_) ?_
 ·dsimp only
  unfold nL;have W:=Q7 hi;have a0:(bW l)[i]'(by omega)=l[i] - nR l:=by simp[bW]
  have a3:=J _ (Q7 (show i<(bW l).length by omega));rw[a0] at a3;have e2:=Az (n:=(l[i] - nR l).toNat) (by omega);rw[show(((l[i] - nR l).toNat:Nat):Int)=l[i] - nR l by omega] at e2;rw[if_pos (by simpa using hi),aH hi,qk,GA (h _ W) hm (B4 W),aS (by simp;omega),qk,e2,qk,bD (by omega),Jy,uU (by omega),Q0 (by omega),a0]
 ·dsimp only
  unfold nL qI
  have a4:(eu (bW l) (ew (bW l))).length<=64*64:=by
   unfold eu;rw[jo,a1];have:=Qx hl hw;omega
  rw[if_neg (by simp),←a1,Q9,cA,qP,qk,bV,aS (by simp[cf]),qk,yj J (by omega) hw,qk,aS (by simp only[Qg,cf,Qt];omega)];have:((ew (bW l):Nat):Int)%256=(ew (bW l):Nat):=by omega
  rw[this];rfl
def nS (l:List Ap):List Int:=l.flatMap bv
def qj (kind:Int)(l:List Ap):List Int:=
 if kind=1 then uJ l else if kind=2 then o7 (l.map (·.fInt)) else if kind=3 then oQ l else if kind=4 then o8 (l.map (·.fInt)) else nS l
def lq (l:List Ap):Bool:=l.all λv=>v.fKind==2
def enc (kind:Int)(l:List Ap):List Int×Int:=
 if kind<0\/4<kind then ([],62) else if 64<l.length then ([],61) else if l.all right=false then ([],60) else
 if (kind=2\/kind=4)/\lq l=false then ([],62) else if l=[] then ([],0) else (qj kind l,0)
theorem Ic {l:List Ap}(J:l.length<=1048576):mq l=some (if lq l then (l.map (·.fInt),true) else ([],false)):=by
 unfold mq lq;refine Em (λi=>((l.take i).map (·.fInt),(i:Int))) l (λv=>v.fKind==2) _ _ (by simp) (λi hi h=>?_) (λi hi h=>?_) ?_
 ·dsimp only
  unfold lD;rw[if_pos (by simpa using hi),aH hi,qk,if_neg (by simpa using h),aS (by simp;omega),qk,bD (by omega),Q0 hi,List.map_append,List.map_cons,List.map_nil]
 ·dsimp only
  unfold lD;rw[if_pos (by simpa using hi),aH hi,qk,if_pos (by simpa using h)];rfl
 ·dsimp only
  unfold lD rJ;rw[if_neg (by simp),Q9];rfl
theorem Br {l:List Ap}(J:l.length<=1048576):dU l eH=some (!l.all right):=by
 unfold dU jx;have:=yh (f:=λs:Int=>dT l eH s) l (λv=> !right v) (λi=>(i:Int)) (-1) (λi hi h=>?_) (λi hi h=>?_) ?_
 ·rw[this,qk]
  have e:l.any (λv=> !right v)= !l.all right:=by simp[List.any_eq_not_all_not]
  rw[e];cases l.all right<;>simp
 ·unfold dT eH
  rw[if_pos (by simpa using hi),aH hi,qk,iy,qk,qk,h,if_neg (by decide),bD (by omega)]
 ·unfold dT eH
  rw[if_pos (by simpa using hi),aH hi,qk,iy,qk,qk,h,if_pos rfl];rfl
 ·unfold dT kW
  rw[if_neg (by simp)];rfl
theorem rV {l:List Ap}(h:∀v∈l,VOK v)(W:l.all right=true):∀v∈l,Rgt v:=λv J=>Rgt.of (h v J) (Z1.1 W v J)
theorem qW {l:List Ap}(kind:Int)(h:∀v∈l,VOK v)(hl:l.length<=1048576):eT kind l=some (enc kind l):=by
 unfold eT enc
 have hj:∀b,gu kind l b=some (if b=true then ([],62) else if 64<l.length then ([],61) else if l.all right=false then ([],60) else if (kind=2\/kind=4)/\lq l=false then ([],62) else if l=[] then ([],0) else (qj kind l,0)):=by
  intro b;unfold gu;cases b
  ·simp only[Qc,if_false]
   by_cases h1:64<l.length
   ·rw[if_pos (decide_eq_true (by omega)),if_pos h1]
   rw[if_neg (by simp;omega),if_neg h1,Br hl,qk];cases hr:l.all right
   ·rfl
   rw[if_neg (by decide),if_neg (by decide),Ic hl,qk];have W:=rV h hr
   have a0:∀J:List Int×Bool,(kind=2\/kind=4->J.1=l.map (·.fInt))->d6 kind l J false=some (if l=[] then ([],0) else (qj kind l,0)):=by
    intro J a1;unfold d6;rw[if_neg (by decide)]
    by_cases h0:l=[]
    ·subst h0;rfl
    have a2:0<l.length:=List.length_pos_iff.2 h0;rw[if_neg (by simpa using h0),if_neg h0];unfold qj
    by_cases k1:kind=1
    ·rw[if_pos (by simpa using k1),xB W (by omega),if_pos k1];rfl
    rw[if_neg (by simpa using k1),if_neg k1]
    by_cases k2:kind=2
    ·rw[if_pos (by simpa using k2),a1 (.inl k2),wA (by simpa using a2) (by simp;omega),if_pos k2];rfl
    rw[if_neg (by simpa using k2),if_neg k2]
    by_cases k3:kind=3
    ·rw[if_pos (by simpa using k3),xC W (by omega) h0,if_pos k3];rfl
    rw[if_neg (by simpa using k3),if_neg k3]
    by_cases k4:kind=4
    ·rw[if_pos (by simpa using k4),a1 (.inr k4),wB (λx hx=>by obtain⟨v,Z,rfl⟩:=Za.1 hx;exact(h v Z).int) (by simpa using a2) (by simp;omega),if_pos k4];rfl
    rw[if_neg (by simpa using k4),if_neg k4];refine cj (λi=>((l.take i).flatMap bv,(i:Int))) l.length (by simp) (λi hi=>?_) ?_
    ·dsimp only
     unfold iC;have h3:=ln (l:=l.take i) λv Z=>W v (Qk Z);have h2:=(g7 (W _ (Q7 hi))).2;simp only[Z9] at h3;rw[if_pos (by simpa using hi),aH hi,qk,pj (W _ (Q7 hi)),qk,aS (by omega),qk,bD (by omega),qR hi]
    ·dsimp only
     unfold iC ke;rw[if_neg (by simp),Q9];rfl
   have a3:∀J:List Int×Bool,d6 kind l J true=some ([],62):=λJ=>rfl;cases hi:lq l
   ·simp only[Qc,if_false,Bool.not_false,if_true,and_true]
    by_cases k2:kind=2
    ·rw[if_pos (by simpa using k2),if_pos (.inl k2),a3]
    by_cases k4:kind=4
    ·have:(kind==4)=true:=by simpa using k4
     rw[if_neg (by simpa using k2),this,if_pos (.inr k4),a3]
    ·have:(kind==4)=false:=by simpa using k4
     rw[if_neg (by simpa using k2),this,if_neg (by omega),a0 _ (by omega)]
   ·simp only[if_true,Zo,Qc,if_false,Bool.true_eq_false,and_false]
    exact a0 _ λ_=>rfl
  ·rfl
 by_cases h0:kind<0
 ·rw[if_pos (by simpa using h0),if_pos (.inl h0),hj];rfl
 rw[if_neg (by simpa using h0),hj]
 by_cases h4:4<kind
 ·rw[if_pos (by simpa using h4),if_pos (show kind<0\/4<kind from .inr h4)]
 ·rw[if_neg (show ¬ (kind<0\/4<kind) by omega),if_neg (by simpa using h4)]
end Go.Proofs.YthbonoagbeilkaaGreat.Hay
