import Derived.Test.YthbonoagbeilkaaGreatHbW
import Derived.Test.YthbonoagbeilkaaGreatHbA
set_option linter.unusedVariables false
set_option linter.unusedSimpArgs false
namespace Go.Proofs.YthbonoagbeilkaaGreat.Hay
open Option renaming bind_some→zh,getD_some→Qu
open List renaming take_succ_eq_append_getElem→Jn,getElem?_eq_getElem→Q1,replicate→Q4,getD_eq_getElem?_getD→Q5,getElem_mem→Q6,take_length→Q8,mem_cons→Q9,mem_append→Qa,length_append→Qf,getElem?_append_left→Qg,mem_of_mem_take→Qj,length_cons→Qk,eq_nil_of_length_eq_zero→Qn,drop_append_of_le_length→Qo,getElem?_drop→Qq,pairwise_cons→Qr,length_singleton→Qs,getElem?_append_right→Qt,drop_eq_getElem_cons→Qv,pairwise_iff_getElem→Qx,all_eq_true→Z0,ext_getElem→Z1,range→Z3,mem_of_getLast?→Z7,length_take→Z8,mem_map→Z9,getLast?_eq_none_iff→Za,drop_drop→Zc,foldl_cons→Zh,length→Zl
open Nat renaming le_of_ble_eq_true→Q0,eq_of_beq_eq_true→Q2,le_refl→Qd,pow_le_pow_right→Ql,mul_le_mul→Qw,add_zero→Qy,lt_of_lt_of_le→Qz,beq→Z2,eq_of_testBit_eq→Z4,mul_le_mul_right→Z5,two_pow_add_eq_or_of_lt→Z6,strongRecOn→Zd,le_trans→Zf,pow_succ→Zg,add_mul→Zi,ble→Zj,not_le→Zm,mul_comm→Zp
open Bool renaming and_eq_true→Q7,false_eq_true→Qb,not_eq_true→Ze,not_true→Zn
open Int renaming natCast_pow→Qh,eq_ofNat_of_zero_le→Qi,fdiv_eq_ediv_of_nonneg→Qp,toNat_natCast→Zb,le_of_lt→Zo
open BitVec renaming ofInt→Qc,toNat_ofInt→Qe
open IntKind renaming i64→zw,u64→Q3,u8→Qm,u32→Zk
section
variable {G:Sg}{P:Program}{δ:List Nat}{n:Nat}{W0:Bse}{L0:Rs}{T0:List (Nat×Value)}{m m0:M}{z:Cz}{st:St G}{a:Act}{w:World}{Γ:Tab P G}{D:List (CS P G)}
theorem wB {O:Type}{l:List O}{k i:Nat}(h:i<(l.drop k).length):fb (l.drop k) i=fb l i:=by
  induction l generalizing k with
  |nil=>simp
  | cons x l ih=>
    cases k with
    |zero=>rfl
    | succ k=>
      simp only[List.drop_succ_cons] at h ⊢;rw[ih h];have hi:i<l.length:=by simp at h;omega
      have:Z2 i l.length=false:=by
        cases hb:Z2 i l.length with
        |false=>rfl
        |true=>have:=Q2 hb;omega
      simp[fb,this]
theorem LR.drop {J:List (Nat×BC G)}{ps:List (Nat×Value)}{es:List (Nat×List Value)}(h:LR G m J ps es)(k:Nat):LR G m (J.drop k) (ps.drop k) (es.drop k):=by
  induction J generalizing ps es k with
  |nil=>cases ps<;>cases es<;>first|exact h.elim|(simp;exact trivial)
  | cons B J ih=>
    cases ps with
    |nil=>cases es<;>exact h.elim
    | cons p ps=>
      cases es with
      |nil=>exact h.elim
      | cons e es=>
        cases k with
        |zero=>exact h
        |succ k=>exact ih h.2.2 k
theorem TRl.drop {J:List Nat}{vs:List Value}{es:List (Nat×Value)}(h:TRl J vs es)(k:Nat):TRl (J.drop k) (vs.drop k) (es.drop k):=by
  induction J generalizing vs es k with
  |nil=>cases vs<;>cases es<;>first|exact h.elim|(simp;exact trivial)
  | cons s J ih=>
    cases vs with
    |nil=>cases es<;>exact h.elim
    | cons v vs=>
      cases es with
      |nil=>exact h.elim
      | cons e es=>
        cases k with
        |zero=>exact h
        |succ k=>exact ih h.2 k
theorem S.voids {L L':List (Nat×List Value)}{TL:List (Nat×Value)}(h:S W0 m w L TL)(Z:∀(i:Nat)(e:Nat×List Value),L'[i]? =some e->e.2=[]\/L[i]? =some e):S W0 m w L' TL:=
  ⟨h.below,h.imm,λi e W J=>(Z i e W).elim (λx=>absurd x J) (λx=>h.own i e x J),
   λi j e e' W a1 a2 J a0=>(Z i e W).elim (λx=>absurd x J) (λx=>(Z j e' a1).elim (λy=>absurd y a0) (λy=>h.nodup i j e e' x y a2 J a0)),h.tails,h.apart⟩
theorem rO {O:Type}{f:Nat->O}:∀{n:Nat},(lK f n).length=n
  |0=>rfl
  |n+1=>by simp[lK,rO]
theorem rP {O:Type}{f:Nat->O}:∀{n i:Nat} {y:O},fb (lK f n) i=some y->i<n/\y=f i
  |0,i,y,h=>by simp[lK,fb] at h
  | n +1,i,y,h=>by
    simp only[lK,fb,rO] at h;split at h
    · rename_i e
      have:=Q2 e;subst this;injection h with h
      exact⟨by omega,h.symm⟩
    ·have:=rP h;exact⟨by omega,this.2⟩
theorem LR.build {f:Nat->Nat×BC G}:∀{n:Nat} {J:List (Nat×BC G)} {ps:List (Nat×Value)} {es:List (Nat×List Value)},LR G m J ps es->J.length=n->(∀i,i<n->(f i).2= .gone\/ ∃s,fb J i=some (s,(f i).2))->
    ∃W,LR G m (lK f n) ps W/\W.length=es.length/\∀(i:Nat) (e:Nat×List Value),W[i]? =some e->e.2=[]\/es[i]? =some e
  | 0,J,ps,es,h,hl,_=>by
    have:J=[]:=Qn hl;subst this;cases ps<;>cases es<;>first|exact h.elim|exact⟨[],trivial,rfl,λi e he=> .inr he⟩
  |n+1,[],ps,es,h,hl,_=>by simp at hl
  |n+1,B::J,[],es,h,hl,_=>by cases es<;>exact h.elim
  |n+1,B::J,p::ps,[],h,hl,_=>h.elim
  | n + 1,B::J,p::ps,e::es,h,hl,hf=>by
    obtain⟨h1,h2,h3⟩:=h;have a0:J.length=n:=by simpa using hl
    obtain⟨W,k1,k2,k3⟩:=LR.build (f:=f) h3 a0 (λi hi=>by
      rcases hf i (by omega) with h|⟨s,h⟩
      ·exact .inl h
      · refine .inr ⟨s,?_⟩
        have:Z2 i J.length=false:=by
          cases hb:Z2 i J.length with
          |false=>rfl
          |true=>have:=Q2 hb;omega
        simp only[fb,this] at h
        exact h)
    rcases hf n (by omega) with hg|⟨s,hs⟩
    · refine⟨(p.1,[])::W,⟨rfl,by rw[hg];rfl,k1⟩,by simp[k2],λi x Z=>?_⟩
      cases i with
      |zero=>simp at Z;subst Z;exact .inl rfl
      |succ i=>exact k3 i x (by simpa using Z)
    · have:fb (B::J) n=some B:=by rw[←a0];exact iN
      rw[this] at hs;injection hs with hs
      refine⟨e::W,⟨h1,by rw[show(f n).2=B.2 by rw[hs]];exact h2,k1⟩,by simp[k2],λi x Z=>?_⟩;cases i with
      |zero=>exact .inr (by simpa using Z)
      |succ i=>exact k3 i x (by simpa using Z)
theorem fk.cut {Ls:List (Nat×BC G)}{Ts T':List Nat}{nb:Nat}{f:Nat->Nat×BC G}(h:fk G W0 L0 T0 Ls Ts m z w)(a6:nb<=Ls.length)(hf:∀i,i<nb->(f i).2= .gone\/ ∃s,fb Ls i=some (s,(f i).2))(hT:Ts.drop (Ts.length - T'.length)=T')(a5:L0.nm.length<=nb):
    ∃z',fk G W0 L0 T0 (lK f nb) T' m z' w/\(∀i p,i<nb->fb z.b i=some p->fb z'.b i=some p)/\(∀j v,j<T'.length->fb z.t j=some v->fb z'.t j=some v):=by
  obtain⟨Lc,Tc,h1,h2,hS,a3⟩:=h;have hl:=h1.len;have a9:=h2.len;have d1:=h1.drop (Ls.length - nb);have a1:(Ls.drop (Ls.length - nb)).length=nb:=by simp;omega
  obtain⟨a2,k1,k2,k3⟩:=LR.build (f:=f) d1 a1 (λi hi=>by
    rw[wB (by omega)];exact hf i hi)
  have d2:=h2.drop (Ts.length - T'.length);rw[hT] at d2
  have a4:T'.length<=Ts.length:=by
    have:=congrArg Zl hT;simp at this;omega
  refine⟨⟨z.b.drop (Ls.length - nb),z.t.drop (Ts.length - T'.length)⟩,⟨a2,Tc.drop (Ts.length - T'.length),k1,d2,?_,a3.drop (by omega)⟩,λi p hi hp=>?_,λj v hj hv=>?_⟩
  · have Z:=hS.dropL (Ls.length - nb)
    rw[Qo (by omega)] at Z;have a0:=Z.dropT (Ts.length - T'.length);rw[Qo (by omega)] at a0;refine a0.voids λi e J=>?_;rw[List.getElem?_append] at J ⊢;rw[k2] at J;split at J
    · rename_i W
      rw[if_pos W];exact k3 i e J
    · rename_i W
      rw[if_neg W];exact .inr J
  ·rw[wB (by simp;omega)];exact hp
  ·rw[wB (by simp;omega)];exact hv
theorem HE {q:Nat}{c:Ty}(Z:Sat G P δ n W0 L0 T0 m0 st a w):Sat G P δ n W0 L0 T0 m0 (nilT G q c st) a w/\Ext st.c st (nilT G q c st)/\(nilT G q c st).c=st.c:=by
  unfold nilT;split
  · rename_i lv h
    obtain⟨⟨m,z,h0,W,J⟩,hdf,hsz⟩:=Z;have a0:=J.len;obtain⟨Lc,Tc,h1,h2,hS,a1⟩:=J;have hv:a.tmps.getD q undef= .slice none 0 0:=W _ (gC h);refine⟨⟨⟨m,⟨z.b,.slice none 0 0::z.t⟩,h0,λe h=>?_,Lc,((c.kd G).sz,.slice none 0 0)::Tc,h1,⟨rfl,h2⟩,hS.tail0 _,a1⟩,hdf,hsz⟩,(Ext.envL (st:=st) (st':={ st with T:=(c.kd G).sz::st.T }) rfl rfl).trans (Ext.put (st:={ st with T:=(c.kd G).sz::st.T })),rfl⟩;rcases Q9.1 h with rfl|h
    · show RV _ m (a.tmps.getD q undef) _/\Tag _ _ _
      rw[hv];refine⟨c8,?_⟩;show fb (.slice none 0 0::z.t) st.T.length=_;rw[←a0.2];exact iN
    ·exact((W e (kf h).1)).z (Zle.pushT z _)
  ·exact⟨Z,Ext.refl _ _,rfl⟩
theorem uO {O:Type}:∀{l:List O} {i:Nat},i<l.length->∃y,fb l i=some y:=by
  intro l
  induction l with
  |nil=>intro i h;simp at h
  | cons a l ih=>
    intro i h;simp only[fb];split
    ·exact⟨_,rfl⟩
    · rename_i J
      have:i≠l.length:=λe=>by subst e;simp at J
      simp at h;exact ih (by omega)
theorem TRl.get2 {J:List Nat} {vs:List Value} {es:List (Nat×Value)} (h:TRl J vs es) {i s:Nat} {v:Value} (Z:fb J i=some s) (W:fb vs i=some v):
    i<J.length/\es[J.length - 1 - i]? =some (s,v)/\∀v',TRl J (sb vs i v') (es.set (J.length - 1 - i) (s,v')):=by
  induction J generalizing vs es with
  |nil=>cases vs<;>simp[fb] at Z
  | cons s0 J ih=>
    cases vs with
    |nil=>cases es<;>exact h.elim
    | cons v0 vs=>
      cases es with
      |nil=>exact h.elim
      | cons e es=>
        obtain⟨h1,h2⟩:=h;have hl:vs.length=J.length:=h2.len.1;simp only[fb] at Z W;rw[hl] at W;split at Z
        · rename_i hi
          rw[if_pos hi] at W;injection Z with Z;injection W with W
          subst Z;subst W;have hi':=Q2 hi;subst hi';have e0:(s0::J).length - 1 - J.length=0:=by simp
          rw[e0];refine⟨by simp,by simp[h1],λv'=>?_⟩;simp only[sb,hl,hi,if_true,List.set_cons_zero];exact⟨rfl,h2⟩
        · rename_i hi
          rw[if_neg hi] at W;obtain⟨g0,g1,g2⟩:=ih h2 Z W;have e0:(s0::J).length - 1 - i=(J.length - 1 - i)+1:=by simp;omega
          rw[e0];refine⟨by simp;omega,by simpa using g1,λv'=>?_⟩;simp only[sb,hl,hi,List.set_cons_succ];exact⟨h1,g2 v'⟩
theorem S.swapT {TL:List (Nat×Value)}{L:List (Nat×List Value)}(h:S W0 m w L TL){k1 k2:Nat}{Z e2:Nat×Value}(h1:TL[k1]? =some Z)(h2:TL[k2]? =some e2)(hk:k1≠k2):S W0 m w L ((TL.set k1 e2).set k2 Z):=by
  refine h.selT _ (λi=>if i=k1 then k2 else if i=k2 then k1 else i) (λi e J=>?_) (λi j W=>?_)
  · rw[List.getElem?_set] at J
    split at J
    · rename_i e
      subst e;split at J
      · injection J with J;subst J
        rw[if_neg (λe=>hk e.symm),if_pos rfl];exact h1
      ·cases J
    · rename_i hn
      rw[List.getElem?_set] at J;split at J
      · rename_i e
        subst e;split at J
        · injection J with J;subst J
          rw[if_pos rfl];exact h2
        ·cases J
      · rename_i a0
        rw[if_neg (λe=>a0 e.symm),if_neg (λe=>hn e.symm)];exact J
  ·split at W<;>split at W<;>(try split at W)<;>(try split at W)<;>omega
theorem Ext.er2 {j k:Nat}:Ext st.c st { st with env:=l8 k st.c (l8 j st.c st.env) }:=
  (Ext.er (st:=st) (j:=j)).trans (Ext.er (st:={ st with env:=l8 j st.c st.env }) (j:=k))
theorem HF {q j:Nat}(hs:Sat G P δ n W0 L0 T0 m0 st a w):Sat G P δ n W0 L0 T0 m0 (zx G q j st) a w/\Ext st.c st (zx G q j st)/\(zx G q j st).c=st.c:=by
  unfold zx;split
  · rename_i lv t x h W
    split
    ·exact⟨hs,Ext.refl _ _,rfl⟩
    · rename_i a0
      split
      · rename_i s s' hj a1
        split
        · rename_i a3
          subst a3;obtain⟨⟨m,z,h0,hr,hM⟩,hdf,hsz⟩:=hs;have a2:=hM.len;obtain⟨Lc,Tc,h1,J,hS,a4⟩:=hM;obtain⟨hv,Z⟩:=hr _ (gC W);simp only at hv Z;have Z:fb z.t h=some (a.tmps.getD q undef):=Z;obtain⟨u,hu⟩:=uO (l:=z.t) (i:=j) (by rw[a2.2];exact t7 hj);obtain⟨p1,p2,p3⟩:=J.get2 hj hu;obtain⟨q1,q2,q3⟩:=(p3 (a.tmps.getD q undef)).get2 a1 (show fb (sb z.t j _) h=_ by rw[jb (λe=>a0 e.symm)];exact Z);obtain⟨_,r2,_⟩:=J.get2 a1 Z;have hk:st.T.length - 1 - j≠st.T.length - 1 - h:=by omega
          refine⟨⟨⟨m,⟨z.b,sb (sb z.t j (a.tmps.getD q undef)) h u⟩,h0,λe W=>?_,Lc,_,h1,q3 u,?_,a4⟩,hdf,hsz⟩,Ext.er2.trans (Ext.put (st:={ st with env:=l8 h st.c (l8 j st.c st.env) }) (d:=q)),rfl⟩
          · rcases Q9.1 W with rfl|W
            · refine⟨hv,?_⟩
              show fb (sb (sb z.t j (a.tmps.getD q undef)) h u) j=_;rw[jb a0,mg hu]
            ·exact pU (pU hr) e (kf W).1
          · have:=hS.swapT (k1:=st.T.length - 1 - j) (k2:=st.T.length - 1 - h) (by rw[Qg (by have:=J.len.2;omega)];exact p2) (by rw[Qg (by have:=J.len.2;omega)];exact r2) hk
            rw[List.set_append_left _ _ (by have:=J.len.2;omega),List.set_append_left _ _ (by have:=J.len.2;simp;omega)] at this;exact this
        ·exact⟨hs,Ext.refl _ _,rfl⟩
      ·exact⟨hs,Ext.refl _ _,rfl⟩
  ·exact⟨hs,Ext.refl _ _,rfl⟩
theorem uP:∀{its:List It} {st:St G},Sat G P δ n W0 L0 T0 m0 st a w->Sat G P δ n W0 L0 T0 m0 (l9 G its st) a w/\Ext st.c st (l9 G its st)/\(l9 G its st).c=st.c:=by
  intro its
  induction its with
  |nil=>intro st J;exact⟨J,Ext.refl _ _,rfl⟩
  | cons i its ih=>
    intro st J;unfold l9;split
    · rename_i h
      cases h
    · rename_i q lv c j r h
      injection h with h1 h2
      subst h2;obtain⟨k1,k2,k3⟩:=HE (q:=q) (c:=c) J;obtain⟨l1,W,l3⟩:=HF (q:=q) (j:=j) k1;obtain⟨r1,r2,Z⟩:=ih l1;rw[l3,k3] at r2 Z;rw[k3] at W;exact⟨r1,k2.trans (W.trans r2),Z⟩
    · rename_i h
      injection h with h1 h2
      subst h2;exact ih J
theorem I4 {nT:Nat}{s:Sh}{b:AV G}{x:s.den G}(h:shX G nT s b=some x):s.mk G x=b/\∀t j,s= .dat t (some j)->j<nT:=by
  cases s with
  | dat t o=>
    unfold shX at h;dsimp only at h;cases hb:b.dt? with
    |none=>simp[hb] at h
    | some q=>
      simp only[hb] at h;have h':(if q.2.2=o/\I3 nT o=true then cT G q.1 t q.2.1 else none)=some (show t.den G from x):=h;clear h;split at h'
      · rename_i Z
        obtain⟨J,Z⟩:=Z;obtain⟨e,h⟩:=bB h';rw[AV.dt_eq hb];obtain⟨t',x',o'⟩:=q;simp only at e J;subst e;subst J;subst h;exact⟨rfl,λt j e=>by injection e with e1 e2;rw[e2] at Z;exact Q0 Z⟩
      ·cases h'
  | ptr t=>
    unfold shX at h;dsimp only at h;cases hb:b.pt? with
    |none=>simp[hb] at h
    | some q=>
      simp only[hb] at h;obtain⟨e,h⟩:=bB h;rw[AV.pt_eq hb];obtain⟨t',x'⟩:=q;simp only at e;subst e;subst h;exact⟨rfl,λt j e=>by cases e⟩
  | fn1 c d=>
    unfold shX at h;dsimp only at h;cases hb:b.f1? with
    |none=>simp[hb] at h
    | some q=>
      simp only[hb] at h;split at h
      · rename_i hh
        rw[AV.f1_eq hb];obtain⟨a',b',f⟩:=q;obtain⟨J,W⟩:=hh;simp only at J W;subst J;subst W;injection h with h;subst h
        exact⟨rfl,λt j e=>by cases e⟩
      ·cases h
  | fn2 c e d=>
    unfold shX at h;dsimp only at h;cases hb:b.f2? with
    |none=>simp[hb] at h
    | some q=>
      simp only[hb] at h;split at h
      · rename_i hh
        rw[AV.f2_eq hb];obtain⟨a',c',b',f⟩:=q;obtain⟨J,W,h3⟩:=hh;simp only at J W h3;subst J;subst W;subst h3;injection h with h;subst h
        exact⟨rfl,λt j e=>by cases e⟩
      ·cases h
theorem Ol {J:Nat}{s:Sh}{x:s.den G}{v:Value}{z':Cz}(h:(s.mk G x).Rel G P m z v)(Z:∀t j,s= .dat t (some j)->j<J)(W:∀j v,j<J->fb z.t j=some v->fb z'.t j=some v):(s.mk G x).Rel G P m z' v:=by
  cases s with
  | dat t o=>
    refine⟨h.1,?_⟩;cases o with
    |none=>trivial
    |some j=>exact W _ _ (Z t j rfl) h.2
  |_=>exact h
theorem te {W:Nat}{s:Sh}{b:AV G}{x:s.den G}{v:Value}{z':Cz}(h:shX G W s b=some x)(J:b.Rel G P m z v)(hz:∀j v,j<W->fb z.t j=some v->fb z'.t j=some v):(s.mk G x).Rel G P m z' v/\s.mk G x=b:=by
  obtain⟨Z,h2⟩:=I4 h;rw[←Z] at J;exact⟨Ol J h2 hz,Z⟩
theorem I5 {W:Nat}{s:Sh}{b:AV G}{x:s.den G}{v:Value}{z':Cz}(h:shA Γ W s b=some x)(Z:b.Rel G P m z v)(hz:∀j v,j<W->fb z.t j=some v->fb z'.t j=some v):(s.mk G x).Rel G P m z' v:=by
  cases s with
  | dat t o=>
    cases o with
    | none=>
      have J:b.as Γ t=some x:=h;exact⟨AV.as_rel J Z,trivial⟩
    | some j=>
      have J:shX G W (.dat t (some j)) b=some x:=h;exact(te J Z hz).1
  | ptr t=>
    have J:shX G W (.ptr t) b=some x:=h;exact(te J Z hz).1
  | fn1 c d=>
    have J:shX G W (.fn1 c d) b=some x:=h;exact(te J Z hz).1
  | fn2 c e d=>
    have J:shX G W (.fn2 c e d) b=some x:=h;exact(te J Z hz).1
theorem HG {q lv:Nat}{s:Sh}{its:List It}{u:s.den G}{y:eC G its}:kx G (.v q lv s::its) (mkI G (.v q lv s) its u y)=(q,lv,.one (s.mk G u))::kx G its y:=by
  cases its<;>rfl
theorem HH {i lv:Nat}{t:Ty}{its:List It}{u:t.den G}{y:eC G its}:kx G (.b i lv t::its) (mkI G (.b i lv t) its u y)=kx G its y:=by
  cases its<;>rfl
theorem HI {i lv:Nat}{t:Ty}{nn:Option Nat}{its:List It}{u:List (t.den G)}{y:eC G its}:kx G (.a i lv t nn::its) (mkI G (.a i lv t nn) its u y)=kx G its y:=by
  cases its<;>rfl
theorem HJ {q lv:Nat}{s:Sh}{its:List It}{u:s.den G}{y:eC G its}{k:Nat}:dB G (.v q lv s::its) (mkI G (.v q lv s) its u y) k=dB G its y k:=by
  cases its<;>rfl
theorem HK {i lv:Nat}{t:Ty}{its:List It}{u:t.den G}{y:eC G its}{k:Nat}:dB G (.b i lv t::its) (mkI G (.b i lv t) its u y) k=if Z2 i k then some (lv,.dat t u) else dB G its y k:=by
  cases its<;>rfl
theorem HL {i lv:Nat}{t:Ty}{nn:Option Nat}{its:List It}{u:List (t.den G)}{y:eC G its}{k:Nat}:dB G (.a i lv t nn::its) (mkI G (.a i lv t nn) its u y) k=if Z2 i k then some (lv,.arr t nn u) else dB G its y k:=by
  cases its<;>rfl
theorem uQ {nT:Nat} {z':Cz} (hE:jd G P m z st.env a) (hz:∀j v,j<nT->fb z.t j=some v->fb z'.t j=some v):∀{its:List It} {x:eC G its},lG Γ nT st its=some x->
    ∀e∈kx G its x,e.2.2.Rel G P m z' (a.tmps.getD e.1 undef)/\(e.2.1<st.c->∃lv,lv<=e.2.1/\(e.1,lv,e.2.2)∈st.env):=by
  intro its
  induction its with
  |nil=>intro x h e J;cases J
  | cons i its ih=>
    intro x h;cases i with
    | v q lv s=>
      simp only[lG] at h;split at h
      · rename_i a0 b y Z W
        split at h
        · rename_i a3
          split at h
          · rename_i u hu
            injection h with h
            subst h;intro e J;rw[HG] at J;rcases Q9.1 J with rfl|J
            · have hr:b.Rel G P m z (a.tmps.getD q undef):=hE _ (gC Z)
              split at hu
              · rename_i hc
                exact⟨I5 hu hr hz,λh=>absurd h (by show ¬ lv<st.c;omega)⟩
              · obtain⟨k1,k2⟩:=te hu hr hz
                exact⟨k1,λa2=>⟨a0,a3.resolve_left (Zm.2 a2),by rw[k2];exact gC Z⟩⟩
            ·exact ih W e J
          ·cases h
        ·cases h
      ·cases h
    | b i lv t=>
      simp only[lG] at h;split at h
      · rename_i a0 t' u y Z W
        split at h
        · split at h
          · injection h with h
            subst h;intro e J;rw[HH] at J;exact ih W e J
          ·cases h
        ·cases h
      ·cases h
    | a i lv t nn=>
      simp only[lG] at h;split at h
      · rename_i a0 t' n' u y Z W
        split at h
        · split at h
          · injection h with h
            subst h;intro e J;have a1:e∈kx G its y:=by rw[←HI (i:=i) (lv:=lv) (t:=t) (nn:=nn)];exact J
            exact ih W e a1
          ·cases h
        ·cases h
      ·cases h
theorem uR {nT:Nat}:∀{its:List It} {x:eC G its},lG Γ nT st its=some x->∀k e,dB G its x k=some e->∃lv,(e.1<st.c->lv<=e.1)/\fb st.L k=some (lv,e.2):=by
  intro its
  induction its with
  |nil=>intro x h k e J;cases J
  | cons i its ih=>
    intro x h;cases i with
    | v q lv s=>
      simp only[lG] at h;split at h
      · rename_i a2 b y hq Z
        split at h
        · split at h
          · injection h with h
            subst h;intro k e J;rw[HJ] at J;exact ih Z k e J
          ·cases h
        ·cases h
      ·cases h
    | b i lv t=>
      simp only[lG] at h;split at h
      · rename_i a2 t' u y hq Z
        split at h
        · rename_i a1
          split at h
          · rename_i u' W
            obtain⟨e,W⟩:=bB W;subst e;subst W;injection h with h
            subst h;intro k e J;rw[HK] at J;split at J
            · rename_i hb
              have:=Q2 hb;subst this;injection J with J;subst J
              exact⟨a2,λa3=>a1.resolve_left (Zm.2 a3),hq⟩
            ·exact ih Z k e J
          ·cases h
        ·cases h
      ·cases h
    | a i lv t nn=>
      simp only[lG] at h;split at h
      · rename_i a2 t' n' u y hq Z
        split at h
        · rename_i a1
          obtain⟨a1,rfl⟩:=a1;split at h
          · rename_i u' W
            obtain⟨e,W⟩:=bB W;injection e with e
            subst e;subst W;injection h with h
            subst h;intro k e J;have a0:=(HL (G:=G) (i:=i) (lv:=lv) (t:=t')).symm.trans J;clear J;split at a0
            · rename_i hb
              have:=Q2 hb;subst this;injection a0 with a0;subst a0
              exact⟨a2,λa3=>a1.resolve_left (Zm.2 a3),hq⟩
            ·exact ih Z k e a0
          ·cases h
        ·cases h
      ·cases h
end
section
variable {G:Sg}{P:Program}{δ:List Nat}{n:Nat}{W0:Bse}{L0:Rs}{T0:List (Nat×Value)}{m m0:M}{z:Cz}{st:St G}{a:Act}{w:World}{Γ:Tab P G}{D:List (CS P G)}
theorem Fx.is_eq {f:Fx}{b:AV G}(h:f.is b=true):b=f.mk G:=by
  cases f<;>cases b<;>simp[Fx.is] at h<;>simp[Fx.mk,h]
theorem FT {nb:Nat}:∀{Z:List (Nat×Nat×Fx)},Ck st nb Z=true->∀e∈Z,∃a0,lke st.env e.1=some (a0,.one (e.2.2.mk G))/\(e.2.1<st.c->a0<=e.2.1)/\(∀i,e.2.2= .blk i->i<nb)/\(∀i,e.2.2= .own i->i<nb):=by
  intro Z
  induction Z with
  |nil=>intro _ e W;cases W
  | cons x Z ih=>
    intro h e W;obtain⟨q,lv,f⟩:=x;simp only[Ck,Q7] at h;rcases Q9.1 W with rfl|W
    · obtain⟨J,_⟩:=h
      split at J
      · rename_i a0 b hq
        simp only[Q7] at J;obtain⟨⟨J,h2⟩,h3⟩:=J;have:=Fx.is_eq h2;subst this;refine⟨a0,hq,λa1=>?_,λi hi=>?_,λi hi=>?_⟩
        · rcases Bool.or_eq_true_iff.1 J with J|J
          ·exact absurd (Q0 J) (Zm.2 a1)
          ·exact Q0 J
        ·simp only at hi;subst hi;exact Q0 h3
        ·simp only at hi;subst hi;exact Q0 h3
      ·cases J
    ·exact ih h.2 e W
theorem Tm.ok {T:Tm}{x:eC G T.its}(b1:L0.nm.length<=T.nb)(h:T.fit Γ st=some x)(hs:Sat G P δ n W0 L0 T0 m0 st a w):Sat G P δ n W0 L0 T0 m0 (T.st G st.c x) a w/\Ext st.c st (T.st G st.c x):=by
  obtain⟨b0,a9,a6⟩:=uP (its:=T.its) hs;unfold Tm.fit at h;simp only at h;generalize l9 G T.its st=st1 at*;split at h
  · rename_i hc
    simp only[Q7] at hc;obtain⟨⟨a0,a2⟩,hT⟩:=hc;have hT:=of_decide_eq_true hT;have a2:=Q0 a2;have a0:=FT a0;obtain⟨⟨m,z,h0,hr,hM⟩,hdf,hsz⟩:=b0;have a3:=uR h
    obtain⟨z',b3,a4,b2⟩:=fk.cut (f:=λi=>match dB G T.its x i with|some e=>e|none=>(st.c,.gone)) hM a2 (λi hi=>by
      cases hi:dB G T.its x i with
      |none=>exact .inl rfl
      |some e=>obtain⟨lv,_,h2⟩:=a3 i e hi;exact .inr ⟨lv,h2⟩) hT b1
    have a1:=uQ hr b2 h;refine⟨⟨⟨m,z',h0,λe J=>?_,b3⟩,hdf,hsz⟩,?_⟩
    · rcases Qa.1 J with J|J
      · obtain⟨f,hf,rfl⟩:=Z9.1 J
        obtain⟨a5,k1,k2,k3,k4⟩:=a0 f hf;have W:=hr _ (gC k1);show AV.Rel G P m z' (f.2.2.mk G) _;cases hff:f.2.2 with
        |blk i=>rw[hff] at W;obtain⟨p,q1,q2⟩:=W;exact⟨p,a4 i p (k3 i hff) q1,q2⟩
        |own i=>rw[hff] at W;obtain⟨p,q1,q2⟩:=W;exact⟨p,a4 i p (k4 i hff) q1,q2⟩
        |nils=>rw[hff] at W;exact W
        |und=>rw[hff] at W;exact W
      ·exact(a1 e J).1
    · rw[a6] at a1
      refine a9.trans ⟨λk hk e J hl=>?_,λk hk i s B hb b4=>?_⟩
      · rcases Qa.1 J with J|J
        · obtain⟨f,hf,rfl⟩:=Z9.1 J
          obtain⟨a5,k1,k2,_⟩:=a0 f hf;have hl:f.2.1<=k:=hl;exact⟨a5,Zf (k2 (by rw[a6];omega)) hl,gC k1⟩
        · obtain⟨lv,k1,k2⟩:=(a1 e J).2 (by omega)
          exact⟨lv,Zf k1 hl,k2⟩
      · obtain⟨_,Z⟩:=rP hb
        cases hi:dB G T.its x i with
        | none=>
          rw[hi] at Z;injection Z with Z _;omega
        | some e=>
          rw[hi] at Z;simp only at Z;subst Z;obtain⟨lv,k1,k2⟩:=a3 i _ hi;exact⟨lv,Zf (k1 (by simp only;omega)) b4,k2⟩
  ·cases h
theorem nL {env:List (Nat×Nat×EV G)}{d:Nat}:∀{ks:List Nat} {e:Nat×Nat×EV G},e∈o5 env d ks->e.1∈ks/\∃lv,lke env e.1=some (lv,e.2.2)/\e.2.1=min lv d:=by
  intro ks
  induction ks with
  |nil=>intro e h;cases h
  | cons q ks ih=>
    intro e h;simp only[o5] at h;split at h
    · rename_i lv ev Z
      rcases Q9.1 h with rfl|h
      ·exact⟨by simp,lv,Z,rfl⟩
      ·obtain⟨W,J⟩:=ih h;exact⟨by simp[W],J⟩
    ·obtain⟨W,J⟩:=ih h;exact⟨by simp[W],J⟩
theorem zy {d:Nat}:∀{its:List It} {x:eC G its},nk d its=true->∀e∈kx G its x,e.2.1=d+1:=by
  intro its
  induction its with
  |nil=>intro x _ e J;cases J
  | cons i its ih=>
    intro x h e J;cases i with
    | v q lv s=>
      simp only[nk,Q7] at h;rcases Q9.1 J with rfl|J
      ·exact Q2 h.1
      ·exact ih h.2 e J
    | b i lv t=>
      simp only[nk,Q7] at h;exact ih h.2 e J
    | a i lv t nn=>
      simp only[nk,Q7] at h;exact ih h.2 e J
theorem FU {d:Nat}:∀{its:List It} {x:eC G its},nk d its=true->∀k e,dB G its x k=some e->e.1=d+1:=by
  intro its
  induction its with
  |nil=>intro x _ k e J;cases J
  | cons i its ih=>
    intro x h k e J;cases i with
    | v q lv s=>
      simp only[nk,Q7] at h;exact ih h.2 k e J
    | b i lv t=>
      simp only[nk,Q7] at h;simp only[dB] at J;split at J
      ·injection J with J;subst J;exact Q2 h.1
      ·exact ih h.2 k e J
    | a i lv t nn=>
      simp only[nk,Q7] at h;simp only[dB] at J;split at J
      ·injection J with J;subst J;exact Q2 h.1
      ·exact ih h.2 k e J
theorem xC {k:Nat}:∀{its:List It} {x:eC G its},pV k its=(dB G its x k).isSome:=by
  intro its
  induction its with
  |nil=>intro x;rfl
  | cons i its ih=>
    intro x;cases i with
    |v q lv s=>exact ih
    | b i lv t=>
      simp only[pV,dB];cases Z2 i k with
      |true=>rfl
      |false=>simpa using ih
    | a i lv t nn=>
      simp only[pV,dB];cases Z2 i k with
      |true=>rfl
      |false=>simpa using ih
theorem AV.Rel.z2 {m1 m:M}{z1 z z':Cz}{b:AV G}{v1 v:Value}(h1:b.Rel G P m1 z1 v1)(h:b.Rel G P m z v)(hb:∀i p1 p,fb z1.b i=some p1->fb z.b i=some p->fb z'.b i=some p)(ht:∀j u1 u,fb z1.t j=some u1->fb z.t j=some u->fb z'.t j=some u):b.Rel G P m z' v:=by
  cases b with
  | dat t x o=>
    refine⟨h.1,?_⟩;cases o with
    |none=>trivial
    |some j=>exact ht j _ _ h1.2 h.2
  |loc i a b A=>obtain⟨p,J,Z⟩:=h;obtain⟨p1,W,_⟩:=h1;exact⟨p,hb _ _ _ W J,Z⟩
  |elp i j a b A=>obtain⟨p,J,Z⟩:=h;obtain⟨p1,W,_⟩:=h1;exact⟨p,hb _ _ _ W J,Z⟩
  |blk i=>obtain⟨p,J,Z⟩:=h;obtain⟨p1,W,_⟩:=h1;exact⟨p,hb _ _ _ W J,Z⟩
  |own i=>obtain⟨p,J,Z⟩:=h;obtain⟨p1,W,_⟩:=h1;exact⟨p,hb _ _ _ W J,Z⟩
  |_=>exact h
theorem EV.Rel.z2 {m1 m:M}{Z z z':Cz}{e:EV G}{v1 v:Value}(h1:e.Rel G P m1 Z v1)(h:e.Rel G P m z v)(hb:∀i p1 p,fb Z.b i=some p1->fb z.b i=some p->fb z'.b i=some p)(ht:∀j u1 u,fb Z.t j=some u1->fb z.t j=some u->fb z'.t j=some u):e.Rel G P m z' v:=by
  cases e with
  |one b=>exact AV.Rel.z2 h1 h hb ht
  | tup asv=>
    obtain⟨W,k0,k1⟩:=h1;obtain⟨vs,k2,J⟩:=h;refine⟨vs,k2,?_⟩;clear k2 k0
    induction asv generalizing vs W with
    |nil=>cases vs<;>exact J
    | cons b asv ih=>
      cases vs with
      |nil=>exact J
      | cons v vs=>
        cases W with
        |nil=>exact k1.elim
        |cons v1 W=>exact⟨AV.Rel.z2 k1.1 J.1 hb ht,ih W k1.2 vs J.2⟩
structure Cl (T:Lt)(st:St G):Prop where
  len:st.L.length=T.nb
  tls:st.T=T.T
  nd:qQ T.keep=true
  lv:nk st.c T.its=true
  keep:∀q∈T.keep,∃e,lke st.env q=some e
theorem Lt.fit_ok {T:Lt}{J:St G}{x:eC G T.its}(h:T.fit Γ st=some (J,x)):J=l9 G T.its st/\Cl T J/\lG Γ T.T.length J T.its=some x:=by
  unfold Lt.fit at h;simp only at h;split at h
  · rename_i W
    split at h
    · rename_i y hy
      injection h with h
      injection h with h1 h2
      subst h1;subst h2;simp only[Q7] at W;obtain⟨⟨⟨⟨c1,c2⟩,c3⟩,c4⟩,c5⟩:=W;refine⟨rfl,⟨Q2 c1,of_decide_eq_true c2,c3,c4,λq Z=>?_⟩,hy⟩;exact Option.isSome_iff_exists.1 (Z0.1 c5 q Z)
    ·cases h
  ·cases h
theorem Lt.entry {T:Lt}{h:St G}{x:eC G T.its}(hs:Sat G P δ n W0 L0 T0 m0 h a w)(W:Cl T h)(hf:lG Γ T.T.length h T.its=some x):Sat G P δ n W0 L0 T0 m0 (T.st G h x) a w:=by
  obtain⟨⟨m,z,h0,hr,hM⟩,hdf,hsz⟩:=hs;have Z:=hM.len;have a1:=uR hf
  obtain⟨z',a5,a2,a0⟩:=fk.cut (T':=T.T) (nb:=T.nb) (f:=λi=>match dB G T.its x i with|some e=>e|none=>(match fb h.L i with|some e=>(min e.1 h.c,e.2)|none=>(0,.gone))) hM (by rw[W.len];exact Qd _) (λi hi=>by
      cases hi:dB G T.its x i with
      | none=>
        cases hj:fb h.L i with
        |none=>exact .inl (by simp)
        |some e=>exact .inr ⟨e.1,by simp⟩
      |some e=>obtain⟨lv,_,h2⟩:=a1 i e hi;exact .inr ⟨lv,h2⟩) (by rw[W.tls];simp) (by obtain⟨_,_,_,_,_,a4⟩:=hM;have:=a4.len;rw[Z.1,W.len] at this;exact this)
  have hz:Zle z z':=⟨λi p hp=>a2 i p (by have:=t7 hp;rw[Z.1,W.len] at this;exact this) hp,λj v hv=>a0 j v (by have:=t7 hv;rw[Z.2,W.tls] at this;exact this) hv⟩
  have a3:=uQ hr a0 hf;refine⟨⟨m,z',h0,λe J=>?_,a5⟩,hdf,hsz⟩;rcases Qa.1 J with J|J
  ·exact(a3 e J).1
  · obtain⟨_,lv,h1,_⟩:=nL J
    exact(hr _ (gC h1)).z hz
theorem Lt.ext {T:Lt}{W:St G}{s:eC G T.its}(Z:Cl T W):Ext W.c W (T.st G W s):=by
  refine⟨λk a0 e h hl=>?_,λk a0 i sl B hb a1=>?_⟩
  · rcases Qa.1 h with h|h
    ·have:=zy Z.lv e h;omega
    · obtain⟨_,lv,h1,h2⟩:=nL h
      exact⟨lv,by omega,gC h1⟩
  · obtain⟨hi,J⟩:=rP hb
    cases hit:dB G T.its s i with
    | some e=>
      rw[hit] at J;have:=FU Z.lv i e hit;simp only at J;subst J;simp only at this;omega
    | none=>
      rw[hit] at J;obtain⟨e,h⟩:=uO (l:=W.L) (i:=i) (by rw[Z.len];exact hi);simp only[h] at J;injection J with h1 h2
      subst h2;exact⟨e.1,by omega,h⟩
theorem DN {env:List (Nat×Nat×EV G)}{d q lv:Nat}{e:EV G}:∀{ks:List Nat},(q,lv,e)∈o5 env d ks->∃J,lke env q=some (J,e):=by
  intro ks h;obtain⟨_,J,W,_⟩:=nL h;exact⟨J,W⟩
theorem Lt.back_ok {T:Lt} {h st':St G} {s s':eC G T.its} {a0:Act} {w0:World} (hk:Cl T h) (h0:Sat G P δ n W0 L0 T0 m0 (T.st G h s) a0 w0) (b1:Sat G P δ n W0 L0 T0 m0 st' a w) (a5:Ext (h.c+1) (T.st G h s) st') (hc:st'.c=h.c+1)
    (hb:T.back Γ h.c st'=some s'):Sat G P δ n W0 L0 T0 m0 (T.st G h s') a w:=by
  obtain⟨hs,a3,e6⟩:=uP (its:=T.its) b1;unfold Lt.back at hb;simp only at hb;rw[hc] at a3;have hx:=a5.trans a3;clear a3 a5 b1;generalize l9 G T.its st'=st' at*;obtain⟨⟨m1,z1,_,c5,a9⟩,_,_⟩:=h0;have a1:=a9.len;have b3:(T.st G h s).L.length=T.nb:=rO;obtain⟨⟨m,z,b6,hr,hM⟩,hdf,hsz⟩:=hs;split at hb
  · rename_i a2
    unfold DM at a2;simp only[Q7] at a2;obtain⟨⟨⟨c1,c2⟩,c3⟩,c4⟩:=a2;have b5:=uR hb
    have e1:∀i,i<T.nb->dB G T.its s' i=none->∃sl e,fb h.L i=some e/\fb st'.L i=some (sl,e.2):=by
      intro i hi hn;have J:=Z0.1 c4 i (by simpa using hi);have b2:pV i T.its=false:=by rw[xC (G:=G) (x:=s'),hn];rfl
      rw[b2,Bool.false_or] at J;split at J
      · rename_i lv B hB
        have c6:=Q0 J;obtain⟨sl,_,h6⟩:=hx.blk h.c (Nat.lt_succ_self _) i lv B hB c6;obtain⟨_,hy⟩:=rP h6
        have b4:dB G T.its s i=none:=by
          have:=xC (G:=G) (x:=s) (k:=i);rw[b2] at this;cases hq:dB G T.its s i with
          |none=>rfl
          |some e=>rw[hq] at this;cases this
        rw[b4] at hy;obtain⟨e,W⟩:=uO (l:=h.L) (i:=i) (by rw[hk.len];exact hi);simp only[W] at hy;injection hy with _ hy
        subst hy;exact⟨lv,e,W,hB⟩
      ·cases J
    obtain⟨z',d2,c0,b0⟩:=fk.cut (T':=T.T) (nb:=T.nb) (f:=λi=>match dB G T.its s' i with|some e=>e|none=>(match fb h.L i with|some e=>(min e.1 h.c,e.2)|none=>(0,.gone))) hM (Q0 c2) (λi hi=>by
        cases hii:dB G T.its s' i with
        | none=>
          obtain⟨sl,e,h1,Z⟩:=e1 i hi hii;exact .inr ⟨sl,by simp[h1,Z]⟩
        |some e=>obtain⟨lv,_,Z⟩:=b5 i e hii;exact .inr ⟨lv,Z⟩) (of_decide_eq_true c3) (by obtain⟨_,_,_,_,_,d1⟩:=a9;have:=d1.len;rw[a1.1,b3] at this;exact this)
    have d0:=uQ hr b0 hb;refine⟨⟨m,z',b6,λe W=>?_,d2⟩,hdf,hsz⟩;rcases Qa.1 W with W|W
    ·exact(d0 e W).1
    · obtain⟨hq,lv,h1,_⟩:=nL W
      have Z:=Z0.1 c1 e.1 hq;split at Z
      · rename_i e3 a6 a4
        obtain⟨e5,h3,J⟩:=hx.env h.c (Nat.lt_succ_self _) (e.1,e3,a6) (gC a4) (Q0 Z)
        have e0:a6=e.2.2:=by
          rcases Qa.1 J with J|J
          · have:=zy hk.lv _ J
            simp only at this;omega
          · obtain⟨e4,h5⟩:=DN J
            rw[h1] at h5;injection h5 with h5;injection h5 with _ h5
            exact h5.symm
        subst e0;have r1:=c5 e (Qa.2 (.inr W));have r2:=hr _ (gC a4);refine EV.Rel.z2 r1 r2 (λi p1 p b7 hp=>c0 i p ?_ hp) (λj u1 u c7 hu=>b0 j u ?_ hu)
        ·have:=t7 b7;rw[a1.1,b3] at this;exact this
        ·have:=t7 c7;rw[a1.2] at this;exact this
      ·cases Z
  ·cases hb
end
section
variable {G:Sg}{P:Program}{δ:List Nat}{n:Nat}{W0:Bse}{L0:Rs}{T0:List (Nat×Value)}{m0:M}{Γ:Tab P G}{D:List (CS P G)}{ro:Option Nat}
theorem AN {ρ:Type}{id:Nat}{ops:Array Oper}{dr:Bool}{st:St G}{K':St G->Option ρ}{r:ρ}{a:Act}{w:World}{NP RP:Act->World->Prop}{XP:List (Nat×(Act->World->Prop))}(a1:P.follows .mixedOrders=true)(h:uL n Γ D ops.toList dr st K'=some r)(W:Sat G P δ n W0 L0 T0 m0 st a w)
  (Z:Nxt G P δ n W0 L0 T0 m0 K' r st NP):K ro P (.region id ops dr) NP XP RP a w:=by
 obtain⟨os⟩:=ops;cases dr with
 |false=>exact ai (uK h W λst' a' w' h1 h2 h3 h4=>ag (Z st' a' w' h1 h2 h3 h4))
 | true=>
  unfold uL at h;simp only at h;split at h
  ·rename_i k hk
   split at h
   ·rename_i J
    simp only[Q7] at J;split at h
    ·rename_i a0
     exact FS a0 a1 W (zn J.1 J.2) (My hk) h Z
    ·cases h
   ·cases h
  split at h
  ·rename_i J
   simp only[Q7] at J;split at h
   ·rename_i a0
    exact HC a0 a1 W (zn J.1.1 J.2) J.1.2 h Z
   ·split at h
    ·rename_i hg
     exact FP a1 W (zn J.1.1 J.2) J.1.2 hg h Z
    ·cases h
  ·cases h
theorem Bj {σ ρ:Type}{x:Option ρ}{r:σ⊕ρ}(h:x.map Sum.inr=some r):∃o,x=some o/\r= .inr o:=by
 cases x with
 |none=>cases h
 |some o=>injection h with h;exact⟨o,rfl,h.symm⟩
theorem zA {np:Nat}(c1:L0.nm.length<=np)(b3:P.follows .mixedOrders=true):∀(c:Code) {ρ:Type} (A:An G ρ) (st:St G) (N:St G->Option ρ) (X:Nat->St G->Option ρ) (R:St G->Option ρ) (r:ρ) (a:Act) (w:World) (NP W:Act->World->Prop) (XP:List (Nat×(Act->World->Prop))),
  ex n Γ D c A st N X R=some r->Obl np n Γ D c A st.c N X R->Sat G P δ n W0 L0 T0 m0 st a w->Nxt G P δ n W0 L0 T0 m0 N r st NP->
  (∀j,Nxt G P δ n W0 L0 T0 m0 (X j) r st (λa w=>∃e,XP.find? (λe=>Z2 e.1 j)=some e/\e.2 a w))->Nxt G P δ n W0 L0 T0 m0 R r st W->K ro P c NP XP W a w:=by
 intro c
 induction c with
 |skip=>intro ρ A st N X R r a w NP W XP h _ Z hN _ _;exact aW (hN st a w h Z (Ext.refl _ _) rfl)
 |label l=>intro ρ A st N X R r a w NP W XP h _ Z hN _ _;exact Da (hN st a w h Z (Ext.refl _ _) rfl)
 |region id ops dr=>intro ρ A st N X R r a w NP W XP h _ Z hN _ _;exact AN b3 h Z hN
 |exit id=>
  intro ρ A st N X R r a w NP W XP h _ Z _ hX _;obtain⟨e,h1,h2⟩:=hX id st a w h Z (Ext.refl _ _) rfl;exact eJ h1 rfl h2
 |ret=>intro ρ A st N X R r a w NP W XP h _ Z _ _ hR;exact bq (hR st a w h Z (Ext.refl _ _) rfl)
 | seq x y ihx ihy=>
  intro ρ A st N X R r a w NP W XP h hO Z hN hX hR
  have a0:∀{Ax Ay:An G ρ},ex n Γ D x Ax st (λst'=>ex n Γ D y Ay st' N X R) X R=some r->Obl np n Γ D x Ax st.c (λst'=>ex n Γ D y Ay st' N X R) X R->Obl np n Γ D y Ay st.c N X R->K ro P (.seq x y) NP XP W a w:=by
   intro Ax Ay h a5 a4;refine ab (ihx Ax st _ X R r a w _ W XP h a5 Z (λst' a' w' h1 h2 h3 h4=>?_) hX hR);exact ihy Ay st' N X R r a' w' NP W XP h1 (by rw[h4];exact a4) h2 (hN.later h3 h4) (λj=>(hX j).later h3 h4) (hR.later h3 h4)
  cases A with
  |s l r'=>exact a0 h hO.1 hO.2
  | c l T J r'=>
   obtain⟨o1,o0,o2,o3⟩:=hO;refine ab (ihx l st _ X R r a w _ W XP h o1 Z (λst' a' w' h1 h2 h3 h4=>?_) hX hR);split at h1
   ·rename_i v hv
    obtain⟨k1,k2⟩:=Tm.ok (Zf c1 (Q0 o0)) hv h2;rw[h4] at k1 k2;have hx:=h3.trans k2;refine ihy r' (T.st G st.c v) N X R r a' w' NP W XP (by rw[o2 v];exact h1) o3 k1 (hN.later hx rfl) (λj=>(hX j).later hx rfl) (hR.later hx rfl)
   ·cases h1
  |_=>exact a0 h (Obl.o ..) (Obl.o ..)
 | cond cnd x y ihx ihy=>
  intro ρ A st N X R r a w NP W XP h hO Z hN hX hR;unfold ex at h;split at h
  ·rename_i v hv
   split at h
   ·rename_i b hb
    obtain⟨⟨m,z,h0,hr,hM⟩,hdf,hsz⟩:=Z;have Z:Sat G P δ n W0 L0 T0 m0 st a w:=⟨⟨m,z,h0,hr,hM⟩,hdf,hsz⟩
    have b7:=AV.b_rel hb (aU (ez hr) hv)
    have a0:∀{Ax Ay:An G ρ},(if b=true then ex n Γ D x Ax st N X R else ex n Γ D y Ay st N X R)=some r->Obl np n Γ D x Ax st.c N X R->Obl np n Γ D y Ay st.c N X R->K ro P (.cond cnd x y) NP XP W a w:=by
     intro Ax Ay h a5 a4;refine wpIn_cond_split b7 (λhb=>?_) (λhb=>?_)
     ·rw[if_pos hb] at h
      exact ihx Ax st N X R r a w NP W XP h a5 Z hN hX hR
     ·rw[if_neg (by rw[hb];decide)] at h
      exact ihy Ay st N X R r a w NP W XP h a4 Z hN hX hR
    cases A with
    |i l r'=>exact a0 h hO.1 hO.2
    |_=>exact a0 h (Obl.o ..) (Obl.o ..)
   ·cases h
  ·cases h
 | block id c ih=>
  intro ρ A st N X R r a w NP W XP h hO Z hN hX hR
  have a0:∀{Ac:An G ρ},ex n Γ D c Ac st N (λj st'=>match Z2 j id with|true=>N st'|false=>X j st') R=some r->Obl np n Γ D c Ac st.c N (λj st'=>match Z2 j id with|true=>N st'|false=>X j st') R->K ro P (.block id c) NP XP W a w:=by
   intro Ac h b6;refine aY (ih Ac st N _ R r a w NP W _ h b6 Z hN (λj st' a' w' h1 h2 h3 h4=>?_) hR);split at h1
   ·rename_i hj
    have:=Q2 hj;subst this;exact⟨(j,NP),by simp[List.find?],hN st' a' w' h1 h2 h3 h4⟩
   ·rename_i hj
    obtain⟨e,q1,q2⟩:=hX j st' a' w' h1 h2 h3 h4
    have b4:Z2 id j=false:=by
     cases hb:Z2 id j with
     |false=>rfl
     |true=>
      have:=Q2 hb;subst this;simp at hj
    exact⟨e,by simp only[List.find?,b4];exact q1,q2⟩
  cases A with
  |b x=>exact a0 h hO
  |_=>exact a0 h (Obl.o ..)
 |scope c ih=>
  intro ρ A st N X R r a w NP W XP h hO Z hN hX hR;cases A with
  |b x=>exact yE (ih x st N X R r a w NP W XP h hO Z hN hX hR)
  |_=>exact yE (ih .o st N X R r a w NP W XP h (Obl.o ..) Z hN hX hR)
 | loop c ih=>
  intro ρ A st N X R r a w NP W XP h hO Z hN hX hR;cases A with
  | l T b=>
   unfold ex at h;simp only at h;split at h
   ·rename_i a2 x0 c0
    obtain⟨e1,hk,hf⟩:=Lt.fit_ok c0;obtain⟨a9,a6,a1⟩:=uP (its:=T.its) Z;rw[←e1] at a9 a6 a1;refine eX h (λs a w=>Sat G P δ n W0 L0 T0 m0 (T.st G a2 s) a w) (Lt.entry a9 hk hf) ?_;intro s a w hI r' b5 b2;have a3:(T.st G a2 s).c=st.c+1:=by show a2.c+1=_;rw[a1]
    have b0:∀{st':St G},Ext (T.st G a2 s).c (T.st G a2 s) st'->Ext st.c st (low st.c st'):=by
     intro st' hx;rw[a3] at hx;have h2:=Lt.ext (s:=s) hk;rw[a1] at h2;have h3:=a6.trans (h2.trans (hx.le (Nat.le_succ _)));exact⟨h3.env,h3.blk⟩
    have b1:∀{st':St G} {a':Act} {w':World},Sat G P δ n W0 L0 T0 m0 st' a' w'->Sat G P δ n W0 L0 T0 m0 (low st.c st') a' w':=λZ=>⟨Z.ex,Z.df,Z.sz⟩
    refine ih b (T.st G a2 s) _ _ _ r' a w _ W XP b5 (by rw[a3];exact hO) hI (λst' a' w' h1 h2 h3 h4=>?_) (λj st' a' w' h1 h2 h3 h4=>?_) (λst' a' w' h1 h2 h3 h4=>?_)
    ·split at h1
     ·rename_i s' hb
      injection h1 with h1
      rw[←a1] at hb;refine⟨s',h1.symm,Lt.back_ok hk hI h2 ?_ ?_ hb⟩
      ·rw[a3,←a1] at h3;exact h3
      ·rw[h4,a3,a1]
     ·cases h1
    ·obtain⟨o,q1,q2⟩:=Bj h1
     have:=b2 o q2;subst this;exact hX j _ a' w' q1 (b1 h2) (b0 h3) rfl
    ·obtain⟨o,q1,q2⟩:=Bj h1
     have:=b2 o q2;subst this;exact hR _ a' w' q1 (b1 h2) (b0 h3) rfl
   ·cases h
  |_=>simp[ex] at h
 |rangeFunc f ps asg c _ _=>intro ρ A st N X R r a w NP W XP h;simp[ex] at h
 |goto l=>intro ρ A st N X R r a w NP W XP h;simp[ex] at h
 |refuse s=>intro ρ A st N X R r a w NP W XP h;simp[ex] at h
end
section
variable {G:Sg}{P:Program}
def qv (G:Sg):(ps:List Pm)->cU G ps->Nat->List (Nat×Nat×EV G)×List (Nat×BC G)×List Nat
 |[],_,_=>([],[],[])
 | .rd t::ps,x,i=>match qv G ps x.2 (i+1) with|(e,L,T)=>((i,0,.one (.dat t x.1 none))::e,L,T)
 | .ap t::ps,x,i=>match qv G ps x.2 (i+1) with|(e,L,T)=>((i,0,.one (.dat (.sl t) x.1 (some T.length)))::e,L,(t.kd G).sz::T)
 | .pt t::ps,x,i=>match qv G ps x.2 (i+1) with|(e,L,T)=>((i,0,.one (.blk L.length))::e,(0,.dat t x.1)::L,T)
 | .ow t::ps,x,i=>match qv G ps x.2 (i+1) with|(e,L,T)=>((i,0,.one (.own L.length))::e,(0,.arr t none x.1)::L,T)
 | .f1 a b::ps,x,i=>match qv G ps x.2 (i+1) with|(e,L,T)=>((i,0,.one (.fn1 a b x.1))::e,L,T)
 | .f2 a c b::ps,x,i=>match qv G ps x.2 (i+1) with|(e,L,T)=>((i,0,.one (.fn2 a c b x.1))::e,L,T)
def wC (G:Sg)(ps:List Pm)(x:cU G ps):St G:=match qv G ps x 0 with|(e,L,T)=>⟨e,0,L,T⟩
def nmA:List Pm->List Value->List (Nat×List Value)->List (Nat×Value)
 | .pt _::ps,v::vs,e::Lp=>(e.1,v)::nmA ps vs Lp
 | .ow _::ps,v::vs,e::Lp=>(e.1,v)::nmA ps vs Lp
 | .rd _::ps,_::vs,Lp=>nmA ps vs Lp
 | .ap _::ps,_::vs,Lp=>nmA ps vs Lp
 | .f1 _ _::ps,_::vs,Lp=>nmA ps vs Lp
 | .f2 _ _ _::ps,_::vs,Lp=>nmA ps vs Lp
 |_,_,_=>[]
def Rm.pm:Rm->Pm
 | .rd t=> .rd t
 | .ap t=> .ap t
 | .ow t=> .ow t
def jI (G:Sg)(os:List Ty):(rs:List Rm)->cU G (rs.map Rm.pm)->aZ G os->aZ G (rs.map Rm.ty++os)
 |[],_,o=>o
 | .rd t::rs,y,o=>mkT G t (rs.map Rm.ty++os) y.1 (jI G os rs y.2 o)
 | .ap t::rs,y,o=>mkT G (.sl t) (rs.map Rm.ty++os) y.1 (jI G os rs y.2 o)
 | .ow t::rs,y,o=>mkT G (.sl t) (rs.map Rm.ty++os) y.1 (jI G os rs y.2 o)
def BC.dt?:BC G->Option ((t:Ty)×t.den G)
 | .dat t x=>some ⟨t,x⟩
 |_=>none
def BC.ar?:BC G->Option ((t:Ty)×List (t.den G)×Option Nat)
 | .arr t n x=>some ⟨t,x,n⟩
 |_=>none
theorem BC.dt_eq {B:BC G}{q:(t:Ty)×t.den G}(h:B.dt?=some q):B= .dat q.1 q.2:=by
 cases B<;>simp[BC.dt?] at h;subst h;rfl
theorem BC.ar_eq {B:BC G}{q:(t:Ty)×List (t.den G)×Option Nat}(h:B.ar?=some q):B= .arr q.1 q.2.2 q.2.1:=by
 cases B<;>simp[BC.ar?] at h;subst h;rfl
def oz (G:Sg):(ps:List Pm)->List (Nat×BC G)->Option (aZ G (ps.filterMap Pm.out))
 |[],_=>some ()
 | p::ps,Bs=>match p with
  | .pt t=>(match Bs with
   |B::Bs=>(match B.2.dt? with
    |some q=>(match cT G q.1 t q.2,oz G ps Bs with|some x,some y=>some (mkT G t (ps.filterMap Pm.out) x y)|_,_=>none)
    |none=>none)
   |[]=>none)
  | .ow t=>(match Bs with
   |B::Bs=>(match B.2.ar? with
    |some q=>(match cT G (.sl q.1) (.sl t) q.2.1,oz G ps Bs with|some x,some y=>some (mkT G (.sl t) (ps.filterMap Pm.out) x y)|_,_=>none)
    |none=>none)
   |[]=>none)
  | .rd _=>oz G ps Bs
  | .ap _=>oz G ps Bs
  | .f1 _ _=>oz G ps Bs
  | .f2 _ _ _=>oz G ps Bs
def cnt (ps:List Pm):Nat:=(ps.filterMap Pm.out).length
def tf (Γ:Tab P G)(ps:List Pm)(rs:List Rm)(res:List Nat)(st:St G):Option (aZ G (fm ps rs)):=
 match gD Γ (rs.map Rm.pm) (res.map Operand.tmp) (rL (rs.map Rm.pm) (res.map Operand.tmp) st) with
 |some (y,st2,_)=>(match Zj (cnt ps) st2.L.length,oz G ps (st2.L.drop (st2.L.length - cnt ps)) with
  |true,some o=>some (jI G (ps.filterMap Pm.out) rs y o)
  |_,_=>none)
 |none=>none
noncomputable def exF (n:Nat) (Γ:Tab P G) (D:List (CS P G)) (c:Code) (ps:List Pm) (rs:List Rm) (res:List Nat) (A:An G (aZ G (fm ps rs))) (x:cU G ps):Option (aZ G (fm ps rs)):=
 ex n Γ D c A (wC G ps x) (tf Γ ps rs res) (λ_ _=>none) (tf Γ ps rs res)
end
section
variable {G:Sg}{P:Program}{W0:Bse}{m:M}{z:Cz}{a:Act}{w:World}{Γ:Tab P G}
theorem vx:∀{ps:List Pm} {vs:List Value} {x:cU G ps} {Lp:List (Nat×List Value)} {Tp:List (Nat×Value)} {i:Nat},jH G P m ps vs x Lp Tp->(∀j v,vs[j]? =some v->a.tmps.getD (i+j) undef=v)->
  ∃J,jd G P m ⟨nmA ps vs Lp,J⟩ (qv G ps x i).1 a/\LR G m (qv G ps x i).2.1 (nmA ps vs Lp) Lp/\TRl (qv G ps x i).2.2 J Tp/\vs.length=ps.length/\(nmA ps vs Lp).length=cnt ps:=by
 intro ps
 induction ps with
 |nil=>
  intro vs x Lp Tp i h _;cases vs<;>cases Lp<;>cases Tp<;>first|exact h.elim|exact⟨[],λe W=>(by cases W),trivial,trivial,rfl,rfl⟩
 | cons p ps ih=>
  intro vs x Lp Tp i h ha;cases vs with
  |nil=>cases p<;>exact h.elim
  | cons v vs=>
   have hv:=ha 0 v rfl
   have a0:∀j u,vs[j]? =some u->a.tmps.getD (i+1+j) undef=u:=λj u hu=>by
    have:=ha (j+1) u (by simpa using hu);rw[show i+1+j=i+(j+1) by omega];exact this
   cases p with
   | rd t=>
    obtain⟨h1,h2⟩:=h;obtain⟨J,k1,k2,Z,k4,k5⟩:=ih h2 a0;refine⟨J,λe W=>?_,k2,Z,by simp[k4],k5⟩;rcases Q9.1 W with rfl|W
    ·rw[Qy] at hv
     show RV _ m (a.tmps.getD i undef) _/\True;rw[hv];exact⟨h1,trivial⟩
    ·exact k1 e W
   | ap t=>
    cases Tp with
    |nil=>exact h.elim
    | cons e Tp=>
     obtain⟨h1,rfl,h2⟩:=h;obtain⟨J,k1,k2,Z,k4,k5⟩:=ih h2 a0;refine⟨v::J,λe W=>?_,k2,⟨rfl,Z⟩,by simp[k4],k5⟩;rcases Q9.1 W with rfl|W
     ·rw[Qy] at hv
      show RV _ m (a.tmps.getD i undef) _/\Tag _ _ _;rw[hv];refine⟨h1,?_⟩;show fb (v::J) _=some v;rw[←Z.len.1];exact iN
     ·exact(k1 e W).z (Zle.pushT _ v)
   | pt t=>
    cases Lp with
    |nil=>exact h.elim
    | cons e Lp=>
     obtain⟨h1,h3,h2⟩:=h;obtain⟨J,k1,k2,Z,k4,k5⟩:=ih h2 a0;refine⟨J,λq hq=>?_,⟨rfl,h1,k2⟩,Z,by simp[k4],by simp[nmA,k5,cnt,Pm.out]⟩;rcases Q9.1 hq with rfl|hq
     ·rw[Qy] at hv
      refine⟨(e.1,v),?_,by rw[hv];exact h3⟩;show fb ((e.1,v)::nmA ps vs Lp) _=_;rw[←k2.len.1];exact iN
     ·exact(k1 q hq).z (Zle.pushB ⟨nmA ps vs Lp,J⟩ (e.1,v))
   | ow t=>
    cases Lp with
    |nil=>exact h.elim
    | cons e Lp=>
     obtain⟨h1,h2⟩:=h;obtain⟨J,k1,k2,Z,k4,k5⟩:=ih h2 a0;refine⟨J,λq hq=>?_,⟨rfl,⟨h1,trivial⟩,k2⟩,Z,by simp[k4],by simp[nmA,k5,cnt,Pm.out]⟩;rcases Q9.1 hq with rfl|hq
     ·rw[Qy] at hv
      refine⟨(e.1,v),?_,by rw[hv]⟩;show fb ((e.1,v)::nmA ps vs Lp) _=_;rw[←k2.len.1];exact iN
     ·exact(k1 q hq).z (Zle.pushB ⟨nmA ps vs Lp,J⟩ (e.1,v))
   | f1 b c=>
    obtain⟨h1,h2⟩:=h;obtain⟨J,k1,k2,Z,k4,k5⟩:=ih h2 a0;refine⟨J,λe W=>?_,k2,Z,by simp[k4],k5⟩;rcases Q9.1 W with rfl|W
    ·rw[Qy] at hv
     show Fn1 P _ _ m (a.tmps.getD i undef) _;rw[hv];exact h1
    ·exact k1 e W
   | f2 b c d=>
    obtain⟨h1,h2⟩:=h;obtain⟨J,k1,k2,Z,k4,k5⟩:=ih h2 a0;refine⟨J,λe W=>?_,k2,Z,by simp[k4],k5⟩;rcases Q9.1 W with rfl|W
    ·rw[Qy] at hv
     show Fn2 P _ _ _ m (a.tmps.getD i undef) _;rw[hv];exact h1
    ·exact k1 e W
theorem Bk {os:List Ty}{o:aZ G os}:∀{rs:List Rm} {us:List Value} {y:cU G (rs.map Rm.pm)} {Lr:List (Nat×List Value)} {Tr:List (Nat×Value)},jH G P m (rs.map Rm.pm) us y Lr Tr->lC G m os rs us (jI G os rs y o) Lr Tr/\rest G os rs (jI G os rs y o)=o:=by
 intro rs
 induction rs with
 |nil=>
  intro us y Lr Tr h;cases us<;>cases Lr<;>cases Tr<;>first|exact h.elim|exact⟨trivial,rfl⟩
 | cons r rs ih=>
  intro us y Lr Tr h;cases us with
  |nil=>cases r<;>exact h.elim
  | cons u us=>
   cases r with
   |rd t=>
    obtain⟨W,J⟩:=h;obtain⟨k1,k2⟩:=ih J;have Z:hdT G t (rs.map Rm.ty++os) (jI G os (.rd t::rs) y o)=y.1:=vn;have e2:tlT G t (rs.map Rm.ty++os) (jI G os (.rd t::rs) y o)=jI G os rs y.2 o:=vo;exact⟨⟨Z.symm ▸ W,e2.symm ▸ k1⟩,(congrArg (rest G os rs) e2).trans k2⟩
   | ap t=>
    cases Tr with
    |nil=>exact h.elim
    |cons e Tr=>
     obtain⟨W,h3,J⟩:=h;obtain⟨k1,k2⟩:=ih J;have Z:hdT G (.sl t) (rs.map Rm.ty++os) (jI G os (.ap t::rs) y o)=y.1:=vn;have e2:tlT G (.sl t) (rs.map Rm.ty++os) (jI G os (.ap t::rs) y o)=jI G os rs y.2 o:=vo;exact⟨⟨Z.symm ▸ W,h3,e2.symm ▸ k1⟩,(congrArg (rest G os rs) e2).trans k2⟩
   | ow t=>
    cases Lr with
    |nil=>exact h.elim
    |cons e Lr=>
     obtain⟨W,J⟩:=h;obtain⟨k1,k2⟩:=ih J;have Z:hdT G (.sl t) (rs.map Rm.ty++os) (jI G os (.ow t::rs) y o)=y.1:=vn;have e2:tlT G (.sl t) (rs.map Rm.ty++os) (jI G os (.ow t::rs) y o)=jI G os rs y.2 o:=vo;exact⟨⟨Z.symm ▸ W,e2.symm ▸ k1⟩,(congrArg (rest G os rs) e2).trans k2⟩
theorem Bl:∀{ps:List Pm} {vs:List Value} {W:List (Nat×BC G)} {Lp Lp':List (Nat×List Value)} {x:cU G ps} {o:aZ G (ps.filterMap Pm.out)} {Tp:List (Nat×Value)} {m0:M},jH G P m0 ps vs x Lp Tp->oz G ps W=some o->W.length=cnt ps->LR G m W (nmA ps vs Lp) Lp'->gH G m ps vs o Lp Lp':=by
 intro ps
 induction ps with
 |nil=>
  intro vs W Lp Lp' x o Tp m0 h J hl Z;have:W=[]:=Qn hl;subst this;cases vs<;>cases Lp<;>cases Tp<;>cases Lp'<;>first|exact h.elim|exact Z.elim|trivial
 | cons p ps ih=>
  intro vs W Lp Lp' x o Tp m0 h J hl Z;cases vs with
  |nil=>cases p<;>exact h.elim
  | cons v vs=>
   cases p with
   | pt t =>
    cases Lp with
    |nil=>exact h.elim
    | cons e Lp=>
     obtain⟨_,_,h2⟩:=h;cases W with
     |nil=>simp[cnt,Pm.out] at hl
     | cons B W=>
      cases Lp' with
      |nil=>exact Z.elim
      | cons e' Lp'=>
       obtain⟨q1,q2,q3⟩:=Z;unfold oz at J;dsimp only at J;cases hq:B.2.dt? with
       |none=>simp[hq] at J
       | some q=>
        simp only[hq] at J;rw[BC.dt_eq hq] at q2;obtain⟨t',y⟩:=q;cases hc:cT G t' t y with
        |none=>simp[hc] at J
        | some y'=>
         cases ho':oz G ps W with
         |none=>simp[hc,ho'] at J
         |some o'=>
          simp only[hc,ho'] at J;obtain⟨ee,hy⟩:=bB hc;subst ee;subst hy;have J:=Option.some.inj J;subst J;have e1:hdT G t' (ps.filterMap Pm.out) (mkT G t' (ps.filterMap Pm.out) y o')=y:=vn;have e2:tlT G t' (ps.filterMap Pm.out) (mkT G t' (ps.filterMap Pm.out) y o')=o':=vo;exact⟨q1,e1.symm ▸ q2,e2.symm ▸ ih h2 ho' (by simpa[cnt,Pm.out] using hl) q3⟩
   | ow t =>
    cases Lp with
    |nil=>exact h.elim
    | cons e Lp=>
     obtain⟨_,h2⟩:=h;cases W with
     |nil=>simp[cnt,Pm.out] at hl
     | cons B W=>
      cases Lp' with
      |nil=>exact Z.elim
      | cons e' Lp'=>
       obtain⟨q1,q2,q3⟩:=Z;unfold oz at J;dsimp only at J;cases hq:B.2.ar? with
       |none=>simp[hq] at J
       | some q=>
        simp only[hq] at J;rw[BC.ar_eq hq] at q2;obtain⟨t',y,nn⟩:=q;cases hc:cT G (.sl t') (.sl t) y with
        |none=>simp[hc] at J
        | some y'=>
         cases ho':oz G ps W with
         |none=>simp[hc,ho'] at J
         |some o'=>
          simp only[hc,ho'] at J;obtain⟨ee,hy⟩:=bB hc;injection ee with ee
          subst ee;subst hy;have J:=Option.some.inj J;subst J;have e1:hdT G (.sl t') (ps.filterMap Pm.out) (mkT G (.sl t') (ps.filterMap Pm.out) y o')=y:=vn;have e2:tlT G (.sl t') (ps.filterMap Pm.out) (mkT G (.sl t') (ps.filterMap Pm.out) y o')=o':=vo;refine⟨q1,e1.symm ▸ ?_,e2.symm ▸ ih h2 ho' (by simpa[cnt,Pm.out] using hl) q3⟩;rw[q1];exact q2.1
   |rd t=>exact ih h.2 J hl Z
   |ap t=>
    cases Tp with
    |nil=>exact h.elim
    |cons e Tp=>exact ih h.2.2 J hl Z
   |f1 b c=>exact ih h.2 J hl Z
   |f2 b c d=>exact ih h.2 J hl Z
theorem S.between {A B C:List (Nat×List Value)}{TL:List (Nat×Value)}(h:S W0 m w (A++(B++C)) TL)(k:Nat)(Z:k<=B.length):S W0 m w (A++(B.drop k++C)) TL:=by
 refine h.selL _ (λi=>if i<A.length then i else i+k) (λi e J=>?_) (λi j W=>?_)
 ·by_cases hi:i<A.length
  ·rw[if_pos hi]
   rw[Qg hi] at J ⊢;exact J
  ·rw[if_neg hi]
   rw[Qt (by omega)] at J ⊢;rw[show B.drop k++C=(B++C).drop k from(Qo Z).symm,Qq] at J;rw[show i+k - A.length=k+(i - A.length) by omega];exact J
 ·split at W<;>split at W<;>omega
theorem S.betweenT {A B C:List (Nat×Value)}{L:List (Nat×List Value)}(h:S W0 m w L (A++(B++C))):S W0 m w L (A++C):=by
 refine h.selT _ (λi=>if i<A.length then i else i+B.length) (λi e J=>?_) (λi j W=>?_)
 ·by_cases hi:i<A.length
  ·rw[if_pos hi]
   rw[Qg hi] at J ⊢;exact J
  ·rw[if_neg hi]
   rw[Qt (by omega)] at J ⊢;rw[Qt (by omega),show i+B.length - A.length - B.length=i - A.length by omega];exact J
 ·split at W<;>split at W<;>omega
theorem xD {l:List (Nat×Value)}{n:Nat}(J:Env n a l):∀{res:List Nat},(∀t∈res,lk l t=some (a.tmps.getD t undef))->o9 P a w (res.map ResultVar.tmp) (res.map λt=>a.tmps.getD t undef)
 |[],_=> .nil
 |t::res,h=> .tmp J (h t (by simp)) (xD J λu W=>h u (by simp[W]))
theorem DO {n:Nat}{fn:Func}{ps:List Pm}{rs:List Rm}{res:List Nat}{st:St G}{L:List (Nat×List Value)}{TL:List (Nat×Value)}{vs:List Value}{x:cU G ps}{Lp:List (Nat×List Value)}{Tp:List (Nat×Value)}{m0:M}{r:aZ G (fm ps rs)}
  (a0:fn.results.toList=res.map ResultVar.tmp) (hP:jH G P m0 ps vs x Lp Tp) (a6:(nmA ps vs Lp).length=cnt ps) (hs:Sat G P [] n W0 ⟨L,nmA ps vs Lp⟩ TL m0 st a w) (h:tf Γ ps rs res st=some r):
  Fin P fn (λv w'=>∃(m':M) (us:List Value) (Lr Lp':List (Nat×List Value)) (Tr:List (Nat×Value)),M.le m0 m'/\S W0 m' w' (Lr++(Lp'++L)) (Tr++TL)/\v=tup us/\lC G m' (ps.filterMap Pm.out) rs us r Lr Tr/\gH G m' ps vs (rest G (ps.filterMap Pm.out) rs r) Lp Lp') a w:=by
 obtain⟨⟨m,z,h0,hr,Lc,Tc,h1,h2,hS,b0⟩,hdf,hsz⟩:=hs;unfold tf at h;obtain⟨m1,a2,hF,_,_⟩:=uI (G:=G) (P:=P) (L0:=⟨L,nmA ps vs Lp⟩) (T0:=TL) (ps:=rs.map Rm.pm) (xs:=res.map Operand.tmp) (st:=st) (m:=m) (z:=z) ⟨hr,Lc,Tc,h1,h2,hS,b0⟩;split at h
 ·rename_i y J bk he
  split at h
  ·rename_i o hc ho
   injection h with h
   subst h;obtain⟨z',Lr,Tr,hz,⟨_,b1,b4,k1,k2,a5,a9⟩,hPR,_⟩:=uJ hF he;have a4:=k1.len;have hc:=Q0 hc;obtain⟨a3,W⟩:=a9;simp only at W
   have a1:a3.length=J.L.length - cnt ps:=by
    have:=congrArg Zl W;rw[Qf,a4.1,a6] at this;omega
   have b2:z'.b.drop (J.L.length - cnt ps)=nmA ps vs Lp:=by rw[W,←a1,List.drop_left]
   have kd:=k1.drop (J.L.length - cnt ps);rw[b2] at kd;have hO:=Bl hP ho (by simp;omega) kd;obtain⟨j1,j2⟩:=Bk (os:=ps.filterMap Pm.out) (o:=o) hPR
   have b3:(res.map Operand.tmp).map a.eval=res.map λt=>a.tmps.getD t undef:=by
    simp only[List.map_map,Function.comp_def];rfl
   obtain⟨l,Z,hl⟩:=dq hdf hsz (res.map Operand.tmp);refine Fin.mk Z a0 (xD Z λt ht=>hl (.tmp t) (List.mem_map_of_mem ht)) ⟨m1,_,Lr,b1.drop (J.L.length - cnt ps),Tr,h0.trans a2,?_,rfl,?_,?_⟩
   ·exact(S.between a5 _ (by omega)).betweenT
   ·rw[←b3];exact j1
   ·rw[j2];exact hO
  ·cases h
 ·cases h
theorem Ctr.of {f:FuncId}{fn:Func}{c:Code}{n:Nat}{ps:List Pm}{rs:List Rm}{res:List Nat}{D:List (CS P G)}{g:cU G ps->Option (aZ G (fm ps rs))}(A:An G (aZ G (fm ps rs)))
  (a1:P.follows .mixedOrders=true) (hf:P.funcs[f]? =some fn) (J:fn.body=some c) (hn:fn.ntmps=n) (a4:Zj ps.length n=true) (a0:fn.results.toList=res.map ResultVar.tmp)
  (hO:Obl (cnt ps) n Γ D c A 0 (tf Γ ps rs res) (λ_ _=>none) (tf Γ ps rs res)) (h:∀x,exF n Γ D c ps rs res A x=g x):Ctr G P f ps rs g:=by
 intro W0 m w L TL vs x r Lp Tp hS Z hg;rw[←h x] at hg;have a2:vs.length=ps.length:=(vx (a:={ tmps:=vs.toArray,defers:=[] }) (i:=0) Z (λj v hj=>by simp[hj])).choose_spec.2.2.2.1;refine vg hf J hn (by rw[a2];exact Q0 a4) λa hE=>?_
 have a3:∀j v,vs[j]? =some v->a.tmps.getD (0+j) undef=v:=by
  intro j v hj;rw[Nat.zero_add];refine hE.at_ j v ?_
  have key:∀(l:List Value) (k:Nat) (j:Nat) (v:Value),l[j]? =some v->lk ((List.range' k l.length).zip l) (k+j)=some v:=by
   intro l
   induction l with
   |nil=>intro k j v h;simp at h
   | cons u l ih=>
    intro k j v h;simp only[Qk,List.range'_succ,List.zip_cons_cons,lk];cases j with
    |zero=>simp at h;subst h;simp
    | succ j=>
     have J:Z2 k (k+(j+1))=false:=by
      cases J:Z2 k (k+(j+1)) with
      |false=>rfl
      |true=>have:=Q2 J;omega
     simp only[J];have:=ih (k+1) j v (by simpa using h);rw[show k+1+j=k+(j+1) by omega] at this;exact this
  have:=key vs 0 j v hj;rw[List.range_eq_range'];simpa using this
 obtain⟨zt,k1,k2,k3,_,k5⟩:=vx (a:=a) (i:=0) Z a3;have hs:Sat G P [] n W0 ⟨L,nmA ps vs Lp⟩ TL m (wC G ps x) a w:=⟨⟨m,⟨nmA ps vs Lp,zt⟩,M.le.refl m,k1,Lp,Tp,k2,k3,hS,⟨[],rfl⟩⟩,hE.defers,hE.size⟩
 refine zA (np:=cnt ps) (L0:=⟨L,nmA ps vs Lp⟩) (by rw[k5];exact Qd _) a1 c A (wC G ps x) _ _ _ r a w _ _ _ hg hO hs ?_ ?_ ?_
 ·intro st' a' w' W h2 _ _;exact DO a0 Z k5 h2 W
 ·intro j st' a' w' W;cases W
 ·intro st' a' w' W h2 _ _;exact DO a0 Z k5 h2 W
end
def rQ {β:Nat->Type}:List ((i:Nat)×β i)->(j:Nat)->Option (β j)
 |[],_=>none
 |⟨i,x⟩::l,j=>if h:i=j then some (h ▸ x) else rQ l j
def zB {β:Nat->Nat->Type}:List ((i:Nat)×(k:Nat)×β i k)->(j l:Nat)->Option (β j l)
 |[],_,_=>none
 |⟨i,k,x⟩::r,j,l=>if h:i=j then (if h':k=l then some (h ▸ h' ▸ x) else zB r j l) else zB r j l
def zC:List (Nat×((O:Type)×Kd O))->Nat->(O:Type)×Kd O
 |[],_=>⟨Bool,cj⟩
 |(i,p)::l,j=>if Z2 i j then p else zC l j
def I6 (l:List (Nat×((O:Type)×Kd O))):Sg:=⟨λi=>(zC l i).1,λi=>(zC l i).2⟩
section
variable {P:Program}{G:Sg}
def kX {i:TypeId}{k:IntKind}{J:Value}(h:P.underlying i=some (.int k))(hs:∀w,(sizeOf i).run P w= .ok 1 w)(ha:∀w,(isAgg i).run P w= .ok false w)(W:∀w,(zeroValue i).run P w= .ok J w)(hv:J= .int k 0)(Z:k.wrap 0=0):TI P G i:=
 ⟨.int k,⟨hs,ha⟩,⟨h⟩,(0:Int),J,W,λm=>by subst hv;exact⟨rfl,Z⟩⟩
def DP {i:TypeId}{J:Value}(h:P.underlying i=some .bool)(Z:∀w,(sizeOf i).run P w= .ok 1 w)(ha:∀w,(isAgg i).run P w= .ok false w)(W:∀w,(zeroValue i).run P w= .ok J w)(hv:J= .bool false):TI P G i:=
 ⟨.bool,⟨Z,ha⟩,⟨h⟩,false,J,W,λm=>by subst hv;exact rfl⟩
def Cm {i:TypeId}{J:Value}(h:P.underlying i=some .string)(Z:∀w,(sizeOf i).run P w= .ok 1 w)(ha:∀w,(isAgg i).run P w= .ok false w)(W:∀w,(zeroValue i).run P w= .ok J w)(hv:J= .string ⟨#[]⟩):TI P G i:=
 ⟨.str,⟨Z,ha⟩,⟨h⟩,([]:List Int),J,W,λm=>by subst hv;exact⟨rfl,by simp,by simp⟩⟩
def rR {i:TypeId}(t:Ty)(B:SlI P G i t){h:Value}(W:∀w,(sizeOf i).run P w= .ok 1 w)(ha:∀w,(isAgg i).run P w= .ok false w)(J:∀w,(zeroValue i).run P w= .ok h w)(Z:h= .slice none 0 0):TI P G i:=
 ⟨.sl t,⟨W,ha⟩,B,([]:List (t.den G)),h,J,λm=>by subst Z;exact⟨none,0,0,rfl,rfl,Qd _,by simp,rfl⟩⟩
end
section
variable {G:Sg}{P:Program}
def An.nc:{ρ:Type}->An G ρ->Bool
 |_,.o=>true
 |_,.s p q=>p.nc&&q.nc
 |_,.c _ _ _ _=>false
 |_,.l _ q=>q.nc
 |_,.b p=>p.nc
 |_,.i p q=>p.nc&&q.nc
theorem Obl.nc (np n:Nat)(Γ:Tab P G)(D:List (CS P G))(c:Code):∀{ρ:Type} (A:An G ρ) (d:Nat) (N:St G->Option ρ) (X:Nat->St G->Option ρ) (R:St G->Option ρ),A.nc=true->Obl np n Γ D c A d N X R:=by
 induction c with
 | seq x y hx hy=>
  intro ρ A d N X R h;cases A with
  |s l r=>
   have h:(l.nc&&r.nc)=true:=h;rw[Q7] at h;exact⟨hx l d _ X R h.1,hy r d N X R h.2⟩
  |c l T J r=>cases h
  |_=>exact trivial
 | cond c x y hx hy=>
  intro ρ A d N X R h;cases A with
  |i l r=>
   have h:(l.nc&&r.nc)=true:=h;rw[Q7] at h;exact⟨hx l d N X R h.1,hy r d N X R h.2⟩
  |_=>exact trivial
 |block id c hc=>
  intro ρ A d N X R h;cases A with
  |b a=>exact hc a d N _ R h
  |_=>exact trivial
 |scope c hc=>
  intro ρ A d N X R h;cases A with
  |b a=>exact hc a d N X R h
  |_=>exact trivial
 |loop c hc=>
  intro ρ A d N X R h;cases A with
  |l T b=>exact hc b (d+1) _ _ _ h
  |_=>exact trivial
 |_=>intro ρ A d N X R h;exact trivial
theorem Ctr.nc {Γ:Tab P G}{f:FuncId}{fn:Func}{c:Code}{n:Nat}{ps:List Pm}{rs:List Rm}{res:List Nat}{D:List (CS P G)}{g:cU G ps->Option (aZ G (fm ps rs))}(A:An G (aZ G (fm ps rs)))
  (hA:A.nc=true) (a0:P.follows .mixedOrders=true) (hf:P.funcs[f]? =some fn) (J:fn.body=some c) (W:fn.ntmps=n) (Z:Zj ps.length n=true) (a1:fn.results.toList=res.map ResultVar.tmp)
  (h:∀x,exF n Γ D c ps rs res A x=g x):Ctr G P f ps rs g:=
 Ctr.of A a0 hf J W Z a1 (Obl.nc _ _ _ _ c A 0 _ _ _ hA) h
end
section
variable {P:Program}{G:Sg}
def slI {i e:TypeId}(E:TI P G e)(h:TypeInfo)(by_:Nat)(hu:P.underlying i=some (.slice e))(hs:∀w,(sizeOf e).run P w= .ok (E.T.kd G).sz w)(W:mF P e (E.T.kd G).sz by_)(hi:P.info? e=some h)(J:h.zero=some E.zv)(a0:h.size=(E.T.kd G).sz)(Z:h.bytes=by_):SlI P G i E.T:=
 ⟨e,by_,E.z,E.zv,h,hu,hs,W,E.hz,E.hzR,hi,J,a0,Z⟩
def rS {i:TypeId}{h:Value}(ok:cI P i (G.k i))(J:∀w,(zeroValue i).run P w= .ok h w)(z:G.O i)(W:∀m,(G.k i).R m h.cells.toList z):TI P G i:=
 ⟨.st i,ok,(),z,h,J,W⟩
def arI {i e:TypeId}(E:TI P G e)(n:Nat){h:Value}(hu:P.underlying i=some (.array n e))(Z:∀w,(sizeOf e).run P w= .ok (E.T.kd G).sz w)(J:∀w,(zeroValue i).run P w= .ok h w)(a0:h.cells=((Q4 n E.zv.cells.toList).flatten).toArray)(W:Zj n bU=true):AI P G i:=
 ⟨n,E.T,e,E.z,h,E.zv.cells.toList,hu,Z,J,a0,E.hzR,W⟩
end
section
variable {G:Sg}{P:Program}{W0:Bse}{m:M}{z:Cz}{a:Act}{w:World}{Γ:Tab P G}
def GN (Γ:Tab P G)(st:St G)(b t:Nat):Option (AV G):=
  match Γ.ty t,av? (st.op (.tmp b)) with
  | some I,some (.blk i)=>(match d7 st.L i with
    |some (.dat c x)=>if c=I.T then some (.dat c x none) else none
    |_=>none)
  |_,_=>none
def n5 (Γ:Tab P G) (n:Nat):Nat->List ResultVar->St G->Option (List Nat×St G)
  |_,[],st=>some ([],st)
  | k,.tmp t::r,st=>(match Nat.blt t n,n5 Γ n k r st with
    |true,some (ts,st')=>some (t::ts,st')
    |_,_=>none)
  | k,.cell b t::r,st=>(match Nat.blt b n,GN Γ st b t with
    |true,some v=>(match n5 Γ n (k+1) r (st.put k (.one v)) with|some (ts,st')=>some (k::ts,st')|none=>none)
    |_,_=>none)
def wD (Γ:Tab P G)(n:Nat)(ps:List Pm)(rs:List Rm)(res:List ResultVar)(st:St G):Option (aZ G (fm ps rs)):=
  match n5 Γ n n res st with
  |some (ts,st')=>tf Γ ps rs ts st'
  |none=>none
noncomputable def exX (n:Nat) (Γ:Tab P G) (D:List (CS P G)) (c:Code) (ps:List Pm) (rs:List Rm) (res:List ResultVar) (A:An G (aZ G (fm ps rs))) (x:cU G ps):Option (aZ G (fm ps rs)):=
  ex n Γ D c A (wC G ps x) (wD Γ n ps rs res) (λ_ _=>none) (wD Γ n ps rs res)
theorem pi {xs:Array Value}{v:Value}{t:Nat}(h:t≠xs.size):(xs.push v).getD t undef=xs.getD t undef:=by
  simp only[Array.getD_eq_getD_getElem?,Array.getElem?_push];rw[if_neg h]
theorem tg {xs:Array Value}{v:Value}:(xs.push v).getD xs.size undef=v:=by
  simp[Array.getD_eq_getD_getElem?,Array.getElem?_push]
theorem FV {n : Nat} {L0:Rs} {T0:List (Nat×Value)} {m0:M}:∀{res:List ResultVar} {k:Nat} {st:St G} {a':Act} {ts:List Nat} {st':St G},Sat G P [] k W0 L0 T0 m0 st a' w->n<=k->(∀t,t<n->a'.tmps.getD t undef=a.tmps.getD t undef)->n5 Γ n k res st=some (ts,st')->
    ∃(k':Nat) (W:Act),Sat G P [] k' W0 L0 T0 m0 st' W w/\(∀t,t<k->W.tmps.getD t undef=a'.tmps.getD t undef)/\o9 P a w res (ts.map λt=>W.tmps.getD t undef):=by
  intro res
  induction res with
  | nil=>
    intro k st a' ts st' hs hk ha h;unfold n5 at h;obtain⟨rfl,rfl⟩:=Prod.mk.inj (Option.some.inj h);exact⟨k,a',hs,λ_ _=>rfl,.nil⟩
  | cons r res ih =>
    intro k st a' ts st' hs hk ha h;cases r with
    | tmp t=>
      unfold n5 at h;split at h
      · rename_i a2 st0 Z h0
        obtain⟨rfl,rfl⟩:=Prod.mk.inj (Option.some.inj h);have Z:t<n:=Q0 Z;obtain⟨k',W,h1,h2,h3⟩:=ih hs hk ha h0;refine⟨k',W,h1,h2,.cons ?_ h3⟩;simp only;rw[←ha t Z,←h2 t (Qz Z hk)]
        rfl
      ·cases h
    | cell b t=>
      unfold n5 at h;split at h
      · rename_i v hb J
        have hb:b<n:=Q0 hb;cases hq:n5 Γ n (k+1) res (st.put k (.one v)) with
        |none=>rw[hq] at h;cases h
        | some q=>
          rw[hq] at h;obtain⟨a2,st0⟩:=q;obtain⟨rfl,rfl⟩:=Prod.mk.inj (Option.some.inj h);unfold GN at J;split at J
          · rename_i I i hI hi
            split at J
            · rename_i c x hB
              split at J
              · rename_i hc
                injection J with J
                subst J;subst hc;obtain⟨⟨m,z,h0,hr,hM⟩,hdf,hsz⟩:=hs;obtain⟨p',a0,a4⟩:=aU (ez hr) hi;obtain⟨L,TL,p,cs,j,hS,g1,g2,g3⟩:=hM.get hB;rw[g1] at a0;injection a0 with a0
                subst a0;have a1:RV (I.T.kd G) m ((I.T.kd G).val cs) x:=wq g3
                have a3:Sat G P [] (k+1) W0 L0 T0 m0 (st.put k (.one (.dat I.T x none))) { a' with tmps:=a'.tmps.push ((I.T.kd G).val cs) } w:=by
                  refine⟨⟨m,z,h0,?_,hM⟩,hdf,by simp[hsz]⟩;intro e he;rcases Q9.1 he with rfl|he
                  · simp only
                    rw[←hsz,tg];exact⟨a1,trivial⟩
                  · obtain⟨q1,q2⟩:=kf he
                    have:=hr e q1;simp only;rw[pi (by rw[hsz];exact q2)];exact this
                obtain⟨k',W,h1,h2,h3⟩:=ih a3 (by omega) (λt Z=>by
                  simp only;rw[pi (by rw[hsz];omega)]
                  exact ha t Z) hq
                refine⟨k',W,h1,λt Z=>?_,.cons ?_ h3⟩
                · rw[h2 t (by omega)]
                  simp only;rw[pi (by rw[hsz];omega)]
                · have e1:W.tmps.getD k undef=(I.T.kd G).val cs:=by
                    rw[h2 k (by omega)];simp only;rw[←hsz,tg]
                  have e2:a.tmps.getD b undef= .pointer (some ⟨p.1,0,none⟩):=by
                    rw[←ha b hb];exact a4
                  simp only;rw[e1,e2]
                  have hA:At w p.1 0 cs:=by
                    have:=hS.atL g2 (o:=0) (cs':=cs) (by simp) (by rw[(I.T.kd G).len g3];exact(I.T.kd G).pos);exact this
                  simp[asAddr,ib I.ok g3 hA]
              ·cases J
            ·cases J
          ·cases J
      ·cases h
theorem Bm {n:Nat} {fn:Func} {ps:List Pm} {rs:List Rm} {res:List ResultVar} {st:St G} {L:List (Nat×List Value)} {TL:List (Nat×Value)} {vs:List Value} {x:cU G ps} {Lp:List (Nat×List Value)} {Tp:List (Nat×Value)} {m0:M} {r:aZ G (fm ps rs)}
    (a2:fn.results.toList=res) (hP:jH G P m0 ps vs x Lp Tp) (b3:(nmA ps vs Lp).length=cnt ps) (W:Sat G P [] n W0 ⟨L,nmA ps vs Lp⟩ TL m0 st a w) (h:wD Γ n ps rs res st=some r):
    Fin P fn (λv w'=>∃(m':M) (us:List Value) (Lr Lp':List (Nat×List Value)) (Tr:List (Nat×Value)),M.le m0 m'/\S W0 m' w' (Lr++(Lp'++L)) (Tr++TL)/\v=tup us/\lC G m' (ps.filterMap Pm.out) rs us r Lr Tr/\gH G m' ps vs (rest G (ps.filterMap Pm.out) rs r) Lp Lp') a w:=by
  unfold wD at h;split at h
  · rename_i Z a1 b1
    obtain⟨k',a9,hs,_,b7⟩:=FV (a:=a) W (Qd n) (λ_ _=>rfl) b1;obtain⟨l0,b2,_⟩:=dq W.df W.sz [];obtain⟨⟨m,z,h0,hr,Lc,Tc,h1,h2,hS,b5⟩,hdf,hsz⟩:=hs;unfold tf at h;obtain⟨m1,a4,hF,_,_⟩:=uI (G:=G) (P:=P) (L0:=⟨L,nmA ps vs Lp⟩) (T0:=TL) (ps:=rs.map Rm.pm) (xs:=Z.map Operand.tmp) (st:=a1) (m:=m) (z:=z) ⟨hr,Lc,Tc,h1,h2,hS,b5⟩;split at h
    · rename_i y J bk he
      split at h
      · rename_i o hc ho
        injection h with h
        subst h;obtain⟨z',Lr,Tr,hz,⟨_,b6,c2,k1,k2,b0,b4⟩,hPR,_⟩:=uJ hF he;have a6:=k1.len;have hc:=Q0 hc;obtain⟨a5,a0⟩:=b4;simp only at a0
        have a3:a5.length=J.L.length - cnt ps:=by
          have:=congrArg Zl a0;rw[Qf,a6.1,b3] at this;omega
        have c0:z'.b.drop (J.L.length - cnt ps)=nmA ps vs Lp:=by rw[a0,←a3,List.drop_left]
        have kd:=k1.drop (J.L.length - cnt ps);rw[c0] at kd;have hO:=Bl hP ho (by simp;omega) kd;obtain⟨j1,j2⟩:=Bk (os:=ps.filterMap Pm.out) (o:=o) hPR
        have c1:(Z.map Operand.tmp).map a9.eval=Z.map λt=>a9.tmps.getD t undef:=by
          simp only[List.map_map,Function.comp_def];rfl
        refine Fin.mk b2 a2 b7 ⟨m1,_,Lr,b6.drop (J.L.length - cnt ps),Tr,h0.trans a4,?_,rfl,?_,?_⟩
        ·exact(S.between b0 _ (by omega)).betweenT
        ·rw[←c1];exact j1
        ·rw[j2];exact hO
      ·cases h
    ·cases h
  ·cases h
theorem Ctr.ofX {f:FuncId} {fn:Func} {c:Code} {n:Nat} {ps:List Pm} {rs:List Rm} {res:List ResultVar} {D:List (CS P G)} {g:cU G ps->Option (aZ G (fm ps rs))} (A:An G (aZ G (fm ps rs)))
    (a1:P.follows .mixedOrders=true) (hf:P.funcs[f]? =some fn) (J:fn.body=some c) (hn:fn.ntmps=n) (a4:Zj ps.length n=true) (a0:fn.results.toList=res)
    (hO:Obl (cnt ps) n Γ D c A 0 (wD Γ n ps rs res) (λ_ _=>none) (wD Γ n ps rs res)) (h:∀x,exX n Γ D c ps rs res A x=g x):Ctr G P f ps rs g:=by
  intro W0 m w L TL vs x r Lp Tp hS Z hg;rw[←h x] at hg;have a2:vs.length=ps.length:=(vx (a:={ tmps:=vs.toArray,defers:=[] }) (i:=0) Z (λj v hj=>by simp[hj])).choose_spec.2.2.2.1;refine vg hf J hn (by rw[a2];exact Q0 a4) λa hE=>?_
  have a3:∀j v,vs[j]? =some v->a.tmps.getD (0+j) undef=v:=by
    intro j v hj;rw[Nat.zero_add];refine hE.at_ j v ?_
    have key:∀(l:List Value) (k:Nat) (j:Nat) (v:Value),l[j]? =some v->lk ((List.range' k l.length).zip l) (k+j)=some v:=by
      intro l
      induction l with
      |nil=>intro k j v h;simp at h
      | cons u l ih=>
        intro k j v h;simp only[Qk,List.range'_succ,List.zip_cons_cons,lk];cases j with
        |zero=>simp at h;subst h;simp
        | succ j=>
          have J:Z2 k (k+(j+1))=false:=by
            cases J:Z2 k (k+(j+1)) with
            |false=>rfl
            |true=>have:=Q2 J;omega
          simp only[J];have:=ih (k+1) j v (by simpa using h);rw[show k+1+j=k+(j+1) by omega] at this;exact this
    have:=key vs 0 j v hj;rw[List.range_eq_range'];simpa using this
  obtain⟨zt,k1,k2,k3,_,k5⟩:=vx (a:=a) (i:=0) Z a3;have hs:Sat G P [] n W0 ⟨L,nmA ps vs Lp⟩ TL m (wC G ps x) a w:=⟨⟨m,⟨nmA ps vs Lp,zt⟩,M.le.refl m,k1,Lp,Tp,k2,k3,hS,⟨[],rfl⟩⟩,hE.defers,hE.size⟩
  refine zA (np:=cnt ps) (L0:=⟨L,nmA ps vs Lp⟩) (by rw[k5];exact Qd _) a1 c A (wC G ps x) _ _ _ r a w _ _ _ hg hO hs ?_ ?_ ?_
  ·intro st' a' w' W h2 _ _;exact Bm a0 Z k5 h2 W
  ·intro j st' a' w' W;cases W
  ·intro st' a' w' W h2 _ _;exact Bm a0 Z k5 h2 W
theorem Ctr.nX {Γ:Tab P G}{f:FuncId}{fn:Func}{c:Code}{n:Nat}{ps:List Pm}{rs:List Rm}{res:List ResultVar}{D:List (CS P G)}{g:cU G ps->Option (aZ G (fm ps rs))}(A:An G (aZ G (fm ps rs)))
    (hA:A.nc=true) (a0:P.follows .mixedOrders=true) (hf:P.funcs[f]? =some fn) (J:fn.body=some c) (W:fn.ntmps=n) (Z:Zj ps.length n=true) (a1:fn.results.toList=res)
    (h:∀x,exX n Γ D c ps rs res A x=g x):Ctr G P f ps rs g:=
  Ctr.ofX A a0 hf J W Z a1 (Obl.nc _ _ _ _ c A 0 _ _ _ hA) h
end
section
variable {G:Sg}{P:Program}{m:M}{os:List Ty}{ps:List Pm}{rs:List Rm}{vs us:List Value}{Lp Lp' Lr:List (Nat×List Value)}{Tp Tr:List (Nat×Value)}
theorem lL {x:cU G []}(h:jH G P m [] vs x Lp Tp):vs=[]/\Lp=[]/\Tp=[]:=by
 cases vs<;>cases Lp<;>cases Tp<;>first|exact⟨rfl,rfl,rfl⟩|exact h.elim
theorem it {t:Ty}{x:cU G (.rd t::ps)}(h:jH G P m (.rd t::ps) vs x Lp Tp):∃v vs',vs=v::vs'/\RV (t.kd G) m v x.1/\jH G P m ps vs' x.2 Lp Tp:=by
 cases vs with
 |nil=>cases Lp<;>cases Tp<;>exact h.elim
 |cons v vs=>exact⟨v,vs,rfl,h.1,h.2⟩
theorem Mz {t:Ty}{x:cU G (.ap t::ps)}(h:jH G P m (.ap t::ps) vs x Lp Tp):∃v vs' Tp',vs=v::vs'/\Tp=((t.kd G).sz,v)::Tp'/\RV (kSl (t.kd G)) m v x.1/\jH G P m ps vs' x.2 Lp Tp':=by
 cases vs with
 |nil=>cases Lp<;>cases Tp<;>exact h.elim
 |cons v vs=>
  cases Tp with
  |nil=>cases Lp<;>exact h.elim
  |cons e Tp=>obtain⟨W,rfl,J⟩:=h;exact⟨v,vs,Tp,rfl,rfl,W,J⟩
theorem bF {x:aZ G (([]:List Rm).map Rm.ty++os)}(h:lC G m os [] us x Lr Tr):us=[]/\Lr=[]/\Tr=[]:=by
 cases us<;>cases Lr<;>cases Tr<;>first|exact⟨rfl,rfl,rfl⟩|exact h.elim
theorem cH {t:Ty}{x:aZ G ((Rm.rd t::rs).map Rm.ty++os)}(h:lC G m os (.rd t::rs) us x Lr Tr):∃v us',us=v::us'/\RV (t.kd G) m v (hdT G t (rs.map Rm.ty++os) x)/\lC G m os rs us' (tlT G t (rs.map Rm.ty++os) x) Lr Tr:=by
 cases us with
 |nil=>cases Lr<;>cases Tr<;>exact h.elim
 |cons v us=>exact⟨v,us,rfl,h.1,h.2⟩
theorem pW {t:Ty}{x:aZ G ((Rm.ap t::rs).map Rm.ty++os)}(h:lC G m os (.ap t::rs) us x Lr Tr):∃v us' Tr',us=v::us'/\Tr=((t.kd G).sz,v)::Tr'/\RV (kSl (t.kd G)) m v (hdT G (.sl t) (rs.map Rm.ty++os) x)/\lC G m os rs us' (tlT G (.sl t) (rs.map Rm.ty++os) x) Lr Tr':=by
 cases us with
 |nil=>cases Lr<;>cases Tr<;>exact h.elim
 |cons v us=>
  cases Tr with
  |nil=>cases Lr<;>exact h.elim
  |cons e Tr=>obtain⟨W,rfl,J⟩:=h;exact⟨v,us,Tr,rfl,rfl,W,J⟩
theorem bG {x:aZ G (([]:List Pm).filterMap Pm.out)}(h:gH G m [] vs x Lp Lp'):Lp'=[]:=by
 cases vs<;>cases Lp<;>cases Lp'<;>first|rfl|exact h.elim
theorem bj {t:Ty}{v:Value}{x:aZ G ((Pm.rd t::ps).filterMap Pm.out)}(h:gH G m (.rd t::ps) (v::vs) x Lp Lp'):gH G m ps vs x Lp Lp':=h
theorem GO {t:Ty}{v:Value}{x:aZ G ((Pm.ap t::ps).filterMap Pm.out)}(h:gH G m (.ap t::ps) (v::vs) x Lp Lp'):gH G m ps vs x Lp Lp':=h
theorem GP {a b:Ty}{v:Value}{x:aZ G ((Pm.f1 a b::ps).filterMap Pm.out)}(h:gH G m (.f1 a b::ps) (v::vs) x Lp Lp'):gH G m ps vs x Lp Lp':=h
theorem vy {a c b:Ty}{v:Value}{x:aZ G ((Pm.f2 a c b::ps).filterMap Pm.out)}(h:gH G m (.f2 a c b::ps) (v::vs) x Lp Lp'):gH G m ps vs x Lp Lp':=h
theorem GQ {t:Ty}{v:Value}{b:Nat}{cs:List Value}{x:aZ G ((Pm.ow t::ps).filterMap Pm.out)}(h:gH G m (.ow t::ps) (v::vs) x ((b,cs)::Lp) Lp'):∃cs' Lp'',Lp'=(b,cs')::Lp''/\GS (t.kd G) m b cs' v (hdT G (.sl t) (ps.filterMap Pm.out) x)/\gH G m ps vs (tlT G (.sl t) (ps.filterMap Pm.out) x) Lp Lp'':=by
 cases Lp' with
 |nil=>exact h.elim
 |cons e Lp'=>obtain⟨b',cs'⟩:=e;obtain⟨J,Z,W⟩:=h;simp only at J;subst J;exact⟨cs',Lp',rfl,Z,W⟩
end
noncomputable section
structure Ap where
 fKind:Int
 fBool:Bool
 fInt:Int
 fText:(List Int)
 deriving DecidableEq
def Ap.zero:Ap:=⟨0,false,0,[]⟩
structure aL where
 fMany:Int
 fValue:Ap
 deriving DecidableEq
def aL.zero:aL:=⟨0,Ap.zero⟩
structure bg where
 fKind:Int
 fMany:Int
 fMin:Ap
 fMax:Ap
 fNulls:Int
 fBytes:Int
 deriving DecidableEq
def bg.zero:bg:=⟨0,0,Ap.zero,Ap.zero,0,0⟩
structure DQ where
 fMany:Int
 fValue:Ap
 deriving DecidableEq
def DQ.zero:DQ:=⟨0,Ap.zero⟩
structure Bn where
 fKind:Int
 fMany:Int
 fMin:Ap
 fMax:Ap
 fNulls:Int
 fBytes:Int
 deriving DecidableEq
def Bn.zero:Bn:=⟨0,0,Ap.zero,Ap.zero,0,0⟩
structure ae where
 fB:(List Int)
 fOk:Bool
 deriving DecidableEq
def ae.zero:ae:=⟨[],false⟩
structure aF where
 fEpoch:Int
 fNumber:Int
 deriving DecidableEq
def aF.zero:aF:=⟨0,0⟩
structure aa where
 fId:aF
 fRow:(List Ap)
 fDeleted:Int
 deriving DecidableEq
def aa.zero:aa:=⟨aF.zero,[],0⟩
structure ay where
 fColumns:Int
 fSort:(List Int)
 fL:(List aa)
 deriving DecidableEq
def ay.zero:ay:=⟨0,[],[]⟩
structure oF where
 fColumns:Int
 fSort:(List Int)
 fKinds:(List Int)
 fL:(List aa)
 deriving DecidableEq
def oF.zero:oF:=⟨0,[],[],[]⟩
structure Bo where
 fColumns:Int
 fSort:(List Int)
 fL:(List aa)
 deriving DecidableEq
def Bo.zero:Bo:=⟨0,[],[]⟩
def ud (p0:List Ap):Option (List Ap):=
 (app 3518437208883 ([]) p0).bind λh=>
 some h
def ky:Option Int:=
 some (-1)
def dC (p0:List Ap)(p1:(Ap->Option Bool))(h:Int):Option (Int⊕Int):=
 if decide (h<(p0.length:Int)) then
  (idx p0 h).bind λJ=>
  (p1 J).bind λW=>
  if W then
   (some h).map Sum.inr
  else
   some (.inl (zw.wrap (h+1)))
 else
  (ky).map Sum.inr
def je (p0:List Ap)(p1:(Ap->Option Bool)):Option Int:=
 aq (λs:Int=>dC p0 p1 s) 0
def dD (p0:List Ap)(p1:(Ap->Option Bool)):Option Bool:=
 (je p0 p1).bind λh=>
 some (decide (0<=h))
def jJ:Option Ap:=
 some (⟨0,false,0,[]⟩:Ap)
def mG (p0:Bool):Option Ap:=
 some (⟨1,p0,0,[]⟩:Ap)
def dK (p0:Int):Option Ap:=
 some (⟨2,false,p0,[]⟩:Ap)
def mH (p0:List Int):Option Ap:=
 some (⟨3,false,0,p0⟩:Ap)
def nq (h:Bool):Option Bool:=
 some h
def kj (p0:Ap):Option Bool:=
 if p0.fKind==0 then
  (jJ).bind λW=>
  some (decide (p0=W))
 else
  if p0.fKind==1 then
   (mG p0.fBool).bind λZ=>
   some (decide (p0=Z))
  else
   if p0.fKind==2 then
    (dK p0.fInt).bind λh=>
    some (decide (p0=h))
   else
    if p0.fKind==3 then
     (mH p0.fText).bind λJ=>
     if decide (p0=J) then
      nq (decide ((p0.fText.length:Int)<=64))
     else
      nq false
    else
     some false
def ek (p0:Ap):Option Bool:=
 (kj p0).bind λh=>
 some (!h)
def qY (h:List Int):Option (List Int×Bool):=
 some (h,true)
def kY (p0:List Ap)(J:List Int)(h:Int):Option ((List Int×Int)⊕(List Int×Bool)):=
 if decide (h<(p0.length:Int)) then
  (idx p0 h).bind λW=>
  if W.fKind != 2 then
   (some ([],false)).map Sum.inr
  else
   (app 17592186044416 J ([W.fInt])).bind λZ=>
   some (.inl (Z,zw.wrap (h+1)))
 else
  (qY J).map Sum.inr
def lM (p0:List Ap):Option (List Int×Bool):=
 aq (λs:(List Int×Int)=>kY p0 s.1 s.2) ([],0)
def kZ (h:List aL):Option (List aL):=
 some h
def g8 (h:Int)(J:List aL):Option ((Int×List aL)⊕List aL):=
 some (.inl (zw.wrap (h+1),J))
def k8 (J:Int)(h:List aL)(W:Ap):Option ((Int×List aL)⊕List aL):=
 (app 2932031007402 h ([(⟨1,W⟩:aL)])).bind λZ=>
 g8 J Z
def fZ (Z:Int)(h:List aL)(J:Int)(a1:Bool):Option (Int⊕((Int×List aL)⊕List aL)):=
 if a1 then
  (ix h J).bind λa2=>
  (h[a2]?).bind λa0=>
  (ix h J).bind λW=>
  (h[W]?).bind λx106=>
  (g8 Z (h.set W ({ x106 with fMany:=zw.wrap (a0.fMany+1) }))).map Sum.inr
 else
  some (.inl (zw.wrap (J+1)))
def dV (W:Int)(h:List aL)(Z:Ap)(J:Int):Option (Int⊕((Int×List aL)⊕List aL)):=
 if decide (J<(h.length:Int)) then
  if J==(zw.wrap ((h.length:Int) - 1)) then
   (ix h J).bind λa0=>
   (h[a0]?).bind λa1=>
   fZ W h J (decide (a1.fValue=Z))
  else
   fZ W h J false
 else
  (k8 W h Z).map Sum.inr
def jv (p0:List Ap)(h:Int)(J:List aL):Option ((Int×List aL)⊕List aL):=
 if decide (h<(p0.length:Int)) then
  (idx p0 h).bind λW=>
  aq (λs:Int=>dV h J W s) 0
 else
  (kZ J).map Sum.inr
def ko (p0:List Ap):Option (List aL):=
 aq (λs:(Int×List aL)=>jv p0 s.1 s.2) (0,([]:List aL))
def up (p0:List Ap):Option Bool:=
 some (decide ((p0.length:Int)<=16))
def nM (p0:List Ap)(h:Int):Option (Int⊕Bool):=
 if decide (h<(p0.length:Int)) then
  (idx p0 h).bind λJ=>
  (kj J).bind λW=>
  if !W then
   (some false).map Sum.inr
  else
   some (.inl (zw.wrap (h+1)))
 else
  (up p0).map Sum.inr
def pj (p0:List Ap):Option Bool:=
 aq (λs:Int=>nM p0 s) 0
def ma (p0:List Int)(J:List Int):Option (List Int):=
 (app 140737488355328 p0 J).bind λh=>
 some h
def j5 (p0:List Int)(p1:Int)(h:Int)(J:List Int):Option ((Int×List Int)⊕List Int):=
 if decide (h<8) then
  (chk (decide (0<=(zw.wrap (56 - (zw.wrap (8*h))))))).bind λZ=>
  (ix J h).bind λW=>
  (J[W]?).bind λa0=>
  some (.inl (zw.wrap (h+1),(J.set W (Qm.wrap (aP .u64 p1 (zw.wrap (56 - (zw.wrap (8*h)))))))))
 else
  (ma p0 J).map Sum.inr
def k9 (p0:List Int)(p1:Int):Option (List Int):=
 aq (λs:(Int×List Int)=>j5 p0 p1 s.1 s.2) (0,(Q4 8 0:List Int))
def rT (p0:List Int)(p1:Ap):Option (List Int):=
 (app 140737488355328 p0 ([Qm.wrap p1.fKind])).bind λh=>
 if p1.fKind==1 then
  if p1.fBool then
   (app 140737488355328 h ([1])).bind λZ=>
   some Z
  else
   (app 140737488355328 h ([0])).bind λJ=>
   some J
 else
  if p1.fKind==2 then
   (k9 h (Q3.wrap p1.fInt)).bind λa1=>
   some a1
  else
   if p1.fKind==3 then
    (app 140737488355328 h ([Qm.wrap (p1.fText.length:Int)])).bind λa0=>
    (app 140737488355328 a0 p1.fText).bind λW=>
    some W
   else
    some h
def qZ (h:List Int):Option (List Int×Int):=
 some (h,0)
def nr (p0:List Ap)(x36:List Int)(h:Int):Option ((List Int×Int)⊕(List Int×Int)):=
 if decide (h<(p0.length:Int)) then
  (idx p0 h).bind λJ=>
  (rT x36 J).bind λW=>
  some (.inl (W,zw.wrap (h+1)))
 else
  (qZ x36).map Sum.inr
def lN (p0:List Ap):Option (List Int×Int):=
 (pj p0).bind λh=>
 if !h then
  some ([],30)
 else
  aq (λs:(List Int×Int)=>nr p0 s.1 s.2) ([Qm.wrap (p0.length:Int)],0)
def jK (p0:Ap):Option (List Int):=
 (lN ([p0])).bind λh=>
 (sub h.1 1 h.1.length).bind λJ=>
 some J
def q8 (h:List Int):Option (List Int):=
 some h
def nt (W:List aL)(J:List Int)(x25:Int):Option ((List Int×Int)⊕List Int):=
 if decide (x25<(W.length:Int)) then
  (idx W x25).bind λh=>
  (app 140737488355328 J ([Qm.wrap h.fMany])).bind λZ=>
  (jK h.fValue).bind λa0=>
  (app 140737488355328 Z a0).bind λa1=>
  some (.inl (a1,zw.wrap (x25+1)))
 else
  (q8 J).map Sum.inr
def lO (p0:List Ap):Option (List Int):=
 (ko p0).bind λh=>
 aq (λs:(List Int×Int)=>nt h s.1 s.2) ([],0)
def vz (x6:List Int):Option (List Int):=
 some x6
def fo (p0:Int)(J:List Int)(h:Int):Option ((List Int×Int)⊕List Int):=
 if decide (h<8) then
  (chk (decide (0<=(zw.wrap (56 - (zw.wrap (8*h))))))).bind λZ=>
  (app 140737488355328 J ([Qm.wrap (aP .u64 p0 (zw.wrap (56 - (zw.wrap (8*h)))))])).bind λW=>
  some (.inl (W,zw.wrap (h+1)))
 else
  (vz J).map Sum.inr
def kL (p0:Int):Option (List Int):=
 aq (λs:(List Int×Int)=>fo p0 s.1 s.2) ([],0)
def pX (h:List Int):Option (List Int):=
 some h
def pY (h:Int)(J:List Int):Option ((List Int×Int)⊕List Int):=
 some (.inl (J,zw.wrap (h+1)))
def pZ (J:Int)(Z:List Int)(W:Int):Option ((List Int×Int)⊕List Int):=
 (app 140737488355328 Z ([Qm.wrap W])).bind λh=>
 pY J h
def iP (J:Int)(x106:List Int)(h:Int):Option ((List Int×Int)⊕((List Int×Int)⊕List Int)):=
 if decide (127<h) then
  (app 140737488355328 x106 ([bOr .u8 (Qm.wrap h) 128])).bind λW=>
  some (.inl (W,aP .u64 h 7))
 else
  (pZ J x106 h).map Sum.inr
def mI (p0:List Int)(a0:List Int)(Z:List Int)(h:Int):Option ((List Int×Int)⊕List Int):=
 if decide (h<(a0.length:Int)) then
  (idx a0 h).bind λJ=>
  (idx p0 h).bind λW=>
  aq (λs:(List Int×Int)=>iP h s.1 s.2) (Z,fh .u64 (eu .u64 (Q3.wrap (zw.wrap (J - W))) 1) (Q3.wrap (aP .i64 (zw.wrap (J - W)) 63)))
 else
  (pX Z).map Sum.inr
def kM (p0:List Int):Option (List Int):=
 (idx p0 0).bind λh=>
 (kL (Q3.wrap h)).bind λW=>
 (sub p0 1 p0.length).bind λJ=>
 aq (λs:(List Int×Int)=>mI p0 J s.1 s.2) (W,0)
def gu (p0:List Ap):Option (List Ap):=
 (app 3518437208883 ([]) p0).bind λh=>
 some h
def jw (p0:List Ap)(p1:(Ap->Ap->Option Int)):Option (List Ap):=
 tY p1 p0
def j6 (p0:Int):Option Bool:=
 some (p0 != p0)
def gE (p0:Int)(p1:Int):Option Int:=
 (j6 p0).bind λJ=>
 (j6 p1).bind λh=>
 if J then
  if h then
   some 0
  else
   some (-1)
 else
  if h then
   some 1
  else
   if decide (p0<p1) then
    some (-1)
   else
    if decide (p1<p0) then
     some 1
    else
     some 0
def iQ (p0:Int):Option Bool:=
 some (p0 != p0)
def gL (p0:Int)(p1:Int):Option Int:=
 (iQ p0).bind λJ=>
 (iQ p1).bind λh=>
 if J then
  if h then
   some 0
  else
   some (-1)
 else
  if h then
   some 1
  else
   if decide (p0<p1) then
    some (-1)
   else
    if decide (p1<p0) then
     some 1
    else
     some 0
def dF (p0:List Int)(p1:List Int):Option Int:=
 some (qu p0 p1)
def kz (p0:List Int)(p1:List Int):Option Int:=
 (dF p0 p1).bind λh=>
 some h
def eN (p0:Ap)(p1:Ap)(J:Bool):Option Int:=
 if J then
  if p1.fBool then
   some (-1)
  else
   some 1
 else
  if p0.fKind==2 then
   (gL p0.fInt p1.fInt).bind λh=>
   some h
  else
   if p0.fKind==3 then
    (kz p0.fText p1.fText).bind λW=>
    some W
   else
    some 0
def b9 (p0:Ap)(p1:Ap):Option Int:=
 if p0.fKind != p1.fKind then
  (gE p0.fKind p1.fKind).bind λh=>
  some h
 else
  if p0.fKind==1 then
   eN p0 p1 (!(p0.fBool==p1.fBool))
  else
   eN p0 p1 false
def mw:Option Int:=
 some (-1)
def eS (p0:List Ap)(p1:Ap)(h:Int):Option (Int⊕Int):=
 if decide (h<(p0.length:Int)) then
  (idx p0 h).bind λJ=>
  if decide (p1=J) then
   (some h).map Sum.inr
  else
   some (.inl (zw.wrap (h+1)))
 else
  (mw).map Sum.inr
def gv (p0:List Ap)(p1:Ap):Option Int:=
 aq (λs:Int=>eS p0 p1 s) 0
def sD (J:Int)(h:Int):Option Int:=
 (idx ([0,1,2,2,3,3,3,3,4,4,4,4,4,4,4,4,5,5,5,5,5,5,5,5,5,5,5,5,5,5,5,5,6,6,6,6,6,6,6,6,6,6,6,6,6,6,6,6,6,6,6,6,6,6,6,6,6,6,6,6,6,6,6,6,7,7,7,7,7,7,7,7,7,7,7,7,7,7,7,7,7,7,7,7,7,7,7,7,7,7,7,7,7,7,7,7,7,7,7,7,7,7,7,7,7,7,7,7,7,7,7,7,7,7,7,7,7,7,7,7,7,7,7,7,7,7,7,7,8,8,8,8,8,8,8,8,8,8,8,8,8,8,8,8,8,8,8,8,8,8,8,8,8,8,8,8,8,8,8,8,8,8,8,8,8,8,8,8,8,8,8,8,8,8,8,8,8,8,8,8,8,8,8,8,8,8,8,8,8,8,8,8,8,8,8,8,8,8,8,8,8,8,8,8,8,8,8,8,8,8,8,8,8,8,8,8,8,8,8,8,8,8,8,8,8,8,8,8,8,8,8,8,8,8,8,8,8,8,8,8,8,8,8,8,8,8,8,8,8,8,8,8,8,8,8,8]) (Qm.wrap J)).bind λW=>
 some (zw.wrap (h+(zw.wrap W)))
def sE (x6:Int)(h:Int):Option Int:=
 if decide (256<=x6) then
  sD (aP .u32 x6 8) (zw.wrap (h+8))
 else
  sD x6 h
def Cn (p0:Int):Option Int:=
 if decide (65536<=p0) then
  sE (aP .u32 p0 16) 16
 else
  sE p0 0
def mb (h:Int)(J:Int):Option Int:=
 (idx ([0,1,2,2,3,3,3,3,4,4,4,4,4,4,4,4,5,5,5,5,5,5,5,5,5,5,5,5,5,5,5,5,6,6,6,6,6,6,6,6,6,6,6,6,6,6,6,6,6,6,6,6,6,6,6,6,6,6,6,6,6,6,6,6,7,7,7,7,7,7,7,7,7,7,7,7,7,7,7,7,7,7,7,7,7,7,7,7,7,7,7,7,7,7,7,7,7,7,7,7,7,7,7,7,7,7,7,7,7,7,7,7,7,7,7,7,7,7,7,7,7,7,7,7,7,7,7,7,8,8,8,8,8,8,8,8,8,8,8,8,8,8,8,8,8,8,8,8,8,8,8,8,8,8,8,8,8,8,8,8,8,8,8,8,8,8,8,8,8,8,8,8,8,8,8,8,8,8,8,8,8,8,8,8,8,8,8,8,8,8,8,8,8,8,8,8,8,8,8,8,8,8,8,8,8,8,8,8,8,8,8,8,8,8,8,8,8,8,8,8,8,8,8,8,8,8,8,8,8,8,8,8,8,8,8,8,8,8,8,8,8,8,8,8,8,8,8,8,8,8,8,8,8,8,8,8]) (Qm.wrap h)).bind λW=>
 some (zw.wrap (J+(zw.wrap W)))
def mc (h:Int)(J:Int):Option Int:=
 if decide (256<=h) then
  mb (aP .u64 h 8) (zw.wrap (J+8))
 else
  mb h J
def md (x6:Int)(h:Int):Option Int:=
 if decide (65536<=x6) then
  mc (aP .u64 x6 16) (zw.wrap (h+16))
 else
  mc x6 h
def mJ (p0:Int):Option Int:=
 if decide (4294967296<=p0) then
  md (aP .u64 p0 32) 32
 else
  md p0 0
def nv (p0:Int):Option Int:=
 (mJ p0).bind λh=>
 some h
def pk (h:List Int):Option (List Int):=
 some h
def pn (h:Int)(J:List Int):Option ((Int×List Int)⊕List Int):=
 some (.inl (zw.wrap (h+1),J))
def mj (h:Int)(J:List Int):Option ((Int×List Int)⊕((Int×List Int)⊕List Int)):=
 some (.inl (zw.wrap (h+1),J))
def ml (p1:Int)(W:Int)(a0:Int)(h:Int)(J:List Int):Option ((Int×List Int)⊕((Int×List Int)⊕List Int)):=
 if decide (h<p1) then
  (chk (decide (0<=h))).bind λa5=>
  if (dI .u64 (aP .u64 a0 h) 1)==1 then
   (ix J (zw.wrap ((zw.wrap ((zw.wrap (W*p1))+h)).tdiv 8))).bind λa1=>
   (J[a1]?).bind λa2=>
   (chk (decide (0<=((zw.wrap ((zw.wrap (W*p1))+h)).tmod 8)))).bind λa3=>
   (ix J (zw.wrap ((zw.wrap ((zw.wrap (W*p1))+h)).tdiv 8))).bind λZ=>
   (J[Z]?).bind λa4=>
   mj h (J.set Z (bOr .u8 a2 (eu .u8 1 ((zw.wrap ((zw.wrap (W*p1))+h)).tmod 8))))
  else
   mj h J
 else
  (pn W J).map Sum.inr
def mn (p0:List Int)(p1:Int)(h:Int)(J:List Int):Option ((Int×List Int)⊕List Int):=
 if decide (h<(p0.length:Int)) then
  (idx p0 h).bind λW=>
  aq (λs:(Int×List Int)=>ml p1 h W s.1 s.2) (0,J)
 else
  (pk J).map Sum.inr
def iH (p0:List Int)(p1:Int):Option (List Int):=
 (mk 281474976710656 (zw.wrap ((zw.wrap ((zw.wrap ((p0.length:Int)*p1))+7)).tdiv 8)) 0).bind λh=>
 aq (λs:(Int×List Int)=>mn p0 p1 s.1 s.2) (0,h)
def eZ (p0:List Ap):Option (List Ap):=
 some p0
def fa (h:Int):Option (Int⊕List Ap):=
 some (.inl (zw.wrap (h+1)))
def fc (W:Int)(h:List Ap):Option (Int⊕List Ap):=
 (vw h W h.length).bind λJ=>
 (clr h J.1 J.2 Ap.zero).bind λa0=>
 (sub a0 0 W).bind λZ=>
 (some Z).map Sum.inr
def cM (h:Int)(J:Int)(W:List Ap):Option ((Int×Int×List Ap)⊕(Int⊕List Ap)):=
 some (.inl (J,zw.wrap (h+1),W))
def fd (J:Nat×Nat)(Z:Int)(W:Int)(h:List Ap):Option ((Int×Int×List Ap)⊕(Int⊕List Ap)):=
 (chk (Zj J.2 bU)).bind λb0=>
 if decide (W<(J.2:Int)) then
  (ixv J.1 J.2 W).bind λa4=>
  (h[a4]?).bind λa3=>
  (ixv J.1 J.2 (zw.wrap (W - 1))).bind λa1=>
  (h[a1]?).bind λa2=>
  if !decide (a3=a2) then
   (ixv J.1 J.2 W).bind λa6=>
   (h[a6]?).bind λa5=>
   (ix h Z).bind λa0=>
   (h[a0]?).bind λa9=>
   cM W (zw.wrap (Z+1)) (h.set a0 a5)
  else
   cM W Z h
 else
  (fc Z h).map Sum.inr
def fe (p0:List Ap)(h:Int):Option (Int⊕List Ap):=
 if decide (h<(p0.length:Int)) then
  (ix p0 h).bind λJ=>
  (p0[J]?).bind λZ=>
  (ix p0 (zw.wrap (h - 1))).bind λa1=>
  (p0[a1]?).bind λa0=>
  if decide (Z=a0) then
   (vw p0 h p0.length).bind λW=>
   aq (λs:(Int×Int×List Ap)=>fd W s.1 s.2.1 s.2.2) (h,1,p0)
  else
   fa h
 else
  (eZ p0).map Sum.inr
def du (p0:List Ap):Option (List Ap):=
 if decide ((p0.length:Int)<2) then
  some p0
 else
  aq (λs:Int=>fe p0 s) 1
def fp (p0:List Ap):Option (List Ap):=
 (app 3518437208883 ([]:List Ap) p0).bind λh=>
 some h
def la (W:List Ap)(Z:List Int)(h:List Int):Option (List Int):=
 (nv (Q3.wrap (zw.wrap ((W.length:Int) - 1)))).bind λa0=>
 (iH h a0).bind λJ=>
 (app 140737488355328 Z J).bind λa1=>
 some a1
def g9 (p0:List Ap)(J:List Ap)(a0:List Int)(W:List Int)(h:Int):Option ((List Int×Int)⊕List Int):=
 if decide (h<(p0.length:Int)) then
  (idx p0 h).bind λa2=>
  (gv J a2).bind λa1=>
  (app 17592186044416 W ([Q3.wrap a1])).bind λZ=>
  some (.inl (Z,zw.wrap (h+1)))
 else
  (la J a0 W).map Sum.inr
def lc (p0:List Ap)(h:List Ap)(J:List Int):Option (List Int):=
 aq (λs:(List Int×Int)=>g9 p0 h J s.1 s.2) ([],0)
def jx (p0:List Ap)(h:List Ap)(W:List Int)(J:Int):Option ((List Int×Int)⊕List Int):=
 if decide (J<(h.length:Int)) then
  (idx h J).bind λa0=>
  (jK a0).bind λZ=>
  (app 140737488355328 W Z).bind λa1=>
  some (.inl (a1,zw.wrap (J+1)))
 else
  (lc p0 h W).map Sum.inr
def lP (p0:List Ap):Option (List Int):=
 (fp p0).bind λJ=>
 (jw J b9).bind λW=>
 (du W).bind λh=>
 aq (λs:(List Int×Int)=>jx p0 h s.1 s.2) ([Qm.wrap (h.length:Int)],0)
def mX (h:Int):Option Int:=
 some h
def kt (p0:List Int)(J:Int)(h:Int):Option ((Int×Int)⊕Int):=
 if decide (h<(p0.length:Int)) then
  (idx p0 h).bind λW=>
  some (.inl ((if W<J then W else J),zw.wrap (h+1)))
 else
  (mX J).map Sum.inr
def mY (p0:List Int):Option Int:=
 (idx p0 0).bind λh=>
 aq (λs:(Int×Int)=>kt p0 s.1 s.2) (h,1)
def jL (p0:List Int):Option Int:=
 if decide ((p0.length:Int)<1) then
  none
 else
  mY p0
def p9 (W:Int)(a1:List Int)(h:Int):Option (List Int):=
 (kL (Q3.wrap W)).bind λa2=>
 (app 140737488355328 a2 ([Qm.wrap h])).bind λa0=>
 (iH a1 h).bind λZ=>
 (app 140737488355328 a0 Z).bind λJ=>
 some J
def mL (p0:List Int)(h:Int)(a0:List Int)(J:Int)(W:Int):Option ((List Int×Int×Int)⊕List Int):=
 if decide (W<(p0.length:Int)) then
  (idx p0 W).bind λZ=>
  (app 17592186044416 a0 ([Q3.wrap ((Q3.wrap Z) - (Q3.wrap h))])).bind λa2=>
  (mJ (Q3.wrap ((Q3.wrap Z) - (Q3.wrap h)))).bind λa1=>
  some (.inl (a2,(if J<a1 then a1 else J),zw.wrap (W+1)))
 else
  (p9 h a0 J).map Sum.inr
def kN (p0:List Int):Option (List Int):=
 (jL p0).bind λh=>
 aq (λs:(List Int×Int×Int)=>mL p0 h s.1 s.2.1 s.2.2) ([],0,0)
def jM (h:List Int):Option (List Int×Int):=
 some (h,0)
def ig (p1:List Ap)(J:List Int)(h:Int):Option ((List Int×Int)⊕(List Int×Int)):=
 if decide (h<(p1.length:Int)) then
  (idx p1 h).bind λZ=>
  (jK Z).bind λa0=>
  (app 140737488355328 J a0).bind λW=>
  some (.inl (W,zw.wrap (h+1)))
 else
  (jM J).map Sum.inr
def dL (p0:Int)(p1:List Ap)(h:List Int×Bool)(a0:Bool):Option (List Int×Int):=
 if a0 then
  some ([],62)
 else
  if (p1.length:Int)==0 then
   some ([],0)
  else
   if p0==1 then
    (lO p1).bind λW=>
    some (W,0)
   else
    if p0==2 then
     (kM h.1).bind λJ=>
     some (J,0)
    else
     if p0==3 then
      (lP p1).bind λa1=>
      some (a1,0)
     else
      if p0==4 then
       (kN h.1).bind λZ=>
       some (Z,0)
      else
       aq (λs:(List Int×Int)=>ig p1 s.1 s.2) ([],0)
def f7 (p0:Int)(p1:List Ap)(J:Bool):Option (List Int×Int):=
 if J then
  some ([],62)
 else
  if decide (64<(p1.length:Int)) then
   some ([],61)
  else
   (dD p1 ek).bind λW=>
   if W then
    some ([],60)
   else
    (lM p1).bind λh=>
    if !h.2 then
     if p0==2 then
      dL p0 p1 h true
     else
      dL p0 p1 h (p0==4)
    else
     dL p0 p1 h false
def eL (p0:Int)(p1:List Ap):Option (List Int×Int):=
 if decide (p0<0) then
  f7 p0 p1 true
 else
  f7 p0 p1 (decide (4<p0))
def wE (h:Int):Option Int:=
 some h
def nw (J:Int)(W:Int)(h:Int):Option ((Int×Int×Int)⊕Int):=
 some (.inl (W,h,zw.wrap (J+1)))
def ld (a0:Int)(J:Int)(h:Int)(Z:List Int×Int)(W:Bool):Option ((Int×Int×Int)⊕Int):=
 if W then
  nw h h (Z.1.length:Int)
 else
  nw h a0 J
def q9 (p0:List Ap)(Z:Int)(J:Int)(h:Int):Option ((Int×Int×Int)⊕Int):=
 if decide (h<=4) then
  (eL h p0).bind λW=>
  if W.2==0 then
   if decide (J<0) then
    ld Z J h W true
   else
    ld Z J h W (decide ((W.1.length:Int)<J))
  else
   ld Z J h W false
 else
  (wE Z).map Sum.inr
def nN (p0:List Ap):Option Int:=
 aq (λs:(Int×Int×Int)=>q9 p0 s.1 s.2.1 s.2.2) (0,(-1),0)
def lx (h:Ap):Option Ap:=
 some h
def iB (h:Int)(J:Ap):Option ((Int×Ap)⊕Ap):=
 some (.inl (zw.wrap (h+1),J))
def iC (p0:List Ap)(p1:(Ap->Ap->Option Int))(h:Int)(J:Ap):Option ((Int×Ap)⊕Ap):=
 if decide (h<(p0.length:Int)) then
  (idx p0 h).bind λZ=>
  (p1 Z J).bind λa0=>
  if decide (a0<0) then
   (idx p0 h).bind λW=>
   iB h W
  else
   iB h J
 else
  (lx J).map Sum.inr
def ly (p0:List Ap)(p1:(Ap->Ap->Option Int)):Option Ap:=
 (idx p0 0).bind λh=>
 aq (λs:(Int×Ap)=>iC p0 p1 s.1 s.2) (1,h)
def fq (p0:List Ap)(p1:(Ap->Ap->Option Int)):Option Ap:=
 if decide ((p0.length:Int)<1) then
  none
 else
  ly p0 p1
def lz (h:Ap):Option Ap:=
 some h
def iD (h:Int)(J:Ap):Option ((Int×Ap)⊕Ap):=
 some (.inl (zw.wrap (h+1),J))
def iE (p0:List Ap)(p1:(Ap->Ap->Option Int))(h:Int)(J:Ap):Option ((Int×Ap)⊕Ap):=
 if decide (h<(p0.length:Int)) then
  (idx p0 h).bind λZ=>
  (p1 Z J).bind λa0=>
  if decide (0<a0) then
   (idx p0 h).bind λW=>
   iD h W
  else
   iD h J
 else
  (lz J).map Sum.inr
def lA (p0:List Ap)(p1:(Ap->Ap->Option Int)):Option Ap:=
 (idx p0 0).bind λh=>
 aq (λs:(Int×Ap)=>iE p0 p1 s.1 s.2) (1,h)
def ft (p0:List Ap)(p1:(Ap->Ap->Option Int)):Option Ap:=
 if decide ((p0.length:Int)<1) then
  none
 else
  lA p0 p1
def iu (p0:List Ap):Option (List Ap):=
 some p0
def eM (x36:bg)(h:Ap):Option (bg×Bool):=
 if h.fKind==0 then
  some (({ x36 with fNulls:=zw.wrap (x36.fNulls+1) }),true)
 else
  some (x36,true)
def jN (p0:Int)(p1:List Ap):Option bg:=
 (fq p1 b9).bind λZ=>
 (ft p1 b9).bind λW=>
 (iu p1).bind λJ=>
 (eK (λ(s:bg) (x:Ap)=>eM s x) (⟨p0,(p1.length:Int),Z,W,0,0⟩:bg) J).bind λh=>
 if h.2 then
  some h.1
 else
  none
def n7 (p0:Ap):Option (List Int):=
 (lN ([p0])).bind λh=>
 (sub h.1 1 h.1.length).bind λJ=>
 some J
def zD (h:Int):Option Int:=
 some (yH .u32 h)
def th (p0:List Int)(h:List Int)(x25:Int)(W:Int):Option ((Int×Int)⊕Int):=
 if decide (W<(p0.length:Int)) then
  (idx p0 W).bind λJ=>
  (ix h (dI .u32 (fh .u32 x25 (Zk.wrap J)) 15)).bind λa0=>
  (h[a0]?).bind λZ=>
  (ix h (dI .u32 (fh .u32 Z (aP .u32 (fh .u32 x25 (Zk.wrap J)) 4)) 15)).bind λa1=>
  (h[a1]?).bind λa2=>
  some (.inl (fh .u32 a2 (aP .u32 (fh .u32 Z (aP .u32 (fh .u32 x25 (Zk.wrap J)) 4)) 4),zw.wrap (W+1)))
 else
  (zD x25).map Sum.inr
def po (p0:List Int)(h:List Int):Option Int:=
 aq (λs:(Int×Int)=>th p0 h s.1 s.2) (4294967295,0)
def tj (h:Int)(J:List Int):Option ((Int×List Int)⊕Int):=
 some (.inl (zw.wrap (h+1),J))
def tn (J:Int)(h:List Int)(Z:Int):Option ((Int×List Int)⊕Int):=
 (ix h J).bind λW=>
 (h[W]?).bind λa0=>
 tj J (h.set W Z)
def pp (W:Int)(Z:List Int)(h:Int)(J:Int):Option ((Int×Int)⊕((Int×List Int)⊕Int)):=
 if decide (J<4) then
  some (.inl (fh .u32 (aP .u32 h 1) (Zk.wrap (3988292384*(dI .u32 h 1))),zw.wrap (J+1)))
 else
  (tn W Z h).map Sum.inr
def tp (p0:List Int)(h:Int)(J:List Int):Option ((Int×List Int)⊕Int):=
 if decide (h<16) then
  aq (λs:(Int×Int)=>pp h J s.1 s.2) (Zk.wrap h,0)
 else
  (po p0 J).map Sum.inr
def iS (p0:List Int):Option Int:=
 aq (λs:(Int×List Int)=>tp p0 s.1 s.2) (0,(Q4 16 0:List Int))
def jy (p0:List Int):Option (List Int):=
 (iS p0).bind λh=>
 (app 140737488355328 p0 ([Qm.wrap (aP .u32 h 24),Qm.wrap (aP .u32 h 16),Qm.wrap (aP .u32 h 8),Qm.wrap h])).bind λJ=>
 some J
def lf (p1:List Ap)(W:Int):Option (List Int×Int):=
 (eL W p1).bind λh=>
 if h.2 != 0 then
  some ([],h.2)
 else
  (jN W p1).bind λJ=>
  (n7 J.fMin).bind λa2=>
  (app 140737488355328 ([Qm.wrap W,Qm.wrap J.fMany,Qm.wrap J.fNulls]) a2).bind λa5=>
  (n7 J.fMax).bind λa3=>
  (app 140737488355328 a5 a3).bind λZ=>
  (app 140737488355328 Z ([Qm.wrap (aP .i64 (h.1.length:Int) 8),Qm.wrap (h.1.length:Int)])).bind λa0=>
  (app 140737488355328 a0 h.1).bind λa4=>
  (jy a4).bind λa1=>
  some (a1,0)
def lQ (p0:Int)(p1:List Ap):Option (List Int×Int):=
 if (p1.length:Int)==0 then
  some ([],70)
 else
  if p0==(-1) then
   (nN p1).bind λh=>
   lf p1 h
  else
   lf p1 p0
def lg (h:Bool):Option Bool:=
 some h
def oL (h:Bool):Option Bool:=
 some h
def ra (p0:Ap)(p1:Ap):Option Bool:=
 if p0.fKind != p1.fKind then
  some (decide (p0.fKind<p1.fKind))
 else
  if p0.fKind==1 then
   if !p0.fBool then
    lg p1.fBool
   else
    lg false
  else
   if p0.fKind==2 then
    some (decide (p0.fInt<p1.fInt))
   else
    if p0.fKind==3 then
     oL (ltB p0.fText p1.fText)
    else
     oL false
def oM (p0:Ap)(p1:Ap):Option Int:=
 (ra p0 p1).bind λh=>
 (ra p1 p0).bind λJ=>
 if h then
  some (-1)
 else
  if J then
   some 1
  else
   some 0
def rc (x6:Int):Option Int:=
 some x6
def ny (p0:List Int)(J:Int)(h:Int):Option ((Int×Int)⊕Int):=
 if decide (h<8) then
  (idx p0 h).bind λW=>
  some (.inl (bOr .u64 (eu .u64 J 8) (Q3.wrap W),zw.wrap (h+1)))
 else
  (rc J).map Sum.inr
def nO (p0:List Int):Option Int:=
 aq (λs:(Int×Int)=>ny p0 s.1 s.2) (0,0)
def jz (h:List Int)(W:Bool):Option (Ap×List Int×Bool):=
 if W then
  (idx h 0).bind λa0=>
  (sub h 1 (Qm.wrap (1+a0))).bind λa2=>
  (mH a2).bind λa1=>
  (idx h 0).bind λJ=>
  (sub h (Qm.wrap (1+J)) h.length).bind λZ=>
  some (a1,Z,true)
 else
  some ((⟨0,false,0,[]⟩:Ap),[],false)
def mM (J:Int)(h:List Int)(a0:Bool):Option (Ap×List Int×Bool):=
 if a0 then
  (nO h).bind λa1=>
  (dK (zw.wrap a1)).bind λa3=>
  (sub h 8 h.length).bind λW=>
  some (a3,W,true)
 else
  if (zw.wrap J)==3 then
   if decide (1<=(h.length:Int)) then
    (idx h 0).bind λa2=>
    if decide (a2<=64) then
     (idx h 0).bind λZ=>
     jz h (decide ((zw.wrap Z)<(h.length:Int)))
    else
     jz h false
   else
    jz h false
  else
   jz h false
def jA (J:Int)(h:List Int)(W:Bool):Option (Ap×List Int×Bool):=
 if W then
  (idx h 0).bind λZ=>
  (mG (Z==1)).bind λa1=>
  (sub h 1 h.length).bind λa0=>
  some (a1,a0,true)
 else
  if (zw.wrap J)==2 then
   mM J h (decide (8<=(h.length:Int)))
  else
   mM J h false
def qa (p0:List Int):Option (Ap×List Int×Bool):=
 if (p0.length:Int)==0 then
  some ((⟨0,false,0,[]⟩:Ap),[],false)
 else
  (idx p0 0).bind λJ=>
  (sub p0 1 p0.length).bind λh=>
  if (zw.wrap J)==0 then
   (jJ).bind λW=>
   some (W,h,true)
  else
   if (zw.wrap J)==1 then
    if decide (1<=(h.length:Int)) then
     (idx h 0).bind λZ=>
     jA J h (decide (Z<=1))
    else
     jA J h false
   else
    jA J h false
def re (h:List Int)(J:List Ap):Option (List Ap×Int):=
 if decide (0<(h.length:Int)) then
  some ([],30)
 else
  some (J,0)
def jB (a0:Int)(x82:List Int)(J:List Ap)(W:Int):Option ((List Int×List Ap×Int)⊕(List Ap×Int)):=
 if decide (W<(zw.wrap a0)) then
  (qa x82).bind λh=>
  if !h.2.2 then
   (some ([],30)).map Sum.inr
  else
   (app 3518437208883 J ([h.1])).bind λZ=>
   some (.inl (h.2.1,Z,zw.wrap (W+1)))
 else
  (re x82 J).map Sum.inr
def nz (p0:List Int)(h:Bool):Option (List Ap×Int):=
 if h then
  some ([],30)
 else
  (idx p0 0).bind λW=>
  (sub p0 1 p0.length).bind λJ=>
  aq (λs:(List Int×List Ap×Int)=>jB W s.1 s.2.1 s.2.2) (J,[],0)
def kp (p0:List Int):Option (List Ap×Int):=
 if (p0.length:Int)==0 then
  nz p0 true
 else
  (idx p0 0).bind λh=>
  nz p0 (decide (16<h))
def wF:Option (Ap×List Int×Bool):=
 some ((⟨0,false,0,[]⟩:Ap),[],false)
def lh (p0:List Int)(h:Int)(W:Bool):Option (Int⊕(Ap×List Int×Bool)):=
 if W then
  (sub p0 0 h).bind λa2=>
  (app 140737488355328 ([1]) a2).bind λa0=>
  (kp a0).bind λJ=>
  if J.2==0 then
   (idx J.1 0).bind λZ=>
   (sub p0 h p0.length).bind λa1=>
   (some (Z,a1,true)).map Sum.inr
  else
   some (.inl (zw.wrap (h+1)))
 else
  (wF).map Sum.inr
def lj (p0:List Int)(h:Int):Option (Int⊕(Ap×List Int×Bool)):=
 if decide (h<=(p0.length:Int)) then
  lh p0 h (decide (h<=66))
 else
  lh p0 h false
def kq (p0:List Int):Option (Ap×List Int×Bool):=
 aq (λs:Int=>lj p0 s) 1
def me (p0:List Int)(a3:Int)(a1:Int)(a4:Int)(a0:Ap×List Int×Bool)(h:Ap×List Int×Bool)(a5:Bool):Option (bg×List Int×Bool):=
 if a5 then
  some ((⟨0,0,Ap.zero,Ap.zero,0,0⟩:bg),[],false)
 else
  (idx h.2.1 0).bind λZ=>
  (idx h.2.1 1).bind λW=>
  (sub h.2.1 2 h.2.1.length).bind λJ=>
  if decide ((J.length:Int)<(zw.wrap ((bOr .i64 (eu .i64 (zw.wrap Z) 8) (zw.wrap W))+4))) then
   some ((⟨0,0,Ap.zero,Ap.zero,0,0⟩:bg),[],false)
  else
   (sub J 0 (bOr .i64 (eu .i64 (zw.wrap Z) 8) (zw.wrap W))).bind λa2=>
   some ({ { { (⟨zw.wrap a3,zw.wrap a1,Ap.zero,Ap.zero,zw.wrap a4,0⟩:bg) with fMin:=a0.1 } with fMax:=h.1 } with fBytes:=zw.wrap ((zw.wrap ((zw.wrap ((p0.length:Int) - (J.length:Int)))+(bOr .i64 (eu .i64 (zw.wrap Z) 8) (zw.wrap W))))+4) },a2,true)
def fO (p0:List Int)(x7:Bool):Option (bg×List Int×Bool):=
 if x7 then
  some ((⟨0,0,Ap.zero,Ap.zero,0,0⟩:bg),[],false)
 else
  (idx p0 0).bind λZ=>
  (idx p0 1).bind λW=>
  (idx p0 2).bind λa0=>
  (sub p0 3 p0.length).bind λa1=>
  (kq a1).bind λh=>
  (kq h.2.1).bind λJ=>
  if !h.2.2 then
   me p0 Z W a0 h J true
  else
   if !J.2.2 then
    me p0 Z W a0 h J true
   else
    me p0 Z W a0 h J (decide ((J.2.1.length:Int)<2))
def iT (p0:List Int):Option (bg×List Int×Bool):=
 if decide ((p0.length:Int)<3) then
  fO p0 true
 else
  (idx p0 0).bind λJ=>
  if decide (4<J) then
   fO p0 true
  else
   (idx p0 1).bind λh=>
   if h==0 then
    fO p0 true
   else
    (idx p0 1).bind λa0=>
    if decide (64<a0) then
     fO p0 true
    else
     (idx p0 2).bind λZ=>
     (idx p0 1).bind λW=>
     fO p0 (decide (W<Z))
def jk (p0:List Int):Option (List Int):=
 (app 140737488355328 ([]) p0).bind λh=>
 some h
def mO:Option Bool:=
 some true
def fu (p0:List Int)(p1:List Int)(h:Int):Option (Int⊕Bool):=
 if decide (h<(p0.length:Int)) then
  (idx p0 h).bind λJ=>
  (idx p1 h).bind λW=>
  if J != W then
   (some false).map Sum.inr
  else
   some (.inl (zw.wrap (h+1)))
 else
  (mO).map Sum.inr
def fH (p0:List Int)(p1:List Int):Option Bool:=
 if (p0.length:Int) != (p1.length:Int) then
  some false
 else
  aq (λs:Int=>fu p0 p1 s) 0
def qw (p0:ae):Option (Ap×ae):=
 some ((⟨0,false,0,[]⟩:Ap),{ p0 with fOk:=false })
def ge (p0:ae)(h:Int)(W:Bool):Option (Int⊕(Ap×ae)):=
 if W then
  (sub p0.fB 0 h).bind λa1=>
  (app 140737488355328 ([1]) a1).bind λZ=>
  (kp Z).bind λJ=>
  if J.2==0 then
   (sub p0.fB h p0.fB.length).bind λa2=>
   (idx J.1 0).bind λa0=>
   (some (a0,{ p0 with fB:=a2 })).map Sum.inr
  else
   some (.inl (zw.wrap (h+1)))
 else
  (qw p0).map Sum.inr
def gg (p0:ae)(h:Int):Option (Int⊕(Ap×ae)):=
 if decide (h<=(p0.fB.length:Int)) then
  ge p0 h (decide (h<=66))
 else
  ge p0 h false
def cN (p0:ae):Option (Ap×ae):=
 aq (λs:Int=>gg p0 s) 1
def cm (p0:ae)(p1:Int):Option (List Int×ae):=
 if decide ((p0.fB.length:Int)<p1) then
  (mk 281474976710656 p1 0).bind λW=>
  some (W,{ { p0 with fB:=[] } with fOk:=false })
 else
  (mk 281474976710656 p1 0).bind λJ=>
  (sub p0.fB p1 p0.fB.length).bind λh=>
  some ((cpy J p0.fB),{ p0 with fB:=h })
def Co (p0:Int)(p1:Int):Option (Int×Int):=
 some (Zk.wrap (aP .u64 (Q3.wrap ((Q3.wrap p0)*(Q3.wrap p1))) 32),Zk.wrap (Q3.wrap ((Q3.wrap p0)*(Q3.wrap p1))))
def oN (p0:Int)(p1:Int):Option (Int×Int):=
 some (Q3.wrap ((Q3.wrap ((Q3.wrap ((aP .u64 p0 32)*(aP .u64 p1 32)))+(aP .u64 (Q3.wrap ((Q3.wrap ((aP .u64 p0 32)*(dI .u64 p1 4294967295)))+(aP .u64 (Q3.wrap ((dI .u64 p0 4294967295)*(dI .u64 p1 4294967295))) 32))) 32)))+(aP .u64 (Q3.wrap ((dI .u64 (Q3.wrap ((Q3.wrap ((aP .u64 p0 32)*(dI .u64 p1 4294967295)))+(aP .u64 (Q3.wrap ((dI .u64 p0 4294967295)*(dI .u64 p1 4294967295))) 32))) 4294967295)+(Q3.wrap ((dI .u64 p0 4294967295)*(aP .u64 p1 32))))) 32)),Q3.wrap (p0*p1))
def rU (p0:Int)(p1:Int):Option (Int×Int):=
 (oN p0 p1).bind λh=>
 some (h.1,h.2)
def gh (h:List Ap):Option (List Ap):=
 some h
def gj (J:Int)(h:List Ap):Option ((Int×List Ap)⊕List Ap):=
 if decide (J<(h.length:Int)) then
  (vw h J h.length).bind λZ=>
  (vw h 0 J).bind λW=>
  (chk (Zj (min W.2 Z.2) bU)).bind λa1=>
  (cpv h Z W).bind λa0=>
  some (.inl (zw.wrap (J+((min W.2 Z.2:Nat):Int)),a0))
 else
  (gh h).map Sum.inr
def gk (p0:List Ap)(J:Int×Int):Option (List Ap):=
 (mk 7036874417766 (zw.wrap J.2) Ap.zero).bind λh=>
 aq (λs:(Int×List Ap)=>gj s.1 s.2) (((min p0.length h.length:Nat):Int),(cpy h p0))
def eD (p0:List Ap)(h:Int×Int)(J:Bool):Option (List Ap):=
 if J then
  none
 else
  gk p0 h
def gl (p0:List Ap)(p1:Int):Option (List Ap):=
 (rU (Q3.wrap (p0.length:Int)) (Q3.wrap p1)).bind λh=>
 if decide (0<h.1) then
  eD p0 h true
 else
  eD p0 h (decide (9223372036854775807<h.2))
def em (p0:List Ap)(p1:Int):Option (List Ap):=
 if decide (p1<0) then
  none
 else
  gl p0 p1
def lB (h:List Int×ae)(J:Int):Option (Int×ae):=
 some (J,h.2)
def fR (h:List Int×ae)(J:Int)(x25:Int):Option ((Int×Int)⊕(Int×ae)):=
 if decide (x25<(h.1.length:Int)) then
  (idx h.1 x25).bind λW=>
  some (.inl (bOr .u64 (eu .u64 J 8) (Q3.wrap W),zw.wrap (x25+1)))
 else
  (lB h J).map Sum.inr
def fw (p0:ae):Option (Int×ae):=
 (cm p0 8).bind λh=>
 aq (λs:(Int×Int)=>fR h s.1 s.2) (0,0)
def lR (x6:ae):Option (Int×ae):=
 some (0,{ x6 with fOk:=false })
def gm (a0:Int)(h:Int)(Z:ae)(a1:Bool):Option ((Int×Int×ae)⊕(Int×ae)):=
 if a1 then
  (cm Z 1).bind λJ=>
  (idx J.1 0).bind λW=>
  (chk (decide (0<=h))).bind λa2=>
  if decide (W<128) then
   (some (bOr .u64 a0 (eu .u64 (Q3.wrap (dI .u8 W 127)) h),J.2)).map Sum.inr
  else
   some (.inl (bOr .u64 a0 (eu .u64 (Q3.wrap (dI .u8 W 127)) h),zw.wrap (h+7),J.2))
 else
  (lR Z).map Sum.inr
def jf (W:Int)(h:Int)(J:ae):Option ((Int×Int×ae)⊕(Int×ae)):=
 if decide (h<70) then
  gm W h J J.fOk
 else
  gm W h J false
def eo (p0:ae):Option (Int×ae):=
 aq (λs:(Int×Int×ae)=>jf s.1 s.2.1 s.2.2) (0,0,p0)
def kA (J:List Int×ae)(h:List Int):Option (List Int×ae):=
 some (h,J.2)
def kB (h:Int)(J:List Int):Option ((Int×List Int)⊕(List Int×ae)):=
 some (.inl (zw.wrap (h+1),J))
def gR (Z:Int)(a3:List Int×ae)(J:Int)(h:Int)(W:List Int):Option ((Int×List Int)⊕((Int×List Int)⊕(List Int×ae))):=
 if decide (h<Z) then
  (ix W J).bind λa2=>
  (W[a2]?).bind λa1=>
  (idx a3.1 (zw.wrap ((zw.wrap ((zw.wrap (J*Z))+h)).tdiv 8))).bind λa4=>
  (chk (decide (0<=((zw.wrap ((zw.wrap (J*Z))+h)).tmod 8)))).bind λa9=>
  (chk (decide (0<=h))).bind λa5=>
  (ix W J).bind λa0=>
  (W[a0]?).bind λa6=>
  some (.inl (zw.wrap (h+1),(W.set a0 (bOr .u64 a1 (eu .u64 (Q3.wrap (dI .u8 (aP .u8 a4 ((zw.wrap ((zw.wrap (J*Z))+h)).tmod 8)) 1)) h)))))
 else
  (kB J W).map Sum.inr
def ff (p2:Int)(J:List Int×ae)(Z:List Int)(h:Int)(W:List Int):Option ((Int×List Int)⊕(List Int×ae)):=
 if decide (h<(Z.length:Int)) then
  aq (λs:(Int×List Int)=>gR p2 J h s.1 s.2) (0,W)
 else
  (kA J W).map Sum.inr
def eE (p0:ae)(p1:Int)(h:Int):Option (List Int×ae):=
 if decide (64<h) then
  (mk 35184372088832 p1 0).bind λZ=>
  some (Z,{ p0 with fOk:=false })
 else
  (cm p0 (zw.wrap ((zw.wrap ((zw.wrap (p1*h))+7)).tdiv 8))).bind λW=>
  (mk 35184372088832 p1 0).bind λJ=>
  aq (λs:(Int×List Int)=>ff h W J s.1 s.2) (0,J)
def bJ (x6:List Ap)(h:ae):Option (List Ap×ae):=
 some (x6,h)
def jg (J:List Ap)(W:ae)(a0:Bool):Option ((List Ap×ae)⊕(List Ap×ae)):=
 if a0 then
  (cN W).bind λh=>
  (app 3518437208883 J ([h.1])).bind λZ=>
  some (.inl (Z,h.2))
 else
  (bJ J W).map Sum.inr
def lS (W:Int)(h:List Ap)(J:ae):Option ((List Ap×ae)⊕(List Ap×ae)):=
 if decide ((h.length:Int)<W) then
  jg h J J.fOk
 else
  jg h J false
def jh (p2:Int)(h:List Ap)(W:ae)(x82:Bool):Option ((List Ap×ae)⊕(List Ap×ae)):=
 if x82 then
  (cm W 1).bind λa0=>
  (idx a0.1 0).bind λJ=>
  (cN a0.2).bind λZ=>
  (em ([Z.1]) (if (zw.wrap (p2 - (h.length:Int)))<(zw.wrap J) then zw.wrap (p2 - (h.length:Int)) else zw.wrap J)).bind λa2=>
  (app 3518437208883 h a2).bind λa1=>
  some (.inl (a1,Z.2))
 else
  (bJ h W).map Sum.inr
def lT (J:Int)(h:List Ap)(W:ae):Option ((List Ap×ae)⊕(List Ap×ae)):=
 if decide ((h.length:Int)<J) then
  jh J h W W.fOk
 else
  jh J h W false
def ji (Z:List Ap)(W:Int)(J:ae)(a2:Bool):Option ((List Ap×Int×ae)⊕(List Ap×ae)):=
 if a2 then
  (eo J).bind λh=>
  (dK (zw.wrap (W+(fh .i64 (zw.wrap (aP .u64 h.1 1)) (zw.wrap (0 - (zw.wrap (dI .u64 h.1 1)))))))).bind λa0=>
  (app 3518437208883 Z ([a0])).bind λa1=>
  some (.inl (a1,zw.wrap (W+(fh .i64 (zw.wrap (aP .u64 h.1 1)) (zw.wrap (0 - (zw.wrap (dI .u64 h.1 1)))))),h.2))
 else
  (bJ Z J).map Sum.inr
def lU (Z:Int)(J:List Ap)(W:Int)(h:ae):Option ((List Ap×Int×ae)⊕(List Ap×ae)):=
 if decide ((J.length:Int)<Z) then
  ji J W h h.fOk
 else
  ji J W h false
def jj (W:List Ap)(h:List Int×ae)(Z:List Ap)(J:Int):Option ((List Ap×Int)⊕(List Ap×ae)):=
 if decide (J<(h.1.length:Int)) then
  (idx h.1 J).bind λa0=>
  if decide ((Q3.wrap (W.length:Int))<=a0) then
   (some ([],h.2)).map Sum.inr
  else
   (idx W a0).bind λa1=>
   (app 3518437208883 Z ([a1])).bind λa2=>
   some (.inl (a2,zw.wrap (J+1)))
 else
  (bJ Z h.2).map Sum.inr
def lV (Z:Int)(h:List Ap)(a0:ae):Option (List Ap×ae):=
 (nv (Q3.wrap (zw.wrap ((if (h.length:Int)<1 then 1 else (h.length:Int)) - 1)))).bind λW=>
 (eE a0 Z W).bind λJ=>
 aq (λs:(List Ap×Int)=>jj h J s.1 s.2) ([],0)
def lW (p2:Int)(a1:Int)(W:List Ap)(h:Int)(Z:ae):Option ((List Ap×Int×ae)⊕(List Ap×ae)):=
 if decide (h<a1) then
  (cN Z).bind λJ=>
  (app 3518437208883 W ([J.1])).bind λa0=>
  some (.inl (a0,Qm.wrap (h+1),J.2))
 else
  (lV p2 W Z).map Sum.inr
def lX (Z:Int×ae)(h:List Int×ae)(W:List Ap)(J:Int):Option ((List Ap×Int)⊕(List Ap×ae)):=
 if decide (J<(h.1.length:Int)) then
  (idx h.1 J).bind λa2=>
  (dK (zw.wrap (Q3.wrap (Z.1+a2)))).bind λa0=>
  (app 3518437208883 W ([a0])).bind λa1=>
  some (.inl (a1,zw.wrap (J+1)))
 else
  (bJ W h.2).map Sum.inr
def br (p0:ae)(p1:Int)(h:Int):Option (List Ap×ae):=
 if p1==0 then
  aq (λs:(List Ap×ae)=>lS h s.1 s.2) ([],p0)
 else
  if p1==1 then
   aq (λs:(List Ap×ae)=>lT h s.1 s.2) ([],p0)
  else
   if p1==2 then
    (fw p0).bind λJ=>
    (dK (zw.wrap J.1)).bind λa4=>
    (app 3518437208883 ([]) ([a4])).bind λa2=>
    aq (λs:(List Ap×Int×ae)=>lU h s.1 s.2.1 s.2.2) (a2,zw.wrap J.1,J.2)
   else
    if p1==3 then
     (cm p0 1).bind λa0=>
     (idx a0.1 0).bind λa5=>
     aq (λs:(List Ap×Int×ae)=>lW h a5 s.1 s.2.1 s.2.2) ([],0,a0.2)
    else
     (fw p0).bind λW=>
     (cm W.2 1).bind λZ=>
     (idx Z.1 0).bind λa3=>
     (eE Z.2 h (zw.wrap a3)).bind λa1=>
     aq (λs:(List Ap×Int)=>lX W a1 s.1 s.2) ([],0)
def ii (J:List Ap)(h:Bool):Option (List Ap×Int):=
 if h then
  some ([],60)
 else
  some (J,0)
def jO (p0:Int)(p1:List Int)(p2:Int)(h:List Ap)(Z:ae):Option (List Ap×Int):=
 (eL p0 h).bind λJ=>
 if !Z.fOk then
  ii h true
 else
  if J.2 != 0 then
   ii h true
  else
   if (h.length:Int) != p2 then
    ii h true
   else
    (fH J.1 p1).bind λW=>
    ii h (!W)
def jP (p0:Int)(p1:List Int)(h:Int)(W:Bool):Option (List Ap×Int):=
 if W then
  some ([],61)
 else
  if decide (0<h) then
   (br (⟨p1,true⟩:ae) p0 h).bind λJ=>
   jO p0 p1 h J.1 J.2
  else
   jO p0 p1 h ([]) (⟨p1,true⟩:ae)
def jQ (p0:Int)(p1:List Int)(h:Int)(J:Bool):Option (List Ap×Int):=
 if J then
  some ([],62)
 else
  if decide (h<0) then
   jP p0 p1 h true
  else
   jP p0 p1 h (decide (64<h))
def j7 (p0:Int)(p1:List Int)(h:Int):Option (List Ap×Int):=
 if decide (p0<0) then
  jQ p0 p1 h true
 else
  jQ p0 p1 h (decide (4<p0))
def iI (W:bg×List Int×Bool)(J:List Ap×Int)(h:Bool):Option (List Ap×Int×Int):=
 if h then
  some ([],0,70)
 else
  some (J.1,W.1.fBytes,0)
def jR (p0:List Int):Option (List Ap×Int×Int):=
 (iT p0).bind λh=>
 if !h.2.2 then
  some ([],0,70)
 else
  (sub p0 0 (zw.wrap (h.1.fBytes - 4))).bind λa3=>
  (jk a3).bind λa1=>
  (jy a1).bind λa2=>
  (sub p0 0 h.1.fBytes).bind λZ=>
  (fH a2 Z).bind λa0=>
  if !a0 then
   some ([],0,71)
  else
   (j7 h.1.fKind h.2.1 h.1.fMany).bind λJ=>
   if J.2 != 0 then
    some ([],0,70)
   else
    (jN h.1.fKind J.1).bind λW=>
    if W.fNulls != h.1.fNulls then
     iI h J true
    else
     if !decide (W.fMin=h.1.fMin) then
      iI h J true
     else
      iI h J (!decide (W.fMax=h.1.fMax))
def xY:Option Bool:=
 some true
def oA (p0:List Ap)(p1:List Ap)(h:Int):Option (Int⊕Bool):=
 if decide (h<(p0.length:Int)) then
  (idx p0 h).bind λx25=>
  (idx p1 h).bind λJ=>
  if !decide (x25=J) then
   (some false).map Sum.inr
  else
   some (.inl (zw.wrap (h+1)))
 else
  (xY).map Sum.inr
def oO (p0:List Ap)(p1:List Ap):Option Bool:=
 if (p0.length:Int) != (p1.length:Int) then
  some false
 else
  aq (λs:Int=>oA p0 p1 s) 0
def zF (h:List aa):Option (List aa):=
 some h
def pq (p0:List aa)(J:List aa)(h:Int):Option ((List aa×Int)⊕List aa):=
 if decide (h<(p0.length:Int)) then
  (idx p0 h).bind λx25=>
  (ud x25.fRow).bind λZ=>
  (app 2932031007402 J ([{ x25 with fRow:=Z }])).bind λW=>
  some (.inl (W,zw.wrap (h+1)))
 else
  (zF J).map Sum.inr
def n8 (p0:List aa):Option (List aa):=
 aq (λs:(List aa×Int)=>pq p0 s.1 s.2) ([],0)
def gY (p0:aa):Option aa:=
 (gu p0.fRow).bind λh=>
 some ({ p0 with fRow:=h })
def wG (h:List Ap):Option (List Ap):=
 some h
def ll (J:List Ap)(Z:Int)(W:Ap):Option ((List Ap×Int)⊕List Ap):=
 (app 3518437208883 J ([W])).bind λh=>
 some (.inl (h,zw.wrap (Z+1)))
def lm (p1:List Ap)(h:List Ap)(J:Int)(x25:Int)(W:Ap)(Z:Bool):Option ((List Ap×Int)⊕List Ap):=
 if Z then
  (idx p1 x25).bind λa0=>
  ll h J a0
 else
  ll h J W
def nA (p0:List Int)(p1:List Ap)(J:List Ap)(h:Int):Option ((List Ap×Int)⊕List Ap):=
 if decide (h<(p0.length:Int)) then
  (idx p0 h).bind λx25=>
  (jJ).bind λW=>
  if decide (0<=x25) then
   lm p1 J h x25 W (decide (x25<(p1.length:Int)))
  else
   lm p1 J h x25 W false
 else
  (wG J).map Sum.inr
def kr (p0:List Int)(p1:List Ap):Option (List Ap):=
 aq (λs:(List Ap×Int)=>nA p0 p1 s.1 s.2) ([],0)
def sF (p0:List Ap)(p1:List Ap):Option Int:=
 (gE (p0.length:Int) (p1.length:Int)).bind λh=>
 some h
def sG (p0:List Ap)(p1:List Ap)(x25:Int):Option (Int⊕Int):=
 if decide (x25<(if (p1.length:Int)<(p0.length:Int) then (p1.length:Int) else (p0.length:Int))) then
  (idx p0 x25).bind λJ=>
  (idx p1 x25).bind λW=>
  (b9 J W).bind λh=>
  if h != 0 then
   (some h).map Sum.inr
  else
   some (.inl (zw.wrap (x25+1)))
 else
  (sF p0 p1).map Sum.inr
def mP (p0:List Ap)(p1:List Ap):Option Int:=
 aq (λs:Int=>sG p0 p1 s) 0
def jS (p0:Int):Option Bool:=
 some (p0 != p0)
def iU (p0:Int)(p1:Int):Option Int:=
 (jS p0).bind λJ=>
 (jS p1).bind λh=>
 if J then
  if h then
   some 0
  else
   some (-1)
 else
  if h then
   some 1
  else
   if decide (p0<p1) then
    some (-1)
   else
    if decide (p1<p0) then
     some 1
    else
     some 0
def jT (p0:Int):Option Bool:=
 some (p0 != p0)
def iV (p0:Int)(p1:Int):Option Int:=
 (jT p0).bind λJ=>
 (jT p1).bind λh=>
 if J then
  if h then
   some 0
  else
   some (-1)
 else
  if h then
   some 1
  else
   if decide (p0<p1) then
    some (-1)
   else
    if decide (p1<p0) then
     some 1
    else
     some 0
def xZ:Option Int:=
 some 0
def fP (p0:List Int)(h:Int):Option (Int⊕Int):=
 if decide (h<(p0.length:Int)) then
  (idx p0 h).bind λJ=>
  if J != 0 then
   (some J).map Sum.inr
  else
   some (.inl (zw.wrap (h+1)))
 else
  (xZ).map Sum.inr
def ln (p0:List Int):Option Int:=
 aq (λs:Int=>fP p0 s) 0
def j8 (p0:aF)(p1:aF):Option Int:=
 (iU p0.fEpoch p1.fEpoch).bind λJ=>
 (iV p0.fNumber p1.fNumber).bind λh=>
 (ln ([J,h])).bind λW=>
 some W
def dh (p0:aa)(p1:aa)(h:List Int):Option Int:=
 (kr h p0.fRow).bind λJ=>
 (kr h p1.fRow).bind λZ=>
 (mP J Z).bind λr24=>
 (j8 p0.fId p1.fId).bind λa0=>
 (ln ([r24,a0])).bind λW=>
 some W
def dz (x6:Int)(h:List aa):Option ((Int×List aa)⊕List aa):=
 some (.inl (zw.wrap (x6+1),h))
def a8 (x6:Int)(J:Int)(h:List aa)(a4:Bool):Option ((Int×List aa)⊕((Int×List aa)⊕List aa)):=
 if a4 then
  (ix h (zw.wrap (J - 1))).bind λa2=>
  (h[a2]?).bind λZ=>
  (ix h J).bind λa3=>
  (h[a3]?).bind λa1=>
  (ix h J).bind λW=>
  (h[W]?).bind λa5=>
  (ix (h.set W Z) (zw.wrap (J - 1))).bind λa0=>
  ((h.set W Z)[a0]?).bind λa6=>
  some (.inl (zw.wrap (J - 1),((h.set W Z).set a0 a1)))
 else
  (dz x6 h).map Sum.inr
def bd (p1:Int)(p3:(aa->aa->Option Int))(x6:Int)(J:Int)(h:List aa):Option ((Int×List aa)⊕((Int×List aa)⊕List aa)):=
 if decide (p1<J) then
  (ix h J).bind λZ=>
  (h[Z]?).bind λa1=>
  (ix h (zw.wrap (J - 1))).bind λW=>
  (h[W]?).bind λa0=>
  (p3 a1 a0).bind λa2=>
  a8 x6 J h (decide (a2<0))
 else
  a8 x6 J h false
def bv (p1:Int)(J:Int)(W:(aa->aa->Option Int))(x6:Int)(h:List aa):Option ((Int×List aa)⊕List aa):=
 if decide (x6<J) then
  aq (λs:(Int×List aa)=>bd p1 W x6 s.1 s.2) (x6,h)
 else
  (some h).map Sum.inr
def bH (p0:List aa)(p1:Int)(h:Int)(J:(aa->aa->Option Int)):Option (List aa):=
 aq (λs:(Int×List aa)=>bv p1 h J s.1 s.2) (zw.wrap (p1+1),p0)
def bM (p1:Int)(p2:Int)(p3:Int)(h:Int)(x6:List aa):Option ((Int×List aa)⊕List aa):=
 if decide (h<p3) then
  (ix x6 (zw.wrap (p2+h))).bind λa0=>
  (x6[a0]?).bind λW=>
  (ix x6 (zw.wrap (p1+h))).bind λa2=>
  (x6[a2]?).bind λa1=>
  (ix x6 (zw.wrap (p1+h))).bind λJ=>
  (x6[J]?).bind λa3=>
  (ix (x6.set J W) (zw.wrap (p2+h))).bind λZ=>
  ((x6.set J W)[Z]?).bind λa4=>
  some (.inl (zw.wrap (h+1),((x6.set J W).set Z a1)))
 else
  (some x6).map Sum.inr
def bC (p0:List aa)(p1:Int)(h:Int)(J:Int)(W:(aa->aa->Option Int)):Option (List aa):=
 aq (λs:(Int×List aa)=>bM p1 h J s.1 s.2) (0,p0)
def iw (h:Int)(Z:(aa->aa->Option Int))(J:Int)(W:List aa):Option (List aa):=
 (bC W (zw.wrap (h - J)) h J Z).bind λr24=>
 some r24
def bD (W:Int)(Z:(aa->aa->Option Int))(h:Int)(J:Int)(a0:List aa):Option ((Int×Int×List aa)⊕List aa):=
 if h != J then
  if decide (J<h) then
   (bC a0 (zw.wrap (W - h)) W J Z).bind λa2=>
   some (.inl (zw.wrap (h - J),J,a2))
  else
   (bC a0 (zw.wrap (W - h)) (zw.wrap ((zw.wrap (W+J)) - h)) h Z).bind λa1=>
   some (.inl (h,zw.wrap (J - h),a1))
 else
  (iw W Z h a0).map Sum.inr
def bY (p0:List aa)(p1:Int)(h:Int)(W:Int)(J:(aa->aa->Option Int)):Option (List aa):=
 aq (λs:(Int×Int×List aa)=>bD h J s.1 s.2.1 s.2.2) (zw.wrap (h - p1),zw.wrap (W - h),p0)
def gZ (h:List aa):Option (List aa):=
 some h
def bQ (a0:Int)(x25:Int)(h:List aa):Option ((Int×List aa)⊕List aa):=
 if decide (x25<(zw.wrap (a0 - 1))) then
  (ix h (zw.wrap (x25+1))).bind λa2=>
  (h[a2]?).bind λW=>
  (ix h x25).bind λa3=>
  (h[a3]?).bind λa1=>
  (ix h x25).bind λJ=>
  (h[J]?).bind λa5=>
  (ix (h.set J W) (zw.wrap (x25+1))).bind λZ=>
  ((h.set J W)[Z]?).bind λa4=>
  some (.inl (zw.wrap (x25+1),((h.set J W).set Z a1)))
 else
  (gZ h).map Sum.inr
def eF (p0:List aa)(p1:Int)(h:Int):Option (List aa):=
 aq (λs:(Int×List aa)=>bQ h s.1 s.2) (p1,p0)
def ct (p0:List aa)(p1:Int)(p4:(aa->aa->Option Int))(h:Int)(J:Int):Option ((Int×Int)⊕List aa):=
 if decide (h<J) then
  (ix p0 (zw.wrap (aP .u64 (Q3.wrap (zw.wrap (h+J))) 1))).bind λZ=>
  (p0[Z]?).bind λW=>
  (ix p0 p1).bind λa0=>
  (p0[a0]?).bind λa1=>
  (p4 W a1).bind λa2=>
  if decide (a2<0) then
   some (.inl (zw.wrap ((zw.wrap (aP .u64 (Q3.wrap (zw.wrap (h+J))) 1))+1),J))
  else
   some (.inl (h,zw.wrap (aP .u64 (Q3.wrap (zw.wrap (h+J))) 1)))
 else
  (eF p0 p1 h).map Sum.inr
def g7 (h:List aa):Option (List aa):=
 some h
def bS (a1:Int)(J:Int)(h:List aa):Option ((Int×List aa)⊕List aa):=
 if decide (a1<J) then
  (ix h (zw.wrap (J - 1))).bind λa3=>
  (h[a3]?).bind λZ=>
  (ix h J).bind λa4=>
  (h[a4]?).bind λa2=>
  (ix h J).bind λW=>
  (h[W]?).bind λa6=>
  (ix (h.set W Z) (zw.wrap (J - 1))).bind λa0=>
  ((h.set W Z)[a0]?).bind λa5=>
  some (.inl (zw.wrap (J - 1),((h.set W Z).set a0 a2)))
 else
  (g7 h).map Sum.inr
def eG (p0:List aa)(h:Int)(J:Int):Option (List aa):=
 aq (λs:(Int×List aa)=>bS J s.1 s.2) (h,p0)
def cu (p0:List aa)(W:Int)(p4:(aa->aa->Option Int))(h:Int)(J:Int):Option ((Int×Int)⊕List aa):=
 if decide (h<J) then
  (ix p0 W).bind λa0=>
  (p0[a0]?).bind λZ=>
  (ix p0 (zw.wrap (aP .u64 (Q3.wrap (zw.wrap (h+J))) 1))).bind λa2=>
  (p0[a2]?).bind λa1=>
  (p4 Z a1).bind λa3=>
  if !(decide (a3<0)) then
   some (.inl (zw.wrap ((zw.wrap (aP .u64 (Q3.wrap (zw.wrap (h+J))) 1))+1),J))
  else
   some (.inl (h,zw.wrap (aP .u64 (Q3.wrap (zw.wrap (h+J))) 1)))
 else
  (eG p0 W h).map Sum.inr
def d8 (p1:Int)(p2:Int)(h:Int)(p4:(aa->aa->Option Int))(W:((List aa)->Int->Int->Int->(aa->aa->Option Int)->Option (List aa)))(Z:Int)(J:List aa)(a0:Bool):Option (List aa):=
 if a0 then
  (W J (zw.wrap (aP .u64 (Q3.wrap (zw.wrap (p1+h))) 1)) (zw.wrap ((zw.wrap ((zw.wrap (aP .u64 (Q3.wrap (zw.wrap (p1+h))) 1))+p2)) - Z)) h p4).bind λa1=>
  some a1
 else
  some J
def cO (p1:Int)(W:Int)(h:Int)(p4:(aa->aa->Option Int))(Z:((List aa)->Int->Int->Int->(aa->aa->Option Int)->Option (List aa)))(J:Int)(a0:List aa):Option (List aa):=
 if decide ((zw.wrap (aP .u64 (Q3.wrap (zw.wrap (p1+h))) 1))<(zw.wrap ((zw.wrap ((zw.wrap (aP .u64 (Q3.wrap (zw.wrap (p1+h))) 1))+W)) - J))) then
  d8 p1 W h p4 Z J a0 (decide ((zw.wrap ((zw.wrap ((zw.wrap (aP .u64 (Q3.wrap (zw.wrap (p1+h))) 1))+W)) - J))<h))
 else
  d8 p1 W h p4 Z J a0 false
def eH (p1:Int)(p2:Int)(Z:Int)(W:(aa->aa->Option Int))(h:((List aa)->Int->Int->Int->(aa->aa->Option Int)->Option (List aa)))(J:Int)(a0:List aa)(a2:Bool):Option (List aa):=
 if a2 then
  (h a0 p1 J (zw.wrap (aP .u64 (Q3.wrap (zw.wrap (p1+Z))) 1)) W).bind λa1=>
  cO p1 p2 Z W h J a1
 else
  cO p1 p2 Z W h J a0
def cW (p1:Int)(p2:Int)(J:Int)(p4:(aa->aa->Option Int))(W:((List aa)->Int->Int->Int->(aa->aa->Option Int)->Option (List aa)))(h:Int)(Z:List aa):Option (List aa):=
 if decide (p1<h) then
  eH p1 p2 J p4 W h Z (decide (h<(zw.wrap (aP .u64 (Q3.wrap (zw.wrap (p1+J))) 1))))
 else
  eH p1 p2 J p4 W h Z false
def eI (p0:List aa)(p1:Int)(J:Int)(Z:Int)(W:(aa->aa->Option Int))(a0:((List aa)->Int->Int->Int->(aa->aa->Option Int)->Option (List aa)))(h:Int)(a1:Bool):Option (List aa):=
 if a1 then
  (bY p0 h J (zw.wrap ((zw.wrap ((zw.wrap (aP .u64 (Q3.wrap (zw.wrap (p1+Z))) 1))+J)) - h)) W).bind λa2=>
  cW p1 J Z W a0 h a2
 else
  cW p1 J Z W a0 h p0
def cX (p0:List aa)(p1:Int)(h:Int)(W:Int)(p4:(aa->aa->Option Int))(Z:((List aa)->Int->Int->Int->(aa->aa->Option Int)->Option (List aa)))(J:Int):Option (List aa):=
 if decide (J<h) then
  eI p0 p1 h W p4 Z J (decide (h<(zw.wrap ((zw.wrap ((zw.wrap (aP .u64 (Q3.wrap (zw.wrap (p1+W))) 1))+h)) - J))))
 else
  eI p0 p1 h W p4 Z J false
def cY (p0:List aa)(p1:Int)(p2:Int)(Z:Int)(W:(aa->aa->Option Int))(a1:((List aa)->Int->Int->Int->(aa->aa->Option Int)->Option (List aa)))(h:Int)(J:Int):Option ((Int×Int)⊕List aa):=
 if decide (h<J) then
  (ix p0 (zw.wrap ((zw.wrap ((zw.wrap ((zw.wrap (aP .u64 (Q3.wrap (zw.wrap (p1+Z))) 1))+p2)) - 1)) - (zw.wrap (aP .u64 (Q3.wrap (zw.wrap (h+J))) 1))))).bind λa0=>
  (p0[a0]?).bind λa4=>
  (ix p0 (zw.wrap (aP .u64 (Q3.wrap (zw.wrap (h+J))) 1))).bind λa2=>
  (p0[a2]?).bind λa3=>
  (W a4 a3).bind λa5=>
  if !(decide (a5<0)) then
   some (.inl (zw.wrap ((zw.wrap (aP .u64 (Q3.wrap (zw.wrap (h+J))) 1))+1),J))
  else
   some (.inl (h,zw.wrap (aP .u64 (Q3.wrap (zw.wrap (h+J))) 1)))
 else
  (cX p0 p1 p2 Z W a1 h).map Sum.inr
def cZ (p0:List aa)(p1:Int)(p2:Int)(p3:Int)(W:(aa->aa->Option Int))(h:((List aa)->Int->Int->Int->(aa->aa->Option Int)->Option (List aa)))(Z:Int)(J:Int):Option (List aa):=
 aq (λs:(Int×Int)=>cY p0 p1 p2 p3 W h s.1 s.2) (Z,J)
def cA (Z:((List aa)->Int->Int->Int->(aa->aa->Option Int)->Option (List aa)))(p0:List aa)(p1:Int)(h:Int)(J:Int)(W:(aa->aa->Option Int)):Option (List aa):=
 if (zw.wrap (h - p1))==1 then
  aq (λs:(Int×Int)=>ct p0 p1 W s.1 s.2) (h,J)
 else
  if (zw.wrap (J - h))==1 then
   aq (λs:(Int×Int)=>cu p0 h W s.1 s.2) (p1,h)
  else
   if decide ((zw.wrap (aP .u64 (Q3.wrap (zw.wrap (p1+J))) 1))<h) then
    cZ p0 p1 h J W Z (zw.wrap ((zw.wrap ((zw.wrap (aP .u64 (Q3.wrap (zw.wrap (p1+J))) 1))+h)) - J)) (zw.wrap (aP .u64 (Q3.wrap (zw.wrap (p1+J))) 1))
   else
    cZ p0 p1 h J W Z p1 h
def bA:Nat->(List aa)->Int->Int->Int->(aa->aa->Option Int)->Option (List aa)
 |0=>λ_ _ _ _ _=>none
 |n+1=>cA (bA n)
def cd (p0:List aa)(p1:Int)(h:Int)(W:Int)(J:(aa->aa->Option Int)):Option (List aa):=bA (p0.length+1) p0 p1 h W J
def dt (J:Int)(h:List aa):Option ((Int×List aa)⊕List aa):=
 some (.inl (zw.wrap (J*2),h))
def fi (p1:Int)(p2:(aa->aa->Option Int))(h:Int)(J:Int)(W:List aa):Option ((Int×List aa)⊕List aa):=
 if decide ((zw.wrap (J+h))<p1) then
  (cd W J (zw.wrap (J+h)) p1 p2).bind λZ=>
  dt h Z
 else
  dt h W
def cc (p1:Int)(Z:(aa->aa->Option Int))(J:Int)(h:Int)(x82:Int)(W:List aa):Option ((Int×Int×List aa)⊕((Int×List aa)⊕List aa)):=
 if decide (x82<=p1) then
  (cd W h (zw.wrap (h+J)) x82 Z).bind λa0=>
  some (.inl (x82,zw.wrap (x82+(zw.wrap (2*J))),a0))
 else
  (fi p1 Z J h W).map Sum.inr
def a7 (p1:Int)(W:(aa->aa->Option Int))(h:Int)(J:List aa):Option ((Int×List aa)⊕List aa):=
 if decide (h<p1) then
  aq (λs:(Int×Int×List aa)=>cc p1 W h s.1 s.2.1 s.2.2) (0,zw.wrap (2*h),J)
 else
  (some J).map Sum.inr
def iy (p1:Int)(h:(aa->aa->Option Int))(J:Int)(W:List aa):Option (List aa):=
 (bH W J p1 h).bind λZ=>
 aq (λs:(Int×List aa)=>a7 p1 h s.1 s.2) (20,Z)
def bE (p1:Int)(W:(aa->aa->Option Int))(Z:Int)(h:Int)(J:List aa):Option ((Int×Int×List aa)⊕List aa):=
 if decide (h<=p1) then
  (bH J Z h W).bind λa0=>
  some (.inl (h,zw.wrap (h+20),a0))
 else
  (iy p1 W Z J).map Sum.inr
def dW (p0:List aa)(p1:Int)(h:(aa->aa->Option Int)):Option (List aa):=
 aq (λs:(Int×Int×List aa)=>bE p1 h s.1 s.2.1 s.2.2) (0,20,p0)
def bP (p0:List aa)(p1:(aa->aa->Option Int)):Option (List aa):=
 (dW p0 (p0.length:Int) p1).bind λh=>
 some h
def d9 (p0:List Int)(W:List aa):Option (List aa):=
 (bP W (λZ J=>dh Z J p0)).bind λh=>
 some h
def ef (p0:List Int)(p1:List aa)(h:Int)(J:List aa):Option ((Int×List aa)⊕List aa):=
 if decide (h<(p1.length:Int)) then
  (idx p1 h).bind λZ=>
  (gY Z).bind λa0=>
  (app 2932031007402 J ([a0])).bind λW=>
  some (.inl (zw.wrap (h+1),W))
 else
  (d9 p0 J).map Sum.inr
def dX (p0:List Int)(p1:List aa):Option (List aa):=
 aq (λs:(Int×List aa)=>ef p0 p1 s.1 s.2) (0,([]:List aa))
def DR (x6:List Ap):Option (List Ap):=
 some x6
def qb (h:List Ap)(J:Int)(W:Ap):Option ((List Ap×Int)⊕List Ap):=
 (app 3518437208883 h ([W])).bind λZ=>
 some (.inl (Z,zw.wrap (J+1)))
def qc (p0:List Int)(p1:List Ap)(J:List Ap)(h:Int)(Z:Bool):Option ((List Ap×Int)⊕List Ap):=
 if Z then
  (idx p0 h).bind λa0=>
  (idx p1 a0).bind λW=>
  qb J h W
 else
  qb J h (⟨0,false,0,[]⟩:Ap)
def tq (p0:List Int)(p1:List Ap)(J:List Ap)(h:Int):Option ((List Ap×Int)⊕List Ap):=
 if decide (h<(p0.length:Int)) then
  (idx p0 h).bind λx82=>
  if decide (0<=x82) then
   (idx p0 h).bind λW=>
   qc p0 p1 J h (decide (W<(p1.length:Int)))
  else
   qc p0 p1 J h false
 else
  (DR J).map Sum.inr
def tu (p0:List Int)(p1:List Ap):Option (List Ap):=
 aq (λs:(List Ap×Int)=>tq p0 p1 s.1 s.2) ([],0)
def vA (p0:List Ap)(p1:List Ap):Option Int:=
 if decide ((p0.length:Int)<(p1.length:Int)) then
  some (-1)
 else
  some 0
def vB (p0:List Ap)(p1:List Ap)(h:Int):Option (Int⊕Int):=
 if decide (h<(p0.length:Int)) then
  if h==(p1.length:Int) then
   (some 1).map Sum.inr
  else
   (idx p0 h).bind λZ=>
   (idx p1 h).bind λW=>
   (oM Z W).bind λJ=>
   if J != 0 then
    (some J).map Sum.inr
   else
    some (.inl (zw.wrap (h+1)))
 else
  (vA p0 p1).map Sum.inr
def ue (p0:List Ap)(p1:List Ap):Option Int:=
 aq (λs:Int=>vB p0 p1 s) 0
def qd (p0:aF)(p1:aF):Option Bool:=
 if p0.fEpoch != p1.fEpoch then
  some (decide (p0.fEpoch<p1.fEpoch))
 else
  some (decide (p0.fNumber<p1.fNumber))
def qe (p0:List Int)(p1:aa)(J:aa):Option Bool:=
 (tu p0 p1.fRow).bind λW=>
 (tu p0 J.fRow).bind λa0=>
 (ue W a0).bind λh=>
 if h != 0 then
  some (decide (h<0))
 else
  (qd p1.fId J.fId).bind λZ=>
  some Z
def zG (x6:List aa):Option (List aa):=
 some x6
def pu (h:Int)(J:List aa):Option ((List aa×Int)⊕List aa):=
 some (.inl (J,zw.wrap (h+1)))
def mQ (p1:List aa)(h:List aa)(W:Int)(J:Int):Option ((List aa×Int)⊕List aa):=
 (sub h 0 J).bind λa1=>
 (app 2932031007402 ([]) a1).bind λa4=>
 (idx p1 W).bind λa0=>
 (app 2932031007402 a4 ([a0])).bind λZ=>
 (sub h J h.length).bind λa2=>
 (app 2932031007402 Z a2).bind λa3=>
 pu W a3
def jC (p0:List Int)(p1:List aa)(W:List aa)(J:Int)(h:Int):Option (Int⊕((List aa×Int)⊕List aa)):=
 if decide (0<h) then
  (idx p1 J).bind λa0=>
  (idx W (zw.wrap (h - 1))).bind λa1=>
  (qe p0 a0 a1).bind λZ=>
  if !Z then
   (mQ p1 W J h).map Sum.inr
  else
   some (.inl (zw.wrap (h - 1)))
 else
  (mQ p1 W J h).map Sum.inr
def tw (p0:List Int)(p1:List aa)(h:List aa)(J:Int):Option ((List aa×Int)⊕List aa):=
 if decide (J<(p1.length:Int)) then
  aq (λs:Int=>jC p0 p1 h J s) (h.length:Int)
 else
  (zG h).map Sum.inr
def n9 (p0:List Int)(p1:List aa):Option (List aa):=
 aq (λs:(List aa×Int)=>tw p0 p1 s.1 s.2) ([],0)
def sL:Option Int:=
 some (-1)
def fV (p0:List Int)(p1:Int)(h:Int):Option (Int⊕Int):=
 if decide (h<(p0.length:Int)) then
  (idx p0 h).bind λJ=>
  if p1==J then
   (some h).map Sum.inr
  else
   some (.inl (zw.wrap (h+1)))
 else
  (sL).map Sum.inr
def jU (p0:List Int)(p1:Int):Option Int:=
 aq (λs:Int=>fV p0 p1 s) 0
def fW (p0:List Int)(p1:Int):Option Bool:=
 (jU p0 p1).bind λh=>
 some (decide (0<=h))
def ij (h:Bool):Option Bool:=
 some h
def ik (p0:Int)(p1:aa)(h:Bool):Option Bool:=
 if (p1.fRow.length:Int)==p0 then
  if decide (1<=p1.fId.fEpoch) then
   if decide (p1.fId.fEpoch<=9223372036854775807) then
    ij (!h)
   else
    ij false
  else
   ij false
 else
  ij false
def jV (p0:Int)(p1:aa):Option Bool:=
 if p1.fDeleted != 0 then
  if decide (p1.fDeleted<=p1.fId.fEpoch) then
   ik p0 p1 true
  else
   ik p0 p1 (decide (9223372036854775807<p1.fDeleted))
 else
  ik p0 p1 false
def jW (p0:Int)(p1:aa)(h:Int):Option (Int⊕Bool):=
 if decide (h<(p1.fRow.length:Int)) then
  (idx p1.fRow h).bind λW=>
  (kj W).bind λJ=>
  if !J then
   (some false).map Sum.inr
  else
   some (.inl (zw.wrap (h+1)))
 else
  (jV p0 p1).map Sum.inr
def j9 (p0:Int)(p1:aa):Option Bool:=
 aq (λs:Int=>jW p0 p1 s) 0
def kO (h:List aF):Option Int:=
 some 0
def eT (Z:Int)(h:List aF)(W:aa)(J:Bool):Option ((Int×List aF)⊕Int):=
 if J then
  (some 81).map Sum.inr
 else
  some (.inl (zw.wrap (Z+1),(W.fId::h)))
def cJ (p0:Int)(Z:List aa)(W:Int)(J:List aF):Option ((Int×List aF)⊕Int):=
 if decide (W<(Z.length:Int)) then
  (idx Z W).bind λh=>
  (j9 p0 h).bind λa0=>
  if !a0 then
   eT W J h true
  else
   eT W J h (decide (1<(iA (h.fId::J) h.fId)))
 else
  (kO J).map Sum.inr
def dM (p0:Int)(h:List aa):Option Int:=
 if decide (4096<(h.length:Int)) then
  some 81
 else
  aq (λs:(Int×List aF)=>cJ p0 h s.1 s.2) (0,([]:List aF))
def dN (J:Int)(h:Bool):Option (Int⊕Int):=
 if h then
  (some 1).map Sum.inr
 else
  some (.inl (zw.wrap (J+1)))
def eU (p0:Int)(p1:List Int)(p2:List aa)(h:Int):Option (Int⊕Int):=
 if decide (h<(p1.length:Int)) then
  (idx p1 h).bind λJ=>
  if decide (J<0) then
   dN h true
  else
   if decide (p0<=J) then
    dN h true
   else
    (sub p1 0 h).bind λZ=>
    (fW Z J).bind λW=>
    dN h W
 else
  (dM p0 p2).map Sum.inr
def eV (p0:Int)(p1:List Int)(h:List aa)(J:Bool):Option Int:=
 if J then
  some 1
 else
  aq (λs:Int=>eU p0 p1 h s) 0
def fy (p0:Int)(p1:List Int)(h:List aa):Option Int:=
 if decide (p0<1) then
  eV p0 p1 h true
 else
  eV p0 p1 h (decide (8<p0))
def il (p0:List Int)(p1:Int):Option (List Int):=
 (app 140737488355328 p0 ([Qm.wrap (aP .i64 p1 24),Qm.wrap (aP .i64 p1 16),Qm.wrap (aP .i64 p1 8),Qm.wrap p1])).bind λh=>
 some h
def ul (h:List Ap):Option (List Ap):=
 some h
def fI (h:Int)(J:List Ap):Option ((List Ap×Int)⊕List Ap):=
 some (.inl (J,zw.wrap (h+1)))
def lH (p0:Int)(p1:Int)(W:List aa)(J:List Ap)(h:Int):Option ((List Ap×Int)⊕List Ap):=
 if decide (h<(W.length:Int)) then
  (idx W h).bind λx25=>
  if (zw.wrap (p1 - p0))==0 then
   (dK (zw.wrap x25.fId.fEpoch)).bind λa2=>
   (app 3518437208883 J ([a2])).bind λa1=>
   fI h a1
  else
   if (zw.wrap (p1 - p0))==1 then
    (dK (zw.wrap x25.fId.fNumber)).bind λa3=>
    (app 3518437208883 J ([a3])).bind λa4=>
    fI h a4
   else
    if (zw.wrap (p1 - p0))==2 then
     (dK (zw.wrap x25.fDeleted)).bind λa5=>
     (app 3518437208883 J ([a5])).bind λZ=>
     fI h Z
    else
     (idx x25.fRow p1).bind λa0=>
     (app 3518437208883 J ([a0])).bind λa6=>
     fI h a6
 else
  (ul J).map Sum.inr
def jD (p0:Int)(p1:Int)(h:List aa):Option (List Ap):=
 aq (λs:(List Ap×Int)=>lH p0 p1 h s.1 s.2) ([],0)
def cg {σ:Type}(step:(σ->(List Ap)->Option (σ×Bool)))(p1:List Ap)(W:Int)(h:Int)(x6:σ):Option ((Int×σ)⊕σ):=
 if decide (h<(p1.length:Int)) then
  (sub p1 h p1.length).bind λZ=>
  (sub p1 h (zw.wrap (h+(if (Z.length:Int)<W then (Z.length:Int) else W)))).bind λa0=>
  (step x6 a0).bind λJ=>
  if !J.2 then
   (some J.1).map Sum.inr
  else
   some (.inl (zw.wrap (h+W),J.1))
 else
  (some x6).map Sum.inr
def fz {σ:Type}(step:(σ->(List Ap)->Option (σ×Bool)))(h:σ)(p1:List Ap)(J:Int):Option σ:=
 aq (λs:(Int×σ)=>cg step p1 J s.1 s.2) (0,h)
def fg (p1:List Ap)(h:Int):Option (List (List Ap)):=
 fz (λ(s:List (List Ap)) x=>some (s++[x],true)) [] p1 h
def gF (p0:List Ap)(p1:Int):Option (List (List Ap)):=
 (fg p0 p1).bind λh=>
 some h
def gw (p0:List Ap)(p1:Int):Option (List (List Ap)):=
 if decide (p1<1) then
  none
 else
  gF p0 p1
def oP (p0:Int)(p1:List Ap):Option Bool:=
 (eL p0 p1).bind λh=>
 some (h.2==0)
def fJ (Z:List Int)(J:List Ap)(h:Int):Option (List Int×Bool):=
 (lQ h J).bind λa0=>
 (app 140737488355328 Z a0.1).bind λW=>
 some (W,true)
def eh (p0:Int)(J:List Int)(h:List Ap):Option (List Int×Bool):=
 (oP p0 h).bind λW=>
 if !W then
  fJ J h (-1)
 else
  fJ J h p0
def jE (p0:Int)(p1:List Ap):Option (List Int):=
 (gw p1 64).bind λJ=>
 (eK (λ(s:List Int) (x:List Ap)=>eh p0 s x) ([]:(List Int)) J).bind λh=>
 if h.2 then
  some h.1
 else
  none
def im (h:List Int):Option (List Int×Int):=
 (iS h).bind λJ=>
 (il h (zw.wrap J)).bind λW=>
 some (W,0)
def f8 (p0:Int)(a2:List aa)(a0:List Int)(h:Int)(a1:Int):Option ((List Int×Int)⊕(List Int×Int)):=
 (jD p0 h a2).bind λa3=>
 (jE a1 a3).bind λJ=>
 (il a0 (J.length:Int)).bind λW=>
 (app 140737488355328 W J).bind λZ=>
 some (.inl (Z,zw.wrap (h+1)))
def eO (p0:Int)(p2:List Int)(W:List aa)(J:List Int)(h:Int)(a0:Bool):Option ((List Int×Int)⊕(List Int×Int)):=
 if a0 then
  (idx p2 h).bind λZ=>
  f8 p0 W J h Z
 else
  f8 p0 W J h (-1)
def f9 (p0:Int)(W:List Int)(Z:List aa)(J:List Int)(h:Int):Option ((List Int×Int)⊕(List Int×Int)):=
 if decide (h<(zw.wrap (p0+3))) then
  if decide (h<p0) then
   eO p0 W Z J h (decide (h<(W.length:Int)))
  else
   eO p0 W Z J h false
 else
  (im J).map Sum.inr
def io (p0:Int)(J:List Int)(h:List aa)(Z:List Int):Option (List Int×Int):=
 (il Z (h.length:Int)).bind λW=>
 aq (λs:(List Int×Int)=>f9 p0 J h s.1 s.2) (W,0)
def ip (p0:Int)(p1:List Int)(p2:List Int)(Z:List aa)(J:List Int)(h:Int):Option ((List Int×Int)⊕(List Int×Int)):=
 if decide (h<(p1.length:Int)) then
  (idx p1 h).bind λa0=>
  (app 140737488355328 J ([Qm.wrap a0])).bind λW=>
  some (.inl (W,zw.wrap (h+1)))
 else
  (io p0 p2 Z J).map Sum.inr
def gI (p0:Int)(p1:List Int)(p2:List Int)(J:List aa):Option (List Int×Int):=
 (fy p0 p1 J).bind λh=>
 if h != 0 then
  some ([],h)
 else
  (dX p1 J).bind λZ=>
  (app 140737488355328 ([72,65,89,49]) ([Qm.wrap p0,Qm.wrap (p1.length:Int)])).bind λW=>
  aq (λs:(List Int×Int)=>ip p0 p1 p2 Z s.1 s.2) (W,0)
def dv (p0:List Int):Option Int:=
 (idx p0 0).bind λW=>
 (idx p0 1).bind λJ=>
 (idx p0 2).bind λZ=>
 (idx p0 3).bind λh=>
 some (bOr .i64 (bOr .i64 (bOr .i64 (eu .i64 (zw.wrap W) 24) (eu .i64 (zw.wrap J) 16)) (eu .i64 (zw.wrap Z) 8)) (zw.wrap h))
def fA (J:ay)(h:Int)(Z:List Int)(W:Bool):Option (Int×List Int×Bool×ay):=
 some (h,Z,W,J)
def gS (a0:Int)(J:List Int)(h:ay):Option (Int×List Int×Bool×ay):=
 (sub J (zw.wrap a0) J.length).bind λa1=>
 (dv a1).bind λW=>
 (sub J (zw.wrap ((zw.wrap a0)+4)) J.length).bind λZ=>
 (fy h.fColumns h.fSort ([])).bind λa2=>
 if a2==0 then
  fA h W Z (decide (W<=4096))
 else
  fA h W Z false
def fC (W:Int)(a1:List Int)(J:List Int)(h:Int)(x307:ay):Option ((Int×ay)⊕(Int×List Int×Bool×ay)):=
 if decide (h<(J.length:Int)) then
  (idx J h).bind λa0=>
  (app 17592186044416 x307.fSort ([zw.wrap a0])).bind λZ=>
  some (.inl (zw.wrap (h+1),{ x307 with fSort:=Z }))
 else
  (gS W a1 x307).map Sum.inr
def dY (p1:List Int)(x6:Bool):Option (Int×List Int×Bool×ay):=
 if x6 then
  some (0,[],false,ay.zero)
 else
  (idx p1 4).bind λW=>
  (idx p1 5).bind λh=>
  (sub p1 6 p1.length).bind λJ=>
  if decide ((J.length:Int)<(zw.wrap ((zw.wrap h)+4))) then
   some (0,[],false,{ ay.zero with fColumns:=zw.wrap W })
  else
   (sub J 0 (zw.wrap h)).bind λZ=>
   aq (λs:(Int×ay)=>fC h J Z s.1 s.2) (0,{ ay.zero with fColumns:=zw.wrap W })
def gM (p1:List Int):Option (Int×List Int×Bool×ay):=
 if decide ((p1.length:Int)<6) then
  dY p1 true
 else
  (sub p1 0 4).bind λJ=>
  (IN J).bind λh=>
  dY p1 (!decide (h=(72,65,89,49)))
def jl (p1:Int)(x6:List Ap):Option (List Ap×Bool):=
 some (x6,(x6.length:Int)==p1)
def gN (J:List Int)(a0:List Ap)(h:List Ap×Int×Int)(a1:Bool):Option ((List Int×List Ap)⊕(List Ap×Bool)):=
 if a1 then
  (some ([],false)).map Sum.inr
 else
  (app 3518437208883 a0 h.1).bind λW=>
  (sub J h.2.1 J.length).bind λZ=>
  some (.inl (Z,W))
def gO (p1:Int)(W:List Int)(h:List Ap):Option ((List Int×List Ap)⊕(List Ap×Bool)):=
 if decide (0<(W.length:Int)) then
  (jR W).bind λJ=>
  if J.2.2 != 0 then
   gN W h J true
  else
   gN W h J ((J.1.length:Int) != (if (zw.wrap (p1 - (h.length:Int)))<64 then zw.wrap (p1 - (h.length:Int)) else 64))
 else
  (jl p1 h).map Sum.inr
def hU (p0:List Int)(p1:Int):Option (List Ap×Bool):=
 aq (λs:(List Int×List Ap)=>gO p1 s.1 s.2) (p0,[])
def gT (h:List aa):Option (Bool×List aa):=
 some (true,h)
def cK (h:Int)(J:List aa):Option ((Int×List aa)⊕(Bool×List aa)):=
 some (.inl (zw.wrap (h+1),J))
def dm (p0:ay)(p1:Int)(Z:Int)(h:List aa)(W:Ap)(J:Nat)(a2:Bool):Option ((Int×List aa)⊕(Bool×List aa)):=
 if a2 then
  (some (false,h)).map Sum.inr
 else
  if (zw.wrap (p1 - p0.fColumns))==0 then
   (h[J]?).bind λx82=>
   cK Z (h.set J ({ x82 with fId:={ x82.fId with fEpoch:=Q3.wrap W.fInt } }))
  else
   if (zw.wrap (p1 - p0.fColumns))==1 then
    if decide (4294967295<W.fInt) then
     (some (false,h)).map Sum.inr
    else
     (h[J]?).bind λx106=>
     cK Z (h.set J ({ x106 with fId:={ x106.fId with fNumber:=Zk.wrap W.fInt } }))
   else
    if (zw.wrap (p1 - p0.fColumns))==2 then
     (h[J]?).bind λx122=>
     cK Z (h.set J ({ x122 with fDeleted:=Q3.wrap W.fInt }))
    else
     (h[J]?).bind λa1=>
     (app 3518437208883 a1.fRow ([W])).bind λa0=>
     (h[J]?).bind λx182=>
     cK Z (h.set J ({ x182 with fRow:=a0 }))
def dp (p0:ay)(p1:Int)(p2:List Ap)(h:Int)(J:List aa):Option ((Int×List aa)⊕(Bool×List aa)):=
 if decide (h<(p2.length:Int)) then
  (idx p2 h).bind λW=>
  (ix J h).bind λZ=>
  if decide (p0.fColumns<=p1) then
   if W.fKind != 2 then
    dm p0 p1 h J W Z true
   else
    dm p0 p1 h J W Z (decide (W.fInt<0))
  else
   dm p0 p1 h J W Z false
 else
  (gT J).map Sum.inr
def gP (p0:ay)(h:List aa)(p1:Int)(J:List Ap):Option (Bool×List aa):=
 aq (λs:(Int×List aa)=>dp p0 p1 J s.1 s.2) (0,h)
def oa:Option Bool:=
 some true
def gy (p0:List aa)(p1:List aa)(W:(aa->aa->Option Bool))(h:Int):Option (Int⊕Bool):=
 if decide (h<(p0.length:Int)) then
  (idx p0 h).bind λx25=>
  (idx p1 h).bind λZ=>
  (W x25 Z).bind λJ=>
  if !J then
   (some false).map Sum.inr
  else
   some (.inl (zw.wrap (h+1)))
 else
  (oa).map Sum.inr
def dO (p0:List aa)(p1:List aa)(h:(aa->aa->Option Bool)):Option Bool:=
 if (p0.length:Int) != (p1.length:Int) then
  some false
 else
  aq (λs:Int=>gy p0 p1 h s) 0
def dG (p0:aa)(p1:aa):Option Bool:=
 some (decide (p0.fId=p1.fId))
def fX (p0:(Option ay)):Option Bool:=
 (p0).bind λZ=>
 (p0).bind λW=>
 (dX Z.fSort W.fL).bind λa0=>
 (p0).bind λJ=>
 (dO a0 J.fL dG).bind λh=>
 some h
def iW (r24:Int×List Int×Bool×ay)(J:List aa)(h:Bool):Option ((Option ay)×Int):=
 if h then
  some ((none:(Option ay)),80)
 else
  some ((some ({ r24.2.2.2 with fL:=J })),0)
def kC (r24:Int×List Int×Bool×ay)(a0:List Int)(h:List aa):Option ((Option ay)×Int):=
 if decide (0<(a0.length:Int)) then
  iW r24 h true
 else
  ((some ({ r24.2.2.2 with fL:=h }))).bind λa1=>
  ((some ({ r24.2.2.2 with fL:=h }))).bind λa2=>
  ((some ({ r24.2.2.2 with fL:=h }))).bind λW=>
  (fy a1.fColumns a2.fSort W.fL).bind λJ=>
  if J != 0 then
   iW r24 h true
  else
   (fX (some ({ r24.2.2.2 with fL:=h }))).bind λZ=>
   iW r24 h (!Z)
def iX (h:List Int)(W:Int)(J:Int)(x307:Bool)(a0:List aa):Option ((List Int×Int×List aa)⊕((Option ay)×Int)):=
 if x307 then
  (some ((none:(Option ay)),80)).map Sum.inr
 else
  (sub h (zw.wrap (4+J)) h.length).bind λZ=>
  some (.inl (Z,zw.wrap (W+1),a0))
def iY (r24:Int×List Int×Bool×ay)(h:List Int)(W:Int)(Z:List aa)(a2:Bool):Option ((List Int×Int×List aa)⊕((Option ay)×Int)):=
 if a2 then
  (some ((none:(Option ay)),80)).map Sum.inr
 else
  (dv h).bind λJ=>
  (sub h 4 (zw.wrap (4+J))).bind λa3=>
  (hU a3 r24.1).bind λa1=>
  if !a1.2 then
   iX h W J true Z
  else
   (gP r24.2.2.2 Z W a1.1).bind λa0=>
   iX h W J (!a0.1) a0.2
def fD (r24:Int×List Int×Bool×ay)(h:List Int)(W:Int)(J:List aa):Option ((List Int×Int×List aa)⊕((Option ay)×Int)):=
 if decide (W<(zw.wrap (r24.2.2.2.fColumns+3))) then
  if decide ((h.length:Int)<4) then
   iY r24 h W J true
  else
   (dv h).bind λZ=>
   iY r24 h W J (decide ((h.length:Int)<(zw.wrap (4+Z))))
 else
  (kC r24 h J).map Sum.inr
def iZ (p0:List Int)(W:Bool):Option ((Option ay)×Int):=
 if W then
  some ((none:(Option ay)),80)
 else
  (sub p0 0 (zw.wrap ((p0.length:Int) - 4))).bind λJ=>
  (gM J).bind λr24=>
  if !r24.2.2.1 then
   some ((none:(Option ay)),80)
  else
   (mk 5864062014805 r24.1 aa.zero).bind λh=>
   aq (λs:(List Int×Int×List aa)=>fD r24 s.1 s.2.1 s.2.2) (r24.2.1,0,h)
def jF (p0:List Int):Option ((Option ay)×Int):=
 if decide ((p0.length:Int)<4) then
  iZ p0 true
 else
  (sub p0 (zw.wrap ((p0.length:Int) - 4)) p0.length).bind λh=>
  (dv h).bind λZ=>
  (sub p0 0 (zw.wrap ((p0.length:Int) - 4))).bind λW=>
  (iS W).bind λJ=>
  iZ p0 (Z != (zw.wrap J))
def cB (p0:aa)(p1:aF):Option Bool:=
 some (decide (p0.fId=p1))
def oc:Option Int:=
 some (-1)
def c9 (p0:List aa)(p1:(aa->Option Bool))(h:Int):Option (Int⊕Int):=
 if decide (h<(p0.length:Int)) then
  (idx p0 h).bind λJ=>
  (p1 J).bind λW=>
  if W then
   (some h).map Sum.inr
  else
   some (.inl (zw.wrap (h+1)))
 else
  (oc).map Sum.inr
def dP (p0:List aa)(p1:(aa->Option Bool)):Option Int:=
 aq (λs:Int=>c9 p0 p1 s) 0
def fM (p0:(Option ay))(p1:aF):Option (Int×Bool):=
 (p0).bind λJ=>
 (dP J.fL (λW=>cB W p1)).bind λh=>
 some ((if h<0 then 0 else h),decide (0<=h))
def pw (p0:(Option ay)):Option Int:=
 (p0).bind λh=>
 some (h.fL.length:Int)
def qx (h:Bool):Option Bool:=
 some h
def nP (J:((Option ay)×Int))(W:Bool):Option Bool:=
 if W then
  some false
 else
  (fM J.1 (⟨1,0⟩:aF)).bind λh=>
  (pw J.1).bind λZ=>
  if Z==2 then
   if h.1==1 then
    qx h.2
   else
    qx false
  else
   qx false
def px:Option Bool:=
 (gI 1 ([0]) ([]) ([(⟨(⟨1,0⟩:aF),[(⟨2,false,2,[]⟩:Ap)],0⟩:aa),(⟨(⟨2,0⟩:aF),[(⟨2,false,1,[]⟩:Ap)],0⟩:aa)])).bind λJ=>
 (jF J.1).bind λh=>
 if J.2 != 0 then
  nP h true
 else
  if h.2 != 0 then
   nP h true
  else
   nP h h.1.isNone
def jm (x25:Bool):Option Bool:=
 some x25
def lp (p0:aa)(p1:aa):Option Bool:=
 (oO p0.fRow p1.fRow).bind λh=>
 if h then
  if decide (p0.fId=p1.fId) then
   jm (p0.fDeleted==p1.fDeleted)
  else
   jm false
 else
  jm false
def tz:Option Bool:=
 some true
def kP (p0:List aa)(p1:List aa)(h:Int):Option (Int⊕Bool):=
 if decide (h<(p0.length:Int)) then
  (idx p0 h).bind λx25=>
  (idx p1 h).bind λJ=>
  (lp x25 J).bind λW=>
  if !W then
   (some false).map Sum.inr
  else
   some (.inl (zw.wrap (h+1)))
 else
  (tz).map Sum.inr
def gG (p0:List aa)(p1:List aa):Option Bool:=
 if (p0.length:Int) != (p1.length:Int) then
  some false
 else
  aq (λs:Int=>kP p0 p1 s) 0
structure FW where
 fColumn:Int
 fOp:Int
 fValue:Ap
 deriving DecidableEq
def FW.zero:FW:=⟨0,0,Ap.zero⟩
end
noncomputable section
end
noncomputable section
end
noncomputable section
end
noncomputable section
end
noncomputable section
def gA (p1:List aa)(h:List aa)(W:Bool):Option Bool:=
 if W then
  some false
 else
  (gG h p1).bind λJ=>
  some J
def kD (p0:List Int)(p1:List aa):Option Bool:=
 (n8 p1).bind λh=>
 (dX p0 h).bind λW=>
 (n9 p0 p1).bind λZ=>
 (px).bind λa0=>
 if !a0 then
  gA p1 h true
 else
  (gG W Z).bind λJ=>
  gA p1 h (!J)
end
theorem Cp {σ β:Type}{f:σ->Option (σ⊕β)}{n:Nat}{s:σ}{b:β}(h:gB f n s=some b):∃k,n=k+1/\((f s=some (.inr b))\/ ∃s',f s=some (.inl s')/\gB f k s'=some b):=by
 cases n with
 |zero=>cases h
 | succ k=>
  rw[gB] at h;cases hf:f s with
  |none=>rw[hf] at h;cases h
  |some r=>
   rw[hf] at h;cases r with
   |inl s'=>exact⟨k,rfl,.inr ⟨s',rfl,h⟩⟩
   |inr b'=>injection h with h;subst h;exact⟨k,rfl,.inl rfl⟩
abbrev Cq {O:Type}:List O->O->Option (List O×Bool):=λs x=>some (s++[x],true)
theorem FX {ι σ O:Type} {step:σ->O->Option (σ×Bool)} {s:σ} {xs:List O} {r:σ×Bool} (F:{τ:Type}->(τ->O->Option (τ×Bool))->ι->τ->Option ((ι×τ)⊕τ)) (c:ι->Bool) (el:ι->Option O) (nx:ι->ι)
  (hF:∀{τ:Type} (st:τ->O->Option (τ×Bool)) i s,F st i s=if c i then (el i).bind λx=>(st s x).bind λr=>if !r.2 then (some r.1).map Sum.inr else some (.inl (nx i,r.1)) else (some s).map Sum.inr)
  {i0:ι} (h:aq (λs:ι×List O=>F Cq s.1 s.2) (i0,[])=some xs) (J:eK step s xs=some r):aq (λs:ι×σ=>F step s.1 s.2) (i0,s)=some r.1:=by
 have key:∀(k:Nat) (i:ι) (Z:List O) (out:List O),gB (λs:ι×List O=>F Cq s.1 s.2) k (i,Z)=some out->∃ys,out=Z++ys/\∀(s:σ) r,eK step s ys=some r->aq (λs:ι×σ=>F step s.1 s.2) (i,s)=some r.1:=by
  intro k
  induction k with
  |zero=>intro i Z out h;cases h
  | succ k ih=>
   intro i Z out h;obtain⟨k',hk,g⟩:=Cp h;obtain rfl:k'=k:=by omega
   clear h;have h:=g;clear g;rcases h with h|⟨s',W,h2⟩
   ·have h:F Cq i Z=some (.inr out):=h
    rw[hF] at h
    by_cases hc:c i=true
    ·rw[if_pos hc] at h
     cases hx:el i with
     |none=>rw[hx] at h;cases h
     |some x=>rw[hx] at h;simp at h
    ·rw[if_neg hc] at h
     simp only[Option.map_some,Option.some.injEq,Sum.inr.injEq] at h;subst h;refine⟨[],by simp,λs r J=>?_⟩;simp only[eK,Option.some.injEq] at J;subst J;refine aS ?_;show F step i s=_;rw[hF,if_neg hc];rfl
   ·have W:F Cq i Z=some (.inl s'):=W
    rw[hF] at W
    by_cases hc:c i=true
    ·rw [if_pos hc] at W
     cases hx:el i with
     |none=>rw[hx] at W;cases W
     | some x=>
      rw[hx] at W;simp only[zh,Zn,Qb,if_false,Option.some.injEq,Sum.inl.injEq] at W;subst W;obtain⟨ys,e,a0⟩:=ih _ _ _ h2;refine⟨x::ys,by rw[e];simp,λs r J=>?_⟩;simp only[eK] at J;cases hst:step s x with
      |none=>rw[hst] at J;cases J
      | some q=>
       rw[hst] at J;simp only[zh] at J;cases hq:q.2 with
       | true=>
        rw[hq] at J;simp only[if_true] at J;rw[bK (s':=(nx i,q.1))]
        ·exact a0 _ _ J
        ·show F step i s=_
         rw[hF,if_pos hc,hx,zh,hst,zh,hq];rfl
       |false=>
        rw[hq] at J;simp only[Qb,if_false,Option.some.injEq] at J;subst J;refine aS ?_;show F step i s=_;rw[hF,if_pos hc,hx,zh,hst,zh,hq];rfl
    ·rw[if_neg hc] at W
     cases W
 obtain⟨k,hk⟩:=Dc.1 h;obtain⟨ys,e,a0⟩:=key k _ _ _ hk;simp only[List.nil_append] at e;subst e;exact a0 _ _ J
theorem oQ {σ:Type}{step:σ->List Ap->Option (σ×Bool)}{s:σ}{xs:List (List Ap)}{p1:List Ap}{J:Int}{r:σ×Bool}(h:fg p1 J=some xs)(Z:eK step s xs=some r):fz step s p1 J=some r.1:=by
 refine FX (λ{τ} st i s=>cg st p1 J i s) (λi=>decide (i<(p1.length:Int))) (λi=>(sub p1 i p1.length).bind λW=>sub p1 i (zw.wrap (i+(if (W.length:Int)<J then (W.length:Int) else J)))) (λi=>zw.wrap (i+J)) (λst i s=>?_) h Z;simp only[cg,Option.bind_assoc]
theorem eW {σ β:Type}{f:σ->Option (σ⊕β)}(I:σ->Prop)(μ:σ->Nat)(Q:β->Prop)
  (step:∀s,I s->(∃s',f s=some (.inl s')/\I s'/\μ s'<μ s)\/ ∃b,f s=some (.inr b)/\Q b) {s:σ} (h:I s):∃b,aq f s=some b/\Q b:=by
 generalize hn:μ s=n
 induction n using Zd generalizing s with
 | _ n ih=>
  rcases step s h with⟨s',W,J,h3⟩|⟨b,W,J⟩
  ·obtain⟨b,Z,h5⟩:=ih (μ s') (by omega) J rfl
   exact⟨b,by rw[bK W];exact Z,h5⟩
  ·exact⟨b,aS W,J⟩
theorem my {σ β:Type}{f:σ->Option (σ⊕β)}(I:σ->Prop)(μ:σ->Nat){b:β}
  (step:∀s,I s->(∃s',f s=some (.inl s')/\I s'/\μ s'<μ s)\/f s=some (.inr b)) {s:σ} (h:I s):aq f s=some b:=by
 obtain⟨c,W,rfl⟩:=eW I μ (λc=>c=b) (λs J=>(step s J).imp id λh=>⟨b,h,rfl⟩) h;exact W
theorem ak {n:Int}(h: -9223372036854775808<=n/\n<=9223372036854775807):zw.wrap n=n:=by
 have:inR .i64 n:=by rw[lI];exact h
 exact this
theorem aC {O:Type}{xs:List O}{i:Nat}(h:i<xs.length):idx xs (i:Int)=some xs[i]:=by
 unfold idx;rw[if_pos (by omega)];simp[h]
theorem aQ {O:Type}{N:Nat}{xs ys:List O}(h:xs.length+ys.length<=N):app N xs ys=some (xs++ys):=by
 unfold app;rw[if_pos h]
theorem d4 {O:Type}{xs:List O}{lo hi:Nat}(h:lo<=hi)(J:hi<=xs.length):sub xs (lo:Int) (hi:Int)=some ((xs.take hi).drop lo):=by
 unfold sub;rw[if_pos (by omega)];simp
theorem cx (n:Int):Q3.wrap n=n%18446744073709551616:=by
 simp[IntKind.wrap,IntKind.bits,IntKind.signed]
theorem wH (n:Int):Zk.wrap n=n%4294967296:=by
 simp[IntKind.wrap,IntKind.bits,IntKind.signed]
theorem bZ (n:Int):Qm.wrap n=n%256:=by
 simp[IntKind.wrap,IntKind.bits,IntKind.signed]
theorem oS {x:Int}{k:Nat}(h:k<=64):aP .u64 x (k:Int)=x/2^k:=by
 unfold aP;rw[Qp _ (Zo (Int.pow_pos (by decide)))];congr 2;simp[IntKind.bits];omega
theorem Om {x:Int}{k:Nat}(h:k<=8):aP .u8 x (k:Int)=x/2^k:=by
 unfold aP;rw[Qp _ (Zo (Int.pow_pos (by decide)))];congr 2;simp[IntKind.bits];omega
theorem vC {x:Int}{k:Nat}(h:k<=64):eu .u64 x (k:Int)=(x*2^k)%18446744073709551616:=by
 unfold eu;rw[cx];congr 3;simp[IntKind.bits];omega
theorem GT {a b:Nat}(Z:a<18446744073709551616)(W:b<18446744073709551616):dI .u64 (a:Int) (b:Int)=((a&&&b:Nat):Int):=by
 unfold dI;rw[cx]
 have J:(Qc Q3.bits (a:Int)).toNat=a:=by
  show(Qc 64 (a:Int)).toNat=a;rw[Qe];omega
 have h:(Qc Q3.bits (b:Int)).toNat=b:=by
  show(Qc 64 (b:Int)).toNat=b;rw[Qe];omega
 rw[BitVec.toNat_and,J,h];have:a&&&b<=a:=Nat.and_le_left;omega
theorem FY {a b:Nat}(Z:a<18446744073709551616)(J:b<18446744073709551616):bOr .u64 (a:Int) (b:Int)=((a|||b:Nat):Int):=by
 unfold bOr;rw[cx]
 have W:(Qc Q3.bits (a:Int)).toNat=a:=by
  show(Qc 64 (a:Int)).toNat=a;rw[Qe];omega
 have h:(Qc Q3.bits (b:Int)).toNat=b:=by
  show(Qc 64 (b:Int)).toNat=b;rw[Qe];omega
 rw[BitVec.toNat_or,W,h];have:a|||b<2^64:=Nat.or_lt_two_pow (by simpa using Z) (by simpa using J)
 have e:(2:Nat)^64=18446744073709551616:=by decide
 omega
def be8 (n:Int):List Int:=[n/2^56%256,n/2^48%256,n/2^40%256,n/2^32%256,n/2^24%256,n/2^16%256,n/2^8%256,n%256]
theorem qf (n:Int):kL n=some (be8 n):=by
 unfold kL
 have step:∀(l:List Int) (i:Nat),i<8->l.length<=8->fo n l (i:Int)=some (.inl (l++[n/2^(56 - 8*i)%256],((i+1:Nat):Int))):=by
  intro l i hi h;unfold fo;have h1:decide ((i:Int)<8)=true:=by simpa using by omega
  have W:zw.wrap (8*(i:Int))=((8*i:Nat):Int):=by rw[ak (by omega)];omega
  have J:zw.wrap (56 - ((8*i:Nat):Int))=((56 - 8*i:Nat):Int):=by rw[ak (by omega)];omega
  have h4:zw.wrap ((i:Int)+1)=((i+1:Nat):Int):=by rw[ak (by omega)];omega
  rw[if_pos h1,W,J,oS (by omega),bZ,h4];have h5:chk (decide (0<=((56 - 8*i:Nat):Int)))=some ():=by simp[chk]
  rw[h5,zh,aQ (by simp;omega),zh]
 have Z:∀l:List Int,fo n l 8=some (.inr l):=λl=>by
  unfold fo;rw[if_neg (by decide)];rfl
 have s:∀(l:List Int) (i:Nat),i<8->l.length<=8->aq (λs:(List Int×Int)=>fo n s.1 s.2) (l,(i:Int))=aq (λs:(List Int×Int)=>fo n s.1 s.2) (l++[n/2^(56 - 8*i)%256],((i+1:Nat):Int)):=λl i hi h=>bK (step l i hi h);have:=s [] 0 (by omega) (by simp);rw[show((0:Nat):Int)=0 from rfl] at this;rw[this,s _ 1 (by omega) (by simp),s _ 2 (by omega) (by simp),s _ 3 (by omega) (by simp),s _ 4 (by omega) (by simp),s _ 5 (by omega) (by simp),s _ 6 (by omega) (by simp),s _ 7 (by omega) (by simp)];rw[show((7+1:Nat):Int)=8 from rfl,aS (Z _)];simp[be8]
def dE (l:List Int):Int:=l.foldl (λa c=>a*256+c) 0
theorem qy (l:List Int)(c:Int):dE (l++[c])=dE l*256+c:=by simp[dE]
theorem wI (l:List Int)(h:∀c∈l,0<=c/\c<256):0<=dE l/\dE l<256^l.length:=by
 have key:∀(r:List Int),(∀c∈r,0<=c/\c<256)->0<=dE r.reverse/\dE r.reverse<256^r.length:=by
  intro r
  induction r with
  |nil=>intro _;simp[dE]
  |cons c r ih=>
   intro h;obtain⟨h1,Z⟩:=ih (λx W=>h x (by simp[W]));have J:=h c (by simp);rw[List.reverse_cons,qy,Qk,Int.pow_succ];omega
 have:=key l.reverse (λc J=>h c (by simpa using J));simpa using this
theorem uS {n:Int}(J:0<=n)(h:n<18446744073709551616):dE (be8 n)=n:=by
 simp only[dE,be8,Zh,List.foldl_nil];omega
theorem tA (n:Int):∀c∈be8 n,0<=c/\c<256:=by
 intro c h;simp only[be8,Q9,List.not_mem_nil,or_false] at h;rcases h with rfl|rfl|rfl|rfl|rfl|rfl|rfl|rfl<;>omega
theorem ce (n:Int):(be8 n).length=8:=rfl
theorem cf {σ β:Type}{f:σ->Option (σ⊕β)}{s:σ}{b:β}(S:Nat->σ)(n:Nat)(W:s=S 0)(step:∀i,i<n->f (S i)=some (.inl (S (i+1))))(J:f (S n)=some (.inr b)):aq f s=some b:=by
 have key:∀i,i<=n->aq f s=aq f (S i):=by
  intro i
  induction i with
  |zero=>intro _;rw[W]
  |succ i ih=>intro h;rw[ih (by omega),bK (step i (by omega))]
 rw[key n (Qd n),aS J]
theorem zH {O β:Type}{f:Int->Option (Int⊕β)}(xs:List O)(p:O->Bool)(W J:β)(step:∀(i:Nat)(h:i<xs.length),p xs[i]=true->f (i:Int)=some (.inl ((i+1:Nat):Int)))
  (out:∀(i:Nat) (h:i<xs.length),p xs[i]=false->f (i:Int)=some (.inr W)) (a0:f (xs.length:Int)=some (.inr J)):aq f 0=some (if xs.all p then J else W):=by
 have key:∀k i:Nat,i+k=xs.length->aq f (i:Int)=some (if (xs.drop i).all p then J else W):=by
  intro k
  induction k with
  |zero=>
   intro i hi;have:i=xs.length:=by omega
   subst this;rw[aS a0];simp
  |succ k ih=>
   intro i hi;have Z:i<xs.length:=by omega
   rw[Qv Z,List.all_cons];cases hp:p xs[i] with
   |true=>rw[bK (step i Z hp),ih (i+1) (by omega)];simp
   |false=>rw[aS (out i Z hp)];simp
 have:=key xs.length 0 (by omega);simpa using this
theorem xE {O β:Type}{f:Int->Option (Int⊕β)}(xs:List O)(p:O->Bool)(W:Nat->β)(J:β)(step:∀(i:Nat)(h:i<xs.length),p xs[i]=false->f (i:Int)=some (.inl ((i+1:Nat):Int)))
  (out:∀(i:Nat) (h:i<xs.length),p xs[i]=true->f (i:Int)=some (.inr (W i))) (a0:f (xs.length:Int)=some (.inr J)):aq f 0=some (if xs.any p then W (xs.findIdx p) else J):=by
 have key:∀k i:Nat,i+k=xs.length->aq f (i:Int)=some (if (xs.drop i).any p then W (i+(xs.drop i).findIdx p) else J):=by
  intro k
  induction k with
  |zero=>
   intro i hi;have:i=xs.length:=by omega
   subst this;rw[aS a0];simp
  | succ k ih=>
   intro i hi;have Z:i<xs.length:=by omega
   rw[Qv Z,List.any_cons,List.findIdx_cons];cases hp:p xs[i] with
   |false=>
    rw[bK (step i Z hp),ih (i+1) (by omega)];simp only[Bool.false_or,cond_false];congr 2;congr 1;omega
   |true=>rw[aS (out i Z hp)];simp
 have:=key xs.length 0 (by omega);simpa using this
theorem bw {i:Nat}(h:i<4611686018427387904):zw.wrap ((i:Int)+1)=((i+1:Nat):Int):=by rw[ak (by omega)];rfl
theorem py {b:Bool}(h:b=true):chk b=some ():=by subst h;rfl
def Byt (l:List Int):Prop:= ∀c∈l,0<=c/\c<256
theorem Byt.nil:Byt []:=λc h=>by cases h
theorem Byt.cons {c:Int}{l:List Int}(W:0<=c/\c<256)(h:Byt l):Byt (c::l):=λd J=>by
 rcases Q9.1 J with rfl|J
 ·exact W
 ·exact h d J
theorem Byt.head {c:Int}{l:List Int}(h:Byt (c::l)):0<=c/\c<256:=h c (by simp)
theorem Byt.tail {c:Int}{l:List Int}(h:Byt (c::l)):Byt l:=λd J=>h d (by simp[J])
theorem Byt.app {a b:List Int}(h:Byt a)(k:Byt b):Byt (a++b):=λc J=>by
 rcases Qa.1 J with J|J
 ·exact h c J
 ·exact k c J
theorem Byt.take {a:List Int}(h:Byt a)(n:Nat):Byt (a.take n):=λc J=>h c (Qj J)
theorem Byt.drop {a:List Int}(h:Byt a)(n:Nat):Byt (a.drop n):=λc J=>h c (List.mem_of_mem_drop J)
theorem Byt.left {a b:List Int}(h:Byt (a++b)):Byt a:=λc J=>h c (by simp[J])
theorem Byt.right {a b:List Int}(h:Byt (a++b)):Byt b:=λc J=>h c (by simp[J])
def cL (n:Int):Prop:= -9223372036854775808<=n/\n<=9223372036854775807
structure VOK (v:Ap):Prop where
 kind:cL v.fKind
 int:cL v.fInt
 text:Byt v.fText
abbrev jX:Ap:=⟨0,false,0,[]⟩
abbrev yw (b:Bool):Ap:=⟨1,b,0,[]⟩
abbrev gU (n:Int):Ap:=⟨2,false,n,[]⟩
abbrev uf (t:List Int):Ap:=⟨3,false,0,t⟩
def right (v:Ap):Bool:=
 if v.fKind==0 then decide (v=jX) else if v.fKind==1 then decide (v=yw v.fBool) else if v.fKind==2 then decide (v=gU v.fInt) else
 if v.fKind==3 then decide (v=uf v.fText)&&decide ((v.fText.length:Int)<=64) else false
theorem hZ (v:Ap):kj v=some (right v):=by
 obtain⟨k,b,n,t⟩:=v;unfold kj right jJ mG dK mH nq;simp only[zh]
 by_cases h0:k=0
 ·subst h0;rfl
 by_cases h1:k=1
 ·subst h1;rfl
 by_cases h2:k=2
 ·subst h2;rfl
 by_cases h3:k=3
 ·subst h3
  by_cases h:(⟨3,b,n,t⟩:Ap)=uf t
  ·simp[h]
  ·simp[h]
 have J:(k==0)=false:=by simpa using h0
 have W:(k==1)=false:=by simpa using h1
 have e2:(k==2)=false:=by simpa using h2
 have Z:(k==3)=false:=by simpa using h3
 simp only[J,W,e2,Z];rfl
inductive Rgt:Ap->Prop
 |null:Rgt jX
 |bool (b:Bool):Rgt (yw b)
 |int (n:Int) (h:cL n):Rgt (gU n)
 |text (t:List Int) (h:Byt t) (hl:t.length<=64):Rgt (uf t)
theorem Rgt.of {v:Ap}(h:VOK v)(J:right v=true):Rgt v:=by
 unfold right at J;split at J
 ·have:=of_decide_eq_true J;rw[this];exact .null
 split at J
 ·have:=of_decide_eq_true J;rw[this];exact .bool _
 split at J
 ·have:=of_decide_eq_true J;rw[this];exact .int _ h.int
 split at J
 ·simp only[Q7,decide_eq_true_eq] at J
  rw[J.1];exact .text _ h.text (by omega)
 ·cases J
theorem Rgt.right {v:Ap}(h:Rgt v):right v=true:=by
 cases h with
 |null=>rfl
 |bool b=>cases b<;>rfl
 |int n _=>simp[Go.Proofs.YthbonoagbeilkaaGreat.Hay.right]
 |text t _ hl=>simp[Go.Proofs.YthbonoagbeilkaaGreat.Hay.right];omega
theorem Rgt.ok {v:Ap}(h:Rgt v):VOK v:=by
 cases h with
 |null=>exact⟨by simp[cL],by simp[cL],Byt.nil⟩
 |bool b=>exact⟨by simp[cL],by simp[cL],Byt.nil⟩
 |int n h=>exact⟨by simp[cL],h,Byt.nil⟩
 |text t h _=>exact⟨by simp[cL],by simp[cL],h⟩
def bn (v:Ap):List Int:=
 if v.fKind=1 then [1,if v.fBool then 1 else 0] else if v.fKind=2 then 2::be8 (v.fInt%18446744073709551616) else if v.fKind=3 then 3::(v.fText.length:Int)::v.fText else [v.fKind]
theorem DS:bn jX=[0]:=rfl
theorem DT (b:Bool):bn (yw b)=[1,if b then 1 else 0]:=rfl
theorem rV (n:Int):bn (gU n)=2::be8 (n%18446744073709551616):=rfl
theorem qg (t:List Int):bn (uf t)=3::(t.length:Int)::t:=rfl
theorem pB {v:Ap}(h:Rgt v):Byt (bn v):=by
 cases h with
 |null=>exact .cons (by decide) .nil
 |bool b=>exact .cons (by decide) (.cons (by cases b<;>decide) .nil)
 |int n h=>exact .cons (by decide) (tA _)
 |text t h hl=>exact .cons (by decide) (.cons (by show 0<=(t.length:Int)/\(t.length:Int)<256;omega) h)
theorem gJ {v:Ap}(h:Rgt v):1<=(bn v).length/\(bn v).length<=66:=by
 cases h with
 |null=>decide
 |bool b=>cases b<;>decide
 |int n h=>rw[rV];simp[ce]
 |text t h hl=>rw[qg];simp;omega
theorem ya {p:List Int}(n:Int)(hp:p.length+8<=140737488355328):k9 p n=some (p++be8 n):=by
 unfold k9;refine cf (λi=>((i:Int),(be8 n).take i++Q4 (8 - i) 0)) 8 rfl ?_ ?_
 ·intro i hi
  dsimp only;unfold j5;have W:decide ((i:Int)<8)=true:=by simpa using by omega
  have J:zw.wrap (8*(i:Int))=((8*i:Nat):Int):=by rw[ak (by omega)];omega
  have h:zw.wrap (56 - ((8*i:Nat):Int))=((56 - 8*i:Nat):Int):=by rw[ak (by omega)];omega
  rw[if_pos W,J,h,oS (by omega),bZ,bw (by omega),py (by simp),zh];have Z:((be8 n).take i++Q4 (8 - i) (0:Int)).length=8:=by simp[ce];omega
  have hj:ix ((be8 n).take i++Q4 (8 - i) (0:Int)) (i:Int)=some i:=by unfold ix;rw[if_pos (by rw[Z];omega)];simp
  rw[hj,zh,Q1 (by omega),zh];have:i=0\/i=1\/i=2\/i=3\/i=4\/i=5\/i=6\/i=7:=by omega
  rcases this with rfl|rfl|rfl|rfl|rfl|rfl|rfl|rfl<;>simp[be8,Q4]
 ·unfold j5 ma
  have e:(be8 n).take 8++Q4 (8 - 8) (0:Int)=be8 n:=by simp[be8]
  dsimp only;rw[if_neg (by simp)];rw[e,aQ (by simp[ce];omega)];rfl
theorem AO {p:List Int}{v:Ap}(h:Rgt v)(J:p.length+66<=140737488355328):rT p v=some (p++bn v):=by
 unfold rT;rw[aQ (by simp;omega),zh];cases h with
 |null=>simp[bn,bZ]
 | bool b=>
  cases b
  ·simp only[bn,bZ]
   rw[if_pos (by decide),if_neg (by decide),aQ (by simp;omega)];simp
  ·simp only[bn,bZ]
   rw[if_pos (by decide),if_pos (by decide),aQ (by simp;omega)];simp
 |int n h=>
  simp only[bZ,cx,bn];rw[if_neg (by decide),if_pos (by decide),ya _ (by simp;omega)];simp
 |text t h hl=>
  simp only[bZ,bn];rw[if_neg (by decide),if_neg (by decide),if_pos (by decide),aQ (by simp;omega),zh,aQ (by simp;omega)];simp;omega
theorem AP (l:List Ap)(W:l.length<=281474976710656):pj l=some (l.all right&&decide (l.length<=16)):=by
 have h:pj l=some (if l.all right then decide ((l.length:Int)<=16) else false):=by
  unfold pj;refine zH l right _ _ (λi h J=>?_) (λi h J=>?_) ?_
  ·unfold nM
   rw[if_pos (by simpa using h),aC h,zh,hZ,zh,J,if_neg (by decide),bw (by omega)]
  ·unfold nM
   rw[if_pos (by simpa using h),aC h,zh,hZ,zh,J];rfl
  ·unfold nM up
   rw[if_neg (by simp)];rfl
 rw[h];cases l.all right<;>simp;omega
def rW (l:List Ap):List Int:=(l.length:Int)::l.flatMap bn
theorem kQ {l:List Ap}(h:∀v∈l,Rgt v):(l.flatMap bn).length<=66*l.length:=by
 induction l with
 |nil=>simp
 |cons v r ih=>
  have:=(gJ (h v (by simp))).2;have:=ih (λx J=>h x (by simp[J]));rw[List.flatMap_cons,Qf,Qk];omega
theorem qh {O:Type}{l:List O}{f:O->List Int}{i:Nat}(h:i<l.length):(l.take (i+1)).flatMap f=(l.take i).flatMap f++f l[i]:=by
 rw[Jn h,List.flatMap_append,List.flatMap_singleton]
theorem rf {l:List Ap}(h:∀v∈l,Rgt v)(W:l.length<=16):lN l=some (rW l,0):=by
 unfold lN;rw[AP l (by omega),zh];have Z:l.all right=true:=by rw[Z0];exact λv J=>(h v J).right
 rw[Z,if_neg (by simpa using W)];refine cf (λi=>((l.length:Int)::(l.take i).flatMap bn,(i:Int))) l.length (by simp[bZ];omega) (λi hi=>?_) ?_
 ·dsimp only
  unfold nr;have:=kQ (l:=l.take i) λv J=>h v (Qj J);rw[if_pos (by simpa using hi),aC hi,zh,AO (h _ (Q6 hi)) (by simp at this ⊢;omega),zh,bw (by omega),qh hi]
  rfl
 ·unfold nr qZ
  rw[if_neg (by simp)];simp[rW]
theorem oB {v:Ap}(h:Rgt v):jK v=some (bn v):=by
 unfold jK;rw[rf (l:=[v]) (by simpa using h) (by simp),zh]
 have:sub (rW [v]) 1 ((rW [v]).length:Int)=some (bn v):=by
  have:=d4 (xs:=rW [v]) (lo:=1) (hi:=(rW [v]).length) (by simp[rW]) (Qd _);rw[show((1:Nat):Int)=1 from rfl] at this;rw[this];simp[rW]
 dsimp only;rw[this];rfl
def bI:List Int->Option (Ap×Nat)
 |[]=>none
 |k::b=>
  if k=0 then some (jX,1) else
  if k=1 then (match b with|c::_=>if c<=1 then some (yw (c==1),2) else none|[]=>none) else
  if k=2 then (if 8<=b.length then some (gU (zw.wrap (dE (b.take 8))),9) else none) else
  if k=3 then (match b with|c::r=>if c<=64/\c<=(r.length:Int) then some (uf (r.take c.toNat),2+c.toNat) else none|[]=>none) else none
theorem FZ {l:List Int}(h:Byt l)(J:l.length=8):be8 (dE l)=l:=by
 match l,J with
 |[a,b,c,d,e,f,g,i],_=>
  have ha:=h a (by simp);have W:=h b (by simp);have Z:=h c (by simp);have hd:=h d (by simp);have he:=h e (by simp);have hf:=h f (by simp);have hg:=h g (by simp);have hi:=h i (by simp);simp only[be8,dE,Zh,List.foldl_nil,List.cons.injEq,and_true];refine⟨?_,?_,?_,?_,?_,?_,?_,?_⟩<;>omega
theorem kR (n:Int):zw.wrap n=(n+9223372036854775808)%18446744073709551616 - 9223372036854775808:=by
 simp only[IntKind.wrap,IntKind.bits,IntKind.signed];simp;omega
theorem F0 {n:Int}(h:0<=n/\n<18446744073709551616):zw.wrap n%18446744073709551616=n:=by
 rw[kR];omega
theorem uT {n:Int}(h:cL n):zw.wrap (n%18446744073709551616)=n:=by
 rw[kR];unfold cL at h;omega
theorem lY (n:Int):cL (zw.wrap n):=by rw[kR];unfold cL;omega
theorem od {v:Ap}(h:Rgt v)(r:List Int):bI (bn v++r)=some (v,(bn v).length):=by
 cases h with
 |null=>simp[DS,bI]
 |bool b=>cases b<;>simp[DT,bI]
 |int n h=>
  rw[rV];have h1: ¬ ((2:Int)=0):=by decide
  have Z: ¬ ((2:Int)=1):=by decide
  have J:8<=(be8 (n%18446744073709551616)++r).length:=by simp[ce]
  have W:(be8 (n%18446744073709551616)++r).take 8=be8 (n%18446744073709551616):=List.take_left' (ce _);simp only[List.cons_append,bI];rw[if_neg h1,if_neg Z,if_pos trivial,if_pos J,W,uS (by omega) (by omega),uT h];simp[ce]
 |text t h hl=>
  rw[qg];simp only[List.cons_append,bI];rw[if_neg (by decide),if_neg (by decide),if_neg (by decide),if_pos trivial,if_pos (by simp;omega)];simp;omega
theorem lq {b:List Int}{v:Ap}{n:Nat}(W:Byt b)(h:bI b=some (v,n)):Rgt v/\∃r,b=bn v++r/\n=(bn v).length:=by
 cases b with
 |nil=>cases h
 | cons k b=>
  simp only[bI] at h;split at h
  ·rename_i J;subst J
   simp only[Option.some.injEq,Prod.mk.injEq] at h;obtain⟨rfl,rfl⟩:=h;exact⟨.null,b,rfl,rfl⟩
  split at h
  ·rename_i J;subst J
   cases b with
   |nil=>cases h
   | cons c r=>
    simp only at h;split at h
    ·rename_i hc
     simp only[Option.some.injEq,Prod.mk.injEq] at h;obtain⟨rfl,rfl⟩:=h;have h0:=W.tail.head;have:c=0\/c=1:=by omega
     rcases this with rfl|rfl
     ·exact⟨.bool _,r,rfl,rfl⟩
     ·exact⟨.bool _,r,rfl,rfl⟩
    ·cases h
  split at h
  ·rename_i J;subst J
   split at h
   ·rename_i hl
    simp only[Option.some.injEq,Prod.mk.injEq] at h;obtain⟨rfl,rfl⟩:=h;have Z:(b.take 8).length=8:=by simp;omega
    have a0:=wI (b.take 8) (W.tail.take 8);rw[Z] at a0;refine⟨.int _ (lY _),b.drop 8,?_,?_⟩
    ·rw[rV,F0 (by omega),FZ (W.tail.take 8) Z]
     simp
    ·rw[rV];simp[ce]
   ·cases h
  split at h
  ·rename_i J;subst J
   cases b with
   |nil=>cases h
   | cons c r=>
    simp only at h;split at h
    ·rename_i hc
     simp only[Option.some.injEq,Prod.mk.injEq] at h;obtain⟨rfl,rfl⟩:=h;have h0:=W.tail.head;refine⟨.text _ (W.tail.tail.take _) (by simp;omega),r.drop c.toNat,?_,?_⟩
     ·rw[qg]
      have:((r.take c.toNat).length:Int)=c:=by simp;omega
      rw[this];simp
     ·rw[qg];simp;omega
    ·cases h
  ·cases h
theorem pC {b:List Int}{v:Ap}{n:Nat}(J:Byt b)(h:bI b=some (v,n)):1<=n/\n<=66/\n<=b.length:=by
 obtain⟨W,r,rfl,rfl⟩:=lq J h;have:=gJ W;simp;omega
theorem oT {b:List Int}{v:Ap}{n k:Nat}(Z:Byt b)(h:bI (b.take k)=some (v,n)):bI b=some (v,n)/\n<=k:=by
 obtain⟨h1,r,J,rfl⟩:=lq (Z.take k) h;have W:b=bn v++(r++b.drop k):=by rw[←List.append_assoc,←J];simp
 refine⟨by rw[W];exact od h1 _,?_⟩;have:=congrArg Zl J;simp at this;omega
theorem sH {b:List Int}{v:Ap}{n k:Nat}(J:Byt b)(h:bI b=some (v,n))(Z:n<=k):bI (b.take k)=some (v,n):=by
 obtain⟨W,r,rfl,rfl⟩:=lq J h;rw[List.take_append,List.take_of_length_le Z];exact od W _
theorem DU {x y:Int}(k:Nat)(hx:0<=x)(J:0<=y)(W:y<2^k)(Z:x*2^k+y<18446744073709551616):bOr .u64 (x*2^k) y=x*2^k+y:=by
 obtain⟨a,rfl⟩:=Qi hx;obtain⟨b,rfl⟩:=Qi J;have e:(a:Int)*2^k=((2^k*a:Nat):Int):=by rw[Int.natCast_mul,Qh,Int.mul_comm];rfl
 have e2:((2:Int)^k)=((2^k:Nat):Int):=by rw[Qh];rfl
 rw[e2] at W;rw[e] at Z ⊢;have h:b<2^k:=by omega
 rw[FY (by omega) (by omega),←Z6 h];omega
theorem wJ {b:List Int}(h:Byt b)(hl:8<=b.length):nO b=some (dE (b.take 8)):=by
 unfold nO;refine cf (λi=>(dE (b.take i),(i:Int))) 8 (by simp[dE]) (λi hi=>?_) ?_
 ·dsimp only
  unfold ny;have hi':i<b.length:=by omega
  have a1:=wI (b.take i) (h.take i);have a0:=h b[i] (Q6 hi')
  have hp:(256:Int)^(b.take i).length<=256^7:=by
   have:(b.take i).length<=7:=by simp;omega
   have Z:=Ql (show 0<256 by omega) this;have W:=Int.ofNat_le.2 Z;simpa[Qh] using W
  have J:=vC (x:=dE (b.take i)) (k:=8) (by omega);rw[show((8:Nat):Int)=8 from rfl] at J
  have e:dE (b.take (i+1))=dE (b.take i)*256+b[i]:=by
   rw[Jn hi',qy]
  have e1:dE (b.take i)*2^8%18446744073709551616=dE (b.take i)*2^8:=by omega
  have e2:b[i]%18446744073709551616=b[i]:=by omega
  rw[if_pos (by simpa using by omega),aC hi',zh,bw (by omega),J,cx,e,e1,e2,DU 8 (by omega) (by omega) (by omega) (by omega)]
  rfl
 ·unfold ny rc
  dsimp only;rw[if_neg (by simp)];rfl
theorem da {O:Type}(a:O)(l:List O):idx (a::l) 0=some a:=aC (xs:=a::l) (i:=0) (by simp)
theorem xF {O:Type}(a b:O)(l:List O):idx (a::b::l) 1=some b:=aC (xs:=a::b::l) (i:=1) (by simp)
theorem ga {O:Type}{xs:List O}{k:Nat}(h:k<=xs.length):sub xs (k:Int) (xs.length:Int)=some (xs.drop k):=by
 rw[d4 h (Qd _),Q8]
theorem qi {O:Type}(a:O)(l:List O):sub (a::l) 1 ((a::l).length:Int)=some l:=by
 have:=ga (xs:=a::l) (k:=1) (by simp);simpa using this
theorem rg {c:Int}(h:0<=c/\c<256):zw.wrap c=c:=ak (by omega)
theorem zI {b:List Int}(hb:Byt b):qa b=some (match bI b with|some (v,n)=>(v,b.drop n,true)|none=>(jX,[],false)):=by
 cases b with
 |nil=>rfl
 | cons k r=>
  have Z:=hb.head;have hr:=hb.tail;unfold qa;rw[if_neg (by simp;omega),da,zh,qi,zh,rg Z]
  by_cases h0:k=0
  ·subst h0;simp[bI,jJ]
  rw[if_neg (by simpa using h0)];have J:jz r false=some (jX,[],false):=rfl
  by_cases h1:k=1
  ·subst h1
   have e2:jA 1 r false=some (jX,[],false):=rfl;rw[if_pos (by simp)];cases r with
   |nil=>simp[bI,e2]
   | cons c r=>
    rw[if_pos (by simp;omega),da,zh]
    by_cases h:c<=1
    ·unfold jA
     rw[if_pos (by simpa using h),da,zh,qi];simp[bI,h,mG]
    ·have:decide (c<=1)=false:=by simpa using h
     rw[this,e2];simp[bI,h]
  rw[if_neg (by simpa using h1)];unfold jA;rw[if_neg (by decide),rg Z]
  by_cases h2:k=2
  ·subst h2
   rw[if_pos (by simp)];unfold mM
   by_cases hl:8<=r.length
   ·have W:=ga (xs:=r) (k:=8) hl
    rw[show((8:Nat):Int)=8 from rfl] at W;rw[if_pos (by simpa using by omega),wJ hr hl,zh];unfold dK;rw[zh,W];simp[bI,hl]
   ·rw[if_neg (by simpa using by omega),if_neg (by decide),J]
    simp[bI,hl]
  rw[if_neg (by simpa using h2)];unfold mM;rw[if_neg (by decide),rg Z]
  by_cases h3:k=3
  ·subst h3
   rw[if_pos (by simp)];cases r with
   |nil=>simp[bI,J]
   | cons c r=>
    have h:=hr.head;rw[if_pos (by simp;omega),da,zh]
    by_cases hc64:c<=64
    ·rw[if_pos (by simpa using hc64),zh,rg h]
     by_cases hl:c<=(r.length:Int)
     ·obtain⟨n,rfl⟩:=Qi h.1
      have e3:Qm.wrap (1+(n:Int))=((1+n:Nat):Int):=by rw[bZ];omega
      have W:=d4 (xs:=(n:Int)::r) (lo:=1) (hi:=1+n) (by omega) (by simp;omega);rw[show((1:Nat):Int)=1 from rfl] at W;have a0:=ga (xs:=(n:Int)::r) (k:=1+n) (by simp;omega);unfold jz;rw[if_pos (by simp;omega),da,zh,e3,W,zh];unfold mH;rw[zh,zh,e3,a0]
      have e5:bI (3::(n:Int)::r)=some (uf (r.take n),2+n):=by
       simp only[bI];rw[if_neg (by decide),if_neg (by decide),if_neg (by decide),if_pos trivial,if_pos ⟨hc64,hl⟩];simp
      rw[e5];simp only[zh,Option.some.injEq,Prod.mk.injEq,and_true];have e6:1+n=n+1:=by omega
      have e7:2+n=n+1+1:=by omega
      rw[e6,e7];simp
     ·have:decide (c<(((c::r).length:Nat):Int))=false:=by simp;omega
      rw[this,J];simp[bI,hl]
    ·rw[if_neg (by simpa using hc64),J];simp[bI,hc64]
  rw[if_neg (by simpa using h3),J];simp[bI,h0,h1,h2,h3]
def oh:Nat->List Int->Option (List Ap×List Int)
 |0,b=>some ([],b)
 |n+1,b=>match bI b with
  |some (v,k)=>(oh n (b.drop k)).map λx=>(v::x.1,x.2)
  |none=>none
theorem uU (many:Nat)(Z:many<=255):∀(n i:Nat) (b:List Int) (h:List Ap),i+n=many->Byt b->h.length=i->
  aq (λs:(List Int×List Ap×Int)=>jB (many:Int) s.1 s.2.1 s.2.2) (b,h,(i:Int))=some (match oh n b with|some (l,[])=>(h++l,0)|_=>([],30)):=by
 intro n
 induction n with
 |zero=>
  intro i b h hi J W;apply aS;dsimp only;unfold jB re;rw[if_neg (by rw[ak (by omega)];simp;omega)];cases b with
  |nil=>simp[oh]
  |cons c r=>simp[oh]
 | succ n ih=>
  intro i b h hi J W
  have step:jB (many:Int) b h (i:Int)=match bI b with|some (v,k)=>some (.inl (b.drop k,h++[v],((i+1:Nat):Int)))|none=>some (.inr ([],30)):=by
   unfold jB;rw[if_pos (by rw[ak (by omega)];simp;omega),zI J,zh];cases hp:bI b with
   |none=>rfl
   |some x=>
    obtain⟨v,k⟩:=x;simp only[Zn,Qb,if_false];rw[aQ (by simp;omega),zh,bw (by omega)]
  simp only[oh];cases hp:bI b with
  |none=>rw[hp] at step;rw[aS (by dsimp only;exact step)]
  | some x=>
   obtain⟨v,k⟩:=x;rw[hp] at step;rw[bK (by dsimp only;exact step),ih (i+1) _ _ (by omega) (J.drop _) (by simp;omega)];dsimp only;cases hq:oh n (b.drop k) with
   |none=>rfl
   |some y=>
    obtain⟨l,r⟩:=y;cases r<;>simp
theorem wK {b:List Int}(J:Byt b):kp b=some (match b with|[]=>([],30)|c::r=>if c<=16 then (match oh c.toNat r with|some (l,[])=>(l,0)|_=>([],30)) else ([],30)):=by
 cases b with
 |nil=>rfl
 | cons c r=>
  have W:=J.head;unfold kp;rw[if_neg (by simp;omega),da,zh];unfold nz
  by_cases h:c<=16
  ·rw[if_neg (by simpa using h),da,zh,qi,zh]
   have:=uU c.toNat (by omega) c.toNat 0 r [] (by omega) J.tail rfl;rw[show((c.toNat:Nat):Int)=c by omega] at this;rw[show((0:Nat):Int)=0 from rfl] at this;rw[this];simp[h]
  ·rw[if_pos (by simpa using by omega)];simp[h]
theorem qj {c:List Int}(J:Byt c):kp (1::c)=some (match bI c with|some (v,k)=>if k=c.length then ([v],0) else ([],30)|none=>([],30)):=by
 rw[wK (J.cons (by decide))];simp only[show((1:Int)<=16)=True by simp,if_true,show(1:Int).toNat=1 from rfl,oh];cases hp:bI c with
 |none=>rfl
 | some x=>
  obtain⟨v,k⟩:=x;have:=(pC J hp).2.2;simp only[Option.map_some]
  by_cases h:k=c.length
  ·subst h;simp
  ·rw[if_neg h]
   cases hd:c.drop k with
   |nil=>have:=List.drop_eq_nil_iff.1 hd;omega
   |cons _ _=>rfl
theorem zJ {r:ae}(W:Byt r.fB)(hl:r.fB.length<140737488355328):cN r=some (match bI r.fB with|some (v,n)=>(v,⟨r.fB.drop n,r.fOk⟩)|none=>(jX,⟨r.fB,false⟩)):=by
 unfold cN
 have step:∀k,1<=k->k<=r.fB.length->k<=66->gg r (k:Int)=match bI (r.fB.take k) with|some (v,n)=>(if n=k then some (.inr (v,⟨r.fB.drop k,r.fOk⟩)) else some (.inl ((k+1:Nat):Int)))|none=>some (.inl ((k+1:Nat):Int)):=by
  intro k J Z h3;have hs:=d4 (xs:=r.fB) (lo:=0) (hi:=k) (by omega) Z;rw[show((0:Nat):Int)=0 from rfl] at hs;unfold gg ge;rw[if_pos (by simpa using by omega),if_pos (by simp;omega),hs,zh,aQ (by simp;omega),zh,List.drop_zero,List.singleton_append,qj (W.take _),zh,ga Z,bw (by omega)];have a0:(r.fB.take k).length=k:=by simp;omega
  cases hp:bI (r.fB.take k) with
  |none=>rfl
  |some x=>
   obtain⟨v,n⟩:=x;simp only[a0]
   by_cases e:n=k
   ·rw[if_pos e,if_pos e];rfl
   ·rw[if_neg e,if_neg e];rfl
 cases hp:bI r.fB with
 | some x=>
  obtain⟨v,n⟩:=x;have hn:=pC W hp;refine cf (λi=>((i+1:Nat):Int)) (n - 1) rfl (λi hi=>?_) ?_
  ·rw[step (i+1) (by omega) (by omega) (by omega)]
   cases hq:bI (r.fB.take (i+1)) with
   |none=>rfl
   |some y=>
    obtain⟨v',n'⟩:=y;obtain⟨J,Z⟩:=oT W hq;rw[hp] at J;simp only[Option.some.injEq,Prod.mk.injEq] at J;omega
  ·have e:n - 1+1=n:=by omega
   rw[e,step n (by omega) (by omega) (by omega),sH W hp (Qd _)];simp
 | none=>
  refine cf (λi=>((i+1:Nat):Int)) (min r.fB.length 66) rfl (λi hi=>?_) ?_
  ·rw[step (i+1) (by omega) (by omega) (by omega)]
   cases hq:bI (r.fB.take (i+1)) with
   |none=>rfl
   |some y=>
    obtain⟨v',n'⟩:=y;obtain⟨J,Z⟩:=oT W hq;rw[hp] at J;cases J
  ·have e0:ge r ((min r.fB.length 66+1:Nat):Int) false=some (.inr (jX,⟨r.fB,false⟩)):=rfl
   unfold gg;split
   ·have:decide (((min r.fB.length 66+1:Nat):Int)<=66)=false:=by
     rename_i h;simp at h ⊢;omega
    rw[this,e0]
   ·exact e0
def fQ (f:Nat->Bool):Nat->Nat
 |0=>0
 |n+1=>2^n*(f n).toNat+fQ f n
theorem nB (f:Nat->Bool):∀n,fQ f n<2^n
 |0=>by simp[fQ]
 |n+1=>by
  have:=nB f n;simp only[fQ];cases f n<;>simp[Zg]<;>omega
theorem mo (f:Nat->Bool):∀n k,(fQ f n).testBit k=(decide (k<n)&&f k)
 |0,k=>by simp[fQ]
 | n +1,k=>by
  simp only[fQ];rw[Nat.testBit_two_pow_mul_add _ (nB f n),mo f n k]
  by_cases h:k<n
  ·rw[if_pos h];simp[h];intro _;omega
  ·rw[if_neg h]
   by_cases h':k=n
   ·subst h';simp;cases f k<;>rfl
   ·have: ¬ k<n+1:=by omega
    simp[this];have:k - n≠0:=by omega
    cases f n
    ·simp
    ·simp only[Bool.toNat_true]
     obtain⟨j,J⟩:∃j,k - n=j+1:=⟨k - n - 1,by omega⟩
     rw[J,Nat.testBit_succ];simp
theorem lr {f g:Nat->Bool}{n:Nat}(h:∀k,k<n->f k=g k):fQ f n=fQ g n:=by
 apply Z4;intro k;rw[mo,mo]
 by_cases hk:k<n
 ·rw[h k hk]
 ·simp[hk]
theorem DV {x n:Nat}(h:x<2^n):fQ (λk=>x.testBit k) n=x:=by
 apply Z4;intro k;rw[mo]
 by_cases hk:k<n
 ·simp[hk]
 ·have:=Nat.testBit_lt_two_pow (Qz h (Ql (by decide) (Nat.le_of_not_lt hk)))
  simp[this]
def oU (l:List Int)(w p:Nat):Bool:=decide (p<l.length*w)&&(l.getD (p/w) 0).toNat.testBit (p%w)
def iv (l:List Int)(w q:Nat):List Int:=(Z3 ((l.length*w+7)/8)).map λj=>((fQ (λk=>decide (8*j+k<q)&&oU l w (8*j+k)) 8:Nat):Int)
def d5 (l:List Int)(w:Nat):List Int:=iv l w (l.length*w)
theorem i6 (l:List Int)(w q:Nat):(iv l w q).length=(l.length*w+7)/8:=by simp[iv]
theorem mz (l:List Int)(w q j:Nat)(h:j<(iv l w q).length):(iv l w q)[j]=((fQ (λk=>decide (8*j+k<q)&&oU l w (8*j+k)) 8:Nat):Int):=by simp[iv]
theorem vD (l:List Int)(w:Nat):Byt (d5 l w):=λc h=>by
 simp only[d5,iv,Z9] at h;obtain⟨j,_,rfl⟩:=h;have:=nB (λk=>decide (8*j+k<l.length*w)&&oU l w (8*j+k)) 8;omega
theorem DW (l:List Int)(w q:Nat)(hq:q<l.length*w)(W:oU l w q=true):
  ∃x:Nat,x<256/\(iv l w q)[q/8]? =some (x:Int)/\(iv l w q).set (q/8) (((x|||2^(q%8):Nat)):Int)=iv l w (q+1):=by
 have Z:q/8<(iv l w q).length:=by rw[i6];omega
 refine⟨_,nB _ 8,by rw[Q1 Z,mz],?_⟩;apply Z1
 ·simp[i6]
 intro j h1 h2;rw[List.getElem_set,mz];split
 ·rename_i e
  subst e;rw[mz];congr 1;apply Z4;intro k;rw[Nat.testBit_or,mo,mo,Nat.testBit_two_pow]
  by_cases J:k<8
  ·by_cases e:q%8=k
   ·have:8*(q/8)+k=q:=by omega
    simp[J,e,this,W]
   ·have h:(8*(q/8)+k<q+1)=(8*(q/8)+k<q):=by apply propext;omega
    simp[e,h]
  ·have:q%8≠k:=by omega
   simp[J,this]
 ·rename_i e
  rw[mz];congr 1;apply lr;intro k J;have h:(8*j+k<q+1)=(8*j+k<q):=by apply propext;omega
  simp[h]
theorem Cr (l:List Int)(w q:Nat)(J:oU l w q=false):iv l w q=iv l w (q+1):=by
 unfold iv;apply List.map_congr_left;intro j _;congr 1;apply lr;intro k W
 by_cases e:8*j+k=q
 ·rw[e,J];simp
 ·have h:(8*j+k<q+1)=(8*j+k<q):=by apply propext;omega
  simp[h]
theorem Cs (l:List Int)(w:Nat):iv l w 0=Q4 ((l.length*w+7)/8) 0:=by
 apply Z1
 ·simp[i6]
 intro j J h;rw[mz];have:fQ (λk=>decide (8*j+k<0)&&oU l w (8*j+k)) 8=fQ (λ_=>false) 8:=lr λk _=>by simp
 rw[this];simp[fQ]
def dH (b:List Int)(p:Nat):Bool:=(b.getD (p/8) 0).toNat.testBit (p%8)
def unp (b:List Int)(w i:Nat):Nat:=fQ (λk=>dH b (i*w+k)) w
theorem wL (l:List Int)(w p:Nat)(r:List Int)(Z:p<l.length*w):dH (d5 l w++r) p=oU l w p:=by
 have h:p/8<(d5 l w).length:=by unfold d5;rw[i6];omega
 unfold dH;rw[Q5,Qg h,Q1 h];simp only[Qu];have e:(d5 l w)[p/8]=_:=mz l w (l.length*w) (p/8) h;rw[e];simp only[Zb];rw[mo];have W:8*(p/8)+p%8=p:=by omega
 have J:p%8<8:=by omega
 simp[W,J,Z]
theorem zK (l:List Int)(w i k:Nat)(hi:i<l.length)(h:k<w):i*w+k<l.length*w/\oU l w (i*w+k)=(l[i]).toNat.testBit k:=by
 have J:i*w+k<l.length*w:=by
  have:(i+1)*w<=l.length*w:=Z5 _ hi;rw[Zi] at this;omega
 refine⟨J,?_⟩;unfold oU
 have Z:(i*w+k)/w=i:=by
  rw[Zp,Nat.mul_add_div (by omega),Nat.div_eq_of_lt h];rfl
 have W:(i*w+k)%w=k:=by
  rw[Zp,Nat.mul_add_mod,Nat.mod_eq_of_lt h]
 rw[Z,W,Q5,Q1 hi];simp[J]
theorem Ct (l:List Int)(w i:Nat)(r:List Int)(hi:i<l.length)(h:0<=l[i]/\l[i]<2^w):(unp (d5 l w++r) w i:Int)=l[i]:=by
 have Z:unp (d5 l w++r) w i=fQ (λk=>(l[i]).toNat.testBit k) w:=lr λk hk=>by
  obtain⟨W,J⟩:=zK l w i k hi hk;rw[wL _ _ _ _ W,J]
 rw[Z,DV]
 ·omega
 ·have:((l[i].toNat:Nat):Int)<((2^w:Nat):Int):=by
   rw[Qh];have:((l[i].toNat:Nat):Int)=l[i]:=by omega
   rw[this];exact h.2
  exact Int.ofNat_lt.1 this
theorem rh (n:Nat):chk (decide (0<=(n:Int)))=some ():=py (decide_eq_true (Int.natCast_nonneg n))
theorem or8 {a b:Nat}(Z:a<256)(J:b<256):bOr .u8 (a:Int) (b:Int)=((a|||b:Nat):Int):=by
 unfold bOr;rw[bZ]
 have W:(Qc Qm.bits (a:Int)).toNat=a:=by
  show(Qc 8 (a:Int)).toNat=a;rw[Qe];omega
 have h:(Qc Qm.bits (b:Int)).toNat=b:=by
  show(Qc 8 (b:Int)).toNat=b;rw[Qe];omega
 rw[BitVec.toNat_or,W,h];have:a|||b<2^8:=Nat.or_lt_two_pow (by simpa using Z) (by simpa using J)
 omega
theorem I7 {a b:Nat}(Z:a<256)(W:b<256):dI .u8 (a:Int) (b:Int)=((a&&&b:Nat):Int):=by
 unfold dI;rw[bZ]
 have J:(Qc Qm.bits (a:Int)).toNat=a:=by
  show(Qc 8 (a:Int)).toNat=a;rw[Qe];omega
 have h:(Qc Qm.bits (b:Int)).toNat=b:=by
  show(Qc 8 (b:Int)).toNat=b;rw[Qe];omega
 rw[BitVec.toNat_and,J,h];have:a&&&b<=a:=Nat.and_le_left;omega
theorem Bp (x:Nat)(k:Nat):x/2^k&&&1=(x.testBit k).toNat:=by
 rw[Nat.and_one_is_mod,Nat.testBit_eq_decide_div_mod_eq];have:x/2^k%2=0\/x/2^k%2=1:=by omega
 rcases this with h|h<;>simp[h]
theorem I8 {x:Int}{k:Nat}(h:0<=x/\x<18446744073709551616)(W:k<=64):dI .u64 (aP .u64 x (k:Int)) 1=(x.toNat.testBit k).toNat:=by
 obtain⟨n,rfl⟩:=Qi h.1;rw[oS W];have J:((n:Int)/2^k)=((n/2^k:Nat):Int):=by simp[Qh]
 have Z:n/2^k<=n:=Nat.div_le_self _ _;rw[J,show(1:Int)=((1:Nat):Int) from rfl,GT (by omega) (by omega),Bp];simp
theorem HM {x:Int}{k:Nat}(h:0<=x/\x<256)(W:k<=8):dI .u8 (aP .u8 x (k:Int)) 1=(x.toNat.testBit k).toNat:=by
 obtain⟨n,rfl⟩:=Qi h.1;rw[Om W];have J:((n:Int)/2^k)=((n/2^k:Nat):Int):=by simp[Qh]
 have Z:n/2^k<=n:=Nat.div_le_self _ _;rw[J,show(1:Int)=((1:Nat):Int) from rfl,I7 (by omega) (by omega),Bp];simp
theorem F1 {i w k:Nat}(hi:i<1048576)(h:w<=64)(J:k<=64):zw.wrap ((zw.wrap ((i:Int)*(w:Int)))+(k:Int))=((i*w+k:Nat):Int):=by
 have:i*w<=1048576*64:=Qw (by omega) h;have e:(i:Int)*(w:Int)=((i*w:Nat):Int):=by simp
 rw[e,ak (n:=((i*w:Nat):Int)) (by omega),ak (by omega)];omega
theorem Cu (n:Nat):((n:Int)).tdiv 8=((n/8:Nat):Int):=by
 rw[Int.tdiv_eq_ediv_of_nonneg (by omega)];rfl
theorem GU (n:Nat):((n:Int)).tmod 8=((n%8:Nat):Int):=by
 rw[Int.tmod_eq_emod_of_nonneg (by omega)];rfl
theorem GV {i w:Nat}(hi:i<1048576)(h:w<=64):zw.wrap ((zw.wrap ((zw.wrap ((i:Int)*(w:Int)))+7)).tdiv 8)=(((i*w+7)/8:Nat):Int):=by
 have:i*w<=1048576*64:=Qw (by omega) h;have e:=F1 (i:=i) (w:=w) (k:=7) hi h (by omega);rw[show((7:Nat):Int)=7 from rfl] at e;rw[e,Cu,ak (by omega)]
def U64 (l:List Int):Prop:= ∀x∈l,0<=x/\x<18446744073709551616
theorem rZ {O:Type}{N n:Nat}{z:O}(h:n<=N):mk N (n:Int) z=some (Q4 n z):=by
 unfold mk;rw[if_pos (by omega)];simp
theorem nQ {O:Type}{xs:List O}{i:Nat}(h:i<xs.length):ix xs (i:Int)=some i:=by
 unfold ix;rw[if_pos (by omega)];simp
theorem xG {l:List Int}{w:Nat}(hu:U64 l)(hl:l.length<1048576)(J:w<=64):iH l (w:Int)=some (d5 l w):=by
 have a3:l.length*w<=1048576*64:=Qw (by omega) J;unfold iH;rw[GV hl J,rZ (by omega),zh];refine cf (λi=>((i:Int),iv l w (i*w))) l.length (by simp[Cs]) (λi hi=>?_) ?_
 ·dsimp only
  unfold mn;rw[if_pos (by simpa using hi),aC hi,zh];have hx:=hu l[i] (Q6 hi);refine cf (λk=>((k:Int),iv l w (i*w+k))) w rfl (λk Z=>?_) ?_
  ·dsimp only
   unfold ml mj;obtain⟨h1,h⟩:=zK l w i k hi Z;rw[if_pos (by simpa using Z),py (by simp),zh,I8 hx (by omega),F1 (by omega) J (by omega),Cu,GU,ak (by omega),bw (by omega)];cases hb:l[i].toNat.testBit k with
   |false=>
    rw[hb] at h;rw[if_neg (by decide),Cr l w _ h];rfl
   | true=>
    rw[hb] at h;obtain⟨x,a2,W,a1⟩:=DW l w _ h1 h;have a0:(i*w+k)/8<(iv l w (i*w+k)).length:=by rw[i6];omega
    rw[if_pos (by decide),nQ a0,zh,W,zh,rh,zh,zh,W,zh]
    have h8:eu .u8 1 (((i*w+k)%8:Nat):Int)=((2^((i*w+k)%8):Nat):Int):=by
     unfold eu;rw[bZ];have hm:min (((i*w+k)%8:Nat):Int).toNat Qm.bits=(i*w+k)%8:=by simp[IntKind.bits];omega
     rw[hm];have:(2:Nat)^((i*w+k)%8)<=2^7:=Ql (by decide) (by omega);rw[Qh];have e:((2:Int)^((i*w+k)%8))=(((2:Nat)^((i*w+k)%8):Nat):Int):=by simp[Qh]
     rw[show((2:Nat):Int)=2 from rfl,e];generalize (2:Nat)^((i*w+k)%8)=m at*;omega
    have:(2:Nat)^((i*w+k)%8)<=2^7:=Ql (by decide) (by omega);rw[h8,or8 a2 (by omega),a1];rfl
  ·dsimp only
   unfold ml pn;rw[if_neg (by simp),bw (by omega)];simp[Zi]
 ·unfold mn pk
  rw[if_neg (by simp)];rfl
theorem wM {r:ae}{n:Nat}(J:n<=281474976710656):cm r (n:Int)=some (if r.fB.length<n then (Q4 n 0,⟨[],false⟩) else (r.fB.take n,⟨r.fB.drop n,r.fOk⟩)):=by
 unfold cm
 by_cases h:r.fB.length<n
 ·rw[if_pos (by simpa using h),if_pos h,rZ J];rfl
 ·rw[if_neg (by simpa using h),if_neg h,rZ J,zh,d4 (by omega) (Qd _)]
  simp only[zh,Q8];unfold cpy;simp;omega
theorem HN (f:Nat->Bool)(k:Nat):fQ f k|||2^k*(f k).toNat=fQ f (k+1):=by
 rw[Nat.or_comm,←Z6 (nB f k)];rfl
theorem I9 {b:Bool}{k:Nat}(h:k<64):eu .u64 ((b.toNat:Nat):Int) (k:Int)=((2^k*b.toNat:Nat):Int):=by
 rw[vC (by omega)];have J:(2:Nat)^k<2^64:=Nat.pow_lt_pow_right (by decide) h;have e:((2:Int)^k)=(((2:Nat)^k:Nat):Int):=by simp[Qh]
 rw[e];cases b
 ·simp
 ·simp only[Bool.toNat_true,Nat.mul_one]
  have:(2:Nat)^64=18446744073709551616:=by decide
  generalize (2:Nat)^k=m at*;omega
def pD (r:ae)(many w:Nat):List Int×ae:=
 if 64<w then (Q4 many 0,⟨r.fB,false⟩) else
 if r.fB.length<(many*w+7)/8 then (Q4 many 0,⟨[],false⟩) else
 ((Z3 many).map λi=>((unp r.fB w i:Nat):Int),⟨r.fB.drop ((many*w+7)/8),r.fOk⟩)
theorem DX {l:List Int}{n i:Nat}(h:i<n):(l.take n).getD i 0=l.getD i 0:=by
 rw[Q5,Q5,List.getElem?_take,if_pos h]
theorem F2 (b:List Int)(w i n:Nat)(h:(i+1)*w<=8*n):unp (b.take n) w i=unp b w i:=lr λk J=>by
 rw[Zi] at h;unfold dH;rw[DX (by omega)]
theorem F3 (n w i:Nat):unp (Q4 n 0) w i=0:=by
 have:unp (Q4 n 0) w i=fQ (λ_=>false) w:=lr λk h=>by
  unfold dH;rw[Q5,List.getElem?_replicate];split<;>simp
 rw[this];have:∀w,fQ (λ_=>false) w=0:=by intro w;induction w with|zero=>rfl|succ w ih=>simp[fQ,ih]
 exact this w
theorem uq {r:ae}{many w:Nat}(Z:Byt r.fB)(hm:many<1048576):eE r (many:Int) (w:Int)=some (pD r many w):=by
 unfold eE pD
 by_cases hw:64<w
 ·rw[if_pos (by simpa using by omega),if_pos hw,rZ (by omega)];rfl
 rw[if_neg (by simpa using by omega),if_neg hw];have a1:w<=64:=by omega
 have a9:many*w<=1048576*64:=Qw (by omega) a1;rw[GV hm a1,wM (by omega),zh,rZ (by omega),zh]
 have key:∀(b:List Int) (W:ae),Byt b->b.length=(many*w+7)/8->
   aq (λs:(Int×List Int)=>ff (w:Int) (b,W) (Q4 many 0) s.1 s.2) (0,Q4 many 0)=some ((Z3 many).map λi=>((unp b w i:Nat):Int),W):=by
  intro b W Z h;refine cf (λi=>((i:Int),(Z3 i).map (λi=>((unp b w i:Nat):Int))++Q4 (many - i) 0)) many (by simp) (λi hi=>?_) ?_
  ·dsimp only
   unfold ff;rw[if_pos (by simpa using hi)];have a5:(i+1)*w<=many*w:=Z5 _ hi;rw[Zi] at a5
   have a6:∀k,k<=64->fQ (λk=>dH b (i*w+k)) k<18446744073709551616:=λk hk=>by
    have:=nB (λk=>dH b (i*w+k)) k;have h2:(2:Nat)^k<=2^64:=Ql (by decide) hk;have:(2:Nat)^64=18446744073709551616:=by decide
    omega
   refine cf (λk=>((k:Int),(Z3 i).map (λi=>((unp b w i:Nat):Int))++((fQ (λk=>dH b (i*w+k)) k:Nat):Int)::Q4 (many - i - 1) 0)) w ?_ (λk hk=>?_) ?_
   ·have:many - i=(many - i - 1)+1:=by omega
    rw[this,List.replicate_succ];simp[fQ]
   ·dsimp only
    unfold gR;have a0:(i*w+k)/8<b.length:=by omega
    have a3:i<((Z3 i).map (λi=>((unp b w i:Nat):Int))++((fQ (λk=>dH b (i*w+k)) k:Nat):Int)::Q4 (many - i - 1) 0).length:=by simp
    have a2:((Z3 i).map (λi=>((unp b w i:Nat):Int))++((fQ (λk=>dH b (i*w+k)) k:Nat):Int)::Q4 (many - i - 1) 0)[i]? =some ((fQ (λk=>dH b (i*w+k)) k:Nat):Int):=by simp
    rw[if_pos (by simpa using hk),nQ a3,zh,a2,zh,F1 (by omega) a1 (by omega),Cu,GU,ak (by omega),aC a0,zh,rh,zh,rh,zh,zh,a2,zh,bw (by omega)];have a4:=Z b[(i*w+k)/8] (Q6 a0);rw[HM a4 (by omega)]
    have e:b[(i*w+k)/8].toNat.testBit ((i*w+k)%8)=dH b (i*w+k):=by
     unfold dH;rw[Q5,Q1 a0];rfl
    rw[e,cx];have e2:(((dH b (i*w+k)).toNat:Nat):Int)%18446744073709551616=(((dH b (i*w+k)).toNat:Nat):Int):=by cases dH b (i*w+k)<;>rfl
    have h3:2^k*(dH b (i*w+k)).toNat<18446744073709551616:=by
     have J:(2:Nat)^k<2^64:=Nat.pow_lt_pow_right (by decide) (by omega);have:(2:Nat)^64=18446744073709551616:=by decide
     cases dH b (i*w+k)<;>simp<;>omega
    rw[e2,I9 (by omega),FY (a6 k (by omega)) h3,HN (λk=>dH b (i*w+k)) k];congr 3;rw[List.set_append_right _ _ (by simp)];simp
   ·dsimp only
    unfold gR kB;rw[if_neg (by simp),bw (by omega)];have:many - i - 1=many - (i+1):=by omega
    rw[this];simp[List.range_succ,unp]
  ·dsimp only
   unfold ff kA;rw[if_neg (by simp)];simp
 by_cases h:r.fB.length<(many*w+7)/8
 ·rw[if_pos h,if_pos h,key _ _ (λc hc=>by rw[List.eq_of_mem_replicate hc];decide) (by simp)]
  congr 2;apply Z1
  ·simp
  ·intro j J h2;simp[F3]
 ·rw[if_neg h,if_neg h,key _ _ (Z.take _) (by simp;omega)]
  congr 2;apply Z1
  ·simp
  ·intro j J h2
   simp only[List.getElem_map,List.getElem_range];rw[F2];simp at J;have:(j+1)*w<=many*w:=Z5 _ J;omega
def wid (n:Nat):Nat:=if n=0 then 0 else n.log2+1
theorem DY (n:Nat):n<2^wid n:=by
 unfold wid;split
 ·omega
 ·exact Nat.lt_log2_self
theorem F4 {n:Nat}(h:n≠0):wid n=wid (n/2)+1:=by
 unfold wid;rw[if_neg h]
 by_cases h1:n/2=0
 ·have:n=1:=by omega
  subst this;rfl
 ·rw[if_neg h1,Nat.log2_def,if_pos (by omega)]
theorem tB {n k:Nat}(h:2^k<=n):wid n=wid (n/2^k)+k:=by
 induction k generalizing n with
 |zero=>simp
 |succ k ih=>
  rw[Zg] at h;have:0<2^k:=Nat.pow_pos (by decide);rw[F4 (n:=n) (by omega),ih (n:=n/2) (by omega),Zg,Zp (2^k) 2,←Nat.div_div_eq_div_mul];omega
theorem ri {n w:Nat}(h:n<2^w):wid n<=w:=by
 unfold wid;split
 ·omega
 ·rename_i J
  have:=Nat.log2_lt J |>.2 h
  omega
def F5:List Int:=[0,1,2,2,3,3,3,3,4,4,4,4,4,4,4,4,5,5,5,5,5,5,5,5,5,5,5,5,5,5,5,5,6,6,6,6,6,6,6,6,6,6,6,6,6,6,6,6,6,6,6,6,6,6,6,6,6,6,6,6,6,6,6,6,7,7,7,7,7,7,7,7,7,7,7,7,7,7,7,7,7,7,7,7,7,7,7,7,7,7,7,7,7,7,7,7,7,7,7,7,7,7,7,7,7,7,7,7,7,7,7,7,7,7,7,7,7,7,7,7,7,7,7,7,7,7,7,7,8,8,8,8,8,8,8,8,8,8,8,8,8,8,8,8,8,8,8,8,8,8,8,8,8,8,8,8,8,8,8,8,8,8,8,8,8,8,8,8,8,8,8,8,8,8,8,8,8,8,8,8,8,8,8,8,8,8,8,8,8,8,8,8,8,8,8,8,8,8,8,8,8,8,8,8,8,8,8,8,8,8,8,8,8,8,8,8,8,8,8,8,8,8,8,8,8,8,8,8,8,8,8,8,8,8,8,8,8,8,8,8,8,8,8,8,8,8,8,8,8,8,8,8,8,8,8,8]
theorem HO:∀n:_root_.Fin 256,idx F5 ((n.val:Nat):Int)=some ((wid n.val:Nat):Int):=by decide+kernel
set_option maxRecDepth 100000 in
theorem zL (x y:Int):mb x y=(idx F5 (Qm.wrap x)).bind λr=>some (zw.wrap (y+zw.wrap r)):=rfl
theorem zM {n k:Nat}(h:n<256)(Z:k<=56):mb (n:Int) (k:Int)=some ((wid n+k:Nat):Int):=by
 have J:idx F5 (n:Int)=some ((wid n:Nat):Int):=HO ⟨n,h⟩;have W:wid n<=8:=ri (by simpa using h);rw[zL,bZ,show((n:Int)%256)=(n:Int) by omega,J,zh,ak (n:=((wid n:Nat):Int)) (by omega),ak (by omega)];congr 1;omega
theorem zN {n k:Nat}(h:n<65536)(J:k<=48):mc (n:Int) (k:Int)=some ((wid n+k:Nat):Int):=by
 unfold mc
 by_cases h1:256<=n
 ·rw[if_pos (by simpa using by omega)]
  have e:aP .u64 (n:Int) 8=((n/2^8:Nat):Int):=by have:=oS (x:=(n:Int)) (k:=8) (by omega);simpa using this
  have e2:zw.wrap ((k:Int)+8)=((k+8:Nat):Int):=by rw[ak (by omega)];rfl
  rw[e,e2,zM (by omega) (by omega),tB (n:=n) (k:=8) (by omega)];congr 2;omega
 ·rw[if_neg (by simpa using by omega),zM (by omega) (by omega)]
theorem zO {n k:Nat}(h:n<4294967296)(J:k<=32):md (n:Int) (k:Int)=some ((wid n+k:Nat):Int):=by
 unfold md
 by_cases h1:65536<=n
 ·rw[if_pos (by simpa using by omega)]
  have e:aP .u64 (n:Int) 16=((n/2^16:Nat):Int):=by have:=oS (x:=(n:Int)) (k:=16) (by omega);simpa using this
  have e2:zw.wrap ((k:Int)+16)=((k+16:Nat):Int):=by rw[ak (by omega)];rfl
  rw[e,e2,zN (by omega) (by omega),tB (n:=n) (k:=16) (by omega)];congr 2;omega
 ·rw[if_neg (by simpa using by omega),zN (by omega) (by omega)]
theorem zP {n:Nat}(h:n<18446744073709551616):mJ (n:Int)=some ((wid n:Nat):Int):=by
 unfold mJ
 by_cases h1:4294967296<=n
 ·rw[if_pos (by simpa using by omega)]
  have e:aP .u64 (n:Int) 32=((n/2^32:Nat):Int):=by have:=oS (x:=(n:Int)) (k:=32) (by omega);simpa using this
  rw[e,show(32:Int)=((32:Nat):Int) from rfl,zO (by omega) (by omega),tB (n:=n) (k:=32) (by omega)]
 ·rw[if_neg (by simpa using by omega),show(0:Int)=((0:Nat):Int) from rfl,zO (by omega) (by omega)]
  rfl
theorem len_eq {n:Nat}(h:n<18446744073709551616):nv (n:Int)=some ((wid n:Nat):Int):=by
 unfold nv;rw[zP h];rfl
theorem Bq:∀s:List Int,ltB s s=false
 |[]=>rfl
 |a::x=>by simp[ltB,Bq x]
theorem xH:∀{s u v:List Int},ltB s u=true->ltB u v=true->ltB s v=true
 |_,[],_,h,_=>by simp[ltB] at h
 |_,_::_,[],_,h=>by simp[ltB] at h
 |[],_::_,_::_,_,_=>rfl
 | a::x,b::y,c::z,h,k=>by
  simp only[ltB,Bool.or_eq_true,decide_eq_true_eq,Q7,beq_iff_eq] at*;rcases h with h|⟨rfl,h⟩
  ·rcases k with k|⟨rfl,k⟩
   ·left;omega
   ·left;exact h
  ·rcases k with k|⟨rfl,k⟩
   ·left;exact k
   ·right;exact⟨rfl,xH h k⟩
theorem Br:∀{s u:List Int},ltB s u=false->ltB u s=false->s=u
 |[],[],_,_=>rfl
 |[],_::_,h,_=>by simp[ltB] at h
 |_::_,[],_,h=>by simp[ltB] at h
 |a::x,b::y,h,k=>by
  simp only[ltB,Bool.or_eq_false_iff,decide_eq_false_iff_not] at h k;have e:a=b:=by omega
  subst e;simp only[beq_self_eq_true,Bool.true_and] at h k;rw[Br h.2 k.2]
def ltV (a b:Ap):Bool:=
 if a.fKind != b.fKind then decide (a.fKind<b.fKind) else if a.fKind==1 then !a.fBool&&b.fBool else if a.fKind==2 then decide (a.fInt<b.fInt) else
 if a.fKind==3 then ltB a.fText b.fText else false
theorem o6 (a:Ap):ltV a a=false:=by
 unfold ltV
 repeat' split
 all_goals simp_all[Bq]
theorem qk {a b c:Ap}(h:ltV a b=true)(k:ltV b c=true):ltV a c=true:=by
 obtain⟨ka,ba,na,ta⟩:=a;obtain⟨kb,bb,nb,tb⟩:=b;obtain⟨kc,bc,nc,tc⟩:=c;simp only[ltV] at*
 by_cases e1:ka=kb
 ·subst e1
  by_cases e2:ka=kc
  ·subst e2
   by_cases e1:ka=1
   ·subst e1;cases ba<;>cases bb<;>cases bc<;>simp_all
   by_cases e2:ka=2
   ·subst e2;simp at*;omega
   by_cases e3:ka=3
   ·subst e3;simp at*;exact xH h k
   ·have J:(ka==1)=false:=by simpa using e1
    have Z:(ka==2)=false:=by simpa using e2
    have W:(ka==3)=false:=by simpa using e3
    simp[J,Z,W] at h
  ·have:(ka != kc)=true:=by simpa using e2
   simp only[this,if_true] at*;exact k
 ·have J:(ka != kb)=true:=by simpa using e1
  simp only[J,if_true,decide_eq_true_eq] at h
  by_cases e2:kb=kc
  ·subst e2;simp only[J,if_true,decide_eq_true_eq];exact h
  ·have Z:(kb != kc)=true:=by simpa using e2
   simp only[Z,if_true,decide_eq_true_eq] at k;have W:(ka != kc)=true:=by simp;omega
   simp only[W,if_true,decide_eq_true_eq];omega
theorem rj {a b:Ap}(W:Rgt a)(J:Rgt b)(h:ltV a b=false)(k:ltV b a=false):a=b:=by
 cases W<;>cases J<;>simp[ltV] at h k
 ·rfl
 ·rename_i x y;cases x<;>cases y<;>simp_all
 ·have:∀x y:Int,x=y->gU x=gU y:=λx y h=>by rw[h]
  apply this;omega
 ·rw[Br h k]
def uV (a b:Ap):Int:=if ltV a b then -1 else if ltV b a then 1 else 0
theorem dQ (a b:Ap):b9 a b=some (uV a b):=by
 unfold b9 eN gE gL j6 iQ kz dF uV qu;simp only[bne_self_eq_false,zh,Qb,if_false];obtain⟨ka,W,na,ta⟩:=a;obtain⟨kb,Z,nb,tb⟩:=b;simp only[ltV]
 by_cases e:ka=kb
 ·subst e
  simp only[bne_self_eq_false,Qb,if_false]
  by_cases e1:ka=1
  ·subst e1;cases W<;>cases Z<;>simp
  ·have J:(ka==1)=false:=by simpa using e1
   simp only[J,Qb,if_false]
   by_cases e2:ka=2
   ·subst e2;simp
    repeat' split
    all_goals rfl
   ·have h:(ka==2)=false:=by simpa using e2
    simp only[h,Qb,if_false]
    by_cases e3:ka=3
    ·subst e3;simp
    ·have h3:(ka==3)=false:=by simpa using e3
     simp[h3]
 ·have J:(ka != kb)=true:=by simpa using e
  have h:(kb != ka)=true:=by simp;omega
  simp only[J,h,if_true,decide_eq_true_eq]
  repeat' split
  all_goals rfl
theorem zQ {a b:Ap}(h:ltV a b=true):ltV b a=false:=by
 cases k:ltV b a with
 |false=>rfl
 |true=>have:=qk h k;rw[o6] at this;cases this
theorem mp (a b:Ap):uV a b<0↔ltV a b=true:=by
 unfold uV
 repeat' split
 all_goals simp_all
theorem Ja {l:List Ap}(h:∀v∈l,Rgt v):Fe b9 l:=by
 refine⟨λx _ y _=>⟨_,dQ x y,?_⟩,λx _=>?_,λx _ y _ z _ W J=>?_,λx hx y hy z hz W J Z=>?_,λx hx y hy W J=>?_⟩
 ·rw[lI];unfold uV
  repeat' split
  all_goals decide
 ·rw[dQ];simp only[Qu];rw[mp,o6];decide
 ·rw[dQ] at*
  simp only[Qu,mp] at*;exact qk W J
 ·rw[dQ] at*
  simp only[Qu,mp,Ze] at*;cases hyx:ltV y x with
  |true=>have:=qk hyx Z;rw[J] at this;cases this
  |false=>have:=rj (h x hx) (h y hy) W hyx;subst this;rw[J] at Z;cases Z
 ·rw[dQ] at*
  simp only[Qu,mp,Ze] at*;exact rj (h x hx) (h y hy) W J
abbrev Ris (l:List Ap):Prop:=l.Pairwise λa b=>ltV a b=true
theorem Ris.one:∀{l k:List Ap},Ris l->Ris k->(∀v,v∈l↔v∈k)->l=k
 |[],[],_,_,_=>rfl
 |[],b::k,_,_,h=>by have:=(h b).2 (by simp);cases this
 |a::l,[],_,_,h=>by have:=(h a).1 (by simp);cases this
 | a::l,b::k,hl,hk,h=>by
  have a0:=Qr.1 hl;have a1:=Qr.1 hk
  have e:a=b:=by
   have Z:=(h a).1 (by simp);have W:=(h b).2 (by simp);rcases Q9.1 Z with Z|Z
   ·exact Z
   rcases Q9.1 W with W|W
   ·exact W.symm
   have:=zQ (a1.1 a Z);rw[a0.1 b W] at this;cases this
  subst e;congr 1;refine Ris.one a0.2 a1.2 λv=>?_;have hv:=h v;simp only[Q9] at hv;constructor
  ·intro J
   rcases hv.1 (.inr J) with e|e
   ·subst e;have:=a0.1 v J;rw[o6] at this;cases this
   ·exact e
  ·intro J
   rcases hv.2 (.inr J) with e|e
   ·subst e;have:=a1.1 v J;rw[o6] at this;cases this
   ·exact e
theorem Ris.nodup {l:List Ap}(h:Ris l):l.Nodup:=h.imp λ{a b} h e=>by subst e;rw[o6] at h;cases h
def ins (v:Ap):List Ap->List Ap
 |[]=>[v]
 |x::r=>if ltV x v then x::ins v r else if v=x then x::r else v::x::r
theorem wN (v:Ap):∀(l:List Ap) (x:Ap),x∈ins v l↔x=v\/x∈l
 |[],x=>by simp[ins]
 | y::r,x=>by
  simp only[ins];split
  ·simp only[Q9,wN v r x]
   constructor<;>(intro h;rcases h with h|h|h<;>simp[h])
  split
  ·rename_i e;subst e;simp
  ·simp
theorem Bt (v:Ap)(hv:Rgt v):∀{l:List Ap},(∀x∈l,Rgt x)->Ris l->Ris (ins v l)
 |[],_,_=>by simp[ins]
 | y::r,hr,h=>by
  have W:=Qr.1 h;simp only[ins];split
  ·rename_i a0
   refine Qr.2 ⟨λx J=>?_,Bt v hv (λx J=>hr x (by simp[J])) W.2⟩;rcases(wN v r x).1 J with e|e
   ·subst e;exact a0
   ·exact W.1 x e
  split
  ·exact h
  ·rename_i h1 h2
   have Z:ltV v y=true:=by
    cases h3:ltV v y with
    |true=>rfl
    |false=>exact absurd (rj hv (hr y (by simp)) h3 (by simpa using h1)) h2
   refine Qr.2 ⟨λx J=>?_,h⟩;rcases Q9.1 J with e|e
   ·subst e;exact Z
   ·exact qk Z (W.1 x e)
def aX (l:List Ap):List Ap:=l.foldl (λout v=>ins v out) []
theorem Cv (l:List Ap)(v:Ap):aX (l++[v])=ins v (aX l):=by simp[aX]
theorem Cw {l:List Ap}{i:Nat}(h:i<l.length):aX (l.take (i+1))=ins l[i] (aX (l.take i)):=by
 rw[Jn h,Cv]
theorem gn {l:List Ap}(h:∀v∈l,Rgt v):Ris (aX l)/\(∀v,v∈aX l↔v∈l)/\(aX l).length<=l.length:=by
 have key:∀i,i<=l.length->Ris (aX (l.take i))/\(∀v,v∈aX (l.take i)↔v∈l.take i)/\(aX (l.take i)).length<=i:=by
  intro i
  induction i with
  |zero=>intro _;simp[aX]
  | succ i ih=>
   intro hi;obtain⟨h1,W,h3⟩:=ih (by omega);have J:i<l.length:=by omega
   rw[Cw J];have Z:∀x∈aX (l.take i),Rgt x:=λx hx=>h x (Qj ((W x).1 hx));refine⟨Bt _ (h _ (Q6 J)) Z h1,λv=>?_,?_⟩
   ·rw[wN,W,Jn J,Qa,List.mem_singleton]
    exact or_comm
   ·have:∀(v:Ap) (l:List Ap),(ins v l).length<=l.length+1:=by
     intro v l
     induction l with
     |nil=>simp[ins]
     |cons y r ih=>
      simp only[ins]
      repeat' split
      all_goals simp
      omega
    have:=this l[i] (aX (l.take i));omega
 have:=key l.length (Qd _);rwa[Q8] at this
theorem mR {O β:Type}{f:β->O->β}{b:β}{l:List O}{i:Nat}(h:i<l.length):(l.take (i+1)).foldl f b=f ((l.take i).foldl f b) l[i]:=by
 rw[Jn h,List.foldl_append];rfl
def dd (s:List Ap):List Ap:=s.foldl (λout v=>if out.getLast?=some v then out else out++[v]) []
theorem wO (s:List Ap)(v:Ap):dd (s++[v])=if (dd s).getLast?=some v then dd s else dd s++[v]:=by
 unfold dd;rw[List.foldl_append];rfl
theorem Bu (s:List Ap){i:Nat}(h:i<s.length):(dd (s.take (i+1))).getLast?=some s[i]:=by
 rw[Jn h,wO];split
 ·assumption
 ·simp
theorem wP (s:List Ap){i:Nat}(h:i+1<s.length):dd (s.take (i+2))=if s[i+1]=s[i] then dd (s.take (i+1)) else dd (s.take (i+1))++[s[i+1]]:=by
 rw[Jn h,wO,Bu s (by omega)]
 by_cases e:s[i+1]=s[i]
 ·rw[if_pos e,if_pos (by rw[e])]
 ·rw[if_neg e,if_neg (λh=>e (Option.some.inj h).symm)]
theorem Jb (s:List Ap)(h:0<s.length):dd (s.take 1)=s.take 1:=by
 match s,h with
 |a::r,_=>rfl
theorem HP {s:List Ap}(Z:∀x∈s,Rgt x)(h:s.Pairwise λx y=>ltV y x=false):Ris (dd s)/\(∀v,v∈dd s↔v∈s):=by
 have key:∀i,i<=s.length->Ris (dd (s.take i))/\(∀v,v∈dd (s.take i)↔v∈s.take i):=by
  intro i
  induction i with
  |zero=>intro _;simp[dd]
  | succ i ih=>
   intro hi;obtain⟨h1,h2⟩:=ih (by omega);have W:i<s.length:=by omega
   rw[Jn W,wO];split
   ·rename_i e
    refine⟨h1,λv=>?_⟩;rw[h2,Qa,List.mem_singleton];constructor
    ·exact .inl
    ·rintro (hm|rfl)
     ·exact hm
     ·exact(h2 _).1 (Z7 e)
   ·rename_i e
    refine⟨List.pairwise_append.2 ⟨h1,by simp,λa ha b hb=>?_⟩,λv=>by rw[Qa,Qa,h2]⟩;have a2:b=s[i]:=by simpa using hb
    subst a2;have a0:=(h2 a).1 ha
    obtain⟨j,hj,rfl⟩:=List.getElem_of_mem a0;simp only[Z8] at hj;have a1:ltV s[i] s[j]=false:=Qx.1 h j i (by omega) W (by omega);rw[List.getElem_take] at ha ⊢;cases hlt2:ltV s[j] s[i] with
    |true=>rfl
    | false=>
     have e2:=rj (Z _ (Q6 (by omega))) (Z _ (Q6 W)) hlt2 a1;exfalso;apply e;have a3:0<i:=by omega
     obtain⟨J,rfl⟩:∃J,i=J+1:=⟨i - 1,by omega⟩
     rw[Bu s (by omega)]
     congr 1;apply rj (Z _ (Q6 (by omega))) (Z _ (Q6 W))
     ·cases h3:ltV s[J] s[J+1] with
      |false=>rfl
      | true=>
       rw[←e2] at h3
       by_cases e3:j=J
       ·subst e3;rw[o6] at h3;cases h3
       ·have:=Qx.1 h j J (by omega) (by omega) (by omega)
        rw[this] at h3;cases h3
     ·exact Qx.1 h J (J+1) (by omega) W (by omega)
 have:=key s.length (Qd _);rwa[Q8] at this
theorem Cx (s:List Ap)(hs:s.length<1048576):du s=some (dd s):=by
 unfold du
 by_cases h2:s.length<2
 ·rw[if_pos (by simpa using by omega)]
  match s,h2 with
  |[],_=>rfl
  |[a],_=>rfl
 rw[if_neg (by simpa using by omega)];refine my (I:=λs':Int=>∃i:Nat,s'=((i+1:Nat):Int)/\i+1<=s.length/\dd (s.take (i+1))=s.take (i+1)) (μ:=λx=>s.length - x.toNat) ?_ ⟨0,rfl,by omega,Jb s (by omega)⟩;rintro _ ⟨i,rfl,hi,W⟩;unfold fe
 by_cases hlt:i+1<s.length
 ·have e1:zw.wrap (((i+1:Nat):Int) - 1)=(i:Int):=by rw[ak (by omega)];omega
  rw[if_pos (by simpa using by omega),nQ hlt,zh,Q1 hlt,zh,e1,nQ (by omega),zh,Q1 (by omega),zh]
  by_cases e:s[i+1]=s[i]
  ·right
   rw[if_pos (by simpa using e)]
   have hv:vw s ((i+1:Nat):Int) (s.length:Int)=some (i+1,s.length - (i+1)):=by
    unfold vw;rw[if_pos (by omega)];simp only[Zb]
   rw[hv,zh];refine my (I:=λt:Int×Int×List Ap=>∃p k2:Nat,p=i+1+k2/\1<=k2/\p<=s.length/\t.1=((dd (s.take p)).length:Int)/\t.2.1=(k2:Int)/\t.2.2.length=s.length/\(dd (s.take p)).length+1<=p/\t.2.2.take (dd (s.take p)).length=dd (s.take p)/\t.2.2.drop (p - 1)=s.drop (p - 1)) (μ:=λt=>s.length - t.2.1.toNat) ?_ ?_
   ·rintro ⟨t1,t2,xs⟩ ⟨p,k2,hp,b1,a9,rfl,rfl,a1,a6,Z,J⟩
    unfold fd;have hm:Zj (s.length - (i+1)) bU=true:=Nat.ble_eq_true_of_le (by unfold bU;omega);dsimp only at*;rw[py hm,zh]
    by_cases hlt2:p<s.length
    ·left
     have a0:xs[p]? =some s[p]:=by
      have:(xs.drop (p - 1))[1]? =(s.drop (p - 1))[1]? :=by rw[J]
      rw[Qq,Qq] at this;have e:p - 1+1=p:=by omega
      rw[e] at this;rw[this,Q1 hlt2]
     have a3:xs[p - 1]? =some s[p - 1]:=by
      have:(xs.drop (p - 1))[0]? =(s.drop (p - 1))[0]? :=by rw[J]
      rw[Qq,Qq] at this;rw[Qy] at this;rw[this,Q1 (by omega)]
     have e2:ixv (i+1) (s.length - (i+1)) (k2:Int)=some p:=by unfold ixv;rw[if_pos (by omega)];simp;omega
     have e3:ixv (i+1) (s.length - (i+1)) (zw.wrap ((k2:Int) - 1))=some (p - 1):=by
      rw[ak (by omega)];unfold ixv;rw[if_pos (by omega)];simp;omega
     have h:=wP s (i:=p - 1) (by omega);have e4:p - 1+1=p:=by omega
     have e5:p - 1+2=p+1:=by omega
     simp only[e4,e5] at h;rw[if_pos (by simpa using by omega),e2,zh,a0,zh,e3,zh,a3,zh]
     by_cases e6:s[p]=s[p - 1]
     ·rw[if_pos e6] at h
      rw[if_neg (by simpa using e6)];unfold cM;refine⟨_,rfl,⟨p+1,k2+1,by omega,by omega,by omega,by rw[h],?_,a1,by rw[h];omega,by rw[h];exact Z,?_⟩,?_⟩
      ·exact bw (by omega)
      ·have:p+1 - 1=p - 1+1:=by omega
       rw[this,←Zc,←Zc,J]
      ·dsimp only;rw[bw (by omega)];simp;omega
     ·rw[if_neg e6] at h
      rw[if_pos (by simpa using e6)];have a2:(dd (s.take p)).length<xs.length:=by omega
      rw[zh,a0,zh,nQ a2,zh,Q1 a2,zh];unfold cM;refine⟨_,rfl,⟨p+1,k2+1,by omega,by omega,by omega,?_,bw (by omega),by simp[a1],by rw[h];simp;omega,?_,?_⟩,?_⟩
      ·rw[h,bw (by omega)];simp
      ·rw[h]
       simp only[Qf,Qs];rw[Jn (by simp;omega)];rw[List.take_set_of_le (Qd _),Z];simp
      ·rw[List.drop_set_of_lt (by omega)]
       have:p+1 - 1=p - 1+1:=by omega
       rw[this,←Zc,←Zc,J]
      ·dsimp only;rw[bw (by omega)];simp;omega
    ·right
     have a5:p=s.length:=by omega
     subst a5;rw[if_neg (by simpa using by omega)];unfold fc;rw[Q8] at*
     have a4:vw xs ((dd s).length:Int) (xs.length:Int)=some ((dd s).length,xs.length - (dd s).length):=by
      unfold vw;rw[if_pos (by omega)];simp only[Zb]
     rw[a4,zh];unfold clr;rw[if_pos (by dsimp only;omega),zh]
     have b0:(spl xs (dd s).length (Q4 (xs.length - (dd s).length) Ap.zero)).length=xs.length:=by
      unfold spl;simp;omega
     have:=d4 (xs:=spl xs (dd s).length (Q4 (xs.length - (dd s).length) Ap.zero)) (lo:=0) (hi:=(dd s).length) (by omega) (by omega);rw[show((0:Nat):Int)=0 from rfl] at this;rw[this]
     have e7:(spl xs (dd s).length (Q4 (xs.length - (dd s).length) Ap.zero)).take (dd s).length=dd s:=by
      unfold spl;rw[List.append_assoc,List.take_left' (by simp;omega)];exact Z
     rw[List.drop_zero,e7];rfl
   ·have h:=wP s (i:=i) (by omega)
    rw[if_pos e,W] at h;refine⟨i+2,1,by omega,by omega,by omega,?_,rfl,rfl,?_,?_,rfl⟩
    ·rw[h];simp;omega
    ·rw[h];simp;omega
    ·rw[h];simp
  ·left
   rw[if_neg (by simpa using e)];unfold fa;refine⟨_,rfl,⟨i+1,bw (by omega),by omega,?_⟩,?_⟩
   ·rw[wP s (i:=i) (by omega),if_neg e,W]
    exact(Jn hlt).symm
   ·rw[bw (by omega)];simp;omega
 ·right
  have:i+1=s.length:=by omega
  rw[if_neg (by simpa using by omega)];rw[this,Q8] at W;unfold eZ;rw[W];rfl
theorem vE {l:List Ap}(h:∀v∈l,Rgt v)(hl:l.length<1048576):∃r,jw l b9=some r/\du r=some (aX l):=by
 obtain⟨r,W⟩:∃r,tY b9 l=some r:=by
  unfold tY;rw[if_pos (Ja h)];exact⟨_,rfl⟩
 obtain⟨_,J,hs⟩:=vi W;refine⟨r,W,?_⟩;rw[Cx r (by rw[J.length_eq];exact hl)];congr 1;have a1:∀x∈r,Rgt x:=λx hx=>h x (J.mem_iff.1 hx)
 have a0:r.Pairwise λx y=>ltV y x=false:=hs.imp λ{x y} h=>by
  rw[dQ] at h;simp only[Qu,mp,Ze] at h;exact h
 obtain⟨h1,h2⟩:=HP a1 a0;obtain⟨Z,h4,_⟩:=gn h;exact Ris.one h1 Z λv=>by rw[h2,h4,J.mem_iff]
theorem D0 {O β σ:Type}{f:σ->Option (σ⊕β)}{s:σ}(S:Nat->σ)(xs:List O)(p:O->Bool)(Z J:β)(h0:s=S 0)(step:∀(i:Nat)(h:i<xs.length),p xs[i]=true->f (S i)=some (.inl (S (i+1))))
  (out:∀(i:Nat) (h:i<xs.length),p xs[i]=false->f (S i)=some (.inr Z)) (a0:f (S xs.length)=some (.inr J)):aq f s=some (if xs.all p then J else Z):=by
 have key:∀k i:Nat,i+k=xs.length->aq f (S i)=some (if (xs.drop i).all p then J else Z):=by
  intro k
  induction k with
  |zero=>
   intro i hi;have:i=xs.length:=by omega
   subst this;rw[aS a0];simp
  |succ k ih=>
   intro i hi;have W:i<xs.length:=by omega
   rw[Qv W,List.all_cons];cases hp:p xs[i] with
   |true=>rw[bK (step i W hp),ih (i+1) (by omega)];simp
   |false=>rw[aS (out i W hp)];simp
 have:=key xs.length 0 (by omega);rw[h0];simpa using this
def Cy (out:List aL)(v:Ap):List aL:=
 match out.getLast? with
 |some r=>if r.fValue=v then out.dropLast++[⟨r.fMany+1,v⟩] else out++[⟨1,v⟩]
 |none=>[⟨1,v⟩]
def cC (l:List Ap):List aL:=l.foldl Cy []
def fY (l:List aL):List Ap:=l.flatMap λr=>Q4 r.fMany.toNat r.fValue
theorem vF {l:List Ap}{i:Nat}(h:i<l.length):cC (l.take (i+1))=Cy (cC (l.take i)) l[i]:=mR h
theorem sI {O:Type}{l:List O}{a:O}(h:l.getLast?=some a):l=l.dropLast++[a]:=by
 cases l with
 |nil=>cases h
 |cons x r=>
  have J:(x::r).getLast (by simp)=a:=by rw[List.getLast?_eq_some_getLast (by simp)] at h;exact Option.some.inj h
  rw[←J,List.dropLast_concat_getLast]
theorem xI (l:List Ap){i:Nat}(hi:i<=l.length):(∀r∈cC (l.take i),1<=r.fMany/\r.fMany<=i/\r.fValue∈l)/\(cC (l.take i)).length<=i/\fY (cC (l.take i))=l.take i:=by
 induction i with
 |zero=>simp[cC,fY]
 | succ i ih=>
  obtain⟨h1,h2,h3⟩:=ih (by omega);have a1:i<l.length:=by omega
  rw[vF a1,Jn a1];generalize hw:cC (l.take i)=W at*;unfold Cy;have Z:=Q6 a1;split
  ·rename_i r J
   split
   ·rename_i e
    have a0:=sI J;have a2:r∈W:=Z7 J;obtain⟨g1,g2,g3⟩:=h1 r a2;refine⟨λx h=>?_,?_,?_⟩
    ·rcases Qa.1 h with h|h
     ·have:=h1 x (by rw[a0];exact List.mem_append_left _ h);exact⟨this.1,by omega,this.2.2⟩
     ·have:x=⟨r.fMany+1,l[i]⟩:=by simpa using h
      subst this;exact⟨by simp;omega,by simp;omega,Z⟩
    ·have:W.length=W.dropLast.length+1:=by rw[a0];simp
     simp;omega
    ·rw[←h3]
     have e1:fY W=fY W.dropLast++Q4 r.fMany.toNat r.fValue:=by
      conv=>lhs;rw[a0]
      simp[fY]
     rw[e1];have e2:(r.fMany+1).toNat=r.fMany.toNat+1:=by omega
     simp[fY,e2,List.replicate_succ',e]
   ·refine⟨λx h=>?_,by simp;omega,?_⟩
    ·rcases Qa.1 h with h|h
     ·have:=h1 x h;exact⟨this.1,by omega,this.2.2⟩
     ·have:x=⟨1,l[i]⟩:=by simpa using h
      subst this;exact⟨by simp,by simp;omega,Z⟩
    ·rw[←h3];simp[fY]
  ·rename_i J
   have:W=[]:=Za.1 J;subst this;refine⟨λx h=>?_,by simp,?_⟩
   ·have:x=⟨1,l[i]⟩:=by simpa using h
    subst this;exact⟨by simp,by simp;omega,Z⟩
   ·rw[←h3];simp[fY]
theorem F6 {O:Type}(l:List O)(a:O)(n:Nat)(h:l.length=n+1):l.set n a=l.dropLast++[a]:=by
 apply Z1
 ·simp;omega
 intro j J W;rw[List.getElem_set];split
 ·rename_i e;subst e
  rw[List.getElem_append_right (by simp;omega)];simp
 ·simp at J
  rw[List.getElem_append_left (by simp;omega),List.getElem_dropLast]
theorem HQ (l:List Ap)(hl:l.length<=1048576):ko l=some (cC l):=by
 unfold ko;refine cf (λi=>((i:Int),cC (l.take i))) l.length (by simp[cC]) (λi hi=>?_) ?_
 ·dsimp only
  obtain⟨h1,h2,_⟩:=xI l (i:=i) (by omega);rw[vF hi];generalize cC (l.take i)=W at*;unfold jv;rw[if_pos (by simpa using hi),aC hi,zh]
  have a0:dV (i:Int) W l[i] (W.length:Int)=some (.inr (.inl ((((i+1:Nat):Int)),W++[⟨1,l[i]⟩]))):=by
   unfold dV k8 g8;rw[if_neg (by simp),aQ (by simp;omega),zh,bw (by omega)];rfl
  have J:∀k,k+1<W.length->dV (i:Int) W l[i] (k:Int)=some (.inl ((k+1:Nat):Int)):=by
   intro k hk;unfold dV fZ;rw[if_pos (by simpa using by omega),if_neg (by rw[ak (by omega)];simp;omega),if_neg (by decide),bw (by omega)]
  unfold Cy;cases hg:W.getLast? with
  |none=>
   have:W=[]:=Za.1 hg;subst this;exact aS a0
  | some r=>
   dsimp only;have a1:=sI hg
   obtain⟨n,Z⟩:∃n,W.length=n+1:=⟨W.length - 1,by
    have:W.length=W.dropLast.length+1:=by rw[a1];simp
    omega⟩
   have h:W[n]? =some r:=by
    rw[List.getLast?_eq_getElem?,Z] at hg;exact hg
   have a2:=h1 r (Z7 hg)
   by_cases e:r.fValue=l[i]
   ·rw[if_pos e]
    refine cf (λk=>(k:Int)) n rfl (λk hk=>J k (by omega)) ?_;unfold dV fZ g8;rw[if_pos (by simpa using by omega),if_pos (by rw[ak (by omega)];simp;omega),nQ (by omega),zh,h,zh,if_pos (by simpa using e),zh,h,zh,zh,h,zh,bw (by omega),F6 _ _ _ Z,ak (by omega),e]
    rfl
   ·rw[if_neg e]
    refine cf (λk=>(k:Int)) W.length rfl (λk hk=>?_) a0
    by_cases hk1:k+1<W.length
    ·exact J k hk1
    ·have:k=n:=by omega
     subst this;unfold dV fZ;rw[if_pos (by simpa using by omega),if_pos (by rw[ak (by omega)];simp;omega),nQ (by omega),zh,h,zh,if_neg (by simpa using e),bw (by omega)]
 ·dsimp only
  unfold jv kZ;rw[if_neg (by simp),Q8];rfl
def ug (l:List Ap):List Int:=(cC l).flatMap λr=>r.fMany::bn r.fValue
theorem o7 {O:Type}(l:List O)(f:O->List Int)(k:Nat)(h:∀x∈l,(f x).length<=k):(l.flatMap f).length<=k*l.length:=by
 induction l with
 |nil=>simp
 |cons v r ih=>
  have:=h v (by simp);have:=ih λx J=>h x (by simp[J]);rw[List.flatMap_cons,Qf,Qk,Nat.mul_add];omega
theorem ol {l:List Ap}:(∀r∈cC l,1<=r.fMany/\r.fMany<=l.length/\r.fValue∈l)/\(cC l).length<=l.length/\fY (cC l)=l:=by
 have:=xI l (Qd _);rwa[Q8] at this
theorem wQ {l:List Ap}(h:∀v∈l,Rgt v)(hl:l.length<=64):lO l=some (ug l):=by
 obtain⟨W,h2,_⟩:=ol (l:=l);unfold lO;rw[HQ l (by omega),zh];refine cf (λi=>(((cC l).take i).flatMap λr=>r.fMany::bn r.fValue,(i:Int))) (cC l).length (by simp) (λi hi=>?_) ?_
 ·dsimp only
  have Z:=W _ (Q6 hi);have J:=h _ Z.2.2
  have hb:=o7 ((cC l).take i) (λr=>r.fMany::bn r.fValue) 67 λx hx=>by
   have:=(gJ (h _ (W x (Qj hx)).2.2)).2;simp;omega
  have a0:=(gJ J).2;simp only[Z8] at hb;unfold nt;rw[if_pos (by simpa using hi),aC hi,zh,bZ,aQ (by simp only[Qs];omega),zh,oB J,zh,aQ (by simp only[Qf,Qs];omega),zh,bw (by omega),qh hi];have:(cC l)[i].fMany%256=(cC l)[i].fMany:=by omega
  rw[this];simp
 ·dsimp only
  unfold nt q8;rw[if_neg (by simp),Q8];rfl
def zig (d:Int):Nat:=if d<0 then (-2*d - 1).toNat else (2*d).toNat
def fS (z:Nat):List Int:=if h:z<128 then [(z:Int)] else ((z%128+128:Nat):Int)::fS (z/128)
termination_by z
theorem pE {z:Nat}(h:z<128):fS z=[(z:Int)]:=by rw[fS,dif_pos h]
theorem sa {z:Nat}(h: ¬ z<128):fS z=((z%128+128:Nat):Int)::fS (z/128):=by rw[fS,dif_neg h]
theorem xJ:∀(k z:Nat),z<128^(k+1)->(fS z).length<=k+1
 |0,z,h=>by rw[pE (by simpa using h)];simp
 | k+1,z,h=>by
  by_cases hz:z<128
  ·rw[pE hz];simp
  ·rw[sa hz]
   have:z/128<128^(k+1):=by rw[Nat.div_lt_iff_lt_mul (by decide)];rw[Zg] at h;exact h
   have:=xJ k _ this;simp;omega
theorem nS {z:Nat}(h:z<18446744073709551616):(fS z).length<=10:=xJ 9 z (Qz h (by decide))
theorem D1 (z:Nat):Byt (fS z):=by
 induction z using Zd with
 |_ z ih=>
  by_cases hz:z<128
  ·rw[pE hz];exact .cons (by omega) .nil
  ·rw[sa hz];exact .cons (by omega) (ih _ (by omega))
theorem pF {d:Int}(h:cL d):zig d<18446744073709551616:=by
 unfold zig cL at*;split<;>omega
def mf (l:List Int)(i:Nat):List Int:=fS (zig (zw.wrap (l.getD (i+1) 0 - l.getD i 0)))
def om (l:List Int):List Int:=be8 (l.getD 0 0%18446744073709551616)++(Z3 (l.length - 1)).flatMap (mf l)
theorem MA:∀n:_root_.Fin 256,n.val|||128=n.val%128+128:=by decide+kernel
theorem AQ (x:Nat):∀(z:Nat) (J:List Int),z<18446744073709551616->J.length+(fS z).length<=140737488355328->x<1000->
  aq (λs:(List Int×Int)=>iP (x:Int) s.1 s.2) (J,(z:Int))=some (.inl (J++fS z,((x+1:Nat):Int))):=by
 intro z
 induction z using Zd with
 | _ z ih=>
  intro J hz W hx
  by_cases h:z<128
  ·rw[pE h] at W ⊢
   apply aS;dsimp only;unfold iP pZ pY;rw[if_neg (by simp;omega),bZ,aQ (by simpa using W),zh,bw (by omega)];have:(z:Int)%256=z:=by omega
   rw[this];rfl
  ·rw[sa h] at W ⊢
   simp only[Qk] at W
   have e:iP (x:Int) J (z:Int)=some (.inl (J++[((z%128+128:Nat):Int)],((z/128:Nat):Int))):=by
    unfold iP
    have h1:bOr .u8 ((z:Int)%256) 128=((z%128+128:Nat):Int):=by
     have Z:=MA ⟨z%256,by omega⟩;simp only at Z;rw[show((z:Int)%256)=((z%256:Nat):Int) by omega,show(128:Int)=((128:Nat):Int) from rfl,or8 (by omega) (by omega),Z];congr 1;omega
    have h3:aP .u64 (z:Int) 7=((z/128:Nat):Int):=by have:=oS (x:=(z:Int)) (k:=7) (by omega);simpa using this
    rw[if_pos (by simp;omega),bZ,h1,h3,aQ (by simp;omega),zh]
   rw[bK (by dsimp only;exact e),ih (z/128) (by omega) _ (by omega) (by simp;omega) hx];simp
theorem F7 {a:Nat}(W:a<18446744073709551616):fh .u64 (a:Int) 18446744073709551615=18446744073709551615 - (a:Int):=by
 unfold fh;rw[cx];show(((Qc 64 (a:Int)^^^Qc 64 18446744073709551615).toNat:Nat):Int)%18446744073709551616=_;have J:(Qc 64 (a:Int)).toNat=a:=by rw[Qe];omega
 have h:Qc 64 18446744073709551615=BitVec.allOnes 64:=by decide
 rw[h,BitVec.xor_allOnes,BitVec.toNat_not,J];have:(2:Nat)^64=18446744073709551616:=by decide
 omega
theorem xor_zero {a:Nat}(W:a<18446744073709551616):fh .u64 (a:Int) 0=(a:Int):=by
 unfold fh;rw[cx];show(((Qc 64 (a:Int)^^^Qc 64 0).toNat:Nat):Int)%18446744073709551616=_;have J:(Qc 64 (a:Int)).toNat=a:=by rw[Qe];omega
 have h:Qc 64 0=0#64:=by decide
 rw[h,BitVec.xor_zero,J];omega
theorem Jc {d:Int}(h:cL d):fh .u64 (eu .u64 (Q3.wrap d) 1) (Q3.wrap (aP .i64 d 63))=(zig d:Int):=by
 have W:aP .i64 d 63=if d<0 then -1 else 0:=by
  unfold aP cL at*;rw[Qp _ (Zo (Int.pow_pos (by decide)))];have:(2:Int)^(min (63:Int).toNat zw.bits)=9223372036854775808:=by decide
  rw[this];split<;>omega
 have J:eu .u64 (Q3.wrap d) 1=(2*d)%18446744073709551616:=by
  have:=vC (x:=Q3.wrap d) (k:=1) (by omega);rw[show((1:Nat):Int)=1 from rfl] at this;rw[this,cx];omega
 rw[W,J,cx];unfold zig cL at*;split
 ·have e:((2*d)%18446744073709551616)=((2*d+18446744073709551616).toNat:Int):=by omega
  rw[show((-1:Int)%18446744073709551616)=18446744073709551615 from by decide,e,F7 (by omega)];omega
 ·have e:((2*d)%18446744073709551616)=((2*d).toNat:Int):=by omega
  rw[show((0:Int)%18446744073709551616)=0 from by decide,e,xor_zero (by omega)]
theorem vG {l:List Int}(W:0<l.length)(hl:l.length<=64):kM l=some (om l):=by
 unfold kM;have a1:idx l 0=some l[0]:=aC (i:=0) W;have Z:=d4 (xs:=l) (lo:=1) (hi:=l.length) (by omega) (Qd _);rw[show((1:Nat):Int)=1 from rfl] at Z;rw[a1,zh,cx,qf,zh,Z,zh,Q8];have h:(l.drop 1).length=l.length - 1:=by simp
 have a0:l.getD 0 0=l[0]:=by rw[Q5,Q1 W];rfl
 refine cf (λi=>(be8 (l[0]%18446744073709551616)++(Z3 i).flatMap (mf l),(i:Int))) (l.length - 1) (by simp) (λi hi=>?_) ?_
 ·dsimp only
  unfold mI;rw[h,if_pos (by simpa using hi),aC (by rw[h];exact hi),zh,aC (by omega),zh];have J:=lY ((l.drop 1)[i]'(by rw[h];exact hi) - l[i]'(by omega));have hb:=o7 (Z3 i) (mf l) 10 λx hx=>nS (pF (lY _));have a2:=nS (pF J);simp only[List.length_range] at hb
  have e:mf l i=fS (zig (zw.wrap ((l.drop 1)[i]'(by rw[h];exact hi) - l[i]'(by omega)))):=by
   unfold mf;rw[Q5,Q5,Q1 (show i+1<l.length by omega),Q1 (show i<l.length by omega)];simp only[Qu,List.getElem_drop];congr 5;omega
  rw[Jc J,AQ i _ _ (pF J) (by simp only[Qf,ce];omega) (by omega),List.range_succ,List.flatMap_append,←e];simp
 ·dsimp only
  unfold mI pX;rw[h,if_neg (by simp)];unfold om;rw[a0];rfl
theorem Bv {O:Type}{l:List O}{i:Nat}{d:O}(h:i<l.length):l.getD i d=l[i]:=by
 rw[Q5,Q1 h];rfl
def jY (w:List Ap)(v:Ap):Nat:=w.findIdx λx=>decide (v=x)
def nU (l:List Ap):List Int:=((aX l).length:Int)::((aX l).flatMap bn++d5 (l.map λv=>(jY (aX l) v:Int)) (wid ((aX l).length - 1)))
theorem F9 {w:List Ap}{v:Ap}(Z:w.length<1048576)(h:v∈w):gv w v=some (jY w v:Int):=by
 unfold gv;have:=xE (f:=λs:Int=>eS w v s) w (λx=>decide (v=x)) (λi=>(i:Int)) (-1) (λi hi J=>?_) (λi hi J=>?_) ?_
 ·rw[this]
  have W:w.any (λx=>decide (v=x))=true:=List.any_eq_true.2 ⟨v,h,by simp⟩;rw[W];rfl
 ·unfold eS
  rw[if_pos (by simpa using hi),aC hi,zh,J,if_neg (by decide),bw (by omega)]
 ·unfold eS
  rw[if_pos (by simpa using hi),aC hi,zh,J,if_pos rfl];rfl
 ·unfold eS mw
  rw[if_neg (by simp)];rfl
theorem nC {w:List Ap}{v:Ap}(h:v∈w):jY w v<w.length:=List.findIdx_lt_length_of_exists ⟨v,h,by simp⟩
theorem Ga {w:List Ap}{v:Ap}(h:v∈w):w[jY w v]'(nC h)=v:=by
 have:=List.findIdx_getElem (p:=λx=>decide (v=x)) (xs:=w) (w:=nC h);simp only[decide_eq_true_eq] at this;exact this.symm
theorem CA {l w:List Ap}(h:∀v∈l,v∈w)(Z:w.length<1048576):U64 (l.map λv=>(jY w v:Int)):=λx W=>by
 obtain⟨v,J,rfl⟩:=Z9.1 W;have:=nC (h v J);omega
theorem wR {l:List Ap}(h:∀v∈l,Rgt v)(hl:l.length<=64)(a2:l≠[]):lP l=some (nU l):=by
 obtain⟨r,a4,a3⟩:=vE h (by omega);obtain⟨h3,Z,h5⟩:=gn h;have W:∀v∈aX l,Rgt v:=λv J=>h v ((Z v).1 J);unfold lP fp;rw[aQ (by simp;omega),zh,zh,List.nil_append,a4,zh,a3,zh,bZ,show((aX l).length:Int)%256=(aX l).length by omega];have a9:=kQ W;refine cf (λi=>(((aX l).length:Int)::((aX l).take i).flatMap bn,(i:Int))) (aX l).length (by simp) (λi hi=>?_) ?_
 ·dsimp only
  unfold jx;have h1:=kQ (l:=(aX l).take i) λv J=>W v (Qj J);have h2:=(gJ (W _ (Q6 hi))).2;simp only[Z8] at h1;rw[if_pos (by simpa using hi),aC hi,zh,oB (W _ (Q6 hi)),zh,aQ (by simp only[Qk];omega),zh,bw (by omega),qh hi]
  rfl
 ·dsimp only
  unfold jx;rw[if_neg (by simp),Q8];unfold lc
  have:aq (λs:(List Int×Int)=>g9 l (aX l) (((aX l).length:Int)::(aX l).flatMap bn) s.1 s.2) ([],0)=some (nU l):=by
   refine cf (λi=>((l.take i).map λv=>(jY (aX l) v:Int),(i:Int))) l.length (by simp) (λi hi=>?_) ?_
   ·dsimp only
    unfold g9;have hm:=(Z l[i]).2 (Q6 hi);have hp:=nC hm;rw[if_pos (by simpa using hi),aC hi,zh,F9 (by omega) hm,zh,cx,aQ (by simp;omega),zh,bw (by omega),Jn hi];have:((jY (aX l) l[i]:Nat):Int)%18446744073709551616=(jY (aX l) l[i]:Nat):=by omega
    rw[this,List.map_append,List.map_cons,List.map_nil]
   ·dsimp only
    unfold g9 la;rw[if_neg (by simp),Q8]
    by_cases h0:(aX l).length=0
    ·have a1:aX l=[]:=Qn h0
     have a5:l=[]:=by
      cases l with
      |nil=>rfl
      |cons a t=>have:=(Z a).2 (by simp);rw[a1] at this;cases this
     subst a5;exfalso;exact absurd rfl a2
    have e1:Q3.wrap (zw.wrap (((aX l).length:Int) - 1))=(((aX l).length - 1:Nat):Int):=by rw[ak (by omega),cx];omega
    have a0:wid ((aX l).length - 1)<=64:=ri (Qz (show(aX l).length - 1<64 by omega) (by decide))
    have a6:(d5 (l.map λv=>(jY (aX l) v:Int)) (wid ((aX l).length - 1))).length<=64*64:=by
     unfold d5;rw[i6,List.length_map];have:=Qw hl a0;omega
    rw[e1,len_eq (by omega),zh,xG (CA (λv J=>(Z v).2 J) (by omega)) (by simp;omega) a0,zh,aQ (by simp only[Qk];omega)]
    rfl
  rw[this];rfl
def mT:List Int->Int
 |[]=>0
 |a::r=>r.foldl (λm x=>if x<m then x else m) a
theorem xK (r:List Int):∀a:Int,r.foldl (λm x=>if x<m then x else m) a<=a/\(∀x∈r,r.foldl (λm x=>if x<m then x else m) a<=x)/\(r.foldl (λm x=>if x<m then x else m) a=a\/r.foldl (λm x=>if x<m then x else m) a∈r):=by
 induction r with
 |nil=>intro a;simp
 | cons b r ih=>
  intro a;simp only[Zh];obtain⟨h1,Z,h⟩:=ih (if b<a then b else a);have W:(if b<a then b else a)<=a/\(if b<a then b else a)<=b/\((if b<a then b else a)=a\/(if b<a then b else a)=b):=by split<;>omega
  refine⟨by omega,λx J=>?_,?_⟩
  ·rcases Q9.1 J with rfl|J
   ·omega
   ·exact Z x J
  ·rcases h with h|h
   ·rcases W.2.2 with h4|h4
    ·left;omega
    ·right;rw[h,h4];simp
   ·right;simp[h]
theorem Bw {l:List Int}{x:Int}(h:x∈l):mT l<=x:=by
 cases l with
 |nil=>cases h
 |cons a r=>
  obtain⟨W,J,_⟩:=xK r a;rcases Q9.1 h with rfl|h
  ·exact W
  ·exact J x h
theorem zR {l:List Int}(h:l≠[]):mT l∈l:=by
 cases l with
 |nil=>exact absurd rfl h
 |cons a r=>
  obtain⟨_,_,J⟩:=xK r a;rcases J with J|J
  ·show r.foldl _ a∈_;rw[J];simp
  ·exact List.mem_cons_of_mem _ J
def d6 (l:List Int):Nat:=l.foldl (λw x=>max w (wid x.toNat)) 0
theorem ur {l:List Int}{i:Nat}(h:i<l.length):d6 (l.take (i+1))=max (d6 (l.take i)) (wid l[i].toNat):=mR h
theorem lZ {l:List Int}(h:U64 l):d6 l<=64/\∀x∈l,wid x.toNat<=d6 l:=by
 have key:∀i,i<=l.length->d6 (l.take i)<=64/\∀x∈l.take i,wid x.toNat<=d6 (l.take i):=by
  intro i
  induction i with
  |zero=>intro _;simp[d6]
  | succ i ih=>
   intro hi;obtain⟨h1,Z⟩:=ih (by omega);have W:i<l.length:=by omega
   have J:=h l[i] (Q6 W);have hw:wid l[i].toNat<=64:=ri (by rw[show(2:Nat)^64=18446744073709551616 by decide];omega);rw[ur W];refine⟨by omega,λx J=>?_⟩;rw[Jn W] at J;rcases Qa.1 J with J|J
   ·have:=Z x J;omega
   ·have:x=l[i]:=by simpa using J
    subst this;omega
 have:=key l.length (Qd _);rwa[Q8] at this
def b8 (l:List Int):List Int:=l.map λx=>x - mT l
def ot (l:List Int):List Int:=be8 (mT l%18446744073709551616)++[(d6 (b8 l):Int)]++d5 (b8 l) (d6 (b8 l))
theorem ou {l:List Int}(h:∀x∈l,cL x):U64 (b8 l):=λx hx=>by
 obtain⟨y,J,rfl⟩:=Z9.1 hx;have h1:=Bw J;have Z:=h y J;have W:=h (mT l) (zR (List.ne_nil_of_mem J));unfold cL at Z W;omega
theorem Gb {x m:Int}(W:cL x)(J:cL m)(h:m<=x):Q3.wrap ((Q3.wrap x) - (Q3.wrap m))=x - m:=by
 rw[cx,cx,cx];unfold cL at*;omega
theorem Jd {l:List Int}(J:0<l.length)(h:l.length<=1048576):jL l=some (mT l):=by
 cases l with
 |nil=>simp at J
 | cons a r=>
  unfold jL mY;rw[if_neg (by simp;omega),da,zh];refine cf (λi=>((r.take i).foldl (λm x=>if x<m then x else m) a,((i+1:Nat):Int))) r.length (by simp) (λi hi=>?_) ?_
  ·dsimp only
   unfold kt;rw[if_pos (by simpa using hi),aC (by simpa using hi),zh,bw (by simp at h;omega),mR hi]
   rfl
  ·dsimp only
   unfold kt mX;rw[if_neg (by simp),Q8];rfl
theorem Je (a b:Nat):(if (a:Int)<(b:Int) then (b:Int) else (a:Int))=((max a b:Nat):Int):=by split<;>omega
theorem vH {l:List Int}(h:∀x∈l,cL x)(Z:0<l.length)(hl:l.length<=64):kN l=some (ot l):=by
 have a3:l≠[]:=λe=>by subst e;simp at Z
 have hm:=h _ (zR a3);have J:=ou h;obtain⟨hw,a4⟩:=lZ J;have W:(b8 l).length=l.length:=by simp[b8]
 unfold kN;rw[Jd Z (by omega),zh];refine cf (λi=>((b8 l).take i,((d6 ((b8 l).take i):Nat):Int),(i:Int))) l.length (by simp[d6]) (λi hi=>?_) ?_
 ·dsimp only
  unfold mL;have a1:=Q6 hi;have a0:(b8 l)[i]'(by omega)=l[i] - mT l:=by simp[b8]
  have a2:=J _ (Q6 (show i<(b8 l).length by omega));rw[a0] at a2;have e2:=zP (n:=(l[i] - mT l).toNat) (by omega);rw[show(((l[i] - mT l).toNat:Nat):Int)=l[i] - mT l by omega] at e2;rw[if_pos (by simpa using hi),aC hi,zh,Gb (h _ a1) hm (Bw a1),aQ (by simp;omega),zh,e2,zh,bw (by omega),Je,ur (by omega),Jn (by omega),a0]
 ·dsimp only
  unfold mL p9
  have a5:(d5 (b8 l) (d6 (b8 l))).length<=64*64:=by
   unfold d5;rw[i6,W];have:=Qw hl hw;omega
  rw[if_neg (by simp),←W,Q8,cx,qf,zh,bZ,aQ (by simp[ce]),zh,xG J (by omega) hw,zh,aQ (by simp only[Qf,ce,Qs];omega)];have:((d6 (b8 l):Nat):Int)%256=(d6 (b8 l):Nat):=by omega
  rw[this];rfl
def mU (l:List Ap):List Int:=l.flatMap bn
def pG (kind:Int)(l:List Ap):List Int:=
 if kind=1 then ug l else if kind=2 then om (l.map (·.fInt)) else if kind=3 then nU l else if kind=4 then ot (l.map (·.fInt)) else mU l
def kS (l:List Ap):Bool:=l.all λv=>v.fKind==2
def enc (kind:Int)(l:List Ap):List Int×Int:=
 if kind<0\/4<kind then ([],62) else if 64<l.length then ([],61) else if l.all right=false then ([],60) else
 if (kind=2\/kind=4)/\kS l=false then ([],62) else if l=[] then ([],0) else (pG kind l,0)
theorem HR {l:List Ap}(J:l.length<=1048576):lM l=some (if kS l then (l.map (·.fInt),true) else ([],false)):=by
 unfold lM kS;refine D0 (λi=>((l.take i).map (·.fInt),(i:Int))) l (λv=>v.fKind==2) _ _ (by simp) (λi hi h=>?_) (λi hi h=>?_) ?_
 ·dsimp only
  unfold kY;rw[if_pos (by simpa using hi),aC hi,zh,if_neg (by simpa using h),aQ (by simp;omega),zh,bw (by omega),Jn hi,List.map_append,List.map_cons,List.map_nil]
 ·dsimp only
  unfold kY;rw[if_pos (by simpa using hi),aC hi,zh,if_pos (by simpa using h)];rfl
 ·dsimp only
  unfold kY qY;rw[if_neg (by simp),Q8];rfl
theorem AR {l:List Ap}(J:l.length<=1048576):dD l ek=some (!l.all right):=by
 unfold dD je;have:=xE (f:=λs:Int=>dC l ek s) l (λv=> !right v) (λi=>(i:Int)) (-1) (λi hi h=>?_) (λi hi h=>?_) ?_
 ·rw[this,zh]
  have e:l.any (λv=> !right v)= !l.all right:=by simp[List.any_eq_not_all_not]
  rw[e];cases l.all right<;>simp
 ·unfold dC ek
  rw[if_pos (by simpa using hi),aC hi,zh,hZ,zh,zh,h,if_neg (by decide),bw (by omega)]
 ·unfold dC ek
  rw[if_pos (by simpa using hi),aC hi,zh,hZ,zh,zh,h,if_pos rfl];rfl
 ·unfold dC ky
  rw[if_neg (by simp)];rfl
theorem rk {l:List Ap}(h:∀v∈l,VOK v)(W:l.all right=true):∀v∈l,Rgt v:=λv J=>Rgt.of (h v J) (Z0.1 W v J)
theorem ql {l:List Ap}(kind:Int)(h:∀v∈l,VOK v)(hl:l.length<=1048576):eL kind l=some (enc kind l):=by
 unfold eL enc
 have hj:∀b,f7 kind l b=some (if b=true then ([],62) else if 64<l.length then ([],61) else if l.all right=false then ([],60) else if (kind=2\/kind=4)/\kS l=false then ([],62) else if l=[] then ([],0) else (pG kind l,0)):=by
  intro b;unfold f7;cases b
  ·simp only[Qb,if_false]
   by_cases h1:64<l.length
   ·rw[if_pos (decide_eq_true (by omega)),if_pos h1]
   rw[if_neg (by simp;omega),if_neg h1,AR hl,zh];cases hr:l.all right
   ·rfl
   rw[if_neg (by decide),if_neg (by decide),HR hl,zh];have W:=rk h hr
   have a3:∀J:List Int×Bool,(kind=2\/kind=4->J.1=l.map (·.fInt))->dL kind l J false=some (if l=[] then ([],0) else (pG kind l,0)):=by
    intro J a0;unfold dL;rw[if_neg (by decide)]
    by_cases h0:l=[]
    ·subst h0;rfl
    have a2:0<l.length:=List.length_pos_iff.2 h0;rw[if_neg (by simpa using h0),if_neg h0];unfold pG
    by_cases k1:kind=1
    ·rw[if_pos (by simpa using k1),wQ W (by omega),if_pos k1];rfl
    rw[if_neg (by simpa using k1),if_neg k1]
    by_cases k2:kind=2
    ·rw[if_pos (by simpa using k2),a0 (.inl k2),vG (by simpa using a2) (by simp;omega),if_pos k2];rfl
    rw[if_neg (by simpa using k2),if_neg k2]
    by_cases k3:kind=3
    ·rw[if_pos (by simpa using k3),wR W (by omega) h0,if_pos k3];rfl
    rw[if_neg (by simpa using k3),if_neg k3]
    by_cases k4:kind=4
    ·rw[if_pos (by simpa using k4),a0 (.inr k4),vH (λx hx=>by obtain⟨v,Z,rfl⟩:=Z9.1 hx;exact(h v Z).int) (by simpa using a2) (by simp;omega),if_pos k4];rfl
    rw[if_neg (by simpa using k4),if_neg k4];refine cf (λi=>((l.take i).flatMap bn,(i:Int))) l.length (by simp) (λi hi=>?_) ?_
    ·dsimp only
     unfold ig;have h3:=kQ (l:=l.take i) λv Z=>W v (Qj Z);have h2:=(gJ (W _ (Q6 hi))).2;simp only[Z8] at h3;rw[if_pos (by simpa using hi),aC hi,zh,oB (W _ (Q6 hi)),zh,aQ (by omega),zh,bw (by omega),qh hi]
    ·dsimp only
     unfold ig jM;rw[if_neg (by simp),Q8];rfl
   have a1:∀J:List Int×Bool,dL kind l J true=some ([],62):=λJ=>rfl;cases hi:kS l
   ·simp only[Qb,if_false,Bool.not_false,if_true,and_true]
    by_cases k2:kind=2
    ·rw[if_pos (by simpa using k2),if_pos (.inl k2),a1]
    by_cases k4:kind=4
    ·have:(kind==4)=true:=by simpa using k4
     rw[if_neg (by simpa using k2),this,if_pos (.inr k4),a1]
    ·have:(kind==4)=false:=by simpa using k4
     rw[if_neg (by simpa using k2),this,if_neg (by omega),a3 _ (by omega)]
   ·simp only[if_true,Zn,Qb,if_false,Bool.true_eq_false,and_false]
    exact a3 _ λ_=>rfl
  ·rfl
 by_cases h0:kind<0
 ·rw[if_pos (by simpa using h0),if_pos (.inl h0),hj];rfl
 rw[if_neg (by simpa using h0),hj]
 by_cases h4:4<kind
 ·rw[if_pos (by simpa using h4),if_pos (show kind<0\/4<kind from .inr h4)]
 ·rw[if_neg (show ¬ (kind<0\/4<kind) by omega),if_neg (by simpa using h4)]
end Go.Proofs.YthbonoagbeilkaaGreat.Hay
