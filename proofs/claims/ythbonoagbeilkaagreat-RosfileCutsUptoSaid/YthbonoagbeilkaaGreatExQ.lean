import Derived.Test.YthbonoagbeilkaaGreatHbW
import Derived.Test.YthbonoagbeilkaaGreatHbA
set_option linter.unusedVariables false
set_option linter.unusedSimpArgs false
namespace Go.Proofs.YthbonoagbeilkaaGreat.Hay
open Option renaming bind_some→Z1
open List renaming replicate→Z5,getD_eq_getElem?_getD→Z7,mem_cons→Za,getElem?_eq_getElem→Zb,take_succ_eq_append_getElem→Ze,getElem?_append_left→Zf,mem_append→Zh,getElem_mem→Zj,drop_append_of_le_length→Zk,getElem?_append_right→Zt,eq_nil_of_length_eq_zero→Zz,mem_of_mem_take→X7,all_eq_true→X8,length_cons→X9,ext_getElem→Xb,drop_eq_getElem_cons→Xd,range→Xe,length_append→Xf,take_of_length_le→Xh,length→Xj,mem_map→Xn
open Nat renaming le_of_ble_eq_true→Z3,eq_of_beq_eq_true→Z4,pow_le_pow_right→Zc,div_div_eq_div_mul→Zl,le_refl→Zm,mul_le_mul→Zo,div_le_self→Zp,mul_le_mul_right→Zs,add_zero→Zu,testBit_eq_decide_div_mod_eq→Zv,beq→Zw,add_mul→Zy,pow_succ→X3,eq_of_testBit_eq→X4,div_eq_of_lt→X5,two_pow_add_eq_or_of_lt→X6,and_one_is_mod→Xc,le_trans→Xi,not_le→Xk,ble→Xl,mul_comm→Xm
open Bool renaming and_eq_true→Z6,false_eq_true→Zx
open Int renaming eq_ofNat_of_zero_le→Z8,natCast_pow→Z9,natCast_nonneg→Zn,tdiv_eq_ediv_of_nonneg→Zq,tmod_eq_emod_of_nonneg→Zr,fdiv_eq_ediv_of_nonneg→Xa
open BitVec renaming toNat_ofInt→Zg,ofInt→Zi
open IntKind renaming i64→Z0,u64→Z2,u8→Zd,u32→Xg
section
variable {G:Sg}{P:Program}{δ:List Nat}{n:Nat}{W0:Bse}{L0:Rs}{T0:List (Nat×Value)}{m m0:M}{z:Cz}{st:St G}{a:Act}{w:World}{Γ:Tab P G}{D:List (CS P G)}
theorem Bu {O:Type}{l:List O}{k i:Nat}(h:i<(l.drop k).length):fb (l.drop k) i=fb l i:=by
  induction l generalizing k with
  |nil=>simp
  | cons x l ih=>
    cases k with
    |zero=>rfl
    | succ k=>
      simp only[List.drop_succ_cons] at h ⊢;rw[ih h];have hi:i<l.length:=by simp at h;omega
      have:Zw i l.length=false:=by
        cases hb:Zw i l.length with
        |false=>rfl
        |true=>have:=Z4 hb;omega
      simp[fb,this]
theorem LR.drop {J:List (Nat×BC G)}{ps:List (Nat×Value)}{es:List (Nat×List Value)}(h:LR G m J ps es)(k:Nat):LR G m (J.drop k) (ps.drop k) (es.drop k):=by
  induction J generalizing ps es k with
  |nil=>cases ps<;>cases es<;>first|exact h.elim|(simp;exact trivial)
  | cons B J ih=>
    cases ps with
    |nil=>cases es<;>exact h.elim
    | cons p ps=>
      cases es with
      |nil=>exact h.elim
      | cons e es=>
        cases k with
        |zero=>exact h
        |succ k=>exact ih h.2.2 k
theorem TRl.drop {J:List Nat}{vs:List Value}{es:List (Nat×Value)}(h:TRl J vs es)(k:Nat):TRl (J.drop k) (vs.drop k) (es.drop k):=by
  induction J generalizing vs es k with
  |nil=>cases vs<;>cases es<;>first|exact h.elim|(simp;exact trivial)
  | cons s J ih=>
    cases vs with
    |nil=>cases es<;>exact h.elim
    | cons v vs=>
      cases es with
      |nil=>exact h.elim
      | cons e es=>
        cases k with
        |zero=>exact h
        |succ k=>exact ih h.2 k
theorem S.voids {L L':List (Nat×List Value)}{TL:List (Nat×Value)}(h:S W0 m w L TL)(W:∀(i:Nat)(e:Nat×List Value),L'[i]? =some e->e.2=[]\/L[i]? =some e):S W0 m w L' TL:=
  ⟨h.below,h.imm,λi e Z J=>(W i e Z).elim (λx=>absurd x J) (λx=>h.own i e x J),
   λi j e e' Z a2 a1 J a0=>(W i e Z).elim (λx=>absurd x J) (λx=>(W j e' a2).elim (λy=>absurd y a0) (λy=>h.nodup i j e e' x y a1 J a0)),h.tails,h.apart⟩
theorem vH {O:Type}{f:Nat->O}:∀{n:Nat},(oz f n).length=n
  |0=>rfl
  |n+1=>by simp[oz,vH]
theorem vI {O:Type}{f:Nat->O}:∀{n i:Nat} {y:O},fb (oz f n) i=some y->i<n/\y=f i
  |0,i,y,h=>by simp[oz,fb] at h
  | n +1,i,y,h=>by
    simp only[oz,fb,vH] at h;split at h
    · rename_i e
      have:=Z4 e;subst this;injection h with h
      exact⟨by omega,h.symm⟩
    ·have:=vI h;exact⟨by omega,this.2⟩
theorem LR.build {f:Nat->Nat×BC G}:∀{n:Nat} {J:List (Nat×BC G)} {ps:List (Nat×Value)} {es:List (Nat×List Value)},LR G m J ps es->J.length=n->(∀i,i<n->(f i).2= .gone\/ ∃s,fb J i=some (s,(f i).2))->
    ∃W,LR G m (oz f n) ps W/\W.length=es.length/\∀(i:Nat) (e:Nat×List Value),W[i]? =some e->e.2=[]\/es[i]? =some e
  | 0,J,ps,es,h,hl,_=>by
    have:J=[]:=Zz hl;subst this;cases ps<;>cases es<;>first|exact h.elim|exact⟨[],trivial,rfl,λi e he=> .inr he⟩
  |n+1,[],ps,es,h,hl,_=>by simp at hl
  |n+1,B::J,[],es,h,hl,_=>by cases es<;>exact h.elim
  |n+1,B::J,p::ps,[],h,hl,_=>h.elim
  | n + 1,B::J,p::ps,e::es,h,hl,hf=>by
    obtain⟨h1,h2,h3⟩:=h;have a0:J.length=n:=by simpa using hl
    obtain⟨W,k1,k2,k3⟩:=LR.build (f:=f) h3 a0 (λi hi=>by
      rcases hf i (by omega) with h|⟨s,h⟩
      ·exact .inl h
      · refine .inr ⟨s,?_⟩
        have:Zw i J.length=false:=by
          cases hb:Zw i J.length with
          |false=>rfl
          |true=>have:=Z4 hb;omega
        simp only[fb,this] at h
        exact h)
    rcases hf n (by omega) with hg|⟨s,hs⟩
    · refine⟨(p.1,[])::W,⟨rfl,by rw[hg];rfl,k1⟩,by simp[k2],λi x Z=>?_⟩
      cases i with
      |zero=>simp at Z;subst Z;exact .inl rfl
      |succ i=>exact k3 i x (by simpa using Z)
    · have:fb (B::J) n=some B:=by rw[←a0];exact jZ
      rw[this] at hs;injection hs with hs
      refine⟨e::W,⟨h1,by rw[show(f n).2=B.2 by rw[hs]];exact h2,k1⟩,by simp[k2],λi x Z=>?_⟩;cases i with
      |zero=>exact .inr (by simpa using Z)
      |succ i=>exact k3 i x (by simpa using Z)
theorem ga.cut {Ls:List (Nat×BC G)}{Ts T':List Nat}{nb:Nat}{f:Nat->Nat×BC G}(h:ga G W0 L0 T0 Ls Ts m z w)(b0:nb<=Ls.length)(hf:∀i,i<nb->(f i).2= .gone\/ ∃s,fb Ls i=some (s,(f i).2))(hT:Ts.drop (Ts.length - T'.length)=T')(a6:L0.nm.length<=nb):
    ∃z',ga G W0 L0 T0 (oz f nb) T' m z' w/\(∀i p,i<nb->fb z.b i=some p->fb z'.b i=some p)/\(∀j v,j<T'.length->fb z.t j=some v->fb z'.t j=some v):=by
  obtain⟨Lc,Tc,h1,h2,hS,a3⟩:=h;have hl:=h1.len;have a9:=h2.len;have d1:=h1.drop (Ls.length - nb);have a2:(Ls.drop (Ls.length - nb)).length=nb:=by simp;omega
  obtain⟨a4,k1,k2,k3⟩:=LR.build (f:=f) d1 a2 (λi hi=>by
    rw[Bu (by omega)];exact hf i hi)
  have Z:=h2.drop (Ts.length - T'.length);rw[hT] at Z
  have a5:T'.length<=Ts.length:=by
    have:=congrArg Xj hT;simp at this;omega
  refine⟨⟨z.b.drop (Ls.length - nb),z.t.drop (Ts.length - T'.length)⟩,⟨a4,Tc.drop (Ts.length - T'.length),k1,Z,?_,a3.drop (by omega)⟩,λi p hi hp=>?_,λj v hj hv=>?_⟩
  · have a0:=hS.dropL (Ls.length - nb)
    rw[Zk (by omega)] at a0;have a1:=a0.dropT (Ts.length - T'.length);rw[Zk (by omega)] at a1;refine a1.voids λi e J=>?_;rw[List.getElem?_append] at J ⊢;rw[k2] at J;split at J
    · rename_i W
      rw[if_pos W];exact k3 i e J
    · rename_i W
      rw[if_neg W];exact .inr J
  ·rw[Bu (by simp;omega)];exact hp
  ·rw[Bu (by simp;omega)];exact hv
theorem MH {q:Nat}{c:Ty}(W:Sat G P δ n W0 L0 T0 m0 st a w):Sat G P δ n W0 L0 T0 m0 (nilT G q c st) a w/\Ext st.c st (nilT G q c st)/\(nilT G q c st).c=st.c:=by
  unfold nilT;split
  · rename_i lv h
    obtain⟨⟨m,z,h0,Z,J⟩,hdf,hsz⟩:=W;have a1:=J.len;obtain⟨Lc,Tc,h1,h2,hS,a0⟩:=J;have hv:a.tmps.getD q undef= .slice none 0 0:=Z _ (iH h);refine⟨⟨⟨m,⟨z.b,.slice none 0 0::z.t⟩,h0,λe h=>?_,Lc,((c.kd G).sz,.slice none 0 0)::Tc,h1,⟨rfl,h2⟩,hS.tail0 _,a0⟩,hdf,hsz⟩,(Ext.envL (st:=st) (st':={ st with T:=(c.kd G).sz::st.T }) rfl rfl).trans (Ext.put (st:={ st with T:=(c.kd G).sz::st.T })),rfl⟩;rcases Za.1 h with rfl|h
    · show RV _ m (a.tmps.getD q undef) _/\Tag _ _ _
      rw[hv];refine⟨cT,?_⟩;show fb (.slice none 0 0::z.t) st.T.length=_;rw[←a1.2];exact jZ
    ·exact((Z e (me h).1)).z (Zle.pushT z _)
  ·exact⟨W,Ext.refl _ _,rfl⟩
theorem zx {O:Type}:∀{l:List O} {i:Nat},i<l.length->∃y,fb l i=some y:=by
  intro l
  induction l with
  |nil=>intro i h;simp at h
  | cons a l ih=>
    intro i h;simp only[fb];split
    ·exact⟨_,rfl⟩
    · rename_i J
      have:i≠l.length:=λe=>by subst e;simp at J
      simp at h;exact ih (by omega)
theorem TRl.get2 {J:List Nat} {vs:List Value} {es:List (Nat×Value)} (h:TRl J vs es) {i s:Nat} {v:Value} (Z:fb J i=some s) (W:fb vs i=some v):
    i<J.length/\es[J.length - 1 - i]? =some (s,v)/\∀v',TRl J (sb vs i v') (es.set (J.length - 1 - i) (s,v')):=by
  induction J generalizing vs es with
  |nil=>cases vs<;>simp[fb] at Z
  | cons s0 J ih=>
    cases vs with
    |nil=>cases es<;>exact h.elim
    | cons v0 vs=>
      cases es with
      |nil=>exact h.elim
      | cons e es=>
        obtain⟨h1,h2⟩:=h;have hl:vs.length=J.length:=h2.len.1;simp only[fb] at Z W;rw[hl] at W;split at Z
        · rename_i hi
          rw[if_pos hi] at W;injection Z with Z;injection W with W
          subst Z;subst W;have hi':=Z4 hi;subst hi';have e0:(s0::J).length - 1 - J.length=0:=by simp
          rw[e0];refine⟨by simp,by simp[h1],λv'=>?_⟩;simp only[sb,hl,hi,if_true,List.set_cons_zero];exact⟨rfl,h2⟩
        · rename_i hi
          rw[if_neg hi] at W;obtain⟨g0,g1,g2⟩:=ih h2 Z W;have e0:(s0::J).length - 1 - i=(J.length - 1 - i)+1:=by simp;omega
          rw[e0];refine⟨by simp;omega,by simpa using g1,λv'=>?_⟩;simp only[sb,hl,hi,List.set_cons_succ];exact⟨h1,g2 v'⟩
theorem S.swapT {TL:List (Nat×Value)}{L:List (Nat×List Value)}(h:S W0 m w L TL){k1 k2:Nat}{Z e2:Nat×Value}(h1:TL[k1]? =some Z)(h2:TL[k2]? =some e2)(hk:k1≠k2):S W0 m w L ((TL.set k1 e2).set k2 Z):=by
  refine h.selT _ (λi=>if i=k1 then k2 else if i=k2 then k1 else i) (λi e J=>?_) (λi j W=>?_)
  · rw[List.getElem?_set] at J
    split at J
    · rename_i e
      subst e;split at J
      · injection J with J;subst J
        rw[if_neg (λe=>hk e.symm),if_pos rfl];exact h1
      ·cases J
    · rename_i hn
      rw[List.getElem?_set] at J;split at J
      · rename_i e
        subst e;split at J
        · injection J with J;subst J
          rw[if_pos rfl];exact h2
        ·cases J
      · rename_i a0
        rw[if_neg (λe=>a0 e.symm),if_neg (λe=>hn e.symm)];exact J
  ·split at W<;>split at W<;>(try split at W)<;>(try split at W)<;>omega
theorem Ext.er2 {j k:Nat}:Ext st.c st { st with env:=oT k st.c (oT j st.c st.env) }:=
  (Ext.er (st:=st) (j:=j)).trans (Ext.er (st:={ st with env:=oT j st.c st.env }) (j:=k))
theorem MI {q j:Nat}(Z:Sat G P δ n W0 L0 T0 m0 st a w):Sat G P δ n W0 L0 T0 m0 (Ej G q j st) a w/\Ext st.c st (Ej G q j st)/\(Ej G q j st).c=st.c:=by
  unfold Ej;split
  · rename_i lv t x h W
    split
    ·exact⟨Z,Ext.refl _ _,rfl⟩
    · rename_i a0
      split
      · rename_i s s' hj a1
        split
        · rename_i a4
          subst a4;obtain⟨⟨m,z,h0,hr,hM⟩,hdf,hsz⟩:=Z;have a3:=hM.len;obtain⟨Lc,Tc,h1,J,hS,a2⟩:=hM;obtain⟨hv,ht⟩:=hr _ (iH W);simp only at hv ht;have ht:fb z.t h=some (a.tmps.getD q undef):=ht;obtain⟨u,hu⟩:=zx (l:=z.t) (i:=j) (by rw[a3.2];exact yr hj);obtain⟨p1,p2,p3⟩:=J.get2 hj hu;obtain⟨q1,q2,q3⟩:=(p3 (a.tmps.getD q undef)).get2 a1 (show fb (sb z.t j _) h=_ by rw[ky (λe=>a0 e.symm)];exact ht);obtain⟨_,r2,_⟩:=J.get2 a1 ht;have hk:st.T.length - 1 - j≠st.T.length - 1 - h:=by omega
          refine⟨⟨⟨m,⟨z.b,sb (sb z.t j (a.tmps.getD q undef)) h u⟩,h0,λe W=>?_,Lc,_,h1,q3 u,?_,a2⟩,hdf,hsz⟩,Ext.er2.trans (Ext.put (st:={ st with env:=oT h st.c (oT j st.c st.env) }) (d:=q)),rfl⟩
          · rcases Za.1 W with rfl|W
            · refine⟨hv,?_⟩
              show fb (sb (sb z.t j (a.tmps.getD q undef)) h u) j=_;rw[ky a0,pk hu]
            ·exact tP (tP hr) e (me W).1
          · have:=hS.swapT (k1:=st.T.length - 1 - j) (k2:=st.T.length - 1 - h) (by rw[Zf (by have:=J.len.2;omega)];exact p2) (by rw[Zf (by have:=J.len.2;omega)];exact r2) hk
            rw[List.set_append_left _ _ (by have:=J.len.2;omega),List.set_append_left _ _ (by have:=J.len.2;simp;omega)] at this;exact this
        ·exact⟨Z,Ext.refl _ _,rfl⟩
      ·exact⟨Z,Ext.refl _ _,rfl⟩
  ·exact⟨Z,Ext.refl _ _,rfl⟩
theorem zy:∀{its:List It} {st:St G},Sat G P δ n W0 L0 T0 m0 st a w->Sat G P δ n W0 L0 T0 m0 (oU G its st) a w/\Ext st.c st (oU G its st)/\(oU G its st).c=st.c:=by
  intro its
  induction its with
  |nil=>intro st J;exact⟨J,Ext.refl _ _,rfl⟩
  | cons i its ih=>
    intro st J;unfold oU;split
    · rename_i h
      cases h
    · rename_i q lv c j r h
      injection h with h1 h2
      subst h2;obtain⟨k1,k2,W⟩:=MH (q:=q) (c:=c) J;obtain⟨l1,l2,l3⟩:=MI (q:=q) (j:=j) k1;obtain⟨r1,Z,r3⟩:=ih l1;rw[l3,W] at Z r3;rw[W] at l2;exact⟨r1,k2.trans (l2.trans Z),r3⟩
    · rename_i h
      injection h with h1 h2
      subst h2;exact ih J
theorem Od {nT:Nat}{s:Sh}{b:AV G}{x:s.den G}(h:shX G nT s b=some x):s.mk G x=b/\∀t j,s= .dat t (some j)->j<nT:=by
  cases s with
  | dat t o=>
    unfold shX at h;dsimp only at h;cases hb:b.dt? with
    |none=>simp[hb] at h
    | some q=>
      simp only[hb] at h;have h':(if q.2.2=o/\Oc nT o=true then dF G q.1 t q.2.1 else none)=some (show t.den G from x):=h;clear h;split at h'
      · rename_i Z
        obtain⟨J,Z⟩:=Z;obtain⟨e,h⟩:=b8 h';rw[AV.dt_eq hb];obtain⟨t',x',o'⟩:=q;simp only at e J;subst e;subst J;subst h;exact⟨rfl,λt j e=>by injection e with e1 e2;rw[e2] at Z;exact Z3 Z⟩
      ·cases h'
  | ptr t=>
    unfold shX at h;dsimp only at h;cases hb:b.pt? with
    |none=>simp[hb] at h
    | some q=>
      simp only[hb] at h;obtain⟨e,h⟩:=b8 h;rw[AV.pt_eq hb];obtain⟨t',x'⟩:=q;simp only at e;subst e;subst h;exact⟨rfl,λt j e=>by cases e⟩
  | fn1 c d=>
    unfold shX at h;dsimp only at h;cases hb:b.f1? with
    |none=>simp[hb] at h
    | some q=>
      simp only[hb] at h;split at h
      · rename_i hh
        rw[AV.f1_eq hb];obtain⟨a',b',f⟩:=q;obtain⟨J,W⟩:=hh;simp only at J W;subst J;subst W;injection h with h;subst h
        exact⟨rfl,λt j e=>by cases e⟩
      ·cases h
  | fn2 c e d=>
    unfold shX at h;dsimp only at h;cases hb:b.f2? with
    |none=>simp[hb] at h
    | some q=>
      simp only[hb] at h;split at h
      · rename_i hh
        rw[AV.f2_eq hb];obtain⟨a',c',b',f⟩:=q;obtain⟨J,W,h3⟩:=hh;simp only at J W h3;subst J;subst W;subst h3;injection h with h;subst h
        exact⟨rfl,λt j e=>by cases e⟩
      ·cases h
theorem US {J:Nat}{s:Sh}{x:s.den G}{v:Value}{z':Cz}(h:(s.mk G x).Rel G P m z v)(Z:∀t j,s= .dat t (some j)->j<J)(W:∀j v,j<J->fb z.t j=some v->fb z'.t j=some v):(s.mk G x).Rel G P m z' v:=by
  cases s with
  | dat t o=>
    refine⟨h.1,?_⟩;cases o with
    |none=>trivial
    |some j=>exact W _ _ (Z t j rfl) h.2
  |_=>exact h
theorem xn {J:Nat}{s:Sh}{b:AV G}{x:s.den G}{v:Value}{z':Cz}(h:shX G J s b=some x)(Z:b.Rel G P m z v)(hz:∀j v,j<J->fb z.t j=some v->fb z'.t j=some v):(s.mk G x).Rel G P m z' v/\s.mk G x=b:=by
  obtain⟨W,h2⟩:=Od h;rw[←W] at Z;exact⟨US Z h2 hz,W⟩
theorem Oe {W:Nat}{s:Sh}{b:AV G}{x:s.den G}{v:Value}{z':Cz}(h:shA Γ W s b=some x)(Z:b.Rel G P m z v)(hz:∀j v,j<W->fb z.t j=some v->fb z'.t j=some v):(s.mk G x).Rel G P m z' v:=by
  cases s with
  | dat t o=>
    cases o with
    | none=>
      have J:b.as Γ t=some x:=h;exact⟨AV.as_rel J Z,trivial⟩
    | some j=>
      have J:shX G W (.dat t (some j)) b=some x:=h;exact(xn J Z hz).1
  | ptr t=>
    have J:shX G W (.ptr t) b=some x:=h;exact(xn J Z hz).1
  | fn1 c d=>
    have J:shX G W (.fn1 c d) b=some x:=h;exact(xn J Z hz).1
  | fn2 c e d=>
    have J:shX G W (.fn2 c e d) b=some x:=h;exact(xn J Z hz).1
theorem MJ {q lv:Nat}{s:Sh}{its:List It}{u:s.den G}{y:fj G its}:mB G (.v q lv s::its) (mkI G (.v q lv s) its u y)=(q,lv,.one (s.mk G u))::mB G its y:=by
  cases its<;>rfl
theorem MK {i lv:Nat}{t:Ty}{its:List It}{u:t.den G}{y:fj G its}:mB G (.b i lv t::its) (mkI G (.b i lv t) its u y)=mB G its y:=by
  cases its<;>rfl
theorem ML {i lv:Nat}{t:Ty}{nn:Option Nat}{its:List It}{u:List (t.den G)}{y:fj G its}:mB G (.a i lv t nn::its) (mkI G (.a i lv t nn) its u y)=mB G its y:=by
  cases its<;>rfl
theorem MM {q lv:Nat}{s:Sh}{its:List It}{u:s.den G}{y:fj G its}{k:Nat}:en G (.v q lv s::its) (mkI G (.v q lv s) its u y) k=en G its y k:=by
  cases its<;>rfl
theorem MN {i lv:Nat}{t:Ty}{its:List It}{u:t.den G}{y:fj G its}{k:Nat}:en G (.b i lv t::its) (mkI G (.b i lv t) its u y) k=if Zw i k then some (lv,.dat t u) else en G its y k:=by
  cases its<;>rfl
theorem MO {i lv:Nat}{t:Ty}{nn:Option Nat}{its:List It}{u:List (t.den G)}{y:fj G its}{k:Nat}:en G (.a i lv t nn::its) (mkI G (.a i lv t nn) its u y) k=if Zw i k then some (lv,.arr t nn u) else en G its y k:=by
  cases its<;>rfl
theorem zA {nT:Nat} {z':Cz} (hE:kA G P m z st.env a) (hz:∀j v,j<nT->fb z.t j=some v->fb z'.t j=some v):∀{its:List It} {x:fj G its},ol Γ nT st its=some x->
    ∀e∈mB G its x,e.2.2.Rel G P m z' (a.tmps.getD e.1 undef)/\(e.2.1<st.c->∃lv,lv<=e.2.1/\(e.1,lv,e.2.2)∈st.env):=by
  intro its
  induction its with
  |nil=>intro x h e J;cases J
  | cons i its ih=>
    intro x h;cases i with
    | v q lv s=>
      simp only[ol] at h;split at h
      · rename_i a0 b y Z W
        split at h
        · rename_i a2
          split at h
          · rename_i u hu
            injection h with h
            subst h;intro e J;rw[MJ] at J;rcases Za.1 J with rfl|J
            · have hr:b.Rel G P m z (a.tmps.getD q undef):=hE _ (iH Z)
              split at hu
              · rename_i hc
                exact⟨Oe hu hr hz,λh=>absurd h (by show ¬ lv<st.c;omega)⟩
              · obtain⟨k1,k2⟩:=xn hu hr hz
                exact⟨k1,λa1=>⟨a0,a2.resolve_left (Xk.2 a1),by rw[k2];exact iH Z⟩⟩
            ·exact ih W e J
          ·cases h
        ·cases h
      ·cases h
    | b i lv t=>
      simp only[ol] at h;split at h
      · rename_i a0 t' u y Z W
        split at h
        · split at h
          · injection h with h
            subst h;intro e J;rw[MK] at J;exact ih W e J
          ·cases h
        ·cases h
      ·cases h
    | a i lv t nn=>
      simp only[ol] at h;split at h
      · rename_i a0 t' n' u y Z W
        split at h
        · split at h
          · injection h with h
            subst h;intro e J;have a3:e∈mB G its y:=by rw[←ML (i:=i) (lv:=lv) (t:=t) (nn:=nn)];exact J
            exact ih W e a3
          ·cases h
        ·cases h
      ·cases h
theorem zB {nT:Nat}:∀{its:List It} {x:fj G its},ol Γ nT st its=some x->∀k e,en G its x k=some e->∃lv,(e.1<st.c->lv<=e.1)/\fb st.L k=some (lv,e.2):=by
  intro its
  induction its with
  |nil=>intro x h k e J;cases J
  | cons i its ih=>
    intro x h;cases i with
    | v q lv s=>
      simp only[ol] at h;split at h
      · rename_i a2 b y hq Z
        split at h
        · split at h
          · injection h with h
            subst h;intro k e J;rw[MM] at J;exact ih Z k e J
          ·cases h
        ·cases h
      ·cases h
    | b i lv t=>
      simp only[ol] at h;split at h
      · rename_i a2 t' u y hq Z
        split at h
        · rename_i a0
          split at h
          · rename_i u' W
            obtain⟨e,W⟩:=b8 W;subst e;subst W;injection h with h
            subst h;intro k e J;rw[MN] at J;split at J
            · rename_i hb
              have:=Z4 hb;subst this;injection J with J;subst J
              exact⟨a2,λa3=>a0.resolve_left (Xk.2 a3),hq⟩
            ·exact ih Z k e J
          ·cases h
        ·cases h
      ·cases h
    | a i lv t nn=>
      simp only[ol] at h;split at h
      · rename_i a2 t' n' u y hq Z
        split at h
        · rename_i a0
          obtain⟨a0,rfl⟩:=a0;split at h
          · rename_i u' W
            obtain⟨e,W⟩:=b8 W;injection e with e
            subst e;subst W;injection h with h
            subst h;intro k e J;have a1:=(MO (G:=G) (i:=i) (lv:=lv) (t:=t')).symm.trans J;clear J;split at a1
            · rename_i hb
              have:=Z4 hb;subst this;injection a1 with a1;subst a1
              exact⟨a2,λa3=>a0.resolve_left (Xk.2 a3),hq⟩
            ·exact ih Z k e a1
          ·cases h
        ·cases h
      ·cases h
end
section
variable {G:Sg}{P:Program}{δ:List Nat}{n:Nat}{W0:Bse}{L0:Rs}{T0:List (Nat×Value)}{m m0:M}{z:Cz}{st:St G}{a:Act}{w:World}{Γ:Tab P G}{D:List (CS P G)}
theorem Fx.is_eq {f:Fx}{b:AV G}(h:f.is b=true):b=f.mk G:=by
  cases f<;>cases b<;>simp[Fx.is] at h<;>simp[Fx.mk,h]
theorem Ku {nb:Nat}:∀{Z:List (Nat×Nat×Fx)},G3 st nb Z=true->∀e∈Z,∃a0,lke st.env e.1=some (a0,.one (e.2.2.mk G))/\(e.2.1<st.c->a0<=e.2.1)/\(∀i,e.2.2= .blk i->i<nb)/\(∀i,e.2.2= .own i->i<nb):=by
  intro Z
  induction Z with
  |nil=>intro _ e W;cases W
  | cons x Z ih=>
    intro h e W;obtain⟨q,lv,f⟩:=x;simp only[G3,Z6] at h;rcases Za.1 W with rfl|W
    · obtain⟨J,_⟩:=h
      split at J
      · rename_i a0 b hq
        simp only[Z6] at J;obtain⟨⟨J,h2⟩,h3⟩:=J;have:=Fx.is_eq h2;subst this;refine⟨a0,hq,λa1=>?_,λi hi=>?_,λi hi=>?_⟩
        · rcases Bool.or_eq_true_iff.1 J with J|J
          ·exact absurd (Z3 J) (Xk.2 a1)
          ·exact Z3 J
        ·simp only at hi;subst hi;exact Z3 h3
        ·simp only at hi;subst hi;exact Z3 h3
      ·cases J
    ·exact ih h.2 e W
theorem Tm.ok {T:Tm}{x:fj G T.its}(b3:L0.nm.length<=T.nb)(h:T.fit Γ st=some x)(hs:Sat G P δ n W0 L0 T0 m0 st a w):Sat G P δ n W0 L0 T0 m0 (T.st G st.c x) a w/\Ext st.c st (T.st G st.c x):=by
  obtain⟨a9,b1,a6⟩:=zy (its:=T.its) hs;unfold Tm.fit at h;simp only at h;generalize oU G T.its st=st1 at*;split at h
  · rename_i hc
    simp only[Z6] at hc;obtain⟨⟨a0,a2⟩,hT⟩:=hc;have hT:=of_decide_eq_true hT;have a2:=Z3 a2;have a0:=Ku a0;obtain⟨⟨m,z,h0,hr,hM⟩,hdf,hsz⟩:=a9;have a4:=zB h
    obtain⟨z',b4,a5,b2⟩:=ga.cut (f:=λi=>match en G T.its x i with|some e=>e|none=>(st.c,.gone)) hM a2 (λi hi=>by
      cases hi:en G T.its x i with
      |none=>exact .inl rfl
      |some e=>obtain⟨lv,_,h2⟩:=a4 i e hi;exact .inr ⟨lv,h2⟩) hT b3
    have a1:=zA hr b2 h;refine⟨⟨⟨m,z',h0,λe J=>?_,b4⟩,hdf,hsz⟩,?_⟩
    · rcases Zh.1 J with J|J
      · obtain⟨f,hf,rfl⟩:=Xn.1 J
        obtain⟨a3,k1,k2,k3,k4⟩:=a0 f hf;have W:=hr _ (iH k1);show AV.Rel G P m z' (f.2.2.mk G) _;cases hff:f.2.2 with
        |blk i=>rw[hff] at W;obtain⟨p,q1,q2⟩:=W;exact⟨p,a5 i p (k3 i hff) q1,q2⟩
        |own i=>rw[hff] at W;obtain⟨p,q1,q2⟩:=W;exact⟨p,a5 i p (k4 i hff) q1,q2⟩
        |nils=>rw[hff] at W;exact W
        |und=>rw[hff] at W;exact W
      ·exact(a1 e J).1
    · rw[a6] at a1
      refine b1.trans ⟨λk hk e J hl=>?_,λk hk i s B hb b0=>?_⟩
      · rcases Zh.1 J with J|J
        · obtain⟨f,hf,rfl⟩:=Xn.1 J
          obtain⟨a3,k1,k2,_⟩:=a0 f hf;have hl:f.2.1<=k:=hl;exact⟨a3,Xi (k2 (by rw[a6];omega)) hl,iH k1⟩
        · obtain⟨lv,k1,k2⟩:=(a1 e J).2 (by omega)
          exact⟨lv,Xi k1 hl,k2⟩
      · obtain⟨_,Z⟩:=vI hb
        cases hi:en G T.its x i with
        | none=>
          rw[hi] at Z;injection Z with Z _;omega
        | some e=>
          rw[hi] at Z;simp only at Z;subst Z;obtain⟨lv,k1,k2⟩:=a4 i _ hi;exact⟨lv,Xi (k1 (by simp only;omega)) b0,k2⟩
  ·cases h
theorem qY {env:List (Nat×Nat×EV G)}{d:Nat}:∀{ks:List Nat} {e:Nat×Nat×EV G},e∈sy env d ks->e.1∈ks/\∃lv,lke env e.1=some (lv,e.2.2)/\e.2.1=min lv d:=by
  intro ks
  induction ks with
  |nil=>intro e h;cases h
  | cons q ks ih=>
    intro e h;simp only[sy] at h;split at h
    · rename_i lv ev Z
      rcases Za.1 h with rfl|h
      ·exact⟨by simp,lv,Z,rfl⟩
      ·obtain⟨J,W⟩:=ih h;exact⟨by simp[J],W⟩
    ·obtain⟨J,W⟩:=ih h;exact⟨by simp[J],W⟩
theorem Ek {d:Nat}:∀{its:List It} {x:fj G its},qo d its=true->∀e∈mB G its x,e.2.1=d+1:=by
  intro its
  induction its with
  |nil=>intro x _ e J;cases J
  | cons i its ih=>
    intro x h e J;cases i with
    | v q lv s=>
      simp only[qo,Z6] at h;rcases Za.1 J with rfl|J
      ·exact Z4 h.1
      ·exact ih h.2 e J
    | b i lv t=>
      simp only[qo,Z6] at h;exact ih h.2 e J
    | a i lv t nn=>
      simp only[qo,Z6] at h;exact ih h.2 e J
theorem Kv {d:Nat}:∀{its:List It} {x:fj G its},qo d its=true->∀k e,en G its x k=some e->e.1=d+1:=by
  intro its
  induction its with
  |nil=>intro x _ k e J;cases J
  | cons i its ih=>
    intro x h k e J;cases i with
    | v q lv s=>
      simp only[qo,Z6] at h;exact ih h.2 k e J
    | b i lv t=>
      simp only[qo,Z6] at h;simp only[en] at J;split at J
      ·injection J with J;subst J;exact Z4 h.1
      ·exact ih h.2 k e J
    | a i lv t nn=>
      simp only[qo,Z6] at h;simp only[en] at J;split at J
      ·injection J with J;subst J;exact Z4 h.1
      ·exact ih h.2 k e J
theorem Cs {k:Nat}:∀{its:List It} {x:fj G its},tQ k its=(en G its x k).isSome:=by
  intro its
  induction its with
  |nil=>intro x;rfl
  | cons i its ih=>
    intro x;cases i with
    |v q lv s=>exact ih
    | b i lv t=>
      simp only[tQ,en];cases Zw i k with
      |true=>rfl
      |false=>simpa using ih
    | a i lv t nn=>
      simp only[tQ,en];cases Zw i k with
      |true=>rfl
      |false=>simpa using ih
theorem AV.Rel.z2 {m1 m:M}{z1 z z':Cz}{b:AV G}{v1 v:Value}(h1:b.Rel G P m1 z1 v1)(h:b.Rel G P m z v)(hb:∀i p1 p,fb z1.b i=some p1->fb z.b i=some p->fb z'.b i=some p)(ht:∀j u1 u,fb z1.t j=some u1->fb z.t j=some u->fb z'.t j=some u):b.Rel G P m z' v:=by
  cases b with
  | dat t x o=>
    refine⟨h.1,?_⟩;cases o with
    |none=>trivial
    |some j=>exact ht j _ _ h1.2 h.2
  |loc i a b A=>obtain⟨p,Z,W⟩:=h;obtain⟨p1,J,_⟩:=h1;exact⟨p,hb _ _ _ J Z,W⟩
  |elp i j a b A=>obtain⟨p,Z,W⟩:=h;obtain⟨p1,J,_⟩:=h1;exact⟨p,hb _ _ _ J Z,W⟩
  |blk i=>obtain⟨p,Z,W⟩:=h;obtain⟨p1,J,_⟩:=h1;exact⟨p,hb _ _ _ J Z,W⟩
  |own i=>obtain⟨p,Z,W⟩:=h;obtain⟨p1,J,_⟩:=h1;exact⟨p,hb _ _ _ J Z,W⟩
  |_=>exact h
theorem EV.Rel.z2 {m1 m:M}{Z z z':Cz}{e:EV G}{v1 v:Value}(h1:e.Rel G P m1 Z v1)(h:e.Rel G P m z v)(hb:∀i p1 p,fb Z.b i=some p1->fb z.b i=some p->fb z'.b i=some p)(ht:∀j u1 u,fb Z.t j=some u1->fb z.t j=some u->fb z'.t j=some u):e.Rel G P m z' v:=by
  cases e with
  |one b=>exact AV.Rel.z2 h1 h hb ht
  | tup asv=>
    obtain⟨W,k0,k1⟩:=h1;obtain⟨vs,k2,J⟩:=h;refine⟨vs,k2,?_⟩;clear k2 k0
    induction asv generalizing vs W with
    |nil=>cases vs<;>exact J
    | cons b asv ih=>
      cases vs with
      |nil=>exact J
      | cons v vs=>
        cases W with
        |nil=>exact k1.elim
        |cons v1 W=>exact⟨AV.Rel.z2 k1.1 J.1 hb ht,ih W k1.2 vs J.2⟩
structure G4 (T:Lt)(st:St G):Prop where
  len:st.L.length=T.nb
  tls:st.T=T.T
  nd:uZ T.keep=true
  lv:qo st.c T.its=true
  keep:∀q∈T.keep,∃e,lke st.env q=some e
theorem Lt.fit_ok {T:Lt}{J:St G}{x:fj G T.its}(h:T.fit Γ st=some (J,x)):J=oU G T.its st/\G4 T J/\ol Γ T.T.length J T.its=some x:=by
  unfold Lt.fit at h;simp only at h;split at h
  · rename_i W
    split at h
    · rename_i y hy
      injection h with h
      injection h with h1 h2
      subst h1;subst h2;simp only[Z6] at W;obtain⟨⟨⟨⟨c1,Z⟩,c3⟩,c4⟩,c5⟩:=W;refine⟨rfl,⟨Z4 c1,of_decide_eq_true Z,c3,c4,λq hq=>?_⟩,hy⟩;exact Option.isSome_iff_exists.1 (X8.1 c5 q hq)
    ·cases h
  ·cases h
theorem Lt.entry {T:Lt}{h:St G}{x:fj G T.its}(hs:Sat G P δ n W0 L0 T0 m0 h a w)(J:G4 T h)(hf:ol Γ T.T.length h T.its=some x):Sat G P δ n W0 L0 T0 m0 (T.st G h x) a w:=by
  obtain⟨⟨m,z,h0,hr,hM⟩,hdf,hsz⟩:=hs;have Z:=hM.len;have a3:=zB hf
  obtain⟨z',a5,a4,a0⟩:=ga.cut (T':=T.T) (nb:=T.nb) (f:=λi=>match en G T.its x i with|some e=>e|none=>(match fb h.L i with|some e=>(min e.1 h.c,e.2)|none=>(0,.gone))) hM (by rw[J.len];exact Zm _) (λi hi=>by
      cases hi:en G T.its x i with
      | none=>
        cases hj:fb h.L i with
        |none=>exact .inl (by simp)
        |some e=>exact .inr ⟨e.1,by simp⟩
      |some e=>obtain⟨lv,_,h2⟩:=a3 i e hi;exact .inr ⟨lv,h2⟩) (by rw[J.tls];simp) (by obtain⟨_,_,_,_,_,a2⟩:=hM;have:=a2.len;rw[Z.1,J.len] at this;exact this)
  have hz:Zle z z':=⟨λi p hp=>a4 i p (by have:=yr hp;rw[Z.1,J.len] at this;exact this) hp,λj v hv=>a0 j v (by have:=yr hv;rw[Z.2,J.tls] at this;exact this) hv⟩
  have a1:=zA hr a0 hf;refine⟨⟨m,z',h0,λe W=>?_,a5⟩,hdf,hsz⟩;rcases Zh.1 W with W|W
  ·exact(a1 e W).1
  · obtain⟨_,lv,h1,_⟩:=qY W
    exact(hr _ (iH h1)).z hz
theorem Lt.ext {T:Lt}{W:St G}{s:fj G T.its}(Z:G4 T W):Ext W.c W (T.st G W s):=by
  refine⟨λk a0 e h hl=>?_,λk a0 i sl B hb a1=>?_⟩
  · rcases Zh.1 h with h|h
    ·have:=Ek Z.lv e h;omega
    · obtain⟨_,lv,h1,h2⟩:=qY h
      exact⟨lv,by omega,iH h1⟩
  · obtain⟨hi,J⟩:=vI hb
    cases hit:en G T.its s i with
    | some e=>
      rw[hit] at J;have:=Kv Z.lv i e hit;simp only at J;subst J;simp only at this;omega
    | none=>
      rw[hit] at J;obtain⟨e,h⟩:=zx (l:=W.L) (i:=i) (by rw[Z.len];exact hi);simp only[h] at J;injection J with h1 h2
      subst h2;exact⟨e.1,by omega,h⟩
theorem Ih {env:List (Nat×Nat×EV G)}{d q lv:Nat}{e:EV G}:∀{ks:List Nat},(q,lv,e)∈sy env d ks->∃J,lke env q=some (J,e):=by
  intro ks h;obtain⟨_,J,W,_⟩:=qY h;exact⟨J,W⟩
theorem Lt.back_ok {T:Lt} {h st':St G} {s s':fj G T.its} {a0:Act} {w0:World} (hk:G4 T h) (h0:Sat G P δ n W0 L0 T0 m0 (T.st G h s) a0 w0) (b0:Sat G P δ n W0 L0 T0 m0 st' a w) (a4:Ext (h.c+1) (T.st G h s) st') (hc:st'.c=h.c+1)
    (hb:T.back Γ h.c st'=some s'):Sat G P δ n W0 L0 T0 m0 (T.st G h s') a w:=by
  obtain⟨hs,a1,e6⟩:=zy (its:=T.its) b0;unfold Lt.back at hb;simp only at hb;rw[hc] at a1;have hx:=a4.trans a1;clear a1 a4 b0;generalize oU G T.its st'=st' at*;obtain⟨⟨m1,z1,_,d1,a6⟩,_,_⟩:=h0;have a2:=a6.len;have a5:(T.st G h s).L.length=T.nb:=vH;obtain⟨⟨m,z,c6,hr,hM⟩,hdf,hsz⟩:=hs;split at hb
  · rename_i a3
    unfold Ig at a3;simp only[Z6] at a3;obtain⟨⟨⟨c1,c2⟩,c3⟩,c4⟩:=a3;have b7:=zB hb
    have d2:∀i,i<T.nb->en G T.its s' i=none->∃sl e,fb h.L i=some e/\fb st'.L i=some (sl,e.2):=by
      intro i hi hn;have J:=X8.1 c4 i (by simpa using hi);have a9:tQ i T.its=false:=by rw[Cs (G:=G) (x:=s'),hn];rfl
      rw[a9,Bool.false_or] at J;split at J
      · rename_i lv B hB
        have c5:=Z3 J;obtain⟨sl,_,h6⟩:=hx.blk h.c (Nat.lt_succ_self _) i lv B hB c5;obtain⟨_,hy⟩:=vI h6
        have c0:en G T.its s i=none:=by
          have:=Cs (G:=G) (x:=s) (k:=i);rw[a9] at this;cases hq:en G T.its s i with
          |none=>rfl
          |some e=>rw[hq] at this;cases this
        rw[c0] at hy;obtain⟨e,W⟩:=zx (l:=h.L) (i:=i) (by rw[hk.len];exact hi);simp only[W] at hy;injection hy with _ hy
        subst hy;exact⟨lv,e,W,hB⟩
      ·cases J
    obtain⟨z',e1,e0,b2⟩:=ga.cut (T':=T.T) (nb:=T.nb) (f:=λi=>match en G T.its s' i with|some e=>e|none=>(match fb h.L i with|some e=>(min e.1 h.c,e.2)|none=>(0,.gone))) hM (Z3 c2) (λi hi=>by
        cases hii:en G T.its s' i with
        | none=>
          obtain⟨sl,e,h1,Z⟩:=d2 i hi hii;exact .inr ⟨sl,by simp[h1,Z]⟩
        |some e=>obtain⟨lv,_,Z⟩:=b7 i e hii;exact .inr ⟨lv,Z⟩) (of_decide_eq_true c3) (by obtain⟨_,_,_,_,_,b5⟩:=a6;have:=b5.len;rw[a2.1,a5] at this;exact this)
    have b4:=zA hr b2 hb;refine⟨⟨m,z',c6,λe W=>?_,e1⟩,hdf,hsz⟩;rcases Zh.1 W with W|W
    ·exact(b4 e W).1
    · obtain⟨hq,lv,h1,_⟩:=qY W
      have Z:=X8.1 c1 e.1 hq;split at Z
      · rename_i c7 b1 b3
        obtain⟨e5,h3,J⟩:=hx.env h.c (Nat.lt_succ_self _) (e.1,c7,b1) (iH b3) (Z3 Z)
        have d0:b1=e.2.2:=by
          rcases Zh.1 J with J|J
          · have:=Ek hk.lv _ J
            simp only at this;omega
          · obtain⟨e4,h5⟩:=Ih J
            rw[h1] at h5;injection h5 with h5;injection h5 with _ h5
            exact h5.symm
        subst d0;have r1:=d1 e (Zh.2 (.inr W));have r2:=hr _ (iH b3);refine EV.Rel.z2 r1 r2 (λi p1 p e3 hp=>e0 i p ?_ hp) (λj u1 u b6 hu=>b2 j u ?_ hu)
        ·have:=yr e3;rw[a2.1,a5] at this;exact this
        ·have:=yr b6;rw[a2.2] at this;exact this
      ·cases Z
  ·cases hb
end
section
variable {G:Sg}{P:Program}{δ:List Nat}{n:Nat}{W0:Bse}{L0:Rs}{T0:List (Nat×Value)}{m0:M}{Γ:Tab P G}{D:List (CS P G)}{ro:Option Nat}
theorem Fz {ρ:Type}{id:Nat}{ops:Array Oper}{dr:Bool}{st:St G}{K':St G->Option ρ}{r:ρ}{a:Act}{w:World}{NP RP:Act->World->Prop}{XP:List (Nat×(Act->World->Prop))}(a0:P.follows .mixedOrders=true)(h:zr n Γ D ops.toList dr st K'=some r)(Z:Sat G P δ n W0 L0 T0 m0 st a w)
  (W:Nxt G P δ n W0 L0 T0 m0 K' r st NP):K ro P (.region id ops dr) NP XP RP a w:=by
 obtain⟨os⟩:=ops;cases dr with
 |false=>exact ak (zq h Z λst' a' w' h1 h2 h3 h4=>ae (W st' a' w' h1 h2 h3 h4))
 | true=>
  unfold zr at h;simp only at h;split at h
  ·rename_i k hk
   split at h
   ·rename_i J
    simp only[Z6] at J;split at h
    ·rename_i a1
     exact Kt a1 a0 Z (Ec J.1 J.2) (SP hk) h W
    ·cases h
   ·cases h
  split at h
  ·rename_i J
   simp only[Z6] at J;split at h
   ·rename_i a1
    exact ME a1 a0 Z (Ec J.1.1 J.2) J.1.2 h W
   ·split at h
    ·rename_i hg
     exact Kq a0 Z (Ec J.1.1 J.2) J.1.2 hg h W
    ·cases h
  ·cases h
theorem F7 {σ ρ:Type}{x:Option ρ}{r:σ⊕ρ}(h:x.map Sum.inr=some r):∃o,x=some o/\r= .inr o:=by
 cases x with
 |none=>cases h
 |some o=>injection h with h;exact⟨o,rfl,h.symm⟩
theorem Em {np:Nat}(c1:L0.nm.length<=np)(b3:P.follows .mixedOrders=true):∀(c:Code) {ρ:Type} (A:An G ρ) (st:St G) (N:St G->Option ρ) (X:Nat->St G->Option ρ) (R:St G->Option ρ) (r:ρ) (a:Act) (w:World) (NP W:Act->World->Prop) (XP:List (Nat×(Act->World->Prop))),
  ex n Γ D c A st N X R=some r->Obl np n Γ D c A st.c N X R->Sat G P δ n W0 L0 T0 m0 st a w->Nxt G P δ n W0 L0 T0 m0 N r st NP->
  (∀j,Nxt G P δ n W0 L0 T0 m0 (X j) r st (λa w=>∃e,XP.find? (λe=>Zw e.1 j)=some e/\e.2 a w))->Nxt G P δ n W0 L0 T0 m0 R r st W->K ro P c NP XP W a w:=by
 intro c
 induction c with
 |skip=>intro ρ A st N X R r a w NP W XP h _ Z hN _ _;exact aV (hN st a w h Z (Ext.refl _ _) rfl)
 |label l=>intro ρ A st N X R r a w NP W XP h _ Z hN _ _;exact HH (hN st a w h Z (Ext.refl _ _) rfl)
 |region id ops dr=>intro ρ A st N X R r a w NP W XP h _ Z hN _ _;exact Fz b3 h Z hN
 |exit id=>
  intro ρ A st N X R r a w NP W XP h _ Z _ hX _;obtain⟨e,h1,h2⟩:=hX id st a w h Z (Ext.refl _ _) rfl;exact d4 h1 rfl h2
 |ret=>intro ρ A st N X R r a w NP W XP h _ Z _ _ hR;exact bD (hR st a w h Z (Ext.refl _ _) rfl)
 | seq x y ihx ihy=>
  intro ρ A st N X R r a w NP W XP h hO Z hN hX hR
  have a0:∀{Ax Ay:An G ρ},ex n Γ D x Ax st (λst'=>ex n Γ D y Ay st' N X R) X R=some r->Obl np n Γ D x Ax st.c (λst'=>ex n Γ D y Ay st' N X R) X R->Obl np n Γ D y Ay st.c N X R->K ro P (.seq x y) NP XP W a w:=by
   intro Ax Ay h a5 a4;refine ab (ihx Ax st _ X R r a w _ W XP h a5 Z (λst' a' w' h1 h2 h3 h4=>?_) hX hR);exact ihy Ay st' N X R r a' w' NP W XP h1 (by rw[h4];exact a4) h2 (hN.later h3 h4) (λj=>(hX j).later h3 h4) (hR.later h3 h4)
  cases A with
  |s l r'=>exact a0 h hO.1 hO.2
  | c l T J r'=>
   obtain⟨o1,o0,o2,o3⟩:=hO;refine ab (ihx l st _ X R r a w _ W XP h o1 Z (λst' a' w' h1 h2 h3 h4=>?_) hX hR);split at h1
   ·rename_i v hv
    obtain⟨k1,k2⟩:=Tm.ok (Xi c1 (Z3 o0)) hv h2;rw[h4] at k1 k2;have hx:=h3.trans k2;refine ihy r' (T.st G st.c v) N X R r a' w' NP W XP (by rw[o2 v];exact h1) o3 k1 (hN.later hx rfl) (λj=>(hX j).later hx rfl) (hR.later hx rfl)
   ·cases h1
  |_=>exact a0 h (Obl.o ..) (Obl.o ..)
 | cond cnd x y ihx ihy=>
  intro ρ A st N X R r a w NP W XP h hO Z hN hX hR;unfold ex at h;split at h
  ·rename_i v hv
   split at h
   ·rename_i b hb
    obtain⟨⟨m,z,h0,hr,hM⟩,hdf,hsz⟩:=Z;have Z:Sat G P δ n W0 L0 T0 m0 st a w:=⟨⟨m,z,h0,hr,hM⟩,hdf,hsz⟩
    have b6:=AV.b_rel hb (bm (fi hr) hv)
    have a0:∀{Ax Ay:An G ρ},(if b=true then ex n Γ D x Ax st N X R else ex n Γ D y Ay st N X R)=some r->Obl np n Γ D x Ax st.c N X R->Obl np n Γ D y Ay st.c N X R->K ro P (.cond cnd x y) NP XP W a w:=by
     intro Ax Ay h a5 a4;refine wpIn_cond_split b6 (λhb=>?_) (λhb=>?_)
     ·rw[if_pos hb] at h
      exact ihx Ax st N X R r a w NP W XP h a5 Z hN hX hR
     ·rw[if_neg (by rw[hb];decide)] at h
      exact ihy Ay st N X R r a w NP W XP h a4 Z hN hX hR
    cases A with
    |i l r'=>exact a0 h hO.1 hO.2
    |_=>exact a0 h (Obl.o ..) (Obl.o ..)
   ·cases h
  ·cases h
 | block id c ih=>
  intro ρ A st N X R r a w NP W XP h hO Z hN hX hR
  have a0:∀{Ac:An G ρ},ex n Γ D c Ac st N (λj st'=>match Zw j id with|true=>N st'|false=>X j st') R=some r->Obl np n Γ D c Ac st.c N (λj st'=>match Zw j id with|true=>N st'|false=>X j st') R->K ro P (.block id c) NP XP W a w:=by
   intro Ac h b7;refine bd (ih Ac st N _ R r a w NP W _ h b7 Z hN (λj st' a' w' h1 h2 h3 h4=>?_) hR);split at h1
   ·rename_i hj
    have:=Z4 hj;subst this;exact⟨(j,NP),by simp[List.find?],hN st' a' w' h1 h2 h3 h4⟩
   ·rename_i hj
    obtain⟨e,q1,q2⟩:=hX j st' a' w' h1 h2 h3 h4
    have b5:Zw id j=false:=by
     cases hb:Zw id j with
     |false=>rfl
     |true=>
      have:=Z4 hb;subst this;simp at hj
    exact⟨e,by simp only[List.find?,b5];exact q1,q2⟩
  cases A with
  |b x=>exact a0 h hO
  |_=>exact a0 h (Obl.o ..)
 |scope c ih=>
  intro ρ A st N X R r a w NP W XP h hO Z hN hX hR;cases A with
  |b x=>exact DA (ih x st N X R r a w NP W XP h hO Z hN hX hR)
  |_=>exact DA (ih .o st N X R r a w NP W XP h (Obl.o ..) Z hN hX hR)
 | loop c ih=>
  intro ρ A st N X R r a w NP W XP h hO Z hN hX hR;cases A with
  | l T b=>
   unfold ex at h;simp only at h;split at h
   ·rename_i a1 x0 c0
    obtain⟨e1,hk,hf⟩:=Lt.fit_ok c0;obtain⟨a6,b0,a2⟩:=zy (its:=T.its) Z;rw[←e1] at a6 b0 a2;refine eG h (λs a w=>Sat G P δ n W0 L0 T0 m0 (T.st G a1 s) a w) (Lt.entry a6 hk hf) ?_;intro s a w hI r' b4 a9;have a3:(T.st G a1 s).c=st.c+1:=by show a1.c+1=_;rw[a2]
    have b2:∀{st':St G},Ext (T.st G a1 s).c (T.st G a1 s) st'->Ext st.c st (low st.c st'):=by
     intro st' hx;rw[a3] at hx;have h2:=Lt.ext (s:=s) hk;rw[a2] at h2;have h3:=b0.trans (h2.trans (hx.le (Nat.le_succ _)));exact⟨h3.env,h3.blk⟩
    have b1:∀{st':St G} {a':Act} {w':World},Sat G P δ n W0 L0 T0 m0 st' a' w'->Sat G P δ n W0 L0 T0 m0 (low st.c st') a' w':=λZ=>⟨Z.ex,Z.df,Z.sz⟩
    refine ih b (T.st G a1 s) _ _ _ r' a w _ W XP b4 (by rw[a3];exact hO) hI (λst' a' w' h1 h2 h3 h4=>?_) (λj st' a' w' h1 h2 h3 h4=>?_) (λst' a' w' h1 h2 h3 h4=>?_)
    ·split at h1
     ·rename_i s' hb
      injection h1 with h1
      rw[←a2] at hb;refine⟨s',h1.symm,Lt.back_ok hk hI h2 ?_ ?_ hb⟩
      ·rw[a3,←a2] at h3;exact h3
      ·rw[h4,a3,a2]
     ·cases h1
    ·obtain⟨o,q1,q2⟩:=F7 h1
     have:=a9 o q2;subst this;exact hX j _ a' w' q1 (b1 h2) (b2 h3) rfl
    ·obtain⟨o,q1,q2⟩:=F7 h1
     have:=a9 o q2;subst this;exact hR _ a' w' q1 (b1 h2) (b2 h3) rfl
   ·cases h
  |_=>simp[ex] at h
 |rangeFunc f ps asg c _ _=>intro ρ A st N X R r a w NP W XP h;simp[ex] at h
 |goto l=>intro ρ A st N X R r a w NP W XP h;simp[ex] at h
 |refuse s=>intro ρ A st N X R r a w NP W XP h;simp[ex] at h
end
section
variable {G:Sg}{P:Program}
def uu (G:Sg):(ps:List Pm)->d6 G ps->Nat->List (Nat×Nat×EV G)×List (Nat×BC G)×List Nat
 |[],_,_=>([],[],[])
 | .rd t::ps,x,i=>match uu G ps x.2 (i+1) with|(e,L,T)=>((i,0,.one (.dat t x.1 none))::e,L,T)
 | .ap t::ps,x,i=>match uu G ps x.2 (i+1) with|(e,L,T)=>((i,0,.one (.dat (.sl t) x.1 (some T.length)))::e,L,(t.kd G).sz::T)
 | .pt t::ps,x,i=>match uu G ps x.2 (i+1) with|(e,L,T)=>((i,0,.one (.blk L.length))::e,(0,.dat t x.1)::L,T)
 | .ow t::ps,x,i=>match uu G ps x.2 (i+1) with|(e,L,T)=>((i,0,.one (.own L.length))::e,(0,.arr t none x.1)::L,T)
 | .f1 a b::ps,x,i=>match uu G ps x.2 (i+1) with|(e,L,T)=>((i,0,.one (.fn1 a b x.1))::e,L,T)
 | .f2 a c b::ps,x,i=>match uu G ps x.2 (i+1) with|(e,L,T)=>((i,0,.one (.fn2 a c b x.1))::e,L,T)
def Bv (G:Sg)(ps:List Pm)(x:d6 G ps):St G:=match uu G ps x 0 with|(e,L,T)=>⟨e,0,L,T⟩
def nmA:List Pm->List Value->List (Nat×List Value)->List (Nat×Value)
 | .pt _::ps,v::vs,e::Lp=>(e.1,v)::nmA ps vs Lp
 | .ow _::ps,v::vs,e::Lp=>(e.1,v)::nmA ps vs Lp
 | .rd _::ps,_::vs,Lp=>nmA ps vs Lp
 | .ap _::ps,_::vs,Lp=>nmA ps vs Lp
 | .f1 _ _::ps,_::vs,Lp=>nmA ps vs Lp
 | .f2 _ _ _::ps,_::vs,Lp=>nmA ps vs Lp
 |_,_,_=>[]
def Rm.pm:Rm->Pm
 | .rd t=> .rd t
 | .ap t=> .ap t
 | .ow t=> .ow t
def lw (G:Sg)(os:List Ty):(rs:List Rm)->d6 G (rs.map Rm.pm)->bC G os->bC G (rs.map Rm.ty++os)
 |[],_,o=>o
 | .rd t::rs,y,o=>mkT G t (rs.map Rm.ty++os) y.1 (lw G os rs y.2 o)
 | .ap t::rs,y,o=>mkT G (.sl t) (rs.map Rm.ty++os) y.1 (lw G os rs y.2 o)
 | .ow t::rs,y,o=>mkT G (.sl t) (rs.map Rm.ty++os) y.1 (lw G os rs y.2 o)
def BC.dt?:BC G->Option ((t:Ty)×t.den G)
 | .dat t x=>some ⟨t,x⟩
 |_=>none
def BC.ar?:BC G->Option ((t:Ty)×List (t.den G)×Option Nat)
 | .arr t n x=>some ⟨t,x,n⟩
 |_=>none
theorem BC.dt_eq {B:BC G}{q:(t:Ty)×t.den G}(h:B.dt?=some q):B= .dat q.1 q.2:=by
 cases B<;>simp[BC.dt?] at h;subst h;rfl
theorem BC.ar_eq {B:BC G}{q:(t:Ty)×List (t.den G)×Option Nat}(h:B.ar?=some q):B= .arr q.1 q.2.2 q.2.1:=by
 cases B<;>simp[BC.ar?] at h;subst h;rfl
def rG (G:Sg):(ps:List Pm)->List (Nat×BC G)->Option (bC G (ps.filterMap Pm.out))
 |[],_=>some ()
 | p::ps,Bs=>match p with
  | .pt t=>(match Bs with
   |B::Bs=>(match B.2.dt? with
    |some q=>(match dF G q.1 t q.2,rG G ps Bs with|some x,some y=>some (mkT G t (ps.filterMap Pm.out) x y)|_,_=>none)
    |none=>none)
   |[]=>none)
  | .ow t=>(match Bs with
   |B::Bs=>(match B.2.ar? with
    |some q=>(match dF G (.sl q.1) (.sl t) q.2.1,rG G ps Bs with|some x,some y=>some (mkT G (.sl t) (ps.filterMap Pm.out) x y)|_,_=>none)
    |none=>none)
   |[]=>none)
  | .rd _=>rG G ps Bs
  | .ap _=>rG G ps Bs
  | .f1 _ _=>rG G ps Bs
  | .f2 _ _ _=>rG G ps Bs
def cnt (ps:List Pm):Nat:=(ps.filterMap Pm.out).length
def xp (Γ:Tab P G)(ps:List Pm)(rs:List Rm)(res:List Nat)(st:St G):Option (bC G (gT ps rs)):=
 match iI Γ (rs.map Rm.pm) (res.map Operand.tmp) (vE (rs.map Rm.pm) (res.map Operand.tmp) st) with
 |some (y,st2,_)=>(match Xl (cnt ps) st2.L.length,rG G ps (st2.L.drop (st2.L.length - cnt ps)) with
  |true,some o=>some (lw G (ps.filterMap Pm.out) rs y o)
  |_,_=>none)
 |none=>none
noncomputable def exF (n:Nat) (Γ:Tab P G) (D:List (CS P G)) (c:Code) (ps:List Pm) (rs:List Rm) (res:List Nat) (A:An G (bC G (gT ps rs))) (x:d6 G ps):Option (bC G (gT ps rs)):=
 ex n Γ D c A (Bv G ps x) (xp Γ ps rs res) (λ_ _=>none) (xp Γ ps rs res)
end
section
variable {G:Sg}{P:Program}{W0:Bse}{m:M}{z:Cz}{a:Act}{w:World}{Γ:Tab P G}
theorem Am:∀{ps:List Pm} {vs:List Value} {x:d6 G ps} {Lp:List (Nat×List Value)} {Tp:List (Nat×Value)} {i:Nat},lu G P m ps vs x Lp Tp->(∀j v,vs[j]? =some v->a.tmps.getD (i+j) undef=v)->
  ∃J,kA G P m ⟨nmA ps vs Lp,J⟩ (uu G ps x i).1 a/\LR G m (uu G ps x i).2.1 (nmA ps vs Lp) Lp/\TRl (uu G ps x i).2.2 J Tp/\vs.length=ps.length/\(nmA ps vs Lp).length=cnt ps:=by
 intro ps
 induction ps with
 |nil=>
  intro vs x Lp Tp i h _;cases vs<;>cases Lp<;>cases Tp<;>first|exact h.elim|exact⟨[],λe W=>(by cases W),trivial,trivial,rfl,rfl⟩
 | cons p ps ih=>
  intro vs x Lp Tp i h ha;cases vs with
  |nil=>cases p<;>exact h.elim
  | cons v vs=>
   have hv:=ha 0 v rfl
   have a0:∀j u,vs[j]? =some u->a.tmps.getD (i+1+j) undef=u:=λj u hu=>by
    have:=ha (j+1) u (by simpa using hu);rw[show i+1+j=i+(j+1) by omega];exact this
   cases p with
   | rd t=>
    obtain⟨h1,h2⟩:=h;obtain⟨J,k1,k2,Z,k4,k5⟩:=ih h2 a0;refine⟨J,λe W=>?_,k2,Z,by simp[k4],k5⟩;rcases Za.1 W with rfl|W
    ·rw[Zu] at hv
     show RV _ m (a.tmps.getD i undef) _/\True;rw[hv];exact⟨h1,trivial⟩
    ·exact k1 e W
   | ap t=>
    cases Tp with
    |nil=>exact h.elim
    | cons e Tp=>
     obtain⟨h1,rfl,h2⟩:=h;obtain⟨J,k1,k2,Z,k4,k5⟩:=ih h2 a0;refine⟨v::J,λe W=>?_,k2,⟨rfl,Z⟩,by simp[k4],k5⟩;rcases Za.1 W with rfl|W
     ·rw[Zu] at hv
      show RV _ m (a.tmps.getD i undef) _/\Tag _ _ _;rw[hv];refine⟨h1,?_⟩;show fb (v::J) _=some v;rw[←Z.len.1];exact jZ
     ·exact(k1 e W).z (Zle.pushT _ v)
   | pt t=>
    cases Lp with
    |nil=>exact h.elim
    | cons e Lp=>
     obtain⟨h1,h3,h2⟩:=h;obtain⟨J,k1,k2,Z,k4,k5⟩:=ih h2 a0;refine⟨J,λq hq=>?_,⟨rfl,h1,k2⟩,Z,by simp[k4],by simp[nmA,k5,cnt,Pm.out]⟩;rcases Za.1 hq with rfl|hq
     ·rw[Zu] at hv
      refine⟨(e.1,v),?_,by rw[hv];exact h3⟩;show fb ((e.1,v)::nmA ps vs Lp) _=_;rw[←k2.len.1];exact jZ
     ·exact(k1 q hq).z (Zle.pushB ⟨nmA ps vs Lp,J⟩ (e.1,v))
   | ow t=>
    cases Lp with
    |nil=>exact h.elim
    | cons e Lp=>
     obtain⟨h1,h2⟩:=h;obtain⟨J,k1,k2,Z,k4,k5⟩:=ih h2 a0;refine⟨J,λq hq=>?_,⟨rfl,⟨h1,trivial⟩,k2⟩,Z,by simp[k4],by simp[nmA,k5,cnt,Pm.out]⟩;rcases Za.1 hq with rfl|hq
     ·rw[Zu] at hv
      refine⟨(e.1,v),?_,by rw[hv]⟩;show fb ((e.1,v)::nmA ps vs Lp) _=_;rw[←k2.len.1];exact jZ
     ·exact(k1 q hq).z (Zle.pushB ⟨nmA ps vs Lp,J⟩ (e.1,v))
   | f1 b c=>
    obtain⟨h1,h2⟩:=h;obtain⟨J,k1,k2,Z,k4,k5⟩:=ih h2 a0;refine⟨J,λe W=>?_,k2,Z,by simp[k4],k5⟩;rcases Za.1 W with rfl|W
    ·rw[Zu] at hv
     show Fn1 P _ _ m (a.tmps.getD i undef) _;rw[hv];exact h1
    ·exact k1 e W
   | f2 b c d=>
    obtain⟨h1,h2⟩:=h;obtain⟨J,k1,k2,Z,k4,k5⟩:=ih h2 a0;refine⟨J,λe W=>?_,k2,Z,by simp[k4],k5⟩;rcases Za.1 W with rfl|W
    ·rw[Zu] at hv
     show Fn2 P _ _ _ m (a.tmps.getD i undef) _;rw[hv];exact h1
    ·exact k1 e W
theorem F8 {os:List Ty}{o:bC G os}:∀{rs:List Rm} {us:List Value} {y:d6 G (rs.map Rm.pm)} {Lr:List (Nat×List Value)} {Tr:List (Nat×Value)},lu G P m (rs.map Rm.pm) us y Lr Tr->oa G m os rs us (lw G os rs y o) Lr Tr/\rest G os rs (lw G os rs y o)=o:=by
 intro rs
 induction rs with
 |nil=>
  intro us y Lr Tr h;cases us<;>cases Lr<;>cases Tr<;>first|exact h.elim|exact⟨trivial,rfl⟩
 | cons r rs ih=>
  intro us y Lr Tr h;cases us with
  |nil=>cases r<;>exact h.elim
  | cons u us=>
   cases r with
   |rd t=>
    obtain⟨W,Z⟩:=h;obtain⟨k1,k2⟩:=ih Z;have J:hdT G t (rs.map Rm.ty++os) (lw G os (.rd t::rs) y o)=y.1:=Af;have e2:tlT G t (rs.map Rm.ty++os) (lw G os (.rd t::rs) y o)=lw G os rs y.2 o:=Ag;exact⟨⟨J.symm ▸ W,e2.symm ▸ k1⟩,(congrArg (rest G os rs) e2).trans k2⟩
   | ap t=>
    cases Tr with
    |nil=>exact h.elim
    |cons e Tr=>
     obtain⟨W,h3,Z⟩:=h;obtain⟨k1,k2⟩:=ih Z;have J:hdT G (.sl t) (rs.map Rm.ty++os) (lw G os (.ap t::rs) y o)=y.1:=Af;have e2:tlT G (.sl t) (rs.map Rm.ty++os) (lw G os (.ap t::rs) y o)=lw G os rs y.2 o:=Ag;exact⟨⟨J.symm ▸ W,h3,e2.symm ▸ k1⟩,(congrArg (rest G os rs) e2).trans k2⟩
   | ow t=>
    cases Lr with
    |nil=>exact h.elim
    |cons e Lr=>
     obtain⟨W,Z⟩:=h;obtain⟨k1,k2⟩:=ih Z;have J:hdT G (.sl t) (rs.map Rm.ty++os) (lw G os (.ow t::rs) y o)=y.1:=Af;have e2:tlT G (.sl t) (rs.map Rm.ty++os) (lw G os (.ow t::rs) y o)=lw G os rs y.2 o:=Ag;exact⟨⟨J.symm ▸ W,e2.symm ▸ k1⟩,(congrArg (rest G os rs) e2).trans k2⟩
theorem F9:∀{ps:List Pm} {vs:List Value} {W:List (Nat×BC G)} {Lp Lp':List (Nat×List Value)} {x:d6 G ps} {o:bC G (ps.filterMap Pm.out)} {Tp:List (Nat×Value)} {m0:M},lu G P m0 ps vs x Lp Tp->rG G ps W=some o->W.length=cnt ps->LR G m W (nmA ps vs Lp) Lp'->iO G m ps vs o Lp Lp':=by
 intro ps
 induction ps with
 |nil=>
  intro vs W Lp Lp' x o Tp m0 h J Z hL;have:W=[]:=Zz Z;subst this;cases vs<;>cases Lp<;>cases Tp<;>cases Lp'<;>first|exact h.elim|exact hL.elim|trivial
 | cons p ps ih=>
  intro vs W Lp Lp' x o Tp m0 h J Z hL;cases vs with
  |nil=>cases p<;>exact h.elim
  | cons v vs=>
   cases p with
   | pt t =>
    cases Lp with
    |nil=>exact h.elim
    | cons e Lp=>
     obtain⟨_,_,h2⟩:=h;cases W with
     |nil=>simp[cnt,Pm.out] at Z
     | cons B W=>
      cases Lp' with
      |nil=>exact hL.elim
      | cons e' Lp'=>
       obtain⟨q1,q2,q3⟩:=hL;unfold rG at J;dsimp only at J;cases hq:B.2.dt? with
       |none=>simp[hq] at J
       | some q=>
        simp only[hq] at J;rw[BC.dt_eq hq] at q2;obtain⟨t',y⟩:=q;cases hc:dF G t' t y with
        |none=>simp[hc] at J
        | some y'=>
         cases ho':rG G ps W with
         |none=>simp[hc,ho'] at J
         |some o'=>
          simp only[hc,ho'] at J;obtain⟨ee,hy⟩:=b8 hc;subst ee;subst hy;have J:=Option.some.inj J;subst J;have e1:hdT G t' (ps.filterMap Pm.out) (mkT G t' (ps.filterMap Pm.out) y o')=y:=Af;have e2:tlT G t' (ps.filterMap Pm.out) (mkT G t' (ps.filterMap Pm.out) y o')=o':=Ag;exact⟨q1,e1.symm ▸ q2,e2.symm ▸ ih h2 ho' (by simpa[cnt,Pm.out] using Z) q3⟩
   | ow t =>
    cases Lp with
    |nil=>exact h.elim
    | cons e Lp=>
     obtain⟨_,h2⟩:=h;cases W with
     |nil=>simp[cnt,Pm.out] at Z
     | cons B W=>
      cases Lp' with
      |nil=>exact hL.elim
      | cons e' Lp'=>
       obtain⟨q1,q2,q3⟩:=hL;unfold rG at J;dsimp only at J;cases hq:B.2.ar? with
       |none=>simp[hq] at J
       | some q=>
        simp only[hq] at J;rw[BC.ar_eq hq] at q2;obtain⟨t',y,nn⟩:=q;cases hc:dF G (.sl t') (.sl t) y with
        |none=>simp[hc] at J
        | some y'=>
         cases ho':rG G ps W with
         |none=>simp[hc,ho'] at J
         |some o'=>
          simp only[hc,ho'] at J;obtain⟨ee,hy⟩:=b8 hc;injection ee with ee
          subst ee;subst hy;have J:=Option.some.inj J;subst J;have e1:hdT G (.sl t') (ps.filterMap Pm.out) (mkT G (.sl t') (ps.filterMap Pm.out) y o')=y:=Af;have e2:tlT G (.sl t') (ps.filterMap Pm.out) (mkT G (.sl t') (ps.filterMap Pm.out) y o')=o':=Ag;refine⟨q1,e1.symm ▸ ?_,e2.symm ▸ ih h2 ho' (by simpa[cnt,Pm.out] using Z) q3⟩;rw[q1];exact q2.1
   |rd t=>exact ih h.2 J Z hL
   |ap t=>
    cases Tp with
    |nil=>exact h.elim
    |cons e Tp=>exact ih h.2.2 J Z hL
   |f1 b c=>exact ih h.2 J Z hL
   |f2 b c d=>exact ih h.2 J Z hL
theorem S.between {A B C:List (Nat×List Value)}{TL:List (Nat×Value)}(h:S W0 m w (A++(B++C)) TL)(k:Nat)(Z:k<=B.length):S W0 m w (A++(B.drop k++C)) TL:=by
 refine h.selL _ (λi=>if i<A.length then i else i+k) (λi e J=>?_) (λi j W=>?_)
 ·by_cases hi:i<A.length
  ·rw[if_pos hi]
   rw[Zf hi] at J ⊢;exact J
  ·rw[if_neg hi]
   rw[Zt (by omega)] at J ⊢;rw[show B.drop k++C=(B++C).drop k from(Zk Z).symm,List.getElem?_drop] at J;rw[show i+k - A.length=k+(i - A.length) by omega];exact J
 ·split at W<;>split at W<;>omega
theorem S.betweenT {A B C:List (Nat×Value)}{L:List (Nat×List Value)}(h:S W0 m w L (A++(B++C))):S W0 m w L (A++C):=by
 refine h.selT _ (λi=>if i<A.length then i else i+B.length) (λi e J=>?_) (λi j W=>?_)
 ·by_cases hi:i<A.length
  ·rw[if_pos hi]
   rw[Zf hi] at J ⊢;exact J
  ·rw[if_neg hi]
   rw[Zt (by omega)] at J ⊢;rw[Zt (by omega),show i+B.length - A.length - B.length=i - A.length by omega];exact J
 ·split at W<;>split at W<;>omega
theorem Ct {l:List (Nat×Value)}{n:Nat}(J:Env n a l):∀{res:List Nat},(∀t∈res,lk l t=some (a.tmps.getD t undef))->sD P a w (res.map ResultVar.tmp) (res.map λt=>a.tmps.getD t undef)
 |[],_=> .nil
 |t::res,h=> .tmp J (h t (by simp)) (Ct J λu W=>h u (by simp[W]))
theorem Ii {n:Nat}{fn:Func}{ps:List Pm}{rs:List Rm}{res:List Nat}{st:St G}{L:List (Nat×List Value)}{TL:List (Nat×Value)}{vs:List Value}{x:d6 G ps}{Lp:List (Nat×List Value)}{Tp:List (Nat×Value)}{m0:M}{r:bC G (gT ps rs)}
  (a5:fn.results.toList=res.map ResultVar.tmp) (hP:lu G P m0 ps vs x Lp Tp) (b2:(nmA ps vs Lp).length=cnt ps) (hs:Sat G P [] n W0 ⟨L,nmA ps vs Lp⟩ TL m0 st a w) (h:xp Γ ps rs res st=some r):
  Fin P fn (λv w'=>∃(m':M) (us:List Value) (Lr Lp':List (Nat×List Value)) (Tr:List (Nat×Value)),M.le m0 m'/\S W0 m' w' (Lr++(Lp'++L)) (Tr++TL)/\v=tup us/\oa G m' (ps.filterMap Pm.out) rs us r Lr Tr/\iO G m' ps vs (rest G (ps.filterMap Pm.out) rs r) Lp Lp') a w:=by
 obtain⟨⟨m,z,h0,hr,Lc,Tc,h1,h2,hS,a1⟩,hdf,hsz⟩:=hs;unfold xp at h;obtain⟨m1,a9,hF,_,_⟩:=zo (G:=G) (P:=P) (L0:=⟨L,nmA ps vs Lp⟩) (T0:=TL) (ps:=rs.map Rm.pm) (xs:=res.map Operand.tmp) (st:=st) (m:=m) (z:=z) ⟨hr,Lc,Tc,h1,h2,hS,a1⟩;split at h
 ·rename_i y J bk he
  split at h
  ·rename_i o Z ho
   injection h with h
   subst h;obtain⟨z',Lr,Tr,hz,⟨_,a0,b3,k1,k2,b1,a3⟩,hPR,_⟩:=zp hF he;have a2:=k1.len;have Z:=Z3 Z;obtain⟨pre,W⟩:=a3;simp only at W
   have a6:pre.length=J.L.length - cnt ps:=by
    have:=congrArg Xj W;rw[Xf,a2.1,b2] at this;omega
   have a4:z'.b.drop (J.L.length - cnt ps)=nmA ps vs Lp:=by rw[W,←a6,List.drop_left]
   have kd:=k1.drop (J.L.length - cnt ps);rw[a4] at kd;have hO:=F9 hP ho (by simp;omega) kd;obtain⟨j1,j2⟩:=F8 (os:=ps.filterMap Pm.out) (o:=o) hPR
   have b0:(res.map Operand.tmp).map a.eval=res.map λt=>a.tmps.getD t undef:=by
    simp only[List.map_map,Function.comp_def];rfl
   obtain⟨l,hE,hl⟩:=d5 hdf hsz (res.map Operand.tmp);refine Fin.mk hE a5 (Ct hE λt ht=>hl (.tmp t) (List.mem_map_of_mem ht)) ⟨m1,_,Lr,a0.drop (J.L.length - cnt ps),Tr,h0.trans a9,?_,rfl,?_,?_⟩
   ·exact(S.between b1 _ (by omega)).betweenT
   ·rw[←b0];exact j1
   ·rw[j2];exact hO
  ·cases h
 ·cases h
theorem Ctr.of {f:FuncId}{fn:Func}{c:Code}{n:Nat}{ps:List Pm}{rs:List Rm}{res:List Nat}{D:List (CS P G)}{g:d6 G ps->Option (bC G (gT ps rs))}(A:An G (bC G (gT ps rs)))
  (a1:P.follows .mixedOrders=true) (hf:P.funcs[f]? =some fn) (J:fn.body=some c) (hn:fn.ntmps=n) (a3:Xl ps.length n=true) (a0:fn.results.toList=res.map ResultVar.tmp)
  (hO:Obl (cnt ps) n Γ D c A 0 (xp Γ ps rs res) (λ_ _=>none) (xp Γ ps rs res)) (h:∀x,exF n Γ D c ps rs res A x=g x):Ctr G P f ps rs g:=by
 intro W0 m w L TL vs x r Lp Tp hS Z hg;rw[←h x] at hg;have a2:vs.length=ps.length:=(Am (a:={ tmps:=vs.toArray,defers:=[] }) (i:=0) Z (λj v hj=>by simp[hj])).choose_spec.2.2.2.1;refine zZ hf J hn (by rw[a2];exact Z3 a3) λa hE=>?_
 have a4:∀j v,vs[j]? =some v->a.tmps.getD (0+j) undef=v:=by
  intro j v hj;rw[Nat.zero_add];refine hE.at_ j v ?_
  have key:∀(l:List Value) (k:Nat) (j:Nat) (v:Value),l[j]? =some v->lk ((List.range' k l.length).zip l) (k+j)=some v:=by
   intro l
   induction l with
   |nil=>intro k j v h;simp at h
   | cons u l ih=>
    intro k j v h;simp only[X9,List.range'_succ,List.zip_cons_cons,lk];cases j with
    |zero=>simp at h;subst h;simp
    | succ j=>
     have J:Zw k (k+(j+1))=false:=by
      cases J:Zw k (k+(j+1)) with
      |false=>rfl
      |true=>have:=Z4 J;omega
     simp only[J];have:=ih (k+1) j v (by simpa using h);rw[show k+1+j=k+(j+1) by omega] at this;exact this
  have:=key vs 0 j v hj;rw[List.range_eq_range'];simpa using this
 obtain⟨zt,k1,k2,k3,_,k5⟩:=Am (a:=a) (i:=0) Z a4;have hs:Sat G P [] n W0 ⟨L,nmA ps vs Lp⟩ TL m (Bv G ps x) a w:=⟨⟨m,⟨nmA ps vs Lp,zt⟩,M.le.refl m,k1,Lp,Tp,k2,k3,hS,⟨[],rfl⟩⟩,hE.defers,hE.size⟩
 refine Em (np:=cnt ps) (L0:=⟨L,nmA ps vs Lp⟩) (by rw[k5];exact Zm _) a1 c A (Bv G ps x) _ _ _ r a w _ _ _ hg hO hs ?_ ?_ ?_
 ·intro st' a' w' W h2 _ _;exact Ii a0 Z k5 h2 W
 ·intro j st' a' w' W;cases W
 ·intro st' a' w' W h2 _ _;exact Ii a0 Z k5 h2 W
end
def yx {β:Nat->Type}:List ((i:Nat)×β i)->(j:Nat)->Option (β j)
 |[],_=>none
 |⟨i,x⟩::l,j=>if h:i=j then some (h ▸ x) else yx l j
def En {β:Nat->Nat->Type}:List ((i:Nat)×(k:Nat)×β i k)->(j l:Nat)->Option (β j l)
 |[],_,_=>none
 |⟨i,k,x⟩::r,j,l=>if h:i=j then (if h':k=l then some (h ▸ h' ▸ x) else En r j l) else En r j l
def Eo:List (Nat×((O:Type)×Kd O))->Nat->(O:Type)×Kd O
 |[],_=>⟨Bool,cL⟩
 |(i,p)::l,j=>if Zw i j then p else Eo l j
def UT (l:List (Nat×((O:Type)×Kd O))):Sg:=⟨λi=>(Eo l i).1,λi=>(Eo l i).2⟩
section
variable {P:Program}{G:Sg}
def pJ {i:TypeId}{k:IntKind}{J:Value}(h:P.underlying i=some (.int k))(hs:∀w,(sizeOf i).run P w= .ok 1 w)(Z:∀w,(isAgg i).run P w= .ok false w)(hz:∀w,(zeroValue i).run P w= .ok J w)(hv:J= .int k 0)(W:k.wrap 0=0):TI P G i:=
 ⟨.int k,⟨hs,Z⟩,⟨h⟩,(0:Int),J,hz,λm=>by subst hv;exact⟨rfl,W⟩⟩
def Of {i:TypeId}{J:Value}(h:P.underlying i=some .bool)(hs:∀w,(sizeOf i).run P w= .ok 1 w)(W:∀w,(isAgg i).run P w= .ok false w)(hz:∀w,(zeroValue i).run P w= .ok J w)(Z:J= .bool false):TI P G i:=
 ⟨.bool,⟨hs,W⟩,⟨h⟩,false,J,hz,λm=>by subst Z;exact rfl⟩
def G5 {i:TypeId}{J:Value}(h:P.underlying i=some .string)(hs:∀w,(sizeOf i).run P w= .ok 1 w)(W:∀w,(isAgg i).run P w= .ok false w)(hz:∀w,(zeroValue i).run P w= .ok J w)(Z:J= .string ⟨#[]⟩):TI P G i:=
 ⟨.str,⟨hs,W⟩,⟨h⟩,([]:List Int),J,hz,λm=>by subst Z;exact⟨rfl,by simp,by simp⟩⟩
def vJ {i:TypeId}(t:Ty)(B:SlI P G i t){h:Value}(hs:∀w,(sizeOf i).run P w= .ok 1 w)(J:∀w,(isAgg i).run P w= .ok false w)(Z:∀w,(zeroValue i).run P w= .ok h w)(W:h= .slice none 0 0):TI P G i:=
 ⟨.sl t,⟨hs,J⟩,B,([]:List (t.den G)),h,Z,λm=>by subst W;exact⟨none,0,0,rfl,rfl,Zm _,by simp,rfl⟩⟩
end
section
variable {G:Sg}{P:Program}
def An.nc:{ρ:Type}->An G ρ->Bool
 |_,.o=>true
 |_,.s p q=>p.nc&&q.nc
 |_,.c _ _ _ _=>false
 |_,.l _ q=>q.nc
 |_,.b p=>p.nc
 |_,.i p q=>p.nc&&q.nc
theorem Obl.nc (np n:Nat)(Γ:Tab P G)(D:List (CS P G))(c:Code):∀{ρ:Type} (A:An G ρ) (d:Nat) (N:St G->Option ρ) (X:Nat->St G->Option ρ) (R:St G->Option ρ),A.nc=true->Obl np n Γ D c A d N X R:=by
 induction c with
 | seq x y hx hy=>
  intro ρ A d N X R h;cases A with
  |s l r=>
   have h:(l.nc&&r.nc)=true:=h;rw[Z6] at h;exact⟨hx l d _ X R h.1,hy r d N X R h.2⟩
  |c l T J r=>cases h
  |_=>exact trivial
 | cond c x y hx hy=>
  intro ρ A d N X R h;cases A with
  |i l r=>
   have h:(l.nc&&r.nc)=true:=h;rw[Z6] at h;exact⟨hx l d N X R h.1,hy r d N X R h.2⟩
  |_=>exact trivial
 |block id c hc=>
  intro ρ A d N X R h;cases A with
  |b a=>exact hc a d N _ R h
  |_=>exact trivial
 |scope c hc=>
  intro ρ A d N X R h;cases A with
  |b a=>exact hc a d N X R h
  |_=>exact trivial
 |loop c hc=>
  intro ρ A d N X R h;cases A with
  |l T b=>exact hc b (d+1) _ _ _ h
  |_=>exact trivial
 |_=>intro ρ A d N X R h;exact trivial
theorem Ctr.nc {Γ:Tab P G}{f:FuncId}{fn:Func}{c:Code}{n:Nat}{ps:List Pm}{rs:List Rm}{res:List Nat}{D:List (CS P G)}{g:d6 G ps->Option (bC G (gT ps rs))}(A:An G (bC G (gT ps rs)))
  (hA:A.nc=true) (a0:P.follows .mixedOrders=true) (Z:P.funcs[f]? =some fn) (J:fn.body=some c) (W:fn.ntmps=n) (a2:Xl ps.length n=true) (a1:fn.results.toList=res.map ResultVar.tmp)
  (h:∀x,exF n Γ D c ps rs res A x=g x):Ctr G P f ps rs g:=
 Ctr.of A a0 Z J W a2 a1 (Obl.nc _ _ _ _ c A 0 _ _ _ hA) h
end
section
variable {P:Program}{G:Sg}
def slI {i e:TypeId}(E:TI P G e)(h:TypeInfo)(by_:Nat)(J:P.underlying i=some (.slice e))(hs:∀w,(sizeOf e).run P w= .ok (E.T.kd G).sz w)(a1:pi P e (E.T.kd G).sz by_)(hi:P.info? e=some h)(a0:h.zero=some E.zv)(W:h.size=(E.T.kd G).sz)(Z:h.bytes=by_):SlI P G i E.T:=
 ⟨e,by_,E.z,E.zv,h,J,hs,a1,E.hz,E.hzR,hi,a0,W,Z⟩
def rH {i:TypeId}{h:Value}(ok:du P i (G.k i))(J:∀w,(zeroValue i).run P w= .ok h w)(z:G.O i)(W:∀m,(G.k i).R m h.cells.toList z):TI P G i:=
 ⟨.st i,ok,(),z,h,J,W⟩
def arI {i e:TypeId}(E:TI P G e)(n:Nat){h:Value}(J:P.underlying i=some (.array n e))(hs:∀w,(sizeOf e).run P w= .ok (E.T.kd G).sz w)(hz:∀w,(zeroValue i).run P w= .ok h w)(Z:h.cells=((Z5 n E.zv.cells.toList).flatten).toArray)(W:Xl n cR=true):AI P G i:=
 ⟨n,E.T,e,E.z,h,E.zv.cells.toList,J,hs,hz,Z,E.hzR,W⟩
end
section
variable {G:Sg}{P:Program}{W0:Bse}{m:M}{z:Cz}{a:Act}{w:World}{Γ:Tab P G}
def LI (Γ:Tab P G)(st:St G)(b t:Nat):Option (AV G):=
  match Γ.ty t,av? (st.op (.tmp b)) with
  | some I,some (.blk i)=>(match eX st.L i with
    |some (.dat c x)=>if c=I.T then some (.dat c x none) else none
    |_=>none)
  |_,_=>none
def ru (Γ:Tab P G) (n:Nat):Nat->List ResultVar->St G->Option (List Nat×St G)
  |_,[],st=>some ([],st)
  | k,.tmp t::r,st=>(match Nat.blt t n,ru Γ n k r st with
    |true,some (ts,st')=>some (t::ts,st')
    |_,_=>none)
  | k,.cell b t::r,st=>(match Nat.blt b n,LI Γ st b t with
    |true,some v=>(match ru Γ n (k+1) r (st.put k (.one v)) with|some (ts,st')=>some (k::ts,st')|none=>none)
    |_,_=>none)
def Bw (Γ:Tab P G)(n:Nat)(ps:List Pm)(rs:List Rm)(res:List ResultVar)(st:St G):Option (bC G (gT ps rs)):=
  match ru Γ n n res st with
  |some (ts,st')=>xp Γ ps rs ts st'
  |none=>none
noncomputable def exX (n:Nat) (Γ:Tab P G) (D:List (CS P G)) (c:Code) (ps:List Pm) (rs:List Rm) (res:List ResultVar) (A:An G (bC G (gT ps rs))) (x:d6 G ps):Option (bC G (gT ps rs)):=
  ex n Γ D c A (Bv G ps x) (Bw Γ n ps rs res) (λ_ _=>none) (Bw Γ n ps rs res)
theorem sK {xs:Array Value}{v:Value}{t:Nat}(h:t≠xs.size):(xs.push v).getD t undef=xs.getD t undef:=by
  simp only[Array.getD_eq_getD_getElem?,Array.getElem?_push];rw[if_neg h]
theorem xq {xs:Array Value}{v:Value}:(xs.push v).getD xs.size undef=v:=by
  simp[Array.getD_eq_getD_getElem?,Array.getElem?_push]
theorem Kw {n : Nat} {L0:Rs} {T0:List (Nat×Value)} {m0:M}:∀{res:List ResultVar} {k:Nat} {st:St G} {a':Act} {ts:List Nat} {st':St G},Sat G P [] k W0 L0 T0 m0 st a' w->n<=k->(∀t,t<n->a'.tmps.getD t undef=a.tmps.getD t undef)->ru Γ n k res st=some (ts,st')->
    ∃(k':Nat) (W:Act),Sat G P [] k' W0 L0 T0 m0 st' W w/\(∀t,t<k->W.tmps.getD t undef=a'.tmps.getD t undef)/\sD P a w res (ts.map λt=>W.tmps.getD t undef):=by
  intro res
  induction res with
  | nil=>
    intro k st a' ts st' hs hk ha h;unfold ru at h;obtain⟨rfl,rfl⟩:=Prod.mk.inj (Option.some.inj h);exact⟨k,a',hs,λ_ _=>rfl,.nil⟩
  | cons r res ih =>
    intro k st a' ts st' hs hk ha h;cases r with
    | tmp t=>
      unfold ru at h;split at h
      · rename_i a2 st0 Z h0
        obtain⟨rfl,rfl⟩:=Prod.mk.inj (Option.some.inj h);have Z:t<n:=Z3 Z;obtain⟨k',W,h1,h2,h3⟩:=ih hs hk ha h0;refine⟨k',W,h1,h2,.cons ?_ h3⟩;simp only;rw[←ha t Z,←h2 t (Nat.lt_of_lt_of_le Z hk)]
        rfl
      ·cases h
    | cell b t=>
      unfold ru at h;split at h
      · rename_i v hb J
        have hb:b<n:=Z3 hb;cases hq:ru Γ n (k+1) res (st.put k (.one v)) with
        |none=>rw[hq] at h;cases h
        | some q=>
          rw[hq] at h;obtain⟨a2,st0⟩:=q;obtain⟨rfl,rfl⟩:=Prod.mk.inj (Option.some.inj h);unfold LI at J;split at J
          · rename_i I i hI hi
            split at J
            · rename_i c x hB
              split at J
              · rename_i hc
                injection J with J
                subst J;subst hc;obtain⟨⟨m,z,h0,hr,hM⟩,hdf,hsz⟩:=hs;obtain⟨p',a0,a3⟩:=bm (fi hr) hi;obtain⟨L,TL,p,cs,j,hS,g1,g2,g3⟩:=hM.get hB;rw[g1] at a0;injection a0 with a0
                subst a0;have a4:RV (I.T.kd G) m ((I.T.kd G).val cs) x:=kQ g3
                have a1:Sat G P [] (k+1) W0 L0 T0 m0 (st.put k (.one (.dat I.T x none))) { a' with tmps:=a'.tmps.push ((I.T.kd G).val cs) } w:=by
                  refine⟨⟨m,z,h0,?_,hM⟩,hdf,by simp[hsz]⟩;intro e he;rcases Za.1 he with rfl|he
                  · simp only
                    rw[←hsz,xq];exact⟨a4,trivial⟩
                  · obtain⟨q1,q2⟩:=me he
                    have:=hr e q1;simp only;rw[sK (by rw[hsz];exact q2)];exact this
                obtain⟨k',W,h1,h2,h3⟩:=ih a1 (by omega) (λt Z=>by
                  simp only;rw[sK (by rw[hsz];omega)]
                  exact ha t Z) hq
                refine⟨k',W,h1,λt Z=>?_,.cons ?_ h3⟩
                · rw[h2 t (by omega)]
                  simp only;rw[sK (by rw[hsz];omega)]
                · have e1:W.tmps.getD k undef=(I.T.kd G).val cs:=by
                    rw[h2 k (by omega)];simp only;rw[←hsz,xq]
                  have e2:a.tmps.getD b undef= .pointer (some ⟨p.1,0,none⟩):=by
                    rw[←ha b hb];exact a3
                  simp only;rw[e1,e2]
                  have hA:At w p.1 0 cs:=by
                    have:=hS.atL g2 (o:=0) (cs':=cs) (by simp) (by rw[(I.T.kd G).len g3];exact(I.T.kd G).pos);exact this
                  simp[asAddr,jn I.ok g3 hA]
              ·cases J
            ·cases J
          ·cases J
      ·cases h
theorem Ga {n:Nat} {fn:Func} {ps:List Pm} {rs:List Rm} {res:List ResultVar} {st:St G} {L:List (Nat×List Value)} {TL:List (Nat×Value)} {vs:List Value} {x:d6 G ps} {Lp:List (Nat×List Value)} {Tp:List (Nat×Value)} {m0:M} {r:bC G (gT ps rs)}
    (a6:fn.results.toList=res) (hP:lu G P m0 ps vs x Lp Tp) (b6:(nmA ps vs Lp).length=cnt ps) (W:Sat G P [] n W0 ⟨L,nmA ps vs Lp⟩ TL m0 st a w) (h:Bw Γ n ps rs res st=some r):
    Fin P fn (λv w'=>∃(m':M) (us:List Value) (Lr Lp':List (Nat×List Value)) (Tr:List (Nat×Value)),M.le m0 m'/\S W0 m' w' (Lr++(Lp'++L)) (Tr++TL)/\v=tup us/\oa G m' (ps.filterMap Pm.out) rs us r Lr Tr/\iO G m' ps vs (rest G (ps.filterMap Pm.out) rs r) Lp Lp') a w:=by
  unfold Bw at h;split at h
  · rename_i ts b0 b7
    obtain⟨k',a9,hs,_,a2⟩:=Kw (a:=a) W (Zm n) (λ_ _=>rfl) b7;obtain⟨l0,b5,_⟩:=d5 W.df W.sz [];obtain⟨⟨m,z,h0,hr,Lc,Tc,h1,h2,hS,a1⟩,hdf,hsz⟩:=hs;unfold xp at h;obtain⟨m1,b2,hF,_,_⟩:=zo (G:=G) (P:=P) (L0:=⟨L,nmA ps vs Lp⟩) (T0:=TL) (ps:=rs.map Rm.pm) (xs:=ts.map Operand.tmp) (st:=b0) (m:=m) (z:=z) ⟨hr,Lc,Tc,h1,h2,hS,a1⟩;split at h
    · rename_i y J bk he
      split at h
      · rename_i o hc ho
        injection h with h
        subst h;obtain⟨z',Lr,Tr,hz,⟨_,a0,c0,k1,k2,b4,a4⟩,hPR,_⟩:=zp hF he;have a3:=k1.len;have hc:=Z3 hc;obtain⟨pre,Z⟩:=a4;simp only at Z
        have b1:pre.length=J.L.length - cnt ps:=by
          have:=congrArg Xj Z;rw[Xf,a3.1,b6] at this;omega
        have a5:z'.b.drop (J.L.length - cnt ps)=nmA ps vs Lp:=by rw[Z,←b1,List.drop_left]
        have kd:=k1.drop (J.L.length - cnt ps);rw[a5] at kd;have hO:=F9 hP ho (by simp;omega) kd;obtain⟨j1,j2⟩:=F8 (os:=ps.filterMap Pm.out) (o:=o) hPR
        have b3:(ts.map Operand.tmp).map a9.eval=ts.map λt=>a9.tmps.getD t undef:=by
          simp only[List.map_map,Function.comp_def];rfl
        refine Fin.mk b5 a6 a2 ⟨m1,_,Lr,a0.drop (J.L.length - cnt ps),Tr,h0.trans b2,?_,rfl,?_,?_⟩
        ·exact(S.between b4 _ (by omega)).betweenT
        ·rw[←b3];exact j1
        ·rw[j2];exact hO
      ·cases h
    ·cases h
  ·cases h
theorem Ctr.ofX {f:FuncId} {fn:Func} {c:Code} {n:Nat} {ps:List Pm} {rs:List Rm} {res:List ResultVar} {D:List (CS P G)} {g:d6 G ps->Option (bC G (gT ps rs))} (A:An G (bC G (gT ps rs)))
    (a1:P.follows .mixedOrders=true) (hf:P.funcs[f]? =some fn) (J:fn.body=some c) (hn:fn.ntmps=n) (a3:Xl ps.length n=true) (a0:fn.results.toList=res)
    (hO:Obl (cnt ps) n Γ D c A 0 (Bw Γ n ps rs res) (λ_ _=>none) (Bw Γ n ps rs res)) (h:∀x,exX n Γ D c ps rs res A x=g x):Ctr G P f ps rs g:=by
  intro W0 m w L TL vs x r Lp Tp hS Z hg;rw[←h x] at hg;have a2:vs.length=ps.length:=(Am (a:={ tmps:=vs.toArray,defers:=[] }) (i:=0) Z (λj v hj=>by simp[hj])).choose_spec.2.2.2.1;refine zZ hf J hn (by rw[a2];exact Z3 a3) λa hE=>?_
  have a4:∀j v,vs[j]? =some v->a.tmps.getD (0+j) undef=v:=by
    intro j v hj;rw[Nat.zero_add];refine hE.at_ j v ?_
    have key:∀(l:List Value) (k:Nat) (j:Nat) (v:Value),l[j]? =some v->lk ((List.range' k l.length).zip l) (k+j)=some v:=by
      intro l
      induction l with
      |nil=>intro k j v h;simp at h
      | cons u l ih=>
        intro k j v h;simp only[X9,List.range'_succ,List.zip_cons_cons,lk];cases j with
        |zero=>simp at h;subst h;simp
        | succ j=>
          have J:Zw k (k+(j+1))=false:=by
            cases J:Zw k (k+(j+1)) with
            |false=>rfl
            |true=>have:=Z4 J;omega
          simp only[J];have:=ih (k+1) j v (by simpa using h);rw[show k+1+j=k+(j+1) by omega] at this;exact this
    have:=key vs 0 j v hj;rw[List.range_eq_range'];simpa using this
  obtain⟨zt,k1,k2,k3,_,k5⟩:=Am (a:=a) (i:=0) Z a4;have hs:Sat G P [] n W0 ⟨L,nmA ps vs Lp⟩ TL m (Bv G ps x) a w:=⟨⟨m,⟨nmA ps vs Lp,zt⟩,M.le.refl m,k1,Lp,Tp,k2,k3,hS,⟨[],rfl⟩⟩,hE.defers,hE.size⟩
  refine Em (np:=cnt ps) (L0:=⟨L,nmA ps vs Lp⟩) (by rw[k5];exact Zm _) a1 c A (Bv G ps x) _ _ _ r a w _ _ _ hg hO hs ?_ ?_ ?_
  ·intro st' a' w' W h2 _ _;exact Ga a0 Z k5 h2 W
  ·intro j st' a' w' W;cases W
  ·intro st' a' w' W h2 _ _;exact Ga a0 Z k5 h2 W
theorem Ctr.nX {Γ:Tab P G}{f:FuncId}{fn:Func}{c:Code}{n:Nat}{ps:List Pm}{rs:List Rm}{res:List ResultVar}{D:List (CS P G)}{g:d6 G ps->Option (bC G (gT ps rs))}(A:An G (bC G (gT ps rs)))
    (hA:A.nc=true) (a0:P.follows .mixedOrders=true) (Z:P.funcs[f]? =some fn) (J:fn.body=some c) (W:fn.ntmps=n) (a2:Xl ps.length n=true) (a1:fn.results.toList=res)
    (h:∀x,exX n Γ D c ps rs res A x=g x):Ctr G P f ps rs g:=
  Ctr.ofX A a0 Z J W a2 a1 (Obl.nc _ _ _ _ c A 0 _ _ _ hA) h
end
section
variable {G:Sg}{P:Program}{m:M}{os:List Ty}{ps:List Pm}{rs:List Rm}{vs us:List Value}{Lp Lp' Lr:List (Nat×List Value)}{Tp Tr:List (Nat×Value)}
theorem lV {x:d6 G []}(h:lu G P m [] vs x Lp Tp):vs=[]/\Lp=[]/\Tp=[]:=by
 cases vs<;>cases Lp<;>cases Tp<;>first|exact⟨rfl,rfl,rfl⟩|exact h.elim
theorem iJ {t:Ty}{x:d6 G (.rd t::ps)}(h:lu G P m (.rd t::ps) vs x Lp Tp):∃v vs',vs=v::vs'/\RV (t.kd G) m v x.1/\lu G P m ps vs' x.2 Lp Tp:=by
 cases vs with
 |nil=>cases Lp<;>cases Tp<;>exact h.elim
 |cons v vs=>exact⟨v,vs,rfl,h.1,h.2⟩
theorem SQ {t:Ty}{x:d6 G (.ap t::ps)}(h:lu G P m (.ap t::ps) vs x Lp Tp):∃v vs' Tp',vs=v::vs'/\Tp=((t.kd G).sz,v)::Tp'/\RV (kSl (t.kd G)) m v x.1/\lu G P m ps vs' x.2 Lp Tp':=by
 cases vs with
 |nil=>cases Lp<;>cases Tp<;>exact h.elim
 |cons v vs=>
  cases Tp with
  |nil=>cases Lp<;>exact h.elim
  |cons e Tp=>obtain⟨J,rfl,W⟩:=h;exact⟨v,vs,Tp,rfl,rfl,J,W⟩
theorem b9 {x:bC G (([]:List Rm).map Rm.ty++os)}(h:oa G m os [] us x Lr Tr):us=[]/\Lr=[]/\Tr=[]:=by
 cases us<;>cases Lr<;>cases Tr<;>first|exact⟨rfl,rfl,rfl⟩|exact h.elim
theorem cM {t:Ty}{x:bC G ((Rm.rd t::rs).map Rm.ty++os)}(h:oa G m os (.rd t::rs) us x Lr Tr):∃v us',us=v::us'/\RV (t.kd G) m v (hdT G t (rs.map Rm.ty++os) x)/\oa G m os rs us' (tlT G t (rs.map Rm.ty++os) x) Lr Tr:=by
 cases us with
 |nil=>cases Lr<;>cases Tr<;>exact h.elim
 |cons v us=>exact⟨v,us,rfl,h.1,h.2⟩
theorem vK {t:Ty}{x:bC G ((Rm.ap t::rs).map Rm.ty++os)}(h:oa G m os (.ap t::rs) us x Lr Tr):∃v us' Tr',us=v::us'/\Tr=((t.kd G).sz,v)::Tr'/\RV (kSl (t.kd G)) m v (hdT G (.sl t) (rs.map Rm.ty++os) x)/\oa G m os rs us' (tlT G (.sl t) (rs.map Rm.ty++os) x) Lr Tr':=by
 cases us with
 |nil=>cases Lr<;>cases Tr<;>exact h.elim
 |cons v us=>
  cases Tr with
  |nil=>cases Lr<;>exact h.elim
  |cons e Tr=>obtain⟨J,rfl,W⟩:=h;exact⟨v,us,Tr,rfl,rfl,J,W⟩
theorem cc {x:bC G (([]:List Pm).filterMap Pm.out)}(h:iO G m [] vs x Lp Lp'):Lp'=[]:=by
 cases vs<;>cases Lp<;>cases Lp'<;>first|rfl|exact h.elim
theorem bp {t:Ty}{v:Value}{x:bC G ((Pm.rd t::ps).filterMap Pm.out)}(h:iO G m (.rd t::ps) (v::vs) x Lp Lp'):iO G m ps vs x Lp Lp':=h
theorem LJ {t:Ty}{v:Value}{x:bC G ((Pm.ap t::ps).filterMap Pm.out)}(h:iO G m (.ap t::ps) (v::vs) x Lp Lp'):iO G m ps vs x Lp Lp':=h
theorem LK {a b:Ty}{v:Value}{x:bC G ((Pm.f1 a b::ps).filterMap Pm.out)}(h:iO G m (.f1 a b::ps) (v::vs) x Lp Lp'):iO G m ps vs x Lp Lp':=h
theorem Do {a c b:Ty}{v:Value}{x:bC G ((Pm.f2 a c b::ps).filterMap Pm.out)}(h:iO G m (.f2 a c b::ps) (v::vs) x Lp Lp'):iO G m ps vs x Lp Lp':=h
theorem SR {t:Ty}{v:Value}{b:Nat}{cs:List Value}{x:bC G ((Pm.ow t::ps).filterMap Pm.out)}(h:iO G m (.ow t::ps) (v::vs) x ((b,cs)::Lp) Lp'):∃cs' Lp'',Lp'=(b,cs')::Lp''/\GS (t.kd G) m b cs' v (hdT G (.sl t) (ps.filterMap Pm.out) x)/\iO G m ps vs (tlT G (.sl t) (ps.filterMap Pm.out) x) Lp Lp'':=by
 cases Lp' with
 |nil=>exact h.elim
 |cons e Lp'=>obtain⟨b',cs'⟩:=e;obtain⟨J,W,Z⟩:=h;simp only at J;subst J;exact⟨cs',Lp',rfl,W,Z⟩
end
noncomputable section
structure Ap where
 fKind:Int
 fBool:Bool
 fInt:Int
 fText:(List Int)
 deriving DecidableEq
def Ap.zero:Ap:=⟨0,false,0,[]⟩
structure aS where
 fMany:Int
 fValue:Ap
 deriving DecidableEq
def aS.zero:aS:=⟨0,Ap.zero⟩
structure bv where
 fKind:Int
 fMany:Int
 fMin:Ap
 fMax:Ap
 fNulls:Int
 fBytes:Int
 deriving DecidableEq
def bv.zero:bv:=⟨0,0,Ap.zero,Ap.zero,0,0⟩
structure d3 where
 fMany:Int
 fValue:Ap
 deriving DecidableEq
def d3.zero:d3:=⟨0,Ap.zero⟩
structure cd where
 fKind:Int
 fMany:Int
 fMin:Ap
 fMax:Ap
 fNulls:Int
 fBytes:Int
 deriving DecidableEq
def cd.zero:cd:=⟨0,0,Ap.zero,Ap.zero,0,0⟩
structure ah where
 fB:(List Int)
 fOk:Bool
 deriving DecidableEq
def ah.zero:ah:=⟨[],false⟩
structure aM where
 fEpoch:Int
 fNumber:Int
 deriving DecidableEq
def aM.zero:aM:=⟨0,0⟩
structure aa where
 fId:aM
 fRow:(List Ap)
 fDeleted:Int
 deriving DecidableEq
def aa.zero:aa:=⟨aM.zero,[],0⟩
structure aB where
 fColumns:Int
 fSort:(List Int)
 fL:(List aa)
 deriving DecidableEq
def aB.zero:aB:=⟨0,[],[]⟩
structure dp where
 fColumns:Int
 fSort:(List Int)
 fKinds:(List Int)
 fL:(List aa)
 deriving DecidableEq
def dp.zero:dp:=⟨0,[],[],[]⟩
structure bI where
 fColumns:Int
 fSort:(List Int)
 fL:(List aa)
 deriving DecidableEq
def bI.zero:bI:=⟨0,[],[]⟩
def mD:Option Int:=
 some (-1)
def eo (p0:List Ap)(p1:(Ap->Option Bool))(h:Int):Option (Int⊕Int):=
 if decide (h<(p0.length:Int)) then
  (idx p0 h).bind λW=>
  (p1 W).bind λJ=>
  if J then
   (some h).map Sum.inr
  else
   some (.inl (Z0.wrap (h+1)))
 else
  (mD).map Sum.inr
def kB (p0:List Ap)(p1:(Ap->Option Bool)):Option Int:=
 am (λs:Int=>eo p0 p1 s) 0
def et (p0:List Ap)(p1:(Ap->Option Bool)):Option Bool:=
 (kB p0 p1).bind λh=>
 some (decide (0<=h))
def lx:Option Ap:=
 some (⟨0,false,0,[]⟩:Ap)
def pK (p0:Bool):Option Ap:=
 some (⟨1,p0,0,[]⟩:Ap)
def eI (p0:Int):Option Ap:=
 some (⟨2,false,p0,[]⟩:Ap)
def pL (p0:List Int):Option Ap:=
 some (⟨3,false,0,p0⟩:Ap)
def qp (h:Bool):Option Bool:=
 some h
def mh (p0:Ap):Option Bool:=
 if p0.fKind==0 then
  (lx).bind λh=>
  some (decide (p0=h))
 else
  if p0.fKind==1 then
   (pK p0.fBool).bind λW=>
   some (decide (p0=W))
  else
   if p0.fKind==2 then
    (eI p0.fInt).bind λJ=>
    some (decide (p0=J))
   else
    if p0.fKind==3 then
     (pL p0.fText).bind λZ=>
     if decide (p0=Z) then
      qp (decide ((p0.fText.length:Int)<=64))
     else
      qp false
    else
     some false
def fd (p0:Ap):Option Bool:=
 (mh p0).bind λh=>
 some (!h)
def u7 (h:List Int):Option (List Int×Bool):=
 some (h,true)
def nz (p0:List Ap)(J:List Int)(h:Int):Option ((List Int×Int)⊕(List Int×Bool)):=
 if decide (h<(p0.length:Int)) then
  (idx p0 h).bind λW=>
  if W.fKind != 2 then
   (some ([],false)).map Sum.inr
  else
   (app 17592186044416 J ([W.fInt])).bind λZ=>
   some (.inl (Z,Z0.wrap (h+1)))
 else
  (u7 J).map Sum.inr
def oA (p0:List Ap):Option (List Int×Bool):=
 am (λs:(List Int×Int)=>nz p0 s.1 s.2) ([],0)
def nA (h:List aS):Option (List aS):=
 some h
def ji (J:Int)(h:List aS):Option ((Int×List aS)⊕List aS):=
 some (.inl (Z0.wrap (J+1),h))
def nB (W:Int)(J:List aS)(Z:Ap):Option ((Int×List aS)⊕List aS):=
 (app 2932031007402 J ([(⟨1,Z⟩:aS)])).bind λh=>
 ji W h
def gU (a2:Int)(h:List aS)(J:Int)(a1:Bool):Option (Int⊕((Int×List aS)⊕List aS)):=
 if a1 then
  (ix h J).bind λa0=>
  (h[a0]?).bind λZ=>
  (ix h J).bind λW=>
  (h[W]?).bind λx106=>
  (ji a2 (h.set W ({ x106 with fMany:=Z0.wrap (Z.fMany+1) }))).map Sum.inr
 else
  some (.inl (Z0.wrap (J+1)))
def eT (W:Int)(h:List aS)(Z:Ap)(J:Int):Option (Int⊕((Int×List aS)⊕List aS)):=
 if decide (J<(h.length:Int)) then
  if J==(Z0.wrap ((h.length:Int) - 1)) then
   (ix h J).bind λa1=>
   (h[a1]?).bind λa0=>
   gU W h J (decide (a0.fValue=Z))
  else
   gU W h J false
 else
  (nB W h Z).map Sum.inr
def kV (p0:List Ap)(h:Int)(J:List aS):Option ((Int×List aS)⊕List aS):=
 if decide (h<(p0.length:Int)) then
  (idx p0 h).bind λW=>
  am (λs:Int=>eT h J W s) 0
 else
  (nA J).map Sum.inr
def mj (p0:List Ap):Option (List aS):=
 am (λs:(Int×List aS)=>kV p0 s.1 s.2) (0,([]:List aS))
def yO (p0:List Ap):Option Bool:=
 some (decide ((p0.length:Int)<=16))
def qZ (p0:List Ap)(h:Int):Option (Int⊕Bool):=
 if decide (h<(p0.length:Int)) then
  (idx p0 h).bind λJ=>
  (mh J).bind λW=>
  if !W then
   (some false).map Sum.inr
  else
   some (.inl (Z0.wrap (h+1)))
 else
  (yO p0).map Sum.inr
def sL (p0:List Ap):Option Bool:=
 am (λs:Int=>qZ p0 s) 0
def oV (p0:List Int)(h:List Int):Option (List Int):=
 (app 140737488355328 p0 h).bind λJ=>
 some J
def lW (p0:List Int)(p1:Int)(h:Int)(x24:List Int):Option ((Int×List Int)⊕List Int):=
 if decide (h<8) then
  (chk (decide (0<=(Z0.wrap (56 - (Z0.wrap (8*h))))))).bind λW=>
  (ix x24 h).bind λJ=>
  (x24[J]?).bind λZ=>
  some (.inl (Z0.wrap (h+1),(x24.set J (Zd.wrap (aX .u64 p1 (Z0.wrap (56 - (Z0.wrap (8*h)))))))))
 else
  (oV p0 x24).map Sum.inr
def nC (p0:List Int)(p1:Int):Option (List Int):=
 am (λs:(Int×List Int)=>lW p0 p1 s.1 s.2) (0,(Z5 8 0:List Int))
def vL (p0:List Int)(p1:Ap):Option (List Int):=
 (app 140737488355328 p0 ([Zd.wrap p1.fKind])).bind λh=>
 if p1.fKind==1 then
  if p1.fBool then
   (app 140737488355328 h ([1])).bind λW=>
   some W
  else
   (app 140737488355328 h ([0])).bind λJ=>
   some J
 else
  if p1.fKind==2 then
   (nC h (Z2.wrap p1.fInt)).bind λa1=>
   some a1
  else
   if p1.fKind==3 then
    (app 140737488355328 h ([Zd.wrap (p1.fText.length:Int)])).bind λa0=>
    (app 140737488355328 a0 p1.fText).bind λZ=>
    some Z
   else
    some h
def u9 (h:List Int):Option (List Int×Int):=
 some (h,0)
def qq (p0:List Ap)(x36:List Int)(h:Int):Option ((List Int×Int)⊕(List Int×Int)):=
 if decide (h<(p0.length:Int)) then
  (idx p0 h).bind λJ=>
  (vL x36 J).bind λW=>
  some (.inl (W,Z0.wrap (h+1)))
 else
  (u9 x36).map Sum.inr
def oB (p0:List Ap):Option (List Int×Int):=
 (sL p0).bind λh=>
 if !h then
  some ([],30)
 else
  am (λs:(List Int×Int)=>qq p0 s.1 s.2) ([Zd.wrap (p0.length:Int)],0)
def ly (p0:Ap):Option (List Int):=
 (oB ([p0])).bind λh=>
 (sub h.1 1 h.1.length).bind λJ=>
 some J
def va (h:List Int):Option (List Int):=
 some h
def qr (Z:List aS)(W:List Int)(h:Int):Option ((List Int×Int)⊕List Int):=
 if decide (h<(Z.length:Int)) then
  (idx Z h).bind λJ=>
  (app 140737488355328 W ([Zd.wrap J.fMany])).bind λa2=>
  (ly J.fValue).bind λa0=>
  (app 140737488355328 a2 a0).bind λa1=>
  some (.inl (a1,Z0.wrap (h+1)))
 else
  (va W).map Sum.inr
def oC (p0:List Ap):Option (List Int):=
 (mj p0).bind λh=>
 am (λs:(List Int×Int)=>qr h s.1 s.2) ([],0)
def Ao (x6:List Int):Option (List Int):=
 some x6
def gc (p0:Int)(J:List Int)(h:Int):Option ((List Int×Int)⊕List Int):=
 if decide (h<8) then
  (chk (decide (0<=(Z0.wrap (56 - (Z0.wrap (8*h))))))).bind λZ=>
  (app 140737488355328 J ([Zd.wrap (aX .u64 p0 (Z0.wrap (56 - (Z0.wrap (8*h)))))])).bind λW=>
  some (.inl (W,Z0.wrap (h+1)))
 else
  (Ao J).map Sum.inr
def mQ (p0:Int):Option (List Int):=
 am (λs:(List Int×Int)=>gc p0 s.1 s.2) ([],0)
def tR (h:List Int):Option (List Int):=
 some h
def tS (h:Int)(x46:List Int):Option ((List Int×Int)⊕List Int):=
 some (.inl (x46,Z0.wrap (h+1)))
def tT (Z:Int)(h:List Int)(J:Int):Option ((List Int×Int)⊕List Int):=
 (app 140737488355328 h ([Zd.wrap J])).bind λW=>
 tS Z W
def j7 (W:Int)(x106:List Int)(h:Int):Option ((List Int×Int)⊕((List Int×Int)⊕List Int)):=
 if decide (127<h) then
  (app 140737488355328 x106 ([bOr .u8 (Zd.wrap h) 128])).bind λJ=>
  some (.inl (J,aX .u64 h 7))
 else
  (tT W x106 h).map Sum.inr
def pM (p0:List Int)(J:List Int)(x35:List Int)(h:Int):Option ((List Int×Int)⊕List Int):=
 if decide (h<(J.length:Int)) then
  (idx J h).bind λZ=>
  (idx p0 h).bind λW=>
  am (λs:(List Int×Int)=>j7 h s.1 s.2) (x35,dS .u64 (dZ .u64 (Z2.wrap (Z0.wrap (Z - W))) 1) (Z2.wrap (aX .i64 (Z0.wrap (Z - W)) 63)))
 else
  (tR x35).map Sum.inr
def mR (p0:List Int):Option (List Int):=
 (idx p0 0).bind λJ=>
 (mQ (Z2.wrap J)).bind λh=>
 (sub p0 1 p0.length).bind λW=>
 am (λs:(List Int×Int)=>pM p0 W s.1 s.2) (h,0)
def iz (p0:List Ap):Option (List Ap):=
 (app 3518437208883 ([]) p0).bind λh=>
 some h
def kW (p0:List Ap)(p1:(Ap->Ap->Option Int)):Option (List Ap):=
 yn p1 p0
def lX (p0:Int):Option Bool:=
 some (p0 != p0)
def iK (p0:Int)(p1:Int):Option Int:=
 (lX p0).bind λJ=>
 (lX p1).bind λh=>
 if J then
  if h then
   some 0
  else
   some (-1)
 else
  if h then
   some 1
  else
   if decide (p0<p1) then
    some (-1)
   else
    if decide (p1<p0) then
     some 1
    else
     some 0
def j8 (p0:Int):Option Bool:=
 some (p0 != p0)
def iS (p0:Int)(p1:Int):Option Int:=
 (j8 p0).bind λJ=>
 (j8 p1).bind λh=>
 if J then
  if h then
   some 0
  else
   some (-1)
 else
  if h then
   some 1
  else
   if decide (p0<p1) then
    some (-1)
   else
    if decide (p1<p0) then
     some 1
    else
     some 0
def eF (p0:List Int)(p1:List Int):Option Int:=
 some (ut p0 p1)
def mE (p0:List Int)(p1:List Int):Option Int:=
 (eF p0 p1).bind λh=>
 some h
def fA (p0:Ap)(p1:Ap)(h:Bool):Option Int:=
 if h then
  if p1.fBool then
   some (-1)
  else
   some 1
 else
  if p0.fKind==2 then
   (iS p0.fInt p1.fInt).bind λJ=>
   some J
  else
   if p0.fKind==3 then
    (mE p0.fText p1.fText).bind λW=>
    some W
   else
    some 0
def cD (p0:Ap)(p1:Ap):Option Int:=
 if p0.fKind != p1.fKind then
  (iK p0.fKind p1.fKind).bind λh=>
  some h
 else
  if p0.fKind==1 then
   fA p0 p1 (!(p0.fBool==p1.fBool))
  else
   fA p0 p1 false
def pD:Option Int:=
 some (-1)
def fG (p0:List Ap)(p1:Ap)(h:Int):Option (Int⊕Int):=
 if decide (h<(p0.length:Int)) then
  (idx p0 h).bind λx24=>
  if decide (p1=x24) then
   (some h).map Sum.inr
  else
   some (.inl (Z0.wrap (h+1)))
 else
  (pD).map Sum.inr
def iA (p0:List Ap)(p1:Ap):Option Int:=
 am (λs:Int=>fG p0 p1 s) 0
def wH (h:Int)(W:Int):Option Int:=
 (idx ([0,1,2,2,3,3,3,3,4,4,4,4,4,4,4,4,5,5,5,5,5,5,5,5,5,5,5,5,5,5,5,5,6,6,6,6,6,6,6,6,6,6,6,6,6,6,6,6,6,6,6,6,6,6,6,6,6,6,6,6,6,6,6,6,7,7,7,7,7,7,7,7,7,7,7,7,7,7,7,7,7,7,7,7,7,7,7,7,7,7,7,7,7,7,7,7,7,7,7,7,7,7,7,7,7,7,7,7,7,7,7,7,7,7,7,7,7,7,7,7,7,7,7,7,7,7,7,7,8,8,8,8,8,8,8,8,8,8,8,8,8,8,8,8,8,8,8,8,8,8,8,8,8,8,8,8,8,8,8,8,8,8,8,8,8,8,8,8,8,8,8,8,8,8,8,8,8,8,8,8,8,8,8,8,8,8,8,8,8,8,8,8,8,8,8,8,8,8,8,8,8,8,8,8,8,8,8,8,8,8,8,8,8,8,8,8,8,8,8,8,8,8,8,8,8,8,8,8,8,8,8,8,8,8,8,8,8,8,8,8,8,8,8,8,8,8,8,8,8,8,8,8,8,8,8,8]) (Zd.wrap h)).bind λJ=>
 some (Z0.wrap (W+(Z0.wrap J)))
def wI (x6:Int)(h:Int):Option Int:=
 if decide (256<=x6) then
  wH (aX .u32 x6 8) (Z0.wrap (h+8))
 else
  wH x6 h
def G6 (p0:Int):Option Int:=
 if decide (65536<=p0) then
  wI (aX .u32 p0 16) 16
 else
  wI p0 0
def oW (x24:Int)(J:Int):Option Int:=
 (idx ([0,1,2,2,3,3,3,3,4,4,4,4,4,4,4,4,5,5,5,5,5,5,5,5,5,5,5,5,5,5,5,5,6,6,6,6,6,6,6,6,6,6,6,6,6,6,6,6,6,6,6,6,6,6,6,6,6,6,6,6,6,6,6,6,7,7,7,7,7,7,7,7,7,7,7,7,7,7,7,7,7,7,7,7,7,7,7,7,7,7,7,7,7,7,7,7,7,7,7,7,7,7,7,7,7,7,7,7,7,7,7,7,7,7,7,7,7,7,7,7,7,7,7,7,7,7,7,7,8,8,8,8,8,8,8,8,8,8,8,8,8,8,8,8,8,8,8,8,8,8,8,8,8,8,8,8,8,8,8,8,8,8,8,8,8,8,8,8,8,8,8,8,8,8,8,8,8,8,8,8,8,8,8,8,8,8,8,8,8,8,8,8,8,8,8,8,8,8,8,8,8,8,8,8,8,8,8,8,8,8,8,8,8,8,8,8,8,8,8,8,8,8,8,8,8,8,8,8,8,8,8,8,8,8,8,8,8,8,8,8,8,8,8,8,8,8,8,8,8,8,8,8,8,8,8,8]) (Zd.wrap x24)).bind λh=>
 some (Z0.wrap (J+(Z0.wrap h)))
def oX (h:Int)(J:Int):Option Int:=
 if decide (256<=h) then
  oW (aX .u64 h 8) (Z0.wrap (J+8))
 else
  oW h J
def oY (x6:Int)(h:Int):Option Int:=
 if decide (65536<=x6) then
  oX (aX .u64 x6 16) (Z0.wrap (h+16))
 else
  oX x6 h
def pN (p0:Int):Option Int:=
 if decide (4294967296<=p0) then
  oY (aX .u64 p0 32) 32
 else
  oY p0 0
def qs (p0:Int):Option Int:=
 (pN p0).bind λh=>
 some h
def sM (h:List Int):Option (List Int):=
 some h
def sN (h:Int)(J:List Int):Option ((Int×List Int)⊕List Int):=
 some (.inl (Z0.wrap (h+1),J))
def po (h:Int)(J:List Int):Option ((Int×List Int)⊕((Int×List Int)⊕List Int)):=
 some (.inl (Z0.wrap (h+1),J))
def pp (p1:Int)(W:Int)(x46:Int)(h:Int)(J:List Int):Option ((Int×List Int)⊕((Int×List Int)⊕List Int)):=
 if decide (h<p1) then
  (chk (decide (0<=h))).bind λa3=>
  if (dP .u64 (aX .u64 x46 h) 1)==1 then
   (ix J (Z0.wrap ((Z0.wrap ((Z0.wrap (W*p1))+h)).tdiv 8))).bind λa0=>
   (J[a0]?).bind λa1=>
   (chk (decide (0<=((Z0.wrap ((Z0.wrap (W*p1))+h)).tmod 8)))).bind λa2=>
   (ix J (Z0.wrap ((Z0.wrap ((Z0.wrap (W*p1))+h)).tdiv 8))).bind λZ=>
   (J[Z]?).bind λa4=>
   po h (J.set Z (bOr .u8 a1 (dZ .u8 1 ((Z0.wrap ((Z0.wrap (W*p1))+h)).tmod 8))))
  else
   po h J
 else
  (sN W J).map Sum.inr
def pq (p0:List Int)(p1:Int)(h:Int)(J:List Int):Option ((Int×List Int)⊕List Int):=
 if decide (h<(p0.length:Int)) then
  (idx p0 h).bind λx46=>
  am (λs:(Int×List Int)=>pp p1 h x46 s.1 s.2) (0,J)
 else
  (sM J).map Sum.inr
def jS (p0:List Int)(p1:Int):Option (List Int):=
 (mk 281474976710656 (Z0.wrap ((Z0.wrap ((Z0.wrap ((p0.length:Int)*p1))+7)).tdiv 8)) 0).bind λh=>
 am (λs:(Int×List Int)=>pq p0 p1 s.1 s.2) (0,h)
def fR (p0:List Ap):Option (List Ap):=
 some p0
def fS (h:Int):Option (Int⊕List Ap):=
 some (.inl (Z0.wrap (h+1)))
def fT (J:Int)(h:List Ap):Option (Int⊕List Ap):=
 (vw h J h.length).bind λW=>
 (clr h W.1 W.2 Ap.zero).bind λZ=>
 (sub Z 0 J).bind λa0=>
 (some a0).map Sum.inr
def dA (x128:Int)(J:Int)(h:List Ap):Option ((Int×Int×List Ap)⊕(Int⊕List Ap)):=
 some (.inl (J,Z0.wrap (x128+1),h))
def fU (J:Nat×Nat)(W:Int)(x128:Int)(h:List Ap):Option ((Int×Int×List Ap)⊕(Int⊕List Ap)):=
 (chk (Xl J.2 cR)).bind λa6=>
 if decide (x128<(J.2:Int)) then
  (ixv J.1 J.2 x128).bind λa2=>
  (h[a2]?).bind λa5=>
  (ixv J.1 J.2 (Z0.wrap (x128 - 1))).bind λa3=>
  (h[a3]?).bind λa0=>
  if !decide (a5=a0) then
   (ixv J.1 J.2 x128).bind λa1=>
   (h[a1]?).bind λa4=>
   (ix h W).bind λZ=>
   (h[Z]?).bind λa9=>
   dA x128 (Z0.wrap (W+1)) (h.set Z a4)
  else
   dA x128 W h
 else
  (fT W h).map Sum.inr
def fV (p0:List Ap)(h:Int):Option (Int⊕List Ap):=
 if decide (h<(p0.length:Int)) then
  (ix p0 h).bind λJ=>
  (p0[J]?).bind λa0=>
  (ix p0 (Z0.wrap (h - 1))).bind λW=>
  (p0[W]?).bind λZ=>
  if decide (a0=Z) then
   (vw p0 h p0.length).bind λa1=>
   am (λs:(Int×Int×List Ap)=>fU a1 s.1 s.2.1 s.2.2) (h,1,p0)
  else
   fS h
 else
  (fR p0).map Sum.inr
def d8 (p0:List Ap):Option (List Ap):=
 if decide ((p0.length:Int)<2) then
  some p0
 else
  am (λs:Int=>fV p0 s) 1
def iW (p0:List Ap):Option (List Ap):=
 (app 3518437208883 ([]:List Ap) p0).bind λh=>
 some h
def nD (a1:List Ap)(a0:List Int)(W:List Int):Option (List Int):=
 (qs (Z2.wrap (Z0.wrap ((a1.length:Int) - 1)))).bind λZ=>
 (jS W Z).bind λJ=>
 (app 140737488355328 a0 J).bind λh=>
 some h
def jj (p0:List Ap)(W:List Ap)(a0:List Int)(J:List Int)(h:Int):Option ((List Int×Int)⊕List Int):=
 if decide (h<(p0.length:Int)) then
  (idx p0 h).bind λa1=>
  (iA W a1).bind λa2=>
  (app 17592186044416 J ([Z2.wrap a2])).bind λZ=>
  some (.inl (Z,Z0.wrap (h+1)))
 else
  (nD W a0 J).map Sum.inr
def nE (p0:List Ap)(J:List Ap)(h:List Int):Option (List Int):=
 am (λs:(List Int×Int)=>jj p0 J h s.1 s.2) ([],0)
def kX (p0:List Ap)(J:List Ap)(W:List Int)(h:Int):Option ((List Int×Int)⊕List Int):=
 if decide (h<(J.length:Int)) then
  (idx J h).bind λa0=>
  (ly a0).bind λa1=>
  (app 140737488355328 W a1).bind λZ=>
  some (.inl (Z,Z0.wrap (h+1)))
 else
  (nE p0 J W).map Sum.inr
def oD (p0:List Ap):Option (List Int):=
 (iW p0).bind λW=>
 (kW W cD).bind λJ=>
 (d8 J).bind λh=>
 am (λs:(List Int×Int)=>kX p0 h s.1 s.2) ([Zd.wrap (h.length:Int)],0)
def qj (h:Int):Option Int:=
 some h
def mw (p0:List Int)(J:Int)(h:Int):Option ((Int×Int)⊕Int):=
 if decide (h<(p0.length:Int)) then
  (idx p0 h).bind λW=>
  some (.inl ((if W<J then W else J),Z0.wrap (h+1)))
 else
  (qj J).map Sum.inr
def qk (p0:List Int):Option Int:=
 (idx p0 0).bind λh=>
 am (λs:(Int×Int)=>mw p0 s.1 s.2) (h,1)
def lz (p0:List Int):Option Int:=
 if decide ((p0.length:Int)<1) then
  none
 else
  qk p0
def tU (r3:Int)(a1:List Int)(h:Int):Option (List Int):=
 (mQ (Z2.wrap r3)).bind λa0=>
 (app 140737488355328 a0 ([Zd.wrap h])).bind λW=>
 (jS a1 h).bind λJ=>
 (app 140737488355328 W J).bind λZ=>
 some Z
def pO (p0:List Int)(W:Int)(Z:List Int)(h:Int)(J:Int):Option ((List Int×Int×Int)⊕List Int):=
 if decide (J<(p0.length:Int)) then
  (idx p0 J).bind λa1=>
  (app 17592186044416 Z ([Z2.wrap ((Z2.wrap a1) - (Z2.wrap W))])).bind λa2=>
  (pN (Z2.wrap ((Z2.wrap a1) - (Z2.wrap W)))).bind λa0=>
  some (.inl (a2,(if h<a0 then a0 else h),Z0.wrap (J+1)))
 else
  (tU W Z h).map Sum.inr
def mS (p0:List Int):Option (List Int):=
 (lz p0).bind λh=>
 am (λs:(List Int×Int×Int)=>pO p0 h s.1 s.2.1 s.2.2) ([],0,0)
def lA (h:List Int):Option (List Int×Int):=
 some (h,0)
def jp (p1:List Ap)(J:List Int)(h:Int):Option ((List Int×Int)⊕(List Int×Int)):=
 if decide (h<(p1.length:Int)) then
  (idx p1 h).bind λZ=>
  (ly Z).bind λa0=>
  (app 140737488355328 J a0).bind λW=>
  some (.inl (W,Z0.wrap (h+1)))
 else
  (lA J).map Sum.inr
def eJ (p0:Int)(p1:List Ap)(h:List Int×Bool)(J:Bool):Option (List Int×Int):=
 if J then
  some ([],62)
 else
  if (p1.length:Int)==0 then
   some ([],0)
  else
   if p0==1 then
    (oC p1).bind λa1=>
    some (a1,0)
   else
    if p0==2 then
     (mR h.1).bind λZ=>
     some (Z,0)
    else
     if p0==3 then
      (oD p1).bind λW=>
      some (W,0)
     else
      if p0==4 then
       (mS h.1).bind λa0=>
       some (a0,0)
      else
       am (λs:(List Int×Int)=>jp p1 s.1 s.2) ([],0)
def gV (p0:Int)(p1:List Ap)(J:Bool):Option (List Int×Int):=
 if J then
  some ([],62)
 else
  if decide (64<(p1.length:Int)) then
   some ([],61)
  else
   (et p1 fd).bind λW=>
   if W then
    some ([],60)
   else
    (oA p1).bind λh=>
    if !h.2 then
     if p0==2 then
      eJ p0 p1 h true
     else
      eJ p0 p1 h (p0==4)
    else
     eJ p0 p1 h false
def fu (p0:Int)(p1:List Ap):Option (List Int×Int):=
 if decide (p0<0) then
  gV p0 p1 true
 else
  gV p0 p1 (decide (4<p0))
def Bx (h:Int):Option Int:=
 some h
def qt (W:Int)(h:Int)(J:Int):Option ((Int×Int×Int)⊕Int):=
 some (.inl (h,J,Z0.wrap (W+1)))
def nF (J:Int)(W:Int)(h:Int)(Z:List Int×Int)(x44:Bool):Option ((Int×Int×Int)⊕Int):=
 if x44 then
  qt h h (Z.1.length:Int)
 else
  qt h J W
def vb (p0:List Ap)(Z:Int)(J:Int)(h:Int):Option ((Int×Int×Int)⊕Int):=
 if decide (h<=4) then
  (fu h p0).bind λW=>
  if W.2==0 then
   if decide (J<0) then
    nF Z J h W true
   else
    nF Z J h W (decide ((W.1.length:Int)<J))
  else
   nF Z J h W false
 else
  (Bx Z).map Sum.inr
def q8 (p0:List Ap):Option Int:=
 am (λs:(Int×Int×Int)=>vb p0 s.1 s.2.1 s.2.2) (0,(-1),0)
def nZ (x24:Ap):Option Ap:=
 some x24
def jN (x35:Int)(h:Ap):Option ((Int×Ap)⊕Ap):=
 some (.inl (Z0.wrap (x35+1),h))
def jO (p0:List Ap)(p1:(Ap->Ap->Option Int))(x35:Int)(h:Ap):Option ((Int×Ap)⊕Ap):=
 if decide (x35<(p0.length:Int)) then
  (idx p0 x35).bind λJ=>
  (p1 J h).bind λW=>
  if decide (W<0) then
   (idx p0 x35).bind λZ=>
   jN x35 Z
  else
   jN x35 h
 else
  (nZ h).map Sum.inr
def n5 (p0:List Ap)(p1:(Ap->Ap->Option Int)):Option Ap:=
 (idx p0 0).bind λh=>
 am (λs:(Int×Ap)=>jO p0 p1 s.1 s.2) (1,h)
def ge (p0:List Ap)(p1:(Ap->Ap->Option Int)):Option Ap:=
 if decide ((p0.length:Int)<1) then
  none
 else
  n5 p0 p1
def n7 (x24:Ap):Option Ap:=
 some x24
def jP (x35:Int)(h:Ap):Option ((Int×Ap)⊕Ap):=
 some (.inl (Z0.wrap (x35+1),h))
def jQ (p0:List Ap)(p1:(Ap->Ap->Option Int))(x35:Int)(h:Ap):Option ((Int×Ap)⊕Ap):=
 if decide (x35<(p0.length:Int)) then
  (idx p0 x35).bind λJ=>
  (p1 J h).bind λW=>
  if decide (0<W) then
   (idx p0 x35).bind λZ=>
   jP x35 Z
  else
   jP x35 h
 else
  (n7 h).map Sum.inr
def n8 (p0:List Ap)(p1:(Ap->Ap->Option Int)):Option Ap:=
 (idx p0 0).bind λh=>
 am (λs:(Int×Ap)=>jQ p0 p1 s.1 s.2) (1,h)
def gg (p0:List Ap)(p1:(Ap->Ap->Option Int)):Option Ap:=
 if decide ((p0.length:Int)<1) then
  none
 else
  n8 p0 p1
def jH (p0:List Ap):Option (List Ap):=
 some p0
def fw (x36:bv)(h:Ap):Option (bv×Bool):=
 if h.fKind==0 then
  some (({ x36 with fNulls:=Z0.wrap (x36.fNulls+1) }),true)
 else
  some (x36,true)
def lB (p0:Int)(p1:List Ap):Option bv:=
 (ge p1 cD).bind λW=>
 (gg p1 cD).bind λZ=>
 (jH p1).bind λJ=>
 (fP (λ(s:bv) (x:Ap)=>fw s x) (⟨p0,(p1.length:Int),W,Z,0,0⟩:bv) J).bind λh=>
 if h.2 then
  some h.1
 else
  none
def rv (p0:Ap):Option (List Int):=
 (oB ([p0])).bind λh=>
 (sub h.1 1 h.1.length).bind λJ=>
 some J
def xr (h:Int):Option Int:=
 some (Bj .u32 h)
def pP (p0:List Int)(h:List Int)(J:Int)(W:Int):Option ((Int×Int)⊕Int):=
 if decide (W<(p0.length:Int)) then
  (idx p0 W).bind λZ=>
  (ix h (dP .u32 (dS .u32 J (Xg.wrap Z)) 15)).bind λa1=>
  (h[a1]?).bind λa0=>
  (ix h (dP .u32 (dS .u32 a0 (aX .u32 (dS .u32 J (Xg.wrap Z)) 4)) 15)).bind λa3=>
  (h[a3]?).bind λa2=>
  some (.inl (dS .u32 a2 (aX .u32 (dS .u32 a0 (aX .u32 (dS .u32 J (Xg.wrap Z)) 4)) 4),Z0.wrap (W+1)))
 else
  (xr J).map Sum.inr
def mT (p0:List Int)(h:List Int):Option Int:=
 am (λs:(Int×Int)=>pP p0 h s.1 s.2) (4294967295,0)
def sO (h:Int)(J:List Int):Option ((Int×List Int)⊕Int):=
 some (.inl (Z0.wrap (h+1),J))
def sP (J:Int)(h:List Int)(Z:Int):Option ((Int×List Int)⊕Int):=
 (ix h J).bind λW=>
 (h[W]?).bind λa0=>
 sO J (h.set W Z)
def mU (Z:Int)(W:List Int)(h:Int)(J:Int):Option ((Int×Int)⊕((Int×List Int)⊕Int)):=
 if decide (J<4) then
  some (.inl (dS .u32 (aX .u32 h 1) (Xg.wrap (3988292384*(dP .u32 h 1))),Z0.wrap (J+1)))
 else
  (sP Z W h).map Sum.inr
def pQ (p0:List Int)(h:Int)(J:List Int):Option ((Int×List Int)⊕Int):=
 if decide (h<16) then
  am (λs:(Int×Int)=>mU h J s.1 s.2) (Xg.wrap h,0)
 else
  (mT p0 J).map Sum.inr
def iB (p0:List Int):Option Int:=
 am (λs:(Int×List Int)=>pQ p0 s.1 s.2) (0,(Z5 16 0:List Int))
def kY (p0:List Int):Option (List Int):=
 (iB p0).bind λh=>
 (app 140737488355328 p0 ([Zd.wrap (aX .u32 h 24),Zd.wrap (aX .u32 h 16),Zd.wrap (aX .u32 h 8),Zd.wrap h])).bind λJ=>
 some J
def nG (p1:List Ap)(W:Int):Option (List Int×Int):=
 (fu W p1).bind λh=>
 if h.2 != 0 then
  some ([],h.2)
 else
  (lB W p1).bind λJ=>
  (rv J.fMin).bind λa5=>
  (app 140737488355328 ([Zd.wrap W,Zd.wrap J.fMany,Zd.wrap J.fNulls]) a5).bind λa2=>
  (rv J.fMax).bind λa1=>
  (app 140737488355328 a2 a1).bind λa4=>
  (app 140737488355328 a4 ([Zd.wrap (aX .i64 (h.1.length:Int) 8),Zd.wrap (h.1.length:Int)])).bind λa3=>
  (app 140737488355328 a3 h.1).bind λZ=>
  (kY Z).bind λa0=>
  some (a0,0)
def oE (p0:Int)(p1:List Ap):Option (List Int×Int):=
 if (p1.length:Int)==0 then
  some ([],70)
 else
  if p0==(-1) then
   (q8 p1).bind λh=>
   nG p1 h
  else
   nG p1 p0
def oF (h:Bool):Option Bool:=
 some h
def uv (p0:Ap)(x46:Ap):Option Bool:=
 if decide (0<=p0.fKind) then
  if decide (p0.fKind<=3) then
   if decide (p0=x46) then
    oF (decide ((p0.fText.length:Int)<=64))
   else
    oF false
  else
   oF false
 else
  oF false
def uw (p0:Ap)(x35:Ap):Option Bool:=
 if p0.fKind==3 then
  uv p0 ({ x35 with fText:=p0.fText })
 else
  uv p0 x35
def ux (p0:Ap)(x24:Ap):Option Bool:=
 if p0.fKind==2 then
  uw p0 ({ x24 with fInt:=p0.fInt })
 else
  uw p0 x24
def sQ (p0:Ap):Option Bool:=
 if p0.fKind==1 then
  ux p0 ({ (⟨p0.fKind,false,0,[]⟩:Ap) with fBool:=p0.fBool })
 else
  ux p0 (⟨p0.fKind,false,0,[]⟩:Ap)
def wJ:Option Int:=
 some 0
def lY (x24:Int)(x35:Bool):Option (Int⊕Int):=
 if x35 then
  (some 62).map Sum.inr
 else
  some (.inl (Z0.wrap (x24+1)))
def oZ (p0:Int)(p1:List Ap)(x24:Int):Option (Int⊕Int):=
 if decide (x24<(p1.length:Int)) then
  if p0==2 then
   (idx p1 x24).bind λJ=>
   lY x24 (J.fKind != 2)
  else
   if p0==4 then
    (idx p1 x24).bind λh=>
    lY x24 (h.fKind != 2)
   else
    lY x24 false
 else
  (wJ).map Sum.inr
def rI (p0:Int)(p1:List Ap):Option Int:=
 am (λs:Int=>oZ p0 p1 s) 0
def lZ (p0:Int)(p1:List Ap)(h:Int):Option (Int⊕Int):=
 if decide (h<(p1.length:Int)) then
  (idx p1 h).bind λJ=>
  (sQ J).bind λW=>
  if !W then
   (some 60).map Sum.inr
  else
   some (.inl (Z0.wrap (h+1)))
 else
  (rI p0 p1).map Sum.inr
def o4 (p0:Int)(p1:List Ap)(h:Bool):Option Int:=
 if h then
  some 62
 else
  if decide (64<(p1.length:Int)) then
   some 61
  else
   am (λs:Int=>lZ p0 p1 s) 0
def rS (p0:Int)(p1:List Ap):Option Int:=
 if decide (p0<0) then
  o4 p0 p1 true
 else
  o4 p0 p1 (decide (4<p0))
def rT (x6:List d3):Option (List d3):=
 some x6
def nH (J:Int)(h:List d3):Option ((List d3×Int)⊕List d3):=
 some (.inl (h,Z0.wrap (J+1)))
def lC (p0:List Ap)(h:List d3)(J:Int)(a1:Bool):Option ((List d3×Int)⊕List d3):=
 if a1 then
  (idx h (Z0.wrap ((h.length:Int) - 1))).bind λx44=>
  (sub h 0 (Z0.wrap ((h.length:Int) - 1))).bind λa0=>
  (app 2932031007402 ([]) a0).bind λa3=>
  (app 2932031007402 a3 ([{ x44 with fMany:=Z0.wrap (x44.fMany+1) }])).bind λa2=>
  nH J a2
 else
  (idx p0 J).bind λZ=>
  (app 2932031007402 h ([(⟨1,Z⟩:d3)])).bind λW=>
  nH J W
def pR (p0:List Ap)(J:List d3)(h:Int):Option ((List d3×Int)⊕List d3):=
 if decide (h<(p0.length:Int)) then
  if decide (0<h) then
   (idx p0 h).bind λW=>
   (idx p0 (Z0.wrap (h - 1))).bind λZ=>
   lC p0 J h (decide (W=Z))
  else
   lC p0 J h false
 else
  (rT J).map Sum.inr
def sA (p0:List Ap):Option (List d3):=
 am (λs:(List d3×Int)=>pR p0 s.1 s.2) ([],0)
def Ep (x6:List Int):Option (List Int):=
 some x6
def jq (p0:Int)(J:List Int)(h:Int):Option ((List Int×Int)⊕List Int):=
 if decide (0<=h) then
  (chk (decide (0<=h))).bind λZ=>
  (app 140737488355328 J ([Zd.wrap (aX .u64 p0 h)])).bind λW=>
  some (.inl (W,Z0.wrap (h - 8)))
 else
  (Ep J).map Sum.inr
def pE (p0:Int):Option (List Int):=
 am (λs:(List Int×Int)=>jq p0 s.1 s.2) ([],56)
def xt (p0:Ap)(a2:Bool):Option (List Int):=
 if a2 then
  (app 140737488355328 ([Zd.wrap p0.fKind]) ([1])).bind λa1=>
  some a1
 else
  if p0.fKind==1 then
   (app 140737488355328 ([Zd.wrap p0.fKind]) ([0])).bind λa0=>
   some a0
  else
   if p0.fKind==2 then
    (pE (Z2.wrap p0.fInt)).bind λW=>
    (app 140737488355328 ([Zd.wrap p0.fKind]) W).bind λZ=>
    some Z
   else
    if p0.fKind==3 then
     (app 140737488355328 ([Zd.wrap p0.fKind]) ([Zd.wrap (p0.fText.length:Int)])).bind λJ=>
     (app 140737488355328 J p0.fText).bind λh=>
     some h
    else
     some ([Zd.wrap p0.fKind])
def vc (p0:Ap):Option (List Int):=
 if p0.fKind==1 then
  xt p0 p0.fBool
 else
  xt p0 false
def yP (x24:List Int):Option (List Int):=
 some x24
def yQ (x35:Int)(x46:List Int):Option ((List Int×Int)⊕List Int):=
 some (.inl (x46,Z0.wrap (x35+1)))
def yR (x35:Int)(J:List Int)(x144:Int):Option ((List Int×Int)⊕List Int):=
 (app 140737488355328 J ([Zd.wrap x144])).bind λh=>
 yQ x35 h
def oG (x35:Int)(J:List Int)(h:Int):Option ((List Int×Int)⊕((List Int×Int)⊕List Int)):=
 if decide (128<=h) then
  (app 140737488355328 J ([Zd.wrap (Z2.wrap ((h.tmod 128)+128))])).bind λW=>
  some (.inl (W,Z2.wrap (h.tdiv 128)))
 else
  (yR x35 J h).map Sum.inr
def uy (h:List Int)(x35:Int)(J:Int):Option ((List Int×Int)⊕List Int):=
 am (λs:(List Int×Int)=>oG x35 s.1 s.2) (h,J)
def uz (p0:List Ap)(h:List Int)(x35:Int):Option ((List Int×Int)⊕List Int):=
 if decide (x35<(p0.length:Int)) then
  (idx p0 x35).bind λW=>
  (idx p0 (Z0.wrap (x35 - 1))).bind λJ=>
  if decide ((Z0.wrap (W.fInt - J.fInt))<0) then
   uy h x35 (Z2.wrap (Z0.wrap ((Z0.wrap ((-2)*(Z0.wrap (W.fInt - J.fInt)))) - 1)))
  else
   uy h x35 (Z2.wrap (Z0.wrap (2*(Z0.wrap (W.fInt - J.fInt)))))
 else
  (yP h).map Sum.inr
def vM (p0:List Ap):Option (List Int):=
 (idx p0 0).bind λJ=>
 (pE (Z2.wrap J.fInt)).bind λh=>
 am (λs:(List Int×Int)=>uz p0 s.1 s.2) (h,1)
def lD (h:Bool):Option Bool:=
 some h
def pS (h:Bool):Option Bool:=
 some h
def qu (p0:Ap)(p1:Ap):Option Bool:=
 if p0.fKind != p1.fKind then
  some (decide (p0.fKind<p1.fKind))
 else
  if p0.fKind==1 then
   if !p0.fBool then
    lD p1.fBool
   else
    lD false
  else
   if p0.fKind==2 then
    some (decide (p0.fInt<p1.fInt))
   else
    if p0.fKind==3 then
     pS (ltB p0.fText p1.fText)
    else
     pS false
def iX (p0:Ap)(p1:Ap):Option Int:=
 (qu p0 p1).bind λh=>
 (qu p1 p0).bind λJ=>
 if h then
  some (-1)
 else
  if J then
   some 1
  else
   some 0
def yS (x6:List Ap):Option (List Ap):=
 some x6
def yT (J:Int)(h:List Ap):Option ((List Ap×Int)⊕List Ap):=
 some (.inl (h,Z0.wrap (J+1)))
def uA (J:Int)(h:List Ap):Option ((List Ap×Int)⊕List Ap):=
 yT J h
def yU (p0:List Ap)(h:Int)(J:List Ap)(W:Bool):Option ((List Ap×Int)⊕List Ap):=
 if !W then
  (idx p0 h).bind λZ=>
  (app 3518437208883 J ([Z])).bind λa0=>
  uA h a0
 else
  uA h J
def uB (x82:Int)(h:List Ap)(J:Bool):Option ((List Ap×Bool×Int)⊕((List Ap×Int)⊕List Ap)):=
 some (.inl (h,J,Z0.wrap (x82+1)))
def uC (J:List Ap)(x82:Int)(Z:List Ap)(h:Bool):Option ((List Ap×Bool×Int)⊕((List Ap×Int)⊕List Ap)):=
 (idx J x82).bind λW=>
 (app 3518437208883 Z ([W])).bind λa0=>
 uB x82 a0 h
def uD (p0:List Ap)(J:List Ap)(a1:Int)(h:List Ap)(a0:Bool)(x82:Int)(a3:Int)(a2:Bool):Option ((List Ap×Bool×Int)⊕((List Ap×Int)⊕List Ap)):=
 if a2 then
  (idx p0 a1).bind λZ=>
  (app 3518437208883 h ([Z])).bind λW=>
  if a3==0 then
   uB x82 W true
  else
   uC J x82 W true
 else
  uC J x82 h a0
def uE (p0:List Ap)(W:List Ap)(h:Int)(Z:List Ap)(J:Bool)(x82:Int):Option ((List Ap×Bool×Int)⊕((List Ap×Int)⊕List Ap)):=
 if decide (x82<(W.length:Int)) then
  (idx p0 h).bind λa2=>
  (idx W x82).bind λa1=>
  (iX a2 a1).bind λa0=>
  if !J then
   uD p0 W h Z J x82 a0 (decide (a0<=0))
  else
   uD p0 W h Z J x82 a0 false
 else
  (yU p0 h Z J).map Sum.inr
def uF (p0:List Ap)(h:List Ap)(J:Int):Option ((List Ap×Int)⊕List Ap):=
 if decide (J<(p0.length:Int)) then
  am (λs:(List Ap×Bool×Int)=>uE p0 h J s.1 s.2.1 s.2.2) ([],false,0)
 else
  (yS h).map Sum.inr
def vN (p0:List Ap):Option (List Ap):=
 am (λs:(List Ap×Int)=>uF p0 s.1 s.2) ([],0)
def yV (h:Int):Option Int:=
 some h
def uG (J:Int)(h:Int):Option ((Int×Int)⊕Int):=
 if decide (0<J) then
  some (.inl (Z2.wrap (J.tdiv 2),Z0.wrap (h+1)))
 else
  (yV h).map Sum.inr
def qv (p0:Int):Option Int:=
 am (λs:(Int×Int)=>uG s.1 s.2) (p0,0)
def xu (h:List Int):Option (List Int):=
 some h
def xv (h:Int)(x36:List Int):Option ((List Int×Int)⊕List Int):=
 some (.inl (x36,Z0.wrap (h+8)))
def xw (W:List Int)(Z:Int)(J:Int):Option ((List Int×Int)⊕List Int):=
 (app 140737488355328 W ([J])).bind λh=>
 xv Z h
def sR (J:Int)(h:Int):Option ((Int×Int)⊕((List Int×Int)⊕List Int)):=
 some (.inl (h,Z0.wrap (J - 1)))
def sS (x6:List Int)(a0:List Int)(W:Int)(J:Int)(h:Int):Option ((Int×Int)⊕((List Int×Int)⊕List Int)):=
 if decide (0<=h) then
  if decide ((Z0.wrap (W+h))<(x6.length:Int)) then
   (idx x6 (Z0.wrap (W+h))).bind λZ=>
   sR h (Zd.wrap ((Zd.wrap (J*2))+Z))
  else
   sR h (Zd.wrap (J*2))
 else
  (xw a0 W J).map Sum.inr
def sT (x6:List Int)(h:List Int)(J:Int):Option ((List Int×Int)⊕List Int):=
 if decide (J<(x6.length:Int)) then
  am (λs:(Int×Int)=>sS x6 h J s.1 s.2) (0,7)
 else
  (xu h).map Sum.inr
def sU (x6:List Int):Option (List Int):=
 am (λs:(List Int×Int)=>sT x6 s.1 s.2) ([],0)
def xy (h:Int)(x122:List Int):Option ((List Int×Int)⊕List Int):=
 some (.inl (x122,Z0.wrap (h+1)))
def sV (p1:Int)(a0:Int)(W:List Int)(J:Int)(h:Int):Option ((List Int×Int×Int)⊕((List Int×Int)⊕List Int)):=
 if decide (h<p1) then
  (app 140737488355328 W ([Zd.wrap (J.tmod 2)])).bind λZ=>
  some (.inl (Z,Z2.wrap (J.tdiv 2),Z0.wrap (h+1)))
 else
  (xy a0 W).map Sum.inr
def sW (p0:List Int)(p1:Int)(J:List Int)(h:Int):Option ((List Int×Int)⊕List Int):=
 if decide (h<(p0.length:Int)) then
  (idx p0 h).bind λW=>
  am (λs:(List Int×Int×Int)=>sV p1 h s.1 s.2.1 s.2.2) (J,W,0)
 else
  (sU J).map Sum.inr
def rx (p0:List Int)(p1:Int):Option (List Int):=
 am (λs:(List Int×Int)=>sW p0 p1 s.1 s.2) ([],0)
def Aq (r3:List Ap)(Z:List Int)(J:List Int):Option (List Int):=
 (qv (Z2.wrap (Z0.wrap ((r3.length:Int) - 1)))).bind λa0=>
 (rx J a0).bind λh=>
 (app 140737488355328 Z h).bind λW=>
 some W
def Ar (h:Int)(J:List Int):Option ((List Int×Int)⊕List Int):=
 some (.inl (J,Z0.wrap (h+1)))
def vO (h:Int)(J:List Int):Option ((List Int×Int)⊕((List Int×Int)⊕List Int)):=
 some (.inl (J,Z0.wrap (h+1)))
def vP (p0:List Ap)(Z:List Ap)(W:Int)(J:List Int)(h:Int):Option ((List Int×Int)⊕((List Int×Int)⊕List Int)):=
 if decide (h<(Z.length:Int)) then
  (idx Z h).bind λa0=>
  (idx p0 W).bind λa2=>
  if decide (a0=a2) then
   (app 17592186044416 J ([Z2.wrap h])).bind λa1=>
   vO h a1
  else
   vO h J
 else
  (Ar W J).map Sum.inr
def rU (p0:List Ap)(W:List Ap)(Z:List Int)(h:List Int)(J:Int):Option ((List Int×Int)⊕List Int):=
 if decide (J<(p0.length:Int)) then
  am (λs:(List Int×Int)=>vP p0 W J s.1 s.2) (h,0)
 else
  (Aq W Z h).map Sum.inr
def Au (p0:List Ap)(J:List Ap)(h:List Int):Option (List Int):=
 am (λs:(List Int×Int)=>rU p0 J h s.1 s.2) ([],0)
def vQ (p0:List Ap)(J:List Ap)(W:List Int)(h:Int):Option ((List Int×Int)⊕List Int):=
 if decide (h<(J.length:Int)) then
  (idx J h).bind λZ=>
  (vc Z).bind λa0=>
  (app 140737488355328 W a0).bind λa1=>
  some (.inl (a1,Z0.wrap (h+1)))
 else
  (Au p0 J W).map Sum.inr
def yz (p0:List Ap):Option (List Int):=
 (vN p0).bind λh=>
 am (λs:(List Int×Int)=>vQ p0 h s.1 s.2) ([Zd.wrap (h.length:Int)],0)
def yW (Z:Int)(a1:List Int)(h:Int):Option (List Int):=
 (pE (Z2.wrap Z)).bind λa0=>
 (app 140737488355328 a0 ([Zd.wrap h])).bind λW=>
 (rx a1 h).bind λa2=>
 (app 140737488355328 W a2).bind λJ=>
 some J
def q9 (p0:List Ap)(h:Int)(a0:List Int)(J:Int)(W:Int):Option ((List Int×Int×Int)⊕List Int):=
 if decide (W<(p0.length:Int)) then
  (idx p0 W).bind λx86=>
  (app 17592186044416 a0 ([Z2.wrap ((Z2.wrap x86.fInt) - (Z2.wrap h))])).bind λa1=>
  (qv (Z2.wrap ((Z2.wrap x86.fInt) - (Z2.wrap h)))).bind λZ=>
  some (.inl (a1,(if J<Z then Z else J),Z0.wrap (W+1)))
 else
  (yW h a0 J).map Sum.inr
def yX (p0:List Ap)(h:Int):Option (List Int):=
 am (λs:(List Int×Int×Int)=>q9 p0 h s.1 s.2.1 s.2.2) ([],0,0)
def uH (p0:List Ap)(J:Int)(h:Int):Option ((Int×Int)⊕List Int):=
 if decide (h<(p0.length:Int)) then
  (idx p0 h).bind λx144=>
  some (.inl ((if x144.fInt<J then x144.fInt else J),Z0.wrap (h+1)))
 else
  (yX p0 J).map Sum.inr
def vR (p0:List Ap):Option (List Int):=
 (idx p0 0).bind λh=>
 am (λs:(Int×Int)=>uH p0 s.1 s.2) (h.fInt,0)
def iC (h:List Int):Option (List Int×Int):=
 some (h,0)
def sX (J:List d3)(x46:List Int)(h:Int):Option ((List Int×Int)⊕(List Int×Int)):=
 if decide (h<(J.length:Int)) then
  (idx J h).bind λZ=>
  (app 140737488355328 x46 ([Zd.wrap Z.fMany])).bind λa1=>
  (idx J h).bind λx86=>
  (vc x86.fValue).bind λa0=>
  (app 140737488355328 a1 a0).bind λW=>
  some (.inl (W,Z0.wrap (h+1)))
 else
  (iC x46).map Sum.inr
def sY (p1:List Ap)(J:List Int)(h:Int):Option ((List Int×Int)⊕(List Int×Int)):=
 if decide (h<(p1.length:Int)) then
  (idx p1 h).bind λa0=>
  (vc a0).bind λW=>
  (app 140737488355328 J W).bind λZ=>
  some (.inl (Z,Z0.wrap (h+1)))
 else
  (iC J).map Sum.inr
def sZ (p0:Int)(p1:List Ap)(r5:Int)(J:Bool):Option (List Int×Int):=
 if J then
  some ([],r5)
 else
  if p0==1 then
   (sA p1).bind λa0=>
   am (λs:(List Int×Int)=>sX a0 s.1 s.2) ([],0)
  else
   if p0==2 then
    (vM p1).bind λW=>
    iC W
   else
    if p0==3 then
     (yz p1).bind λh=>
     iC h
    else
     if p0==4 then
      (vR p1).bind λZ=>
      iC Z
     else
      am (λs:(List Int×Int)=>sY p1 s.1 s.2) ([],0)
def tV (p0:Int)(p1:List Ap):Option (List Int×Int):=
 (rS p0 p1).bind λh=>
 if h != 0 then
  sZ p0 p1 h true
 else
  sZ p0 p1 h ((p1.length:Int)==0)
def yY (h:cd):Option cd:=
 some h
def uI (h:Int)(J:cd):Option ((Int×cd)⊕cd):=
 some (.inl (Z0.wrap (h+1),J))
def ra (p1:List Ap)(h:Int)(x196:cd):Option ((Int×cd)⊕cd):=
 (idx p1 h).bind λJ=>
 if J.fKind==0 then
  uI h ({ x196 with fNulls:=Z0.wrap (x196.fNulls+1) })
 else
  uI h x196
def rc (p1:List Ap)(h:Int)(x144:cd):Option ((Int×cd)⊕cd):=
 (idx p1 h).bind λJ=>
 (iX J x144.fMax).bind λZ=>
 if decide (0<Z) then
  (idx p1 h).bind λW=>
  ra p1 h ({ x144 with fMax:=W })
 else
  ra p1 h x144
def uJ (p1:List Ap)(h:Int)(x86:cd):Option ((Int×cd)⊕cd):=
 if decide (h<(p1.length:Int)) then
  (idx p1 h).bind λZ=>
  (iX Z x86.fMin).bind λJ=>
  if decide (J<0) then
   (idx p1 h).bind λW=>
   rc p1 h ({ x86 with fMin:=W })
  else
   rc p1 h x86
 else
  (yY x86).map Sum.inr
def vS (p0:Int)(p1:List Ap):Option cd:=
 (idx p1 0).bind λJ=>
 (idx p1 0).bind λh=>
 am (λs:(Int×cd)=>uJ p1 s.1 s.2) (0,(⟨p0,(p1.length:Int),J,h,0,0⟩:cd))
def Cu (x6:Int):Option Int:=
 some (dS .u32 x6 4294967295)
def Cv (h:Int)(J:Int):Option ((Int×Int)⊕Int):=
 some (.inl (J,Z0.wrap (h+1)))
def xz (J:Int)(h:Int):Option ((Int×Int)⊕((Int×Int)⊕Int)):=
 some (.inl (h,Z0.wrap (J+1)))
def xA (W:Int)(h:Int)(J:Int):Option ((Int×Int)⊕((Int×Int)⊕Int)):=
 if decide (J<8) then
  if (h.tmod 2)==1 then
   xz J (dS .u32 (Xg.wrap (h.tdiv 2)) 3988292384)
  else
   xz J (Xg.wrap (h.tdiv 2))
 else
  (Cv W h).map Sum.inr
def xB (p0:List Int)(J:Int)(h:Int):Option ((Int×Int)⊕Int):=
 if decide (h<(p0.length:Int)) then
  (idx p0 h).bind λx36=>
  am (λs:(Int×Int)=>xA h s.1 s.2) (dS .u32 J (Xg.wrap x36),0)
 else
  (Cu J).map Sum.inr
def vd (p0:List Int):Option Int:=
 am (λs:(Int×Int)=>xB p0 s.1 s.2) (4294967295,0)
def ve (x6:Int):Option Int:=
 some x6
def qw (p0:List Int)(J:Int)(h:Int):Option ((Int×Int)⊕Int):=
 if decide (h<8) then
  (idx p0 h).bind λW=>
  some (.inl (bOr .u64 (dZ .u64 J 8) (Z2.wrap W),Z0.wrap (h+1)))
 else
  (ve J).map Sum.inr
def re (p0:List Int):Option Int:=
 am (λs:(Int×Int)=>qw p0 s.1 s.2) (0,0)
def kZ (h:List Int)(a2:Bool):Option (Ap×List Int×Bool):=
 if a2 then
  (idx h 0).bind λZ=>
  (sub h 1 (Zd.wrap (1+Z))).bind λa1=>
  (pL a1).bind λW=>
  (idx h 0).bind λa0=>
  (sub h (Zd.wrap (1+a0)) h.length).bind λJ=>
  some (W,J,true)
 else
  some ((⟨0,false,0,[]⟩:Ap),[],false)
def pT (a0:Int)(h:List Int)(a2:Bool):Option (Ap×List Int×Bool):=
 if a2 then
  (re h).bind λa3=>
  (eI (Z0.wrap a3)).bind λW=>
  (sub h 8 h.length).bind λZ=>
  some (W,Z,true)
 else
  if (Z0.wrap a0)==3 then
   if decide (1<=(h.length:Int)) then
    (idx h 0).bind λJ=>
    if decide (J<=64) then
     (idx h 0).bind λa1=>
     kZ h (decide ((Z0.wrap a1)<(h.length:Int)))
    else
     kZ h false
   else
    kZ h false
  else
   kZ h false
def k8 (J:Int)(h:List Int)(Z:Bool):Option (Ap×List Int×Bool):=
 if Z then
  (idx h 0).bind λx86=>
  (pK (x86==1)).bind λW=>
  (sub h 1 h.length).bind λa0=>
  some (W,a0,true)
 else
  if (Z0.wrap J)==2 then
   pT J h (decide (8<=(h.length:Int)))
  else
   pT J h false
def tW (p0:List Int):Option (Ap×List Int×Bool):=
 if (p0.length:Int)==0 then
  some ((⟨0,false,0,[]⟩:Ap),[],false)
 else
  (idx p0 0).bind λJ=>
  (sub p0 1 p0.length).bind λh=>
  if (Z0.wrap J)==0 then
   (lx).bind λZ=>
   some (Z,h,true)
  else
   if (Z0.wrap J)==1 then
    if decide (1<=(h.length:Int)) then
     (idx h 0).bind λW=>
     k8 J h (decide (W<=1))
    else
     k8 J h false
   else
    k8 J h false
def vf (h:List Int)(J:List Ap):Option (List Ap×Int):=
 if decide (0<(h.length:Int)) then
  some ([],30)
 else
  some (J,0)
def k9 (Z:Int)(x82:List Int)(W:List Ap)(J:Int):Option ((List Int×List Ap×Int)⊕(List Ap×Int)):=
 if decide (J<(Z0.wrap Z)) then
  (tW x82).bind λh=>
  if !h.2.2 then
   (some ([],30)).map Sum.inr
  else
   (app 3518437208883 W ([h.1])).bind λa0=>
   some (.inl (h.2.1,a0,Z0.wrap (J+1)))
 else
  (vf x82 W).map Sum.inr
def qx (p0:List Int)(W:Bool):Option (List Ap×Int):=
 if W then
  some ([],30)
 else
  (idx p0 0).bind λh=>
  (sub p0 1 p0.length).bind λJ=>
  am (λs:(List Int×List Ap×Int)=>k9 h s.1 s.2.1 s.2.2) (J,[],0)
def ml (p0:List Int):Option (List Ap×Int):=
 if (p0.length:Int)==0 then
  qx p0 true
 else
  (idx p0 0).bind λh=>
  qx p0 (decide (16<h))
def By:Option (Ap×List Int×Bool):=
 some ((⟨0,false,0,[]⟩:Ap),[],false)
def nI (p0:List Int)(h:Int)(x24:Bool):Option (Int⊕(Ap×List Int×Bool)):=
 if x24 then
  (sub p0 0 h).bind λa1=>
  (app 140737488355328 ([1]) a1).bind λW=>
  (ml W).bind λJ=>
  if J.2==0 then
   (idx J.1 0).bind λa0=>
   (sub p0 h p0.length).bind λZ=>
   (some (a0,Z,true)).map Sum.inr
  else
   some (.inl (Z0.wrap (h+1)))
 else
  (By).map Sum.inr
def nJ (p0:List Int)(h:Int):Option (Int⊕(Ap×List Int×Bool)):=
 if decide (h<=(p0.length:Int)) then
  nI p0 h (decide (h<=66))
 else
  nI p0 h false
def mn (p0:List Int):Option (Ap×List Int×Bool):=
 am (λs:Int=>nJ p0 s) 1
def o5 (p0:List Int)(a1:Int)(a5:Int)(a0:Int)(a4:Ap×List Int×Bool)(h:Ap×List Int×Bool)(a3:Bool):Option (bv×List Int×Bool):=
 if a3 then
  some ((⟨0,0,Ap.zero,Ap.zero,0,0⟩:bv),[],false)
 else
  (idx h.2.1 0).bind λJ=>
  (idx h.2.1 1).bind λW=>
  (sub h.2.1 2 h.2.1.length).bind λZ=>
  if decide ((Z.length:Int)<(Z0.wrap ((bOr .i64 (dZ .i64 (Z0.wrap J) 8) (Z0.wrap W))+4))) then
   some ((⟨0,0,Ap.zero,Ap.zero,0,0⟩:bv),[],false)
  else
   (sub Z 0 (bOr .i64 (dZ .i64 (Z0.wrap J) 8) (Z0.wrap W))).bind λa2=>
   some ({ { { (⟨Z0.wrap a1,Z0.wrap a5,Ap.zero,Ap.zero,Z0.wrap a0,0⟩:bv) with fMin:=a4.1 } with fMax:=h.1 } with fBytes:=Z0.wrap ((Z0.wrap ((Z0.wrap ((p0.length:Int) - (Z.length:Int)))+(bOr .i64 (dZ .i64 (Z0.wrap J) 8) (Z0.wrap W))))+4) },a2,true)
def gE (p0:List Int)(x7:Bool):Option (bv×List Int×Bool):=
 if x7 then
  some ((⟨0,0,Ap.zero,Ap.zero,0,0⟩:bv),[],false)
 else
  (idx p0 0).bind λZ=>
  (idx p0 1).bind λa0=>
  (idx p0 2).bind λW=>
  (sub p0 3 p0.length).bind λa1=>
  (mn a1).bind λh=>
  (mn h.2.1).bind λJ=>
  if !h.2.2 then
   o5 p0 Z a0 W h J true
  else
   if !J.2.2 then
    o5 p0 Z a0 W h J true
   else
    o5 p0 Z a0 W h J (decide ((J.2.1.length:Int)<2))
def iY (p0:List Int):Option (bv×List Int×Bool):=
 if decide ((p0.length:Int)<3) then
  gE p0 true
 else
  (idx p0 0).bind λZ=>
  if decide (4<Z) then
   gE p0 true
  else
   (idx p0 1).bind λW=>
   if W==0 then
    gE p0 true
   else
    (idx p0 1).bind λh=>
    if decide (64<h) then
     gE p0 true
    else
     (idx p0 2).bind λa0=>
     (idx p0 1).bind λJ=>
     gE p0 (decide (J<a0))
def Av (p0:List Int):Option (bv×Int):=
 (iY p0).bind λh=>
 if !h.2.2 then
  some ((⟨0,0,Ap.zero,Ap.zero,0,0⟩:bv),70)
 else
  some (h.1,0)
def kM (p0:List Int):Option (List Int):=
 (app 140737488355328 ([]) p0).bind λh=>
 some h
def pU:Option Bool:=
 some true
def gh (p0:List Int)(p1:List Int)(h:Int):Option (Int⊕Bool):=
 if decide (h<(p0.length:Int)) then
  (idx p0 h).bind λW=>
  (idx p1 h).bind λJ=>
  if W != J then
   (some false).map Sum.inr
  else
   some (.inl (Z0.wrap (h+1)))
 else
  (pU).map Sum.inr
def gw (p0:List Int)(p1:List Int):Option Bool:=
 if (p0.length:Int) != (p1.length:Int) then
  some false
 else
  am (λs:Int=>gh p0 p1 s) 0
def uK (p0:ah):Option (Ap×ah):=
 some ((⟨0,false,0,[]⟩:Ap),{ p0 with fOk:=false })
def ie (p0:ah)(h:Int)(a1:Bool):Option (Int⊕(Ap×ah)):=
 if a1 then
  (sub p0.fB 0 h).bind λa2=>
  (app 140737488355328 ([1]) a2).bind λa0=>
  (ml a0).bind λJ=>
  if J.2==0 then
   (sub p0.fB h p0.fB.length).bind λZ=>
   (idx J.1 0).bind λW=>
   (some (W,{ p0 with fB:=Z })).map Sum.inr
  else
   some (.inl (Z0.wrap (h+1)))
 else
  (uK p0).map Sum.inr
def ig (p0:ah)(h:Int):Option (Int⊕(Ap×ah)):=
 if decide (h<=(p0.fB.length:Int)) then
  ie p0 h (decide (h<=66))
 else
  ie p0 h false
def dD (p0:ah):Option (Ap×ah):=
 am (λs:Int=>ig p0 s) 1
def cU (p0:ah)(p1:Int):Option (List Int×ah):=
 if decide ((p0.fB.length:Int)<p1) then
  (mk 281474976710656 p1 0).bind λW=>
  some (W,{ { p0 with fB:=[] } with fOk:=false })
 else
  (mk 281474976710656 p1 0).bind λJ=>
  (sub p0.fB p1 p0.fB.length).bind λh=>
  some ((cpy J p0.fB),{ p0 with fB:=h })
def G7 (p0:Int)(p1:Int):Option (Int×Int):=
 some (Xg.wrap (aX .u64 (Z2.wrap ((Z2.wrap p0)*(Z2.wrap p1))) 32),Xg.wrap (Z2.wrap ((Z2.wrap p0)*(Z2.wrap p1))))
def rV (p0:Int)(p1:Int):Option (Int×Int):=
 some (Z2.wrap ((Z2.wrap ((Z2.wrap ((aX .u64 p0 32)*(aX .u64 p1 32)))+(aX .u64 (Z2.wrap ((Z2.wrap ((aX .u64 p0 32)*(dP .u64 p1 4294967295)))+(aX .u64 (Z2.wrap ((dP .u64 p0 4294967295)*(dP .u64 p1 4294967295))) 32))) 32)))+(aX .u64 (Z2.wrap ((dP .u64 (Z2.wrap ((Z2.wrap ((aX .u64 p0 32)*(dP .u64 p1 4294967295)))+(aX .u64 (Z2.wrap ((dP .u64 p0 4294967295)*(dP .u64 p1 4294967295))) 32))) 4294967295)+(Z2.wrap ((dP .u64 p0 4294967295)*(aX .u64 p1 32))))) 32)),Z2.wrap (p0*p1))
def vT (p0:Int)(p1:Int):Option (Int×Int):=
 (rV p0 p1).bind λh=>
 some (h.1,h.2)
def ii (h:List Ap):Option (List Ap):=
 some h
def ij (J:Int)(h:List Ap):Option ((Int×List Ap)⊕List Ap):=
 if decide (J<(h.length:Int)) then
  (vw h J h.length).bind λW=>
  (vw h 0 J).bind λZ=>
  (chk (Xl (min Z.2 W.2) cR)).bind λa1=>
  (cpv h W Z).bind λa0=>
  some (.inl (Z0.wrap (J+((min Z.2 W.2:Nat):Int)),a0))
 else
  (ii h).map Sum.inr
def ik (p0:List Ap)(J:Int×Int):Option (List Ap):=
 (mk 7036874417766 (Z0.wrap J.2) Ap.zero).bind λh=>
 am (λs:(Int×List Ap)=>ij s.1 s.2) (((min p0.length h.length:Nat):Int),(cpy h p0))
def fk (p0:List Ap)(h:Int×Int)(J:Bool):Option (List Ap):=
 if J then
  none
 else
  ik p0 h
def il (p0:List Ap)(p1:Int):Option (List Ap):=
 (vT (Z2.wrap (p0.length:Int)) (Z2.wrap p1)).bind λh=>
 if decide (0<h.1) then
  fk p0 h true
 else
  fk p0 h (decide (9223372036854775807<h.2))
def fg (p0:List Ap)(p1:Int):Option (List Ap):=
 if decide (p1<0) then
  none
 else
  il p0 p1
def n9 (J:List Int×ah)(h:Int):Option (Int×ah):=
 some (h,J.2)
def gJ (h:List Int×ah)(W:Int)(J:Int):Option ((Int×Int)⊕(Int×ah)):=
 if decide (J<(h.1.length:Int)) then
  (idx h.1 J).bind λZ=>
  some (.inl (bOr .u64 (dZ .u64 W 8) (Z2.wrap Z),Z0.wrap (J+1)))
 else
  (n9 h W).map Sum.inr
def gj (p0:ah):Option (Int×ah):=
 (cU p0 8).bind λh=>
 am (λs:(Int×Int)=>gJ h s.1 s.2) (0,0)
def oH (x6:ah):Option (Int×ah):=
 some (0,{ x6 with fOk:=false })
def im (Z:Int)(h:Int)(a0:ah)(a1:Bool):Option ((Int×Int×ah)⊕(Int×ah)):=
 if a1 then
  (cU a0 1).bind λJ=>
  (idx J.1 0).bind λW=>
  (chk (decide (0<=h))).bind λa2=>
  if decide (W<128) then
   (some (bOr .u64 Z (dZ .u64 (Z2.wrap (dP .u8 W 127)) h),J.2)).map Sum.inr
  else
   some (.inl (bOr .u64 Z (dZ .u64 (Z2.wrap (dP .u8 W 127)) h),Z0.wrap (h+7),J.2))
 else
  (oH a0).map Sum.inr
def kC (W:Int)(h:Int)(J:ah):Option ((Int×Int×ah)⊕(Int×ah)):=
 if decide (h<70) then
  im W h J J.fOk
 else
  im W h J false
def fh (p0:ah):Option (Int×ah):=
 am (λs:(Int×Int×ah)=>kC s.1 s.2.1 s.2.2) (0,0,p0)
def mF (h:List Int×ah)(J:List Int):Option (List Int×ah):=
 some (J,h.2)
def mG (h:Int)(J:List Int):Option ((Int×List Int)⊕(List Int×ah)):=
 some (.inl (Z0.wrap (h+1),J))
def iZ (Z:Int)(a3:List Int×ah)(J:Int)(h:Int)(W:List Int):Option ((Int×List Int)⊕((Int×List Int)⊕(List Int×ah))):=
 if decide (h<Z) then
  (ix W J).bind λa1=>
  (W[a1]?).bind λa4=>
  (idx a3.1 (Z0.wrap ((Z0.wrap ((Z0.wrap (J*Z))+h)).tdiv 8))).bind λa2=>
  (chk (decide (0<=((Z0.wrap ((Z0.wrap (J*Z))+h)).tmod 8)))).bind λa9=>
  (chk (decide (0<=h))).bind λa6=>
  (ix W J).bind λa0=>
  (W[a0]?).bind λa5=>
  some (.inl (Z0.wrap (h+1),(W.set a0 (bOr .u64 a4 (dZ .u64 (Z2.wrap (dP .u8 (aX .u8 a2 ((Z0.wrap ((Z0.wrap (J*Z))+h)).tmod 8)) 1)) h)))))
 else
  (mG J W).map Sum.inr
def fW (p2:Int)(J:List Int×ah)(Z:List Int)(h:Int)(W:List Int):Option ((Int×List Int)⊕(List Int×ah)):=
 if decide (h<(Z.length:Int)) then
  am (λs:(Int×List Int)=>iZ p2 J h s.1 s.2) (0,W)
 else
  (mF J W).map Sum.inr
def fm (p0:ah)(p1:Int)(h:Int):Option (List Int×ah):=
 if decide (64<h) then
  (mk 35184372088832 p1 0).bind λZ=>
  some (Z,{ p0 with fOk:=false })
 else
  (cU p0 (Z0.wrap ((Z0.wrap ((Z0.wrap (p1*h))+7)).tdiv 8))).bind λW=>
  (mk 35184372088832 p1 0).bind λJ=>
  am (λs:(Int×List Int)=>fW h W J s.1 s.2) (0,J)
def ci (x6:List Ap)(h:ah):Option (List Ap×ah):=
 some (x6,h)
def kD (h:List Ap)(W:ah)(a0:Bool):Option ((List Ap×ah)⊕(List Ap×ah)):=
 if a0 then
  (dD W).bind λJ=>
  (app 3518437208883 h ([J.1])).bind λZ=>
  some (.inl (Z,J.2))
 else
  (ci h W).map Sum.inr
def oI (W:Int)(h:List Ap)(J:ah):Option ((List Ap×ah)⊕(List Ap×ah)):=
 if decide ((h.length:Int)<W) then
  kD h J J.fOk
 else
  kD h J false
def kE (Z:Int)(h:List Ap)(a0:ah)(x82:Bool):Option ((List Ap×ah)⊕(List Ap×ah)):=
 if x82 then
  (cU a0 1).bind λJ=>
  (idx J.1 0).bind λW=>
  (dD J.2).bind λa1=>
  (fg ([a1.1]) (if (Z0.wrap (Z - (h.length:Int)))<(Z0.wrap W) then Z0.wrap (Z - (h.length:Int)) else Z0.wrap W)).bind λa2=>
  (app 3518437208883 h a2).bind λa3=>
  some (.inl (a3,a1.2))
 else
  (ci h a0).map Sum.inr
def oJ (h:Int)(J:List Ap)(W:ah):Option ((List Ap×ah)⊕(List Ap×ah)):=
 if decide ((J.length:Int)<h) then
  kE h J W W.fOk
 else
  kE h J W false
def kF (Z:List Ap)(J:Int)(W:ah)(a1:Bool):Option ((List Ap×Int×ah)⊕(List Ap×ah)):=
 if a1 then
  (fh W).bind λh=>
  (eI (Z0.wrap (J+(dS .i64 (Z0.wrap (aX .u64 h.1 1)) (Z0.wrap (0 - (Z0.wrap (dP .u64 h.1 1)))))))).bind λa2=>
  (app 3518437208883 Z ([a2])).bind λa0=>
  some (.inl (a0,Z0.wrap (J+(dS .i64 (Z0.wrap (aX .u64 h.1 1)) (Z0.wrap (0 - (Z0.wrap (dP .u64 h.1 1)))))),h.2))
 else
  (ci Z W).map Sum.inr
def oK (Z:Int)(J:List Ap)(W:Int)(h:ah):Option ((List Ap×Int×ah)⊕(List Ap×ah)):=
 if decide ((J.length:Int)<Z) then
  kF J W h h.fOk
 else
  kF J W h false
def kG (W:List Ap)(h:List Int×ah)(Z:List Ap)(J:Int):Option ((List Ap×Int)⊕(List Ap×ah)):=
 if decide (J<(h.1.length:Int)) then
  (idx h.1 J).bind λa0=>
  if decide ((Z2.wrap (W.length:Int))<=a0) then
   (some ([],h.2)).map Sum.inr
  else
   (idx W a0).bind λa1=>
   (app 3518437208883 Z ([a1])).bind λa2=>
   some (.inl (a2,Z0.wrap (J+1)))
 else
  (ci Z h.2).map Sum.inr
def oL (J:Int)(h:List Ap)(Z:ah):Option (List Ap×ah):=
 (qs (Z2.wrap (Z0.wrap ((if (h.length:Int)<1 then 1 else (h.length:Int)) - 1)))).bind λa0=>
 (fm Z J a0).bind λW=>
 am (λs:(List Ap×Int)=>kG h W s.1 s.2) ([],0)
def oM (p2:Int)(a0:Int)(J:List Ap)(Z:Int)(W:ah):Option ((List Ap×Int×ah)⊕(List Ap×ah)):=
 if decide (Z<a0) then
  (dD W).bind λh=>
  (app 3518437208883 J ([h.1])).bind λa1=>
  some (.inl (a1,Zd.wrap (Z+1),h.2))
 else
  (oL p2 J W).map Sum.inr
def oN (a1:Int×ah)(J:List Int×ah)(W:List Ap)(h:Int):Option ((List Ap×Int)⊕(List Ap×ah)):=
 if decide (h<(J.1.length:Int)) then
  (idx J.1 h).bind λZ=>
  (eI (Z0.wrap (Z2.wrap (a1.1+Z)))).bind λa0=>
  (app 3518437208883 W ([a0])).bind λa2=>
  some (.inl (a2,Z0.wrap (h+1)))
 else
  (ci W J.2).map Sum.inr
def bU (p0:ah)(p1:Int)(h:Int):Option (List Ap×ah):=
 if p1==0 then
  am (λs:(List Ap×ah)=>oI h s.1 s.2) ([],p0)
 else
  if p1==1 then
   am (λs:(List Ap×ah)=>oJ h s.1 s.2) ([],p0)
  else
   if p1==2 then
    (gj p0).bind λJ=>
    (eI (Z0.wrap J.1)).bind λa3=>
    (app 3518437208883 ([]) ([a3])).bind λa2=>
    am (λs:(List Ap×Int×ah)=>oK h s.1 s.2.1 s.2.2) (a2,Z0.wrap J.1,J.2)
   else
    if p1==3 then
     (cU p0 1).bind λW=>
     (idx W.1 0).bind λa1=>
     am (λs:(List Ap×Int×ah)=>oM h a1 s.1 s.2.1 s.2.2) ([],0,W.2)
    else
     (gj p0).bind λZ=>
     (cU Z.2 1).bind λa0=>
     (idx a0.1 0).bind λa4=>
     (fm a0.2 h (Z0.wrap a4)).bind λa5=>
     am (λs:(List Ap×Int)=>oN Z a5 s.1 s.2) ([],0)
def jr (J:List Ap)(h:Bool):Option (List Ap×Int):=
 if h then
  some ([],60)
 else
  some (J,0)
def lE (p0:Int)(p1:List Int)(Z:Int)(h:List Ap)(a0:ah):Option (List Ap×Int):=
 (fu p0 h).bind λJ=>
 if !a0.fOk then
  jr h true
 else
  if J.2 != 0 then
   jr h true
  else
   if (h.length:Int) != Z then
    jr h true
   else
    (gw J.1 p1).bind λW=>
    jr h (!W)
def lF (p0:Int)(p1:List Int)(h:Int)(W:Bool):Option (List Ap×Int):=
 if W then
  some ([],61)
 else
  if decide (0<h) then
   (bU (⟨p1,true⟩:ah) p0 h).bind λJ=>
   lE p0 p1 h J.1 J.2
  else
   lE p0 p1 h ([]) (⟨p1,true⟩:ah)
def lG (p0:Int)(p1:List Int)(h:Int)(J:Bool):Option (List Ap×Int):=
 if J then
  some ([],62)
 else
  if decide (h<0) then
   lF p0 p1 h true
  else
   lF p0 p1 h (decide (64<h))
def l5 (p0:Int)(p1:List Int)(h:Int):Option (List Ap×Int):=
 if decide (p0<0) then
  lG p0 p1 h true
 else
  lG p0 p1 h (decide (4<p0))
def jT (J:bv×List Int×Bool)(W:List Ap×Int)(h:Bool):Option (List Ap×Int×Int):=
 if h then
  some ([],0,70)
 else
  some (W.1,J.1.fBytes,0)
def io (p0:List Int):Option (List Ap×Int×Int):=
 (iY p0).bind λh=>
 if !h.2.2 then
  some ([],0,70)
 else
  (sub p0 0 (Z0.wrap (h.1.fBytes - 4))).bind λa3=>
  (kM a3).bind λZ=>
  (kY Z).bind λa0=>
  (sub p0 0 h.1.fBytes).bind λa1=>
  (gw a0 a1).bind λa2=>
  if !a2 then
   some ([],0,71)
  else
   (l5 h.1.fKind h.2.1 h.1.fMany).bind λJ=>
   if J.2 != 0 then
    some ([],0,70)
   else
    (lB h.1.fKind J.1).bind λW=>
    if W.fNulls != h.1.fNulls then
     jT h J true
    else
     if !decide (W.fMin=h.1.fMin) then
      jT h J true
     else
      jT h J (!decide (W.fMax=h.1.fMax))
def Aw (x6:Int):Option Int:=
 some x6
def vU (p0:List Int)(J:Int)(h:Int):Option ((Int×Int)⊕Int):=
 if decide (h<(p0.length:Int)) then
  (idx p0 h).bind λW=>
  some (.inl (Z2.wrap ((Z2.wrap (J*256))+(Z2.wrap W)),Z0.wrap (h+1)))
 else
  (Aw J).map Sum.inr
def gW (p0:List Int):Option Int:=
 am (λs:(Int×Int)=>vU p0 s.1 s.2) (0,0)
def mo (p0:List Int)(J:Bool):Option (Ap×Int):=
 if J then
  (idx p0 1).bind λh=>
  (sub p0 2 (Z0.wrap (2+(Z0.wrap h)))).bind λW=>
  some ((⟨3,false,0,W⟩:Ap),Z0.wrap (2+(Z0.wrap h)))
 else
  some ((⟨0,false,0,[]⟩:Ap),0)
def mp (p0:List Int)(a0:Bool):Option (Ap×Int):=
 if a0 then
  (sub p0 1 9).bind λa1=>
  (gW a1).bind λh=>
  some ((⟨2,false,Z0.wrap h,[]⟩:Ap),9)
 else
  if decide (1<(p0.length:Int)) then
   (idx p0 0).bind λZ=>
   if Z==3 then
    (idx p0 1).bind λW=>
    if decide (W<=64) then
     (idx p0 1).bind λJ=>
     mo p0 (decide ((Z0.wrap (2+(Z0.wrap J)))<=(p0.length:Int)))
    else
     mo p0 false
   else
    mo p0 false
  else
   mo p0 false
def je (p0:List Int)(W:Bool):Option (Ap×Int):=
 if W then
  (idx p0 1).bind λh=>
  some ((⟨1,h==1,0,[]⟩:Ap),2)
 else
  if decide (8<(p0.length:Int)) then
   (idx p0 0).bind λJ=>
   mp p0 (J==2)
  else
   mp p0 false
def oO (p0:List Int)(x6:Bool):Option (Ap×Int):=
 if x6 then
  some ((⟨0,false,0,[]⟩:Ap),1)
 else
  if decide (1<(p0.length:Int)) then
   (idx p0 0).bind λh=>
   if h==1 then
    (idx p0 1).bind λJ=>
    je p0 (decide (J<2))
   else
    je p0 false
  else
   je p0 false
def mV (p0:List Int):Option (Ap×Int):=
 if decide (0<(p0.length:Int)) then
  (idx p0 0).bind λh=>
  oO p0 (h==0)
 else
  oO p0 false
def rW (p0:List Int)(Z:Int)(a0:Int)(W:Int)(h:Ap×Int)(J:Ap×Int)(a2:Bool):Option (cd×Int×Int):=
 if a2 then
  some ((⟨0,0,Ap.zero,Ap.zero,0,0⟩:cd),0,70)
 else
  (sub p0 (Z0.wrap ((Z0.wrap (3+h.2))+J.2)) (Z0.wrap ((Z0.wrap ((Z0.wrap (3+h.2))+J.2))+2))).bind λa3=>
  (gW a3).bind λa1=>
  if decide ((p0.length:Int)<(({ { { (⟨Z0.wrap Z,Z0.wrap a0,Ap.zero,Ap.zero,Z0.wrap W,0⟩:cd) with fMin:=h.1 } with fMax:=J.1 } with fBytes:=Z0.wrap ((Z0.wrap ((Z0.wrap ((Z0.wrap ((Z0.wrap (3+h.2))+J.2))+2))+(Z0.wrap a1)))+4) }).fBytes)) then
   some ((⟨0,0,Ap.zero,Ap.zero,0,0⟩:cd),0,70)
  else
   some ({ { { (⟨Z0.wrap Z,Z0.wrap a0,Ap.zero,Ap.zero,Z0.wrap W,0⟩:cd) with fMin:=h.1 } with fMax:=J.1 } with fBytes:=Z0.wrap ((Z0.wrap ((Z0.wrap ((Z0.wrap ((Z0.wrap (3+h.2))+J.2))+2))+(Z0.wrap a1)))+4) },Z0.wrap ((Z0.wrap ((Z0.wrap (3+h.2))+J.2))+2),0)
def j9 (p0:List Int)(x7:Bool):Option (cd×Int×Int):=
 if x7 then
  some ((⟨0,0,Ap.zero,Ap.zero,0,0⟩:cd),0,70)
 else
  (idx p0 0).bind λZ=>
  (idx p0 1).bind λa0=>
  (idx p0 2).bind λW=>
  (sub p0 3 p0.length).bind λa2=>
  (mV a2).bind λh=>
  if h.2==0 then
   some ((⟨0,0,Ap.zero,Ap.zero,0,0⟩:cd),0,70)
  else
   (sub p0 (Z0.wrap (3+h.2)) p0.length).bind λa1=>
   (mV a1).bind λJ=>
   if J.2==0 then
    rW p0 Z a0 W h J true
   else
    rW p0 Z a0 W h J (decide ((p0.length:Int)<(Z0.wrap ((Z0.wrap ((Z0.wrap (3+h.2))+J.2))+2))))
def qy (p0:List Int):Option (cd×Int×Int):=
 if decide ((p0.length:Int)<3) then
  j9 p0 true
 else
  (idx p0 0).bind λh=>
  if decide (4<h) then
   j9 p0 true
  else
   (idx p0 1).bind λW=>
   if W==0 then
    j9 p0 true
   else
    (idx p0 1).bind λZ=>
    if decide (64<Z) then
     j9 p0 true
    else
     (idx p0 2).bind λa0=>
     (idx p0 1).bind λJ=>
     j9 p0 (decide (J<a0))
def yZ (h:List Ap):Option (List Ap):=
 some h
def y5 (p0:List Int)(p1:Int)(Z:List Ap)(W:Int)(J:Int):Option ((List Ap×Int×Int)⊕List Ap):=
 if decide (J<p1) then
  (sub p0 W p0.length).bind λa0=>
  (mV a0).bind λh=>
  if h.2==0 then
   (some ([])).map Sum.inr
  else
   (app 3518437208883 Z ([h.1])).bind λa1=>
   some (.inl (a1,Z0.wrap (W+h.2),Z0.wrap (J+1)))
 else
  (yZ Z).map Sum.inr
def vV (p0:List Int)(p1:Int):Option (List Ap):=
 am (λs:(List Ap×Int×Int)=>y5 p0 p1 s.1 s.2.1 s.2.2) ([],0,0)
def Az (x6:List Ap):Option (List Ap):=
 some x6
def AA (W:Int)(h:Ap×Int)(J:List Ap):Option ((List Ap×Int)⊕List Ap):=
 some (.inl (J,Z0.wrap ((Z0.wrap (W+1))+h.2)))
def rX (p0:List Int)(h:Int)(Z:Ap×Int)(W:List Ap)(J:Int):Option ((List Ap×Int)⊕((List Ap×Int)⊕List Ap)):=
 (idx p0 h).bind λa0=>
 if decide (J<(Z0.wrap a0)) then
  (app 3518437208883 W ([Z.1])).bind λa1=>
  some (.inl (a1,Z0.wrap (J+1)))
 else
  (AA h Z W).map Sum.inr
def vW (p0:List Int)(J:List Ap)(h:Int)(a0:Bool):Option ((List Ap×Int)⊕List Ap):=
 if a0 then
  (sub p0 (Z0.wrap (h+1)) p0.length).bind λZ=>
  (mV Z).bind λW=>
  if W.2==0 then
   (some ([])).map Sum.inr
  else
   am (λs:(List Ap×Int)=>rX p0 h W s.1 s.2) (J,0)
 else
  (Az J).map Sum.inr
def AB (p0:List Int)(p1:Int)(h:List Ap)(J:Int):Option ((List Ap×Int)⊕List Ap):=
 if decide (J<(p0.length:Int)) then
  vW p0 h J (decide ((h.length:Int)<p1))
 else
  vW p0 h J false
def yA (p0:List Int)(p1:Int):Option (List Ap):=
 am (λs:(List Ap×Int)=>AB p0 p1 s.1 s.2) ([],0)
def xC (h:List Ap):Option (List Ap):=
 some h
def pV (h:Int)(a0:Int)(J:List Ap)(W:Int)(Z:Int):Option ((Int×List Ap×Int×Int×Int)⊕List Ap):=
 some (.inl (a0,J,W,Z,Z0.wrap (h+1)))
def la (x44:List Ap)(J:Int)(h:Int):Option ((Int×List Ap×Int×Int×Int)⊕List Ap):=
 (app 3518437208883 x44 ([(⟨2,false,h,[]⟩:Ap)])).bind λW=>
 pV J h W 0 0
def s5 (p0:List Int)(a0:Int)(x44:List Ap)(Z:Int)(h:Int)(J:Int)(a2:Bool):Option ((Int×List Ap×Int×Int×Int)⊕List Ap):=
 if a2 then
  (idx p0 J).bind λW=>
  (chk (decide (0<=h))).bind λa3=>
  (idx p0 J).bind λa1=>
  if decide (128<=a1) then
   pV J a0 x44 (Z2.wrap (Z+(dZ .u64 (Z2.wrap (W.tmod 128)) h))) (Z0.wrap (h+7))
  else
   if ((Z2.wrap (Z+(dZ .u64 (Z2.wrap (W.tmod 128)) h))).tmod 2)==0 then
    la x44 J (Z0.wrap (a0+(Z0.wrap (Z2.wrap ((Z2.wrap (Z+(dZ .u64 (Z2.wrap (W.tmod 128)) h))).tdiv 2)))))
   else
    la x44 J (Z0.wrap ((Z0.wrap (a0 - (Z0.wrap (Z2.wrap ((Z2.wrap (Z+(dZ .u64 (Z2.wrap (W.tmod 128)) h))).tdiv 2))))) - 1))
 else
  (xC x44).map Sum.inr
def xD (p0:List Int)(p1:Int)(J:Int)(x44:List Ap)(Z:Int)(W:Int)(h:Int):Option ((Int×List Ap×Int×Int×Int)⊕List Ap):=
 if decide (h<(p0.length:Int)) then
  s5 p0 J x44 Z W h (decide ((x44.length:Int)<p1))
 else
  s5 p0 J x44 Z W h false
def tX (p0:List Int)(p1:Int):Option (List Ap):=
 if decide ((p0.length:Int)<8) then
  some ([])
 else
  (sub p0 0 8).bind λJ=>
  (gW J).bind λh=>
  am (λs:(Int×List Ap×Int×Int×Int)=>xD p0 p1 s.1 s.2.1 s.2.2.1 s.2.2.2.1 s.2.2.2.2) (Z0.wrap h,[(⟨2,false,Z0.wrap h,[]⟩:Ap)],0,0,8)
def vg (h:Int):Option Int:=
 some h
def qz (p0:List Int)(p1:Int)(J:Int)(W:Int)(h:Int):Option ((Int×Int)⊕Int):=
 if decide (0<=h) then
  (idx p0 (Z0.wrap ((Z0.wrap ((Z0.wrap (J*p1))+h)).tdiv 8))).bind λZ=>
  (chk (decide (0<=((Z0.wrap ((Z0.wrap (J*p1))+h)).tmod 8)))).bind λa0=>
  some (.inl (Z2.wrap ((Z2.wrap (W*2))+(Z2.wrap ((aX .u8 Z ((Z0.wrap ((Z0.wrap (J*p1))+h)).tmod 8)).tmod 2))),Z0.wrap (h - 1)))
 else
  (vg W).map Sum.inr
def oP (p0:List Int)(p1:Int)(h:Int):Option Int:=
 am (λs:(Int×Int)=>qz p0 p1 h s.1 s.2) (0,Z0.wrap (p1 - 1))
def y6 (h:List Ap):Option (List Ap):=
 some h
def uL (p0:List Int)(p1:Int)(J:List Ap)(a1:Int)(a0:Int)(W:List Ap)(h:Int):Option ((List Ap×Int)⊕List Ap):=
 if decide (h<p1) then
  (sub p0 a1 p0.length).bind λa3=>
  (oP a3 a0 h).bind λZ=>
  if decide ((Z2.wrap (J.length:Int))<=Z) then
   (some ([])).map Sum.inr
  else
   (idx J Z).bind λa4=>
   (app 3518437208883 W ([a4])).bind λa2=>
   some (.inl (a2,Z0.wrap (h+1)))
 else
  (y6 W).map Sum.inr
def y7 (p0:List Int)(p1:Int)(h:List Ap)(J:Int):Option (List Ap):=
 if (h.length:Int)==0 then
  some ([])
 else
  (qv (Z2.wrap (Z0.wrap ((h.length:Int) - 1)))).bind λW=>
  if (p0.length:Int) != (Z0.wrap (J+(Z0.wrap ((Z0.wrap ((Z0.wrap (p1*W))+7)).tdiv 8)))) then
   some ([])
  else
   am (λs:(List Ap×Int)=>uL p0 p1 h J W s.1 s.2) ([],0)
def y8 (p0:List Int)(p1:Int)(Z:List Ap)(J:Int)(W:Int):Option ((List Ap×Int×Int)⊕List Ap):=
 (idx p0 0).bind λa1=>
 if decide (W<(Z0.wrap a1)) then
  (sub p0 J p0.length).bind λa2=>
  (mV a2).bind λh=>
  if h.2==0 then
   (some ([])).map Sum.inr
  else
   (app 3518437208883 Z ([h.1])).bind λa0=>
   some (.inl (a0,Z0.wrap (J+h.2),Z0.wrap (W+1)))
 else
  (y7 p0 p1 Z J).map Sum.inr
def vX (p0:List Int)(p1:Int):Option (List Ap):=
 if (p0.length:Int)==0 then
  some ([])
 else
  am (λs:(List Ap×Int×Int)=>y8 p0 p1 s.1 s.2.1 s.2.2) ([],1,0)
def xE (h:List Ap):Option (List Ap):=
 some h
def xF (p0:List Int)(p1:Int)(W:Int)(h:List Ap)(x36:Int):Option ((List Ap×Int)⊕List Ap):=
 if decide (x36<p1) then
  (sub p0 9 p0.length).bind λx44=>
  (idx p0 8).bind λa0=>
  (oP x44 (Z0.wrap a0) x36).bind λJ=>
  (app 3518437208883 h ([(⟨2,false,Z0.wrap (Z2.wrap (W+J)),[]⟩:Ap)])).bind λZ=>
  some (.inl (Z,Z0.wrap (x36+1)))
 else
  (xE h).map Sum.inr
def mW (p0:List Int)(p1:Int)(h:Bool):Option (List Ap):=
 if h then
  some ([])
 else
  (sub p0 0 8).bind λW=>
  (gW W).bind λJ=>
  am (λs:(List Ap×Int)=>xF p0 p1 J s.1 s.2) ([],0)
def tY (p0:List Int)(p1:Int):Option (List Ap):=
 if decide ((p0.length:Int)<9) then
  mW p0 p1 true
 else
  (idx p0 8).bind λh=>
  if decide (64<h) then
   mW p0 p1 true
  else
   (idx p0 8).bind λJ=>
   mW p0 p1 ((p0.length:Int) != (Z0.wrap (9+(Z0.wrap ((Z0.wrap ((Z0.wrap (p1*(Z0.wrap J)))+7)).tdiv 8)))))
def pW (J:List Ap)(h:Bool):Option (List Ap×Int):=
 if h then
  some ([],60)
 else
  some (J,0)
def gk (p0:Int)(p1:List Int)(W:Int)(h:List Ap):Option (List Ap×Int):=
 (tV p0 h).bind λJ=>
 if J.2 != 0 then
  pW h true
 else
  if (h.length:Int) != W then
   pW h true
  else
   pW h (!decide (J.1=p1))
def pX (p0:Int)(p1:List Int)(h:Int)(W:Bool):Option (List Ap×Int):=
 if W then
  some ([],61)
 else
  if decide (0<h) then
   if p0==0 then
    (vV p1 h).bind λa1=>
    gk p0 p1 h a1
   else
    if p0==1 then
     (yA p1 h).bind λa2=>
     gk p0 p1 h a2
    else
     if p0==2 then
      (tX p1 h).bind λJ=>
      gk p0 p1 h J
     else
      if p0==3 then
       (vX p1 h).bind λa0=>
       gk p0 p1 h a0
      else
       (tY p1 h).bind λZ=>
       gk p0 p1 h Z
  else
   gk p0 p1 h ([])
def pY (p0:Int)(p1:List Int)(h:Int)(J:Bool):Option (List Ap×Int):=
 if J then
  some ([],62)
 else
  if decide (h<0) then
   pX p0 p1 h true
  else
   pX p0 p1 h (decide (64<h))
def tZ (p0:Int)(p1:List Int)(h:Int):Option (List Ap×Int):=
 if decide (p0<0) then
  pY p0 p1 h true
 else
  pY p0 p1 h (decide (4<p0))
def qC (p0:List Int):Option (List Ap×Int×Int):=
 (qy p0).bind λh=>
 if h.2.2 != 0 then
  some ([],0,h.2.2)
 else
  (sub p0 (Z0.wrap (h.1.fBytes - 4)) h.1.fBytes).bind λx44=>
  (gW x44).bind λa1=>
  (sub p0 0 (Z0.wrap (h.1.fBytes - 4))).bind λa0=>
  (vd a0).bind λZ=>
  if a1 != (Z2.wrap Z) then
   some ([],0,71)
  else
   (sub p0 h.2.1 (Z0.wrap (h.1.fBytes - 4))).bind λW=>
   (tZ h.1.fKind W h.1.fMany).bind λJ=>
   if J.2 != 0 then
    some ([],0,70)
   else
    (vS h.1.fKind J.1).bind λr233=>
    if !decide ({ r233 with fBytes:=h.1.fBytes }=h.1) then
     some ([],0,70)
    else
     some (J.1,h.1.fBytes,0)
def oQ (p0:aa):Option aa:=
 (iz p0.fRow).bind λh=>
 some ({ p0 with fRow:=h })
def Bz (h:List Ap):Option (List Ap):=
 some h
def nK (J:List Ap)(h:Int)(Z:Ap):Option ((List Ap×Int)⊕List Ap):=
 (app 3518437208883 J ([Z])).bind λW=>
 some (.inl (W,Z0.wrap (h+1)))
def nL (p1:List Ap)(J:List Ap)(h:Int)(a0:Int)(Z:Ap)(x46:Bool):Option ((List Ap×Int)⊕List Ap):=
 if x46 then
  (idx p1 a0).bind λW=>
  nK J h W
 else
  nK J h Z
def qD (p0:List Int)(p1:List Ap)(W:List Ap)(J:Int):Option ((List Ap×Int)⊕List Ap):=
 if decide (J<(p0.length:Int)) then
  (idx p0 J).bind λh=>
  (lx).bind λZ=>
  if decide (0<=h) then
   nL p1 W J h Z (decide (h<(p1.length:Int)))
  else
   nL p1 W J h Z false
 else
  (Bz W).map Sum.inr
def mq (p0:List Int)(p1:List Ap):Option (List Ap):=
 am (λs:(List Ap×Int)=>qD p0 p1 s.1 s.2) ([],0)
def wK (p0:List Ap)(p1:List Ap):Option Int:=
 (iK (p0.length:Int) (p1.length:Int)).bind λh=>
 some h
def wL (p0:List Ap)(p1:List Ap)(h:Int):Option (Int⊕Int):=
 if decide (h<(if (p1.length:Int)<(p0.length:Int) then (p1.length:Int) else (p0.length:Int))) then
  (idx p0 h).bind λZ=>
  (idx p1 h).bind λW=>
  (cD Z W).bind λJ=>
  if J != 0 then
   (some J).map Sum.inr
  else
   some (.inl (Z0.wrap (h+1)))
 else
  (wK p0 p1).map Sum.inr
def pZ (p0:List Ap)(p1:List Ap):Option Int:=
 am (λs:Int=>wL p0 p1 s) 0
def lH (p0:Int):Option Bool:=
 some (p0 != p0)
def ke (p0:Int)(p1:Int):Option Int:=
 (lH p0).bind λJ=>
 (lH p1).bind λh=>
 if J then
  if h then
   some 0
  else
   some (-1)
 else
  if h then
   some 1
  else
   if decide (p0<p1) then
    some (-1)
   else
    if decide (p1<p0) then
     some 1
    else
     some 0
def lI (p0:Int):Option Bool:=
 some (p0 != p0)
def kf (p0:Int)(p1:Int):Option Int:=
 (lI p0).bind λJ=>
 (lI p1).bind λh=>
 if J then
  if h then
   some 0
  else
   some (-1)
 else
  if h then
   some 1
  else
   if decide (p0<p1) then
    some (-1)
   else
    if decide (p1<p0) then
     some 1
    else
     some 0
def CX:Option Int:=
 some 0
def gF (p0:List Int)(h:Int):Option (Int⊕Int):=
 if decide (h<(p0.length:Int)) then
  (idx p0 h).bind λJ=>
  if J != 0 then
   (some J).map Sum.inr
  else
   some (.inl (Z0.wrap (h+1)))
 else
  (CX).map Sum.inr
def nM (p0:List Int):Option Int:=
 am (λs:Int=>gF p0 s) 0
def l6 (p0:aM)(p1:aM):Option Int:=
 (ke p0.fEpoch p1.fEpoch).bind λJ=>
 (kf p0.fNumber p1.fNumber).bind λW=>
 (nM ([J,W])).bind λh=>
 some h
def eK (p0:aa)(p1:aa)(h:List Int):Option Int:=
 (mq h p0.fRow).bind λZ=>
 (mq h p1.fRow).bind λa0=>
 (pZ Z a0).bind λr24=>
 (l6 p0.fId p1.fId).bind λW=>
 (nM ([r24,W])).bind λJ=>
 some J
def eh (x6:Int)(h:List aa):Option ((Int×List aa)⊕List aa):=
 some (.inl (Z0.wrap (x6+1),h))
def bE (x6:Int)(J:Int)(h:List aa)(a3:Bool):Option ((Int×List aa)⊕((Int×List aa)⊕List aa)):=
 if a3 then
  (ix h (Z0.wrap (J - 1))).bind λa4=>
  (h[a4]?).bind λZ=>
  (ix h J).bind λa2=>
  (h[a2]?).bind λa1=>
  (ix h J).bind λW=>
  (h[W]?).bind λa5=>
  (ix (h.set W Z) (Z0.wrap (J - 1))).bind λa0=>
  ((h.set W Z)[a0]?).bind λa6=>
  some (.inl (Z0.wrap (J - 1),((h.set W Z).set a0 a1)))
 else
  (eh x6 h).map Sum.inr
def bF (p1:Int)(Z:(aa->aa->Option Int))(x6:Int)(J:Int)(h:List aa):Option ((Int×List aa)⊕((Int×List aa)⊕List aa)):=
 if decide (p1<J) then
  (ix h J).bind λa3=>
  (h[a3]?).bind λa0=>
  (ix h (Z0.wrap (J - 1))).bind λW=>
  (h[W]?).bind λa2=>
  (Z a0 a2).bind λa1=>
  bE x6 J h (decide (a1<0))
 else
  bE x6 J h false
def bV (p1:Int)(W:Int)(J:(aa->aa->Option Int))(x6:Int)(h:List aa):Option ((Int×List aa)⊕List aa):=
 if decide (x6<W) then
  am (λs:(Int×List aa)=>bF p1 J x6 s.1 s.2) (x6,h)
 else
  (some h).map Sum.inr
def cJ (p0:List aa)(p1:Int)(J:Int)(h:(aa->aa->Option Int)):Option (List aa):=
 am (λs:(Int×List aa)=>bV p1 J h s.1 s.2) (Z0.wrap (p1+1),p0)
def cp (p1:Int)(Z:Int)(p3:Int)(h:Int)(x6:List aa):Option ((Int×List aa)⊕List aa):=
 if decide (h<p3) then
  (ix x6 (Z0.wrap (Z+h))).bind λa1=>
  (x6[a1]?).bind λW=>
  (ix x6 (Z0.wrap (p1+h))).bind λa3=>
  (x6[a3]?).bind λa2=>
  (ix x6 (Z0.wrap (p1+h))).bind λJ=>
  (x6[J]?).bind λa4=>
  (ix (x6.set J W) (Z0.wrap (Z+h))).bind λa0=>
  ((x6.set J W)[a0]?).bind λa5=>
  some (.inl (Z0.wrap (h+1),((x6.set J W).set a0 a2)))
 else
  (some x6).map Sum.inr
def cG (p0:List aa)(p1:Int)(J:Int)(h:Int)(W:(aa->aa->Option Int)):Option (List aa):=
 am (λs:(Int×List aa)=>cp p1 J h s.1 s.2) (0,p0)
def jJ (J:Int)(W:(aa->aa->Option Int))(h:Int)(Z:List aa):Option (List aa):=
 (cG Z (Z0.wrap (J - h)) J h W).bind λr24=>
 some r24
def cf (J:Int)(W:(aa->aa->Option Int))(h:Int)(x35:Int)(Z:List aa):Option ((Int×Int×List aa)⊕List aa):=
 if h != x35 then
  if decide (x35<h) then
   (cG Z (Z0.wrap (J - h)) J x35 W).bind λa0=>
   some (.inl (Z0.wrap (h - x35),x35,a0))
  else
   (cG Z (Z0.wrap (J - h)) (Z0.wrap ((Z0.wrap (J+x35)) - h)) h W).bind λa1=>
   some (.inl (h,Z0.wrap (x35 - h),a1))
 else
  (jJ J W h Z).map Sum.inr
def cZ (p0:List aa)(p1:Int)(h:Int)(W:Int)(J:(aa->aa->Option Int)):Option (List aa):=
 am (λs:(Int×Int×List aa)=>cf h J s.1 s.2.1 s.2.2) (Z0.wrap (h - p1),Z0.wrap (W - h),p0)
def jf (h:List aa):Option (List aa):=
 some h
def cw (a2:Int)(J:Int)(h:List aa):Option ((Int×List aa)⊕List aa):=
 if decide (J<(Z0.wrap (a2 - 1))) then
  (ix h (Z0.wrap (J+1))).bind λa3=>
  (h[a3]?).bind λZ=>
  (ix h J).bind λa4=>
  (h[a4]?).bind λa1=>
  (ix h J).bind λW=>
  (h[W]?).bind λa5=>
  (ix (h.set W Z) (Z0.wrap (J+1))).bind λa0=>
  ((h.set W Z)[a0]?).bind λa6=>
  some (.inl (Z0.wrap (J+1),((h.set W Z).set a0 a1)))
 else
  (jf h).map Sum.inr
def fo (p0:List aa)(p1:Int)(h:Int):Option (List aa):=
 am (λs:(Int×List aa)=>cw h s.1 s.2) (p1,p0)
def cV (p0:List aa)(p1:Int)(J:(aa->aa->Option Int))(h:Int)(x144:Int):Option ((Int×Int)⊕List aa):=
 if decide (h<x144) then
  (ix p0 (Z0.wrap (aX .u64 (Z2.wrap (Z0.wrap (h+x144))) 1))).bind λW=>
  (p0[W]?).bind λa0=>
  (ix p0 p1).bind λa2=>
  (p0[a2]?).bind λZ=>
  (J a0 Z).bind λa1=>
  if decide (a1<0) then
   some (.inl (Z0.wrap ((Z0.wrap (aX .u64 (Z2.wrap (Z0.wrap (h+x144))) 1))+1),x144))
  else
   some (.inl (h,Z0.wrap (aX .u64 (Z2.wrap (Z0.wrap (h+x144))) 1)))
 else
  (fo p0 p1 h).map Sum.inr
def jg (h:List aa):Option (List aa):=
 some h
def cx (a3:Int)(J:Int)(h:List aa):Option ((Int×List aa)⊕List aa):=
 if decide (a3<J) then
  (ix h (Z0.wrap (J - 1))).bind λa2=>
  (h[a2]?).bind λZ=>
  (ix h J).bind λa4=>
  (h[a4]?).bind λa1=>
  (ix h J).bind λW=>
  (h[W]?).bind λa5=>
  (ix (h.set W Z) (Z0.wrap (J - 1))).bind λa0=>
  ((h.set W Z)[a0]?).bind λa6=>
  some (.inl (Z0.wrap (J - 1),((h.set W Z).set a0 a1)))
 else
  (jg h).map Sum.inr
def fp (p0:List aa)(J:Int)(h:Int):Option (List aa):=
 am (λs:(Int×List aa)=>cx h s.1 s.2) (J,p0)
def cW (p0:List aa)(W:Int)(Z:(aa->aa->Option Int))(h:Int)(J:Int):Option ((Int×Int)⊕List aa):=
 if decide (h<J) then
  (ix p0 W).bind λa3=>
  (p0[a3]?).bind λa2=>
  (ix p0 (Z0.wrap (aX .u64 (Z2.wrap (Z0.wrap (h+J))) 1))).bind λa1=>
  (p0[a1]?).bind λa0=>
  (Z a2 a0).bind λa4=>
  if !(decide (a4<0)) then
   some (.inl (Z0.wrap ((Z0.wrap (aX .u64 (Z2.wrap (Z0.wrap (h+J))) 1))+1),J))
  else
   some (.inl (h,Z0.wrap (aX .u64 (Z2.wrap (Z0.wrap (h+J))) 1)))
 else
  (fp p0 W h).map Sum.inr
def eY (p1:Int)(p2:Int)(h:Int)(W:(aa->aa->Option Int))(a2:((List aa)->Int->Int->Int->(aa->aa->Option Int)->Option (List aa)))(a1:Int)(J:List aa)(Z:Bool):Option (List aa):=
 if Z then
  (a2 J (Z0.wrap (aX .u64 (Z2.wrap (Z0.wrap (p1+h))) 1)) (Z0.wrap ((Z0.wrap ((Z0.wrap (aX .u64 (Z2.wrap (Z0.wrap (p1+h))) 1))+p2)) - a1)) h W).bind λa0=>
  some a0
 else
  some J
def dE (p1:Int)(J:Int)(h:Int)(Z:(aa->aa->Option Int))(a1:((List aa)->Int->Int->Int->(aa->aa->Option Int)->Option (List aa)))(W:Int)(a0:List aa):Option (List aa):=
 if decide ((Z0.wrap (aX .u64 (Z2.wrap (Z0.wrap (p1+h))) 1))<(Z0.wrap ((Z0.wrap ((Z0.wrap (aX .u64 (Z2.wrap (Z0.wrap (p1+h))) 1))+J)) - W))) then
  eY p1 J h Z a1 W a0 (decide ((Z0.wrap ((Z0.wrap ((Z0.wrap (aX .u64 (Z2.wrap (Z0.wrap (p1+h))) 1))+J)) - W))<h))
 else
  eY p1 J h Z a1 W a0 false
def fq (p1:Int)(p2:Int)(J:Int)(h:(aa->aa->Option Int))(Z:((List aa)->Int->Int->Int->(aa->aa->Option Int)->Option (List aa)))(W:Int)(a0:List aa)(a1:Bool):Option (List aa):=
 if a1 then
  (Z a0 p1 W (Z0.wrap (aX .u64 (Z2.wrap (Z0.wrap (p1+J))) 1)) h).bind λa2=>
  dE p1 p2 J h Z W a2
 else
  dE p1 p2 J h Z W a0
def dK (p1:Int)(p2:Int)(J:Int)(W:(aa->aa->Option Int))(a0:((List aa)->Int->Int->Int->(aa->aa->Option Int)->Option (List aa)))(h:Int)(Z:List aa):Option (List aa):=
 if decide (p1<h) then
  fq p1 p2 J W a0 h Z (decide (h<(Z0.wrap (aX .u64 (Z2.wrap (Z0.wrap (p1+J))) 1))))
 else
  fq p1 p2 J W a0 h Z false
def ft (p0:List aa)(p1:Int)(h:Int)(Z:Int)(W:(aa->aa->Option Int))(a0:((List aa)->Int->Int->Int->(aa->aa->Option Int)->Option (List aa)))(J:Int)(a1:Bool):Option (List aa):=
 if a1 then
  (cZ p0 J h (Z0.wrap ((Z0.wrap ((Z0.wrap (aX .u64 (Z2.wrap (Z0.wrap (p1+Z))) 1))+h)) - J)) W).bind λa2=>
  dK p1 h Z W a0 J a2
 else
  dK p1 h Z W a0 J p0
def dL (p0:List aa)(p1:Int)(h:Int)(W:Int)(Z:(aa->aa->Option Int))(a0:((List aa)->Int->Int->Int->(aa->aa->Option Int)->Option (List aa)))(J:Int):Option (List aa):=
 if decide (J<h) then
  ft p0 p1 h W Z a0 J (decide (h<(Z0.wrap ((Z0.wrap ((Z0.wrap (aX .u64 (Z2.wrap (Z0.wrap (p1+W))) 1))+h)) - J))))
 else
  ft p0 p1 h W Z a0 J false
def dM (p0:List aa)(p1:Int)(p2:Int)(Z:Int)(W:(aa->aa->Option Int))(a5:((List aa)->Int->Int->Int->(aa->aa->Option Int)->Option (List aa)))(h:Int)(J:Int):Option ((Int×Int)⊕List aa):=
 if decide (h<J) then
  (ix p0 (Z0.wrap ((Z0.wrap ((Z0.wrap ((Z0.wrap (aX .u64 (Z2.wrap (Z0.wrap (p1+Z))) 1))+p2)) - 1)) - (Z0.wrap (aX .u64 (Z2.wrap (Z0.wrap (h+J))) 1))))).bind λa1=>
  (p0[a1]?).bind λa2=>
  (ix p0 (Z0.wrap (aX .u64 (Z2.wrap (Z0.wrap (h+J))) 1))).bind λa3=>
  (p0[a3]?).bind λa4=>
  (W a2 a4).bind λa0=>
  if !(decide (a0<0)) then
   some (.inl (Z0.wrap ((Z0.wrap (aX .u64 (Z2.wrap (Z0.wrap (h+J))) 1))+1),J))
  else
   some (.inl (h,Z0.wrap (aX .u64 (Z2.wrap (Z0.wrap (h+J))) 1)))
 else
  (dL p0 p1 p2 Z W a5 h).map Sum.inr
def dN (p0:List aa)(p1:Int)(W:Int)(J:Int)(h:(aa->aa->Option Int))(a1:((List aa)->Int->Int->Int->(aa->aa->Option Int)->Option (List aa)))(a0:Int)(Z:Int):Option (List aa):=
 am (λs:(Int×Int)=>dM p0 p1 W J h a1 s.1 s.2) (a0,Z)
def dV (Z:((List aa)->Int->Int->Int->(aa->aa->Option Int)->Option (List aa)))(p0:List aa)(p1:Int)(h:Int)(J:Int)(W:(aa->aa->Option Int)):Option (List aa):=
 if (Z0.wrap (h - p1))==1 then
  am (λs:(Int×Int)=>cV p0 p1 W s.1 s.2) (h,J)
 else
  if (Z0.wrap (J - h))==1 then
   am (λs:(Int×Int)=>cW p0 h W s.1 s.2) (p1,h)
  else
   if decide ((Z0.wrap (aX .u64 (Z2.wrap (Z0.wrap (p1+J))) 1))<h) then
    dN p0 p1 h J W Z (Z0.wrap ((Z0.wrap ((Z0.wrap (aX .u64 (Z2.wrap (Z0.wrap (p1+J))) 1))+h)) - J)) (Z0.wrap (aX .u64 (Z2.wrap (Z0.wrap (p1+J))) 1))
   else
    dN p0 p1 h J W Z p1 h
def c8:Nat->(List aa)->Int->Int->Int->(aa->aa->Option Int)->Option (List aa)
 |0=>λ_ _ _ _ _=>none
 |n+1=>dV (c8 n)
def dx (p0:List aa)(p1:Int)(W:Int)(J:Int)(h:(aa->aa->Option Int)):Option (List aa):=c8 (p0.length+1) p0 p1 W J h
def d7 (h:Int)(J:List aa):Option ((Int×List aa)⊕List aa):=
 some (.inl (Z0.wrap (h*2),J))
def fY (p1:Int)(p2:(aa->aa->Option Int))(h:Int)(J:Int)(W:List aa):Option ((Int×List aa)⊕List aa):=
 if decide ((Z0.wrap (J+h))<p1) then
  (dx W J (Z0.wrap (J+h)) p1 p2).bind λZ=>
  d7 h Z
 else
  d7 h W
def cH (p1:Int)(Z:(aa->aa->Option Int))(J:Int)(h:Int)(x82:Int)(W:List aa):Option ((Int×Int×List aa)⊕((Int×List aa)⊕List aa)):=
 if decide (x82<=p1) then
  (dx W h (Z0.wrap (h+J)) x82 Z).bind λa0=>
  some (.inl (x82,Z0.wrap (x82+(Z0.wrap (2*J))),a0))
 else
  (fY p1 Z J h W).map Sum.inr
def bw (p1:Int)(W:(aa->aa->Option Int))(h:Int)(J:List aa):Option ((Int×List aa)⊕List aa):=
 if decide (h<p1) then
  am (λs:(Int×Int×List aa)=>cH p1 W h s.1 s.2.1 s.2.2) (0,Z0.wrap (2*h),J)
 else
  (some J).map Sum.inr
def jK (p1:Int)(h:(aa->aa->Option Int))(Z:Int)(J:List aa):Option (List aa):=
 (cJ J Z p1 h).bind λW=>
 am (λs:(Int×List aa)=>bw p1 h s.1 s.2) (20,W)
def cg (p1:Int)(J:(aa->aa->Option Int))(Z:Int)(h:Int)(W:List aa):Option ((Int×Int×List aa)⊕List aa):=
 if decide (h<=p1) then
  (cJ W Z h J).bind λa0=>
  some (.inl (h,Z0.wrap (h+20),a0))
 else
  (jK p1 J Z W).map Sum.inr
def gX (p0:List aa)(p1:Int)(h:(aa->aa->Option Int)):Option (List aa):=
 am (λs:(Int×Int×List aa)=>cg p1 h s.1 s.2.1 s.2.2) (0,20,p0)
def dC (p0:List aa)(p1:(aa->aa->Option Int)):Option (List aa):=
 (gX p0 (p0.length:Int) p1).bind λh=>
 some h
def iT (p0:List Int)(Z:List aa):Option (List aa):=
 (dC Z (λh W=>eK h W p0)).bind λJ=>
 some J
def iU (p0:List Int)(p1:List aa)(h:Int)(J:List aa):Option ((Int×List aa)⊕List aa):=
 if decide (h<(p1.length:Int)) then
  (idx p1 h).bind λZ=>
  (oQ Z).bind λW=>
  (app 2932031007402 J ([W])).bind λa0=>
  some (.inl (Z0.wrap (h+1),a0))
 else
  (iT p0 J).map Sum.inr
def jk (p0:List Int)(p1:List aa):Option (List aa):=
 am (λs:(Int×List aa)=>iU p0 p1 s.1 s.2) (0,([]:List aa))
def Ij (x6:List Ap):Option (List Ap):=
 some x6
def t6 (h:List Ap)(Z:Int)(J:Ap):Option ((List Ap×Int)⊕List Ap):=
 (app 3518437208883 h ([J])).bind λW=>
 some (.inl (W,Z0.wrap (Z+1)))
def t7 (p0:List Int)(p1:List Ap)(J:List Ap)(h:Int)(x35:Bool):Option ((List Ap×Int)⊕List Ap):=
 if x35 then
  (idx p0 h).bind λW=>
  (idx p1 W).bind λZ=>
  t6 J h Z
 else
  t6 J h (⟨0,false,0,[]⟩:Ap)
def xG (p0:List Int)(p1:List Ap)(J:List Ap)(h:Int):Option ((List Ap×Int)⊕List Ap):=
 if decide (h<(p0.length:Int)) then
  (idx p0 h).bind λx82=>
  if decide (0<=x82) then
   (idx p0 h).bind λW=>
   t7 p0 p1 J h (decide (W<(p1.length:Int)))
  else
   t7 p0 p1 J h false
 else
  (Ij J).map Sum.inr
def xH (p0:List Int)(p1:List Ap):Option (List Ap):=
 am (λs:(List Ap×Int)=>xG p0 p1 s.1 s.2) ([],0)
def AC (p0:List Ap)(p1:List Ap):Option Int:=
 if decide ((p0.length:Int)<(p1.length:Int)) then
  some (-1)
 else
  some 0
def AD (p0:List Ap)(p1:List Ap)(h:Int):Option (Int⊕Int):=
 if decide (h<(p0.length:Int)) then
  if h==(p1.length:Int) then
   (some 1).map Sum.inr
  else
   (idx p0 h).bind λW=>
   (idx p1 h).bind λx35=>
   (iX W x35).bind λJ=>
   if J != 0 then
    (some J).map Sum.inr
   else
    some (.inl (Z0.wrap (h+1)))
 else
  (AC p0 p1).map Sum.inr
def yB (p0:List Ap)(p1:List Ap):Option Int:=
 am (λs:Int=>AD p0 p1 s) 0
def t8 (p0:aM)(p1:aM):Option Bool:=
 if p0.fEpoch != p1.fEpoch then
  some (decide (p0.fEpoch<p1.fEpoch))
 else
  some (decide (p0.fNumber<p1.fNumber))
def ry (p0:List Int)(p1:aa)(h:aa):Option Bool:=
 (xH p0 p1.fRow).bind λW=>
 (xH p0 h.fRow).bind λZ=>
 (yB W Z).bind λJ=>
 if J != 0 then
  some (decide (J<0))
 else
  (t8 p1.fId h.fId).bind λa0=>
  some a0
def wS:Option Int:=
 some (-1)
def gO (p0:List Int)(p1:Int)(h:Int):Option (Int⊕Int):=
 if decide (h<(p0.length:Int)) then
  (idx p0 h).bind λJ=>
  if p1==J then
   (some h).map Sum.inr
  else
   some (.inl (Z0.wrap (h+1)))
 else
  (wS).map Sum.inr
def lJ (p0:List Int)(p1:Int):Option Int:=
 am (λs:Int=>gO p0 p1 s) 0
def gP (p0:List Int)(p1:Int):Option Bool:=
 (lJ p0 p1).bind λh=>
 some (decide (0<=h))
def ju (h:Bool):Option Bool:=
 some h
def jv (p0:Int)(p1:aa)(h:Bool):Option Bool:=
 if (p1.fRow.length:Int)==p0 then
  if decide (1<=p1.fId.fEpoch) then
   if decide (p1.fId.fEpoch<=9223372036854775807) then
    ju (!h)
   else
    ju false
  else
   ju false
 else
  ju false
def lK (p0:Int)(p1:aa):Option Bool:=
 if p1.fDeleted != 0 then
  if decide (p1.fDeleted<=p1.fId.fEpoch) then
   jv p0 p1 true
  else
   jv p0 p1 (decide (9223372036854775807<p1.fDeleted))
 else
  jv p0 p1 false
def lL (p0:Int)(p1:aa)(h:Int):Option (Int⊕Bool):=
 if decide (h<(p1.fRow.length:Int)) then
  (idx p1.fRow h).bind λJ=>
  (mh J).bind λW=>
  if !W then
   (some false).map Sum.inr
  else
   some (.inl (Z0.wrap (h+1)))
 else
  (lK p0 p1).map Sum.inr
def l7 (p0:Int)(p1:aa):Option Bool:=
 am (λs:Int=>lL p0 p1 s) 0
def mX (h:List aM):Option Int:=
 some 0
def fH (W:Int)(J:List aM)(Z:aa)(h:Bool):Option ((Int×List aM)⊕Int):=
 if h then
  (some 81).map Sum.inr
 else
  some (.inl (Z0.wrap (W+1),(Z.fId::J)))
def dy (p0:Int)(Z:List aa)(J:Int)(W:List aM):Option ((Int×List aM)⊕Int):=
 if decide (J<(Z.length:Int)) then
  (idx Z J).bind λh=>
  (l7 p0 h).bind λa0=>
  if !a0 then
   fH J W h true
  else
   fH J W h (decide (1<(jM (h.fId::W) h.fId)))
 else
  (mX W).map Sum.inr
def eL (p0:Int)(h:List aa):Option Int:=
 if decide (4096<(h.length:Int)) then
  some 81
 else
  am (λs:(Int×List aM)=>dy p0 h s.1 s.2) (0,([]:List aM))
def eM (h:Int)(J:Bool):Option (Int⊕Int):=
 if J then
  (some 1).map Sum.inr
 else
  some (.inl (Z0.wrap (h+1)))
def fI (p0:Int)(p1:List Int)(Z:List aa)(h:Int):Option (Int⊕Int):=
 if decide (h<(p1.length:Int)) then
  (idx p1 h).bind λJ=>
  if decide (J<0) then
   eM h true
  else
   if decide (p0<=J) then
    eM h true
   else
    (sub p1 0 h).bind λW=>
    (gP W J).bind λa0=>
    eM h a0
 else
  (eL p0 Z).map Sum.inr
def fJ (p0:Int)(p1:List Int)(J:List aa)(h:Bool):Option Int:=
 if h then
  some 1
 else
  am (λs:Int=>fI p0 p1 J s) 0
def gl (p0:Int)(p1:List Int)(h:List aa):Option Int:=
 if decide (p0<1) then
  fJ p0 p1 h true
 else
  fJ p0 p1 h (decide (8<p0))
def jw (p0:List Int)(p1:Int):Option (List Int):=
 (app 140737488355328 p0 ([Zd.wrap (aX .i64 p1 24),Zd.wrap (aX .i64 p1 16),Zd.wrap (aX .i64 p1 8),Zd.wrap p1])).bind λh=>
 some h
def yM (h:List Ap):Option (List Ap):=
 some h
def gA (h:Int)(J:List Ap):Option ((List Ap×Int)⊕List Ap):=
 some (.inl (J,Z0.wrap (h+1)))
def om (p0:Int)(p1:Int)(Z:List aa)(J:List Ap)(h:Int):Option ((List Ap×Int)⊕List Ap):=
 if decide (h<(Z.length:Int)) then
  (idx Z h).bind λW=>
  if (Z0.wrap (p1 - p0))==0 then
   (eI (Z0.wrap W.fId.fEpoch)).bind λa6=>
   (app 3518437208883 J ([a6])).bind λa0=>
   gA h a0
  else
   if (Z0.wrap (p1 - p0))==1 then
    (eI (Z0.wrap W.fId.fNumber)).bind λa3=>
    (app 3518437208883 J ([a3])).bind λa4=>
    gA h a4
   else
    if (Z0.wrap (p1 - p0))==2 then
     (eI (Z0.wrap W.fDeleted)).bind λa5=>
     (app 3518437208883 J ([a5])).bind λa9=>
     gA h a9
    else
     (idx W.fRow p1).bind λa2=>
     (app 3518437208883 J ([a2])).bind λa1=>
     gA h a1
 else
  (yM J).map Sum.inr
def lc (p0:Int)(p1:Int)(h:List aa):Option (List Ap):=
 am (λs:(List Ap×Int)=>om p0 p1 h s.1 s.2) ([],0)
def cK {σ:Type}(step:(σ->(List Ap)->Option (σ×Bool)))(p1:List Ap)(J:Int)(h:Int)(x6:σ):Option ((Int×σ)⊕σ):=
 if decide (h<(p1.length:Int)) then
  (sub p1 h p1.length).bind λZ=>
  (sub p1 h (Z0.wrap (h+(if (Z.length:Int)<J then (Z.length:Int) else J)))).bind λa0=>
  (step x6 a0).bind λW=>
  if !W.2 then
   (some W.1).map Sum.inr
  else
   some (.inl (Z0.wrap (h+J),W.1))
 else
  (some x6).map Sum.inr
def gm {σ:Type}(step:(σ->(List Ap)->Option (σ×Bool)))(h:σ)(p1:List Ap)(J:Int):Option σ:=
 am (λs:(Int×σ)=>cK step p1 J s.1 s.2) (0,h)
def fX (p1:List Ap)(h:Int):Option (List (List Ap)):=
 gm (λ(s:List (List Ap)) x=>some (s++[x],true)) [] p1 h
def iL (p0:List Ap)(p1:Int):Option (List (List Ap)):=
 (fX p0 p1).bind λh=>
 some h
def iD (p0:List Ap)(p1:Int):Option (List (List Ap)):=
 if decide (p1<1) then
  none
 else
  iL p0 p1
def rY (p0:Int)(p1:List Ap):Option Bool:=
 (fu p0 p1).bind λh=>
 some (h.2==0)
def gB (Z:List Int)(J:List Ap)(x44:Int):Option (List Int×Bool):=
 (oE x44 J).bind λW=>
 (app 140737488355328 Z W.1).bind λh=>
 some (h,true)
def eZ (p0:Int)(J:List Int)(h:List Ap):Option (List Int×Bool):=
 (rY p0 h).bind λW=>
 if !W then
  gB J h (-1)
 else
  gB J h p0
def ld (p0:Int)(p1:List Ap):Option (List Int):=
 (iD p1 64).bind λJ=>
 (fP (λ(s:List Int) (x:List Ap)=>eZ p0 s x) ([]:(List Int)) J).bind λh=>
 if h.2 then
  some h.1
 else
  none
def jx (h:List Int):Option (List Int×Int):=
 (iB h).bind λJ=>
 (jw h (Z0.wrap J)).bind λW=>
 some (W,0)
def gY (p0:Int)(a0:List aa)(Z:List Int)(h:Int)(a2:Int):Option ((List Int×Int)⊕(List Int×Int)):=
 (lc p0 h a0).bind λW=>
 (ld a2 W).bind λJ=>
 (jw Z (J.length:Int)).bind λa3=>
 (app 140737488355328 a3 J).bind λa1=>
 some (.inl (a1,Z0.wrap (h+1)))
def fC (p0:Int)(Z:List Int)(W:List aa)(J:List Int)(h:Int)(a1:Bool):Option ((List Int×Int)⊕(List Int×Int)):=
 if a1 then
  (idx Z h).bind λa0=>
  gY p0 W J h a0
 else
  gY p0 W J h (-1)
def gZ (p0:Int)(J:List Int)(Z:List aa)(W:List Int)(h:Int):Option ((List Int×Int)⊕(List Int×Int)):=
 if decide (h<(Z0.wrap (p0+3))) then
  if decide (h<p0) then
   fC p0 J Z W h (decide (h<(J.length:Int)))
  else
   fC p0 J Z W h false
 else
  (jx W).map Sum.inr
def jy (p0:Int)(W:List Int)(h:List aa)(J:List Int):Option (List Int×Int):=
 (jw J (h.length:Int)).bind λZ=>
 am (λs:(List Int×Int)=>gZ p0 W h s.1 s.2) (Z,0)
def jz (p0:Int)(p1:List Int)(p2:List Int)(a0:List aa)(J:List Int)(h:Int):Option ((List Int×Int)⊕(List Int×Int)):=
 if decide (h<(p1.length:Int)) then
  (idx p1 h).bind λZ=>
  (app 140737488355328 J ([Zd.wrap Z])).bind λW=>
  some (.inl (W,Z0.wrap (h+1)))
 else
  (jy p0 p2 a0 J).map Sum.inr
def gG (p0:Int)(p1:List Int)(W:List Int)(J:List aa):Option (List Int×Int):=
 (gl p0 p1 J).bind λh=>
 if h != 0 then
  some ([],h)
 else
  (jk p1 J).bind λa0=>
  (app 140737488355328 ([72,65,89,49]) ([Zd.wrap p0,Zd.wrap (p1.length:Int)])).bind λZ=>
  am (λs:(List Int×Int)=>jz p0 p1 W a0 s.1 s.2) (Z,0)
def dG (p0:List Int):Option Int:=
 (idx p0 0).bind λW=>
 (idx p0 1).bind λh=>
 (idx p0 2).bind λJ=>
 (idx p0 3).bind λZ=>
 some (bOr .i64 (bOr .i64 (bOr .i64 (dZ .i64 (Z0.wrap W) 24) (dZ .i64 (Z0.wrap h) 16)) (dZ .i64 (Z0.wrap J) 8)) (Z0.wrap Z))
def gn (h:aB)(Z:Int)(W:List Int)(J:Bool):Option (Int×List Int×Bool×aB):=
 some (Z,W,J,h)
def gp (Z:Int)(J:List Int)(h:aB):Option (Int×List Int×Bool×aB):=
 (sub J (Z0.wrap Z) J.length).bind λa1=>
 (dG a1).bind λW=>
 (sub J (Z0.wrap ((Z0.wrap Z)+4)) J.length).bind λa0=>
 (gl h.fColumns h.fSort ([])).bind λa2=>
 if a2==0 then
  gn h W a0 (decide (W<=4096))
 else
  gn h W a0 false
def dW (Z:Int)(a0:List Int)(J:List Int)(h:Int)(x307:aB):Option ((Int×aB)⊕(Int×List Int×Bool×aB)):=
 if decide (h<(J.length:Int)) then
  (idx J h).bind λx316=>
  (app 17592186044416 x307.fSort ([Z0.wrap x316])).bind λW=>
  some (.inl (Z0.wrap (h+1),{ x307 with fSort:=W }))
 else
  (gp Z a0 x307).map Sum.inr
def dz (p1:List Int)(x6:Bool):Option (Int×List Int×Bool×aB):=
 if x6 then
  some (0,[],false,aB.zero)
 else
  (idx p1 4).bind λW=>
  (idx p1 5).bind λJ=>
  (sub p1 6 p1.length).bind λh=>
  if decide ((h.length:Int)<(Z0.wrap ((Z0.wrap J)+4))) then
   some (0,[],false,{ aB.zero with fColumns:=Z0.wrap W })
  else
   (sub h 0 (Z0.wrap J)).bind λZ=>
   am (λs:(Int×aB)=>dW J h Z s.1 s.2) (0,{ aB.zero with fColumns:=Z0.wrap W })
def dq (p1:List Int):Option (Int×List Int×Bool×aB):=
 if decide ((p1.length:Int)<6) then
  dz p1 true
 else
  (sub p1 0 4).bind λh=>
  (N0 h).bind λJ=>
  dz p1 (!decide (J=(72,65,89,49)))
def kN (p1:Int)(x6:List Ap):Option (List Ap×Bool):=
 some (x6,(x6.length:Int)==p1)
def gC (J:List Int)(a0:List Ap)(h:List Ap×Int×Int)(Z:Bool):Option ((List Int×List Ap)⊕(List Ap×Bool)):=
 if Z then
  (some ([],false)).map Sum.inr
 else
  (app 3518437208883 a0 h.1).bind λa1=>
  (sub J h.2.1 J.length).bind λW=>
  some (.inl (W,a1))
def bT (p1:Int)(W:List Int)(h:List Ap):Option ((List Int×List Ap)⊕(List Ap×Bool)):=
 if decide (0<(W.length:Int)) then
  (io W).bind λJ=>
  if J.2.2 != 0 then
   gC W h J true
  else
   gC W h J ((J.1.length:Int) != (if (Z0.wrap (p1 - (h.length:Int)))<64 then Z0.wrap (p1 - (h.length:Int)) else 64))
 else
  (kN p1 h).map Sum.inr
def d9 (p0:List Int)(p1:Int):Option (List Ap×Bool):=
 am (λs:(List Int×List Ap)=>bT p1 s.1 s.2) (p0,[])
def gq (h:List aa):Option (Bool×List aa):=
 some (true,h)
def cE (h:Int)(J:List aa):Option ((Int×List aa)⊕(Bool×List aa)):=
 some (.inl (Z0.wrap (h+1),J))
def cF (p0:aB)(p1:Int)(W:Int)(h:List aa)(x24:Ap)(J:Nat)(a0:Bool):Option ((Int×List aa)⊕(Bool×List aa)):=
 if a0 then
  (some (false,h)).map Sum.inr
 else
  if (Z0.wrap (p1 - p0.fColumns))==0 then
   (h[J]?).bind λx82=>
   cE W (h.set J ({ x82 with fId:={ x82.fId with fEpoch:=Z2.wrap x24.fInt } }))
  else
   if (Z0.wrap (p1 - p0.fColumns))==1 then
    if decide (4294967295<x24.fInt) then
     (some (false,h)).map Sum.inr
    else
     (h[J]?).bind λx106=>
     cE W (h.set J ({ x106 with fId:={ x106.fId with fNumber:=Xg.wrap x24.fInt } }))
   else
    if (Z0.wrap (p1 - p0.fColumns))==2 then
     (h[J]?).bind λx122=>
     cE W (h.set J ({ x122 with fDeleted:=Z2.wrap x24.fInt }))
    else
     (h[J]?).bind λa1=>
     (app 3518437208883 a1.fRow ([x24])).bind λZ=>
     (h[J]?).bind λx182=>
     cE W (h.set J ({ x182 with fRow:=Z }))
def bM (p0:aB)(p1:Int)(Z:List Ap)(h:Int)(J:List aa):Option ((Int×List aa)⊕(Bool×List aa)):=
 if decide (h<(Z.length:Int)) then
  (idx Z h).bind λx24=>
  (ix J h).bind λW=>
  if decide (p0.fColumns<=p1) then
   if x24.fKind != 2 then
    cF p0 p1 h J x24 W true
   else
    cF p0 p1 h J x24 W (decide (x24.fInt<0))
  else
   cF p0 p1 h J x24 W false
 else
  (gq J).map Sum.inr
def dt (p0:aB)(J:List aa)(p1:Int)(h:List Ap):Option (Bool×List aa):=
 am (λs:(Int×List aa)=>bM p0 p1 h s.1 s.2) (0,J)
def rz:Option Bool:=
 some true
def bH (p0:List aa)(p1:List aa)(J:(aa->aa->Option Bool))(h:Int):Option (Int⊕Bool):=
 if decide (h<(p0.length:Int)) then
  (idx p0 h).bind λW=>
  (idx p1 h).bind λZ=>
  (J W Z).bind λa0=>
  if !a0 then
   (some false).map Sum.inr
  else
   some (.inl (Z0.wrap (h+1)))
 else
  (rz).map Sum.inr
def dH (p0:List aa)(p1:List aa)(h:(aa->aa->Option Bool)):Option Bool:=
 if (p0.length:Int) != (p1.length:Int) then
  some false
 else
  am (λs:Int=>bH p0 p1 h s) 0
def bR (p0:aa)(p1:aa):Option Bool:=
 some (decide (p0.fId=p1.fId))
def ej (p0:(Option aB)):Option Bool:=
 (p0).bind λx2=>
 (p0).bind λh=>
 (jk x2.fSort h.fL).bind λJ=>
 (p0).bind λW=>
 (dH J W.fL bR).bind λZ=>
 some Z
def kg (r24:Int×List Int×Bool×aB)(J:List aa)(h:Bool):Option ((Option aB)×Int):=
 if h then
  some ((none:(Option aB)),80)
 else
  some ((some ({ r24.2.2.2 with fL:=J })),0)
def eu (r24:Int×List Int×Bool×aB)(Z:List Int)(h:List aa):Option ((Option aB)×Int):=
 if decide (0<(Z.length:Int)) then
  kg r24 h true
 else
  ((some ({ r24.2.2.2 with fL:=h }))).bind λJ=>
  ((some ({ r24.2.2.2 with fL:=h }))).bind λx144=>
  ((some ({ r24.2.2.2 with fL:=h }))).bind λW=>
  (gl J.fColumns x144.fSort W.fL).bind λa1=>
  if a1 != 0 then
   kg r24 h true
  else
   (ej (some ({ r24.2.2.2 with fL:=h }))).bind λa0=>
   kg r24 h (!a0)
def fe (h:List Int)(W:Int)(Z:Int)(x307:Bool)(J:List aa):Option ((List Int×Int×List aa)⊕((Option aB)×Int)):=
 if x307 then
  (some ((none:(Option aB)),80)).map Sum.inr
 else
  (sub h (Z0.wrap (4+Z)) h.length).bind λa0=>
  some (.inl (a0,Z0.wrap (W+1),J))
def ew (r24:Int×List Int×Bool×aB)(h:List Int)(W:Int)(a0:List aa)(a2:Bool):Option ((List Int×Int×List aa)⊕((Option aB)×Int)):=
 if a2 then
  (some ((none:(Option aB)),80)).map Sum.inr
 else
  (dG h).bind λJ=>
  (sub h 4 (Z0.wrap (4+J))).bind λa3=>
  (d9 a3 r24.1).bind λa1=>
  if !a1.2 then
   fe h W J true a0
  else
   (dt r24.2.2.2 a0 W a1.1).bind λZ=>
   fe h W J (!Z.1) Z.2
def bG (r24:Int×List Int×Bool×aB)(h:List Int)(J:Int)(W:List aa):Option ((List Int×Int×List aa)⊕((Option aB)×Int)):=
 if decide (J<(Z0.wrap (r24.2.2.2.fColumns+3))) then
  if decide ((h.length:Int)<4) then
   ew r24 h J W true
  else
   (dG h).bind λZ=>
   ew r24 h J W (decide ((h.length:Int)<(Z0.wrap (4+Z))))
 else
  (eu r24 h W).map Sum.inr
def gr (p0:List Int)(J:Bool):Option ((Option aB)×Int):=
 if J then
  some ((none:(Option aB)),80)
 else
  (sub p0 0 (Z0.wrap ((p0.length:Int) - 4))).bind λh=>
  (dq h).bind λr24=>
  if !r24.2.2.1 then
   some ((none:(Option aB)),80)
  else
   (mk 5864062014805 r24.1 aa.zero).bind λW=>
   am (λs:(List Int×Int×List aa)=>bG r24 s.1 s.2.1 s.2.2) (r24.2.1,0,W)
def dI (p0:List Int):Option ((Option aB)×Int):=
 if decide ((p0.length:Int)<4) then
  gr p0 true
 else
  (sub p0 (Z0.wrap ((p0.length:Int) - 4)) p0.length).bind λW=>
  (dG W).bind λZ=>
  (sub p0 0 (Z0.wrap ((p0.length:Int) - 4))).bind λJ=>
  (iB J).bind λh=>
  gr p0 (Z != (Z0.wrap h))
def c9 (p0:aa)(p1:aM):Option Bool:=
 some (decide (p0.fId=p1))
def rA:Option Int:=
 some (-1)
def dQ (p0:List aa)(p1:(aa->Option Bool))(h:Int):Option (Int⊕Int):=
 if decide (h<(p0.length:Int)) then
  (idx p0 h).bind λW=>
  (p1 W).bind λJ=>
  if J then
   (some h).map Sum.inr
  else
   some (.inl (Z0.wrap (h+1)))
 else
  (rA).map Sum.inr
def eN (p0:List aa)(p1:(aa->Option Bool)):Option Int:=
 am (λs:Int=>dQ p0 p1 s) 0
def gD (p0:(Option aB))(p1:aM):Option (Int×Bool):=
 (p0).bind λW=>
 (eN W.fL (λJ=>c9 J p1)).bind λh=>
 some ((if h<0 then 0 else h),decide (0<=h))
def hU (p0:(Option aB)):Option Int:=
 (p0).bind λh=>
 some (h.fL.length:Int)
def uM (h:Bool):Option Bool:=
 some h
def rf (h:((Option aB)×Int))(W:Bool):Option Bool:=
 if W then
  some false
 else
  (gD h.1 (⟨1,0⟩:aM)).bind λJ=>
  (hU h.1).bind λZ=>
  if Z==2 then
   if J.1==1 then
    uM J.2
   else
    uM false
  else
   uM false
def s6:Option Bool:=
 (gG 1 ([0]) ([]) ([(⟨(⟨1,0⟩:aM),[(⟨2,false,2,[]⟩:Ap)],0⟩:aa),(⟨(⟨2,0⟩:aM),[(⟨2,false,1,[]⟩:Ap)],0⟩:aa)])).bind λJ=>
 (dI J.1).bind λh=>
 if J.2 != 0 then
  rf h true
 else
  if h.2 != 0 then
   rf h true
  else
   rf h h.1.isNone
def CY:Option Int:=
 some 0
def wM (x24:Int):Option (Int⊕Int):=
 some (.inl (Z0.wrap (x24+1)))
def o6 (J:List aa)(x24:Int)(Z:aa)(h:Int):Option (Int⊕(Int⊕Int)):=
 if decide (h<x24) then
  (idx J h).bind λW=>
  if decide (W.fId=Z.fId) then
   ((some 81).map Sum.inr).map Sum.inr
  else
   some (.inl (Z0.wrap (h+1)))
 else
  (wM x24).map Sum.inr
def l8 (h:List aa)(x24:Int)(J:aa):Option (Int⊕Int):=
 am (λs:Int=>o6 h x24 J s) 0
def o7 (p2:List aa)(x24:Int)(J:aa)(h:Int):Option (Int⊕(Int⊕Int)):=
 if decide (h<(J.fRow.length:Int)) then
  (idx J.fRow h).bind λW=>
  (sQ W).bind λZ=>
  if !Z then
   ((some 81).map Sum.inr).map Sum.inr
  else
   some (.inl (Z0.wrap (h+1)))
 else
  (l8 p2 x24 J).map Sum.inr
def gH (h:List aa)(x24:Int)(W:aa)(J:Bool):Option (Int⊕Int):=
 if J then
  (some 81).map Sum.inr
 else
  am (λs:Int=>o7 h x24 W s) 0
def o8 (p0:Int)(J:List aa)(x24:Int):Option (Int⊕Int):=
 if decide (x24<(J.length:Int)) then
  (idx J x24).bind λh=>
  if (h.fRow.length:Int) != p0 then
   gH J x24 h true
  else
   if h.fId.fEpoch==0 then
    gH J x24 h true
   else
    if decide (9223372036854775807<h.fId.fEpoch) then
     gH J x24 h true
    else
     if decide (9223372036854775807<h.fDeleted) then
      gH J x24 h true
     else
      if h.fDeleted != 0 then
       gH J x24 h (decide (h.fDeleted<=h.fId.fEpoch))
      else
       gH J x24 h false
 else
  (CY).map Sum.inr
def l9 (p0:Int)(h:List aa):Option Int:=
 if decide (4096<(h.length:Int)) then
  some 81
 else
  am (λs:Int=>o8 p0 h s) 0
def wN (h:Int):Option (Int⊕Int):=
 some (.inl (Z0.wrap (h+1)))
def o9 (p1:List Int)(J:Int)(h:Int):Option (Int⊕(Int⊕Int)):=
 if decide (h<J) then
  (idx p1 h).bind λZ=>
  (idx p1 J).bind λW=>
  if Z==W then
   ((some 1).map Sum.inr).map Sum.inr
  else
   some (.inl (Z0.wrap (h+1)))
 else
  (wN J).map Sum.inr
def pa (p1:List Int)(J:Int)(h:Bool):Option (Int⊕Int):=
 if h then
  (some 1).map Sum.inr
 else
  am (λs:Int=>o9 p1 J s) 0
def pc (p0:Int)(p1:List Int)(Z:List aa)(h:Int):Option (Int⊕Int):=
 if decide (h<(p1.length:Int)) then
  (idx p1 h).bind λW=>
  if decide (W<0) then
   pa p1 h true
  else
   (idx p1 h).bind λJ=>
   pa p1 h (decide (p0<=J))
 else
  (l9 p0 Z).map Sum.inr
def pd (p0:Int)(p1:List Int)(J:List aa)(h:Bool):Option Int:=
 if h then
  some 1
 else
  am (λs:Int=>pc p0 p1 J s) 0
def nN (p0:Int)(p1:List Int)(h:List aa):Option Int:=
 if decide (p0<1) then
  pd p0 p1 h true
 else
  pd p0 p1 h (decide (8<p0))
def Er (p1:Int)(x6:List Ap):Option (List Ap×Bool):=
 some (x6,(x6.length:Int)==p1)
def s7 (J:List Int)(a0:List Ap)(h:List Ap×Int×Int)(a1:Bool):Option ((List Int×List Ap)⊕(List Ap×Bool)):=
 if a1 then
  (some ([],false)).map Sum.inr
 else
  (app 3518437208883 a0 h.1).bind λW=>
  (sub J h.2.1 J.length).bind λZ=>
  some (.inl (Z,W))
def eO (p1:Int)(W:List Int)(h:List Ap):Option ((List Int×List Ap)⊕(List Ap×Bool)):=
 if decide (0<(W.length:Int)) then
  (qC W).bind λJ=>
  if J.2.2 != 0 then
   s7 W h J true
  else
   s7 W h J ((J.1.length:Int) != (if (Z0.wrap (p1 - (h.length:Int)))<64 then Z0.wrap (p1 - (h.length:Int)) else 64))
 else
  (Er p1 h).map Sum.inr
def rB (p0:List Int)(p1:Int):Option (List Ap×Bool):=
 am (λs:(List Int×List Ap)=>eO p1 s.1 s.2) (p0,[])
def qE (h:List aa):Option (List aa×Bool):=
 some (h,true)
def nO (J:Int)(h:List aa):Option ((List aa×Int)⊕(List aa×Bool)):=
 some (.inl (h,Z0.wrap (J+1)))
def nP (p0:Int)(p1:(List (List Ap)))(a5:List aa)(h:Int)(x46:aa):Option ((List aa×Int)⊕(List aa×Bool)):=
 (idx p1 (Z0.wrap (p0+1))).bind λa4=>
 (idx a4 h).bind λW=>
 if decide (4294967295<W.fInt) then
  (some ([],false)).map Sum.inr
 else
  (idx p1 p0).bind λa0=>
  (idx a0 h).bind λa3=>
  (idx p1 (Z0.wrap (p0+1))).bind λa2=>
  (idx a2 h).bind λa6=>
  (idx p1 (Z0.wrap (p0+2))).bind λa1=>
  (idx a1 h).bind λZ=>
  (app 2932031007402 a5 ([{ { x46 with fId:=(⟨Z2.wrap a3.fInt,Xg.wrap a6.fInt⟩:aM) } with fDeleted:=Z2.wrap Z.fInt }])).bind λJ=>
  nO h J
def lf (h:Int)(J:Bool):Option (Int⊕((List aa×Int)⊕(List aa×Bool))):=
 if J then
  ((some ([],false)).map Sum.inr).map Sum.inr
 else
  some (.inl (Z0.wrap (h+1)))
def fM (p0:Int)(p1:(List (List Ap)))(a1:List aa)(J:Int)(x46:aa)(h:Int):Option (Int⊕((List aa×Int)⊕(List aa×Bool))):=
 if decide (h<(Z0.wrap (p0+3))) then
  (idx p1 h).bind λW=>
  (idx W J).bind λa2=>
  if a2.fKind != 2 then
   lf h true
  else
   (idx p1 h).bind λZ=>
   (idx Z J).bind λa0=>
   lf h (decide (a0.fInt<0))
 else
  (nP p0 p1 a1 J x46).map Sum.inr
def nQ (p0:Int)(p1:(List (List Ap)))(J:List aa)(h:Int)(x46:aa):Option ((List aa×Int)⊕(List aa×Bool)):=
 am (λs:Int=>fM p0 p1 J h x46 s) p0
def lg (p0:Int)(p1:(List (List Ap)))(a1:List aa)(J:Int)(h:Int)(x314:aa):Option ((Int×aa)⊕((List aa×Int)⊕(List aa×Bool))):=
 if decide (h<p0) then
  (idx p1 h).bind λZ=>
  (idx Z J).bind λa0=>
  (app 3518437208883 x314.fRow ([a0])).bind λW=>
  some (.inl (Z0.wrap (h+1),{ x314 with fRow:=W }))
 else
  (nQ p0 p1 a1 J x314).map Sum.inr
def fN (p0:Int)(p1:(List (List Ap)))(W:Int)(J:List aa)(h:Int):Option ((List aa×Int)⊕(List aa×Bool)):=
 if decide (h<W) then
  am (λs:(Int×aa)=>lg p0 p1 J h s.1 s.2) (0,(⟨aM.zero,[],0⟩:aa))
 else
  (qE J).map Sum.inr
def rg (p0:Int)(p1:(List (List Ap)))(h:Int):Option (List aa×Bool):=
 am (λs:(List aa×Int)=>fN p0 p1 h s.1 s.2) ([],0)
structure Kx where
 fColumn:Int
 fOp:Int
 fValue:Ap
 deriving DecidableEq
def Kx.zero:Kx:=⟨0,0,Ap.zero⟩
end
noncomputable section
end
noncomputable section
end
noncomputable section
def vY (x128:bI)(h:List aa×Bool):Option (bI×Int):=
 some ({ x128 with fL:=h.1 },0)
def iq (x128:bI)(J:List aa×Bool)(h:Int):Option (Int⊕(bI×Int)):=
 if decide (h<(J.1.length:Int)) then
  (idx J.1 (Z0.wrap (h - 1))).bind λZ=>
  (idx J.1 h).bind λW=>
  (ry x128.fSort Z W).bind λa0=>
  if !a0 then
   (some ((⟨0,[],[]⟩:bI),80)).map Sum.inr
  else
   some (.inl (Z0.wrap (h+1)))
 else
  (vY x128 J).map Sum.inr
def lM (x128:bI)(J:List aa×Bool)(h:Bool):Option (bI×Int):=
 if h then
  some ((⟨0,[],[]⟩:bI),80)
 else
  am (λs:Int=>iq x128 J s) 1
def kj (p0:List Int)(x128:bI)(a0:Int)(W:Int)(Z:(List (List Ap))):Option (bI×Int):=
 (rg x128.fColumns Z (Z0.wrap a0)).bind λh=>
 if !h.2 then
  lM x128 h true
 else
  if W != (Z0.wrap ((p0.length:Int) - 4)) then
   lM x128 h true
  else
   (nN x128.fColumns x128.fSort h.1).bind λJ=>
   lM x128 h (J != 0)
def ko (p0:List Int)(a4:Int)(h:Int)(a3:(List (List Ap)))(a2:Int)(a0:Bool):Option ((Int×(List (List Ap))×Int)⊕(bI×Int)):=
 if a0 then
  (some ((⟨0,[],[]⟩:bI),80)).map Sum.inr
 else
  (sub p0 h (Z0.wrap (h+4))).bind λa5=>
  (gW a5).bind λJ=>
  (sub p0 (Z0.wrap (h+4)) (Z0.wrap ((Z0.wrap (h+4))+(Z0.wrap J)))).bind λZ=>
  (rB Z (Z0.wrap a4)).bind λW=>
  if !W.2 then
   (some ((⟨0,[],[]⟩:bI),80)).map Sum.inr
  else
   (app 5864062014805 a3 ([W.1])).bind λa1=>
   some (.inl (Z0.wrap ((Z0.wrap (h+4))+(Z0.wrap J)),a1,Z0.wrap (a2+1)))
def ez (p0:List Int)(x128:bI)(Z:Int)(h:Int)(W:(List (List Ap)))(J:Int):Option ((Int×(List (List Ap))×Int)⊕(bI×Int)):=
 if decide (J<(Z0.wrap (x128.fColumns+3))) then
  if decide ((Z0.wrap ((p0.length:Int) - 4))<(Z0.wrap (h+4))) then
   ko p0 Z h W J true
  else
   (sub p0 h (Z0.wrap (h+4))).bind λa0=>
   (gW a0).bind λa1=>
   ko p0 Z h W J (decide ((Z0.wrap ((p0.length:Int) - 4))<(Z0.wrap ((Z0.wrap (h+4))+(Z0.wrap a1)))))
 else
  (kj p0 x128 Z h W).map Sum.inr
def p9 (p0:List Int)(h:Int)(x128:bI)(J:Int)(W:Bool):Option (bI×Int):=
 if W then
  some ((⟨0,[],[]⟩:bI),80)
 else
  am (λs:(Int×(List (List Ap))×Int)=>ez p0 x128 J s.1 s.2.1 s.2.2) (Z0.wrap ((Z0.wrap (6+(Z0.wrap h)))+4),[],0)
def rZ (p0:List Int)(h:Int)(x128:bI):Option (bI×Int):=
 (sub p0 (Z0.wrap (6+(Z0.wrap h))) (Z0.wrap ((Z0.wrap (6+(Z0.wrap h)))+4))).bind λZ=>
 (gW Z).bind λJ=>
 (nN x128.fColumns x128.fSort ([])).bind λW=>
 if W != 0 then
  p9 p0 h x128 J true
 else
  p9 p0 h x128 J (decide (4096<(Z0.wrap J)))
def qa (p0:List Int)(J:Int)(h:Int)(x505:bI):Option ((Int×bI)⊕(bI×Int)):=
 if decide (h<(Z0.wrap (6+(Z0.wrap J)))) then
  (idx p0 h).bind λW=>
  (app 17592186044416 x505.fSort ([Z0.wrap W])).bind λZ=>
  some (.inl (Z0.wrap (h+1),{ x505 with fSort:=Z }))
 else
  (rZ p0 J x505).map Sum.inr
def ir (p0:List Int)(x6:Bool):Option (bI×Int):=
 if x6 then
  some ((⟨0,[],[]⟩:bI),80)
 else
  (sub p0 (Z0.wrap ((p0.length:Int) - 4)) p0.length).bind λZ=>
  (gW Z).bind λa1=>
  (sub p0 0 (Z0.wrap ((p0.length:Int) - 4))).bind λJ=>
  (vd J).bind λW=>
  if a1 != (Z2.wrap W) then
   some ((⟨0,[],[]⟩:bI),80)
  else
   (idx p0 4).bind λa0=>
   (idx p0 5).bind λh=>
   if decide ((Z0.wrap ((p0.length:Int) - 4))<(Z0.wrap ((Z0.wrap (6+(Z0.wrap h)))+4))) then
    some ((⟨0,[],[]⟩:bI),80)
   else
    am (λs:(Int×bI)=>qa p0 h s.1 s.2) (6,(⟨Z0.wrap a0,[],[]⟩:bI))
def lh (p0:List Int):Option (bI×Int):=
 if decide ((p0.length:Int)<14) then
  ir p0 true
 else
  (idx p0 0).bind λh=>
  if h != 72 then
   ir p0 true
  else
   (idx p0 1).bind λW=>
   if W != 65 then
    ir p0 true
   else
    (idx p0 2).bind λJ=>
    if J != 89 then
     ir p0 true
    else
     (idx p0 3).bind λZ=>
     ir p0 (Z != 49)
def cO (h:Bool):Option Bool:=
 some h
def fa (p1:Int)(p2:Int)(a0:List Int×Int)(x36:Bool):Option Bool:=
 if x36 then
  (s6).bind λb1=>
  some b1
 else
  (sub a0.1 0 p1).bind λa6=>
  (dI a6).bind λW=>
  (app 140737488355328 ([]) a0.1).bind λa9=>
  (app 140737488355328 a9 ([p2])).bind λa1=>
  (dI a1).bind λh=>
  (sub a0.1 0 p1).bind λa5=>
  (lh a5).bind λZ=>
  (lh a1).bind λJ=>
  (s6).bind λa4=>
  if a4   then
   if W.2==Z.2 then
    if h.2==J.2 then
     if W.1.isNone==(Z.2 != 0) then
      if h.1.isNone==(J.2 != 0) then
       if W.1.isNone then
        if h.1.isNone then
         cO true
        else
         (hU h.1).bind λa3=>
         cO (a3==(J.1.fL.length:Int))
       else
        (hU W.1).bind λb0=>
        if b0==(Z.1.fL.length:Int) then
         if h.1.isNone then
          cO true
         else
          (hU h.1).bind λa2=>
          cO (a2==(J.1.fL.length:Int))
        else
         cO false
      else
       cO false
     else
      cO false
    else
     cO false
   else
    cO false
  else
   cO false
def nR (p0:dp)(p1:Int)(J:Int):Option Bool:=
 (gG p0.fColumns p0.fSort p0.fKinds p0.fL).bind λh=>
 if h.2 != 0 then
  fa p1 J h true
 else
  if decide (p1<0) then
   fa p1 J h true
  else
   fa p1 J h (decide ((h.1.length:Int)<=p1))
end
theorem G8 {σ β:Type}{f:σ->Option (σ⊕β)}{n:Nat}{s:σ}{b:β}(h:iG f n s=some b):∃k,n=k+1/\((f s=some (.inr b))\/ ∃s',f s=some (.inl s')/\iG f k s'=some b):=by
 cases n with
 |zero=>cases h
 | succ k=>
  rw[iG] at h;cases hf:f s with
  |none=>rw[hf] at h;cases h
  |some r=>
   rw[hf] at h;cases r with
   |inl s'=>exact⟨k,rfl,.inr ⟨s',rfl,h⟩⟩
   |inr b'=>injection h with h;subst h;exact⟨k,rfl,.inl rfl⟩
abbrev G9 {O:Type}:List O->O->Option (List O×Bool):=λs x=>some (s++[x],true)
theorem Ky {ι σ O:Type} {step:σ->O->Option (σ×Bool)} {s:σ} {xs:List O} {r:σ×Bool} (F:{τ:Type}->(τ->O->Option (τ×Bool))->ι->τ->Option ((ι×τ)⊕τ)) (c:ι->Bool) (el:ι->Option O) (nx:ι->ι)
  (hF:∀{τ:Type} (st:τ->O->Option (τ×Bool)) i s,F st i s=if c i then (el i).bind λx=>(st s x).bind λr=>if !r.2 then (some r.1).map Sum.inr else some (.inl (nx i,r.1)) else (some s).map Sum.inr)
  {i0:ι} (h:am (λs:ι×List O=>F G9 s.1 s.2) (i0,[])=some xs) (J:fP step s xs=some r):am (λs:ι×σ=>F step s.1 s.2) (i0,s)=some r.1:=by
 have key:∀(k:Nat) (i:ι) (Z:List O) (out:List O),iG (λs:ι×List O=>F G9 s.1 s.2) k (i,Z)=some out->∃ys,out=Z++ys/\∀(s:σ) r,fP step s ys=some r->am (λs:ι×σ=>F step s.1 s.2) (i,s)=some r.1:=by
  intro k
  induction k with
  |zero=>intro i Z out h;cases h
  | succ k ih=>
   intro i Z out h;obtain⟨k',hk,g⟩:=G8 h;obtain rfl:k'=k:=by omega
   clear h;have h:=g;clear g;rcases h with h|⟨s',W,h2⟩
   ·have h:F G9 i Z=some (.inr out):=h
    rw[hF] at h
    by_cases hc:c i=true
    ·rw[if_pos hc] at h
     cases hx:el i with
     |none=>rw[hx] at h;cases h
     |some x=>rw[hx] at h;simp at h
    ·rw[if_neg hc] at h
     simp only[Option.map_some,Option.some.injEq,Sum.inr.injEq] at h;subst h;refine⟨[],by simp,λs r J=>?_⟩;simp only[fP,Option.some.injEq] at J;subst J;refine aR ?_;show F step i s=_;rw[hF,if_neg hc];rfl
   ·have W:F G9 i Z=some (.inl s'):=W
    rw[hF] at W
    by_cases hc:c i=true
    ·rw [if_pos hc] at W
     cases hx:el i with
     |none=>rw[hx] at W;cases W
     | some x=>
      rw[hx] at W;simp only[Z1,Bool.not_true,Zx,if_false,Option.some.injEq,Sum.inl.injEq] at W;subst W;obtain⟨ys,e,a0⟩:=ih _ _ _ h2;refine⟨x::ys,by rw[e];simp,λs r J=>?_⟩;simp only[fP] at J;cases hst:step s x with
      |none=>rw[hst] at J;cases J
      | some q=>
       rw[hst] at J;simp only[Z1] at J;cases hq:q.2 with
       | true=>
        rw[hq] at J;simp only[if_true] at J;rw[bJ (s':=(nx i,q.1))]
        ·exact a0 _ _ J
        ·show F step i s=_
         rw[hF,if_pos hc,hx,Z1,hst,Z1,hq];rfl
       |false=>
        rw[hq] at J;simp only[Zx,if_false,Option.some.injEq] at J;subst J;refine aR ?_;show F step i s=_;rw[hF,if_pos hc,hx,Z1,hst,Z1,hq];rfl
    ·rw[if_neg hc] at W
     cases W
 obtain⟨k,hk⟩:=HJ.1 h;obtain⟨ys,e,a0⟩:=key k _ _ _ hk;simp only[List.nil_append] at e;subst e;exact a0 _ _ J
theorem sa {σ:Type}{step:σ->List Ap->Option (σ×Bool)}{s:σ}{xs:List (List Ap)}{p1:List Ap}{J:Int}{r:σ×Bool}(h:fX p1 J=some xs)(Z:fP step s xs=some r):gm step s p1 J=some r.1:=by
 refine Ky (λ{τ} st i s=>cK st p1 J i s) (λi=>decide (i<(p1.length:Int))) (λi=>(sub p1 i p1.length).bind λW=>sub p1 i (Z0.wrap (i+(if (W.length:Int)<J then (W.length:Int) else J)))) (λi=>Z0.wrap (i+J)) (λst i s=>?_) h Z;simp only[cK,Option.bind_assoc]
theorem dR {σ β:Type}{f:σ->Option (σ⊕β)}(I:σ->Prop)(μ:σ->Nat)(Q:β->Prop)
  (step:∀s,I s->(∃s',f s=some (.inl s')/\I s'/\μ s'<μ s)\/ ∃b,f s=some (.inr b)/\Q b) {s:σ} (h:I s):∃b,am f s=some b/\Q b:=by
 generalize hn:μ s=n
 induction n using Nat.strongRecOn generalizing s with
 | _ n ih=>
  rcases step s h with⟨s',J,W,h3⟩|⟨b,J,W⟩
  ·obtain⟨b,h4,Z⟩:=ih (μ s') (by omega) W rfl
   exact⟨b,by rw[bJ J];exact h4,Z⟩
  ·exact⟨b,aR J,W⟩
theorem mY {σ β:Type}{f:σ->Option (σ⊕β)}(I:σ->Prop)(μ:σ->Nat){b:β}
  (step:∀s,I s->(∃s',f s=some (.inl s')/\I s'/\μ s'<μ s)\/f s=some (.inr b)) {s:σ} (h:I s):am f s=some b:=by
 obtain⟨c,W,rfl⟩:=dR I μ (λc=>c=b) (λs J=>(step s J).imp id λh=>⟨b,h,rfl⟩) h;exact W
theorem ai {n:Int}(h: -9223372036854775808<=n/\n<=9223372036854775807):Z0.wrap n=n:=by
 have:inR .i64 n:=by rw[mL];exact h
 exact this
theorem aw {O:Type}{xs:List O}{i:Nat}(h:i<xs.length):idx xs (i:Int)=some xs[i]:=by
 unfold idx;rw[if_pos (by omega)];simp[h]
theorem aI {O:Type}{N:Nat}{xs ys:List O}(h:xs.length+ys.length<=N):app N xs ys=some (xs++ys):=by
 unfold app;rw[if_pos h]
theorem cP {O:Type}{xs:List O}{lo hi:Nat}(h:lo<=hi)(J:hi<=xs.length):sub xs (lo:Int) (hi:Int)=some ((xs.take hi).drop lo):=by
 unfold sub;rw[if_pos (by omega)];simp
theorem aT (n:Int):Z2.wrap n=n%18446744073709551616:=by
 simp[IntKind.wrap,IntKind.bits,IntKind.signed]
theorem jU (n:Int):Xg.wrap n=n%4294967296:=by
 simp[IntKind.wrap,IntKind.bits,IntKind.signed]
theorem bB (n:Int):Zd.wrap n=n%256:=by
 simp[IntKind.wrap,IntKind.bits,IntKind.signed]
theorem rh {x:Int}{k:Nat}(h:k<=64):aX .u64 x (k:Int)=x/2^k:=by
 unfold aX;rw[Xa _ (Int.le_of_lt (Int.pow_pos (by decide)))];congr 2;simp[IntKind.bits];omega
theorem Og {x:Int}{k:Nat}(h:k<=8):aX .u8 x (k:Int)=x/2^k:=by
 unfold aX;rw[Xa _ (Int.le_of_lt (Int.pow_pos (by decide)))];congr 2;simp[IntKind.bits];omega
theorem yC {x:Int}{k:Nat}(h:k<=64):dZ .u64 x (k:Int)=(x*2^k)%18446744073709551616:=by
 unfold dZ;rw[aT];congr 3;simp[IntKind.bits];omega
theorem LL {a b:Nat}(W:a<18446744073709551616)(Z:b<18446744073709551616):dP .u64 (a:Int) (b:Int)=((a&&&b:Nat):Int):=by
 unfold dP;rw[aT]
 have h:(Zi Z2.bits (a:Int)).toNat=a:=by
  show(Zi 64 (a:Int)).toNat=a;rw[Zg];omega
 have J:(Zi Z2.bits (b:Int)).toNat=b:=by
  show(Zi 64 (b:Int)).toNat=b;rw[Zg];omega
 rw[BitVec.toNat_and,h,J];have:a&&&b<=a:=Nat.and_le_left;omega
theorem Kz {a b:Nat}(J:a<18446744073709551616)(W:b<18446744073709551616):bOr .u64 (a:Int) (b:Int)=((a|||b:Nat):Int):=by
 unfold bOr;rw[aT]
 have h:(Zi Z2.bits (a:Int)).toNat=a:=by
  show(Zi 64 (a:Int)).toNat=a;rw[Zg];omega
 have Z:(Zi Z2.bits (b:Int)).toNat=b:=by
  show(Zi 64 (b:Int)).toNat=b;rw[Zg];omega
 rw[BitVec.toNat_or,h,Z];have:a|||b<2^64:=Nat.or_lt_two_pow (by simpa using J) (by simpa using W)
 have e:(2:Nat)^64=18446744073709551616:=by decide
 omega
def be8 (n:Int):List Int:=[n/2^56%256,n/2^48%256,n/2^40%256,n/2^32%256,n/2^24%256,n/2^16%256,n/2^8%256,n%256]
theorem ua (n:Int):mQ n=some (be8 n):=by
 unfold mQ
 have step:∀(l:List Int) (i:Nat),i<8->l.length<=8->gc n l (i:Int)=some (.inl (l++[n/2^(56 - 8*i)%256],((i+1:Nat):Int))):=by
  intro l i hi h;unfold gc;have Z:decide ((i:Int)<8)=true:=by simpa using by omega
  have h2:Z0.wrap (8*(i:Int))=((8*i:Nat):Int):=by rw[ai (by omega)];omega
  have h3:Z0.wrap (56 - ((8*i:Nat):Int))=((56 - 8*i:Nat):Int):=by rw[ai (by omega)];omega
  have h4:Z0.wrap ((i:Int)+1)=((i+1:Nat):Int):=by rw[ai (by omega)];omega
  rw[if_pos Z,h2,h3,rh (by omega),bB,h4];have W:chk (decide (0<=((56 - 8*i:Nat):Int)))=some ():=by simp[chk]
  rw[W,Z1,aI (by simp;omega),Z1]
 have J:∀l:List Int,gc n l 8=some (.inr l):=λl=>by
  unfold gc;rw[if_neg (by decide)];rfl
 have s:∀(l:List Int) (i:Nat),i<8->l.length<=8->am (λs:(List Int×Int)=>gc n s.1 s.2) (l,(i:Int))=am (λs:(List Int×Int)=>gc n s.1 s.2) (l++[n/2^(56 - 8*i)%256],((i+1:Nat):Int)):=λl i hi h=>bJ (step l i hi h);have:=s [] 0 (by omega) (by simp);rw[show((0:Nat):Int)=0 from rfl] at this;rw[this,s _ 1 (by omega) (by simp),s _ 2 (by omega) (by simp),s _ 3 (by omega) (by simp),s _ 4 (by omega) (by simp),s _ 5 (by omega) (by simp),s _ 6 (by omega) (by simp),s _ 7 (by omega) (by simp)];rw[show((7+1:Nat):Int)=8 from rfl,aR (J _)];simp[be8]
theorem xI (n:Int):pE n=some (be8 n):=by
 unfold pE
 have step:∀(l:List Int) (i:Nat),i<8->l.length<=8->jq n l ((8*i:Nat):Int)=some (.inl (l++[n/2^(8*i)%256],(8*i:Nat) - 8)):=by
  intro l i hi J;unfold jq;have h:decide (0<=((8*i:Nat):Int))=true:=by simp;omega
  have h4:Z0.wrap (((8*i:Nat):Int) - 8)=((8*i:Nat):Int) - 8:=by rw[ai (by omega)]
  rw[if_pos h,rh (by omega),bB,h4];have Z:chk (decide (0<=((8*i:Nat):Int)))=some ():=by rw[h];rfl
  rw[Z,Z1,aI (by simp;omega),Z1]
 have W:∀l:List Int,jq n l (-8)=some (.inr l):=λl=>by
  unfold jq;rw[if_neg (by decide)];rfl
 have s:∀(l:List Int) (i:Nat),i<8->l.length<=8->am (λs:(List Int×Int)=>jq n s.1 s.2) (l,((8*i:Nat):Int))=am (λs:(List Int×Int)=>jq n s.1 s.2) (l++[n/2^(8*i)%256],((8*i:Nat):Int) - 8):=λl i hi J=>bJ (step l i hi J);have e:∀i:Nat,((8*(i+1):Nat):Int) - 8=((8*i:Nat):Int):=λi=>by omega
 have:=s [] 7 (by omega) (by simp);rw[show((8*7:Nat):Int)=56 from rfl] at this;rw[this,show(56:Int) - 8=((8*6:Nat):Int) from rfl,s _ 6 (by omega) (by simp),e 5,s _ 5 (by omega) (by simp),e 4,s _ 4 (by omega) (by simp),e 3,s _ 3 (by omega) (by simp),e 2,s _ 2 (by omega) (by simp),e 1,s _ 1 (by omega) (by simp),e 0,s _ 0 (by omega) (by simp)];rw[show((8*0:Nat):Int) - 8= -8 from rfl,aR (W _)];simp[be8]
def bq (l:List Int):Int:=l.foldl (λa c=>a*256+c) 0
theorem ri (l:List Int)(c:Int):bq (l++[c])=bq l*256+c:=by simp[bq]
theorem vh (l:List Int)(h:∀c∈l,0<=c/\c<256):0<=bq l/\bq l<256^l.length:=by
 have key:∀(r:List Int),(∀c∈r,0<=c/\c<256)->0<=bq r.reverse/\bq r.reverse<256^r.length:=by
  intro r
  induction r with
  |nil=>intro _;simp[bq]
  |cons c r ih=>
   intro h;obtain⟨Z,h2⟩:=ih (λx W=>h x (by simp[W]));have J:=h c (by simp);rw[List.reverse_cons,ri,X9,Int.pow_succ];omega
 have:=key l.reverse (λc J=>h c (by simpa using J));simpa using this
theorem s8 {n:Int}(h:0<=n)(J:n<18446744073709551616):bq (be8 n)=n:=by
 simp only[bq,be8,List.foldl_cons,List.foldl_nil];omega
theorem xJ (n:Int):∀c∈be8 n,0<=c/\c<256:=by
 intro c h;simp only[be8,Za,List.not_mem_nil,or_false] at h;rcases h with rfl|rfl|rfl|rfl|rfl|rfl|rfl|rfl<;>omega
theorem bA (n:Int):(be8 n).length=8:=rfl
theorem mr (l:List Int)(h:∀c∈l,0<=c/\c<256)(hl:l.length<=8):gW l=some (bq l):=by
 unfold gW;refine mY (I:=λs:Int×Int=>∃i:Nat,i<=l.length/\s=(bq (l.take i),(i:Int))) (μ:=λs=>l.length - s.2.toNat) ?_ ⟨0,by omega,by simp[bq]⟩;rintro _ ⟨i,hi,rfl⟩
 by_cases hlt:i<l.length
 ·left
  have hb:=vh (l.take i) (λc J=>h c (X7 J));have a0:=h l[i] (Zj hlt)
  have hp:(256:Int)^(l.take i).length<=256^7:=by
   have:(l.take i).length<=7:=by simp;omega
   have W:=Zc (show 0<256 by omega) this;have Z:=Int.ofNat_le.2 W;simpa[Z9] using Z
  refine⟨(bq (l.take (i+1)),((i+1:Nat):Int)),?_,⟨i+1,by omega,rfl⟩,by simp;omega⟩;unfold vU;rw[if_pos (by simpa using hlt),aw hlt,Z1]
  have e:bq (l.take (i+1))=bq (l.take i)*256+l[i]:=by
   rw[Ze hlt,ri]
  rw[e,aT,aT,aT,ai (by omega)];congr 3;omega
 ·right
  have:i=l.length:=by omega
  subst this;unfold vU;rw[if_neg (by simp)];simp[Aw]
theorem aW {σ β:Type}{f:σ->Option (σ⊕β)}{s:σ}{b:β}(S:Nat->σ)(n:Nat)(J:s=S 0)(step:∀i,i<n->f (S i)=some (.inl (S (i+1))))(W:f (S n)=some (.inr b)):am f s=some b:=by
 have key:∀i,i<=n->am f s=am f (S i):=by
  intro i
  induction i with
  |zero=>intro _;rw[J]
  |succ i ih=>intro h;rw[ih (by omega),bJ (step i (by omega))]
 rw[key n (Zm n),aR W]
theorem vZ {O β:Type}{f:Int->Option (Int⊕β)}(xs:List O)(p:O->Bool)(J Z:β)(step:∀(i:Nat)(h:i<xs.length),p xs[i]=true->f (i:Int)=some (.inl ((i+1:Nat):Int)))
  (out:∀(i:Nat) (h:i<xs.length),p xs[i]=false->f (i:Int)=some (.inr J)) (a0:f (xs.length:Int)=some (.inr Z)):am f 0=some (if xs.all p then Z else J):=by
 have key:∀k i:Nat,i+k=xs.length->am f (i:Int)=some (if (xs.drop i).all p then Z else J):=by
  intro k
  induction k with
  |zero=>
   intro i hi;have:i=xs.length:=by omega
   subst this;rw[aR a0];simp
  |succ k ih=>
   intro i hi;have W:i<xs.length:=by omega
   rw[Xd W,List.all_cons];cases hp:p xs[i] with
   |true=>rw[bJ (step i W hp),ih (i+1) (by omega)];simp
   |false=>rw[aR (out i W hp)];simp
 have:=key xs.length 0 (by omega);simpa using this
theorem Cw {O β:Type}{f:Int->Option (Int⊕β)}(xs:List O)(p:O->Bool)(J:Nat->β)(Z:β)(step:∀(i:Nat)(h:i<xs.length),p xs[i]=false->f (i:Int)=some (.inl ((i+1:Nat):Int)))
  (out:∀(i:Nat) (h:i<xs.length),p xs[i]=true->f (i:Int)=some (.inr (J i))) (a0:f (xs.length:Int)=some (.inr Z)):am f 0=some (if xs.any p then J (xs.findIdx p) else Z):=by
 have key:∀k i:Nat,i+k=xs.length->am f (i:Int)=some (if (xs.drop i).any p then J (i+(xs.drop i).findIdx p) else Z):=by
  intro k
  induction k with
  |zero=>
   intro i hi;have:i=xs.length:=by omega
   subst this;rw[aR a0];simp
  | succ k ih=>
   intro i hi;have W:i<xs.length:=by omega
   rw[Xd W,List.any_cons,List.findIdx_cons];cases hp:p xs[i] with
   |false=>
    rw[bJ (step i W hp),ih (i+1) (by omega)];simp only[Bool.false_or,cond_false];congr 2;congr 1;omega
   |true=>rw[aR (out i W hp)];simp
 have:=key xs.length 0 (by omega);simpa using this
theorem aP {i:Nat}(h:i<4611686018427387904):Z0.wrap ((i:Int)+1)=((i+1:Nat):Int):=by rw[ai (by omega)];rfl
theorem s9 {b:Bool}(h:b=true):chk b=some ():=by subst h;rfl
def Byt (l:List Int):Prop:= ∀c∈l,0<=c/\c<256
theorem Byt.nil:Byt []:=λc h=>by cases h
theorem Byt.cons {c:Int}{l:List Int}(W:0<=c/\c<256)(h:Byt l):Byt (c::l):=λd J=>by
 rcases Za.1 J with rfl|J
 ·exact W
 ·exact h d J
theorem Byt.head {c:Int}{l:List Int}(h:Byt (c::l)):0<=c/\c<256:=h c (by simp)
theorem Byt.tail {c:Int}{l:List Int}(h:Byt (c::l)):Byt l:=λd J=>h d (by simp[J])
theorem Byt.app {a b:List Int}(h:Byt a)(k:Byt b):Byt (a++b):=λc J=>by
 rcases Zh.1 J with J|J
 ·exact h c J
 ·exact k c J
theorem Byt.take {a:List Int}(h:Byt a)(n:Nat):Byt (a.take n):=λc J=>h c (X7 J)
theorem Byt.drop {a:List Int}(h:Byt a)(n:Nat):Byt (a.drop n):=λc J=>h c (List.mem_of_mem_drop J)
theorem Byt.left {a b:List Int}(h:Byt (a++b)):Byt a:=λc J=>h c (by simp[J])
theorem Byt.right {a b:List Int}(h:Byt (a++b)):Byt b:=λc J=>h c (by simp[J])
def cC (n:Int):Prop:= -9223372036854775808<=n/\n<=9223372036854775807
structure VOK (v:Ap):Prop where
 kind:cC v.fKind
 int:cC v.fInt
 text:Byt v.fText
abbrev it:Ap:=⟨0,false,0,[]⟩
abbrev AE (b:Bool):Ap:=⟨1,b,0,[]⟩
abbrev gI (n:Int):Ap:=⟨2,false,n,[]⟩
abbrev wa (t:List Int):Ap:=⟨3,false,0,t⟩
def right (v:Ap):Bool:=
 if v.fKind==0 then decide (v=it) else if v.fKind==1 then decide (v=AE v.fBool) else if v.fKind==2 then decide (v=gI v.fInt) else
 if v.fKind==3 then decide (v=wa v.fText)&&decide ((v.fText.length:Int)<=64) else false
theorem jl (v:Ap):mh v=some (right v):=by
 obtain⟨k,b,n,t⟩:=v;unfold mh right lx pK eI pL qp;simp only[Z1]
 by_cases h0:k=0
 ·subst h0;rfl
 by_cases h1:k=1
 ·subst h1;rfl
 by_cases h2:k=2
 ·subst h2;rfl
 by_cases h3:k=3
 ·subst h3
  by_cases h:(⟨3,b,n,t⟩:Ap)=wa t
  ·simp[h]
  ·simp[h]
 have Z:(k==0)=false:=by simpa using h0
 have W:(k==1)=false:=by simpa using h1
 have e2:(k==2)=false:=by simpa using h2
 have J:(k==3)=false:=by simpa using h3
 simp only[Z,W,e2,J];rfl
theorem qb (v:Ap):sQ v=some (right v):=by
 obtain⟨k,b,n,t⟩:=v;unfold sQ ux uw uv oF right
 by_cases h0:k=0
 ·subst h0
  by_cases h:b=false/\n=0/\t=[]
  ·simp[h]
  ·simp[h]
 by_cases h1:k=1
 ·subst h1
  by_cases h:n=0/\t=[]
  ·simp[h]
  ·simp[h]
 by_cases h2:k=2
 ·subst h2
  by_cases h:b=false/\t=[]
  ·simp[h]
  ·simp[h]
 by_cases h3:k=3
 ·subst h3;simp
  by_cases h:b=false/\n=0
  ·simp[h]
  ·rw[if_neg h];simp;intro J Z;exact absurd ⟨J,Z⟩ h
 have e0:(k==0)=false:=by simpa using h0
 have e1:(k==1)=false:=by simpa using h1
 have e2:(k==2)=false:=by simpa using h2
 have W:(k==3)=false:=by simpa using h3
 simp only[e0,e1,e2,W,Zx,if_false]
 by_cases h4:0<=k
 ·by_cases J:k<=3
  ·omega
  ·simp[J]
 ·simp[h4]
inductive Rgt:Ap->Prop
 |null:Rgt it
 |bool (b:Bool):Rgt (AE b)
 |int (n:Int) (h:cC n):Rgt (gI n)
 |text (t:List Int) (h:Byt t) (hl:t.length<=64):Rgt (wa t)
theorem Rgt.of {v:Ap}(h:VOK v)(J:right v=true):Rgt v:=by
 unfold right at J;split at J
 ·have:=of_decide_eq_true J;rw[this];exact .null
 split at J
 ·have:=of_decide_eq_true J;rw[this];exact .bool _
 split at J
 ·have:=of_decide_eq_true J;rw[this];exact .int _ h.int
 split at J
 ·simp only[Z6,decide_eq_true_eq] at J
  rw[J.1];exact .text _ h.text (by omega)
 ·cases J
theorem Rgt.right {v:Ap}(h:Rgt v):right v=true:=by
 cases h with
 |null=>rfl
 |bool b=>cases b<;>rfl
 |int n _=>simp[Go.Proofs.YthbonoagbeilkaaGreat.Hay.right]
 |text t _ hl=>simp[Go.Proofs.YthbonoagbeilkaaGreat.Hay.right];omega
theorem Rgt.ok {v:Ap}(h:Rgt v):VOK v:=by
 cases h with
 |null=>exact⟨by simp[cC],by simp[cC],Byt.nil⟩
 |bool b=>exact⟨by simp[cC],by simp[cC],Byt.nil⟩
 |int n h=>exact⟨by simp[cC],h,Byt.nil⟩
 |text t h _=>exact⟨by simp[cC],by simp[cC],h⟩
def a8 (v:Ap):List Int:=
 if v.fKind=1 then [1,if v.fBool then 1 else 0] else if v.fKind=2 then 2::be8 (v.fInt%18446744073709551616) else if v.fKind=3 then 3::(v.fText.length:Int)::v.fText else [v.fKind]
theorem Ik:a8 it=[0]:=rfl
theorem Il (b:Bool):a8 (AE b)=[1,if b then 1 else 0]:=rfl
theorem wb (n:Int):a8 (gI n)=2::be8 (n%18446744073709551616):=rfl
theorem ub (t:List Int):a8 (wa t)=3::(t.length:Int)::t:=rfl
theorem td {v:Ap}(h:Rgt v):Byt (a8 v):=by
 cases h with
 |null=>exact .cons (by decide) .nil
 |bool b=>exact .cons (by decide) (.cons (by cases b<;>decide) .nil)
 |int n h=>exact .cons (by decide) (xJ _)
 |text t h hl=>exact .cons (by decide) (.cons (by show 0<=(t.length:Int)/\(t.length:Int)<256;omega) h)
theorem ek {v:Ap}(h:Rgt v):1<=(a8 v).length/\(a8 v).length<=66:=by
 cases h with
 |null=>decide
 |bool b=>cases b<;>decide
 |int n h=>rw[wb];simp[bA]
 |text t h hl=>rw[ub];simp;omega
theorem CZ {p:List Int}(n:Int)(hp:p.length+8<=140737488355328):nC p n=some (p++be8 n):=by
 unfold nC;refine aW (λi=>((i:Int),(be8 n).take i++Z5 (8 - i) 0)) 8 rfl ?_ ?_
 ·intro i hi
  dsimp only;unfold lW;have h:decide ((i:Int)<8)=true:=by simpa using by omega
  have Z:Z0.wrap (8*(i:Int))=((8*i:Nat):Int):=by rw[ai (by omega)];omega
  have h3:Z0.wrap (56 - ((8*i:Nat):Int))=((56 - 8*i:Nat):Int):=by rw[ai (by omega)];omega
  rw[if_pos h,Z,h3,rh (by omega),bB,aP (by omega),s9 (by simp),Z1];have W:((be8 n).take i++Z5 (8 - i) (0:Int)).length=8:=by simp[bA];omega
  have J:ix ((be8 n).take i++Z5 (8 - i) (0:Int)) (i:Int)=some i:=by unfold ix;rw[if_pos (by rw[W];omega)];simp
  rw[J,Z1,Zb (by omega),Z1];have:i=0\/i=1\/i=2\/i=3\/i=4\/i=5\/i=6\/i=7:=by omega
  rcases this with rfl|rfl|rfl|rfl|rfl|rfl|rfl|rfl<;>simp[be8,Z5]
 ·unfold lW oV
  have e:(be8 n).take 8++Z5 (8 - 8) (0:Int)=be8 n:=by simp[be8]
  dsimp only;rw[if_neg (by simp)];rw[e,aI (by simp[bA];omega)];rfl
theorem FA {p:List Int}{v:Ap}(h:Rgt v)(J:p.length+66<=140737488355328):vL p v=some (p++a8 v):=by
 unfold vL;rw[aI (by simp;omega),Z1];cases h with
 |null=>simp[a8,bB]
 | bool b=>
  cases b
  ·simp only[a8,bB]
   rw[if_pos (by decide),if_neg (by decide),aI (by simp;omega)];simp
  ·simp only[a8,bB]
   rw[if_pos (by decide),if_pos (by decide),aI (by simp;omega)];simp
 |int n h=>
  simp only[bB,aT,a8];rw[if_neg (by decide),if_pos (by decide),CZ _ (by simp;omega)];simp
 |text t h hl=>
  simp only[bB,a8];rw[if_neg (by decide),if_neg (by decide),if_pos (by decide),aI (by simp;omega),Z1,aI (by simp;omega)];simp;omega
theorem FB (l:List Ap)(W:l.length<=281474976710656):sL l=some (l.all right&&decide (l.length<=16)):=by
 have h:sL l=some (if l.all right then decide ((l.length:Int)<=16) else false):=by
  unfold sL;refine vZ l right _ _ (λi h J=>?_) (λi h J=>?_) ?_
  ·unfold qZ
   rw[if_pos (by simpa using h),aw h,Z1,jl,Z1,J,if_neg (by decide),aP (by omega)]
  ·unfold qZ
   rw[if_pos (by simpa using h),aw h,Z1,jl,Z1,J];rfl
  ·unfold qZ yO
   rw[if_neg (by simp)];rfl
 rw[h];cases l.all right<;>simp;omega
def wc (l:List Ap):List Int:=(l.length:Int)::l.flatMap a8
theorem jA {l:List Ap}(h:∀v∈l,Rgt v):(l.flatMap a8).length<=66*l.length:=by
 induction l with
 |nil=>simp
 |cons v r ih=>
  have:=(ek (h v (by simp))).2;have:=ih (λx J=>h x (by simp[J]));rw[List.flatMap_cons,Xf,X9];omega
theorem mZ {O:Type}{l:List O}{f:O->List Int}{i:Nat}(h:i<l.length):(l.take (i+1)).flatMap f=(l.take i).flatMap f++f l[i]:=by
 rw[Ze h,List.flatMap_append,List.flatMap_singleton]
theorem vi {l:List Ap}(h:∀v∈l,Rgt v)(W:l.length<=16):oB l=some (wc l,0):=by
 unfold oB;rw[FB l (by omega),Z1];have Z:l.all right=true:=by rw[X8];exact λv J=>(h v J).right
 rw[Z,if_neg (by simpa using W)];refine aW (λi=>((l.length:Int)::(l.take i).flatMap a8,(i:Int))) l.length (by simp[bB];omega) (λi hi=>?_) ?_
 ·dsimp only
  unfold qq;have:=jA (l:=l.take i) λv J=>h v (X7 J);rw[if_pos (by simpa using hi),aw hi,Z1,FA (h _ (Zj hi)) (by simp at this ⊢;omega),Z1,aP (by omega),mZ hi]
  rfl
 ·unfold qq u9
  rw[if_neg (by simp)];simp[wc]
theorem rJ {v:Ap}(h:Rgt v):ly v=some (a8 v):=by
 unfold ly;rw[vi (l:=[v]) (by simpa using h) (by simp),Z1]
 have:sub (wc [v]) 1 ((wc [v]).length:Int)=some (a8 v):=by
  have:=cP (xs:=wc [v]) (lo:=1) (hi:=(wc [v]).length) (by simp[wc]) (Zm _);rw[show((1:Nat):Int)=1 from rfl] at this;rw[this];simp[wc]
 dsimp only;rw[this];rfl
theorem wd {v:Ap}(h:Rgt v):vc v=some (a8 v):=by
 unfold vc xt;cases h with
 |null=>simp[a8,bB]
 |bool b=>cases b<;>simp[a8,bB,app]
 |int n h=>
  simp only[bB,aT,a8];rw[if_neg (by decide),if_neg (by decide),if_neg (by decide),if_pos (by decide),xI,Z1,aI (by simp[bA])];simp
 |text t h hl=>
  simp only[bB,a8];rw[if_neg (by decide),if_neg (by decide),if_neg (by decide),if_neg (by decide),if_pos (by decide),aI (by simp),Z1,aI (by simp;omega)];simp;omega
def bK:List Int->Option (Ap×Nat)
 |[]=>none
 |k::b=>
  if k=0 then some (it,1) else
  if k=1 then (match b with|c::_=>if c<=1 then some (AE (c==1),2) else none|[]=>none) else
  if k=2 then (if 8<=b.length then some (gI (Z0.wrap (bq (b.take 8))),9) else none) else
  if k=3 then (match b with|c::r=>if c<=64/\c<=(r.length:Int) then some (wa (r.take c.toNat),2+c.toNat) else none|[]=>none) else none
theorem KA {l:List Int}(h:Byt l)(J:l.length=8):be8 (bq l)=l:=by
 match l,J with
 |[a,b,c,d,e,f,g,i],_=>
  have ha:=h a (by simp);have hb:=h b (by simp);have hc:=h c (by simp);have Z:=h d (by simp);have he:=h e (by simp);have hf:=h f (by simp);have W:=h g (by simp);have hi:=h i (by simp);simp only[be8,bq,List.foldl_cons,List.foldl_nil,List.cons.injEq,and_true];refine⟨?_,?_,?_,?_,?_,?_,?_,?_⟩<;>omega
theorem dX (n:Int):Z0.wrap n=(n+9223372036854775808)%18446744073709551616 - 9223372036854775808:=by
 simp only[IntKind.wrap,IntKind.bits,IntKind.signed];simp;omega
theorem KB {n:Int}(h:0<=n/\n<18446744073709551616):Z0.wrap n%18446744073709551616=n:=by
 rw[dX];omega
theorem we {n:Int}(h:cC n):Z0.wrap (n%18446744073709551616)=n:=by
 rw[dX];unfold cC at h;omega
theorem gQ (n:Int):cC (Z0.wrap n):=by rw[dX];unfold cC;omega
theorem iE {v:Ap}(h:Rgt v)(r:List Int):bK (a8 v++r)=some (v,(a8 v).length):=by
 cases h with
 |null=>simp[Ik,bK]
 |bool b=>cases b<;>simp[Il,bK]
 |int n h=>
  rw[wb];have W: ¬ ((2:Int)=0):=by decide
  have h2: ¬ ((2:Int)=1):=by decide
  have Z:8<=(be8 (n%18446744073709551616)++r).length:=by simp[bA]
  have J:(be8 (n%18446744073709551616)++r).take 8=be8 (n%18446744073709551616):=List.take_left' (bA _);simp only[List.cons_append,bK];rw[if_neg W,if_neg h2,if_pos trivial,if_pos Z,J,s8 (by omega) (by omega),we h];simp[bA]
 |text t h hl=>
  rw[ub];simp only[List.cons_append,bK];rw[if_neg (by decide),if_neg (by decide),if_neg (by decide),if_pos trivial,if_pos (by simp;omega)];simp;omega
theorem gt {b:List Int}{v:Ap}{n:Nat}(W:Byt b)(h:bK b=some (v,n)):Rgt v/\∃r,b=a8 v++r/\n=(a8 v).length:=by
 cases b with
 |nil=>cases h
 | cons k b=>
  simp only[bK] at h;split at h
  ·rename_i J;subst J
   simp only[Option.some.injEq,Prod.mk.injEq] at h;obtain⟨rfl,rfl⟩:=h;exact⟨.null,b,rfl,rfl⟩
  split at h
  ·rename_i J;subst J
   cases b with
   |nil=>cases h
   | cons c r=>
    simp only at h;split at h
    ·rename_i hc
     simp only[Option.some.injEq,Prod.mk.injEq] at h;obtain⟨rfl,rfl⟩:=h;have h0:=W.tail.head;have:c=0\/c=1:=by omega
     rcases this with rfl|rfl
     ·exact⟨.bool _,r,rfl,rfl⟩
     ·exact⟨.bool _,r,rfl,rfl⟩
    ·cases h
  split at h
  ·rename_i J;subst J
   split at h
   ·rename_i hl
    simp only[Option.some.injEq,Prod.mk.injEq] at h;obtain⟨rfl,rfl⟩:=h;have Z:(b.take 8).length=8:=by simp;omega
    have a0:=vh (b.take 8) (W.tail.take 8);rw[Z] at a0;refine⟨.int _ (gQ _),b.drop 8,?_,?_⟩
    ·rw[wb,KB (by omega),KA (W.tail.take 8) Z]
     simp
    ·rw[wb];simp[bA]
   ·cases h
  split at h
  ·rename_i J;subst J
   cases b with
   |nil=>cases h
   | cons c r=>
    simp only at h;split at h
    ·rename_i hc
     simp only[Option.some.injEq,Prod.mk.injEq] at h;obtain⟨rfl,rfl⟩:=h;have h0:=W.tail.head;refine⟨.text _ (W.tail.tail.take _) (by simp;omega),r.drop c.toNat,?_,?_⟩
     ·rw[ub]
      have:((r.take c.toNat).length:Int)=c:=by simp;omega
      rw[this];simp
     ·rw[ub];simp;omega
    ·cases h
  ·cases h
theorem kH {b:List Int}{v:Ap}{n:Nat}(W:Byt b)(h:bK b=some (v,n)):1<=n/\n<=66/\n<=b.length:=by
 obtain⟨J,r,rfl,rfl⟩:=gt W h;have:=ek J;simp;omega
theorem sc {b:List Int}{v:Ap}{n k:Nat}(Z:Byt b)(h:bK (b.take k)=some (v,n)):bK b=some (v,n)/\n<=k:=by
 obtain⟨W,r,J,rfl⟩:=gt (Z.take k) h;have h3:b=a8 v++(r++b.drop k):=by rw[←List.append_assoc,←J];simp
 refine⟨by rw[h3];exact iE W _,?_⟩;have:=congrArg Xj J;simp at this;omega
theorem wO {b:List Int}{v:Ap}{n k:Nat}(W:Byt b)(h:bK b=some (v,n))(Z:n<=k):bK (b.take k)=some (v,n):=by
 obtain⟨J,r,rfl,rfl⟩:=gt W h;rw[List.take_append,Xh Z];exact iE J _
theorem Im {x y:Int}(k:Nat)(hx:0<=x)(h:0<=y)(W:y<2^k)(Z:x*2^k+y<18446744073709551616):bOr .u64 (x*2^k) y=x*2^k+y:=by
 obtain⟨a,rfl⟩:=Z8 hx;obtain⟨b,rfl⟩:=Z8 h;have e:(a:Int)*2^k=((2^k*a:Nat):Int):=by rw[Int.natCast_mul,Z9,Int.mul_comm];rfl
 have e2:((2:Int)^k)=((2^k:Nat):Int):=by rw[Z9];rfl
 rw[e2] at W;rw[e] at Z ⊢;have J:b<2^k:=by omega
 rw[Kz (by omega) (by omega),←X6 J];omega
theorem BA {b:List Int}(h:Byt b)(hl:8<=b.length):re b=some (bq (b.take 8)):=by
 unfold re;refine aW (λi=>(bq (b.take i),(i:Int))) 8 (by simp[bq]) (λi hi=>?_) ?_
 ·dsimp only
  unfold qw;have hi':i<b.length:=by omega
  have a0:=vh (b.take i) (h.take i);have a1:=h b[i] (Zj hi')
  have hp:(256:Int)^(b.take i).length<=256^7:=by
   have:(b.take i).length<=7:=by simp;omega
   have W:=Zc (show 0<256 by omega) this;have Z:=Int.ofNat_le.2 W;simpa[Z9] using Z
  have J:=yC (x:=bq (b.take i)) (k:=8) (by omega);rw[show((8:Nat):Int)=8 from rfl] at J
  have e:bq (b.take (i+1))=bq (b.take i)*256+b[i]:=by
   rw[Ze hi',ri]
  have e1:bq (b.take i)*2^8%18446744073709551616=bq (b.take i)*2^8:=by omega
  have e2:b[i]%18446744073709551616=b[i]:=by omega
  rw[if_pos (by simpa using by omega),aw hi',Z1,aP (by omega),J,aT,e,e1,e2,Im 8 (by omega) (by omega) (by omega) (by omega)]
  rfl
 ·unfold qw ve
  dsimp only;rw[if_neg (by simp)];rfl
theorem cu {O:Type}(a:O)(l:List O):idx (a::l) 0=some a:=aw (xs:=a::l) (i:=0) (by simp)
theorem ll {O:Type}(a b:O)(l:List O):idx (a::b::l) 1=some b:=aw (xs:=a::b::l) (i:=1) (by simp)
theorem bZ {O:Type}{xs:List O}{k:Nat}(h:k<=xs.length):sub xs (k:Int) (xs.length:Int)=some (xs.drop k):=by
 rw[cP h (Zm _),List.take_length]
theorem uc {O:Type}(a:O)(l:List O):sub (a::l) 1 ((a::l).length:Int)=some l:=by
 have:=bZ (xs:=a::l) (k:=1) (by simp);simpa using this
theorem te {c:Int}(h:0<=c/\c<256):Z0.wrap c=c:=ai (by omega)
theorem Es {b:List Int}(hb:Byt b):tW b=some (match bK b with|some (v,n)=>(v,b.drop n,true)|none=>(it,[],false)):=by
 cases b with
 |nil=>rfl
 | cons k r=>
  have Z:=hb.head;have hr:=hb.tail;unfold tW;rw[if_neg (by simp;omega),cu,Z1,uc,Z1,te Z]
  by_cases h0:k=0
  ·subst h0;simp[bK,lx]
  rw[if_neg (by simpa using h0)];have J:kZ r false=some (it,[],false):=rfl
  by_cases h1:k=1
  ·subst h1
   have e2:k8 1 r false=some (it,[],false):=rfl;rw[if_pos (by simp)];cases r with
   |nil=>simp[bK,e2]
   | cons c r=>
    rw[if_pos (by simp;omega),cu,Z1]
    by_cases h:c<=1
    ·unfold k8
     rw[if_pos (by simpa using h),cu,Z1,uc];simp[bK,h,pK]
    ·have:decide (c<=1)=false:=by simpa using h
     rw[this,e2];simp[bK,h]
  rw[if_neg (by simpa using h1)];unfold k8;rw[if_neg (by decide),te Z]
  by_cases h2:k=2
  ·subst h2
   rw[if_pos (by simp)];unfold pT
   by_cases hl:8<=r.length
   ·have W:=bZ (xs:=r) (k:=8) hl
    rw[show((8:Nat):Int)=8 from rfl] at W;rw[if_pos (by simpa using by omega),BA hr hl,Z1];unfold eI;rw[Z1,W];simp[bK,hl]
   ·rw[if_neg (by simpa using by omega),if_neg (by decide),J]
    simp[bK,hl]
  rw[if_neg (by simpa using h2)];unfold pT;rw[if_neg (by decide),te Z]
  by_cases h3:k=3
  ·subst h3
   rw[if_pos (by simp)];cases r with
   |nil=>simp[bK,J]
   | cons c r=>
    have h:=hr.head;rw[if_pos (by simp;omega),cu,Z1]
    by_cases hc64:c<=64
    ·rw[if_pos (by simpa using hc64),Z1,te h]
     by_cases hl:c<=(r.length:Int)
     ·obtain⟨n,rfl⟩:=Z8 h.1
      have e3:Zd.wrap (1+(n:Int))=((1+n:Nat):Int):=by rw[bB];omega
      have W:=cP (xs:=(n:Int)::r) (lo:=1) (hi:=1+n) (by omega) (by simp;omega);rw[show((1:Nat):Int)=1 from rfl] at W;have a0:=bZ (xs:=(n:Int)::r) (k:=1+n) (by simp;omega);unfold kZ;rw[if_pos (by simp;omega),cu,Z1,e3,W,Z1];unfold pL;rw[Z1,Z1,e3,a0]
      have e5:bK (3::(n:Int)::r)=some (wa (r.take n),2+n):=by
       simp only[bK];rw[if_neg (by decide),if_neg (by decide),if_neg (by decide),if_pos trivial,if_pos ⟨hc64,hl⟩];simp
      rw[e5];simp only[Z1,Option.some.injEq,Prod.mk.injEq,and_true];have e6:1+n=n+1:=by omega
      have e7:2+n=n+1+1:=by omega
      rw[e6,e7];simp
     ·have:decide (c<(((c::r).length:Nat):Int))=false:=by simp;omega
      rw[this,J];simp[bK,hl]
    ·rw[if_neg (by simpa using hc64),J];simp[bK,hc64]
  rw[if_neg (by simpa using h3),J];simp[bK,h0,h1,h2,h3]
def rC:Nat->List Int->Option (List Ap×List Int)
 |0,b=>some ([],b)
 |n+1,b=>match bK b with
  |some (v,k)=>(rC n (b.drop k)).map λx=>(v::x.1,x.2)
  |none=>none
theorem zC (many:Nat)(Z:many<=255):∀(n i:Nat) (b:List Int) (h:List Ap),i+n=many->Byt b->h.length=i->
  am (λs:(List Int×List Ap×Int)=>k9 (many:Int) s.1 s.2.1 s.2.2) (b,h,(i:Int))=some (match rC n b with|some (l,[])=>(h++l,0)|_=>([],30)):=by
 intro n
 induction n with
 |zero=>
  intro i b h hi J W;apply aR;dsimp only;unfold k9 vf;rw[if_neg (by rw[ai (by omega)];simp;omega)];cases b with
  |nil=>simp[rC]
  |cons c r=>simp[rC]
 | succ n ih=>
  intro i b h hi J W
  have step:k9 (many:Int) b h (i:Int)=match bK b with|some (v,k)=>some (.inl (b.drop k,h++[v],((i+1:Nat):Int)))|none=>some (.inr ([],30)):=by
   unfold k9;rw[if_pos (by rw[ai (by omega)];simp;omega),Es J,Z1];cases hp:bK b with
   |none=>rfl
   |some x=>
    obtain⟨v,k⟩:=x;simp only[Bool.not_true,Zx,if_false];rw[aI (by simp;omega),Z1,aP (by omega)]
  simp only[rC];cases hp:bK b with
  |none=>rw[hp] at step;rw[aR (by dsimp only;exact step)]
  | some x=>
   obtain⟨v,k⟩:=x;rw[hp] at step;rw[bJ (by dsimp only;exact step),ih (i+1) _ _ (by omega) (J.drop _) (by simp;omega)];dsimp only;cases hq:rC n (b.drop k) with
   |none=>rfl
   |some y=>
    obtain⟨l,r⟩:=y;cases r<;>simp
theorem BB {b:List Int}(J:Byt b):ml b=some (match b with|[]=>([],30)|c::r=>if c<=16 then (match rC c.toNat r with|some (l,[])=>(l,0)|_=>([],30)) else ([],30)):=by
 cases b with
 |nil=>rfl
 | cons c r=>
  have W:=J.head;unfold ml;rw[if_neg (by simp;omega),cu,Z1];unfold qx
  by_cases h:c<=16
  ·rw[if_neg (by simpa using h),cu,Z1,uc,Z1]
   have:=zC c.toNat (by omega) c.toNat 0 r [] (by omega) J.tail rfl;rw[show((c.toNat:Nat):Int)=c by omega] at this;rw[show((0:Nat):Int)=0 from rfl] at this;rw[this];simp[h]
  ·rw[if_pos (by simpa using by omega)];simp[h]
theorem ud {c:List Int}(J:Byt c):ml (1::c)=some (match bK c with|some (v,k)=>if k=c.length then ([v],0) else ([],30)|none=>([],30)):=by
 rw[BB (J.cons (by decide))];simp only[show((1:Int)<=16)=True by simp,if_true,show(1:Int).toNat=1 from rfl,rC];cases hp:bK c with
 |none=>rfl
 | some x=>
  obtain⟨v,k⟩:=x;have:=(kH J hp).2.2;simp only[Option.map_some]
  by_cases h:k=c.length
  ·subst h;simp
  ·rw[if_neg h]
   cases hd:c.drop k with
   |nil=>have:=List.drop_eq_nil_iff.1 hd;omega
   |cons _ _=>rfl
theorem Et {r:ah}(W:Byt r.fB)(hl:r.fB.length<140737488355328):dD r=some (match bK r.fB with|some (v,n)=>(v,⟨r.fB.drop n,r.fOk⟩)|none=>(it,⟨r.fB,false⟩)):=by
 unfold dD
 have step:∀k,1<=k->k<=r.fB.length->k<=66->ig r (k:Int)=match bK (r.fB.take k) with|some (v,n)=>(if n=k then some (.inr (v,⟨r.fB.drop k,r.fOk⟩)) else some (.inl ((k+1:Nat):Int)))|none=>some (.inl ((k+1:Nat):Int)):=by
  intro k J Z h3;have hs:=cP (xs:=r.fB) (lo:=0) (hi:=k) (by omega) Z;rw[show((0:Nat):Int)=0 from rfl] at hs;unfold ig ie;rw[if_pos (by simpa using by omega),if_pos (by simp;omega),hs,Z1,aI (by simp;omega),Z1,List.drop_zero,List.singleton_append,ud (W.take _),Z1,bZ Z,aP (by omega)];have a0:(r.fB.take k).length=k:=by simp;omega
  cases hp:bK (r.fB.take k) with
  |none=>rfl
  |some x=>
   obtain⟨v,n⟩:=x;simp only[a0]
   by_cases e:n=k
   ·rw[if_pos e,if_pos e];rfl
   ·rw[if_neg e,if_neg e];rfl
 cases hp:bK r.fB with
 | some x=>
  obtain⟨v,n⟩:=x;have hn:=kH W hp;refine aW (λi=>((i+1:Nat):Int)) (n - 1) rfl (λi hi=>?_) ?_
  ·rw[step (i+1) (by omega) (by omega) (by omega)]
   cases hq:bK (r.fB.take (i+1)) with
   |none=>rfl
   |some y=>
    obtain⟨v',n'⟩:=y;obtain⟨J,Z⟩:=sc W hq;rw[hp] at J;simp only[Option.some.injEq,Prod.mk.injEq] at J;omega
  ·have e:n - 1+1=n:=by omega
   rw[e,step n (by omega) (by omega) (by omega),wO W hp (Zm _)];simp
 | none=>
  refine aW (λi=>((i+1:Nat):Int)) (min r.fB.length 66) rfl (λi hi=>?_) ?_
  ·rw[step (i+1) (by omega) (by omega) (by omega)]
   cases hq:bK (r.fB.take (i+1)) with
   |none=>rfl
   |some y=>
    obtain⟨v',n'⟩:=y;obtain⟨J,Z⟩:=sc W hq;rw[hp] at J;cases J
  ·have e0:ie r ((min r.fB.length 66+1:Nat):Int) false=some (.inr (it,⟨r.fB,false⟩)):=rfl
   unfold ig;split
   ·have:decide (((min r.fB.length 66+1:Nat):Int)<=66)=false:=by
     rename_i h;simp at h ⊢;omega
    rw[this,e0]
   ·exact e0
theorem pu {b:List Int}(hb:Byt b):mV b=some (match bK b with|some (v,n)=>(v,(n:Int))|none=>(it,0)):=by
 cases b with
 |nil=>rfl
 | cons k r=>
  have hk:=hb.head;have hr:=hb.tail;have Z:mo (k::r) false=some (it,0):=rfl
  have a2:mp (k::r) false=if k=3 then some (match r with|c::r'=>if c<=64/\c<=(r'.length:Int) then (wa (r'.take c.toNat),((2+c.toNat:Nat):Int)) else (it,0)|[]=>(it,0)) else some (it,0):=by
   unfold mp;rw[if_neg (by decide)];cases r with
   |nil=>rw[if_neg (by simp),Z];simp
   | cons c r'=>
    rw[if_pos (by simp;omega),cu,Z1]
    by_cases h3:k=3
    ·subst h3
     rw[if_pos (by simp),if_pos rfl,ll,Z1];have J:=hr.head
     by_cases hc64:c<=64
     ·obtain⟨n,rfl⟩:=Z8 J.1
      have e3:Z0.wrap (2+Z0.wrap (n:Int))=((2+n:Nat):Int):=by rw[te J,ai (by omega)];omega
      rw[if_pos (by simpa using hc64),Z1,e3]
      by_cases hl:(n:Int)<=(r'.length:Int)
      ·unfold mo
       have W:=cP (xs:=3::(n:Int)::r') (lo:=2) (hi:=2+n) (by omega) (by simp;omega);rw[show((2:Nat):Int)=2 from rfl] at W;rw[if_pos (by simp;omega),ll,Z1,e3,W,Z1];have e7:2+n=n+1+1:=by omega
       simp[hc64,hl,e7]
      ·have:decide (((2+n:Nat):Int)<=(((3::(n:Int)::r').length:Nat):Int))=false:=by simp;omega
       rw[this,Z];simp[hl]
     ·rw[if_neg (by simpa using hc64),Z];simp[hc64]
    ·rw[if_neg (by simpa using h3),if_neg h3,Z]
  have a0:je (k::r) false=if k=2/\8<=r.length then some (gI (Z0.wrap (bq (r.take 8))),9) else mp (k::r) false:=by
   unfold je;rw[if_neg (by decide)]
   by_cases hl:8<=r.length
   ·rw[if_pos (by simp;omega),cu,Z1]
    by_cases h2:k=2
    ·subst h2
     rw[if_pos ⟨rfl,hl⟩];unfold mp;have W:=cP (xs:=(2:Int)::r) (lo:=1) (hi:=9) (by omega) (by simp;omega);rw[show((1:Nat):Int)=1 from rfl,show((9:Nat):Int)=9 from rfl] at W;rw[if_pos (by simp),W,Z1];have e:(((2:Int)::r).take 9).drop 1=r.take 8:=by simp
     rw[e,mr _ (hr.take 8) (by simp;omega)];rfl
    ·have:(k==2)=false:=by simpa using h2
     rw[this,if_neg (λh=>h2 h.1)]
   ·rw[if_neg (by simp;omega),if_neg (λh=>hl h.2)]
  have a1:oO (k::r) false=match r with|c::_=>if k=1/\c<=1 then some (AE (c==1),2) else je (k::r) false|[]=>je (k::r) false:=by
   unfold oO;rw[if_neg (by decide)];cases r with
   |nil=>rw[if_neg (by simp)]
   | cons c r'=>
    rw[if_pos (by simp;omega),cu,Z1];dsimp only
    by_cases h1:k=1
    ·subst h1
     rw[if_pos (by simp),ll,Z1]
     by_cases J:c<=1
     ·rw[if_pos ⟨rfl,J⟩]
      unfold je;rw[if_pos (by simp;omega),ll];rfl
     ·have:decide (c<2)=false:=by simp;omega
      rw[this,if_neg (λh=>J h.2)]
    ·rw[if_neg (by simpa using h1),if_neg (λh=>h1 h.1)]
  unfold mV;rw[if_pos (by simp),cu,Z1]
  by_cases h0:k=0
  ·subst h0;simp[oO,bK]
  have e0:(k==0)=false:=by simpa using h0
  rw[e0,a1,a0,a2];simp only[bK];rw[if_neg h0]
  by_cases h1:k=1
  ·subst h1
   cases r with
   |nil=>rfl
   |cons c r'=>
    by_cases J:c<=1
    ·simp[J]
    ·simp[J]
  rw[if_neg h1]
  by_cases h2:k=2
  ·subst h2
   by_cases hl:8<=r.length
   ·cases r with
    |nil=>simp at hl
    |cons c r'=>rw[if_pos rfl,if_pos hl];simp;simp at hl;omega
   ·cases r with
    |nil=>rfl
    |cons c r'=>rw[if_pos rfl,if_neg hl];simp;simp at hl;omega
  rw[if_neg h2]
  by_cases h3:k=3
  ·subst h3
   cases r with
   |nil=>rfl
   |cons c r'=>
    by_cases J:c<=64/\c<=(r'.length:Int)
    ·simp[J]
    ·simp[J]
  ·cases r with
   |nil=>simp[h2,h3]
   |cons c r'=>simp[h1,h2,h3]
def eC (f:Nat->Bool):Nat->Nat
 |0=>0
 |n+1=>2^n*(f n).toNat+eC f n
theorem mt (f:Nat->Bool):∀n,eC f n<2^n
 |0=>by simp[eC]
 |n+1=>by
  have:=mt f n;simp only[eC];cases f n<;>simp[X3]<;>omega
theorem lN (f:Nat->Bool):∀n k,(eC f n).testBit k=(decide (k<n)&&f k)
 |0,k=>by simp[eC]
 | n +1,k=>by
  simp only[eC];rw[Nat.testBit_two_pow_mul_add _ (mt f n),lN f n k]
  by_cases h:k<n
  ·rw[if_pos h];simp[h];intro _;omega
  ·rw[if_neg h]
   by_cases h':k=n
   ·subst h';simp;cases f k<;>rfl
   ·have: ¬ k<n+1:=by omega
    simp[this];have:k - n≠0:=by omega
    cases f n
    ·simp
    ·simp only[Bool.toNat_true]
     obtain⟨j,J⟩:∃j,k - n=j+1:=⟨k - n - 1,by omega⟩
     rw[J,Nat.testBit_succ];simp
theorem nS {f g:Nat->Bool}{n:Nat}(h:∀k,k<n->f k=g k):eC f n=eC g n:=by
 apply X4;intro k;rw[lN,lN]
 by_cases hk:k<n
 ·rw[h k hk]
 ·simp[hk]
theorem In {x n:Nat}(h:x<2^n):eC (λk=>x.testBit k) n=x:=by
 apply X4;intro k;rw[lN]
 by_cases hk:k<n
 ·simp[hk]
 ·have:=Nat.testBit_lt_two_pow (Nat.lt_of_lt_of_le h (Zc (by decide) (Nat.le_of_not_lt hk)))
  simp[this]
theorem yD (x k:Nat):x/2^k=2*(x/2^(k+1))+(x.testBit k).toNat:=by
 have J:x/2^(k+1)=x/2^k/2:=by rw[X3,Zl]
 rw[J,Zv];have:x/2^k%2=0\/x/2^k%2=1:=by omega
 rcases this with h|h<;>simp[h]<;>omega
def fy (l:List Int)(w p:Nat):Bool:=decide (p<l.length*w)&&(l.getD (p/w) 0).toNat.testBit (p%w)
def jI (l:List Int)(w q:Nat):List Int:=(Xe ((l.length*w+7)/8)).map λj=>((eC (λk=>decide (8*j+k<q)&&fy l w (8*j+k)) 8:Nat):Int)
def bX (l:List Int)(w:Nat):List Int:=jI l w (l.length*w)
theorem eP (l:List Int)(w q:Nat):(jI l w q).length=(l.length*w+7)/8:=by simp[jI]
theorem nf (l:List Int)(w q j:Nat)(h:j<(jI l w q).length):(jI l w q)[j]=((eC (λk=>decide (8*j+k<q)&&fy l w (8*j+k)) 8:Nat):Int):=by simp[jI]
theorem AF (l:List Int)(w:Nat):Byt (bX l w):=λc h=>by
 simp only[bX,jI,Xn] at h;obtain⟨j,_,rfl⟩:=h;have:=mt (λk=>decide (8*j+k<l.length*w)&&fy l w (8*j+k)) 8;omega
theorem Io (l:List Int)(w q:Nat)(hq:q<l.length*w)(W:fy l w q=true):
  ∃x:Nat,x<256/\(jI l w q)[q/8]? =some (x:Int)/\(jI l w q).set (q/8) (((x|||2^(q%8):Nat)):Int)=jI l w (q+1):=by
 have Z:q/8<(jI l w q).length:=by rw[eP];omega
 refine⟨_,mt _ 8,by rw[Zb Z,nf],?_⟩;apply Xb
 ·simp[eP]
 intro j h1 h2;rw[List.getElem_set,nf];split
 ·rename_i e
  subst e;rw[nf];congr 1;apply X4;intro k;rw[Nat.testBit_or,lN,lN,Nat.testBit_two_pow]
  by_cases h:k<8
  ·by_cases e:q%8=k
   ·have:8*(q/8)+k=q:=by omega
    simp[h,e,this,W]
   ·have J:(8*(q/8)+k<q+1)=(8*(q/8)+k<q):=by apply propext;omega
    simp[e,J]
  ·have:q%8≠k:=by omega
   simp[h,this]
 ·rename_i e
  rw[nf];congr 1;apply nS;intro k h;have J:(8*j+k<q+1)=(8*j+k<q):=by apply propext;omega
  simp[J]
theorem Ha (l:List Int)(w q:Nat)(h:fy l w q=false):jI l w q=jI l w (q+1):=by
 unfold jI;apply List.map_congr_left;intro j _;congr 1;apply nS;intro k W
 by_cases e:8*j+k=q
 ·rw[e,h];simp
 ·have J:(8*j+k<q+1)=(8*j+k<q):=by apply propext;omega
  simp[J]
theorem Hb (l:List Int)(w:Nat):jI l w 0=Z5 ((l.length*w+7)/8) 0:=by
 apply Xb
 ·simp[eP]
 intro j h J;rw[nf];have:eC (λk=>decide (8*j+k<0)&&fy l w (8*j+k)) 8=eC (λ_=>false) 8:=nS λk _=>by simp
 rw[this];simp[eC]
def dB (b:List Int)(p:Nat):Bool:=(b.getD (p/8) 0).toNat.testBit (p%8)
def unp (b:List Int)(w i:Nat):Nat:=eC (λk=>dB b (i*w+k)) w
theorem BD (l:List Int)(w p:Nat)(r:List Int)(W:p<l.length*w):dB (bX l w++r) p=fy l w p:=by
 have h:p/8<(bX l w).length:=by unfold bX;rw[eP];omega
 unfold dB;rw[Z7,Zf h,Zb h];simp only[Option.getD_some];have e:(bX l w)[p/8]=_:=nf l w (l.length*w) (p/8) h;rw[e];simp only[Int.toNat_natCast];rw[lN];have J:8*(p/8)+p%8=p:=by omega
 have Z:p%8<8:=by omega
 simp[J,Z,W]
theorem zD (l:List Int)(w i k:Nat)(hi:i<l.length)(J:k<w):i*w+k<l.length*w/\fy l w (i*w+k)=(l[i]).toNat.testBit k:=by
 have h:i*w+k<l.length*w:=by
  have:(i+1)*w<=l.length*w:=Zs _ hi;rw[Zy] at this;omega
 refine⟨h,?_⟩;unfold fy
 have W:(i*w+k)/w=i:=by
  rw[Xm,Nat.mul_add_div (by omega),X5 J];rfl
 have Z:(i*w+k)%w=k:=by
  rw[Xm,Nat.mul_add_mod,Nat.mod_eq_of_lt J]
 rw[W,Z,Z7,Zb hi];simp[h]
theorem wg (l:List Int)(w i:Nat)(r:List Int)(hi:i<l.length)(h:0<=l[i]/\l[i]<2^w):(unp (bX l w++r) w i:Int)=l[i]:=by
 have W:unp (bX l w++r) w i=eC (λk=>(l[i]).toNat.testBit k) w:=nS λk J=>by
  obtain⟨Z,h3⟩:=zD l w i k hi J;rw[BD _ _ _ _ Z,h3]
 rw[W,In]
 ·omega
 ·have:((l[i].toNat:Nat):Int)<((2^w:Nat):Int):=by
   rw[Z9];have:((l[i].toNat:Nat):Int)=l[i]:=by omega
   rw[this];exact h.2
  exact Int.ofNat_lt.1 this
theorem qH (n:Nat):chk (decide (0<=(n:Int)))=some ():=s9 (decide_eq_true (Zn n))
theorem or8 {a b:Nat}(J:a<256)(W:b<256):bOr .u8 (a:Int) (b:Int)=((a|||b:Nat):Int):=by
 unfold bOr;rw[bB]
 have h:(Zi Zd.bits (a:Int)).toNat=a:=by
  show(Zi 8 (a:Int)).toNat=a;rw[Zg];omega
 have Z:(Zi Zd.bits (b:Int)).toNat=b:=by
  show(Zi 8 (b:Int)).toNat=b;rw[Zg];omega
 rw[BitVec.toNat_or,h,Z];have:a|||b<2^8:=Nat.or_lt_two_pow (by simpa using J) (by simpa using W)
 omega
theorem Oh {a b:Nat}(W:a<256)(Z:b<256):dP .u8 (a:Int) (b:Int)=((a&&&b:Nat):Int):=by
 unfold dP;rw[bB]
 have h:(Zi Zd.bits (a:Int)).toNat=a:=by
  show(Zi 8 (a:Int)).toNat=a;rw[Zg];omega
 have J:(Zi Zd.bits (b:Int)).toNat=b:=by
  show(Zi 8 (b:Int)).toNat=b;rw[Zg];omega
 rw[BitVec.toNat_and,h,J];have:a&&&b<=a:=Nat.and_le_left;omega
theorem yE (x:Nat)(k:Nat):x/2^k&&&1=(x.testBit k).toNat:=by
 rw[Xc,Zv];have:x/2^k%2=0\/x/2^k%2=1:=by omega
 rcases this with h|h<;>simp[h]
theorem Oi {x:Int}{k:Nat}(h:0<=x/\x<18446744073709551616)(W:k<=64):dP .u64 (aX .u64 x (k:Int)) 1=(x.toNat.testBit k).toNat:=by
 obtain⟨n,rfl⟩:=Z8 h.1;rw[rh W];have J:((n:Int)/2^k)=((n/2^k:Nat):Int):=by simp[Z9]
 have Z:n/2^k<=n:=Zp _ _;rw[J,show(1:Int)=((1:Nat):Int) from rfl,LL (by omega) (by omega),yE];simp
theorem MP {x:Int}{k:Nat}(h:0<=x/\x<256)(W:k<=8):dP .u8 (aX .u8 x (k:Int)) 1=(x.toNat.testBit k).toNat:=by
 obtain⟨n,rfl⟩:=Z8 h.1;rw[Og W];have J:((n:Int)/2^k)=((n/2^k:Nat):Int):=by simp[Z9]
 have Z:n/2^k<=n:=Zp _ _;rw[J,show(1:Int)=((1:Nat):Int) from rfl,Oh (by omega) (by omega),yE];simp
theorem Hc {i w k:Nat}(hi:i<1048576)(h:w<=64)(J:k<=64):Z0.wrap ((Z0.wrap ((i:Int)*(w:Int)))+(k:Int))=((i*w+k:Nat):Int):=by
 have:i*w<=1048576*64:=Zo (by omega) h;have e:(i:Int)*(w:Int)=((i*w:Nat):Int):=by simp
 rw[e,ai (n:=((i*w:Nat):Int)) (by omega),ai (by omega)];omega
theorem Dp (n:Nat):((n:Int)).tdiv 8=((n/8:Nat):Int):=by
 rw[Zq (by omega)];rfl
theorem Hd (n:Nat):((n:Int)).tmod 8=((n%8:Nat):Int):=by
 rw[Zr (by omega)];rfl
theorem Dq {i w:Nat}(hi:i<1048576)(h:w<=64):Z0.wrap ((Z0.wrap ((Z0.wrap ((i:Int)*(w:Int)))+7)).tdiv 8)=(((i*w+7)/8:Nat):Int):=by
 have:i*w<=1048576*64:=Zo (by omega) h;have e:=Hc (i:=i) (w:=w) (k:=7) hi h (by omega);rw[show((7:Nat):Int)=7 from rfl] at e;rw[e,Dp,ai (by omega)]
def U64 (l:List Int):Prop:= ∀x∈l,0<=x/\x<18446744073709551616
theorem ue {O:Type}{N n:Nat}{z:O}(h:n<=N):mk N (n:Int) z=some (Z5 n z):=by
 unfold mk;rw[if_pos (by omega)];simp
theorem nU {O:Type}{xs:List O}{i:Nat}(h:i<xs.length):ix xs (i:Int)=some i:=by
 unfold ix;rw[if_pos (by omega)];simp
theorem Cx {l:List Int}{w:Nat}(hu:U64 l)(hl:l.length<1048576)(J:w<=64):jS l (w:Int)=some (bX l w):=by
 have a3:l.length*w<=1048576*64:=Zo (by omega) J;unfold jS;rw[Dq hl J,ue (by omega),Z1];refine aW (λi=>((i:Int),jI l w (i*w))) l.length (by simp[Hb]) (λi hi=>?_) ?_
 ·dsimp only
  unfold pq;rw[if_pos (by simpa using hi),aw hi,Z1];have hx:=hu l[i] (Zj hi);refine aW (λk=>((k:Int),jI l w (i*w+k))) w rfl (λk W=>?_) ?_
  ·dsimp only
   unfold pp po;obtain⟨h1,h⟩:=zD l w i k hi W;rw[if_pos (by simpa using W),s9 (by simp),Z1,Oi hx (by omega),Hc (by omega) J (by omega),Dp,Hd,ai (by omega),aP (by omega)];cases hb:l[i].toNat.testBit k with
   |false=>
    rw[hb] at h;rw[if_neg (by decide),Ha l w _ h];rfl
   | true=>
    rw[hb] at h;obtain⟨x,a2,Z,a0⟩:=Io l w _ h1 h;have a1:(i*w+k)/8<(jI l w (i*w+k)).length:=by rw[eP];omega
    rw[if_pos (by decide),nU a1,Z1,Z,Z1,qH,Z1,Z1,Z,Z1]
    have h8:dZ .u8 1 (((i*w+k)%8:Nat):Int)=((2^((i*w+k)%8):Nat):Int):=by
     unfold dZ;rw[bB];have hm:min (((i*w+k)%8:Nat):Int).toNat Zd.bits=(i*w+k)%8:=by simp[IntKind.bits];omega
     rw[hm];have:(2:Nat)^((i*w+k)%8)<=2^7:=Zc (by decide) (by omega);rw[Z9];have e:((2:Int)^((i*w+k)%8))=(((2:Nat)^((i*w+k)%8):Nat):Int):=by simp[Z9]
     rw[show((2:Nat):Int)=2 from rfl,e];generalize (2:Nat)^((i*w+k)%8)=m at*;omega
    have:(2:Nat)^((i*w+k)%8)<=2^7:=Zc (by decide) (by omega);rw[h8,or8 a2 (by omega),a0];rfl
  ·dsimp only
   unfold pp sN;rw[if_neg (by simp),aP (by omega)];simp[Zy]
 ·unfold pq sM
  rw[if_neg (by simp)];rfl
theorem BE {r:ah}{n:Nat}(J:n<=281474976710656):cU r (n:Int)=some (if r.fB.length<n then (Z5 n 0,⟨[],false⟩) else (r.fB.take n,⟨r.fB.drop n,r.fOk⟩)):=by
 unfold cU
 by_cases h:r.fB.length<n
 ·rw[if_pos (by simpa using h),if_pos h,ue J];rfl
 ·rw[if_neg (by simpa using h),if_neg h,ue J,Z1,cP (by omega) (Zm _)]
  simp only[Z1,List.take_length];unfold cpy;simp;omega
theorem MQ (f:Nat->Bool)(k:Nat):eC f k|||2^k*(f k).toNat=eC f (k+1):=by
 rw[Nat.or_comm,←X6 (mt f k)];rfl
theorem Oj {b:Bool}{k:Nat}(h:k<64):dZ .u64 ((b.toNat:Nat):Int) (k:Int)=((2^k*b.toNat:Nat):Int):=by
 rw[yC (by omega)];have J:(2:Nat)^k<2^64:=Nat.pow_lt_pow_right (by decide) h;have e:((2:Int)^k)=(((2:Nat)^k:Nat):Int):=by simp[Z9]
 rw[e];cases b
 ·simp
 ·simp only[Bool.toNat_true,Nat.mul_one]
  have:(2:Nat)^64=18446744073709551616:=by decide
  generalize (2:Nat)^k=m at*;omega
def tf (r:ah)(many w:Nat):List Int×ah:=
 if 64<w then (Z5 many 0,⟨r.fB,false⟩) else
 if r.fB.length<(many*w+7)/8 then (Z5 many 0,⟨[],false⟩) else
 ((Xe many).map λi=>((unp r.fB w i:Nat):Int),⟨r.fB.drop ((many*w+7)/8),r.fOk⟩)
theorem Ip {l:List Int}{n i:Nat}(h:i<n):(l.take n).getD i 0=l.getD i 0:=by
 rw[Z7,Z7,List.getElem?_take,if_pos h]
theorem KC (b:List Int)(w i n:Nat)(h:(i+1)*w<=8*n):unp (b.take n) w i=unp b w i:=nS λk J=>by
 rw[Zy] at h;unfold dB;rw[Ip (by omega)]
theorem KD (n w i:Nat):unp (Z5 n 0) w i=0:=by
 have:unp (Z5 n 0) w i=eC (λ_=>false) w:=nS λk h=>by
  unfold dB;rw[Z7,List.getElem?_replicate];split<;>simp
 rw[this];have:∀w,eC (λ_=>false) w=0:=by intro w;induction w with|zero=>rfl|succ w ih=>simp[eC,ih]
 exact this w
theorem y9 {r:ah}{many w:Nat}(W:Byt r.fB)(hm:many<1048576):fm r (many:Int) (w:Int)=some (tf r many w):=by
 unfold fm tf
 by_cases hw:64<w
 ·rw[if_pos (by simpa using by omega),if_pos hw,ue (by omega)];rfl
 rw[if_neg (by simpa using by omega),if_neg hw];have a0:w<=64:=by omega
 have a9:many*w<=1048576*64:=Zo (by omega) a0;rw[Dq hm a0,BE (by omega),Z1,ue (by omega),Z1]
 have key:∀(b:List Int) (r':ah),Byt b->b.length=(many*w+7)/8->
   am (λs:(Int×List Int)=>fW (w:Int) (b,r') (Z5 many 0) s.1 s.2) (0,Z5 many 0)=some ((Xe many).map λi=>((unp b w i:Nat):Int),r'):=by
  intro b r' W h;refine aW (λi=>((i:Int),(Xe i).map (λi=>((unp b w i:Nat):Int))++Z5 (many - i) 0)) many (by simp) (λi hi=>?_) ?_
  ·dsimp only
   unfold fW;rw[if_pos (by simpa using hi)];have a3:(i+1)*w<=many*w:=Zs _ hi;rw[Zy] at a3
   have a6:∀k,k<=64->eC (λk=>dB b (i*w+k)) k<18446744073709551616:=λk Z=>by
    have:=mt (λk=>dB b (i*w+k)) k;have h2:(2:Nat)^k<=2^64:=Zc (by decide) Z;have:(2:Nat)^64=18446744073709551616:=by decide
    omega
   refine aW (λk=>((k:Int),(Xe i).map (λi=>((unp b w i:Nat):Int))++((eC (λk=>dB b (i*w+k)) k:Nat):Int)::Z5 (many - i - 1) 0)) w ?_ (λk Z=>?_) ?_
   ·have:many - i=(many - i - 1)+1:=by omega
    rw[this,List.replicate_succ];simp[eC]
   ·dsimp only
    unfold iZ;have a1:(i*w+k)/8<b.length:=by omega
    have a5:i<((Xe i).map (λi=>((unp b w i:Nat):Int))++((eC (λk=>dB b (i*w+k)) k:Nat):Int)::Z5 (many - i - 1) 0).length:=by simp
    have a2:((Xe i).map (λi=>((unp b w i:Nat):Int))++((eC (λk=>dB b (i*w+k)) k:Nat):Int)::Z5 (many - i - 1) 0)[i]? =some ((eC (λk=>dB b (i*w+k)) k:Nat):Int):=by simp
    rw[if_pos (by simpa using Z),nU a5,Z1,a2,Z1,Hc (by omega) a0 (by omega),Dp,Hd,ai (by omega),aw a1,Z1,qH,Z1,qH,Z1,Z1,a2,Z1,aP (by omega)];have a4:=W b[(i*w+k)/8] (Zj a1);rw[MP a4 (by omega)]
    have e:b[(i*w+k)/8].toNat.testBit ((i*w+k)%8)=dB b (i*w+k):=by
     unfold dB;rw[Z7,Zb a1];rfl
    rw[e,aT];have e2:(((dB b (i*w+k)).toNat:Nat):Int)%18446744073709551616=(((dB b (i*w+k)).toNat:Nat):Int):=by cases dB b (i*w+k)<;>rfl
    have h3:2^k*(dB b (i*w+k)).toNat<18446744073709551616:=by
     have J:(2:Nat)^k<2^64:=Nat.pow_lt_pow_right (by decide) (by omega);have:(2:Nat)^64=18446744073709551616:=by decide
     cases dB b (i*w+k)<;>simp<;>omega
    rw[e2,Oj (by omega),Kz (a6 k (by omega)) h3,MQ (λk=>dB b (i*w+k)) k];congr 3;rw[List.set_append_right _ _ (by simp)];simp
   ·dsimp only
    unfold iZ mG;rw[if_neg (by simp),aP (by omega)];have:many - i - 1=many - (i+1):=by omega
    rw[this];simp[List.range_succ,unp]
  ·dsimp only
   unfold fW mF;rw[if_neg (by simp)];simp
 by_cases h:r.fB.length<(many*w+7)/8
 ·rw[if_pos h,if_pos h,key _ _ (λc hc=>by rw[List.eq_of_mem_replicate hc];decide) (by simp)]
  congr 2;apply Xb
  ·simp
  ·intro j J h2;simp[KD]
 ·rw[if_neg h,if_neg h,key _ _ (W.take _) (by simp;omega)]
  congr 2;apply Xb
  ·simp
  ·intro j J h2
   simp only[List.getElem_map,List.getElem_range];rw[KC];simp at J;have:(j+1)*w<=many*w:=Zs _ J;omega
theorem uf {b:List Int}{w i:Nat}(hb:Byt b)(hi:i<1048576)(J:w<=64)(hl:(i+1)*w<=8*b.length):oP b (w:Int) (i:Int)=some ((unp b w i:Nat):Int):=by
 unfold oP;have a4:i*w<=1048576*64:=Zo (by omega) J;rw[Zy] at hl;have a0:=mt (λk=>dB b (i*w+k)) w;have a2:(2:Nat)^w<=2^64:=Zc (by decide) J;have a3:(2:Nat)^64=18446744073709551616:=by decide
 refine aW (λt=>(((unp b w i/2^(w - t):Nat):Int),(w:Int) - 1 - (t:Int))) w ?_ (λt ht=>?_) ?_
 ·rw[ai (by omega)]
  have:unp b w i/2^(w - 0)=0:=X5 a0;rw[this];simp
 ·dsimp only
  unfold qz;obtain⟨k,hk⟩:∃k,w=t+1+k:=⟨w - t - 1,by omega⟩
  have e:(w:Int) - 1 - (t:Int)=(k:Int):=by omega
  have h:(i*w+k)/8<b.length:=by omega
  have a1:=hb b[(i*w+k)/8] (Zj h);rw[e,if_pos (by simp),Hc hi J (by omega),Dp,Hd,ai (n:=(((i*w+k)/8:Nat):Int)) (by omega),aw h,Z1,qH,Z1,ai (by omega)];have e1:w - t=k+1:=by omega
  have e2:w - (t+1)=k:=by omega
  rw[e1,e2,yD (unp b w i) k]
  have Z:(aX .u8 b[(i*w+k)/8] (((i*w+k)%8:Nat):Int)).tmod 2=(((unp b w i).testBit k).toNat:Int):=by
   obtain⟨n,W⟩:=Z8 a1.1;rw[W,Og (by omega)];have h1:((n:Int)/2^((i*w+k)%8))=((n/2^((i*w+k)%8):Nat):Int):=by simp[Z9]
   rw[h1,Zr (Zn _)]
   have h2:(unp b w i).testBit k=n.testBit ((i*w+k)%8):=by
    unfold unp;rw[lN]
    have:dB b (i*w+k)=n.testBit ((i*w+k)%8):=by
     unfold dB;rw[Z7,Zb h];simp[W]
    rw[this];have:k<w:=by omega
    simp[this]
   rw[h2,←yE,Xc];rfl
  rw[Z,aT,aT,aT]
  have h5:unp b w i/2^(k+1)*2+((unp b w i).testBit k).toNat<18446744073709551616:=by
   have:=yD (unp b w i) k;have h6:unp b w i/2^k<=unp b w i:=Zp _ _;have h7:unp b w i=eC (λk=>dB b (i*w+k)) w:=rfl;omega
  congr 3
  ·omega
  ·omega
 ·dsimp only
  unfold qz vg;rw[if_neg (by simp;omega)];simp
def pf (l:List Int)(w q:Nat):List Int:=(Xe q).map λp=>((fy l w p).toNat:Int)
theorem He (l:List Int)(w q:Nat):pf l w (q+1)=pf l w q++[((fy l w q).toNat:Int)]:=by simp[pf,List.range_succ]
theorem zF (l:List Int){w:Nat}(hl:l.length<1048576)(hw:w<=64):sU (pf l w (l.length*w))=some (bX l w):=by
 have a3:l.length*w<=1048576*64:=Zo (by omega) hw;unfold sU;have h:(pf l w (l.length*w)).length=l.length*w:=by simp[pf]
 refine aW (λj=>((bX l w).take j,((8*j:Nat):Int))) ((l.length*w+7)/8) (by simp) (λj hj=>?_) ?_
 ·dsimp only
  unfold sT;rw[h,if_pos (by simpa using by omega)];have a1:(bX l w).length=(l.length*w+7)/8:=eP _ _ _;refine aW (λt=>(((eC (λk=>decide (8*j+k<l.length*w)&&fy l w (8*j+k)) 8/2^(8 - t):Nat):Int),7 - (t:Int))) 8 ?_ (λt ht=>?_) ?_
  ·have:=mt (λk=>decide (8*j+k<l.length*w)&&fy l w (8*j+k)) 8
   rw[X5 (by simpa using this)];simp
  ·dsimp only
   unfold sS sR;obtain⟨k,hk⟩:∃k,8=t+1+k:=⟨8 - t - 1,by omega⟩
   have e:7 - (t:Int)=(k:Int):=by omega
   have e1:8 - t=k+1:=by omega
   have e2:8 - (t+1)=k:=by omega
   have e4:Z0.wrap ((k:Int) - 1)=7 - ((t+1:Nat):Int):=by rw[ai (by omega)];omega
   have e5:Z0.wrap (((8*j:Nat):Int)+(k:Int))=((8*j+k:Nat):Int):=by rw[ai (by omega)];omega
   rw[e,if_pos (by simp),e1,e2,e4,e5,yD _ k];have hN:=mt (λk=>decide (8*j+k<l.length*w)&&fy l w (8*j+k)) 8;have a2:eC (λk=>decide (8*j+k<l.length*w)&&fy l w (8*j+k)) 8/2^k<=eC (λk=>decide (8*j+k<l.length*w)&&fy l w (8*j+k)) 8:=Zp _ _;have W:=yD (eC (λk=>decide (8*j+k<l.length*w)&&fy l w (8*j+k)) 8) k;have Z:=lN (λk=>decide (8*j+k<l.length*w)&&fy l w (8*j+k)) 8 k;have a0:k<8:=by omega
   by_cases hp:8*j+k<l.length*w
   ·rw[if_pos (by simpa using by omega),aw (by rw[h];exact hp),Z1]
    have J:(pf l w (l.length*w))[8*j+k]'(by rw[h];exact hp)=(((eC (λk=>decide (8*j+k<l.length*w)&&fy l w (8*j+k)) 8).testBit k).toNat:Int):=by
     rw[Z];simp[pf,hp,a0]
    rw[J,bB,bB];congr 3;omega
   ·rw[if_neg (by simpa using by omega)]
    have J:(eC (λk=>decide (8*j+k<l.length*w)&&fy l w (8*j+k)) 8).testBit k=false:=by
     rw[Z];simp[hp]
    rw[J] at W ⊢;rw[bB];simp only[Bool.toNat_false,Zu] at W ⊢;congr 3;omega
  ·dsimp only
   unfold sS xw xv;rw[if_neg (by decide),aI (by simp;omega),Z1];have h1:j<(bX l w).length:=by omega
   rw[Ze h1];have h2:(bX l w)[j]=((eC (λk=>decide (8*j+k<l.length*w)&&fy l w (8*j+k)) 8:Nat):Int):=nf _ _ _ _ _;have e9:((8*j:Nat):Int)+8=((8*(j+1):Nat):Int):=by omega
   rw[h2,ai (by omega),e9];simp
 ·dsimp only
  unfold sT xu;rw[h,if_neg (by simp;omega)];rw[Xh (by unfold bX;rw[eP];omega)];rfl
theorem wP {l:List Int}{w:Nat}(W:U64 l)(hl:l.length<1048576)(h:w<=64):rx l (w:Int)=some (bX l w):=by
 have a0:l.length*w<=1048576*64:=Zo (by omega) h;unfold rx;refine aW (λi=>(pf l w (i*w),(i:Int))) l.length (by simp[pf]) (λi hi=>?_) ?_
 ·dsimp only
  unfold sW;have hx:=W l[i] (Zj hi);have Z:(i+1)*w<=l.length*w:=Zs _ hi;rw[Zy] at Z;rw[if_pos (by simpa using hi),aw hi,Z1];refine aW (λk=>(pf l w (i*w+k),((l[i].toNat/2^k:Nat):Int),(k:Int))) w ?_ (λk J=>?_) ?_
  ·simp;omega
  ·dsimp only
   unfold sV;obtain⟨h1,h2⟩:=zD l w i k hi J;have h3:l[i].toNat/2^k<=l[i].toNat:=Zp _ _;have h4:l[i].toNat/2^(k+1)=l[i].toNat/2^k/2:=by rw[X3,Zl]
   have h5:(((l[i].toNat/2^k:Nat):Int)).tmod 2=((fy l w (i*w+k)).toNat:Int):=by
    rw[h2,←yE,Xc,Zr (Zn _)];rfl
   rw[if_pos (by simpa using J),h5,bB];have h6:((fy l w (i*w+k)).toNat:Int)%256=((fy l w (i*w+k)).toNat:Int):=by cases fy l w (i*w+k)<;>rfl
   rw[h6,aI (by simp[pf];omega),Z1,←Nat.add_assoc,He,aP (by omega),aT,Zq (Zn _),h4];congr 4;generalize l[i].toNat/2^k=q at*;omega
  ·dsimp only
   unfold sV xy;rw[if_neg (by simp),aP (by omega)];simp[Zy]
 ·dsimp only
  unfold sW;rw[if_neg (by simp),zF l hl h];rfl
def wid (n:Nat):Nat:=if n=0 then 0 else n.log2+1
theorem xK (n:Nat):n<2^wid n:=by
 unfold wid;split
 ·omega
 ·exact Nat.lt_log2_self
theorem KE {n:Nat}(h:n≠0):wid n=wid (n/2)+1:=by
 unfold wid;rw[if_neg h]
 by_cases h1:n/2=0
 ·have:n=1:=by omega
  subst this;rfl
 ·rw[if_neg h1,Nat.log2_def,if_pos (by omega)]
theorem xL {n k:Nat}(h:2^k<=n):wid n=wid (n/2^k)+k:=by
 induction k generalizing n with
 |zero=>simp
 |succ k ih=>
  rw[X3] at h;have:0<2^k:=Nat.pow_pos (by decide);rw[KE (n:=n) (by omega),ih (n:=n/2) (by omega),X3,Xm (2^k) 2,←Zl];omega
theorem oR {n w:Nat}(h:n<2^w):wid n<=w:=by
 unfold wid;split
 ·omega
 ·rename_i J
  have:=Nat.log2_lt J |>.2 h
  omega
theorem zG {n:Nat}(h:n<18446744073709551616):qv (n:Int)=some ((wid n:Nat):Int):=by
 unfold qv;have a0:wid n<=64:=oR (by simpa using h);refine aW (λi=>(((n/2^i:Nat):Int),(i:Int))) (wid n) (by simp) (λi hi=>?_) ?_
 ·dsimp only
  unfold uG
  have W:0<n/2^i:=by
   rcases Nat.eq_zero_or_pos (n/2^i) with h1|h1
   ·have:n<2^i:=by
     have:=Nat.div_eq_zero_iff.1 h1;have Z:0<2^i:=Nat.pow_pos (by decide);omega
    have:=oR this;omega
   ·exact h1
  have h3:n/2^i<=n:=Zp _ _;have J:n/2^(i+1)=n/2^i/2:=by rw[X3,Zl]
  generalize n/2^i=q at*;rw[if_pos (decide_eq_true (by omega)),Zq (Zn _),aT,aP (by omega),J];congr 3;omega
 ·dsimp only
  unfold uG yV;have:n/2^wid n=0:=X5 (xK n);rw[this,if_neg (by decide)];rfl
def KF:List Int:=[0,1,2,2,3,3,3,3,4,4,4,4,4,4,4,4,5,5,5,5,5,5,5,5,5,5,5,5,5,5,5,5,6,6,6,6,6,6,6,6,6,6,6,6,6,6,6,6,6,6,6,6,6,6,6,6,6,6,6,6,6,6,6,6,7,7,7,7,7,7,7,7,7,7,7,7,7,7,7,7,7,7,7,7,7,7,7,7,7,7,7,7,7,7,7,7,7,7,7,7,7,7,7,7,7,7,7,7,7,7,7,7,7,7,7,7,7,7,7,7,7,7,7,7,7,7,7,7,8,8,8,8,8,8,8,8,8,8,8,8,8,8,8,8,8,8,8,8,8,8,8,8,8,8,8,8,8,8,8,8,8,8,8,8,8,8,8,8,8,8,8,8,8,8,8,8,8,8,8,8,8,8,8,8,8,8,8,8,8,8,8,8,8,8,8,8,8,8,8,8,8,8,8,8,8,8,8,8,8,8,8,8,8,8,8,8,8,8,8,8,8,8,8,8,8,8,8,8,8,8,8,8,8,8,8,8,8,8,8,8,8,8,8,8,8,8,8,8,8,8,8,8,8,8,8,8]
theorem MR:∀n:_root_.Fin 256,idx KF ((n.val:Nat):Int)=some ((wid n.val:Nat):Int):=by decide+kernel
set_option maxRecDepth 100000 in
theorem Eu (x y:Int):oW x y=(idx KF (Zd.wrap x)).bind λr=>some (Z0.wrap (y+Z0.wrap r)):=rfl
theorem Ev {n k:Nat}(h:n<256)(Z:k<=56):oW (n:Int) (k:Int)=some ((wid n+k:Nat):Int):=by
 have J:idx KF (n:Int)=some ((wid n:Nat):Int):=MR ⟨n,h⟩;have W:wid n<=8:=oR (by simpa using h);rw[Eu,bB,show((n:Int)%256)=(n:Int) by omega,J,Z1,ai (n:=((wid n:Nat):Int)) (by omega),ai (by omega)];congr 1;omega
theorem Ew {n k:Nat}(h:n<65536)(J:k<=48):oX (n:Int) (k:Int)=some ((wid n+k:Nat):Int):=by
 unfold oX
 by_cases h1:256<=n
 ·rw[if_pos (by simpa using by omega)]
  have e:aX .u64 (n:Int) 8=((n/2^8:Nat):Int):=by have:=rh (x:=(n:Int)) (k:=8) (by omega);simpa using this
  have e2:Z0.wrap ((k:Int)+8)=((k+8:Nat):Int):=by rw[ai (by omega)];rfl
  rw[e,e2,Ev (by omega) (by omega),xL (n:=n) (k:=8) (by omega)];congr 2;omega
 ·rw[if_neg (by simpa using by omega),Ev (by omega) (by omega)]
theorem Ex {n k:Nat}(h:n<4294967296)(J:k<=32):oY (n:Int) (k:Int)=some ((wid n+k:Nat):Int):=by
 unfold oY
 by_cases h1:65536<=n
 ·rw[if_pos (by simpa using by omega)]
  have e:aX .u64 (n:Int) 16=((n/2^16:Nat):Int):=by have:=rh (x:=(n:Int)) (k:=16) (by omega);simpa using this
  have e2:Z0.wrap ((k:Int)+16)=((k+16:Nat):Int):=by rw[ai (by omega)];rfl
  rw[e,e2,Ew (by omega) (by omega),xL (n:=n) (k:=16) (by omega)];congr 2;omega
 ·rw[if_neg (by simpa using by omega),Ew (by omega) (by omega)]
theorem Ey {n:Nat}(h:n<18446744073709551616):pN (n:Int)=some ((wid n:Nat):Int):=by
 unfold pN
 by_cases h1:4294967296<=n
 ·rw[if_pos (by simpa using by omega)]
  have e:aX .u64 (n:Int) 32=((n/2^32:Nat):Int):=by have:=rh (x:=(n:Int)) (k:=32) (by omega);simpa using this
  rw[e,show(32:Int)=((32:Nat):Int) from rfl,Ex (by omega) (by omega),xL (n:=n) (k:=32) (by omega)]
 ·rw[if_neg (by simpa using by omega),show(0:Int)=((0:Nat):Int) from rfl,Ex (by omega) (by omega)]
  rfl
theorem len_eq {n:Nat}(h:n<18446744073709551616):qs (n:Int)=some ((wid n:Nat):Int):=by
 unfold qs;rw[Ey h];rfl
end Go.Proofs.YthbonoagbeilkaaGreat.Hay
