import Derived.Test.YthbonoagbeilkaaGreatExI
import Derived.Test.YthbonoagbeilkaaGreatHbM
set_option linter.unusedVariables false
set_option linter.unusedSimpArgs false
namespace Go.Proofs.YthbonoagbeilkaaGreat.Hay
open Option renaming bind_some→Z1
open List renaming replicate→Z3,getD_eq_getElem?_getD→Z5,getElem?_eq_getElem→Z7,take_succ_eq_append_getElem→Za,getElem_mem→Zk,ext_getElem→Zt,drop_eq_getElem_cons→Zw,range→Zx,take_of_length_le→Zz,length_cons→X3,mem_cons→X4
open Nat renaming pow_le_pow_right→Zc,div_div_eq_div_mul→Zd,le_of_ble_eq_true→Ze,mul_le_mul_right→Zg,mul_le_mul→Zh,testBit_eq_decide_div_mod_eq→Zi,div_le_self→Zl,le_refl→Zo,pow_succ→Zp,eq_of_testBit_eq→Zq,two_pow_add_eq_or_of_lt→Zr,add_mul→Zv,div_eq_of_lt→Zy,mul_comm→X5
open Bool renaming false_eq_true→Zm
open Int renaming natCast_pow→Z6,eq_ofNat_of_zero_le→Z8,tdiv_eq_ediv_of_nonneg→Zf,natCast_nonneg→Zj,fdiv_eq_ediv_of_nonneg→Zs,tmod_eq_emod_of_nonneg→Zu
open BitVec renaming toNat_ofInt→Z9,ofInt→Zb
open IntKind renaming i64→Z0,u64→Z2,u8→Z4,u32→Zn
section
variable {G:Sg}{P:Program}{W0:Bse}{m:M}{z:Cz}{a:Act}{w:World}{Γ:Tab P G}
def JG (Γ : Tab P G) (st : St G) (b t : Nat) : Option (AV G) :=
  match Γ.ty t,av? (st.op (.tmp b)) with
  | some I, some (.blk i) =>(match eW st.L i with
    |some (.dat c x)=>if c=I.T then some (.dat c x none) else none
    |_=>none)
  |_,_=>none
def qn (Γ : Tab P G) (n : Nat) : Nat → List ResultVar → St G → Option (List Nat × St G)
  |_,[],st=>some ([],st)
  | k, .tmp t :: r, st =>(match Nat.blt t n, qn Γ n k r st with
    |true,some (ts,st')=>some (t::ts,st')
    |_,_=>none)
  | k, .cell b t :: r, st =>(match Nat.blt b n, JG Γ st b t with
    |true,some v=>(match qn Γ n (k+1) r (st.put k (.one v)) with|some (ts,st')=>some (k::ts,st')|none=>none)
    |_,_=>none)
def Ae (Γ:Tab P G) (n:Nat) (ps:List Pm) (rs:List Rm) (res:List ResultVar) (st:St G):Option (bH G (ib ps rs)):=
  match qn Γ n n res st with
  |some (ts,st')=>vV Γ ps rs ts st'
  |none=>none
noncomputable def exX (n:Nat) (Γ:Tab P G) (D:List (CS P G)) (c:Code) (ps:List Pm) (rs:List Rm) (res:List ResultVar) (A:An G (bH G (ib ps rs))) (x:d5 G ps):Option (bH G (ib ps rs)):=
  ex n Γ D c A (Ad G ps x) (Ae Γ n ps rs res) (λ_ _=>none) (Ae Γ n ps rs res)
theorem rD {xs:Array Value}{v:Value}{t:Nat}(h:t≠xs.size):(xs.push v).getD t undef=xs.getD t undef:=by
  simp only[Array.getD_eq_getD_getElem?,Array.getElem?_push];rw[if_neg h]
theorem vW {xs:Array Value}{v:Value}:(xs.push v).getD xs.size undef=v:=by
  simp[Array.getD_eq_getD_getElem?,Array.getElem?_push]
theorem IM {n : Nat} {L0 : Rs} {T0 : List (Nat × Value)} {m0 : M} : ∀ {res : List ResultVar} {k : Nat} {st : St G} {a' : Act} {ts : List Nat} {st' : St G}, Sat G P [] k W0 L0 T0 m0 st a' w → n ≤ k → (∀ t, t < n → a'.tmps.getD t undef = a.tmps.getD t undef) → qn Γ n k res st = some (ts, st') →
    ∃(k':Nat) (a'':Act),Sat G P [] k' W0 L0 T0 m0 st' a'' w∧(∀t,t<k→a''.tmps.getD t undef=a'.tmps.getD t undef)∧rx P a w res (ts.map λt=>a''.tmps.getD t undef):=by
  intro res
  induction res with
  | nil =>
    intro k st a' ts st' hs hk ha h;unfold qn at h;obtain⟨rfl,rfl⟩:=Prod.mk.inj (Option.some.inj h);exact⟨k,a',hs,λ_ _=>rfl,.nil⟩
  | cons r res ih =>
    intro k st a' ts st' hs hk ha h;cases r with
    | tmp t =>
      unfold qn at h;split at h
      · rename_i ts0 st0 ht h0
        obtain⟨rfl,rfl⟩:=Prod.mk.inj (Option.some.inj h);have ht:t<n:=Ze ht;obtain⟨k',a'',h1,h2,h3⟩:=ih hs hk ha h0;refine⟨k',a'',h1,h2,.cons ?_ h3⟩;simp only;rw[←ha t ht,←h2 t (Nat.lt_of_lt_of_le ht hk)]
        rfl
      ·cases h
    | cell b t =>
      unfold qn at h;split at h
      · rename_i v hb hv
        have hb:b<n:=Ze hb;cases hq:qn Γ n (k+1) res (st.put k (.one v)) with
        |none=>rw[hq] at h;cases h
        | some q =>
          rw[hq] at h;obtain⟨ts0,st0⟩:=q;obtain⟨rfl,rfl⟩:=Prod.mk.inj (Option.some.inj h);unfold JG at hv;split at hv
          · rename_i I i hI hi
            split at hv
            · rename_i c x hB
              split at hv
              · rename_i hc
                injection hv with hv
                subst hv;subst hc;obtain⟨⟨m,z,h0,hr,hM⟩,hdf,hsz⟩:=hs;obtain⟨p',hp1,hp2⟩:=bp (fc hr) hi;obtain⟨L,TL,p,cs,j,hS,g1,g2,g3⟩:=hM.get hB;rw[g1] at hp1;injection hp1 with hp1
                subst hp1;have hRV:RV (I.T.kd G) m ((I.T.kd G).val cs) x:=Ee g3
                have hs':Sat G P [] (k+1) W0 L0 T0 m0 (st.put k (.one (.dat I.T x none))) { a' with tmps:=a'.tmps.push ((I.T.kd G).val cs) } w:=by
                  refine⟨⟨m,z,h0,?_,hM⟩,hdf,by simp[hsz]⟩;intro e he;rcases X4.1 he with rfl|he
                  · simp only
                    rw[←hsz,vW];exact⟨hRV,trivial⟩
                  · obtain ⟨q1, q2⟩ := lC he
                    have:=hr e q1;simp only;rw[rD (by rw[hsz];exact q2)];exact this
                obtain⟨k',a'',h1,h2,h3⟩:=ih hs' (by omega) (λt ht=>by
                  simp only;rw[rD (by rw[hsz];omega)]
                  exact ha t ht) hq
                refine⟨k',a'',h1,λt ht=>?_,.cons ?_ h3⟩
                · rw [h2 t (by omega)]
                  simp only;rw[rD (by rw[hsz];omega)]
                · have e1 : a''.tmps.getD k undef = (I.T.kd G).val cs := by
                    rw[h2 k (by omega)];simp only;rw[←hsz,vW]
                  have e2:a.tmps.getD b undef= .pointer (some ⟨p.1,0,none⟩):=by
                    rw[←ha b hb];exact hp2
                  simp only;rw[e1,e2]
                  have hA:At w p.1 0 cs:=by
                    have:=hS.atL g2 (o:=0) (cs':=cs) (by simp) (by rw[(I.T.kd G).len g3];exact(I.T.kd G).pos);exact this
                  simp[asAddr,ja I.ok g3 hA]
              ·cases hv
            ·cases hv
          ·cases hv
      ·cases h
theorem Ey {n : Nat} {fn : Func} {ps : List Pm} {rs : List Rm} {res : List ResultVar} {st : St G} {L : List (Nat × List Value)} {TL : List (Nat × Value)} {vs : List Value} {x : d5 G ps} {Lp : List (Nat × List Value)} {Tp : List (Nat × Value)} {m0 : M} {r : bH G (ib ps rs)}
    (hres:fn.results.toList=res) (hP:jZ G P m0 ps vs x Lp Tp) (hnl:(nmA ps vs Lp).length=cnt ps) (hs0:Sat G P [] n W0 ⟨L,nmA ps vs Lp⟩ TL m0 st a w) (h:Ae Γ n ps rs res st=some r):
    Fin P fn (λv w'=>∃(m':M) (us:List Value) (Lr Lp':List (Nat×List Value)) (Tr:List (Nat×Value)),M.le m0 m'∧S W0 m' w' (Lr++(Lp'++L)) (Tr++TL)∧v=tup us∧mT G m' (ps.filterMap Pm.out) rs us r Lr Tr∧iC G m' ps vs (rest G (ps.filterMap Pm.out) rs r) Lp Lp') a w:=by
  unfold Ae at h;split at h
  · rename_i ts st9 hcells
    obtain⟨k',a9,hs,_,hRL⟩:=IM (a:=a) hs0 (Zo n) (λ_ _=>rfl) hcells;obtain⟨l0,hE0,_⟩:=d4 hs0.df hs0.sz [];obtain⟨⟨m,z,h0,hr,Lc,Tc,h1,h2,hS,hsf⟩,hdf,hsz⟩:=hs;unfold vV at h;obtain⟨m1,hm1,hF,_,_⟩:=ye (G:=G) (P:=P) (L0:=⟨L,nmA ps vs Lp⟩) (T0:=TL) (ps:=rs.map Rm.pm) (xs:=ts.map Operand.tmp) (st:=st9) (m:=m) (z:=z) ⟨hr,Lc,Tc,h1,h2,hS,hsf⟩;split at h
    · rename_i y st2 bk he
      split at h
      · rename_i o hc ho
        injection h with h
        subst h;obtain⟨z',Lr,Tr,hz,⟨_,Lc2,Tc2,k1,k2,hS2,hsf2⟩,hPR,_⟩:=yf hF he;have hlen:=k1.len;have hc:=Ze hc;obtain⟨pre,hpre⟩:=hsf2;simp only at hpre
        have hpl:pre.length=st2.L.length - cnt ps:=by
          have:=congrArg List.length hpre;rw[List.length_append,hlen.1,hnl] at this;omega
        have hdz:z'.b.drop (st2.L.length - cnt ps)=nmA ps vs Lp:=by rw[hpre,←hpl,List.drop_left]
        have kd:=k1.drop (st2.L.length - cnt ps);rw[hdz] at kd;have hO:=Ex hP ho (by simp;omega) kd;obtain⟨j1,j2⟩:=Ew (os:=ps.filterMap Pm.out) (o:=o) hPR
        have hus:(ts.map Operand.tmp).map a9.eval=ts.map λt=>a9.tmps.getD t undef:=by
          simp only[List.map_map,Function.comp_def];rfl
        refine Fin.mk hE0 hres hRL ⟨m1,_,Lr,Lc2.drop (st2.L.length - cnt ps),Tr,h0.trans hm1,?_,rfl,?_,?_⟩
        ·exact(S.between hS2 _ (by omega)).betweenT
        ·rw[←hus];exact j1
        ·rw[j2];exact hO
      ·cases h
    ·cases h
  ·cases h
theorem Ctr.ofX {f : FuncId} {fn : Func} {c : Code} {n : Nat} {ps : List Pm} {rs : List Rm} {res : List ResultVar} {D : List (CS P G)} {g : d5 G ps → Option (bH G (ib ps rs))} (A : An G (bH G (ib ps rs)))
    (hmx:P.follows .mixedOrders=true) (hf:P.funcs[f]? =some fn) (hb:fn.body=some c) (hn:fn.ntmps=n) (hle:Nat.ble ps.length n=true) (hres:fn.results.toList=res)
    (hO:Obl (cnt ps) n Γ D c A 0 (Ae Γ n ps rs res) (λ_ _=>none) (Ae Γ n ps rs res)) (h:∀x,exX n Γ D c ps rs res A x=g x):Ctr G P f ps rs g:=by
  intro W0 m w L TL vs x r Lp Tp hS hP hg;rw[←h x] at hg;have hlen:vs.length=ps.length:=(y9 (a:={ tmps:=vs.toArray,defers:=[] }) (i:=0) hP (λj v hj=>by simp[hj])).choose_spec.2.2.2.1;refine yR hf hb hn (by rw[hlen];exact Ze hle) λa hE=>?_
  have hargs:∀j v,vs[j]? =some v→a.tmps.getD (0+j) undef=v:=by
    intro j v hj;rw[Nat.zero_add];refine hE.at_ j v ?_
    have key:∀(l:List Value) (k:Nat) (j:Nat) (v:Value),l[j]? =some v→lk ((List.range' k l.length).zip l) (k+j)=some v:=by
      intro l
      induction l with
      |nil=>intro k j v h;simp at h
      | cons u l ih =>
        intro k j v h;simp only[X3,List.range'_succ,List.zip_cons_cons,lk];cases j with
        |zero=>simp at h;subst h;simp
        | succ j =>
          have hb:Nat.beq k (k+(j+1))=false:=by
            cases hb:Nat.beq k (k+(j+1)) with
            |false=>rfl
            |true=>have:=Nat.eq_of_beq_eq_true hb;omega
          simp only[hb];have:=ih (k+1) j v (by simpa using h);rw[show k+1+j=k+(j+1) by omega] at this;exact this
    have:=key vs 0 j v hj;rw[List.range_eq_range'];simpa using this
  obtain⟨zt,k1,k2,k3,_,k5⟩:=y9 (a:=a) (i:=0) hP hargs;have hs:Sat G P [] n W0 ⟨L,nmA ps vs Lp⟩ TL m (Ad G ps x) a w:=⟨⟨m,⟨nmA ps vs Lp,zt⟩,M.le.refl m,k1,Lp,Tp,k2,k3,hS,⟨[],rfl⟩⟩,hE.defers,hE.size⟩
  refine CX (np:=cnt ps) (L0:=⟨L,nmA ps vs Lp⟩) (by rw[k5];exact Zo _) hmx c A (Ad G ps x) _ _ _ r a w _ _ _ hg hO hs ?_ ?_ ?_
  ·intro st' a' w' h1 h2 _ _;exact Ey hres hP k5 h2 h1
  ·intro j st' a' w' h1;cases h1
  ·intro st' a' w' h1 h2 _ _;exact Ey hres hP k5 h2 h1
theorem Ctr.nX {Γ:Tab P G} {f:FuncId} {fn:Func} {c:Code} {n:Nat} {ps:List Pm} {rs:List Rm} {res:List ResultVar} {D:List (CS P G)} {g:d5 G ps→Option (bH G (ib ps rs))} (A:An G (bH G (ib ps rs)))
    (hA:A.nc=true) (hmx:P.follows .mixedOrders=true) (hf:P.funcs[f]? =some fn) (hb:fn.body=some c) (hn:fn.ntmps=n) (hle:Nat.ble ps.length n=true) (hres:fn.results.toList=res)
    (h:∀x,exX n Γ D c ps rs res A x=g x):Ctr G P f ps rs g:=
  Ctr.ofX A hmx hf hb hn hle hres (Obl.nc _ _ _ _ c A 0 _ _ _ hA) h
end
set_option linter.unusedVariables false
section
variable {G:Sg}{P:Program}{m:M}{os:List Ty}{ps:List Pm}{rs:List Rm}{vs us:List Value}{Lp Lp' Lr:List (Nat×List Value)}{Tp Tr:List (Nat×Value)}
theorem oL {x:d5 G []}(h:jZ G P m [] vs x Lp Tp):vs=[]∧Lp=[]∧Tp=[]:=by
 cases vs<;>cases Lp<;>cases Tp<;>first|exact⟨rfl,rfl,rfl⟩|exact h.elim
theorem kN {t:Ty}{x:d5 G (.rd t::ps)}(h:jZ G P m (.rd t::ps) vs x Lp Tp):∃v vs',vs=v::vs'∧RV (t.kd G) m v x.1∧jZ G P m ps vs' x.2 Lp Tp:=by
 cases vs with
 |nil=>cases Lp<;>cases Tp<;>exact h.elim
 |cons v vs=>exact⟨v,vs,rfl,h.1,h.2⟩
theorem Pr {t:Ty}{x:d5 G (.ap t::ps)}(h:jZ G P m (.ap t::ps) vs x Lp Tp):∃v vs' Tp',vs=v::vs'∧Tp=((t.kd G).sz,v)::Tp'∧RV (kSl (t.kd G)) m v x.1∧jZ G P m ps vs' x.2 Lp Tp':=by
 cases vs with
 |nil=>cases Lp<;>cases Tp<;>exact h.elim
 |cons v vs=>
  cases Tp with
  |nil=>cases Lp<;>exact h.elim
  |cons e Tp=>obtain⟨h1,rfl,h2⟩:=h;exact⟨v,vs,Tp,rfl,rfl,h1,h2⟩
theorem Ps {t:Ty}{x:d5 G (.pt t::ps)}(h:jZ G P m (.pt t::ps) vs x Lp Tp):∃b cs vs' Lp',vs= .pointer (some ⟨b,0,none⟩)::vs'∧Lp=(b,cs)::Lp'∧(t.kd G).R m cs x.1∧jZ G P m ps vs' x.2 Lp' Tp:=by
 cases vs with
 |nil=>cases Lp<;>cases Tp<;>exact h.elim
 |cons v vs=>
  cases Lp with
  |nil=>cases Tp<;>exact h.elim
  |cons e Lp=>obtain⟨h1,rfl,h2⟩:=h;exact⟨e.1,e.2,vs,Lp,rfl,rfl,h1,h2⟩
theorem cE {x:bH G (([]:List Rm).map Rm.ty++os)}(h:mT G m os [] us x Lr Tr):us=[]∧Lr=[]∧Tr=[]:=by
 cases us<;>cases Lr<;>cases Tr<;>first|exact⟨rfl,rfl,rfl⟩|exact h.elim
theorem dC {t:Ty}{x:bH G ((Rm.rd t::rs).map Rm.ty++os)}(h:mT G m os (.rd t::rs) us x Lr Tr):∃v us',us=v::us'∧RV (t.kd G) m v (hdT G t (rs.map Rm.ty++os) x)∧mT G m os rs us' (tlT G t (rs.map Rm.ty++os) x) Lr Tr:=by
 cases us with
 |nil=>cases Lr<;>cases Tr<;>exact h.elim
 |cons v us=>exact⟨v,us,rfl,h.1,h.2⟩
theorem uF {t:Ty}{x:bH G ((Rm.ap t::rs).map Rm.ty++os)}(h:mT G m os (.ap t::rs) us x Lr Tr):∃v us' Tr',us=v::us'∧Tr=((t.kd G).sz,v)::Tr'∧RV (kSl (t.kd G)) m v (hdT G (.sl t) (rs.map Rm.ty++os) x)∧mT G m os rs us' (tlT G (.sl t) (rs.map Rm.ty++os) x) Lr Tr':=by
 cases us with
 |nil=>cases Lr<;>cases Tr<;>exact h.elim
 |cons v us=>
  cases Tr with
  |nil=>cases Lr<;>exact h.elim
  |cons e Tr=>obtain⟨h1,rfl,h2⟩:=h;exact⟨v,us,Tr,rfl,rfl,h1,h2⟩
theorem cF {x:bH G (([]:List Pm).filterMap Pm.out)}(h:iC G m [] vs x Lp Lp'):Lp'=[]:=by
 cases vs<;>cases Lp<;>cases Lp'<;>first|rfl|exact h.elim
theorem bT {t:Ty}{v:Value}{x:bH G ((Pm.rd t::ps).filterMap Pm.out)}(h:iC G m (.rd t::ps) (v::vs) x Lp Lp'):iC G m ps vs x Lp Lp':=h
theorem JH {t:Ty}{v:Value}{x:bH G ((Pm.ap t::ps).filterMap Pm.out)}(h:iC G m (.ap t::ps) (v::vs) x Lp Lp'):iC G m ps vs x Lp Lp':=h
theorem JI {a b:Ty}{v:Value}{x:bH G ((Pm.f1 a b::ps).filterMap Pm.out)}(h:iC G m (.f1 a b::ps) (v::vs) x Lp Lp'):iC G m ps vs x Lp Lp':=h
theorem Fu {a c b:Ty}{v:Value}{x:bH G ((Pm.f2 a c b::ps).filterMap Pm.out)}(h:iC G m (.f2 a c b::ps) (v::vs) x Lp Lp'):iC G m ps vs x Lp Lp':=h
theorem Pt {t:Ty}{v:Value}{b:Nat}{cs:List Value}{x:bH G ((Pm.pt t::ps).filterMap Pm.out)}(h:iC G m (.pt t::ps) (v::vs) x ((b,cs)::Lp) Lp'):∃cs' Lp'',Lp'=(b,cs')::Lp''∧(t.kd G).R m cs' (hdT G t (ps.filterMap Pm.out) x)∧iC G m ps vs (tlT G t (ps.filterMap Pm.out) x) Lp Lp'':=by
 cases Lp' with
 |nil=>exact h.elim
 |cons e Lp'=>obtain⟨b',cs'⟩:=e;obtain⟨h0,h1,h2⟩:=h;simp only at h0;subst h0;exact⟨cs',Lp',rfl,h1,h2⟩
end
set_option linter.unusedVariables false
noncomputable section
structure Ap where
 fKind:Int
 fBool:Bool
 fInt:Int
 fText:(List Int)
 deriving DecidableEq
def Ap.zero:Ap:=⟨0,false,0,[]⟩
structure aS where
 fMany:Int
 fValue:Ap
 deriving DecidableEq
def aS.zero:aS:=⟨0,Ap.zero⟩
structure bK where
 fKind:Int
 fMany:Int
 fMin:Ap
 fMax:Ap
 fNulls:Int
 fBytes:Int
 deriving DecidableEq
def bK.zero:bK:=⟨0,0,Ap.zero,Ap.zero,0,0⟩
structure fD where
 fMany:Int
 fValue:Ap
 deriving DecidableEq
def fD.zero:fD:=⟨0,Ap.zero⟩
structure dn where
 fKind:Int
 fMany:Int
 fMin:Ap
 fMax:Ap
 fNulls:Int
 fBytes:Int
 deriving DecidableEq
def dn.zero:dn:=⟨0,0,Ap.zero,Ap.zero,0,0⟩
structure aj where
 fB:(List Int)
 fOk:Bool
 deriving DecidableEq
def aj.zero:aj:=⟨[],false⟩
structure aL where
 fEpoch:Int
 fNumber:Int
 deriving DecidableEq
def aL.zero:aL:=⟨0,0⟩
structure aa where
 fId:aL
 fRow:(List Ap)
 fDeleted:Int
 deriving DecidableEq
def aa.zero:aa:=⟨aL.zero,[],0⟩
structure aI where
 fColumns:Int
 fSort:(List Int)
 fL:(List aa)
 deriving DecidableEq
def aI.zero:aI:=⟨0,[],[]⟩
structure dc where
 fColumns:Int
 fSort:(List Int)
 fKinds:(List Int)
 fL:(List aa)
 deriving DecidableEq
def dc.zero:dc:=⟨0,[],[],[]⟩
structure Ez where
 fColumns:Int
 fSort:(List Int)
 fL:(List aa)
 deriving DecidableEq
def Ez.zero:Ez:=⟨0,[],[]⟩
def lW:Option Int:=
 some (-1)
def en (p0:List Ap) (p1:(Ap→Option Bool)) (x11:Int):Option (Int⊕Int):=
 if decide (x11<(p0.length:Int)) then
  (idx p0 x11).bind λx22=>
  (p1 x22).bind λr28=>
  if r28 then
   (some x11).map Sum.inr
  else
   some (.inl (Z0.wrap (x11+1)))
 else
  (lW).map Sum.inr
def j5 (p0:List Ap) (p1:(Ap→Option Bool)):Option Int:=
 au (λs:Int=>en p0 p1 s) 0
def eo (p0:List Ap) (p1:(Ap→Option Bool)):Option Bool:=
 (j5 p0 p1).bind λr4=>
 some (decide (0≤r4))
def kO:Option Ap:=
 some (⟨0,false,0,[]⟩:Ap)
def oM (p0:Bool):Option Ap:=
 some (⟨1,p0,0,[]⟩:Ap)
def eE (p0:Int):Option Ap:=
 some (⟨2,false,p0,[]⟩:Ap)
def oN (p0:List Int):Option Ap:=
 some (⟨3,false,0,p0⟩:Ap)
def py (x129:Bool):Option Bool:=
 some x129
def lG (p0 : Ap) : Option Bool :=
 if p0.fKind==0 then
  (kO).bind λr14=>
  some (decide (p0=r14))
 else
  if p0.fKind==1 then
   (oM p0.fBool).bind λr46=>
   some (decide (p0=r46))
  else
   if p0.fKind==2 then
    (eE p0.fInt).bind λr87=>
    some (decide (p0=r87))
   else
    if p0.fKind==3 then
     (oN p0.fText).bind λr135=>
     if decide (p0=r135) then
      py (decide ((p0.fText.length:Int)≤64))
     else
      py false
    else
     some false
def eY (p0:Ap):Option Bool:=
 (lG p0).bind λr8=>
 some (!r8)
def t6 (x9:List Int):Option (List Int×Bool):=
 some (x9,true)
def mo (p0:List Ap) (x18:List Int) (x21:Int):Option ((List Int×Int)⊕(List Int×Bool)):=
 if decide (x21<(p0.length:Int)) then
  (idx p0 x21).bind λx27=>
  if x27.fKind != 2 then
   (some ([],false)).map Sum.inr
  else
   (app 17592186044416 x18 ([x27.fInt])).bind λz55=>
   some (.inl (z55,Z0.wrap (x21+1)))
 else
  (t6 x18).map Sum.inr
def mZ (p0:List Ap):Option (List Int×Bool):=
 au (λs:(List Int×Int)=>mo p0 s.1 s.2) ([],0)
def mp (x8:List aS):Option (List aS):=
 some x8
def iY (x16:Int) (x29:List aS):Option ((Int×List aS)⊕List aS):=
 some (.inl (Z0.wrap (x16+1),x29))
def mq (x16:Int) (x18:List aS) (x37:Ap):Option ((Int×List aS)⊕List aS):=
 (app 2932031007402 x18 ([(⟨1,x37⟩:aS)])).bind λz63=>
 iY x16 z63
def gQ (x16:Int) (x18:List aS) (x75:Int) (x85:Bool):Option (Int⊕((Int×List aS)⊕List aS)):=
 if x85 then
  (ix x18 x75).bind λj90=>
  (x18[j90]?).bind λx95=>
  (ix x18 x75).bind λj100=>
  (x18[j100]?).bind λx106=>
  (iY x16 (x18.set j100 ({ x106 with fMany:=Z0.wrap (x95.fMany+1) }))).map Sum.inr
 else
  some (.inl (Z0.wrap (x75+1)))
def eR (x16:Int) (x18:List aS) (x37:Ap) (x75:Int):Option (Int⊕((Int×List aS)⊕List aS)):=
 if decide (x75<(x18.length:Int)) then
  if x75==(Z0.wrap ((x18.length:Int) - 1)) then
   (ix x18 x75).bind λj112=>
   (x18[j112]?).bind λx115=>
   gQ x16 x18 x75 (decide (x115.fValue=x37))
  else
   gQ x16 x18 x75 false
 else
  (mq x16 x18 x37).map Sum.inr
def kx (p0:List Ap) (x16:Int) (x18:List aS):Option ((Int×List aS)⊕List aS):=
 if decide (x16<(p0.length:Int)) then
  (idx p0 x16).bind λx37=>
  au (λs:Int=>eR x16 x18 x37 s) 0
 else
  (mp x18).map Sum.inr
def lH (p0:List Ap):Option (List aS):=
 au (λs:(Int×List aS)=>kx p0 s.1 s.2) (0,([]:List aS))
def xG (p0:List Ap):Option Bool:=
 some (decide ((p0.length:Int)≤16))
def pX (p0:List Ap) (x14:Int):Option (Int⊕Bool):=
 if decide (x14<(p0.length:Int)) then
  (idx p0 x14).bind λx20=>
  (lG x20).bind λr33=>
  if !r33 then
   (some false).map Sum.inr
  else
   some (.inl (Z0.wrap (x14+1)))
 else
  (xG p0).map Sum.inr
def rE (p0:List Ap):Option Bool:=
 au (λs:Int=>pX p0 s) 0
def nL (p0:List Int) (x7:List Int):Option (List Int):=
 (app 140737488355328 p0 x7).bind λz13=>
 some z13
def lp (p0:List Int) (p1:Int) (x22:Int) (x24:List Int):Option ((Int×List Int)⊕List Int):=
 if decide (x22<8) then
  (chk (decide (0≤(Z0.wrap (56 - (Z0.wrap (8*x22))))))).bind λu38=>
  (ix x24 x22).bind λj42=>
  (x24[j42]?).bind λx47=>
  some (.inl (Z0.wrap (x22+1),(x24.set j42 (Z4.wrap (ay .u64 p1 (Z0.wrap (56 - (Z0.wrap (8*x22)))))))))
 else
  (nL p0 x24).map Sum.inr
def mr (p0:List Int) (p1:Int):Option (List Int):=
 au (λs:(Int×List Int)=>lp p0 p1 s.1 s.2) (0,(Z3 8 0:List Int))
def uG (p0 : List Int) (p1 : Ap) : Option (List Int) :=
 (app 140737488355328 p0 ([Z4.wrap p1.fKind])).bind λz16=>
 if p1.fKind==1 then
  if p1.fBool then
   (app 140737488355328 z16 ([1])).bind λz39=>
   some z39
  else
   (app 140737488355328 z16 ([0])).bind λz51=>
   some z51
 else
  if p1.fKind==2 then
   (mr z16 (Z2.wrap p1.fInt)).bind λr67=>
   some r67
  else
   if p1.fKind==3 then
    (app 140737488355328 z16 ([Z4.wrap (p1.fText.length:Int)])).bind λz89=>
    (app 140737488355328 z89 p1.fText).bind λz102=>
    some z102
   else
    some z16
def t7 (x27:List Int):Option (List Int×Int):=
 some (x27,0)
def pB (p0:List Ap) (x36:List Int) (x39:Int):Option ((List Int×Int)⊕(List Int×Int)):=
 if decide (x39<(p0.length:Int)) then
  (idx p0 x39).bind λx45=>
  (uG x36 x45).bind λr59=>
  some (.inl (r59,Z0.wrap (x39+1)))
 else
  (t7 x36).map Sum.inr
def nf (p0:List Ap):Option (List Int×Int):=
 (rE p0).bind λr4=>
 if !r4 then
  some ([],30)
 else
  au (λs:(List Int×Int)=>pB p0 s.1 s.2) ([Z4.wrap (p0.length:Int)],0)
def kP (p0:Ap):Option (List Int):=
 (nf ([p0])).bind λr12=>
 (sub r12.1 1 r12.1.length).bind λx28=>
 some x28
def t8 (x14:List Int):Option (List Int):=
 some x14
def pC (r4:List aS) (x22:List Int) (x25:Int):Option ((List Int×Int)⊕List Int):=
 if decide (x25<(r4.length:Int)) then
  (idx r4 x25).bind λx31=>
  (app 140737488355328 x22 ([Z4.wrap x31.fMany])).bind λz52=>
  (kP x31.fValue).bind λr63=>
  (app 140737488355328 z52 r63).bind λz69=>
  some (.inl (z69,Z0.wrap (x25+1)))
 else
  (t8 x22).map Sum.inr
def ng (p0:List Ap):Option (List Int):=
 (lH p0).bind λr4=>
 au (λs:(List Int×Int)=>pC r4 s.1 s.2) ([],0)
def zb (x6:List Int):Option (List Int):=
 some x6
def gl (p0:Int) (x14:List Int) (x17:Int):Option ((List Int×Int)⊕List Int):=
 if decide (x17<8) then
  (chk (decide (0≤(Z0.wrap (56 - (Z0.wrap (8*x17))))))).bind λu30=>
  (app 140737488355328 x14 ([Z4.wrap (ay .u64 p0 (Z0.wrap (56 - (Z0.wrap (8*x17)))))])).bind λz38=>
  some (.inl (z38,Z0.wrap (x17+1)))
 else
  (zb x14).map Sum.inr
def md (p0:Int):Option (List Int):=
 au (λs:(List Int×Int)=>gl p0 s.1 s.2) ([],0)
def sJ (x27:List Int):Option (List Int):=
 some x27
def sK (x38:Int) (x46:List Int):Option ((List Int×Int)⊕List Int):=
 some (.inl (x46,Z0.wrap (x38+1)))
def sL (x38:Int) (x84:List Int) (x87:Int):Option ((List Int×Int)⊕List Int):=
 (app 140737488355328 x84 ([Z4.wrap x87])).bind λz97=>
 sK x38 z97
def jI (x38:Int) (x106:List Int) (x109:Int):Option ((List Int×Int)⊕((List Int×Int)⊕List Int)):=
 if decide (127<x109) then
  (app 140737488355328 x106 ([bOr .u8 (Z4.wrap x109) 128])).bind λz124=>
  some (.inl (z124,ay .u64 x109 7))
 else
  (sL x38 x106 x109).map Sum.inr
def oO (p0:List Int) (x19:List Int) (x35:List Int) (x38:Int):Option ((List Int×Int)⊕List Int):=
 if decide (x38<(x19.length:Int)) then
  (idx x19 x38).bind λx53=>
  (idx p0 x38).bind λx65=>
  au (λs:(List Int×Int)=>jI x38 s.1 s.2) (x35,cx .u64 (dx .u64 (Z2.wrap (Z0.wrap (x53 - x65))) 1) (Z2.wrap (ay .i64 (Z0.wrap (x53 - x65)) 63)))
 else
  (sJ x35).map Sum.inr
def me (p0:List Int):Option (List Int):=
 (idx p0 0).bind λx3=>
 (md (Z2.wrap x3)).bind λr11=>
 (sub p0 1 p0.length).bind λx19=>
 au (λs:(List Int×Int)=>oO p0 x19 s.1 s.2) (r11,0)
def ic (p0:List Ap):Option (List Ap):=
 (app 3518437208883 ([]) p0).bind λz13=>
 some z13
def ky (p0:List Ap) (p1:(Ap→Ap→Option Int)):Option (List Ap):=
 xg p1 p0
def lq (p0:Int):Option Bool:=
 some (p0 != p0)
def it (p0 : Int) (p1 : Int) : Option Int :=
 (lq p0).bind λr3=>
 (lq p1).bind λr11=>
 if r3 then
  if r11 then
   some 0
  else
   some (-1)
 else
  if r11 then
   some 1
  else
   if decide (p0<p1) then
    some (-1)
   else
    if decide (p1<p0) then
     some 1
    else
     some 0
def jJ (p0:Int):Option Bool:=
 some (p0 != p0)
def iI (p0 : Int) (p1 : Int) : Option Int :=
 (jJ p0).bind λr3=>
 (jJ p1).bind λr11=>
 if r3 then
  if r11 then
   some 0
  else
   some (-1)
 else
  if r11 then
   some 1
  else
   if decide (p0<p1) then
    some (-1)
   else
    if decide (p1<p0) then
     some 1
    else
     some 0
def ew (p0:List Int) (p1:List Int):Option Int:=
 some (td p0 p1)
def lX (p0:List Int) (p1:List Int):Option Int:=
 (ew p0 p1).bind λr4=>
 some r4
def fu (p0 : Ap) (p1 : Ap) (x39 : Bool) : Option Int :=
 if x39 then
  if p1.fBool then
   some (-1)
  else
   some 1
 else
  if p0.fKind==2 then
   (iI p0.fInt p1.fInt).bind λr63=>
   some r63
  else
   if p0.fKind==3 then
    (lX p0.fText p1.fText).bind λr88=>
    some r88
   else
    some 0
def cB (p0:Ap) (p1:Ap):Option Int:=
 if p0.fKind != p1.fKind then
  (it p0.fKind p1.fKind).bind λr29=>
  some r29
 else
  if p0.fKind==1 then
   fu p0 p1 (!(p0.fBool==p1.fBool))
  else
   fu p0 p1 false
def oy:Option Int:=
 some (-1)
def fE (p0:List Ap) (p1:Ap) (x15:Int):Option (Int⊕Int):=
 if decide (x15<(p0.length:Int)) then
  (idx p0 x15).bind λx24=>
  if decide (p1=x24) then
   (some x15).map Sum.inr
  else
   some (.inl (Z0.wrap (x15+1)))
 else
  (oy).map Sum.inr
def ie (p0:List Ap) (p1:Ap):Option Int:=
 au (λs:Int=>fE p0 p1 s) 0
def vn (x15:Int) (x17:Int):Option Int:=
 (idx ([0,1,2,2,3,3,3,3,4,4,4,4,4,4,4,4,5,5,5,5,5,5,5,5,5,5,5,5,5,5,5,5,6,6,6,6,6,6,6,6,6,6,6,6,6,6,6,6,6,6,6,6,6,6,6,6,6,6,6,6,6,6,6,6,7,7,7,7,7,7,7,7,7,7,7,7,7,7,7,7,7,7,7,7,7,7,7,7,7,7,7,7,7,7,7,7,7,7,7,7,7,7,7,7,7,7,7,7,7,7,7,7,7,7,7,7,7,7,7,7,7,7,7,7,7,7,7,7,8,8,8,8,8,8,8,8,8,8,8,8,8,8,8,8,8,8,8,8,8,8,8,8,8,8,8,8,8,8,8,8,8,8,8,8,8,8,8,8,8,8,8,8,8,8,8,8,8,8,8,8,8,8,8,8,8,8,8,8,8,8,8,8,8,8,8,8,8,8,8,8,8,8,8,8,8,8,8,8,8,8,8,8,8,8,8,8,8,8,8,8,8,8,8,8,8,8,8,8,8,8,8,8,8,8,8,8,8,8,8,8,8,8,8,8,8,8,8,8,8,8,8,8,8,8,8,8]) (Z4.wrap x15)).bind λx23=>
 some (Z0.wrap (x17+(Z0.wrap x23)))
def vo (x6:Int) (x8:Int):Option Int:=
 if decide (256≤x6) then
  vn (ay .u32 x6 8) (Z0.wrap (x8+8))
 else
  vn x6 x8
def Fv (p0:Int):Option Int:=
 if decide (65536≤p0) then
  vo (ay .u32 p0 16) 16
 else
  vo p0 0
def nM (x24:Int) (x26:Int):Option Int:=
 (idx ([0,1,2,2,3,3,3,3,4,4,4,4,4,4,4,4,5,5,5,5,5,5,5,5,5,5,5,5,5,5,5,5,6,6,6,6,6,6,6,6,6,6,6,6,6,6,6,6,6,6,6,6,6,6,6,6,6,6,6,6,6,6,6,6,7,7,7,7,7,7,7,7,7,7,7,7,7,7,7,7,7,7,7,7,7,7,7,7,7,7,7,7,7,7,7,7,7,7,7,7,7,7,7,7,7,7,7,7,7,7,7,7,7,7,7,7,7,7,7,7,7,7,7,7,7,7,7,7,8,8,8,8,8,8,8,8,8,8,8,8,8,8,8,8,8,8,8,8,8,8,8,8,8,8,8,8,8,8,8,8,8,8,8,8,8,8,8,8,8,8,8,8,8,8,8,8,8,8,8,8,8,8,8,8,8,8,8,8,8,8,8,8,8,8,8,8,8,8,8,8,8,8,8,8,8,8,8,8,8,8,8,8,8,8,8,8,8,8,8,8,8,8,8,8,8,8,8,8,8,8,8,8,8,8,8,8,8,8,8,8,8,8,8,8,8,8,8,8,8,8,8,8,8,8,8,8]) (Z4.wrap x24)).bind λx32=>
 some (Z0.wrap (x26+(Z0.wrap x32)))
def nN (x15:Int) (x17:Int):Option Int:=
 if decide (256≤x15) then
  nM (ay .u64 x15 8) (Z0.wrap (x17+8))
 else
  nM x15 x17
def nO (x6:Int) (x8:Int):Option Int:=
 if decide (65536≤x6) then
  nN (ay .u64 x6 16) (Z0.wrap (x8+16))
 else
  nN x6 x8
def oP (p0:Int):Option Int:=
 if decide (4294967296≤p0) then
  nO (ay .u64 p0 32) 32
 else
  nO p0 0
def pD (p0:Int):Option Int:=
 (oP p0).bind λr3=>
 some r3
def kQ (x20:List Int):Option (List Int):=
 some x20
def kR (x28:Int) (x39:List Int):Option ((Int×List Int)⊕List Int):=
 some (.inl (Z0.wrap (x28+1),x39))
def je (x59:Int) (x79:List Int):Option ((Int×List Int)⊕((Int×List Int)⊕List Int)):=
 some (.inl (Z0.wrap (x59+1),x79))
def jf (p1:Int) (x28:Int) (x46:Int) (x59:Int) (x61:List Int):Option ((Int×List Int)⊕((Int×List Int)⊕List Int)):=
 if decide (x59<p1) then
  (chk (decide (0≤x59))).bind λu72=>
  if (cL .u64 (ay .u64 x46 x59) 1)==1 then
   (ix x61 (Z0.wrap ((Z0.wrap ((Z0.wrap (x28*p1))+x59)).tdiv 8))).bind λj92=>
   (x61[j92]?).bind λx95=>
   (chk (decide (0≤((Z0.wrap ((Z0.wrap (x28*p1))+x59)).tmod 8)))).bind λu98=>
   (ix x61 (Z0.wrap ((Z0.wrap ((Z0.wrap (x28*p1))+x59)).tdiv 8))).bind λj155=>
   (x61[j155]?).bind λx160=>
   je x59 (x61.set j155 (bOr .u8 x95 (dx .u8 1 ((Z0.wrap ((Z0.wrap (x28*p1))+x59)).tmod 8))))
  else
   je x59 x61
 else
  (kR x28 x61).map Sum.inr
def jg (p0:List Int) (p1:Int) (x28:Int) (x30:List Int):Option ((Int×List Int)⊕List Int):=
 if decide (x28<(p0.length:Int)) then
  (idx p0 x28).bind λx46=>
  au (λs:(Int×List Int)=>jf p1 x28 x46 s.1 s.2) (0,x30)
 else
  (kQ x30).map Sum.inr
def iD (p0:List Int) (p1:Int):Option (List Int):=
 (mk 281474976710656 (Z0.wrap ((Z0.wrap ((Z0.wrap ((p0.length:Int)*p1))+7)).tdiv 8)) 0).bind λz8=>
 au (λs:(Int×List Int)=>jg p0 p1 s.1 s.2) (0,z8)
def fV (p0:List Ap):Option (List Ap):=
 some p0
def fW (x16:Int):Option (Int⊕List Ap):=
 some (.inl (Z0.wrap (x16+1)))
def fX (x100:Int) (x102:List Ap):Option (Int⊕List Ap):=
 (vw x102 x100 x102.length).bind λq109=>
 (clr x102 q109.1 q109.2 Ap.zero).bind λz114=>
 (sub z114 0 x100).bind λx120=>
 (some x120).map Sum.inr
def dD (x128:Int) (x202:Int) (x204:List Ap):Option ((Int×Int×List Ap)⊕(Int⊕List Ap)):=
 some (.inl (x202,Z0.wrap (x128+1),x204))
def fY (q93:Nat×Nat) (x126:Int) (x128:Int) (x130:List Ap):Option ((Int×Int×List Ap)⊕(Int⊕List Ap)):=
 (chk (Nat.ble q93.2 cI)).bind λu137=>
 if decide (x128<(q93.2:Int)) then
  (ixv q93.1 q93.2 x128).bind λj142=>
  (x130[j142]?).bind λx145=>
  (ixv q93.1 q93.2 (Z0.wrap (x128 - 1))).bind λj147=>
  (x130[j147]?).bind λx150=>
  if !decide (x145=x150) then
   (ixv q93.1 q93.2 x128).bind λj216=>
   (x130[j216]?).bind λx220=>
   (ix x130 x126).bind λj223=>
   (x130[j223]?).bind λx228=>
   dD x128 (Z0.wrap (x126+1)) (x130.set j223 x220)
  else
   dD x128 x126 x130
 else
  (fX x126 x130).map Sum.inr
def fZ (p0:List Ap) (x16:Int):Option (Int⊕List Ap):=
 if decide (x16<(p0.length:Int)) then
  (ix p0 x16).bind λj31=>
  (p0[j31]?).bind λx34=>
  (ix p0 (Z0.wrap (x16 - 1))).bind λj36=>
  (p0[j36]?).bind λx39=>
  if decide (x34=x39) then
   (vw p0 x16 p0.length).bind λq93=>
   au (λs:(Int×Int×List Ap)=>fY q93 s.1 s.2.1 s.2.2) (x16,1,p0)
  else
   fW x16
 else
  (fV p0).map Sum.inr
def d9 (p0:List Ap):Option (List Ap):=
 if decide ((p0.length:Int)<2) then
  some p0
 else
  au (λs:Int=>fZ p0 s) 1
def iR (p0:List Ap):Option (List Ap):=
 (app 3518437208883 ([]:List Ap) p0).bind λz16=>
 some z16
def mt (r22:List Ap) (x48:List Int) (x58:List Int):Option (List Int):=
 (pD (Z2.wrap (Z0.wrap ((r22.length:Int) - 1)))).bind λr68=>
 (iD x58 r68).bind λr75=>
 (app 140737488355328 x48 r75).bind λz81=>
 some z81
def iZ (p0:List Ap) (r22:List Ap) (x48:List Int) (x90:List Int) (x93:Int):Option ((List Int×Int)⊕List Int):=
 if decide (x93<(p0.length:Int)) then
  (idx p0 x93).bind λx99=>
  (ie r22 x99).bind λr114=>
  (app 17592186044416 x90 ([Z2.wrap r114])).bind λz126=>
  some (.inl (z126,Z0.wrap (x93+1)))
 else
  (mt r22 x48 x90).map Sum.inr
def mu (p0:List Ap) (r22:List Ap) (x48:List Int):Option (List Int):=
 au (λs:(List Int×Int)=>iZ p0 r22 x48 s.1 s.2) ([],0)
def kz (p0:List Ap) (r22:List Ap) (x137:List Int) (x140:Int):Option ((List Int×Int)⊕List Int):=
 if decide (x140<(r22.length:Int)) then
  (idx r22 x140).bind λx146=>
  (kP x146).bind λr160=>
  (app 140737488355328 x137 r160).bind λz166=>
  some (.inl (z166,Z0.wrap (x140+1)))
 else
  (mu p0 r22 x137).map Sum.inr
def nh (p0:List Ap):Option (List Int):=
 (iR p0).bind λr3=>
 (ky r3 cB).bind λr14=>
 (d9 r14).bind λr22=>
 au (λs:(List Int×Int)=>kz p0 r22 s.1 s.2) ([Z4.wrap (r22.length:Int)],0)
def pn (x20:Int):Option Int:=
 some x20
def lQ (p0:List Int) (x27:Int) (x29:Int):Option ((Int×Int)⊕Int):=
 if decide (x29<(p0.length:Int)) then
  (idx p0 x29).bind λx41=>
  some (.inl ((if x41<x27 then x41 else x27),Z0.wrap (x29+1)))
 else
  (pn x27).map Sum.inr
def po (p0:List Int):Option Int:=
 (idx p0 0).bind λx9=>
 au (λs:(Int×Int)=>lQ p0 s.1 s.2) (x9,1)
def kS (p0:List Int):Option Int:=
 if decide ((p0.length:Int)<1) then
  none
 else
  po p0
def sM (r3:Int) (x18:List Int) (x21:Int):Option (List Int):=
 (md (Z2.wrap r3)).bind λr26=>
 (app 140737488355328 r26 ([Z4.wrap x21])).bind λz38=>
 (iD x18 x21).bind λr46=>
 (app 140737488355328 z38 r46).bind λz52=>
 some z52
def oQ (p0:List Int) (r3:Int) (x61:List Int) (x64:Int) (x66:Int):Option ((List Int×Int×Int)⊕List Int):=
 if decide (x66<(p0.length:Int)) then
  (idx p0 x66).bind λx72=>
  (app 17592186044416 x61 ([Z2.wrap ((Z2.wrap x72) - (Z2.wrap r3))])).bind λz92=>
  (oP (Z2.wrap ((Z2.wrap x72) - (Z2.wrap r3)))).bind λr101=>
  some (.inl (z92,(if x64<r101 then r101 else x64),Z0.wrap (x66+1)))
 else
  (sM r3 x61 x64).map Sum.inr
def mf (p0:List Int):Option (List Int):=
 (kS p0).bind λr3=>
 au (λs:(List Int×Int×Int)=>oQ p0 r3 s.1 s.2.1 s.2.2) ([],0,0)
def kU (x109:List Int):Option (List Int×Int):=
 some (x109,0)
def jh (p1:List Ap) (x118:List Int) (x121:Int):Option ((List Int×Int)⊕(List Int×Int)):=
 if decide (x121<(p1.length:Int)) then
  (idx p1 x121).bind λx127=>
  (kP x127).bind λr141=>
  (app 140737488355328 x118 r141).bind λz147=>
  some (.inl (z147,Z0.wrap (x121+1)))
 else
  (kU x118).map Sum.inr
def eF (p0 : Int) (p1 : List Ap) (r27 : List Int × Bool) (x43 : Bool) : Option (List Int × Int) :=
 if x43 then
  some ([],62)
 else
  if (p1.length:Int)==0 then
   some ([],0)
  else
   if p0==1 then
    (ng p1).bind λr59=>
    some (r59,0)
   else
    if p0==2 then
     (me r27.1).bind λr71=>
     some (r71,0)
    else
     if p0==3 then
      (nh p1).bind λr83=>
      some (r83,0)
     else
      if p0==4 then
       (mf r27.1).bind λr95=>
       some (r95,0)
      else
       au (λs:(List Int×Int)=>jh p1 s.1 s.2) ([],0)
def gR (p0 : Int) (p1 : List Ap) (x5 : Bool) : Option (List Int × Int) :=
 if x5 then
  some ([],62)
 else
  if decide (64<(p1.length:Int)) then
   some ([],61)
  else
   (eo p1 eY).bind λr17=>
   if r17 then
    some ([],60)
   else
    (mZ p1).bind λr27=>
    if !r27.2 then
     if p0==2 then
      eF p0 p1 r27 true
     else
      eF p0 p1 r27 (p0==4)
    else
     eF p0 p1 r27 false
def fj (p0:Int) (p1:List Ap):Option (List Int×Int):=
 if decide (p0<0) then
  gR p0 p1 true
 else
  gR p0 p1 (decide (4<p0))
def Af (x7:Int):Option Int:=
 some x7
def pE (x18:Int) (x48:Int) (x50:Int):Option ((Int×Int×Int)⊕Int):=
 some (.inl (x48,x50,Z0.wrap (x18+1)))
def mw (x14:Int) (x16:Int) (x18:Int) (r27:List Int×Int) (x44:Bool):Option ((Int×Int×Int)⊕Int):=
 if x44 then
  pE x18 x18 (r27.1.length:Int)
 else
  pE x18 x14 x16
def ua (p0 : List Ap) (x14 : Int) (x16 : Int) (x18 : Int) : Option ((Int × Int × Int) ⊕ Int) :=
 if decide (x18 ≤ 4) then
  (fj x18 p0).bind λr27=>
  if r27.2==0 then
   if decide (x16<0) then
    mw x14 x16 x18 r27 true
   else
    mw x14 x16 x18 r27 (decide ((r27.1.length:Int)<x16))
  else
   mw x14 x16 x18 r27 false
 else
  (Af x14).map Sum.inr
def pY (p0:List Ap):Option Int:=
 au (λs:(Int×Int×Int)=>ua p0 s.1 s.2.1 s.2.2) (0,(-1),0)
def mM (x24:Ap):Option Ap:=
 some x24
def jA (x35:Int) (x95:Ap):Option ((Int×Ap)⊕Ap):=
 some (.inl (Z0.wrap (x35+1),x95))
def jB (p0:List Ap) (p1:(Ap→Ap→Option Int)) (x35:Int) (x37:Ap):Option ((Int×Ap)⊕Ap):=
 if decide (x35<(p0.length:Int)) then
  (idx p0 x35).bind λx47=>
  (p1 x47 x37).bind λr85=>
  if decide (r85<0) then
   (idx p0 x35).bind λx105=>
   jA x35 x105
  else
   jA x35 x37
 else
  (mM x37).map Sum.inr
def mO (p0:List Ap) (p1:(Ap→Ap→Option Int)):Option Ap:=
 (idx p0 0).bind λx10=>
 au (λs:(Int×Ap)=>jB p0 p1 s.1 s.2) (1,x10)
def gm (p0:List Ap) (p1:(Ap→Ap→Option Int)):Option Ap:=
 if decide ((p0.length:Int)<1) then
  none
 else
  mO p0 p1
def mP (x24:Ap):Option Ap:=
 some x24
def jC (x35:Int) (x95:Ap):Option ((Int×Ap)⊕Ap):=
 some (.inl (Z0.wrap (x35+1),x95))
def jD (p0:List Ap) (p1:(Ap→Ap→Option Int)) (x35:Int) (x37:Ap):Option ((Int×Ap)⊕Ap):=
 if decide (x35<(p0.length:Int)) then
  (idx p0 x35).bind λx47=>
  (p1 x47 x37).bind λr85=>
  if decide (0<r85) then
   (idx p0 x35).bind λx105=>
   jC x35 x105
  else
   jC x35 x37
 else
  (mP x37).map Sum.inr
def mQ (p0:List Ap) (p1:(Ap→Ap→Option Int)):Option Ap:=
 (idx p0 0).bind λx10=>
 au (λs:(Int×Ap)=>jD p0 p1 s.1 s.2) (1,x10)
def gn (p0:List Ap) (p1:(Ap→Ap→Option Int)):Option Ap:=
 if decide ((p0.length:Int)<1) then
  none
 else
  mQ p0 p1
def jw (p0:List Ap):Option (List Ap):=
 some p0
def fk (x36:bK) (x39:Ap):Option (bK×Bool):=
 if x39.fKind==0 then
  some (({ x36 with fNulls:=Z0.wrap (x36.fNulls+1) }),true)
 else
  some (x36,true)
def kV (p0:Int) (p1:List Ap):Option bK:=
 (gm p1 cB).bind λr7=>
 (gn p1 cB).bind λr14=>
 (jw p1).bind λr28=>
 (fT (λ(s:bK) (x:Ap)=>fk s x) (⟨p0,(p1.length:Int),r7,r14,0,0⟩:bK) r28).bind λy67=>
 if y67.2 then
  some y67.1
 else
  none
def qo (p0:Ap):Option (List Int):=
 (nf ([p0])).bind λr12=>
 (sub r12.1 1 r12.1.length).bind λx28=>
 some x28
def vX (x17:Int):Option Int:=
 some (xV .u32 x17)
def ji (p0:List Int) (x7:List Int) (x25:Int) (x27:Int):Option ((Int×Int)⊕Int):=
 if decide (x27<(p0.length:Int)) then
  (idx p0 x27).bind λx33=>
  (ix x7 (cL .u32 (cx .u32 x25 (Zn.wrap x33)) 15)).bind λj48=>
  (x7[j48]?).bind λx52=>
  (ix x7 (cL .u32 (cx .u32 x52 (ay .u32 (cx .u32 x25 (Zn.wrap x33)) 4)) 15)).bind λj62=>
  (x7[j62]?).bind λx66=>
  some (.inl (cx .u32 x66 (ay .u32 (cx .u32 x52 (ay .u32 (cx .u32 x25 (Zn.wrap x33)) 4)) 4),Z0.wrap (x27+1)))
 else
  (vX x25).map Sum.inr
def jj (p0:List Int) (x7:List Int):Option Int:=
 au (λs:(Int×Int)=>ji p0 x7 s.1 s.2) (4294967295,0)
def oR (x78:Int) (x89:List Int):Option ((Int×List Int)⊕Int):=
 some (.inl (Z0.wrap (x78+1),x89))
def oS (x78:Int) (x80:List Int) (x103:Int):Option ((Int×List Int)⊕Int):=
 (ix x80 x78).bind λj108=>
 (x80[j108]?).bind λx113=>
 oR x78 (x80.set j108 x103)
def ig (x78:Int) (x80:List Int) (x118:Int) (x120:Int):Option ((Int×Int)⊕((Int×List Int)⊕Int)):=
 if decide (x120<4) then
  some (.inl (cx .u32 (ay .u32 x118 1) (Zn.wrap (3988292384*(cL .u32 x118 1))),Z0.wrap (x120+1)))
 else
  (oS x78 x80 x118).map Sum.inr
def jk (p0:List Int) (x78:Int) (x80:List Int):Option ((Int×List Int)⊕Int):=
 if decide (x78<16) then
  au (λs:(Int×Int)=>ig x78 x80 s.1 s.2) (Zn.wrap x78,0)
 else
  (jj p0 x80).map Sum.inr
def fF (p0:List Int):Option Int:=
 au (λs:(Int×List Int)=>jk p0 s.1 s.2) (0,(Z3 16 0:List Int))
def kA (p0:List Int):Option (List Int):=
 (fF p0).bind λr3=>
 (app 140737488355328 p0 ([Z4.wrap (ay .u32 r3 24),Z4.wrap (ay .u32 r3 16),Z4.wrap (ay .u32 r3 8),Z4.wrap r3])).bind λz27=>
 some z27
def my (p1:List Ap) (x13:Int):Option (List Int×Int):=
 (fj x13 p1).bind λr18=>
 if r18.2 != 0 then
  some ([],r18.2)
 else
  (kV x13 p1).bind λr41=>
  (qo r41.fMin).bind λr73=>
  (app 140737488355328 ([Z4.wrap x13,Z4.wrap r41.fMany,Z4.wrap r41.fNulls]) r73).bind λz79=>
  (qo r41.fMax).bind λr90=>
  (app 140737488355328 z79 r90).bind λz96=>
  (app 140737488355328 z96 ([Z4.wrap (ay .i64 (r18.1.length:Int) 8),Z4.wrap (r18.1.length:Int)])).bind λz115=>
  (app 140737488355328 z115 r18.1).bind λz124=>
  (kA z124).bind λr132=>
  some (r132,0)
def ni (p0:Int) (p1:List Ap):Option (List Int×Int):=
 if (p1.length:Int)==0 then
  some ([],70)
 else
  if p0==(-1) then
   (pY p1).bind λr142=>
   my p1 r142
  else
   my p1 p0
def nj (x52:Bool):Option Bool:=
 some x52
def tg (p0 : Ap) (x46 : Ap) : Option Bool :=
 if decide (0 ≤ p0.fKind) then
  if decide (p0.fKind≤3) then
   if decide (p0=x46) then
    nj (decide ((p0.fText.length:Int)≤64))
   else
    nj false
  else
   nj false
 else
  nj false
def th (p0:Ap) (x35:Ap):Option Bool:=
 if p0.fKind==3 then
  tg p0 ({ x35 with fText:=p0.fText })
 else
  tg p0 x35
def tj (p0:Ap) (x24:Ap):Option Bool:=
 if p0.fKind==2 then
  th p0 ({ x24 with fInt:=p0.fInt })
 else
  th p0 x24
def uH (p0:Ap):Option Bool:=
 if p0.fKind==1 then
  tj p0 ({ (⟨p0.fKind,false,0,[]⟩:Ap) with fBool:=p0.fBool })
 else
  tj p0 (⟨p0.fKind,false,0,[]⟩:Ap)
def vp:Option Int:=
 some 0
def lr (x24:Int) (x35:Bool):Option (Int⊕Int):=
 if x35 then
  (some 62).map Sum.inr
 else
  some (.inl (Z0.wrap (x24+1)))
def nP (p0 : Int) (p1 : List Ap) (x24 : Int) : Option (Int ⊕ Int) :=
 if decide (x24 < (p1.length : Int)) then
  if p0==2 then
   (idx p1 x24).bind λx50=>
   lr x24 (x50.fKind != 2)
  else
   if p0==4 then
    (idx p1 x24).bind λx69=>
    lr x24 (x69.fKind != 2)
   else
    lr x24 false
 else
  (vp).map Sum.inr
def qE (p0:Int) (p1:List Ap):Option Int:=
 au (λs:Int=>nP p0 p1 s) 0
def lu (p0:Int) (p1:List Ap) (x84:Int):Option (Int⊕Int):=
 if decide (x84<(p1.length:Int)) then
  (idx p1 x84).bind λx95=>
  (uH x95).bind λr101=>
  if !r101 then
   (some 60).map Sum.inr
  else
   some (.inl (Z0.wrap (x84+1)))
 else
  (qE p0 p1).map Sum.inr
def nQ (p0:Int) (p1:List Ap) (x4:Bool):Option Int:=
 if x4 then
  some 62
 else
  if decide (64<(p1.length:Int)) then
   some 61
  else
   au (λs:Int=>lu p0 p1 s) 0
def uI (p0:Int) (p1:List Ap):Option Int:=
 if decide (p0<0) then
  nQ p0 p1 true
 else
  nQ p0 p1 (decide (4<p0))
def zd (x6:List fD):Option (List fD):=
 some x6
def qS (x17:Int) (x28:List fD):Option ((List fD×Int)⊕List fD):=
 some (.inl (x28,Z0.wrap (x17+1)))
def oT (p0:List Ap) (x14:List fD) (x17:Int) (x37:Bool):Option ((List fD×Int)⊕List fD):=
 if x37 then
  (idx x14 (Z0.wrap ((x14.length:Int) - 1))).bind λx44=>
  (sub x14 0 (Z0.wrap ((x14.length:Int) - 1))).bind λx68=>
  (app 2932031007402 ([]) x68).bind λz71=>
  (app 2932031007402 z71 ([{ x44 with fMany:=Z0.wrap (x44.fMany+1) }])).bind λz129=>
  qS x17 z129
 else
  (idx p0 x17).bind λx139=>
  (app 2932031007402 x14 ([(⟨1,x139⟩:fD)])).bind λz151=>
  qS x17 z151
def uJ (p0:List Ap) (x14:List fD) (x17:Int):Option ((List fD×Int)⊕List fD):=
 if decide (x17<(p0.length:Int)) then
  if decide (0<x17) then
   (idx p0 x17).bind λx159=>
   (idx p0 (Z0.wrap (x17 - 1))).bind λx163=>
   oT p0 x14 x17 (decide (x159=x163))
  else
   oT p0 x14 x17 false
 else
  (zd x14).map Sum.inr
def Ag (p0:List Ap):Option (List fD):=
 au (λs:(List fD×Int)=>uJ p0 s.1 s.2) ([],0)
def C0 (x6:List Int):Option (List Int):=
 some x6
def jl (p0:Int) (x14:List Int) (x17:Int):Option ((List Int×Int)⊕List Int):=
 if decide (0≤x17) then
  (chk (decide (0≤x17))).bind λu27=>
  (app 140737488355328 x14 ([Z4.wrap (ay .u64 p0 x17)])).bind λz35=>
  some (.inl (z35,Z0.wrap (x17 - 8)))
 else
  (C0 x14).map Sum.inr
def qp (p0:Int):Option (List Int):=
 au (λs:(List Int×Int)=>jl p0 s.1 s.2) ([],56)
def vY (p0 : Ap) (x18 : Bool) : Option (List Int) :=
 if x18 then
  (app 140737488355328 ([Z4.wrap p0.fKind]) ([1])).bind λz26=>
  some z26
 else
  if p0.fKind==1 then
   (app 140737488355328 ([Z4.wrap p0.fKind]) ([0])).bind λz44=>
   some z44
  else
   if p0.fKind==2 then
    (qp (Z2.wrap p0.fInt)).bind λr63=>
    (app 140737488355328 ([Z4.wrap p0.fKind]) r63).bind λz69=>
    some z69
   else
    if p0.fKind==3 then
     (app 140737488355328 ([Z4.wrap p0.fKind]) ([Z4.wrap (p0.fText.length:Int)])).bind λz94=>
     (app 140737488355328 z94 p0.fText).bind λz107=>
     some z107
    else
     some ([Z4.wrap p0.fKind])
def rF (p0:Ap):Option (List Int):=
 if p0.fKind==1 then
  vY p0 p0.fBool
 else
  vY p0 false
def xH (x24:List Int):Option (List Int):=
 some x24
def xI (x35:Int) (x46:List Int):Option ((List Int×Int)⊕List Int):=
 some (.inl (x46,Z0.wrap (x35+1)))
def xJ (x35:Int) (x141:List Int) (x144:Int):Option ((List Int×Int)⊕List Int):=
 (app 140737488355328 x141 ([Z4.wrap x144])).bind λz154=>
 xI x35 z154
def nk (x35:Int) (x163:List Int) (x166:Int):Option ((List Int×Int)⊕((List Int×Int)⊕List Int)):=
 if decide (128≤x166) then
  (app 140737488355328 x163 ([Z4.wrap (Z2.wrap ((x166.tmod 128)+128))])).bind λz182=>
  some (.inl (z182,Z2.wrap (x166.tdiv 128)))
 else
  (xJ x35 x163 x166).map Sum.inr
def tl (x32:List Int) (x35:Int) (x136:Int):Option ((List Int×Int)⊕List Int):=
 au (λs:(List Int×Int)=>nk x35 s.1 s.2) (x32,x136)
def tn (p0:List Ap) (x32:List Int) (x35:Int):Option ((List Int×Int)⊕List Int):=
 if decide (x35<(p0.length:Int)) then
  (idx p0 x35).bind λx53=>
  (idx p0 (Z0.wrap (x35 - 1))).bind λx60=>
  if decide ((Z0.wrap (x53.fInt - x60.fInt))<0) then
   tl x32 x35 (Z2.wrap (Z0.wrap ((Z0.wrap ((-2)*(Z0.wrap (x53.fInt - x60.fInt)))) - 1)))
  else
   tl x32 x35 (Z2.wrap (Z0.wrap (2*(Z0.wrap (x53.fInt - x60.fInt)))))
 else
  (xH x32).map Sum.inr
def yp (p0:List Ap):Option (List Int):=
 (idx p0 0).bind λx3=>
 (qp (Z2.wrap x3.fInt)).bind λr14=>
 au (λs:(List Int×Int)=>tn p0 s.1 s.2) (r14,1)
def kW (x38:Bool):Option Bool:=
 some x38
def oU (x71:Bool):Option Bool:=
 some x71
def rp (p0 : Ap) (p1 : Ap) : Option Bool :=
 if p0.fKind != p1.fKind then
  some (decide (p0.fKind<p1.fKind))
 else
  if p0.fKind==1 then
   if !p0.fBool then
    kW p1.fBool
   else
    kW false
  else
   if p0.fKind==2 then
    some (decide (p0.fInt<p1.fInt))
   else
    if p0.fKind==3 then
     oU (ltB p0.fText p1.fText)
    else
     oU false
def jK (p0:Ap) (p1:Ap):Option Int:=
 (rp p0 p1).bind λr14=>
 (rp p1 p0).bind λr25=>
 if r14 then
  some (-1)
 else
  if r25 then
   some 1
  else
   some 0
def xK (x6:List Ap):Option (List Ap):=
 some x6
def xL (x17:Int) (x28:List Ap):Option ((List Ap×Int)⊕List Ap):=
 some (.inl (x28,Z0.wrap (x17+1)))
def to (x17:Int) (x49:List Ap):Option ((List Ap×Int)⊕List Ap):=
 xL x17 x49
def xM (p0:List Ap) (x17:Int) (x40:List Ap) (x43:Bool):Option ((List Ap×Int)⊕List Ap):=
 if !x43 then
  (idx p0 x17).bind λx59=>
  (app 3518437208883 x40 ([x59])).bind λz69=>
  to x17 z69
 else
  to x17 x40
def tp (x82:Int) (x93:List Ap) (x96:Bool):Option ((List Ap×Bool×Int)⊕((List Ap×Int)⊕List Ap)):=
 some (.inl (x93,x96,Z0.wrap (x82+1)))
def tq (x14:List Ap) (x82:Int) (x165:List Ap) (x168:Bool):Option ((List Ap×Bool×Int)⊕((List Ap×Int)⊕List Ap)):=
 (idx x14 x82).bind λx173=>
 (app 3518437208883 x165 ([x173])).bind λz183=>
 tp x82 z183 x168
def tu (p0:List Ap) (x14:List Ap) (x17:Int) (x78:List Ap) (x81:Bool) (x82:Int) (r151:Int) (x161:Bool):Option ((List Ap×Bool×Int)⊕((List Ap×Int)⊕List Ap)):=
 if x161 then
  (idx p0 x17).bind λx194=>
  (app 3518437208883 x78 ([x194])).bind λz204=>
  if r151==0 then
   tp x82 z204 true
  else
   tq x14 x82 z204 true
 else
  tq x14 x82 x78 x81
def tw (p0:List Ap) (x14:List Ap) (x17:Int) (x78:List Ap) (x81:Bool) (x82:Int):Option ((List Ap×Bool×Int)⊕((List Ap×Int)⊕List Ap)):=
 if decide (x82<(x14.length:Int)) then
  (idx p0 x17).bind λx101=>
  (idx x14 x82).bind λx105=>
  (jK x101 x105).bind λr151=>
  if !x81 then
   tu p0 x14 x17 x78 x81 x82 r151 (decide (r151≤0))
  else
   tu p0 x14 x17 x78 x81 x82 r151 false
 else
  (xM p0 x17 x78 x81).map Sum.inr
def tz (p0:List Ap) (x14:List Ap) (x17:Int):Option ((List Ap×Int)⊕List Ap):=
 if decide (x17<(p0.length:Int)) then
  au (λs:(List Ap×Bool×Int)=>tw p0 x14 x17 s.1 s.2.1 s.2.2) ([],false,0)
 else
  (xK x14).map Sum.inr
def yq (p0:List Ap):Option (List Ap):=
 au (λs:(List Ap×Int)=>tz p0 s.1 s.2) ([],0)
def xN (x5:Int):Option Int:=
 some x5
def tA (x12:Int) (x14:Int):Option ((Int×Int)⊕Int):=
 if decide (0<x12) then
  some (.inl (Z2.wrap (x12.tdiv 2),Z0.wrap (x14+1)))
 else
  (xN x14).map Sum.inr
def uK (p0:Int):Option Int:=
 au (λs:(Int×Int)=>tA s.1 s.2) (p0,0)
def vZ (x14:List Int):Option (List Int):=
 some x14
def wa (x25:Int) (x36:List Int):Option ((List Int×Int)⊕List Int):=
 some (.inl (x36,Z0.wrap (x25+8)))
def wb (x22:List Int) (x25:Int) (x47:Int):Option ((List Int×Int)⊕List Int):=
 (app 140737488355328 x22 ([x47])).bind λz56=>
 wa x25 z56
def rG (x67:Int) (x85:Int):Option ((Int×Int)⊕((List Int×Int)⊕List Int)):=
 some (.inl (x85,Z0.wrap (x67 - 1)))
def rH (x6:List Int) (x22:List Int) (x25:Int) (x65:Int) (x67:Int):Option ((Int×Int)⊕((List Int×Int)⊕List Int)):=
 if decide (0≤x67) then
  if decide ((Z0.wrap (x25+x67))<(x6.length:Int)) then
   (idx x6 (Z0.wrap (x25+x67))).bind λx97=>
   rG x67 (Z4.wrap ((Z4.wrap (x65*2))+x97))
  else
   rG x67 (Z4.wrap (x65*2))
 else
  (wb x22 x25 x65).map Sum.inr
def rI (x6:List Int) (x22:List Int) (x25:Int):Option ((List Int×Int)⊕List Int):=
 if decide (x25<(x6.length:Int)) then
  au (λs:(Int×Int)=>rH x6 x22 x25 s.1 s.2) (0,7)
 else
  (vZ x22).map Sum.inr
def rJ (x6:List Int):Option (List Int):=
 au (λs:(List Int×Int)=>rI x6 s.1 s.2) ([],0)
def wc (x111:Int) (x122:List Int):Option ((List Int×Int)⊕List Int):=
 some (.inl (x122,Z0.wrap (x111+1)))
def rK (p1:Int) (x111:Int) (x142:List Int) (x145:Int) (x147:Int):Option ((List Int×Int×Int)⊕((List Int×Int)⊕List Int)):=
 if decide (x147<p1) then
  (app 140737488355328 x142 ([Z4.wrap (x145.tmod 2)])).bind λz163=>
  some (.inl (z163,Z2.wrap (x145.tdiv 2),Z0.wrap (x147+1)))
 else
  (wc x111 x142).map Sum.inr
def rL (p0:List Int) (p1:Int) (x108:List Int) (x111:Int):Option ((List Int×Int)⊕List Int):=
 if decide (x111<(p0.length:Int)) then
  (idx p0 x111).bind λx131=>
  au (λs:(List Int×Int×Int)=>rK p1 x111 s.1 s.2.1 s.2.2) (x108,x131,0)
 else
  (rJ x108).map Sum.inr
def sN (p0:List Int) (p1:Int):Option (List Int):=
 au (λs:(List Int×Int)=>rL p0 p1 s.1 s.2) ([],0)
def ze (r3:List Ap) (x21:List Int) (x29:List Int):Option (List Int):=
 (uK (Z2.wrap (Z0.wrap ((r3.length:Int) - 1)))).bind λr39=>
 (sN x29 r39).bind λr46=>
 (app 140737488355328 x21 r46).bind λz52=>
 some z52
def zf (x64:Int) (x75:List Int):Option ((List Int×Int)⊕List Int):=
 some (.inl (x75,Z0.wrap (x64+1)))
def uL (x88:Int) (x150:List Int):Option ((List Int×Int)⊕((List Int×Int)⊕List Int)):=
 some (.inl (x150,Z0.wrap (x88+1)))
def uM (p0:List Ap) (r3:List Ap) (x64:Int) (x85:List Int) (x88:Int):Option ((List Int×Int)⊕((List Int×Int)⊕List Int)):=
 if decide (x88<(r3.length:Int)) then
  (idx r3 x88).bind λx97=>
  (idx p0 x64).bind λx101=>
  if decide (x97=x101) then
   (app 17592186044416 x85 ([Z2.wrap x88])).bind λz165=>
   uL x88 z165
  else
   uL x88 x85
 else
  (zf x64 x85).map Sum.inr
def qU (p0:List Ap) (r3:List Ap) (x21:List Int) (x61:List Int) (x64:Int):Option ((List Int×Int)⊕List Int):=
 if decide (x64<(p0.length:Int)) then
  au (λs:(List Int×Int)=>uM p0 r3 x64 s.1 s.2) (x61,0)
 else
  (ze r3 x21 x61).map Sum.inr
def zg (p0:List Ap) (r3:List Ap) (x21:List Int):Option (List Int):=
 au (λs:(List Int×Int)=>qU p0 r3 x21 s.1 s.2) ([],0)
def uN (p0:List Ap) (r3:List Ap) (x174:List Int) (x177:Int):Option ((List Int×Int)⊕List Int):=
 if decide (x177<(r3.length:Int)) then
  (idx r3 x177).bind λx189=>
  (rF x189).bind λr195=>
  (app 140737488355328 x174 r195).bind λz201=>
  some (.inl (z201,Z0.wrap (x177+1)))
 else
  (zg p0 r3 x174).map Sum.inr
def Ah (p0:List Ap):Option (List Int):=
 (yq p0).bind λr3=>
 au (λs:(List Int×Int)=>uN p0 r3 s.1 s.2) ([Z4.wrap (r3.length:Int)],0)
def xO (x17:Int) (x25:List Int) (x28:Int):Option (List Int):=
 (qp (Z2.wrap x17)).bind λr33=>
 (app 140737488355328 r33 ([Z4.wrap x28])).bind λz45=>
 (sN x25 x28).bind λr55=>
 (app 140737488355328 z45 r55).bind λz61=>
 some z61
def pZ (p0:List Ap) (x17:Int) (x70:List Int) (x73:Int) (x75:Int):Option ((List Int×Int×Int)⊕List Int):=
 if decide (x75<(p0.length:Int)) then
  (idx p0 x75).bind λx86=>
  (app 17592186044416 x70 ([Z2.wrap ((Z2.wrap x86.fInt) - (Z2.wrap x17))])).bind λz107=>
  (uK (Z2.wrap ((Z2.wrap x86.fInt) - (Z2.wrap x17)))).bind λr116=>
  some (.inl (z107,(if x73<r116 then r116 else x73),Z0.wrap (x75+1)))
 else
  (xO x17 x70 x73).map Sum.inr
def xP (p0:List Ap) (x17:Int):Option (List Int):=
 au (λs:(List Int×Int×Int)=>pZ p0 x17 s.1 s.2.1 s.2.2) ([],0,0)
def tB (p0:List Ap) (x130:Int) (x132:Int):Option ((Int×Int)⊕List Int):=
 if decide (x132<(p0.length:Int)) then
  (idx p0 x132).bind λx144=>
  some (.inl ((if x144.fInt<x130 then x144.fInt else x130),Z0.wrap (x132+1)))
 else
  (xP p0 x130).map Sum.inr
def yr (p0:List Ap):Option (List Int):=
 (idx p0 0).bind λx3=>
 au (λs:(Int×Int)=>tB p0 s.1 s.2) (x3.fInt,0)
def ii (x25:List Int):Option (List Int×Int):=
 some (x25,0)
def rM (r36:List fD) (x46:List Int) (x49:Int):Option ((List Int×Int)⊕(List Int×Int)):=
 if decide (x49<(r36.length:Int)) then
  (idx r36 x49).bind λx61=>
  (app 140737488355328 x46 ([Z4.wrap x61.fMany])).bind λz76=>
  (idx r36 x49).bind λx86=>
  (rF x86.fValue).bind λr95=>
  (app 140737488355328 z76 r95).bind λz101=>
  some (.inl (z101,Z0.wrap (x49+1)))
 else
  (ii x46).map Sum.inr
def rN (p1:List Ap) (x147:List Int) (x150:Int):Option ((List Int×Int)⊕(List Int×Int)):=
 if decide (x150<(p1.length:Int)) then
  (idx p1 x150).bind λx162=>
  (rF x162).bind λr168=>
  (app 140737488355328 x147 r168).bind λz174=>
  some (.inl (z174,Z0.wrap (x150+1)))
 else
  (ii x147).map Sum.inr
def rO (p0 : Int) (p1 : List Ap) (r5 : Int) (x15 : Bool) : Option (List Int × Int) :=
 if x15 then
  some ([],r5)
 else
  if p0==1 then
   (Ag p1).bind λr36=>
   au (λs:(List Int×Int)=>rM r36 s.1 s.2) ([],0)
  else
   if p0==2 then
    (yp p1).bind λr115=>
    ii r115
   else
    if p0==3 then
     (Ah p1).bind λr126=>
     ii r126
    else
     if p0==4 then
      (yr p1).bind λr137=>
      ii r137
     else
      au (λs:(List Int×Int)=>rN p1 s.1 s.2) ([],0)
def qq (p0:Int) (p1:List Ap):Option (List Int×Int):=
 (uI p0 p1).bind λr5=>
 if r5 != 0 then
  rO p0 p1 r5 true
 else
  rO p0 p1 r5 ((p1.length:Int)==0)
def Fw (x7:Int):Option Int:=
 some x7
def uO (x18:Int) (x48:Int) (x50:Int):Option ((Int×Int×Int)⊕Int):=
 some (.inl (x48,x50,Z0.wrap (x18+1)))
def qV (x14:Int) (x16:Int) (x18:Int) (r27:List Int×Int) (x44:Bool):Option ((Int×Int×Int)⊕Int):=
 if x44 then
  uO x18 x18 (r27.1.length:Int)
 else
  uO x18 x14 x16
def zh (p0 : List Ap) (x14 : Int) (x16 : Int) (x18 : Int) : Option ((Int × Int × Int) ⊕ Int) :=
 if decide (x18 < 5) then
  (qq x18 p0).bind λr27=>
  if r27.2==0 then
   if decide (x16<0) then
    qV x14 x16 x18 r27 true
   else
    qV x14 x16 x18 r27 (decide ((r27.1.length:Int)<x16))
  else
   qV x14 x16 x18 r27 false
 else
  (Fw x14).map Sum.inr
def Ai (p0:List Ap):Option Int:=
 au (λs:(Int×Int×Int)=>zh p0 s.1 s.2.1 s.2.2) (0,(-1),0)
def xQ (x73:dn):Option dn:=
 some x73
def tC (x84:Int) (x215:dn):Option ((Int×dn)⊕dn):=
 some (.inl (Z0.wrap (x84+1),x215))
def p9 (p1:List Ap) (x84:Int) (x196:dn):Option ((Int×dn)⊕dn):=
 (idx p1 x84).bind λx202=>
 if x202.fKind==0 then
  tC x84 ({ x196 with fNulls:=Z0.wrap (x196.fNulls+1) })
 else
  tC x84 x196
def qa (p1:List Ap) (x84:Int) (x144:dn):Option ((Int×dn)⊕dn):=
 (idx p1 x84).bind λx148=>
 (jK x148 x144.fMax).bind λr186=>
 if decide (0<r186) then
  (idx p1 x84).bind λx235=>
  p9 p1 x84 ({ x144 with fMax:=x235 })
 else
  p9 p1 x84 x144
def tD (p1:List Ap) (x84:Int) (x86:dn):Option ((Int×dn)⊕dn):=
 if decide (x84<(p1.length:Int)) then
  (idx p1 x84).bind λx96=>
  (jK x96 x86.fMin).bind λr134=>
  if decide (r134<0) then
   (idx p1 x84).bind λx248=>
   qa p1 x84 ({ x86 with fMin:=x248 })
  else
   qa p1 x84 x86
 else
  (xQ x86).map Sum.inr
def yt (p0:Int) (p1:List Ap):Option dn:=
 (idx p1 0).bind λx3=>
 (idx p1 0).bind λx7=>
 au (λs:(Int×dn)=>tD p1 s.1 s.2) (0,(⟨p0,(p1.length:Int),x3,x7,0,0⟩:dn))
def Bk (x6:Int):Option Int:=
 some (cx .u32 x6 4294967295)
def Bl (x16:Int) (x27:Int):Option ((Int×Int)⊕Int):=
 some (.inl (x27,Z0.wrap (x16+1)))
def wd (x51:Int) (x63:Int):Option ((Int×Int)⊕((Int×Int)⊕Int)):=
 some (.inl (x63,Z0.wrap (x51+1)))
def we (x16:Int) (x49:Int) (x51:Int):Option ((Int×Int)⊕((Int×Int)⊕Int)):=
 if decide (x51<8) then
  if (x49.tmod 2)==1 then
   wd x51 (cx .u32 (Zn.wrap (x49.tdiv 2)) 3988292384)
  else
   wd x51 (Zn.wrap (x49.tdiv 2))
 else
  (Bl x16 x49).map Sum.inr
def wg (p0:List Int) (x14:Int) (x16:Int):Option ((Int×Int)⊕Int):=
 if decide (x16<(p0.length:Int)) then
  (idx p0 x16).bind λx36=>
  au (λs:(Int×Int)=>we x16 s.1 s.2) (cx .u32 x14 (Zn.wrap x36),0)
 else
  (Bk x14).map Sum.inr
def zi (p0:List Int):Option Int:=
 au (λs:(Int×Int)=>wg p0 s.1 s.2) (4294967295,0)
def wh (x8:List Int):Option (List Int):=
 some x8
def wj (x19:Int) (x28:List Int):Option ((List Int×Int)⊕List Int):=
 some (.inl (x28,Z0.wrap (x19 - 1)))
def wk (x16:List Int) (x19:Int) (x40:Int):Option ((List Int×Int)⊕List Int):=
 (app 140737488355328 x16 ([Z4.wrap (x40.tmod 256)])).bind λz51=>
 wj x19 z51
def rP (x16:List Int) (x19:Int) (x60:Int) (x62:Int):Option ((Int×Int)⊕((List Int×Int)⊕List Int)):=
 if decide (x62<x19) then
  some (.inl (Z2.wrap (x60.tdiv 256),Z0.wrap (x62+1)))
 else
  (wk x16 x19 x60).map Sum.inr
def oV (p0:Int) (x16:List Int) (x19:Int):Option ((List Int×Int)⊕List Int):=
 if decide (0≤x19) then
  au (λs:(Int×Int)=>rP x16 x19 s.1 s.2) (p0,0)
 else
  (wh x16).map Sum.inr
def oz (p0:Int) (p1:Int):Option (List Int):=
 au (λs:(List Int×Int)=>oV p0 s.1 s.2) ([],Z0.wrap (p1 - 1))
def qb (p1:List Ap) (x13:Int):Option (List Int×Int):=
 (qq x13 p1).bind λr18=>
 if r18.2 != 0 then
  some ([],r18.2)
 else
  (yt x13 p1).bind λr41=>
  (rF r41.fMin).bind λr73=>
  (app 140737488355328 ([Z4.wrap x13,Z4.wrap r41.fMany,Z4.wrap r41.fNulls]) r73).bind λz79=>
  (rF r41.fMax).bind λr90=>
  (app 140737488355328 z79 r90).bind λz96=>
  (app 140737488355328 z96 ([Z4.wrap (Z0.wrap ((r18.1.length:Int).tdiv 256)),Z4.wrap ((r18.1.length:Int).tmod 256)])).bind λz116=>
  (app 140737488355328 z116 r18.1).bind λz125=>
  (zi z125).bind λr134=>
  (oz (Z2.wrap r134) 4).bind λr142=>
  (app 140737488355328 z125 r142).bind λz148=>
  some (z148,0)
def yu (p0:Int) (p1:List Ap):Option (List Int×Int):=
 if (p1.length:Int)==0 then
  some ([],70)
 else
  if p0==(-1) then
   (Ai p1).bind λr158=>
   qb p1 r158
  else
   qb p1 p0
def ub (x6:Int):Option Int:=
 some x6
def pF (p0:List Int) (x13:Int) (x15:Int):Option ((Int×Int)⊕Int):=
 if decide (x15<8) then
  (idx p0 x15).bind λx27=>
  some (.inl (bOr .u64 (dx .u64 x13 8) (Z2.wrap x27),Z0.wrap (x15+1)))
 else
  (ub x13).map Sum.inr
def qc (p0:List Int):Option Int:=
 au (λs:(Int×Int)=>pF p0 s.1 s.2) (0,0)
def kB (x21:List Int) (x205:Bool):Option (Ap×List Int×Bool):=
 if x205 then
  (idx x21 0).bind λx208=>
  (sub x21 1 (Z4.wrap (1+x208))).bind λx213=>
  (oN x213).bind λr216=>
  (idx x21 0).bind λx221=>
  (sub x21 (Z4.wrap (1+x221)) x21.length).bind λx226=>
  some (r216,x226,true)
 else
  some ((⟨0,false,0,[]⟩:Ap),[],false)
def oW (x16 : Int) (x21 : List Int) (x145 : Bool) : Option (Ap × List Int × Bool) :=
 if x145 then
  (qc x21).bind λr148=>
  (eE (Z0.wrap r148)).bind λr154=>
  (sub x21 8 x21.length).bind λx159=>
  some (r154,x159,true)
 else
  if (Z0.wrap x16) == 3 then
   if decide (1≤(x21.length:Int)) then
    (idx x21 0).bind λx325=>
    if decide (x325≤64) then
     (idx x21 0).bind λx339=>
     kB x21 (decide ((Z0.wrap x339)<(x21.length:Int)))
    else
     kB x21 false
   else
    kB x21 false
  else
   kB x21 false
def kC (x16:Int) (x21:List Int) (x83:Bool):Option (Ap×List Int×Bool):=
 if x83 then
  (idx x21 0).bind λx86=>
  (oM (x86==1)).bind λr91=>
  (sub x21 1 x21.length).bind λx96=>
  some (r91,x96,true)
 else
  if (Z0.wrap x16)==2 then
   oW x16 x21 (decide (8≤(x21.length:Int)))
  else
   oW x16 x21 false
def sO (p0 : List Int) : Option (Ap × List Int × Bool) :=
 if (p0.length:Int)==0 then
  some ((⟨0,false,0,[]⟩:Ap),[],false)
 else
  (idx p0 0).bind λx16=>
  (sub p0 1 p0.length).bind λx21=>
  if (Z0.wrap x16)==0 then
   (kO).bind λr69=>
   some (r69,x21,true)
  else
   if (Z0.wrap x16)==1 then
    if decide (1≤(x21.length:Int)) then
     (idx x21 0).bind λx384=>
     kC x16 x21 (decide (x384≤1))
    else
     kC x16 x21 false
   else
    kC x16 x21 false
def uc (x64:List Int) (x67:List Ap):Option (List Ap×Int):=
 if decide (0<(x64.length:Int)) then
  some ([],30)
 else
  some (x67,0)
def kD (x11:Int) (x82:List Int) (x85:List Ap) (x88:Int):Option ((List Int×List Ap×Int)⊕(List Ap×Int)):=
 if decide (x88<(Z0.wrap x11)) then
  (sO x82).bind λr95=>
  if !r95.2.2 then
   (some ([],30)).map Sum.inr
  else
   (app 3518437208883 x85 ([r95.1])).bind λz129=>
   some (.inl (r95.2.1,z129,Z0.wrap (x88+1)))
 else
  (uc x82 x85).map Sum.inr
def pG (p0:List Int) (x5:Bool):Option (List Ap×Int):=
 if x5 then
  some ([],30)
 else
  (idx p0 0).bind λx11=>
  (sub p0 1 p0.length).bind λx16=>
  au (λs:(List Int×List Ap×Int)=>kD x11 s.1 s.2.1 s.2.2) (x16,[],0)
def lI (p0:List Int):Option (List Ap×Int):=
 if (p0.length:Int)==0 then
  pG p0 true
 else
  (idx p0 0).bind λx147=>
  pG p0 (decide (16<x147))
def Aj:Option (Ap×List Int×Bool):=
 some ((⟨0,false,0,[]⟩:Ap),[],false)
def mz (p0:List Int) (x18:Int) (x24:Bool):Option (Int⊕(Ap×List Int×Bool)):=
 if x24 then
  (sub p0 0 x18).bind λx33=>
  (app 140737488355328 ([1]) x33).bind λz37=>
  (lI z37).bind λr43=>
  if r43.2==0 then
   (idx r43.1 0).bind λx61=>
   (sub p0 x18 p0.length).bind λx65=>
   (some (x61,x65,true)).map Sum.inr
  else
   some (.inl (Z0.wrap (x18+1)))
 else
  (Aj).map Sum.inr
def mA (p0:List Int) (x18:Int):Option (Int⊕(Ap×List Int×Bool)):=
 if decide (x18≤(p0.length:Int)) then
  mz p0 x18 (decide (x18≤66))
 else
  mz p0 x18 false
def lJ (p0:List Int):Option (Ap×List Int×Bool):=
 au (λs:Int=>mA p0 s) 1
def nR (p0:List Int) (x17:Int) (x22:Int) (x27:Int) (r118:Ap×List Int×Bool) (r140:Ap×List Int×Bool) (x163:Bool):Option (bK×List Int×Bool):=
 if x163 then
  some ((⟨0,0,Ap.zero,Ap.zero,0,0⟩:bK),[],false)
 else
  (idx r140.2.1 0).bind λx173=>
  (idx r140.2.1 1).bind λx178=>
  (sub r140.2.1 2 r140.2.1.length).bind λx237=>
  if decide ((x237.length:Int)<(Z0.wrap ((bOr .i64 (dx .i64 (Z0.wrap x173) 8) (Z0.wrap x178))+4))) then
   some ((⟨0,0,Ap.zero,Ap.zero,0,0⟩:bK),[],false)
  else
   (sub x237 0 (bOr .i64 (dx .i64 (Z0.wrap x173) 8) (Z0.wrap x178))).bind λx268=>
   some ({ { { (⟨Z0.wrap x17,Z0.wrap x22,Ap.zero,Ap.zero,Z0.wrap x27,0⟩:bK) with fMin:=r118.1 } with fMax:=r140.1 } with fBytes:=Z0.wrap ((Z0.wrap ((Z0.wrap ((p0.length:Int) - (x237.length:Int)))+(bOr .i64 (dx .i64 (Z0.wrap x173) 8) (Z0.wrap x178))))+4) },x268,true)
def gD (p0 : List Int) (x7 : Bool) : Option (bK × List Int × Bool) :=
 if x7 then
  some ((⟨0,0,Ap.zero,Ap.zero,0,0⟩:bK),[],false)
 else
  (idx p0 0).bind λx17=>
  (idx p0 1).bind λx22=>
  (idx p0 2).bind λx27=>
  (sub p0 3 p0.length).bind λx114=>
  (lJ x114).bind λr118=>
  (lJ r118.2.1).bind λr140=>
  if !r118.2.2 then
   nR p0 x17 x22 x27 r118 r140 true
  else
   if !r140.2.2 then
    nR p0 x17 x22 x27 r118 r140 true
   else
    nR p0 x17 x22 x27 r118 r140 (decide ((r140.2.1.length:Int)<2))
def jL (p0 : List Int) : Option (bK × List Int × Bool) :=
 if decide ((p0.length:Int)<3) then
  gD p0 true
 else
  (idx p0 0).bind λx385=>
  if decide (4<x385) then
   gD p0 true
  else
   (idx p0 1).bind λx471=>
   if x471==0 then
    gD p0 true
   else
    (idx p0 1).bind λx572=>
    if decide (64<x572) then
     gD p0 true
    else
     (idx p0 2).bind λx688=>
     (idx p0 1).bind λx693=>
     gD p0 (decide (x693<x688))
def kj (p0:List Int):Option (List Int):=
 (app 140737488355328 ([]) p0).bind λz13=>
 some z13
def oX:Option Bool:=
 some true
def gp (p0:List Int) (p1:List Int) (x18:Int):Option (Int⊕Bool):=
 if decide (x18<(p0.length:Int)) then
  (idx p0 x18).bind λx26=>
  (idx p1 x18).bind λx31=>
  if x26 != x31 then
   (some false).map Sum.inr
  else
   some (.inl (Z0.wrap (x18+1)))
 else
  (oX).map Sum.inr
def gA (p0:List Int) (p1:List Int):Option Bool:=
 if (p0.length:Int) != (p1.length:Int) then
  some false
 else
  au (λs:Int=>gp p0 p1 s) 0
def tE (p0:aj):Option (Ap×aj):=
 some ((⟨0,false,0,[]⟩:Ap),{ p0 with fOk:=false })
def gV (p0:aj) (x20:Int) (x26:Bool):Option (Int⊕(Ap×aj)):=
 if x26 then
  (sub p0.fB 0 x20).bind λx39=>
  (app 140737488355328 ([1]) x39).bind λz43=>
  (lI z43).bind λr49=>
  if r49.2==0 then
   (sub p0.fB x20 p0.fB.length).bind λx74=>
   (idx r49.1 0).bind λx84=>
   (some (x84,{ p0 with fB:=x74 })).map Sum.inr
  else
   some (.inl (Z0.wrap (x20+1)))
 else
  (tE p0).map Sum.inr
def gW (p0:aj) (x20:Int):Option (Int⊕(Ap×aj)):=
 if decide (x20≤(p0.fB.length:Int)) then
  gV p0 x20 (decide (x20≤66))
 else
  gV p0 x20 false
def dH (p0:aj):Option (Ap×aj):=
 au (λs:Int=>gW p0 s) 1
def cG (p0:aj) (p1:Int):Option (List Int×aj):=
 if decide ((p0.fB.length:Int)<p1) then
  (mk 281474976710656 p1 0).bind λz24=>
  some (z24,{ { p0 with fB:=[] } with fOk:=false })
 else
  (mk 281474976710656 p1 0).bind λz35=>
  (sub p0.fB p1 p0.fB.length).bind λx61=>
  some ((cpy z35 p0.fB),{ p0 with fB:=x61 })
def Fy (p0:Int) (p1:Int):Option (Int×Int):=
 some (Zn.wrap (ay .u64 (Z2.wrap ((Z2.wrap p0)*(Z2.wrap p1))) 32),Zn.wrap (Z2.wrap ((Z2.wrap p0)*(Z2.wrap p1))))
def qW (p0:Int) (p1:Int):Option (Int×Int):=
 some (Z2.wrap ((Z2.wrap ((Z2.wrap ((ay .u64 p0 32)*(ay .u64 p1 32)))+(ay .u64 (Z2.wrap ((Z2.wrap ((ay .u64 p0 32)*(cL .u64 p1 4294967295)))+(ay .u64 (Z2.wrap ((cL .u64 p0 4294967295)*(cL .u64 p1 4294967295))) 32))) 32)))+(ay .u64 (Z2.wrap ((cL .u64 (Z2.wrap ((Z2.wrap ((ay .u64 p0 32)*(cL .u64 p1 4294967295)))+(ay .u64 (Z2.wrap ((cL .u64 p0 4294967295)*(cL .u64 p1 4294967295))) 32))) 4294967295)+(Z2.wrap ((cL .u64 p0 4294967295)*(ay .u64 p1 32))))) 32)),Z2.wrap (p0*p1))
def uP (p0:Int) (p1:Int):Option (Int×Int):=
 (qW p0 p1).bind λr5=>
 some (r5.1,r5.2)
def gX (x52:List Ap):Option (List Ap):=
 some x52
def gY (x60:Int) (x62:List Ap):Option ((Int×List Ap)⊕List Ap):=
 if decide (x60<(x62.length:Int)) then
  (vw x62 x60 x62.length).bind λq73=>
  (vw x62 0 x60).bind λq76=>
  (chk (Nat.ble (min q76.2 q73.2) cI)).bind λu82=>
  (cpv x62 q73 q76).bind λz80=>
  some (.inl (Z0.wrap (x60+((min q76.2 q73.2:Nat):Int)),z80))
 else
  (gX x62).map Sum.inr
def gZ (p0:List Ap) (r12:Int×Int):Option (List Ap):=
 (mk 7036874417766 (Z0.wrap r12.2) Ap.zero).bind λz37=>
 au (λs:(Int×List Ap)=>gY s.1 s.2) (((min p0.length z37.length:Nat):Int),(cpy z37 p0))
def fe (p0:List Ap) (r12:Int×Int) (x30:Bool):Option (List Ap):=
 if x30 then
  none
 else
  gZ p0 r12
def g7 (p0:List Ap) (p1:Int):Option (List Ap):=
 (uP (Z2.wrap (p0.length:Int)) (Z2.wrap p1)).bind λr12=>
 if decide (0<r12.1) then
  fe p0 r12 true
 else
  fe p0 r12 (decide (9223372036854775807<r12.2))
def eZ (p0:List Ap) (p1:Int):Option (List Ap):=
 if decide (p1<0) then
  none
 else
  g7 p0 p1
def mR (r4:List Int×aj) (x16:Int):Option (Int×aj):=
 some (x16,r4.2)
def gI (r4:List Int×aj) (x23:Int) (x25:Int):Option ((Int×Int)⊕(Int×aj)):=
 if decide (x25<(r4.1.length:Int)) then
  (idx r4.1 x25).bind λx31=>
  some (.inl (bOr .u64 (dx .u64 x23 8) (Z2.wrap x31),Z0.wrap (x25+1)))
 else
  (mR r4 x23).map Sum.inr
def gq (p0:aj):Option (Int×aj):=
 (cG p0 8).bind λr4=>
 au (λs:(Int×Int)=>gI r4 s.1 s.2) (0,0)
def nl (x6:aj):Option (Int×aj):=
 some (0,{ x6 with fOk:=false })
def g8 (x19:Int) (x21:Int) (x23:aj) (x30:Bool):Option ((Int×Int×aj)⊕(Int×aj)):=
 if x30 then
  (cG x23 1).bind λr34=>
  (idx r34.1 0).bind λx42=>
  (chk (decide (0≤x21))).bind λu55=>
  if decide (x42<128) then
   (some (bOr .u64 x19 (dx .u64 (Z2.wrap (cL .u8 x42 127)) x21),r34.2)).map Sum.inr
  else
   some (.inl (bOr .u64 x19 (dx .u64 (Z2.wrap (cL .u8 x42 127)) x21),Z0.wrap (x21+7),r34.2))
 else
  (nl x23).map Sum.inr
def j6 (x19:Int) (x21:Int) (x23:aj):Option ((Int×Int×aj)⊕(Int×aj)):=
 if decide (x21<70) then
  g8 x19 x21 x23 x23.fOk
 else
  g8 x19 x21 x23 false
def fa (p0:aj):Option (Int×aj):=
 au (λs:(Int×Int×aj)=>j6 s.1 s.2.1 s.2.2) (0,0,p0)
def f7 (r28:List Int×aj) (x50:List Int):Option (List Int×aj):=
 some (x50,r28.2)
def f9 (x58:Int) (x69:List Int):Option ((Int×List Int)⊕(List Int×aj)):=
 some (.inl (Z0.wrap (x58+1),x69))
def et (p2:Int) (r28:List Int×aj) (x58:Int) (x81:Int) (x83:List Int):Option ((Int×List Int)⊕((Int×List Int)⊕(List Int×aj))):=
 if decide (x81<p2) then
  (ix x83 x58).bind λj98=>
  (x83[j98]?).bind λx101=>
  (idx r28.1 (Z0.wrap ((Z0.wrap ((Z0.wrap (x58*p2))+x81)).tdiv 8))).bind λx104=>
  (chk (decide (0≤((Z0.wrap ((Z0.wrap (x58*p2))+x81)).tmod 8)))).bind λu109=>
  (chk (decide (0≤x81))).bind λu111=>
  (ix x83 x58).bind λj207=>
  (x83[j207]?).bind λx212=>
  some (.inl (Z0.wrap (x81+1),(x83.set j207 (bOr .u64 x101 (dx .u64 (Z2.wrap (cL .u8 (ay .u8 x104 ((Z0.wrap ((Z0.wrap (x58*p2))+x81)).tmod 8)) 1)) x81)))))
 else
  (f9 x58 x83).map Sum.inr
def dE (p2:Int) (r28:List Int×aj) (z38:List Int) (x58:Int) (x60:List Int):Option ((Int×List Int)⊕(List Int×aj)):=
 if decide (x58<(z38.length:Int)) then
  au (λs:(Int×List Int)=>et p2 r28 x58 s.1 s.2) (0,x60)
 else
  (f7 r28 x60).map Sum.inr
def dz (p0:aj) (p1:Int) (p2:Int):Option (List Int×aj):=
 if decide (64<p2) then
  (mk 35184372088832 p1 0).bind λz12=>
  some (z12,{ p0 with fOk:=false })
 else
  (cG p0 (Z0.wrap ((Z0.wrap ((Z0.wrap (p1*p2))+7)).tdiv 8))).bind λr28=>
  (mk 35184372088832 p1 0).bind λz38=>
  au (λs:(Int×List Int)=>dE p2 r28 z38 s.1 s.2) (0,z38)
def cg (x6:List Ap) (x9:aj):Option (List Ap×aj):=
 some (x6,x9)
def j7 (x20:List Ap) (x23:aj) (x30:Bool):Option ((List Ap×aj)⊕(List Ap×aj)):=
 if x30 then
  (dH x23).bind λr35=>
  (app 3518437208883 x20 ([r35.1])).bind λz47=>
  some (.inl (z47,r35.2))
 else
  (cg x20 x23).map Sum.inr
def nq (p2:Int) (x20:List Ap) (x23:aj):Option ((List Ap×aj)⊕(List Ap×aj)):=
 if decide ((x20.length:Int)<p2) then
  j7 x20 x23 x23.fOk
 else
  j7 x20 x23 false
def j8 (p2:Int) (x72:List Ap) (x75:aj) (x82:Bool):Option ((List Ap×aj)⊕(List Ap×aj)):=
 if x82 then
  (cG x75 1).bind λr86=>
  (idx r86.1 0).bind λx94=>
  (dH r86.2).bind λr110=>
  (eZ ([r110.1]) (if (Z0.wrap (p2 - (x72.length:Int)))<(Z0.wrap x94) then Z0.wrap (p2 - (x72.length:Int)) else Z0.wrap x94)).bind λr123=>
  (app 3518437208883 x72 r123).bind λz129=>
  some (.inl (z129,r110.2))
 else
  (cg x72 x75).map Sum.inr
def nr (p2:Int) (x72:List Ap) (x75:aj):Option ((List Ap×aj)⊕(List Ap×aj)):=
 if decide ((x72.length:Int)<p2) then
  j8 p2 x72 x75 x75.fOk
 else
  j8 p2 x72 x75 false
def j9 (x185:List Ap) (x188:Int) (x190:aj) (x197:Bool):Option ((List Ap×Int×aj)⊕(List Ap×aj)):=
 if x197 then
  (fa x190).bind λr201=>
  (eE (Z0.wrap (x188+(cx .i64 (Z0.wrap (ay .u64 r201.1 1)) (Z0.wrap (0 - (Z0.wrap (cL .u64 r201.1 1)))))))).bind λr224=>
  (app 3518437208883 x185 ([r224])).bind λz234=>
  some (.inl (z234,Z0.wrap (x188+(cx .i64 (Z0.wrap (ay .u64 r201.1 1)) (Z0.wrap (0 - (Z0.wrap (cL .u64 r201.1 1)))))),r201.2))
 else
  (cg x185 x190).map Sum.inr
def nt (p2:Int) (x185:List Ap) (x188:Int) (x190:aj):Option ((List Ap×Int×aj)⊕(List Ap×aj)):=
 if decide ((x185.length:Int)<p2) then
  j9 x185 x188 x190 x190.fOk
 else
  j9 x185 x188 x190 false
def ke (x277:List Ap) (r298:List Int×aj) (x310:List Ap) (x313:Int):Option ((List Ap×Int)⊕(List Ap×aj)):=
 if decide (x313<(r298.1.length:Int)) then
  (idx r298.1 x313).bind λx319=>
  if decide ((Z2.wrap (x277.length:Int))≤x319) then
   (some ([],r298.2)).map Sum.inr
  else
   (idx x277 x319).bind λx337=>
   (app 3518437208883 x310 ([x337])).bind λz347=>
   some (.inl (z347,Z0.wrap (x313+1)))
 else
  (cg x310 r298.2).map Sum.inr
def nv (p2:Int) (x277:List Ap) (x280:aj):Option (List Ap×aj):=
 (pD (Z2.wrap (Z0.wrap ((if (x277.length:Int)<1 then 1 else (x277.length:Int)) - 1)))).bind λr291=>
 (dz x280 p2 r291).bind λr298=>
 au (λs:(List Ap×Int)=>ke x277 r298 s.1 s.2) ([],0)
def nw (p2:Int) (x267:Int) (x358:List Ap) (x361:Int) (x363:aj):Option ((List Ap×Int×aj)⊕(List Ap×aj)):=
 if decide (x361<x267) then
  (dH x363).bind λr372=>
  (app 3518437208883 x358 ([r372.1])).bind λz384=>
  some (.inl (z384,Z4.wrap (x361+1),r372.2))
 else
  (nv p2 x358 x363).map Sum.inr
def ny (r394:Int×aj) (r423:List Int×aj) (x435:List Ap) (x438:Int):Option ((List Ap×Int)⊕(List Ap×aj)):=
 if decide (x438<(r423.1.length:Int)) then
  (idx r423.1 x438).bind λx444=>
  (eE (Z0.wrap (Z2.wrap (r394.1+x444)))).bind λr457=>
  (app 3518437208883 x435 ([r457])).bind λz467=>
  some (.inl (z467,Z0.wrap (x438+1)))
 else
  (cg x435 r423.2).map Sum.inr
def bS (p0 : aj) (p1 : Int) (p2 : Int) : Option (List Ap × aj) :=
 if p1==0 then
  au (λs:(List Ap×aj)=>nq p2 s.1 s.2) ([],p0)
 else
  if p1==1 then
   au (λs:(List Ap×aj)=>nr p2 s.1 s.2) ([],p0)
  else
   if p1==2 then
    (gq p0).bind λr153=>
    (eE (Z0.wrap r153.1)).bind λr166=>
    (app 3518437208883 ([]) ([r166])).bind λz176=>
    au (λs:(List Ap×Int×aj)=>nt p2 s.1 s.2.1 s.2.2) (z176,Z0.wrap r153.1,r153.2)
   else
    if p1==3 then
     (cG p0 1).bind λr259=>
     (idx r259.1 0).bind λx267=>
     au (λs:(List Ap×Int×aj)=>nw p2 x267 s.1 s.2.1 s.2.2) ([],0,r259.2)
    else
     (gq p0).bind λr394=>
     (cG r394.2 1).bind λr407=>
     (idx r407.1 0).bind λx415=>
     (dz r407.2 p2 (Z0.wrap x415)).bind λr423=>
     au (λs:(List Ap×Int)=>ny r394 r423 s.1 s.2) ([],0)
def jm (x30:List Ap) (x56:Bool):Option (List Ap×Int):=
 if x56 then
  some ([],60)
 else
  some (x30,0)
def kX (p0 : Int) (p1 : List Int) (p2 : Int) (x30 : List Ap) (x33 : aj) : Option (List Ap × Int) :=
 (fj p0 x30).bind λr39=>
 if !x33.fOk then
  jm x30 true
 else
  if r39.2 != 0 then
   jm x30 true
  else
   if (x30.length:Int) != p2 then
    jm x30 true
   else
    (gA r39.1 p1).bind λr95=>
    jm x30 (!r95)
def kY (p0:Int) (p1:List Int) (p2:Int) (x12:Bool):Option (List Ap×Int):=
 if x12 then
  some ([],61)
 else
  if decide (0<p2) then
   (bS (⟨p1,true⟩:aj) p0 p2).bind λr107=>
   kX p0 p1 p2 r107.1 r107.2
  else
   kX p0 p1 p2 ([]) (⟨p1,true⟩:aj)
def kZ (p0:Int) (p1:List Int) (p2:Int) (x5:Bool):Option (List Ap×Int):=
 if x5 then
  some ([],62)
 else
  if decide (p2<0) then
   kY p0 p1 p2 true
  else
   kY p0 p1 p2 (decide (64<p2))
def lw (p0:Int) (p1:List Int) (p2:Int):Option (List Ap×Int):=
 if decide (p0<0) then
  kZ p0 p1 p2 true
 else
  kZ p0 p1 p2 (decide (4<p0))
def jE (r5:bK×List Int×Bool) (r120:List Ap×Int) (x159:Bool):Option (List Ap×Int×Int):=
 if x159 then
  some ([],0,70)
 else
  some (r120.1,r5.1.fBytes,0)
def k8 (p0 : List Int) : Option (List Ap × Int × Int) :=
 (jL p0).bind λr5=>
 if !r5.2.2 then
  some ([],0,70)
 else
  (sub p0 0 (Z0.wrap (r5.1.fBytes - 4))).bind λx39=>
  (kj x39).bind λr43=>
  (kA r43).bind λr50=>
  (sub p0 0 r5.1.fBytes).bind λx58=>
  (gA r50 x58).bind λr100=>
  if !r100 then
   some ([],0,71)
  else
   (lw r5.1.fKind r5.2.1 r5.1.fMany).bind λr120=>
   if r120.2 != 0 then
    some ([],0,70)
   else
    (kV r5.1.fKind r120.1).bind λr146=>
    if r146.fNulls != r5.1.fNulls then
     jE r5 r120 true
    else
     if !decide (r146.fMin=r5.1.fMin) then
      jE r5 r120 true
     else
      jE r5 r120 (!decide (r146.fMax=r5.1.fMax))
def nz (p0:aa):Option aa:=
 (ic p0.fRow).bind λr10=>
 some ({ p0 with fRow:=r10 })
def Ak (x8:List Ap):Option (List Ap):=
 some x8
def mB (x16:List Ap) (x19:Int) (x50:Ap):Option ((List Ap×Int)⊕List Ap):=
 (app 3518437208883 x16 ([x50])).bind λz61=>
 some (.inl (z61,Z0.wrap (x19+1)))
def mD (p1:List Ap) (x16:List Ap) (x19:Int) (x25:Int) (r33:Ap) (x46:Bool):Option ((List Ap×Int)⊕List Ap):=
 if x46 then
  (idx p1 x25).bind λx73=>
  mB x16 x19 x73
 else
  mB x16 x19 r33
def pH (p0:List Int) (p1:List Ap) (x16:List Ap) (x19:Int):Option ((List Ap×Int)⊕List Ap):=
 if decide (x19<(p0.length:Int)) then
  (idx p0 x19).bind λx25=>
  (kO).bind λr33=>
  if decide (0≤x25) then
   mD p1 x16 x19 x25 r33 (decide (x25<(p1.length:Int)))
  else
   mD p1 x16 x19 x25 r33 false
 else
  (Ak x16).map Sum.inr
def lK (p0:List Int) (p1:List Ap):Option (List Ap):=
 au (λs:(List Ap×Int)=>pH p0 p1 s.1 s.2) ([],0)
def vq (p0:List Ap) (p1:List Ap):Option Int:=
 (it (p0.length:Int) (p1.length:Int)).bind λr15=>
 some r15
def vr (p0:List Ap) (p1:List Ap) (x25:Int):Option (Int⊕Int):=
 if decide (x25<(if (p1.length:Int)<(p0.length:Int) then (p1.length:Int) else (p0.length:Int))) then
  (idx p0 x25).bind λx33=>
  (idx p1 x25).bind λx37=>
  (cB x33 x37).bind λr83=>
  if r83 != 0 then
   (some r83).map Sum.inr
  else
   some (.inl (Z0.wrap (x25+1)))
 else
  (vq p0 p1).map Sum.inr
def oY (p0:List Ap) (p1:List Ap):Option Int:=
 au (λs:Int=>vr p0 p1 s) 0
def k9 (p0:Int):Option Bool:=
 some (p0 != p0)
def ij (p0 : Int) (p1 : Int) : Option Int :=
 (k9 p0).bind λr3=>
 (k9 p1).bind λr11=>
 if r3 then
  if r11 then
   some 0
  else
   some (-1)
 else
  if r11 then
   some 1
  else
   if decide (p0<p1) then
    some (-1)
   else
    if decide (p1<p0) then
     some 1
    else
     some 0
def la (p0:Int):Option Bool:=
 some (p0 != p0)
def ik (p0 : Int) (p1 : Int) : Option Int :=
 (la p0).bind λr3=>
 (la p1).bind λr11=>
 if r3 then
  if r11 then
   some 0
  else
   some (-1)
 else
  if r11 then
   some 1
  else
   if decide (p0<p1) then
    some (-1)
   else
    if decide (p1<p0) then
     some 1
    else
     some 0
def BL:Option Int:=
 some 0
def gE (p0:List Int) (x13:Int):Option (Int⊕Int):=
 if decide (x13<(p0.length:Int)) then
  (idx p0 x13).bind λx19=>
  if x19 != 0 then
   (some x19).map Sum.inr
  else
   some (.inl (Z0.wrap (x13+1)))
 else
  (BL).map Sum.inr
def mE (p0:List Int):Option Int:=
 au (λs:Int=>gE p0 s) 0
def lx (p0:aL) (p1:aL):Option Int:=
 (ij p0.fEpoch p1.fEpoch).bind λr14=>
 (ik p0.fNumber p1.fNumber).bind λr78=>
 (mE ([r14,r78])).bind λr89=>
 some r89
def eG (p0:aa) (p1:aa) (p2:List Int):Option Int:=
 (lK p2 p0.fRow).bind λr12=>
 (lK p2 p1.fRow).bind λr19=>
 (oY r12 r19).bind λr24=>
 (lx p0.fId p1.fId).bind λr94=>
 (mE ([r24,r94])).bind λr105=>
 some r105
def cy (x6:Int) (x19:List aa):Option ((Int×List aa)⊕List aa):=
 some (.inl (Z0.wrap (x6+1),x19))
def aX (x6:Int) (x30:Int) (x32:List aa) (x39:Bool):Option ((Int×List aa)⊕((Int×List aa)⊕List aa)):=
 if x39 then
  (ix x32 (Z0.wrap (x30 - 1))).bind λj42=>
  (x32[j42]?).bind λx45=>
  (ix x32 x30).bind λj47=>
  (x32[j47]?).bind λx50=>
  (ix x32 x30).bind λj52=>
  (x32[j52]?).bind λx56=>
  (ix (x32.set j52 x45) (Z0.wrap (x30 - 1))).bind λj134=>
  ((x32.set j52 x45)[j134]?).bind λx139=>
  some (.inl (Z0.wrap (x30 - 1),((x32.set j52 x45).set j134 x50)))
 else
  (cy x6 x32).map Sum.inr
def aY (p1:Int) (p3:(aa→aa→Option Int)) (x6:Int) (x30:Int) (x32:List aa):Option ((Int×List aa)⊕((Int×List aa)⊕List aa)):=
 if decide (p1<x30) then
  (ix x32 x30).bind λj146=>
  (x32[j146]?).bind λx149=>
  (ix x32 (Z0.wrap (x30 - 1))).bind λj151=>
  (x32[j151]?).bind λx154=>
  (p3 x149 x154).bind λr249=>
  aX x6 x30 x32 (decide (r249<0))
 else
  aX x6 x30 x32 false
def bh (p1:Int) (p2:Int) (p3:(aa→aa→Option Int)) (x6:Int) (x8:List aa):Option ((Int×List aa)⊕List aa):=
 if decide (x6<p2) then
  au (λs:(Int×List aa)=>aY p1 p3 x6 s.1 s.2) (x6,x8)
 else
  (some x8).map Sum.inr
def ce (p0:List aa) (p1:Int) (p2:Int) (p3:(aa→aa→Option Int)):Option (List aa):=
 au (λs:(Int×List aa)=>bh p1 p2 p3 s.1 s.2) (Z0.wrap (p1+1),p0)
def bF (p1:Int) (p2:Int) (p3:Int) (x4:Int) (x6:List aa):Option ((Int×List aa)⊕List aa):=
 if decide (x4<p3) then
  (ix x6 (Z0.wrap (p2+x4))).bind λj15=>
  (x6[j15]?).bind λx18=>
  (ix x6 (Z0.wrap (p1+x4))).bind λj20=>
  (x6[j20]?).bind λx23=>
  (ix x6 (Z0.wrap (p1+x4))).bind λj25=>
  (x6[j25]?).bind λx29=>
  (ix (x6.set j25 x18) (Z0.wrap (p2+x4))).bind λj137=>
  ((x6.set j25 x18)[j137]?).bind λx142=>
  some (.inl (Z0.wrap (x4+1),((x6.set j25 x18).set j137 x23)))
 else
  (some x6).map Sum.inr
def cc (p0:List aa) (p1:Int) (p2:Int) (p3:Int) (p4:(aa→aa→Option Int)):Option (List aa):=
 au (λs:(Int×List aa)=>bF p1 p2 p3 s.1 s.2) (0,p0)
def d6 (p2:Int) (p4:(aa→aa→Option Int)) (x11:Int) (x13:List aa):Option (List aa):=
 (cc x13 (Z0.wrap (p2 - x11)) p2 x11 p4).bind λr24=>
 some r24
def bB (p2:Int) (p4:(aa→aa→Option Int)) (x33:Int) (x35:Int) (x37:List aa):Option ((Int×Int×List aa)⊕List aa):=
 if x33 != x35 then
  if decide (x35<x33) then
   (cc x37 (Z0.wrap (p2 - x33)) p2 x35 p4).bind λr57=>
   some (.inl (Z0.wrap (x33 - x35),x35,r57))
  else
   (cc x37 (Z0.wrap (p2 - x33)) (Z0.wrap ((Z0.wrap (p2+x35)) - x33)) x33 p4).bind λr79=>
   some (.inl (x33,Z0.wrap (x35 - x33),r79))
 else
  (d6 p2 p4 x33 x37).map Sum.inr
def cA (p0:List aa) (p1:Int) (p2:Int) (p3:Int) (p4:(aa→aa→Option Int)):Option (List aa):=
 au (λs:(Int×Int×List aa)=>bB p2 p4 s.1 s.2.1 s.2.2) (Z0.wrap (p2 - p1),Z0.wrap (p3 - p2),p0)
def dO (x19:List aa):Option (List aa):=
 some x19
def bI (x12:Int) (x25:Int) (x27:List aa):Option ((Int×List aa)⊕List aa):=
 if decide (x25<(Z0.wrap (x12 - 1))) then
  (ix x27 (Z0.wrap (x25+1))).bind λj37=>
  (x27[j37]?).bind λx40=>
  (ix x27 x25).bind λj42=>
  (x27[j42]?).bind λx45=>
  (ix x27 x25).bind λj47=>
  (x27[j47]?).bind λx51=>
  (ix (x27.set j47 x40) (Z0.wrap (x25+1))).bind λj129=>
  ((x27.set j47 x40)[j129]?).bind λx134=>
  some (.inl (Z0.wrap (x25+1),((x27.set j47 x40).set j129 x45)))
 else
  (dO x27).map Sum.inr
def cR (p0:List aa) (p1:Int) (x12:Int):Option (List aa):=
 au (λs:(Int×List aa)=>bI x12 s.1 s.2) (p1,p0)
def bV (p0:List aa) (p1:Int) (p4:(aa→aa→Option Int)) (x142:Int) (x144:Int):Option ((Int×Int)⊕List aa):=
 if decide (x142<x144) then
  (ix p0 (Z0.wrap (ay .u64 (Z2.wrap (Z0.wrap (x142+x144))) 1))).bind λj159=>
  (p0[j159]?).bind λx162=>
  (ix p0 p1).bind λj164=>
  (p0[j164]?).bind λx167=>
  (p4 x162 x167).bind λr215=>
  if decide (r215<0) then
   some (.inl (Z0.wrap ((Z0.wrap (ay .u64 (Z2.wrap (Z0.wrap (x142+x144))) 1))+1),x144))
  else
   some (.inl (x142,Z0.wrap (ay .u64 (Z2.wrap (Z0.wrap (x142+x144))) 1)))
 else
  (cR p0 p1 x142).map Sum.inr
def dP (x247:List aa):Option (List aa):=
 some x247
def bJ (x240:Int) (x253:Int) (x255:List aa):Option ((Int×List aa)⊕List aa):=
 if decide (x240<x253) then
  (ix x255 (Z0.wrap (x253 - 1))).bind λj264=>
  (x255[j264]?).bind λx267=>
  (ix x255 x253).bind λj269=>
  (x255[j269]?).bind λx272=>
  (ix x255 x253).bind λj274=>
  (x255[j274]?).bind λx278=>
  (ix (x255.set j274 x267) (Z0.wrap (x253 - 1))).bind λj356=>
  ((x255.set j274 x267)[j356]?).bind λx361=>
  some (.inl (Z0.wrap (x253 - 1),((x255.set j274 x267).set j356 x272)))
 else
  (dP x255).map Sum.inr
def cS (p0:List aa) (p2:Int) (x240:Int):Option (List aa):=
 au (λs:(Int×List aa)=>bJ x240 s.1 s.2) (p2,p0)
def bW (p0:List aa) (p2:Int) (p4:(aa→aa→Option Int)) (x369:Int) (x371:Int):Option ((Int×Int)⊕List aa):=
 if decide (x369<x371) then
  (ix p0 p2).bind λj386=>
  (p0[j386]?).bind λx389=>
  (ix p0 (Z0.wrap (ay .u64 (Z2.wrap (Z0.wrap (x369+x371))) 1))).bind λj391=>
  (p0[j391]?).bind λx394=>
  (p4 x389 x394).bind λr442=>
  if !(decide (r442<0)) then
   some (.inl (Z0.wrap ((Z0.wrap (ay .u64 (Z2.wrap (Z0.wrap (x369+x371))) 1))+1),x371))
  else
   some (.inl (x369,Z0.wrap (ay .u64 (Z2.wrap (Z0.wrap (x369+x371))) 1)))
 else
  (cS p0 p2 x369).map Sum.inr
def cM (p1:Int) (p2:Int) (p3:Int) (p4:(aa→aa→Option Int)) (self_:((List aa)→Int→Int→Int→(aa→aa→Option Int)→Option (List aa))) (x485:Int) (x508:List aa) (x514:Bool):Option (List aa):=
 if x514 then
  (self_ x508 (Z0.wrap (ay .u64 (Z2.wrap (Z0.wrap (p1+p3))) 1)) (Z0.wrap ((Z0.wrap ((Z0.wrap (ay .u64 (Z2.wrap (Z0.wrap (p1+p3))) 1))+p2)) - x485)) p3 p4).bind λr522=>
  some r522
 else
  some x508
def cj (p1:Int) (p2:Int) (p3:Int) (p4:(aa→aa→Option Int)) (self_:((List aa)→Int→Int→Int→(aa→aa→Option Int)→Option (List aa))) (x485:Int) (x508:List aa):Option (List aa):=
 if decide ((Z0.wrap (ay .u64 (Z2.wrap (Z0.wrap (p1+p3))) 1))<(Z0.wrap ((Z0.wrap ((Z0.wrap (ay .u64 (Z2.wrap (Z0.wrap (p1+p3))) 1))+p2)) - x485))) then
  cM p1 p2 p3 p4 self_ x485 x508 (decide ((Z0.wrap ((Z0.wrap ((Z0.wrap (ay .u64 (Z2.wrap (Z0.wrap (p1+p3))) 1))+p2)) - x485))<p3))
 else
  cM p1 p2 p3 p4 self_ x485 x508 false
def cT (p1:Int) (p2:Int) (p3:Int) (p4:(aa→aa→Option Int)) (self_:((List aa)→Int→Int→Int→(aa→aa→Option Int)→Option (List aa))) (x485:Int) (x498:List aa) (x504:Bool):Option (List aa):=
 if x504 then
  (self_ x498 p1 x485 (Z0.wrap (ay .u64 (Z2.wrap (Z0.wrap (p1+p3))) 1)) p4).bind λr545=>
  cj p1 p2 p3 p4 self_ x485 r545
 else
  cj p1 p2 p3 p4 self_ x485 x498
def cm (p1:Int) (p2:Int) (p3:Int) (p4:(aa→aa→Option Int)) (self_:((List aa)→Int→Int→Int→(aa→aa→Option Int)→Option (List aa))) (x485:Int) (x498:List aa):Option (List aa):=
 if decide (p1<x485) then
  cT p1 p2 p3 p4 self_ x485 x498 (decide (x485<(Z0.wrap (ay .u64 (Z2.wrap (Z0.wrap (p1+p3))) 1))))
 else
  cT p1 p2 p3 p4 self_ x485 x498 false
def cU (p0:List aa) (p1:Int) (p2:Int) (p3:Int) (p4:(aa→aa→Option Int)) (self_:((List aa)→Int→Int→Int→(aa→aa→Option Int)→Option (List aa))) (x485:Int) (x494:Bool):Option (List aa):=
 if x494 then
  (cA p0 x485 p2 (Z0.wrap ((Z0.wrap ((Z0.wrap (ay .u64 (Z2.wrap (Z0.wrap (p1+p3))) 1))+p2)) - x485)) p4).bind λr568=>
  cm p1 p2 p3 p4 self_ x485 r568
 else
  cm p1 p2 p3 p4 self_ x485 p0
def cp (p0:List aa) (p1:Int) (p2:Int) (p3:Int) (p4:(aa→aa→Option Int)) (self_:((List aa)→Int→Int→Int→(aa→aa→Option Int)→Option (List aa))) (x485:Int):Option (List aa):=
 if decide (x485<p2) then
  cU p0 p1 p2 p3 p4 self_ x485 (decide (p2<(Z0.wrap ((Z0.wrap ((Z0.wrap (ay .u64 (Z2.wrap (Z0.wrap (p1+p3))) 1))+p2)) - x485))))
 else
  cU p0 p1 p2 p3 p4 self_ x485 false
def ct (p0:List aa) (p1:Int) (p2:Int) (p3:Int) (p4:(aa→aa→Option Int)) (self_:((List aa)→Int→Int→Int→(aa→aa→Option Int)→Option (List aa))) (x587:Int) (x589:Int):Option ((Int×Int)⊕List aa):=
 if decide (x587<x589) then
  (ix p0 (Z0.wrap ((Z0.wrap ((Z0.wrap ((Z0.wrap (ay .u64 (Z2.wrap (Z0.wrap (p1+p3))) 1))+p2)) - 1)) - (Z0.wrap (ay .u64 (Z2.wrap (Z0.wrap (x587+x589))) 1))))).bind λj604=>
  (p0[j604]?).bind λx607=>
  (ix p0 (Z0.wrap (ay .u64 (Z2.wrap (Z0.wrap (x587+x589))) 1))).bind λj609=>
  (p0[j609]?).bind λx612=>
  (p4 x607 x612).bind λr670=>
  if !(decide (r670<0)) then
   some (.inl (Z0.wrap ((Z0.wrap (ay .u64 (Z2.wrap (Z0.wrap (x587+x589))) 1))+1),x589))
  else
   some (.inl (x587,Z0.wrap (ay .u64 (Z2.wrap (Z0.wrap (x587+x589))) 1)))
 else
  (cp p0 p1 p2 p3 p4 self_ x587).map Sum.inr
def cu (p0:List aa) (p1:Int) (p2:Int) (p3:Int) (p4:(aa→aa→Option Int)) (self_:((List aa)→Int→Int→Int→(aa→aa→Option Int)→Option (List aa))) (x475:Int) (x477:Int):Option (List aa):=
 au (λs:(Int×Int)=>ct p0 p1 p2 p3 p4 self_ s.1 s.2) (x475,x477)
def cX (self_ : ((List aa) → Int → Int → Int → (aa → aa → Option Int) → Option (List aa))) (p0 : List aa) (p1 : Int) (p2 : Int) (p3 : Int) (p4 : (aa → aa → Option Int)) : Option (List aa) :=
 if (Z0.wrap (p2 - p1))==1 then
  au (λs:(Int×Int)=>bV p0 p1 p4 s.1 s.2) (p2,p3)
 else
  if (Z0.wrap (p3 - p2))==1 then
   au (λs:(Int×Int)=>bW p0 p2 p4 s.1 s.2) (p1,p2)
  else
   if decide ((Z0.wrap (ay .u64 (Z2.wrap (Z0.wrap (p1+p3))) 1))<p2) then
    cu p0 p1 p2 p3 p4 self_ (Z0.wrap ((Z0.wrap ((Z0.wrap (ay .u64 (Z2.wrap (Z0.wrap (p1+p3))) 1))+p2)) - p3)) (Z0.wrap (ay .u64 (Z2.wrap (Z0.wrap (p1+p3))) 1))
   else
    cu p0 p1 p2 p3 p4 self_ p1 p2
def cY:Nat→(List aa)→Int→Int→Int→(aa→aa→Option Int)→Option (List aa)
 |0=>λ_ _ _ _ _=>none
 |n+1=>cX (cY n)
def du (p0:List aa)(p1:Int)(p2:Int)(p3:Int)(p4:(aa→aa→Option Int)):Option (List aa):=cY (p0.length+1) p0 p1 p2 p3 p4
def cD (x26:Int) (x58:List aa):Option ((Int×List aa)⊕List aa):=
 some (.inl (Z0.wrap (x26*2),x58))
def dh (p1:Int) (p2:(aa→aa→Option Int)) (x26:Int) (x43:Int) (x45:List aa):Option ((Int×List aa)⊕List aa):=
 if decide ((Z0.wrap (x43+x26))<p1) then
  (du x45 x43 (Z0.wrap (x43+x26)) p1 p2).bind λr71=>
  cD x26 r71
 else
  cD x26 x45
def bP (p1:Int) (p2:(aa→aa→Option Int)) (x26:Int) (x80:Int) (x82:Int) (x84:List aa):Option ((Int×Int×List aa)⊕((Int×List aa)⊕List aa)):=
 if decide (x82≤p1) then
  (du x84 x80 (Z0.wrap (x80+x26)) x82 p2).bind λr100=>
  some (.inl (x82,Z0.wrap (x82+(Z0.wrap (2*x26))),r100))
 else
  (dh p1 p2 x26 x80 x84).map Sum.inr
def a7 (p1:Int) (p2:(aa→aa→Option Int)) (x26:Int) (x28:List aa):Option ((Int×List aa)⊕List aa):=
 if decide (x26<p1) then
  au (λs:(Int×Int×List aa)=>bP p1 p2 x26 s.1 s.2.1 s.2.2) (0,Z0.wrap (2*x26),x28)
 else
  (some x28).map Sum.inr
def d7 (p1:Int) (p2:(aa→aa→Option Int)) (x7:Int) (x9:List aa):Option (List aa):=
 (ce x9 x7 p1 p2).bind λr17=>
 au (λs:(Int×List aa)=>a7 p1 p2 s.1 s.2) (20,r17)
def bC (p1:Int) (p2:(aa→aa→Option Int)) (x116:Int) (x118:Int) (x120:List aa):Option ((Int×Int×List aa)⊕List aa):=
 if decide (x118≤p1) then
  (ce x120 x116 x118 p2).bind λr133=>
  some (.inl (x118,Z0.wrap (x118+20),r133))
 else
  (d7 p1 p2 x116 x120).map Sum.inr
def eS (p0:List aa) (p1:Int) (p2:(aa→aa→Option Int)):Option (List aa):=
 au (λs:(Int×Int×List aa)=>bC p1 p2 s.1 s.2.1 s.2.2) (0,20,p0)
def dF (p0:List aa) (p1:(aa→aa→Option Int)):Option (List aa):=
 (eS p0 (p0.length:Int) p1).bind λr5=>
 some r5
def iJ (p0:List Int) (x12:List aa):Option (List aa):=
 (dF x12 (λy0_ y1_=>eG y0_ y1_ p0)).bind λr23=>
 some r23
def iK (p0:List Int) (p1:List aa) (x43:Int) (x45:List aa):Option ((Int×List aa)⊕List aa):=
 if decide (x43<(p1.length:Int)) then
  (idx p1 x43).bind λx54=>
  (nz x54).bind λr68=>
  (app 2932031007402 x45 ([r68])).bind λz78=>
  some (.inl (Z0.wrap (x43+1),z78))
 else
  (iJ p0 x45).map Sum.inr
def fG (p0:List Int) (p1:List aa):Option (List aa):=
 au (λs:(Int×List aa)=>iK p0 p1 s.1 s.2) (0,([]:List aa))
def GP (x6:List Ap):Option (List Ap):=
 some x6
def sP (x14:List Ap) (x17:Int) (x39:Ap):Option ((List Ap×Int)⊕List Ap):=
 (app 3518437208883 x14 ([x39])).bind λz50=>
 some (.inl (z50,Z0.wrap (x17+1)))
def sQ (p0:List Int) (p1:List Ap) (x14:List Ap) (x17:Int) (x35:Bool):Option ((List Ap×Int)⊕List Ap):=
 if x35 then
  (idx p0 x17).bind λx64=>
  (idx p1 x64).bind λx71=>
  sP x14 x17 x71
 else
  sP x14 x17 (⟨0,false,0,[]⟩:Ap)
def wm (p0:List Int) (p1:List Ap) (x14:List Ap) (x17:Int):Option ((List Ap×Int)⊕List Ap):=
 if decide (x17<(p0.length:Int)) then
  (idx p0 x17).bind λx82=>
  if decide (0≤x82) then
   (idx p0 x17).bind λx94=>
   sQ p0 p1 x14 x17 (decide (x94<(p1.length:Int)))
  else
   sQ p0 p1 x14 x17 false
 else
  (GP x14).map Sum.inr
def zj (p0:List Int) (p1:List Ap):Option (List Ap):=
 au (λs:(List Ap×Int)=>wm p0 p1 s.1 s.2) ([],0)
def zk (p0:List Ap) (p1:List Ap):Option Int:=
 if decide ((p0.length:Int)<(p1.length:Int)) then
  some (-1)
 else
  some 0
def zl (p0 : List Ap) (p1 : List Ap) (x16 : Int) : Option (Int ⊕ Int) :=
 if decide (x16 < (p0.length : Int)) then
  if x16==(p1.length:Int) then
   (some 1).map Sum.inr
  else
   (idx p0 x16).bind λx31=>
   (idx p1 x16).bind λx35=>
   (jK x31 x35).bind λr81=>
   if r81 != 0 then
    (some r81).map Sum.inr
   else
    some (.inl (Z0.wrap (x16+1)))
 else
  (zk p0 p1).map Sum.inr
def Al (p0:List Ap) (p1:List Ap):Option Int:=
 au (λs:Int=>zl p0 p1 s) 0
def wo (p0:aL) (p1:aL):Option Bool:=
 if p0.fEpoch != p1.fEpoch then
  some (decide (p0.fEpoch<p1.fEpoch))
 else
  some (decide (p0.fNumber<p1.fNumber))
def wq (p0:List Int) (p1:aa) (p2:aa):Option Bool:=
 (zj p0 p1.fRow).bind λr11=>
 (zj p0 p2.fRow).bind λr53=>
 (Al r11 r53).bind λr59=>
 if r59 != 0 then
  some (decide (r59<0))
 else
  (wo p1.fId p2.fId).bind λr79=>
  some r79
def C1 (x6:List aa):Option (List aa):=
 some x6
def rQ (x17:Int) (x28:List aa):Option ((List aa×Int)⊕List aa):=
 some (.inl (x28,Z0.wrap (x17+1)))
def oZ (p1:List aa) (x14:List aa) (x17:Int) (x40:Int):Option ((List aa×Int)⊕List aa):=
 (sub x14 0 x40).bind λx47=>
 (app 2932031007402 ([]) x47).bind λz51=>
 (idx p1 x17).bind λx61=>
 (app 2932031007402 z51 ([x61])).bind λz71=>
 (sub x14 x40 x14.length).bind λx81=>
 (app 2932031007402 z71 x81).bind λz85=>
 rQ x17 z85
def kE (p0:List Int) (p1:List aa) (x14:List aa) (x17:Int) (x96:Int):Option (Int⊕((List aa×Int)⊕List aa)):=
 if decide (0<x96) then
  (idx p1 x17).bind λx103=>
  (idx x14 (Z0.wrap (x96 - 1))).bind λx107=>
  (wq p0 x103 x107).bind λr162=>
  if !r162 then
   (oZ p1 x14 x17 x96).map Sum.inr
  else
   some (.inl (Z0.wrap (x96 - 1)))
 else
  (oZ p1 x14 x17 x96).map Sum.inr
def wt (p0:List Int) (p1:List aa) (x14:List aa) (x17:Int):Option ((List aa×Int)⊕List aa):=
 if decide (x17<(p1.length:Int)) then
  au (λs:Int=>kE p0 p1 x14 x17 s) (x14.length:Int)
 else
  (C1 x14).map Sum.inr
def wu (p0:List Int) (p1:List aa):Option (List aa):=
 au (λs:(List aa×Int)=>wt p0 p1 s.1 s.2) ([],0)
def vB:Option Int:=
 some (-1)
def gL (p0:List Int) (p1:Int) (x11:Int):Option (Int⊕Int):=
 if decide (x11<(p0.length:Int)) then
  (idx p0 x11).bind λx22=>
  if p1==x22 then
   (some x11).map Sum.inr
  else
   some (.inl (Z0.wrap (x11+1)))
 else
  (vB).map Sum.inr
def lc (p0:List Int) (p1:Int):Option Int:=
 au (λs:Int=>gL p0 p1 s) 0
def gM (p0:List Int) (p1:Int):Option Bool:=
 (lc p0 p1).bind λr4=>
 some (decide (0≤r4))
def jn (x20:Bool):Option Bool:=
 some x20
def jo (p0 : Int) (p1 : aa) (x16 : Bool) : Option Bool :=
 if (p1.fRow.length : Int) == p0 then
  if decide (1≤p1.fId.fEpoch) then
   if decide (p1.fId.fEpoch≤9223372036854775807) then
    jn (!x16)
   else
    jn false
  else
   jn false
 else
  jn false
def ld (p0:Int) (p1:aa):Option Bool:=
 if p1.fDeleted != 0 then
  if decide (p1.fDeleted≤p1.fId.fEpoch) then
   jo p0 p1 true
  else
   jo p0 p1 (decide (9223372036854775807<p1.fDeleted))
 else
  jo p0 p1 false
def lf (p0:Int) (p1:aa) (x98:Int):Option (Int⊕Bool):=
 if decide (x98<(p1.fRow.length:Int)) then
  (idx p1.fRow x98).bind λx104=>
  (lG x104).bind λr117=>
  if !r117 then
   (some false).map Sum.inr
  else
   some (.inl (Z0.wrap (x98+1)))
 else
  (ld p0 p1).map Sum.inr
def ly (p0:Int) (p1:aa):Option Bool:=
 au (λs:Int=>lf p0 p1 s) 0
def mg (x29:List aL):Option Int:=
 some 0
def fH (x37:Int) (x39:List aL) (x47:aa) (x63:Bool):Option ((Int×List aL)⊕Int):=
 if x63 then
  (some 81).map Sum.inr
 else
  some (.inl (Z0.wrap (x37+1),(x47.fId::x39)))
def dv (p0:Int) (p2:List aa) (x37:Int) (x39:List aL):Option ((Int×List aL)⊕Int):=
 if decide (x37<(p2.length:Int)) then
  (idx p2 x37).bind λx47=>
  (ly p0 x47).bind λr72=>
  if !r72 then
   fH x37 x39 x47 true
  else
   fH x37 x39 x47 (decide (1<(jz (x47.fId::x39) x47.fId)))
 else
  (mg x39).map Sum.inr
def eH (p0:Int) (p2:List aa):Option Int:=
 if decide (4096<(p2.length:Int)) then
  some 81
 else
  au (λs:(Int×List aL)=>dv p0 p2 s.1 s.2) (0,([]:List aL))
def eI (x91:Int) (x109:Bool):Option (Int⊕Int):=
 if x109 then
  (some 1).map Sum.inr
 else
  some (.inl (Z0.wrap (x91+1)))
def fI (p0 : Int) (p1 : List Int) (p2 : List aa) (x91 : Int) : Option (Int ⊕ Int) :=
 if decide (x91 < (p1.length : Int)) then
  (idx p1 x91).bind λx98=>
  if decide (x98<0) then
   eI x91 true
  else
   if decide (p0≤x98) then
    eI x91 true
   else
    (sub p1 0 x91).bind λx131=>
    (gM x131 x98).bind λr136=>
    eI x91 r136
 else
  (eH p0 p2).map Sum.inr
def fJ (p0:Int) (p1:List Int) (p2:List aa) (x4:Bool):Option Int:=
 if x4 then
  some 1
 else
  au (λs:Int=>fI p0 p1 p2 s) 0
def eu (p0:Int) (p1:List Int) (p2:List aa):Option Int:=
 if decide (p0<1) then
  fJ p0 p1 p2 true
 else
  fJ p0 p1 p2 (decide (8<p0))
def ff (p0:List Int) (p1:Int):Option (List Int):=
 (app 140737488355328 p0 ([Z4.wrap (ay .i64 p1 24),Z4.wrap (ay .i64 p1 16),Z4.wrap (ay .i64 p1 8),Z4.wrap p1])).bind λz18=>
 some z18
def xD (x8:List Ap):Option (List Ap):=
 some x8
def gB (x19:Int) (x43:List Ap):Option ((List Ap×Int)⊕List Ap):=
 some (.inl (x43,Z0.wrap (x19+1)))
def mX (p0 : Int) (p1 : Int) (p2 : List aa) (x16 : List Ap) (x19 : Int) : Option ((List Ap × Int) ⊕ List Ap) :=
 if decide (x19 < (p2.length : Int)) then
  (idx p2 x19).bind λx25=>
  if (Z0.wrap (p1 - p0))==0 then
   (eE (Z0.wrap x25.fId.fEpoch)).bind λr57=>
   (app 3518437208883 x16 ([r57])).bind λz67=>
   gB x19 z67
  else
   if (Z0.wrap (p1 - p0))==1 then
    (eE (Z0.wrap x25.fId.fNumber)).bind λr84=>
    (app 3518437208883 x16 ([r84])).bind λz94=>
    gB x19 z94
   else
    if (Z0.wrap (p1 - p0))==2 then
     (eE (Z0.wrap x25.fDeleted)).bind λr110=>
     (app 3518437208883 x16 ([r110])).bind λz120=>
     gB x19 z120
    else
     (idx x25.fRow p1).bind λx132=>
     (app 3518437208883 x16 ([x132])).bind λz142=>
     gB x19 z142
 else
  (xD x16).map Sum.inr
def gS (p0:Int) (p1:Int) (p2:List aa):Option (List Ap):=
 au (λs:(List Ap×Int)=>mX p0 p1 p2 s.1 s.2) ([],0)
def cK {σ:Type} (step:(σ→(List Ap)→Option (σ×Bool))) (p1:List Ap) (p2:Int) (x4:Int) (x6:σ):Option ((Int×σ)⊕σ):=
 if decide (x4<(p1.length:Int)) then
  (sub p1 x4 p1.length).bind λx21=>
  (sub p1 x4 (Z0.wrap (x4+(if (x21.length:Int)<p2 then (x21.length:Int) else p2)))).bind λx68=>
  (step x6 x68).bind λr72=>
  if !r72.2 then
   (some r72.1).map Sum.inr
  else
   some (.inl (Z0.wrap (x4+p2),r72.1))
 else
  (some x6).map Sum.inr
def gr {σ:Type} (step:(σ→(List Ap)→Option (σ×Bool))) (s0_:σ) (p1:List Ap) (p2:Int):Option σ:=
 au (λs:(Int×σ)=>cK step p1 p2 s.1 s.2) (0,s0_)
def ga (p1:List Ap) (p2:Int):Option (List (List Ap)):=
 gr (λ(s:List (List Ap)) x=>some (s++[x],true)) [] p1 p2
def iu (p0:List Ap) (p1:Int):Option (List (List Ap)):=
 (ga p0 p1).bind λx23=>
 some x23
def il (p0:List Ap) (p1:Int):Option (List (List Ap)):=
 if decide (p1<1) then
  none
 else
  iu p0 p1
def qY (p0:Int) (p1:List Ap):Option Bool:=
 (fj p0 p1).bind λr4=>
 some (r4.2==0)
def gC (x17:List Int) (x20:List Ap) (x44:Int):Option (List Int×Bool):=
 (ni x44 x20).bind λr49=>
 (app 140737488355328 x17 r49.1).bind λz67=>
 some (z67,true)
def eX (p0:Int) (x17:List Int) (x20:List Ap):Option (List Int×Bool):=
 (qY p0 x20).bind λr35=>
 if !r35 then
  gC x17 x20 (-1)
 else
  gC x17 x20 p0
def gT (p0:Int) (p1:List Ap):Option (List Int):=
 (il p1 64).bind λr9=>
 (fT (λ(s:List Int) (x:List Ap)=>eX p0 s x) ([]:(List Int)) r9).bind λy78=>
 if y78.2 then
  some y78.1
 else
  none
def dU (x78:List Int):Option (List Int×Int):=
 (fF x78).bind λr84=>
 (ff x78 (Z0.wrap r84)).bind λr92=>
 some (r92,0)
def eJ (p0:Int) (r22:List aa) (x102:List Int) (x105:Int) (x120:Int):Option ((List Int×Int)⊕(List Int×Int)):=
 (gS p0 x105 r22).bind λr127=>
 (gT x120 r127).bind λr133=>
 (ff x102 (r133.length:Int)).bind λr143=>
 (app 140737488355328 r143 r133).bind λz150=>
 some (.inl (z150,Z0.wrap (x105+1)))
def dV (p0:Int) (p2:List Int) (r22:List aa) (x102:List Int) (x105:Int) (x116:Bool):Option ((List Int×Int)⊕(List Int×Int)):=
 if x116 then
  (idx p2 x105).bind λx162=>
  eJ p0 r22 x102 x105 x162
 else
  eJ p0 r22 x102 x105 (-1)
def dW (p0:Int) (p2:List Int) (r22:List aa) (x102:List Int) (x105:Int):Option ((List Int×Int)⊕(List Int×Int)):=
 if decide (x105<(Z0.wrap (p0+3))) then
  if decide (x105<p0) then
   dV p0 p2 r22 x102 x105 (decide (x105<(p2.length:Int)))
  else
   dV p0 p2 r22 x102 x105 false
 else
  (dU x102).map Sum.inr
def dX (p0:Int) (p2:List Int) (r22:List aa) (x59:List Int):Option (List Int×Int):=
 (ff x59 (r22.length:Int)).bind λr66=>
 au (λs:(List Int×Int)=>dW p0 p2 r22 s.1 s.2) (r66,0)
def eK (p0:Int) (p1:List Int) (p2:List Int) (r22:List aa) (x183:List Int) (x186:Int):Option ((List Int×Int)⊕(List Int×Int)):=
 if decide (x186<(p1.length:Int)) then
  (idx p1 x186).bind λx192=>
  (app 140737488355328 x183 ([Z4.wrap x192])).bind λz207=>
  some (.inl (z207,Z0.wrap (x186+1)))
 else
  (dX p0 p2 r22 x183).map Sum.inr
def gF (p0:Int) (p1:List Int) (p2:List Int) (p3:List aa):Option (List Int×Int):=
 (eu p0 p1 p3).bind λr6=>
 if r6 != 0 then
  some ([],r6)
 else
  (fG p1 p3).bind λr22=>
  (app 140737488355328 ([72,65,89,49]) ([Z4.wrap p0,Z4.wrap (p1.length:Int)])).bind λz47=>
  au (λs:(List Int×Int)=>eK p0 p1 p2 r22 s.1 s.2) (z47,0)
def dp (p0:List Int):Option Int:=
 (idx p0 0).bind λx2=>
 (idx p0 1).bind λx7=>
 (idx p0 2).bind λx12=>
 (idx p0 3).bind λx17=>
 some (bOr .i64 (bOr .i64 (bOr .i64 (dx .i64 (Z0.wrap x2) 24) (dx .i64 (Z0.wrap x7) 16)) (dx .i64 (Z0.wrap x12) 8)) (Z0.wrap x17))
def gt (x63:aI) (x85:Int) (x87:List Int) (x90:Bool):Option (Int×List Int×Bool×aI):=
 some (x85,x87,x90,x63)
def iS (x29:Int) (x39:List Int) (x63:aI):Option (Int×List Int×Bool×aI):=
 (sub x39 (Z0.wrap x29) x39.length).bind λx71=>
 (dp x71).bind λr75=>
 (sub x39 (Z0.wrap ((Z0.wrap x29)+4)) x39.length).bind λx92=>
 (eu x63.fColumns x63.fSort ([])).bind λr98=>
 if r98==0 then
  gt x63 r75 x92 (decide (r75≤4096))
 else
  gt x63 r75 x92 false
def gu (x29:Int) (x39:List Int) (x55:List Int) (x305:Int) (x307:aI):Option ((Int×aI)⊕(Int×List Int×Bool×aI)):=
 if decide (x305<(x55.length:Int)) then
  (idx x55 x305).bind λx316=>
  (app 17592186044416 x307.fSort ([Z0.wrap x316])).bind λz336=>
  some (.inl (Z0.wrap (x305+1),{ x307 with fSort:=z336 }))
 else
  (iS x29 x39 x307).map Sum.inr
def eT (p1:List Int) (x6:Bool):Option (Int×List Int×Bool×aI):=
 if x6 then
  some (0,[],false,aI.zero)
 else
  (idx p1 4).bind λx14=>
  (idx p1 5).bind λx29=>
  (sub p1 6 p1.length).bind λx39=>
  if decide ((x39.length:Int)<(Z0.wrap ((Z0.wrap x29)+4))) then
   some (0,[],false,{ aI.zero with fColumns:=Z0.wrap x14 })
  else
   (sub x39 0 (Z0.wrap x29)).bind λx55=>
   au (λs:(Int×aI)=>gu x29 x39 x55 s.1 s.2) (0,{ aI.zero with fColumns:=Z0.wrap x14 })
def iL (p1:List Int):Option (Int×List Int×Bool×aI):=
 if decide ((p1.length:Int)<6) then
  eT p1 true
 else
  (sub p1 0 4).bind λx357=>
  (LL x357).bind λx361=>
  eT p1 (!decide (x361=(72,65,89,49)))
def ko (p1:Int) (x6:List Ap):Option (List Ap×Bool):=
 some (x6,(x6.length:Int)==p1)
def iM (x19:List Int) (x22:List Ap) (r32:List Ap×Int×Int) (x54:Bool):Option ((List Int×List Ap)⊕(List Ap×Bool)):=
 if x54 then
  (some ([],false)).map Sum.inr
 else
  (app 3518437208883 x22 r32.1).bind λz59=>
  (sub x19 r32.2.1 x19.length).bind λx65=>
  some (.inl (x65,z59))
def iN (p1:Int) (x19:List Int) (x22:List Ap):Option ((List Int×List Ap)⊕(List Ap×Bool)):=
 if decide (0<(x19.length:Int)) then
  (k8 x19).bind λr32=>
  if r32.2.2 != 0 then
   iM x19 x22 r32 true
  else
   iM x19 x22 r32 ((r32.1.length:Int) != (if (Z0.wrap (p1 - (x22.length:Int)))<64 then Z0.wrap (p1 - (x22.length:Int)) else 64))
 else
  (ko p1 x22).map Sum.inr
def i6 (p0:List Int) (p1:Int):Option (List Ap×Bool):=
 au (λs:(List Int×List Ap)=>iN p1 s.1 s.2) (p0,[])
def iT (x7:List aa):Option (Bool×List aa):=
 some (true,x7)
def dw (x14:Int) (x64:List aa):Option ((Int×List aa)⊕(Bool×List aa)):=
 some (.inl (Z0.wrap (x14+1),x64))
def dY (p0 : aI) (p1 : Int) (x14 : Int) (x16 : List aa) (x24 : Ap) (j42 : Nat) (x48 : Bool) : Option ((Int × List aa) ⊕ (Bool × List aa)) :=
 if x48 then
  (some (false,x16)).map Sum.inr
 else
  if (Z0.wrap (p1 - p0.fColumns))==0 then
   (x16[j42]?).bind λx82=>
   dw x14 (x16.set j42 ({ x82 with fId:={ x82.fId with fEpoch:=Z2.wrap x24.fInt } }))
  else
   if (Z0.wrap (p1 - p0.fColumns))==1 then
    if decide (4294967295<x24.fInt) then
     (some (false,x16)).map Sum.inr
    else
     (x16[j42]?).bind λx106=>
     dw x14 (x16.set j42 ({ x106 with fId:={ x106.fId with fNumber:=Zn.wrap x24.fInt } }))
   else
    if (Z0.wrap (p1 - p0.fColumns))==2 then
     (x16[j42]?).bind λx122=>
     dw x14 (x16.set j42 ({ x122 with fDeleted:=Z2.wrap x24.fInt }))
    else
     (x16[j42]?).bind λx126=>
     (app 3518437208883 x126.fRow ([x24])).bind λz132=>
     (x16[j42]?).bind λx182=>
     dw x14 (x16.set j42 ({ x182 with fRow:=z132 }))
def dZ (p0 : aI) (p1 : Int) (p2 : List Ap) (x14 : Int) (x16 : List aa) : Option ((Int × List aa) ⊕ (Bool × List aa)) :=
 if decide (x14 < (p2.length : Int)) then
  (idx p2 x14).bind λx24=>
  (ix x16 x14).bind λj42=>
  if decide (p0.fColumns≤p1) then
   if x24.fKind != 2 then
    dY p0 p1 x14 x16 x24 j42 true
   else
    dY p0 p1 x14 x16 x24 j42 (decide (x24.fInt<0))
  else
   dY p0 p1 x14 x16 x24 j42 false
 else
  (iT x16).map Sum.inr
def iO (p0:aI) (pA:List aa) (p1:Int) (p2:List Ap):Option (Bool×List aa):=
 au (λs:(Int×List aa)=>dZ p0 p1 p2 s.1 s.2) (0,pA)
def qr:Option Bool:=
 some true
def im (p0:List aa) (p1:List aa) (p2:(aa→aa→Option Bool)) (x18:Int):Option (Int⊕Bool):=
 if decide (x18<(p0.length:Int)) then
  (idx p0 x18).bind λx25=>
  (idx p1 x18).bind λx39=>
  (p2 x25 x39).bind λr55=>
  if !r55 then
   (some false).map Sum.inr
  else
   some (.inl (Z0.wrap (x18+1)))
 else
  (qr).map Sum.inr
def eL (p0:List aa) (p1:List aa) (p2:(aa→aa→Option Bool)):Option Bool:=
 if (p0.length:Int) != (p1.length:Int) then
  some false
 else
  au (λs:Int=>im p0 p1 p2 s) 0
def ez (p0:aa) (p1:aa):Option Bool:=
 some (decide (p0.fId=p1.fId))
def gN (p0:(Option aI)):Option Bool:=
 (p0).bind λx2=>
 (p0).bind λx7=>
 (fG x2.fSort x7.fL).bind λr52=>
 (p0).bind λx61=>
 (eL r52 x61.fL ez).bind λr69=>
 some r69
def jM (r24:Int×List Int×Bool×aI) (x79:List aa) (x92:Bool):Option ((Option aI)×Int):=
 if x92 then
  some ((none:(Option aI)),80)
 else
  some ((some ({ r24.2.2.2 with fL:=x79 })),0)
def lY (r24:Int×List Int×Bool×aI) (x75:List Int) (x79:List aa):Option ((Option aI)×Int):=
 if decide (0<(x75.length:Int)) then
  jM r24 x79 true
 else
  ((some ({ r24.2.2.2 with fL:=x79 }))).bind λx138=>
  ((some ({ r24.2.2.2 with fL:=x79 }))).bind λx144=>
  ((some ({ r24.2.2.2 with fL:=x79 }))).bind λx149=>
  (eu x138.fColumns x144.fSort x149.fL).bind λr229=>
  if r229 != 0 then
   jM r24 x79 true
  else
   (gN (some ({ r24.2.2.2 with fL:=x79 }))).bind λr242=>
   jM r24 x79 (!r242)
def jN (x252:List Int) (x255:Int) (r275:Int) (x307:Bool) (x309:List aa):Option ((List Int×Int×List aa)⊕((Option aI)×Int)):=
 if x307 then
  (some ((none:(Option aI)),80)).map Sum.inr
 else
  (sub x252 (Z0.wrap (4+r275)) x252.length).bind λx319=>
  some (.inl (x319,Z0.wrap (x255+1),x309))
def jO (r24:Int×List Int×Bool×aI) (x252:List Int) (x255:Int) (x258:List aa) (x269:Bool):Option ((List Int×Int×List aa)⊕((Option aI)×Int)):=
 if x269 then
  (some ((none:(Option aI)),80)).map Sum.inr
 else
  (dp x252).bind λr275=>
  (sub x252 4 (Z0.wrap (4+r275))).bind λx286=>
  (i6 x286 r24.1).bind λr291=>
  if !r291.2 then
   jN x252 x255 r275 true x258
  else
   (iO r24.2.2.2 x258 x255 r291.1).bind λr334=>
   jN x252 x255 r275 (!r334.1) r334.2
def gv (r24:Int×List Int×Bool×aI) (x252:List Int) (x255:Int) (x258:List aa):Option ((List Int×Int×List aa)⊕((Option aI)×Int)):=
 if decide (x255<(Z0.wrap (r24.2.2.2.fColumns+3))) then
  if decide ((x252.length:Int)<4) then
   jO r24 x252 x255 x258 true
  else
   (dp x252).bind λr354=>
   jO r24 x252 x255 x258 (decide ((x252.length:Int)<(Z0.wrap (4+r354))))
 else
  (lY r24 x252 x258).map Sum.inr
def jP (p0:List Int) (x10:Bool):Option ((Option aI)×Int):=
 if x10 then
  some ((none:(Option aI)),80)
 else
  (sub p0 0 (Z0.wrap ((p0.length:Int) - 4))).bind λx20=>
  (iL x20).bind λr24=>
  if !r24.2.2.1 then
   some ((none:(Option aI)),80)
  else
   (mk 5864062014805 r24.1 aa.zero).bind λz52=>
   au (λs:(List Int×Int×List aa)=>gv r24 s.1 s.2.1 s.2.2) (r24.2.1,0,z52)
def fg (p0:List Int):Option ((Option aI)×Int):=
 if decide ((p0.length:Int)<4) then
  jP p0 true
 else
  (sub p0 (Z0.wrap ((p0.length:Int) - 4)) p0.length).bind λx397=>
  (dp x397).bind λr400=>
  (sub p0 0 (Z0.wrap ((p0.length:Int) - 4))).bind λx406=>
  (fF x406).bind λr484=>
  jP p0 (r400 != (Z0.wrap r484))
def cZ (p0:aa) (p1:aL):Option Bool:=
 some (decide (p0.fId=p1))
def qs:Option Int:=
 some (-1)
def dR (p0:List aa) (p1:(aa→Option Bool)) (x11:Int):Option (Int⊕Int):=
 if decide (x11<(p0.length:Int)) then
  (idx p0 x11).bind λx22=>
  (p1 x22).bind λr28=>
  if r28 then
   (some x11).map Sum.inr
  else
   some (.inl (Z0.wrap (x11+1)))
 else
  (qs).map Sum.inr
def eM (p0:List aa) (p1:(aa→Option Bool)):Option Int:=
 au (λs:Int=>dR p0 p1 s) 0
def iP (p0:(Option aI)) (p1:aL):Option (Int×Bool):=
 (p0).bind λx8=>
 (eM x8.fL (λy0_=>cZ y0_ p1)).bind λr20=>
 some ((if r20<0 then 0 else r20),decide (0≤r20))
def oc (p0:(Option aI)):Option Int:=
 (p0).bind λx3=>
 some (x3.fL.length:Int)
def nA (x87:Bool):Option Bool:=
 some x87
def lL (r46 : ((Option aI) × Int)) (x63 : Bool) : Option Bool :=
 if x63 then
  some false
 else
  (iP r46.1 (⟨1,0⟩:aL)).bind λr70=>
  (oc r46.1).bind λr90=>
  if r90==2 then
   if r70.1==1 then
    nA r70.2
   else
    nA false
  else
   nA false
def pI:Option Bool:=
 (gF 1 ([0]) ([]) ([(⟨(⟨1,0⟩:aL),[(⟨2,false,2,[]⟩:Ap)],0⟩:aa),(⟨(⟨2,0⟩:aL),[(⟨2,false,1,[]⟩:Ap)],0⟩:aa)])).bind λr30=>
 (fg r30.1).bind λr46=>
 if r30.2 != 0 then
  lL r46 true
 else
  if r46.2 != 0 then
   lL r46 true
  else
   lL r46 r46.1.isNone
def BM:Option Int:=
 some 0
def vt (x24:Int):Option (Int⊕Int):=
 some (.inl (Z0.wrap (x24+1)))
def nS (p2:List aa) (x24:Int) (x41:aa) (x65:Int):Option (Int⊕(Int⊕Int)):=
 if decide (x65<x24) then
  (idx p2 x65).bind λx73=>
  if decide (x73.fId=x41.fId) then
   ((some 81).map Sum.inr).map Sum.inr
  else
   some (.inl (Z0.wrap (x65+1)))
 else
  (vt x24).map Sum.inr
def lz (p2:List aa) (x24:Int) (x41:aa):Option (Int⊕Int):=
 au (λs:Int=>nS p2 x24 x41 s) 0
def nU (p2:List aa) (x24:Int) (x41:aa) (x125:Int):Option (Int⊕(Int⊕Int)):=
 if decide (x125<(x41.fRow.length:Int)) then
  (idx x41.fRow x125).bind λx140=>
  (uH x140).bind λr146=>
  if !r146 then
   ((some 81).map Sum.inr).map Sum.inr
  else
   some (.inl (Z0.wrap (x125+1)))
 else
  (lz p2 x24 x41).map Sum.inr
def gG (p2:List aa) (x24:Int) (x41:aa) (x54:Bool):Option (Int⊕Int):=
 if x54 then
  (some 81).map Sum.inr
 else
  au (λs:Int=>nU p2 x24 x41 s) 0
def nV (p0 : Int) (p2 : List aa) (x24 : Int) : Option (Int ⊕ Int) :=
 if decide (x24 < (p2.length : Int)) then
  (idx p2 x24).bind λx41=>
  if (x41.fRow.length:Int) != p0 then
   gG p2 x24 x41 true
  else
   if x41.fId.fEpoch==0 then
    gG p2 x24 x41 true
   else
    if decide (9223372036854775807<x41.fId.fEpoch) then
     gG p2 x24 x41 true
    else
     if decide (9223372036854775807<x41.fDeleted) then
      gG p2 x24 x41 true
     else
      if x41.fDeleted != 0 then
       gG p2 x24 x41 (decide (x41.fDeleted≤x41.fId.fEpoch))
      else
       gG p2 x24 x41 false
 else
  (BM).map Sum.inr
def lA (p0:Int) (p2:List aa):Option Int:=
 if decide (4096<(p2.length:Int)) then
  some 81
 else
  au (λs:Int=>nV p0 p2 s) 0
def vu (x233:Int):Option (Int⊕Int):=
 some (.inl (Z0.wrap (x233+1)))
def nW (p1:List Int) (x233:Int) (x257:Int):Option (Int⊕(Int⊕Int)):=
 if decide (x257<x233) then
  (idx p1 x257).bind λx265=>
  (idx p1 x233).bind λx270=>
  if x265==x270 then
   ((some 1).map Sum.inr).map Sum.inr
  else
   some (.inl (Z0.wrap (x257+1)))
 else
  (vu x233).map Sum.inr
def nY (p1:List Int) (x233:Int) (x250:Bool):Option (Int⊕Int):=
 if x250 then
  (some 1).map Sum.inr
 else
  au (λs:Int=>nW p1 x233 s) 0
def nZ (p0:Int) (p1:List Int) (p2:List aa) (x233:Int):Option (Int⊕Int):=
 if decide (x233<(p1.length:Int)) then
  (idx p1 x233).bind λx329=>
  if decide (x329<0) then
   nY p1 x233 true
  else
   (idx p1 x233).bind λx342=>
   nY p1 x233 (decide (p0≤x342))
 else
  (lA p0 p2).map Sum.inr
def n5 (p0:Int) (p1:List Int) (p2:List aa) (x4:Bool):Option Int:=
 if x4 then
  some 1
 else
  au (λs:Int=>nZ p0 p1 p2 s) 0
def uQ (p0:Int) (p1:List Int) (p2:List aa):Option Int:=
 if decide (p0<1) then
  n5 p0 p1 p2 true
 else
  n5 p0 p1 p2 (decide (8<p0))
def C2 (x6:List Ap):Option (List Ap):=
 some x6
def kF (x17:Int) (x31:List Ap):Option ((List Ap×Int)⊕List Ap):=
 some (.inl (x31,Z0.wrap (x17+1)))
def rR (p0 : Int) (p1 : Int) (p2 : List aa) (x14 : List Ap) (x17 : Int) : Option ((List Ap × Int) ⊕ List Ap) :=
 if decide (x17 < (p2.length : Int)) then
  if decide (p1<p0) then
   (idx p2 x17).bind λx42=>
   (idx x42.fRow p1).bind λx52=>
   (app 3518437208883 x14 ([x52])).bind λz62=>
   kF x17 z62
  else
   if p1==p0 then
    (idx p2 x17).bind λx76=>
    (app 3518437208883 x14 ([(⟨2,false,Z0.wrap x76.fId.fEpoch,[]⟩:Ap)])).bind λz96=>
    kF x17 z96
   else
    if p1==(Z0.wrap (p0+1)) then
     (idx p2 x17).bind λx111=>
     (app 3518437208883 x14 ([(⟨2,false,Z0.wrap x111.fId.fNumber,[]⟩:Ap)])).bind λz131=>
     kF x17 z131
    else
     (idx p2 x17).bind λx141=>
     (app 3518437208883 x14 ([(⟨2,false,Z0.wrap x141.fDeleted,[]⟩:Ap)])).bind λz158=>
     kF x17 z158
 else
  (C2 x14).map Sum.inr
def wv (p0:Int) (p1:Int) (p2:List aa):Option (List Ap):=
 au (λs:(List Ap×Int)=>rR p0 p1 p2 s.1 s.2) ([],0)
def C3 (x6:List Int):Option (List Int):=
 some x6
def o4 (x14:List Int) (x17:Int) (x33:List Ap) (x61:Int):Option ((List Int×Int)⊕List Int):=
 (yu x61 x33).bind λr66=>
 (app 140737488355328 x14 r66.1).bind λz83=>
 some (.inl (z83,Z0.wrap (x17+64)))
def rS (p0:Int) (p1:List Ap) (x14:List Int) (x17:Int):Option ((List Int×Int)⊕List Int):=
 if decide (x17<(p1.length:Int)) then
  (sub p1 x17 (if (p1.length:Int)<(Z0.wrap (x17+64)) then (p1.length:Int) else Z0.wrap (x17+64))).bind λx33=>
  (qq p0 x33).bind λr42=>
  if r42.2 != 0 then
   o4 x14 x17 x33 (-1)
  else
   o4 x14 x17 x33 p0
 else
  (C3 x14).map Sum.inr
def ww (p0:Int) (p1:List Ap):Option (List Int):=
 au (λs:(List Int×Int)=>rS p0 p1 s.1 s.2) ([],0)
def tF (x66:List Int):Option (List Int×Int):=
 (zi x66).bind λr72=>
 (oz (Z2.wrap r72) 4).bind λr80=>
 (app 140737488355328 x66 r80).bind λz86=>
 some (z86,0)
def qd (p0:Int) (r22:List aa) (x96:List Int) (x99:Int) (x115:Int):Option ((List Int×Int)⊕(List Int×Int)):=
 (wv p0 x99 r22).bind λr122=>
 (ww x115 r122).bind λr128=>
 (oz (Z2.wrap (r128.length:Int)) 4).bind λr139=>
 (app 140737488355328 x96 r139).bind λz145=>
 (app 140737488355328 z145 r128).bind λz154=>
 some (.inl (z154,Z0.wrap (x99+1)))
def nB (p0:Int) (p2:List Int) (r22:List aa) (x96:List Int) (x99:Int) (x111:Bool):Option ((List Int×Int)⊕(List Int×Int)):=
 if x111 then
  (idx p2 x99).bind λx167=>
  qd p0 r22 x96 x99 x167
 else
  qd p0 r22 x96 x99 (-1)
def qe (p0:Int) (p2:List Int) (r22:List aa) (x96:List Int) (x99:Int):Option ((List Int×Int)⊕(List Int×Int)):=
 if decide (x99<(Z0.wrap (p0+3))) then
  if decide (x99<p0) then
   nB p0 p2 r22 x96 x99 (decide (x99<(p2.length:Int)))
  else
   nB p0 p2 r22 x96 x99 false
 else
  (tF x96).map Sum.inr
def tG (p0:Int) (p2:List Int) (p3:List aa) (r22:List aa) (x42:List Int):Option (List Int×Int):=
 (oz (Z2.wrap (p3.length:Int)) 4).bind λr50=>
 (app 140737488355328 x42 r50).bind λz56=>
 au (λs:(List Int×Int)=>qe p0 p2 r22 s.1 s.2) (z56,0)
def tH (p0:Int) (p1:List Int) (p2:List Int) (p3:List aa) (r22:List aa) (x188:List Int) (x191:Int):Option ((List Int×Int)⊕(List Int×Int)):=
 if decide (x191<(p1.length:Int)) then
  (idx p1 x191).bind λx203=>
  (app 140737488355328 x188 ([Z4.wrap x203])).bind λz215=>
  some (.inl (z215,Z0.wrap (x191+1)))
 else
  (tG p0 p2 p3 r22 x188).map Sum.inr
def yv (p0:Int) (p1:List Int) (p2:List Int) (p3:List aa):Option (List Int×Int):=
 (uQ p0 p1 p3).bind λr6=>
 if r6 != 0 then
  some ([],r6)
 else
  (wu p1 p3).bind λr22=>
  au (λs:(List Int×Int)=>tH p0 p1 p2 p3 r22 s.1 s.2) ([72,65,89,49,Z4.wrap p0,Z4.wrap (p1.length:Int)],0)
structure IN where
 fColumn:Int
 fOp:Int
 fValue:Ap
 deriving DecidableEq
def IN.zero:IN:=⟨0,0,Ap.zero⟩
end
set_option linter.unusedVariables false
noncomputable section
end
set_option linter.unusedVariables false
noncomputable section
def i7 (p0:List Int) (p1:Int):Option (List Int):=
 (app 140737488355328 p0 ([Z4.wrap (ay .i64 p1 24),Z4.wrap (ay .i64 p1 16),Z4.wrap (ay .i64 p1 8),Z4.wrap p1])).bind λz18=>
 some z18
def o5 (p0:List Int) (x17:Int):Option (Int×List Int):=
 some (xV .u32 x17,p0)
def iv (p0:List Int) (x7:List Int) (x25:Int) (x27:Int):Option ((Int×Int)⊕(Int×List Int)):=
 if decide (x27<(p0.length:Int)) then
  (ix p0 x27).bind λj33=>
  (p0[j33]?).bind λx37=>
  (ix x7 (cL .u32 (cx .u32 x25 (Zn.wrap x37)) 15)).bind λj49=>
  (x7[j49]?).bind λx53=>
  (ix x7 (cL .u32 (cx .u32 x53 (ay .u32 (cx .u32 x25 (Zn.wrap x37)) 4)) 15)).bind λj63=>
  (x7[j63]?).bind λx67=>
  some (.inl (cx .u32 x67 (ay .u32 (cx .u32 x53 (ay .u32 (cx .u32 x25 (Zn.wrap x37)) 4)) 4),Z0.wrap (x27+1)))
 else
  (o5 p0 x25).map Sum.inr
def lZ (p0:List Int) (x7:List Int):Option (Int×List Int):=
 au (λs:(Int×Int)=>iv p0 x7 s.1 s.2) (4294967295,0)
def l5 (x79:Int) (x90:List Int):Option ((Int×List Int)⊕(Int×List Int)):=
 some (.inl (Z0.wrap (x79+1),x90))
def l6 (x79:Int) (x81:List Int) (x104:Int):Option ((Int×List Int)⊕(Int×List Int)):=
 (ix x81 x79).bind λj109=>
 (x81[j109]?).bind λx114=>
 l5 x79 (x81.set j109 x104)
def iw (x79:Int) (x81:List Int) (x119:Int) (x121:Int):Option ((Int×Int)⊕((Int×List Int)⊕(Int×List Int))):=
 if decide (x121<4) then
  some (.inl (cx .u32 (ay .u32 x119 1) (Zn.wrap (3988292384*(cL .u32 x119 1))),Z0.wrap (x121+1)))
 else
  (l6 x79 x81 x119).map Sum.inr
def iy (p0:List Int) (x79:Int) (x81:List Int):Option ((Int×List Int)⊕(Int×List Int)):=
 if decide (x79<16) then
  au (λs:(Int×Int)=>iw x79 x81 s.1 s.2) (Zn.wrap x79,0)
 else
  (lZ p0 x81).map Sum.inr
def o6 (p0:List Int):Option (Int×List Int):=
 au (λs:(Int×List Int)=>iy p0 s.1 s.2) (0,(Z3 16 0:List Int))
def fK (x86:List Int):Option (List Int×Int):=
 (o6 x86).bind λr94=>
 (i7 r94.2 (Z0.wrap r94.1)).bind λr104=>
 some (r104,0)
def fM (p0:Int) (r22:List aa) (x117:Int) (x119:List Int) (x137:Int):Option ((Int×List Int)⊕(List Int×Int)):=
 (gS p0 x117 r22).bind λr144=>
 (gT x137 r144).bind λr150=>
 (i7 x119 (r150.length:Int)).bind λr160=>
 (app 140737488355328 r160 r150).bind λz170=>
 some (.inl (Z0.wrap (x117+1),z170))
def fN (p0:Int) (p2:List Int) (r22:List aa) (x117:Int) (x119:List Int) (x133:Bool):Option ((Int×List Int)⊕(List Int×Int)):=
 if x133 then
  (idx p2 x117).bind λx185=>
  fM p0 r22 x117 x119 x185
 else
  fM p0 r22 x117 x119 (-1)
def fO (p0:Int) (p2:List Int) (r22:List aa) (x117:Int) (x119:List Int):Option ((Int×List Int)⊕(List Int×Int)):=
 if decide (x117<(Z0.wrap (p0+3))) then
  if decide (x117<p0) then
   fN p0 p2 r22 x117 x119 (decide (x117<(p2.length:Int)))
  else
   fN p0 p2 r22 x117 x119 false
 else
  (fK x119).map Sum.inr
def fP (p0:Int) (p2:List Int) (r22:List aa) (x62:List Int):Option (List Int×Int):=
 (i7 x62 (r22.length:Int)).bind λr71=>
 au (λs:(Int×List Int)=>fO p0 p2 r22 s.1 s.2) (0,r71)
def fQ (p0:Int) (p1:List Int) (p2:List Int) (r22:List aa) (x206:Int) (x208:List Int):Option ((Int×List Int)⊕(List Int×Int)):=
 if decide (x206<(p1.length:Int)) then
  (idx p1 x206).bind λx217=>
  (app 140737488355328 x208 ([Z4.wrap x217])).bind λz232=>
  some (.inl (Z0.wrap (x206+1),z232))
 else
  (fP p0 p2 r22 x208).map Sum.inr
def jQ (p0:Int) (p1:List Int) (p2:List Int) (p3:List aa):Option (List Int×Int):=
 (eu p0 p1 p3).bind λr6=>
 if r6 != 0 then
  some (([]:List Int),r6)
 else
  (fG p1 p3).bind λr22=>
  (app 140737488355328 ([72,65,89,49]) ([Z4.wrap p0,Z4.wrap (p1.length:Int)])).bind λz47=>
  au (λs:(Int×List Int)=>fQ p0 p1 p2 r22 s.1 s.2) (0,z47)
def gO (x152:Bool):Option Bool:=
 some x152
def c8 (p1 : Int) (r19 : List Int × Int) (x39 : Bool) : Option Bool :=
 if x39 then
  (pI).bind λr42=>
  some r42
 else
  (ix r19.1 (Z0.wrap (p1.tdiv 8))).bind λj49=>
  (r19.1[j49]?).bind λx52=>
  (chk (decide (0≤(p1.tmod 8)))).bind λu55=>
  (ix r19.1 (Z0.wrap (p1.tdiv 8))).bind λj123=>
  (r19.1[j123]?).bind λx128=>
  (fg (r19.1.set j123 (cx .u8 x52 (dx .u8 1 (p1.tmod 8))))).bind λr135=>
  (pI).bind λr154=>
  if r154 then
   if r135.1.isNone then
    gO (r135.2==80)
   else
    gO false
  else
   gO false
def lg (p0:dc) (p1:Int):Option Bool:=
 (jQ p0.fColumns p0.fSort p0.fKinds p0.fL).bind λr19=>
 if r19.2 != 0 then
  c8 p1 r19 true
 else
  if decide (p1<0) then
   c8 p1 r19 true
  else
   c8 p1 r19 (decide ((Z0.wrap (8*(r19.1.length:Int)))≤p1))
end
theorem Fz {σ β:Type}{f:σ→Option (σ⊕β)}{n:Nat}{s:σ}{b:β}(h:ge f n s=some b):∃k,n=k+1∧((f s=some (.inr b))∨ ∃s',f s=some (.inl s')∧ge f k s'=some b):=by
 cases n with
 |zero=>cases h
 | succ k =>
  rw[ge] at h;cases hf:f s with
  |none=>rw[hf] at h;cases h
  |some r=>
   rw[hf] at h;cases r with
   |inl s'=>exact⟨k,rfl,.inr ⟨s',rfl,h⟩⟩
   |inr b'=>injection h with h;subst h;exact⟨k,rfl,.inl rfl⟩
abbrev FA {α:Type}:List α→α→Option (List α×Bool):=λs x=>some (s++[x],true)
theorem IP {ι σ α : Type} {step : σ → α → Option (σ × Bool)} {s : σ} {xs : List α} {r : σ × Bool} (F : {τ : Type} → (τ → α → Option (τ × Bool)) → ι → τ → Option ((ι × τ) ⊕ τ)) (c : ι → Bool) (el : ι → Option α) (nx : ι → ι)
  (hF:∀{τ:Type} (st:τ→α→Option (τ×Bool)) i s,F st i s=if c i then (el i).bind λx=>(st s x).bind λr=>if !r.2 then (some r.1).map Sum.inr else some (.inl (nx i,r.1)) else (some s).map Sum.inr)
  {i0:ι} (h:au (λs:ι×List α=>F FA s.1 s.2) (i0,[])=some xs) (hf:fT step s xs=some r):au (λs:ι×σ=>F step s.1 s.2) (i0,s)=some r.1:=by
 have key :∀ (k : Nat) (i : ι) (acc : List α) (out : List α), ge (λs : ι × List α => F FA s.1 s.2) k (i, acc) = some out →∃ ys, out = acc ++ ys ∧∀ (s : σ) r, fT step s ys = some r → au (λs : ι × σ => F step s.1 s.2) (i, s) = some r.1 := by
  intro k
  induction k with
  |zero=>intro i acc out h;cases h
  | succ k ih =>
   intro i acc out h;obtain⟨k',hk,g⟩:=Fz h;obtain rfl:k'=k:=by omega
   clear h;have h:=g;clear g;rcases h with h|⟨s',h1,h2⟩
   ·have h:F FA i acc=some (.inr out):=h
    rw[hF] at h
    by_cases hc:c i=true
    ·rw [if_pos hc] at h
     cases hx:el i with
     |none=>rw[hx] at h;cases h
     |some x=>rw[hx] at h;simp at h
    ·rw [if_neg hc] at h
     simp only[Option.map_some,Option.some.injEq,Sum.inr.injEq] at h;subst h;refine⟨[],by simp,λs r hf=>?_⟩;simp only[fT,Option.some.injEq] at hf;subst hf;refine aZ ?_;show F step i s=_;rw[hF,if_neg hc];rfl
   ·have h1 : F FA i acc = some (.inl s') := h1
    rw[hF] at h1
    by_cases hc:c i=true
    ·rw [if_pos hc] at h1
     cases hx:el i with
     |none=>rw[hx] at h1;cases h1
     | some x =>
      rw[hx] at h1;simp only[Z1,Bool.not_true,Zm,if_false,Option.some.injEq,Sum.inl.injEq] at h1;subst h1;obtain⟨ys,e,hall⟩:=ih _ _ _ h2;refine⟨x::ys,by rw[e];simp,λs r hf=>?_⟩;simp only[fT] at hf;cases hst:step s x with
      |none=>rw[hst] at hf;cases hf
      | some q =>
       rw[hst] at hf;simp only[Z1] at hf;cases hq:q.2 with
       | true =>
        rw[hq] at hf;simp only[if_true] at hf;rw[bL (s':=(nx i,q.1))]
        ·exact hall _ _ hf
        ·show F step i s=_
         rw[hF,if_pos hc,hx,Z1,hst,Z1,hq];rfl
       |false=>
        rw[hq] at hf;simp only[Zm,if_false,Option.some.injEq] at hf;subst hf;refine aZ ?_;show F step i s=_;rw[hF,if_pos hc,hx,Z1,hst,Z1,hq];rfl
    ·rw [if_neg hc] at h1
     cases h1
 obtain⟨k,hk⟩:=A0.1 h;obtain⟨ys,e,hall⟩:=key k _ _ _ hk;simp only[List.nil_append] at e;subst e;exact hall _ _ hf
theorem qZ {σ:Type}{step:σ→List Ap→Option (σ×Bool)}{s:σ}{xs:List (List Ap)}{p1:List Ap}{p2:Int}{r:σ×Bool}(h:ga p1 p2=some xs)(hf:fT step s xs=some r):gr step s p1 p2=some r.1:=by
 refine IP (λ{τ} st i s=>cK st p1 p2 i s) (λi=>decide (i<(p1.length:Int))) (λi=>(sub p1 i p1.length).bind λx21=>sub p1 i (Z0.wrap (i+(if (x21.length:Int)<p2 then (x21.length:Int) else p2)))) (λi=>Z0.wrap (i+p2)) (λst i s=>?_) h hf;simp only[cK,Option.bind_assoc]
theorem gH {σ β:Type} {f:σ→Option (σ⊕β)} (I:σ→Prop) (μ:σ→Nat) (Q:β→Prop)
  (step:∀s,I s→(∃s',f s=some (.inl s')∧I s'∧μ s'<μ s)∨ ∃b,f s=some (.inr b)∧Q b) {s:σ} (h:I s):∃b,au f s=some b∧Q b:=by
 generalize hn:μ s=n
 induction n using Nat.strongRecOn generalizing s with
 | _ n ih =>
  rcases step s h with⟨s',h1,h2,h3⟩|⟨b,h1,h2⟩
  ·obtain ⟨b,h4,h5⟩:=ih (μ s') (by omega) h2 rfl
   exact⟨b,by rw[bL h1];exact h4,h5⟩
  ·exact⟨b,aZ h1,h2⟩
theorem oA {σ β:Type} {f:σ→Option (σ⊕β)} (I:σ→Prop) (μ:σ→Nat) {b:β}
  (step:∀s,I s→(∃s',f s=some (.inl s')∧I s'∧μ s'<μ s)∨f s=some (.inr b)) {s:σ} (h:I s):au f s=some b:=by
 obtain⟨c,h1,rfl⟩:=gH I μ (λc=>c=b) (λs hs=>(step s hs).imp id λh=>⟨b,h,rfl⟩) h;exact h1
theorem am {n:Int}(h: -9223372036854775808≤n∧n≤9223372036854775807):Z0.wrap n=n:=by
 have:inR .i64 n:=by rw[l9];exact h
 exact this
theorem az {α:Type}{xs:List α}{i:Nat}(h:i<xs.length):idx xs (i:Int)=some xs[i]:=by
 unfold idx;rw[if_pos (by omega)];simp[h]
theorem aH {α:Type}{N:Nat}{xs ys:List α}(h:xs.length+ys.length≤N):app N xs ys=some (xs++ys):=by
 unfold app;rw[if_pos h]
theorem d3 {α:Type}{xs:List α}{lo hi:Nat}(h:lo≤hi)(h':hi≤xs.length):sub xs (lo:Int) (hi:Int)=some ((xs.take hi).drop lo):=by
 unfold sub;rw[if_pos (by omega)];simp
theorem bD (n:Int):Z2.wrap n=n%18446744073709551616:=by
 simp[IntKind.wrap,IntKind.bits,IntKind.signed]
theorem lM (n:Int):Zn.wrap n=n%4294967296:=by
 simp[IntKind.wrap,IntKind.bits,IntKind.signed]
theorem bj (n:Int):Z4.wrap n=n%256:=by
 simp[IntKind.wrap,IntKind.bits,IntKind.signed]
theorem qf {x:Int}{k:Nat}(hk:k≤64):ay .u64 x (k:Int)=x/2^k:=by
 unfold ay;rw[Zs _ (Int.le_of_lt (Int.pow_pos (by decide)))];congr 2;simp[IntKind.bits];omega
theorem QS {x:Int}{k:Nat}(hk:k≤8):ay .u8 x (k:Int)=x/2^k:=by
 unfold ay;rw[Zs _ (Int.le_of_lt (Int.pow_pos (by decide)))];congr 2;simp[IntKind.bits];omega
theorem zm {x:Int}{k:Nat}(hk:k≤64):dx .u64 x (k:Int)=(x*2^k)%18446744073709551616:=by
 unfold dx;rw[bD];congr 3;simp[IntKind.bits];omega
theorem JJ {a b:Nat}(ha:a<18446744073709551616)(hb:b<18446744073709551616):cL .u64 (a:Int) (b:Int)=((a&&&b:Nat):Int):=by
 unfold cL;rw[bD]
 have h1:(Zb Z2.bits (a:Int)).toNat=a:=by
  show(Zb 64 (a:Int)).toNat=a;rw[Z9];omega
 have h2:(Zb Z2.bits (b:Int)).toNat=b:=by
  show(Zb 64 (b:Int)).toNat=b;rw[Z9];omega
 rw[BitVec.toNat_and,h1,h2];have:a&&&b≤a:=Nat.and_le_left;omega
theorem IQ {a b:Nat}(ha:a<18446744073709551616)(hb:b<18446744073709551616):bOr .u64 (a:Int) (b:Int)=((a|||b:Nat):Int):=by
 unfold bOr;rw[bD]
 have h1:(Zb Z2.bits (a:Int)).toNat=a:=by
  show(Zb 64 (a:Int)).toNat=a;rw[Z9];omega
 have h2:(Zb Z2.bits (b:Int)).toNat=b:=by
  show(Zb 64 (b:Int)).toNat=b;rw[Z9];omega
 rw[BitVec.toNat_or,h1,h2];have:a|||b<2^64:=Nat.or_lt_two_pow (by simpa using ha) (by simpa using hb)
 have e:(2:Nat)^64=18446744073709551616:=by decide
 omega
def be8 (n:Int):List Int:=[n/2^56%256,n/2^48%256,n/2^40%256,n/2^32%256,n/2^24%256,n/2^16%256,n/2^8%256,n%256]
theorem sR (n:Int):md n=some (be8 n):=by
 unfold md
 have step:∀(l:List Int) (i:Nat),i<8→l.length≤8→gl n l (i:Int)=some (.inl (l++[n/2^(56 - 8*i)%256],((i+1:Nat):Int))):=by
  intro l i hi hl;unfold gl;have h1:decide ((i:Int)<8)=true:=by simpa using by omega
  have h2:Z0.wrap (8*(i:Int))=((8*i:Nat):Int):=by rw[am (by omega)];omega
  have h3:Z0.wrap (56 - ((8*i:Nat):Int))=((56 - 8*i:Nat):Int):=by rw[am (by omega)];omega
  have h4:Z0.wrap ((i:Int)+1)=((i+1:Nat):Int):=by rw[am (by omega)];omega
  rw[if_pos h1,h2,h3,qf (by omega),bj,h4];have h5:chk (decide (0≤((56 - 8*i:Nat):Int)))=some ():=by simp[chk]
  rw[h5,Z1,aH (by simp;omega),Z1]
 have e8:∀l:List Int,gl n l 8=some (.inr l):=λl=>by
  unfold gl;rw[if_neg (by decide)];rfl
 have s:∀(l:List Int) (i:Nat),i<8→l.length≤8→au (λs:(List Int×Int)=>gl n s.1 s.2) (l,(i:Int))=au (λs:(List Int×Int)=>gl n s.1 s.2) (l++[n/2^(56 - 8*i)%256],((i+1:Nat):Int)):=λl i hi hl=>bL (step l i hi hl);have:=s [] 0 (by omega) (by simp);rw[show((0:Nat):Int)=0 from rfl] at this;rw[this,s _ 1 (by omega) (by simp),s _ 2 (by omega) (by simp),s _ 3 (by omega) (by simp),s _ 4 (by omega) (by simp),s _ 5 (by omega) (by simp),s _ 6 (by omega) (by simp),s _ 7 (by omega) (by simp)];rw[show((7+1:Nat):Int)=8 from rfl,aZ (e8 _)];simp[be8]
theorem wy (n:Int):qp n=some (be8 n):=by
 unfold qp
 have step:∀(l:List Int) (i:Nat),i<8→l.length≤8→jl n l ((8*i:Nat):Int)=some (.inl (l++[n/2^(8*i)%256],(8*i:Nat) - 8)):=by
  intro l i hi hl;unfold jl;have h1:decide (0≤((8*i:Nat):Int))=true:=by simp;omega
  have h4:Z0.wrap (((8*i:Nat):Int) - 8)=((8*i:Nat):Int) - 8:=by rw[am (by omega)]
  rw[if_pos h1,qf (by omega),bj,h4];have h5:chk (decide (0≤((8*i:Nat):Int)))=some ():=by rw[h1];rfl
  rw[h5,Z1,aH (by simp;omega),Z1]
 have e8:∀l:List Int,jl n l (-8)=some (.inr l):=λl=>by
  unfold jl;rw[if_neg (by decide)];rfl
 have s:∀(l:List Int) (i:Nat),i<8→l.length≤8→au (λs:(List Int×Int)=>jl n s.1 s.2) (l,((8*i:Nat):Int))=au (λs:(List Int×Int)=>jl n s.1 s.2) (l++[n/2^(8*i)%256],((8*i:Nat):Int) - 8):=λl i hi hl=>bL (step l i hi hl);have e:∀i:Nat,((8*(i+1):Nat):Int) - 8=((8*i:Nat):Int):=λi=>by omega
 have:=s [] 7 (by omega) (by simp);rw[show((8*7:Nat):Int)=56 from rfl] at this;rw[this,show(56:Int) - 8=((8*6:Nat):Int) from rfl,s _ 6 (by omega) (by simp),e 5,s _ 5 (by omega) (by simp),e 4,s _ 4 (by omega) (by simp),e 3,s _ 3 (by omega) (by simp),e 2,s _ 2 (by omega) (by simp),e 1,s _ 1 (by omega) (by simp),e 0,s _ 0 (by omega) (by simp)];rw[show((8*0:Nat):Int) - 8= -8 from rfl,aZ (e8 _)];simp[be8]
def dA (l:List Int):Int:=l.foldl (λa c=>a*256+c) 0
theorem tI (l:List Int)(c:Int):dA (l++[c])=dA l*256+c:=by simp[dA]
theorem Am (l:List Int)(h:∀c∈l,0≤c∧c<256):0≤dA l∧dA l<256^l.length:=by
 have key:∀(r:List Int),(∀c∈r,0≤c∧c<256)→0≤dA r.reverse∧dA r.reverse<256^r.length:=by
  intro r
  induction r with
  |nil=>intro _;simp[dA]
  |cons c r ih=>
   intro h;obtain⟨h1,h2⟩:=ih (λx hx=>h x (by simp[hx]));have hc:=h c (by simp);rw[List.reverse_cons,tI,X3,Int.pow_succ];omega
 have:=key l.reverse (λc hc=>h c (by simpa using hc));simpa using this
theorem yw {n:Int}(h0:0≤n)(h1:n<18446744073709551616):dA (be8 n)=n:=by
 simp only[dA,be8,List.foldl_cons,List.foldl_nil];omega
theorem wz (n:Int):∀c∈be8 n,0≤c∧c<256:=by
 intro c hc;simp only[be8,X4,List.not_mem_nil,or_false] at hc;rcases hc with rfl|rfl|rfl|rfl|rfl|rfl|rfl|rfl<;>omega
theorem b9 (n:Int):(be8 n).length=8:=rfl
theorem aV {σ β:Type}{f:σ→Option (σ⊕β)}{s:σ}{b:β}(S:Nat→σ)(n:Nat)(h0:s=S 0)(step:∀i,i<n→f (S i)=some (.inl (S (i+1))))(fin:f (S n)=some (.inr b)):au f s=some b:=by
 have key:∀i,i≤n→au f s=au f (S i):=by
  intro i
  induction i with
  |zero=>intro _;rw[h0]
  |succ i ih=>intro h;rw[ih (by omega),bL (step i (by omega))]
 rw[key n (Zo n),aZ fin]
theorem uR {α β:Type} {f:Int→Option (Int⊕β)} (xs:List α) (p:α→Bool) (b0 b1:β) (step: ∀(i:Nat) (h:i<xs.length),p xs[i]=true→f (i:Int)=some (.inl ((i+1:Nat):Int)))
  (out:∀(i:Nat) (h:i<xs.length),p xs[i]=false→f (i:Int)=some (.inr b0)) (fin:f (xs.length:Int)=some (.inr b1)):au f 0=some (if xs.all p then b1 else b0):=by
 have key:∀k i:Nat,i+k=xs.length→au f (i:Int)=some (if (xs.drop i).all p then b1 else b0):=by
  intro k
  induction k with
  |zero=>
   intro i hi;have:i=xs.length:=by omega
   subst this;rw[aZ fin];simp
  |succ k ih=>
   intro i hi;have hlt:i<xs.length:=by omega
   rw[Zw hlt,List.all_cons];cases hp:p xs[i] with
   |true=>rw[bL (step i hlt hp),ih (i+1) (by omega)];simp
   |false=>rw[aZ (out i hlt hp)];simp
 have:=key xs.length 0 (by omega);simpa using this
theorem Bm {α β:Type} {f:Int→Option (Int⊕β)} (xs:List α) (p:α→Bool) (b0:Nat→β) (b1:β) (step: ∀(i:Nat) (h:i<xs.length),p xs[i]=false→f (i:Int)=some (.inl ((i+1:Nat):Int)))
  (out:∀(i:Nat) (h:i<xs.length),p xs[i]=true→f (i:Int)=some (.inr (b0 i))) (fin:f (xs.length:Int)=some (.inr b1)):au f 0=some (if xs.any p then b0 (xs.findIdx p) else b1):=by
 have key:∀k i:Nat,i+k=xs.length→au f (i:Int)=some (if (xs.drop i).any p then b0 (i+(xs.drop i).findIdx p) else b1):=by
  intro k
  induction k with
  |zero=>
   intro i hi;have:i=xs.length:=by omega
   subst this;rw[aZ fin];simp
  | succ k ih =>
   intro i hi;have hlt:i<xs.length:=by omega
   rw[Zw hlt,List.any_cons,List.findIdx_cons];cases hp:p xs[i] with
   |false=>
    rw[bL (step i hlt hp),ih (i+1) (by omega)];simp only[Bool.false_or,cond_false];congr 2;congr 1;omega
   |true=>rw[aZ (out i hlt hp)];simp
 have:=key xs.length 0 (by omega);simpa using this
theorem aT {i:Nat}(h:i<4611686018427387904):Z0.wrap ((i:Int)+1)=((i+1:Nat):Int):=by rw[am (by omega)];rfl
theorem rT {b:Bool}(h:b=true):chk b=some ():=by subst h;rfl

def Byt (l:List Int):Prop:= ∀c∈l,0≤c∧c<256
theorem Byt.nil:Byt []:=λc h=>by cases h
theorem Byt.cons {c:Int}{l:List Int}(h0:0≤c∧c<256)(h:Byt l):Byt (c::l):=λd hd=>by
 rcases X4.1 hd with rfl|hd
 ·exact h0
 ·exact h d hd
theorem Byt.head {c:Int}{l:List Int}(h:Byt (c::l)):0≤c∧c<256:=h c (by simp)
theorem Byt.tail {c:Int}{l:List Int}(h:Byt (c::l)):Byt l:=λd hd=>h d (by simp[hd])
theorem Byt.app {a b:List Int}(h:Byt a)(k:Byt b):Byt (a++b):=λc hc=>by
 rcases List.mem_append.1 hc with hc|hc
 ·exact h c hc
 ·exact k c hc
theorem Byt.take {a:List Int}(h:Byt a)(n:Nat):Byt (a.take n):=λc hc=>h c (List.mem_of_mem_take hc)
theorem Byt.drop {a:List Int}(h:Byt a)(n:Nat):Byt (a.drop n):=λc hc=>h c (List.mem_of_mem_drop hc)
theorem Byt.left {a b:List Int}(h:Byt (a++b)):Byt a:=λc hc=>h c (by simp[hc])
theorem Byt.right {a b:List Int}(h:Byt (a++b)):Byt b:=λc hc=>h c (by simp[hc])
def cW (n:Int):Prop:= -9223372036854775808≤n∧n≤9223372036854775807
structure VOK (v:Ap):Prop where
 kind:cW v.fKind
 int:cW v.fInt
 text:Byt v.fText
abbrev lh:Ap:=⟨0,false,0,[]⟩
abbrev B8 (b:Bool):Ap:=⟨1,b,0,[]⟩
abbrev iU (n:Int):Ap:=⟨2,false,n,[]⟩
abbrev xr (t:List Int):Ap:=⟨3,false,0,t⟩
def right (v:Ap):Bool:=
 if v.fKind==0 then decide (v=lh) else if v.fKind==1 then decide (v=B8 v.fBool) else if v.fKind==2 then decide (v=iU v.fInt) else
 if v.fKind==3 then decide (v=xr v.fText)&&decide ((v.fText.length:Int)≤64) else false
theorem i8 (v:Ap):lG v=some (right v):=by
 obtain⟨k,b,n,t⟩:=v;unfold lG right kO oM eE oN py;simp only[Z1]
 by_cases h0:k=0
 ·subst h0;rfl
 by_cases h1:k=1
 ·subst h1;rfl
 by_cases h2:k=2
 ·subst h2;rfl
 by_cases h3:k=3
 ·subst h3
  by_cases h:(⟨3,b,n,t⟩:Ap)=xr t
  ·simp[h]
  ·simp[h]
 have e0:(k==0)=false:=by simpa using h0
 have e1:(k==1)=false:=by simpa using h1
 have e2:(k==2)=false:=by simpa using h2
 have e3:(k==3)=false:=by simpa using h3
 simp only[e0,e1,e2,e3];rfl
theorem o7 (v:Ap):uH v=some (right v):=by
 obtain⟨k,b,n,t⟩:=v;unfold uH tj th tg nj right
 by_cases h0:k=0
 ·subst h0
  by_cases h:b=false∧n=0∧t=[]
  ·simp[h]
  ·simp[h]
 by_cases h1:k=1
 ·subst h1
  by_cases h:n=0∧t=[]
  ·simp[h]
  ·simp[h]
 by_cases h2:k=2
 ·subst h2
  by_cases h:b=false∧t=[]
  ·simp[h]
  ·simp[h]
 by_cases h3:k=3
 ·subst h3;simp
  by_cases h:b=false∧n=0
  ·simp[h]
  ·rw[if_neg h];simp;intro h5 h6;exact absurd ⟨h5,h6⟩ h
 have e0:(k==0)=false:=by simpa using h0
 have e1:(k==1)=false:=by simpa using h1
 have e2:(k==2)=false:=by simpa using h2
 have e3:(k==3)=false:=by simpa using h3
 simp only[e0,e1,e2,e3,Zm,if_false]
 by_cases h4:0≤k
 ·by_cases h5:k≤3
  ·omega
  ·simp[h5]
 ·simp[h4]
inductive Rgt:Ap→Prop
 |null:Rgt lh
 |bool (b:Bool):Rgt (B8 b)
 |int (n:Int) (h:cW n):Rgt (iU n)
 |text (t:List Int) (h:Byt t) (hl:t.length≤64):Rgt (xr t)
theorem Rgt.of {v:Ap}(h:VOK v)(hr:right v=true):Rgt v:=by
 unfold right at hr;split at hr
 ·have:=of_decide_eq_true hr;rw[this];exact .null
 split at hr
 ·have:=of_decide_eq_true hr;rw[this];exact .bool _
 split at hr
 ·have:=of_decide_eq_true hr;rw[this];exact .int _ h.int
 split at hr
 ·simp only [Bool.and_eq_true,decide_eq_true_eq] at hr
  rw[hr.1];exact .text _ h.text (by omega)
 ·cases hr
theorem Rgt.right {v:Ap}(h:Rgt v):right v=true:=by
 cases h with
 |null=>rfl
 |bool b=>cases b<;>rfl
 |int n _=>simp[Go.Proofs.YthbonoagbeilkaaGreat.Hay.right]
 |text t _ hl=>simp[Go.Proofs.YthbonoagbeilkaaGreat.Hay.right];omega
theorem Rgt.ok {v:Ap}(h:Rgt v):VOK v:=by
 cases h with
 |null=>exact⟨by simp[cW],by simp[cW],Byt.nil⟩
 |bool b=>exact⟨by simp[cW],by simp[cW],Byt.nil⟩
 |int n h=>exact⟨by simp[cW],h,Byt.nil⟩
 |text t h _=>exact⟨by simp[cW],by simp[cW],h⟩
def bq (v:Ap):List Int:=
 if v.fKind=1 then [1,if v.fBool then 1 else 0] else if v.fKind=2 then 2::be8 (v.fInt%18446744073709551616) else if v.fKind=3 then 3::(v.fText.length:Int)::v.fText else [v.fKind]
theorem GQ:bq lh=[0]:=rfl
theorem GT (b:Bool):bq (B8 b)=[1,if b then 1 else 0]:=rfl
theorem uS (n:Int):bq (iU n)=2::be8 (n%18446744073709551616):=rfl
theorem sS (t:List Int):bq (xr t)=3::(t.length:Int)::t:=rfl
theorem rU {v:Ap}(h:Rgt v):Byt (bq v):=by
 cases h with
 |null=>exact .cons (by decide) .nil
 |bool b=>exact .cons (by decide) (.cons (by cases b<;>decide) .nil)
 |int n h=>exact .cons (by decide) (wz _)
 |text t h hl=>exact .cons (by decide) (.cons (by show 0≤(t.length:Int)∧(t.length:Int)<256;omega) h)
theorem ej {v:Ap}(h:Rgt v):1≤(bq v).length∧(bq v).length≤66:=by
 cases h with
 |null=>decide
 |bool b=>cases b<;>decide
 |int n h=>rw[uS];simp[b9]
 |text t h hl=>rw[sS];simp;omega
theorem BN {p:List Int}(n:Int)(hp:p.length+8≤140737488355328):mr p n=some (p++be8 n):=by
 unfold mr;refine aV (λi=>((i:Int),(be8 n).take i++Z3 (8 - i) 0)) 8 rfl ?_ ?_
 ·intro i hi
  dsimp only;unfold lp;have h1:decide ((i:Int)<8)=true:=by simpa using by omega
  have h2:Z0.wrap (8*(i:Int))=((8*i:Nat):Int):=by rw[am (by omega)];omega
  have h3:Z0.wrap (56 - ((8*i:Nat):Int))=((56 - 8*i:Nat):Int):=by rw[am (by omega)];omega
  rw[if_pos h1,h2,h3,qf (by omega),bj,aT (by omega),rT (by simp),Z1];have hl:((be8 n).take i++Z3 (8 - i) (0:Int)).length=8:=by simp[b9];omega
  have hj:ix ((be8 n).take i++Z3 (8 - i) (0:Int)) (i:Int)=some i:=by unfold ix;rw[if_pos (by rw[hl];omega)];simp
  rw[hj,Z1,Z7 (by omega),Z1];have:i=0∨i=1∨i=2∨i=3∨i=4∨i=5∨i=6∨i=7:=by omega
  rcases this with rfl|rfl|rfl|rfl|rfl|rfl|rfl|rfl<;>simp[be8,Z3]
 ·unfold lp nL
  have e:(be8 n).take 8++Z3 (8 - 8) (0:Int)=be8 n:=by simp[be8]
  dsimp only;rw[if_neg (by simp)];rw[e,aH (by simp[b9];omega)];rfl
theorem DX {p:List Int}{v:Ap}(h:Rgt v)(hp:p.length+66≤140737488355328):uG p v=some (p++bq v):=by
 unfold uG;rw[aH (by simp;omega),Z1];cases h with
 |null=>simp[bq,bj]
 | bool b =>
  cases b
  ·simp only [bq,bj]
   rw[if_pos (by decide),if_neg (by decide),aH (by simp;omega)];simp
  ·simp only [bq,bj]
   rw[if_pos (by decide),if_pos (by decide),aH (by simp;omega)];simp
 |int n h=>
  simp only[bj,bD,bq];rw[if_neg (by decide),if_pos (by decide),BN _ (by simp;omega)];simp
 |text t h hl=>
  simp only[bj,bq];rw[if_neg (by decide),if_neg (by decide),if_pos (by decide),aH (by simp;omega),Z1,aH (by simp;omega)];simp;omega
theorem DY (l:List Ap)(hl:l.length≤281474976710656):rE l=some (l.all right&&decide (l.length≤16)):=by
 have h:rE l=some (if l.all right then decide ((l.length:Int)≤16) else false):=by
  unfold rE;refine uR l right _ _ (λi h hp=>?_) (λi h hp=>?_) ?_
  ·unfold pX
   rw[if_pos (by simpa using h),az h,Z1,i8,Z1,hp,if_neg (by decide),aT (by omega)]
  ·unfold pX
   rw[if_pos (by simpa using h),az h,Z1,i8,Z1,hp];rfl
  ·unfold pX xG
   rw[if_neg (by simp)];rfl
 rw[h];cases l.all right<;>simp;omega
def uT (l:List Ap):List Int:=(l.length:Int)::l.flatMap bq
theorem jp {l:List Ap}(h:∀v∈l,Rgt v):(l.flatMap bq).length≤66*l.length:=by
 induction l with
 |nil=>simp
 |cons v r ih=>
  have:=(ej (h v (by simp))).2;have:=ih (λx hx=>h x (by simp[hx]));rw[List.flatMap_cons,List.length_append,X3];omega
theorem mh {α:Type}{l:List α}{f:α→List Int}{i:Nat}(h:i<l.length):(l.take (i+1)).flatMap f=(l.take i).flatMap f++f l[i]:=by
 rw[Za h,List.flatMap_append,List.flatMap_singleton]
theorem ud {l:List Ap}(h:∀v∈l,Rgt v)(hl:l.length≤16):nf l=some (uT l,0):=by
 unfold nf;rw[DY l (by omega),Z1];have ha:l.all right=true:=by rw[List.all_eq_true];exact λv hv=>(h v hv).right
 rw[ha,if_neg (by simpa using hl)];refine aV (λi=>((l.length:Int)::(l.take i).flatMap bq,(i:Int))) l.length (by simp[bj];omega) (λi hi=>?_) ?_
 ·dsimp only
  unfold pB;have:=jp (l:=l.take i) λv hv=>h v (List.mem_of_mem_take hv);rw[if_pos (by simpa using hi),az hi,Z1,DX (h _ (Zk hi)) (by simp at this ⊢;omega),Z1,aT (by omega),mh hi]
  rfl
 ·unfold pB t7
  rw[if_neg (by simp)];simp[uT]
theorem qH {v:Ap}(h:Rgt v):kP v=some (bq v):=by
 unfold kP;rw[ud (l:=[v]) (by simpa using h) (by simp),Z1]
 have:sub (uT [v]) 1 ((uT [v]).length:Int)=some (bq v):=by
  have:=d3 (xs:=uT [v]) (lo:=1) (hi:=(uT [v]).length) (by simp[uT]) (Zo _);rw[show((1:Nat):Int)=1 from rfl] at this;rw[this];simp[uT]
 dsimp only;rw[this];rfl
theorem o8 {v:Ap}(h:Rgt v):rF v=some (bq v):=by
 unfold rF vY;cases h with
 |null=>simp[bq,bj]
 |bool b=>cases b<;>simp[bq,bj,app]
 |int n h=>
  simp only[bj,bD,bq];rw[if_neg (by decide),if_neg (by decide),if_neg (by decide),if_pos (by decide),wy,Z1,aH (by simp[b9])];simp
 |text t h hl=>
  simp only[bj,bq];rw[if_neg (by decide),if_neg (by decide),if_neg (by decide),if_neg (by decide),if_pos (by decide),aH (by simp),Z1,aH (by simp;omega)];simp;omega
def cf:List Int→Option (Ap×Nat)
 |[]=>none
 |k::b=>
  if k=0 then some (lh,1) else
  if k=1 then (match b with|c::_=>if c≤1 then some (B8 (c==1),2) else none|[]=>none) else
  if k=2 then (if 8≤b.length then some (iU (Z0.wrap (dA (b.take 8))),9) else none) else
  if k=3 then (match b with|c::r=>if c≤64∧c≤(r.length:Int) then some (xr (r.take c.toNat),2+c.toNat) else none|[]=>none) else none
theorem IR {l:List Int}(h:Byt l)(hl:l.length=8):be8 (dA l)=l:=by
 match l,hl with
 |[a,b,c,d,e,f,g,i],_=>
  have ha:=h a (by simp);have hb:=h b (by simp);have hc:=h c (by simp);have hd:=h d (by simp);have he:=h e (by simp);have hf:=h f (by simp);have hg:=h g (by simp);have hi:=h i (by simp);simp only[be8,dA,List.foldl_cons,List.foldl_nil,List.cons.injEq,and_true];refine⟨?_,?_,?_,?_,?_,?_,?_,?_⟩<;>omega
theorem jq (n:Int):Z0.wrap n=(n+9223372036854775808)%18446744073709551616 - 9223372036854775808:=by
 simp only[IntKind.wrap,IntKind.bits,IntKind.signed];simp;omega
theorem IS {n:Int}(h:0≤n∧n<18446744073709551616):Z0.wrap n%18446744073709551616=n:=by
 rw[jq];omega
theorem yx {n:Int}(h:cW n):Z0.wrap (n%18446744073709551616)=n:=by
 rw[jq];unfold cW at h;omega
theorem lB (n:Int):cW (Z0.wrap n):=by rw[jq];unfold cW;omega
theorem qt {v:Ap}(h:Rgt v)(r:List Int):cf (bq v++r)=some (v,(bq v).length):=by
 cases h with
 |null=>simp[GQ,cf]
 |bool b=>cases b<;>simp[GT,cf]
 |int n h=>
  rw[uS];have h1: ¬ ((2:Int)=0):=by decide
  have h2: ¬ ((2:Int)=1):=by decide
  have h3:8≤(be8 (n%18446744073709551616)++r).length:=by simp[b9]
  have h4:(be8 (n%18446744073709551616)++r).take 8=be8 (n%18446744073709551616):=List.take_left' (b9 _);simp only[List.cons_append,cf];rw[if_neg h1,if_neg h2,if_pos trivial,if_pos h3,h4,yw (by omega) (by omega),yx h];simp[b9]
 |text t h hl=>
  rw[sS];simp only[List.cons_append,cf];rw[if_neg (by decide),if_neg (by decide),if_neg (by decide),if_pos trivial,if_pos (by simp;omega)];simp;omega
theorem mF {b:List Int}{v:Ap}{n:Nat}(hb:Byt b)(h:cf b=some (v,n)):Rgt v∧∃r,b=bq v++r∧n=(bq v).length:=by
 cases b with
 |nil=>cases h
 | cons k b =>
  simp only[cf] at h;split at h
  ·rename_i hk;subst hk
   simp only[Option.some.injEq,Prod.mk.injEq] at h;obtain⟨rfl,rfl⟩:=h;exact⟨.null,b,rfl,rfl⟩
  split at h
  ·rename_i hk;subst hk
   cases b with
   |nil=>cases h
   | cons c r =>
    simp only at h;split at h
    ·rename_i hc
     simp only[Option.some.injEq,Prod.mk.injEq] at h;obtain⟨rfl,rfl⟩:=h;have h0:=hb.tail.head;have:c=0∨c=1:=by omega
     rcases this with rfl|rfl
     ·exact⟨.bool _,r,rfl,rfl⟩
     ·exact⟨.bool _,r,rfl,rfl⟩
    ·cases h
  split at h
  ·rename_i hk;subst hk
   split at h
   ·rename_i hl
    simp only[Option.some.injEq,Prod.mk.injEq] at h;obtain⟨rfl,rfl⟩:=h;have h8:(b.take 8).length=8:=by simp;omega
    have hbd:=Am (b.take 8) (hb.tail.take 8);rw[h8] at hbd;refine⟨.int _ (lB _),b.drop 8,?_,?_⟩
    ·rw [uS,IS (by omega),IR (hb.tail.take 8) h8]
     simp
    ·rw[uS];simp[b9]
   ·cases h
  split at h
  ·rename_i hk;subst hk
   cases b with
   |nil=>cases h
   | cons c r =>
    simp only at h;split at h
    ·rename_i hc
     simp only[Option.some.injEq,Prod.mk.injEq] at h;obtain⟨rfl,rfl⟩:=h;have h0:=hb.tail.head;refine⟨.text _ (hb.tail.tail.take _) (by simp;omega),r.drop c.toNat,?_,?_⟩
     ·rw [sS]
      have:((r.take c.toNat).length:Int)=c:=by simp;omega
      rw[this];simp
     ·rw[sS];simp;omega
    ·cases h
  ·cases h
theorem rV {b:List Int}{v:Ap}{n:Nat}(hb:Byt b)(h:cf b=some (v,n)):1≤n∧n≤66∧n≤b.length:=by
 obtain⟨h1,r,rfl,rfl⟩:=mF hb h;have:=ej h1;simp;omega
theorem q8 {b:List Int}{v:Ap}{n k:Nat}(hb:Byt b)(h:cf (b.take k)=some (v,n)):cf b=some (v,n)∧n≤k:=by
 obtain⟨h1,r,h2,rfl⟩:=mF (hb.take k) h;have h3:b=bq v++(r++b.drop k):=by rw[←List.append_assoc,←h2];simp
 refine⟨by rw[h3];exact qt h1 _,?_⟩;have:=congrArg List.length h2;simp at this;omega
theorem vx {b:List Int}{v:Ap}{n k:Nat}(hb:Byt b)(h:cf b=some (v,n))(hk:n≤k):cf (b.take k)=some (v,n):=by
 obtain⟨h1,r,rfl,rfl⟩:=mF hb h;rw[List.take_append,Zz hk];exact qt h1 _
theorem GU {x y:Int}(k:Nat)(hx:0≤x)(h0:0≤y)(hy:y<2^k)(hs:x*2^k+y<18446744073709551616):bOr .u64 (x*2^k) y=x*2^k+y:=by
 obtain⟨a,rfl⟩:=Z8 hx;obtain⟨b,rfl⟩:=Z8 h0;have e:(a:Int)*2^k=((2^k*a:Nat):Int):=by rw[Int.natCast_mul,Z6,Int.mul_comm];rfl
 have e2:((2:Int)^k)=((2^k:Nat):Int):=by rw[Z6];rfl
 rw[e2] at hy;rw[e] at hs ⊢;have hb:b<2^k:=by omega
 rw[IQ (by omega) (by omega),←Zr hb];omega
theorem Ao {b:List Int}(hb:Byt b)(hl:8≤b.length):qc b=some (dA (b.take 8)):=by
 unfold qc;refine aV (λi=>(dA (b.take i),(i:Int))) 8 (by simp[dA]) (λi hi=>?_) ?_
 ·dsimp only
  unfold pF;have hi':i<b.length:=by omega
  have hbd:=Am (b.take i) (hb.take i);have hci:=hb b[i] (Zk hi')
  have hp:(256:Int)^(b.take i).length≤256^7:=by
   have:(b.take i).length≤7:=by simp;omega
   have h9:=Zc (show 0<256 by omega) this;have h8:=Int.ofNat_le.2 h9;simpa[Z6] using h8
  have hsh:=zm (x:=dA (b.take i)) (k:=8) (by omega);rw[show((8:Nat):Int)=8 from rfl] at hsh
  have e:dA (b.take (i+1))=dA (b.take i)*256+b[i]:=by
   rw[Za hi',tI]
  have e1:dA (b.take i)*2^8%18446744073709551616=dA (b.take i)*2^8:=by omega
  have e2:b[i]%18446744073709551616=b[i]:=by omega
  rw[if_pos (by simpa using by omega),az hi',Z1,aT (by omega),hsh,bD,e,e1,e2,GU 8 (by omega) (by omega) (by omega) (by omega)]
  rfl
 ·unfold pF ub
  dsimp only;rw[if_neg (by simp)];rfl
theorem dI {α:Type}(a:α)(l:List α):idx (a::l) 0=some a:=az (xs:=a::l) (i:=0) (by simp)
theorem Bn {α:Type}(a b:α)(l:List α):idx (a::b::l) 1=some b:=az (xs:=a::b::l) (i:=1) (by simp)
theorem gw {α:Type}{xs:List α}{k:Nat}(h:k≤xs.length):sub xs (k:Int) (xs.length:Int)=some (xs.drop k):=by
 rw[d3 h (Zo _),List.take_length]
theorem sT {α:Type}(a:α)(l:List α):sub (a::l) 1 ((a::l).length:Int)=some l:=by
 have:=gw (xs:=a::l) (k:=1) (by simp);simpa using this
theorem ue {c:Int}(h:0≤c∧c<256):Z0.wrap c=c:=am (by omega)
theorem C4 {b:List Int}(hb:Byt b):sO b=some (match cf b with|some (v,n)=>(v,b.drop n,true)|none=>(lh,[],false)):=by
 cases b with
 |nil=>rfl
 | cons k r =>
  have hk:=hb.head;have hr:=hb.tail;unfold sO;rw[if_neg (by simp;omega),dI,Z1,sT,Z1,ue hk]
  by_cases h0:k=0
  ·subst h0;simp[cf,kO]
  rw[if_neg (by simpa using h0)];have e0:kB r false=some (lh,[],false):=rfl
  by_cases h1:k=1
  ·subst h1
   have e2:kC 1 r false=some (lh,[],false):=rfl;rw[if_pos (by simp)];cases r with
   |nil=>simp[cf,e2]
   | cons c r =>
    rw[if_pos (by simp;omega),dI,Z1]
    by_cases hc:c≤1
    ·unfold kC
     rw[if_pos (by simpa using hc),dI,Z1,sT];simp[cf,hc,oM]
    ·have:decide (c≤1)=false:=by simpa using hc
     rw[this,e2];simp[cf,hc]
  rw[if_neg (by simpa using h1)];unfold kC;rw[if_neg (by decide),ue hk]
  by_cases h2:k=2
  ·subst h2
   rw[if_pos (by simp)];unfold oW
   by_cases hl:8≤r.length
   ·have hs:=gw (xs:=r) (k:=8) hl
    rw[show((8:Nat):Int)=8 from rfl] at hs;rw[if_pos (by simpa using by omega),Ao hr hl,Z1];unfold eE;rw[Z1,hs];simp[cf,hl]
   ·rw [if_neg (by simpa using by omega),if_neg (by decide),e0]
    simp[cf,hl]
  rw[if_neg (by simpa using h2)];unfold oW;rw[if_neg (by decide),ue hk]
  by_cases h3:k=3
  ·subst h3
   rw[if_pos (by simp)];cases r with
   |nil=>simp[cf,e0]
   | cons c r =>
    have hc:=hr.head;rw[if_pos (by simp;omega),dI,Z1]
    by_cases hc64:c≤64
    ·rw [if_pos (by simpa using hc64),Z1,ue hc]
     by_cases hl:c≤(r.length:Int)
     ·obtain ⟨n,rfl⟩:=Z8 hc.1
      have e3:Z4.wrap (1+(n:Int))=((1+n:Nat):Int):=by rw[bj];omega
      have hs:=d3 (xs:=(n:Int)::r) (lo:=1) (hi:=1+n) (by omega) (by simp;omega);rw[show((1:Nat):Int)=1 from rfl] at hs;have hs2:=gw (xs:=(n:Int)::r) (k:=1+n) (by simp;omega);unfold kB;rw[if_pos (by simp;omega),dI,Z1,e3,hs,Z1];unfold oN;rw[Z1,Z1,e3,hs2]
      have e5:cf (3::(n:Int)::r)=some (xr (r.take n),2+n):=by
       simp only[cf];rw[if_neg (by decide),if_neg (by decide),if_neg (by decide),if_pos trivial,if_pos ⟨hc64,hl⟩];simp
      rw[e5];simp only[Z1,Option.some.injEq,Prod.mk.injEq,and_true];have e6:1+n=n+1:=by omega
      have e7:2+n=n+1+1:=by omega
      rw[e6,e7];simp
     ·have:decide (c<(((c::r).length:Nat):Int))=false:=by simp;omega
      rw[this,e0];simp[cf,hl]
    ·rw[if_neg (by simpa using hc64),e0];simp[cf,hc64]
  rw[if_neg (by simpa using h3),e0];simp[cf,h0,h1,h2,h3]
def qu:Nat→List Int→Option (List Ap×List Int)
 |0,b=>some ([],b)
 |n+1,b=>match cf b with
  |some (v,k)=>(qu n (b.drop k)).map λx=>(v::x.1,x.2)
  |none=>none
theorem yz (many:Nat) (hm:many≤255): ∀(n i:Nat) (b:List Int) (acc:List Ap),i+n=many→Byt b→acc.length=i→
  au (λs:(List Int×List Ap×Int)=>kD (many:Int) s.1 s.2.1 s.2.2) (b,acc,(i:Int))=some (match qu n b with|some (l,[])=>(acc++l,0)|_=>([],30)):=by
 intro n
 induction n with
 |zero=>
  intro i b acc hi hb ha;apply aZ;dsimp only;unfold kD uc;rw[if_neg (by rw[am (by omega)];simp;omega)];cases b with
  |nil=>simp[qu]
  |cons c r=>simp[qu]
 | succ n ih =>
  intro i b acc hi hb ha
  have step:kD (many:Int) b acc (i:Int)=match cf b with|some (v,k)=>some (.inl (b.drop k,acc++[v],((i+1:Nat):Int)))|none=>some (.inr ([],30)):=by
   unfold kD;rw[if_pos (by rw[am (by omega)];simp;omega),C4 hb,Z1];cases hp:cf b with
   |none=>rfl
   |some x=>
    obtain⟨v,k⟩:=x;simp only[Bool.not_true,Zm,if_false];rw[aH (by simp;omega),Z1,aT (by omega)]
  simp only[qu];cases hp:cf b with
  |none=>rw[hp] at step;rw[aZ (by dsimp only;exact step)]
  | some x =>
   obtain⟨v,k⟩:=x;rw[hp] at step;rw[bL (by dsimp only;exact step),ih (i+1) _ _ (by omega) (hb.drop _) (by simp;omega)];dsimp only;cases hq:qu n (b.drop k) with
   |none=>rfl
   |some y=>
    obtain⟨l,r⟩:=y;cases r<;>simp
theorem Aq {b:List Int}(hb:Byt b):lI b=some (match b with|[]=>([],30)|c::r=>if c≤16 then (match qu c.toNat r with|some (l,[])=>(l,0)|_=>([],30)) else ([],30)):=by
 cases b with
 |nil=>rfl
 | cons c r =>
  have hc:=hb.head;unfold lI;rw[if_neg (by simp;omega),dI,Z1];unfold pG
  by_cases h:c≤16
  ·rw [if_neg (by simpa using h),dI,Z1,sT,Z1]
   have:=yz c.toNat (by omega) c.toNat 0 r [] (by omega) hb.tail rfl;rw[show((c.toNat:Nat):Int)=c by omega] at this;rw[show((0:Nat):Int)=0 from rfl] at this;rw[this];simp[h]
  ·rw[if_pos (by simpa using by omega)];simp[h]
theorem sU {c:List Int}(hb:Byt c):lI (1::c)=some (match cf c with|some (v,k)=>if k=c.length then ([v],0) else ([],30)|none=>([],30)):=by
 rw[Aq (hb.cons (by decide))];simp only[show((1:Int)≤16)=True by simp,if_true,show(1:Int).toNat=1 from rfl,qu];cases hp:cf c with
 |none=>rfl
 | some x =>
  obtain⟨v,k⟩:=x;have:=(rV hb hp).2.2;simp only[Option.map_some]
  by_cases h:k=c.length
  ·subst h;simp
  ·rw [if_neg h]
   cases hd:c.drop k with
   |nil=>have:=List.drop_eq_nil_iff.1 hd;omega
   |cons _ _=>rfl
theorem C5 {r:aj}(hb:Byt r.fB)(hl:r.fB.length<140737488355328):dH r=some (match cf r.fB with|some (v,n)=>(v,⟨r.fB.drop n,r.fOk⟩)|none=>(lh,⟨r.fB,false⟩)):=by
 unfold dH
 have step:∀k,1≤k→k≤r.fB.length→k≤66→gW r (k:Int)=match cf (r.fB.take k) with|some (v,n)=>(if n=k then some (.inr (v,⟨r.fB.drop k,r.fOk⟩)) else some (.inl ((k+1:Nat):Int)))|none=>some (.inl ((k+1:Nat):Int)):=by
  intro k h1 h2 h3;have hs:=d3 (xs:=r.fB) (lo:=0) (hi:=k) (by omega) h2;rw[show((0:Nat):Int)=0 from rfl] at hs;unfold gW gV;rw[if_pos (by simpa using by omega),if_pos (by simp;omega),hs,Z1,aH (by simp;omega),Z1,List.drop_zero,List.singleton_append,sU (hb.take _),Z1,gw h2,aT (by omega)];have hlen:(r.fB.take k).length=k:=by simp;omega
  cases hp:cf (r.fB.take k) with
  |none=>rfl
  |some x=>
   obtain⟨v,n⟩:=x;simp only[hlen]
   by_cases e:n=k
   ·rw[if_pos e,if_pos e];rfl
   ·rw[if_neg e,if_neg e];rfl
 cases hp:cf r.fB with
 | some x =>
  obtain⟨v,n⟩:=x;have hn:=rV hb hp;refine aV (λi=>((i+1:Nat):Int)) (n - 1) rfl (λi hi=>?_) ?_
  ·rw [step (i+1) (by omega) (by omega) (by omega)]
   cases hq:cf (r.fB.take (i+1)) with
   |none=>rfl
   |some y=>
    obtain⟨v',n'⟩:=y;obtain⟨h1,h2⟩:=q8 hb hq;rw[hp] at h1;simp only[Option.some.injEq,Prod.mk.injEq] at h1;omega
  ·have e:n - 1+1=n:=by omega
   rw[e,step n (by omega) (by omega) (by omega),vx hb hp (Zo _)];simp
 | none =>
  refine aV (λi=>((i+1:Nat):Int)) (min r.fB.length 66) rfl (λi hi=>?_) ?_
  ·rw [step (i+1) (by omega) (by omega) (by omega)]
   cases hq:cf (r.fB.take (i+1)) with
   |none=>rfl
   |some y=>
    obtain⟨v',n'⟩:=y;obtain⟨h1,h2⟩:=q8 hb hq;rw[hp] at h1;cases h1
  ·have e0:gV r ((min r.fB.length 66+1:Nat):Int) false=some (.inr (lh,⟨r.fB,false⟩)):=rfl
   unfold gW;split
   ·have:decide (((min r.fB.length 66+1:Nat):Int)≤66)=false:=by
     rename_i h;simp at h ⊢;omega
    rw[this,e0]
   ·exact e0
def eN (f:Nat→Bool):Nat→Nat
 |0=>0
 |n+1=>2^n*(f n).toNat+eN f n
theorem mG (f:Nat→Bool): ∀n,eN f n<2^n
 |0=>by simp[eN]
 |n+1=>by
  have:=mG f n;simp only[eN];cases f n<;>simp[Zp]<;>omega
theorem mj (f:Nat→Bool): ∀n k,(eN f n).testBit k=(decide (k<n)&&f k)
 |0,k=>by simp[eN]
 | n + 1, k => by
  simp only[eN];rw[Nat.testBit_two_pow_mul_add _ (mG f n),mj f n k]
  by_cases h:k<n
  ·rw[if_pos h];simp[h];intro _;omega
  ·rw [if_neg h]
   by_cases h':k=n
   ·subst h';simp;cases f k<;>rfl
   ·have: ¬ k<n+1:=by omega
    simp[this];have:k - n≠0:=by omega
    cases f n
    ·simp
    ·simp only [Bool.toNat_true]
     obtain⟨j,hj⟩:∃j,k - n=j+1:=⟨k - n - 1,by omega⟩
     rw[hj,Nat.testBit_succ];simp
theorem mH {f g:Nat→Bool}{n:Nat}(h:∀k,k<n→f k=g k):eN f n=eN g n:=by
 apply Zq;intro k;rw[mj,mj]
 by_cases hk:k<n
 ·rw[h k hk]
 ·simp[hk]
theorem GV {x n:Nat}(h:x<2^n):eN (λk=>x.testBit k) n=x:=by
 apply Zq;intro k;rw[mj]
 by_cases hk:k<n
 ·simp[hk]
 ·have:=Nat.testBit_lt_two_pow (Nat.lt_of_lt_of_le h (Zc (by decide) (Nat.le_of_not_lt hk)))
  simp[this]
theorem EA (x k:Nat):x/2^k=2*(x/2^(k+1))+(x.testBit k).toNat:=by
 have h1:x/2^(k+1)=x/2^k/2:=by rw[Zp,Zd]
 rw[h1,Zi];have:x/2^k%2=0∨x/2^k%2=1:=by omega
 rcases this with h|h<;>simp[h]<;>omega
def fm (l:List Int)(w p:Nat):Bool:=decide (p<l.length*w)&&(l.getD (p/w) 0).toNat.testBit (p%w)
def jx (l:List Int)(w q:Nat):List Int:=(Zx ((l.length*w+7)/8)).map λj=>((eN (λk=>decide (8*j+k<q)&&fm l w (8*j+k)) 8:Nat):Int)
def cN (l:List Int)(w:Nat):List Int:=jx l w (l.length*w)
theorem fR (l:List Int)(w q:Nat):(jx l w q).length=(l.length*w+7)/8:=by simp[jx]
theorem ml (l:List Int)(w q j:Nat)(h:j<(jx l w q).length):(jx l w q)[j]=((eN (λk=>decide (8*j+k<q)&&fm l w (8*j+k)) 8:Nat):Int):=by simp[jx]
theorem zn (l:List Int)(w:Nat):Byt (cN l w):=λc hc=>by
 simp only[cN,jx,List.mem_map] at hc;obtain⟨j,_,rfl⟩:=hc;have:=mG (λk=>decide (8*j+k<l.length*w)&&fm l w (8*j+k)) 8;omega
theorem GW (l:List Int) (w q:Nat) (hq:q<l.length*w) (hb:fm l w q=true):
  ∃x:Nat,x<256∧(jx l w q)[q/8]? =some (x:Int)∧(jx l w q).set (q/8) (((x|||2^(q%8):Nat)):Int)=jx l w (q+1):=by
 have hlt:q/8<(jx l w q).length:=by rw[fR];omega
 refine⟨_,mG _ 8,by rw[Z7 hlt,ml],?_⟩;apply Zt
 ·simp[fR]
 intro j h1 h2;rw[List.getElem_set,ml];split
 ·rename_i e
  subst e;rw[ml];congr 1;apply Zq;intro k;rw[Nat.testBit_or,mj,mj,Nat.testBit_two_pow]
  by_cases hk:k<8
  ·by_cases e:q%8=k
   ·have:8*(q/8)+k=q:=by omega
    simp[hk,e,this,hb]
   ·have h3:(8*(q/8)+k<q+1)=(8*(q/8)+k<q):=by apply propext;omega
    simp[e,h3]
  ·have:q%8≠k:=by omega
   simp[hk,this]
 ·rename_i e
  rw[ml];congr 1;apply mH;intro k hk;have h3:(8*j+k<q+1)=(8*j+k<q):=by apply propext;omega
  simp[h3]
theorem FB (l:List Int)(w q:Nat)(hb:fm l w q=false):jx l w q=jx l w (q+1):=by
 unfold jx;apply List.map_congr_left;intro j _;congr 1;apply mH;intro k hk
 by_cases e:8*j+k=q
 ·rw[e,hb];simp
 ·have h3:(8*j+k<q+1)=(8*j+k<q):=by apply propext;omega
  simp[h3]
theorem FC (l:List Int)(w:Nat):jx l w 0=Z3 ((l.length*w+7)/8) 0:=by
 apply Zt
 ·simp[fR]
 intro j h1 h2;rw[ml];have:eN (λk=>decide (8*j+k<0)&&fm l w (8*j+k)) 8=eN (λ_=>false) 8:=mH λk _=>by simp
 rw[this];simp[eN]
def eC (b:List Int)(p:Nat):Bool:=(b.getD (p/8) 0).toNat.testBit (p%8)
def unp (b:List Int)(w i:Nat):Nat:=eN (λk=>eC b (i*w+k)) w
theorem Ar (l:List Int)(w p:Nat)(r:List Int)(hp:p<l.length*w):eC (cN l w++r) p=fm l w p:=by
 have hlt:p/8<(cN l w).length:=by unfold cN;rw[fR];omega
 unfold eC;rw[Z5,List.getElem?_append_left hlt,Z7 hlt];simp only[Option.getD_some];have e:(cN l w)[p/8]=_:=ml l w (l.length*w) (p/8) hlt;rw[e];simp only[Int.toNat_natCast];rw[mj];have h1:8*(p/8)+p%8=p:=by omega
 have h2:p%8<8:=by omega
 simp[h1,h2,hp]
theorem yA (l:List Int)(w i k:Nat)(hi:i<l.length)(hk:k<w):i*w+k<l.length*w∧fm l w (i*w+k)=(l[i]).toNat.testBit k:=by
 have h0:i*w+k<l.length*w:=by
  have:(i+1)*w≤l.length*w:=Zg _ hi;rw[Zv] at this;omega
 refine⟨h0,?_⟩;unfold fm
 have h1:(i*w+k)/w=i:=by
  rw[X5,Nat.mul_add_div (by omega),Zy hk];rfl
 have h2:(i*w+k)%w=k:=by
  rw[X5,Nat.mul_add_mod,Nat.mod_eq_of_lt hk]
 rw[h1,h2,Z5,Z7 hi];simp[h0]
theorem FD (l:List Int)(w i:Nat)(r:List Int)(hi:i<l.length)(hb:0≤l[i]∧l[i]<2^w):(unp (cN l w++r) w i:Int)=l[i]:=by
 have h1:unp (cN l w++r) w i=eN (λk=>(l[i]).toNat.testBit k) w:=mH λk hk=>by
  obtain⟨h2,h3⟩:=yA l w i k hi hk;rw[Ar _ _ _ _ h2,h3]
 rw[h1,GV]
 ·omega
 ·have:((l[i].toNat:Nat):Int)<((2^w:Nat):Int):=by
   rw[Z6];have:((l[i].toNat:Nat):Int)=l[i]:=by omega
   rw[this];exact hb.2
  exact Int.ofNat_lt.1 this
theorem uf (n:Nat):chk (decide (0≤(n:Int)))=some ():=rT (decide_eq_true (Zj n))
theorem or8 {a b:Nat}(ha:a<256)(hb:b<256):bOr .u8 (a:Int) (b:Int)=((a|||b:Nat):Int):=by
 unfold bOr;rw[bj]
 have h1:(Zb Z4.bits (a:Int)).toNat=a:=by
  show(Zb 8 (a:Int)).toNat=a;rw[Z9];omega
 have h2:(Zb Z4.bits (b:Int)).toNat=b:=by
  show(Zb 8 (b:Int)).toNat=b;rw[Z9];omega
 rw[BitVec.toNat_or,h1,h2];have:a|||b<2^8:=Nat.or_lt_two_pow (by simpa using ha) (by simpa using hb)
 omega
theorem LZ {a b:Nat}(ha:a<256)(hb:b<256):cL .u8 (a:Int) (b:Int)=((a&&&b:Nat):Int):=by
 unfold cL;rw[bj]
 have h1:(Zb Z4.bits (a:Int)).toNat=a:=by
  show(Zb 8 (a:Int)).toNat=a;rw[Z9];omega
 have h2:(Zb Z4.bits (b:Int)).toNat=b:=by
  show(Zb 8 (b:Int)).toNat=b;rw[Z9];omega
 rw[BitVec.toNat_and,h1,h2];have:a&&&b≤a:=Nat.and_le_left;omega
theorem Au (x:Nat)(k:Nat):x/2^k&&&1=(x.testBit k).toNat:=by
 rw[Nat.and_one_is_mod,Zi];have:x/2^k%2=0∨x/2^k%2=1:=by omega
 rcases this with h|h<;>simp[h]
theorem L2 {x:Int}{k:Nat}(h:0≤x∧x<18446744073709551616)(hk:k≤64):cL .u64 (ay .u64 x (k:Int)) 1=(x.toNat.testBit k).toNat:=by
 obtain⟨n,rfl⟩:=Z8 h.1;rw[qf hk];have h1:((n:Int)/2^k)=((n/2^k:Nat):Int):=by simp[Z6]
 have h2:n/2^k≤n:=Zl _ _;rw[h1,show(1:Int)=((1:Nat):Int) from rfl,JJ (by omega) (by omega),Au];simp
theorem KB {x:Int}{k:Nat}(h:0≤x∧x<256)(hk:k≤8):cL .u8 (ay .u8 x (k:Int)) 1=(x.toNat.testBit k).toNat:=by
 obtain⟨n,rfl⟩:=Z8 h.1;rw[QS hk];have h1:((n:Int)/2^k)=((n/2^k:Nat):Int):=by simp[Z6]
 have h2:n/2^k≤n:=Zl _ _;rw[h1,show(1:Int)=((1:Nat):Int) from rfl,LZ (by omega) (by omega),Au];simp
theorem IT {i w k:Nat}(hi:i<1048576)(hw:w≤64)(hk:k≤64):Z0.wrap ((Z0.wrap ((i:Int)*(w:Int)))+(k:Int))=((i*w+k:Nat):Int):=by
 have:i*w≤1048576*64:=Zh (by omega) hw;have e:(i:Int)*(w:Int)=((i*w:Nat):Int):=by simp
 rw[e,am (n:=((i*w:Nat):Int)) (by omega),am (by omega)];omega
theorem FE (n:Nat):((n:Int)).tdiv 8=((n/8:Nat):Int):=by
 rw[Zf (by omega)];rfl
theorem JK (n:Nat):((n:Int)).tmod 8=((n%8:Nat):Int):=by
 rw[Zu (by omega)];rfl
theorem JL {i w:Nat}(hi:i<1048576)(hw:w≤64):Z0.wrap ((Z0.wrap ((Z0.wrap ((i:Int)*(w:Int)))+7)).tdiv 8)=(((i*w+7)/8:Nat):Int):=by
 have:i*w≤1048576*64:=Zh (by omega) hw;have e:=IT (i:=i) (w:=w) (k:=7) hi hw (by omega);rw[show((7:Nat):Int)=7 from rfl] at e;rw[e,FE,am (by omega)]
def U64 (l:List Int):Prop:= ∀x∈l,0≤x∧x<18446744073709551616
theorem uU {α:Type}{N n:Nat}{z:α}(h:n≤N):mk N (n:Int) z=some (Z3 n z):=by
 unfold mk;rw[if_pos (by omega)];simp
theorem mI {α:Type}{xs:List α}{i:Nat}(h:i<xs.length):ix xs (i:Int)=some i:=by
 unfold ix;rw[if_pos (by omega)];simp
theorem Bo {l:List Int}{w:Nat}(hu:U64 l)(hl:l.length<1048576)(hw:w≤64):iD l (w:Int)=some (cN l w):=by
 have hlw:l.length*w≤1048576*64:=Zh (by omega) hw;unfold iD;rw[JL hl hw,uU (by omega),Z1];refine aV (λi=>((i:Int),jx l w (i*w))) l.length (by simp[FC]) (λi hi=>?_) ?_
 ·dsimp only
  unfold jg;rw[if_pos (by simpa using hi),az hi,Z1];have hx:=hu l[i] (Zk hi);refine aV (λk=>((k:Int),jx l w (i*w+k))) w rfl (λk hk=>?_) ?_
  ·dsimp only
   unfold jf je;obtain⟨h1,h2⟩:=yA l w i k hi hk;rw[if_pos (by simpa using hk),rT (by simp),Z1,L2 hx (by omega),IT (by omega) hw (by omega),FE,JK,am (by omega),aT (by omega)];cases hb:l[i].toNat.testBit k with
   |false=>
    rw[hb] at h2;rw[if_neg (by decide),FB l w _ h2];rfl
   | true =>
    rw[hb] at h2;obtain⟨x,hx1,hx2,hx3⟩:=GW l w _ h1 h2;have hlt:(i*w+k)/8<(jx l w (i*w+k)).length:=by rw[fR];omega
    rw[if_pos (by decide),mI hlt,Z1,hx2,Z1,uf,Z1,Z1,hx2,Z1]
    have h8:dx .u8 1 (((i*w+k)%8:Nat):Int)=((2^((i*w+k)%8):Nat):Int):=by
     unfold dx;rw[bj];have hm:min (((i*w+k)%8:Nat):Int).toNat Z4.bits=(i*w+k)%8:=by simp[IntKind.bits];omega
     rw[hm];have:(2:Nat)^((i*w+k)%8)≤2^7:=Zc (by decide) (by omega);rw[Z6];have e:((2:Int)^((i*w+k)%8))=(((2:Nat)^((i*w+k)%8):Nat):Int):=by simp[Z6]
     rw[show((2:Nat):Int)=2 from rfl,e];generalize (2:Nat)^((i*w+k)%8)=m at*;omega
    have:(2:Nat)^((i*w+k)%8)≤2^7:=Zc (by decide) (by omega);rw[h8,or8 hx1 (by omega),hx3];rfl
  ·dsimp only
   unfold jf kR;rw[if_neg (by simp),aT (by omega)];simp[Zv]
 ·unfold jg kQ
  rw[if_neg (by simp)];rfl
theorem Av {r:aj}{n:Nat}(hn:n≤281474976710656):cG r (n:Int)=some (if r.fB.length<n then (Z3 n 0,⟨[],false⟩) else (r.fB.take n,⟨r.fB.drop n,r.fOk⟩)):=by
 unfold cG
 by_cases h:r.fB.length<n
 ·rw[if_pos (by simpa using h),if_pos h,uU hn];rfl
 ·rw [if_neg (by simpa using h),if_neg h,uU hn,Z1,d3 (by omega) (Zo _)]
  simp only[Z1,List.take_length];unfold cpy;simp;omega
theorem KC (f:Nat→Bool)(k:Nat):eN f k|||2^k*(f k).toNat=eN f (k+1):=by
 rw[Nat.or_comm,←Zr (mG f k)];rfl
theorem L3 {b:Bool}{k:Nat}(hk:k<64):dx .u64 ((b.toNat:Nat):Int) (k:Int)=((2^k*b.toNat:Nat):Int):=by
 rw[zm (by omega)];have h1:(2:Nat)^k<2^64:=Nat.pow_lt_pow_right (by decide) hk;have e:((2:Int)^k)=(((2:Nat)^k:Nat):Int):=by simp[Z6]
 rw[e];cases b
 ·simp
 ·simp only [Bool.toNat_true,Nat.mul_one]
  have:(2:Nat)^64=18446744073709551616:=by decide
  generalize (2:Nat)^k=m at*;omega
def rW (r:aj) (many w:Nat):List Int×aj:=
 if 64<w then (Z3 many 0,⟨r.fB,false⟩) else
 if r.fB.length<(many*w+7)/8 then (Z3 many 0,⟨[],false⟩) else
 ((Zx many).map λi=>((unp r.fB w i:Nat):Int),⟨r.fB.drop ((many*w+7)/8),r.fOk⟩)
theorem GX {l:List Int}{n i:Nat}(h:i<n):(l.take n).getD i 0=l.getD i 0:=by
 rw[Z5,Z5,List.getElem?_take,if_pos h]
theorem IU (b:List Int)(w i n:Nat)(h:(i+1)*w≤8*n):unp (b.take n) w i=unp b w i:=mH λk hk=>by
 rw[Zv] at h;unfold eC;rw[GX (by omega)]
theorem IV (n w i:Nat):unp (Z3 n 0) w i=0:=by
 have:unp (Z3 n 0) w i=eN (λ_=>false) w:=mH λk hk=>by
  unfold eC;rw[Z5,List.getElem?_replicate];split<;>simp
 rw[this];have:∀w,eN (λ_=>false) w=0:=by intro w;induction w with|zero=>rfl|succ w ih=>simp[eN,ih]
 exact this w
theorem xR {r:aj}{many w:Nat}(hb:Byt r.fB)(hm:many<1048576):dz r (many:Int) (w:Int)=some (rW r many w):=by
 unfold dz rW
 by_cases hw:64<w
 ·rw[if_pos (by simpa using by omega),if_pos hw,uU (by omega)];rfl
 rw[if_neg (by simpa using by omega),if_neg hw];have hw':w≤64:=by omega
 have hlw:many*w≤1048576*64:=Zh (by omega) hw';rw[JL hm hw',Av (by omega),Z1,uU (by omega),Z1]
 have key: ∀(b:List Int) (r':aj),Byt b→b.length=(many*w+7)/8→
   au (λs:(Int×List Int)=>dE (w:Int) (b,r') (Z3 many 0) s.1 s.2) (0,Z3 many 0)=some ((Zx many).map λi=>((unp b w i:Nat):Int),r'):=by
  intro b r' hb hl;refine aV (λi=>((i:Int),(Zx i).map (λi=>((unp b w i:Nat):Int))++Z3 (many - i) 0)) many (by simp) (λi hi=>?_) ?_
  ·dsimp only
   unfold dE;rw[if_pos (by simpa using hi)];have hi1:(i+1)*w≤many*w:=Zg _ hi;rw[Zv] at hi1
   have h64:∀k,k≤64→eN (λk=>eC b (i*w+k)) k<18446744073709551616:=λk hk=>by
    have:=mG (λk=>eC b (i*w+k)) k;have h2:(2:Nat)^k≤2^64:=Zc (by decide) hk;have:(2:Nat)^64=18446744073709551616:=by decide
    omega
   refine aV (λk=>((k:Int),(Zx i).map (λi=>((unp b w i:Nat):Int))++((eN (λk=>eC b (i*w+k)) k:Nat):Int)::Z3 (many - i - 1) 0)) w ?_ (λk hk=>?_) ?_
   ·have:many - i=(many - i - 1)+1:=by omega
    rw[this,List.replicate_succ];simp[eN]
   ·dsimp only
    unfold et;have hat:(i*w+k)/8<b.length:=by omega
    have hlen:i<((Zx i).map (λi=>((unp b w i:Nat):Int))++((eN (λk=>eC b (i*w+k)) k:Nat):Int)::Z3 (many - i - 1) 0).length:=by simp
    have hget:((Zx i).map (λi=>((unp b w i:Nat):Int))++((eN (λk=>eC b (i*w+k)) k:Nat):Int)::Z3 (many - i - 1) 0)[i]? =some ((eN (λk=>eC b (i*w+k)) k:Nat):Int):=by simp
    rw[if_pos (by simpa using hk),mI hlen,Z1,hget,Z1,IT (by omega) hw' (by omega),FE,JK,am (by omega),az hat,Z1,uf,Z1,uf,Z1,Z1,hget,Z1,aT (by omega)];have hbb:=hb b[(i*w+k)/8] (Zk hat);rw[KB hbb (by omega)]
    have e:b[(i*w+k)/8].toNat.testBit ((i*w+k)%8)=eC b (i*w+k):=by
     unfold eC;rw[Z5,Z7 hat];rfl
    rw[e,bD];have e2:(((eC b (i*w+k)).toNat:Nat):Int)%18446744073709551616=(((eC b (i*w+k)).toNat:Nat):Int):=by cases eC b (i*w+k)<;>rfl
    have h3:2^k*(eC b (i*w+k)).toNat<18446744073709551616:=by
     have h1:(2:Nat)^k<2^64:=Nat.pow_lt_pow_right (by decide) (by omega);have:(2:Nat)^64=18446744073709551616:=by decide
     cases eC b (i*w+k)<;>simp<;>omega
    rw[e2,L3 (by omega),IQ (h64 k (by omega)) h3,KC (λk=>eC b (i*w+k)) k];congr 3;rw[List.set_append_right _ _ (by simp)];simp
   ·dsimp only
    unfold et f9;rw[if_neg (by simp),aT (by omega)];have:many - i - 1=many - (i+1):=by omega
    rw[this];simp[List.range_succ,unp]
  ·dsimp only
   unfold dE f7;rw[if_neg (by simp)];simp
 by_cases hl:r.fB.length<(many*w+7)/8
 ·rw [if_pos hl,if_pos hl,key _ _ (fun c hc=>by rw [List.eq_of_mem_replicate hc];decide) (by simp)]
  congr 2;apply Zt
  ·simp
  ·intro j h1 h2;simp[IV]
 ·rw [if_neg hl,if_neg hl,key _ _ (hb.take _) (by simp;omega)]
  congr 2;apply Zt
  ·simp
  ·intro j h1 h2
   simp only[List.getElem_map,List.getElem_range];rw[IU];simp at h1;have:(j+1)*w≤many*w:=Zg _ h1;omega
def n7 (l:List Int)(w q:Nat):List Int:=(Zx q).map λp=>((fm l w p).toNat:Int)
theorem FF (l:List Int)(w q:Nat):n7 l w (q+1)=n7 l w q++[((fm l w q).toNat:Int)]:=by simp[n7,List.range_succ]
theorem yB (l:List Int){w:Nat}(hl:l.length<1048576)(hw:w≤64):rJ (n7 l w (l.length*w))=some (cN l w):=by
 have hlw:l.length*w≤1048576*64:=Zh (by omega) hw;unfold rJ;have hlen:(n7 l w (l.length*w)).length=l.length*w:=by simp[n7]
 refine aV (λj=>((cN l w).take j,((8*j:Nat):Int))) ((l.length*w+7)/8) (by simp) (λj hj=>?_) ?_
 ·dsimp only
  unfold rI;rw[hlen,if_pos (by simpa using by omega)];have hpl:(cN l w).length=(l.length*w+7)/8:=fR _ _ _;refine aV (λt=>(((eN (λk=>decide (8*j+k<l.length*w)&&fm l w (8*j+k)) 8/2^(8 - t):Nat):Int),7 - (t:Int))) 8 ?_ (λt ht=>?_) ?_
  ·have:=mG (fun k=>decide (8*j+k<l.length*w)&&fm l w (8*j+k)) 8
   rw[Zy (by simpa using this)];simp
  ·dsimp only
   unfold rH rG;obtain⟨k,hk⟩:∃k,8=t+1+k:=⟨8 - t - 1,by omega⟩
   have e:7 - (t:Int)=(k:Int):=by omega
   have e1:8 - t=k+1:=by omega
   have e2:8 - (t+1)=k:=by omega
   have e4:Z0.wrap ((k:Int) - 1)=7 - ((t+1:Nat):Int):=by rw[am (by omega)];omega
   have e5:Z0.wrap (((8*j:Nat):Int)+(k:Int))=((8*j+k:Nat):Int):=by rw[am (by omega)];omega
   rw[e,if_pos (by simp),e1,e2,e4,e5,EA _ k];have hN:=mG (λk=>decide (8*j+k<l.length*w)&&fm l w (8*j+k)) 8;have hN2:eN (λk=>decide (8*j+k<l.length*w)&&fm l w (8*j+k)) 8/2^k≤eN (λk=>decide (8*j+k<l.length*w)&&fm l w (8*j+k)) 8:=Zl _ _;have hN3:=EA (eN (λk=>decide (8*j+k<l.length*w)&&fm l w (8*j+k)) 8) k;have hbk:=mj (λk=>decide (8*j+k<l.length*w)&&fm l w (8*j+k)) 8 k;have hk8:k<8:=by omega
   by_cases hp:8*j+k<l.length*w
   ·rw [if_pos (by simpa using by omega),az (by rw [hlen];exact hp),Z1]
    have hg:(n7 l w (l.length*w))[8*j+k]'(by rw[hlen];exact hp)=(((eN (λk=>decide (8*j+k<l.length*w)&&fm l w (8*j+k)) 8).testBit k).toNat:Int):=by
     rw[hbk];simp[n7,hp,hk8]
    rw[hg,bj,bj];congr 3;omega
   ·rw [if_neg (by simpa using by omega)]
    have hg:(eN (λk=>decide (8*j+k<l.length*w)&&fm l w (8*j+k)) 8).testBit k=false:=by
     rw[hbk];simp[hp]
    rw[hg] at hN3 ⊢;rw[bj];simp only[Bool.toNat_false,Nat.add_zero] at hN3 ⊢;congr 3;omega
  ·dsimp only
   unfold rH wb wa;rw[if_neg (by decide),aH (by simp;omega),Z1];have h1:j<(cN l w).length:=by omega
   rw[Za h1];have h2:(cN l w)[j]=((eN (λk=>decide (8*j+k<l.length*w)&&fm l w (8*j+k)) 8:Nat):Int):=ml _ _ _ _ _;have e9:((8*j:Nat):Int)+8=((8*(j+1):Nat):Int):=by omega
   rw[h2,am (by omega),e9];simp
 ·dsimp only
  unfold rI vZ;rw[hlen,if_neg (by simp;omega)];rw[Zz (by unfold cN;rw[fR];omega)];rfl
theorem vy {l:List Int}{w:Nat}(hu:U64 l)(hl:l.length<1048576)(hw:w≤64):sN l (w:Int)=some (cN l w):=by
 have hlw:l.length*w≤1048576*64:=Zh (by omega) hw;unfold sN;refine aV (λi=>(n7 l w (i*w),(i:Int))) l.length (by simp[n7]) (λi hi=>?_) ?_
 ·dsimp only
  unfold rL;have hx:=hu l[i] (Zk hi);have hi1:(i+1)*w≤l.length*w:=Zg _ hi;rw[Zv] at hi1;rw[if_pos (by simpa using hi),az hi,Z1];refine aV (λk=>(n7 l w (i*w+k),((l[i].toNat/2^k:Nat):Int),(k:Int))) w ?_ (λk hk=>?_) ?_
  ·simp;omega
  ·dsimp only
   unfold rK;obtain⟨h1,h2⟩:=yA l w i k hi hk;have h3:l[i].toNat/2^k≤l[i].toNat:=Zl _ _;have h4:l[i].toNat/2^(k+1)=l[i].toNat/2^k/2:=by rw[Zp,Zd]
   have h5:(((l[i].toNat/2^k:Nat):Int)).tmod 2=((fm l w (i*w+k)).toNat:Int):=by
    rw[h2,←Au,Nat.and_one_is_mod,Zu (Zj _)];rfl
   rw[if_pos (by simpa using hk),h5,bj];have h6:((fm l w (i*w+k)).toNat:Int)%256=((fm l w (i*w+k)).toNat:Int):=by cases fm l w (i*w+k)<;>rfl
   rw[h6,aH (by simp[n7];omega),Z1,←Nat.add_assoc,FF,aT (by omega),bD,Zf (Zj _),h4];congr 4;generalize l[i].toNat/2^k=q at*;omega
  ·dsimp only
   unfold rK wc;rw[if_neg (by simp),aT (by omega)];simp[Zv]
 ·dsimp only
  unfold rL;rw[if_neg (by simp),yB l hl hw];rfl
def wid (n:Nat):Nat:=if n=0 then 0 else n.log2+1
theorem C6 (n:Nat):n<2^wid n:=by
 unfold wid;split
 ·omega
 ·exact Nat.lt_log2_self
theorem IW {n:Nat}(h:n≠0):wid n=wid (n/2)+1:=by
 unfold wid;rw[if_neg h]
 by_cases h1:n/2=0
 ·have:n=1:=by omega
  subst this;rfl
 ·rw[if_neg h1,Nat.log2_def,if_pos (by omega)]
theorem wA {n k:Nat}(h:2^k≤n):wid n=wid (n/2^k)+k:=by
 induction k generalizing n with
 |zero=>simp
 |succ k ih=>
  rw[Zp] at h;have:0<2^k:=Nat.pow_pos (by decide);rw[IW (n:=n) (by omega),ih (n:=n/2) (by omega),Zp,X5 (2^k) 2,←Zd];omega
theorem o9 {n w:Nat}(h:n<2^w):wid n≤w:=by
 unfold wid;split
 ·omega
 ·rename_i h0
  have:=Nat.log2_lt h0 |>.2 h
  omega
theorem C7 {n:Nat}(h:n<18446744073709551616):uK (n:Int)=some ((wid n:Nat):Int):=by
 unfold uK;have h64:wid n≤64:=o9 (by simpa using h);refine aV (λi=>(((n/2^i:Nat):Int),(i:Int))) (wid n) (by simp) (λi hi=>?_) ?_
 ·dsimp only
  unfold tA
  have h0:0<n/2^i:=by
   rcases Nat.eq_zero_or_pos (n/2^i) with h1|h1
   ·have:n<2^i:=by
     have:=Nat.div_eq_zero_iff.1 h1;have h2:0<2^i:=Nat.pow_pos (by decide);omega
    have:=o9 this;omega
   ·exact h1
  have h3:n/2^i≤n:=Zl _ _;have h4:n/2^(i+1)=n/2^i/2:=by rw[Zp,Zd]
  generalize n/2^i=q at*;rw[if_pos (decide_eq_true (by omega)),Zf (Zj _),bD,aT (by omega),h4];congr 3;omega
 ·dsimp only
  unfold tA xN;have:n/2^wid n=0:=Zy (C6 n);rw[this,if_neg (by decide)];rfl
def IX:List Int:=[0,1,2,2,3,3,3,3,4,4,4,4,4,4,4,4,5,5,5,5,5,5,5,5,5,5,5,5,5,5,5,5,6,6,6,6,6,6,6,6,6,6,6,6,6,6,6,6,6,6,6,6,6,6,6,6,6,6,6,6,6,6,6,6,7,7,7,7,7,7,7,7,7,7,7,7,7,7,7,7,7,7,7,7,7,7,7,7,7,7,7,7,7,7,7,7,7,7,7,7,7,7,7,7,7,7,7,7,7,7,7,7,7,7,7,7,7,7,7,7,7,7,7,7,7,7,7,7,8,8,8,8,8,8,8,8,8,8,8,8,8,8,8,8,8,8,8,8,8,8,8,8,8,8,8,8,8,8,8,8,8,8,8,8,8,8,8,8,8,8,8,8,8,8,8,8,8,8,8,8,8,8,8,8,8,8,8,8,8,8,8,8,8,8,8,8,8,8,8,8,8,8,8,8,8,8,8,8,8,8,8,8,8,8,8,8,8,8,8,8,8,8,8,8,8,8,8,8,8,8,8,8,8,8,8,8,8,8,8,8,8,8,8,8,8,8,8,8,8,8,8,8,8,8,8,8]
theorem KD:∀n:_root_.Fin 256,idx IX ((n.val:Nat):Int)=some ((wid n.val:Nat):Int):=by decide+kernel
set_option maxRecDepth 100000 in
theorem C8 (x y:Int):nM x y=(idx IX (Z4.wrap x)).bind λr=>some (Z0.wrap (y+Z0.wrap r)):=rfl
theorem C9 {n k:Nat}(h:n<256)(hk:k≤56):nM (n:Int) (k:Int)=some ((wid n+k:Nat):Int):=by
 have h1:idx IX (n:Int)=some ((wid n:Nat):Int):=KD ⟨n,h⟩;have hw:wid n≤8:=o9 (by simpa using h);rw[C8,bj,show((n:Int)%256)=(n:Int) by omega,h1,Z1,am (n:=((wid n:Nat):Int)) (by omega),am (by omega)];congr 1;omega
theorem Da {n k:Nat}(h:n<65536)(hk:k≤48):nN (n:Int) (k:Int)=some ((wid n+k:Nat):Int):=by
 unfold nN
 by_cases h1:256≤n
 ·rw [if_pos (by simpa using by omega)]
  have e:ay .u64 (n:Int) 8=((n/2^8:Nat):Int):=by have:=qf (x:=(n:Int)) (k:=8) (by omega);simpa using this
  have e2:Z0.wrap ((k:Int)+8)=((k+8:Nat):Int):=by rw[am (by omega)];rfl
  rw[e,e2,C9 (by omega) (by omega),wA (n:=n) (k:=8) (by omega)];congr 2;omega
 ·rw[if_neg (by simpa using by omega),C9 (by omega) (by omega)]
theorem Db {n k:Nat}(h:n<4294967296)(hk:k≤32):nO (n:Int) (k:Int)=some ((wid n+k:Nat):Int):=by
 unfold nO
 by_cases h1:65536≤n
 ·rw [if_pos (by simpa using by omega)]
  have e:ay .u64 (n:Int) 16=((n/2^16:Nat):Int):=by have:=qf (x:=(n:Int)) (k:=16) (by omega);simpa using this
  have e2:Z0.wrap ((k:Int)+16)=((k+16:Nat):Int):=by rw[am (by omega)];rfl
  rw[e,e2,Da (by omega) (by omega),wA (n:=n) (k:=16) (by omega)];congr 2;omega
 ·rw[if_neg (by simpa using by omega),Da (by omega) (by omega)]
theorem Dc {n:Nat}(h:n<18446744073709551616):oP (n:Int)=some ((wid n:Nat):Int):=by
 unfold oP
 by_cases h1:4294967296≤n
 ·rw [if_pos (by simpa using by omega)]
  have e:ay .u64 (n:Int) 32=((n/2^32:Nat):Int):=by have:=qf (x:=(n:Int)) (k:=32) (by omega);simpa using this
  rw[e,show(32:Int)=((32:Nat):Int) from rfl,Db (by omega) (by omega),wA (n:=n) (k:=32) (by omega)]
 ·rw [if_neg (by simpa using by omega),show (0:Int)=((0:Nat):Int) from rfl,Db (by omega) (by omega)]
  rfl
theorem len_eq {n:Nat}(h:n<18446744073709551616):pD (n:Int)=some ((wid n:Nat):Int):=by
 unfold pD;rw[Dc h];rfl
end Go.Proofs.YthbonoagbeilkaaGreat.Hay
