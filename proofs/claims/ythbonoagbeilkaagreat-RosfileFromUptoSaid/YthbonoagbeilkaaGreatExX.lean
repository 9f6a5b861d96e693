import Derived.Test.YthbonoagbeilkaaGreatExI
import Derived.Test.YthbonoagbeilkaaGreatHbM
set_option linter.unusedVariables false
set_option linter.unusedSimpArgs false
namespace Go.Proofs.YthbonoagbeilkaaGreat.Hay
open Option renaming bind_some→Z0
open List renaming replicate→Z2,getD_eq_getElem?_getD→Z4,getElem?_eq_getElem→Z6,take_succ_eq_append_getElem→Z9,getElem_mem→Zj,ext_getElem→Zr,drop_eq_getElem_cons→Zu,range→Zv,take_of_length_le→Zy,length_cons→Zz,mem_cons→X3
open Nat renaming pow_le_pow_right→Zb,div_div_eq_div_mul→Zc,le_of_ble_eq_true→Zd,mul_le_mul_right→Zf,mul_le_mul→Zg,testBit_eq_decide_div_mod_eq→Zh,div_le_self→Zk,le_refl→Zm,pow_succ→Zn,eq_of_testBit_eq→Zo,two_pow_add_eq_or_of_lt→Zp,add_mul→Zt,div_eq_of_lt→Zw,mul_comm→X4
open Bool renaming false_eq_true→Zl
open Int renaming natCast_pow→Z5,eq_ofNat_of_zero_le→Z7,tdiv_eq_ediv_of_nonneg→Ze,natCast_nonneg→Zi,fdiv_eq_ediv_of_nonneg→Zq,tmod_eq_emod_of_nonneg→Zs
open BitVec renaming toNat_ofInt→Z8,ofInt→Za
open IntKind renaming i64→Jj,u64→Z1,u8→Z3,u32→Zx
section
variable {G:Sg}{P:Program}{W0:Bse}{m:M}{z:Cz}{a:Act}{w:World}{Γ:Tab P G}
def JY (Γ : Tab P G) (st : St G) (b t : Nat) : Option (AV G) :=
  match Γ.ty t,av? (st.op (.tmp b)) with
  | some I, some (.blk i) =>(match eU st.L i with
    |some (.dat c x)=>if c=I.T then some (.dat c x none) else none
    |_=>none)
  |_,_=>none
def qs (Γ : Tab P G) (n : Nat) : Nat → List ResultVar → St G → Option (List Nat × St G)
  |_,[],st=>some ([],st)
  | k, .tmp t :: r, st =>(match Nat.blt t n, qs Γ n k r st with
    |true,some (ts,st')=>some (t::ts,st')
    |_,_=>none)
  | k, .cell b t :: r, st =>(match Nat.blt b n, JY Γ st b t with
    |true,some v=>(match qs Γ n (k+1) r (st.put k (.one v)) with|some (ts,st')=>some (k::ts,st')|none=>none)
    |_,_=>none)
def AJ (Γ:Tab P G) (n:Nat) (ps:List Pm) (rs:List Rm) (res:List ResultVar) (st:St G):Option (bI G (ia ps rs)):=
  match qs Γ n n res st with
  |some (ts,st')=>wh Γ ps rs ts st'
  |none=>none
noncomputable def exX (n:Nat) (Γ:Tab P G) (D:List (CS P G)) (c:Code) (ps:List Pm) (rs:List Rm) (res:List ResultVar) (A:An G (bI G (ia ps rs))) (x:d6 G ps):Option (bI G (ia ps rs)):=
  ex n Γ D c A (AH G ps x) (AJ Γ n ps rs res) (λ_ _=>none) (AJ Γ n ps rs res)
theorem rL {xs:Array Value}{v:Value}{t:Nat}(h:t≠xs.size):(xs.push v).getD t undef=xs.getD t undef:=by
  simp only[Array.getD_eq_getD_getElem?,Array.getElem?_push];rw[if_neg h]
theorem wj {xs:Array Value}{v:Value}:(xs.push v).getD xs.size undef=v:=by
  simp[Array.getD_eq_getD_getElem?,Array.getElem?_push]
theorem I7 {n : Nat} {L0 : Rs} {T0 : List (Nat × Value)} {m0 : M} : ∀ {res : List ResultVar} {k : Nat} {st : St G} {a' : Act} {ts : List Nat} {st' : St G}, Sat G P [] k W0 L0 T0 m0 st a' w → n ≤ k → (∀ t, t < n → a'.tmps.getD t undef = a.tmps.getD t undef) → qs Γ n k res st = some (ts, st') →
    ∃(k':Nat) (a'':Act),Sat G P [] k' W0 L0 T0 m0 st' a'' w∧(∀t,t<k→a''.tmps.getD t undef=a'.tmps.getD t undef)∧rG P a w res (ts.map λt=>a''.tmps.getD t undef):=by
  intro res
  induction res with
  | nil =>
    intro k st a' ts st' hs hk ha h;unfold qs at h;obtain⟨rfl,rfl⟩:=Prod.mk.inj (Option.some.inj h);exact⟨k,a',hs,λ_ _=>rfl,.nil⟩
  | cons r res ih =>
    intro k st a' ts st' hs hk ha h;cases r with
    | tmp t =>
      unfold qs at h;split at h
      · rename_i ts0 st0 ht h0
        obtain⟨rfl,rfl⟩:=Prod.mk.inj (Option.some.inj h);have ht:t<n:=Zd ht;obtain⟨k',a'',h1,h2,h3⟩:=ih hs hk ha h0;refine⟨k',a'',h1,h2,.cons ?_ h3⟩;simp only;rw[←ha t ht,←h2 t (Nat.lt_of_lt_of_le ht hk)]
        rfl
      ·cases h
    | cell b t =>
      unfold qs at h;split at h
      · rename_i v hb hv
        have hb:b<n:=Zd hb;cases hq:qs Γ n (k+1) res (st.put k (.one v)) with
        |none=>rw[hq] at h;cases h
        | some q =>
          rw[hq] at h;obtain⟨ts0,st0⟩:=q;obtain⟨rfl,rfl⟩:=Prod.mk.inj (Option.some.inj h);unfold JY at hv;split at hv
          · rename_i I i hI hi
            split at hv
            · rename_i c x hB
              split at hv
              · rename_i hc
                injection hv with hv
                subst hv;subst hc;obtain⟨⟨m,z,h0,hr,hM⟩,hdf,hsz⟩:=hs;obtain⟨p',hp1,hp2⟩:=br (fd hr) hi;obtain⟨L,TL,p,cs,j,hS,g1,g2,g3⟩:=hM.get hB;rw[g1] at hp1;injection hp1 with hp1
                subst hp1;have hRV:RV (I.T.kd G) m ((I.T.kd G).val cs) x:=EB g3
                have hs':Sat G P [] (k+1) W0 L0 T0 m0 (st.put k (.one (.dat I.T x none))) { a' with tmps:=a'.tmps.push ((I.T.kd G).val cs) } w:=by
                  refine⟨⟨m,z,h0,?_,hM⟩,hdf,by simp[hsz]⟩;intro e he;rcases X3.1 he with rfl|he
                  · simp only
                    rw[←hsz,wj];exact⟨hRV,trivial⟩
                  · obtain ⟨q1, q2⟩ := lB he
                    have:=hr e q1;simp only;rw[rL (by rw[hsz];exact q2)];exact this
                obtain⟨k',a'',h1,h2,h3⟩:=ih hs' (by omega) (λt ht=>by
                  simp only;rw[rL (by rw[hsz];omega)]
                  exact ha t ht) hq
                refine⟨k',a'',h1,λt ht=>?_,.cons ?_ h3⟩
                · rw [h2 t (by omega)]
                  simp only;rw[rL (by rw[hsz];omega)]
                · have e1 : a''.tmps.getD k undef = (I.T.kd G).val cs := by
                    rw[h2 k (by omega)];simp only;rw[←hsz,wj]
                  have e2:a.tmps.getD b undef= .pointer (some ⟨p.1,0,none⟩):=by
                    rw[←ha b hb];exact hp2
                  simp only;rw[e1,e2]
                  have hA:At w p.1 0 cs:=by
                    have:=hS.atL g2 (o:=0) (cs':=cs) (by simp) (by rw[(I.T.kd G).len g3];exact(I.T.kd G).pos);exact this
                  simp[asAddr,i7 I.ok g3 hA]
              ·cases hv
            ·cases hv
          ·cases hv
      ·cases h
theorem ES {n : Nat} {fn : Func} {ps : List Pm} {rs : List Rm} {res : List ResultVar} {st : St G} {L : List (Nat × List Value)} {TL : List (Nat × Value)} {vs : List Value} {x : d6 G ps} {Lp : List (Nat × List Value)} {Tp : List (Nat × Value)} {m0 : M} {r : bI G (ia ps rs)}
    (hres:fn.results.toList=res) (hP:jU G P m0 ps vs x Lp Tp) (hnl:(nmA ps vs Lp).length=cnt ps) (hs0:Sat G P [] n W0 ⟨L,nmA ps vs Lp⟩ TL m0 st a w) (h:AJ Γ n ps rs res st=some r):
    Fin P fn (λv w'=>∃(m':M) (us:List Value) (Lr Lp':List (Nat×List Value)) (Tr:List (Nat×Value)),M.le m0 m'∧S W0 m' w' (Lr++(Lp'++L)) (Tr++TL)∧v=tup us∧mZ G m' (ps.filterMap Pm.out) rs us r Lr Tr∧iv G m' ps vs (rest G (ps.filterMap Pm.out) rs r) Lp Lp') a w:=by
  unfold AJ at h;split at h
  · rename_i ts st9 hcells
    obtain⟨k',a9,hs,_,hRL⟩:=I7 (a:=a) hs0 (Zm n) (λ_ _=>rfl) hcells;obtain⟨l0,hE0,_⟩:=d5 hs0.df hs0.sz [];obtain⟨⟨m,z,h0,hr,Lc,Tc,h1,h2,hS,hsf⟩,hdf,hsz⟩:=hs;unfold wh at h;obtain⟨m1,hm1,hF,_,_⟩:=yr (G:=G) (P:=P) (L0:=⟨L,nmA ps vs Lp⟩) (T0:=TL) (ps:=rs.map Rm.pm) (xs:=ts.map Operand.tmp) (st:=st9) (m:=m) (z:=z) ⟨hr,Lc,Tc,h1,h2,hS,hsf⟩;split at h
    · rename_i y st2 bk he
      split at h
      · rename_i o hc ho
        injection h with h
        subst h;obtain⟨z',Lr,Tr,hz,⟨_,Lc2,Tc2,k1,k2,hS2,hsf2⟩,hPR,_⟩:=yt hF he;have hlen:=k1.len;have hc:=Zd hc;obtain⟨pre,hpre⟩:=hsf2;simp only at hpre
        have hpl:pre.length=st2.L.length - cnt ps:=by
          have:=congrArg List.length hpre;rw[List.length_append,hlen.1,hnl] at this;omega
        have hdz:z'.b.drop (st2.L.length - cnt ps)=nmA ps vs Lp:=by rw[hpre,←hpl,List.drop_left]
        have kd:=k1.drop (st2.L.length - cnt ps);rw[hdz] at kd;have hO:=ER hP ho (by simp;omega) kd;obtain⟨j1,j2⟩:=EQ (os:=ps.filterMap Pm.out) (o:=o) hPR
        have hus:(ts.map Operand.tmp).map a9.eval=ts.map λt=>a9.tmps.getD t undef:=by
          simp only[List.map_map,Function.comp_def];rfl
        refine Fin.mk hE0 hres hRL ⟨m1,_,Lr,Lc2.drop (st2.L.length - cnt ps),Tr,h0.trans hm1,?_,rfl,?_,?_⟩
        ·exact(S.between hS2 _ (by omega)).betweenT
        ·rw[←hus];exact j1
        ·rw[j2];exact hO
      ·cases h
    ·cases h
  ·cases h
theorem Ctr.ofX {f : FuncId} {fn : Func} {c : Code} {n : Nat} {ps : List Pm} {rs : List Rm} {res : List ResultVar} {D : List (CS P G)} {g : d6 G ps → Option (bI G (ia ps rs))} (A : An G (bI G (ia ps rs)))
    (hmx:P.follows .mixedOrders=true) (hf:P.funcs[f]? =some fn) (hb:fn.body=some c) (hn:fn.ntmps=n) (hle:Nat.ble ps.length n=true) (hres:fn.results.toList=res)
    (hO:Obl (cnt ps) n Γ D c A 0 (AJ Γ n ps rs res) (λ_ _=>none) (AJ Γ n ps rs res)) (h:∀x,exX n Γ D c ps rs res A x=g x):Ctr G P f ps rs g:=by
  intro W0 m w L TL vs x r Lp Tp hS hP hg;rw[←h x] at hg;have hlen:vs.length=ps.length:=(zr (a:={ tmps:=vs.toArray,defers:=[] }) (i:=0) hP (λj v hj=>by simp[hj])).choose_spec.2.2.2.1;refine xq hf hb hn (by rw[hlen];exact Zd hle) λa hE=>?_
  have hargs:∀j v,vs[j]? =some v→a.tmps.getD (0+j) undef=v:=by
    intro j v hj;rw[Nat.zero_add];refine hE.at_ j v ?_
    have key:∀(l:List Value) (k:Nat) (j:Nat) (v:Value),l[j]? =some v→lk ((List.range' k l.length).zip l) (k+j)=some v:=by
      intro l
      induction l with
      |nil=>intro k j v h;simp at h
      | cons u l ih =>
        intro k j v h;simp only[Zz,List.range'_succ,List.zip_cons_cons,lk];cases j with
        |zero=>simp at h;subst h;simp
        | succ j =>
          have hb:Nat.beq k (k+(j+1))=false:=by
            cases hb:Nat.beq k (k+(j+1)) with
            |false=>rfl
            |true=>have:=Nat.eq_of_beq_eq_true hb;omega
          simp only[hb];have:=ih (k+1) j v (by simpa using h);rw[show k+1+j=k+(j+1) by omega] at this;exact this
    have:=key vs 0 j v hj;rw[List.range_eq_range'];simpa using this
  obtain⟨zt,k1,k2,k3,_,k5⟩:=zr (a:=a) (i:=0) hP hargs;have hs:Sat G P [] n W0 ⟨L,nmA ps vs Lp⟩ TL m (AH G ps x) a w:=⟨⟨m,⟨nmA ps vs Lp,zt⟩,M.le.refl m,k1,Lp,Tp,k2,k3,hS,⟨[],rfl⟩⟩,hE.defers,hE.size⟩
  refine De (np:=cnt ps) (L0:=⟨L,nmA ps vs Lp⟩) (by rw[k5];exact Zm _) hmx c A (AH G ps x) _ _ _ r a w _ _ _ hg hO hs ?_ ?_ ?_
  ·intro st' a' w' h1 h2 _ _;exact ES hres hP k5 h2 h1
  ·intro j st' a' w' h1;cases h1
  ·intro st' a' w' h1 h2 _ _;exact ES hres hP k5 h2 h1
theorem Ctr.nX {Γ:Tab P G} {f:FuncId} {fn:Func} {c:Code} {n:Nat} {ps:List Pm} {rs:List Rm} {res:List ResultVar} {D:List (CS P G)} {g:d6 G ps→Option (bI G (ia ps rs))} (A:An G (bI G (ia ps rs)))
    (hA:A.nc=true) (hmx:P.follows .mixedOrders=true) (hf:P.funcs[f]? =some fn) (hb:fn.body=some c) (hn:fn.ntmps=n) (hle:Nat.ble ps.length n=true) (hres:fn.results.toList=res)
    (h:∀x,exX n Γ D c ps rs res A x=g x):Ctr G P f ps rs g:=
  Ctr.ofX A hmx hf hb hn hle hres (Obl.nc _ _ _ _ c A 0 _ _ _ hA) h
end
set_option linter.unusedVariables false
section
variable {G:Sg}{P:Program}{m:M}{os:List Ty}{ps:List Pm}{rs:List Rm}{vs us:List Value}{Lp Lp' Lr:List (Nat×List Value)}{Tp Tr:List (Nat×Value)}
theorem oT {x:d6 G []}(h:jU G P m [] vs x Lp Tp):vs=[]∧Lp=[]∧Tp=[]:=by
 cases vs<;>cases Lp<;>cases Tp<;>first|exact⟨rfl,rfl,rfl⟩|exact h.elim
theorem kL {t:Ty}{x:d6 G (.rd t::ps)}(h:jU G P m (.rd t::ps) vs x Lp Tp):∃v vs',vs=v::vs'∧RV (t.kd G) m v x.1∧jU G P m ps vs' x.2 Lp Tp:=by
 cases vs with
 |nil=>cases Lp<;>cases Tp<;>exact h.elim
 |cons v vs=>exact⟨v,vs,rfl,h.1,h.2⟩
theorem PJ {t:Ty}{x:d6 G (.ap t::ps)}(h:jU G P m (.ap t::ps) vs x Lp Tp):∃v vs' Tp',vs=v::vs'∧Tp=((t.kd G).sz,v)::Tp'∧RV (kSl (t.kd G)) m v x.1∧jU G P m ps vs' x.2 Lp Tp':=by
 cases vs with
 |nil=>cases Lp<;>cases Tp<;>exact h.elim
 |cons v vs=>
  cases Tp with
  |nil=>cases Lp<;>exact h.elim
  |cons e Tp=>obtain⟨h1,rfl,h2⟩:=h;exact⟨v,vs,Tp,rfl,rfl,h1,h2⟩
theorem PK {t:Ty}{x:d6 G (.pt t::ps)}(h:jU G P m (.pt t::ps) vs x Lp Tp):∃b cs vs' Lp',vs= .pointer (some ⟨b,0,none⟩)::vs'∧Lp=(b,cs)::Lp'∧(t.kd G).R m cs x.1∧jU G P m ps vs' x.2 Lp' Tp:=by
 cases vs with
 |nil=>cases Lp<;>cases Tp<;>exact h.elim
 |cons v vs=>
  cases Lp with
  |nil=>cases Tp<;>exact h.elim
  |cons e Lp=>obtain⟨h1,rfl,h2⟩:=h;exact⟨e.1,e.2,vs,Lp,rfl,rfl,h1,h2⟩
theorem cl {x:bI G (([]:List Rm).map Rm.ty++os)}(h:mZ G m os [] us x Lr Tr):us=[]∧Lr=[]∧Tr=[]:=by
 cases us<;>cases Lr<;>cases Tr<;>first|exact⟨rfl,rfl,rfl⟩|exact h.elim
theorem cZ {t:Ty}{x:bI G ((Rm.rd t::rs).map Rm.ty++os)}(h:mZ G m os (.rd t::rs) us x Lr Tr):∃v us',us=v::us'∧RV (t.kd G) m v (hdT G t (rs.map Rm.ty++os) x)∧mZ G m os rs us' (tlT G t (rs.map Rm.ty++os) x) Lr Tr:=by
 cases us with
 |nil=>cases Lr<;>cases Tr<;>exact h.elim
 |cons v us=>exact⟨v,us,rfl,h.1,h.2⟩
theorem sV {t:Ty}{x:bI G ((Rm.ap t::rs).map Rm.ty++os)}(h:mZ G m os (.ap t::rs) us x Lr Tr):∃v us' Tr',us=v::us'∧Tr=((t.kd G).sz,v)::Tr'∧RV (kSl (t.kd G)) m v (hdT G (.sl t) (rs.map Rm.ty++os) x)∧mZ G m os rs us' (tlT G (.sl t) (rs.map Rm.ty++os) x) Lr Tr':=by
 cases us with
 |nil=>cases Lr<;>cases Tr<;>exact h.elim
 |cons v us=>
  cases Tr with
  |nil=>cases Lr<;>exact h.elim
  |cons e Tr=>obtain⟨h1,rfl,h2⟩:=h;exact⟨v,us,Tr,rfl,rfl,h1,h2⟩
theorem cm {x:bI G (([]:List Pm).filterMap Pm.out)}(h:iv G m [] vs x Lp Lp'):Lp'=[]:=by
 cases vs<;>cases Lp<;>cases Lp'<;>first|rfl|exact h.elim
theorem bG {t:Ty}{v:Value}{x:bI G ((Pm.rd t::ps).filterMap Pm.out)}(h:iv G m (.rd t::ps) (v::vs) x Lp Lp'):iv G m ps vs x Lp Lp':=h
theorem JZ {t:Ty}{v:Value}{x:bI G ((Pm.ap t::ps).filterMap Pm.out)}(h:iv G m (.ap t::ps) (v::vs) x Lp Lp'):iv G m ps vs x Lp Lp':=h
theorem J0 {a b:Ty}{v:Value}{x:bI G ((Pm.f1 a b::ps).filterMap Pm.out)}(h:iv G m (.f1 a b::ps) (v::vs) x Lp Lp'):iv G m ps vs x Lp Lp':=h
theorem Cp {a c b:Ty}{v:Value}{x:bI G ((Pm.f2 a c b::ps).filterMap Pm.out)}(h:iv G m (.f2 a c b::ps) (v::vs) x Lp Lp'):iv G m ps vs x Lp Lp':=h
theorem PL {t:Ty}{v:Value}{b:Nat}{cs:List Value}{x:bI G ((Pm.pt t::ps).filterMap Pm.out)}(h:iv G m (.pt t::ps) (v::vs) x ((b,cs)::Lp) Lp'):∃cs' Lp'',Lp'=(b,cs')::Lp''∧(t.kd G).R m cs' (hdT G t (ps.filterMap Pm.out) x)∧iv G m ps vs (tlT G t (ps.filterMap Pm.out) x) Lp Lp'':=by
 cases Lp' with
 |nil=>exact h.elim
 |cons e Lp'=>obtain⟨b',cs'⟩:=e;obtain⟨h0,h1,h2⟩:=h;simp only at h0;subst h0;exact⟨cs',Lp',rfl,h1,h2⟩
end
set_option linter.unusedVariables false
noncomputable section
structure Ap where
 fKind:Int
 fBool:Bool
 fInt:Int
 fText:(List Int)
 deriving DecidableEq
def Ap.zero:Ap:=⟨0,false,0,[]⟩
structure aT where
 fMany:Int
 fValue:Ap
 deriving DecidableEq
def aT.zero:aT:=⟨0,Ap.zero⟩
structure bO where
 fKind:Int
 fMany:Int
 fMin:Ap
 fMax:Ap
 fNulls:Int
 fBytes:Int
 deriving DecidableEq
def bO.zero:bO:=⟨0,0,Ap.zero,Ap.zero,0,0⟩
structure fG where
 fMany:Int
 fValue:Ap
 deriving DecidableEq
def fG.zero:fG:=⟨0,Ap.zero⟩
structure du where
 fKind:Int
 fMany:Int
 fMin:Ap
 fMax:Ap
 fNulls:Int
 fBytes:Int
 deriving DecidableEq
def du.zero:du:=⟨0,0,Ap.zero,Ap.zero,0,0⟩
structure aj where
 fB:(List Int)
 fOk:Bool
 deriving DecidableEq
def aj.zero:aj:=⟨[],false⟩
structure aM where
 fEpoch:Int
 fNumber:Int
 deriving DecidableEq
def aM.zero:aM:=⟨0,0⟩
structure aa where
 fId:aM
 fRow:(List Ap)
 fDeleted:Int
 deriving DecidableEq
def aa.zero:aa:=⟨aM.zero,[],0⟩
structure ax where
 fColumns:Int
 fSort:(List Int)
 fL:(List aa)
 deriving DecidableEq
def ax.zero:ax:=⟨0,[],[]⟩
structure bZ where
 fColumns:Int
 fSort:(List Int)
 fKinds:(List Int)
 fL:(List aa)
 deriving DecidableEq
def bZ.zero:bZ:=⟨0,[],[],[]⟩
structure ET where
 fColumns:Int
 fSort:(List Int)
 fL:(List aa)
 deriving DecidableEq
def ET.zero:ET:=⟨0,[],[]⟩
def lW:Option Int:=
 some (-1)
def eo (p0:List Ap) (p1:(Ap→Option Bool)) (x11:Int):Option (Int⊕Int):=
 if decide (x11<(p0.length:Int)) then
  (idx p0 x11).bind λx22=>
  (p1 x22).bind λr28=>
  if r28 then
   (some x11).map Sum.inr
  else
   some (.inl (Jj.wrap (x11+1)))
 else
  (lW).map Sum.inr
def jW (p0:List Ap) (p1:(Ap→Option Bool)):Option Int:=
 am (λs:Int=>eo p0 p1 s) 0
def et (p0:List Ap) (p1:(Ap→Option Bool)):Option Bool:=
 (jW p0 p1).bind λr4=>
 some (decide (0≤r4))
def kM:Option Ap:=
 some (⟨0,false,0,[]⟩:Ap)
def oU (p0:Bool):Option Ap:=
 some (⟨1,p0,0,[]⟩:Ap)
def eG (p0:Int):Option Ap:=
 some (⟨2,false,p0,[]⟩:Ap)
def oV (p0:List Int):Option Ap:=
 some (⟨3,false,0,p0⟩:Ap)
def pI (x129:Bool):Option Bool:=
 some x129
def lF (p0 : Ap) : Option Bool :=
 if p0.fKind==0 then
  (kM).bind λr14=>
  some (decide (p0=r14))
 else
  if p0.fKind==1 then
   (oU p0.fBool).bind λr46=>
   some (decide (p0=r46))
  else
   if p0.fKind==2 then
    (eG p0.fInt).bind λr87=>
    some (decide (p0=r87))
   else
    if p0.fKind==3 then
     (oV p0.fText).bind λr135=>
     if decide (p0=r135) then
      pI (decide ((p0.fText.length:Int)≤64))
     else
      pI false
    else
     some false
def eY (p0:Ap):Option Bool:=
 (lF p0).bind λr8=>
 some (!r8)
def ug (x9:List Int):Option (List Int×Bool):=
 some (x9,true)
def mu (p0:List Ap) (x18:List Int) (x21:Int):Option ((List Int×Int)⊕(List Int×Bool)):=
 if decide (x21<(p0.length:Int)) then
  (idx p0 x21).bind λx27=>
  if x27.fKind != 2 then
   (some ([],false)).map Sum.inr
  else
   (app 17592186044416 x18 ([x27.fInt])).bind λz55=>
   some (.inl (z55,Jj.wrap (x21+1)))
 else
  (ug x18).map Sum.inr
def nl (p0:List Ap):Option (List Int×Bool):=
 am (λs:(List Int×Int)=>mu p0 s.1 s.2) ([],0)
def mw (x8:List aT):Option (List aT):=
 some x8
def iV (x16:Int) (x29:List aT):Option ((Int×List aT)⊕List aT):=
 some (.inl (Jj.wrap (x16+1),x29))
def my (x16:Int) (x18:List aT) (x37:Ap):Option ((Int×List aT)⊕List aT):=
 (app 2932031007402 x18 ([(⟨1,x37⟩:aT)])).bind λz63=>
 iV x16 z63
def gN (x16:Int) (x18:List aT) (x75:Int) (x85:Bool):Option (Int⊕((Int×List aT)⊕List aT)):=
 if x85 then
  (ix x18 x75).bind λj90=>
  (x18[j90]?).bind λx95=>
  (ix x18 x75).bind λj100=>
  (x18[j100]?).bind λx106=>
  (iV x16 (x18.set j100 ({ x106 with fMany:=Jj.wrap (x95.fMany+1) }))).map Sum.inr
 else
  some (.inl (Jj.wrap (x75+1)))
def eQ (x16:Int) (x18:List aT) (x37:Ap) (x75:Int):Option (Int⊕((Int×List aT)⊕List aT)):=
 if decide (x75<(x18.length:Int)) then
  if x75==(Jj.wrap ((x18.length:Int) - 1)) then
   (ix x18 x75).bind λj112=>
   (x18[j112]?).bind λx115=>
   gN x16 x18 x75 (decide (x115.fValue=x37))
  else
   gN x16 x18 x75 false
 else
  (my x16 x18 x37).map Sum.inr
def kt (p0:List Ap) (x16:Int) (x18:List aT):Option ((Int×List aT)⊕List aT):=
 if decide (x16<(p0.length:Int)) then
  (idx p0 x16).bind λx37=>
  am (λs:Int=>eQ x16 x18 x37 s) 0
 else
  (mw x18).map Sum.inr
def lG (p0:List Ap):Option (List aT):=
 am (λs:(Int×List aT)=>kt p0 s.1 s.2) (0,([]:List aT))
def xT (p0:List Ap):Option Bool:=
 some (decide ((p0.length:Int)≤16))
def qd (p0:List Ap) (x14:Int):Option (Int⊕Bool):=
 if decide (x14<(p0.length:Int)) then
  (idx p0 x14).bind λx20=>
  (lF x20).bind λr33=>
  if !r33 then
   (some false).map Sum.inr
  else
   some (.inl (Jj.wrap (x14+1)))
 else
  (xT p0).map Sum.inr
def rM (p0:List Ap):Option Bool:=
 am (λs:Int=>qd p0 s) 0
def nQ (p0:List Int) (x7:List Int):Option (List Int):=
 (app 140737488355328 p0 x7).bind λz13=>
 some z13
def lm (p0:List Int) (p1:Int) (x22:Int) (x24:List Int):Option ((Int×List Int)⊕List Int):=
 if decide (x22<8) then
  (chk (decide (0≤(Jj.wrap (56 - (Jj.wrap (8*x22))))))).bind λu38=>
  (ix x24 x22).bind λj42=>
  (x24[j42]?).bind λx47=>
  some (.inl (Jj.wrap (x22+1),(x24.set j42 (Z3.wrap (aF .u64 p1 (Jj.wrap (56 - (Jj.wrap (8*x22)))))))))
 else
  (nQ p0 x24).map Sum.inr
def mz (p0:List Int) (p1:Int):Option (List Int):=
 am (λs:(Int×List Int)=>lm p0 p1 s.1 s.2) (0,(Z2 8 0:List Int))
def uP (p0 : List Int) (p1 : Ap) : Option (List Int) :=
 (app 140737488355328 p0 ([Z3.wrap p1.fKind])).bind λz16=>
 if p1.fKind==1 then
  if p1.fBool then
   (app 140737488355328 z16 ([1])).bind λz39=>
   some z39
  else
   (app 140737488355328 z16 ([0])).bind λz51=>
   some z51
 else
  if p1.fKind==2 then
   (mz z16 (Z1.wrap p1.fInt)).bind λr67=>
   some r67
  else
   if p1.fKind==3 then
    (app 140737488355328 z16 ([Z3.wrap (p1.fText.length:Int)])).bind λz89=>
    (app 140737488355328 z89 p1.fText).bind λz102=>
    some z102
   else
    some z16
def uh (x27:List Int):Option (List Int×Int):=
 some (x27,0)
def pJ (p0:List Ap) (x36:List Int) (x39:Int):Option ((List Int×Int)⊕(List Int×Int)):=
 if decide (x39<(p0.length:Int)) then
  (idx p0 x39).bind λx45=>
  (uP x36 x45).bind λr59=>
  some (.inl (r59,Jj.wrap (x39+1)))
 else
  (uh x36).map Sum.inr
def nq (p0:List Ap):Option (List Int×Int):=
 (rM p0).bind λr4=>
 if !r4 then
  some ([],30)
 else
  am (λs:(List Int×Int)=>pJ p0 s.1 s.2) ([Z3.wrap (p0.length:Int)],0)
def kN (p0:Ap):Option (List Int):=
 (nq ([p0])).bind λr12=>
 (sub r12.1 1 r12.1.length).bind λx28=>
 some x28
def ui (x14:List Int):Option (List Int):=
 some x14
def pK (r4:List aT) (x22:List Int) (x25:Int):Option ((List Int×Int)⊕List Int):=
 if decide (x25<(r4.length:Int)) then
  (idx r4 x25).bind λx31=>
  (app 140737488355328 x22 ([Z3.wrap x31.fMany])).bind λz52=>
  (kN x31.fValue).bind λr63=>
  (app 140737488355328 z52 r63).bind λz69=>
  some (.inl (z69,Jj.wrap (x25+1)))
 else
  (ui x22).map Sum.inr
def nr (p0:List Ap):Option (List Int):=
 (lG p0).bind λr4=>
 am (λs:(List Int×Int)=>pK r4 s.1 s.2) ([],0)
def zw (x6:List Int):Option (List Int):=
 some x6
def f8 (p0:Int) (x14:List Int) (x17:Int):Option ((List Int×Int)⊕List Int):=
 if decide (x17<8) then
  (chk (decide (0≤(Jj.wrap (56 - (Jj.wrap (8*x17))))))).bind λu30=>
  (app 140737488355328 x14 ([Z3.wrap (aF .u64 p0 (Jj.wrap (56 - (Jj.wrap (8*x17)))))])).bind λz38=>
  some (.inl (z38,Jj.wrap (x17+1)))
 else
  (zw x14).map Sum.inr
def l9 (p0:Int):Option (List Int):=
 am (λs:(List Int×Int)=>f8 p0 s.1 s.2) ([],0)
def sW (x27:List Int):Option (List Int):=
 some x27
def sX (x38:Int) (x46:List Int):Option ((List Int×Int)⊕List Int):=
 some (.inl (x46,Jj.wrap (x38+1)))
def sY (x38:Int) (x84:List Int) (x87:Int):Option ((List Int×Int)⊕List Int):=
 (app 140737488355328 x84 ([Z3.wrap x87])).bind λz97=>
 sX x38 z97
def jG (x38:Int) (x106:List Int) (x109:Int):Option ((List Int×Int)⊕((List Int×Int)⊕List Int)):=
 if decide (127<x109) then
  (app 140737488355328 x106 ([bOr .u8 (Z3.wrap x109) 128])).bind λz124=>
  some (.inl (z124,aF .u64 x109 7))
 else
  (sY x38 x106 x109).map Sum.inr
def oW (p0:List Int) (x19:List Int) (x35:List Int) (x38:Int):Option ((List Int×Int)⊕List Int):=
 if decide (x38<(x19.length:Int)) then
  (idx x19 x38).bind λx53=>
  (idx p0 x38).bind λx65=>
  am (λs:(List Int×Int)=>jG x38 s.1 s.2) (x35,dV .u64 (ew .u64 (Z1.wrap (Jj.wrap (x53 - x65))) 1) (Z1.wrap (aF .i64 (Jj.wrap (x53 - x65)) 63)))
 else
  (sW x35).map Sum.inr
def ma (p0:List Int):Option (List Int):=
 (idx p0 0).bind λx3=>
 (l9 (Z1.wrap x3)).bind λr11=>
 (sub p0 1 p0.length).bind λx19=>
 am (λs:(List Int×Int)=>oW p0 x19 s.1 s.2) (r11,0)
def dS (p0:List Ap):Option (List Ap):=
 (app 3518437208883 ([]) p0).bind λz13=>
 some z13
def ku (p0:List Ap) (p1:(Ap→Ap→Option Int)):Option (List Ap):=
 xz p1 p0
def ln (p0:Int):Option Bool:=
 some (p0 != p0)
def iq (p0 : Int) (p1 : Int) : Option Int :=
 (ln p0).bind λr3=>
 (ln p1).bind λr11=>
 if r3 then
  if r11 then
   some 0
  else
   some (-1)
 else
  if r11 then
   some 1
  else
   if decide (p0<p1) then
    some (-1)
   else
    if decide (p1<p0) then
     some 1
    else
     some 0
def jH (p0:Int):Option Bool:=
 some (p0 != p0)
def iB (p0 : Int) (p1 : Int) : Option Int :=
 (jH p0).bind λr3=>
 (jH p1).bind λr11=>
 if r3 then
  if r11 then
   some 0
  else
   some (-1)
 else
  if r11 then
   some 1
  else
   if decide (p0<p1) then
    some (-1)
   else
    if decide (p1<p0) then
     some 1
    else
     some 0
def eD (p0:List Int) (p1:List Int):Option Int:=
 some (tz p0 p1)
def lX (p0:List Int) (p1:List Int):Option Int:=
 (eD p0 p1).bind λr4=>
 some r4
def fw (p0 : Ap) (p1 : Ap) (x39 : Bool) : Option Int :=
 if x39 then
  if p1.fBool then
   some (-1)
  else
   some 1
 else
  if p0.fKind==2 then
   (iB p0.fInt p1.fInt).bind λr63=>
   some r63
  else
   if p0.fKind==3 then
    (lX p0.fText p1.fText).bind λr88=>
    some r88
   else
    some 0
def cC (p0:Ap) (p1:Ap):Option Int:=
 if p0.fKind != p1.fKind then
  (iq p0.fKind p1.fKind).bind λr29=>
  some r29
 else
  if p0.fKind==1 then
   fw p0 p1 (!(p0.fBool==p1.fBool))
  else
   fw p0 p1 false
def oD:Option Int:=
 some (-1)
def fH (p0:List Ap) (p1:Ap) (x15:Int):Option (Int⊕Int):=
 if decide (x15<(p0.length:Int)) then
  (idx p0 x15).bind λx24=>
  if decide (p1=x24) then
   (some x15).map Sum.inr
  else
   some (.inl (Jj.wrap (x15+1)))
 else
  (oD).map Sum.inr
def ib (p0:List Ap) (p1:Ap):Option Int:=
 am (λs:Int=>fH p0 p1 s) 0
def vA (x15:Int) (x17:Int):Option Int:=
 (idx ([0,1,2,2,3,3,3,3,4,4,4,4,4,4,4,4,5,5,5,5,5,5,5,5,5,5,5,5,5,5,5,5,6,6,6,6,6,6,6,6,6,6,6,6,6,6,6,6,6,6,6,6,6,6,6,6,6,6,6,6,6,6,6,6,7,7,7,7,7,7,7,7,7,7,7,7,7,7,7,7,7,7,7,7,7,7,7,7,7,7,7,7,7,7,7,7,7,7,7,7,7,7,7,7,7,7,7,7,7,7,7,7,7,7,7,7,7,7,7,7,7,7,7,7,7,7,7,7,8,8,8,8,8,8,8,8,8,8,8,8,8,8,8,8,8,8,8,8,8,8,8,8,8,8,8,8,8,8,8,8,8,8,8,8,8,8,8,8,8,8,8,8,8,8,8,8,8,8,8,8,8,8,8,8,8,8,8,8,8,8,8,8,8,8,8,8,8,8,8,8,8,8,8,8,8,8,8,8,8,8,8,8,8,8,8,8,8,8,8,8,8,8,8,8,8,8,8,8,8,8,8,8,8,8,8,8,8,8,8,8,8,8,8,8,8,8,8,8,8,8,8,8,8,8,8,8]) (Z3.wrap x15)).bind λx23=>
 some (Jj.wrap (x17+(Jj.wrap x23)))
def vB (x6:Int) (x8:Int):Option Int:=
 if decide (256≤x6) then
  vA (aF .u32 x6 8) (Jj.wrap (x8+8))
 else
  vA x6 x8
def FO (p0:Int):Option Int:=
 if decide (65536≤p0) then
  vB (aF .u32 p0 16) 16
 else
  vB p0 0
def nR (x24:Int) (x26:Int):Option Int:=
 (idx ([0,1,2,2,3,3,3,3,4,4,4,4,4,4,4,4,5,5,5,5,5,5,5,5,5,5,5,5,5,5,5,5,6,6,6,6,6,6,6,6,6,6,6,6,6,6,6,6,6,6,6,6,6,6,6,6,6,6,6,6,6,6,6,6,7,7,7,7,7,7,7,7,7,7,7,7,7,7,7,7,7,7,7,7,7,7,7,7,7,7,7,7,7,7,7,7,7,7,7,7,7,7,7,7,7,7,7,7,7,7,7,7,7,7,7,7,7,7,7,7,7,7,7,7,7,7,7,7,8,8,8,8,8,8,8,8,8,8,8,8,8,8,8,8,8,8,8,8,8,8,8,8,8,8,8,8,8,8,8,8,8,8,8,8,8,8,8,8,8,8,8,8,8,8,8,8,8,8,8,8,8,8,8,8,8,8,8,8,8,8,8,8,8,8,8,8,8,8,8,8,8,8,8,8,8,8,8,8,8,8,8,8,8,8,8,8,8,8,8,8,8,8,8,8,8,8,8,8,8,8,8,8,8,8,8,8,8,8,8,8,8,8,8,8,8,8,8,8,8,8,8,8,8,8,8,8]) (Z3.wrap x24)).bind λx32=>
 some (Jj.wrap (x26+(Jj.wrap x32)))
def nS (x15:Int) (x17:Int):Option Int:=
 if decide (256≤x15) then
  nR (aF .u64 x15 8) (Jj.wrap (x17+8))
 else
  nR x15 x17
def nU (x6:Int) (x8:Int):Option Int:=
 if decide (65536≤x6) then
  nS (aF .u64 x6 16) (Jj.wrap (x8+16))
 else
  nS x6 x8
def oX (p0:Int):Option Int:=
 if decide (4294967296≤p0) then
  nU (aF .u64 p0 32) 32
 else
  nU p0 0
def pL (p0:Int):Option Int:=
 (oX p0).bind λr3=>
 some r3
def kO (x20:List Int):Option (List Int):=
 some x20
def kP (x28:Int) (x39:List Int):Option ((Int×List Int)⊕List Int):=
 some (.inl (Jj.wrap (x28+1),x39))
def i9 (x59:Int) (x79:List Int):Option ((Int×List Int)⊕((Int×List Int)⊕List Int)):=
 some (.inl (Jj.wrap (x59+1),x79))
def ja (p1:Int) (x28:Int) (x46:Int) (x59:Int) (x61:List Int):Option ((Int×List Int)⊕((Int×List Int)⊕List Int)):=
 if decide (x59<p1) then
  (chk (decide (0≤x59))).bind λu72=>
  if (dm .u64 (aF .u64 x46 x59) 1)==1 then
   (ix x61 (Jj.wrap ((Jj.wrap ((Jj.wrap (x28*p1))+x59)).tdiv 8))).bind λj92=>
   (x61[j92]?).bind λx95=>
   (chk (decide (0≤((Jj.wrap ((Jj.wrap (x28*p1))+x59)).tmod 8)))).bind λu98=>
   (ix x61 (Jj.wrap ((Jj.wrap ((Jj.wrap (x28*p1))+x59)).tdiv 8))).bind λj155=>
   (x61[j155]?).bind λx160=>
   i9 x59 (x61.set j155 (bOr .u8 x95 (ew .u8 1 ((Jj.wrap ((Jj.wrap (x28*p1))+x59)).tmod 8))))
  else
   i9 x59 x61
 else
  (kP x28 x61).map Sum.inr
def jb (p0:List Int) (p1:Int) (x28:Int) (x30:List Int):Option ((Int×List Int)⊕List Int):=
 if decide (x28<(p0.length:Int)) then
  (idx p0 x28).bind λx46=>
  am (λs:(Int×List Int)=>ja p1 x28 x46 s.1 s.2) (0,x30)
 else
  (kO x30).map Sum.inr
def iw (p0:List Int) (p1:Int):Option (List Int):=
 (mk 281474976710656 (Jj.wrap ((Jj.wrap ((Jj.wrap ((p0.length:Int)*p1))+7)).tdiv 8)) 0).bind λz8=>
 am (λs:(Int×List Int)=>jb p0 p1 s.1 s.2) (0,z8)
def fO (p0:List Ap):Option (List Ap):=
 some p0
def fP (x16:Int):Option (Int⊕List Ap):=
 some (.inl (Jj.wrap (x16+1)))
def fQ (x100:Int) (x102:List Ap):Option (Int⊕List Ap):=
 (vw x102 x100 x102.length).bind λq109=>
 (clr x102 q109.1 q109.2 Ap.zero).bind λz114=>
 (sub z114 0 x100).bind λx120=>
 (some x120).map Sum.inr
def dC (x128:Int) (x202:Int) (x204:List Ap):Option ((Int×Int×List Ap)⊕(Int⊕List Ap)):=
 some (.inl (x202,Jj.wrap (x128+1),x204))
def fR (q93:Nat×Nat) (x126:Int) (x128:Int) (x130:List Ap):Option ((Int×Int×List Ap)⊕(Int⊕List Ap)):=
 (chk (Nat.ble q93.2 cO)).bind λu137=>
 if decide (x128<(q93.2:Int)) then
  (ixv q93.1 q93.2 x128).bind λj142=>
  (x130[j142]?).bind λx145=>
  (ixv q93.1 q93.2 (Jj.wrap (x128 - 1))).bind λj147=>
  (x130[j147]?).bind λx150=>
  if !decide (x145=x150) then
   (ixv q93.1 q93.2 x128).bind λj216=>
   (x130[j216]?).bind λx220=>
   (ix x130 x126).bind λj223=>
   (x130[j223]?).bind λx228=>
   dC x128 (Jj.wrap (x126+1)) (x130.set j223 x220)
  else
   dC x128 x126 x130
 else
  (fQ x126 x130).map Sum.inr
def fS (p0:List Ap) (x16:Int):Option (Int⊕List Ap):=
 if decide (x16<(p0.length:Int)) then
  (ix p0 x16).bind λj31=>
  (p0[j31]?).bind λx34=>
  (ix p0 (Jj.wrap (x16 - 1))).bind λj36=>
  (p0[j36]?).bind λx39=>
  if decide (x34=x39) then
   (vw p0 x16 p0.length).bind λq93=>
   am (λs:(Int×Int×List Ap)=>fR q93 s.1 s.2.1 s.2.2) (x16,1,p0)
  else
   fP x16
 else
  (fO p0).map Sum.inr
def eh (p0:List Ap):Option (List Ap):=
 if decide ((p0.length:Int)<2) then
  some p0
 else
  am (λs:Int=>fS p0 s) 1
def iN (p0:List Ap):Option (List Ap):=
 (app 3518437208883 ([]:List Ap) p0).bind λz16=>
 some z16
def mA (r22:List Ap) (x48:List Int) (x58:List Int):Option (List Int):=
 (pL (Z1.wrap (Jj.wrap ((r22.length:Int) - 1)))).bind λr68=>
 (iw x58 r68).bind λr75=>
 (app 140737488355328 x48 r75).bind λz81=>
 some z81
def iW (p0:List Ap) (r22:List Ap) (x48:List Int) (x90:List Int) (x93:Int):Option ((List Int×Int)⊕List Int):=
 if decide (x93<(p0.length:Int)) then
  (idx p0 x93).bind λx99=>
  (ib r22 x99).bind λr114=>
  (app 17592186044416 x90 ([Z1.wrap r114])).bind λz126=>
  some (.inl (z126,Jj.wrap (x93+1)))
 else
  (mA r22 x48 x90).map Sum.inr
def mB (p0:List Ap) (r22:List Ap) (x48:List Int):Option (List Int):=
 am (λs:(List Int×Int)=>iW p0 r22 x48 s.1 s.2) ([],0)
def kw (p0:List Ap) (r22:List Ap) (x137:List Int) (x140:Int):Option ((List Int×Int)⊕List Int):=
 if decide (x140<(r22.length:Int)) then
  (idx r22 x140).bind λx146=>
  (kN x146).bind λr160=>
  (app 140737488355328 x137 r160).bind λz166=>
  some (.inl (z166,Jj.wrap (x140+1)))
 else
  (mB p0 r22 x137).map Sum.inr
def nt (p0:List Ap):Option (List Int):=
 (iN p0).bind λr3=>
 (ku r3 cC).bind λr14=>
 (eh r14).bind λr22=>
 am (λs:(List Int×Int)=>kw p0 r22 s.1 s.2) ([Z3.wrap (r22.length:Int)],0)
def py (x20:Int):Option Int:=
 some x20
def lP (p0:List Int) (x27:Int) (x29:Int):Option ((Int×Int)⊕Int):=
 if decide (x29<(p0.length:Int)) then
  (idx p0 x29).bind λx41=>
  some (.inl ((if x41<x27 then x41 else x27),Jj.wrap (x29+1)))
 else
  (py x27).map Sum.inr
def pB (p0:List Int):Option Int:=
 (idx p0 0).bind λx9=>
 am (λs:(Int×Int)=>lP p0 s.1 s.2) (x9,1)
def kQ (p0:List Int):Option Int:=
 if decide ((p0.length:Int)<1) then
  none
 else
  pB p0
def sZ (r3:Int) (x18:List Int) (x21:Int):Option (List Int):=
 (l9 (Z1.wrap r3)).bind λr26=>
 (app 140737488355328 r26 ([Z3.wrap x21])).bind λz38=>
 (iw x18 x21).bind λr46=>
 (app 140737488355328 z38 r46).bind λz52=>
 some z52
def oY (p0:List Int) (r3:Int) (x61:List Int) (x64:Int) (x66:Int):Option ((List Int×Int×Int)⊕List Int):=
 if decide (x66<(p0.length:Int)) then
  (idx p0 x66).bind λx72=>
  (app 17592186044416 x61 ([Z1.wrap ((Z1.wrap x72) - (Z1.wrap r3))])).bind λz92=>
  (oX (Z1.wrap ((Z1.wrap x72) - (Z1.wrap r3)))).bind λr101=>
  some (.inl (z92,(if x64<r101 then r101 else x64),Jj.wrap (x66+1)))
 else
  (sZ r3 x61 x64).map Sum.inr
def mb (p0:List Int):Option (List Int):=
 (kQ p0).bind λr3=>
 am (λs:(List Int×Int×Int)=>oY p0 r3 s.1 s.2.1 s.2.2) ([],0,0)
def kR (x109:List Int):Option (List Int×Int):=
 some (x109,0)
def jd (p1:List Ap) (x118:List Int) (x121:Int):Option ((List Int×Int)⊕(List Int×Int)):=
 if decide (x121<(p1.length:Int)) then
  (idx p1 x121).bind λx127=>
  (kN x127).bind λr141=>
  (app 140737488355328 x118 r141).bind λz147=>
  some (.inl (z147,Jj.wrap (x121+1)))
 else
  (kR x118).map Sum.inr
def eH (p0 : Int) (p1 : List Ap) (r27 : List Int × Bool) (x43 : Bool) : Option (List Int × Int) :=
 if x43 then
  some ([],62)
 else
  if (p1.length:Int)==0 then
   some ([],0)
  else
   if p0==1 then
    (nr p1).bind λr59=>
    some (r59,0)
   else
    if p0==2 then
     (ma r27.1).bind λr71=>
     some (r71,0)
    else
     if p0==3 then
      (nt p1).bind λr83=>
      some (r83,0)
     else
      if p0==4 then
       (mb r27.1).bind λr95=>
       some (r95,0)
      else
       am (λs:(List Int×Int)=>jd p1 s.1 s.2) ([],0)
def gO (p0 : Int) (p1 : List Ap) (x5 : Bool) : Option (List Int × Int) :=
 if x5 then
  some ([],62)
 else
  if decide (64<(p1.length:Int)) then
   some ([],61)
  else
   (et p1 eY).bind λr17=>
   if r17 then
    some ([],60)
   else
    (nl p1).bind λr27=>
    if !r27.2 then
     if p0==2 then
      eH p0 p1 r27 true
     else
      eH p0 p1 r27 (p0==4)
    else
     eH p0 p1 r27 false
def fj (p0:Int) (p1:List Ap):Option (List Int×Int):=
 if decide (p0<0) then
  gO p0 p1 true
 else
  gO p0 p1 (decide (4<p0))
def AK (x7:Int):Option Int:=
 some x7
def pM (x18:Int) (x48:Int) (x50:Int):Option ((Int×Int×Int)⊕Int):=
 some (.inl (x48,x50,Jj.wrap (x18+1)))
def mD (x14:Int) (x16:Int) (x18:Int) (r27:List Int×Int) (x44:Bool):Option ((Int×Int×Int)⊕Int):=
 if x44 then
  pM x18 x18 (r27.1.length:Int)
 else
  pM x18 x14 x16
def uj (p0 : List Ap) (x14 : Int) (x16 : Int) (x18 : Int) : Option ((Int × Int × Int) ⊕ Int) :=
 if decide (x18 ≤ 4) then
  (fj x18 p0).bind λr27=>
  if r27.2==0 then
   if decide (x16<0) then
    mD x14 x16 x18 r27 true
   else
    mD x14 x16 x18 r27 (decide ((r27.1.length:Int)<x16))
  else
   mD x14 x16 x18 r27 false
 else
  (AK x14).map Sum.inr
def qe (p0:List Ap):Option Int:=
 am (λs:(Int×Int×Int)=>uj p0 s.1 s.2.1 s.2.2) (0,(-1),0)
def mU (x24:Ap):Option Ap:=
 some x24
def jx (x35:Int) (x95:Ap):Option ((Int×Ap)⊕Ap):=
 some (.inl (Jj.wrap (x35+1),x95))
def jy (p0:List Ap) (p1:(Ap→Ap→Option Int)) (x35:Int) (x37:Ap):Option ((Int×Ap)⊕Ap):=
 if decide (x35<(p0.length:Int)) then
  (idx p0 x35).bind λx47=>
  (p1 x47 x37).bind λr85=>
  if decide (r85<0) then
   (idx p0 x35).bind λx105=>
   jx x35 x105
  else
   jx x35 x37
 else
  (mU x37).map Sum.inr
def mV (p0:List Ap) (p1:(Ap→Ap→Option Int)):Option Ap:=
 (idx p0 0).bind λx10=>
 am (λs:(Int×Ap)=>jy p0 p1 s.1 s.2) (1,x10)
def f9 (p0:List Ap) (p1:(Ap→Ap→Option Int)):Option Ap:=
 if decide ((p0.length:Int)<1) then
  none
 else
  mV p0 p1
def mW (x24:Ap):Option Ap:=
 some x24
def jz (x35:Int) (x95:Ap):Option ((Int×Ap)⊕Ap):=
 some (.inl (Jj.wrap (x35+1),x95))
def jA (p0:List Ap) (p1:(Ap→Ap→Option Int)) (x35:Int) (x37:Ap):Option ((Int×Ap)⊕Ap):=
 if decide (x35<(p0.length:Int)) then
  (idx p0 x35).bind λx47=>
  (p1 x47 x37).bind λr85=>
  if decide (0<r85) then
   (idx p0 x35).bind λx105=>
   jz x35 x105
  else
   jz x35 x37
 else
  (mW x37).map Sum.inr
def mX (p0:List Ap) (p1:(Ap→Ap→Option Int)):Option Ap:=
 (idx p0 0).bind λx10=>
 am (λs:(Int×Ap)=>jA p0 p1 s.1 s.2) (1,x10)
def ga (p0:List Ap) (p1:(Ap→Ap→Option Int)):Option Ap:=
 if decide ((p0.length:Int)<1) then
  none
 else
  mX p0 p1
def jt (p0:List Ap):Option (List Ap):=
 some p0
def fk (x36:bO) (x39:Ap):Option (bO×Bool):=
 if x39.fKind==0 then
  some (({ x36 with fNulls:=Jj.wrap (x36.fNulls+1) }),true)
 else
  some (x36,true)
def kS (p0:Int) (p1:List Ap):Option bO:=
 (f9 p1 cC).bind λr7=>
 (ga p1 cC).bind λr14=>
 (jt p1).bind λr28=>
 (em (λ(s:bO) (x:Ap)=>fk s x) (⟨p0,(p1.length:Int),r7,r14,0,0⟩:bO) r28).bind λy67=>
 if y67.2 then
  some y67.1
 else
  none
def qt (p0:Ap):Option (List Int):=
 (nq ([p0])).bind λr12=>
 (sub r12.1 1 r12.1.length).bind λx28=>
 some x28
def wk (x17:Int):Option Int:=
 some (Au .u32 x17)
def oZ (p0:List Int) (x7:List Int) (x25:Int) (x27:Int):Option ((Int×Int)⊕Int):=
 if decide (x27<(p0.length:Int)) then
  (idx p0 x27).bind λx33=>
  (ix x7 (dm .u32 (dV .u32 x25 (Zx.wrap x33)) 15)).bind λj48=>
  (x7[j48]?).bind λx52=>
  (ix x7 (dm .u32 (dV .u32 x52 (aF .u32 (dV .u32 x25 (Zx.wrap x33)) 4)) 15)).bind λj62=>
  (x7[j62]?).bind λx66=>
  some (.inl (dV .u32 x66 (aF .u32 (dV .u32 x52 (aF .u32 (dV .u32 x25 (Zx.wrap x33)) 4)) 4),Jj.wrap (x27+1)))
 else
  (wk x25).map Sum.inr
def mc (p0:List Int) (x7:List Int):Option Int:=
 am (λs:(Int×Int)=>oZ p0 x7 s.1 s.2) (4294967295,0)
def rN (x78:Int) (x89:List Int):Option ((Int×List Int)⊕Int):=
 some (.inl (Jj.wrap (x78+1),x89))
def rO (x78:Int) (x80:List Int) (x103:Int):Option ((Int×List Int)⊕Int):=
 (ix x80 x78).bind λj108=>
 (x80[j108]?).bind λx113=>
 rN x78 (x80.set j108 x103)
def md (x78:Int) (x80:List Int) (x118:Int) (x120:Int):Option ((Int×Int)⊕((Int×List Int)⊕Int)):=
 if decide (x120<4) then
  some (.inl (dV .u32 (aF .u32 x118 1) (Zx.wrap (3988292384*(dm .u32 x118 1))),Jj.wrap (x120+1)))
 else
  (rO x78 x80 x118).map Sum.inr
def o4 (p0:List Int) (x78:Int) (x80:List Int):Option ((Int×List Int)⊕Int):=
 if decide (x78<16) then
  am (λs:(Int×Int)=>md x78 x80 s.1 s.2) (Zx.wrap x78,0)
 else
  (mc p0 x80).map Sum.inr
def ic (p0:List Int):Option Int:=
 am (λs:(Int×List Int)=>o4 p0 s.1 s.2) (0,(Z2 16 0:List Int))
def kx (p0:List Int):Option (List Int):=
 (ic p0).bind λr3=>
 (app 140737488355328 p0 ([Z3.wrap (aF .u32 r3 24),Z3.wrap (aF .u32 r3 16),Z3.wrap (aF .u32 r3 8),Z3.wrap r3])).bind λz27=>
 some z27
def mE (p1:List Ap) (x13:Int):Option (List Int×Int):=
 (fj x13 p1).bind λr18=>
 if r18.2 != 0 then
  some ([],r18.2)
 else
  (kS x13 p1).bind λr41=>
  (qt r41.fMin).bind λr73=>
  (app 140737488355328 ([Z3.wrap x13,Z3.wrap r41.fMany,Z3.wrap r41.fNulls]) r73).bind λz79=>
  (qt r41.fMax).bind λr90=>
  (app 140737488355328 z79 r90).bind λz96=>
  (app 140737488355328 z96 ([Z3.wrap (aF .i64 (r18.1.length:Int) 8),Z3.wrap (r18.1.length:Int)])).bind λz115=>
  (app 140737488355328 z115 r18.1).bind λz124=>
  (kx z124).bind λr132=>
  some (r132,0)
def nv (p0:Int) (p1:List Ap):Option (List Int×Int):=
 if (p1.length:Int)==0 then
  some ([],70)
 else
  if p0==(-1) then
   (qe p1).bind λr142=>
   mE p1 r142
  else
   mE p1 p0
def nw (x52:Bool):Option Bool:=
 some x52
def tC (p0 : Ap) (x46 : Ap) : Option Bool :=
 if decide (0 ≤ p0.fKind) then
  if decide (p0.fKind≤3) then
   if decide (p0=x46) then
    nw (decide ((p0.fText.length:Int)≤64))
   else
    nw false
  else
   nw false
 else
  nw false
def tD (p0:Ap) (x35:Ap):Option Bool:=
 if p0.fKind==3 then
  tC p0 ({ x35 with fText:=p0.fText })
 else
  tC p0 x35
def tE (p0:Ap) (x24:Ap):Option Bool:=
 if p0.fKind==2 then
  tD p0 ({ x24 with fInt:=p0.fInt })
 else
  tD p0 x24
def uQ (p0:Ap):Option Bool:=
 if p0.fKind==1 then
  tE p0 ({ (⟨p0.fKind,false,0,[]⟩:Ap) with fBool:=p0.fBool })
 else
  tE p0 (⟨p0.fKind,false,0,[]⟩:Ap)
def vC:Option Int:=
 some 0
def lp (x24:Int) (x35:Bool):Option (Int⊕Int):=
 if x35 then
  (some 62).map Sum.inr
 else
  some (.inl (Jj.wrap (x24+1)))
def nV (p0 : Int) (p1 : List Ap) (x24 : Int) : Option (Int ⊕ Int) :=
 if decide (x24 < (p1.length : Int)) then
  if p0==2 then
   (idx p1 x24).bind λx50=>
   lp x24 (x50.fKind != 2)
  else
   if p0==4 then
    (idx p1 x24).bind λx69=>
    lp x24 (x69.fKind != 2)
   else
    lp x24 false
 else
  (vC).map Sum.inr
def qL (p0:Int) (p1:List Ap):Option Int:=
 am (λs:Int=>nV p0 p1 s) 0
def lq (p0:Int) (p1:List Ap) (x84:Int):Option (Int⊕Int):=
 if decide (x84<(p1.length:Int)) then
  (idx p1 x84).bind λx95=>
  (uQ x95).bind λr101=>
  if !r101 then
   (some 60).map Sum.inr
  else
   some (.inl (Jj.wrap (x84+1)))
 else
  (qL p0 p1).map Sum.inr
def nW (p0:Int) (p1:List Ap) (x4:Bool):Option Int:=
 if x4 then
  some 62
 else
  if decide (64<(p1.length:Int)) then
   some 61
  else
   am (λs:Int=>lq p0 p1 s) 0
def uR (p0:Int) (p1:List Ap):Option Int:=
 if decide (p0<0) then
  nW p0 p1 true
 else
  nW p0 p1 (decide (4<p0))
def zx (x6:List fG):Option (List fG):=
 some x6
def ra (x17:Int) (x28:List fG):Option ((List fG×Int)⊕List fG):=
 some (.inl (x28,Jj.wrap (x17+1)))
def o5 (p0:List Ap) (x14:List fG) (x17:Int) (x37:Bool):Option ((List fG×Int)⊕List fG):=
 if x37 then
  (idx x14 (Jj.wrap ((x14.length:Int) - 1))).bind λx44=>
  (sub x14 0 (Jj.wrap ((x14.length:Int) - 1))).bind λx68=>
  (app 2932031007402 ([]) x68).bind λz71=>
  (app 2932031007402 z71 ([{ x44 with fMany:=Jj.wrap (x44.fMany+1) }])).bind λz129=>
  ra x17 z129
 else
  (idx p0 x17).bind λx139=>
  (app 2932031007402 x14 ([(⟨1,x139⟩:fG)])).bind λz151=>
  ra x17 z151
def uS (p0:List Ap) (x14:List fG) (x17:Int):Option ((List fG×Int)⊕List fG):=
 if decide (x17<(p0.length:Int)) then
  if decide (0<x17) then
   (idx p0 x17).bind λx159=>
   (idx p0 (Jj.wrap (x17 - 1))).bind λx163=>
   o5 p0 x14 x17 (decide (x159=x163))
  else
   o5 p0 x14 x17 false
 else
  (zx x14).map Sum.inr
def AL (p0:List Ap):Option (List fG):=
 am (λs:(List fG×Int)=>uS p0 s.1 s.2) ([],0)
def Dh (x6:List Int):Option (List Int):=
 some x6
def je (p0:Int) (x14:List Int) (x17:Int):Option ((List Int×Int)⊕List Int):=
 if decide (0≤x17) then
  (chk (decide (0≤x17))).bind λu27=>
  (app 140737488355328 x14 ([Z3.wrap (aF .u64 p0 x17)])).bind λz35=>
  some (.inl (z35,Jj.wrap (x17 - 8)))
 else
  (Dh x14).map Sum.inr
def qu (p0:Int):Option (List Int):=
 am (λs:(List Int×Int)=>je p0 s.1 s.2) ([],56)
def wm (p0 : Ap) (x18 : Bool) : Option (List Int) :=
 if x18 then
  (app 140737488355328 ([Z3.wrap p0.fKind]) ([1])).bind λz26=>
  some z26
 else
  if p0.fKind==1 then
   (app 140737488355328 ([Z3.wrap p0.fKind]) ([0])).bind λz44=>
   some z44
  else
   if p0.fKind==2 then
    (qu (Z1.wrap p0.fInt)).bind λr63=>
    (app 140737488355328 ([Z3.wrap p0.fKind]) r63).bind λz69=>
    some z69
   else
    if p0.fKind==3 then
     (app 140737488355328 ([Z3.wrap p0.fKind]) ([Z3.wrap (p0.fText.length:Int)])).bind λz94=>
     (app 140737488355328 z94 p0.fText).bind λz107=>
     some z107
    else
     some ([Z3.wrap p0.fKind])
def rP (p0:Ap):Option (List Int):=
 if p0.fKind==1 then
  wm p0 p0.fBool
 else
  wm p0 false
def xU (x24:List Int):Option (List Int):=
 some x24
def xV (x35:Int) (x46:List Int):Option ((List Int×Int)⊕List Int):=
 some (.inl (x46,Jj.wrap (x35+1)))
def xW (x35:Int) (x141:List Int) (x144:Int):Option ((List Int×Int)⊕List Int):=
 (app 140737488355328 x141 ([Z3.wrap x144])).bind λz154=>
 xV x35 z154
def ny (x35:Int) (x163:List Int) (x166:Int):Option ((List Int×Int)⊕((List Int×Int)⊕List Int)):=
 if decide (128≤x166) then
  (app 140737488355328 x163 ([Z3.wrap (Z1.wrap ((x166.tmod 128)+128))])).bind λz182=>
  some (.inl (z182,Z1.wrap (x166.tdiv 128)))
 else
  (xW x35 x163 x166).map Sum.inr
def tF (x32:List Int) (x35:Int) (x136:Int):Option ((List Int×Int)⊕List Int):=
 am (λs:(List Int×Int)=>ny x35 s.1 s.2) (x32,x136)
def tG (p0:List Ap) (x32:List Int) (x35:Int):Option ((List Int×Int)⊕List Int):=
 if decide (x35<(p0.length:Int)) then
  (idx p0 x35).bind λx53=>
  (idx p0 (Jj.wrap (x35 - 1))).bind λx60=>
  if decide ((Jj.wrap (x53.fInt - x60.fInt))<0) then
   tF x32 x35 (Z1.wrap (Jj.wrap ((Jj.wrap ((-2)*(Jj.wrap (x53.fInt - x60.fInt)))) - 1)))
  else
   tF x32 x35 (Z1.wrap (Jj.wrap (2*(Jj.wrap (x53.fInt - x60.fInt)))))
 else
  (xU x32).map Sum.inr
def yE (p0:List Ap):Option (List Int):=
 (idx p0 0).bind λx3=>
 (qu (Z1.wrap x3.fInt)).bind λr14=>
 am (λs:(List Int×Int)=>tG p0 s.1 s.2) (r14,1)
def kU (x38:Bool):Option Bool:=
 some x38
def o6 (x71:Bool):Option Bool:=
 some x71
def pN (p0 : Ap) (p1 : Ap) : Option Bool :=
 if p0.fKind != p1.fKind then
  some (decide (p0.fKind<p1.fKind))
 else
  if p0.fKind==1 then
   if !p0.fBool then
    kU p1.fBool
   else
    kU false
  else
   if p0.fKind==2 then
    some (decide (p0.fInt<p1.fInt))
   else
    if p0.fKind==3 then
     o6 (ltB p0.fText p1.fText)
    else
     o6 false
def iO (p0:Ap) (p1:Ap):Option Int:=
 (pN p0 p1).bind λr14=>
 (pN p1 p0).bind λr25=>
 if r14 then
  some (-1)
 else
  if r25 then
   some 1
  else
   some 0
def xX (x6:List Ap):Option (List Ap):=
 some x6
def xY (x17:Int) (x28:List Ap):Option ((List Ap×Int)⊕List Ap):=
 some (.inl (x28,Jj.wrap (x17+1)))
def tH (x17:Int) (x49:List Ap):Option ((List Ap×Int)⊕List Ap):=
 xY x17 x49
def xZ (p0:List Ap) (x17:Int) (x40:List Ap) (x43:Bool):Option ((List Ap×Int)⊕List Ap):=
 if !x43 then
  (idx p0 x17).bind λx59=>
  (app 3518437208883 x40 ([x59])).bind λz69=>
  tH x17 z69
 else
  tH x17 x40
def tI (x82:Int) (x93:List Ap) (x96:Bool):Option ((List Ap×Bool×Int)⊕((List Ap×Int)⊕List Ap)):=
 some (.inl (x93,x96,Jj.wrap (x82+1)))
def tJ (x14:List Ap) (x82:Int) (x165:List Ap) (x168:Bool):Option ((List Ap×Bool×Int)⊕((List Ap×Int)⊕List Ap)):=
 (idx x14 x82).bind λx173=>
 (app 3518437208883 x165 ([x173])).bind λz183=>
 tI x82 z183 x168
def tK (p0:List Ap) (x14:List Ap) (x17:Int) (x78:List Ap) (x81:Bool) (x82:Int) (r151:Int) (x161:Bool):Option ((List Ap×Bool×Int)⊕((List Ap×Int)⊕List Ap)):=
 if x161 then
  (idx p0 x17).bind λx194=>
  (app 3518437208883 x78 ([x194])).bind λz204=>
  if r151==0 then
   tI x82 z204 true
  else
   tJ x14 x82 z204 true
 else
  tJ x14 x82 x78 x81
def tL (p0:List Ap) (x14:List Ap) (x17:Int) (x78:List Ap) (x81:Bool) (x82:Int):Option ((List Ap×Bool×Int)⊕((List Ap×Int)⊕List Ap)):=
 if decide (x82<(x14.length:Int)) then
  (idx p0 x17).bind λx101=>
  (idx x14 x82).bind λx105=>
  (iO x101 x105).bind λr151=>
  if !x81 then
   tK p0 x14 x17 x78 x81 x82 r151 (decide (r151≤0))
  else
   tK p0 x14 x17 x78 x81 x82 r151 false
 else
  (xZ p0 x17 x78 x81).map Sum.inr
def tM (p0:List Ap) (x14:List Ap) (x17:Int):Option ((List Ap×Int)⊕List Ap):=
 if decide (x17<(p0.length:Int)) then
  am (λs:(List Ap×Bool×Int)=>tL p0 x14 x17 s.1 s.2.1 s.2.2) ([],false,0)
 else
  (xX x14).map Sum.inr
def yF (p0:List Ap):Option (List Ap):=
 am (λs:(List Ap×Int)=>tM p0 s.1 s.2) ([],0)
def ya (x5:Int):Option Int:=
 some x5
def tN (x12:Int) (x14:Int):Option ((Int×Int)⊕Int):=
 if decide (0<x12) then
  some (.inl (Z1.wrap (x12.tdiv 2),Jj.wrap (x14+1)))
 else
  (ya x14).map Sum.inr
def uT (p0:Int):Option Int:=
 am (λs:(Int×Int)=>tN s.1 s.2) (p0,0)
def wo (x14:List Int):Option (List Int):=
 some x14
def wq (x25:Int) (x36:List Int):Option ((List Int×Int)⊕List Int):=
 some (.inl (x36,Jj.wrap (x25+8)))
def wt (x22:List Int) (x25:Int) (x47:Int):Option ((List Int×Int)⊕List Int):=
 (app 140737488355328 x22 ([x47])).bind λz56=>
 wq x25 z56
def rQ (x67:Int) (x85:Int):Option ((Int×Int)⊕((List Int×Int)⊕List Int)):=
 some (.inl (x85,Jj.wrap (x67 - 1)))
def rR (x6:List Int) (x22:List Int) (x25:Int) (x65:Int) (x67:Int):Option ((Int×Int)⊕((List Int×Int)⊕List Int)):=
 if decide (0≤x67) then
  if decide ((Jj.wrap (x25+x67))<(x6.length:Int)) then
   (idx x6 (Jj.wrap (x25+x67))).bind λx97=>
   rQ x67 (Z3.wrap ((Z3.wrap (x65*2))+x97))
  else
   rQ x67 (Z3.wrap (x65*2))
 else
  (wt x22 x25 x65).map Sum.inr
def rS (x6:List Int) (x22:List Int) (x25:Int):Option ((List Int×Int)⊕List Int):=
 if decide (x25<(x6.length:Int)) then
  am (λs:(Int×Int)=>rR x6 x22 x25 s.1 s.2) (0,7)
 else
  (wo x22).map Sum.inr
def rT (x6:List Int):Option (List Int):=
 am (λs:(List Int×Int)=>rS x6 s.1 s.2) ([],0)
def wu (x111:Int) (x122:List Int):Option ((List Int×Int)⊕List Int):=
 some (.inl (x122,Jj.wrap (x111+1)))
def rU (p1:Int) (x111:Int) (x142:List Int) (x145:Int) (x147:Int):Option ((List Int×Int×Int)⊕((List Int×Int)⊕List Int)):=
 if decide (x147<p1) then
  (app 140737488355328 x142 ([Z3.wrap (x145.tmod 2)])).bind λz163=>
  some (.inl (z163,Z1.wrap (x145.tdiv 2),Jj.wrap (x147+1)))
 else
  (wu x111 x142).map Sum.inr
def rV (p0:List Int) (p1:Int) (x108:List Int) (x111:Int):Option ((List Int×Int)⊕List Int):=
 if decide (x111<(p0.length:Int)) then
  (idx p0 x111).bind λx131=>
  am (λs:(List Int×Int×Int)=>rU p1 x111 s.1 s.2.1 s.2.2) (x108,x131,0)
 else
  (rT x108).map Sum.inr
def s4 (p0:List Int) (p1:Int):Option (List Int):=
 am (λs:(List Int×Int)=>rV p0 p1 s.1 s.2) ([],0)
def zy (r3:List Ap) (x21:List Int) (x29:List Int):Option (List Int):=
 (uT (Z1.wrap (Jj.wrap ((r3.length:Int) - 1)))).bind λr39=>
 (s4 x29 r39).bind λr46=>
 (app 140737488355328 x21 r46).bind λz52=>
 some z52
def zA (x64:Int) (x75:List Int):Option ((List Int×Int)⊕List Int):=
 some (.inl (x75,Jj.wrap (x64+1)))
def uU (x88:Int) (x150:List Int):Option ((List Int×Int)⊕((List Int×Int)⊕List Int)):=
 some (.inl (x150,Jj.wrap (x88+1)))
def uV (p0:List Ap) (r3:List Ap) (x64:Int) (x85:List Int) (x88:Int):Option ((List Int×Int)⊕((List Int×Int)⊕List Int)):=
 if decide (x88<(r3.length:Int)) then
  (idx r3 x88).bind λx97=>
  (idx p0 x64).bind λx101=>
  if decide (x97=x101) then
   (app 17592186044416 x85 ([Z1.wrap x88])).bind λz165=>
   uU x88 z165
  else
   uU x88 x85
 else
  (zA x64 x85).map Sum.inr
def rc (p0:List Ap) (r3:List Ap) (x21:List Int) (x61:List Int) (x64:Int):Option ((List Int×Int)⊕List Int):=
 if decide (x64<(p0.length:Int)) then
  am (λs:(List Int×Int)=>uV p0 r3 x64 s.1 s.2) (x61,0)
 else
  (zy r3 x21 x61).map Sum.inr
def zB (p0:List Ap) (r3:List Ap) (x21:List Int):Option (List Int):=
 am (λs:(List Int×Int)=>rc p0 r3 x21 s.1 s.2) ([],0)
def uW (p0:List Ap) (r3:List Ap) (x174:List Int) (x177:Int):Option ((List Int×Int)⊕List Int):=
 if decide (x177<(r3.length:Int)) then
  (idx r3 x177).bind λx189=>
  (rP x189).bind λr195=>
  (app 140737488355328 x174 r195).bind λz201=>
  some (.inl (z201,Jj.wrap (x177+1)))
 else
  (zB p0 r3 x174).map Sum.inr
def AM (p0:List Ap):Option (List Int):=
 (yF p0).bind λr3=>
 am (λs:(List Int×Int)=>uW p0 r3 s.1 s.2) ([Z3.wrap (r3.length:Int)],0)
def yb (x17:Int) (x25:List Int) (x28:Int):Option (List Int):=
 (qu (Z1.wrap x17)).bind λr33=>
 (app 140737488355328 r33 ([Z3.wrap x28])).bind λz45=>
 (s4 x25 x28).bind λr55=>
 (app 140737488355328 z45 r55).bind λz61=>
 some z61
def qf (p0:List Ap) (x17:Int) (x70:List Int) (x73:Int) (x75:Int):Option ((List Int×Int×Int)⊕List Int):=
 if decide (x75<(p0.length:Int)) then
  (idx p0 x75).bind λx86=>
  (app 17592186044416 x70 ([Z1.wrap ((Z1.wrap x86.fInt) - (Z1.wrap x17))])).bind λz107=>
  (uT (Z1.wrap ((Z1.wrap x86.fInt) - (Z1.wrap x17)))).bind λr116=>
  some (.inl (z107,(if x73<r116 then r116 else x73),Jj.wrap (x75+1)))
 else
  (yb x17 x70 x73).map Sum.inr
def yc (p0:List Ap) (x17:Int):Option (List Int):=
 am (λs:(List Int×Int×Int)=>qf p0 x17 s.1 s.2.1 s.2.2) ([],0,0)
def tO (p0:List Ap) (x130:Int) (x132:Int):Option ((Int×Int)⊕List Int):=
 if decide (x132<(p0.length:Int)) then
  (idx p0 x132).bind λx144=>
  some (.inl ((if x144.fInt<x130 then x144.fInt else x130),Jj.wrap (x132+1)))
 else
  (yc p0 x130).map Sum.inr
def yG (p0:List Ap):Option (List Int):=
 (idx p0 0).bind λx3=>
 am (λs:(Int×Int)=>tO p0 s.1 s.2) (x3.fInt,0)
def ie (x25:List Int):Option (List Int×Int):=
 some (x25,0)
def rW (r36:List fG) (x46:List Int) (x49:Int):Option ((List Int×Int)⊕(List Int×Int)):=
 if decide (x49<(r36.length:Int)) then
  (idx r36 x49).bind λx61=>
  (app 140737488355328 x46 ([Z3.wrap x61.fMany])).bind λz76=>
  (idx r36 x49).bind λx86=>
  (rP x86.fValue).bind λr95=>
  (app 140737488355328 z76 r95).bind λz101=>
  some (.inl (z101,Jj.wrap (x49+1)))
 else
  (ie x46).map Sum.inr
def rX (p1:List Ap) (x147:List Int) (x150:Int):Option ((List Int×Int)⊕(List Int×Int)):=
 if decide (x150<(p1.length:Int)) then
  (idx p1 x150).bind λx162=>
  (rP x162).bind λr168=>
  (app 140737488355328 x147 r168).bind λz174=>
  some (.inl (z174,Jj.wrap (x150+1)))
 else
  (ie x147).map Sum.inr
def rY (p0 : Int) (p1 : List Ap) (r5 : Int) (x15 : Bool) : Option (List Int × Int) :=
 if x15 then
  some ([],r5)
 else
  if p0==1 then
   (AL p1).bind λr36=>
   am (λs:(List Int×Int)=>rW r36 s.1 s.2) ([],0)
  else
   if p0==2 then
    (yE p1).bind λr115=>
    ie r115
   else
    if p0==3 then
     (AM p1).bind λr126=>
     ie r126
    else
     if p0==4 then
      (yG p1).bind λr137=>
      ie r137
     else
      am (λs:(List Int×Int)=>rX p1 s.1 s.2) ([],0)
def qv (p0:Int) (p1:List Ap):Option (List Int×Int):=
 (uR p0 p1).bind λr5=>
 if r5 != 0 then
  rY p0 p1 r5 true
 else
  rY p0 p1 r5 ((p1.length:Int)==0)
def FP (x7:Int):Option Int:=
 some x7
def uX (x18:Int) (x48:Int) (x50:Int):Option ((Int×Int×Int)⊕Int):=
 some (.inl (x48,x50,Jj.wrap (x18+1)))
def re (x14:Int) (x16:Int) (x18:Int) (r27:List Int×Int) (x44:Bool):Option ((Int×Int×Int)⊕Int):=
 if x44 then
  uX x18 x18 (r27.1.length:Int)
 else
  uX x18 x14 x16
def zC (p0 : List Ap) (x14 : Int) (x16 : Int) (x18 : Int) : Option ((Int × Int × Int) ⊕ Int) :=
 if decide (x18 < 5) then
  (qv x18 p0).bind λr27=>
  if r27.2==0 then
   if decide (x16<0) then
    re x14 x16 x18 r27 true
   else
    re x14 x16 x18 r27 (decide ((r27.1.length:Int)<x16))
  else
   re x14 x16 x18 r27 false
 else
  (FP x14).map Sum.inr
def AN (p0:List Ap):Option Int:=
 am (λs:(Int×Int×Int)=>zC p0 s.1 s.2.1 s.2.2) (0,(-1),0)
def yd (x73:du):Option du:=
 some x73
def tP (x84:Int) (x215:du):Option ((Int×du)⊕du):=
 some (.inl (Jj.wrap (x84+1),x215))
def qg (p1:List Ap) (x84:Int) (x196:du):Option ((Int×du)⊕du):=
 (idx p1 x84).bind λx202=>
 if x202.fKind==0 then
  tP x84 ({ x196 with fNulls:=Jj.wrap (x196.fNulls+1) })
 else
  tP x84 x196
def qh (p1:List Ap) (x84:Int) (x144:du):Option ((Int×du)⊕du):=
 (idx p1 x84).bind λx148=>
 (iO x148 x144.fMax).bind λr186=>
 if decide (0<r186) then
  (idx p1 x84).bind λx235=>
  qg p1 x84 ({ x144 with fMax:=x235 })
 else
  qg p1 x84 x144
def tQ (p1:List Ap) (x84:Int) (x86:du):Option ((Int×du)⊕du):=
 if decide (x84<(p1.length:Int)) then
  (idx p1 x84).bind λx96=>
  (iO x96 x86.fMin).bind λr134=>
  if decide (r134<0) then
   (idx p1 x84).bind λx248=>
   qh p1 x84 ({ x86 with fMin:=x248 })
  else
   qh p1 x84 x86
 else
  (yd x86).map Sum.inr
def yH (p0:Int) (p1:List Ap):Option du:=
 (idx p1 0).bind λx3=>
 (idx p1 0).bind λx7=>
 am (λs:(Int×du)=>tQ p1 s.1 s.2) (0,(⟨p0,(p1.length:Int),x3,x7,0,0⟩:du))
def BB (x6:Int):Option Int:=
 some (dV .u32 x6 4294967295)
def BD (x16:Int) (x27:Int):Option ((Int×Int)⊕Int):=
 some (.inl (x27,Jj.wrap (x16+1)))
def wv (x51:Int) (x63:Int):Option ((Int×Int)⊕((Int×Int)⊕Int)):=
 some (.inl (x63,Jj.wrap (x51+1)))
def ww (x16:Int) (x49:Int) (x51:Int):Option ((Int×Int)⊕((Int×Int)⊕Int)):=
 if decide (x51<8) then
  if (x49.tmod 2)==1 then
   wv x51 (dV .u32 (Zx.wrap (x49.tdiv 2)) 3988292384)
  else
   wv x51 (Zx.wrap (x49.tdiv 2))
 else
  (BD x16 x49).map Sum.inr
def wy (p0:List Int) (x14:Int) (x16:Int):Option ((Int×Int)⊕Int):=
 if decide (x16<(p0.length:Int)) then
  (idx p0 x16).bind λx36=>
  am (λs:(Int×Int)=>ww x16 s.1 s.2) (dV .u32 x14 (Zx.wrap x36),0)
 else
  (BB x14).map Sum.inr
def zD (p0:List Int):Option Int:=
 am (λs:(Int×Int)=>wy p0 s.1 s.2) (4294967295,0)
def wz (x8:List Int):Option (List Int):=
 some x8
def wA (x19:Int) (x28:List Int):Option ((List Int×Int)⊕List Int):=
 some (.inl (x28,Jj.wrap (x19 - 1)))
def wB (x16:List Int) (x19:Int) (x40:Int):Option ((List Int×Int)⊕List Int):=
 (app 140737488355328 x16 ([Z3.wrap (x40.tmod 256)])).bind λz51=>
 wA x19 z51
def rZ (x16:List Int) (x19:Int) (x60:Int) (x62:Int):Option ((Int×Int)⊕((List Int×Int)⊕List Int)):=
 if decide (x62<x19) then
  some (.inl (Z1.wrap (x60.tdiv 256),Jj.wrap (x62+1)))
 else
  (wB x16 x19 x60).map Sum.inr
def o7 (p0:Int) (x16:List Int) (x19:Int):Option ((List Int×Int)⊕List Int):=
 if decide (0≤x19) then
  am (λs:(Int×Int)=>rZ x16 x19 s.1 s.2) (p0,0)
 else
  (wz x16).map Sum.inr
def oE (p0:Int) (p1:Int):Option (List Int):=
 am (λs:(List Int×Int)=>o7 p0 s.1 s.2) ([],Jj.wrap (p1 - 1))
def qi (p1:List Ap) (x13:Int):Option (List Int×Int):=
 (qv x13 p1).bind λr18=>
 if r18.2 != 0 then
  some ([],r18.2)
 else
  (yH x13 p1).bind λr41=>
  (rP r41.fMin).bind λr73=>
  (app 140737488355328 ([Z3.wrap x13,Z3.wrap r41.fMany,Z3.wrap r41.fNulls]) r73).bind λz79=>
  (rP r41.fMax).bind λr90=>
  (app 140737488355328 z79 r90).bind λz96=>
  (app 140737488355328 z96 ([Z3.wrap (Jj.wrap ((r18.1.length:Int).tdiv 256)),Z3.wrap ((r18.1.length:Int).tmod 256)])).bind λz116=>
  (app 140737488355328 z116 r18.1).bind λz125=>
  (zD z125).bind λr134=>
  (oE (Z1.wrap r134) 4).bind λr142=>
  (app 140737488355328 z125 r142).bind λz148=>
  some (z148,0)
def yI (p0:Int) (p1:List Ap):Option (List Int×Int):=
 if (p1.length:Int)==0 then
  some ([],70)
 else
  if p0==(-1) then
   (AN p1).bind λr158=>
   qi p1 r158
  else
   qi p1 p0
def uk (x6:Int):Option Int:=
 some x6
def pO (p0:List Int) (x13:Int) (x15:Int):Option ((Int×Int)⊕Int):=
 if decide (x15<8) then
  (idx p0 x15).bind λx27=>
  some (.inl (bOr .u64 (ew .u64 x13 8) (Z1.wrap x27),Jj.wrap (x15+1)))
 else
  (uk x13).map Sum.inr
def qj (p0:List Int):Option Int:=
 am (λs:(Int×Int)=>pO p0 s.1 s.2) (0,0)
def ky (x21:List Int) (x205:Bool):Option (Ap×List Int×Bool):=
 if x205 then
  (idx x21 0).bind λx208=>
  (sub x21 1 (Z3.wrap (1+x208))).bind λx213=>
  (oV x213).bind λr216=>
  (idx x21 0).bind λx221=>
  (sub x21 (Z3.wrap (1+x221)) x21.length).bind λx226=>
  some (r216,x226,true)
 else
  some ((⟨0,false,0,[]⟩:Ap),[],false)
def o8 (x16 : Int) (x21 : List Int) (x145 : Bool) : Option (Ap × List Int × Bool) :=
 if x145 then
  (qj x21).bind λr148=>
  (eG (Jj.wrap r148)).bind λr154=>
  (sub x21 8 x21.length).bind λx159=>
  some (r154,x159,true)
 else
  if (Jj.wrap x16) == 3 then
   if decide (1≤(x21.length:Int)) then
    (idx x21 0).bind λx325=>
    if decide (x325≤64) then
     (idx x21 0).bind λx339=>
     ky x21 (decide ((Jj.wrap x339)<(x21.length:Int)))
    else
     ky x21 false
   else
    ky x21 false
  else
   ky x21 false
def kz (x16:Int) (x21:List Int) (x83:Bool):Option (Ap×List Int×Bool):=
 if x83 then
  (idx x21 0).bind λx86=>
  (oU (x86==1)).bind λr91=>
  (sub x21 1 x21.length).bind λx96=>
  some (r91,x96,true)
 else
  if (Jj.wrap x16)==2 then
   o8 x16 x21 (decide (8≤(x21.length:Int)))
  else
   o8 x16 x21 false
def s5 (p0 : List Int) : Option (Ap × List Int × Bool) :=
 if (p0.length:Int)==0 then
  some ((⟨0,false,0,[]⟩:Ap),[],false)
 else
  (idx p0 0).bind λx16=>
  (sub p0 1 p0.length).bind λx21=>
  if (Jj.wrap x16)==0 then
   (kM).bind λr69=>
   some (r69,x21,true)
  else
   if (Jj.wrap x16)==1 then
    if decide (1≤(x21.length:Int)) then
     (idx x21 0).bind λx384=>
     kz x16 x21 (decide (x384≤1))
    else
     kz x16 x21 false
   else
    kz x16 x21 false
def ul (x64:List Int) (x67:List Ap):Option (List Ap×Int):=
 if decide (0<(x64.length:Int)) then
  some ([],30)
 else
  some (x67,0)
def kA (x11:Int) (x82:List Int) (x85:List Ap) (x88:Int):Option ((List Int×List Ap×Int)⊕(List Ap×Int)):=
 if decide (x88<(Jj.wrap x11)) then
  (s5 x82).bind λr95=>
  if !r95.2.2 then
   (some ([],30)).map Sum.inr
  else
   (app 3518437208883 x85 ([r95.1])).bind λz129=>
   some (.inl (r95.2.1,z129,Jj.wrap (x88+1)))
 else
  (ul x82 x85).map Sum.inr
def pP (p0:List Int) (x5:Bool):Option (List Ap×Int):=
 if x5 then
  some ([],30)
 else
  (idx p0 0).bind λx11=>
  (sub p0 1 p0.length).bind λx16=>
  am (λs:(List Int×List Ap×Int)=>kA x11 s.1 s.2.1 s.2.2) (x16,[],0)
def lH (p0:List Int):Option (List Ap×Int):=
 if (p0.length:Int)==0 then
  pP p0 true
 else
  (idx p0 0).bind λx147=>
  pP p0 (decide (16<x147))
def AO:Option (Ap×List Int×Bool):=
 some ((⟨0,false,0,[]⟩:Ap),[],false)
def mF (p0:List Int) (x18:Int) (x24:Bool):Option (Int⊕(Ap×List Int×Bool)):=
 if x24 then
  (sub p0 0 x18).bind λx33=>
  (app 140737488355328 ([1]) x33).bind λz37=>
  (lH z37).bind λr43=>
  if r43.2==0 then
   (idx r43.1 0).bind λx61=>
   (sub p0 x18 p0.length).bind λx65=>
   (some (x61,x65,true)).map Sum.inr
  else
   some (.inl (Jj.wrap (x18+1)))
 else
  (AO).map Sum.inr
def mG (p0:List Int) (x18:Int):Option (Int⊕(Ap×List Int×Bool)):=
 if decide (x18≤(p0.length:Int)) then
  mF p0 x18 (decide (x18≤66))
 else
  mF p0 x18 false
def lI (p0:List Int):Option (Ap×List Int×Bool):=
 am (λs:Int=>mG p0 s) 1
def nY (p0:List Int) (x17:Int) (x22:Int) (x27:Int) (r118:Ap×List Int×Bool) (r140:Ap×List Int×Bool) (x163:Bool):Option (bO×List Int×Bool):=
 if x163 then
  some ((⟨0,0,Ap.zero,Ap.zero,0,0⟩:bO),[],false)
 else
  (idx r140.2.1 0).bind λx173=>
  (idx r140.2.1 1).bind λx178=>
  (sub r140.2.1 2 r140.2.1.length).bind λx237=>
  if decide ((x237.length:Int)<(Jj.wrap ((bOr .i64 (ew .i64 (Jj.wrap x173) 8) (Jj.wrap x178))+4))) then
   some ((⟨0,0,Ap.zero,Ap.zero,0,0⟩:bO),[],false)
  else
   (sub x237 0 (bOr .i64 (ew .i64 (Jj.wrap x173) 8) (Jj.wrap x178))).bind λx268=>
   some ({ { { (⟨Jj.wrap x17,Jj.wrap x22,Ap.zero,Ap.zero,Jj.wrap x27,0⟩:bO) with fMin:=r118.1 } with fMax:=r140.1 } with fBytes:=Jj.wrap ((Jj.wrap ((Jj.wrap ((p0.length:Int) - (x237.length:Int)))+(bOr .i64 (ew .i64 (Jj.wrap x173) 8) (Jj.wrap x178))))+4) },x268,true)
def gw (p0 : List Int) (x7 : Bool) : Option (bO × List Int × Bool) :=
 if x7 then
  some ((⟨0,0,Ap.zero,Ap.zero,0,0⟩:bO),[],false)
 else
  (idx p0 0).bind λx17=>
  (idx p0 1).bind λx22=>
  (idx p0 2).bind λx27=>
  (sub p0 3 p0.length).bind λx114=>
  (lI x114).bind λr118=>
  (lI r118.2.1).bind λr140=>
  if !r118.2.2 then
   nY p0 x17 x22 x27 r118 r140 true
  else
   if !r140.2.2 then
    nY p0 x17 x22 x27 r118 r140 true
   else
    nY p0 x17 x22 x27 r118 r140 (decide ((r140.2.1.length:Int)<2))
def jI (p0 : List Int) : Option (bO × List Int × Bool) :=
 if decide ((p0.length:Int)<3) then
  gw p0 true
 else
  (idx p0 0).bind λx385=>
  if decide (4<x385) then
   gw p0 true
  else
   (idx p0 1).bind λx471=>
   if x471==0 then
    gw p0 true
   else
    (idx p0 1).bind λx572=>
    if decide (64<x572) then
     gw p0 true
    else
     (idx p0 2).bind λx688=>
     (idx p0 1).bind λx693=>
     gw p0 (decide (x693<x688))
def ke (p0:List Int):Option (List Int):=
 (app 140737488355328 ([]) p0).bind λz13=>
 some z13
def o9:Option Bool:=
 some true
def gc (p0:List Int) (p1:List Int) (x18:Int):Option (Int⊕Bool):=
 if decide (x18<(p0.length:Int)) then
  (idx p0 x18).bind λx26=>
  (idx p1 x18).bind λx31=>
  if x26 != x31 then
   (some false).map Sum.inr
  else
   some (.inl (Jj.wrap (x18+1)))
 else
  (o9).map Sum.inr
def gn (p0:List Int) (p1:List Int):Option Bool:=
 if (p0.length:Int) != (p1.length:Int) then
  some false
 else
  am (λs:Int=>gc p0 p1 s) 0
def tR (p0:aj):Option (Ap×aj):=
 some ((⟨0,false,0,[]⟩:Ap),{ p0 with fOk:=false })
def gS (p0:aj) (x20:Int) (x26:Bool):Option (Int⊕(Ap×aj)):=
 if x26 then
  (sub p0.fB 0 x20).bind λx39=>
  (app 140737488355328 ([1]) x39).bind λz43=>
  (lH z43).bind λr49=>
  if r49.2==0 then
   (sub p0.fB x20 p0.fB.length).bind λx74=>
   (idx r49.1 0).bind λx84=>
   (some (x84,{ p0 with fB:=x74 })).map Sum.inr
  else
   some (.inl (Jj.wrap (x20+1)))
 else
  (tR p0).map Sum.inr
def gT (p0:aj) (x20:Int):Option (Int⊕(Ap×aj)):=
 if decide (x20≤(p0.fB.length:Int)) then
  gS p0 x20 (decide (x20≤66))
 else
  gS p0 x20 false
def dJ (p0:aj):Option (Ap×aj):=
 am (λs:Int=>gT p0 s) 1
def cE (p0:aj) (p1:Int):Option (List Int×aj):=
 if decide ((p0.fB.length:Int)<p1) then
  (mk 281474976710656 p1 0).bind λz24=>
  some (z24,{ { p0 with fB:=[] } with fOk:=false })
 else
  (mk 281474976710656 p1 0).bind λz35=>
  (sub p0.fB p1 p0.fB.length).bind λx61=>
  some ((cpy z35 p0.fB),{ p0 with fB:=x61 })
def FQ (p0:Int) (p1:Int):Option (Int×Int):=
 some (Zx.wrap (aF .u64 (Z1.wrap ((Z1.wrap p0)*(Z1.wrap p1))) 32),Zx.wrap (Z1.wrap ((Z1.wrap p0)*(Z1.wrap p1))))
def rf (p0:Int) (p1:Int):Option (Int×Int):=
 some (Z1.wrap ((Z1.wrap ((Z1.wrap ((aF .u64 p0 32)*(aF .u64 p1 32)))+(aF .u64 (Z1.wrap ((Z1.wrap ((aF .u64 p0 32)*(dm .u64 p1 4294967295)))+(aF .u64 (Z1.wrap ((dm .u64 p0 4294967295)*(dm .u64 p1 4294967295))) 32))) 32)))+(aF .u64 (Z1.wrap ((dm .u64 (Z1.wrap ((Z1.wrap ((aF .u64 p0 32)*(dm .u64 p1 4294967295)))+(aF .u64 (Z1.wrap ((dm .u64 p0 4294967295)*(dm .u64 p1 4294967295))) 32))) 4294967295)+(Z1.wrap ((dm .u64 p0 4294967295)*(aF .u64 p1 32))))) 32)),Z1.wrap (p0*p1))
def uY (p0:Int) (p1:Int):Option (Int×Int):=
 (rf p0 p1).bind λr5=>
 some (r5.1,r5.2)
def gU (x52:List Ap):Option (List Ap):=
 some x52
def gV (x60:Int) (x62:List Ap):Option ((Int×List Ap)⊕List Ap):=
 if decide (x60<(x62.length:Int)) then
  (vw x62 x60 x62.length).bind λq73=>
  (vw x62 0 x60).bind λq76=>
  (chk (Nat.ble (min q76.2 q73.2) cO)).bind λu82=>
  (cpv x62 q73 q76).bind λz80=>
  some (.inl (Jj.wrap (x60+((min q76.2 q73.2:Nat):Int)),z80))
 else
  (gU x62).map Sum.inr
def gW (p0:List Ap) (r12:Int×Int):Option (List Ap):=
 (mk 7036874417766 (Jj.wrap r12.2) Ap.zero).bind λz37=>
 am (λs:(Int×List Ap)=>gV s.1 s.2) (((min p0.length z37.length:Nat):Int),(cpy z37 p0))
def ff (p0:List Ap) (r12:Int×Int) (x30:Bool):Option (List Ap):=
 if x30 then
  none
 else
  gW p0 r12
def gX (p0:List Ap) (p1:Int):Option (List Ap):=
 (uY (Z1.wrap (p0.length:Int)) (Z1.wrap p1)).bind λr12=>
 if decide (0<r12.1) then
  ff p0 r12 true
 else
  ff p0 r12 (decide (9223372036854775807<r12.2))
def eZ (p0:List Ap) (p1:Int):Option (List Ap):=
 if decide (p1<0) then
  none
 else
  gX p0 p1
def mY (r4:List Int×aj) (x16:Int):Option (Int×aj):=
 some (x16,r4.2)
def gC (r4:List Int×aj) (x23:Int) (x25:Int):Option ((Int×Int)⊕(Int×aj)):=
 if decide (x25<(r4.1.length:Int)) then
  (idx r4.1 x25).bind λx31=>
  some (.inl (bOr .u64 (ew .u64 x23 8) (Z1.wrap x31),Jj.wrap (x25+1)))
 else
  (mY r4 x23).map Sum.inr
def ge (p0:aj):Option (Int×aj):=
 (cE p0 8).bind λr4=>
 am (λs:(Int×Int)=>gC r4 s.1 s.2) (0,0)
def nz (x6:aj):Option (Int×aj):=
 some (0,{ x6 with fOk:=false })
def gY (x19:Int) (x21:Int) (x23:aj) (x30:Bool):Option ((Int×Int×aj)⊕(Int×aj)):=
 if x30 then
  (cE x23 1).bind λr34=>
  (idx r34.1 0).bind λx42=>
  (chk (decide (0≤x21))).bind λu55=>
  if decide (x42<128) then
   (some (bOr .u64 x19 (ew .u64 (Z1.wrap (dm .u8 x42 127)) x21),r34.2)).map Sum.inr
  else
   some (.inl (bOr .u64 x19 (ew .u64 (Z1.wrap (dm .u8 x42 127)) x21),Jj.wrap (x21+7),r34.2))
 else
  (nz x23).map Sum.inr
def jX (x19:Int) (x21:Int) (x23:aj):Option ((Int×Int×aj)⊕(Int×aj)):=
 if decide (x21<70) then
  gY x19 x21 x23 x23.fOk
 else
  gY x19 x21 x23 false
def fa (p0:aj):Option (Int×aj):=
 am (λs:(Int×Int×aj)=>jX s.1 s.2.1 s.2.2) (0,0,p0)
def fT (r28:List Int×aj) (x50:List Int):Option (List Int×aj):=
 some (x50,r28.2)
def fU (x58:Int) (x69:List Int):Option ((Int×List Int)⊕(List Int×aj)):=
 some (.inl (Jj.wrap (x58+1),x69))
def eu (p2:Int) (r28:List Int×aj) (x58:Int) (x81:Int) (x83:List Int):Option ((Int×List Int)⊕((Int×List Int)⊕(List Int×aj))):=
 if decide (x81<p2) then
  (ix x83 x58).bind λj98=>
  (x83[j98]?).bind λx101=>
  (idx r28.1 (Jj.wrap ((Jj.wrap ((Jj.wrap (x58*p2))+x81)).tdiv 8))).bind λx104=>
  (chk (decide (0≤((Jj.wrap ((Jj.wrap (x58*p2))+x81)).tmod 8)))).bind λu109=>
  (chk (decide (0≤x81))).bind λu111=>
  (ix x83 x58).bind λj207=>
  (x83[j207]?).bind λx212=>
  some (.inl (Jj.wrap (x81+1),(x83.set j207 (bOr .u64 x101 (ew .u64 (Z1.wrap (dm .u8 (aF .u8 x104 ((Jj.wrap ((Jj.wrap (x58*p2))+x81)).tmod 8)) 1)) x81)))))
 else
  (fU x58 x83).map Sum.inr
def dD (p2:Int) (r28:List Int×aj) (z38:List Int) (x58:Int) (x60:List Int):Option ((Int×List Int)⊕(List Int×aj)):=
 if decide (x58<(z38.length:Int)) then
  am (λs:(Int×List Int)=>eu p2 r28 x58 s.1 s.2) (0,x60)
 else
  (fT r28 x60).map Sum.inr
def dz (p0:aj) (p1:Int) (p2:Int):Option (List Int×aj):=
 if decide (64<p2) then
  (mk 35184372088832 p1 0).bind λz12=>
  some (z12,{ p0 with fOk:=false })
 else
  (cE p0 (Jj.wrap ((Jj.wrap ((Jj.wrap (p1*p2))+7)).tdiv 8))).bind λr28=>
  (mk 35184372088832 p1 0).bind λz38=>
  am (λs:(Int×List Int)=>dD p2 r28 z38 s.1 s.2) (0,z38)
def ci (x6:List Ap) (x9:aj):Option (List Ap×aj):=
 some (x6,x9)
def jY (x20:List Ap) (x23:aj) (x30:Bool):Option ((List Ap×aj)⊕(List Ap×aj)):=
 if x30 then
  (dJ x23).bind λr35=>
  (app 3518437208883 x20 ([r35.1])).bind λz47=>
  some (.inl (z47,r35.2))
 else
  (ci x20 x23).map Sum.inr
def nA (p2:Int) (x20:List Ap) (x23:aj):Option ((List Ap×aj)⊕(List Ap×aj)):=
 if decide ((x20.length:Int)<p2) then
  jY x20 x23 x23.fOk
 else
  jY x20 x23 false
def jZ (p2:Int) (x72:List Ap) (x75:aj) (x82:Bool):Option ((List Ap×aj)⊕(List Ap×aj)):=
 if x82 then
  (cE x75 1).bind λr86=>
  (idx r86.1 0).bind λx94=>
  (dJ r86.2).bind λr110=>
  (eZ ([r110.1]) (if (Jj.wrap (p2 - (x72.length:Int)))<(Jj.wrap x94) then Jj.wrap (p2 - (x72.length:Int)) else Jj.wrap x94)).bind λr123=>
  (app 3518437208883 x72 r123).bind λz129=>
  some (.inl (z129,r110.2))
 else
  (ci x72 x75).map Sum.inr
def nB (p2:Int) (x72:List Ap) (x75:aj):Option ((List Ap×aj)⊕(List Ap×aj)):=
 if decide ((x72.length:Int)<p2) then
  jZ p2 x72 x75 x75.fOk
 else
  jZ p2 x72 x75 false
def j0 (x185:List Ap) (x188:Int) (x190:aj) (x197:Bool):Option ((List Ap×Int×aj)⊕(List Ap×aj)):=
 if x197 then
  (fa x190).bind λr201=>
  (eG (Jj.wrap (x188+(dV .i64 (Jj.wrap (aF .u64 r201.1 1)) (Jj.wrap (0 - (Jj.wrap (dm .u64 r201.1 1)))))))).bind λr224=>
  (app 3518437208883 x185 ([r224])).bind λz234=>
  some (.inl (z234,Jj.wrap (x188+(dV .i64 (Jj.wrap (aF .u64 r201.1 1)) (Jj.wrap (0 - (Jj.wrap (dm .u64 r201.1 1)))))),r201.2))
 else
  (ci x185 x190).map Sum.inr
def nC (p2:Int) (x185:List Ap) (x188:Int) (x190:aj):Option ((List Ap×Int×aj)⊕(List Ap×aj)):=
 if decide ((x185.length:Int)<p2) then
  j0 x185 x188 x190 x190.fOk
 else
  j0 x185 x188 x190 false
def j5 (x277:List Ap) (r298:List Int×aj) (x310:List Ap) (x313:Int):Option ((List Ap×Int)⊕(List Ap×aj)):=
 if decide (x313<(r298.1.length:Int)) then
  (idx r298.1 x313).bind λx319=>
  if decide ((Z1.wrap (x277.length:Int))≤x319) then
   (some ([],r298.2)).map Sum.inr
  else
   (idx x277 x319).bind λx337=>
   (app 3518437208883 x310 ([x337])).bind λz347=>
   some (.inl (z347,Jj.wrap (x313+1)))
 else
  (ci x310 r298.2).map Sum.inr
def nD (p2:Int) (x277:List Ap) (x280:aj):Option (List Ap×aj):=
 (pL (Z1.wrap (Jj.wrap ((if (x277.length:Int)<1 then 1 else (x277.length:Int)) - 1)))).bind λr291=>
 (dz x280 p2 r291).bind λr298=>
 am (λs:(List Ap×Int)=>j5 x277 r298 s.1 s.2) ([],0)
def nE (p2:Int) (x267:Int) (x358:List Ap) (x361:Int) (x363:aj):Option ((List Ap×Int×aj)⊕(List Ap×aj)):=
 if decide (x361<x267) then
  (dJ x363).bind λr372=>
  (app 3518437208883 x358 ([r372.1])).bind λz384=>
  some (.inl (z384,Z3.wrap (x361+1),r372.2))
 else
  (nD p2 x358 x363).map Sum.inr
def nF (r394:Int×aj) (r423:List Int×aj) (x435:List Ap) (x438:Int):Option ((List Ap×Int)⊕(List Ap×aj)):=
 if decide (x438<(r423.1.length:Int)) then
  (idx r423.1 x438).bind λx444=>
  (eG (Jj.wrap (Z1.wrap (r394.1+x444)))).bind λr457=>
  (app 3518437208883 x435 ([r457])).bind λz467=>
  some (.inl (z467,Jj.wrap (x438+1)))
 else
  (ci x435 r423.2).map Sum.inr
def bU (p0 : aj) (p1 : Int) (p2 : Int) : Option (List Ap × aj) :=
 if p1==0 then
  am (λs:(List Ap×aj)=>nA p2 s.1 s.2) ([],p0)
 else
  if p1==1 then
   am (λs:(List Ap×aj)=>nB p2 s.1 s.2) ([],p0)
  else
   if p1==2 then
    (ge p0).bind λr153=>
    (eG (Jj.wrap r153.1)).bind λr166=>
    (app 3518437208883 ([]) ([r166])).bind λz176=>
    am (λs:(List Ap×Int×aj)=>nC p2 s.1 s.2.1 s.2.2) (z176,Jj.wrap r153.1,r153.2)
   else
    if p1==3 then
     (cE p0 1).bind λr259=>
     (idx r259.1 0).bind λx267=>
     am (λs:(List Ap×Int×aj)=>nE p2 x267 s.1 s.2.1 s.2.2) ([],0,r259.2)
    else
     (ge p0).bind λr394=>
     (cE r394.2 1).bind λr407=>
     (idx r407.1 0).bind λx415=>
     (dz r407.2 p2 (Jj.wrap x415)).bind λr423=>
     am (λs:(List Ap×Int)=>nF r394 r423 s.1 s.2) ([],0)
def jf (x30:List Ap) (x56:Bool):Option (List Ap×Int):=
 if x56 then
  some ([],60)
 else
  some (x30,0)
def kV (p0 : Int) (p1 : List Int) (p2 : Int) (x30 : List Ap) (x33 : aj) : Option (List Ap × Int) :=
 (fj p0 x30).bind λr39=>
 if !x33.fOk then
  jf x30 true
 else
  if r39.2 != 0 then
   jf x30 true
  else
   if (x30.length:Int) != p2 then
    jf x30 true
   else
    (gn r39.1 p1).bind λr95=>
    jf x30 (!r95)
def kW (p0:Int) (p1:List Int) (p2:Int) (x12:Bool):Option (List Ap×Int):=
 if x12 then
  some ([],61)
 else
  if decide (0<p2) then
   (bU (⟨p1,true⟩:aj) p0 p2).bind λr107=>
   kV p0 p1 p2 r107.1 r107.2
  else
   kV p0 p1 p2 ([]) (⟨p1,true⟩:aj)
def kX (p0:Int) (p1:List Int) (p2:Int) (x5:Bool):Option (List Ap×Int):=
 if x5 then
  some ([],62)
 else
  if decide (p2<0) then
   kW p0 p1 p2 true
  else
   kW p0 p1 p2 (decide (64<p2))
def lr (p0:Int) (p1:List Int) (p2:Int):Option (List Ap×Int):=
 if decide (p0<0) then
  kX p0 p1 p2 true
 else
  kX p0 p1 p2 (decide (4<p0))
def jC (r5:bO×List Int×Bool) (r120:List Ap×Int) (x159:Bool):Option (List Ap×Int×Int):=
 if x159 then
  some ([],0,70)
 else
  some (r120.1,r5.1.fBytes,0)
def kY (p0 : List Int) : Option (List Ap × Int × Int) :=
 (jI p0).bind λr5=>
 if !r5.2.2 then
  some ([],0,70)
 else
  (sub p0 0 (Jj.wrap (r5.1.fBytes - 4))).bind λx39=>
  (ke x39).bind λr43=>
  (kx r43).bind λr50=>
  (sub p0 0 r5.1.fBytes).bind λx58=>
  (gn r50 x58).bind λr100=>
  if !r100 then
   some ([],0,71)
  else
   (lr r5.1.fKind r5.2.1 r5.1.fMany).bind λr120=>
   if r120.2 != 0 then
    some ([],0,70)
   else
    (kS r5.1.fKind r120.1).bind λr146=>
    if r146.fNulls != r5.1.fNulls then
     jC r5 r120 true
    else
     if !decide (r146.fMin=r5.1.fMin) then
      jC r5 r120 true
     else
      jC r5 r120 (!decide (r146.fMax=r5.1.fMax))
def B5:Option Bool:=
 some true
def qN (p0:List Ap) (p1:List Ap) (x16:Int):Option (Int⊕Bool):=
 if decide (x16<(p0.length:Int)) then
  (idx p0 x16).bind λx25=>
  (idx p1 x16).bind λx29=>
  if !decide (x25=x29) then
   (some false).map Sum.inr
  else
   some (.inl (Jj.wrap (x16+1)))
 else
  (B5).map Sum.inr
def rg (p0:List Ap) (p1:List Ap):Option Bool:=
 if (p0.length:Int) != (p1.length:Int) then
  some false
 else
  am (λs:Int=>qN p0 p1 s) 0
def j6 (p0:aa):Option aa:=
 (dS p0.fRow).bind λr10=>
 some ({ p0 with fRow:=r10 })
def AP (x8:List Ap):Option (List Ap):=
 some x8
def mH (x16:List Ap) (x19:Int) (x50:Ap):Option ((List Ap×Int)⊕List Ap):=
 (app 3518437208883 x16 ([x50])).bind λz61=>
 some (.inl (z61,Jj.wrap (x19+1)))
def mI (p1:List Ap) (x16:List Ap) (x19:Int) (x25:Int) (r33:Ap) (x46:Bool):Option ((List Ap×Int)⊕List Ap):=
 if x46 then
  (idx p1 x25).bind λx73=>
  mH x16 x19 x73
 else
  mH x16 x19 r33
def pQ (p0:List Int) (p1:List Ap) (x16:List Ap) (x19:Int):Option ((List Ap×Int)⊕List Ap):=
 if decide (x19<(p0.length:Int)) then
  (idx p0 x19).bind λx25=>
  (kM).bind λr33=>
  if decide (0≤x25) then
   mI p1 x16 x19 x25 r33 (decide (x25<(p1.length:Int)))
  else
   mI p1 x16 x19 x25 r33 false
 else
  (AP x16).map Sum.inr
def j7 (p0:List Int) (p1:List Ap):Option (List Ap):=
 am (λs:(List Ap×Int)=>pQ p0 p1 s.1 s.2) ([],0)
def vD (p0:List Ap) (p1:List Ap):Option Int:=
 (iq (p0.length:Int) (p1.length:Int)).bind λr15=>
 some r15
def vE (p0:List Ap) (p1:List Ap) (x25:Int):Option (Int⊕Int):=
 if decide (x25<(if (p1.length:Int)<(p0.length:Int) then (p1.length:Int) else (p0.length:Int))) then
  (idx p0 x25).bind λx33=>
  (idx p1 x25).bind λx37=>
  (cC x33 x37).bind λr83=>
  if r83 != 0 then
   (some r83).map Sum.inr
  else
   some (.inl (Jj.wrap (x25+1)))
 else
  (vD p0 p1).map Sum.inr
def mJ (p0:List Ap) (p1:List Ap):Option Int:=
 am (λs:Int=>vE p0 p1 s) 0
def kZ (p0:Int):Option Bool:=
 some (p0 != p0)
def ig (p0 : Int) (p1 : Int) : Option Int :=
 (kZ p0).bind λr3=>
 (kZ p1).bind λr11=>
 if r3 then
  if r11 then
   some 0
  else
   some (-1)
 else
  if r11 then
   some 1
  else
   if decide (p0<p1) then
    some (-1)
   else
    if decide (p1<p0) then
     some 1
    else
     some 0
def k8 (p0:Int):Option Bool:=
 some (p0 != p0)
def ii (p0 : Int) (p1 : Int) : Option Int :=
 (k8 p0).bind λr3=>
 (k8 p1).bind λr11=>
 if r3 then
  if r11 then
   some 0
  else
   some (-1)
 else
  if r11 then
   some 1
  else
   if decide (p0<p1) then
    some (-1)
   else
    if decide (p1<p0) then
     some 1
    else
     some 0
def B6:Option Int:=
 some 0
def gy (p0:List Int) (x13:Int):Option (Int⊕Int):=
 if decide (x13<(p0.length:Int)) then
  (idx p0 x13).bind λx19=>
  if x19 != 0 then
   (some x19).map Sum.inr
  else
   some (.inl (Jj.wrap (x13+1)))
 else
  (B6).map Sum.inr
def mK (p0:List Int):Option Int:=
 am (λs:Int=>gy p0 s) 0
def lu (p0:aM) (p1:aM):Option Int:=
 (ig p0.fEpoch p1.fEpoch).bind λr14=>
 (ii p0.fNumber p1.fNumber).bind λr78=>
 (mK ([r14,r78])).bind λr89=>
 some r89
def eI (p0:aa) (p1:aa) (p2:List Int):Option Int:=
 (j7 p2 p0.fRow).bind λr12=>
 (j7 p2 p1.fRow).bind λr19=>
 (mJ r12 r19).bind λr24=>
 (lu p0.fId p1.fId).bind λr94=>
 (mK ([r24,r94])).bind λr105=>
 some r105
def cz (x6:Int) (x19:List aa):Option ((Int×List aa)⊕List aa):=
 some (.inl (Jj.wrap (x6+1),x19))
def aY (x6:Int) (x30:Int) (x32:List aa) (x39:Bool):Option ((Int×List aa)⊕((Int×List aa)⊕List aa)):=
 if x39 then
  (ix x32 (Jj.wrap (x30 - 1))).bind λj42=>
  (x32[j42]?).bind λx45=>
  (ix x32 x30).bind λj47=>
  (x32[j47]?).bind λx50=>
  (ix x32 x30).bind λj52=>
  (x32[j52]?).bind λx56=>
  (ix (x32.set j52 x45) (Jj.wrap (x30 - 1))).bind λj134=>
  ((x32.set j52 x45)[j134]?).bind λx139=>
  some (.inl (Jj.wrap (x30 - 1),((x32.set j52 x45).set j134 x50)))
 else
  (cz x6 x32).map Sum.inr
def aZ (p1:Int) (p3:(aa→aa→Option Int)) (x6:Int) (x30:Int) (x32:List aa):Option ((Int×List aa)⊕((Int×List aa)⊕List aa)):=
 if decide (p1<x30) then
  (ix x32 x30).bind λj146=>
  (x32[j146]?).bind λx149=>
  (ix x32 (Jj.wrap (x30 - 1))).bind λj151=>
  (x32[j151]?).bind λx154=>
  (p3 x149 x154).bind λr249=>
  aY x6 x30 x32 (decide (r249<0))
 else
  aY x6 x30 x32 false
def bj (p1:Int) (p2:Int) (p3:(aa→aa→Option Int)) (x6:Int) (x8:List aa):Option ((Int×List aa)⊕List aa):=
 if decide (x6<p2) then
  am (λs:(Int×List aa)=>aZ p1 p3 x6 s.1 s.2) (x6,x8)
 else
  (some x8).map Sum.inr
def cf (p0:List aa) (p1:Int) (p2:Int) (p3:(aa→aa→Option Int)):Option (List aa):=
 am (λs:(Int×List aa)=>bj p1 p2 p3 s.1 s.2) (Jj.wrap (p1+1),p0)
def bF (p1:Int) (p2:Int) (p3:Int) (x4:Int) (x6:List aa):Option ((Int×List aa)⊕List aa):=
 if decide (x4<p3) then
  (ix x6 (Jj.wrap (p2+x4))).bind λj15=>
  (x6[j15]?).bind λx18=>
  (ix x6 (Jj.wrap (p1+x4))).bind λj20=>
  (x6[j20]?).bind λx23=>
  (ix x6 (Jj.wrap (p1+x4))).bind λj25=>
  (x6[j25]?).bind λx29=>
  (ix (x6.set j25 x18) (Jj.wrap (p2+x4))).bind λj137=>
  ((x6.set j25 x18)[j137]?).bind λx142=>
  some (.inl (Jj.wrap (x4+1),((x6.set j25 x18).set j137 x23)))
 else
  (some x6).map Sum.inr
def ce (p0:List aa) (p1:Int) (p2:Int) (p3:Int) (p4:(aa→aa→Option Int)):Option (List aa):=
 am (λs:(Int×List aa)=>bF p1 p2 p3 s.1 s.2) (0,p0)
def d7 (p2:Int) (p4:(aa→aa→Option Int)) (x11:Int) (x13:List aa):Option (List aa):=
 (ce x13 (Jj.wrap (p2 - x11)) p2 x11 p4).bind λr24=>
 some r24
def bB (p2:Int) (p4:(aa→aa→Option Int)) (x33:Int) (x35:Int) (x37:List aa):Option ((Int×Int×List aa)⊕List aa):=
 if x33 != x35 then
  if decide (x35<x33) then
   (ce x37 (Jj.wrap (p2 - x33)) p2 x35 p4).bind λr57=>
   some (.inl (Jj.wrap (x33 - x35),x35,r57))
  else
   (ce x37 (Jj.wrap (p2 - x33)) (Jj.wrap ((Jj.wrap (p2+x35)) - x33)) x33 p4).bind λr79=>
   some (.inl (x33,Jj.wrap (x35 - x33),r79))
 else
  (d7 p2 p4 x33 x37).map Sum.inr
def cB (p0:List aa) (p1:Int) (p2:Int) (p3:Int) (p4:(aa→aa→Option Int)):Option (List aa):=
 am (λs:(Int×Int×List aa)=>bB p2 p4 s.1 s.2.1 s.2.2) (Jj.wrap (p2 - p1),Jj.wrap (p3 - p2),p0)
def dP (x19:List aa):Option (List aa):=
 some x19
def bJ (x12:Int) (x25:Int) (x27:List aa):Option ((Int×List aa)⊕List aa):=
 if decide (x25<(Jj.wrap (x12 - 1))) then
  (ix x27 (Jj.wrap (x25+1))).bind λj37=>
  (x27[j37]?).bind λx40=>
  (ix x27 x25).bind λj42=>
  (x27[j42]?).bind λx45=>
  (ix x27 x25).bind λj47=>
  (x27[j47]?).bind λx51=>
  (ix (x27.set j47 x40) (Jj.wrap (x25+1))).bind λj129=>
  ((x27.set j47 x40)[j129]?).bind λx134=>
  some (.inl (Jj.wrap (x25+1),((x27.set j47 x40).set j129 x45)))
 else
  (dP x27).map Sum.inr
def cS (p0:List aa) (p1:Int) (x12:Int):Option (List aa):=
 am (λs:(Int×List aa)=>bJ x12 s.1 s.2) (p1,p0)
def bW (p0:List aa) (p1:Int) (p4:(aa→aa→Option Int)) (x142:Int) (x144:Int):Option ((Int×Int)⊕List aa):=
 if decide (x142<x144) then
  (ix p0 (Jj.wrap (aF .u64 (Z1.wrap (Jj.wrap (x142+x144))) 1))).bind λj159=>
  (p0[j159]?).bind λx162=>
  (ix p0 p1).bind λj164=>
  (p0[j164]?).bind λx167=>
  (p4 x162 x167).bind λr215=>
  if decide (r215<0) then
   some (.inl (Jj.wrap ((Jj.wrap (aF .u64 (Z1.wrap (Jj.wrap (x142+x144))) 1))+1),x144))
  else
   some (.inl (x142,Jj.wrap (aF .u64 (Z1.wrap (Jj.wrap (x142+x144))) 1)))
 else
  (cS p0 p1 x142).map Sum.inr
def dQ (x247:List aa):Option (List aa):=
 some x247
def bK (x240:Int) (x253:Int) (x255:List aa):Option ((Int×List aa)⊕List aa):=
 if decide (x240<x253) then
  (ix x255 (Jj.wrap (x253 - 1))).bind λj264=>
  (x255[j264]?).bind λx267=>
  (ix x255 x253).bind λj269=>
  (x255[j269]?).bind λx272=>
  (ix x255 x253).bind λj274=>
  (x255[j274]?).bind λx278=>
  (ix (x255.set j274 x267) (Jj.wrap (x253 - 1))).bind λj356=>
  ((x255.set j274 x267)[j356]?).bind λx361=>
  some (.inl (Jj.wrap (x253 - 1),((x255.set j274 x267).set j356 x272)))
 else
  (dQ x255).map Sum.inr
def cT (p0:List aa) (p2:Int) (x240:Int):Option (List aa):=
 am (λs:(Int×List aa)=>bK x240 s.1 s.2) (p2,p0)
def bX (p0:List aa) (p2:Int) (p4:(aa→aa→Option Int)) (x369:Int) (x371:Int):Option ((Int×Int)⊕List aa):=
 if decide (x369<x371) then
  (ix p0 p2).bind λj386=>
  (p0[j386]?).bind λx389=>
  (ix p0 (Jj.wrap (aF .u64 (Z1.wrap (Jj.wrap (x369+x371))) 1))).bind λj391=>
  (p0[j391]?).bind λx394=>
  (p4 x389 x394).bind λr442=>
  if !(decide (r442<0)) then
   some (.inl (Jj.wrap ((Jj.wrap (aF .u64 (Z1.wrap (Jj.wrap (x369+x371))) 1))+1),x371))
  else
   some (.inl (x369,Jj.wrap (aF .u64 (Z1.wrap (Jj.wrap (x369+x371))) 1)))
 else
  (cT p0 p2 x369).map Sum.inr
def cM (p1:Int) (p2:Int) (p3:Int) (p4:(aa→aa→Option Int)) (self_:((List aa)→Int→Int→Int→(aa→aa→Option Int)→Option (List aa))) (x485:Int) (x508:List aa) (x514:Bool):Option (List aa):=
 if x514 then
  (self_ x508 (Jj.wrap (aF .u64 (Z1.wrap (Jj.wrap (p1+p3))) 1)) (Jj.wrap ((Jj.wrap ((Jj.wrap (aF .u64 (Z1.wrap (Jj.wrap (p1+p3))) 1))+p2)) - x485)) p3 p4).bind λr522=>
  some r522
 else
  some x508
def cp (p1:Int) (p2:Int) (p3:Int) (p4:(aa→aa→Option Int)) (self_:((List aa)→Int→Int→Int→(aa→aa→Option Int)→Option (List aa))) (x485:Int) (x508:List aa):Option (List aa):=
 if decide ((Jj.wrap (aF .u64 (Z1.wrap (Jj.wrap (p1+p3))) 1))<(Jj.wrap ((Jj.wrap ((Jj.wrap (aF .u64 (Z1.wrap (Jj.wrap (p1+p3))) 1))+p2)) - x485))) then
  cM p1 p2 p3 p4 self_ x485 x508 (decide ((Jj.wrap ((Jj.wrap ((Jj.wrap (aF .u64 (Z1.wrap (Jj.wrap (p1+p3))) 1))+p2)) - x485))<p3))
 else
  cM p1 p2 p3 p4 self_ x485 x508 false
def cU (p1:Int) (p2:Int) (p3:Int) (p4:(aa→aa→Option Int)) (self_:((List aa)→Int→Int→Int→(aa→aa→Option Int)→Option (List aa))) (x485:Int) (x498:List aa) (x504:Bool):Option (List aa):=
 if x504 then
  (self_ x498 p1 x485 (Jj.wrap (aF .u64 (Z1.wrap (Jj.wrap (p1+p3))) 1)) p4).bind λr545=>
  cp p1 p2 p3 p4 self_ x485 r545
 else
  cp p1 p2 p3 p4 self_ x485 x498
def ct (p1:Int) (p2:Int) (p3:Int) (p4:(aa→aa→Option Int)) (self_:((List aa)→Int→Int→Int→(aa→aa→Option Int)→Option (List aa))) (x485:Int) (x498:List aa):Option (List aa):=
 if decide (p1<x485) then
  cU p1 p2 p3 p4 self_ x485 x498 (decide (x485<(Jj.wrap (aF .u64 (Z1.wrap (Jj.wrap (p1+p3))) 1))))
 else
  cU p1 p2 p3 p4 self_ x485 x498 false
def cV (p0:List aa) (p1:Int) (p2:Int) (p3:Int) (p4:(aa→aa→Option Int)) (self_:((List aa)→Int→Int→Int→(aa→aa→Option Int)→Option (List aa))) (x485:Int) (x494:Bool):Option (List aa):=
 if x494 then
  (cB p0 x485 p2 (Jj.wrap ((Jj.wrap ((Jj.wrap (aF .u64 (Z1.wrap (Jj.wrap (p1+p3))) 1))+p2)) - x485)) p4).bind λr568=>
  ct p1 p2 p3 p4 self_ x485 r568
 else
  ct p1 p2 p3 p4 self_ x485 p0
def cu (p0:List aa) (p1:Int) (p2:Int) (p3:Int) (p4:(aa→aa→Option Int)) (self_:((List aa)→Int→Int→Int→(aa→aa→Option Int)→Option (List aa))) (x485:Int):Option (List aa):=
 if decide (x485<p2) then
  cV p0 p1 p2 p3 p4 self_ x485 (decide (p2<(Jj.wrap ((Jj.wrap ((Jj.wrap (aF .u64 (Z1.wrap (Jj.wrap (p1+p3))) 1))+p2)) - x485))))
 else
  cV p0 p1 p2 p3 p4 self_ x485 false
def cw (p0:List aa) (p1:Int) (p2:Int) (p3:Int) (p4:(aa→aa→Option Int)) (self_:((List aa)→Int→Int→Int→(aa→aa→Option Int)→Option (List aa))) (x587:Int) (x589:Int):Option ((Int×Int)⊕List aa):=
 if decide (x587<x589) then
  (ix p0 (Jj.wrap ((Jj.wrap ((Jj.wrap ((Jj.wrap (aF .u64 (Z1.wrap (Jj.wrap (p1+p3))) 1))+p2)) - 1)) - (Jj.wrap (aF .u64 (Z1.wrap (Jj.wrap (x587+x589))) 1))))).bind λj604=>
  (p0[j604]?).bind λx607=>
  (ix p0 (Jj.wrap (aF .u64 (Z1.wrap (Jj.wrap (x587+x589))) 1))).bind λj609=>
  (p0[j609]?).bind λx612=>
  (p4 x607 x612).bind λr670=>
  if !(decide (r670<0)) then
   some (.inl (Jj.wrap ((Jj.wrap (aF .u64 (Z1.wrap (Jj.wrap (x587+x589))) 1))+1),x589))
  else
   some (.inl (x587,Jj.wrap (aF .u64 (Z1.wrap (Jj.wrap (x587+x589))) 1)))
 else
  (cu p0 p1 p2 p3 p4 self_ x587).map Sum.inr
def cx (p0:List aa) (p1:Int) (p2:Int) (p3:Int) (p4:(aa→aa→Option Int)) (self_:((List aa)→Int→Int→Int→(aa→aa→Option Int)→Option (List aa))) (x475:Int) (x477:Int):Option (List aa):=
 am (λs:(Int×Int)=>cw p0 p1 p2 p3 p4 self_ s.1 s.2) (x475,x477)
def c8 (self_ : ((List aa) → Int → Int → Int → (aa → aa → Option Int) → Option (List aa))) (p0 : List aa) (p1 : Int) (p2 : Int) (p3 : Int) (p4 : (aa → aa → Option Int)) : Option (List aa) :=
 if (Jj.wrap (p2 - p1))==1 then
  am (λs:(Int×Int)=>bW p0 p1 p4 s.1 s.2) (p2,p3)
 else
  if (Jj.wrap (p3 - p2))==1 then
   am (λs:(Int×Int)=>bX p0 p2 p4 s.1 s.2) (p1,p2)
  else
   if decide ((Jj.wrap (aF .u64 (Z1.wrap (Jj.wrap (p1+p3))) 1))<p2) then
    cx p0 p1 p2 p3 p4 self_ (Jj.wrap ((Jj.wrap ((Jj.wrap (aF .u64 (Z1.wrap (Jj.wrap (p1+p3))) 1))+p2)) - p3)) (Jj.wrap (aF .u64 (Z1.wrap (Jj.wrap (p1+p3))) 1))
   else
    cx p0 p1 p2 p3 p4 self_ p1 p2
def c9:Nat→(List aa)→Int→Int→Int→(aa→aa→Option Int)→Option (List aa)
 |0=>λ_ _ _ _ _=>none
 |n+1=>c8 (c9 n)
def dw (p0:List aa)(p1:Int)(p2:Int)(p3:Int)(p4:(aa→aa→Option Int)):Option (List aa):=c9 (p0.length+1) p0 p1 p2 p3 p4
def cD (x26:Int) (x58:List aa):Option ((Int×List aa)⊕List aa):=
 some (.inl (Jj.wrap (x26*2),x58))
def dn (p1:Int) (p2:(aa→aa→Option Int)) (x26:Int) (x43:Int) (x45:List aa):Option ((Int×List aa)⊕List aa):=
 if decide ((Jj.wrap (x43+x26))<p1) then
  (dw x45 x43 (Jj.wrap (x43+x26)) p1 p2).bind λr71=>
  cD x26 r71
 else
  cD x26 x45
def bR (p1:Int) (p2:(aa→aa→Option Int)) (x26:Int) (x80:Int) (x82:Int) (x84:List aa):Option ((Int×Int×List aa)⊕((Int×List aa)⊕List aa)):=
 if decide (x82≤p1) then
  (dw x84 x80 (Jj.wrap (x80+x26)) x82 p2).bind λr100=>
  some (.inl (x82,Jj.wrap (x82+(Jj.wrap (2*x26))),r100))
 else
  (dn p1 p2 x26 x80 x84).map Sum.inr
def bd (p1:Int) (p2:(aa→aa→Option Int)) (x26:Int) (x28:List aa):Option ((Int×List aa)⊕List aa):=
 if decide (x26<p1) then
  am (λs:(Int×Int×List aa)=>bR p1 p2 x26 s.1 s.2.1 s.2.2) (0,Jj.wrap (2*x26),x28)
 else
  (some x28).map Sum.inr
def d8 (p1:Int) (p2:(aa→aa→Option Int)) (x7:Int) (x9:List aa):Option (List aa):=
 (cf x9 x7 p1 p2).bind λr17=>
 am (λs:(Int×List aa)=>bd p1 p2 s.1 s.2) (20,r17)
def bC (p1:Int) (p2:(aa→aa→Option Int)) (x116:Int) (x118:Int) (x120:List aa):Option ((Int×Int×List aa)⊕List aa):=
 if decide (x118≤p1) then
  (cf x120 x116 x118 p2).bind λr133=>
  some (.inl (x118,Jj.wrap (x118+20),r133))
 else
  (d8 p1 p2 x116 x120).map Sum.inr
def eR (p0:List aa) (p1:Int) (p2:(aa→aa→Option Int)):Option (List aa):=
 am (λs:(Int×Int×List aa)=>bC p1 p2 s.1 s.2.1 s.2.2) (0,20,p0)
def dG (p0:List aa) (p1:(aa→aa→Option Int)):Option (List aa):=
 (eR p0 (p0.length:Int) p1).bind λr5=>
 some r5
def iC (p0:List Int) (x12:List aa):Option (List aa):=
 (dG x12 (λy0_ y1_=>eI y0_ y1_ p0)).bind λr23=>
 some r23
def iD (p0:List Int) (p1:List aa) (x43:Int) (x45:List aa):Option ((Int×List aa)⊕List aa):=
 if decide (x43<(p1.length:Int)) then
  (idx p1 x43).bind λx54=>
  (j6 x54).bind λr68=>
  (app 2932031007402 x45 ([r68])).bind λz78=>
  some (.inl (Jj.wrap (x43+1),z78))
 else
  (iC p0 x45).map Sum.inr
def iX (p0:List Int) (p1:List aa):Option (List aa):=
 am (λs:(Int×List aa)=>iD p0 p1 s.1 s.2) (0,([]:List aa))
def G7 (x6:List Ap):Option (List Ap):=
 some x6
def s6 (x14:List Ap) (x17:Int) (x39:Ap):Option ((List Ap×Int)⊕List Ap):=
 (app 3518437208883 x14 ([x39])).bind λz50=>
 some (.inl (z50,Jj.wrap (x17+1)))
def s7 (p0:List Int) (p1:List Ap) (x14:List Ap) (x17:Int) (x35:Bool):Option ((List Ap×Int)⊕List Ap):=
 if x35 then
  (idx p0 x17).bind λx64=>
  (idx p1 x64).bind λx71=>
  s6 x14 x17 x71
 else
  s6 x14 x17 (⟨0,false,0,[]⟩:Ap)
def wC (p0:List Int) (p1:List Ap) (x14:List Ap) (x17:Int):Option ((List Ap×Int)⊕List Ap):=
 if decide (x17<(p0.length:Int)) then
  (idx p0 x17).bind λx82=>
  if decide (0≤x82) then
   (idx p0 x17).bind λx94=>
   s7 p0 p1 x14 x17 (decide (x94<(p1.length:Int)))
  else
   s7 p0 p1 x14 x17 false
 else
  (G7 x14).map Sum.inr
def sa (p0:List Int) (p1:List Ap):Option (List Ap):=
 am (λs:(List Ap×Int)=>wC p0 p1 s.1 s.2) ([],0)
def zF (p0:List Ap) (p1:List Ap):Option Int:=
 if decide ((p0.length:Int)<(p1.length:Int)) then
  some (-1)
 else
  some 0
def zG (p0 : List Ap) (p1 : List Ap) (x16 : Int) : Option (Int ⊕ Int) :=
 if decide (x16 < (p0.length : Int)) then
  if x16==(p1.length:Int) then
   (some 1).map Sum.inr
  else
   (idx p0 x16).bind λx31=>
   (idx p1 x16).bind λx35=>
   (iO x31 x35).bind λr81=>
   if r81 != 0 then
    (some r81).map Sum.inr
   else
    some (.inl (Jj.wrap (x16+1)))
 else
  (zF p0 p1).map Sum.inr
def rC (p0:List Ap) (p1:List Ap):Option Int:=
 am (λs:Int=>zG p0 p1 s) 0
def wD (p0:aM) (p1:aM):Option Bool:=
 if p0.fEpoch != p1.fEpoch then
  some (decide (p0.fEpoch<p1.fEpoch))
 else
  some (decide (p0.fNumber<p1.fNumber))
def wE (p0:List Int) (p1:aa) (p2:aa):Option Bool:=
 (sa p0 p1.fRow).bind λr11=>
 (sa p0 p2.fRow).bind λr53=>
 (rC r11 r53).bind λr59=>
 if r59 != 0 then
  some (decide (r59<0))
 else
  (wD p1.fId p2.fId).bind λr79=>
  some r79
def Di (x6:List aa):Option (List aa):=
 some x6
def sc (x17:Int) (x28:List aa):Option ((List aa×Int)⊕List aa):=
 some (.inl (x28,Jj.wrap (x17+1)))
def pa (p1:List aa) (x14:List aa) (x17:Int) (x40:Int):Option ((List aa×Int)⊕List aa):=
 (sub x14 0 x40).bind λx47=>
 (app 2932031007402 ([]) x47).bind λz51=>
 (idx p1 x17).bind λx61=>
 (app 2932031007402 z51 ([x61])).bind λz71=>
 (sub x14 x40 x14.length).bind λx81=>
 (app 2932031007402 z71 x81).bind λz85=>
 sc x17 z85
def kB (p0:List Int) (p1:List aa) (x14:List aa) (x17:Int) (x96:Int):Option (Int⊕((List aa×Int)⊕List aa)):=
 if decide (0<x96) then
  (idx p1 x17).bind λx103=>
  (idx x14 (Jj.wrap (x96 - 1))).bind λx107=>
  (wE p0 x103 x107).bind λr162=>
  if !r162 then
   (pa p1 x14 x17 x96).map Sum.inr
  else
   some (.inl (Jj.wrap (x96 - 1)))
 else
  (pa p1 x14 x17 x96).map Sum.inr
def wF (p0:List Int) (p1:List aa) (x14:List aa) (x17:Int):Option ((List aa×Int)⊕List aa):=
 if decide (x17<(p1.length:Int)) then
  am (λs:Int=>kB p0 p1 x14 x17 s) (x14.length:Int)
 else
  (Di x14).map Sum.inr
def wG (p0:List Int) (p1:List aa):Option (List aa):=
 am (λs:(List aa×Int)=>wF p0 p1 s.1 s.2) ([],0)
def vL:Option Int:=
 some (-1)
def gH (p0:List Int) (p1:Int) (x11:Int):Option (Int⊕Int):=
 if decide (x11<(p0.length:Int)) then
  (idx p0 x11).bind λx22=>
  if p1==x22 then
   (some x11).map Sum.inr
  else
   some (.inl (Jj.wrap (x11+1)))
 else
  (vL).map Sum.inr
def k9 (p0:List Int) (p1:Int):Option Int:=
 am (λs:Int=>gH p0 p1 s) 0
def gI (p0:List Int) (p1:Int):Option Bool:=
 (k9 p0 p1).bind λr4=>
 some (decide (0≤r4))
def jg (x20:Bool):Option Bool:=
 some x20
def jh (p0 : Int) (p1 : aa) (x16 : Bool) : Option Bool :=
 if (p1.fRow.length : Int) == p0 then
  if decide (1≤p1.fId.fEpoch) then
   if decide (p1.fId.fEpoch≤9223372036854775807) then
    jg (!x16)
   else
    jg false
  else
   jg false
 else
  jg false
def la (p0:Int) (p1:aa):Option Bool:=
 if p1.fDeleted != 0 then
  if decide (p1.fDeleted≤p1.fId.fEpoch) then
   jh p0 p1 true
  else
   jh p0 p1 (decide (9223372036854775807<p1.fDeleted))
 else
  jh p0 p1 false
def lc (p0:Int) (p1:aa) (x98:Int):Option (Int⊕Bool):=
 if decide (x98<(p1.fRow.length:Int)) then
  (idx p1.fRow x98).bind λx104=>
  (lF x104).bind λr117=>
  if !r117 then
   (some false).map Sum.inr
  else
   some (.inl (Jj.wrap (x98+1)))
 else
  (la p0 p1).map Sum.inr
def lw (p0:Int) (p1:aa):Option Bool:=
 am (λs:Int=>lc p0 p1 s) 0
def me (x29:List aM):Option Int:=
 some 0
def fI (x37:Int) (x39:List aM) (x47:aa) (x63:Bool):Option ((Int×List aM)⊕Int):=
 if x63 then
  (some 81).map Sum.inr
 else
  some (.inl (Jj.wrap (x37+1),(x47.fId::x39)))
def dx (p0:Int) (p2:List aa) (x37:Int) (x39:List aM):Option ((Int×List aM)⊕Int):=
 if decide (x37<(p2.length:Int)) then
  (idx p2 x37).bind λx47=>
  (lw p0 x47).bind λr72=>
  if !r72 then
   fI x37 x39 x47 true
  else
   fI x37 x39 x47 (decide (1<(jw (x47.fId::x39) x47.fId)))
 else
  (me x39).map Sum.inr
def eJ (p0:Int) (p2:List aa):Option Int:=
 if decide (4096<(p2.length:Int)) then
  some 81
 else
  am (λs:(Int×List aM)=>dx p0 p2 s.1 s.2) (0,([]:List aM))
def eK (x91:Int) (x109:Bool):Option (Int⊕Int):=
 if x109 then
  (some 1).map Sum.inr
 else
  some (.inl (Jj.wrap (x91+1)))
def fJ (p0 : Int) (p1 : List Int) (p2 : List aa) (x91 : Int) : Option (Int ⊕ Int) :=
 if decide (x91 < (p1.length : Int)) then
  (idx p1 x91).bind λx98=>
  if decide (x98<0) then
   eK x91 true
  else
   if decide (p0≤x98) then
    eK x91 true
   else
    (sub p1 0 x91).bind λx131=>
    (gI x131 x98).bind λr136=>
    eK x91 r136
 else
  (eJ p0 p2).map Sum.inr
def fK (p0:Int) (p1:List Int) (p2:List aa) (x4:Bool):Option Int:=
 if x4 then
  some 1
 else
  am (λs:Int=>fJ p0 p1 p2 s) 0
def gg (p0:Int) (p1:List Int) (p2:List aa):Option Int:=
 if decide (p0<1) then
  fK p0 p1 p2 true
 else
  fK p0 p1 p2 (decide (8<p0))
def ji (p0:List Int) (p1:Int):Option (List Int):=
 (app 140737488355328 p0 ([Z3.wrap (aF .i64 p1 24),Z3.wrap (aF .i64 p1 16),Z3.wrap (aF .i64 p1 8),Z3.wrap p1])).bind λz18=>
 some z18
def xP (x8:List Ap):Option (List Ap):=
 some x8
def gp (x19:Int) (x43:List Ap):Option ((List Ap×Int)⊕List Ap):=
 some (.inl (x43,Jj.wrap (x19+1)))
def ni (p0 : Int) (p1 : Int) (p2 : List aa) (x16 : List Ap) (x19 : Int) : Option ((List Ap × Int) ⊕ List Ap) :=
 if decide (x19 < (p2.length : Int)) then
  (idx p2 x19).bind λx25=>
  if (Jj.wrap (p1 - p0))==0 then
   (eG (Jj.wrap x25.fId.fEpoch)).bind λr57=>
   (app 3518437208883 x16 ([r57])).bind λz67=>
   gp x19 z67
  else
   if (Jj.wrap (p1 - p0))==1 then
    (eG (Jj.wrap x25.fId.fNumber)).bind λr84=>
    (app 3518437208883 x16 ([r84])).bind λz94=>
    gp x19 z94
   else
    if (Jj.wrap (p1 - p0))==2 then
     (eG (Jj.wrap x25.fDeleted)).bind λr110=>
     (app 3518437208883 x16 ([r110])).bind λz120=>
     gp x19 z120
    else
     (idx x25.fRow p1).bind λx132=>
     (app 3518437208883 x16 ([x132])).bind λz142=>
     gp x19 z142
 else
  (xP x16).map Sum.inr
def kC (p0:Int) (p1:Int) (p2:List aa):Option (List Ap):=
 am (λs:(List Ap×Int)=>ni p0 p1 p2 s.1 s.2) ([],0)
def cK {σ:Type} (step:(σ→(List Ap)→Option (σ×Bool))) (p1:List Ap) (p2:Int) (x4:Int) (x6:σ):Option ((Int×σ)⊕σ):=
 if decide (x4<(p1.length:Int)) then
  (sub p1 x4 p1.length).bind λx21=>
  (sub p1 x4 (Jj.wrap (x4+(if (x21.length:Int)<p2 then (x21.length:Int) else p2)))).bind λx68=>
  (step x6 x68).bind λr72=>
  if !r72.2 then
   (some r72.1).map Sum.inr
  else
   some (.inl (Jj.wrap (x4+p2),r72.1))
 else
  (some x6).map Sum.inr
def gh {σ:Type} (step:(σ→(List Ap)→Option (σ×Bool))) (s0_:σ) (p1:List Ap) (p2:Int):Option σ:=
 am (λs:(Int×σ)=>cK step p1 p2 s.1 s.2) (0,s0_)
def fV (p1:List Ap) (p2:Int):Option (List (List Ap)):=
 gh (λ(s:List (List Ap)) x=>some (s++[x],true)) [] p1 p2
def ir (p0:List Ap) (p1:Int):Option (List (List Ap)):=
 (fV p0 p1).bind λx23=>
 some x23
def ij (p0:List Ap) (p1:Int):Option (List (List Ap)):=
 if decide (p1<1) then
  none
 else
  ir p0 p1
def rh (p0:Int) (p1:List Ap):Option Bool:=
 (fj p0 p1).bind λr4=>
 some (r4.2==0)
def gq (x17:List Int) (x20:List Ap) (x44:Int):Option (List Int×Bool):=
 (nv x44 x20).bind λr49=>
 (app 140737488355328 x17 r49.1).bind λz67=>
 some (z67,true)
def eV (p0:Int) (x17:List Int) (x20:List Ap):Option (List Int×Bool):=
 (rh p0 x20).bind λr35=>
 if !r35 then
  gq x17 x20 (-1)
 else
  gq x17 x20 p0
def kD (p0:Int) (p1:List Ap):Option (List Int):=
 (ij p1 64).bind λr9=>
 (em (λ(s:List Int) (x:List Ap)=>eV p0 s x) ([]:(List Int)) r9).bind λy78=>
 if y78.2 then
  some y78.1
 else
  none
def jj (x78:List Int):Option (List Int×Int):=
 (ic x78).bind λr84=>
 (ji x78 (Jj.wrap r84)).bind λr92=>
 some (r92,0)
def gP (p0:Int) (r22:List aa) (x102:List Int) (x105:Int) (x120:Int):Option ((List Int×Int)⊕(List Int×Int)):=
 (kC p0 x105 r22).bind λr127=>
 (kD x120 r127).bind λr133=>
 (ji x102 (r133.length:Int)).bind λr143=>
 (app 140737488355328 r143 r133).bind λz150=>
 some (.inl (z150,Jj.wrap (x105+1)))
def fy (p0:Int) (p2:List Int) (r22:List aa) (x102:List Int) (x105:Int) (x116:Bool):Option ((List Int×Int)⊕(List Int×Int)):=
 if x116 then
  (idx p2 x105).bind λx162=>
  gP p0 r22 x102 x105 x162
 else
  gP p0 r22 x102 x105 (-1)
def gQ (p0:Int) (p2:List Int) (r22:List aa) (x102:List Int) (x105:Int):Option ((List Int×Int)⊕(List Int×Int)):=
 if decide (x105<(Jj.wrap (p0+3))) then
  if decide (x105<p0) then
   fy p0 p2 r22 x102 x105 (decide (x105<(p2.length:Int)))
  else
   fy p0 p2 r22 x102 x105 false
 else
  (jj x102).map Sum.inr
def jk (p0:Int) (p2:List Int) (r22:List aa) (x59:List Int):Option (List Int×Int):=
 (ji x59 (r22.length:Int)).bind λr66=>
 am (λs:(List Int×Int)=>gQ p0 p2 r22 s.1 s.2) (r66,0)
def jl (p0:Int) (p1:List Int) (p2:List Int) (r22:List aa) (x183:List Int) (x186:Int):Option ((List Int×Int)⊕(List Int×Int)):=
 if decide (x186<(p1.length:Int)) then
  (idx p1 x186).bind λx192=>
  (app 140737488355328 x183 ([Z3.wrap x192])).bind λz207=>
  some (.inl (z207,Jj.wrap (x186+1)))
 else
  (jk p0 p2 r22 x183).map Sum.inr
def fm (p0:Int) (p1:List Int) (p2:List Int) (p3:List aa):Option (List Int×Int):=
 (gg p0 p1 p3).bind λr6=>
 if r6 != 0 then
  some ([],r6)
 else
  (iX p1 p3).bind λr22=>
  (app 140737488355328 ([72,65,89,49]) ([Z3.wrap p0,Z3.wrap (p1.length:Int)])).bind λz47=>
  am (λs:(List Int×Int)=>jl p0 p1 p2 r22 s.1 s.2) (z47,0)
def ej (p0:List Int):Option Int:=
 (idx p0 0).bind λx2=>
 (idx p0 1).bind λx7=>
 (idx p0 2).bind λx12=>
 (idx p0 3).bind λx17=>
 some (bOr .i64 (bOr .i64 (bOr .i64 (ew .i64 (Jj.wrap x2) 24) (ew .i64 (Jj.wrap x7) 16)) (ew .i64 (Jj.wrap x12) 8)) (Jj.wrap x17))
def gj (x63:ax) (x85:Int) (x87:List Int) (x90:Bool):Option (Int×List Int×Bool×ax):=
 some (x85,x87,x90,x63)
def iP (x29:Int) (x39:List Int) (x63:ax):Option (Int×List Int×Bool×ax):=
 (sub x39 (Jj.wrap x29) x39.length).bind λx71=>
 (ej x71).bind λr75=>
 (sub x39 (Jj.wrap ((Jj.wrap x29)+4)) x39.length).bind λx92=>
 (gg x63.fColumns x63.fSort ([])).bind λr98=>
 if r98==0 then
  gj x63 r75 x92 (decide (r75≤4096))
 else
  gj x63 r75 x92 false
def gk (x29:Int) (x39:List Int) (x55:List Int) (x305:Int) (x307:ax):Option ((Int×ax)⊕(Int×List Int×Bool×ax)):=
 if decide (x305<(x55.length:Int)) then
  (idx x55 x305).bind λx316=>
  (app 17592186044416 x307.fSort ([Jj.wrap x316])).bind λz336=>
  some (.inl (Jj.wrap (x305+1),{ x307 with fSort:=z336 }))
 else
  (iP x29 x39 x307).map Sum.inr
def eS (p1:List Int) (x6:Bool):Option (Int×List Int×Bool×ax):=
 if x6 then
  some (0,[],false,ax.zero)
 else
  (idx p1 4).bind λx14=>
  (idx p1 5).bind λx29=>
  (sub p1 6 p1.length).bind λx39=>
  if decide ((x39.length:Int)<(Jj.wrap ((Jj.wrap x29)+4))) then
   some (0,[],false,{ ax.zero with fColumns:=Jj.wrap x14 })
  else
   (sub x39 0 (Jj.wrap x29)).bind λx55=>
   am (λs:(Int×ax)=>gk x29 x39 x55 s.1 s.2) (0,{ ax.zero with fColumns:=Jj.wrap x14 })
def iE (p1:List Int):Option (Int×List Int×Bool×ax):=
 if decide ((p1.length:Int)<6) then
  eS p1 true
 else
  (sub p1 0 4).bind λx357=>
  (L5 x357).bind λx361=>
  eS p1 (!decide (x361=(72,65,89,49)))
def kf (p1:Int) (x6:List Ap):Option (List Ap×Bool):=
 some (x6,(x6.length:Int)==p1)
def iF (x19:List Int) (x22:List Ap) (r32:List Ap×Int×Int) (x54:Bool):Option ((List Int×List Ap)⊕(List Ap×Bool)):=
 if x54 then
  (some ([],false)).map Sum.inr
 else
  (app 3518437208883 x22 r32.1).bind λz59=>
  (sub x19 r32.2.1 x19.length).bind λx65=>
  some (.inl (x65,z59))
def iG (p1:Int) (x19:List Int) (x22:List Ap):Option ((List Int×List Ap)⊕(List Ap×Bool)):=
 if decide (0<(x19.length:Int)) then
  (kY x19).bind λr32=>
  if r32.2.2 != 0 then
   iF x19 x22 r32 true
  else
   iF x19 x22 r32 ((r32.1.length:Int) != (if (Jj.wrap (p1 - (x22.length:Int)))<64 then Jj.wrap (p1 - (x22.length:Int)) else 64))
 else
  (kf p1 x22).map Sum.inr
def iY (p0:List Int) (p1:Int):Option (List Ap×Bool):=
 am (λs:(List Int×List Ap)=>iG p1 s.1 s.2) (p0,[])
def iQ (x7:List aa):Option (Bool×List aa):=
 some (true,x7)
def dy (x14:Int) (x64:List aa):Option ((Int×List aa)⊕(Bool×List aa)):=
 some (.inl (Jj.wrap (x14+1),x64))
def dX (p0 : ax) (p1 : Int) (x14 : Int) (x16 : List aa) (x24 : Ap) (j42 : Nat) (x48 : Bool) : Option ((Int × List aa) ⊕ (Bool × List aa)) :=
 if x48 then
  (some (false,x16)).map Sum.inr
 else
  if (Jj.wrap (p1 - p0.fColumns))==0 then
   (x16[j42]?).bind λx82=>
   dy x14 (x16.set j42 ({ x82 with fId:={ x82.fId with fEpoch:=Z1.wrap x24.fInt } }))
  else
   if (Jj.wrap (p1 - p0.fColumns))==1 then
    if decide (4294967295<x24.fInt) then
     (some (false,x16)).map Sum.inr
    else
     (x16[j42]?).bind λx106=>
     dy x14 (x16.set j42 ({ x106 with fId:={ x106.fId with fNumber:=Zx.wrap x24.fInt } }))
   else
    if (Jj.wrap (p1 - p0.fColumns))==2 then
     (x16[j42]?).bind λx122=>
     dy x14 (x16.set j42 ({ x122 with fDeleted:=Z1.wrap x24.fInt }))
    else
     (x16[j42]?).bind λx126=>
     (app 3518437208883 x126.fRow ([x24])).bind λz132=>
     (x16[j42]?).bind λx182=>
     dy x14 (x16.set j42 ({ x182 with fRow:=z132 }))
def dY (p0 : ax) (p1 : Int) (p2 : List Ap) (x14 : Int) (x16 : List aa) : Option ((Int × List aa) ⊕ (Bool × List aa)) :=
 if decide (x14 < (p2.length : Int)) then
  (idx p2 x14).bind λx24=>
  (ix x16 x14).bind λj42=>
  if decide (p0.fColumns≤p1) then
   if x24.fKind != 2 then
    dX p0 p1 x14 x16 x24 j42 true
   else
    dX p0 p1 x14 x16 x24 j42 (decide (x24.fInt<0))
  else
   dX p0 p1 x14 x16 x24 j42 false
 else
  (iQ x16).map Sum.inr
def iH (p0:ax) (pA:List aa) (p1:Int) (p2:List Ap):Option (Bool×List aa):=
 am (λs:(Int×List aa)=>dY p0 p1 p2 s.1 s.2) (0,pA)
def qw:Option Bool:=
 some true
def ik (p0:List aa) (p1:List aa) (p2:(aa→aa→Option Bool)) (x18:Int):Option (Int⊕Bool):=
 if decide (x18<(p0.length:Int)) then
  (idx p0 x18).bind λx25=>
  (idx p1 x18).bind λx39=>
  (p2 x25 x39).bind λr55=>
  if !r55 then
   (some false).map Sum.inr
  else
   some (.inl (Jj.wrap (x18+1)))
 else
  (qw).map Sum.inr
def eL (p0:List aa) (p1:List aa) (p2:(aa→aa→Option Bool)):Option Bool:=
 if (p0.length:Int) != (p1.length:Int) then
  some false
 else
  am (λs:Int=>ik p0 p1 p2 s) 0
def eE (p0:aa) (p1:aa):Option Bool:=
 some (decide (p0.fId=p1.fId))
def gJ (p0:(Option ax)):Option Bool:=
 (p0).bind λx2=>
 (p0).bind λx7=>
 (iX x2.fSort x7.fL).bind λr52=>
 (p0).bind λx61=>
 (eL r52 x61.fL eE).bind λr69=>
 some r69
def jJ (r24:Int×List Int×Bool×ax) (x79:List aa) (x92:Bool):Option ((Option ax)×Int):=
 if x92 then
  some ((none:(Option ax)),80)
 else
  some ((some ({ r24.2.2.2 with fL:=x79 })),0)
def lY (r24:Int×List Int×Bool×ax) (x75:List Int) (x79:List aa):Option ((Option ax)×Int):=
 if decide (0<(x75.length:Int)) then
  jJ r24 x79 true
 else
  ((some ({ r24.2.2.2 with fL:=x79 }))).bind λx138=>
  ((some ({ r24.2.2.2 with fL:=x79 }))).bind λx144=>
  ((some ({ r24.2.2.2 with fL:=x79 }))).bind λx149=>
  (gg x138.fColumns x144.fSort x149.fL).bind λr229=>
  if r229 != 0 then
   jJ r24 x79 true
  else
   (gJ (some ({ r24.2.2.2 with fL:=x79 }))).bind λr242=>
   jJ r24 x79 (!r242)
def jK (x252:List Int) (x255:Int) (r275:Int) (x307:Bool) (x309:List aa):Option ((List Int×Int×List aa)⊕((Option ax)×Int)):=
 if x307 then
  (some ((none:(Option ax)),80)).map Sum.inr
 else
  (sub x252 (Jj.wrap (4+r275)) x252.length).bind λx319=>
  some (.inl (x319,Jj.wrap (x255+1),x309))
def jL (r24:Int×List Int×Bool×ax) (x252:List Int) (x255:Int) (x258:List aa) (x269:Bool):Option ((List Int×Int×List aa)⊕((Option ax)×Int)):=
 if x269 then
  (some ((none:(Option ax)),80)).map Sum.inr
 else
  (ej x252).bind λr275=>
  (sub x252 4 (Jj.wrap (4+r275))).bind λx286=>
  (iY x286 r24.1).bind λr291=>
  if !r291.2 then
   jK x252 x255 r275 true x258
  else
   (iH r24.2.2.2 x258 x255 r291.1).bind λr334=>
   jK x252 x255 r275 (!r334.1) r334.2
def gl (r24:Int×List Int×Bool×ax) (x252:List Int) (x255:Int) (x258:List aa):Option ((List Int×Int×List aa)⊕((Option ax)×Int)):=
 if decide (x255<(Jj.wrap (r24.2.2.2.fColumns+3))) then
  if decide ((x252.length:Int)<4) then
   jL r24 x252 x255 x258 true
  else
   (ej x252).bind λr354=>
   jL r24 x252 x255 x258 (decide ((x252.length:Int)<(Jj.wrap (4+r354))))
 else
  (lY r24 x252 x258).map Sum.inr
def jM (p0:List Int) (x10:Bool):Option ((Option ax)×Int):=
 if x10 then
  some ((none:(Option ax)),80)
 else
  (sub p0 0 (Jj.wrap ((p0.length:Int) - 4))).bind λx20=>
  (iE x20).bind λr24=>
  if !r24.2.2.1 then
   some ((none:(Option ax)),80)
  else
   (mk 5864062014805 r24.1 aa.zero).bind λz52=>
   am (λs:(List Int×Int×List aa)=>gl r24 s.1 s.2.1 s.2.2) (r24.2.1,0,z52)
def fg (p0:List Int):Option ((Option ax)×Int):=
 if decide ((p0.length:Int)<4) then
  jM p0 true
 else
  (sub p0 (Jj.wrap ((p0.length:Int) - 4)) p0.length).bind λx397=>
  (ej x397).bind λr400=>
  (sub p0 0 (Jj.wrap ((p0.length:Int) - 4))).bind λx406=>
  (ic x406).bind λr484=>
  jM p0 (r400 != (Jj.wrap r484))
def da (p0:aa) (p1:aM):Option Bool:=
 some (decide (p0.fId=p1))
def qx:Option Int:=
 some (-1)
def dT (p0:List aa) (p1:(aa→Option Bool)) (x11:Int):Option (Int⊕Int):=
 if decide (x11<(p0.length:Int)) then
  (idx p0 x11).bind λx22=>
  (p1 x22).bind λr28=>
  if r28 then
   (some x11).map Sum.inr
  else
   some (.inl (Jj.wrap (x11+1)))
 else
  (qx).map Sum.inr
def eM (p0:List aa) (p1:(aa→Option Bool)):Option Int:=
 am (λs:Int=>dT p0 p1 s) 0
def iI (p0:(Option ax)) (p1:aM):Option (Int×Bool):=
 (p0).bind λx8=>
 (eM x8.fL (λy0_=>da y0_ p1)).bind λr20=>
 some ((if r20<0 then 0 else r20),decide (0≤r20))
def ov (p0:(Option ax)):Option Int:=
 (p0).bind λx3=>
 some (x3.fL.length:Int)
def nG (x87:Bool):Option Bool:=
 some x87
def lJ (r46 : ((Option ax) × Int)) (x63 : Bool) : Option Bool :=
 if x63 then
  some false
 else
  (iI r46.1 (⟨1,0⟩:aM)).bind λr70=>
  (ov r46.1).bind λr90=>
  if r90==2 then
   if r70.1==1 then
    nG r70.2
   else
    nG false
  else
   nG false
def pR:Option Bool:=
 (fm 1 ([0]) ([]) ([(⟨(⟨1,0⟩:aM),[(⟨2,false,2,[]⟩:Ap)],0⟩:aa),(⟨(⟨2,0⟩:aM),[(⟨2,false,1,[]⟩:Ap)],0⟩:aa)])).bind λr30=>
 (fg r30.1).bind λr46=>
 if r30.2 != 0 then
  lJ r46 true
 else
  if r46.2 != 0 then
   lJ r46 true
  else
   lJ r46 r46.1.isNone
def kg (x25:Bool):Option Bool:=
 some x25
def mL (p0:aa) (p1:aa):Option Bool:=
 (rg p0.fRow p1.fRow).bind λr16=>
 if r16 then
  if decide (p0.fId=p1.fId) then
   kg (p0.fDeleted==p1.fDeleted)
  else
   kg false
 else
  kg false
def wH:Option Bool:=
 some true
def mf (p0:List aa) (p1:List aa) (x16:Int):Option (Int⊕Bool):=
 if decide (x16<(p0.length:Int)) then
  (idx p0 x16).bind λx25=>
  (idx p1 x16).bind λx29=>
  (mL x25 x29).bind λr75=>
  if !r75 then
   (some false).map Sum.inr
  else
   some (.inl (Jj.wrap (x16+1)))
 else
  (wH).map Sum.inr
def jN (p0:List aa) (p1:List aa):Option Bool:=
 if (p0.length:Int) != (p1.length:Int) then
  some false
 else
  am (λs:Int=>mf p0 p1 s) 0
def B7:Option Int:=
 some 0
def vF (x24:Int):Option (Int⊕Int):=
 some (.inl (Jj.wrap (x24+1)))
def nZ (p2:List aa) (x24:Int) (x41:aa) (x65:Int):Option (Int⊕(Int⊕Int)):=
 if decide (x65<x24) then
  (idx p2 x65).bind λx73=>
  if decide (x73.fId=x41.fId) then
   ((some 81).map Sum.inr).map Sum.inr
  else
   some (.inl (Jj.wrap (x65+1)))
 else
  (vF x24).map Sum.inr
def lx (p2:List aa) (x24:Int) (x41:aa):Option (Int⊕Int):=
 am (λs:Int=>nZ p2 x24 x41 s) 0
def n5 (p2:List aa) (x24:Int) (x41:aa) (x125:Int):Option (Int⊕(Int⊕Int)):=
 if decide (x125<(x41.fRow.length:Int)) then
  (idx x41.fRow x125).bind λx140=>
  (uQ x140).bind λr146=>
  if !r146 then
   ((some 81).map Sum.inr).map Sum.inr
  else
   some (.inl (Jj.wrap (x125+1)))
 else
  (lx p2 x24 x41).map Sum.inr
def gA (p2:List aa) (x24:Int) (x41:aa) (x54:Bool):Option (Int⊕Int):=
 if x54 then
  (some 81).map Sum.inr
 else
  am (λs:Int=>n5 p2 x24 x41 s) 0
def n7 (p0 : Int) (p2 : List aa) (x24 : Int) : Option (Int ⊕ Int) :=
 if decide (x24 < (p2.length : Int)) then
  (idx p2 x24).bind λx41=>
  if (x41.fRow.length:Int) != p0 then
   gA p2 x24 x41 true
  else
   if x41.fId.fEpoch==0 then
    gA p2 x24 x41 true
   else
    if decide (9223372036854775807<x41.fId.fEpoch) then
     gA p2 x24 x41 true
    else
     if decide (9223372036854775807<x41.fDeleted) then
      gA p2 x24 x41 true
     else
      if x41.fDeleted != 0 then
       gA p2 x24 x41 (decide (x41.fDeleted≤x41.fId.fEpoch))
      else
       gA p2 x24 x41 false
 else
  (B7).map Sum.inr
def ly (p0:Int) (p2:List aa):Option Int:=
 if decide (4096<(p2.length:Int)) then
  some 81
 else
  am (λs:Int=>n7 p0 p2 s) 0
def vG (x233:Int):Option (Int⊕Int):=
 some (.inl (Jj.wrap (x233+1)))
def n8 (p1:List Int) (x233:Int) (x257:Int):Option (Int⊕(Int⊕Int)):=
 if decide (x257<x233) then
  (idx p1 x257).bind λx265=>
  (idx p1 x233).bind λx270=>
  if x265==x270 then
   ((some 1).map Sum.inr).map Sum.inr
  else
   some (.inl (Jj.wrap (x257+1)))
 else
  (vG x233).map Sum.inr
def n9 (p1:List Int) (x233:Int) (x250:Bool):Option (Int⊕Int):=
 if x250 then
  (some 1).map Sum.inr
 else
  am (λs:Int=>n8 p1 x233 s) 0
def oa (p0:Int) (p1:List Int) (p2:List aa) (x233:Int):Option (Int⊕Int):=
 if decide (x233<(p1.length:Int)) then
  (idx p1 x233).bind λx329=>
  if decide (x329<0) then
   n9 p1 x233 true
  else
   (idx p1 x233).bind λx342=>
   n9 p1 x233 (decide (p0≤x342))
 else
  (ly p0 p2).map Sum.inr
def oc (p0:Int) (p1:List Int) (p2:List aa) (x4:Bool):Option Int:=
 if x4 then
  some 1
 else
  am (λs:Int=>oa p0 p1 p2 s) 0
def uZ (p0:Int) (p1:List Int) (p2:List aa):Option Int:=
 if decide (p0<1) then
  oc p0 p1 p2 true
 else
  oc p0 p1 p2 (decide (8<p0))
def Dj (x6:List Ap):Option (List Ap):=
 some x6
def kE (x17:Int) (x31:List Ap):Option ((List Ap×Int)⊕List Ap):=
 some (.inl (x31,Jj.wrap (x17+1)))
def sd (p0 : Int) (p1 : Int) (p2 : List aa) (x14 : List Ap) (x17 : Int) : Option ((List Ap × Int) ⊕ List Ap) :=
 if decide (x17 < (p2.length : Int)) then
  if decide (p1<p0) then
   (idx p2 x17).bind λx42=>
   (idx x42.fRow p1).bind λx52=>
   (app 3518437208883 x14 ([x52])).bind λz62=>
   kE x17 z62
  else
   if p1==p0 then
    (idx p2 x17).bind λx76=>
    (app 3518437208883 x14 ([(⟨2,false,Jj.wrap x76.fId.fEpoch,[]⟩:Ap)])).bind λz96=>
    kE x17 z96
   else
    if p1==(Jj.wrap (p0+1)) then
     (idx p2 x17).bind λx111=>
     (app 3518437208883 x14 ([(⟨2,false,Jj.wrap x111.fId.fNumber,[]⟩:Ap)])).bind λz131=>
     kE x17 z131
    else
     (idx p2 x17).bind λx141=>
     (app 3518437208883 x14 ([(⟨2,false,Jj.wrap x141.fDeleted,[]⟩:Ap)])).bind λz158=>
     kE x17 z158
 else
  (Dj x14).map Sum.inr
def wI (p0:Int) (p1:Int) (p2:List aa):Option (List Ap):=
 am (λs:(List Ap×Int)=>sd p0 p1 p2 s.1 s.2) ([],0)
def Dk (x6:List Int):Option (List Int):=
 some x6
def pc (x14:List Int) (x17:Int) (x33:List Ap) (x61:Int):Option ((List Int×Int)⊕List Int):=
 (yI x61 x33).bind λr66=>
 (app 140737488355328 x14 r66.1).bind λz83=>
 some (.inl (z83,Jj.wrap (x17+64)))
def se (p0:Int) (p1:List Ap) (x14:List Int) (x17:Int):Option ((List Int×Int)⊕List Int):=
 if decide (x17<(p1.length:Int)) then
  (sub p1 x17 (if (p1.length:Int)<(Jj.wrap (x17+64)) then (p1.length:Int) else Jj.wrap (x17+64))).bind λx33=>
  (qv p0 x33).bind λr42=>
  if r42.2 != 0 then
   pc x14 x17 x33 (-1)
  else
   pc x14 x17 x33 p0
 else
  (Dk x14).map Sum.inr
def wJ (p0:Int) (p1:List Ap):Option (List Int):=
 am (λs:(List Int×Int)=>se p0 p1 s.1 s.2) ([],0)
def tS (x66:List Int):Option (List Int×Int):=
 (zD x66).bind λr72=>
 (oE (Z1.wrap r72) 4).bind λr80=>
 (app 140737488355328 x66 r80).bind λz86=>
 some (z86,0)
def qk (p0:Int) (r22:List aa) (x96:List Int) (x99:Int) (x115:Int):Option ((List Int×Int)⊕(List Int×Int)):=
 (wI p0 x99 r22).bind λr122=>
 (wJ x115 r122).bind λr128=>
 (oE (Z1.wrap (r128.length:Int)) 4).bind λr139=>
 (app 140737488355328 x96 r139).bind λz145=>
 (app 140737488355328 z145 r128).bind λz154=>
 some (.inl (z154,Jj.wrap (x99+1)))
def nH (p0:Int) (p2:List Int) (r22:List aa) (x96:List Int) (x99:Int) (x111:Bool):Option ((List Int×Int)⊕(List Int×Int)):=
 if x111 then
  (idx p2 x99).bind λx167=>
  qk p0 r22 x96 x99 x167
 else
  qk p0 r22 x96 x99 (-1)
def ql (p0:Int) (p2:List Int) (r22:List aa) (x96:List Int) (x99:Int):Option ((List Int×Int)⊕(List Int×Int)):=
 if decide (x99<(Jj.wrap (p0+3))) then
  if decide (x99<p0) then
   nH p0 p2 r22 x96 x99 (decide (x99<(p2.length:Int)))
  else
   nH p0 p2 r22 x96 x99 false
 else
  (tS x96).map Sum.inr
def tT (p0:Int) (p2:List Int) (p3:List aa) (r22:List aa) (x42:List Int):Option (List Int×Int):=
 (oE (Z1.wrap (p3.length:Int)) 4).bind λr50=>
 (app 140737488355328 x42 r50).bind λz56=>
 am (λs:(List Int×Int)=>ql p0 p2 r22 s.1 s.2) (z56,0)
def tU (p0:Int) (p1:List Int) (p2:List Int) (p3:List aa) (r22:List aa) (x188:List Int) (x191:Int):Option ((List Int×Int)⊕(List Int×Int)):=
 if decide (x191<(p1.length:Int)) then
  (idx p1 x191).bind λx203=>
  (app 140737488355328 x188 ([Z3.wrap x203])).bind λz215=>
  some (.inl (z215,Jj.wrap (x191+1)))
 else
  (tT p0 p2 p3 r22 x188).map Sum.inr
def yJ (p0:Int) (p1:List Int) (p2:List Int) (p3:List aa):Option (List Int×Int):=
 (uZ p0 p1 p3).bind λr6=>
 if r6 != 0 then
  some ([],r6)
 else
  (wG p1 p3).bind λr22=>
  am (λs:(List Int×Int)=>tU p0 p1 p2 p3 r22 s.1 s.2) ([72,65,89,49,Z3.wrap p0,Z3.wrap (p1.length:Int)],0)
def cF {σ:Type} (step:(σ→aa→Option (σ×Bool))) (x9:List aa) (x61:Int) (x63:σ):Option ((Int×σ)⊕σ):=
 if decide (x61<(x9.length:Int)) then
  (idx x9 x61).bind λx71=>
  (j6 x71).bind λr85=>
  (step x63 r85).bind λr91=>
  if !r91.2 then
   (some r91.1).map Sum.inr
  else
   some (.inl (Jj.wrap (x61+1),r91.1))
 else
  (some x63).map Sum.inr
def dM {σ:Type} (step:(σ→aa→Option (σ×Bool))) (s0_:σ) (p1:(Option ax)) (p2:Int):Option σ:=
 (p1).bind λx2=>
 (sub x2.fL p2 x2.fL.length).bind λx9=>
 am (λs:(Int×σ)=>cF step x9 s.1 s.2) (0,s0_)
def d4 (p1:(Option ax)) (p2:Int):Option (List aa):=
 dM (λ(s:List aa) x=>some (s++[x],true)) [] p1 p2
def fc (p0:(Option ax)) (p1:Int):Option (List aa):=
 (d4 p0 p1).bind λx16=>
 some x16
def jm (p0:(Option ax)):Option (List aa):=
 (fc p0 0).bind λr3=>
 some r3
def cJ (p0:aa) (p1:List Ap) (p2:List Int):Option Int:=
 (j7 p2 p0.fRow).bind λr11=>
 (mJ r11 p1).bind λr18=>
 if decide (r18<0) then
  some (-1)
 else
  some 1
def fz (x16:Int) (x18:Bool):Option (Int×Bool):=
 some (x16,x18)
def dZ (p0:List aa) (p1:List Ap) (p2:(aa→(List Ap)→Option Int)) (x11:Int):Option (Int×Bool):=
 if decide (x11<(p0.length:Int)) then
  (idx p0 x11).bind λx29=>
  (p2 x29 p1).bind λr36=>
  fz x11 (r36==0)
 else
  fz x11 false
def fA (p0:List aa) (p1:List Ap) (p2:(aa→(List Ap)→Option Int)) (x52:Int) (x54:Int):Option ((Int×Int)⊕(Int×Bool)):=
 if decide (x52<x54) then
  (idx p0 (Jj.wrap (aF .u64 (Z1.wrap (Jj.wrap (x52+x54))) 1))).bind λx72=>
  (p2 x72 p1).bind λr79=>
  if decide (r79<0) then
   some (.inl (Jj.wrap ((Jj.wrap (aF .u64 (Z1.wrap (Jj.wrap (x52+x54))) 1))+1),x54))
  else
   some (.inl (x52,Jj.wrap (aF .u64 (Z1.wrap (Jj.wrap (x52+x54))) 1)))
 else
  (dZ p0 p1 p2 x52).map Sum.inr
def dH (p0:List aa) (p1:List Ap) (p2:(aa→(List Ap)→Option Int)):Option (Int×Bool):=
 am (λs:(Int×Int)=>fA p0 p1 p2 s.1 s.2) (0,(p0.length:Int))
structure I8 where
 fColumn:Int
 fOp:Int
 fValue:Ap
 deriving DecidableEq
def I8.zero:I8:=⟨0,0,Ap.zero⟩
end
theorem FR {σ β:Type}{f:σ→Option (σ⊕β)}{n:Nat}{s:σ}{b:β}(h:im f n s=some b):∃k,n=k+1∧((f s=some (.inr b))∨ ∃s',f s=some (.inl s')∧im f k s'=some b):=by
 cases n with
 |zero=>cases h
 | succ k =>
  rw[im] at h;cases hf:f s with
  |none=>rw[hf] at h;cases h
  |some r=>
   rw[hf] at h;cases r with
   |inl s'=>exact⟨k,rfl,.inr ⟨s',rfl,h⟩⟩
   |inr b'=>injection h with h;subst h;exact⟨k,rfl,.inl rfl⟩
abbrev FS {α:Type}:List α→α→Option (List α×Bool):=λs x=>some (s++[x],true)
theorem Dl {ι σ α : Type} {step : σ → α → Option (σ × Bool)} {s : σ} {xs : List α} {r : σ × Bool} (F : {τ : Type} → (τ → α → Option (τ × Bool)) → ι → τ → Option ((ι × τ) ⊕ τ)) (c : ι → Bool) (el : ι → Option α) (nx : ι → ι)
  (hF:∀{τ:Type} (st:τ→α→Option (τ×Bool)) i s,F st i s=if c i then (el i).bind λx=>(st s x).bind λr=>if !r.2 then (some r.1).map Sum.inr else some (.inl (nx i,r.1)) else (some s).map Sum.inr)
  {i0:ι} (h:am (λs:ι×List α=>F FS s.1 s.2) (i0,[])=some xs) (hf:em step s xs=some r):am (λs:ι×σ=>F step s.1 s.2) (i0,s)=some r.1:=by
 have key :∀ (k : Nat) (i : ι) (acc : List α) (out : List α), im (λs : ι × List α => F FS s.1 s.2) k (i, acc) = some out →∃ ys, out = acc ++ ys ∧∀ (s : σ) r, em step s ys = some r → am (λs : ι × σ => F step s.1 s.2) (i, s) = some r.1 := by
  intro k
  induction k with
  |zero=>intro i acc out h;cases h
  | succ k ih =>
   intro i acc out h;obtain⟨k',hk,g⟩:=FR h;obtain rfl:k'=k:=by omega
   clear h;have h:=g;clear g;rcases h with h|⟨s',h1,h2⟩
   ·have h:F FS i acc=some (.inr out):=h
    rw[hF] at h
    by_cases hc:c i=true
    ·rw [if_pos hc] at h
     cases hx:el i with
     |none=>rw[hx] at h;cases h
     |some x=>rw[hx] at h;simp at h
    ·rw [if_neg hc] at h
     simp only[Option.map_some,Option.some.injEq,Sum.inr.injEq] at h;subst h;refine⟨[],by simp,λs r hf=>?_⟩;simp only[em,Option.some.injEq] at hf;subst hf;refine a7 ?_;show F step i s=_;rw[hF,if_neg hc];rfl
   ·have h1 : F FS i acc = some (.inl s') := h1
    rw[hF] at h1
    by_cases hc:c i=true
    ·rw [if_pos hc] at h1
     cases hx:el i with
     |none=>rw[hx] at h1;cases h1
     | some x =>
      rw[hx] at h1;simp only[Z0,Bool.not_true,Zl,if_false,Option.some.injEq,Sum.inl.injEq] at h1;subst h1;obtain⟨ys,e,hall⟩:=ih _ _ _ h2;refine⟨x::ys,by rw[e];simp,λs r hf=>?_⟩;simp only[em] at hf;cases hst:step s x with
      |none=>rw[hst] at hf;cases hf
      | some q =>
       rw[hst] at hf;simp only[Z0] at hf;cases hq:q.2 with
       | true =>
        rw[hq] at hf;simp only[if_true] at hf;rw[bP (s':=(nx i,q.1))]
        ·exact hall _ _ hf
        ·show F step i s=_
         rw[hF,if_pos hc,hx,Z0,hst,Z0,hq];rfl
       |false=>
        rw[hq] at hf;simp only[Zl,if_false,Option.some.injEq] at hf;subst hf;refine a7 ?_;show F step i s=_;rw[hF,if_pos hc,hx,Z0,hst,Z0,hq];rfl
    ·rw [if_neg hc] at h1
     cases h1
 obtain⟨k,hk⟩:=Gv.1 h;obtain⟨ys,e,hall⟩:=key k _ _ _ hk;simp only[List.nil_append] at e;subst e;exact hall _ _ hf
theorem ri {σ:Type}{step:σ→List Ap→Option (σ×Bool)}{s:σ}{xs:List (List Ap)}{p1:List Ap}{p2:Int}{r:σ×Bool}(h:fV p1 p2=some xs)(hf:em step s xs=some r):gh step s p1 p2=some r.1:=by
 refine Dl (λ{τ} st i s=>cK st p1 p2 i s) (λi=>decide (i<(p1.length:Int))) (λi=>(sub p1 i p1.length).bind λx21=>sub p1 i (Jj.wrap (i+(if (x21.length:Int)<p2 then (x21.length:Int) else p2)))) (λi=>Jj.wrap (i+p2)) (λst i s=>?_) h hf;simp only[cK,Option.bind_assoc]
theorem qO {σ:Type}{step:σ→aa→Option (σ×Bool)}{s:σ}{xs:List aa}{p1:Option ax}{p2:Int}{r:σ×Bool}(h:d4 p1 p2=some xs)(hf:em step s xs=some r):dM step s p1 p2=some r.1:=by
 unfold d4 dM at h;unfold dM;cases p1 with
 |none=>cases h
 | some f =>
  simp only[Z0] at h ⊢;cases hs:sub f.fL p2 (f.fL.length:Int) with
  |none=>rw[hs] at h;cases h
  |some l=>
   rw[hs] at h;simp only[Z0] at h ⊢;refine Dl (λ{τ} st i s=>cF st l i s) (λi=>decide (i<(l.length:Int))) (λi=>(idx l i).bind λx=>j6 x) (λi=>Jj.wrap (i+1)) (λst i s=>?_) h hf;simp only[cF,Option.bind_assoc]
theorem gB {σ β:Type} {f:σ→Option (σ⊕β)} (I:σ→Prop) (μ:σ→Nat) (Q:β→Prop)
  (step:∀s,I s→(∃s',f s=some (.inl s')∧I s'∧μ s'<μ s)∨ ∃b,f s=some (.inr b)∧Q b) {s:σ} (h:I s):∃b,am f s=some b∧Q b:=by
 generalize hn:μ s=n
 induction n using Nat.strongRecOn generalizing s with
 | _ n ih =>
  rcases step s h with⟨s',h1,h2,h3⟩|⟨b,h1,h2⟩
  ·obtain ⟨b,h4,h5⟩:=ih (μ s') (by omega) h2 rfl
   exact⟨b,by rw[bP h1];exact h4,h5⟩
  ·exact⟨b,a7 h1,h2⟩
theorem oF {σ β:Type} {f:σ→Option (σ⊕β)} (I:σ→Prop) (μ:σ→Nat) {b:β}
  (step:∀s,I s→(∃s',f s=some (.inl s')∧I s'∧μ s'<μ s)∨f s=some (.inr b)) {s:σ} (h:I s):am f s=some b:=by
 obtain⟨c,h1,rfl⟩:=gB I μ (λc=>c=b) (λs hs=>(step s hs).imp id λh=>⟨b,h,rfl⟩) h;exact h1
theorem ak {n:Int}(h: -9223372036854775808≤n∧n≤9223372036854775807):Jj.wrap n=n:=by
 have:inR .i64 n:=by rw[nj];exact h
 exact this
theorem ay {α:Type}{xs:List α}{i:Nat}(h:i<xs.length):idx xs (i:Int)=some xs[i]:=by
 unfold idx;rw[if_pos (by omega)];simp[h]
theorem aH {α:Type}{N:Nat}{xs ys:List α}(h:xs.length+ys.length≤N):app N xs ys=some (xs++ys):=by
 unfold app;rw[if_pos h]
theorem dI {α:Type}{xs:List α}{lo hi:Nat}(h:lo≤hi)(h':hi≤xs.length):sub xs (lo:Int) (hi:Int)=some ((xs.take hi).drop lo):=by
 unfold sub;rw[if_pos (by omega)];simp
theorem bD (n:Int):Z1.wrap n=n%18446744073709551616:=by
 simp[IntKind.wrap,IntKind.bits,IntKind.signed]
theorem lK (n:Int):Zx.wrap n=n%4294967296:=by
 simp[IntKind.wrap,IntKind.bits,IntKind.signed]
theorem bm (n:Int):Z3.wrap n=n%256:=by
 simp[IntKind.wrap,IntKind.bits,IntKind.signed]
theorem qm {x:Int}{k:Nat}(hk:k≤64):aF .u64 x (k:Int)=x/2^k:=by
 unfold aF;rw[Zq _ (Int.le_of_lt (Int.pow_pos (by decide)))];congr 2;simp[IntKind.bits];omega
theorem Rh {x:Int}{k:Nat}(hk:k≤8):aF .u8 x (k:Int)=x/2^k:=by
 unfold aF;rw[Zq _ (Int.le_of_lt (Int.pow_pos (by decide)))];congr 2;simp[IntKind.bits];omega
theorem zH {x:Int}{k:Nat}(hk:k≤64):ew .u64 x (k:Int)=(x*2^k)%18446744073709551616:=by
 unfold ew;rw[bD];congr 3;simp[IntKind.bits];omega
theorem J1 {a b:Nat}(ha:a<18446744073709551616)(hb:b<18446744073709551616):dm .u64 (a:Int) (b:Int)=((a&&&b:Nat):Int):=by
 unfold dm;rw[bD]
 have h1:(Za Z1.bits (a:Int)).toNat=a:=by
  show(Za 64 (a:Int)).toNat=a;rw[Z8];omega
 have h2:(Za Z1.bits (b:Int)).toNat=b:=by
  show(Za 64 (b:Int)).toNat=b;rw[Z8];omega
 rw[BitVec.toNat_and,h1,h2];have:a&&&b≤a:=Nat.and_le_left;omega
theorem I9 {a b:Nat}(ha:a<18446744073709551616)(hb:b<18446744073709551616):bOr .u64 (a:Int) (b:Int)=((a|||b:Nat):Int):=by
 unfold bOr;rw[bD]
 have h1:(Za Z1.bits (a:Int)).toNat=a:=by
  show(Za 64 (a:Int)).toNat=a;rw[Z8];omega
 have h2:(Za Z1.bits (b:Int)).toNat=b:=by
  show(Za 64 (b:Int)).toNat=b;rw[Z8];omega
 rw[BitVec.toNat_or,h1,h2];have:a|||b<2^64:=Nat.or_lt_two_pow (by simpa using ha) (by simpa using hb)
 have e:(2:Nat)^64=18446744073709551616:=by decide
 omega
def be8 (n:Int):List Int:=[n/2^56%256,n/2^48%256,n/2^40%256,n/2^32%256,n/2^24%256,n/2^16%256,n/2^8%256,n%256]
theorem s8 (n:Int):l9 n=some (be8 n):=by
 unfold l9
 have step:∀(l:List Int) (i:Nat),i<8→l.length≤8→f8 n l (i:Int)=some (.inl (l++[n/2^(56 - 8*i)%256],((i+1:Nat):Int))):=by
  intro l i hi hl;unfold f8;have h1:decide ((i:Int)<8)=true:=by simpa using by omega
  have h2:Jj.wrap (8*(i:Int))=((8*i:Nat):Int):=by rw[ak (by omega)];omega
  have h3:Jj.wrap (56 - ((8*i:Nat):Int))=((56 - 8*i:Nat):Int):=by rw[ak (by omega)];omega
  have h4:Jj.wrap ((i:Int)+1)=((i+1:Nat):Int):=by rw[ak (by omega)];omega
  rw[if_pos h1,h2,h3,qm (by omega),bm,h4];have h5:chk (decide (0≤((56 - 8*i:Nat):Int)))=some ():=by simp[chk]
  rw[h5,Z0,aH (by simp;omega),Z0]
 have e8:∀l:List Int,f8 n l 8=some (.inr l):=λl=>by
  unfold f8;rw[if_neg (by decide)];rfl
 have s:∀(l:List Int) (i:Nat),i<8→l.length≤8→am (λs:(List Int×Int)=>f8 n s.1 s.2) (l,(i:Int))=am (λs:(List Int×Int)=>f8 n s.1 s.2) (l++[n/2^(56 - 8*i)%256],((i+1:Nat):Int)):=λl i hi hl=>bP (step l i hi hl);have:=s [] 0 (by omega) (by simp);rw[show((0:Nat):Int)=0 from rfl] at this;rw[this,s _ 1 (by omega) (by simp),s _ 2 (by omega) (by simp),s _ 3 (by omega) (by simp),s _ 4 (by omega) (by simp),s _ 5 (by omega) (by simp),s _ 6 (by omega) (by simp),s _ 7 (by omega) (by simp)];rw[show((7+1:Nat):Int)=8 from rfl,a7 (e8 _)];simp[be8]
theorem wK (n:Int):qu n=some (be8 n):=by
 unfold qu
 have step:∀(l:List Int) (i:Nat),i<8→l.length≤8→je n l ((8*i:Nat):Int)=some (.inl (l++[n/2^(8*i)%256],(8*i:Nat) - 8)):=by
  intro l i hi hl;unfold je;have h1:decide (0≤((8*i:Nat):Int))=true:=by simp;omega
  have h4:Jj.wrap (((8*i:Nat):Int) - 8)=((8*i:Nat):Int) - 8:=by rw[ak (by omega)]
  rw[if_pos h1,qm (by omega),bm,h4];have h5:chk (decide (0≤((8*i:Nat):Int)))=some ():=by rw[h1];rfl
  rw[h5,Z0,aH (by simp;omega),Z0]
 have e8:∀l:List Int,je n l (-8)=some (.inr l):=λl=>by
  unfold je;rw[if_neg (by decide)];rfl
 have s:∀(l:List Int) (i:Nat),i<8→l.length≤8→am (λs:(List Int×Int)=>je n s.1 s.2) (l,((8*i:Nat):Int))=am (λs:(List Int×Int)=>je n s.1 s.2) (l++[n/2^(8*i)%256],((8*i:Nat):Int) - 8):=λl i hi hl=>bP (step l i hi hl);have e:∀i:Nat,((8*(i+1):Nat):Int) - 8=((8*i:Nat):Int):=λi=>by omega
 have:=s [] 7 (by omega) (by simp);rw[show((8*7:Nat):Int)=56 from rfl] at this;rw[this,show(56:Int) - 8=((8*6:Nat):Int) from rfl,s _ 6 (by omega) (by simp),e 5,s _ 5 (by omega) (by simp),e 4,s _ 4 (by omega) (by simp),e 3,s _ 3 (by omega) (by simp),e 2,s _ 2 (by omega) (by simp),e 1,s _ 1 (by omega) (by simp),e 0,s _ 0 (by omega) (by simp)];rw[show((8*0:Nat):Int) - 8= -8 from rfl,a7 (e8 _)];simp[be8]
def ez (l:List Int):Int:=l.foldl (λa c=>a*256+c) 0
theorem tV (l:List Int)(c:Int):ez (l++[c])=ez l*256+c:=by simp[ez]
theorem AQ (l:List Int)(h:∀c∈l,0≤c∧c<256):0≤ez l∧ez l<256^l.length:=by
 have key:∀(r:List Int),(∀c∈r,0≤c∧c<256)→0≤ez r.reverse∧ez r.reverse<256^r.length:=by
  intro r
  induction r with
  |nil=>intro _;simp[ez]
  |cons c r ih=>
   intro h;obtain⟨h1,h2⟩:=ih (λx hx=>h x (by simp[hx]));have hc:=h c (by simp);rw[List.reverse_cons,tV,Zz,Int.pow_succ];omega
 have:=key l.reverse (λc hc=>h c (by simpa using hc));simpa using this
theorem yK {n:Int}(h0:0≤n)(h1:n<18446744073709551616):ez (be8 n)=n:=by
 simp only[ez,be8,List.foldl_cons,List.foldl_nil];omega
theorem wL (n:Int):∀c∈be8 n,0≤c∧c<256:=by
 intro c hc;simp only[be8,X3,List.not_mem_nil,or_false] at hc;rcases hc with rfl|rfl|rfl|rfl|rfl|rfl|rfl|rfl<;>omega
theorem cd (n:Int):(be8 n).length=8:=rfl
theorem aV {σ β:Type}{f:σ→Option (σ⊕β)}{s:σ}{b:β}(S:Nat→σ)(n:Nat)(h0:s=S 0)(step:∀i,i<n→f (S i)=some (.inl (S (i+1))))(fin:f (S n)=some (.inr b)):am f s=some b:=by
 have key:∀i,i≤n→am f s=am f (S i):=by
  intro i
  induction i with
  |zero=>intro _;rw[h0]
  |succ i ih=>intro h;rw[ih (by omega),bP (step i (by omega))]
 rw[key n (Zm n),a7 fin]
theorem u3 {α β:Type} {f:Int→Option (Int⊕β)} (xs:List α) (p:α→Bool) (b0 b1:β) (step: ∀(i:Nat) (h:i<xs.length),p xs[i]=true→f (i:Int)=some (.inl ((i+1:Nat):Int)))
  (out:∀(i:Nat) (h:i<xs.length),p xs[i]=false→f (i:Int)=some (.inr b0)) (fin:f (xs.length:Int)=some (.inr b1)):am f 0=some (if xs.all p then b1 else b0):=by
 have key:∀k i:Nat,i+k=xs.length→am f (i:Int)=some (if (xs.drop i).all p then b1 else b0):=by
  intro k
  induction k with
  |zero=>
   intro i hi;have:i=xs.length:=by omega
   subst this;rw[a7 fin];simp
  |succ k ih=>
   intro i hi;have hlt:i<xs.length:=by omega
   rw[Zu hlt,List.all_cons];cases hp:p xs[i] with
   |true=>rw[bP (step i hlt hp),ih (i+1) (by omega)];simp
   |false=>rw[a7 (out i hlt hp)];simp
 have:=key xs.length 0 (by omega);simpa using this
theorem BE {α β:Type} {f:Int→Option (Int⊕β)} (xs:List α) (p:α→Bool) (b0:Nat→β) (b1:β) (step: ∀(i:Nat) (h:i<xs.length),p xs[i]=false→f (i:Int)=some (.inl ((i+1:Nat):Int)))
  (out:∀(i:Nat) (h:i<xs.length),p xs[i]=true→f (i:Int)=some (.inr (b0 i))) (fin:f (xs.length:Int)=some (.inr b1)):am f 0=some (if xs.any p then b0 (xs.findIdx p) else b1):=by
 have key:∀k i:Nat,i+k=xs.length→am f (i:Int)=some (if (xs.drop i).any p then b0 (i+(xs.drop i).findIdx p) else b1):=by
  intro k
  induction k with
  |zero=>
   intro i hi;have:i=xs.length:=by omega
   subst this;rw[a7 fin];simp
  | succ k ih =>
   intro i hi;have hlt:i<xs.length:=by omega
   rw[Zu hlt,List.any_cons,List.findIdx_cons];cases hp:p xs[i] with
   |false=>
    rw[bP (step i hlt hp),ih (i+1) (by omega)];simp only[Bool.false_or,cond_false];congr 2;congr 1;omega
   |true=>rw[a7 (out i hlt hp)];simp
 have:=key xs.length 0 (by omega);simpa using this
theorem aU {i:Nat}(h:i<4611686018427387904):Jj.wrap ((i:Int)+1)=((i+1:Nat):Int):=by rw[ak (by omega)];rfl
theorem sg {b:Bool}(h:b=true):chk b=some ():=by subst h;rfl

def Byt (l:List Int):Prop:= ∀c∈l,0≤c∧c<256
theorem Byt.nil:Byt []:=λc h=>by cases h
theorem Byt.cons {c:Int}{l:List Int}(h0:0≤c∧c<256)(h:Byt l):Byt (c::l):=λd hd=>by
 rcases X3.1 hd with rfl|hd
 ·exact h0
 ·exact h d hd
theorem Byt.head {c:Int}{l:List Int}(h:Byt (c::l)):0≤c∧c<256:=h c (by simp)
theorem Byt.tail {c:Int}{l:List Int}(h:Byt (c::l)):Byt l:=λd hd=>h d (by simp[hd])
theorem Byt.app {a b:List Int}(h:Byt a)(k:Byt b):Byt (a++b):=λc hc=>by
 rcases List.mem_append.1 hc with hc|hc
 ·exact h c hc
 ·exact k c hc
theorem Byt.take {a:List Int}(h:Byt a)(n:Nat):Byt (a.take n):=λc hc=>h c (List.mem_of_mem_take hc)
theorem Byt.drop {a:List Int}(h:Byt a)(n:Nat):Byt (a.drop n):=λc hc=>h c (List.mem_of_mem_drop hc)
theorem Byt.left {a b:List Int}(h:Byt (a++b)):Byt a:=λc hc=>h c (by simp[hc])
theorem Byt.right {a b:List Int}(h:Byt (a++b)):Byt b:=λc hc=>h c (by simp[hc])
def cX (n:Int):Prop:= -9223372036854775808≤n∧n≤9223372036854775807
structure VOK (v:Ap):Prop where
 kind:cX v.fKind
 int:cX v.fInt
 text:Byt v.fText
abbrev ld:Ap:=⟨0,false,0,[]⟩
abbrev Cq (b:Bool):Ap:=⟨1,b,0,[]⟩
abbrev iR (n:Int):Ap:=⟨2,false,n,[]⟩
abbrev xG (t:List Int):Ap:=⟨3,false,0,t⟩
def right (v:Ap):Bool:=
 if v.fKind==0 then decide (v=ld) else if v.fKind==1 then decide (v=Cq v.fBool) else if v.fKind==2 then decide (v=iR v.fInt) else
 if v.fKind==3 then decide (v=xG v.fText)&&decide ((v.fText.length:Int)≤64) else false
theorem iZ (v:Ap):lF v=some (right v):=by
 obtain⟨k,b,n,t⟩:=v;unfold lF right kM oU eG oV pI;simp only[Z0]
 by_cases h0:k=0
 ·subst h0;rfl
 by_cases h1:k=1
 ·subst h1;rfl
 by_cases h2:k=2
 ·subst h2;rfl
 by_cases h3:k=3
 ·subst h3
  by_cases h:(⟨3,b,n,t⟩:Ap)=xG t
  ·simp[h]
  ·simp[h]
 have e0:(k==0)=false:=by simpa using h0
 have e1:(k==1)=false:=by simpa using h1
 have e2:(k==2)=false:=by simpa using h2
 have e3:(k==3)=false:=by simpa using h3
 simp only[e0,e1,e2,e3];rfl
theorem pd (v:Ap):uQ v=some (right v):=by
 obtain⟨k,b,n,t⟩:=v;unfold uQ tE tD tC nw right
 by_cases h0:k=0
 ·subst h0
  by_cases h:b=false∧n=0∧t=[]
  ·simp[h]
  ·simp[h]
 by_cases h1:k=1
 ·subst h1
  by_cases h:n=0∧t=[]
  ·simp[h]
  ·simp[h]
 by_cases h2:k=2
 ·subst h2
  by_cases h:b=false∧t=[]
  ·simp[h]
  ·simp[h]
 by_cases h3:k=3
 ·subst h3;simp
  by_cases h:b=false∧n=0
  ·simp[h]
  ·rw[if_neg h];simp;intro h5 h6;exact absurd ⟨h5,h6⟩ h
 have e0:(k==0)=false:=by simpa using h0
 have e1:(k==1)=false:=by simpa using h1
 have e2:(k==2)=false:=by simpa using h2
 have e3:(k==3)=false:=by simpa using h3
 simp only[e0,e1,e2,e3,Zl,if_false]
 by_cases h4:0≤k
 ·by_cases h5:k≤3
  ·omega
  ·simp[h5]
 ·simp[h4]
inductive Rgt:Ap→Prop
 |null:Rgt ld
 |bool (b:Bool):Rgt (Cq b)
 |int (n:Int) (h:cX n):Rgt (iR n)
 |text (t:List Int) (h:Byt t) (hl:t.length≤64):Rgt (xG t)
theorem Rgt.of {v:Ap}(h:VOK v)(hr:right v=true):Rgt v:=by
 unfold right at hr;split at hr
 ·have:=of_decide_eq_true hr;rw[this];exact .null
 split at hr
 ·have:=of_decide_eq_true hr;rw[this];exact .bool _
 split at hr
 ·have:=of_decide_eq_true hr;rw[this];exact .int _ h.int
 split at hr
 ·simp only [Bool.and_eq_true,decide_eq_true_eq] at hr
  rw[hr.1];exact .text _ h.text (by omega)
 ·cases hr
theorem Rgt.right {v:Ap}(h:Rgt v):right v=true:=by
 cases h with
 |null=>rfl
 |bool b=>cases b<;>rfl
 |int n _=>simp[Go.Proofs.YthbonoagbeilkaaGreat.Hay.right]
 |text t _ hl=>simp[Go.Proofs.YthbonoagbeilkaaGreat.Hay.right];omega
theorem Rgt.ok {v:Ap}(h:Rgt v):VOK v:=by
 cases h with
 |null=>exact⟨by simp[cX],by simp[cX],Byt.nil⟩
 |bool b=>exact⟨by simp[cX],by simp[cX],Byt.nil⟩
 |int n h=>exact⟨by simp[cX],h,Byt.nil⟩
 |text t h _=>exact⟨by simp[cX],by simp[cX],h⟩
def bv (v:Ap):List Int:=
 if v.fKind=1 then [1,if v.fBool then 1 else 0] else if v.fKind=2 then 2::be8 (v.fInt%18446744073709551616) else if v.fKind=3 then 3::(v.fText.length:Int)::v.fText else [v.fKind]
theorem G8:bv ld=[0]:=rfl
theorem G9 (b:Bool):bv (Cq b)=[1,if b then 1 else 0]:=rfl
theorem u4 (n:Int):bv (iR n)=2::be8 (n%18446744073709551616):=rfl
theorem s9 (t:List Int):bv (xG t)=3::(t.length:Int)::t:=rfl
theorem sh {v:Ap}(h:Rgt v):Byt (bv v):=by
 cases h with
 |null=>exact .cons (by decide) .nil
 |bool b=>exact .cons (by decide) (.cons (by cases b<;>decide) .nil)
 |int n h=>exact .cons (by decide) (wL _)
 |text t h hl=>exact .cons (by decide) (.cons (by show 0≤(t.length:Int)∧(t.length:Int)<256;omega) h)
theorem ek {v:Ap}(h:Rgt v):1≤(bv v).length∧(bv v).length≤66:=by
 cases h with
 |null=>decide
 |bool b=>cases b<;>decide
 |int n h=>rw[u4];simp[cd]
 |text t h hl=>rw[s9];simp;omega
theorem B8 {p:List Int}(n:Int)(hp:p.length+8≤140737488355328):mz p n=some (p++be8 n):=by
 unfold mz;refine aV (λi=>((i:Int),(be8 n).take i++Z2 (8 - i) 0)) 8 rfl ?_ ?_
 ·intro i hi
  dsimp only;unfold lm;have h1:decide ((i:Int)<8)=true:=by simpa using by omega
  have h2:Jj.wrap (8*(i:Int))=((8*i:Nat):Int):=by rw[ak (by omega)];omega
  have h3:Jj.wrap (56 - ((8*i:Nat):Int))=((56 - 8*i:Nat):Int):=by rw[ak (by omega)];omega
  rw[if_pos h1,h2,h3,qm (by omega),bm,aU (by omega),sg (by simp),Z0];have hl:((be8 n).take i++Z2 (8 - i) (0:Int)).length=8:=by simp[cd];omega
  have hj:ix ((be8 n).take i++Z2 (8 - i) (0:Int)) (i:Int)=some i:=by unfold ix;rw[if_pos (by rw[hl];omega)];simp
  rw[hj,Z0,Z6 (by omega),Z0];have:i=0∨i=1∨i=2∨i=3∨i=4∨i=5∨i=6∨i=7:=by omega
  rcases this with rfl|rfl|rfl|rfl|rfl|rfl|rfl|rfl<;>simp[be8,Z2]
 ·unfold lm nQ
  have e:(be8 n).take 8++Z2 (8 - 8) (0:Int)=be8 n:=by simp[be8]
  dsimp only;rw[if_neg (by simp)];rw[e,aH (by simp[cd];omega)];rfl
theorem Em {p:List Int}{v:Ap}(h:Rgt v)(hp:p.length+66≤140737488355328):uP p v=some (p++bv v):=by
 unfold uP;rw[aH (by simp;omega),Z0];cases h with
 |null=>simp[bv,bm]
 | bool b =>
  cases b
  ·simp only [bv,bm]
   rw[if_pos (by decide),if_neg (by decide),aH (by simp;omega)];simp
  ·simp only [bv,bm]
   rw[if_pos (by decide),if_pos (by decide),aH (by simp;omega)];simp
 |int n h=>
  simp only[bm,bD,bv];rw[if_neg (by decide),if_pos (by decide),B8 _ (by simp;omega)];simp
 |text t h hl=>
  simp only[bm,bv];rw[if_neg (by decide),if_neg (by decide),if_pos (by decide),aH (by simp;omega),Z0,aH (by simp;omega)];simp;omega
theorem En (l:List Ap)(hl:l.length≤281474976710656):rM l=some (l.all right&&decide (l.length≤16)):=by
 have h:rM l=some (if l.all right then decide ((l.length:Int)≤16) else false):=by
  unfold rM;refine u3 l right _ _ (λi h hp=>?_) (λi h hp=>?_) ?_
  ·unfold qd
   rw[if_pos (by simpa using h),ay h,Z0,iZ,Z0,hp,if_neg (by decide),aU (by omega)]
  ·unfold qd
   rw[if_pos (by simpa using h),ay h,Z0,iZ,Z0,hp];rfl
  ·unfold qd xT
   rw[if_neg (by simp)];rfl
 rw[h];cases l.all right<;>simp;omega
def u5 (l:List Ap):List Int:=(l.length:Int)::l.flatMap bv
theorem jn {l:List Ap}(h:∀v∈l,Rgt v):(l.flatMap bv).length≤66*l.length:=by
 induction l with
 |nil=>simp
 |cons v r ih=>
  have:=(ek (h v (by simp))).2;have:=ih (λx hx=>h x (by simp[hx]));rw[List.flatMap_cons,List.length_append,Zz];omega
theorem mg {α:Type}{l:List α}{f:α→List Int}{i:Nat}(h:i<l.length):(l.take (i+1)).flatMap f=(l.take i).flatMap f++f l[i]:=by
 rw[Z9 h,List.flatMap_append,List.flatMap_singleton]
theorem um {l:List Ap}(h:∀v∈l,Rgt v)(hl:l.length≤16):nq l=some (u5 l,0):=by
 unfold nq;rw[En l (by omega),Z0];have ha:l.all right=true:=by rw[List.all_eq_true];exact λv hv=>(h v hv).right
 rw[ha,if_neg (by simpa using hl)];refine aV (λi=>((l.length:Int)::(l.take i).flatMap bv,(i:Int))) l.length (by simp[bm];omega) (λi hi=>?_) ?_
 ·dsimp only
  unfold pJ;have:=jn (l:=l.take i) λv hv=>h v (List.mem_of_mem_take hv);rw[if_pos (by simpa using hi),ay hi,Z0,Em (h _ (Zj hi)) (by simp at this ⊢;omega),Z0,aU (by omega),mg hi]
  rfl
 ·unfold pJ uh
  rw[if_neg (by simp)];simp[u5]
theorem qP {v:Ap}(h:Rgt v):kN v=some (bv v):=by
 unfold kN;rw[um (l:=[v]) (by simpa using h) (by simp),Z0]
 have:sub (u5 [v]) 1 ((u5 [v]).length:Int)=some (bv v):=by
  have:=dI (xs:=u5 [v]) (lo:=1) (hi:=(u5 [v]).length) (by simp[u5]) (Zm _);rw[show((1:Nat):Int)=1 from rfl] at this;rw[this];simp[u5]
 dsimp only;rw[this];rfl
theorem pf {v:Ap}(h:Rgt v):rP v=some (bv v):=by
 unfold rP wm;cases h with
 |null=>simp[bv,bm]
 |bool b=>cases b<;>simp[bv,bm,app]
 |int n h=>
  simp only[bm,bD,bv];rw[if_neg (by decide),if_neg (by decide),if_neg (by decide),if_pos (by decide),wK,Z0,aH (by simp[cd])];simp
 |text t h hl=>
  simp only[bm,bv];rw[if_neg (by decide),if_neg (by decide),if_neg (by decide),if_neg (by decide),if_pos (by decide),aH (by simp),Z0,aH (by simp;omega)];simp;omega
def cg:List Int→Option (Ap×Nat)
 |[]=>none
 |k::b=>
  if k=0 then some (ld,1) else
  if k=1 then (match b with|c::_=>if c≤1 then some (Cq (c==1),2) else none|[]=>none) else
  if k=2 then (if 8≤b.length then some (iR (Jj.wrap (ez (b.take 8))),9) else none) else
  if k=3 then (match b with|c::r=>if c≤64∧c≤(r.length:Int) then some (xG (r.take c.toNat),2+c.toNat) else none|[]=>none) else none
theorem Ja {l:List Int}(h:Byt l)(hl:l.length=8):be8 (ez l)=l:=by
 match l,hl with
 |[a,b,c,d,e,f,g,i],_=>
  have ha:=h a (by simp);have hb:=h b (by simp);have hc:=h c (by simp);have hd:=h d (by simp);have he:=h e (by simp);have hf:=h f (by simp);have hg:=h g (by simp);have hi:=h i (by simp);simp only[be8,ez,List.foldl_cons,List.foldl_nil,List.cons.injEq,and_true];refine⟨?_,?_,?_,?_,?_,?_,?_,?_⟩<;>omega
theorem jo (n:Int):Jj.wrap n=(n+9223372036854775808)%18446744073709551616 - 9223372036854775808:=by
 simp only[IntKind.wrap,IntKind.bits,IntKind.signed];simp;omega
theorem Jb {n:Int}(h:0≤n∧n<18446744073709551616):Jj.wrap n%18446744073709551616=n:=by
 rw[jo];omega
theorem yL {n:Int}(h:cX n):Jj.wrap (n%18446744073709551616)=n:=by
 rw[jo];unfold cX at h;omega
theorem lz (n:Int):cX (Jj.wrap n):=by rw[jo];unfold cX;omega
theorem qy {v:Ap}(h:Rgt v)(r:List Int):cg (bv v++r)=some (v,(bv v).length):=by
 cases h with
 |null=>simp[G8,cg]
 |bool b=>cases b<;>simp[G9,cg]
 |int n h=>
  rw[u4];have h1: ¬ ((2:Int)=0):=by decide
  have h2: ¬ ((2:Int)=1):=by decide
  have h3:8≤(be8 (n%18446744073709551616)++r).length:=by simp[cd]
  have h4:(be8 (n%18446744073709551616)++r).take 8=be8 (n%18446744073709551616):=List.take_left' (cd _);simp only[List.cons_append,cg];rw[if_neg h1,if_neg h2,if_pos trivial,if_pos h3,h4,yK (by omega) (by omega),yL h];simp[cd]
 |text t h hl=>
  rw[s9];simp only[List.cons_append,cg];rw[if_neg (by decide),if_neg (by decide),if_neg (by decide),if_pos trivial,if_pos (by simp;omega)];simp;omega
theorem mM {b:List Int}{v:Ap}{n:Nat}(hb:Byt b)(h:cg b=some (v,n)):Rgt v∧∃r,b=bv v++r∧n=(bv v).length:=by
 cases b with
 |nil=>cases h
 | cons k b =>
  simp only[cg] at h;split at h
  ·rename_i hk;subst hk
   simp only[Option.some.injEq,Prod.mk.injEq] at h;obtain⟨rfl,rfl⟩:=h;exact⟨.null,b,rfl,rfl⟩
  split at h
  ·rename_i hk;subst hk
   cases b with
   |nil=>cases h
   | cons c r =>
    simp only at h;split at h
    ·rename_i hc
     simp only[Option.some.injEq,Prod.mk.injEq] at h;obtain⟨rfl,rfl⟩:=h;have h0:=hb.tail.head;have:c=0∨c=1:=by omega
     rcases this with rfl|rfl
     ·exact⟨.bool _,r,rfl,rfl⟩
     ·exact⟨.bool _,r,rfl,rfl⟩
    ·cases h
  split at h
  ·rename_i hk;subst hk
   split at h
   ·rename_i hl
    simp only[Option.some.injEq,Prod.mk.injEq] at h;obtain⟨rfl,rfl⟩:=h;have h8:(b.take 8).length=8:=by simp;omega
    have hbd:=AQ (b.take 8) (hb.tail.take 8);rw[h8] at hbd;refine⟨.int _ (lz _),b.drop 8,?_,?_⟩
    ·rw [u4,Jb (by omega),Ja (hb.tail.take 8) h8]
     simp
    ·rw[u4];simp[cd]
   ·cases h
  split at h
  ·rename_i hk;subst hk
   cases b with
   |nil=>cases h
   | cons c r =>
    simp only at h;split at h
    ·rename_i hc
     simp only[Option.some.injEq,Prod.mk.injEq] at h;obtain⟨rfl,rfl⟩:=h;have h0:=hb.tail.head;refine⟨.text _ (hb.tail.tail.take _) (by simp;omega),r.drop c.toNat,?_,?_⟩
     ·rw [s9]
      have:((r.take c.toNat).length:Int)=c:=by simp;omega
      rw[this];simp
     ·rw[s9];simp;omega
    ·cases h
  ·cases h
theorem si {b:List Int}{v:Ap}{n:Nat}(hb:Byt b)(h:cg b=some (v,n)):1≤n∧n≤66∧n≤b.length:=by
 obtain⟨h1,r,rfl,rfl⟩:=mM hb h;have:=ek h1;simp;omega
theorem rj {b:List Int}{v:Ap}{n k:Nat}(hb:Byt b)(h:cg (b.take k)=some (v,n)):cg b=some (v,n)∧n≤k:=by
 obtain⟨h1,r,h2,rfl⟩:=mM (hb.take k) h;have h3:b=bv v++(r++b.drop k):=by rw[←List.append_assoc,←h2];simp
 refine⟨by rw[h3];exact qy h1 _,?_⟩;have:=congrArg List.length h2;simp at this;omega
theorem vH {b:List Int}{v:Ap}{n k:Nat}(hb:Byt b)(h:cg b=some (v,n))(hk:n≤k):cg (b.take k)=some (v,n):=by
 obtain⟨h1,r,rfl,rfl⟩:=mM hb h;rw[List.take_append,Zy hk];exact qy h1 _
theorem Ha {x y:Int}(k:Nat)(hx:0≤x)(h0:0≤y)(hy:y<2^k)(hs:x*2^k+y<18446744073709551616):bOr .u64 (x*2^k) y=x*2^k+y:=by
 obtain⟨a,rfl⟩:=Z7 hx;obtain⟨b,rfl⟩:=Z7 h0;have e:(a:Int)*2^k=((2^k*a:Nat):Int):=by rw[Int.natCast_mul,Z5,Int.mul_comm];rfl
 have e2:((2:Int)^k)=((2^k:Nat):Int):=by rw[Z5];rfl
 rw[e2] at hy;rw[e] at hs ⊢;have hb:b<2^k:=by omega
 rw[I9 (by omega) (by omega),←Zp hb];omega
theorem AR {b:List Int}(hb:Byt b)(hl:8≤b.length):qj b=some (ez (b.take 8)):=by
 unfold qj;refine aV (λi=>(ez (b.take i),(i:Int))) 8 (by simp[ez]) (λi hi=>?_) ?_
 ·dsimp only
  unfold pO;have hi':i<b.length:=by omega
  have hbd:=AQ (b.take i) (hb.take i);have hci:=hb b[i] (Zj hi')
  have hp:(256:Int)^(b.take i).length≤256^7:=by
   have:(b.take i).length≤7:=by simp;omega
   have h9:=Zb (show 0<256 by omega) this;have h8:=Int.ofNat_le.2 h9;simpa[Z5] using h8
  have hsh:=zH (x:=ez (b.take i)) (k:=8) (by omega);rw[show((8:Nat):Int)=8 from rfl] at hsh
  have e:ez (b.take (i+1))=ez (b.take i)*256+b[i]:=by
   rw[Z9 hi',tV]
  have e1:ez (b.take i)*2^8%18446744073709551616=ez (b.take i)*2^8:=by omega
  have e2:b[i]%18446744073709551616=b[i]:=by omega
  rw[if_pos (by simpa using by omega),ay hi',Z0,aU (by omega),hsh,bD,e,e1,e2,Ha 8 (by omega) (by omega) (by omega) (by omega)]
  rfl
 ·unfold pO uk
  dsimp only;rw[if_neg (by simp)];rfl
theorem dK {α:Type}(a:α)(l:List α):idx (a::l) 0=some a:=ay (xs:=a::l) (i:=0) (by simp)
theorem BF {α:Type}(a b:α)(l:List α):idx (a::b::l) 1=some b:=ay (xs:=a::b::l) (i:=1) (by simp)
theorem fC {α:Type}{xs:List α}{k:Nat}(h:k≤xs.length):sub xs (k:Int) (xs.length:Int)=some (xs.drop k):=by
 rw[dI h (Zm _),List.take_length]
theorem td {α:Type}(a:α)(l:List α):sub (a::l) 1 ((a::l).length:Int)=some l:=by
 have:=fC (xs:=a::l) (k:=1) (by simp);simpa using this
theorem un {c:Int}(h:0≤c∧c<256):Jj.wrap c=c:=ak (by omega)
theorem Dm {b:List Int}(hb:Byt b):s5 b=some (match cg b with|some (v,n)=>(v,b.drop n,true)|none=>(ld,[],false)):=by
 cases b with
 |nil=>rfl
 | cons k r =>
  have hk:=hb.head;have hr:=hb.tail;unfold s5;rw[if_neg (by simp;omega),dK,Z0,td,Z0,un hk]
  by_cases h0:k=0
  ·subst h0;simp[cg,kM]
  rw[if_neg (by simpa using h0)];have e0:ky r false=some (ld,[],false):=rfl
  by_cases h1:k=1
  ·subst h1
   have e2:kz 1 r false=some (ld,[],false):=rfl;rw[if_pos (by simp)];cases r with
   |nil=>simp[cg,e2]
   | cons c r =>
    rw[if_pos (by simp;omega),dK,Z0]
    by_cases hc:c≤1
    ·unfold kz
     rw[if_pos (by simpa using hc),dK,Z0,td];simp[cg,hc,oU]
    ·have:decide (c≤1)=false:=by simpa using hc
     rw[this,e2];simp[cg,hc]
  rw[if_neg (by simpa using h1)];unfold kz;rw[if_neg (by decide),un hk]
  by_cases h2:k=2
  ·subst h2
   rw[if_pos (by simp)];unfold o8
   by_cases hl:8≤r.length
   ·have hs:=fC (xs:=r) (k:=8) hl
    rw[show((8:Nat):Int)=8 from rfl] at hs;rw[if_pos (by simpa using by omega),AR hr hl,Z0];unfold eG;rw[Z0,hs];simp[cg,hl]
   ·rw [if_neg (by simpa using by omega),if_neg (by decide),e0]
    simp[cg,hl]
  rw[if_neg (by simpa using h2)];unfold o8;rw[if_neg (by decide),un hk]
  by_cases h3:k=3
  ·subst h3
   rw[if_pos (by simp)];cases r with
   |nil=>simp[cg,e0]
   | cons c r =>
    have hc:=hr.head;rw[if_pos (by simp;omega),dK,Z0]
    by_cases hc64:c≤64
    ·rw [if_pos (by simpa using hc64),Z0,un hc]
     by_cases hl:c≤(r.length:Int)
     ·obtain ⟨n,rfl⟩:=Z7 hc.1
      have e3:Z3.wrap (1+(n:Int))=((1+n:Nat):Int):=by rw[bm];omega
      have hs:=dI (xs:=(n:Int)::r) (lo:=1) (hi:=1+n) (by omega) (by simp;omega);rw[show((1:Nat):Int)=1 from rfl] at hs;have hs2:=fC (xs:=(n:Int)::r) (k:=1+n) (by simp;omega);unfold ky;rw[if_pos (by simp;omega),dK,Z0,e3,hs,Z0];unfold oV;rw[Z0,Z0,e3,hs2]
      have e5:cg (3::(n:Int)::r)=some (xG (r.take n),2+n):=by
       simp only[cg];rw[if_neg (by decide),if_neg (by decide),if_neg (by decide),if_pos trivial,if_pos ⟨hc64,hl⟩];simp
      rw[e5];simp only[Z0,Option.some.injEq,Prod.mk.injEq,and_true];have e6:1+n=n+1:=by omega
      have e7:2+n=n+1+1:=by omega
      rw[e6,e7];simp
     ·have:decide (c<(((c::r).length:Nat):Int))=false:=by simp;omega
      rw[this,e0];simp[cg,hl]
    ·rw[if_neg (by simpa using hc64),e0];simp[cg,hc64]
  rw[if_neg (by simpa using h3),e0];simp[cg,h0,h1,h2,h3]
def qz:Nat→List Int→Option (List Ap×List Int)
 |0,b=>some ([],b)
 |n+1,b=>match cg b with
  |some (v,k)=>(qz n (b.drop k)).map λx=>(v::x.1,x.2)
  |none=>none
theorem yM (many:Nat) (hm:many≤255): ∀(n i:Nat) (b:List Int) (acc:List Ap),i+n=many→Byt b→acc.length=i→
  am (λs:(List Int×List Ap×Int)=>kA (many:Int) s.1 s.2.1 s.2.2) (b,acc,(i:Int))=some (match qz n b with|some (l,[])=>(acc++l,0)|_=>([],30)):=by
 intro n
 induction n with
 |zero=>
  intro i b acc hi hb ha;apply a7;dsimp only;unfold kA ul;rw[if_neg (by rw[ak (by omega)];simp;omega)];cases b with
  |nil=>simp[qz]
  |cons c r=>simp[qz]
 | succ n ih =>
  intro i b acc hi hb ha
  have step:kA (many:Int) b acc (i:Int)=match cg b with|some (v,k)=>some (.inl (b.drop k,acc++[v],((i+1:Nat):Int)))|none=>some (.inr ([],30)):=by
   unfold kA;rw[if_pos (by rw[ak (by omega)];simp;omega),Dm hb,Z0];cases hp:cg b with
   |none=>rfl
   |some x=>
    obtain⟨v,k⟩:=x;simp only[Bool.not_true,Zl,if_false];rw[aH (by simp;omega),Z0,aU (by omega)]
  simp only[qz];cases hp:cg b with
  |none=>rw[hp] at step;rw[a7 (by dsimp only;exact step)]
  | some x =>
   obtain⟨v,k⟩:=x;rw[hp] at step;rw[bP (by dsimp only;exact step),ih (i+1) _ _ (by omega) (hb.drop _) (by simp;omega)];dsimp only;cases hq:qz n (b.drop k) with
   |none=>rfl
   |some y=>
    obtain⟨l,r⟩:=y;cases r<;>simp
theorem AS {b:List Int}(hb:Byt b):lH b=some (match b with|[]=>([],30)|c::r=>if c≤16 then (match qz c.toNat r with|some (l,[])=>(l,0)|_=>([],30)) else ([],30)):=by
 cases b with
 |nil=>rfl
 | cons c r =>
  have hc:=hb.head;unfold lH;rw[if_neg (by simp;omega),dK,Z0];unfold pP
  by_cases h:c≤16
  ·rw [if_neg (by simpa using h),dK,Z0,td,Z0]
   have:=yM c.toNat (by omega) c.toNat 0 r [] (by omega) hb.tail rfl;rw[show((c.toNat:Nat):Int)=c by omega] at this;rw[show((0:Nat):Int)=0 from rfl] at this;rw[this];simp[h]
  ·rw[if_pos (by simpa using by omega)];simp[h]
theorem te {c:List Int}(hb:Byt c):lH (1::c)=some (match cg c with|some (v,k)=>if k=c.length then ([v],0) else ([],30)|none=>([],30)):=by
 rw[AS (hb.cons (by decide))];simp only[show((1:Int)≤16)=True by simp,if_true,show(1:Int).toNat=1 from rfl,qz];cases hp:cg c with
 |none=>rfl
 | some x =>
  obtain⟨v,k⟩:=x;have:=(si hb hp).2.2;simp only[Option.map_some]
  by_cases h:k=c.length
  ·subst h;simp
  ·rw [if_neg h]
   cases hd:c.drop k with
   |nil=>have:=List.drop_eq_nil_iff.1 hd;omega
   |cons _ _=>rfl
theorem Dn {r:aj}(hb:Byt r.fB)(hl:r.fB.length<140737488355328):dJ r=some (match cg r.fB with|some (v,n)=>(v,⟨r.fB.drop n,r.fOk⟩)|none=>(ld,⟨r.fB,false⟩)):=by
 unfold dJ
 have step:∀k,1≤k→k≤r.fB.length→k≤66→gT r (k:Int)=match cg (r.fB.take k) with|some (v,n)=>(if n=k then some (.inr (v,⟨r.fB.drop k,r.fOk⟩)) else some (.inl ((k+1:Nat):Int)))|none=>some (.inl ((k+1:Nat):Int)):=by
  intro k h1 h2 h3;have hs:=dI (xs:=r.fB) (lo:=0) (hi:=k) (by omega) h2;rw[show((0:Nat):Int)=0 from rfl] at hs;unfold gT gS;rw[if_pos (by simpa using by omega),if_pos (by simp;omega),hs,Z0,aH (by simp;omega),Z0,List.drop_zero,List.singleton_append,te (hb.take _),Z0,fC h2,aU (by omega)];have hlen:(r.fB.take k).length=k:=by simp;omega
  cases hp:cg (r.fB.take k) with
  |none=>rfl
  |some x=>
   obtain⟨v,n⟩:=x;simp only[hlen]
   by_cases e:n=k
   ·rw[if_pos e,if_pos e];rfl
   ·rw[if_neg e,if_neg e];rfl
 cases hp:cg r.fB with
 | some x =>
  obtain⟨v,n⟩:=x;have hn:=si hb hp;refine aV (λi=>((i+1:Nat):Int)) (n - 1) rfl (λi hi=>?_) ?_
  ·rw [step (i+1) (by omega) (by omega) (by omega)]
   cases hq:cg (r.fB.take (i+1)) with
   |none=>rfl
   |some y=>
    obtain⟨v',n'⟩:=y;obtain⟨h1,h2⟩:=rj hb hq;rw[hp] at h1;simp only[Option.some.injEq,Prod.mk.injEq] at h1;omega
  ·have e:n - 1+1=n:=by omega
   rw[e,step n (by omega) (by omega) (by omega),vH hb hp (Zm _)];simp
 | none =>
  refine aV (λi=>((i+1:Nat):Int)) (min r.fB.length 66) rfl (λi hi=>?_) ?_
  ·rw [step (i+1) (by omega) (by omega) (by omega)]
   cases hq:cg (r.fB.take (i+1)) with
   |none=>rfl
   |some y=>
    obtain⟨v',n'⟩:=y;obtain⟨h1,h2⟩:=rj hb hq;rw[hp] at h1;cases h1
  ·have e0:gS r ((min r.fB.length 66+1:Nat):Int) false=some (.inr (ld,⟨r.fB,false⟩)):=rfl
   unfold gT;split
   ·have:decide (((min r.fB.length 66+1:Nat):Int)≤66)=false:=by
     rename_i h;simp at h ⊢;omega
    rw[this,e0]
   ·exact e0
def eN (f:Nat→Bool):Nat→Nat
 |0=>0
 |n+1=>2^n*(f n).toNat+eN f n
theorem mO (f:Nat→Bool): ∀n,eN f n<2^n
 |0=>by simp[eN]
 |n+1=>by
  have:=mO f n;simp only[eN];cases f n<;>simp[Zn]<;>omega
theorem mh (f:Nat→Bool): ∀n k,(eN f n).testBit k=(decide (k<n)&&f k)
 |0,k=>by simp[eN]
 | n + 1, k => by
  simp only[eN];rw[Nat.testBit_two_pow_mul_add _ (mO f n),mh f n k]
  by_cases h:k<n
  ·rw[if_pos h];simp[h];intro _;omega
  ·rw [if_neg h]
   by_cases h':k=n
   ·subst h';simp;cases f k<;>rfl
   ·have: ¬ k<n+1:=by omega
    simp[this];have:k - n≠0:=by omega
    cases f n
    ·simp
    ·simp only [Bool.toNat_true]
     obtain⟨j,hj⟩:∃j,k - n=j+1:=⟨k - n - 1,by omega⟩
     rw[hj,Nat.testBit_succ];simp
theorem mP {f g:Nat→Bool}{n:Nat}(h:∀k,k<n→f k=g k):eN f n=eN g n:=by
 apply Zo;intro k;rw[mh,mh]
 by_cases hk:k<n
 ·rw[h k hk]
 ·simp[hk]
theorem Hb {x n:Nat}(h:x<2^n):eN (λk=>x.testBit k) n=x:=by
 apply Zo;intro k;rw[mh]
 by_cases hk:k<n
 ·simp[hk]
 ·have:=Nat.testBit_lt_two_pow (Nat.lt_of_lt_of_le h (Zb (by decide) (Nat.le_of_not_lt hk)))
  simp[this]
theorem EU (x k:Nat):x/2^k=2*(x/2^(k+1))+(x.testBit k).toNat:=by
 have h1:x/2^(k+1)=x/2^k/2:=by rw[Zn,Zc]
 rw[h1,Zh];have:x/2^k%2=0∨x/2^k%2=1:=by omega
 rcases this with h|h<;>simp[h]<;>omega
def fo (l:List Int)(w p:Nat):Bool:=decide (p<l.length*w)&&(l.getD (p/w) 0).toNat.testBit (p%w)
def ju (l:List Int)(w q:Nat):List Int:=(Zv ((l.length*w+7)/8)).map λj=>((eN (λk=>decide (8*j+k<q)&&fo l w (8*j+k)) 8:Nat):Int)
def cN (l:List Int)(w:Nat):List Int:=ju l w (l.length*w)
theorem fM (l:List Int)(w q:Nat):(ju l w q).length=(l.length*w+7)/8:=by simp[ju]
theorem mj (l:List Int)(w q j:Nat)(h:j<(ju l w q).length):(ju l w q)[j]=((eN (λk=>decide (8*j+k<q)&&fo l w (8*j+k)) 8:Nat):Int):=by simp[ju]
theorem zI (l:List Int)(w:Nat):Byt (cN l w):=λc hc=>by
 simp only[cN,ju,List.mem_map] at hc;obtain⟨j,_,rfl⟩:=hc;have:=mO (λk=>decide (8*j+k<l.length*w)&&fo l w (8*j+k)) 8;omega
theorem Hc (l:List Int) (w q:Nat) (hq:q<l.length*w) (hb:fo l w q=true):
  ∃x:Nat,x<256∧(ju l w q)[q/8]? =some (x:Int)∧(ju l w q).set (q/8) (((x|||2^(q%8):Nat)):Int)=ju l w (q+1):=by
 have hlt:q/8<(ju l w q).length:=by rw[fM];omega
 refine⟨_,mO _ 8,by rw[Z6 hlt,mj],?_⟩;apply Zr
 ·simp[fM]
 intro j h1 h2;rw[List.getElem_set,mj];split
 ·rename_i e
  subst e;rw[mj];congr 1;apply Zo;intro k;rw[Nat.testBit_or,mh,mh,Nat.testBit_two_pow]
  by_cases hk:k<8
  ·by_cases e:q%8=k
   ·have:8*(q/8)+k=q:=by omega
    simp[hk,e,this,hb]
   ·have h3:(8*(q/8)+k<q+1)=(8*(q/8)+k<q):=by apply propext;omega
    simp[e,h3]
  ·have:q%8≠k:=by omega
   simp[hk,this]
 ·rename_i e
  rw[mj];congr 1;apply mP;intro k hk;have h3:(8*j+k<q+1)=(8*j+k<q):=by apply propext;omega
  simp[h3]
theorem FT (l:List Int)(w q:Nat)(hb:fo l w q=false):ju l w q=ju l w (q+1):=by
 unfold ju;apply List.map_congr_left;intro j _;congr 1;apply mP;intro k hk
 by_cases e:8*j+k=q
 ·rw[e,hb];simp
 ·have h3:(8*j+k<q+1)=(8*j+k<q):=by apply propext;omega
  simp[h3]
theorem FU (l:List Int)(w:Nat):ju l w 0=Z2 ((l.length*w+7)/8) 0:=by
 apply Zr
 ·simp[fM]
 intro j h1 h2;rw[mj];have:eN (λk=>decide (8*j+k<0)&&fo l w (8*j+k)) 8=eN (λ_=>false) 8:=mP λk _=>by simp
 rw[this];simp[eN]
def eF (b:List Int)(p:Nat):Bool:=(b.getD (p/8) 0).toNat.testBit (p%8)
def unp (b:List Int)(w i:Nat):Nat:=eN (λk=>eF b (i*w+k)) w
theorem AT (l:List Int)(w p:Nat)(r:List Int)(hp:p<l.length*w):eF (cN l w++r) p=fo l w p:=by
 have hlt:p/8<(cN l w).length:=by unfold cN;rw[fM];omega
 unfold eF;rw[Z4,List.getElem?_append_left hlt,Z6 hlt];simp only[Option.getD_some];have e:(cN l w)[p/8]=_:=mj l w (l.length*w) (p/8) hlt;rw[e];simp only[Int.toNat_natCast];rw[mh];have h1:8*(p/8)+p%8=p:=by omega
 have h2:p%8<8:=by omega
 simp[h1,h2,hp]
theorem yN (l:List Int)(w i k:Nat)(hi:i<l.length)(hk:k<w):i*w+k<l.length*w∧fo l w (i*w+k)=(l[i]).toNat.testBit k:=by
 have h0:i*w+k<l.length*w:=by
  have:(i+1)*w≤l.length*w:=Zf _ hi;rw[Zt] at this;omega
 refine⟨h0,?_⟩;unfold fo
 have h1:(i*w+k)/w=i:=by
  rw[X4,Nat.mul_add_div (by omega),Zw hk];rfl
 have h2:(i*w+k)%w=k:=by
  rw[X4,Nat.mul_add_mod,Nat.mod_eq_of_lt hk]
 rw[h1,h2,Z4,Z6 hi];simp[h0]
theorem FV (l:List Int)(w i:Nat)(r:List Int)(hi:i<l.length)(hb:0≤l[i]∧l[i]<2^w):(unp (cN l w++r) w i:Int)=l[i]:=by
 have h1:unp (cN l w++r) w i=eN (λk=>(l[i]).toNat.testBit k) w:=mP λk hk=>by
  obtain⟨h2,h3⟩:=yN l w i k hi hk;rw[AT _ _ _ _ h2,h3]
 rw[h1,Hb]
 ·omega
 ·have:((l[i].toNat:Nat):Int)<((2^w:Nat):Int):=by
   rw[Z5];have:((l[i].toNat:Nat):Int)=l[i]:=by omega
   rw[this];exact hb.2
  exact Int.ofNat_lt.1 this
theorem uo (n:Nat):chk (decide (0≤(n:Int)))=some ():=sg (decide_eq_true (Zi n))
theorem or8 {a b:Nat}(ha:a<256)(hb:b<256):bOr .u8 (a:Int) (b:Int)=((a|||b:Nat):Int):=by
 unfold bOr;rw[bm]
 have h1:(Za Z3.bits (a:Int)).toNat=a:=by
  show(Za 8 (a:Int)).toNat=a;rw[Z8];omega
 have h2:(Za Z3.bits (b:Int)).toNat=b:=by
  show(Za 8 (b:Int)).toNat=b;rw[Z8];omega
 rw[BitVec.toNat_or,h1,h2];have:a|||b<2^8:=Nat.or_lt_two_pow (by simpa using ha) (by simpa using hb)
 omega
theorem Mi {a b:Nat}(ha:a<256)(hb:b<256):dm .u8 (a:Int) (b:Int)=((a&&&b:Nat):Int):=by
 unfold dm;rw[bm]
 have h1:(Za Z3.bits (a:Int)).toNat=a:=by
  show(Za 8 (a:Int)).toNat=a;rw[Z8];omega
 have h2:(Za Z3.bits (b:Int)).toNat=b:=by
  show(Za 8 (b:Int)).toNat=b;rw[Z8];omega
 rw[BitVec.toNat_and,h1,h2];have:a&&&b≤a:=Nat.and_le_left;omega
theorem AU (x:Nat)(k:Nat):x/2^k&&&1=(x.testBit k).toNat:=by
 rw[Nat.and_one_is_mod,Zh];have:x/2^k%2=0∨x/2^k%2=1:=by omega
 rcases this with h|h<;>simp[h]
theorem Mj {x:Int}{k:Nat}(h:0≤x∧x<18446744073709551616)(hk:k≤64):dm .u64 (aF .u64 x (k:Int)) 1=(x.toNat.testBit k).toNat:=by
 obtain⟨n,rfl⟩:=Z7 h.1;rw[qm hk];have h1:((n:Int)/2^k)=((n/2^k:Nat):Int):=by simp[Z5]
 have h2:n/2^k≤n:=Zk _ _;rw[h1,show(1:Int)=((1:Nat):Int) from rfl,J1 (by omega) (by omega),AU];simp
theorem KU {x:Int}{k:Nat}(h:0≤x∧x<256)(hk:k≤8):dm .u8 (aF .u8 x (k:Int)) 1=(x.toNat.testBit k).toNat:=by
 obtain⟨n,rfl⟩:=Z7 h.1;rw[Rh hk];have h1:((n:Int)/2^k)=((n/2^k:Nat):Int):=by simp[Z5]
 have h2:n/2^k≤n:=Zk _ _;rw[h1,show(1:Int)=((1:Nat):Int) from rfl,Mi (by omega) (by omega),AU];simp
theorem Jc {i w k:Nat}(hi:i<1048576)(hw:w≤64)(hk:k≤64):Jj.wrap ((Jj.wrap ((i:Int)*(w:Int)))+(k:Int))=((i*w+k:Nat):Int):=by
 have:i*w≤1048576*64:=Zg (by omega) hw;have e:(i:Int)*(w:Int)=((i*w:Nat):Int):=by simp
 rw[e,ak (n:=((i*w:Nat):Int)) (by omega),ak (by omega)];omega
theorem FW (n:Nat):((n:Int)).tdiv 8=((n/8:Nat):Int):=by
 rw[Ze (by omega)];rfl
theorem J2 (n:Nat):((n:Int)).tmod 8=((n%8:Nat):Int):=by
 rw[Zs (by omega)];rfl
theorem J3 {i w:Nat}(hi:i<1048576)(hw:w≤64):Jj.wrap ((Jj.wrap ((Jj.wrap ((i:Int)*(w:Int)))+7)).tdiv 8)=(((i*w+7)/8:Nat):Int):=by
 have:i*w≤1048576*64:=Zg (by omega) hw;have e:=Jc (i:=i) (w:=w) (k:=7) hi hw (by omega);rw[show((7:Nat):Int)=7 from rfl] at e;rw[e,FW,ak (by omega)]
def U64 (l:List Int):Prop:= ∀x∈l,0≤x∧x<18446744073709551616
theorem u6 {α:Type}{N n:Nat}{z:α}(h:n≤N):mk N (n:Int) z=some (Z2 n z):=by
 unfold mk;rw[if_pos (by omega)];simp
theorem od {α:Type}{xs:List α}{i:Nat}(h:i<xs.length):ix xs (i:Int)=some i:=by
 unfold ix;rw[if_pos (by omega)];simp
theorem BG {l:List Int}{w:Nat}(hu:U64 l)(hl:l.length<1048576)(hw:w≤64):iw l (w:Int)=some (cN l w):=by
 have hlw:l.length*w≤1048576*64:=Zg (by omega) hw;unfold iw;rw[J3 hl hw,u6 (by omega),Z0];refine aV (λi=>((i:Int),ju l w (i*w))) l.length (by simp[FU]) (λi hi=>?_) ?_
 ·dsimp only
  unfold jb;rw[if_pos (by simpa using hi),ay hi,Z0];have hx:=hu l[i] (Zj hi);refine aV (λk=>((k:Int),ju l w (i*w+k))) w rfl (λk hk=>?_) ?_
  ·dsimp only
   unfold ja i9;obtain⟨h1,h2⟩:=yN l w i k hi hk;rw[if_pos (by simpa using hk),sg (by simp),Z0,Mj hx (by omega),Jc (by omega) hw (by omega),FW,J2,ak (by omega),aU (by omega)];cases hb:l[i].toNat.testBit k with
   |false=>
    rw[hb] at h2;rw[if_neg (by decide),FT l w _ h2];rfl
   | true =>
    rw[hb] at h2;obtain⟨x,hx1,hx2,hx3⟩:=Hc l w _ h1 h2;have hlt:(i*w+k)/8<(ju l w (i*w+k)).length:=by rw[fM];omega
    rw[if_pos (by decide),od hlt,Z0,hx2,Z0,uo,Z0,Z0,hx2,Z0]
    have h8:ew .u8 1 (((i*w+k)%8:Nat):Int)=((2^((i*w+k)%8):Nat):Int):=by
     unfold ew;rw[bm];have hm:min (((i*w+k)%8:Nat):Int).toNat Z3.bits=(i*w+k)%8:=by simp[IntKind.bits];omega
     rw[hm];have:(2:Nat)^((i*w+k)%8)≤2^7:=Zb (by decide) (by omega);rw[Z5];have e:((2:Int)^((i*w+k)%8))=(((2:Nat)^((i*w+k)%8):Nat):Int):=by simp[Z5]
     rw[show((2:Nat):Int)=2 from rfl,e];generalize (2:Nat)^((i*w+k)%8)=m at*;omega
    have:(2:Nat)^((i*w+k)%8)≤2^7:=Zb (by decide) (by omega);rw[h8,or8 hx1 (by omega),hx3];rfl
  ·dsimp only
   unfold ja kP;rw[if_neg (by simp),aU (by omega)];simp[Zt]
 ·unfold jb kO
  rw[if_neg (by simp)];rfl
theorem AW {r:aj}{n:Nat}(hn:n≤281474976710656):cE r (n:Int)=some (if r.fB.length<n then (Z2 n 0,⟨[],false⟩) else (r.fB.take n,⟨r.fB.drop n,r.fOk⟩)):=by
 unfold cE
 by_cases h:r.fB.length<n
 ·rw[if_pos (by simpa using h),if_pos h,u6 hn];rfl
 ·rw [if_neg (by simpa using h),if_neg h,u6 hn,Z0,dI (by omega) (Zm _)]
  simp only[Z0,List.take_length];unfold cpy;simp;omega
theorem KV (f:Nat→Bool)(k:Nat):eN f k|||2^k*(f k).toNat=eN f (k+1):=by
 rw[Nat.or_comm,←Zp (mO f k)];rfl
theorem Mk {b:Bool}{k:Nat}(hk:k<64):ew .u64 ((b.toNat:Nat):Int) (k:Int)=((2^k*b.toNat:Nat):Int):=by
 rw[zH (by omega)];have h1:(2:Nat)^k<2^64:=Nat.pow_lt_pow_right (by decide) hk;have e:((2:Int)^k)=(((2:Nat)^k:Nat):Int):=by simp[Z5]
 rw[e];cases b
 ·simp
 ·simp only [Bool.toNat_true,Nat.mul_one]
  have:(2:Nat)^64=18446744073709551616:=by decide
  generalize (2:Nat)^k=m at*;omega
def sj (r:aj) (many w:Nat):List Int×aj:=
 if 64<w then (Z2 many 0,⟨r.fB,false⟩) else
 if r.fB.length<(many*w+7)/8 then (Z2 many 0,⟨[],false⟩) else
 ((Zv many).map λi=>((unp r.fB w i:Nat):Int),⟨r.fB.drop ((many*w+7)/8),r.fOk⟩)
theorem Hd {l:List Int}{n i:Nat}(h:i<n):(l.take n).getD i 0=l.getD i 0:=by
 rw[Z4,Z4,List.getElem?_take,if_pos h]
theorem Jd (b:List Int)(w i n:Nat)(h:(i+1)*w≤8*n):unp (b.take n) w i=unp b w i:=mP λk hk=>by
 rw[Zt] at h;unfold eF;rw[Hd (by omega)]
theorem Je (n w i:Nat):unp (Z2 n 0) w i=0:=by
 have:unp (Z2 n 0) w i=eN (λ_=>false) w:=mP λk hk=>by
  unfold eF;rw[Z4,List.getElem?_replicate];split<;>simp
 rw[this];have:∀w,eN (λ_=>false) w=0:=by intro w;induction w with|zero=>rfl|succ w ih=>simp[eN,ih]
 exact this w
theorem ye {r:aj}{many w:Nat}(hb:Byt r.fB)(hm:many<1048576):dz r (many:Int) (w:Int)=some (sj r many w):=by
 unfold dz sj
 by_cases hw:64<w
 ·rw[if_pos (by simpa using by omega),if_pos hw,u6 (by omega)];rfl
 rw[if_neg (by simpa using by omega),if_neg hw];have hw':w≤64:=by omega
 have hlw:many*w≤1048576*64:=Zg (by omega) hw';rw[J3 hm hw',AW (by omega),Z0,u6 (by omega),Z0]
 have key: ∀(b:List Int) (r':aj),Byt b→b.length=(many*w+7)/8→
   am (λs:(Int×List Int)=>dD (w:Int) (b,r') (Z2 many 0) s.1 s.2) (0,Z2 many 0)=some ((Zv many).map λi=>((unp b w i:Nat):Int),r'):=by
  intro b r' hb hl;refine aV (λi=>((i:Int),(Zv i).map (λi=>((unp b w i:Nat):Int))++Z2 (many - i) 0)) many (by simp) (λi hi=>?_) ?_
  ·dsimp only
   unfold dD;rw[if_pos (by simpa using hi)];have hi1:(i+1)*w≤many*w:=Zf _ hi;rw[Zt] at hi1
   have h64:∀k,k≤64→eN (λk=>eF b (i*w+k)) k<18446744073709551616:=λk hk=>by
    have:=mO (λk=>eF b (i*w+k)) k;have h2:(2:Nat)^k≤2^64:=Zb (by decide) hk;have:(2:Nat)^64=18446744073709551616:=by decide
    omega
   refine aV (λk=>((k:Int),(Zv i).map (λi=>((unp b w i:Nat):Int))++((eN (λk=>eF b (i*w+k)) k:Nat):Int)::Z2 (many - i - 1) 0)) w ?_ (λk hk=>?_) ?_
   ·have:many - i=(many - i - 1)+1:=by omega
    rw[this,List.replicate_succ];simp[eN]
   ·dsimp only
    unfold eu;have hat:(i*w+k)/8<b.length:=by omega
    have hlen:i<((Zv i).map (λi=>((unp b w i:Nat):Int))++((eN (λk=>eF b (i*w+k)) k:Nat):Int)::Z2 (many - i - 1) 0).length:=by simp
    have hget:((Zv i).map (λi=>((unp b w i:Nat):Int))++((eN (λk=>eF b (i*w+k)) k:Nat):Int)::Z2 (many - i - 1) 0)[i]? =some ((eN (λk=>eF b (i*w+k)) k:Nat):Int):=by simp
    rw[if_pos (by simpa using hk),od hlen,Z0,hget,Z0,Jc (by omega) hw' (by omega),FW,J2,ak (by omega),ay hat,Z0,uo,Z0,uo,Z0,Z0,hget,Z0,aU (by omega)];have hbb:=hb b[(i*w+k)/8] (Zj hat);rw[KU hbb (by omega)]
    have e:b[(i*w+k)/8].toNat.testBit ((i*w+k)%8)=eF b (i*w+k):=by
     unfold eF;rw[Z4,Z6 hat];rfl
    rw[e,bD];have e2:(((eF b (i*w+k)).toNat:Nat):Int)%18446744073709551616=(((eF b (i*w+k)).toNat:Nat):Int):=by cases eF b (i*w+k)<;>rfl
    have h3:2^k*(eF b (i*w+k)).toNat<18446744073709551616:=by
     have h1:(2:Nat)^k<2^64:=Nat.pow_lt_pow_right (by decide) (by omega);have:(2:Nat)^64=18446744073709551616:=by decide
     cases eF b (i*w+k)<;>simp<;>omega
    rw[e2,Mk (by omega),I9 (h64 k (by omega)) h3,KV (λk=>eF b (i*w+k)) k];congr 3;rw[List.set_append_right _ _ (by simp)];simp
   ·dsimp only
    unfold eu fU;rw[if_neg (by simp),aU (by omega)];have:many - i - 1=many - (i+1):=by omega
    rw[this];simp[List.range_succ,unp]
  ·dsimp only
   unfold dD fT;rw[if_neg (by simp)];simp
 by_cases hl:r.fB.length<(many*w+7)/8
 ·rw [if_pos hl,if_pos hl,key _ _ (fun c hc=>by rw [List.eq_of_mem_replicate hc];decide) (by simp)]
  congr 2;apply Zr
  ·simp
  ·intro j h1 h2;simp[Je]
 ·rw [if_neg hl,if_neg hl,key _ _ (hb.take _) (by simp;omega)]
  congr 2;apply Zr
  ·simp
  ·intro j h1 h2
   simp only[List.getElem_map,List.getElem_range];rw[Jd];simp at h1;have:(j+1)*w≤many*w:=Zf _ h1;omega
def oh (l:List Int)(w q:Nat):List Int:=(Zv q).map λp=>((fo l w p).toNat:Int)
theorem FX (l:List Int)(w q:Nat):oh l w (q+1)=oh l w q++[((fo l w q).toNat:Int)]:=by simp[oh,List.range_succ]
theorem yO (l:List Int){w:Nat}(hl:l.length<1048576)(hw:w≤64):rT (oh l w (l.length*w))=some (cN l w):=by
 have hlw:l.length*w≤1048576*64:=Zg (by omega) hw;unfold rT;have hlen:(oh l w (l.length*w)).length=l.length*w:=by simp[oh]
 refine aV (λj=>((cN l w).take j,((8*j:Nat):Int))) ((l.length*w+7)/8) (by simp) (λj hj=>?_) ?_
 ·dsimp only
  unfold rS;rw[hlen,if_pos (by simpa using by omega)];have hpl:(cN l w).length=(l.length*w+7)/8:=fM _ _ _;refine aV (λt=>(((eN (λk=>decide (8*j+k<l.length*w)&&fo l w (8*j+k)) 8/2^(8 - t):Nat):Int),7 - (t:Int))) 8 ?_ (λt ht=>?_) ?_
  ·have:=mO (fun k=>decide (8*j+k<l.length*w)&&fo l w (8*j+k)) 8
   rw[Zw (by simpa using this)];simp
  ·dsimp only
   unfold rR rQ;obtain⟨k,hk⟩:∃k,8=t+1+k:=⟨8 - t - 1,by omega⟩
   have e:7 - (t:Int)=(k:Int):=by omega
   have e1:8 - t=k+1:=by omega
   have e2:8 - (t+1)=k:=by omega
   have e4:Jj.wrap ((k:Int) - 1)=7 - ((t+1:Nat):Int):=by rw[ak (by omega)];omega
   have e5:Jj.wrap (((8*j:Nat):Int)+(k:Int))=((8*j+k:Nat):Int):=by rw[ak (by omega)];omega
   rw[e,if_pos (by simp),e1,e2,e4,e5,EU _ k];have hN:=mO (λk=>decide (8*j+k<l.length*w)&&fo l w (8*j+k)) 8;have hN2:eN (λk=>decide (8*j+k<l.length*w)&&fo l w (8*j+k)) 8/2^k≤eN (λk=>decide (8*j+k<l.length*w)&&fo l w (8*j+k)) 8:=Zk _ _;have hN3:=EU (eN (λk=>decide (8*j+k<l.length*w)&&fo l w (8*j+k)) 8) k;have hbk:=mh (λk=>decide (8*j+k<l.length*w)&&fo l w (8*j+k)) 8 k;have hk8:k<8:=by omega
   by_cases hp:8*j+k<l.length*w
   ·rw [if_pos (by simpa using by omega),ay (by rw [hlen];exact hp),Z0]
    have hg:(oh l w (l.length*w))[8*j+k]'(by rw[hlen];exact hp)=(((eN (λk=>decide (8*j+k<l.length*w)&&fo l w (8*j+k)) 8).testBit k).toNat:Int):=by
     rw[hbk];simp[oh,hp,hk8]
    rw[hg,bm,bm];congr 3;omega
   ·rw [if_neg (by simpa using by omega)]
    have hg:(eN (λk=>decide (8*j+k<l.length*w)&&fo l w (8*j+k)) 8).testBit k=false:=by
     rw[hbk];simp[hp]
    rw[hg] at hN3 ⊢;rw[bm];simp only[Bool.toNat_false,Nat.add_zero] at hN3 ⊢;congr 3;omega
  ·dsimp only
   unfold rR wt wq;rw[if_neg (by decide),aH (by simp;omega),Z0];have h1:j<(cN l w).length:=by omega
   rw[Z9 h1];have h2:(cN l w)[j]=((eN (λk=>decide (8*j+k<l.length*w)&&fo l w (8*j+k)) 8:Nat):Int):=mj _ _ _ _ _;have e9:((8*j:Nat):Int)+8=((8*(j+1):Nat):Int):=by omega
   rw[h2,ak (by omega),e9];simp
 ·dsimp only
  unfold rS wo;rw[hlen,if_neg (by simp;omega)];rw[Zy (by unfold cN;rw[fM];omega)];rfl
theorem vI {l:List Int}{w:Nat}(hu:U64 l)(hl:l.length<1048576)(hw:w≤64):s4 l (w:Int)=some (cN l w):=by
 have hlw:l.length*w≤1048576*64:=Zg (by omega) hw;unfold s4;refine aV (λi=>(oh l w (i*w),(i:Int))) l.length (by simp[oh]) (λi hi=>?_) ?_
 ·dsimp only
  unfold rV;have hx:=hu l[i] (Zj hi);have hi1:(i+1)*w≤l.length*w:=Zf _ hi;rw[Zt] at hi1;rw[if_pos (by simpa using hi),ay hi,Z0];refine aV (λk=>(oh l w (i*w+k),((l[i].toNat/2^k:Nat):Int),(k:Int))) w ?_ (λk hk=>?_) ?_
  ·simp;omega
  ·dsimp only
   unfold rU;obtain⟨h1,h2⟩:=yN l w i k hi hk;have h3:l[i].toNat/2^k≤l[i].toNat:=Zk _ _;have h4:l[i].toNat/2^(k+1)=l[i].toNat/2^k/2:=by rw[Zn,Zc]
   have h5:(((l[i].toNat/2^k:Nat):Int)).tmod 2=((fo l w (i*w+k)).toNat:Int):=by
    rw[h2,←AU,Nat.and_one_is_mod,Zs (Zi _)];rfl
   rw[if_pos (by simpa using hk),h5,bm];have h6:((fo l w (i*w+k)).toNat:Int)%256=((fo l w (i*w+k)).toNat:Int):=by cases fo l w (i*w+k)<;>rfl
   rw[h6,aH (by simp[oh];omega),Z0,←Nat.add_assoc,FX,aU (by omega),bD,Ze (Zi _),h4];congr 4;generalize l[i].toNat/2^k=q at*;omega
  ·dsimp only
   unfold rU wu;rw[if_neg (by simp),aU (by omega)];simp[Zt]
 ·dsimp only
  unfold rV;rw[if_neg (by simp),yO l hl hw];rfl
def wid (n:Nat):Nat:=if n=0 then 0 else n.log2+1
theorem Do (n:Nat):n<2^wid n:=by
 unfold wid;split
 ·omega
 ·exact Nat.lt_log2_self
theorem Jf {n:Nat}(h:n≠0):wid n=wid (n/2)+1:=by
 unfold wid;rw[if_neg h]
 by_cases h1:n/2=0
 ·have:n=1:=by omega
  subst this;rfl
 ·rw[if_neg h1,Nat.log2_def,if_pos (by omega)]
theorem wM {n k:Nat}(h:2^k≤n):wid n=wid (n/2^k)+k:=by
 induction k generalizing n with
 |zero=>simp
 |succ k ih=>
  rw[Zn] at h;have:0<2^k:=Nat.pow_pos (by decide);rw[Jf (n:=n) (by omega),ih (n:=n/2) (by omega),Zn,X4 (2^k) 2,←Zc];omega
theorem pg {n w:Nat}(h:n<2^w):wid n≤w:=by
 unfold wid;split
 ·omega
 ·rename_i h0
  have:=Nat.log2_lt h0 |>.2 h
  omega
theorem Dp {n:Nat}(h:n<18446744073709551616):uT (n:Int)=some ((wid n:Nat):Int):=by
 unfold uT;have h64:wid n≤64:=pg (by simpa using h);refine aV (λi=>(((n/2^i:Nat):Int),(i:Int))) (wid n) (by simp) (λi hi=>?_) ?_
 ·dsimp only
  unfold tN
  have h0:0<n/2^i:=by
   rcases Nat.eq_zero_or_pos (n/2^i) with h1|h1
   ·have:n<2^i:=by
     have:=Nat.div_eq_zero_iff.1 h1;have h2:0<2^i:=Nat.pow_pos (by decide);omega
    have:=pg this;omega
   ·exact h1
  have h3:n/2^i≤n:=Zk _ _;have h4:n/2^(i+1)=n/2^i/2:=by rw[Zn,Zc]
  generalize n/2^i=q at*;rw[if_pos (decide_eq_true (by omega)),Ze (Zi _),bD,aU (by omega),h4];congr 3;omega
 ·dsimp only
  unfold tN ya;have:n/2^wid n=0:=Zw (Do n);rw[this,if_neg (by decide)];rfl
def Jg:List Int:=[0,1,2,2,3,3,3,3,4,4,4,4,4,4,4,4,5,5,5,5,5,5,5,5,5,5,5,5,5,5,5,5,6,6,6,6,6,6,6,6,6,6,6,6,6,6,6,6,6,6,6,6,6,6,6,6,6,6,6,6,6,6,6,6,7,7,7,7,7,7,7,7,7,7,7,7,7,7,7,7,7,7,7,7,7,7,7,7,7,7,7,7,7,7,7,7,7,7,7,7,7,7,7,7,7,7,7,7,7,7,7,7,7,7,7,7,7,7,7,7,7,7,7,7,7,7,7,7,8,8,8,8,8,8,8,8,8,8,8,8,8,8,8,8,8,8,8,8,8,8,8,8,8,8,8,8,8,8,8,8,8,8,8,8,8,8,8,8,8,8,8,8,8,8,8,8,8,8,8,8,8,8,8,8,8,8,8,8,8,8,8,8,8,8,8,8,8,8,8,8,8,8,8,8,8,8,8,8,8,8,8,8,8,8,8,8,8,8,8,8,8,8,8,8,8,8,8,8,8,8,8,8,8,8,8,8,8,8,8,8,8,8,8,8,8,8,8,8,8,8,8,8,8,8,8,8]
theorem KW:∀n:_root_.Fin 256,idx Jg ((n.val:Nat):Int)=some ((wid n.val:Nat):Int):=by decide+kernel
set_option maxRecDepth 100000 in
theorem Dq (x y:Int):nR x y=(idx Jg (Z3.wrap x)).bind λr=>some (Jj.wrap (y+Jj.wrap r)):=rfl
theorem Dr {n k:Nat}(h:n<256)(hk:k≤56):nR (n:Int) (k:Int)=some ((wid n+k:Nat):Int):=by
 have h1:idx Jg (n:Int)=some ((wid n:Nat):Int):=KW ⟨n,h⟩;have hw:wid n≤8:=pg (by simpa using h);rw[Dq,bm,show((n:Int)%256)=(n:Int) by omega,h1,Z0,ak (n:=((wid n:Nat):Int)) (by omega),ak (by omega)];congr 1;omega
theorem Ds {n k:Nat}(h:n<65536)(hk:k≤48):nS (n:Int) (k:Int)=some ((wid n+k:Nat):Int):=by
 unfold nS
 by_cases h1:256≤n
 ·rw [if_pos (by simpa using by omega)]
  have e:aF .u64 (n:Int) 8=((n/2^8:Nat):Int):=by have:=qm (x:=(n:Int)) (k:=8) (by omega);simpa using this
  have e2:Jj.wrap ((k:Int)+8)=((k+8:Nat):Int):=by rw[ak (by omega)];rfl
  rw[e,e2,Dr (by omega) (by omega),wM (n:=n) (k:=8) (by omega)];congr 2;omega
 ·rw[if_neg (by simpa using by omega),Dr (by omega) (by omega)]
theorem Dt {n k:Nat}(h:n<4294967296)(hk:k≤32):nU (n:Int) (k:Int)=some ((wid n+k:Nat):Int):=by
 unfold nU
 by_cases h1:65536≤n
 ·rw [if_pos (by simpa using by omega)]
  have e:aF .u64 (n:Int) 16=((n/2^16:Nat):Int):=by have:=qm (x:=(n:Int)) (k:=16) (by omega);simpa using this
  have e2:Jj.wrap ((k:Int)+16)=((k+16:Nat):Int):=by rw[ak (by omega)];rfl
  rw[e,e2,Ds (by omega) (by omega),wM (n:=n) (k:=16) (by omega)];congr 2;omega
 ·rw[if_neg (by simpa using by omega),Ds (by omega) (by omega)]
theorem Du {n:Nat}(h:n<18446744073709551616):oX (n:Int)=some ((wid n:Nat):Int):=by
 unfold oX
 by_cases h1:4294967296≤n
 ·rw [if_pos (by simpa using by omega)]
  have e:aF .u64 (n:Int) 32=((n/2^32:Nat):Int):=by have:=qm (x:=(n:Int)) (k:=32) (by omega);simpa using this
  rw[e,show(32:Int)=((32:Nat):Int) from rfl,Dt (by omega) (by omega),wM (n:=n) (k:=32) (by omega)]
 ·rw [if_neg (by simpa using by omega),show (0:Int)=((0:Nat):Int) from rfl,Dt (by omega) (by omega)]
  rfl
theorem len_eq {n:Nat}(h:n<18446744073709551616):pL (n:Int)=some ((wid n:Nat):Int):=by
 unfold pL;rw[Du h];rfl
end Go.Proofs.YthbonoagbeilkaaGreat.Hay
