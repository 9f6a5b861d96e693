import Derived.Test.YthbonoagbeilkaaGreatExI
import Derived.Test.YthbonoagbeilkaaGreatHbM
set_option linter.unusedVariables false
set_option linter.unusedSimpArgs false
namespace Go.Proofs.YthbonoagbeilkaaGreat.Hay
open Option renaming bind_some→Z1
open List renaming replicate→Z3,getD_eq_getElem?_getD→Z5,getElem?_eq_getElem→Z7,take_succ_eq_append_getElem→Za,getElem_mem→Zk,ext_getElem→Zs,drop_eq_getElem_cons→Zv,range→Zw,take_of_length_le→Zz,length_cons→X3,mem_cons→X4
open Nat renaming pow_le_pow_right→Zc,div_div_eq_div_mul→Zd,le_of_ble_eq_true→Ze,mul_le_mul_right→Zg,mul_le_mul→Zh,testBit_eq_decide_div_mod_eq→Zi,div_le_self→Zl,le_refl→Zn,pow_succ→Zo,eq_of_testBit_eq→Zp,two_pow_add_eq_or_of_lt→Zq,add_mul→Zu,div_eq_of_lt→Zx,mul_comm→X5
open Bool renaming false_eq_true→Zm
open Int renaming natCast_pow→Z6,eq_ofNat_of_zero_le→Z8,tdiv_eq_ediv_of_nonneg→Zf,natCast_nonneg→Zj,fdiv_eq_ediv_of_nonneg→Zr,tmod_eq_emod_of_nonneg→Zt
open BitVec renaming toNat_ofInt→Z9,ofInt→Zb
open IntKind renaming i64→Z0,u64→Z2,u8→Z4,u32→Zy
section
variable {G:Sg} {P:Program} {W0:Bse} {m:M} {z:Cz} {a:Act} {w:World} {Γ:Tab P G}
def Jq (Γ : Tab P G) (st : St G) (b t : Nat) : Option (AV G) :=
  match Γ.ty t,av? (st.op (.tmp b)) with
  | some I, some (.blk i) => (match eM st.L i with
    |some (.dat c x)=>if c=I.T then some (.dat c x none) else none
    |_=>none)
  |_,_=>none
def p9 (Γ : Tab P G) (n : Nat) : Nat → List ResultVar → St G → Option (List Nat × St G)
  |_,[],st=>some ([],st)
  | k, .tmp t :: r, st => (match Nat.blt t n, p9 Γ n k r st with
    |true,some (ts,st')=>some (t::ts,st')
    |_,_=>none)
  | k, .cell b t :: r, st => (match Nat.blt b n, Jq Γ st b t with
    |true,some v=>(match p9 Γ n (k+1) r (st.put k (.one v)) with|some (ts,st')=>some (k::ts,st')|none=>none)
    |_,_=>none)
def zK (Γ:Tab P G) (n:Nat) (ps:List Pm) (rs:List Rm) (res:List ResultVar) (st:St G):Option (bC G (gO ps rs)):=
  match p9 Γ n n res st with
  |some (ts,st')=>vI Γ ps rs ts st'
  |none=>none
noncomputable def exX (n:Nat) (Γ:Tab P G) (D:List (CS P G)) (c:Code) (ps:List Pm) (rs:List Rm) (res:List ResultVar) (A:An G (bC G (gO ps rs))) (x:dV G ps):Option (bC G (gO ps rs)):=
  ex n Γ D c A (zJ G ps x) (zK Γ n ps rs res) (fun _ _=>none) (zK Γ n ps rs res)
theorem rj {xs:Array Value} {v:Value} {t:Nat} (h:t≠xs.size):(xs.push v).getD t undef=xs.getD t undef:=by
  simp only [Array.getD_eq_getD_getElem?,Array.getElem?_push];rw [if_neg h]
theorem vJ {xs:Array Value} {v:Value}:(xs.push v).getD xs.size undef=v:=by
  simp [Array.getD_eq_getD_getElem?,Array.getElem?_push]
theorem Ix {n : Nat} {L0 : Rs} {T0 : List (Nat × Value)} {m0 : M} : ∀ {res : List ResultVar} {k : Nat} {st : St G} {a' : Act} {ts : List Nat} {st' : St G}, Sat G P [] k W0 L0 T0 m0 st a' w → n ≤ k → (∀ t, t < n → a'.tmps.getD t undef = a.tmps.getD t undef) → p9 Γ n k res st = some (ts, st') →
    ∃(k':Nat) (a'':Act),Sat G P [] k' W0 L0 T0 m0 st' a'' w∧(∀t,t<k→a''.tmps.getD t undef=a'.tmps.getD t undef)∧re P a w res (ts.map fun t=>a''.tmps.getD t undef):=by
  intro res
  induction res with
  | nil =>
    intro k st a' ts st' hs hk ha h;unfold p9 at h;obtain ⟨rfl,rfl⟩:=Prod.mk.inj (Option.some.inj h);exact ⟨k,a',hs,fun _ _=>rfl,.nil⟩
  | cons r res ih =>
    intro k st a' ts st' hs hk ha h;cases r with
    | tmp t =>
      unfold p9 at h;split at h
      · rename_i ts0 st0 ht h0
        obtain ⟨rfl,rfl⟩:=Prod.mk.inj (Option.some.inj h);have ht:t<n:=Ze ht;obtain ⟨k',a'',h1,h2,h3⟩:=ih hs hk ha h0;refine ⟨k',a'',h1,h2,.cons ?_ h3⟩;simp only;rw [←ha t ht, ←h2 t (Nat.lt_of_lt_of_le ht hk)]
        rfl
      · cases h
    | cell b t =>
      unfold p9 at h;split at h
      · rename_i v hb hv
        have hb:b<n:=Ze hb;cases hq:p9 Γ n (k+1) res (st.put k (.one v)) with
        |none=>rw [hq] at h;cases h
        | some q =>
          rw [hq] at h;obtain ⟨ts0,st0⟩:=q;obtain ⟨rfl,rfl⟩:=Prod.mk.inj (Option.some.inj h);unfold Jq at hv;split at hv
          · rename_i I i hI hi
            split at hv
            · rename_i c x hB
              split at hv
              · rename_i hc
                injection hv with hv
                subst hv;subst hc;obtain ⟨⟨m,z,h0,hr,hM⟩,hdf,hsz⟩:=hs;obtain ⟨p',hp1,hp2⟩:=bm (eS hr) hi;obtain ⟨L,TL,p,cs,j,hS,g1,g2,g3⟩:=hM.get hB;rw [g1] at hp1;injection hp1 with hp1
                subst hp1;have hRV:RV (I.T.kd G) m ((I.T.kd G).val cs) x:=DU g3
                have hs':Sat G P [] (k+1) W0 L0 T0 m0 (st.put k (.one (.dat I.T x none))) { a' with tmps:=a'.tmps.push ((I.T.kd G).val cs) } w:=by
                  refine ⟨⟨m,z,h0,?_,hM⟩,hdf,by simp [hsz]⟩;intro e he;rcases X4.1 he with rfl|he
                  · simp only
                    rw [←hsz,vJ];exact ⟨hRV,trivial⟩
                  · obtain ⟨q1, q2⟩ := k9 he
                    have:=hr e q1;simp only;rw [rj (by rw [hsz];exact q2)];exact this
                obtain ⟨k',a'',h1,h2,h3⟩:=ih hs' (by omega) (fun t ht=>by
                  simp only;rw [rj (by rw [hsz];omega)]
                  exact ha t ht) hq
                refine ⟨k',a'',h1,fun t ht=> ?_,.cons ?_ h3⟩
                · rw [h2 t (by omega)]
                  simp only;rw [rj (by rw [hsz];omega)]
                · have e1 : a''.tmps.getD k undef = (I.T.kd G).val cs := by
                    rw [h2 k (by omega)];simp only;rw [←hsz,vJ]
                  have e2:a.tmps.getD b undef= .pointer (some ⟨p.1,0,none⟩):=by
                    rw [←ha b hb];exact hp2
                  simp only;rw [e1,e2]
                  have hA:At w p.1 0 cs:=by
                    have:=hS.atL g2 (o:=0) (cs':=cs) (by simp) (by rw [(I.T.kd G).len g3];exact (I.T.kd G).pos);exact this
                  simp [asAddr,iL I.ok g3 hA]
              · cases hv
            · cases hv
          · cases hv
      · cases h
theorem Eb {n : Nat} {fn : Func} {ps : List Pm} {rs : List Rm} {res : List ResultVar} {st : St G} {L : List (Nat × List Value)} {TL : List (Nat × Value)} {vs : List Value} {x : dV G ps} {Lp : List (Nat × List Value)} {Tp : List (Nat × Value)} {m0 : M} {r : bC G (gO ps rs)}
    (hres:fn.results.toList=res) (hP:jE G P m0 ps vs x Lp Tp) (hnl:(nmA ps vs Lp).length=cnt ps) (hs0:Sat G P [] n W0 ⟨L,nmA ps vs Lp⟩ TL m0 st a w) (h:zK Γ n ps rs res st=some r):
    Fin P fn (fun v w'=> ∃(m':M) (us:List Value) (Lr Lp':List (Nat×List Value)) (Tr:List (Nat×Value)),M.le m0 m'∧S W0 m' w' (Lr++(Lp'++L)) (Tr++TL)∧v=tup us∧mA G m' (ps.filterMap Pm.out) rs us r Lr Tr∧ig G m' ps vs (rest G (ps.filterMap Pm.out) rs r) Lp Lp') a w:=by
  unfold zK at h;split at h
  · rename_i ts st9 hcells
    obtain ⟨k',a9,hs,_,hRL⟩:=Ix (a:=a) hs0 (Zn n) (fun _ _=>rfl) hcells;obtain ⟨l0,hE0,_⟩:=dU hs0.df hs0.sz [];obtain ⟨⟨m,z,h0,hr,Lc,Tc,h1,h2,hS,hsf⟩,hdf,hsz⟩:=hs;unfold vI at h;obtain ⟨m1,hm1,hF,_,_⟩:=xT (G:=G) (P:=P) (L0:=⟨L,nmA ps vs Lp⟩) (T0:=TL) (ps:=rs.map Rm.pm) (xs:=ts.map Operand.tmp) (st:=st9) (m:=m) (z:=z) ⟨hr,Lc,Tc,h1,h2,hS,hsf⟩;split at h
    · rename_i y st2 bk he
      split at h
      · rename_i o hc ho
        injection h with h
        subst h;obtain ⟨z',Lr,Tr,hz,⟨_,Lc2,Tc2,k1,k2,hS2,hsf2⟩,hPR,_⟩:=xU hF he;have hlen:=k1.len;have hc:=Ze hc;obtain ⟨pre,hpre⟩:=hsf2;simp only at hpre
        have hpl:pre.length=st2.L.length - cnt ps:=by
          have:=congrArg List.length hpre;rw [List.length_append,hlen.1,hnl] at this;omega
        have hdz:z'.b.drop (st2.L.length - cnt ps)=nmA ps vs Lp:=by rw [hpre, ←hpl,List.drop_left]
        have kd:=k1.drop (st2.L.length - cnt ps);rw [hdz] at kd;have hO:=Ea hP ho (by simp;omega) kd;obtain ⟨j1,j2⟩:=D9 (os:=ps.filterMap Pm.out) (o:=o) hPR
        have hus:(ts.map Operand.tmp).map a9.eval=ts.map fun t=>a9.tmps.getD t undef:=by
          simp only [List.map_map,Function.comp_def];rfl
        refine Fin.mk hE0 hres hRL ⟨m1,_,Lr,Lc2.drop (st2.L.length - cnt ps),Tr,h0.trans hm1,?_,rfl,?_,?_⟩
        · exact (S.between hS2 _ (by omega)).betweenT
        · rw [←hus];exact j1
        · rw [j2];exact hO
      · cases h
    · cases h
  · cases h
theorem Ctr.ofX {f : FuncId} {fn : Func} {c : Code} {n : Nat} {ps : List Pm} {rs : List Rm} {res : List ResultVar} {D : List (CS P G)} {g : dV G ps → Option (bC G (gO ps rs))} (A : An G (bC G (gO ps rs)))
    (hmx:P.follows .mixedOrders=true) (hf:P.funcs[f]? =some fn) (hb:fn.body=some c) (hn:fn.ntmps=n) (hle:Nat.ble ps.length n=true) (hres:fn.results.toList=res)
    (hO:Obl (cnt ps) n Γ D c A 0 (zK Γ n ps rs res) (fun _ _=>none) (zK Γ n ps rs res)) (h: ∀x,exX n Γ D c ps rs res A x=g x):Ctr G P f ps rs g:=by
  intro W0 m w L TL vs x r Lp Tp hS hP hg;rw [←h x] at hg;have hlen:vs.length=ps.length:=(yQ (a:={ tmps:=vs.toArray,defers:=[] }) (i:=0) hP (fun j v hj=>by simp [hj])).choose_spec.2.2.2.1;refine yB hf hb hn (by rw [hlen];exact Ze hle) fun a hE=> ?_
  have hargs: ∀j v,vs[j]? =some v→a.tmps.getD (0+j) undef=v:=by
    intro j v hj;rw [Nat.zero_add];refine hE.at_ j v ?_
    have key: ∀(l:List Value) (k:Nat) (j:Nat) (v:Value),l[j]? =some v→lk ((List.range' k l.length).zip l) (k+j)=some v:=by
      intro l
      induction l with
      |nil=>intro k j v h;simp at h
      | cons u l ih =>
        intro k j v h;simp only [X3,List.range'_succ,List.zip_cons_cons,lk];cases j with
        |zero=>simp at h;subst h;simp
        | succ j =>
          have hb:Nat.beq k (k+(j+1))=false:=by
            cases hb:Nat.beq k (k+(j+1)) with
            |false=>rfl
            |true=>have:=Nat.eq_of_beq_eq_true hb;omega
          simp only [hb];have:=ih (k+1) j v (by simpa using h);rw [show k+1+j=k+(j+1) by omega] at this;exact this
    have:=key vs 0 j v hj;rw [List.range_eq_range'];simpa using this
  obtain ⟨zt,k1,k2,k3,_,k5⟩:=yQ (a:=a) (i:=0) hP hargs;have hs:Sat G P [] n W0 ⟨L,nmA ps vs Lp⟩ TL m (zJ G ps x) a w:=⟨⟨m,⟨nmA ps vs Lp,zt⟩,M.le.refl m,k1,Lp,Tp,k2,k3,hS,⟨[],rfl⟩⟩,hE.defers,hE.size⟩
  refine CB (np:=cnt ps) (L0:=⟨L,nmA ps vs Lp⟩) (by rw [k5];exact Zn _) hmx c A (zJ G ps x) _ _ _ r a w _ _ _ hg hO hs ?_ ?_ ?_
  · intro st' a' w' h1 h2 _ _;exact Eb hres hP k5 h2 h1
  · intro j st' a' w' h1;cases h1
  · intro st' a' w' h1 h2 _ _;exact Eb hres hP k5 h2 h1
theorem Ctr.nX {Γ:Tab P G} {f:FuncId} {fn:Func} {c:Code} {n:Nat} {ps:List Pm} {rs:List Rm} {res:List ResultVar} {D:List (CS P G)} {g:dV G ps→Option (bC G (gO ps rs))} (A:An G (bC G (gO ps rs)))
    (hA:A.nc=true) (hmx:P.follows .mixedOrders=true) (hf:P.funcs[f]? =some fn) (hb:fn.body=some c) (hn:fn.ntmps=n) (hle:Nat.ble ps.length n=true) (hres:fn.results.toList=res)
    (h: ∀x,exX n Γ D c ps rs res A x=g x):Ctr G P f ps rs g:=
  Ctr.ofX A hmx hf hb hn hle hres (Obl.nc _ _ _ _ c A 0 _ _ _ hA) h
end
set_option linter.unusedVariables false
section
variable {G:Sg} {P:Program} {m:M} {os:List Ty} {ps:List Pm} {rs:List Rm} {vs us:List Value} {Lp Lp' Lr:List (Nat×List Value)} {Tp Tr:List (Nat×Value)}
theorem kP {x:dV G []} (h:jE G P m [] vs x Lp Tp):vs=[]∧Lp=[]∧Tp=[]:=by
 cases vs<;>cases Lp<;>cases Tp<;>first|exact ⟨rfl,rfl,rfl⟩|exact h.elim
theorem hU {t:Ty} {x:dV G (.rd t::ps)} (h:jE G P m (.rd t::ps) vs x Lp Tp): ∃v vs',vs=v::vs'∧RV (t.kd G) m v x.1∧jE G P m ps vs' x.2 Lp Tp:=by
 cases vs with
 |nil=>cases Lp<;>cases Tp<;>exact h.elim
 |cons v vs=>exact ⟨v,vs,rfl,h.1,h.2⟩
theorem PC {t:Ty} {x:dV G (.ap t::ps)} (h:jE G P m (.ap t::ps) vs x Lp Tp): ∃v vs' Tp',vs=v::vs'∧Tp=((t.kd G).sz,v)::Tp'∧RV (kSl (t.kd G)) m v x.1∧jE G P m ps vs' x.2 Lp Tp':=by
 cases vs with
 |nil=>cases Lp<;>cases Tp<;>exact h.elim
 |cons v vs=>
  cases Tp with
  |nil=>cases Lp<;>exact h.elim
  |cons e Tp=>obtain ⟨h1,rfl,h2⟩:=h;exact ⟨v,vs,Tp,rfl,rfl,h1,h2⟩
theorem PD {t:Ty} {x:dV G (.pt t::ps)} (h:jE G P m (.pt t::ps) vs x Lp Tp): ∃b cs vs' Lp',vs= .pointer (some ⟨b,0,none⟩)::vs'∧Lp=(b,cs)::Lp'∧(t.kd G).R m cs x.1∧jE G P m ps vs' x.2 Lp' Tp:=by
 cases vs with
 |nil=>cases Lp<;>cases Tp<;>exact h.elim
 |cons v vs=>
  cases Lp with
  |nil=>cases Tp<;>exact h.elim
  |cons e Lp=>obtain ⟨h1,rfl,h2⟩:=h;exact ⟨e.1,e.2,vs,Lp,rfl,rfl,h1,h2⟩
theorem cz {x:bC G (([]:List Rm).map Rm.ty++os)} (h:mA G m os [] us x Lr Tr):us=[]∧Lr=[]∧Tr=[]:=by
 cases us<;>cases Lr<;>cases Tr<;>first|exact ⟨rfl,rfl,rfl⟩|exact h.elim
theorem dn {t:Ty} {x:bC G ((Rm.rd t::rs).map Rm.ty++os)} (h:mA G m os (.rd t::rs) us x Lr Tr): ∃v us',us=v::us'∧RV (t.kd G) m v (hdT G t (rs.map Rm.ty++os) x)∧mA G m os rs us' (tlT G t (rs.map Rm.ty++os) x) Lr Tr:=by
 cases us with
 |nil=>cases Lr<;>cases Tr<;>exact h.elim
 |cons v us=>exact ⟨v,us,rfl,h.1,h.2⟩
theorem uq {t:Ty} {x:bC G ((Rm.ap t::rs).map Rm.ty++os)} (h:mA G m os (.ap t::rs) us x Lr Tr): ∃v us' Tr',us=v::us'∧Tr=((t.kd G).sz,v)::Tr'∧RV (kSl (t.kd G)) m v (hdT G (.sl t) (rs.map Rm.ty++os) x)∧mA G m os rs us' (tlT G (.sl t) (rs.map Rm.ty++os) x) Lr Tr':=by
 cases us with
 |nil=>cases Lr<;>cases Tr<;>exact h.elim
 |cons v us=>
  cases Tr with
  |nil=>cases Lr<;>exact h.elim
  |cons e Tr=>obtain ⟨h1,rfl,h2⟩:=h;exact ⟨v,us,Tr,rfl,rfl,h1,h2⟩
theorem cA {x:bC G (([]:List Pm).filterMap Pm.out)} (h:ig G m [] vs x Lp Lp'):Lp'=[]:=by
 cases vs<;>cases Lp<;>cases Lp'<;>first|rfl|exact h.elim
theorem bQ {t:Ty} {v:Value} {x:bC G ((Pm.rd t::ps).filterMap Pm.out)} (h:ig G m (.rd t::ps) (v::vs) x Lp Lp'):ig G m ps vs x Lp Lp':=h
theorem Jr {t:Ty} {v:Value} {x:bC G ((Pm.ap t::ps).filterMap Pm.out)} (h:ig G m (.ap t::ps) (v::vs) x Lp Lp'):ig G m ps vs x Lp Lp':=h
theorem Js {a b:Ty} {v:Value} {x:bC G ((Pm.f1 a b::ps).filterMap Pm.out)} (h:ig G m (.f1 a b::ps) (v::vs) x Lp Lp'):ig G m ps vs x Lp Lp':=h
theorem E8 {a c b:Ty} {v:Value} {x:bC G ((Pm.f2 a c b::ps).filterMap Pm.out)} (h:ig G m (.f2 a c b::ps) (v::vs) x Lp Lp'):ig G m ps vs x Lp Lp':=h
theorem PE {t:Ty} {v:Value} {b:Nat} {cs:List Value} {x:bC G ((Pm.pt t::ps).filterMap Pm.out)} (h:ig G m (.pt t::ps) (v::vs) x ((b,cs)::Lp) Lp'): ∃cs' Lp'',Lp'=(b,cs')::Lp''∧(t.kd G).R m cs' (hdT G t (ps.filterMap Pm.out) x)∧ig G m ps vs (tlT G t (ps.filterMap Pm.out) x) Lp Lp'':=by
 cases Lp' with
 |nil=>exact h.elim
 |cons e Lp'=>obtain ⟨b',cs'⟩:=e;obtain ⟨h0,h1,h2⟩:=h;simp only at h0;subst h0;exact ⟨cs',Lp',rfl,h1,h2⟩
end
set_option linter.unusedVariables false
noncomputable section
structure Ap where
 fKind:Int
 fBool:Bool
 fInt:Int
 fText:(List Int)
 deriving DecidableEq
def Ap.zero:Ap:=⟨0,false,0,[]⟩
structure aS where
 fMany:Int
 fValue:Ap
 deriving DecidableEq
def aS.zero:aS:=⟨0,Ap.zero⟩
structure bI where
 fKind:Int
 fMany:Int
 fMin:Ap
 fMax:Ap
 fNulls:Int
 fBytes:Int
 deriving DecidableEq
def bI.zero:bI:=⟨0,0,Ap.zero,Ap.zero,0,0⟩
structure dT where
 fMany:Int
 fValue:Ap
 deriving DecidableEq
def dT.zero:dT:=⟨0,Ap.zero⟩
structure dm where
 fKind:Int
 fMany:Int
 fMin:Ap
 fMax:Ap
 fNulls:Int
 fBytes:Int
 deriving DecidableEq
def dm.zero:dm:=⟨0,0,Ap.zero,Ap.zero,0,0⟩
structure ai where
 fB:(List Int)
 fOk:Bool
 deriving DecidableEq
def ai.zero:ai:=⟨[],false⟩
structure aK where
 fEpoch:Int
 fNumber:Int
 deriving DecidableEq
def aK.zero:aK:=⟨0,0⟩
structure aa where
 fId:aK
 fRow:(List Ap)
 fDeleted:Int
 deriving DecidableEq
def aa.zero:aa:=⟨aK.zero,[],0⟩
structure aH where
 fColumns:Int
 fSort:(List Int)
 fL:(List aa)
 deriving DecidableEq
def aH.zero:aH:=⟨0,[],[]⟩
structure da where
 fColumns:Int
 fSort:(List Int)
 fKinds:(List Int)
 fL:(List aa)
 deriving DecidableEq
def da.zero:da:=⟨0,[],[],[]⟩
structure Ec where
 fColumns:Int
 fSort:(List Int)
 fL:(List aa)
 deriving DecidableEq
def Ec.zero:Ec:=⟨0,[],[]⟩
def w9 (p0:List Ap):Option (List Ap):=
 (app 3518437208883 ([]) p0).bind fun z7=>
 some z7
def lC:Option Int:=
 some (-1)
def d7 (p0:List Ap) (p1:(Ap→Option Bool)) (x11:Int):Option (Int⊕Int):=
 if decide (x11<(p0.length:Int)) then
  (idx p0 x11).bind fun x22=>
  (p1 x22).bind fun r28=>
  if r28 then
   (some x11).map Sum.inr
  else
   some (.inl (Z0.wrap (x11+1)))
 else
  (lC).map Sum.inr
def jG (p0:List Ap) (p1:(Ap→Option Bool)):Option Int:=
 aq (fun s:Int=>d7 p0 p1 s) 0
def d8 (p0:List Ap) (p1:(Ap→Option Bool)):Option Bool:=
 (jG p0 p1).bind fun r4=>
 some (decide (0≤r4))
def kp:Option Ap:=
 some (⟨0,false,0,[]⟩:Ap)
def oy (p0:Bool):Option Ap:=
 some (⟨1,p0,0,[]⟩:Ap)
def eo (p0:Int):Option Ap:=
 some (⟨2,false,p0,[]⟩:Ap)
def oz (p0:List Int):Option Ap:=
 some (⟨3,false,0,p0⟩:Ap)
def o9 (x129:Bool):Option Bool:=
 some x129
def lf (p0 : Ap) : Option Bool :=
 if p0.fKind==0 then
  (kp).bind fun r14=>
  some (decide (p0=r14))
 else
  if p0.fKind==1 then
   (oy p0.fBool).bind fun r46=>
   some (decide (p0=r46))
  else
   if p0.fKind==2 then
    (eo p0.fInt).bind fun r87=>
    some (decide (p0=r87))
   else
    if p0.fKind==3 then
     (oz p0.fText).bind fun r135=>
     if decide (p0=r135) then
      o9 (decide ((p0.fText.length:Int)≤64))
     else
      o9 false
    else
     some false
def eP (p0:Ap):Option Bool:=
 (lf p0).bind fun r8=>
 some (!r8)
def tQ (x9:List Int):Option (List Int×Bool):=
 some (x9,true)
def lZ (p0:List Ap) (x18:List Int) (x21:Int):Option ((List Int×Int)⊕(List Int×Bool)):=
 if decide (x21<(p0.length:Int)) then
  (idx p0 x21).bind fun x27=>
  if x27.fKind != 2 then
   (some ([],false)).map Sum.inr
  else
   (app 17592186044416 x18 ([x27.fInt])).bind fun z55=>
   some (.inl (z55,Z0.wrap (x21+1)))
 else
  (tQ x18).map Sum.inr
def mI (p0:List Ap):Option (List Int×Bool):=
 aq (fun s:(List Int×Int)=>lZ p0 s.1 s.2) ([],0)
def l5 (x8:List aS):Option (List aS):=
 some x8
def iF (x16:Int) (x29:List aS):Option ((Int×List aS)⊕List aS):=
 some (.inl (Z0.wrap (x16+1),x29))
def l6 (x16:Int) (x18:List aS) (x37:Ap):Option ((Int×List aS)⊕List aS):=
 (app 2932031007402 x18 ([(⟨1,x37⟩:aS)])).bind fun z63=>
 iF x16 z63
def gv (x16:Int) (x18:List aS) (x75:Int) (x85:Bool):Option (Int⊕((Int×List aS)⊕List aS)):=
 if x85 then
  (ix x18 x75).bind fun j90=>
  (x18[j90]?).bind fun x95=>
  (ix x18 x75).bind fun j100=>
  (x18[j100]?).bind fun x106=>
  (iF x16 (x18.set j100 ({ x106 with fMany:=Z0.wrap (x95.fMany+1) }))).map Sum.inr
 else
  some (.inl (Z0.wrap (x75+1)))
def eI (x16:Int) (x18:List aS) (x37:Ap) (x75:Int):Option (Int⊕((Int×List aS)⊕List aS)):=
 if decide (x75<(x18.length:Int)) then
  if x75==(Z0.wrap ((x18.length:Int) - 1)) then
   (ix x18 x75).bind fun j112=>
   (x18[j112]?).bind fun x115=>
   gv x16 x18 x75 (decide (x115.fValue=x37))
  else
   gv x16 x18 x75 false
 else
  (l6 x16 x18 x37).map Sum.inr
def jU (p0:List Ap) (x16:Int) (x18:List aS):Option ((Int×List aS)⊕List aS):=
 if decide (x16<(p0.length:Int)) then
  (idx p0 x16).bind fun x37=>
  aq (fun s:Int=>eI x16 x18 x37 s) 0
 else
  (l5 x18).map Sum.inr
def lg (p0:List Ap):Option (List aS):=
 aq (fun s:(Int×List aS)=>jU p0 s.1 s.2) (0,([]:List aS))
def xu (p0:List Ap):Option Bool:=
 some (decide ((p0.length:Int)≤16))
def pK (p0:List Ap) (x14:Int):Option (Int⊕Bool):=
 if decide (x14<(p0.length:Int)) then
  (idx p0 x14).bind fun x20=>
  (lf x20).bind fun r33=>
  if !r33 then
   (some false).map Sum.inr
  else
   some (.inl (Z0.wrap (x14+1)))
 else
  (xu p0).map Sum.inr
def rk (p0:List Ap):Option Bool:=
 aq (fun s:Int=>pK p0 s) 0
def nt (p0:List Int) (x7:List Int):Option (List Int):=
 (app 140737488355328 p0 x7).bind fun z13=>
 some z13
def kQ (p0:List Int) (p1:Int) (x22:Int) (x24:List Int):Option ((Int×List Int)⊕List Int):=
 if decide (x22<8) then
  (chk (decide (0≤(Z0.wrap (56 - (Z0.wrap (8*x22))))))).bind fun u38=>
  (ix x24 x22).bind fun j42=>
  (x24[j42]?).bind fun x47=>
  some (.inl (Z0.wrap (x22+1),(x24.set j42 (Z4.wrap (aA .u64 p1 (Z0.wrap (56 - (Z0.wrap (8*x22)))))))))
 else
  (nt p0 x24).map Sum.inr
def l7 (p0:List Int) (p1:Int):Option (List Int):=
 aq (fun s:(Int×List Int)=>kQ p0 p1 s.1 s.2) (0,(Z3 8 0:List Int))
def ur (p0 : List Int) (p1 : Ap) : Option (List Int) :=
 (app 140737488355328 p0 ([Z4.wrap p1.fKind])).bind fun z16=>
 if p1.fKind==1 then
  if p1.fBool then
   (app 140737488355328 z16 ([1])).bind fun z39=>
   some z39
  else
   (app 140737488355328 z16 ([0])).bind fun z51=>
   some z51
 else
  if p1.fKind==2 then
   (l7 z16 (Z2.wrap p1.fInt)).bind fun r67=>
   some r67
  else
   if p1.fKind==3 then
    (app 140737488355328 z16 ([Z4.wrap (p1.fText.length:Int)])).bind fun z89=>
    (app 140737488355328 z89 p1.fText).bind fun z102=>
    some z102
   else
    some z16
def tR (x27:List Int):Option (List Int×Int):=
 some (x27,0)
def pa (p0:List Ap) (x36:List Int) (x39:Int):Option ((List Int×Int)⊕(List Int×Int)):=
 if decide (x39<(p0.length:Int)) then
  (idx p0 x39).bind fun x45=>
  (ur x36 x45).bind fun r59=>
  some (.inl (r59,Z0.wrap (x39+1)))
 else
  (tR x36).map Sum.inr
def mJ (p0:List Ap):Option (List Int×Int):=
 (rk p0).bind fun r4=>
 if !r4 then
  some ([],30)
 else
  aq (fun s:(List Int×Int)=>pa p0 s.1 s.2) ([Z4.wrap (p0.length:Int)],0)
def kq (p0:Ap):Option (List Int):=
 (mJ ([p0])).bind fun r12=>
 (sub r12.1 1 r12.1.length).bind fun x28=>
 some x28
def tS (x14:List Int):Option (List Int):=
 some x14
def pc (r4:List aS) (x22:List Int) (x25:Int):Option ((List Int×Int)⊕List Int):=
 if decide (x25<(r4.length:Int)) then
  (idx r4 x25).bind fun x31=>
  (app 140737488355328 x22 ([Z4.wrap x31.fMany])).bind fun z52=>
  (kq x31.fValue).bind fun r63=>
  (app 140737488355328 z52 r63).bind fun z69=>
  some (.inl (z69,Z0.wrap (x25+1)))
 else
  (tS x22).map Sum.inr
def mK (p0:List Ap):Option (List Int):=
 (lg p0).bind fun r4=>
 aq (fun s:(List Int×Int)=>pc r4 s.1 s.2) ([],0)
def yS (x6:List Int):Option (List Int):=
 some x6
def fO (p0:Int) (x14:List Int) (x17:Int):Option ((List Int×Int)⊕List Int):=
 if decide (x17<8) then
  (chk (decide (0≤(Z0.wrap (56 - (Z0.wrap (8*x17))))))).bind fun u30=>
  (app 140737488355328 x14 ([Z4.wrap (aA .u64 p0 (Z0.wrap (56 - (Z0.wrap (8*x17)))))])).bind fun z38=>
  some (.inl (z38,Z0.wrap (x17+1)))
 else
  (yS x14).map Sum.inr
def lL (p0:Int):Option (List Int):=
 aq (fun s:(List Int×Int)=>fO p0 s.1 s.2) ([],0)
def sn (x27:List Int):Option (List Int):=
 some x27
def sq (x38:Int) (x46:List Int):Option ((List Int×Int)⊕List Int):=
 some (.inl (x46,Z0.wrap (x38+1)))
def sr (x38:Int) (x84:List Int) (x87:Int):Option ((List Int×Int)⊕List Int):=
 (app 140737488355328 x84 ([Z4.wrap x87])).bind fun z97=>
 sq x38 z97
def jq (x38:Int) (x106:List Int) (x109:Int):Option ((List Int×Int)⊕((List Int×Int)⊕List Int)):=
 if decide (127<x109) then
  (app 140737488355328 x106 ([bOr .u8 (Z4.wrap x109) 128])).bind fun z124=>
  some (.inl (z124,aA .u64 x109 7))
 else
  (sr x38 x106 x109).map Sum.inr
def oA (p0:List Int) (x19:List Int) (x35:List Int) (x38:Int):Option ((List Int×Int)⊕List Int):=
 if decide (x38<(x19.length:Int)) then
  (idx x19 x38).bind fun x53=>
  (idx p0 x38).bind fun x65=>
  aq (fun s:(List Int×Int)=>jq x38 s.1 s.2) (x35,dO .u64 (eh .u64 (Z2.wrap (Z0.wrap (x53 - x65))) 1) (Z2.wrap (aA .i64 (Z0.wrap (x53 - x65)) 63)))
 else
  (sn x35).map Sum.inr
def lM (p0:List Int):Option (List Int):=
 (idx p0 0).bind fun x3=>
 (lL (Z2.wrap x3)).bind fun r11=>
 (sub p0 1 p0.length).bind fun x19=>
 aq (fun s:(List Int×Int)=>oA p0 x19 s.1 s.2) (r11,0)
def gP (p0:List Ap):Option (List Ap):=
 (app 3518437208883 ([]) p0).bind fun z13=>
 some z13
def jV (p0:List Ap) (p1:(Ap→Ap→Option Int)):Option (List Ap):=
 wX p1 p0
def kR (p0:Int):Option Bool:=
 some (p0 != p0)
def hZ (p0 : Int) (p1 : Int) : Option Int :=
 (kR p0).bind fun r3=>
 (kR p1).bind fun r11=>
 if r3 then
  if r11 then
   some 0
  else
   some (-1)
 else
  if r11 then
   some 1
  else
   if decide (p0<p1) then
    some (-1)
   else
    if decide (p1<p0) then
     some 1
    else
     some 0
def jr (p0:Int):Option Bool:=
 some (p0 != p0)
def il (p0 : Int) (p1 : Int) : Option Int :=
 (jr p0).bind fun r3=>
 (jr p1).bind fun r11=>
 if r3 then
  if r11 then
   some 0
  else
   some (-1)
 else
  if r11 then
   some 1
  else
   if decide (p0<p1) then
    some (-1)
   else
    if decide (p1<p0) then
     some 1
    else
     some 0
def ek (p0:List Int) (p1:List Int):Option Int:=
 some (sX p0 p1)
def lD (p0:List Int) (p1:List Int):Option Int:=
 (ek p0 p1).bind fun r4=>
 some r4
def ff (p0 : Ap) (p1 : Ap) (x39 : Bool) : Option Int :=
 if x39 then
  if p1.fBool then
   some (-1)
  else
   some 1
 else
  if p0.fKind==2 then
   (il p0.fInt p1.fInt).bind fun r63=>
   some r63
  else
   if p0.fKind==3 then
    (lD p0.fText p1.fText).bind fun r88=>
    some r88
   else
    some 0
def cB (p0:Ap) (p1:Ap):Option Int:=
 if p0.fKind != p1.fKind then
  (hZ p0.fKind p1.fKind).bind fun r29=>
  some r29
 else
  if p0.fKind==1 then
   ff p0 p1 (!(p0.fBool==p1.fBool))
  else
   ff p0 p1 false
def nZ:Option Int:=
 some (-1)
def fp (p0:List Ap) (p1:Ap) (x15:Int):Option (Int⊕Int):=
 if decide (x15<(p0.length:Int)) then
  (idx p0 x15).bind fun x24=>
  if decide (p1=x24) then
   (some x15).map Sum.inr
  else
   some (.inl (Z0.wrap (x15+1)))
 else
  (nZ).map Sum.inr
def gQ (p0:List Ap) (p1:Ap):Option Int:=
 aq (fun s:Int=>fp p0 p1 s) 0
def u9 (x15:Int) (x17:Int):Option Int:=
 (idx ([0,1,2,2,3,3,3,3,4,4,4,4,4,4,4,4,5,5,5,5,5,5,5,5,5,5,5,5,5,5,5,5,6,6,6,6,6,6,6,6,6,6,6,6,6,6,6,6,6,6,6,6,6,6,6,6,6,6,6,6,6,6,6,6,7,7,7,7,7,7,7,7,7,7,7,7,7,7,7,7,7,7,7,7,7,7,7,7,7,7,7,7,7,7,7,7,7,7,7,7,7,7,7,7,7,7,7,7,7,7,7,7,7,7,7,7,7,7,7,7,7,7,7,7,7,7,7,7,8,8,8,8,8,8,8,8,8,8,8,8,8,8,8,8,8,8,8,8,8,8,8,8,8,8,8,8,8,8,8,8,8,8,8,8,8,8,8,8,8,8,8,8,8,8,8,8,8,8,8,8,8,8,8,8,8,8,8,8,8,8,8,8,8,8,8,8,8,8,8,8,8,8,8,8,8,8,8,8,8,8,8,8,8,8,8,8,8,8,8,8,8,8,8,8,8,8,8,8,8,8,8,8,8,8,8,8,8,8,8,8,8,8,8,8,8,8,8,8,8,8,8,8,8,8,8,8]) (Z4.wrap x15)).bind fun x23=>
 some (Z0.wrap (x17+(Z0.wrap x23)))
def va (x6:Int) (x8:Int):Option Int:=
 if decide (256≤x6) then
  u9 (aA .u32 x6 8) (Z0.wrap (x8+8))
 else
  u9 x6 x8
def E9 (p0:Int):Option Int:=
 if decide (65536≤p0) then
  va (aA .u32 p0 16) 16
 else
  va p0 0
def nv (x24:Int) (x26:Int):Option Int:=
 (idx ([0,1,2,2,3,3,3,3,4,4,4,4,4,4,4,4,5,5,5,5,5,5,5,5,5,5,5,5,5,5,5,5,6,6,6,6,6,6,6,6,6,6,6,6,6,6,6,6,6,6,6,6,6,6,6,6,6,6,6,6,6,6,6,6,7,7,7,7,7,7,7,7,7,7,7,7,7,7,7,7,7,7,7,7,7,7,7,7,7,7,7,7,7,7,7,7,7,7,7,7,7,7,7,7,7,7,7,7,7,7,7,7,7,7,7,7,7,7,7,7,7,7,7,7,7,7,7,7,8,8,8,8,8,8,8,8,8,8,8,8,8,8,8,8,8,8,8,8,8,8,8,8,8,8,8,8,8,8,8,8,8,8,8,8,8,8,8,8,8,8,8,8,8,8,8,8,8,8,8,8,8,8,8,8,8,8,8,8,8,8,8,8,8,8,8,8,8,8,8,8,8,8,8,8,8,8,8,8,8,8,8,8,8,8,8,8,8,8,8,8,8,8,8,8,8,8,8,8,8,8,8,8,8,8,8,8,8,8,8,8,8,8,8,8,8,8,8,8,8,8,8,8,8,8,8,8]) (Z4.wrap x24)).bind fun x32=>
 some (Z0.wrap (x26+(Z0.wrap x32)))
def nw (x15:Int) (x17:Int):Option Int:=
 if decide (256≤x15) then
  nv (aA .u64 x15 8) (Z0.wrap (x17+8))
 else
  nv x15 x17
def ny (x6:Int) (x8:Int):Option Int:=
 if decide (65536≤x6) then
  nw (aA .u64 x6 16) (Z0.wrap (x8+16))
 else
  nw x6 x8
def oB (p0:Int):Option Int:=
 if decide (4294967296≤p0) then
  ny (aA .u64 p0 32) 32
 else
  ny p0 0
def pd (p0:Int):Option Int:=
 (oB p0).bind fun r3=>
 some r3
def kr (x20:List Int):Option (List Int):=
 some x20
def kt (x28:Int) (x39:List Int):Option ((Int×List Int)⊕List Int):=
 some (.inl (Z0.wrap (x28+1),x39))
def iP (x59:Int) (x79:List Int):Option ((Int×List Int)⊕((Int×List Int)⊕List Int)):=
 some (.inl (Z0.wrap (x59+1),x79))
def iQ (p1:Int) (x28:Int) (x46:Int) (x59:Int) (x61:List Int):Option ((Int×List Int)⊕((Int×List Int)⊕List Int)):=
 if decide (x59<p1) then
  (chk (decide (0≤x59))).bind fun u72=>
  if (c9 .u64 (aA .u64 x46 x59) 1)==1 then
   (ix x61 (Z0.wrap ((Z0.wrap ((Z0.wrap (x28*p1))+x59)).tdiv 8))).bind fun j92=>
   (x61[j92]?).bind fun x95=>
   (chk (decide (0≤((Z0.wrap ((Z0.wrap (x28*p1))+x59)).tmod 8)))).bind fun u98=>
   (ix x61 (Z0.wrap ((Z0.wrap ((Z0.wrap (x28*p1))+x59)).tdiv 8))).bind fun j155=>
   (x61[j155]?).bind fun x160=>
   iP x59 (x61.set j155 (bOr .u8 x95 (eh .u8 1 ((Z0.wrap ((Z0.wrap (x28*p1))+x59)).tmod 8))))
  else
   iP x59 x61
 else
  (kt x28 x61).map Sum.inr
def iR (p0:List Int) (p1:Int) (x28:Int) (x30:List Int):Option ((Int×List Int)⊕List Int):=
 if decide (x28<(p0.length:Int)) then
  (idx p0 x28).bind fun x46=>
  aq (fun s:(Int×List Int)=>iQ p1 x28 x46 s.1 s.2) (0,x30)
 else
  (kr x30).map Sum.inr
def ii (p0:List Int) (p1:Int):Option (List Int):=
 (mk 281474976710656 (Z0.wrap ((Z0.wrap ((Z0.wrap ((p0.length:Int)*p1))+7)).tdiv 8)) 0).bind fun z8=>
 aq (fun s:(Int×List Int)=>iR p0 p1 s.1 s.2) (0,z8)
def fA (p0:List Ap):Option (List Ap):=
 some p0
def fC (x16:Int):Option (Int⊕List Ap):=
 some (.inl (Z0.wrap (x16+1)))
def fD (x100:Int) (x102:List Ap):Option (Int⊕List Ap):=
 (vw x102 x100 x102.length).bind fun q109=>
 (clr x102 q109.1 q109.2 Ap.zero).bind fun z114=>
 (sub z114 0 x100).bind fun x120=>
 (some x120).map Sum.inr
def dy (x128:Int) (x202:Int) (x204:List Ap):Option ((Int×Int×List Ap)⊕(Int⊕List Ap)):=
 some (.inl (x202,Z0.wrap (x128+1),x204))
def fE (q93:Nat×Nat) (x126:Int) (x128:Int) (x130:List Ap):Option ((Int×Int×List Ap)⊕(Int⊕List Ap)):=
 (chk (Nat.ble q93.2 cL)).bind fun u137=>
 if decide (x128<(q93.2:Int)) then
  (ixv q93.1 q93.2 x128).bind fun j142=>
  (x130[j142]?).bind fun x145=>
  (ixv q93.1 q93.2 (Z0.wrap (x128 - 1))).bind fun j147=>
  (x130[j147]?).bind fun x150=>
  if !decide (x145=x150) then
   (ixv q93.1 q93.2 x128).bind fun j216=>
   (x130[j216]?).bind fun x220=>
   (ix x130 x126).bind fun j223=>
   (x130[j223]?).bind fun x228=>
   dy x128 (Z0.wrap (x126+1)) (x130.set j223 x220)
  else
   dy x128 x126 x130
 else
  (fD x126 x130).map Sum.inr
def fF (p0:List Ap) (x16:Int):Option (Int⊕List Ap):=
 if decide (x16<(p0.length:Int)) then
  (ix p0 x16).bind fun j31=>
  (p0[j31]?).bind fun x34=>
  (ix p0 (Z0.wrap (x16 - 1))).bind fun j36=>
  (p0[j36]?).bind fun x39=>
  if decide (x34=x39) then
   (vw p0 x16 p0.length).bind fun q93=>
   aq (fun s:(Int×Int×List Ap)=>fE q93 s.1 s.2.1 s.2.2) (x16,1,p0)
  else
   fC x16
 else
  (fA p0).map Sum.inr
def dZ (p0:List Ap):Option (List Ap):=
 if decide ((p0.length:Int)<2) then
  some p0
 else
  aq (fun s:Int=>fF p0 s) 1
def iv (p0:List Ap):Option (List Ap):=
 (app 3518437208883 ([]:List Ap) p0).bind fun z16=>
 some z16
def l8 (r22:List Ap) (x48:List Int) (x58:List Int):Option (List Int):=
 (pd (Z2.wrap (Z0.wrap ((r22.length:Int) - 1)))).bind fun r68=>
 (ii x58 r68).bind fun r75=>
 (app 140737488355328 x48 r75).bind fun z81=>
 some z81
def iG (p0:List Ap) (r22:List Ap) (x48:List Int) (x90:List Int) (x93:Int):Option ((List Int×Int)⊕List Int):=
 if decide (x93<(p0.length:Int)) then
  (idx p0 x93).bind fun x99=>
  (gQ r22 x99).bind fun r114=>
  (app 17592186044416 x90 ([Z2.wrap r114])).bind fun z126=>
  some (.inl (z126,Z0.wrap (x93+1)))
 else
  (l8 r22 x48 x90).map Sum.inr
def l9 (p0:List Ap) (r22:List Ap) (x48:List Int):Option (List Int):=
 aq (fun s:(List Int×Int)=>iG p0 r22 x48 s.1 s.2) ([],0)
def jW (p0:List Ap) (r22:List Ap) (x137:List Int) (x140:Int):Option ((List Int×Int)⊕List Int):=
 if decide (x140<(r22.length:Int)) then
  (idx r22 x140).bind fun x146=>
  (kq x146).bind fun r160=>
  (app 140737488355328 x137 r160).bind fun z166=>
  some (.inl (z166,Z0.wrap (x140+1)))
 else
  (l9 p0 r22 x137).map Sum.inr
def mL (p0:List Ap):Option (List Int):=
 (iv p0).bind fun r3=>
 (jV r3 cB).bind fun r14=>
 (dZ r14).bind fun r22=>
 aq (fun s:(List Int×Int)=>jW p0 r22 s.1 s.2) ([Z4.wrap (r22.length:Int)],0)
def oY (x20:Int):Option Int:=
 some x20
def lu (p0:List Int) (x27:Int) (x29:Int):Option ((Int×Int)⊕Int):=
 if decide (x29<(p0.length:Int)) then
  (idx p0 x29).bind fun x41=>
  some (.inl ((if x41<x27 then x41 else x27),Z0.wrap (x29+1)))
 else
  (oY x27).map Sum.inr
def oZ (p0:List Int):Option Int:=
 (idx p0 0).bind fun x9=>
 aq (fun s:(Int×Int)=>lu p0 s.1 s.2) (x9,1)
def ku (p0:List Int):Option Int:=
 if decide ((p0.length:Int)<1) then
  none
 else
  oZ p0
def su (r3:Int) (x18:List Int) (x21:Int):Option (List Int):=
 (lL (Z2.wrap r3)).bind fun r26=>
 (app 140737488355328 r26 ([Z4.wrap x21])).bind fun z38=>
 (ii x18 x21).bind fun r46=>
 (app 140737488355328 z38 r46).bind fun z52=>
 some z52
def oC (p0:List Int) (r3:Int) (x61:List Int) (x64:Int) (x66:Int):Option ((List Int×Int×Int)⊕List Int):=
 if decide (x66<(p0.length:Int)) then
  (idx p0 x66).bind fun x72=>
  (app 17592186044416 x61 ([Z2.wrap ((Z2.wrap x72) - (Z2.wrap r3))])).bind fun z92=>
  (oB (Z2.wrap ((Z2.wrap x72) - (Z2.wrap r3)))).bind fun r101=>
  some (.inl (z92,(if x64<r101 then r101 else x64),Z0.wrap (x66+1)))
 else
  (su r3 x61 x64).map Sum.inr
def lN (p0:List Int):Option (List Int):=
 (ku p0).bind fun r3=>
 aq (fun s:(List Int×Int×Int)=>oC p0 r3 s.1 s.2.1 s.2.2) ([],0,0)
def kw (x109:List Int):Option (List Int×Int):=
 some (x109,0)
def iS (p1:List Ap) (x118:List Int) (x121:Int):Option ((List Int×Int)⊕(List Int×Int)):=
 if decide (x121<(p1.length:Int)) then
  (idx p1 x121).bind fun x127=>
  (kq x127).bind fun r141=>
  (app 140737488355328 x118 r141).bind fun z147=>
  some (.inl (z147,Z0.wrap (x121+1)))
 else
  (kw x118).map Sum.inr
def et (p0 : Int) (p1 : List Ap) (r27 : List Int × Bool) (x43 : Bool) : Option (List Int × Int) :=
 if x43 then
  some ([],62)
 else
  if (p1.length:Int)==0 then
   some ([],0)
  else
   if p0==1 then
    (mK p1).bind fun r59=>
    some (r59,0)
   else
    if p0==2 then
     (lM r27.1).bind fun r71=>
     some (r71,0)
    else
     if p0==3 then
      (mL p1).bind fun r83=>
      some (r83,0)
     else
      if p0==4 then
       (lN r27.1).bind fun r95=>
       some (r95,0)
      else
       aq (fun s:(List Int×Int)=>iS p1 s.1 s.2) ([],0)
def gw (p0 : Int) (p1 : List Ap) (x5 : Bool) : Option (List Int × Int) :=
 if x5 then
  some ([],62)
 else
  if decide (64<(p1.length:Int)) then
   some ([],61)
  else
   (d8 p1 eP).bind fun r17=>
   if r17 then
    some ([],60)
   else
    (mI p1).bind fun r27=>
    if !r27.2 then
     if p0==2 then
      et p0 p1 r27 true
     else
      et p0 p1 r27 (p0==4)
    else
     et p0 p1 r27 false
def eW (p0:Int) (p1:List Ap):Option (List Int×Int):=
 if decide (p0<0) then
  gw p0 p1 true
 else
  gw p0 p1 (decide (4<p0))
def zL (x7:Int):Option Int:=
 some x7
def pf (x18:Int) (x48:Int) (x50:Int):Option ((Int×Int×Int)⊕Int):=
 some (.inl (x48,x50,Z0.wrap (x18+1)))
def ma (x14:Int) (x16:Int) (x18:Int) (r27:List Int×Int) (x44:Bool):Option ((Int×Int×Int)⊕Int):=
 if x44 then
  pf x18 x18 (r27.1.length:Int)
 else
  pf x18 x14 x16
def tT (p0 : List Ap) (x14 : Int) (x16 : Int) (x18 : Int) : Option ((Int × Int × Int) ⊕ Int) :=
 if decide (x18 ≤ 4) then
  (eW x18 p0).bind fun r27=>
  if r27.2==0 then
   if decide (x16<0) then
    ma x14 x16 x18 r27 true
   else
    ma x14 x16 x18 r27 (decide ((r27.1.length:Int)<x16))
  else
   ma x14 x16 x18 r27 false
 else
  (zL x14).map Sum.inr
def pL (p0:List Ap):Option Int:=
 aq (fun s:(Int×Int×Int)=>tT p0 s.1 s.2.1 s.2.2) (0,(-1),0)
def mt (x24:Ap):Option Ap:=
 some x24
def ji (x35:Int) (x95:Ap):Option ((Int×Ap)⊕Ap):=
 some (.inl (Z0.wrap (x35+1),x95))
def jj (p0:List Ap) (p1:(Ap→Ap→Option Int)) (x35:Int) (x37:Ap):Option ((Int×Ap)⊕Ap):=
 if decide (x35<(p0.length:Int)) then
  (idx p0 x35).bind fun x47=>
  (p1 x47 x37).bind fun r85=>
  if decide (r85<0) then
   (idx p0 x35).bind fun x105=>
   ji x35 x105
  else
   ji x35 x37
 else
  (mt x37).map Sum.inr
def mu (p0:List Ap) (p1:(Ap→Ap→Option Int)):Option Ap:=
 (idx p0 0).bind fun x10=>
 aq (fun s:(Int×Ap)=>jj p0 p1 s.1 s.2) (1,x10)
def fP (p0:List Ap) (p1:(Ap→Ap→Option Int)):Option Ap:=
 if decide ((p0.length:Int)<1) then
  none
 else
  mu p0 p1
def mw (x24:Ap):Option Ap:=
 some x24
def jk (x35:Int) (x95:Ap):Option ((Int×Ap)⊕Ap):=
 some (.inl (Z0.wrap (x35+1),x95))
def jl (p0:List Ap) (p1:(Ap→Ap→Option Int)) (x35:Int) (x37:Ap):Option ((Int×Ap)⊕Ap):=
 if decide (x35<(p0.length:Int)) then
  (idx p0 x35).bind fun x47=>
  (p1 x47 x37).bind fun r85=>
  if decide (0<r85) then
   (idx p0 x35).bind fun x105=>
   jk x35 x105
  else
   jk x35 x37
 else
  (mw x37).map Sum.inr
def my (p0:List Ap) (p1:(Ap→Ap→Option Int)):Option Ap:=
 (idx p0 0).bind fun x10=>
 aq (fun s:(Int×Ap)=>jl p0 p1 s.1 s.2) (1,x10)
def fQ (p0:List Ap) (p1:(Ap→Ap→Option Int)):Option Ap:=
 if decide ((p0.length:Int)<1) then
  none
 else
  my p0 p1
def jd (p0:List Ap):Option (List Ap):=
 some p0
def eX (x36:bI) (x39:Ap):Option (bI×Bool):=
 if x39.fKind==0 then
  some (({ x36 with fNulls:=Z0.wrap (x36.fNulls+1) }),true)
 else
  some (x36,true)
def kx (p0:Int) (p1:List Ap):Option bI:=
 (fP p1 cB).bind fun r7=>
 (fQ p1 cB).bind fun r14=>
 (jd p1).bind fun r28=>
 (fy (fun (s:bI) (x:Ap)=>eX s x) (⟨p0,(p1.length:Int),r7,r14,0,0⟩:bI) r28).bind fun y67=>
 if y67.2 then
  some y67.1
 else
  none
def qa (p0:Ap):Option (List Int):=
 (mJ ([p0])).bind fun r12=>
 (sub r12.1 1 r12.1.length).bind fun x28=>
 some x28
def vK (x17:Int):Option Int:=
 some (zy .u32 x17)
def oD (p0:List Int) (x7:List Int) (x25:Int) (x27:Int):Option ((Int×Int)⊕Int):=
 if decide (x27<(p0.length:Int)) then
  (idx p0 x27).bind fun x33=>
  (ix x7 (c9 .u32 (dO .u32 x25 (Zy.wrap x33)) 15)).bind fun j48=>
  (x7[j48]?).bind fun x52=>
  (ix x7 (c9 .u32 (dO .u32 x52 (aA .u32 (dO .u32 x25 (Zy.wrap x33)) 4)) 15)).bind fun j62=>
  (x7[j62]?).bind fun x66=>
  some (.inl (dO .u32 x66 (aA .u32 (dO .u32 x52 (aA .u32 (dO .u32 x25 (Zy.wrap x33)) 4)) 4),Z0.wrap (x27+1)))
 else
  (vK x25).map Sum.inr
def lO (p0:List Int) (x7:List Int):Option Int:=
 aq (fun s:(Int×Int)=>oD p0 x7 s.1 s.2) (4294967295,0)
def rl (x78:Int) (x89:List Int):Option ((Int×List Int)⊕Int):=
 some (.inl (Z0.wrap (x78+1),x89))
def rp (x78:Int) (x80:List Int) (x103:Int):Option ((Int×List Int)⊕Int):=
 (ix x80 x78).bind fun j108=>
 (x80[j108]?).bind fun x113=>
 rl x78 (x80.set j108 x103)
def lP (x78:Int) (x80:List Int) (x118:Int) (x120:Int):Option ((Int×Int)⊕((Int×List Int)⊕Int)):=
 if decide (x120<4) then
  some (.inl (dO .u32 (aA .u32 x118 1) (Zy.wrap (3988292384*(c9 .u32 x118 1))),Z0.wrap (x120+1)))
 else
  (rp x78 x80 x118).map Sum.inr
def oE (p0:List Int) (x78:Int) (x80:List Int):Option ((Int×List Int)⊕Int):=
 if decide (x78<16) then
  aq (fun s:(Int×Int)=>lP x78 x80 s.1 s.2) (Zy.wrap x78,0)
 else
  (lO p0 x80).map Sum.inr
def gR (p0:List Int):Option Int:=
 aq (fun s:(Int×List Int)=>oE p0 s.1 s.2) (0,(Z3 16 0:List Int))
def jX (p0:List Int):Option (List Int):=
 (gR p0).bind fun r3=>
 (app 140737488355328 p0 ([Z4.wrap (aA .u32 r3 24),Z4.wrap (aA .u32 r3 16),Z4.wrap (aA .u32 r3 8),Z4.wrap r3])).bind fun z27=>
 some z27
def mb (p1:List Ap) (x13:Int):Option (List Int×Int):=
 (eW x13 p1).bind fun r18=>
 if r18.2 != 0 then
  some ([],r18.2)
 else
  (kx x13 p1).bind fun r41=>
  (qa r41.fMin).bind fun r73=>
  (app 140737488355328 ([Z4.wrap x13,Z4.wrap r41.fMany,Z4.wrap r41.fNulls]) r73).bind fun z79=>
  (qa r41.fMax).bind fun r90=>
  (app 140737488355328 z79 r90).bind fun z96=>
  (app 140737488355328 z96 ([Z4.wrap (aA .i64 (r18.1.length:Int) 8),Z4.wrap (r18.1.length:Int)])).bind fun z115=>
  (app 140737488355328 z115 r18.1).bind fun z124=>
  (jX z124).bind fun r132=>
  some (r132,0)
def mM (p0:Int) (p1:List Ap):Option (List Int×Int):=
 if (p1.length:Int)==0 then
  some ([],70)
 else
  if p0==(-1) then
   (pL p1).bind fun r142=>
   mb p1 r142
  else
   mb p1 p0
def mO (x52:Bool):Option Bool:=
 some x52
def s4 (p0 : Ap) (x46 : Ap) : Option Bool :=
 if decide (0 ≤ p0.fKind) then
  if decide (p0.fKind≤3) then
   if decide (p0=x46) then
    mO (decide ((p0.fText.length:Int)≤64))
   else
    mO false
  else
   mO false
 else
  mO false
def s5 (p0:Ap) (x35:Ap):Option Bool:=
 if p0.fKind==3 then
  s4 p0 ({ x35 with fText:=p0.fText })
 else
  s4 p0 x35
def s6 (p0:Ap) (x24:Ap):Option Bool:=
 if p0.fKind==2 then
  s5 p0 ({ x24 with fInt:=p0.fInt })
 else
  s5 p0 x24
def rq (p0:Ap):Option Bool:=
 if p0.fKind==1 then
  s6 p0 ({ (⟨p0.fKind,false,0,[]⟩:Ap) with fBool:=p0.fBool })
 else
  s6 p0 (⟨p0.fKind,false,0,[]⟩:Ap)
def vb:Option Int:=
 some 0
def kS (x24:Int) (x35:Bool):Option (Int⊕Int):=
 if x35 then
  (some 62).map Sum.inr
 else
  some (.inl (Z0.wrap (x24+1)))
def nz (p0 : Int) (p1 : List Ap) (x24 : Int) : Option (Int ⊕ Int) :=
 if decide (x24 < (p1.length : Int)) then
  if p0==2 then
   (idx p1 x24).bind fun x50=>
   kS x24 (x50.fKind != 2)
  else
   if p0==4 then
    (idx p1 x24).bind fun x69=>
    kS x24 (x69.fKind != 2)
   else
    kS x24 false
 else
  (vb).map Sum.inr
def qo (p0:Int) (p1:List Ap):Option Int:=
 aq (fun s:Int=>nz p0 p1 s) 0
def kU (p0:Int) (p1:List Ap) (x84:Int):Option (Int⊕Int):=
 if decide (x84<(p1.length:Int)) then
  (idx p1 x84).bind fun x95=>
  (rq x95).bind fun r101=>
  if !r101 then
   (some 60).map Sum.inr
  else
   some (.inl (Z0.wrap (x84+1)))
 else
  (qo p0 p1).map Sum.inr
def nA (p0:Int) (p1:List Ap) (x4:Bool):Option Int:=
 if x4 then
  some 62
 else
  if decide (64<(p1.length:Int)) then
   some 61
  else
   aq (fun s:Int=>kU p0 p1 s) 0
def qC (p0:Int) (p1:List Ap):Option Int:=
 if decide (p0<0) then
  nA p0 p1 true
 else
  nA p0 p1 (decide (4<p0))
def qD (x6:List dT):Option (List dT):=
 some x6
def mc (x17:Int) (x28:List dT):Option ((List dT×Int)⊕List dT):=
 some (.inl (x28,Z0.wrap (x17+1)))
def ky (p0:List Ap) (x14:List dT) (x17:Int) (x37:Bool):Option ((List dT×Int)⊕List dT):=
 if x37 then
  (idx x14 (Z0.wrap ((x14.length:Int) - 1))).bind fun x44=>
  (sub x14 0 (Z0.wrap ((x14.length:Int) - 1))).bind fun x68=>
  (app 2932031007402 ([]) x68).bind fun z71=>
  (app 2932031007402 z71 ([{ x44 with fMany:=Z0.wrap (x44.fMany+1) }])).bind fun z129=>
  mc x17 z129
 else
  (idx p0 x17).bind fun x139=>
  (app 2932031007402 x14 ([(⟨1,x139⟩:dT)])).bind fun z151=>
  mc x17 z151
def oF (p0:List Ap) (x14:List dT) (x17:Int):Option ((List dT×Int)⊕List dT):=
 if decide (x17<(p0.length:Int)) then
  if decide (0<x17) then
   (idx p0 x17).bind fun x159=>
   (idx p0 (Z0.wrap (x17 - 1))).bind fun x163=>
   ky p0 x14 x17 (decide (x159=x163))
  else
   ky p0 x14 x17 false
 else
  (qD x14).map Sum.inr
def q8 (p0:List Ap):Option (List dT):=
 aq (fun s:(List dT×Int)=>oF p0 s.1 s.2) ([],0)
def CE (x6:List Int):Option (List Int):=
 some x6
def iT (p0:Int) (x14:List Int) (x17:Int):Option ((List Int×Int)⊕List Int):=
 if decide (0≤x17) then
  (chk (decide (0≤x17))).bind fun u27=>
  (app 140737488355328 x14 ([Z4.wrap (aA .u64 p0 x17)])).bind fun z35=>
  some (.inl (z35,Z0.wrap (x17 - 8)))
 else
  (CE x14).map Sum.inr
def n5 (p0:Int):Option (List Int):=
 aq (fun s:(List Int×Int)=>iT p0 s.1 s.2) ([],56)
def vL (p0 : Ap) (x18 : Bool) : Option (List Int) :=
 if x18 then
  (app 140737488355328 ([Z4.wrap p0.fKind]) ([1])).bind fun z26=>
  some z26
 else
  if p0.fKind==1 then
   (app 140737488355328 ([Z4.wrap p0.fKind]) ([0])).bind fun z44=>
   some z44
  else
   if p0.fKind==2 then
    (n5 (Z2.wrap p0.fInt)).bind fun r63=>
    (app 140737488355328 ([Z4.wrap p0.fKind]) r63).bind fun z69=>
    some z69
   else
    if p0.fKind==3 then
     (app 140737488355328 ([Z4.wrap p0.fKind]) ([Z4.wrap (p0.fText.length:Int)])).bind fun z94=>
     (app 140737488355328 z94 p0.fText).bind fun z107=>
     some z107
    else
     some ([Z4.wrap p0.fKind])
def qb (p0:Ap):Option (List Int):=
 if p0.fKind==1 then
  vL p0 p0.fBool
 else
  vL p0 false
def xv (x24:List Int):Option (List Int):=
 some x24
def xw (x35:Int) (x46:List Int):Option ((List Int×Int)⊕List Int):=
 some (.inl (x46,Z0.wrap (x35+1)))
def xy (x35:Int) (x141:List Int) (x144:Int):Option ((List Int×Int)⊕List Int):=
 (app 140737488355328 x141 ([Z4.wrap x144])).bind fun z154=>
 xw x35 z154
def mP (x35:Int) (x163:List Int) (x166:Int):Option ((List Int×Int)⊕((List Int×Int)⊕List Int)):=
 if decide (128≤x166) then
  (app 140737488355328 x163 ([Z4.wrap (Z2.wrap ((x166.tmod 128)+128))])).bind fun z182=>
  some (.inl (z182,Z2.wrap (x166.tdiv 128)))
 else
  (xy x35 x163 x166).map Sum.inr
def s7 (x32:List Int) (x35:Int) (x136:Int):Option ((List Int×Int)⊕List Int):=
 aq (fun s:(List Int×Int)=>mP x35 s.1 s.2) (x32,x136)
def s8 (p0:List Ap) (x32:List Int) (x35:Int):Option ((List Int×Int)⊕List Int):=
 if decide (x35<(p0.length:Int)) then
  (idx p0 x35).bind fun x53=>
  (idx p0 (Z0.wrap (x35 - 1))).bind fun x60=>
  if decide ((Z0.wrap (x53.fInt - x60.fInt))<0) then
   s7 x32 x35 (Z2.wrap (Z0.wrap ((Z0.wrap ((-2)*(Z0.wrap (x53.fInt - x60.fInt)))) - 1)))
  else
   s7 x32 x35 (Z2.wrap (Z0.wrap (2*(Z0.wrap (x53.fInt - x60.fInt)))))
 else
  (xv x32).map Sum.inr
def ut (p0:List Ap):Option (List Int):=
 (idx p0 0).bind fun x3=>
 (n5 (Z2.wrap x3.fInt)).bind fun r14=>
 aq (fun s:(List Int×Int)=>s8 p0 s.1 s.2) (r14,1)
def kz (x38:Bool):Option Bool:=
 some x38
def oG (x71:Bool):Option Bool:=
 some x71
def pg (p0 : Ap) (p1 : Ap) : Option Bool :=
 if p0.fKind != p1.fKind then
  some (decide (p0.fKind<p1.fKind))
 else
  if p0.fKind==1 then
   if !p0.fBool then
    kz p1.fBool
   else
    kz false
  else
   if p0.fKind==2 then
    some (decide (p0.fInt<p1.fInt))
   else
    if p0.fKind==3 then
     oG (ltB p0.fText p1.fText)
    else
     oG false
def iw (p0:Ap) (p1:Ap):Option Int:=
 (pg p0 p1).bind fun r14=>
 (pg p1 p0).bind fun r25=>
 if r14 then
  some (-1)
 else
  if r25 then
   some 1
  else
   some 0
def xz (x6:List Ap):Option (List Ap):=
 some x6
def xA (x17:Int) (x28:List Ap):Option ((List Ap×Int)⊕List Ap):=
 some (.inl (x28,Z0.wrap (x17+1)))
def s9 (x17:Int) (x49:List Ap):Option ((List Ap×Int)⊕List Ap):=
 xA x17 x49
def xB (p0:List Ap) (x17:Int) (x40:List Ap) (x43:Bool):Option ((List Ap×Int)⊕List Ap):=
 if !x43 then
  (idx p0 x17).bind fun x59=>
  (app 3518437208883 x40 ([x59])).bind fun z69=>
  s9 x17 z69
 else
  s9 x17 x40
def td (x82:Int) (x93:List Ap) (x96:Bool):Option ((List Ap×Bool×Int)⊕((List Ap×Int)⊕List Ap)):=
 some (.inl (x93,x96,Z0.wrap (x82+1)))
def te (x14:List Ap) (x82:Int) (x165:List Ap) (x168:Bool):Option ((List Ap×Bool×Int)⊕((List Ap×Int)⊕List Ap)):=
 (idx x14 x82).bind fun x173=>
 (app 3518437208883 x165 ([x173])).bind fun z183=>
 td x82 z183 x168
def tf (p0:List Ap) (x14:List Ap) (x17:Int) (x78:List Ap) (x81:Bool) (x82:Int) (r151:Int) (x161:Bool):Option ((List Ap×Bool×Int)⊕((List Ap×Int)⊕List Ap)):=
 if x161 then
  (idx p0 x17).bind fun x194=>
  (app 3518437208883 x78 ([x194])).bind fun z204=>
  if r151==0 then
   td x82 z204 true
  else
   te x14 x82 z204 true
 else
  te x14 x82 x78 x81
def tg (p0:List Ap) (x14:List Ap) (x17:Int) (x78:List Ap) (x81:Bool) (x82:Int):Option ((List Ap×Bool×Int)⊕((List Ap×Int)⊕List Ap)):=
 if decide (x82<(x14.length:Int)) then
  (idx p0 x17).bind fun x101=>
  (idx x14 x82).bind fun x105=>
  (iw x101 x105).bind fun r151=>
  if !x81 then
   tf p0 x14 x17 x78 x81 x82 r151 (decide (r151≤0))
  else
   tf p0 x14 x17 x78 x81 x82 r151 false
 else
  (xB p0 x17 x78 x81).map Sum.inr
def th (p0:List Ap) (x14:List Ap) (x17:Int):Option ((List Ap×Int)⊕List Ap):=
 if decide (x17<(p0.length:Int)) then
  aq (fun s:(List Ap×Bool×Int)=>tg p0 x14 x17 s.1 s.2.1 s.2.2) ([],false,0)
 else
  (xz x14).map Sum.inr
def uu (p0:List Ap):Option (List Ap):=
 aq (fun s:(List Ap×Int)=>th p0 s.1 s.2) ([],0)
def xC (x5:Int):Option Int:=
 some x5
def tj (x12:Int) (x14:Int):Option ((Int×Int)⊕Int):=
 if decide (0<x12) then
  some (.inl (Z2.wrap (x12.tdiv 2),Z0.wrap (x14+1)))
 else
  (xC x14).map Sum.inr
def rt (p0:Int):Option Int:=
 aq (fun s:(Int×Int)=>tj s.1 s.2) (p0,0)
def vM (x14:List Int):Option (List Int):=
 some x14
def vN (x25:Int) (x36:List Int):Option ((List Int×Int)⊕List Int):=
 some (.inl (x36,Z0.wrap (x25+8)))
def vO (x22:List Int) (x25:Int) (x47:Int):Option ((List Int×Int)⊕List Int):=
 (app 140737488355328 x22 ([x47])).bind fun z56=>
 vN x25 z56
def ru (x67:Int) (x85:Int):Option ((Int×Int)⊕((List Int×Int)⊕List Int)):=
 some (.inl (x85,Z0.wrap (x67 - 1)))
def rv (x6:List Int) (x22:List Int) (x25:Int) (x65:Int) (x67:Int):Option ((Int×Int)⊕((List Int×Int)⊕List Int)):=
 if decide (0≤x67) then
  if decide ((Z0.wrap (x25+x67))<(x6.length:Int)) then
   (idx x6 (Z0.wrap (x25+x67))).bind fun x97=>
   ru x67 (Z4.wrap ((Z4.wrap (x65*2))+x97))
  else
   ru x67 (Z4.wrap (x65*2))
 else
  (vO x22 x25 x65).map Sum.inr
def rx (x6:List Int) (x22:List Int) (x25:Int):Option ((List Int×Int)⊕List Int):=
 if decide (x25<(x6.length:Int)) then
  aq (fun s:(Int×Int)=>rv x6 x22 x25 s.1 s.2) (0,7)
 else
  (vM x22).map Sum.inr
def ry (x6:List Int):Option (List Int):=
 aq (fun s:(List Int×Int)=>rx x6 s.1 s.2) ([],0)
def vP (x111:Int) (x122:List Int):Option ((List Int×Int)⊕List Int):=
 some (.inl (x122,Z0.wrap (x111+1)))
def rz (p1:Int) (x111:Int) (x142:List Int) (x145:Int) (x147:Int):Option ((List Int×Int×Int)⊕((List Int×Int)⊕List Int)):=
 if decide (x147<p1) then
  (app 140737488355328 x142 ([Z4.wrap (x145.tmod 2)])).bind fun z163=>
  some (.inl (z163,Z2.wrap (x145.tdiv 2),Z0.wrap (x147+1)))
 else
  (vP x111 x142).map Sum.inr
def rA (p0:List Int) (p1:Int) (x108:List Int) (x111:Int):Option ((List Int×Int)⊕List Int):=
 if decide (x111<(p0.length:Int)) then
  (idx p0 x111).bind fun x131=>
  aq (fun s:(List Int×Int×Int)=>rz p1 x111 s.1 s.2.1 s.2.2) (x108,x131,0)
 else
  (ry x108).map Sum.inr
def qc (p0:List Int) (p1:Int):Option (List Int):=
 aq (fun s:(List Int×Int)=>rA p0 p1 s.1 s.2) ([],0)
def yT (r3:List Ap) (x21:List Int) (x29:List Int):Option (List Int):=
 (rt (Z2.wrap (Z0.wrap ((r3.length:Int) - 1)))).bind fun r39=>
 (qc x29 r39).bind fun r46=>
 (app 140737488355328 x21 r46).bind fun z52=>
 some z52
def yU (x64:Int) (x75:List Int):Option ((List Int×Int)⊕List Int):=
 some (.inl (x75,Z0.wrap (x64+1)))
def uv (x88:Int) (x150:List Int):Option ((List Int×Int)⊕((List Int×Int)⊕List Int)):=
 some (.inl (x150,Z0.wrap (x88+1)))
def uw (p0:List Ap) (r3:List Ap) (x64:Int) (x85:List Int) (x88:Int):Option ((List Int×Int)⊕((List Int×Int)⊕List Int)):=
 if decide (x88<(r3.length:Int)) then
  (idx r3 x88).bind fun x97=>
  (idx p0 x64).bind fun x101=>
  if decide (x97=x101) then
   (app 17592186044416 x85 ([Z2.wrap x88])).bind fun z165=>
   uv x88 z165
  else
   uv x88 x85
 else
  (yU x64 x85).map Sum.inr
def qE (p0:List Ap) (r3:List Ap) (x21:List Int) (x61:List Int) (x64:Int):Option ((List Int×Int)⊕List Int):=
 if decide (x64<(p0.length:Int)) then
  aq (fun s:(List Int×Int)=>uw p0 r3 x64 s.1 s.2) (x61,0)
 else
  (yT r3 x21 x61).map Sum.inr
def yV (p0:List Ap) (r3:List Ap) (x21:List Int):Option (List Int):=
 aq (fun s:(List Int×Int)=>qE p0 r3 x21 s.1 s.2) ([],0)
def ux (p0:List Ap) (r3:List Ap) (x174:List Int) (x177:Int):Option ((List Int×Int)⊕List Int):=
 if decide (x177<(r3.length:Int)) then
  (idx r3 x177).bind fun x189=>
  (qb x189).bind fun r195=>
  (app 140737488355328 x174 r195).bind fun z201=>
  some (.inl (z201,Z0.wrap (x177+1)))
 else
  (yV p0 r3 x174).map Sum.inr
def xa (p0:List Ap):Option (List Int):=
 (uu p0).bind fun r3=>
 aq (fun s:(List Int×Int)=>ux p0 r3 s.1 s.2) ([Z4.wrap (r3.length:Int)],0)
def xD (x17:Int) (x25:List Int) (x28:Int):Option (List Int):=
 (n5 (Z2.wrap x17)).bind fun r33=>
 (app 140737488355328 r33 ([Z4.wrap x28])).bind fun z45=>
 (qc x25 x28).bind fun r55=>
 (app 140737488355328 z45 r55).bind fun z61=>
 some z61
def pM (p0:List Ap) (x17:Int) (x70:List Int) (x73:Int) (x75:Int):Option ((List Int×Int×Int)⊕List Int):=
 if decide (x75<(p0.length:Int)) then
  (idx p0 x75).bind fun x86=>
  (app 17592186044416 x70 ([Z2.wrap ((Z2.wrap x86.fInt) - (Z2.wrap x17))])).bind fun z107=>
  (rt (Z2.wrap ((Z2.wrap x86.fInt) - (Z2.wrap x17)))).bind fun r116=>
  some (.inl (z107,(if x73<r116 then r116 else x73),Z0.wrap (x75+1)))
 else
  (xD x17 x70 x73).map Sum.inr
def xE (p0:List Ap) (x17:Int):Option (List Int):=
 aq (fun s:(List Int×Int×Int)=>pM p0 x17 s.1 s.2.1 s.2.2) ([],0,0)
def tl (p0:List Ap) (x130:Int) (x132:Int):Option ((Int×Int)⊕List Int):=
 if decide (x132<(p0.length:Int)) then
  (idx p0 x132).bind fun x144=>
  some (.inl ((if x144.fInt<x130 then x144.fInt else x130),Z0.wrap (x132+1)))
 else
  (xE p0 x130).map Sum.inr
def uy (p0:List Ap):Option (List Int):=
 (idx p0 0).bind fun x3=>
 aq (fun s:(Int×Int)=>tl p0 s.1 s.2) (x3.fInt,0)
def gS (x25:List Int):Option (List Int×Int):=
 some (x25,0)
def rB (r36:List dT) (x46:List Int) (x49:Int):Option ((List Int×Int)⊕(List Int×Int)):=
 if decide (x49<(r36.length:Int)) then
  (idx r36 x49).bind fun x61=>
  (app 140737488355328 x46 ([Z4.wrap x61.fMany])).bind fun z76=>
  (idx r36 x49).bind fun x86=>
  (qb x86.fValue).bind fun r95=>
  (app 140737488355328 z76 r95).bind fun z101=>
  some (.inl (z101,Z0.wrap (x49+1)))
 else
  (gS x46).map Sum.inr
def rC (p1:List Ap) (x147:List Int) (x150:Int):Option ((List Int×Int)⊕(List Int×Int)):=
 if decide (x150<(p1.length:Int)) then
  (idx p1 x150).bind fun x162=>
  (qb x162).bind fun r168=>
  (app 140737488355328 x147 r168).bind fun z174=>
  some (.inl (z174,Z0.wrap (x150+1)))
 else
  (gS x147).map Sum.inr
def rD (p0 : Int) (p1 : List Ap) (r5 : Int) (x15 : Bool) : Option (List Int × Int) :=
 if x15 then
  some ([],r5)
 else
  if p0==1 then
   (q8 p1).bind fun r36=>
   aq (fun s:(List Int×Int)=>rB r36 s.1 s.2) ([],0)
  else
   if p0==2 then
    (ut p1).bind fun r115=>
    gS r115
   else
    if p0==3 then
     (xa p1).bind fun r126=>
     gS r126
    else
     if p0==4 then
      (uy p1).bind fun r137=>
      gS r137
     else
      aq (fun s:(List Int×Int)=>rC p1 s.1 s.2) ([],0)
def n7 (p0:Int) (p1:List Ap):Option (List Int×Int):=
 (qC p0 p1).bind fun r5=>
 if r5 != 0 then
  rD p0 p1 r5 true
 else
  rD p0 p1 r5 ((p1.length:Int)==0)
def Fa (x7:Int):Option Int:=
 some x7
def uz (x18:Int) (x48:Int) (x50:Int):Option ((Int×Int×Int)⊕Int):=
 some (.inl (x48,x50,Z0.wrap (x18+1)))
def qH (x14:Int) (x16:Int) (x18:Int) (r27:List Int×Int) (x44:Bool):Option ((Int×Int×Int)⊕Int):=
 if x44 then
  uz x18 x18 (r27.1.length:Int)
 else
  uz x18 x14 x16
def yW (p0 : List Ap) (x14 : Int) (x16 : Int) (x18 : Int) : Option ((Int × Int × Int) ⊕ Int) :=
 if decide (x18 < 5) then
  (n7 x18 p0).bind fun r27=>
  if r27.2==0 then
   if decide (x16<0) then
    qH x14 x16 x18 r27 true
   else
    qH x14 x16 x18 r27 (decide ((r27.1.length:Int)<x16))
  else
   qH x14 x16 x18 r27 false
 else
  (Fa x14).map Sum.inr
def xb (p0:List Ap):Option Int:=
 aq (fun s:(Int×Int×Int)=>yW p0 s.1 s.2.1 s.2.2) (0,(-1),0)
def xF (x73:dm):Option dm:=
 some x73
def tn (x84:Int) (x215:dm):Option ((Int×dm)⊕dm):=
 some (.inl (Z0.wrap (x84+1),x215))
def pN (p1:List Ap) (x84:Int) (x196:dm):Option ((Int×dm)⊕dm):=
 (idx p1 x84).bind fun x202=>
 if x202.fKind==0 then
  tn x84 ({ x196 with fNulls:=Z0.wrap (x196.fNulls+1) })
 else
  tn x84 x196
def pO (p1:List Ap) (x84:Int) (x144:dm):Option ((Int×dm)⊕dm):=
 (idx p1 x84).bind fun x148=>
 (iw x148 x144.fMax).bind fun r186=>
 if decide (0<r186) then
  (idx p1 x84).bind fun x235=>
  pN p1 x84 ({ x144 with fMax:=x235 })
 else
  pN p1 x84 x144
def to (p1:List Ap) (x84:Int) (x86:dm):Option ((Int×dm)⊕dm):=
 if decide (x84<(p1.length:Int)) then
  (idx p1 x84).bind fun x96=>
  (iw x96 x86.fMin).bind fun r134=>
  if decide (r134<0) then
   (idx p1 x84).bind fun x248=>
   pO p1 x84 ({ x86 with fMin:=x248 })
  else
   pO p1 x84 x86
 else
  (xF x86).map Sum.inr
def uA (p0:Int) (p1:List Ap):Option dm:=
 (idx p1 0).bind fun x3=>
 (idx p1 0).bind fun x7=>
 aq (fun s:(Int×dm)=>to p1 s.1 s.2) (0,(⟨p0,(p1.length:Int),x3,x7,0,0⟩:dm))
def AS (x6:Int):Option Int:=
 some (dO .u32 x6 4294967295)
def AT (x16:Int) (x27:Int):Option ((Int×Int)⊕Int):=
 some (.inl (x27,Z0.wrap (x16+1)))
def vQ (x51:Int) (x63:Int):Option ((Int×Int)⊕((Int×Int)⊕Int)):=
 some (.inl (x63,Z0.wrap (x51+1)))
def vR (x16:Int) (x49:Int) (x51:Int):Option ((Int×Int)⊕((Int×Int)⊕Int)):=
 if decide (x51<8) then
  if (x49.tmod 2)==1 then
   vQ x51 (dO .u32 (Zy.wrap (x49.tdiv 2)) 3988292384)
  else
   vQ x51 (Zy.wrap (x49.tdiv 2))
 else
  (AT x16 x49).map Sum.inr
def vS (p0:List Int) (x14:Int) (x16:Int):Option ((Int×Int)⊕Int):=
 if decide (x16<(p0.length:Int)) then
  (idx p0 x16).bind fun x36=>
  aq (fun s:(Int×Int)=>vR x16 s.1 s.2) (dO .u32 x14 (Zy.wrap x36),0)
 else
  (AS x14).map Sum.inr
def vT (p0:List Int):Option Int:=
 aq (fun s:(Int×Int)=>vS p0 s.1 s.2) (4294967295,0)
def vU (x8:List Int):Option (List Int):=
 some x8
def vV (x19:Int) (x28:List Int):Option ((List Int×Int)⊕List Int):=
 some (.inl (x28,Z0.wrap (x19 - 1)))
def vW (x16:List Int) (x19:Int) (x40:Int):Option ((List Int×Int)⊕List Int):=
 (app 140737488355328 x16 ([Z4.wrap (x40.tmod 256)])).bind fun z51=>
 vV x19 z51
def rE (x16:List Int) (x19:Int) (x60:Int) (x62:Int):Option ((Int×Int)⊕((List Int×Int)⊕List Int)):=
 if decide (x62<x19) then
  some (.inl (Z2.wrap (x60.tdiv 256),Z0.wrap (x62+1)))
 else
  (vW x16 x19 x60).map Sum.inr
def oH (p0:Int) (x16:List Int) (x19:Int):Option ((List Int×Int)⊕List Int):=
 if decide (0≤x19) then
  aq (fun s:(Int×Int)=>rE x16 x19 s.1 s.2) (p0,0)
 else
  (vU x16).map Sum.inr
def lQ (p0:Int) (p1:Int):Option (List Int):=
 aq (fun s:(List Int×Int)=>oH p0 s.1 s.2) ([],Z0.wrap (p1 - 1))
def pP (p1:List Ap) (x13:Int):Option (List Int×Int):=
 (n7 x13 p1).bind fun r18=>
 if r18.2 != 0 then
  some ([],r18.2)
 else
  (uA x13 p1).bind fun r41=>
  (qb r41.fMin).bind fun r73=>
  (app 140737488355328 ([Z4.wrap x13,Z4.wrap r41.fMany,Z4.wrap r41.fNulls]) r73).bind fun z79=>
  (qb r41.fMax).bind fun r90=>
  (app 140737488355328 z79 r90).bind fun z96=>
  (app 140737488355328 z96 ([Z4.wrap (Z0.wrap ((r18.1.length:Int).tdiv 256)),Z4.wrap ((r18.1.length:Int).tmod 256)])).bind fun z116=>
  (app 140737488355328 z116 r18.1).bind fun z125=>
  (vT z125).bind fun r134=>
  (lQ (Z2.wrap r134) 4).bind fun r142=>
  (app 140737488355328 z125 r142).bind fun z148=>
  some (z148,0)
def uB (p0:Int) (p1:List Ap):Option (List Int×Int):=
 if (p1.length:Int)==0 then
  some ([],70)
 else
  if p0==(-1) then
   (xb p1).bind fun r158=>
   pP p1 r158
  else
   pP p1 p0
def tU (x6:Int):Option Int:=
 some x6
def ph (p0:List Int) (x13:Int) (x15:Int):Option ((Int×Int)⊕Int):=
 if decide (x15<8) then
  (idx p0 x15).bind fun x27=>
  some (.inl (bOr .u64 (eh .u64 x13 8) (Z2.wrap x27),Z0.wrap (x15+1)))
 else
  (tU x13).map Sum.inr
def pQ (p0:List Int):Option Int:=
 aq (fun s:(Int×Int)=>ph p0 s.1 s.2) (0,0)
def jY (x21:List Int) (x205:Bool):Option (Ap×List Int×Bool):=
 if x205 then
  (idx x21 0).bind fun x208=>
  (sub x21 1 (Z4.wrap (1+x208))).bind fun x213=>
  (oz x213).bind fun r216=>
  (idx x21 0).bind fun x221=>
  (sub x21 (Z4.wrap (1+x221)) x21.length).bind fun x226=>
  some (r216,x226,true)
 else
  some ((⟨0,false,0,[]⟩:Ap),[],false)
def oI (x16 : Int) (x21 : List Int) (x145 : Bool) : Option (Ap × List Int × Bool) :=
 if x145 then
  (pQ x21).bind fun r148=>
  (eo (Z0.wrap r148)).bind fun r154=>
  (sub x21 8 x21.length).bind fun x159=>
  some (r154,x159,true)
 else
  if (Z0.wrap x16) == 3 then
   if decide (1≤(x21.length:Int)) then
    (idx x21 0).bind fun x325=>
    if decide (x325≤64) then
     (idx x21 0).bind fun x339=>
     jY x21 (decide ((Z0.wrap x339)<(x21.length:Int)))
    else
     jY x21 false
   else
    jY x21 false
  else
   jY x21 false
def jZ (x16:Int) (x21:List Int) (x83:Bool):Option (Ap×List Int×Bool):=
 if x83 then
  (idx x21 0).bind fun x86=>
  (oy (x86==1)).bind fun r91=>
  (sub x21 1 x21.length).bind fun x96=>
  some (r91,x96,true)
 else
  if (Z0.wrap x16)==2 then
   oI x16 x21 (decide (8≤(x21.length:Int)))
  else
   oI x16 x21 false
def sw (p0 : List Int) : Option (Ap × List Int × Bool) :=
 if (p0.length:Int)==0 then
  some ((⟨0,false,0,[]⟩:Ap),[],false)
 else
  (idx p0 0).bind fun x16=>
  (sub p0 1 p0.length).bind fun x21=>
  if (Z0.wrap x16)==0 then
   (kp).bind fun r69=>
   some (r69,x21,true)
  else
   if (Z0.wrap x16)==1 then
    if decide (1≤(x21.length:Int)) then
     (idx x21 0).bind fun x384=>
     jZ x16 x21 (decide (x384≤1))
    else
     jZ x16 x21 false
   else
    jZ x16 x21 false
def tV (x64:List Int) (x67:List Ap):Option (List Ap×Int):=
 if decide (0<(x64.length:Int)) then
  some ([],30)
 else
  some (x67,0)
def j0 (x11:Int) (x82:List Int) (x85:List Ap) (x88:Int):Option ((List Int×List Ap×Int)⊕(List Ap×Int)):=
 if decide (x88<(Z0.wrap x11)) then
  (sw x82).bind fun r95=>
  if !r95.2.2 then
   (some ([],30)).map Sum.inr
  else
   (app 3518437208883 x85 ([r95.1])).bind fun z129=>
   some (.inl (r95.2.1,z129,Z0.wrap (x88+1)))
 else
  (tV x82 x85).map Sum.inr
def pi (p0:List Int) (x5:Bool):Option (List Ap×Int):=
 if x5 then
  some ([],30)
 else
  (idx p0 0).bind fun x11=>
  (sub p0 1 p0.length).bind fun x16=>
  aq (fun s:(List Int×List Ap×Int)=>j0 x11 s.1 s.2.1 s.2.2) (x16,[],0)
def lh (p0:List Int):Option (List Ap×Int):=
 if (p0.length:Int)==0 then
  pi p0 true
 else
  (idx p0 0).bind fun x147=>
  pi p0 (decide (16<x147))
def zM:Option (Ap×List Int×Bool):=
 some ((⟨0,false,0,[]⟩:Ap),[],false)
def md (p0:List Int) (x18:Int) (x24:Bool):Option (Int⊕(Ap×List Int×Bool)):=
 if x24 then
  (sub p0 0 x18).bind fun x33=>
  (app 140737488355328 ([1]) x33).bind fun z37=>
  (lh z37).bind fun r43=>
  if r43.2==0 then
   (idx r43.1 0).bind fun x61=>
   (sub p0 x18 p0.length).bind fun x65=>
   (some (x61,x65,true)).map Sum.inr
  else
   some (.inl (Z0.wrap (x18+1)))
 else
  (zM).map Sum.inr
def me (p0:List Int) (x18:Int):Option (Int⊕(Ap×List Int×Bool)):=
 if decide (x18≤(p0.length:Int)) then
  md p0 x18 (decide (x18≤66))
 else
  md p0 x18 false
def lj (p0:List Int):Option (Ap×List Int×Bool):=
 aq (fun s:Int=>me p0 s) 1
def nB (p0:List Int) (x17:Int) (x22:Int) (x27:Int) (r118:Ap×List Int×Bool) (r140:Ap×List Int×Bool) (x163:Bool):Option (bI×List Int×Bool):=
 if x163 then
  some ((⟨0,0,Ap.zero,Ap.zero,0,0⟩:bI),[],false)
 else
  (idx r140.2.1 0).bind fun x173=>
  (idx r140.2.1 1).bind fun x178=>
  (sub r140.2.1 2 r140.2.1.length).bind fun x237=>
  if decide ((x237.length:Int)<(Z0.wrap ((bOr .i64 (eh .i64 (Z0.wrap x173) 8) (Z0.wrap x178))+4))) then
   some ((⟨0,0,Ap.zero,Ap.zero,0,0⟩:bI),[],false)
  else
   (sub x237 0 (bOr .i64 (eh .i64 (Z0.wrap x173) 8) (Z0.wrap x178))).bind fun x268=>
   some ({ { { (⟨Z0.wrap x17,Z0.wrap x22,Ap.zero,Ap.zero,Z0.wrap x27,0⟩:bI) with fMin:=r118.1 } with fMax:=r140.1 } with fBytes:=Z0.wrap ((Z0.wrap ((Z0.wrap ((p0.length:Int) - (x237.length:Int)))+(bOr .i64 (eh .i64 (Z0.wrap x173) 8) (Z0.wrap x178))))+4) },x268,true)
def ga (p0 : List Int) (x7 : Bool) : Option (bI × List Int × Bool) :=
 if x7 then
  some ((⟨0,0,Ap.zero,Ap.zero,0,0⟩:bI),[],false)
 else
  (idx p0 0).bind fun x17=>
  (idx p0 1).bind fun x22=>
  (idx p0 2).bind fun x27=>
  (sub p0 3 p0.length).bind fun x114=>
  (lj x114).bind fun r118=>
  (lj r118.2.1).bind fun r140=>
  if !r118.2.2 then
   nB p0 x17 x22 x27 r118 r140 true
  else
   if !r140.2.2 then
    nB p0 x17 x22 x27 r118 r140 true
   else
    nB p0 x17 x22 x27 r118 r140 (decide ((r140.2.1.length:Int)<2))
def jt (p0 : List Int) : Option (bI × List Int × Bool) :=
 if decide ((p0.length:Int)<3) then
  ga p0 true
 else
  (idx p0 0).bind fun x385=>
  if decide (4<x385) then
   ga p0 true
  else
   (idx p0 1).bind fun x471=>
   if x471==0 then
    ga p0 true
   else
    (idx p0 1).bind fun x572=>
    if decide (64<x572) then
     ga p0 true
    else
     (idx p0 2).bind fun x688=>
     (idx p0 1).bind fun x693=>
     ga p0 (decide (x693<x688))
def jN (p0:List Int):Option (List Int):=
 (app 140737488355328 ([]) p0).bind fun z13=>
 some z13
def oJ:Option Bool:=
 some true
def fR (p0:List Int) (p1:List Int) (x18:Int):Option (Int⊕Bool):=
 if decide (x18<(p0.length:Int)) then
  (idx p0 x18).bind fun x26=>
  (idx p1 x18).bind fun x31=>
  if x26 != x31 then
   (some false).map Sum.inr
  else
   some (.inl (Z0.wrap (x18+1)))
 else
  (oJ).map Sum.inr
def fZ (p0:List Int) (p1:List Int):Option Bool:=
 if (p0.length:Int) != (p1.length:Int) then
  some false
 else
  aq (fun s:Int=>fR p0 p1 s) 0
def tp (p0:ai):Option (Ap×ai):=
 some ((⟨0,false,0,[]⟩:Ap),{ p0 with fOk:=false })
def gD (p0:ai) (x20:Int) (x26:Bool):Option (Int⊕(Ap×ai)):=
 if x26 then
  (sub p0.fB 0 x20).bind fun x39=>
  (app 140737488355328 ([1]) x39).bind fun z43=>
  (lh z43).bind fun r49=>
  if r49.2==0 then
   (sub p0.fB x20 p0.fB.length).bind fun x74=>
   (idx r49.1 0).bind fun x84=>
   (some (x84,{ p0 with fB:=x74 })).map Sum.inr
  else
   some (.inl (Z0.wrap (x20+1)))
 else
  (tp p0).map Sum.inr
def gE (p0:ai) (x20:Int):Option (Int⊕(Ap×ai)):=
 if decide (x20≤(p0.fB.length:Int)) then
  gD p0 x20 (decide (x20≤66))
 else
  gD p0 x20 false
def dE (p0:ai):Option (Ap×ai):=
 aq (fun s:Int=>gE p0 s) 1
def cD (p0:ai) (p1:Int):Option (List Int×ai):=
 if decide ((p0.fB.length:Int)<p1) then
  (mk 281474976710656 p1 0).bind fun z24=>
  some (z24,{ { p0 with fB:=[] } with fOk:=false })
 else
  (mk 281474976710656 p1 0).bind fun z35=>
  (sub p0.fB p1 p0.fB.length).bind fun x61=>
  some ((cpy z35 p0.fB),{ p0 with fB:=x61 })
def Fb (p0:Int) (p1:Int):Option (Int×Int):=
 some (Zy.wrap (aA .u64 (Z2.wrap ((Z2.wrap p0)*(Z2.wrap p1))) 32),Zy.wrap (Z2.wrap ((Z2.wrap p0)*(Z2.wrap p1))))
def qI (p0:Int) (p1:Int):Option (Int×Int):=
 some (Z2.wrap ((Z2.wrap ((Z2.wrap ((aA .u64 p0 32)*(aA .u64 p1 32)))+(aA .u64 (Z2.wrap ((Z2.wrap ((aA .u64 p0 32)*(c9 .u64 p1 4294967295)))+(aA .u64 (Z2.wrap ((c9 .u64 p0 4294967295)*(c9 .u64 p1 4294967295))) 32))) 32)))+(aA .u64 (Z2.wrap ((c9 .u64 (Z2.wrap ((Z2.wrap ((aA .u64 p0 32)*(c9 .u64 p1 4294967295)))+(aA .u64 (Z2.wrap ((c9 .u64 p0 4294967295)*(c9 .u64 p1 4294967295))) 32))) 4294967295)+(Z2.wrap ((c9 .u64 p0 4294967295)*(aA .u64 p1 32))))) 32)),Z2.wrap (p0*p1))
def uC (p0:Int) (p1:Int):Option (Int×Int):=
 (qI p0 p1).bind fun r5=>
 some (r5.1,r5.2)
def gF (x52:List Ap):Option (List Ap):=
 some x52
def gG (x60:Int) (x62:List Ap):Option ((Int×List Ap)⊕List Ap):=
 if decide (x60<(x62.length:Int)) then
  (vw x62 x60 x62.length).bind fun q73=>
  (vw x62 0 x60).bind fun q76=>
  (chk (Nat.ble (min q76.2 q73.2) cL)).bind fun u82=>
  (cpv x62 q73 q76).bind fun z80=>
  some (.inl (Z0.wrap (x60+((min q76.2 q73.2:Nat):Int)),z80))
 else
  (gF x62).map Sum.inr
def gH (p0:List Ap) (r12:Int×Int):Option (List Ap):=
 (mk 7036874417766 (Z0.wrap r12.2) Ap.zero).bind fun z37=>
 aq (fun s:(Int×List Ap)=>gG s.1 s.2) (((min p0.length z37.length:Nat):Int),(cpy z37 p0))
def eU (p0:List Ap) (r12:Int×Int) (x30:Bool):Option (List Ap):=
 if x30 then
  none
 else
  gH p0 r12
def gI (p0:List Ap) (p1:Int):Option (List Ap):=
 (uC (Z2.wrap (p0.length:Int)) (Z2.wrap p1)).bind fun r12=>
 if decide (0<r12.1) then
  eU p0 r12 true
 else
  eU p0 r12 (decide (9223372036854775807<r12.2))
def eQ (p0:List Ap) (p1:Int):Option (List Ap):=
 if decide (p1<0) then
  none
 else
  gI p0 p1
def mz (r4:List Int×ai) (x16:Int):Option (Int×ai):=
 some (x16,r4.2)
def gj (r4:List Int×ai) (x23:Int) (x25:Int):Option ((Int×Int)⊕(Int×ai)):=
 if decide (x25<(r4.1.length:Int)) then
  (idx r4.1 x25).bind fun x31=>
  some (.inl (bOr .u64 (eh .u64 x23 8) (Z2.wrap x31),Z0.wrap (x25+1)))
 else
  (mz r4 x23).map Sum.inr
def fS (p0:ai):Option (Int×ai):=
 (cD p0 8).bind fun r4=>
 aq (fun s:(Int×Int)=>gj r4 s.1 s.2) (0,0)
def mQ (x6:ai):Option (Int×ai):=
 some (0,{ x6 with fOk:=false })
def gJ (x19:Int) (x21:Int) (x23:ai) (x30:Bool):Option ((Int×Int×ai)⊕(Int×ai)):=
 if x30 then
  (cD x23 1).bind fun r34=>
  (idx r34.1 0).bind fun x42=>
  (chk (decide (0≤x21))).bind fun u55=>
  if decide (x42<128) then
   (some (bOr .u64 x19 (eh .u64 (Z2.wrap (c9 .u8 x42 127)) x21),r34.2)).map Sum.inr
  else
   some (.inl (bOr .u64 x19 (eh .u64 (Z2.wrap (c9 .u8 x42 127)) x21),Z0.wrap (x21+7),r34.2))
 else
  (mQ x23).map Sum.inr
def jH (x19:Int) (x21:Int) (x23:ai):Option ((Int×Int×ai)⊕(Int×ai)):=
 if decide (x21<70) then
  gJ x19 x21 x23 x23.fOk
 else
  gJ x19 x21 x23 false
def eR (p0:ai):Option (Int×ai):=
 aq (fun s:(Int×Int×ai)=>jH s.1 s.2.1 s.2.2) (0,0,p0)
def fG (r28:List Int×ai) (x50:List Int):Option (List Int×ai):=
 some (x50,r28.2)
def fH (x58:Int) (x69:List Int):Option ((Int×List Int)⊕(List Int×ai)):=
 some (.inl (Z0.wrap (x58+1),x69))
def d9 (p2:Int) (r28:List Int×ai) (x58:Int) (x81:Int) (x83:List Int):Option ((Int×List Int)⊕((Int×List Int)⊕(List Int×ai))):=
 if decide (x81<p2) then
  (ix x83 x58).bind fun j98=>
  (x83[j98]?).bind fun x101=>
  (idx r28.1 (Z0.wrap ((Z0.wrap ((Z0.wrap (x58*p2))+x81)).tdiv 8))).bind fun x104=>
  (chk (decide (0≤((Z0.wrap ((Z0.wrap (x58*p2))+x81)).tmod 8)))).bind fun u109=>
  (chk (decide (0≤x81))).bind fun u111=>
  (ix x83 x58).bind fun j207=>
  (x83[j207]?).bind fun x212=>
  some (.inl (Z0.wrap (x81+1),(x83.set j207 (bOr .u64 x101 (eh .u64 (Z2.wrap (c9 .u8 (aA .u8 x104 ((Z0.wrap ((Z0.wrap (x58*p2))+x81)).tmod 8)) 1)) x81)))))
 else
  (fH x58 x83).map Sum.inr
def dz (p2:Int) (r28:List Int×ai) (z38:List Int) (x58:Int) (x60:List Int):Option ((Int×List Int)⊕(List Int×ai)):=
 if decide (x58<(z38.length:Int)) then
  aq (fun s:(Int×List Int)=>d9 p2 r28 x58 s.1 s.2) (0,x60)
 else
  (fG r28 x60).map Sum.inr
def dw (p0:ai) (p1:Int) (p2:Int):Option (List Int×ai):=
 if decide (64<p2) then
  (mk 35184372088832 p1 0).bind fun z12=>
  some (z12,{ p0 with fOk:=false })
 else
  (cD p0 (Z0.wrap ((Z0.wrap ((Z0.wrap (p1*p2))+7)).tdiv 8))).bind fun r28=>
  (mk 35184372088832 p1 0).bind fun z38=>
  aq (fun s:(Int×List Int)=>dz p2 r28 z38 s.1 s.2) (0,z38)
def cg (x6:List Ap) (x9:ai):Option (List Ap×ai):=
 some (x6,x9)
def jI (x20:List Ap) (x23:ai) (x30:Bool):Option ((List Ap×ai)⊕(List Ap×ai)):=
 if x30 then
  (dE x23).bind fun r35=>
  (app 3518437208883 x20 ([r35.1])).bind fun z47=>
  some (.inl (z47,r35.2))
 else
  (cg x20 x23).map Sum.inr
def mR (p2:Int) (x20:List Ap) (x23:ai):Option ((List Ap×ai)⊕(List Ap×ai)):=
 if decide ((x20.length:Int)<p2) then
  jI x20 x23 x23.fOk
 else
  jI x20 x23 false
def jJ (p2:Int) (x72:List Ap) (x75:ai) (x82:Bool):Option ((List Ap×ai)⊕(List Ap×ai)):=
 if x82 then
  (cD x75 1).bind fun r86=>
  (idx r86.1 0).bind fun x94=>
  (dE r86.2).bind fun r110=>
  (eQ ([r110.1]) (if (Z0.wrap (p2 - (x72.length:Int)))<(Z0.wrap x94) then Z0.wrap (p2 - (x72.length:Int)) else Z0.wrap x94)).bind fun r123=>
  (app 3518437208883 x72 r123).bind fun z129=>
  some (.inl (z129,r110.2))
 else
  (cg x72 x75).map Sum.inr
def mS (p2:Int) (x72:List Ap) (x75:ai):Option ((List Ap×ai)⊕(List Ap×ai)):=
 if decide ((x72.length:Int)<p2) then
  jJ p2 x72 x75 x75.fOk
 else
  jJ p2 x72 x75 false
def jK (x185:List Ap) (x188:Int) (x190:ai) (x197:Bool):Option ((List Ap×Int×ai)⊕(List Ap×ai)):=
 if x197 then
  (eR x190).bind fun r201=>
  (eo (Z0.wrap (x188+(dO .i64 (Z0.wrap (aA .u64 r201.1 1)) (Z0.wrap (0 - (Z0.wrap (c9 .u64 r201.1 1)))))))).bind fun r224=>
  (app 3518437208883 x185 ([r224])).bind fun z234=>
  some (.inl (z234,Z0.wrap (x188+(dO .i64 (Z0.wrap (aA .u64 r201.1 1)) (Z0.wrap (0 - (Z0.wrap (c9 .u64 r201.1 1)))))),r201.2))
 else
  (cg x185 x190).map Sum.inr
def mT (p2:Int) (x185:List Ap) (x188:Int) (x190:ai):Option ((List Ap×Int×ai)⊕(List Ap×ai)):=
 if decide ((x185.length:Int)<p2) then
  jK x185 x188 x190 x190.fOk
 else
  jK x185 x188 x190 false
def jL (x277:List Ap) (r298:List Int×ai) (x310:List Ap) (x313:Int):Option ((List Ap×Int)⊕(List Ap×ai)):=
 if decide (x313<(r298.1.length:Int)) then
  (idx r298.1 x313).bind fun x319=>
  if decide ((Z2.wrap (x277.length:Int))≤x319) then
   (some ([],r298.2)).map Sum.inr
  else
   (idx x277 x319).bind fun x337=>
   (app 3518437208883 x310 ([x337])).bind fun z347=>
   some (.inl (z347,Z0.wrap (x313+1)))
 else
  (cg x310 r298.2).map Sum.inr
def mU (p2:Int) (x277:List Ap) (x280:ai):Option (List Ap×ai):=
 (pd (Z2.wrap (Z0.wrap ((if (x277.length:Int)<1 then 1 else (x277.length:Int)) - 1)))).bind fun r291=>
 (dw x280 p2 r291).bind fun r298=>
 aq (fun s:(List Ap×Int)=>jL x277 r298 s.1 s.2) ([],0)
def mV (p2:Int) (x267:Int) (x358:List Ap) (x361:Int) (x363:ai):Option ((List Ap×Int×ai)⊕(List Ap×ai)):=
 if decide (x361<x267) then
  (dE x363).bind fun r372=>
  (app 3518437208883 x358 ([r372.1])).bind fun z384=>
  some (.inl (z384,Z4.wrap (x361+1),r372.2))
 else
  (mU p2 x358 x363).map Sum.inr
def mW (r394:Int×ai) (r423:List Int×ai) (x435:List Ap) (x438:Int):Option ((List Ap×Int)⊕(List Ap×ai)):=
 if decide (x438<(r423.1.length:Int)) then
  (idx r423.1 x438).bind fun x444=>
  (eo (Z0.wrap (Z2.wrap (r394.1+x444)))).bind fun r457=>
  (app 3518437208883 x435 ([r457])).bind fun z467=>
  some (.inl (z467,Z0.wrap (x438+1)))
 else
  (cg x435 r423.2).map Sum.inr
def bR (p0 : ai) (p1 : Int) (p2 : Int) : Option (List Ap × ai) :=
 if p1==0 then
  aq (fun s:(List Ap×ai)=>mR p2 s.1 s.2) ([],p0)
 else
  if p1==1 then
   aq (fun s:(List Ap×ai)=>mS p2 s.1 s.2) ([],p0)
  else
   if p1==2 then
    (fS p0).bind fun r153=>
    (eo (Z0.wrap r153.1)).bind fun r166=>
    (app 3518437208883 ([]) ([r166])).bind fun z176=>
    aq (fun s:(List Ap×Int×ai)=>mT p2 s.1 s.2.1 s.2.2) (z176,Z0.wrap r153.1,r153.2)
   else
    if p1==3 then
     (cD p0 1).bind fun r259=>
     (idx r259.1 0).bind fun x267=>
     aq (fun s:(List Ap×Int×ai)=>mV p2 x267 s.1 s.2.1 s.2.2) ([],0,r259.2)
    else
     (fS p0).bind fun r394=>
     (cD r394.2 1).bind fun r407=>
     (idx r407.1 0).bind fun x415=>
     (dw r407.2 p2 (Z0.wrap x415)).bind fun r423=>
     aq (fun s:(List Ap×Int)=>mW r394 r423 s.1 s.2) ([],0)
def iU (x30:List Ap) (x56:Bool):Option (List Ap×Int):=
 if x56 then
  some ([],60)
 else
  some (x30,0)
def kA (p0 : Int) (p1 : List Int) (p2 : Int) (x30 : List Ap) (x33 : ai) : Option (List Ap × Int) :=
 (eW p0 x30).bind fun r39=>
 if !x33.fOk then
  iU x30 true
 else
  if r39.2 != 0 then
   iU x30 true
  else
   if (x30.length:Int) != p2 then
    iU x30 true
   else
    (fZ r39.1 p1).bind fun r95=>
    iU x30 (!r95)
def kB (p0:Int) (p1:List Int) (p2:Int) (x12:Bool):Option (List Ap×Int):=
 if x12 then
  some ([],61)
 else
  if decide (0<p2) then
   (bR (⟨p1,true⟩:ai) p0 p2).bind fun r107=>
   kA p0 p1 p2 r107.1 r107.2
  else
   kA p0 p1 p2 ([]) (⟨p1,true⟩:ai)
def kC (p0:Int) (p1:List Int) (p2:Int) (x5:Bool):Option (List Ap×Int):=
 if x5 then
  some ([],62)
 else
  if decide (p2<0) then
   kB p0 p1 p2 true
  else
   kB p0 p1 p2 (decide (64<p2))
def kV (p0:Int) (p1:List Int) (p2:Int):Option (List Ap×Int):=
 if decide (p0<0) then
  kC p0 p1 p2 true
 else
  kC p0 p1 p2 (decide (4<p0))
def jm (r5:bI×List Int×Bool) (r120:List Ap×Int) (x159:Bool):Option (List Ap×Int×Int):=
 if x159 then
  some ([],0,70)
 else
  some (r120.1,r5.1.fBytes,0)
def kD (p0 : List Int) : Option (List Ap × Int × Int) :=
 (jt p0).bind fun r5=>
 if !r5.2.2 then
  some ([],0,70)
 else
  (sub p0 0 (Z0.wrap (r5.1.fBytes - 4))).bind fun x39=>
  (jN x39).bind fun r43=>
  (jX r43).bind fun r50=>
  (sub p0 0 r5.1.fBytes).bind fun x58=>
  (fZ r50 x58).bind fun r100=>
  if !r100 then
   some ([],0,71)
  else
   (kV r5.1.fKind r5.2.1 r5.1.fMany).bind fun r120=>
   if r120.2 != 0 then
    some ([],0,70)
   else
    (kx r5.1.fKind r120.1).bind fun r146=>
    if r146.fNulls != r5.1.fNulls then
     jm r5 r120 true
    else
     if !decide (r146.fMin=r5.1.fMin) then
      jm r5 r120 true
     else
      jm r5 r120 (!decide (r146.fMax=r5.1.fMax))
def Bi:Option Bool:=
 some true
def qp (p0:List Ap) (p1:List Ap) (x16:Int):Option (Int⊕Bool):=
 if decide (x16<(p0.length:Int)) then
  (idx p0 x16).bind fun x25=>
  (idx p1 x16).bind fun x29=>
  if !decide (x25=x29) then
   (some false).map Sum.inr
  else
   some (.inl (Z0.wrap (x16+1)))
 else
  (Bi).map Sum.inr
def qJ (p0:List Ap) (p1:List Ap):Option Bool:=
 if (p0.length:Int) != (p1.length:Int) then
  some false
 else
  aq (fun s:Int=>qp p0 p1 s) 0
def CF (x8:List aa):Option (List aa):=
 some x8
def rF (p0:List aa) (x16:List aa) (x19:Int):Option ((List aa×Int)⊕List aa):=
 if decide (x19<(p0.length:Int)) then
  (idx p0 x19).bind fun x25=>
  (w9 x25.fRow).bind fun r39=>
  (app 2932031007402 x16 ([{ x25 with fRow:=r39 }])).bind fun z56=>
  some (.inl (z56,Z0.wrap (x19+1)))
 else
  (CF x16).map Sum.inr
def sy (p0:List aa):Option (List aa):=
 aq (fun s:(List aa×Int)=>rF p0 s.1 s.2) ([],0)
def mX (p0:aa):Option aa:=
 (gP p0.fRow).bind fun r10=>
 some ({ p0 with fRow:=r10 })
def zN (x8:List Ap):Option (List Ap):=
 some x8
def mf (x16:List Ap) (x19:Int) (x50:Ap):Option ((List Ap×Int)⊕List Ap):=
 (app 3518437208883 x16 ([x50])).bind fun z61=>
 some (.inl (z61,Z0.wrap (x19+1)))
def mg (p1:List Ap) (x16:List Ap) (x19:Int) (x25:Int) (r33:Ap) (x46:Bool):Option ((List Ap×Int)⊕List Ap):=
 if x46 then
  (idx p1 x25).bind fun x73=>
  mf x16 x19 x73
 else
  mf x16 x19 r33
def pj (p0:List Int) (p1:List Ap) (x16:List Ap) (x19:Int):Option ((List Ap×Int)⊕List Ap):=
 if decide (x19<(p0.length:Int)) then
  (idx p0 x19).bind fun x25=>
  (kp).bind fun r33=>
  if decide (0≤x25) then
   mg p1 x16 x19 x25 r33 (decide (x25<(p1.length:Int)))
  else
   mg p1 x16 x19 x25 r33 false
 else
  (zN x16).map Sum.inr
def ll (p0:List Int) (p1:List Ap):Option (List Ap):=
 aq (fun s:(List Ap×Int)=>pj p0 p1 s.1 s.2) ([],0)
def vc (p0:List Ap) (p1:List Ap):Option Int:=
 (hZ (p0.length:Int) (p1.length:Int)).bind fun r15=>
 some r15
def vd (p0:List Ap) (p1:List Ap) (x25:Int):Option (Int⊕Int):=
 if decide (x25<(if (p1.length:Int)<(p0.length:Int) then (p1.length:Int) else (p0.length:Int))) then
  (idx p0 x25).bind fun x33=>
  (idx p1 x25).bind fun x37=>
  (cB x33 x37).bind fun r83=>
  if r83 != 0 then
   (some r83).map Sum.inr
  else
   some (.inl (Z0.wrap (x25+1)))
 else
  (vc p0 p1).map Sum.inr
def oK (p0:List Ap) (p1:List Ap):Option Int:=
 aq (fun s:Int=>vd p0 p1 s) 0
def kE (p0:Int):Option Bool:=
 some (p0 != p0)
def gT (p0 : Int) (p1 : Int) : Option Int :=
 (kE p0).bind fun r3=>
 (kE p1).bind fun r11=>
 if r3 then
  if r11 then
   some 0
  else
   some (-1)
 else
  if r11 then
   some 1
  else
   if decide (p0<p1) then
    some (-1)
   else
    if decide (p1<p0) then
     some 1
    else
     some 0
def kF (p0:Int):Option Bool:=
 some (p0 != p0)
def gU (p0 : Int) (p1 : Int) : Option Int :=
 (kF p0).bind fun r3=>
 (kF p1).bind fun r11=>
 if r3 then
  if r11 then
   some 0
  else
   some (-1)
 else
  if r11 then
   some 1
  else
   if decide (p0<p1) then
    some (-1)
   else
    if decide (p1<p0) then
     some 1
    else
     some 0
def Bj:Option Int:=
 some 0
def gc (p0:List Int) (x13:Int):Option (Int⊕Int):=
 if decide (x13<(p0.length:Int)) then
  (idx p0 x13).bind fun x19=>
  if x19 != 0 then
   (some x19).map Sum.inr
  else
   some (.inl (Z0.wrap (x13+1)))
 else
  (Bj).map Sum.inr
def mh (p0:List Int):Option Int:=
 aq (fun s:Int=>gc p0 s) 0
def kW (p0:aK) (p1:aK):Option Int:=
 (gT p0.fEpoch p1.fEpoch).bind fun r14=>
 (gU p0.fNumber p1.fNumber).bind fun r78=>
 (mh ([r14,r78])).bind fun r89=>
 some r89
def eu (p0:aa) (p1:aa) (p2:List Int):Option Int:=
 (ll p2 p0.fRow).bind fun r12=>
 (ll p2 p1.fRow).bind fun r19=>
 (oK r12 r19).bind fun r24=>
 (kW p0.fId p1.fId).bind fun r94=>
 (mh ([r24,r94])).bind fun r105=>
 some r105
def cw (x6:Int) (x19:List aa):Option ((Int×List aa)⊕List aa):=
 some (.inl (Z0.wrap (x6+1),x19))
def aW (x6:Int) (x30:Int) (x32:List aa) (x39:Bool):Option ((Int×List aa)⊕((Int×List aa)⊕List aa)):=
 if x39 then
  (ix x32 (Z0.wrap (x30 - 1))).bind fun j42=>
  (x32[j42]?).bind fun x45=>
  (ix x32 x30).bind fun j47=>
  (x32[j47]?).bind fun x50=>
  (ix x32 x30).bind fun j52=>
  (x32[j52]?).bind fun x56=>
  (ix (x32.set j52 x45) (Z0.wrap (x30 - 1))).bind fun j134=>
  ((x32.set j52 x45)[j134]?).bind fun x139=>
  some (.inl (Z0.wrap (x30 - 1),((x32.set j52 x45).set j134 x50)))
 else
  (cw x6 x32).map Sum.inr
def aX (p1:Int) (p3:(aa→aa→Option Int)) (x6:Int) (x30:Int) (x32:List aa):Option ((Int×List aa)⊕((Int×List aa)⊕List aa)):=
 if decide (p1<x30) then
  (ix x32 x30).bind fun j146=>
  (x32[j146]?).bind fun x149=>
  (ix x32 (Z0.wrap (x30 - 1))).bind fun j151=>
  (x32[j151]?).bind fun x154=>
  (p3 x149 x154).bind fun r249=>
  aW x6 x30 x32 (decide (r249<0))
 else
  aW x6 x30 x32 false
def bg (p1:Int) (p2:Int) (p3:(aa→aa→Option Int)) (x6:Int) (x8:List aa):Option ((Int×List aa)⊕List aa):=
 if decide (x6<p2) then
  aq (fun s:(Int×List aa)=>aX p1 p3 x6 s.1 s.2) (x6,x8)
 else
  (some x8).map Sum.inr
def ce (p0:List aa) (p1:Int) (p2:Int) (p3:(aa→aa→Option Int)):Option (List aa):=
 aq (fun s:(Int×List aa)=>bg p1 p2 p3 s.1 s.2) (Z0.wrap (p1+1),p0)
def bB (p1:Int) (p2:Int) (p3:Int) (x4:Int) (x6:List aa):Option ((Int×List aa)⊕List aa):=
 if decide (x4<p3) then
  (ix x6 (Z0.wrap (p2+x4))).bind fun j15=>
  (x6[j15]?).bind fun x18=>
  (ix x6 (Z0.wrap (p1+x4))).bind fun j20=>
  (x6[j20]?).bind fun x23=>
  (ix x6 (Z0.wrap (p1+x4))).bind fun j25=>
  (x6[j25]?).bind fun x29=>
  (ix (x6.set j25 x18) (Z0.wrap (p2+x4))).bind fun j137=>
  ((x6.set j25 x18)[j137]?).bind fun x142=>
  some (.inl (Z0.wrap (x4+1),((x6.set j25 x18).set j137 x23)))
 else
  (some x6).map Sum.inr
def cc (p0:List aa) (p1:Int) (p2:Int) (p3:Int) (p4:(aa→aa→Option Int)):Option (List aa):=
 aq (fun s:(Int×List aa)=>bB p1 p2 p3 s.1 s.2) (0,p0)
def dW (p2:Int) (p4:(aa→aa→Option Int)) (x11:Int) (x13:List aa):Option (List aa):=
 (cc x13 (Z0.wrap (p2 - x11)) p2 x11 p4).bind fun r24=>
 some r24
def bv (p2:Int) (p4:(aa→aa→Option Int)) (x33:Int) (x35:Int) (x37:List aa):Option ((Int×Int×List aa)⊕List aa):=
 if x33 != x35 then
  if decide (x35<x33) then
   (cc x37 (Z0.wrap (p2 - x33)) p2 x35 p4).bind fun r57=>
   some (.inl (Z0.wrap (x33 - x35),x35,r57))
  else
   (cc x37 (Z0.wrap (p2 - x33)) (Z0.wrap ((Z0.wrap (p2+x35)) - x33)) x33 p4).bind fun r79=>
   some (.inl (x33,Z0.wrap (x35 - x33),r79))
 else
  (dW p2 p4 x33 x37).map Sum.inr
def cy (p0:List aa) (p1:Int) (p2:Int) (p3:Int) (p4:(aa→aa→Option Int)):Option (List aa):=
 aq (fun s:(Int×Int×List aa)=>bv p2 p4 s.1 s.2.1 s.2.2) (Z0.wrap (p2 - p1),Z0.wrap (p3 - p2),p0)
def dI (x19:List aa):Option (List aa):=
 some x19
def bD (x12:Int) (x25:Int) (x27:List aa):Option ((Int×List aa)⊕List aa):=
 if decide (x25<(Z0.wrap (x12 - 1))) then
  (ix x27 (Z0.wrap (x25+1))).bind fun j37=>
  (x27[j37]?).bind fun x40=>
  (ix x27 x25).bind fun j42=>
  (x27[j42]?).bind fun x45=>
  (ix x27 x25).bind fun j47=>
  (x27[j47]?).bind fun x51=>
  (ix (x27.set j47 x40) (Z0.wrap (x25+1))).bind fun j129=>
  ((x27.set j47 x40)[j129]?).bind fun x134=>
  some (.inl (Z0.wrap (x25+1),((x27.set j47 x40).set j129 x45)))
 else
  (dI x27).map Sum.inr
def cO (p0:List aa) (p1:Int) (x12:Int):Option (List aa):=
 aq (fun s:(Int×List aa)=>bD x12 s.1 s.2) (p1,p0)
def bT (p0:List aa) (p1:Int) (p4:(aa→aa→Option Int)) (x142:Int) (x144:Int):Option ((Int×Int)⊕List aa):=
 if decide (x142<x144) then
  (ix p0 (Z0.wrap (aA .u64 (Z2.wrap (Z0.wrap (x142+x144))) 1))).bind fun j159=>
  (p0[j159]?).bind fun x162=>
  (ix p0 p1).bind fun j164=>
  (p0[j164]?).bind fun x167=>
  (p4 x162 x167).bind fun r215=>
  if decide (r215<0) then
   some (.inl (Z0.wrap ((Z0.wrap (aA .u64 (Z2.wrap (Z0.wrap (x142+x144))) 1))+1),x144))
  else
   some (.inl (x142,Z0.wrap (aA .u64 (Z2.wrap (Z0.wrap (x142+x144))) 1)))
 else
  (cO p0 p1 x142).map Sum.inr
def dJ (x247:List aa):Option (List aa):=
 some x247
def bE (x240:Int) (x253:Int) (x255:List aa):Option ((Int×List aa)⊕List aa):=
 if decide (x240<x253) then
  (ix x255 (Z0.wrap (x253 - 1))).bind fun j264=>
  (x255[j264]?).bind fun x267=>
  (ix x255 x253).bind fun j269=>
  (x255[j269]?).bind fun x272=>
  (ix x255 x253).bind fun j274=>
  (x255[j274]?).bind fun x278=>
  (ix (x255.set j274 x267) (Z0.wrap (x253 - 1))).bind fun j356=>
  ((x255.set j274 x267)[j356]?).bind fun x361=>
  some (.inl (Z0.wrap (x253 - 1),((x255.set j274 x267).set j356 x272)))
 else
  (dJ x255).map Sum.inr
def cP (p0:List aa) (p2:Int) (x240:Int):Option (List aa):=
 aq (fun s:(Int×List aa)=>bE x240 s.1 s.2) (p2,p0)
def bU (p0:List aa) (p2:Int) (p4:(aa→aa→Option Int)) (x369:Int) (x371:Int):Option ((Int×Int)⊕List aa):=
 if decide (x369<x371) then
  (ix p0 p2).bind fun j386=>
  (p0[j386]?).bind fun x389=>
  (ix p0 (Z0.wrap (aA .u64 (Z2.wrap (Z0.wrap (x369+x371))) 1))).bind fun j391=>
  (p0[j391]?).bind fun x394=>
  (p4 x389 x394).bind fun r442=>
  if !(decide (r442<0)) then
   some (.inl (Z0.wrap ((Z0.wrap (aA .u64 (Z2.wrap (Z0.wrap (x369+x371))) 1))+1),x371))
  else
   some (.inl (x369,Z0.wrap (aA .u64 (Z2.wrap (Z0.wrap (x369+x371))) 1)))
 else
  (cP p0 p2 x369).map Sum.inr
def cH (p1:Int) (p2:Int) (p3:Int) (p4:(aa→aa→Option Int)) (self_:((List aa)→Int→Int→Int→(aa→aa→Option Int)→Option (List aa))) (x485:Int) (x508:List aa) (x514:Bool):Option (List aa):=
 if x514 then
  (self_ x508 (Z0.wrap (aA .u64 (Z2.wrap (Z0.wrap (p1+p3))) 1)) (Z0.wrap ((Z0.wrap ((Z0.wrap (aA .u64 (Z2.wrap (Z0.wrap (p1+p3))) 1))+p2)) - x485)) p3 p4).bind fun r522=>
  some r522
 else
  some x508
def cj (p1:Int) (p2:Int) (p3:Int) (p4:(aa→aa→Option Int)) (self_:((List aa)→Int→Int→Int→(aa→aa→Option Int)→Option (List aa))) (x485:Int) (x508:List aa):Option (List aa):=
 if decide ((Z0.wrap (aA .u64 (Z2.wrap (Z0.wrap (p1+p3))) 1))<(Z0.wrap ((Z0.wrap ((Z0.wrap (aA .u64 (Z2.wrap (Z0.wrap (p1+p3))) 1))+p2)) - x485))) then
  cH p1 p2 p3 p4 self_ x485 x508 (decide ((Z0.wrap ((Z0.wrap ((Z0.wrap (aA .u64 (Z2.wrap (Z0.wrap (p1+p3))) 1))+p2)) - x485))<p3))
 else
  cH p1 p2 p3 p4 self_ x485 x508 false
def cQ (p1:Int) (p2:Int) (p3:Int) (p4:(aa→aa→Option Int)) (self_:((List aa)→Int→Int→Int→(aa→aa→Option Int)→Option (List aa))) (x485:Int) (x498:List aa) (x504:Bool):Option (List aa):=
 if x504 then
  (self_ x498 p1 x485 (Z0.wrap (aA .u64 (Z2.wrap (Z0.wrap (p1+p3))) 1)) p4).bind fun r545=>
  cj p1 p2 p3 p4 self_ x485 r545
 else
  cj p1 p2 p3 p4 self_ x485 x498
def cl (p1:Int) (p2:Int) (p3:Int) (p4:(aa→aa→Option Int)) (self_:((List aa)→Int→Int→Int→(aa→aa→Option Int)→Option (List aa))) (x485:Int) (x498:List aa):Option (List aa):=
 if decide (p1<x485) then
  cQ p1 p2 p3 p4 self_ x485 x498 (decide (x485<(Z0.wrap (aA .u64 (Z2.wrap (Z0.wrap (p1+p3))) 1))))
 else
  cQ p1 p2 p3 p4 self_ x485 x498 false
def cR (p0:List aa) (p1:Int) (p2:Int) (p3:Int) (p4:(aa→aa→Option Int)) (self_:((List aa)→Int→Int→Int→(aa→aa→Option Int)→Option (List aa))) (x485:Int) (x494:Bool):Option (List aa):=
 if x494 then
  (cy p0 x485 p2 (Z0.wrap ((Z0.wrap ((Z0.wrap (aA .u64 (Z2.wrap (Z0.wrap (p1+p3))) 1))+p2)) - x485)) p4).bind fun r568=>
  cl p1 p2 p3 p4 self_ x485 r568
 else
  cl p1 p2 p3 p4 self_ x485 p0
def cm (p0:List aa) (p1:Int) (p2:Int) (p3:Int) (p4:(aa→aa→Option Int)) (self_:((List aa)→Int→Int→Int→(aa→aa→Option Int)→Option (List aa))) (x485:Int):Option (List aa):=
 if decide (x485<p2) then
  cR p0 p1 p2 p3 p4 self_ x485 (decide (p2<(Z0.wrap ((Z0.wrap ((Z0.wrap (aA .u64 (Z2.wrap (Z0.wrap (p1+p3))) 1))+p2)) - x485))))
 else
  cR p0 p1 p2 p3 p4 self_ x485 false
def cp (p0:List aa) (p1:Int) (p2:Int) (p3:Int) (p4:(aa→aa→Option Int)) (self_:((List aa)→Int→Int→Int→(aa→aa→Option Int)→Option (List aa))) (x587:Int) (x589:Int):Option ((Int×Int)⊕List aa):=
 if decide (x587<x589) then
  (ix p0 (Z0.wrap ((Z0.wrap ((Z0.wrap ((Z0.wrap (aA .u64 (Z2.wrap (Z0.wrap (p1+p3))) 1))+p2)) - 1)) - (Z0.wrap (aA .u64 (Z2.wrap (Z0.wrap (x587+x589))) 1))))).bind fun j604=>
  (p0[j604]?).bind fun x607=>
  (ix p0 (Z0.wrap (aA .u64 (Z2.wrap (Z0.wrap (x587+x589))) 1))).bind fun j609=>
  (p0[j609]?).bind fun x612=>
  (p4 x607 x612).bind fun r670=>
  if !(decide (r670<0)) then
   some (.inl (Z0.wrap ((Z0.wrap (aA .u64 (Z2.wrap (Z0.wrap (x587+x589))) 1))+1),x589))
  else
   some (.inl (x587,Z0.wrap (aA .u64 (Z2.wrap (Z0.wrap (x587+x589))) 1)))
 else
  (cm p0 p1 p2 p3 p4 self_ x587).map Sum.inr
def ct (p0:List aa) (p1:Int) (p2:Int) (p3:Int) (p4:(aa→aa→Option Int)) (self_:((List aa)→Int→Int→Int→(aa→aa→Option Int)→Option (List aa))) (x475:Int) (x477:Int):Option (List aa):=
 aq (fun s:(Int×Int)=>cp p0 p1 p2 p3 p4 self_ s.1 s.2) (x475,x477)
def cW (self_ : ((List aa) → Int → Int → Int → (aa → aa → Option Int) → Option (List aa))) (p0 : List aa) (p1 : Int) (p2 : Int) (p3 : Int) (p4 : (aa → aa → Option Int)) : Option (List aa) :=
 if (Z0.wrap (p2 - p1))==1 then
  aq (fun s:(Int×Int)=>bT p0 p1 p4 s.1 s.2) (p2,p3)
 else
  if (Z0.wrap (p3 - p2))==1 then
   aq (fun s:(Int×Int)=>bU p0 p2 p4 s.1 s.2) (p1,p2)
  else
   if decide ((Z0.wrap (aA .u64 (Z2.wrap (Z0.wrap (p1+p3))) 1))<p2) then
    ct p0 p1 p2 p3 p4 self_ (Z0.wrap ((Z0.wrap ((Z0.wrap (aA .u64 (Z2.wrap (Z0.wrap (p1+p3))) 1))+p2)) - p3)) (Z0.wrap (aA .u64 (Z2.wrap (Z0.wrap (p1+p3))) 1))
   else
    ct p0 p1 p2 p3 p4 self_ p1 p2
def cX:Nat→(List aa)→Int→Int→Int→(aa→aa→Option Int)→Option (List aa)
 |0=>fun _ _ _ _ _=>none
 |n+1=>cW (cX n)
def dp (p0:List aa) (p1:Int) (p2:Int) (p3:Int) (p4:(aa→aa→Option Int)):Option (List aa):=cX (p0.length+1) p0 p1 p2 p3 p4
def cC (x26:Int) (x58:List aa):Option ((Int×List aa)⊕List aa):=
 some (.inl (Z0.wrap (x26*2),x58))
def dc (p1:Int) (p2:(aa→aa→Option Int)) (x26:Int) (x43:Int) (x45:List aa):Option ((Int×List aa)⊕List aa):=
 if decide ((Z0.wrap (x43+x26))<p1) then
  (dp x45 x43 (Z0.wrap (x43+x26)) p1 p2).bind fun r71=>
  cC x26 r71
 else
  cC x26 x45
def bO (p1:Int) (p2:(aa→aa→Option Int)) (x26:Int) (x80:Int) (x82:Int) (x84:List aa):Option ((Int×Int×List aa)⊕((Int×List aa)⊕List aa)):=
 if decide (x82≤p1) then
  (dp x84 x80 (Z0.wrap (x80+x26)) x82 p2).bind fun r100=>
  some (.inl (x82,Z0.wrap (x82+(Z0.wrap (2*x26))),r100))
 else
  (dc p1 p2 x26 x80 x84).map Sum.inr
def a7 (p1:Int) (p2:(aa→aa→Option Int)) (x26:Int) (x28:List aa):Option ((Int×List aa)⊕List aa):=
 if decide (x26<p1) then
  aq (fun s:(Int×Int×List aa)=>bO p1 p2 x26 s.1 s.2.1 s.2.2) (0,Z0.wrap (2*x26),x28)
 else
  (some x28).map Sum.inr
def dX (p1:Int) (p2:(aa→aa→Option Int)) (x7:Int) (x9:List aa):Option (List aa):=
 (ce x9 x7 p1 p2).bind fun r17=>
 aq (fun s:(Int×List aa)=>a7 p1 p2 s.1 s.2) (20,r17)
def bw (p1:Int) (p2:(aa→aa→Option Int)) (x116:Int) (x118:Int) (x120:List aa):Option ((Int×Int×List aa)⊕List aa):=
 if decide (x118≤p1) then
  (ce x120 x116 x118 p2).bind fun r133=>
  some (.inl (x118,Z0.wrap (x118+20),r133))
 else
  (dX p1 p2 x116 x120).map Sum.inr
def eJ (p0:List aa) (p1:Int) (p2:(aa→aa→Option Int)):Option (List aa):=
 aq (fun s:(Int×Int×List aa)=>bw p1 p2 s.1 s.2.1 s.2.2) (0,20,p0)
def dC (p0:List aa) (p1:(aa→aa→Option Int)):Option (List aa):=
 (eJ p0 (p0.length:Int) p1).bind fun r5=>
 some r5
def im (p0:List Int) (x12:List aa):Option (List aa):=
 (dC x12 (fun y0_ y1_=>eu y0_ y1_ p0)).bind fun r23=>
 some r23
def io (p0:List Int) (p1:List aa) (x43:Int) (x45:List aa):Option ((Int×List aa)⊕List aa):=
 if decide (x43<(p1.length:Int)) then
  (idx p1 x43).bind fun x54=>
  (mX x54).bind fun r68=>
  (app 2932031007402 x45 ([r68])).bind fun z78=>
  some (.inl (Z0.wrap (x43+1),z78))
 else
  (im p0 x45).map Sum.inr
def iH (p0:List Int) (p1:List aa):Option (List aa):=
 aq (fun s:(Int×List aa)=>io p0 p1 s.1 s.2) (0,([]:List aa))
def Gz (x6:List Ap):Option (List Ap):=
 some x6
def sA (x14:List Ap) (x17:Int) (x39:Ap):Option ((List Ap×Int)⊕List Ap):=
 (app 3518437208883 x14 ([x39])).bind fun z50=>
 some (.inl (z50,Z0.wrap (x17+1)))
def sB (p0:List Int) (p1:List Ap) (x14:List Ap) (x17:Int) (x35:Bool):Option ((List Ap×Int)⊕List Ap):=
 if x35 then
  (idx p0 x17).bind fun x64=>
  (idx p1 x64).bind fun x71=>
  sA x14 x17 x71
 else
  sA x14 x17 (⟨0,false,0,[]⟩:Ap)
def vX (p0:List Int) (p1:List Ap) (x14:List Ap) (x17:Int):Option ((List Ap×Int)⊕List Ap):=
 if decide (x17<(p0.length:Int)) then
  (idx p0 x17).bind fun x82=>
  if decide (0≤x82) then
   (idx p0 x17).bind fun x94=>
   sB p0 p1 x14 x17 (decide (x94<(p1.length:Int)))
  else
   sB p0 p1 x14 x17 false
 else
  (Gz x14).map Sum.inr
def vY (p0:List Int) (p1:List Ap):Option (List Ap):=
 aq (fun s:(List Ap×Int)=>vX p0 p1 s.1 s.2) ([],0)
def yX (p0:List Ap) (p1:List Ap):Option Int:=
 if decide ((p0.length:Int)<(p1.length:Int)) then
  some (-1)
 else
  some 0
def yY (p0 : List Ap) (p1 : List Ap) (x16 : Int) : Option (Int ⊕ Int) :=
 if decide (x16 < (p0.length : Int)) then
  if x16==(p1.length:Int) then
   (some 1).map Sum.inr
  else
   (idx p0 x16).bind fun x31=>
   (idx p1 x16).bind fun x35=>
   (iw x31 x35).bind fun r81=>
   if r81 != 0 then
    (some r81).map Sum.inr
   else
    some (.inl (Z0.wrap (x16+1)))
 else
  (yX p0 p1).map Sum.inr
def xc (p0:List Ap) (p1:List Ap):Option Int:=
 aq (fun s:Int=>yY p0 p1 s) 0
def sC (p0:aK) (p1:aK):Option Bool:=
 if p0.fEpoch != p1.fEpoch then
  some (decide (p0.fEpoch<p1.fEpoch))
 else
  some (decide (p0.fNumber<p1.fNumber))
def sD (p0:List Int) (p1:aa) (p2:aa):Option Bool:=
 (vY p0 p1.fRow).bind fun r11=>
 (vY p0 p2.fRow).bind fun r53=>
 (xc r11 r53).bind fun r59=>
 if r59 != 0 then
  some (decide (r59<0))
 else
  (sC p1.fId p2.fId).bind fun r79=>
  some r79
def CG (x6:List aa):Option (List aa):=
 some x6
def rG (x17:Int) (x28:List aa):Option ((List aa×Int)⊕List aa):=
 some (.inl (x28,Z0.wrap (x17+1)))
def oL (p1:List aa) (x14:List aa) (x17:Int) (x40:Int):Option ((List aa×Int)⊕List aa):=
 (sub x14 0 x40).bind fun x47=>
 (app 2932031007402 ([]) x47).bind fun z51=>
 (idx p1 x17).bind fun x61=>
 (app 2932031007402 z51 ([x61])).bind fun z71=>
 (sub x14 x40 x14.length).bind fun x81=>
 (app 2932031007402 z71 x81).bind fun z85=>
 rG x17 z85
def j5 (p0:List Int) (p1:List aa) (x14:List aa) (x17:Int) (x96:Int):Option (Int⊕((List aa×Int)⊕List aa)):=
 if decide (0<x96) then
  (idx p1 x17).bind fun x103=>
  (idx x14 (Z0.wrap (x96 - 1))).bind fun x107=>
  (sD p0 x103 x107).bind fun r162=>
  if !r162 then
   (oL p1 x14 x17 x96).map Sum.inr
  else
   some (.inl (Z0.wrap (x96 - 1)))
 else
  (oL p1 x14 x17 x96).map Sum.inr
def vZ (p0:List Int) (p1:List aa) (x14:List aa) (x17:Int):Option ((List aa×Int)⊕List aa):=
 if decide (x17<(p1.length:Int)) then
  aq (fun s:Int=>j5 p0 p1 x14 x17 s) (x14.length:Int)
 else
  (CG x14).map Sum.inr
def sE (p0:List Int) (p1:List aa):Option (List aa):=
 aq (fun s:(List aa×Int)=>vZ p0 p1 s.1 s.2) ([],0)
def vk:Option Int:=
 some (-1)
def gp (p0:List Int) (p1:Int) (x11:Int):Option (Int⊕Int):=
 if decide (x11<(p0.length:Int)) then
  (idx p0 x11).bind fun x22=>
  if p1==x22 then
   (some x11).map Sum.inr
  else
   some (.inl (Z0.wrap (x11+1)))
 else
  (vk).map Sum.inr
def kG (p0:List Int) (p1:Int):Option Int:=
 aq (fun s:Int=>gp p0 p1 s) 0
def gq (p0:List Int) (p1:Int):Option Bool:=
 (kG p0 p1).bind fun r4=>
 some (decide (0≤r4))
def iV (x20:Bool):Option Bool:=
 some x20
def iW (p0 : Int) (p1 : aa) (x16 : Bool) : Option Bool :=
 if (p1.fRow.length : Int) == p0 then
  if decide (1≤p1.fId.fEpoch) then
   if decide (p1.fId.fEpoch≤9223372036854775807) then
    iV (!x16)
   else
    iV false
  else
   iV false
 else
  iV false
def kH (p0:Int) (p1:aa):Option Bool:=
 if p1.fDeleted != 0 then
  if decide (p1.fDeleted≤p1.fId.fEpoch) then
   iW p0 p1 true
  else
   iW p0 p1 (decide (9223372036854775807<p1.fDeleted))
 else
  iW p0 p1 false
def kI (p0:Int) (p1:aa) (x98:Int):Option (Int⊕Bool):=
 if decide (x98<(p1.fRow.length:Int)) then
  (idx p1.fRow x98).bind fun x104=>
  (lf x104).bind fun r117=>
  if !r117 then
   (some false).map Sum.inr
  else
   some (.inl (Z0.wrap (x98+1)))
 else
  (kH p0 p1).map Sum.inr
def kX (p0:Int) (p1:aa):Option Bool:=
 aq (fun s:Int=>kI p0 p1 s) 0
def lR (x29:List aK):Option Int:=
 some 0
def fq (x37:Int) (x39:List aK) (x47:aa) (x63:Bool):Option ((Int×List aK)⊕Int):=
 if x63 then
  (some 81).map Sum.inr
 else
  some (.inl (Z0.wrap (x37+1),(x47.fId::x39)))
def dq (p0:Int) (p2:List aa) (x37:Int) (x39:List aK):Option ((Int×List aK)⊕Int):=
 if decide (x37<(p2.length:Int)) then
  (idx p2 x37).bind fun x47=>
  (kX p0 x47).bind fun r72=>
  if !r72 then
   fq x37 x39 x47 true
  else
   fq x37 x39 x47 (decide (1<(jh (x47.fId::x39) x47.fId)))
 else
  (lR x39).map Sum.inr
def ew (p0:Int) (p2:List aa):Option Int:=
 if decide (4096<(p2.length:Int)) then
  some 81
 else
  aq (fun s:(Int×List aK)=>dq p0 p2 s.1 s.2) (0,([]:List aK))
def ez (x91:Int) (x109:Bool):Option (Int⊕Int):=
 if x109 then
  (some 1).map Sum.inr
 else
  some (.inl (Z0.wrap (x91+1)))
def ft (p0 : Int) (p1 : List Int) (p2 : List aa) (x91 : Int) : Option (Int ⊕ Int) :=
 if decide (x91 < (p1.length : Int)) then
  (idx p1 x91).bind fun x98=>
  if decide (x98<0) then
   ez x91 true
  else
   if decide (p0≤x98) then
    ez x91 true
   else
    (sub p1 0 x91).bind fun x131=>
    (gq x131 x98).bind fun r136=>
    ez x91 r136
 else
  (ew p0 p2).map Sum.inr
def fu (p0:Int) (p1:List Int) (p2:List aa) (x4:Bool):Option Int:=
 if x4 then
  some 1
 else
  aq (fun s:Int=>ft p0 p1 p2 s) 0
def fT (p0:Int) (p1:List Int) (p2:List aa):Option Int:=
 if decide (p0<1) then
  fu p0 p1 p2 true
 else
  fu p0 p1 p2 (decide (8<p0))
def iX (p0:List Int) (p1:Int):Option (List Int):=
 (app 140737488355328 p0 ([Z4.wrap (aA .i64 p1 24),Z4.wrap (aA .i64 p1 16),Z4.wrap (aA .i64 p1 8),Z4.wrap p1])).bind fun z18=>
 some z18
def xq (x8:List Ap):Option (List Ap):=
 some x8
def f8 (x19:Int) (x43:List Ap):Option ((List Ap×Int)⊕List Ap):=
 some (.inl (x43,Z0.wrap (x19+1)))
def mF (p0 : Int) (p1 : Int) (p2 : List aa) (x16 : List Ap) (x19 : Int) : Option ((List Ap × Int) ⊕ List Ap) :=
 if decide (x19 < (p2.length : Int)) then
  (idx p2 x19).bind fun x25=>
  if (Z0.wrap (p1 - p0))==0 then
   (eo (Z0.wrap x25.fId.fEpoch)).bind fun r57=>
   (app 3518437208883 x16 ([r57])).bind fun z67=>
   f8 x19 z67
  else
   if (Z0.wrap (p1 - p0))==1 then
    (eo (Z0.wrap x25.fId.fNumber)).bind fun r84=>
    (app 3518437208883 x16 ([r84])).bind fun z94=>
    f8 x19 z94
   else
    if (Z0.wrap (p1 - p0))==2 then
     (eo (Z0.wrap x25.fDeleted)).bind fun r110=>
     (app 3518437208883 x16 ([r110])).bind fun z120=>
     f8 x19 z120
    else
     (idx x25.fRow p1).bind fun x132=>
     (app 3518437208883 x16 ([x132])).bind fun z142=>
     f8 x19 z142
 else
  (xq x16).map Sum.inr
def j6 (p0:Int) (p1:Int) (p2:List aa):Option (List Ap):=
 aq (fun s:(List Ap×Int)=>mF p0 p1 p2 s.1 s.2) ([],0)
def cF {σ:Type} (step:(σ→(List Ap)→Option (σ×Bool))) (p1:List Ap) (p2:Int) (x4:Int) (x6:σ):Option ((Int×σ)⊕σ):=
 if decide (x4<(p1.length:Int)) then
  (sub p1 x4 p1.length).bind fun x21=>
  (sub p1 x4 (Z0.wrap (x4+(if (x21.length:Int)<p2 then (x21.length:Int) else p2)))).bind fun x68=>
  (step x6 x68).bind fun r72=>
  if !r72.2 then
   (some r72.1).map Sum.inr
  else
   some (.inl (Z0.wrap (x4+p2),r72.1))
 else
  (some x6).map Sum.inr
def fU {σ:Type} (step:(σ→(List Ap)→Option (σ×Bool))) (s0_:σ) (p1:List Ap) (p2:Int):Option σ:=
 aq (fun s:(Int×σ)=>cF step p1 p2 s.1 s.2) (0,s0_)
def fI (p1:List Ap) (p2:Int):Option (List (List Ap)):=
 fU (fun (s:List (List Ap)) x=>some (s++[x],true)) [] p1 p2
def ia (p0:List Ap) (p1:Int):Option (List (List Ap)):=
 (fI p0 p1).bind fun x23=>
 some x23
def gV (p0:List Ap) (p1:Int):Option (List (List Ap)):=
 if decide (p1<1) then
  none
 else
  ia p0 p1
def qK (p0:Int) (p1:List Ap):Option Bool:=
 (eW p0 p1).bind fun r4=>
 some (r4.2==0)
def f9 (x17:List Int) (x20:List Ap) (x44:Int):Option (List Int×Bool):=
 (mM x44 x20).bind fun r49=>
 (app 140737488355328 x17 r49.1).bind fun z67=>
 some (z67,true)
def eN (p0:Int) (x17:List Int) (x20:List Ap):Option (List Int×Bool):=
 (qK p0 x20).bind fun r35=>
 if !r35 then
  f9 x17 x20 (-1)
 else
  f9 x17 x20 p0
def j7 (p0:Int) (p1:List Ap):Option (List Int):=
 (gV p1 64).bind fun r9=>
 (fy (fun (s:List Int) (x:List Ap)=>eN p0 s x) ([]:(List Int)) r9).bind fun y78=>
 if y78.2 then
  some y78.1
 else
  none
def iY (x78:List Int):Option (List Int×Int):=
 (gR x78).bind fun r84=>
 (iX x78 (Z0.wrap r84)).bind fun r92=>
 some (r92,0)
def gy (p0:Int) (r22:List aa) (x102:List Int) (x105:Int) (x120:Int):Option ((List Int×Int)⊕(List Int×Int)):=
 (j6 p0 x105 r22).bind fun r127=>
 (j7 x120 r127).bind fun r133=>
 (iX x102 (r133.length:Int)).bind fun r143=>
 (app 140737488355328 r143 r133).bind fun z150=>
 some (.inl (z150,Z0.wrap (x105+1)))
def fg (p0:Int) (p2:List Int) (r22:List aa) (x102:List Int) (x105:Int) (x116:Bool):Option ((List Int×Int)⊕(List Int×Int)):=
 if x116 then
  (idx p2 x105).bind fun x162=>
  gy p0 r22 x102 x105 x162
 else
  gy p0 r22 x102 x105 (-1)
def gA (p0:Int) (p2:List Int) (r22:List aa) (x102:List Int) (x105:Int):Option ((List Int×Int)⊕(List Int×Int)):=
 if decide (x105<(Z0.wrap (p0+3))) then
  if decide (x105<p0) then
   fg p0 p2 r22 x102 x105 (decide (x105<(p2.length:Int)))
  else
   fg p0 p2 r22 x102 x105 false
 else
  (iY x102).map Sum.inr
def iZ (p0:Int) (p2:List Int) (r22:List aa) (x59:List Int):Option (List Int×Int):=
 (iX x59 (r22.length:Int)).bind fun r66=>
 aq (fun s:(List Int×Int)=>gA p0 p2 r22 s.1 s.2) (r66,0)
def i6 (p0:Int) (p1:List Int) (p2:List Int) (r22:List aa) (x183:List Int) (x186:Int):Option ((List Int×Int)⊕(List Int×Int)):=
 if decide (x186<(p1.length:Int)) then
  (idx p1 x186).bind fun x192=>
  (app 140737488355328 x183 ([Z4.wrap x192])).bind fun z207=>
  some (.inl (z207,Z0.wrap (x186+1)))
 else
  (iZ p0 p2 r22 x183).map Sum.inr
def eY (p0:Int) (p1:List Int) (p2:List Int) (p3:List aa):Option (List Int×Int):=
 (fT p0 p1 p3).bind fun r6=>
 if r6 != 0 then
  some ([],r6)
 else
  (iH p1 p3).bind fun r22=>
  (app 140737488355328 ([72,65,89,49]) ([Z4.wrap p0,Z4.wrap (p1.length:Int)])).bind fun z47=>
  aq (fun s:(List Int×Int)=>i6 p0 p1 p2 r22 s.1 s.2) (z47,0)
def d3 (p0:List Int):Option Int:=
 (idx p0 0).bind fun x2=>
 (idx p0 1).bind fun x7=>
 (idx p0 2).bind fun x12=>
 (idx p0 3).bind fun x17=>
 some (bOr .i64 (bOr .i64 (bOr .i64 (eh .i64 (Z0.wrap x2) 24) (eh .i64 (Z0.wrap x7) 16)) (eh .i64 (Z0.wrap x12) 8)) (Z0.wrap x17))
def fV (x63:aH) (x85:Int) (x87:List Int) (x90:Bool):Option (Int×List Int×Bool×aH):=
 some (x85,x87,x90,x63)
def iy (x29:Int) (x39:List Int) (x63:aH):Option (Int×List Int×Bool×aH):=
 (sub x39 (Z0.wrap x29) x39.length).bind fun x71=>
 (d3 x71).bind fun r75=>
 (sub x39 (Z0.wrap ((Z0.wrap x29)+4)) x39.length).bind fun x92=>
 (fT x63.fColumns x63.fSort ([])).bind fun r98=>
 if r98==0 then
  fV x63 r75 x92 (decide (r75≤4096))
 else
  fV x63 r75 x92 false
def fW (x29:Int) (x39:List Int) (x55:List Int) (x305:Int) (x307:aH):Option ((Int×aH)⊕(Int×List Int×Bool×aH)):=
 if decide (x305<(x55.length:Int)) then
  (idx x55 x305).bind fun x316=>
  (app 17592186044416 x307.fSort ([Z0.wrap x316])).bind fun z336=>
  some (.inl (Z0.wrap (x305+1),{ x307 with fSort:=z336 }))
 else
  (iy x29 x39 x307).map Sum.inr
def eK (p1:List Int) (x6:Bool):Option (Int×List Int×Bool×aH):=
 if x6 then
  some (0,[],false,aH.zero)
 else
  (idx p1 4).bind fun x14=>
  (idx p1 5).bind fun x29=>
  (sub p1 6 p1.length).bind fun x39=>
  if decide ((x39.length:Int)<(Z0.wrap ((Z0.wrap x29)+4))) then
   some (0,[],false,{ aH.zero with fColumns:=Z0.wrap x14 })
  else
   (sub x39 0 (Z0.wrap x29)).bind fun x55=>
   aq (fun s:(Int×aH)=>fW x29 x39 x55 s.1 s.2) (0,{ aH.zero with fColumns:=Z0.wrap x14 })
def ip (p1:List Int):Option (Int×List Int×Bool×aH):=
 if decide ((p1.length:Int)<6) then
  eK p1 true
 else
  (sub p1 0 4).bind fun x357=>
  (Lw x357).bind fun x361=>
  eK p1 (!decide (x361=(72,65,89,49)))
def jO (p1:Int) (x6:List Ap):Option (List Ap×Bool):=
 some (x6,(x6.length:Int)==p1)
def iq (x19:List Int) (x22:List Ap) (r32:List Ap×Int×Int) (x54:Bool):Option ((List Int×List Ap)⊕(List Ap×Bool)):=
 if x54 then
  (some ([],false)).map Sum.inr
 else
  (app 3518437208883 x22 r32.1).bind fun z59=>
  (sub x19 r32.2.1 x19.length).bind fun x65=>
  some (.inl (x65,z59))
def ir (p1:Int) (x19:List Int) (x22:List Ap):Option ((List Int×List Ap)⊕(List Ap×Bool)):=
 if decide (0<(x19.length:Int)) then
  (kD x19).bind fun r32=>
  if r32.2.2 != 0 then
   iq x19 x22 r32 true
  else
   iq x19 x22 r32 ((r32.1.length:Int) != (if (Z0.wrap (p1 - (x22.length:Int)))<64 then Z0.wrap (p1 - (x22.length:Int)) else 64))
 else
  (jO p1 x22).map Sum.inr
def iI (p0:List Int) (p1:Int):Option (List Ap×Bool):=
 aq (fun s:(List Int×List Ap)=>ir p1 s.1 s.2) (p0,[])
def iz (x7:List aa):Option (Bool×List aa):=
 some (true,x7)
def dt (x14:Int) (x64:List aa):Option ((Int×List aa)⊕(Bool×List aa)):=
 some (.inl (Z0.wrap (x14+1),x64))
def dR (p0 : aH) (p1 : Int) (x14 : Int) (x16 : List aa) (x24 : Ap) (j42 : Nat) (x48 : Bool) : Option ((Int × List aa) ⊕ (Bool × List aa)) :=
 if x48 then
  (some (false,x16)).map Sum.inr
 else
  if (Z0.wrap (p1 - p0.fColumns))==0 then
   (x16[j42]?).bind fun x82=>
   dt x14 (x16.set j42 ({ x82 with fId:={ x82.fId with fEpoch:=Z2.wrap x24.fInt } }))
  else
   if (Z0.wrap (p1 - p0.fColumns))==1 then
    if decide (4294967295<x24.fInt) then
     (some (false,x16)).map Sum.inr
    else
     (x16[j42]?).bind fun x106=>
     dt x14 (x16.set j42 ({ x106 with fId:={ x106.fId with fNumber:=Zy.wrap x24.fInt } }))
   else
    if (Z0.wrap (p1 - p0.fColumns))==2 then
     (x16[j42]?).bind fun x122=>
     dt x14 (x16.set j42 ({ x122 with fDeleted:=Z2.wrap x24.fInt }))
    else
     (x16[j42]?).bind fun x126=>
     (app 3518437208883 x126.fRow ([x24])).bind fun z132=>
     (x16[j42]?).bind fun x182=>
     dt x14 (x16.set j42 ({ x182 with fRow:=z132 }))
def dS (p0 : aH) (p1 : Int) (p2 : List Ap) (x14 : Int) (x16 : List aa) : Option ((Int × List aa) ⊕ (Bool × List aa)) :=
 if decide (x14 < (p2.length : Int)) then
  (idx p2 x14).bind fun x24=>
  (ix x16 x14).bind fun j42=>
  if decide (p0.fColumns≤p1) then
   if x24.fKind != 2 then
    dR p0 p1 x14 x16 x24 j42 true
   else
    dR p0 p1 x14 x16 x24 j42 (decide (x24.fInt<0))
  else
   dR p0 p1 x14 x16 x24 j42 false
 else
  (iz x16).map Sum.inr
def it (p0:aH) (pA:List aa) (p1:Int) (p2:List Ap):Option (Bool×List aa):=
 aq (fun s:(Int×List aa)=>dS p0 p1 p2 s.1 s.2) (0,pA)
def qd:Option Bool:=
 some true
def gW (p0:List aa) (p1:List aa) (p2:(aa→aa→Option Bool)) (x18:Int):Option (Int⊕Bool):=
 if decide (x18<(p0.length:Int)) then
  (idx p0 x18).bind fun x25=>
  (idx p1 x18).bind fun x39=>
  (p2 x25 x39).bind fun r55=>
  if !r55 then
   (some false).map Sum.inr
  else
   some (.inl (Z0.wrap (x18+1)))
 else
  (qd).map Sum.inr
def eC (p0:List aa) (p1:List aa) (p2:(aa→aa→Option Bool)):Option Bool:=
 if (p0.length:Int) != (p1.length:Int) then
  some false
 else
  aq (fun s:Int=>gW p0 p1 p2 s) 0
def em (p0:aa) (p1:aa):Option Bool:=
 some (decide (p0.fId=p1.fId))
def gr (p0:(Option aH)):Option Bool:=
 (p0).bind fun x2=>
 (p0).bind fun x7=>
 (iH x2.fSort x7.fL).bind fun r52=>
 (p0).bind fun x61=>
 (eC r52 x61.fL em).bind fun r69=>
 some r69
def ju (r24:Int×List Int×Bool×aH) (x79:List aa) (x92:Bool):Option ((Option aH)×Int):=
 if x92 then
  some ((none:(Option aH)),80)
 else
  some ((some ({ r24.2.2.2 with fL:=x79 })),0)
def lE (r24:Int×List Int×Bool×aH) (x75:List Int) (x79:List aa):Option ((Option aH)×Int):=
 if decide (0<(x75.length:Int)) then
  ju r24 x79 true
 else
  ((some ({ r24.2.2.2 with fL:=x79 }))).bind fun x138=>
  ((some ({ r24.2.2.2 with fL:=x79 }))).bind fun x144=>
  ((some ({ r24.2.2.2 with fL:=x79 }))).bind fun x149=>
  (fT x138.fColumns x144.fSort x149.fL).bind fun r229=>
  if r229 != 0 then
   ju r24 x79 true
  else
   (gr (some ({ r24.2.2.2 with fL:=x79 }))).bind fun r242=>
   ju r24 x79 (!r242)
def jv (x252:List Int) (x255:Int) (r275:Int) (x307:Bool) (x309:List aa):Option ((List Int×Int×List aa)⊕((Option aH)×Int)):=
 if x307 then
  (some ((none:(Option aH)),80)).map Sum.inr
 else
  (sub x252 (Z0.wrap (4+r275)) x252.length).bind fun x319=>
  some (.inl (x319,Z0.wrap (x255+1),x309))
def jw (r24:Int×List Int×Bool×aH) (x252:List Int) (x255:Int) (x258:List aa) (x269:Bool):Option ((List Int×Int×List aa)⊕((Option aH)×Int)):=
 if x269 then
  (some ((none:(Option aH)),80)).map Sum.inr
 else
  (d3 x252).bind fun r275=>
  (sub x252 4 (Z0.wrap (4+r275))).bind fun x286=>
  (iI x286 r24.1).bind fun r291=>
  if !r291.2 then
   jv x252 x255 r275 true x258
  else
   (it r24.2.2.2 x258 x255 r291.1).bind fun r334=>
   jv x252 x255 r275 (!r334.1) r334.2
def fX (r24:Int×List Int×Bool×aH) (x252:List Int) (x255:Int) (x258:List aa):Option ((List Int×Int×List aa)⊕((Option aH)×Int)):=
 if decide (x255<(Z0.wrap (r24.2.2.2.fColumns+3))) then
  if decide ((x252.length:Int)<4) then
   jw r24 x252 x255 x258 true
  else
   (d3 x252).bind fun r354=>
   jw r24 x252 x255 x258 (decide ((x252.length:Int)<(Z0.wrap (4+r354))))
 else
  (lE r24 x252 x258).map Sum.inr
def jx (p0:List Int) (x10:Bool):Option ((Option aH)×Int):=
 if x10 then
  some ((none:(Option aH)),80)
 else
  (sub p0 0 (Z0.wrap ((p0.length:Int) - 4))).bind fun x20=>
  (ip x20).bind fun r24=>
  if !r24.2.2.1 then
   some ((none:(Option aH)),80)
  else
   (mk 5864062014805 r24.1 aa.zero).bind fun z52=>
   aq (fun s:(List Int×Int×List aa)=>fX r24 s.1 s.2.1 s.2.2) (r24.2.1,0,z52)
def lS (p0:List Int):Option ((Option aH)×Int):=
 if decide ((p0.length:Int)<4) then
  jx p0 true
 else
  (sub p0 (Z0.wrap ((p0.length:Int) - 4)) p0.length).bind fun x397=>
  (d3 x397).bind fun r400=>
  (sub p0 0 (Z0.wrap ((p0.length:Int) - 4))).bind fun x406=>
  (gR x406).bind fun r484=>
  jx p0 (r400 != (Z0.wrap r484))
def cY (p0:aa) (p1:aK):Option Bool:=
 some (decide (p0.fId=p1))
def qe:Option Int:=
 some (-1)
def dL (p0:List aa) (p1:(aa→Option Bool)) (x11:Int):Option (Int⊕Int):=
 if decide (x11<(p0.length:Int)) then
  (idx p0 x11).bind fun x22=>
  (p1 x22).bind fun r28=>
  if r28 then
   (some x11).map Sum.inr
  else
   some (.inl (Z0.wrap (x11+1)))
 else
  (qe).map Sum.inr
def eD (p0:List aa) (p1:(aa→Option Bool)):Option Int:=
 aq (fun s:Int=>dL p0 p1 s) 0
def iu (p0:(Option aH)) (p1:aK):Option (Int×Bool):=
 (p0).bind fun x8=>
 (eD x8.fL (fun y0_=>cY y0_ p1)).bind fun r20=>
 some ((if r20<0 then 0 else r20),decide (0≤r20))
def nP (p0:(Option aH)):Option Int:=
 (p0).bind fun x3=>
 some (x3.fL.length:Int)
def mY (x87:Bool):Option Bool:=
 some x87
def lm (r46 : ((Option aH) × Int)) (x63 : Bool) : Option Bool :=
 if x63 then
  some false
 else
  (iu r46.1 (⟨1,0⟩:aK)).bind fun r70=>
  (nP r46.1).bind fun r90=>
  if r90==2 then
   if r70.1==1 then
    mY r70.2
   else
    mY false
  else
   mY false
def pk:Option Bool:=
 (eY 1 ([0]) ([]) ([(⟨(⟨1,0⟩:aK),[(⟨2,false,2,[]⟩:Ap)],0⟩:aa),(⟨(⟨2,0⟩:aK),[(⟨2,false,1,[]⟩:Ap)],0⟩:aa)])).bind fun r30=>
 (lS r30.1).bind fun r46=>
 if r30.2 != 0 then
  lm r46 true
 else
  if r46.2 != 0 then
   lm r46 true
  else
   lm r46 r46.1.isNone
def jP (x25:Bool):Option Bool:=
 some x25
def mj (p0:aa) (p1:aa):Option Bool:=
 (qJ p0.fRow p1.fRow).bind fun r16=>
 if r16 then
  if decide (p0.fId=p1.fId) then
   jP (p0.fDeleted==p1.fDeleted)
  else
   jP false
 else
  jP false
def wa:Option Bool:=
 some true
def lT (p0:List aa) (p1:List aa) (x16:Int):Option (Int⊕Bool):=
 if decide (x16<(p0.length:Int)) then
  (idx p0 x16).bind fun x25=>
  (idx p1 x16).bind fun x29=>
  (mj x25 x29).bind fun r75=>
  if !r75 then
   (some false).map Sum.inr
  else
   some (.inl (Z0.wrap (x16+1)))
 else
  (wa).map Sum.inr
def lF (p0:List aa) (p1:List aa):Option Bool:=
 if (p0.length:Int) != (p1.length:Int) then
  some false
 else
  aq (fun s:Int=>lT p0 p1 s) 0
def Bk:Option Int:=
 some 0
def ve (x24:Int):Option (Int⊕Int):=
 some (.inl (Z0.wrap (x24+1)))
def nC (p2:List aa) (x24:Int) (x41:aa) (x65:Int):Option (Int⊕(Int⊕Int)):=
 if decide (x65<x24) then
  (idx p2 x65).bind fun x73=>
  if decide (x73.fId=x41.fId) then
   ((some 81).map Sum.inr).map Sum.inr
  else
   some (.inl (Z0.wrap (x65+1)))
 else
  (ve x24).map Sum.inr
def kY (p2:List aa) (x24:Int) (x41:aa):Option (Int⊕Int):=
 aq (fun s:Int=>nC p2 x24 x41 s) 0
def nD (p2:List aa) (x24:Int) (x41:aa) (x125:Int):Option (Int⊕(Int⊕Int)):=
 if decide (x125<(x41.fRow.length:Int)) then
  (idx x41.fRow x125).bind fun x140=>
  (rq x140).bind fun r146=>
  if !r146 then
   ((some 81).map Sum.inr).map Sum.inr
  else
   some (.inl (Z0.wrap (x125+1)))
 else
  (kY p2 x24 x41).map Sum.inr
def ge (p2:List aa) (x24:Int) (x41:aa) (x54:Bool):Option (Int⊕Int):=
 if x54 then
  (some 81).map Sum.inr
 else
  aq (fun s:Int=>nD p2 x24 x41 s) 0
def nE (p0 : Int) (p2 : List aa) (x24 : Int) : Option (Int ⊕ Int) :=
 if decide (x24 < (p2.length : Int)) then
  (idx p2 x24).bind fun x41=>
  if (x41.fRow.length:Int) != p0 then
   ge p2 x24 x41 true
  else
   if x41.fId.fEpoch==0 then
    ge p2 x24 x41 true
   else
    if decide (9223372036854775807<x41.fId.fEpoch) then
     ge p2 x24 x41 true
    else
     if decide (9223372036854775807<x41.fDeleted) then
      ge p2 x24 x41 true
     else
      if x41.fDeleted != 0 then
       ge p2 x24 x41 (decide (x41.fDeleted≤x41.fId.fEpoch))
      else
       ge p2 x24 x41 false
 else
  (Bk).map Sum.inr
def kZ (p0:Int) (p2:List aa):Option Int:=
 if decide (4096<(p2.length:Int)) then
  some 81
 else
  aq (fun s:Int=>nE p0 p2 s) 0
def vf (x233:Int):Option (Int⊕Int):=
 some (.inl (Z0.wrap (x233+1)))
def nF (p1:List Int) (x233:Int) (x257:Int):Option (Int⊕(Int⊕Int)):=
 if decide (x257<x233) then
  (idx p1 x257).bind fun x265=>
  (idx p1 x233).bind fun x270=>
  if x265==x270 then
   ((some 1).map Sum.inr).map Sum.inr
  else
   some (.inl (Z0.wrap (x257+1)))
 else
  (vf x233).map Sum.inr
def nG (p1:List Int) (x233:Int) (x250:Bool):Option (Int⊕Int):=
 if x250 then
  (some 1).map Sum.inr
 else
  aq (fun s:Int=>nF p1 x233 s) 0
def nH (p0:Int) (p1:List Int) (p2:List aa) (x233:Int):Option (Int⊕Int):=
 if decide (x233<(p1.length:Int)) then
  (idx p1 x233).bind fun x329=>
  if decide (x329<0) then
   nG p1 x233 true
  else
   (idx p1 x233).bind fun x342=>
   nG p1 x233 (decide (p0≤x342))
 else
  (kZ p0 p2).map Sum.inr
def nI (p0:Int) (p1:List Int) (p2:List aa) (x4:Bool):Option Int:=
 if x4 then
  some 1
 else
  aq (fun s:Int=>nH p0 p1 p2 s) 0
def qL (p0:Int) (p1:List Int) (p2:List aa):Option Int:=
 if decide (p0<1) then
  nI p0 p1 p2 true
 else
  nI p0 p1 p2 (decide (8<p0))
def CH (x6:List Ap):Option (List Ap):=
 some x6
def j8 (x17:Int) (x31:List Ap):Option ((List Ap×Int)⊕List Ap):=
 some (.inl (x31,Z0.wrap (x17+1)))
def rH (p0 : Int) (p1 : Int) (p2 : List aa) (x14 : List Ap) (x17 : Int) : Option ((List Ap × Int) ⊕ List Ap) :=
 if decide (x17 < (p2.length : Int)) then
  if decide (p1<p0) then
   (idx p2 x17).bind fun x42=>
   (idx x42.fRow p1).bind fun x52=>
   (app 3518437208883 x14 ([x52])).bind fun z62=>
   j8 x17 z62
  else
   if p1==p0 then
    (idx p2 x17).bind fun x76=>
    (app 3518437208883 x14 ([(⟨2,false,Z0.wrap x76.fId.fEpoch,[]⟩:Ap)])).bind fun z96=>
    j8 x17 z96
   else
    if p1==(Z0.wrap (p0+1)) then
     (idx p2 x17).bind fun x111=>
     (app 3518437208883 x14 ([(⟨2,false,Z0.wrap x111.fId.fNumber,[]⟩:Ap)])).bind fun z131=>
     j8 x17 z131
    else
     (idx p2 x17).bind fun x141=>
     (app 3518437208883 x14 ([(⟨2,false,Z0.wrap x141.fDeleted,[]⟩:Ap)])).bind fun z158=>
     j8 x17 z158
 else
  (CH x14).map Sum.inr
def sF (p0:Int) (p1:Int) (p2:List aa):Option (List Ap):=
 aq (fun s:(List Ap×Int)=>rH p0 p1 p2 s.1 s.2) ([],0)
def CI (x6:List Int):Option (List Int):=
 some x6
def oM (x14:List Int) (x17:Int) (x33:List Ap) (x61:Int):Option ((List Int×Int)⊕List Int):=
 (uB x61 x33).bind fun r66=>
 (app 140737488355328 x14 r66.1).bind fun z83=>
 some (.inl (z83,Z0.wrap (x17+64)))
def rI (p0:Int) (p1:List Ap) (x14:List Int) (x17:Int):Option ((List Int×Int)⊕List Int):=
 if decide (x17<(p1.length:Int)) then
  (sub p1 x17 (if (p1.length:Int)<(Z0.wrap (x17+64)) then (p1.length:Int) else Z0.wrap (x17+64))).bind fun x33=>
  (n7 p0 x33).bind fun r42=>
  if r42.2 != 0 then
   oM x14 x17 x33 (-1)
  else
   oM x14 x17 x33 p0
 else
  (CI x14).map Sum.inr
def sG (p0:Int) (p1:List Ap):Option (List Int):=
 aq (fun s:(List Int×Int)=>rI p0 p1 s.1 s.2) ([],0)
def tq (x66:List Int):Option (List Int×Int):=
 (vT x66).bind fun r72=>
 (lQ (Z2.wrap r72) 4).bind fun r80=>
 (app 140737488355328 x66 r80).bind fun z86=>
 some (z86,0)
def pR (p0:Int) (r22:List aa) (x96:List Int) (x99:Int) (x115:Int):Option ((List Int×Int)⊕(List Int×Int)):=
 (sF p0 x99 r22).bind fun r122=>
 (sG x115 r122).bind fun r128=>
 (lQ (Z2.wrap (r128.length:Int)) 4).bind fun r139=>
 (app 140737488355328 x96 r139).bind fun z145=>
 (app 140737488355328 z145 r128).bind fun z154=>
 some (.inl (z154,Z0.wrap (x99+1)))
def mZ (p0:Int) (p2:List Int) (r22:List aa) (x96:List Int) (x99:Int) (x111:Bool):Option ((List Int×Int)⊕(List Int×Int)):=
 if x111 then
  (idx p2 x99).bind fun x167=>
  pR p0 r22 x96 x99 x167
 else
  pR p0 r22 x96 x99 (-1)
def pS (p0:Int) (p2:List Int) (r22:List aa) (x96:List Int) (x99:Int):Option ((List Int×Int)⊕(List Int×Int)):=
 if decide (x99<(Z0.wrap (p0+3))) then
  if decide (x99<p0) then
   mZ p0 p2 r22 x96 x99 (decide (x99<(p2.length:Int)))
  else
   mZ p0 p2 r22 x96 x99 false
 else
  (tq x96).map Sum.inr
def tu (p0:Int) (p2:List Int) (p3:List aa) (r22:List aa) (x42:List Int):Option (List Int×Int):=
 (lQ (Z2.wrap (p3.length:Int)) 4).bind fun r50=>
 (app 140737488355328 x42 r50).bind fun z56=>
 aq (fun s:(List Int×Int)=>pS p0 p2 r22 s.1 s.2) (z56,0)
def tw (p0:Int) (p1:List Int) (p2:List Int) (p3:List aa) (r22:List aa) (x188:List Int) (x191:Int):Option ((List Int×Int)⊕(List Int×Int)):=
 if decide (x191<(p1.length:Int)) then
  (idx p1 x191).bind fun x203=>
  (app 140737488355328 x188 ([Z4.wrap x203])).bind fun z215=>
  some (.inl (z215,Z0.wrap (x191+1)))
 else
  (tu p0 p2 p3 r22 x188).map Sum.inr
def pn (p0:Int) (p1:List Int) (p2:List Int) (p3:List aa):Option (List Int×Int):=
 (qL p0 p1 p3).bind fun r6=>
 if r6 != 0 then
  some ([],r6)
 else
  (sE p1 p3).bind fun r22=>
  aq (fun s:(List Int×Int)=>tw p0 p1 p2 p3 r22 s.1 s.2) ([72,65,89,49,Z4.wrap p0,Z4.wrap (p1.length:Int)],0)
def je (x72:Bool):Option Bool:=
 some x72
def kJ (p0 : da) : Option Bool :=
 (sy p0.fL).bind fun r9=>
 (eY p0.fColumns p0.fSort p0.fKinds r9).bind fun r27=>
 (pn p0.fColumns p0.fSort p0.fKinds p0.fL).bind fun r55=>
 (pk).bind fun r74=>
 if r74 then
  if decide (r27.1=r55.1) then
   if r27.2==r55.2 then
    (lF r9 p0.fL).bind fun r100=>
    je r100
   else
    je false
  else
   je false
 else
  je false
structure Iy where
 fColumn:Int
 fOp:Int
 fValue:Ap
 deriving DecidableEq
def Iy.zero:Iy:=⟨0,0,Ap.zero⟩
end
theorem Fc {σ β:Type} {f:σ→Option (σ⊕β)} {n:Nat} {s:σ} {b:β} (h:gZ f n s=some b): ∃k,n=k+1∧((f s=some (.inr b))∨ ∃s',f s=some (.inl s')∧gZ f k s'=some b):=by
 cases n with
 |zero=>cases h
 | succ k =>
  rw [gZ] at h;cases hf:f s with
  |none=>rw [hf] at h;cases h
  |some r=>
   rw [hf] at h;cases r with
   |inl s'=>exact ⟨k,rfl,.inr ⟨s',rfl,h⟩⟩
   |inr b'=>injection h with h;subst h;exact ⟨k,rfl,.inl rfl⟩
abbrev Fd {α:Type}:List α→α→Option (List α×Bool):=fun s x=>some (s++[x],true)
theorem Iz {ι σ α : Type} {step : σ → α → Option (σ × Bool)} {s : σ} {xs : List α} {r : σ × Bool} (F : {τ : Type} → (τ → α → Option (τ × Bool)) → ι → τ → Option ((ι × τ) ⊕ τ)) (c : ι → Bool) (el : ι → Option α) (nx : ι → ι)
  (hF: ∀{τ:Type} (st:τ→α→Option (τ×Bool)) i s,F st i s=if c i then (el i).bind fun x=>(st s x).bind fun r=>if !r.2 then (some r.1).map Sum.inr else some (.inl (nx i,r.1)) else (some s).map Sum.inr)
  {i0:ι} (h:aq (fun s:ι×List α=>F Fd s.1 s.2) (i0,[])=some xs) (hf:fy step s xs=some r):aq (fun s:ι×σ=>F step s.1 s.2) (i0,s)=some r.1:=by
 have key : ∀ (k : Nat) (i : ι) (acc : List α) (out : List α), gZ (fun s : ι × List α => F Fd s.1 s.2) k (i, acc) = some out → ∃ ys, out = acc ++ ys ∧ ∀ (s : σ) r, fy step s ys = some r → aq (fun s : ι × σ => F step s.1 s.2) (i, s) = some r.1 := by
  intro k
  induction k with
  |zero=>intro i acc out h;cases h
  | succ k ih =>
   intro i acc out h;obtain ⟨k',hk,g⟩:=Fc h;obtain rfl:k'=k:=by omega
   clear h;have h:=g;clear g;rcases h with h|⟨s',h1,h2⟩
   ·have h:F Fd i acc=some (.inr out):=h
    rw [hF] at h
    by_cases hc:c i=true
    ·rw [if_pos hc] at h
     cases hx:el i with
     |none=>rw [hx] at h;cases h
     |some x=>rw [hx] at h;simp at h
    ·rw [if_neg hc] at h
     simp only [Option.map_some,Option.some.injEq,Sum.inr.injEq] at h;subst h;refine ⟨[],by simp,fun s r hf=> ?_⟩;simp only [fy,Option.some.injEq] at hf;subst hf;refine aY ?_;show F step i s=_;rw [hF,if_neg hc];rfl
   ·have h1 : F Fd i acc = some (.inl s') := h1
    rw [hF] at h1
    by_cases hc:c i=true
    ·rw [if_pos hc] at h1
     cases hx:el i with
     |none=>rw [hx] at h1;cases h1
     | some x =>
      rw [hx] at h1;simp only [Z1,Bool.not_true,Zm,if_false,Option.some.injEq,Sum.inl.injEq] at h1;subst h1;obtain ⟨ys,e,hall⟩:=ih _ _ _ h2;refine ⟨x::ys,by rw [e];simp,fun s r hf=> ?_⟩;simp only [fy] at hf;cases hst:step s x with
      |none=>rw [hst] at hf;cases hf
      | some q =>
       rw [hst] at hf;simp only [Z1] at hf;cases hq:q.2 with
       | true =>
        rw [hq] at hf;simp only [if_true] at hf;rw [bK (s':=(nx i,q.1))]
        ·exact hall _ _ hf
        ·show F step i s=_
         rw [hF,if_pos hc,hx,Z1,hst,Z1,hq];rfl
       |false=>
        rw [hq] at hf;simp only [Zm,if_false,Option.some.injEq] at hf;subst hf;refine aY ?_;show F step i s=_;rw [hF,if_pos hc,hx,Z1,hst,Z1,hq];rfl
    ·rw [if_neg hc] at h1
     cases h1
 obtain ⟨k,hk⟩:=FZ.1 h;obtain ⟨ys,e,hall⟩:=key k _ _ _ hk;simp only [List.nil_append] at e;subst e;exact hall _ _ hf
theorem qN {σ:Type} {step:σ→List Ap→Option (σ×Bool)} {s:σ} {xs:List (List Ap)} {p1:List Ap} {p2:Int} {r:σ×Bool} (h:fI p1 p2=some xs) (hf:fy step s xs=some r):fU step s p1 p2=some r.1:=by
 refine Iz (fun {τ} st i s=>cF st p1 p2 i s) (fun i=>decide (i<(p1.length:Int))) (fun i=>(sub p1 i p1.length).bind fun x21=>sub p1 i (Z0.wrap (i+(if (x21.length:Int)<p2 then (x21.length:Int) else p2)))) (fun i=>Z0.wrap (i+p2)) (fun st i s=> ?_) h hf;simp only [cF,Option.bind_assoc]
theorem gg {σ β:Type} {f:σ→Option (σ⊕β)} (I:σ→Prop) (μ:σ→Nat) (Q:β→Prop)
  (step: ∀s,I s→(∃s',f s=some (.inl s')∧I s'∧μ s'<μ s)∨ ∃b,f s=some (.inr b)∧Q b) {s:σ} (h:I s): ∃b,aq f s=some b∧Q b:=by
 generalize hn:μ s=n
 induction n using Nat.strongRecOn generalizing s with
 | _ n ih =>
  rcases step s h with ⟨s',h1,h2,h3⟩|⟨b,h1,h2⟩
  ·obtain ⟨b,h4,h5⟩:=ih (μ s') (by omega) h2 rfl
   exact ⟨b,by rw [bK h1];exact h4,h5⟩
  ·exact ⟨b,aY h1,h2⟩
theorem n8 {σ β:Type} {f:σ→Option (σ⊕β)} (I:σ→Prop) (μ:σ→Nat) {b:β}
  (step: ∀s,I s→(∃s',f s=some (.inl s')∧I s'∧μ s'<μ s)∨f s=some (.inr b)) {s:σ} (h:I s):aq f s=some b:=by
 obtain ⟨c,h1,rfl⟩:=gg I μ (fun c=>c=b) (fun s hs=>(step s hs).imp id fun h=>⟨b,h,rfl⟩) h;exact h1
theorem ak {n:Int} (h: -9223372036854775808≤n∧n≤9223372036854775807):Z0.wrap n=n:=by
 have:inR .i64 n:=by rw [mG];exact h
 exact this
theorem ay {α:Type} {xs:List α} {i:Nat} (h:i<xs.length):idx xs (i:Int)=some xs[i]:=by
 unfold idx;rw [if_pos (by omega)];simp [h]
theorem aF {α:Type} {N:Nat} {xs ys:List α} (h:xs.length+ys.length≤N):app N xs ys=some (xs++ys):=by
 unfold app;rw [if_pos h]
theorem ef {α:Type} {xs:List α} {lo hi:Nat} (h:lo≤hi) (h':hi≤xs.length):sub xs (lo:Int) (hi:Int)=some ((xs.take hi).drop lo):=by
 unfold sub;rw [if_pos (by omega)];simp
theorem bA (n:Int):Z2.wrap n=n%18446744073709551616:=by
 simp [IntKind.wrap,IntKind.bits,IntKind.signed]
theorem ln (n:Int):Zy.wrap n=n%4294967296:=by
 simp [IntKind.wrap,IntKind.bits,IntKind.signed]
theorem bh (n:Int):Z4.wrap n=n%256:=by
 simp [IntKind.wrap,IntKind.bits,IntKind.signed]
theorem pT {x:Int} {k:Nat} (hk:k≤64):aA .u64 x (k:Int)=x/2^k:=by
 unfold aA;rw [Zr _ (Int.le_of_lt (Int.pow_pos (by decide)))];congr 2;simp [IntKind.bits];omega
theorem RE {x:Int} {k:Nat} (hk:k≤8):aA .u8 x (k:Int)=x/2^k:=by
 unfold aA;rw [Zr _ (Int.le_of_lt (Int.pow_pos (by decide)))];congr 2;simp [IntKind.bits];omega
theorem yZ {x:Int} {k:Nat} (hk:k≤64):eh .u64 x (k:Int)=(x*2^k)%18446744073709551616:=by
 unfold eh;rw [bA];congr 3;simp [IntKind.bits];omega
theorem Jt {a b:Nat} (ha:a<18446744073709551616) (hb:b<18446744073709551616):c9 .u64 (a:Int) (b:Int)=((a&&&b:Nat):Int):=by
 unfold c9;rw [bA]
 have h1:(Zb Z2.bits (a:Int)).toNat=a:=by
  show (Zb 64 (a:Int)).toNat=a;rw [Z9];omega
 have h2:(Zb Z2.bits (b:Int)).toNat=b:=by
  show (Zb 64 (b:Int)).toNat=b;rw [Z9];omega
 rw [BitVec.toNat_and,h1,h2];have:a&&&b≤a:=Nat.and_le_left;omega
theorem IA {a b:Nat} (ha:a<18446744073709551616) (hb:b<18446744073709551616):bOr .u64 (a:Int) (b:Int)=((a|||b:Nat):Int):=by
 unfold bOr;rw [bA]
 have h1:(Zb Z2.bits (a:Int)).toNat=a:=by
  show (Zb 64 (a:Int)).toNat=a;rw [Z9];omega
 have h2:(Zb Z2.bits (b:Int)).toNat=b:=by
  show (Zb 64 (b:Int)).toNat=b;rw [Z9];omega
 rw [BitVec.toNat_or,h1,h2];have:a|||b<2^64:=Nat.or_lt_two_pow (by simpa using ha) (by simpa using hb)
 have e:(2:Nat)^64=18446744073709551616:=by decide
 omega
def be8 (n:Int):List Int:=[n/2^56%256,n/2^48%256,n/2^40%256,n/2^32%256,n/2^24%256,n/2^16%256,n/2^8%256,n%256]
theorem sH (n:Int):lL n=some (be8 n):=by
 unfold lL
 have step: ∀(l:List Int) (i:Nat),i<8→l.length≤8→fO n l (i:Int)=some (.inl (l++[n/2^(56 - 8*i)%256],((i+1:Nat):Int))):=by
  intro l i hi hl;unfold fO;have h1:decide ((i:Int)<8)=true:=by simpa using by omega
  have h2:Z0.wrap (8*(i:Int))=((8*i:Nat):Int):=by rw [ak (by omega)];omega
  have h3:Z0.wrap (56 - ((8*i:Nat):Int))=((56 - 8*i:Nat):Int):=by rw [ak (by omega)];omega
  have h4:Z0.wrap ((i:Int)+1)=((i+1:Nat):Int):=by rw [ak (by omega)];omega
  rw [if_pos h1,h2,h3,pT (by omega),bh,h4];have h5:chk (decide (0≤((56 - 8*i:Nat):Int)))=some ():=by simp [chk]
  rw [h5,Z1,aF (by simp;omega),Z1]
 have e8: ∀l:List Int,fO n l 8=some (.inr l):=fun l=>by
  unfold fO;rw [if_neg (by decide)];rfl
 have s: ∀(l:List Int) (i:Nat),i<8→l.length≤8→aq (fun s:(List Int×Int)=>fO n s.1 s.2) (l,(i:Int))=aq (fun s:(List Int×Int)=>fO n s.1 s.2) (l++[n/2^(56 - 8*i)%256],((i+1:Nat):Int)):=fun l i hi hl=>bK (step l i hi hl);have:=s [] 0 (by omega) (by simp);rw [show ((0:Nat):Int)=0 from rfl] at this;rw [this,s _ 1 (by omega) (by simp),s _ 2 (by omega) (by simp),s _ 3 (by omega) (by simp),s _ 4 (by omega) (by simp),s _ 5 (by omega) (by simp),s _ 6 (by omega) (by simp),s _ 7 (by omega) (by simp)];rw [show ((7+1:Nat):Int)=8 from rfl,aY (e8 _)];simp [be8]
theorem wb (n:Int):n5 n=some (be8 n):=by
 unfold n5
 have step: ∀(l:List Int) (i:Nat),i<8→l.length≤8→iT n l ((8*i:Nat):Int)=some (.inl (l++[n/2^(8*i)%256],(8*i:Nat) - 8)):=by
  intro l i hi hl;unfold iT;have h1:decide (0≤((8*i:Nat):Int))=true:=by simp;omega
  have h4:Z0.wrap (((8*i:Nat):Int) - 8)=((8*i:Nat):Int) - 8:=by rw [ak (by omega)]
  rw [if_pos h1,pT (by omega),bh,h4];have h5:chk (decide (0≤((8*i:Nat):Int)))=some ():=by rw [h1];rfl
  rw [h5,Z1,aF (by simp;omega),Z1]
 have e8: ∀l:List Int,iT n l (-8)=some (.inr l):=fun l=>by
  unfold iT;rw [if_neg (by decide)];rfl
 have s: ∀(l:List Int) (i:Nat),i<8→l.length≤8→aq (fun s:(List Int×Int)=>iT n s.1 s.2) (l,((8*i:Nat):Int))=aq (fun s:(List Int×Int)=>iT n s.1 s.2) (l++[n/2^(8*i)%256],((8*i:Nat):Int) - 8):=fun l i hi hl=>bK (step l i hi hl);have e: ∀i:Nat,((8*(i+1):Nat):Int) - 8=((8*i:Nat):Int):=fun i=>by omega
 have:=s [] 7 (by omega) (by simp);rw [show ((8*7:Nat):Int)=56 from rfl] at this;rw [this,show (56:Int) - 8=((8*6:Nat):Int) from rfl,s _ 6 (by omega) (by simp),e 5,s _ 5 (by omega) (by simp),e 4,s _ 4 (by omega) (by simp),e 3,s _ 3 (by omega) (by simp),e 2,s _ 2 (by omega) (by simp),e 1,s _ 1 (by omega) (by simp),e 0,s _ 0 (by omega) (by simp)];rw [show ((8*0:Nat):Int) - 8= -8 from rfl,aY (e8 _)];simp [be8]
def ej (l:List Int):Int:=l.foldl (fun a c=>a*256+c) 0
theorem tz (l:List Int) (c:Int):ej (l++[c])=ej l*256+c:=by simp [ej]
theorem zO (l:List Int) (h: ∀c∈l,0≤c∧c<256):0≤ej l∧ej l<256^l.length:=by
 have key: ∀(r:List Int),(∀c∈r,0≤c∧c<256)→0≤ej r.reverse∧ej r.reverse<256^r.length:=by
  intro r
  induction r with
  |nil=>intro _;simp [ej]
  |cons c r ih=>
   intro h;obtain ⟨h1,h2⟩:=ih (fun x hx=>h x (by simp [hx]));have hc:=h c (by simp);rw [List.reverse_cons,tz,X3,Int.pow_succ];omega
 have:=key l.reverse (fun c hc=>h c (by simpa using hc));simpa using this
theorem ye {n:Int} (h0:0≤n) (h1:n<18446744073709551616):ej (be8 n)=n:=by
 simp only [ej,be8,List.foldl_cons,List.foldl_nil];omega
theorem wc (n:Int): ∀c∈be8 n,0≤c∧c<256:=by
 intro c hc;simp only [be8,X4,List.not_mem_nil,or_false] at hc;rcases hc with rfl|rfl|rfl|rfl|rfl|rfl|rfl|rfl<;>omega
theorem b9 (n:Int):(be8 n).length=8:=rfl
theorem aU {σ β:Type} {f:σ→Option (σ⊕β)} {s:σ} {b:β} (S:Nat→σ) (n:Nat) (h0:s=S 0) (step: ∀i,i<n→f (S i)=some (.inl (S (i+1)))) (fin:f (S n)=some (.inr b)):aq f s=some b:=by
 have key: ∀i,i≤n→aq f s=aq f (S i):=by
  intro i
  induction i with
  |zero=>intro _;rw [h0]
  |succ i ih=>intro h;rw [ih (by omega),bK (step i (by omega))]
 rw [key n (Zn n),aY fin]
theorem uD {α β:Type} {f:Int→Option (Int⊕β)} (xs:List α) (p:α→Bool) (b0 b1:β) (step: ∀(i:Nat) (h:i<xs.length),p xs[i]=true→f (i:Int)=some (.inl ((i+1:Nat):Int)))
  (out: ∀(i:Nat) (h:i<xs.length),p xs[i]=false→f (i:Int)=some (.inr b0)) (fin:f (xs.length:Int)=some (.inr b1)):aq f 0=some (if xs.all p then b1 else b0):=by
 have key: ∀k i:Nat,i+k=xs.length→aq f (i:Int)=some (if (xs.drop i).all p then b1 else b0):=by
  intro k
  induction k with
  |zero=>
   intro i hi;have:i=xs.length:=by omega
   subst this;rw [aY fin];simp
  |succ k ih=>
   intro i hi;have hlt:i<xs.length:=by omega
   rw [Zv hlt,List.all_cons];cases hp:p xs[i] with
   |true=>rw [bK (step i hlt hp),ih (i+1) (by omega)];simp
   |false=>rw [aY (out i hlt hp)];simp
 have:=key xs.length 0 (by omega);simpa using this
theorem AU {α β:Type} {f:Int→Option (Int⊕β)} (xs:List α) (p:α→Bool) (b0:Nat→β) (b1:β) (step: ∀(i:Nat) (h:i<xs.length),p xs[i]=false→f (i:Int)=some (.inl ((i+1:Nat):Int)))
  (out: ∀(i:Nat) (h:i<xs.length),p xs[i]=true→f (i:Int)=some (.inr (b0 i))) (fin:f (xs.length:Int)=some (.inr b1)):aq f 0=some (if xs.any p then b0 (xs.findIdx p) else b1):=by
 have key: ∀k i:Nat,i+k=xs.length→aq f (i:Int)=some (if (xs.drop i).any p then b0 (i+(xs.drop i).findIdx p) else b1):=by
  intro k
  induction k with
  |zero=>
   intro i hi;have:i=xs.length:=by omega
   subst this;rw [aY fin];simp
  | succ k ih =>
   intro i hi;have hlt:i<xs.length:=by omega
   rw [Zv hlt,List.any_cons,List.findIdx_cons];cases hp:p xs[i] with
   |false=>
    rw [bK (step i hlt hp),ih (i+1) (by omega)];simp only [Bool.false_or,cond_false];congr 2;congr 1;omega
   |true=>rw [aY (out i hlt hp)];simp
 have:=key xs.length 0 (by omega);simpa using this
theorem aT {i:Nat} (h:i<4611686018427387904):Z0.wrap ((i:Int)+1)=((i+1:Nat):Int):=by rw [ak (by omega)];rfl
theorem rJ {b:Bool} (h:b=true):chk b=some ():=by subst h;rfl

def Byt (l:List Int):Prop:= ∀c∈l,0≤c∧c<256
theorem Byt.nil:Byt []:=fun c h=>by cases h
theorem Byt.cons {c:Int} {l:List Int} (h0:0≤c∧c<256) (h:Byt l):Byt (c::l):=fun d hd=>by
 rcases X4.1 hd with rfl|hd
 ·exact h0
 ·exact h d hd
theorem Byt.head {c:Int} {l:List Int} (h:Byt (c::l)):0≤c∧c<256:=h c (by simp)
theorem Byt.tail {c:Int} {l:List Int} (h:Byt (c::l)):Byt l:=fun d hd=>h d (by simp [hd])
theorem Byt.app {a b:List Int} (h:Byt a) (k:Byt b):Byt (a++b):=fun c hc=>by
 rcases List.mem_append.1 hc with hc|hc
 ·exact h c hc
 ·exact k c hc
theorem Byt.take {a:List Int} (h:Byt a) (n:Nat):Byt (a.take n):=fun c hc=>h c (List.mem_of_mem_take hc)
theorem Byt.drop {a:List Int} (h:Byt a) (n:Nat):Byt (a.drop n):=fun c hc=>h c (List.mem_of_mem_drop hc)
theorem Byt.left {a b:List Int} (h:Byt (a++b)):Byt a:=fun c hc=>h c (by simp [hc])
theorem Byt.right {a b:List Int} (h:Byt (a++b)):Byt b:=fun c hc=>h c (by simp [hc])
def cT (n:Int):Prop:= -9223372036854775808≤n∧n≤9223372036854775807
structure VOK (v:Ap):Prop where
 kind:cT v.fKind
 int:cT v.fInt
 text:Byt v.fText
abbrev kK:Ap:=⟨0,false,0,[]⟩
abbrev BH (b:Bool):Ap:=⟨1,b,0,[]⟩
abbrev iA (n:Int):Ap:=⟨2,false,n,[]⟩
abbrev xd (t:List Int):Ap:=⟨3,false,0,t⟩
def right (v:Ap):Bool:=
 if v.fKind==0 then decide (v=kK) else if v.fKind==1 then decide (v=BH v.fBool) else if v.fKind==2 then decide (v=iA v.fInt) else
 if v.fKind==3 then decide (v=xd v.fText)&&decide ((v.fText.length:Int)≤64) else false
theorem iJ (v:Ap):lf v=some (right v):=by
 obtain ⟨k,b,n,t⟩:=v;unfold lf right kp oy eo oz o9;simp only [Z1]
 by_cases h0:k=0
 ·subst h0;rfl
 by_cases h1:k=1
 ·subst h1;rfl
 by_cases h2:k=2
 ·subst h2;rfl
 by_cases h3:k=3
 ·subst h3
  by_cases h:(⟨3,b,n,t⟩:Ap)=xd t
  ·simp [h]
  ·simp [h]
 have e0:(k==0)=false:=by simpa using h0
 have e1:(k==1)=false:=by simpa using h1
 have e2:(k==2)=false:=by simpa using h2
 have e3:(k==3)=false:=by simpa using h3
 simp only [e0,e1,e2,e3];rfl
theorem oN (v:Ap):rq v=some (right v):=by
 obtain ⟨k,b,n,t⟩:=v;unfold rq s6 s5 s4 mO right
 by_cases h0:k=0
 ·subst h0
  by_cases h:b=false∧n=0∧t=[]
  ·simp [h]
  ·simp [h]
 by_cases h1:k=1
 ·subst h1
  by_cases h:n=0∧t=[]
  ·simp [h]
  ·simp [h]
 by_cases h2:k=2
 ·subst h2
  by_cases h:b=false∧t=[]
  ·simp [h]
  ·simp [h]
 by_cases h3:k=3
 ·subst h3;simp
  by_cases h:b=false∧n=0
  ·simp [h]
  ·rw [if_neg h];simp;intro h5 h6;exact absurd ⟨h5,h6⟩ h
 have e0:(k==0)=false:=by simpa using h0
 have e1:(k==1)=false:=by simpa using h1
 have e2:(k==2)=false:=by simpa using h2
 have e3:(k==3)=false:=by simpa using h3
 simp only [e0,e1,e2,e3,Zm,if_false]
 by_cases h4:0≤k
 ·by_cases h5:k≤3
  ·omega
  ·simp [h5]
 ·simp [h4]
inductive Rgt:Ap→Prop
 |null:Rgt kK
 |bool (b:Bool):Rgt (BH b)
 |int (n:Int) (h:cT n):Rgt (iA n)
 |text (t:List Int) (h:Byt t) (hl:t.length≤64):Rgt (xd t)
theorem Rgt.of {v:Ap} (h:VOK v) (hr:right v=true):Rgt v:=by
 unfold right at hr;split at hr
 ·have:=of_decide_eq_true hr;rw [this];exact .null
 split at hr
 ·have:=of_decide_eq_true hr;rw [this];exact .bool _
 split at hr
 ·have:=of_decide_eq_true hr;rw [this];exact .int _ h.int
 split at hr
 ·simp only [Bool.and_eq_true,decide_eq_true_eq] at hr
  rw [hr.1];exact .text _ h.text (by omega)
 ·cases hr
theorem Rgt.right {v:Ap} (h:Rgt v):right v=true:=by
 cases h with
 |null=>rfl
 |bool b=>cases b<;>rfl
 |int n _=>simp [Go.Proofs.YthbonoagbeilkaaGreat.Hay.right]
 |text t _ hl=>simp [Go.Proofs.YthbonoagbeilkaaGreat.Hay.right];omega
theorem Rgt.ok {v:Ap} (h:Rgt v):VOK v:=by
 cases h with
 |null=>exact ⟨by simp [cT],by simp [cT],Byt.nil⟩
 |bool b=>exact ⟨by simp [cT],by simp [cT],Byt.nil⟩
 |int n h=>exact ⟨by simp [cT],h,Byt.nil⟩
 |text t h _=>exact ⟨by simp [cT],by simp [cT],h⟩
def bp (v:Ap):List Int:=
 if v.fKind=1 then [1,if v.fBool then 1 else 0] else if v.fKind=2 then 2::be8 (v.fInt%18446744073709551616) else if v.fKind=3 then 3::(v.fText.length:Int)::v.fText else [v.fKind]
theorem GA:bp kK=[0]:=rfl
theorem GB (b:Bool):bp (BH b)=[1,if b then 1 else 0]:=rfl
theorem uE (n:Int):bp (iA n)=2::be8 (n%18446744073709551616):=rfl
theorem sI (t:List Int):bp (xd t)=3::(t.length:Int)::t:=rfl
theorem rK {v:Ap} (h:Rgt v):Byt (bp v):=by
 cases h with
 |null=>exact .cons (by decide) .nil
 |bool b=>exact .cons (by decide) (.cons (by cases b<;>decide) .nil)
 |int n h=>exact .cons (by decide) (wc _)
 |text t h hl=>exact .cons (by decide) (.cons (by show 0≤(t.length:Int)∧(t.length:Int)<256;omega) h)
theorem d5 {v:Ap} (h:Rgt v):1≤(bp v).length∧(bp v).length≤66:=by
 cases h with
 |null=>decide
 |bool b=>cases b<;>decide
 |int n h=>rw [uE];simp [b9]
 |text t h hl=>rw [sI];simp;omega
theorem Bl {p:List Int} (n:Int) (hp:p.length+8≤140737488355328):l7 p n=some (p++be8 n):=by
 unfold l7;refine aU (fun i=>((i:Int),(be8 n).take i++Z3 (8 - i) 0)) 8 rfl ?_ ?_
 ·intro i hi
  dsimp only;unfold kQ;have h1:decide ((i:Int)<8)=true:=by simpa using by omega
  have h2:Z0.wrap (8*(i:Int))=((8*i:Nat):Int):=by rw [ak (by omega)];omega
  have h3:Z0.wrap (56 - ((8*i:Nat):Int))=((56 - 8*i:Nat):Int):=by rw [ak (by omega)];omega
  rw [if_pos h1,h2,h3,pT (by omega),bh,aT (by omega),rJ (by simp),Z1];have hl:((be8 n).take i++Z3 (8 - i) (0:Int)).length=8:=by simp [b9];omega
  have hj:ix ((be8 n).take i++Z3 (8 - i) (0:Int)) (i:Int)=some i:=by unfold ix;rw [if_pos (by rw [hl];omega)];simp
  rw [hj,Z1,Z7 (by omega),Z1];have:i=0∨i=1∨i=2∨i=3∨i=4∨i=5∨i=6∨i=7:=by omega
  rcases this with rfl|rfl|rfl|rfl|rfl|rfl|rfl|rfl<;>simp [be8,Z3]
 ·unfold kQ nt
  have e:(be8 n).take 8++Z3 (8 - 8) (0:Int)=be8 n:=by simp [be8]
  dsimp only;rw [if_neg (by simp)];rw [e,aF (by simp [b9];omega)];rfl
theorem DG {p:List Int} {v:Ap} (h:Rgt v) (hp:p.length+66≤140737488355328):ur p v=some (p++bp v):=by
 unfold ur;rw [aF (by simp;omega),Z1];cases h with
 |null=>simp [bp,bh]
 | bool b =>
  cases b
  ·simp only [bp,bh]
   rw [if_pos (by decide),if_neg (by decide),aF (by simp;omega)];simp
  ·simp only [bp,bh]
   rw [if_pos (by decide),if_pos (by decide),aF (by simp;omega)];simp
 |int n h=>
  simp only [bh,bA,bp];rw [if_neg (by decide),if_pos (by decide),Bl _ (by simp;omega)];simp
 |text t h hl=>
  simp only [bh,bp];rw [if_neg (by decide),if_neg (by decide),if_pos (by decide),aF (by simp;omega),Z1,aF (by simp;omega)];simp;omega
theorem DH (l:List Ap) (hl:l.length≤281474976710656):rk l=some (l.all right&&decide (l.length≤16)):=by
 have h:rk l=some (if l.all right then decide ((l.length:Int)≤16) else false):=by
  unfold rk;refine uD l right _ _ (fun i h hp=> ?_) (fun i h hp=> ?_) ?_
  ·unfold pK
   rw [if_pos (by simpa using h),ay h,Z1,iJ,Z1,hp,if_neg (by decide),aT (by omega)]
  ·unfold pK
   rw [if_pos (by simpa using h),ay h,Z1,iJ,Z1,hp];rfl
  ·unfold pK xu
   rw [if_neg (by simp)];rfl
 rw [h];cases l.all right<;>simp;omega
def uF (l:List Ap):List Int:=(l.length:Int)::l.flatMap bp
theorem i7 {l:List Ap} (h: ∀v∈l,Rgt v):(l.flatMap bp).length≤66*l.length:=by
 induction l with
 |nil=>simp
 |cons v r ih=>
  have:=(d5 (h v (by simp))).2;have:=ih (fun x hx=>h x (by simp [hx]));rw [List.flatMap_cons,List.length_append,X3];omega
theorem lU {α:Type} {l:List α} {f:α→List Int} {i:Nat} (h:i<l.length):(l.take (i+1)).flatMap f=(l.take i).flatMap f++f l[i]:=by
 rw [Za h,List.flatMap_append,List.flatMap_singleton]
theorem tW {l:List Ap} (h: ∀v∈l,Rgt v) (hl:l.length≤16):mJ l=some (uF l,0):=by
 unfold mJ;rw [DH l (by omega),Z1];have ha:l.all right=true:=by rw [List.all_eq_true];exact fun v hv=>(h v hv).right
 rw [ha,if_neg (by simpa using hl)];refine aU (fun i=>((l.length:Int)::(l.take i).flatMap bp,(i:Int))) l.length (by simp [bh];omega) (fun i hi=> ?_) ?_
 ·dsimp only
  unfold pa;have:=i7 (l:=l.take i) fun v hv=>h v (List.mem_of_mem_take hv);rw [if_pos (by simpa using hi),ay hi,Z1,DG (h _ (Zk hi)) (by simp at this ⊢;omega),Z1,aT (by omega),lU hi]
  rfl
 ·unfold pa tR
  rw [if_neg (by simp)];simp [uF]
theorem qq {v:Ap} (h:Rgt v):kq v=some (bp v):=by
 unfold kq;rw [tW (l:=[v]) (by simpa using h) (by simp),Z1]
 have:sub (uF [v]) 1 ((uF [v]).length:Int)=some (bp v):=by
  have:=ef (xs:=uF [v]) (lo:=1) (hi:=(uF [v]).length) (by simp [uF]) (Zn _);rw [show ((1:Nat):Int)=1 from rfl] at this;rw [this];simp [uF]
 dsimp only;rw [this];rfl
theorem oO {v:Ap} (h:Rgt v):qb v=some (bp v):=by
 unfold qb vL;cases h with
 |null=>simp [bp,bh]
 |bool b=>cases b<;>simp [bp,bh,app]
 |int n h=>
  simp only [bh,bA,bp];rw [if_neg (by decide),if_neg (by decide),if_neg (by decide),if_pos (by decide),wb,Z1,aF (by simp [b9])];simp
 |text t h hl=>
  simp only [bh,bp];rw [if_neg (by decide),if_neg (by decide),if_neg (by decide),if_neg (by decide),if_pos (by decide),aF (by simp),Z1,aF (by simp;omega)];simp;omega
def cf:List Int→Option (Ap×Nat)
 |[]=>none
 |k::b=>
  if k=0 then some (kK,1) else
  if k=1 then (match b with|c::_=>if c≤1 then some (BH (c==1),2) else none|[]=>none) else
  if k=2 then (if 8≤b.length then some (iA (Z0.wrap (ej (b.take 8))),9) else none) else
  if k=3 then (match b with|c::r=>if c≤64∧c≤(r.length:Int) then some (xd (r.take c.toNat),2+c.toNat) else none|[]=>none) else none
theorem IB {l:List Int} (h:Byt l) (hl:l.length=8):be8 (ej l)=l:=by
 match l,hl with
 |[a,b,c,d,e,f,g,i],_=>
  have ha:=h a (by simp);have hb:=h b (by simp);have hc:=h c (by simp);have hd:=h d (by simp);have he:=h e (by simp);have hf:=h f (by simp);have hg:=h g (by simp);have hi:=h i (by simp);simp only [be8,ej,List.foldl_cons,List.foldl_nil,List.cons.injEq,and_true];refine ⟨?_,?_,?_,?_,?_,?_,?_,?_⟩<;>omega
theorem i8 (n:Int):Z0.wrap n=(n+9223372036854775808)%18446744073709551616 - 9223372036854775808:=by
 simp only [IntKind.wrap,IntKind.bits,IntKind.signed];simp;omega
theorem IC {n:Int} (h:0≤n∧n<18446744073709551616):Z0.wrap n%18446744073709551616=n:=by
 rw [i8];omega
theorem yf {n:Int} (h:cT n):Z0.wrap (n%18446744073709551616)=n:=by
 rw [i8];unfold cT at h;omega
theorem k8 (n:Int):cT (Z0.wrap n):=by rw [i8];unfold cT;omega
theorem qf {v:Ap} (h:Rgt v) (r:List Int):cf (bp v++r)=some (v,(bp v).length):=by
 cases h with
 |null=>simp [GA,cf]
 |bool b=>cases b<;>simp [GB,cf]
 |int n h=>
  rw [uE];have h1: ¬ ((2:Int)=0):=by decide
  have h2: ¬ ((2:Int)=1):=by decide
  have h3:8≤(be8 (n%18446744073709551616)++r).length:=by simp [b9]
  have h4:(be8 (n%18446744073709551616)++r).take 8=be8 (n%18446744073709551616):=List.take_left' (b9 _);simp only [List.cons_append,cf];rw [if_neg h1,if_neg h2,if_pos trivial,if_pos h3,h4,ye (by omega) (by omega),yf h];simp [b9]
 |text t h hl=>
  rw [sI];simp only [List.cons_append,cf];rw [if_neg (by decide),if_neg (by decide),if_neg (by decide),if_pos trivial,if_pos (by simp;omega)];simp;omega
theorem ml {b:List Int} {v:Ap} {n:Nat} (hb:Byt b) (h:cf b=some (v,n)):Rgt v∧ ∃r,b=bp v++r∧n=(bp v).length:=by
 cases b with
 |nil=>cases h
 | cons k b =>
  simp only [cf] at h;split at h
  ·rename_i hk;subst hk
   simp only [Option.some.injEq,Prod.mk.injEq] at h;obtain ⟨rfl,rfl⟩:=h;exact ⟨.null,b,rfl,rfl⟩
  split at h
  ·rename_i hk;subst hk
   cases b with
   |nil=>cases h
   | cons c r =>
    simp only at h;split at h
    ·rename_i hc
     simp only [Option.some.injEq,Prod.mk.injEq] at h;obtain ⟨rfl,rfl⟩:=h;have h0:=hb.tail.head;have:c=0∨c=1:=by omega
     rcases this with rfl|rfl
     ·exact ⟨.bool _,r,rfl,rfl⟩
     ·exact ⟨.bool _,r,rfl,rfl⟩
    ·cases h
  split at h
  ·rename_i hk;subst hk
   split at h
   ·rename_i hl
    simp only [Option.some.injEq,Prod.mk.injEq] at h;obtain ⟨rfl,rfl⟩:=h;have h8:(b.take 8).length=8:=by simp;omega
    have hbd:=zO (b.take 8) (hb.tail.take 8);rw [h8] at hbd;refine ⟨.int _ (k8 _),b.drop 8,?_,?_⟩
    ·rw [uE,IC (by omega),IB (hb.tail.take 8) h8]
     simp
    ·rw [uE];simp [b9]
   ·cases h
  split at h
  ·rename_i hk;subst hk
   cases b with
   |nil=>cases h
   | cons c r =>
    simp only at h;split at h
    ·rename_i hc
     simp only [Option.some.injEq,Prod.mk.injEq] at h;obtain ⟨rfl,rfl⟩:=h;have h0:=hb.tail.head;refine ⟨.text _ (hb.tail.tail.take _) (by simp;omega),r.drop c.toNat,?_,?_⟩
     ·rw [sI]
      have:((r.take c.toNat).length:Int)=c:=by simp;omega
      rw [this];simp
     ·rw [sI];simp;omega
    ·cases h
  ·cases h
theorem rL {b:List Int} {v:Ap} {n:Nat} (hb:Byt b) (h:cf b=some (v,n)):1≤n∧n≤66∧n≤b.length:=by
 obtain ⟨h1,r,rfl,rfl⟩:=ml hb h;have:=d5 h1;simp;omega
theorem qO {b:List Int} {v:Ap} {n k:Nat} (hb:Byt b) (h:cf (b.take k)=some (v,n)):cf b=some (v,n)∧n≤k:=by
 obtain ⟨h1,r,h2,rfl⟩:=ml (hb.take k) h;have h3:b=bp v++(r++b.drop k):=by rw [←List.append_assoc, ←h2];simp
 refine ⟨by rw [h3];exact qf h1 _,?_⟩;have:=congrArg List.length h2;simp at this;omega
theorem vg {b:List Int} {v:Ap} {n k:Nat} (hb:Byt b) (h:cf b=some (v,n)) (hk:n≤k):cf (b.take k)=some (v,n):=by
 obtain ⟨h1,r,rfl,rfl⟩:=ml hb h;rw [List.take_append,Zz hk];exact qf h1 _
theorem GC {x y:Int} (k:Nat) (hx:0≤x) (h0:0≤y) (hy:y<2^k) (hs:x*2^k+y<18446744073709551616):bOr .u64 (x*2^k) y=x*2^k+y:=by
 obtain ⟨a,rfl⟩:=Z8 hx;obtain ⟨b,rfl⟩:=Z8 h0;have e:(a:Int)*2^k=((2^k*a:Nat):Int):=by rw [Int.natCast_mul,Z6,Int.mul_comm];rfl
 have e2:((2:Int)^k)=((2^k:Nat):Int):=by rw [Z6];rfl
 rw [e2] at hy;rw [e] at hs ⊢;have hb:b<2^k:=by omega
 rw [IA (by omega) (by omega), ←Zq hb];omega
theorem zP {b:List Int} (hb:Byt b) (hl:8≤b.length):pQ b=some (ej (b.take 8)):=by
 unfold pQ;refine aU (fun i=>(ej (b.take i),(i:Int))) 8 (by simp [ej]) (fun i hi=> ?_) ?_
 ·dsimp only
  unfold ph;have hi':i<b.length:=by omega
  have hbd:=zO (b.take i) (hb.take i);have hci:=hb b[i] (Zk hi')
  have hp:(256:Int)^(b.take i).length≤256^7:=by
   have:(b.take i).length≤7:=by simp;omega
   have h9:=Zc (show 0<256 by omega) this;have h8:=Int.ofNat_le.2 h9;simpa [Z6] using h8
  have hsh:=yZ (x:=ej (b.take i)) (k:=8) (by omega);rw [show ((8:Nat):Int)=8 from rfl] at hsh
  have e:ej (b.take (i+1))=ej (b.take i)*256+b[i]:=by
   rw [Za hi',tz]
  have e1:ej (b.take i)*2^8%18446744073709551616=ej (b.take i)*2^8:=by omega
  have e2:b[i]%18446744073709551616=b[i]:=by omega
  rw [if_pos (by simpa using by omega),ay hi',Z1,aT (by omega),hsh,bA,e,e1,e2,GC 8 (by omega) (by omega) (by omega) (by omega)]
  rfl
 ·unfold ph tU
  dsimp only;rw [if_neg (by simp)];rfl
theorem dF {α:Type} (a:α) (l:List α):idx (a::l) 0=some a:=ay (xs:=a::l) (i:=0) (by simp)
theorem AW {α:Type} (a b:α) (l:List α):idx (a::b::l) 1=some b:=ay (xs:=a::b::l) (i:=1) (by simp)
theorem gB {α:Type} {xs:List α} {k:Nat} (h:k≤xs.length):sub xs (k:Int) (xs.length:Int)=some (xs.drop k):=by
 rw [ef h (Zn _),List.take_length]
theorem sJ {α:Type} (a:α) (l:List α):sub (a::l) 1 ((a::l).length:Int)=some l:=by
 have:=gB (xs:=a::l) (k:=1) (by simp);simpa using this
theorem tX {c:Int} (h:0≤c∧c<256):Z0.wrap c=c:=ak (by omega)
theorem CJ {b:List Int} (hb:Byt b):sw b=some (match cf b with|some (v,n)=>(v,b.drop n,true)|none=>(kK,[],false)):=by
 cases b with
 |nil=>rfl
 | cons k r =>
  have hk:=hb.head;have hr:=hb.tail;unfold sw;rw [if_neg (by simp;omega),dF,Z1,sJ,Z1,tX hk]
  by_cases h0:k=0
  ·subst h0;simp [cf,kp]
  rw [if_neg (by simpa using h0)];have e0:jY r false=some (kK,[],false):=rfl
  by_cases h1:k=1
  ·subst h1
   have e2:jZ 1 r false=some (kK,[],false):=rfl;rw [if_pos (by simp)];cases r with
   |nil=>simp [cf,e2]
   | cons c r =>
    rw [if_pos (by simp;omega),dF,Z1]
    by_cases hc:c≤1
    ·unfold jZ
     rw [if_pos (by simpa using hc),dF,Z1,sJ];simp [cf,hc,oy]
    ·have:decide (c≤1)=false:=by simpa using hc
     rw [this,e2];simp [cf,hc]
  rw [if_neg (by simpa using h1)];unfold jZ;rw [if_neg (by decide),tX hk]
  by_cases h2:k=2
  ·subst h2
   rw [if_pos (by simp)];unfold oI
   by_cases hl:8≤r.length
   ·have hs:=gB (xs:=r) (k:=8) hl
    rw [show ((8:Nat):Int)=8 from rfl] at hs;rw [if_pos (by simpa using by omega),zP hr hl,Z1];unfold eo;rw [Z1,hs];simp [cf,hl]
   ·rw [if_neg (by simpa using by omega),if_neg (by decide),e0]
    simp [cf,hl]
  rw [if_neg (by simpa using h2)];unfold oI;rw [if_neg (by decide),tX hk]
  by_cases h3:k=3
  ·subst h3
   rw [if_pos (by simp)];cases r with
   |nil=>simp [cf,e0]
   | cons c r =>
    have hc:=hr.head;rw [if_pos (by simp;omega),dF,Z1]
    by_cases hc64:c≤64
    ·rw [if_pos (by simpa using hc64),Z1,tX hc]
     by_cases hl:c≤(r.length:Int)
     ·obtain ⟨n,rfl⟩:=Z8 hc.1
      have e3:Z4.wrap (1+(n:Int))=((1+n:Nat):Int):=by rw [bh];omega
      have hs:=ef (xs:=(n:Int)::r) (lo:=1) (hi:=1+n) (by omega) (by simp;omega);rw [show ((1:Nat):Int)=1 from rfl] at hs;have hs2:=gB (xs:=(n:Int)::r) (k:=1+n) (by simp;omega);unfold jY;rw [if_pos (by simp;omega),dF,Z1,e3,hs,Z1];unfold oz;rw [Z1,Z1,e3,hs2]
      have e5:cf (3::(n:Int)::r)=some (xd (r.take n),2+n):=by
       simp only [cf];rw [if_neg (by decide),if_neg (by decide),if_neg (by decide),if_pos trivial,if_pos ⟨hc64,hl⟩];simp
      rw [e5];simp only [Z1,Option.some.injEq,Prod.mk.injEq,and_true];have e6:1+n=n+1:=by omega
      have e7:2+n=n+1+1:=by omega
      rw [e6,e7];simp
     ·have:decide (c<(((c::r).length:Nat):Int))=false:=by simp;omega
      rw [this,e0];simp [cf,hl]
    ·rw [if_neg (by simpa using hc64),e0];simp [cf,hc64]
  rw [if_neg (by simpa using h3),e0];simp [cf,h0,h1,h2,h3]
def qg:Nat→List Int→Option (List Ap×List Int)
 |0,b=>some ([],b)
 |n+1,b=>match cf b with
  |some (v,k)=>(qg n (b.drop k)).map fun x=>(v::x.1,x.2)
  |none=>none
theorem yg (many:Nat) (hm:many≤255): ∀(n i:Nat) (b:List Int) (acc:List Ap),i+n=many→Byt b→acc.length=i→
  aq (fun s:(List Int×List Ap×Int)=>j0 (many:Int) s.1 s.2.1 s.2.2) (b,acc,(i:Int))=some (match qg n b with|some (l,[])=>(acc++l,0)|_=>([],30)):=by
 intro n
 induction n with
 |zero=>
  intro i b acc hi hb ha;apply aY;dsimp only;unfold j0 tV;rw [if_neg (by rw [ak (by omega)];simp;omega)];cases b with
  |nil=>simp [qg]
  |cons c r=>simp [qg]
 | succ n ih =>
  intro i b acc hi hb ha
  have step:j0 (many:Int) b acc (i:Int)=match cf b with|some (v,k)=>some (.inl (b.drop k,acc++[v],((i+1:Nat):Int)))|none=>some (.inr ([],30)):=by
   unfold j0;rw [if_pos (by rw [ak (by omega)];simp;omega),CJ hb,Z1];cases hp:cf b with
   |none=>rfl
   |some x=>
    obtain ⟨v,k⟩:=x;simp only [Bool.not_true,Zm,if_false];rw [aF (by simp;omega),Z1,aT (by omega)]
  simp only [qg];cases hp:cf b with
  |none=>rw [hp] at step;rw [aY (by dsimp only;exact step)]
  | some x =>
   obtain ⟨v,k⟩:=x;rw [hp] at step;rw [bK (by dsimp only;exact step),ih (i+1) _ _ (by omega) (hb.drop _) (by simp;omega)];dsimp only;cases hq:qg n (b.drop k) with
   |none=>rfl
   |some y=>
    obtain ⟨l,r⟩:=y;cases r<;>simp
theorem zQ {b:List Int} (hb:Byt b):lh b=some (match b with|[]=>([],30)|c::r=>if c≤16 then (match qg c.toNat r with|some (l,[])=>(l,0)|_=>([],30)) else ([],30)):=by
 cases b with
 |nil=>rfl
 | cons c r =>
  have hc:=hb.head;unfold lh;rw [if_neg (by simp;omega),dF,Z1];unfold pi
  by_cases h:c≤16
  ·rw [if_neg (by simpa using h),dF,Z1,sJ,Z1]
   have:=yg c.toNat (by omega) c.toNat 0 r [] (by omega) hb.tail rfl;rw [show ((c.toNat:Nat):Int)=c by omega] at this;rw [show ((0:Nat):Int)=0 from rfl] at this;rw [this];simp [h]
  ·rw [if_pos (by simpa using by omega)];simp [h]
theorem sK {c:List Int} (hb:Byt c):lh (1::c)=some (match cf c with|some (v,k)=>if k=c.length then ([v],0) else ([],30)|none=>([],30)):=by
 rw [zQ (hb.cons (by decide))];simp only [show ((1:Int)≤16)=True by simp,if_true,show (1:Int).toNat=1 from rfl,qg];cases hp:cf c with
 |none=>rfl
 | some x =>
  obtain ⟨v,k⟩:=x;have:=(rL hb hp).2.2;simp only [Option.map_some]
  by_cases h:k=c.length
  ·subst h;simp
  ·rw [if_neg h]
   cases hd:c.drop k with
   |nil=>have:=List.drop_eq_nil_iff.1 hd;omega
   |cons _ _=>rfl
theorem CK {r:ai} (hb:Byt r.fB) (hl:r.fB.length<140737488355328):dE r=some (match cf r.fB with|some (v,n)=>(v,⟨r.fB.drop n,r.fOk⟩)|none=>(kK,⟨r.fB,false⟩)):=by
 unfold dE
 have step: ∀k,1≤k→k≤r.fB.length→k≤66→gE r (k:Int)=match cf (r.fB.take k) with|some (v,n)=>(if n=k then some (.inr (v,⟨r.fB.drop k,r.fOk⟩)) else some (.inl ((k+1:Nat):Int)))|none=>some (.inl ((k+1:Nat):Int)):=by
  intro k h1 h2 h3;have hs:=ef (xs:=r.fB) (lo:=0) (hi:=k) (by omega) h2;rw [show ((0:Nat):Int)=0 from rfl] at hs;unfold gE gD;rw [if_pos (by simpa using by omega),if_pos (by simp;omega),hs,Z1,aF (by simp;omega),Z1,List.drop_zero,List.singleton_append,sK (hb.take _),Z1,gB h2,aT (by omega)];have hlen:(r.fB.take k).length=k:=by simp;omega
  cases hp:cf (r.fB.take k) with
  |none=>rfl
  |some x=>
   obtain ⟨v,n⟩:=x;simp only [hlen]
   by_cases e:n=k
   ·rw [if_pos e,if_pos e];rfl
   ·rw [if_neg e,if_neg e];rfl
 cases hp:cf r.fB with
 | some x =>
  obtain ⟨v,n⟩:=x;have hn:=rL hb hp;refine aU (fun i=>((i+1:Nat):Int)) (n - 1) rfl (fun i hi=> ?_) ?_
  ·rw [step (i+1) (by omega) (by omega) (by omega)]
   cases hq:cf (r.fB.take (i+1)) with
   |none=>rfl
   |some y=>
    obtain ⟨v',n'⟩:=y;obtain ⟨h1,h2⟩:=qO hb hq;rw [hp] at h1;simp only [Option.some.injEq,Prod.mk.injEq] at h1;omega
  ·have e:n - 1+1=n:=by omega
   rw [e,step n (by omega) (by omega) (by omega),vg hb hp (Zn _)];simp
 | none =>
  refine aU (fun i=>((i+1:Nat):Int)) (min r.fB.length 66) rfl (fun i hi=> ?_) ?_
  ·rw [step (i+1) (by omega) (by omega) (by omega)]
   cases hq:cf (r.fB.take (i+1)) with
   |none=>rfl
   |some y=>
    obtain ⟨v',n'⟩:=y;obtain ⟨h1,h2⟩:=qO hb hq;rw [hp] at h1;cases h1
  ·have e0:gD r ((min r.fB.length 66+1:Nat):Int) false=some (.inr (kK,⟨r.fB,false⟩)):=rfl
   unfold gE;split
   ·have:decide (((min r.fB.length 66+1:Nat):Int)≤66)=false:=by
     rename_i h;simp at h ⊢;omega
    rw [this,e0]
   ·exact e0
def eE (f:Nat→Bool):Nat→Nat
 |0=>0
 |n+1=>2^n*(f n).toNat+eE f n
theorem mn (f:Nat→Bool): ∀n,eE f n<2^n
 |0=>by simp [eE]
 |n+1=>by
  have:=mn f n;simp only [eE];cases f n<;>simp [Zo]<;>omega
theorem lV (f:Nat→Bool): ∀n k,(eE f n).testBit k=(decide (k<n)&&f k)
 |0,k=>by simp [eE]
 | n + 1, k => by
  simp only [eE];rw [Nat.testBit_two_pow_mul_add _ (mn f n),lV f n k]
  by_cases h:k<n
  ·rw [if_pos h];simp [h];intro _;omega
  ·rw [if_neg h]
   by_cases h':k=n
   ·subst h';simp;cases f k<;>rfl
   ·have: ¬ k<n+1:=by omega
    simp [this];have:k - n≠0:=by omega
    cases f n
    ·simp
    ·simp only [Bool.toNat_true]
     obtain ⟨j,hj⟩: ∃j,k - n=j+1:=⟨k - n - 1,by omega⟩
     rw [hj,Nat.testBit_succ];simp
theorem mo {f g:Nat→Bool} {n:Nat} (h: ∀k,k<n→f k=g k):eE f n=eE g n:=by
 apply Zp;intro k;rw [lV,lV]
 by_cases hk:k<n
 ·rw [h k hk]
 ·simp [hk]
theorem GD {x n:Nat} (h:x<2^n):eE (fun k=>x.testBit k) n=x:=by
 apply Zp;intro k;rw [lV]
 by_cases hk:k<n
 ·simp [hk]
 ·have:=Nat.testBit_lt_two_pow (Nat.lt_of_lt_of_le h (Zc (by decide) (Nat.le_of_not_lt hk)))
  simp [this]
theorem Ed (x k:Nat):x/2^k=2*(x/2^(k+1))+(x.testBit k).toNat:=by
 have h1:x/2^(k+1)=x/2^k/2:=by rw [Zo,Zd]
 rw [h1,Zi];have:x/2^k%2=0∨x/2^k%2=1:=by omega
 rcases this with h|h<;>simp [h]<;>omega
def eZ (l:List Int) (w p:Nat):Bool:=decide (p<l.length*w)&&(l.getD (p/w) 0).toNat.testBit (p%w)
def jf (l:List Int) (w q:Nat):List Int:=(Zw ((l.length*w+7)/8)).map fun j=>((eE (fun k=>decide (8*j+k<q)&&eZ l w (8*j+k)) 8:Nat):Int)
def cI (l:List Int) (w:Nat):List Int:=jf l w (l.length*w)
theorem fw (l:List Int) (w q:Nat):(jf l w q).length=(l.length*w+7)/8:=by simp [jf]
theorem lW (l:List Int) (w q j:Nat) (h:j<(jf l w q).length):(jf l w q)[j]=((eE (fun k=>decide (8*j+k<q)&&eZ l w (8*j+k)) 8:Nat):Int):=by simp [jf]
theorem y2 (l:List Int) (w:Nat):Byt (cI l w):=fun c hc=>by
 simp only [cI,jf,List.mem_map] at hc;obtain ⟨j,_,rfl⟩:=hc;have:=mn (fun k=>decide (8*j+k<l.length*w)&&eZ l w (8*j+k)) 8;omega
theorem GE (l:List Int) (w q:Nat) (hq:q<l.length*w) (hb:eZ l w q=true):
  ∃x:Nat,x<256∧(jf l w q)[q/8]? =some (x:Int)∧(jf l w q).set (q/8) (((x|||2^(q%8):Nat)):Int)=jf l w (q+1):=by
 have hlt:q/8<(jf l w q).length:=by rw [fw];omega
 refine ⟨_,mn _ 8,by rw [Z7 hlt,lW],?_⟩;apply Zs
 ·simp [fw]
 intro j h1 h2;rw [List.getElem_set,lW];split
 ·rename_i e
  subst e;rw [lW];congr 1;apply Zp;intro k;rw [Nat.testBit_or,lV,lV,Nat.testBit_two_pow]
  by_cases hk:k<8
  ·by_cases e:q%8=k
   ·have:8*(q/8)+k=q:=by omega
    simp [hk,e,this,hb]
   ·have h3:(8*(q/8)+k<q+1)=(8*(q/8)+k<q):=by apply propext;omega
    simp [e,h3]
  ·have:q%8≠k:=by omega
   simp [hk,this]
 ·rename_i e
  rw [lW];congr 1;apply mo;intro k hk;have h3:(8*j+k<q+1)=(8*j+k<q):=by apply propext;omega
  simp [h3]
theorem Fe (l:List Int) (w q:Nat) (hb:eZ l w q=false):jf l w q=jf l w (q+1):=by
 unfold jf;apply List.map_congr_left;intro j _;congr 1;apply mo;intro k hk
 by_cases e:8*j+k=q
 ·rw [e,hb];simp
 ·have h3:(8*j+k<q+1)=(8*j+k<q):=by apply propext;omega
  simp [h3]
theorem Ff (l:List Int) (w:Nat):jf l w 0=Z3 ((l.length*w+7)/8) 0:=by
 apply Zs
 ·simp [fw]
 intro j h1 h2;rw [lW];have:eE (fun k=>decide (8*j+k<0)&&eZ l w (8*j+k)) 8=eE (fun _=>false) 8:=mo fun k _=>by simp
 rw [this];simp [eE]
def en (b:List Int) (p:Nat):Bool:=(b.getD (p/8) 0).toNat.testBit (p%8)
def unp (b:List Int) (w i:Nat):Nat:=eE (fun k=>en b (i*w+k)) w
theorem zR (l:List Int) (w p:Nat) (r:List Int) (hp:p<l.length*w):en (cI l w++r) p=eZ l w p:=by
 have hlt:p/8<(cI l w).length:=by unfold cI;rw [fw];omega
 unfold en;rw [Z5,List.getElem?_append_left hlt,Z7 hlt];simp only [Option.getD_some];have e:(cI l w)[p/8]=_:=lW l w (l.length*w) (p/8) hlt;rw [e];simp only [Int.toNat_natCast];rw [lV];have h1:8*(p/8)+p%8=p:=by omega
 have h2:p%8<8:=by omega
 simp [h1,h2,hp]
theorem yh (l:List Int) (w i k:Nat) (hi:i<l.length) (hk:k<w):i*w+k<l.length*w∧eZ l w (i*w+k)=(l[i]).toNat.testBit k:=by
 have h0:i*w+k<l.length*w:=by
  have:(i+1)*w≤l.length*w:=Zg _ hi;rw [Zu] at this;omega
 refine ⟨h0,?_⟩;unfold eZ
 have h1:(i*w+k)/w=i:=by
  rw [X5,Nat.mul_add_div (by omega),Zx hk];rfl
 have h2:(i*w+k)%w=k:=by
  rw [X5,Nat.mul_add_mod,Nat.mod_eq_of_lt hk]
 rw [h1,h2,Z5,Z7 hi];simp [h0]
theorem Fg (l:List Int) (w i:Nat) (r:List Int) (hi:i<l.length) (hb:0≤l[i]∧l[i]<2^w):(unp (cI l w++r) w i:Int)=l[i]:=by
 have h1:unp (cI l w++r) w i=eE (fun k=>(l[i]).toNat.testBit k) w:=mo fun k hk=>by
  obtain ⟨h2,h3⟩:=yh l w i k hi hk;rw [zR _ _ _ _ h2,h3]
 rw [h1,GD]
 ·omega
 ·have:((l[i].toNat:Nat):Int)<((2^w:Nat):Int):=by
   rw [Z6];have:((l[i].toNat:Nat):Int)=l[i]:=by omega
   rw [this];exact hb.2
  exact Int.ofNat_lt.1 this
theorem tY (n:Nat):chk (decide (0≤(n:Int)))=some ():=rJ (decide_eq_true (Zj n))
theorem or8 {a b:Nat} (ha:a<256) (hb:b<256):bOr .u8 (a:Int) (b:Int)=((a|||b:Nat):Int):=by
 unfold bOr;rw [bh]
 have h1:(Zb Z4.bits (a:Int)).toNat=a:=by
  show (Zb 8 (a:Int)).toNat=a;rw [Z9];omega
 have h2:(Zb Z4.bits (b:Int)).toNat=b:=by
  show (Zb 8 (b:Int)).toNat=b;rw [Z9];omega
 rw [BitVec.toNat_or,h1,h2];have:a|||b<2^8:=Nat.or_lt_two_pow (by simpa using ha) (by simpa using hb)
 omega
theorem LL {a b:Nat} (ha:a<256) (hb:b<256):c9 .u8 (a:Int) (b:Int)=((a&&&b:Nat):Int):=by
 unfold c9;rw [bh]
 have h1:(Zb Z4.bits (a:Int)).toNat=a:=by
  show (Zb 8 (a:Int)).toNat=a;rw [Z9];omega
 have h2:(Zb Z4.bits (b:Int)).toNat=b:=by
  show (Zb 8 (b:Int)).toNat=b;rw [Z9];omega
 rw [BitVec.toNat_and,h1,h2];have:a&&&b≤a:=Nat.and_le_left;omega
theorem zS (x:Nat) (k:Nat):x/2^k&&&1=(x.testBit k).toNat:=by
 rw [Nat.and_one_is_mod,Zi];have:x/2^k%2=0∨x/2^k%2=1:=by omega
 rcases this with h|h<;>simp [h]
theorem LM {x:Int} {k:Nat} (h:0≤x∧x<18446744073709551616) (hk:k≤64):c9 .u64 (aA .u64 x (k:Int)) 1=(x.toNat.testBit k).toNat:=by
 obtain ⟨n,rfl⟩:=Z8 h.1;rw [pT hk];have h1:((n:Int)/2^k)=((n/2^k:Nat):Int):=by simp [Z6]
 have h2:n/2^k≤n:=Zl _ _;rw [h1,show (1:Int)=((1:Nat):Int) from rfl,Jt (by omega) (by omega),zS];simp
theorem Kp {x:Int} {k:Nat} (h:0≤x∧x<256) (hk:k≤8):c9 .u8 (aA .u8 x (k:Int)) 1=(x.toNat.testBit k).toNat:=by
 obtain ⟨n,rfl⟩:=Z8 h.1;rw [RE hk];have h1:((n:Int)/2^k)=((n/2^k:Nat):Int):=by simp [Z6]
 have h2:n/2^k≤n:=Zl _ _;rw [h1,show (1:Int)=((1:Nat):Int) from rfl,LL (by omega) (by omega),zS];simp
theorem ID {i w k:Nat} (hi:i<1048576) (hw:w≤64) (hk:k≤64):Z0.wrap ((Z0.wrap ((i:Int)*(w:Int)))+(k:Int))=((i*w+k:Nat):Int):=by
 have:i*w≤1048576*64:=Zh (by omega) hw;have e:(i:Int)*(w:Int)=((i*w:Nat):Int):=by simp
 rw [e,ak (n:=((i*w:Nat):Int)) (by omega),ak (by omega)];omega
theorem Fh (n:Nat):((n:Int)).tdiv 8=((n/8:Nat):Int):=by
 rw [Zf (by omega)];rfl
theorem Ju (n:Nat):((n:Int)).tmod 8=((n%8:Nat):Int):=by
 rw [Zt (by omega)];rfl
theorem Jv {i w:Nat} (hi:i<1048576) (hw:w≤64):Z0.wrap ((Z0.wrap ((Z0.wrap ((i:Int)*(w:Int)))+7)).tdiv 8)=(((i*w+7)/8:Nat):Int):=by
 have:i*w≤1048576*64:=Zh (by omega) hw;have e:=ID (i:=i) (w:=w) (k:=7) hi hw (by omega);rw [show ((7:Nat):Int)=7 from rfl] at e;rw [e,Fh,ak (by omega)]
def U64 (l:List Int):Prop:= ∀x∈l,0≤x∧x<18446744073709551616
theorem uG {α:Type} {N n:Nat} {z:α} (h:n≤N):mk N (n:Int) z=some (Z3 n z):=by
 unfold mk;rw [if_pos (by omega)];simp
theorem nJ {α:Type} {xs:List α} {i:Nat} (h:i<xs.length):ix xs (i:Int)=some i:=by
 unfold ix;rw [if_pos (by omega)];simp
theorem AX {l:List Int} {w:Nat} (hu:U64 l) (hl:l.length<1048576) (hw:w≤64):ii l (w:Int)=some (cI l w):=by
 have hlw:l.length*w≤1048576*64:=Zh (by omega) hw;unfold ii;rw [Jv hl hw,uG (by omega),Z1];refine aU (fun i=>((i:Int),jf l w (i*w))) l.length (by simp [Ff]) (fun i hi=> ?_) ?_
 ·dsimp only
  unfold iR;rw [if_pos (by simpa using hi),ay hi,Z1];have hx:=hu l[i] (Zk hi);refine aU (fun k=>((k:Int),jf l w (i*w+k))) w rfl (fun k hk=> ?_) ?_
  ·dsimp only
   unfold iQ iP;obtain ⟨h1,h2⟩:=yh l w i k hi hk;rw [if_pos (by simpa using hk),rJ (by simp),Z1,LM hx (by omega),ID (by omega) hw (by omega),Fh,Ju,ak (by omega),aT (by omega)];cases hb:l[i].toNat.testBit k with
   |false=>
    rw [hb] at h2;rw [if_neg (by decide),Fe l w _ h2];rfl
   | true =>
    rw [hb] at h2;obtain ⟨x,hx1,hx2,hx3⟩:=GE l w _ h1 h2;have hlt:(i*w+k)/8<(jf l w (i*w+k)).length:=by rw [fw];omega
    rw [if_pos (by decide),nJ hlt,Z1,hx2,Z1,tY,Z1,Z1,hx2,Z1]
    have h8:eh .u8 1 (((i*w+k)%8:Nat):Int)=((2^((i*w+k)%8):Nat):Int):=by
     unfold eh;rw [bh];have hm:min (((i*w+k)%8:Nat):Int).toNat Z4.bits=(i*w+k)%8:=by simp [IntKind.bits];omega
     rw [hm];have:(2:Nat)^((i*w+k)%8)≤2^7:=Zc (by decide) (by omega);rw [Z6];have e:((2:Int)^((i*w+k)%8))=(((2:Nat)^((i*w+k)%8):Nat):Int):=by simp [Z6]
     rw [show ((2:Nat):Int)=2 from rfl,e];generalize (2:Nat)^((i*w+k)%8)=m at*;omega
    have:(2:Nat)^((i*w+k)%8)≤2^7:=Zc (by decide) (by omega);rw [h8,or8 hx1 (by omega),hx3];rfl
  ·dsimp only
   unfold iQ kt;rw [if_neg (by simp),aT (by omega)];simp [Zu]
 ·unfold iR kr
  rw [if_neg (by simp)];rfl
theorem zT {r:ai} {n:Nat} (hn:n≤281474976710656):cD r (n:Int)=some (if r.fB.length<n then (Z3 n 0,⟨[],false⟩) else (r.fB.take n,⟨r.fB.drop n,r.fOk⟩)):=by
 unfold cD
 by_cases h:r.fB.length<n
 ·rw [if_pos (by simpa using h),if_pos h,uG hn];rfl
 ·rw [if_neg (by simpa using h),if_neg h,uG hn,Z1,ef (by omega) (Zn _)]
  simp only [Z1,List.take_length];unfold cpy;simp;omega
theorem Kq (f:Nat→Bool) (k:Nat):eE f k|||2^k*(f k).toNat=eE f (k+1):=by
 rw [Nat.or_comm, ←Zq (mn f k)];rfl
theorem LN {b:Bool} {k:Nat} (hk:k<64):eh .u64 ((b.toNat:Nat):Int) (k:Int)=((2^k*b.toNat:Nat):Int):=by
 rw [yZ (by omega)];have h1:(2:Nat)^k<2^64:=Nat.pow_lt_pow_right (by decide) hk;have e:((2:Int)^k)=(((2:Nat)^k:Nat):Int):=by simp [Z6]
 rw [e];cases b
 ·simp
 ·simp only [Bool.toNat_true,Nat.mul_one]
  have:(2:Nat)^64=18446744073709551616:=by decide
  generalize (2:Nat)^k=m at*;omega
def rM (r:ai) (many w:Nat):List Int×ai:=
 if 64<w then (Z3 many 0,⟨r.fB,false⟩) else
 if r.fB.length<(many*w+7)/8 then (Z3 many 0,⟨[],false⟩) else
 ((Zw many).map fun i=>((unp r.fB w i:Nat):Int),⟨r.fB.drop ((many*w+7)/8),r.fOk⟩)
theorem GF {l:List Int} {n i:Nat} (h:i<n):(l.take n).getD i 0=l.getD i 0:=by
 rw [Z5,Z5,List.getElem?_take,if_pos h]
theorem IE (b:List Int) (w i n:Nat) (h:(i+1)*w≤8*n):unp (b.take n) w i=unp b w i:=mo fun k hk=>by
 rw [Zu] at h;unfold en;rw [GF (by omega)]
theorem IF (n w i:Nat):unp (Z3 n 0) w i=0:=by
 have:unp (Z3 n 0) w i=eE (fun _=>false) w:=mo fun k hk=>by
  unfold en;rw [Z5,List.getElem?_replicate];split<;>simp
 rw [this];have: ∀w,eE (fun _=>false) w=0:=by intro w;induction w with|zero=>rfl|succ w ih=>simp [eE,ih]
 exact this w
theorem xG {r:ai} {many w:Nat} (hb:Byt r.fB) (hm:many<1048576):dw r (many:Int) (w:Int)=some (rM r many w):=by
 unfold dw rM
 by_cases hw:64<w
 ·rw [if_pos (by simpa using by omega),if_pos hw,uG (by omega)];rfl
 rw [if_neg (by simpa using by omega),if_neg hw];have hw':w≤64:=by omega
 have hlw:many*w≤1048576*64:=Zh (by omega) hw';rw [Jv hm hw',zT (by omega),Z1,uG (by omega),Z1]
 have key: ∀(b:List Int) (r':ai),Byt b→b.length=(many*w+7)/8→
   aq (fun s:(Int×List Int)=>dz (w:Int) (b,r') (Z3 many 0) s.1 s.2) (0,Z3 many 0)=some ((Zw many).map fun i=>((unp b w i:Nat):Int),r'):=by
  intro b r' hb hl;refine aU (fun i=>((i:Int),(Zw i).map (fun i=>((unp b w i:Nat):Int))++Z3 (many - i) 0)) many (by simp) (fun i hi=> ?_) ?_
  ·dsimp only
   unfold dz;rw [if_pos (by simpa using hi)];have hi1:(i+1)*w≤many*w:=Zg _ hi;rw [Zu] at hi1
   have h64: ∀k,k≤64→eE (fun k=>en b (i*w+k)) k<18446744073709551616:=fun k hk=>by
    have:=mn (fun k=>en b (i*w+k)) k;have h2:(2:Nat)^k≤2^64:=Zc (by decide) hk;have:(2:Nat)^64=18446744073709551616:=by decide
    omega
   refine aU (fun k=>((k:Int),(Zw i).map (fun i=>((unp b w i:Nat):Int))++((eE (fun k=>en b (i*w+k)) k:Nat):Int)::Z3 (many - i - 1) 0)) w ?_ (fun k hk=> ?_) ?_
   ·have:many - i=(many - i - 1)+1:=by omega
    rw [this,List.replicate_succ];simp [eE]
   ·dsimp only
    unfold d9;have hat:(i*w+k)/8<b.length:=by omega
    have hlen:i<((Zw i).map (fun i=>((unp b w i:Nat):Int))++((eE (fun k=>en b (i*w+k)) k:Nat):Int)::Z3 (many - i - 1) 0).length:=by simp
    have hget:((Zw i).map (fun i=>((unp b w i:Nat):Int))++((eE (fun k=>en b (i*w+k)) k:Nat):Int)::Z3 (many - i - 1) 0)[i]? =some ((eE (fun k=>en b (i*w+k)) k:Nat):Int):=by simp
    rw [if_pos (by simpa using hk),nJ hlen,Z1,hget,Z1,ID (by omega) hw' (by omega),Fh,Ju,ak (by omega),ay hat,Z1,tY,Z1,tY,Z1,Z1,hget,Z1,aT (by omega)];have hbb:=hb b[(i*w+k)/8] (Zk hat);rw [Kp hbb (by omega)]
    have e:b[(i*w+k)/8].toNat.testBit ((i*w+k)%8)=en b (i*w+k):=by
     unfold en;rw [Z5,Z7 hat];rfl
    rw [e,bA];have e2:(((en b (i*w+k)).toNat:Nat):Int)%18446744073709551616=(((en b (i*w+k)).toNat:Nat):Int):=by cases en b (i*w+k)<;>rfl
    have h3:2^k*(en b (i*w+k)).toNat<18446744073709551616:=by
     have h1:(2:Nat)^k<2^64:=Nat.pow_lt_pow_right (by decide) (by omega);have:(2:Nat)^64=18446744073709551616:=by decide
     cases en b (i*w+k)<;>simp<;>omega
    rw [e2,LN (by omega),IA (h64 k (by omega)) h3,Kq (fun k=>en b (i*w+k)) k];congr 3;rw [List.set_append_right _ _ (by simp)];simp
   ·dsimp only
    unfold d9 fH;rw [if_neg (by simp),aT (by omega)];have:many - i - 1=many - (i+1):=by omega
    rw [this];simp [List.range_succ,unp]
  ·dsimp only
   unfold dz fG;rw [if_neg (by simp)];simp
 by_cases hl:r.fB.length<(many*w+7)/8
 ·rw [if_pos hl,if_pos hl,key _ _ (fun c hc=>by rw [List.eq_of_mem_replicate hc];decide) (by simp)]
  congr 2;apply Zs
  ·simp
  ·intro j h1 h2;simp [IF]
 ·rw [if_neg hl,if_neg hl,key _ _ (hb.take _) (by simp;omega)]
  congr 2;apply Zs
  ·simp
  ·intro j h1 h2
   simp only [List.getElem_map,List.getElem_range];rw [IE];simp at h1;have:(j+1)*w≤many*w:=Zg _ h1;omega
def nK (l:List Int) (w q:Nat):List Int:=(Zw q).map fun p=>((eZ l w p).toNat:Int)
theorem Fi (l:List Int) (w q:Nat):nK l w (q+1)=nK l w q++[((eZ l w q).toNat:Int)]:=by simp [nK,List.range_succ]
theorem yi (l:List Int) {w:Nat} (hl:l.length<1048576) (hw:w≤64):ry (nK l w (l.length*w))=some (cI l w):=by
 have hlw:l.length*w≤1048576*64:=Zh (by omega) hw;unfold ry;have hlen:(nK l w (l.length*w)).length=l.length*w:=by simp [nK]
 refine aU (fun j=>((cI l w).take j,((8*j:Nat):Int))) ((l.length*w+7)/8) (by simp) (fun j hj=> ?_) ?_
 ·dsimp only
  unfold rx;rw [hlen,if_pos (by simpa using by omega)];have hpl:(cI l w).length=(l.length*w+7)/8:=fw _ _ _;refine aU (fun t=>(((eE (fun k=>decide (8*j+k<l.length*w)&&eZ l w (8*j+k)) 8/2^(8 - t):Nat):Int),7 - (t:Int))) 8 ?_ (fun t ht=> ?_) ?_
  ·have:=mn (fun k=>decide (8*j+k<l.length*w)&&eZ l w (8*j+k)) 8
   rw [Zx (by simpa using this)];simp
  ·dsimp only
   unfold rv ru;obtain ⟨k,hk⟩: ∃k,8=t+1+k:=⟨8 - t - 1,by omega⟩
   have e:7 - (t:Int)=(k:Int):=by omega
   have e1:8 - t=k+1:=by omega
   have e2:8 - (t+1)=k:=by omega
   have e4:Z0.wrap ((k:Int) - 1)=7 - ((t+1:Nat):Int):=by rw [ak (by omega)];omega
   have e5:Z0.wrap (((8*j:Nat):Int)+(k:Int))=((8*j+k:Nat):Int):=by rw [ak (by omega)];omega
   rw [e,if_pos (by simp),e1,e2,e4,e5,Ed _ k];have hN:=mn (fun k=>decide (8*j+k<l.length*w)&&eZ l w (8*j+k)) 8;have hN2:eE (fun k=>decide (8*j+k<l.length*w)&&eZ l w (8*j+k)) 8/2^k≤eE (fun k=>decide (8*j+k<l.length*w)&&eZ l w (8*j+k)) 8:=Zl _ _;have hN3:=Ed (eE (fun k=>decide (8*j+k<l.length*w)&&eZ l w (8*j+k)) 8) k;have hbk:=lV (fun k=>decide (8*j+k<l.length*w)&&eZ l w (8*j+k)) 8 k;have hk8:k<8:=by omega
   by_cases hp:8*j+k<l.length*w
   ·rw [if_pos (by simpa using by omega),ay (by rw [hlen];exact hp),Z1]
    have hg:(nK l w (l.length*w))[8*j+k]'(by rw [hlen];exact hp)=(((eE (fun k=>decide (8*j+k<l.length*w)&&eZ l w (8*j+k)) 8).testBit k).toNat:Int):=by
     rw [hbk];simp [nK,hp,hk8]
    rw [hg,bh,bh];congr 3;omega
   ·rw [if_neg (by simpa using by omega)]
    have hg:(eE (fun k=>decide (8*j+k<l.length*w)&&eZ l w (8*j+k)) 8).testBit k=false:=by
     rw [hbk];simp [hp]
    rw [hg] at hN3 ⊢;rw [bh];simp only [Bool.toNat_false,Nat.add_zero] at hN3 ⊢;congr 3;omega
  ·dsimp only
   unfold rv vO vN;rw [if_neg (by decide),aF (by simp;omega),Z1];have h1:j<(cI l w).length:=by omega
   rw [Za h1];have h2:(cI l w)[j]=((eE (fun k=>decide (8*j+k<l.length*w)&&eZ l w (8*j+k)) 8:Nat):Int):=lW _ _ _ _ _;have e9:((8*j:Nat):Int)+8=((8*(j+1):Nat):Int):=by omega
   rw [h2,ak (by omega),e9];simp
 ·dsimp only
  unfold rx vM;rw [hlen,if_neg (by simp;omega)];rw [Zz (by unfold cI;rw [fw];omega)];rfl
theorem vh {l:List Int} {w:Nat} (hu:U64 l) (hl:l.length<1048576) (hw:w≤64):qc l (w:Int)=some (cI l w):=by
 have hlw:l.length*w≤1048576*64:=Zh (by omega) hw;unfold qc;refine aU (fun i=>(nK l w (i*w),(i:Int))) l.length (by simp [nK]) (fun i hi=> ?_) ?_
 ·dsimp only
  unfold rA;have hx:=hu l[i] (Zk hi);have hi1:(i+1)*w≤l.length*w:=Zg _ hi;rw [Zu] at hi1;rw [if_pos (by simpa using hi),ay hi,Z1];refine aU (fun k=>(nK l w (i*w+k),((l[i].toNat/2^k:Nat):Int),(k:Int))) w ?_ (fun k hk=> ?_) ?_
  ·simp;omega
  ·dsimp only
   unfold rz;obtain ⟨h1,h2⟩:=yh l w i k hi hk;have h3:l[i].toNat/2^k≤l[i].toNat:=Zl _ _;have h4:l[i].toNat/2^(k+1)=l[i].toNat/2^k/2:=by rw [Zo,Zd]
   have h5:(((l[i].toNat/2^k:Nat):Int)).tmod 2=((eZ l w (i*w+k)).toNat:Int):=by
    rw [h2, ←zS,Nat.and_one_is_mod,Zt (Zj _)];rfl
   rw [if_pos (by simpa using hk),h5,bh];have h6:((eZ l w (i*w+k)).toNat:Int)%256=((eZ l w (i*w+k)).toNat:Int):=by cases eZ l w (i*w+k)<;>rfl
   rw [h6,aF (by simp [nK];omega),Z1, ←Nat.add_assoc,Fi,aT (by omega),bA,Zf (Zj _),h4];congr 4;generalize l[i].toNat/2^k=q at*;omega
  ·dsimp only
   unfold rz vP;rw [if_neg (by simp),aT (by omega)];simp [Zu]
 ·dsimp only
  unfold rA;rw [if_neg (by simp),yi l hl hw];rfl
def wid (n:Nat):Nat:=if n=0 then 0 else n.log2+1
theorem CL (n:Nat):n<2^wid n:=by
 unfold wid;split
 ·omega
 ·exact Nat.lt_log2_self
theorem IG {n:Nat} (h:n≠0):wid n=wid (n/2)+1:=by
 unfold wid;rw [if_neg h]
 by_cases h1:n/2=0
 ·have:n=1:=by omega
  subst this;rfl
 ·rw [if_neg h1,Nat.log2_def,if_pos (by omega)]
theorem wd {n k:Nat} (h:2^k≤n):wid n=wid (n/2^k)+k:=by
 induction k generalizing n with
 |zero=>simp
 |succ k ih=>
  rw [Zo] at h;have:0<2^k:=Nat.pow_pos (by decide);rw [IG (n:=n) (by omega),ih (n:=n/2) (by omega),Zo,X5 (2^k) 2, ←Zd];omega
theorem oP {n w:Nat} (h:n<2^w):wid n≤w:=by
 unfold wid;split
 ·omega
 ·rename_i h0
  have:=Nat.log2_lt h0 |>.2 h
  omega
theorem CM {n:Nat} (h:n<18446744073709551616):rt (n:Int)=some ((wid n:Nat):Int):=by
 unfold rt;have h64:wid n≤64:=oP (by simpa using h);refine aU (fun i=>(((n/2^i:Nat):Int),(i:Int))) (wid n) (by simp) (fun i hi=> ?_) ?_
 ·dsimp only
  unfold tj
  have h0:0<n/2^i:=by
   rcases Nat.eq_zero_or_pos (n/2^i) with h1|h1
   ·have:n<2^i:=by
     have:=Nat.div_eq_zero_iff.1 h1;have h2:0<2^i:=Nat.pow_pos (by decide);omega
    have:=oP this;omega
   ·exact h1
  have h3:n/2^i≤n:=Zl _ _;have h4:n/2^(i+1)=n/2^i/2:=by rw [Zo,Zd]
  generalize n/2^i=q at*;rw [if_pos (decide_eq_true (by omega)),Zf (Zj _),bA,aT (by omega),h4];congr 3;omega
 ·dsimp only
  unfold tj xC;have:n/2^wid n=0:=Zx (CL n);rw [this,if_neg (by decide)];rfl
def IH:List Int:=[0,1,2,2,3,3,3,3,4,4,4,4,4,4,4,4,5,5,5,5,5,5,5,5,5,5,5,5,5,5,5,5,6,6,6,6,6,6,6,6,6,6,6,6,6,6,6,6,6,6,6,6,6,6,6,6,6,6,6,6,6,6,6,6,7,7,7,7,7,7,7,7,7,7,7,7,7,7,7,7,7,7,7,7,7,7,7,7,7,7,7,7,7,7,7,7,7,7,7,7,7,7,7,7,7,7,7,7,7,7,7,7,7,7,7,7,7,7,7,7,7,7,7,7,7,7,7,7,8,8,8,8,8,8,8,8,8,8,8,8,8,8,8,8,8,8,8,8,8,8,8,8,8,8,8,8,8,8,8,8,8,8,8,8,8,8,8,8,8,8,8,8,8,8,8,8,8,8,8,8,8,8,8,8,8,8,8,8,8,8,8,8,8,8,8,8,8,8,8,8,8,8,8,8,8,8,8,8,8,8,8,8,8,8,8,8,8,8,8,8,8,8,8,8,8,8,8,8,8,8,8,8,8,8,8,8,8,8,8,8,8,8,8,8,8,8,8,8,8,8,8,8,8,8,8,8]
theorem Kr: ∀n:_root_.Fin 256,idx IH ((n.val:Nat):Int)=some ((wid n.val:Nat):Int):=by decide+kernel
set_option maxRecDepth 100000 in
theorem CN (x y:Int):nv x y=(idx IH (Z4.wrap x)).bind fun r=>some (Z0.wrap (y+Z0.wrap r)):=rfl
theorem CO {n k:Nat} (h:n<256) (hk:k≤56):nv (n:Int) (k:Int)=some ((wid n+k:Nat):Int):=by
 have h1:idx IH (n:Int)=some ((wid n:Nat):Int):=Kr ⟨n,h⟩;have hw:wid n≤8:=oP (by simpa using h);rw [CN,bh,show ((n:Int)%256)=(n:Int) by omega,h1,Z1,ak (n:=((wid n:Nat):Int)) (by omega),ak (by omega)];congr 1;omega
theorem CP {n k:Nat} (h:n<65536) (hk:k≤48):nw (n:Int) (k:Int)=some ((wid n+k:Nat):Int):=by
 unfold nw
 by_cases h1:256≤n
 ·rw [if_pos (by simpa using by omega)]
  have e:aA .u64 (n:Int) 8=((n/2^8:Nat):Int):=by have:=pT (x:=(n:Int)) (k:=8) (by omega);simpa using this
  have e2:Z0.wrap ((k:Int)+8)=((k+8:Nat):Int):=by rw [ak (by omega)];rfl
  rw [e,e2,CO (by omega) (by omega),wd (n:=n) (k:=8) (by omega)];congr 2;omega
 ·rw [if_neg (by simpa using by omega),CO (by omega) (by omega)]
theorem CQ {n k:Nat} (h:n<4294967296) (hk:k≤32):ny (n:Int) (k:Int)=some ((wid n+k:Nat):Int):=by
 unfold ny
 by_cases h1:65536≤n
 ·rw [if_pos (by simpa using by omega)]
  have e:aA .u64 (n:Int) 16=((n/2^16:Nat):Int):=by have:=pT (x:=(n:Int)) (k:=16) (by omega);simpa using this
  have e2:Z0.wrap ((k:Int)+16)=((k+16:Nat):Int):=by rw [ak (by omega)];rfl
  rw [e,e2,CP (by omega) (by omega),wd (n:=n) (k:=16) (by omega)];congr 2;omega
 ·rw [if_neg (by simpa using by omega),CP (by omega) (by omega)]
theorem CR {n:Nat} (h:n<18446744073709551616):oB (n:Int)=some ((wid n:Nat):Int):=by
 unfold oB
 by_cases h1:4294967296≤n
 ·rw [if_pos (by simpa using by omega)]
  have e:aA .u64 (n:Int) 32=((n/2^32:Nat):Int):=by have:=pT (x:=(n:Int)) (k:=32) (by omega);simpa using this
  rw [e,show (32:Int)=((32:Nat):Int) from rfl,CQ (by omega) (by omega),wd (n:=n) (k:=32) (by omega)]
 ·rw [if_neg (by simpa using by omega),show (0:Int)=((0:Nat):Int) from rfl,CQ (by omega) (by omega)]
  rfl
theorem len_eq {n:Nat} (h:n<18446744073709551616):pd (n:Int)=some ((wid n:Nat):Int):=by
 unfold pd;rw [CR h];rfl
end Go.Proofs.YthbonoagbeilkaaGreat.Hay
