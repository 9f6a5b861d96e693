import Derived.Test.YthbonoagbeilkaaGreatExI
import Derived.Test.YthbonoagbeilkaaGreatHbM
set_option linter.unusedVariables false
set_option linter.unusedSimpArgs false
namespace Go.Proofs.YthbonoagbeilkaaGreat.Hay
open Option renaming bind_some→Z1
open List renaming replicate→Z3,getD_eq_getElem?_getD→Z5,getElem?_eq_getElem→Z7,take_succ_eq_append_getElem→Za,getElem_mem→Zk,ext_getElem→Zs,drop_eq_getElem_cons→Zv,range→Zw,take_of_length_le→Zz,length_cons→X3,mem_cons→X4
open Nat renaming pow_le_pow_right→Zc,div_div_eq_div_mul→Zd,le_of_ble_eq_true→Ze,mul_le_mul_right→Zg,mul_le_mul→Zh,testBit_eq_decide_div_mod_eq→Zi,div_le_self→Zl,le_refl→Zn,pow_succ→Zo,eq_of_testBit_eq→Zp,two_pow_add_eq_or_of_lt→Zq,add_mul→Zu,div_eq_of_lt→Zx,mul_comm→X5
open Bool renaming false_eq_true→Zm
open Int renaming natCast_pow→Z6,eq_ofNat_of_zero_le→Z8,tdiv_eq_ediv_of_nonneg→Zf,natCast_nonneg→Zj,fdiv_eq_ediv_of_nonneg→Zr,tmod_eq_emod_of_nonneg→Zt
open BitVec renaming toNat_ofInt→Z9,ofInt→Zb
open IntKind renaming i64→Z0,u64→Z2,u8→Z4,u32→Zy
section
variable {G:Sg} {P:Program} {W0:Bse} {m:M} {z:Cz} {a:Act} {w:World} {Γ:Tab P G}
def Jo (Γ : Tab P G) (st : St G) (b t : Nat) : Option (AV G) :=
  match Γ.ty t,av? (st.op (.tmp b)) with
  | some I, some (.blk i) => (match eR st.L i with
    |some (.dat c x)=>if c=I.T then some (.dat c x none) else none
    |_=>none)
  |_,_=>none
def qb (Γ : Tab P G) (n : Nat) : Nat → List ResultVar → St G → Option (List Nat × St G)
  |_,[],st=>some ([],st)
  | k, .tmp t :: r, st => (match Nat.blt t n, qb Γ n k r st with
    |true,some (ts,st')=>some (t::ts,st')
    |_,_=>none)
  | k, .cell b t :: r, st => (match Nat.blt b n, Jo Γ st b t with
    |true,some v=>(match qb Γ n (k+1) r (st.put k (.one v)) with|some (ts,st')=>some (k::ts,st')|none=>none)
    |_,_=>none)
def zS (Γ:Tab P G) (n:Nat) (ps:List Pm) (rs:List Rm) (res:List ResultVar) (st:St G):Option (bF G (gW ps rs)):=
  match qb Γ n n res st with
  |some (ts,st')=>vH Γ ps rs ts st'
  |none=>none
noncomputable def exX (n:Nat) (Γ:Tab P G) (D:List (CS P G)) (c:Code) (ps:List Pm) (rs:List Rm) (res:List ResultVar) (A:An G (bF G (gW ps rs))) (x:dW G ps):Option (bF G (gW ps rs)):=
  ex n Γ D c A (zR G ps x) (zS Γ n ps rs res) (fun _ _=>none) (zS Γ n ps rs res)
theorem rh {xs:Array Value} {v:Value} {t:Nat} (h:t≠xs.size):(xs.push v).getD t undef=xs.getD t undef:=by
  simp only [Array.getD_eq_getD_getElem?,Array.getElem?_push];rw [if_neg h]
theorem vI {xs:Array Value} {v:Value}:(xs.push v).getD xs.size undef=v:=by
  simp [Array.getD_eq_getD_getElem?,Array.getElem?_push]
theorem Ix {n : Nat} {L0 : Rs} {T0 : List (Nat × Value)} {m0 : M} : ∀ {res : List ResultVar} {k : Nat} {st : St G} {a' : Act} {ts : List Nat} {st' : St G}, Sat G P [] k W0 L0 T0 m0 st a' w → n ≤ k → (∀ t, t < n → a'.tmps.getD t undef = a.tmps.getD t undef) → qb Γ n k res st = some (ts, st') →
    ∃(k':Nat) (a'':Act),Sat G P [] k' W0 L0 T0 m0 st' a'' w∧(∀t,t<k→a''.tmps.getD t undef=a'.tmps.getD t undef)∧ra P a w res (ts.map fun t=>a''.tmps.getD t undef):=by
  intro res
  induction res with
  | nil =>
    intro k st a' ts st' hs hk ha h;unfold qb at h;obtain ⟨rfl,rfl⟩:=Prod.mk.inj (Option.some.inj h);exact ⟨k,a',hs,fun _ _=>rfl,.nil⟩
  | cons r res ih =>
    intro k st a' ts st' hs hk ha h;cases r with
    | tmp t =>
      unfold qb at h;split at h
      · rename_i ts0 st0 ht h0
        obtain ⟨rfl,rfl⟩:=Prod.mk.inj (Option.some.inj h);have ht:t<n:=Ze ht;obtain ⟨k',a'',h1,h2,h3⟩:=ih hs hk ha h0;refine ⟨k',a'',h1,h2,.cons ?_ h3⟩;simp only;rw [←ha t ht, ←h2 t (Nat.lt_of_lt_of_le ht hk)]
        rfl
      · cases h
    | cell b t =>
      unfold qb at h;split at h
      · rename_i v hb hv
        have hb:b<n:=Ze hb;cases hq:qb Γ n (k+1) res (st.put k (.one v)) with
        |none=>rw [hq] at h;cases h
        | some q =>
          rw [hq] at h;obtain ⟨ts0,st0⟩:=q;obtain ⟨rfl,rfl⟩:=Prod.mk.inj (Option.some.inj h);unfold Jo at hv;split at hv
          · rename_i I i hI hi
            split at hv
            · rename_i c x hB
              split at hv
              · rename_i hc
                injection hv with hv
                subst hv;subst hc;obtain ⟨⟨m,z,h0,hr,hM⟩,hdf,hsz⟩:=hs;obtain ⟨p',hp1,hp2⟩:=bq (eY hr) hi;obtain ⟨L,TL,p,cs,j,hS,g1,g2,g3⟩:=hM.get hB;rw [g1] at hp1;injection hp1 with hp1
                subst hp1;have hRV:RV (I.T.kd G) m ((I.T.kd G).val cs) x:=qU g3
                have hs':Sat G P [] (k+1) W0 L0 T0 m0 (st.put k (.one (.dat I.T x none))) { a' with tmps:=a'.tmps.push ((I.T.kd G).val cs) } w:=by
                  refine ⟨⟨m,z,h0,?_,hM⟩,hdf,by simp [hsz]⟩;intro e he;rcases X4.1 he with rfl|he
                  · simp only
                    rw [←hsz,vI];exact ⟨hRV,trivial⟩
                  · obtain ⟨q1, q2⟩ := lm he
                    have:=hr e q1;simp only;rw [rh (by rw [hsz];exact q2)];exact this
                obtain ⟨k',a'',h1,h2,h3⟩:=ih hs' (by omega) (fun t ht=>by
                  simp only;rw [rh (by rw [hsz];omega)]
                  exact ha t ht) hq
                refine ⟨k',a'',h1,fun t ht=> ?_,.cons ?_ h3⟩
                · rw [h2 t (by omega)]
                  simp only;rw [rh (by rw [hsz];omega)]
                · have e1 : a''.tmps.getD k undef = (I.T.kd G).val cs := by
                    rw [h2 k (by omega)];simp only;rw [←hsz,vI]
                  have e2:a.tmps.getD b undef= .pointer (some ⟨p.1,0,none⟩):=by
                    rw [←ha b hb];exact hp2
                  simp only;rw [e1,e2]
                  have hA:At w p.1 0 cs:=by
                    have:=hS.atL g2 (o:=0) (cs':=cs) (by simp) (by rw [(I.T.kd G).len g3];exact (I.T.kd G).pos);exact this
                  simp [asAddr,iR I.ok g3 hA]
              · cases hv
            · cases hv
          · cases hv
      · cases h
theorem Ef {n : Nat} {fn : Func} {ps : List Pm} {rs : List Rm} {res : List ResultVar} {st : St G} {L : List (Nat × List Value)} {TL : List (Nat × Value)} {vs : List Value} {x : dW G ps} {Lp : List (Nat × List Value)} {Tp : List (Nat × Value)} {m0 : M} {r : bF G (gW ps rs)}
    (hres:fn.results.toList=res) (hP:jM G P m0 ps vs x Lp Tp) (hnl:(nmA ps vs Lp).length=cnt ps) (hs0:Sat G P [] n W0 ⟨L,nmA ps vs Lp⟩ TL m0 st a w) (h:zS Γ n ps rs res st=some r):
    Fin P fn (fun v w'=> ∃(m':M) (us:List Value) (Lr Lp':List (Nat×List Value)) (Tr:List (Nat×Value)),M.le m0 m'∧S W0 m' w' (Lr++(Lp'++L)) (Tr++TL)∧v=tup us∧mG G m' (ps.filterMap Pm.out) rs us r Lr Tr∧iq G m' ps vs (rest G (ps.filterMap Pm.out) rs r) Lp Lp') a w:=by
  unfold zS at h;split at h
  · rename_i ts st9 hcells
    obtain ⟨k',a9,hs,_,hRL⟩:=Ix (a:=a) hs0 (Zn n) (fun _ _=>rfl) hcells;obtain ⟨l0,hE0,_⟩:=dV hs0.df hs0.sz [];obtain ⟨⟨m,z,h0,hr,Lc,Tc,h1,h2,hS,hsf⟩,hdf,hsz⟩:=hs;unfold vH at h;obtain ⟨m1,hm1,hF,_,_⟩:=xR (G:=G) (P:=P) (L0:=⟨L,nmA ps vs Lp⟩) (T0:=TL) (ps:=rs.map Rm.pm) (xs:=ts.map Operand.tmp) (st:=st9) (m:=m) (z:=z) ⟨hr,Lc,Tc,h1,h2,hS,hsf⟩;split at h
    · rename_i y st2 bk he
      split at h
      · rename_i o hc ho
        injection h with h
        subst h;obtain ⟨z',Lr,Tr,hz,⟨_,Lc2,Tc2,k1,k2,hS2,hsf2⟩,hPR,_⟩:=xS hF he;have hlen:=k1.len;have hc:=Ze hc;obtain ⟨pre,hpre⟩:=hsf2;simp only at hpre
        have hpl:pre.length=st2.L.length - cnt ps:=by
          have:=congrArg List.length hpre;rw [List.length_append,hlen.1,hnl] at this;omega
        have hdz:z'.b.drop (st2.L.length - cnt ps)=nmA ps vs Lp:=by rw [hpre, ←hpl,List.drop_left]
        have kd:=k1.drop (st2.L.length - cnt ps);rw [hdz] at kd;have hO:=Ee hP ho (by simp;omega) kd;obtain ⟨j1,j2⟩:=Ed (os:=ps.filterMap Pm.out) (o:=o) hPR
        have hus:(ts.map Operand.tmp).map a9.eval=ts.map fun t=>a9.tmps.getD t undef:=by
          simp only [List.map_map,Function.comp_def];rfl
        refine Fin.mk hE0 hres hRL ⟨m1,_,Lr,Lc2.drop (st2.L.length - cnt ps),Tr,h0.trans hm1,?_,rfl,?_,?_⟩
        · exact (S.between hS2 _ (by omega)).betweenT
        · rw [←hus];exact j1
        · rw [j2];exact hO
      · cases h
    · cases h
  · cases h
theorem Ctr.ofX {f : FuncId} {fn : Func} {c : Code} {n : Nat} {ps : List Pm} {rs : List Rm} {res : List ResultVar} {D : List (CS P G)} {g : dW G ps → Option (bF G (gW ps rs))} (A : An G (bF G (gW ps rs)))
    (hmx:P.follows .mixedOrders=true) (hf:P.funcs[f]? =some fn) (hb:fn.body=some c) (hn:fn.ntmps=n) (hle:Nat.ble ps.length n=true) (hres:fn.results.toList=res)
    (hO:Obl (cnt ps) n Γ D c A 0 (zS Γ n ps rs res) (fun _ _=>none) (zS Γ n ps rs res)) (h: ∀x,exX n Γ D c ps rs res A x=g x):Ctr G P f ps rs g:=by
  intro W0 m w L TL vs x r Lp Tp hS hP hg;rw [←h x] at hg;have hlen:vs.length=ps.length:=(yS (a:={ tmps:=vs.toArray,defers:=[] }) (i:=0) hP (fun j v hj=>by simp [hj])).choose_spec.2.2.2.1;refine wT hf hb hn (by rw [hlen];exact Ze hle) fun a hE=> ?_
  have hargs: ∀j v,vs[j]? =some v→a.tmps.getD (0+j) undef=v:=by
    intro j v hj;rw [Nat.zero_add];refine hE.at_ j v ?_
    have key: ∀(l:List Value) (k:Nat) (j:Nat) (v:Value),l[j]? =some v→lk ((List.range' k l.length).zip l) (k+j)=some v:=by
      intro l
      induction l with
      |nil=>intro k j v h;simp at h
      | cons u l ih =>
        intro k j v h;simp only [X3,List.range'_succ,List.zip_cons_cons,lk];cases j with
        |zero=>simp at h;subst h;simp
        | succ j =>
          have hb:Nat.beq k (k+(j+1))=false:=by
            cases hb:Nat.beq k (k+(j+1)) with
            |false=>rfl
            |true=>have:=Nat.eq_of_beq_eq_true hb;omega
          simp only [hb];have:=ih (k+1) j v (by simpa using h);rw [show k+1+j=k+(j+1) by omega] at this;exact this
    have:=key vs 0 j v hj;rw [List.range_eq_range'];simpa using this
  obtain ⟨zt,k1,k2,k3,_,k5⟩:=yS (a:=a) (i:=0) hP hargs;have hs:Sat G P [] n W0 ⟨L,nmA ps vs Lp⟩ TL m (zR G ps x) a w:=⟨⟨m,⟨nmA ps vs Lp,zt⟩,M.le.refl m,k1,Lp,Tp,k2,k3,hS,⟨[],rfl⟩⟩,hE.defers,hE.size⟩
  refine CH (np:=cnt ps) (L0:=⟨L,nmA ps vs Lp⟩) (by rw [k5];exact Zn _) hmx c A (zR G ps x) _ _ _ r a w _ _ _ hg hO hs ?_ ?_ ?_
  · intro st' a' w' h1 h2 _ _;exact Ef hres hP k5 h2 h1
  · intro j st' a' w' h1;cases h1
  · intro st' a' w' h1 h2 _ _;exact Ef hres hP k5 h2 h1
theorem Ctr.nX {Γ:Tab P G} {f:FuncId} {fn:Func} {c:Code} {n:Nat} {ps:List Pm} {rs:List Rm} {res:List ResultVar} {D:List (CS P G)} {g:dW G ps→Option (bF G (gW ps rs))} (A:An G (bF G (gW ps rs)))
    (hA:A.nc=true) (hmx:P.follows .mixedOrders=true) (hf:P.funcs[f]? =some fn) (hb:fn.body=some c) (hn:fn.ntmps=n) (hle:Nat.ble ps.length n=true) (hres:fn.results.toList=res)
    (h: ∀x,exX n Γ D c ps rs res A x=g x):Ctr G P f ps rs g:=
  Ctr.ofX A hmx hf hb hn hle hres (Obl.nc _ _ _ _ c A 0 _ _ _ hA) h
end
set_option linter.unusedVariables false
section
variable {G:Sg} {P:Program} {m:M} {os:List Ty} {ps:List Pm} {rs:List Rm} {vs us:List Value} {Lp Lp' Lr:List (Nat×List Value)} {Tp Tr:List (Nat×Value)}
theorem oB {x:dW G []} (h:jM G P m [] vs x Lp Tp):vs=[]∧Lp=[]∧Tp=[]:=by
 cases vs<;>cases Lp<;>cases Tp<;>first|exact ⟨rfl,rfl,rfl⟩|exact h.elim
theorem kC {t:Ty} {x:dW G (.rd t::ps)} (h:jM G P m (.rd t::ps) vs x Lp Tp): ∃v vs',vs=v::vs'∧RV (t.kd G) m v x.1∧jM G P m ps vs' x.2 Lp Tp:=by
 cases vs with
 |nil=>cases Lp<;>cases Tp<;>exact h.elim
 |cons v vs=>exact ⟨v,vs,rfl,h.1,h.2⟩
theorem Pa {t:Ty} {x:dW G (.ap t::ps)} (h:jM G P m (.ap t::ps) vs x Lp Tp): ∃v vs' Tp',vs=v::vs'∧Tp=((t.kd G).sz,v)::Tp'∧RV (kSl (t.kd G)) m v x.1∧jM G P m ps vs' x.2 Lp Tp':=by
 cases vs with
 |nil=>cases Lp<;>cases Tp<;>exact h.elim
 |cons v vs=>
  cases Tp with
  |nil=>cases Lp<;>exact h.elim
  |cons e Tp=>obtain ⟨h1,rfl,h2⟩:=h;exact ⟨v,vs,Tp,rfl,rfl,h1,h2⟩
theorem Pb {t:Ty} {x:dW G (.pt t::ps)} (h:jM G P m (.pt t::ps) vs x Lp Tp): ∃b cs vs' Lp',vs= .pointer (some ⟨b,0,none⟩)::vs'∧Lp=(b,cs)::Lp'∧(t.kd G).R m cs x.1∧jM G P m ps vs' x.2 Lp' Tp:=by
 cases vs with
 |nil=>cases Lp<;>cases Tp<;>exact h.elim
 |cons v vs=>
  cases Lp with
  |nil=>cases Tp<;>exact h.elim
  |cons e Lp=>obtain ⟨h1,rfl,h2⟩:=h;exact ⟨e.1,e.2,vs,Lp,rfl,rfl,h1,h2⟩
theorem cF {x:bF G (([]:List Rm).map Rm.ty++os)} (h:mG G m os [] us x Lr Tr):us=[]∧Lr=[]∧Tr=[]:=by
 cases us<;>cases Lr<;>cases Tr<;>first|exact ⟨rfl,rfl,rfl⟩|exact h.elim
theorem dz {t:Ty} {x:bF G ((Rm.rd t::rs).map Rm.ty++os)} (h:mG G m os (.rd t::rs) us x Lr Tr): ∃v us',us=v::us'∧RV (t.kd G) m v (hdT G t (rs.map Rm.ty++os) x)∧mG G m os rs us' (tlT G t (rs.map Rm.ty++os) x) Lr Tr:=by
 cases us with
 |nil=>cases Lr<;>cases Tr<;>exact h.elim
 |cons v us=>exact ⟨v,us,rfl,h.1,h.2⟩
theorem un {t:Ty} {x:bF G ((Rm.ap t::rs).map Rm.ty++os)} (h:mG G m os (.ap t::rs) us x Lr Tr): ∃v us' Tr',us=v::us'∧Tr=((t.kd G).sz,v)::Tr'∧RV (kSl (t.kd G)) m v (hdT G (.sl t) (rs.map Rm.ty++os) x)∧mG G m os rs us' (tlT G (.sl t) (rs.map Rm.ty++os) x) Lr Tr':=by
 cases us with
 |nil=>cases Lr<;>cases Tr<;>exact h.elim
 |cons v us=>
  cases Tr with
  |nil=>cases Lr<;>exact h.elim
  |cons e Tr=>obtain ⟨h1,rfl,h2⟩:=h;exact ⟨v,us,Tr,rfl,rfl,h1,h2⟩
theorem cG {x:bF G (([]:List Pm).filterMap Pm.out)} (h:iq G m [] vs x Lp Lp'):Lp'=[]:=by
 cases vs<;>cases Lp<;>cases Lp'<;>first|rfl|exact h.elim
theorem bV {t:Ty} {v:Value} {x:bF G ((Pm.rd t::ps).filterMap Pm.out)} (h:iq G m (.rd t::ps) (v::vs) x Lp Lp'):iq G m ps vs x Lp Lp':=h
theorem Jp {t:Ty} {v:Value} {x:bF G ((Pm.ap t::ps).filterMap Pm.out)} (h:iq G m (.ap t::ps) (v::vs) x Lp Lp'):iq G m ps vs x Lp Lp':=h
theorem Jq {a b:Ty} {v:Value} {x:bF G ((Pm.f1 a b::ps).filterMap Pm.out)} (h:iq G m (.f1 a b::ps) (v::vs) x Lp Lp'):iq G m ps vs x Lp Lp':=h
theorem Fa {a c b:Ty} {v:Value} {x:bF G ((Pm.f2 a c b::ps).filterMap Pm.out)} (h:iq G m (.f2 a c b::ps) (v::vs) x Lp Lp'):iq G m ps vs x Lp Lp':=h
theorem Pc {t:Ty} {v:Value} {b:Nat} {cs:List Value} {x:bF G ((Pm.pt t::ps).filterMap Pm.out)} (h:iq G m (.pt t::ps) (v::vs) x ((b,cs)::Lp) Lp'): ∃cs' Lp'',Lp'=(b,cs')::Lp''∧(t.kd G).R m cs' (hdT G t (ps.filterMap Pm.out) x)∧iq G m ps vs (tlT G t (ps.filterMap Pm.out) x) Lp Lp'':=by
 cases Lp' with
 |nil=>exact h.elim
 |cons e Lp'=>obtain ⟨b',cs'⟩:=e;obtain ⟨h0,h1,h2⟩:=h;simp only at h0;subst h0;exact ⟨cs',Lp',rfl,h1,h2⟩
end
set_option linter.unusedVariables false
noncomputable section
structure Ap where
 fKind:Int
 fBool:Bool
 fInt:Int
 fText:(List Int)
 deriving DecidableEq
def Ap.zero:Ap:=⟨0,false,0,[]⟩
structure aU where
 fMany:Int
 fValue:Ap
 deriving DecidableEq
def aU.zero:aU:=⟨0,Ap.zero⟩
structure bM where
 fKind:Int
 fMany:Int
 fMin:Ap
 fMax:Ap
 fNulls:Int
 fBytes:Int
 deriving DecidableEq
def bM.zero:bM:=⟨0,0,Ap.zero,Ap.zero,0,0⟩
structure fy where
 fMany:Int
 fValue:Ap
 deriving DecidableEq
def fy.zero:fy:=⟨0,Ap.zero⟩
structure dp where
 fKind:Int
 fMany:Int
 fMin:Ap
 fMax:Ap
 fNulls:Int
 fBytes:Int
 deriving DecidableEq
def dp.zero:dp:=⟨0,0,Ap.zero,Ap.zero,0,0⟩
structure aj where
 fB:(List Int)
 fOk:Bool
 deriving DecidableEq
def aj.zero:aj:=⟨[],false⟩
structure aK where
 fEpoch:Int
 fNumber:Int
 deriving DecidableEq
def aK.zero:aK:=⟨0,0⟩
structure aa where
 fId:aK
 fRow:(List Ap)
 fDeleted:Int
 deriving DecidableEq
def aa.zero:aa:=⟨aK.zero,[],0⟩
structure az where
 fColumns:Int
 fSort:(List Int)
 fL:(List aa)
 deriving DecidableEq
def az.zero:az:=⟨0,[],[]⟩
structure cC where
 fColumns:Int
 fSort:(List Int)
 fKinds:(List Int)
 fL:(List aa)
 deriving DecidableEq
def cC.zero:cC:=⟨0,[],[],[]⟩
structure Eg where
 fColumns:Int
 fSort:(List Int)
 fL:(List aa)
 deriving DecidableEq
def Eg.zero:Eg:=⟨0,[],[]⟩
def lL:Option Int:=
 some (-1)
def ef (p0:List Ap) (p1:(Ap→Option Bool)) (x11:Int):Option (Int⊕Int):=
 if decide (x11<(p0.length:Int)) then
  (idx p0 x11).bind fun x22=>
  (p1 x22).bind fun r28=>
  if r28 then
   (some x11).map Sum.inr
  else
   some (.inl (Z0.wrap (x11+1)))
 else
  (lL).map Sum.inr
def jO (p0:List Ap) (p1:(Ap→Option Bool)):Option Int:=
 aq (fun s:Int=>ef p0 p1 s) 0
def eh (p0:List Ap) (p1:(Ap→Option Bool)):Option Bool:=
 (jO p0 p1).bind fun r4=>
 some (decide (0≤r4))
def kD:Option Ap:=
 some (⟨0,false,0,[]⟩:Ap)
def oC (p0:Bool):Option Ap:=
 some (⟨1,p0,0,[]⟩:Ap)
def ez (p0:Int):Option Ap:=
 some (⟨2,false,p0,[]⟩:Ap)
def oD (p0:List Int):Option Ap:=
 some (⟨3,false,0,p0⟩:Ap)
def pg (x129:Bool):Option Bool:=
 some x129
def lr (p0 : Ap) : Option Bool :=
 if p0.fKind==0 then
  (kD).bind fun r14=>
  some (decide (p0=r14))
 else
  if p0.fKind==1 then
   (oC p0.fBool).bind fun r46=>
   some (decide (p0=r46))
  else
   if p0.fKind==2 then
    (ez p0.fInt).bind fun r87=>
    some (decide (p0=r87))
   else
    if p0.fKind==3 then
     (oD p0.fText).bind fun r135=>
     if decide (p0=r135) then
      pg (decide ((p0.fText.length:Int)≤64))
     else
      pg false
    else
     some false
def eV (p0:Ap):Option Bool:=
 (lr p0).bind fun r8=>
 some (!r8)
def tJ (x9:List Int):Option (List Int×Bool):=
 some (x9,true)
def mb (p0:List Ap) (x18:List Int) (x21:Int):Option ((List Int×Int)⊕(List Int×Bool)):=
 if decide (x21<(p0.length:Int)) then
  (idx p0 x21).bind fun x27=>
  if x27.fKind != 2 then
   (some ([],false)).map Sum.inr
  else
   (app 17592186044416 x18 ([x27.fInt])).bind fun z55=>
   some (.inl (z55,Z0.wrap (x21+1)))
 else
  (tJ x18).map Sum.inr
def mO (p0:List Ap):Option (List Int×Bool):=
 aq (fun s:(List Int×Int)=>mb p0 s.1 s.2) ([],0)
def mc (x8:List aU):Option (List aU):=
 some x8
def iL (x16:Int) (x29:List aU):Option ((Int×List aU)⊕List aU):=
 some (.inl (Z0.wrap (x16+1),x29))
def md (x16:Int) (x18:List aU) (x37:Ap):Option ((Int×List aU)⊕List aU):=
 (app 2932031007402 x18 ([(⟨1,x37⟩:aU)])).bind fun z63=>
 iL x16 z63
def gE (x16:Int) (x18:List aU) (x75:Int) (x85:Bool):Option (Int⊕((Int×List aU)⊕List aU)):=
 if x85 then
  (ix x18 x75).bind fun j90=>
  (x18[j90]?).bind fun x95=>
  (ix x18 x75).bind fun j100=>
  (x18[j100]?).bind fun x106=>
  (iL x16 (x18.set j100 ({ x106 with fMany:=Z0.wrap (x95.fMany+1) }))).map Sum.inr
 else
  some (.inl (Z0.wrap (x75+1)))
def eN (x16:Int) (x18:List aU) (x37:Ap) (x75:Int):Option (Int⊕((Int×List aU)⊕List aU)):=
 if decide (x75<(x18.length:Int)) then
  if x75==(Z0.wrap ((x18.length:Int) - 1)) then
   (ix x18 x75).bind fun j112=>
   (x18[j112]?).bind fun x115=>
   gE x16 x18 x75 (decide (x115.fValue=x37))
  else
   gE x16 x18 x75 false
 else
  (md x16 x18 x37).map Sum.inr
def j8 (p0:List Ap) (x16:Int) (x18:List aU):Option ((Int×List aU)⊕List aU):=
 if decide (x16<(p0.length:Int)) then
  (idx p0 x16).bind fun x37=>
  aq (fun s:Int=>eN x16 x18 x37 s) 0
 else
  (mc x18).map Sum.inr
def lu (p0:List Ap):Option (List aU):=
 aq (fun s:(Int×List aU)=>j8 p0 s.1 s.2) (0,([]:List aU))
def xr (p0:List Ap):Option Bool:=
 some (decide ((p0.length:Int)≤16))
def pN (p0:List Ap) (x14:Int):Option (Int⊕Bool):=
 if decide (x14<(p0.length:Int)) then
  (idx p0 x14).bind fun x20=>
  (lr x20).bind fun r33=>
  if !r33 then
   (some false).map Sum.inr
  else
   some (.inl (Z0.wrap (x14+1)))
 else
  (xr p0).map Sum.inr
def ri (p0:List Ap):Option Bool:=
 aq (fun s:Int=>pN p0 s) 0
def nz (p0:List Int) (x7:List Int):Option (List Int):=
 (app 140737488355328 p0 x7).bind fun z13=>
 some z13
def k8 (p0:List Int) (p1:Int) (x22:Int) (x24:List Int):Option ((Int×List Int)⊕List Int):=
 if decide (x22<8) then
  (chk (decide (0≤(Z0.wrap (56 - (Z0.wrap (8*x22))))))).bind fun u38=>
  (ix x24 x22).bind fun j42=>
  (x24[j42]?).bind fun x47=>
  some (.inl (Z0.wrap (x22+1),(x24.set j42 (Z4.wrap (aD .u64 p1 (Z0.wrap (56 - (Z0.wrap (8*x22)))))))))
 else
  (nz p0 x24).map Sum.inr
def me (p0:List Int) (p1:Int):Option (List Int):=
 aq (fun s:(Int×List Int)=>k8 p0 p1 s.1 s.2) (0,(Z3 8 0:List Int))
def uo (p0 : List Int) (p1 : Ap) : Option (List Int) :=
 (app 140737488355328 p0 ([Z4.wrap p1.fKind])).bind fun z16=>
 if p1.fKind==1 then
  if p1.fBool then
   (app 140737488355328 z16 ([1])).bind fun z39=>
   some z39
  else
   (app 140737488355328 z16 ([0])).bind fun z51=>
   some z51
 else
  if p1.fKind==2 then
   (me z16 (Z2.wrap p1.fInt)).bind fun r67=>
   some r67
  else
   if p1.fKind==3 then
    (app 140737488355328 z16 ([Z4.wrap (p1.fText.length:Int)])).bind fun z89=>
    (app 140737488355328 z89 p1.fText).bind fun z102=>
    some z102
   else
    some z16
def tK (x27:List Int):Option (List Int×Int):=
 some (x27,0)
def ph (p0:List Ap) (x36:List Int) (x39:Int):Option ((List Int×Int)⊕(List Int×Int)):=
 if decide (x39<(p0.length:Int)) then
  (idx p0 x39).bind fun x45=>
  (uo x36 x45).bind fun r59=>
  some (.inl (r59,Z0.wrap (x39+1)))
 else
  (tK x36).map Sum.inr
def mP (p0:List Ap):Option (List Int×Int):=
 (ri p0).bind fun r4=>
 if !r4 then
  some ([],30)
 else
  aq (fun s:(List Int×Int)=>ph p0 s.1 s.2) ([Z4.wrap (p0.length:Int)],0)
def kE (p0:Ap):Option (List Int):=
 (mP ([p0])).bind fun r12=>
 (sub r12.1 1 r12.1.length).bind fun x28=>
 some x28
def tL (x14:List Int):Option (List Int):=
 some x14
def pi (r4:List aU) (x22:List Int) (x25:Int):Option ((List Int×Int)⊕List Int):=
 if decide (x25<(r4.length:Int)) then
  (idx r4 x25).bind fun x31=>
  (app 140737488355328 x22 ([Z4.wrap x31.fMany])).bind fun z52=>
  (kE x31.fValue).bind fun r63=>
  (app 140737488355328 z52 r63).bind fun z69=>
  some (.inl (z69,Z0.wrap (x25+1)))
 else
  (tL x22).map Sum.inr
def mQ (p0:List Ap):Option (List Int):=
 (lu p0).bind fun r4=>
 aq (fun s:(List Int×Int)=>pi r4 s.1 s.2) ([],0)
def yU (x6:List Int):Option (List Int):=
 some x6
def fV (p0:Int) (x14:List Int) (x17:Int):Option ((List Int×Int)⊕List Int):=
 if decide (x17<8) then
  (chk (decide (0≤(Z0.wrap (56 - (Z0.wrap (8*x17))))))).bind fun u30=>
  (app 140737488355328 x14 ([Z4.wrap (aD .u64 p0 (Z0.wrap (56 - (Z0.wrap (8*x17)))))])).bind fun z38=>
  some (.inl (z38,Z0.wrap (x17+1)))
 else
  (yU x14).map Sum.inr
def lU (p0:Int):Option (List Int):=
 aq (fun s:(List Int×Int)=>fV p0 s.1 s.2) ([],0)
def sn (x27:List Int):Option (List Int):=
 some x27
def sq (x38:Int) (x46:List Int):Option ((List Int×Int)⊕List Int):=
 some (.inl (x46,Z0.wrap (x38+1)))
def sr (x38:Int) (x84:List Int) (x87:Int):Option ((List Int×Int)⊕List Int):=
 (app 140737488355328 x84 ([Z4.wrap x87])).bind fun z97=>
 sq x38 z97
def jx (x38:Int) (x106:List Int) (x109:Int):Option ((List Int×Int)⊕((List Int×Int)⊕List Int)):=
 if decide (127<x109) then
  (app 140737488355328 x106 ([bOr .u8 (Z4.wrap x109) 128])).bind fun z124=>
  some (.inl (z124,aD .u64 x109 7))
 else
  (sr x38 x106 x109).map Sum.inr
def oE (p0:List Int) (x19:List Int) (x35:List Int) (x38:Int):Option ((List Int×Int)⊕List Int):=
 if decide (x38<(x19.length:Int)) then
  (idx x19 x38).bind fun x53=>
  (idx p0 x38).bind fun x65=>
  aq (fun s:(List Int×Int)=>jx x38 s.1 s.2) (x35,dR .u64 (em .u64 (Z2.wrap (Z0.wrap (x53 - x65))) 1) (Z2.wrap (aD .i64 (Z0.wrap (x53 - x65)) 63)))
 else
  (sn x35).map Sum.inr
def lV (p0:List Int):Option (List Int):=
 (idx p0 0).bind fun x3=>
 (lU (Z2.wrap x3)).bind fun r11=>
 (sub p0 1 p0.length).bind fun x19=>
 aq (fun s:(List Int×Int)=>oE p0 x19 s.1 s.2) (r11,0)
def gX (p0:List Ap):Option (List Ap):=
 (app 3518437208883 ([]) p0).bind fun z13=>
 some z13
def j9 (p0:List Ap) (p1:(Ap→Ap→Option Int)):Option (List Ap):=
 w5 p1 p0
def k9 (p0:Int):Option Bool:=
 some (p0 != p0)
def il (p0 : Int) (p1 : Int) : Option Int :=
 (k9 p0).bind fun r3=>
 (k9 p1).bind fun r11=>
 if r3 then
  if r11 then
   some 0
  else
   some (-1)
 else
  if r11 then
   some 1
  else
   if decide (p0<p1) then
    some (-1)
   else
    if decide (p1<p0) then
     some 1
    else
     some 0
def jy (p0:Int):Option Bool:=
 some (p0 != p0)
def iw (p0 : Int) (p1 : Int) : Option Int :=
 (jy p0).bind fun r3=>
 (jy p1).bind fun r11=>
 if r3 then
  if r11 then
   some 0
  else
   some (-1)
 else
  if r11 then
   some 1
  else
   if decide (p0<p1) then
    some (-1)
   else
    if decide (p1<p0) then
     some 1
    else
     some 0
def eo (p0:List Int) (p1:List Int):Option Int:=
 some (sR p0 p1)
def lM (p0:List Int) (p1:List Int):Option Int:=
 (eo p0 p1).bind fun r4=>
 some r4
def fp (p0 : Ap) (p1 : Ap) (x39 : Bool) : Option Int :=
 if x39 then
  if p1.fBool then
   some (-1)
  else
   some 1
 else
  if p0.fKind==2 then
   (iw p0.fInt p1.fInt).bind fun r63=>
   some r63
  else
   if p0.fKind==3 then
    (lM p0.fText p1.fText).bind fun r88=>
    some r88
   else
    some 0
def cD (p0:Ap) (p1:Ap):Option Int:=
 if p0.fKind != p1.fKind then
  (il p0.fKind p1.fKind).bind fun r29=>
  some r29
 else
  if p0.fKind==1 then
   fp p0 p1 (!(p0.fBool==p1.fBool))
  else
   fp p0 p1 false
def n8:Option Int:=
 some (-1)
def fz (p0:List Ap) (p1:Ap) (x15:Int):Option (Int⊕Int):=
 if decide (x15<(p0.length:Int)) then
  (idx p0 x15).bind fun x24=>
  if decide (p1=x24) then
   (some x15).map Sum.inr
  else
   some (.inl (Z0.wrap (x15+1)))
 else
  (n8).map Sum.inr
def gY (p0:List Ap) (p1:Ap):Option Int:=
 aq (fun s:Int=>fz p0 p1 s) 0
def u5 (x15:Int) (x17:Int):Option Int:=
 (idx ([0,1,2,2,3,3,3,3,4,4,4,4,4,4,4,4,5,5,5,5,5,5,5,5,5,5,5,5,5,5,5,5,6,6,6,6,6,6,6,6,6,6,6,6,6,6,6,6,6,6,6,6,6,6,6,6,6,6,6,6,6,6,6,6,7,7,7,7,7,7,7,7,7,7,7,7,7,7,7,7,7,7,7,7,7,7,7,7,7,7,7,7,7,7,7,7,7,7,7,7,7,7,7,7,7,7,7,7,7,7,7,7,7,7,7,7,7,7,7,7,7,7,7,7,7,7,7,7,8,8,8,8,8,8,8,8,8,8,8,8,8,8,8,8,8,8,8,8,8,8,8,8,8,8,8,8,8,8,8,8,8,8,8,8,8,8,8,8,8,8,8,8,8,8,8,8,8,8,8,8,8,8,8,8,8,8,8,8,8,8,8,8,8,8,8,8,8,8,8,8,8,8,8,8,8,8,8,8,8,8,8,8,8,8,8,8,8,8,8,8,8,8,8,8,8,8,8,8,8,8,8,8,8,8,8,8,8,8,8,8,8,8,8,8,8,8,8,8,8,8,8,8,8,8,8,8]) (Z4.wrap x15)).bind fun x23=>
 some (Z0.wrap (x17+(Z0.wrap x23)))
def u6 (x6:Int) (x8:Int):Option Int:=
 if decide (256≤x6) then
  u5 (aD .u32 x6 8) (Z0.wrap (x8+8))
 else
  u5 x6 x8
def Fb (p0:Int):Option Int:=
 if decide (65536≤p0) then
  u6 (aD .u32 p0 16) 16
 else
  u6 p0 0
def nA (x24:Int) (x26:Int):Option Int:=
 (idx ([0,1,2,2,3,3,3,3,4,4,4,4,4,4,4,4,5,5,5,5,5,5,5,5,5,5,5,5,5,5,5,5,6,6,6,6,6,6,6,6,6,6,6,6,6,6,6,6,6,6,6,6,6,6,6,6,6,6,6,6,6,6,6,6,7,7,7,7,7,7,7,7,7,7,7,7,7,7,7,7,7,7,7,7,7,7,7,7,7,7,7,7,7,7,7,7,7,7,7,7,7,7,7,7,7,7,7,7,7,7,7,7,7,7,7,7,7,7,7,7,7,7,7,7,7,7,7,7,8,8,8,8,8,8,8,8,8,8,8,8,8,8,8,8,8,8,8,8,8,8,8,8,8,8,8,8,8,8,8,8,8,8,8,8,8,8,8,8,8,8,8,8,8,8,8,8,8,8,8,8,8,8,8,8,8,8,8,8,8,8,8,8,8,8,8,8,8,8,8,8,8,8,8,8,8,8,8,8,8,8,8,8,8,8,8,8,8,8,8,8,8,8,8,8,8,8,8,8,8,8,8,8,8,8,8,8,8,8,8,8,8,8,8,8,8,8,8,8,8,8,8,8,8,8,8,8]) (Z4.wrap x24)).bind fun x32=>
 some (Z0.wrap (x26+(Z0.wrap x32)))
def nB (x15:Int) (x17:Int):Option Int:=
 if decide (256≤x15) then
  nA (aD .u64 x15 8) (Z0.wrap (x17+8))
 else
  nA x15 x17
def nC (x6:Int) (x8:Int):Option Int:=
 if decide (65536≤x6) then
  nB (aD .u64 x6 16) (Z0.wrap (x8+16))
 else
  nB x6 x8
def oF (p0:Int):Option Int:=
 if decide (4294967296≤p0) then
  nC (aD .u64 p0 32) 32
 else
  nC p0 0
def pj (p0:Int):Option Int:=
 (oF p0).bind fun r3=>
 some r3
def kF (x20:List Int):Option (List Int):=
 some x20
def kG (x28:Int) (x39:List Int):Option ((Int×List Int)⊕List Int):=
 some (.inl (Z0.wrap (x28+1),x39))
def iU (x59:Int) (x79:List Int):Option ((Int×List Int)⊕((Int×List Int)⊕List Int)):=
 some (.inl (Z0.wrap (x59+1),x79))
def iV (p1:Int) (x28:Int) (x46:Int) (x59:Int) (x61:List Int):Option ((Int×List Int)⊕((Int×List Int)⊕List Int)):=
 if decide (x59<p1) then
  (chk (decide (0≤x59))).bind fun u72=>
  if (dh .u64 (aD .u64 x46 x59) 1)==1 then
   (ix x61 (Z0.wrap ((Z0.wrap ((Z0.wrap (x28*p1))+x59)).tdiv 8))).bind fun j92=>
   (x61[j92]?).bind fun x95=>
   (chk (decide (0≤((Z0.wrap ((Z0.wrap (x28*p1))+x59)).tmod 8)))).bind fun u98=>
   (ix x61 (Z0.wrap ((Z0.wrap ((Z0.wrap (x28*p1))+x59)).tdiv 8))).bind fun j155=>
   (x61[j155]?).bind fun x160=>
   iU x59 (x61.set j155 (bOr .u8 x95 (em .u8 1 ((Z0.wrap ((Z0.wrap (x28*p1))+x59)).tmod 8))))
  else
   iU x59 x61
 else
  (kG x28 x61).map Sum.inr
def iW (p0:List Int) (p1:Int) (x28:Int) (x30:List Int):Option ((Int×List Int)⊕List Int):=
 if decide (x28<(p0.length:Int)) then
  (idx p0 x28).bind fun x46=>
  aq (fun s:(Int×List Int)=>iV p1 x28 x46 s.1 s.2) (0,x30)
 else
  (kF x30).map Sum.inr
def ir (p0:List Int) (p1:Int):Option (List Int):=
 (mk 281474976710656 (Z0.wrap ((Z0.wrap ((Z0.wrap ((p0.length:Int)*p1))+7)).tdiv 8)) 0).bind fun z8=>
 aq (fun s:(Int×List Int)=>iW p0 p1 s.1 s.2) (0,z8)
def fH (p0:List Ap):Option (List Ap):=
 some p0
def fI (x16:Int):Option (Int⊕List Ap):=
 some (.inl (Z0.wrap (x16+1)))
def fJ (x100:Int) (x102:List Ap):Option (Int⊕List Ap):=
 (vw x102 x100 x102.length).bind fun q109=>
 (clr x102 q109.1 q109.2 Ap.zero).bind fun z114=>
 (sub z114 0 x100).bind fun x120=>
 (some x120).map Sum.inr
def dA (x128:Int) (x202:Int) (x204:List Ap):Option ((Int×Int×List Ap)⊕(Int⊕List Ap)):=
 some (.inl (x202,Z0.wrap (x128+1),x204))
def fK (q93:Nat×Nat) (x126:Int) (x128:Int) (x130:List Ap):Option ((Int×Int×List Ap)⊕(Int⊕List Ap)):=
 (chk (Nat.ble q93.2 cO)).bind fun u137=>
 if decide (x128<(q93.2:Int)) then
  (ixv q93.1 q93.2 x128).bind fun j142=>
  (x130[j142]?).bind fun x145=>
  (ixv q93.1 q93.2 (Z0.wrap (x128 - 1))).bind fun j147=>
  (x130[j147]?).bind fun x150=>
  if !decide (x145=x150) then
   (ixv q93.1 q93.2 x128).bind fun j216=>
   (x130[j216]?).bind fun x220=>
   (ix x130 x126).bind fun j223=>
   (x130[j223]?).bind fun x228=>
   dA x128 (Z0.wrap (x126+1)) (x130.set j223 x220)
  else
   dA x128 x126 x130
 else
  (fJ x126 x130).map Sum.inr
def fM (p0:List Ap) (x16:Int):Option (Int⊕List Ap):=
 if decide (x16<(p0.length:Int)) then
  (ix p0 x16).bind fun j31=>
  (p0[j31]?).bind fun x34=>
  (ix p0 (Z0.wrap (x16 - 1))).bind fun j36=>
  (p0[j36]?).bind fun x39=>
  if decide (x34=x39) then
   (vw p0 x16 p0.length).bind fun q93=>
   aq (fun s:(Int×Int×List Ap)=>fK q93 s.1 s.2.1 s.2.2) (x16,1,p0)
  else
   fI x16
 else
  (fH p0).map Sum.inr
def d3 (p0:List Ap):Option (List Ap):=
 if decide ((p0.length:Int)<2) then
  some p0
 else
  aq (fun s:Int=>fM p0 s) 1
def iE (p0:List Ap):Option (List Ap):=
 (app 3518437208883 ([]:List Ap) p0).bind fun z16=>
 some z16
def mf (r22:List Ap) (x48:List Int) (x58:List Int):Option (List Int):=
 (pj (Z2.wrap (Z0.wrap ((r22.length:Int) - 1)))).bind fun r68=>
 (ir x58 r68).bind fun r75=>
 (app 140737488355328 x48 r75).bind fun z81=>
 some z81
def iM (p0:List Ap) (r22:List Ap) (x48:List Int) (x90:List Int) (x93:Int):Option ((List Int×Int)⊕List Int):=
 if decide (x93<(p0.length:Int)) then
  (idx p0 x93).bind fun x99=>
  (gY r22 x99).bind fun r114=>
  (app 17592186044416 x90 ([Z2.wrap r114])).bind fun z126=>
  some (.inl (z126,Z0.wrap (x93+1)))
 else
  (mf r22 x48 x90).map Sum.inr
def mg (p0:List Ap) (r22:List Ap) (x48:List Int):Option (List Int):=
 aq (fun s:(List Int×Int)=>iM p0 r22 x48 s.1 s.2) ([],0)
def ke (p0:List Ap) (r22:List Ap) (x137:List Int) (x140:Int):Option ((List Int×Int)⊕List Int):=
 if decide (x140<(r22.length:Int)) then
  (idx r22 x140).bind fun x146=>
  (kE x146).bind fun r160=>
  (app 140737488355328 x137 r160).bind fun z166=>
  some (.inl (z166,Z0.wrap (x140+1)))
 else
  (mg p0 r22 x137).map Sum.inr
def mR (p0:List Ap):Option (List Int):=
 (iE p0).bind fun r3=>
 (j9 r3 cD).bind fun r14=>
 (d3 r14).bind fun r22=>
 aq (fun s:(List Int×Int)=>ke p0 r22 s.1 s.2) ([Z4.wrap (r22.length:Int)],0)
def o7 (x20:Int):Option Int:=
 some x20
def lE (p0:List Int) (x27:Int) (x29:Int):Option ((Int×Int)⊕Int):=
 if decide (x29<(p0.length:Int)) then
  (idx p0 x29).bind fun x41=>
  some (.inl ((if x41<x27 then x41 else x27),Z0.wrap (x29+1)))
 else
  (o7 x27).map Sum.inr
def o8 (p0:List Int):Option Int:=
 (idx p0 0).bind fun x9=>
 aq (fun s:(Int×Int)=>lE p0 s.1 s.2) (x9,1)
def kH (p0:List Int):Option Int:=
 if decide ((p0.length:Int)<1) then
  none
 else
  o8 p0
def su (r3:Int) (x18:List Int) (x21:Int):Option (List Int):=
 (lU (Z2.wrap r3)).bind fun r26=>
 (app 140737488355328 r26 ([Z4.wrap x21])).bind fun z38=>
 (ir x18 x21).bind fun r46=>
 (app 140737488355328 z38 r46).bind fun z52=>
 some z52
def oG (p0:List Int) (r3:Int) (x61:List Int) (x64:Int) (x66:Int):Option ((List Int×Int×Int)⊕List Int):=
 if decide (x66<(p0.length:Int)) then
  (idx p0 x66).bind fun x72=>
  (app 17592186044416 x61 ([Z2.wrap ((Z2.wrap x72) - (Z2.wrap r3))])).bind fun z92=>
  (oF (Z2.wrap ((Z2.wrap x72) - (Z2.wrap r3)))).bind fun r101=>
  some (.inl (z92,(if x64<r101 then r101 else x64),Z0.wrap (x66+1)))
 else
  (su r3 x61 x64).map Sum.inr
def lW (p0:List Int):Option (List Int):=
 (kH p0).bind fun r3=>
 aq (fun s:(List Int×Int×Int)=>oG p0 r3 s.1 s.2.1 s.2.2) ([],0,0)
def kI (x109:List Int):Option (List Int×Int):=
 some (x109,0)
def iX (p1:List Ap) (x118:List Int) (x121:Int):Option ((List Int×Int)⊕(List Int×Int)):=
 if decide (x121<(p1.length:Int)) then
  (idx p1 x121).bind fun x127=>
  (kE x127).bind fun r141=>
  (app 140737488355328 x118 r141).bind fun z147=>
  some (.inl (z147,Z0.wrap (x121+1)))
 else
  (kI x118).map Sum.inr
def eC (p0 : Int) (p1 : List Ap) (r27 : List Int × Bool) (x43 : Bool) : Option (List Int × Int) :=
 if x43 then
  some ([],62)
 else
  if (p1.length:Int)==0 then
   some ([],0)
  else
   if p0==1 then
    (mQ p1).bind fun r59=>
    some (r59,0)
   else
    if p0==2 then
     (lV r27.1).bind fun r71=>
     some (r71,0)
    else
     if p0==3 then
      (mR p1).bind fun r83=>
      some (r83,0)
     else
      if p0==4 then
       (lW r27.1).bind fun r95=>
       some (r95,0)
      else
       aq (fun s:(List Int×Int)=>iX p1 s.1 s.2) ([],0)
def gF (p0 : Int) (p1 : List Ap) (x5 : Bool) : Option (List Int × Int) :=
 if x5 then
  some ([],62)
 else
  if decide (64<(p1.length:Int)) then
   some ([],61)
  else
   (eh p1 eV).bind fun r17=>
   if r17 then
    some ([],60)
   else
    (mO p1).bind fun r27=>
    if !r27.2 then
     if p0==2 then
      eC p0 p1 r27 true
     else
      eC p0 p1 r27 (p0==4)
    else
     eC p0 p1 r27 false
def ff (p0:Int) (p1:List Ap):Option (List Int×Int):=
 if decide (p0<0) then
  gF p0 p1 true
 else
  gF p0 p1 (decide (4<p0))
def zT (x7:Int):Option Int:=
 some x7
def pk (x18:Int) (x48:Int) (x50:Int):Option ((Int×Int×Int)⊕Int):=
 some (.inl (x48,x50,Z0.wrap (x18+1)))
def mh (x14:Int) (x16:Int) (x18:Int) (r27:List Int×Int) (x44:Bool):Option ((Int×Int×Int)⊕Int):=
 if x44 then
  pk x18 x18 (r27.1.length:Int)
 else
  pk x18 x14 x16
def tM (p0 : List Ap) (x14 : Int) (x16 : Int) (x18 : Int) : Option ((Int × Int × Int) ⊕ Int) :=
 if decide (x18 ≤ 4) then
  (ff x18 p0).bind fun r27=>
  if r27.2==0 then
   if decide (x16<0) then
    mh x14 x16 x18 r27 true
   else
    mh x14 x16 x18 r27 (decide ((r27.1.length:Int)<x16))
  else
   mh x14 x16 x18 r27 false
 else
  (zT x14).map Sum.inr
def pO (p0:List Ap):Option Int:=
 aq (fun s:(Int×Int×Int)=>tM p0 s.1 s.2.1 s.2.2) (0,(-1),0)
def mA (x24:Ap):Option Ap:=
 some x24
def jp (x35:Int) (x95:Ap):Option ((Int×Ap)⊕Ap):=
 some (.inl (Z0.wrap (x35+1),x95))
def jq (p0:List Ap) (p1:(Ap→Ap→Option Int)) (x35:Int) (x37:Ap):Option ((Int×Ap)⊕Ap):=
 if decide (x35<(p0.length:Int)) then
  (idx p0 x35).bind fun x47=>
  (p1 x47 x37).bind fun r85=>
  if decide (r85<0) then
   (idx p0 x35).bind fun x105=>
   jp x35 x105
  else
   jp x35 x37
 else
  (mA x37).map Sum.inr
def mB (p0:List Ap) (p1:(Ap→Ap→Option Int)):Option Ap:=
 (idx p0 0).bind fun x10=>
 aq (fun s:(Int×Ap)=>jq p0 p1 s.1 s.2) (1,x10)
def fW (p0:List Ap) (p1:(Ap→Ap→Option Int)):Option Ap:=
 if decide ((p0.length:Int)<1) then
  none
 else
  mB p0 p1
def mD (x24:Ap):Option Ap:=
 some x24
def jr (x35:Int) (x95:Ap):Option ((Int×Ap)⊕Ap):=
 some (.inl (Z0.wrap (x35+1),x95))
def jt (p0:List Ap) (p1:(Ap→Ap→Option Int)) (x35:Int) (x37:Ap):Option ((Int×Ap)⊕Ap):=
 if decide (x35<(p0.length:Int)) then
  (idx p0 x35).bind fun x47=>
  (p1 x47 x37).bind fun r85=>
  if decide (0<r85) then
   (idx p0 x35).bind fun x105=>
   jr x35 x105
  else
   jr x35 x37
 else
  (mD x37).map Sum.inr
def mE (p0:List Ap) (p1:(Ap→Ap→Option Int)):Option Ap:=
 (idx p0 0).bind fun x10=>
 aq (fun s:(Int×Ap)=>jt p0 p1 s.1 s.2) (1,x10)
def fX (p0:List Ap) (p1:(Ap→Ap→Option Int)):Option Ap:=
 if decide ((p0.length:Int)<1) then
  none
 else
  mE p0 p1
def jl (p0:List Ap):Option (List Ap):=
 some p0
def fg (x36:bM) (x39:Ap):Option (bM×Bool):=
 if x39.fKind==0 then
  some (({ x36 with fNulls:=Z0.wrap (x36.fNulls+1) }),true)
 else
  some (x36,true)
def kJ (p0:Int) (p1:List Ap):Option bM:=
 (fW p1 cD).bind fun r7=>
 (fX p1 cD).bind fun r14=>
 (jl p1).bind fun r28=>
 (ew (fun (s:bM) (x:Ap)=>fg s x) (⟨p0,(p1.length:Int),r7,r14,0,0⟩:bM) r28).bind fun y67=>
 if y67.2 then
  some y67.1
 else
  none
def qc (p0:Ap):Option (List Int):=
 (mP ([p0])).bind fun r12=>
 (sub r12.1 1 r12.1.length).bind fun x28=>
 some x28
def vJ (x17:Int):Option Int:=
 some (zG .u32 x17)
def oH (p0:List Int) (x7:List Int) (x25:Int) (x27:Int):Option ((Int×Int)⊕Int):=
 if decide (x27<(p0.length:Int)) then
  (idx p0 x27).bind fun x33=>
  (ix x7 (dh .u32 (dR .u32 x25 (Zy.wrap x33)) 15)).bind fun j48=>
  (x7[j48]?).bind fun x52=>
  (ix x7 (dh .u32 (dR .u32 x52 (aD .u32 (dR .u32 x25 (Zy.wrap x33)) 4)) 15)).bind fun j62=>
  (x7[j62]?).bind fun x66=>
  some (.inl (dR .u32 x66 (aD .u32 (dR .u32 x52 (aD .u32 (dR .u32 x25 (Zy.wrap x33)) 4)) 4),Z0.wrap (x27+1)))
 else
  (vJ x25).map Sum.inr
def lX (p0:List Int) (x7:List Int):Option Int:=
 aq (fun s:(Int×Int)=>oH p0 x7 s.1 s.2) (4294967295,0)
def rj (x78:Int) (x89:List Int):Option ((Int×List Int)⊕Int):=
 some (.inl (Z0.wrap (x78+1),x89))
def rk (x78:Int) (x80:List Int) (x103:Int):Option ((Int×List Int)⊕Int):=
 (ix x80 x78).bind fun j108=>
 (x80[j108]?).bind fun x113=>
 rj x78 (x80.set j108 x103)
def lY (x78:Int) (x80:List Int) (x118:Int) (x120:Int):Option ((Int×Int)⊕((Int×List Int)⊕Int)):=
 if decide (x120<4) then
  some (.inl (dR .u32 (aD .u32 x118 1) (Zy.wrap (3988292384*(dh .u32 x118 1))),Z0.wrap (x120+1)))
 else
  (rk x78 x80 x118).map Sum.inr
def oI (p0:List Int) (x78:Int) (x80:List Int):Option ((Int×List Int)⊕Int):=
 if decide (x78<16) then
  aq (fun s:(Int×Int)=>lY x78 x80 s.1 s.2) (Zy.wrap x78,0)
 else
  (lX p0 x80).map Sum.inr
def gZ (p0:List Int):Option Int:=
 aq (fun s:(Int×List Int)=>oI p0 s.1 s.2) (0,(Z3 16 0:List Int))
def kf (p0:List Int):Option (List Int):=
 (gZ p0).bind fun r3=>
 (app 140737488355328 p0 ([Z4.wrap (aD .u32 r3 24),Z4.wrap (aD .u32 r3 16),Z4.wrap (aD .u32 r3 8),Z4.wrap r3])).bind fun z27=>
 some z27
def mj (p1:List Ap) (x13:Int):Option (List Int×Int):=
 (ff x13 p1).bind fun r18=>
 if r18.2 != 0 then
  some ([],r18.2)
 else
  (kJ x13 p1).bind fun r41=>
  (qc r41.fMin).bind fun r73=>
  (app 140737488355328 ([Z4.wrap x13,Z4.wrap r41.fMany,Z4.wrap r41.fNulls]) r73).bind fun z79=>
  (qc r41.fMax).bind fun r90=>
  (app 140737488355328 z79 r90).bind fun z96=>
  (app 140737488355328 z96 ([Z4.wrap (aD .i64 (r18.1.length:Int) 8),Z4.wrap (r18.1.length:Int)])).bind fun z115=>
  (app 140737488355328 z115 r18.1).bind fun z124=>
  (kf z124).bind fun r132=>
  some (r132,0)
def mS (p0:Int) (p1:List Ap):Option (List Int×Int):=
 if (p1.length:Int)==0 then
  some ([],70)
 else
  if p0==(-1) then
   (pO p1).bind fun r142=>
   mj p1 r142
  else
   mj p1 p0
def mT (x52:Bool):Option Bool:=
 some x52
def sU (p0 : Ap) (x46 : Ap) : Option Bool :=
 if decide (0 ≤ p0.fKind) then
  if decide (p0.fKind≤3) then
   if decide (p0=x46) then
    mT (decide ((p0.fText.length:Int)≤64))
   else
    mT false
  else
   mT false
 else
  mT false
def sV (p0:Ap) (x35:Ap):Option Bool:=
 if p0.fKind==3 then
  sU p0 ({ x35 with fText:=p0.fText })
 else
  sU p0 x35
def sW (p0:Ap) (x24:Ap):Option Bool:=
 if p0.fKind==2 then
  sV p0 ({ x24 with fInt:=p0.fInt })
 else
  sV p0 x24
def up (p0:Ap):Option Bool:=
 if p0.fKind==1 then
  sW p0 ({ (⟨p0.fKind,false,0,[]⟩:Ap) with fBool:=p0.fBool })
 else
  sW p0 (⟨p0.fKind,false,0,[]⟩:Ap)
def u7:Option Int:=
 some 0
def la (x24:Int) (x35:Bool):Option (Int⊕Int):=
 if x35 then
  (some 62).map Sum.inr
 else
  some (.inl (Z0.wrap (x24+1)))
def nD (p0 : Int) (p1 : List Ap) (x24 : Int) : Option (Int ⊕ Int) :=
 if decide (x24 < (p1.length : Int)) then
  if p0==2 then
   (idx p1 x24).bind fun x50=>
   la x24 (x50.fKind != 2)
  else
   if p0==4 then
    (idx p1 x24).bind fun x69=>
    la x24 (x69.fKind != 2)
   else
    la x24 false
 else
  (u7).map Sum.inr
def qp (p0:Int) (p1:List Ap):Option Int:=
 aq (fun s:Int=>nD p0 p1 s) 0
def lc (p0:Int) (p1:List Ap) (x84:Int):Option (Int⊕Int):=
 if decide (x84<(p1.length:Int)) then
  (idx p1 x84).bind fun x95=>
  (up x95).bind fun r101=>
  if !r101 then
   (some 60).map Sum.inr
  else
   some (.inl (Z0.wrap (x84+1)))
 else
  (qp p0 p1).map Sum.inr
def nE (p0:Int) (p1:List Ap) (x4:Bool):Option Int:=
 if x4 then
  some 62
 else
  if decide (64<(p1.length:Int)) then
   some 61
  else
   aq (fun s:Int=>lc p0 p1 s) 0
def uq (p0:Int) (p1:List Ap):Option Int:=
 if decide (p0<0) then
  nE p0 p1 true
 else
  nE p0 p1 (decide (4<p0))
def yV (x6:List fy):Option (List fy):=
 some x6
def qC (x17:Int) (x28:List fy):Option ((List fy×Int)⊕List fy):=
 some (.inl (x28,Z0.wrap (x17+1)))
def oJ (p0:List Ap) (x14:List fy) (x17:Int) (x37:Bool):Option ((List fy×Int)⊕List fy):=
 if x37 then
  (idx x14 (Z0.wrap ((x14.length:Int) - 1))).bind fun x44=>
  (sub x14 0 (Z0.wrap ((x14.length:Int) - 1))).bind fun x68=>
  (app 2932031007402 ([]) x68).bind fun z71=>
  (app 2932031007402 z71 ([{ x44 with fMany:=Z0.wrap (x44.fMany+1) }])).bind fun z129=>
  qC x17 z129
 else
  (idx p0 x17).bind fun x139=>
  (app 2932031007402 x14 ([(⟨1,x139⟩:fy)])).bind fun z151=>
  qC x17 z151
def ur (p0:List Ap) (x14:List fy) (x17:Int):Option ((List fy×Int)⊕List fy):=
 if decide (x17<(p0.length:Int)) then
  if decide (0<x17) then
   (idx p0 x17).bind fun x159=>
   (idx p0 (Z0.wrap (x17 - 1))).bind fun x163=>
   oJ p0 x14 x17 (decide (x159=x163))
  else
   oJ p0 x14 x17 false
 else
  (yV x14).map Sum.inr
def zU (p0:List Ap):Option (List fy):=
 aq (fun s:(List fy×Int)=>ur p0 s.1 s.2) ([],0)
def CK (x6:List Int):Option (List Int):=
 some x6
def iY (p0:Int) (x14:List Int) (x17:Int):Option ((List Int×Int)⊕List Int):=
 if decide (0≤x17) then
  (chk (decide (0≤x17))).bind fun u27=>
  (app 140737488355328 x14 ([Z4.wrap (aD .u64 p0 x17)])).bind fun z35=>
  some (.inl (z35,Z0.wrap (x17 - 8)))
 else
  (CK x14).map Sum.inr
def qd (p0:Int):Option (List Int):=
 aq (fun s:(List Int×Int)=>iY p0 s.1 s.2) ([],56)
def vK (p0 : Ap) (x18 : Bool) : Option (List Int) :=
 if x18 then
  (app 140737488355328 ([Z4.wrap p0.fKind]) ([1])).bind fun z26=>
  some z26
 else
  if p0.fKind==1 then
   (app 140737488355328 ([Z4.wrap p0.fKind]) ([0])).bind fun z44=>
   some z44
  else
   if p0.fKind==2 then
    (qd (Z2.wrap p0.fInt)).bind fun r63=>
    (app 140737488355328 ([Z4.wrap p0.fKind]) r63).bind fun z69=>
    some z69
   else
    if p0.fKind==3 then
     (app 140737488355328 ([Z4.wrap p0.fKind]) ([Z4.wrap (p0.fText.length:Int)])).bind fun z94=>
     (app 140737488355328 z94 p0.fText).bind fun z107=>
     some z107
    else
     some ([Z4.wrap p0.fKind])
def rl (p0:Ap):Option (List Int):=
 if p0.fKind==1 then
  vK p0 p0.fBool
 else
  vK p0 false
def xt (x24:List Int):Option (List Int):=
 some x24
def xu (x35:Int) (x46:List Int):Option ((List Int×Int)⊕List Int):=
 some (.inl (x46,Z0.wrap (x35+1)))
def xv (x35:Int) (x141:List Int) (x144:Int):Option ((List Int×Int)⊕List Int):=
 (app 140737488355328 x141 ([Z4.wrap x144])).bind fun z154=>
 xu x35 z154
def mU (x35:Int) (x163:List Int) (x166:Int):Option ((List Int×Int)⊕((List Int×Int)⊕List Int)):=
 if decide (128≤x166) then
  (app 140737488355328 x163 ([Z4.wrap (Z2.wrap ((x166.tmod 128)+128))])).bind fun z182=>
  some (.inl (z182,Z2.wrap (x166.tdiv 128)))
 else
  (xv x35 x163 x166).map Sum.inr
def sX (x32:List Int) (x35:Int) (x136:Int):Option ((List Int×Int)⊕List Int):=
 aq (fun s:(List Int×Int)=>mU x35 s.1 s.2) (x32,x136)
def sY (p0:List Ap) (x32:List Int) (x35:Int):Option ((List Int×Int)⊕List Int):=
 if decide (x35<(p0.length:Int)) then
  (idx p0 x35).bind fun x53=>
  (idx p0 (Z0.wrap (x35 - 1))).bind fun x60=>
  if decide ((Z0.wrap (x53.fInt - x60.fInt))<0) then
   sX x32 x35 (Z2.wrap (Z0.wrap ((Z0.wrap ((-2)*(Z0.wrap (x53.fInt - x60.fInt)))) - 1)))
  else
   sX x32 x35 (Z2.wrap (Z0.wrap (2*(Z0.wrap (x53.fInt - x60.fInt)))))
 else
  (xt x32).map Sum.inr
def yc (p0:List Ap):Option (List Int):=
 (idx p0 0).bind fun x3=>
 (qd (Z2.wrap x3.fInt)).bind fun r14=>
 aq (fun s:(List Int×Int)=>sY p0 s.1 s.2) (r14,1)
def kK (x38:Bool):Option Bool:=
 some x38
def oK (x71:Bool):Option Bool:=
 some x71
def qY (p0 : Ap) (p1 : Ap) : Option Bool :=
 if p0.fKind != p1.fKind then
  some (decide (p0.fKind<p1.fKind))
 else
  if p0.fKind==1 then
   if !p0.fBool then
    kK p1.fBool
   else
    kK false
  else
   if p0.fKind==2 then
    some (decide (p0.fInt<p1.fInt))
   else
    if p0.fKind==3 then
     oK (ltB p0.fText p1.fText)
    else
     oK false
def jz (p0:Ap) (p1:Ap):Option Int:=
 (qY p0 p1).bind fun r14=>
 (qY p1 p0).bind fun r25=>
 if r14 then
  some (-1)
 else
  if r25 then
   some 1
  else
   some 0
def xw (x6:List Ap):Option (List Ap):=
 some x6
def xy (x17:Int) (x28:List Ap):Option ((List Ap×Int)⊕List Ap):=
 some (.inl (x28,Z0.wrap (x17+1)))
def sZ (x17:Int) (x49:List Ap):Option ((List Ap×Int)⊕List Ap):=
 xy x17 x49
def xz (p0:List Ap) (x17:Int) (x40:List Ap) (x43:Bool):Option ((List Ap×Int)⊕List Ap):=
 if !x43 then
  (idx p0 x17).bind fun x59=>
  (app 3518437208883 x40 ([x59])).bind fun z69=>
  sZ x17 z69
 else
  sZ x17 x40
def s4 (x82:Int) (x93:List Ap) (x96:Bool):Option ((List Ap×Bool×Int)⊕((List Ap×Int)⊕List Ap)):=
 some (.inl (x93,x96,Z0.wrap (x82+1)))
def s5 (x14:List Ap) (x82:Int) (x165:List Ap) (x168:Bool):Option ((List Ap×Bool×Int)⊕((List Ap×Int)⊕List Ap)):=
 (idx x14 x82).bind fun x173=>
 (app 3518437208883 x165 ([x173])).bind fun z183=>
 s4 x82 z183 x168
def s6 (p0:List Ap) (x14:List Ap) (x17:Int) (x78:List Ap) (x81:Bool) (x82:Int) (r151:Int) (x161:Bool):Option ((List Ap×Bool×Int)⊕((List Ap×Int)⊕List Ap)):=
 if x161 then
  (idx p0 x17).bind fun x194=>
  (app 3518437208883 x78 ([x194])).bind fun z204=>
  if r151==0 then
   s4 x82 z204 true
  else
   s5 x14 x82 z204 true
 else
  s5 x14 x82 x78 x81
def s7 (p0:List Ap) (x14:List Ap) (x17:Int) (x78:List Ap) (x81:Bool) (x82:Int):Option ((List Ap×Bool×Int)⊕((List Ap×Int)⊕List Ap)):=
 if decide (x82<(x14.length:Int)) then
  (idx p0 x17).bind fun x101=>
  (idx x14 x82).bind fun x105=>
  (jz x101 x105).bind fun r151=>
  if !x81 then
   s6 p0 x14 x17 x78 x81 x82 r151 (decide (r151≤0))
  else
   s6 p0 x14 x17 x78 x81 x82 r151 false
 else
  (xz p0 x17 x78 x81).map Sum.inr
def s8 (p0:List Ap) (x14:List Ap) (x17:Int):Option ((List Ap×Int)⊕List Ap):=
 if decide (x17<(p0.length:Int)) then
  aq (fun s:(List Ap×Bool×Int)=>s7 p0 x14 x17 s.1 s.2.1 s.2.2) ([],false,0)
 else
  (xw x14).map Sum.inr
def yd (p0:List Ap):Option (List Ap):=
 aq (fun s:(List Ap×Int)=>s8 p0 s.1 s.2) ([],0)
def xA (x5:Int):Option Int:=
 some x5
def s9 (x12:Int) (x14:Int):Option ((Int×Int)⊕Int):=
 if decide (0<x12) then
  some (.inl (Z2.wrap (x12.tdiv 2),Z0.wrap (x14+1)))
 else
  (xA x14).map Sum.inr
def ut (p0:Int):Option Int:=
 aq (fun s:(Int×Int)=>s9 s.1 s.2) (p0,0)
def vL (x14:List Int):Option (List Int):=
 some x14
def vM (x25:Int) (x36:List Int):Option ((List Int×Int)⊕List Int):=
 some (.inl (x36,Z0.wrap (x25+8)))
def vN (x22:List Int) (x25:Int) (x47:Int):Option ((List Int×Int)⊕List Int):=
 (app 140737488355328 x22 ([x47])).bind fun z56=>
 vM x25 z56
def rp (x67:Int) (x85:Int):Option ((Int×Int)⊕((List Int×Int)⊕List Int)):=
 some (.inl (x85,Z0.wrap (x67 - 1)))
def rq (x6:List Int) (x22:List Int) (x25:Int) (x65:Int) (x67:Int):Option ((Int×Int)⊕((List Int×Int)⊕List Int)):=
 if decide (0≤x67) then
  if decide ((Z0.wrap (x25+x67))<(x6.length:Int)) then
   (idx x6 (Z0.wrap (x25+x67))).bind fun x97=>
   rp x67 (Z4.wrap ((Z4.wrap (x65*2))+x97))
  else
   rp x67 (Z4.wrap (x65*2))
 else
  (vN x22 x25 x65).map Sum.inr
def rt (x6:List Int) (x22:List Int) (x25:Int):Option ((List Int×Int)⊕List Int):=
 if decide (x25<(x6.length:Int)) then
  aq (fun s:(Int×Int)=>rq x6 x22 x25 s.1 s.2) (0,7)
 else
  (vL x22).map Sum.inr
def ru (x6:List Int):Option (List Int):=
 aq (fun s:(List Int×Int)=>rt x6 s.1 s.2) ([],0)
def vO (x111:Int) (x122:List Int):Option ((List Int×Int)⊕List Int):=
 some (.inl (x122,Z0.wrap (x111+1)))
def rv (p1:Int) (x111:Int) (x142:List Int) (x145:Int) (x147:Int):Option ((List Int×Int×Int)⊕((List Int×Int)⊕List Int)):=
 if decide (x147<p1) then
  (app 140737488355328 x142 ([Z4.wrap (x145.tmod 2)])).bind fun z163=>
  some (.inl (z163,Z2.wrap (x145.tdiv 2),Z0.wrap (x147+1)))
 else
  (vO x111 x142).map Sum.inr
def rx (p0:List Int) (p1:Int) (x108:List Int) (x111:Int):Option ((List Int×Int)⊕List Int):=
 if decide (x111<(p0.length:Int)) then
  (idx p0 x111).bind fun x131=>
  aq (fun s:(List Int×Int×Int)=>rv p1 x111 s.1 s.2.1 s.2.2) (x108,x131,0)
 else
  (ru x108).map Sum.inr
def sw (p0:List Int) (p1:Int):Option (List Int):=
 aq (fun s:(List Int×Int)=>rx p0 p1 s.1 s.2) ([],0)
def yW (r3:List Ap) (x21:List Int) (x29:List Int):Option (List Int):=
 (ut (Z2.wrap (Z0.wrap ((r3.length:Int) - 1)))).bind fun r39=>
 (sw x29 r39).bind fun r46=>
 (app 140737488355328 x21 r46).bind fun z52=>
 some z52
def yX (x64:Int) (x75:List Int):Option ((List Int×Int)⊕List Int):=
 some (.inl (x75,Z0.wrap (x64+1)))
def uu (x88:Int) (x150:List Int):Option ((List Int×Int)⊕((List Int×Int)⊕List Int)):=
 some (.inl (x150,Z0.wrap (x88+1)))
def uv (p0:List Ap) (r3:List Ap) (x64:Int) (x85:List Int) (x88:Int):Option ((List Int×Int)⊕((List Int×Int)⊕List Int)):=
 if decide (x88<(r3.length:Int)) then
  (idx r3 x88).bind fun x97=>
  (idx p0 x64).bind fun x101=>
  if decide (x97=x101) then
   (app 17592186044416 x85 ([Z2.wrap x88])).bind fun z165=>
   uu x88 z165
  else
   uu x88 x85
 else
  (yX x64 x85).map Sum.inr
def qD (p0:List Ap) (r3:List Ap) (x21:List Int) (x61:List Int) (x64:Int):Option ((List Int×Int)⊕List Int):=
 if decide (x64<(p0.length:Int)) then
  aq (fun s:(List Int×Int)=>uv p0 r3 x64 s.1 s.2) (x61,0)
 else
  (yW r3 x21 x61).map Sum.inr
def yY (p0:List Ap) (r3:List Ap) (x21:List Int):Option (List Int):=
 aq (fun s:(List Int×Int)=>qD p0 r3 x21 s.1 s.2) ([],0)
def uw (p0:List Ap) (r3:List Ap) (x174:List Int) (x177:Int):Option ((List Int×Int)⊕List Int):=
 if decide (x177<(r3.length:Int)) then
  (idx r3 x177).bind fun x189=>
  (rl x189).bind fun r195=>
  (app 140737488355328 x174 r195).bind fun z201=>
  some (.inl (z201,Z0.wrap (x177+1)))
 else
  (yY p0 r3 x174).map Sum.inr
def zV (p0:List Ap):Option (List Int):=
 (yd p0).bind fun r3=>
 aq (fun s:(List Int×Int)=>uw p0 r3 s.1 s.2) ([Z4.wrap (r3.length:Int)],0)
def xB (x17:Int) (x25:List Int) (x28:Int):Option (List Int):=
 (qd (Z2.wrap x17)).bind fun r33=>
 (app 140737488355328 r33 ([Z4.wrap x28])).bind fun z45=>
 (sw x25 x28).bind fun r55=>
 (app 140737488355328 z45 r55).bind fun z61=>
 some z61
def pP (p0:List Ap) (x17:Int) (x70:List Int) (x73:Int) (x75:Int):Option ((List Int×Int×Int)⊕List Int):=
 if decide (x75<(p0.length:Int)) then
  (idx p0 x75).bind fun x86=>
  (app 17592186044416 x70 ([Z2.wrap ((Z2.wrap x86.fInt) - (Z2.wrap x17))])).bind fun z107=>
  (ut (Z2.wrap ((Z2.wrap x86.fInt) - (Z2.wrap x17)))).bind fun r116=>
  some (.inl (z107,(if x73<r116 then r116 else x73),Z0.wrap (x75+1)))
 else
  (xB x17 x70 x73).map Sum.inr
def xC (p0:List Ap) (x17:Int):Option (List Int):=
 aq (fun s:(List Int×Int×Int)=>pP p0 x17 s.1 s.2.1 s.2.2) ([],0,0)
def td (p0:List Ap) (x130:Int) (x132:Int):Option ((Int×Int)⊕List Int):=
 if decide (x132<(p0.length:Int)) then
  (idx p0 x132).bind fun x144=>
  some (.inl ((if x144.fInt<x130 then x144.fInt else x130),Z0.wrap (x132+1)))
 else
  (xC p0 x130).map Sum.inr
def ye (p0:List Ap):Option (List Int):=
 (idx p0 0).bind fun x3=>
 aq (fun s:(Int×Int)=>td p0 s.1 s.2) (x3.fInt,0)
def g7 (x25:List Int):Option (List Int×Int):=
 some (x25,0)
def ry (r36:List fy) (x46:List Int) (x49:Int):Option ((List Int×Int)⊕(List Int×Int)):=
 if decide (x49<(r36.length:Int)) then
  (idx r36 x49).bind fun x61=>
  (app 140737488355328 x46 ([Z4.wrap x61.fMany])).bind fun z76=>
  (idx r36 x49).bind fun x86=>
  (rl x86.fValue).bind fun r95=>
  (app 140737488355328 z76 r95).bind fun z101=>
  some (.inl (z101,Z0.wrap (x49+1)))
 else
  (g7 x46).map Sum.inr
def rz (p1:List Ap) (x147:List Int) (x150:Int):Option ((List Int×Int)⊕(List Int×Int)):=
 if decide (x150<(p1.length:Int)) then
  (idx p1 x150).bind fun x162=>
  (rl x162).bind fun r168=>
  (app 140737488355328 x147 r168).bind fun z174=>
  some (.inl (z174,Z0.wrap (x150+1)))
 else
  (g7 x147).map Sum.inr
def rA (p0 : Int) (p1 : List Ap) (r5 : Int) (x15 : Bool) : Option (List Int × Int) :=
 if x15 then
  some ([],r5)
 else
  if p0==1 then
   (zU p1).bind fun r36=>
   aq (fun s:(List Int×Int)=>ry r36 s.1 s.2) ([],0)
  else
   if p0==2 then
    (yc p1).bind fun r115=>
    g7 r115
   else
    if p0==3 then
     (zV p1).bind fun r126=>
     g7 r126
    else
     if p0==4 then
      (ye p1).bind fun r137=>
      g7 r137
     else
      aq (fun s:(List Int×Int)=>rz p1 s.1 s.2) ([],0)
def qe (p0:Int) (p1:List Ap):Option (List Int×Int):=
 (uq p0 p1).bind fun r5=>
 if r5 != 0 then
  rA p0 p1 r5 true
 else
  rA p0 p1 r5 ((p1.length:Int)==0)
def Fc (x7:Int):Option Int:=
 some x7
def ux (x18:Int) (x48:Int) (x50:Int):Option ((Int×Int×Int)⊕Int):=
 some (.inl (x48,x50,Z0.wrap (x18+1)))
def qE (x14:Int) (x16:Int) (x18:Int) (r27:List Int×Int) (x44:Bool):Option ((Int×Int×Int)⊕Int):=
 if x44 then
  ux x18 x18 (r27.1.length:Int)
 else
  ux x18 x14 x16
def yZ (p0 : List Ap) (x14 : Int) (x16 : Int) (x18 : Int) : Option ((Int × Int × Int) ⊕ Int) :=
 if decide (x18 < 5) then
  (qe x18 p0).bind fun r27=>
  if r27.2==0 then
   if decide (x16<0) then
    qE x14 x16 x18 r27 true
   else
    qE x14 x16 x18 r27 (decide ((r27.1.length:Int)<x16))
  else
   qE x14 x16 x18 r27 false
 else
  (Fc x14).map Sum.inr
def zW (p0:List Ap):Option Int:=
 aq (fun s:(Int×Int×Int)=>yZ p0 s.1 s.2.1 s.2.2) (0,(-1),0)
def xD (x73:dp):Option dp:=
 some x73
def te (x84:Int) (x215:dp):Option ((Int×dp)⊕dp):=
 some (.inl (Z0.wrap (x84+1),x215))
def pQ (p1:List Ap) (x84:Int) (x196:dp):Option ((Int×dp)⊕dp):=
 (idx p1 x84).bind fun x202=>
 if x202.fKind==0 then
  te x84 ({ x196 with fNulls:=Z0.wrap (x196.fNulls+1) })
 else
  te x84 x196
def pR (p1:List Ap) (x84:Int) (x144:dp):Option ((Int×dp)⊕dp):=
 (idx p1 x84).bind fun x148=>
 (jz x148 x144.fMax).bind fun r186=>
 if decide (0<r186) then
  (idx p1 x84).bind fun x235=>
  pQ p1 x84 ({ x144 with fMax:=x235 })
 else
  pQ p1 x84 x144
def tf (p1:List Ap) (x84:Int) (x86:dp):Option ((Int×dp)⊕dp):=
 if decide (x84<(p1.length:Int)) then
  (idx p1 x84).bind fun x96=>
  (jz x96 x86.fMin).bind fun r134=>
  if decide (r134<0) then
   (idx p1 x84).bind fun x248=>
   pR p1 x84 ({ x86 with fMin:=x248 })
  else
   pR p1 x84 x86
 else
  (xD x86).map Sum.inr
def yf (p0:Int) (p1:List Ap):Option dp:=
 (idx p1 0).bind fun x3=>
 (idx p1 0).bind fun x7=>
 aq (fun s:(Int×dp)=>tf p1 s.1 s.2) (0,(⟨p0,(p1.length:Int),x3,x7,0,0⟩:dp))
def A6 (x6:Int):Option Int:=
 some (dR .u32 x6 4294967295)
def A7 (x16:Int) (x27:Int):Option ((Int×Int)⊕Int):=
 some (.inl (x27,Z0.wrap (x16+1)))
def vP (x51:Int) (x63:Int):Option ((Int×Int)⊕((Int×Int)⊕Int)):=
 some (.inl (x63,Z0.wrap (x51+1)))
def vQ (x16:Int) (x49:Int) (x51:Int):Option ((Int×Int)⊕((Int×Int)⊕Int)):=
 if decide (x51<8) then
  if (x49.tmod 2)==1 then
   vP x51 (dR .u32 (Zy.wrap (x49.tdiv 2)) 3988292384)
  else
   vP x51 (Zy.wrap (x49.tdiv 2))
 else
  (A7 x16 x49).map Sum.inr
def vR (p0:List Int) (x14:Int) (x16:Int):Option ((Int×Int)⊕Int):=
 if decide (x16<(p0.length:Int)) then
  (idx p0 x16).bind fun x36=>
  aq (fun s:(Int×Int)=>vQ x16 s.1 s.2) (dR .u32 x14 (Zy.wrap x36),0)
 else
  (A6 x14).map Sum.inr
def y2 (p0:List Int):Option Int:=
 aq (fun s:(Int×Int)=>vR p0 s.1 s.2) (4294967295,0)
def vS (x8:List Int):Option (List Int):=
 some x8
def vT (x19:Int) (x28:List Int):Option ((List Int×Int)⊕List Int):=
 some (.inl (x28,Z0.wrap (x19 - 1)))
def vU (x16:List Int) (x19:Int) (x40:Int):Option ((List Int×Int)⊕List Int):=
 (app 140737488355328 x16 ([Z4.wrap (x40.tmod 256)])).bind fun z51=>
 vT x19 z51
def rB (x16:List Int) (x19:Int) (x60:Int) (x62:Int):Option ((Int×Int)⊕((List Int×Int)⊕List Int)):=
 if decide (x62<x19) then
  some (.inl (Z2.wrap (x60.tdiv 256),Z0.wrap (x62+1)))
 else
  (vU x16 x19 x60).map Sum.inr
def oL (p0:Int) (x16:List Int) (x19:Int):Option ((List Int×Int)⊕List Int):=
 if decide (0≤x19) then
  aq (fun s:(Int×Int)=>rB x16 x19 s.1 s.2) (p0,0)
 else
  (vS x16).map Sum.inr
def n9 (p0:Int) (p1:Int):Option (List Int):=
 aq (fun s:(List Int×Int)=>oL p0 s.1 s.2) ([],Z0.wrap (p1 - 1))
def pS (p1:List Ap) (x13:Int):Option (List Int×Int):=
 (qe x13 p1).bind fun r18=>
 if r18.2 != 0 then
  some ([],r18.2)
 else
  (yf x13 p1).bind fun r41=>
  (rl r41.fMin).bind fun r73=>
  (app 140737488355328 ([Z4.wrap x13,Z4.wrap r41.fMany,Z4.wrap r41.fNulls]) r73).bind fun z79=>
  (rl r41.fMax).bind fun r90=>
  (app 140737488355328 z79 r90).bind fun z96=>
  (app 140737488355328 z96 ([Z4.wrap (Z0.wrap ((r18.1.length:Int).tdiv 256)),Z4.wrap ((r18.1.length:Int).tmod 256)])).bind fun z116=>
  (app 140737488355328 z116 r18.1).bind fun z125=>
  (y2 z125).bind fun r134=>
  (n9 (Z2.wrap r134) 4).bind fun r142=>
  (app 140737488355328 z125 r142).bind fun z148=>
  some (z148,0)
def yg (p0:Int) (p1:List Ap):Option (List Int×Int):=
 if (p1.length:Int)==0 then
  some ([],70)
 else
  if p0==(-1) then
   (zW p1).bind fun r158=>
   pS p1 r158
  else
   pS p1 p0
def tN (x6:Int):Option Int:=
 some x6
def pn (p0:List Int) (x13:Int) (x15:Int):Option ((Int×Int)⊕Int):=
 if decide (x15<8) then
  (idx p0 x15).bind fun x27=>
  some (.inl (bOr .u64 (em .u64 x13 8) (Z2.wrap x27),Z0.wrap (x15+1)))
 else
  (tN x13).map Sum.inr
def pT (p0:List Int):Option Int:=
 aq (fun s:(Int×Int)=>pn p0 s.1 s.2) (0,0)
def kg (x21:List Int) (x205:Bool):Option (Ap×List Int×Bool):=
 if x205 then
  (idx x21 0).bind fun x208=>
  (sub x21 1 (Z4.wrap (1+x208))).bind fun x213=>
  (oD x213).bind fun r216=>
  (idx x21 0).bind fun x221=>
  (sub x21 (Z4.wrap (1+x221)) x21.length).bind fun x226=>
  some (r216,x226,true)
 else
  some ((⟨0,false,0,[]⟩:Ap),[],false)
def oM (x16 : Int) (x21 : List Int) (x145 : Bool) : Option (Ap × List Int × Bool) :=
 if x145 then
  (pT x21).bind fun r148=>
  (ez (Z0.wrap r148)).bind fun r154=>
  (sub x21 8 x21.length).bind fun x159=>
  some (r154,x159,true)
 else
  if (Z0.wrap x16) == 3 then
   if decide (1≤(x21.length:Int)) then
    (idx x21 0).bind fun x325=>
    if decide (x325≤64) then
     (idx x21 0).bind fun x339=>
     kg x21 (decide ((Z0.wrap x339)<(x21.length:Int)))
    else
     kg x21 false
   else
    kg x21 false
  else
   kg x21 false
def kj (x16:Int) (x21:List Int) (x83:Bool):Option (Ap×List Int×Bool):=
 if x83 then
  (idx x21 0).bind fun x86=>
  (oC (x86==1)).bind fun r91=>
  (sub x21 1 x21.length).bind fun x96=>
  some (r91,x96,true)
 else
  if (Z0.wrap x16)==2 then
   oM x16 x21 (decide (8≤(x21.length:Int)))
  else
   oM x16 x21 false
def sy (p0 : List Int) : Option (Ap × List Int × Bool) :=
 if (p0.length:Int)==0 then
  some ((⟨0,false,0,[]⟩:Ap),[],false)
 else
  (idx p0 0).bind fun x16=>
  (sub p0 1 p0.length).bind fun x21=>
  if (Z0.wrap x16)==0 then
   (kD).bind fun r69=>
   some (r69,x21,true)
  else
   if (Z0.wrap x16)==1 then
    if decide (1≤(x21.length:Int)) then
     (idx x21 0).bind fun x384=>
     kj x16 x21 (decide (x384≤1))
    else
     kj x16 x21 false
   else
    kj x16 x21 false
def tO (x64:List Int) (x67:List Ap):Option (List Ap×Int):=
 if decide (0<(x64.length:Int)) then
  some ([],30)
 else
  some (x67,0)
def ko (x11:Int) (x82:List Int) (x85:List Ap) (x88:Int):Option ((List Int×List Ap×Int)⊕(List Ap×Int)):=
 if decide (x88<(Z0.wrap x11)) then
  (sy x82).bind fun r95=>
  if !r95.2.2 then
   (some ([],30)).map Sum.inr
  else
   (app 3518437208883 x85 ([r95.1])).bind fun z129=>
   some (.inl (r95.2.1,z129,Z0.wrap (x88+1)))
 else
  (tO x82 x85).map Sum.inr
def po (p0:List Int) (x5:Bool):Option (List Ap×Int):=
 if x5 then
  some ([],30)
 else
  (idx p0 0).bind fun x11=>
  (sub p0 1 p0.length).bind fun x16=>
  aq (fun s:(List Int×List Ap×Int)=>ko x11 s.1 s.2.1 s.2.2) (x16,[],0)
def lw (p0:List Int):Option (List Ap×Int):=
 if (p0.length:Int)==0 then
  po p0 true
 else
  (idx p0 0).bind fun x147=>
  po p0 (decide (16<x147))
def zX:Option (Ap×List Int×Bool):=
 some ((⟨0,false,0,[]⟩:Ap),[],false)
def ml (p0:List Int) (x18:Int) (x24:Bool):Option (Int⊕(Ap×List Int×Bool)):=
 if x24 then
  (sub p0 0 x18).bind fun x33=>
  (app 140737488355328 ([1]) x33).bind fun z37=>
  (lw z37).bind fun r43=>
  if r43.2==0 then
   (idx r43.1 0).bind fun x61=>
   (sub p0 x18 p0.length).bind fun x65=>
   (some (x61,x65,true)).map Sum.inr
  else
   some (.inl (Z0.wrap (x18+1)))
 else
  (zX).map Sum.inr
def mn (p0:List Int) (x18:Int):Option (Int⊕(Ap×List Int×Bool)):=
 if decide (x18≤(p0.length:Int)) then
  ml p0 x18 (decide (x18≤66))
 else
  ml p0 x18 false
def lx (p0:List Int):Option (Ap×List Int×Bool):=
 aq (fun s:Int=>mn p0 s) 1
def nF (p0:List Int) (x17:Int) (x22:Int) (x27:Int) (r118:Ap×List Int×Bool) (r140:Ap×List Int×Bool) (x163:Bool):Option (bM×List Int×Bool):=
 if x163 then
  some ((⟨0,0,Ap.zero,Ap.zero,0,0⟩:bM),[],false)
 else
  (idx r140.2.1 0).bind fun x173=>
  (idx r140.2.1 1).bind fun x178=>
  (sub r140.2.1 2 r140.2.1.length).bind fun x237=>
  if decide ((x237.length:Int)<(Z0.wrap ((bOr .i64 (em .i64 (Z0.wrap x173) 8) (Z0.wrap x178))+4))) then
   some ((⟨0,0,Ap.zero,Ap.zero,0,0⟩:bM),[],false)
  else
   (sub x237 0 (bOr .i64 (em .i64 (Z0.wrap x173) 8) (Z0.wrap x178))).bind fun x268=>
   some ({ { { (⟨Z0.wrap x17,Z0.wrap x22,Ap.zero,Ap.zero,Z0.wrap x27,0⟩:bM) with fMin:=r118.1 } with fMax:=r140.1 } with fBytes:=Z0.wrap ((Z0.wrap ((Z0.wrap ((p0.length:Int) - (x237.length:Int)))+(bOr .i64 (em .i64 (Z0.wrap x173) 8) (Z0.wrap x178))))+4) },x268,true)
def gm (p0 : List Int) (x7 : Bool) : Option (bM × List Int × Bool) :=
 if x7 then
  some ((⟨0,0,Ap.zero,Ap.zero,0,0⟩:bM),[],false)
 else
  (idx p0 0).bind fun x17=>
  (idx p0 1).bind fun x22=>
  (idx p0 2).bind fun x27=>
  (sub p0 3 p0.length).bind fun x114=>
  (lx x114).bind fun r118=>
  (lx r118.2.1).bind fun r140=>
  if !r118.2.2 then
   nF p0 x17 x22 x27 r118 r140 true
  else
   if !r140.2.2 then
    nF p0 x17 x22 x27 r118 r140 true
   else
    nF p0 x17 x22 x27 r118 r140 (decide ((r140.2.1.length:Int)<2))
def jA (p0 : List Int) : Option (bM × List Int × Bool) :=
 if decide ((p0.length:Int)<3) then
  gm p0 true
 else
  (idx p0 0).bind fun x385=>
  if decide (4<x385) then
   gm p0 true
  else
   (idx p0 1).bind fun x471=>
   if x471==0 then
    gm p0 true
   else
    (idx p0 1).bind fun x572=>
    if decide (64<x572) then
     gm p0 true
    else
     (idx p0 2).bind fun x688=>
     (idx p0 1).bind fun x693=>
     gm p0 (decide (x693<x688))
def jX (p0:List Int):Option (List Int):=
 (app 140737488355328 ([]) p0).bind fun z13=>
 some z13
def oN:Option Bool:=
 some true
def fY (p0:List Int) (p1:List Int) (x18:Int):Option (Int⊕Bool):=
 if decide (x18<(p0.length:Int)) then
  (idx p0 x18).bind fun x26=>
  (idx p1 x18).bind fun x31=>
  if x26 != x31 then
   (some false).map Sum.inr
  else
   some (.inl (Z0.wrap (x18+1)))
 else
  (oN).map Sum.inr
def gh (p0:List Int) (p1:List Int):Option Bool:=
 if (p0.length:Int) != (p1.length:Int) then
  some false
 else
  aq (fun s:Int=>fY p0 p1 s) 0
def tg (p0:aj):Option (Ap×aj):=
 some ((⟨0,false,0,[]⟩:Ap),{ p0 with fOk:=false })
def gJ (p0:aj) (x20:Int) (x26:Bool):Option (Int⊕(Ap×aj)):=
 if x26 then
  (sub p0.fB 0 x20).bind fun x39=>
  (app 140737488355328 ([1]) x39).bind fun z43=>
  (lw z43).bind fun r49=>
  if r49.2==0 then
   (sub p0.fB x20 p0.fB.length).bind fun x74=>
   (idx r49.1 0).bind fun x84=>
   (some (x84,{ p0 with fB:=x74 })).map Sum.inr
  else
   some (.inl (Z0.wrap (x20+1)))
 else
  (tg p0).map Sum.inr
def gK (p0:aj) (x20:Int):Option (Int⊕(Ap×aj)):=
 if decide (x20≤(p0.fB.length:Int)) then
  gJ p0 x20 (decide (x20≤66))
 else
  gJ p0 x20 false
def dE (p0:aj):Option (Ap×aj):=
 aq (fun s:Int=>gK p0 s) 1
def cH (p0:aj) (p1:Int):Option (List Int×aj):=
 if decide ((p0.fB.length:Int)<p1) then
  (mk 281474976710656 p1 0).bind fun z24=>
  some (z24,{ { p0 with fB:=[] } with fOk:=false })
 else
  (mk 281474976710656 p1 0).bind fun z35=>
  (sub p0.fB p1 p0.fB.length).bind fun x61=>
  some ((cpy z35 p0.fB),{ p0 with fB:=x61 })
def Fd (p0:Int) (p1:Int):Option (Int×Int):=
 some (Zy.wrap (aD .u64 (Z2.wrap ((Z2.wrap p0)*(Z2.wrap p1))) 32),Zy.wrap (Z2.wrap ((Z2.wrap p0)*(Z2.wrap p1))))
def qH (p0:Int) (p1:Int):Option (Int×Int):=
 some (Z2.wrap ((Z2.wrap ((Z2.wrap ((aD .u64 p0 32)*(aD .u64 p1 32)))+(aD .u64 (Z2.wrap ((Z2.wrap ((aD .u64 p0 32)*(dh .u64 p1 4294967295)))+(aD .u64 (Z2.wrap ((dh .u64 p0 4294967295)*(dh .u64 p1 4294967295))) 32))) 32)))+(aD .u64 (Z2.wrap ((dh .u64 (Z2.wrap ((Z2.wrap ((aD .u64 p0 32)*(dh .u64 p1 4294967295)))+(aD .u64 (Z2.wrap ((dh .u64 p0 4294967295)*(dh .u64 p1 4294967295))) 32))) 4294967295)+(Z2.wrap ((dh .u64 p0 4294967295)*(aD .u64 p1 32))))) 32)),Z2.wrap (p0*p1))
def uy (p0:Int) (p1:Int):Option (Int×Int):=
 (qH p0 p1).bind fun r5=>
 some (r5.1,r5.2)
def gL (x52:List Ap):Option (List Ap):=
 some x52
def gM (x60:Int) (x62:List Ap):Option ((Int×List Ap)⊕List Ap):=
 if decide (x60<(x62.length:Int)) then
  (vw x62 x60 x62.length).bind fun q73=>
  (vw x62 0 x60).bind fun q76=>
  (chk (Nat.ble (min q76.2 q73.2) cO)).bind fun u82=>
  (cpv x62 q73 q76).bind fun z80=>
  some (.inl (Z0.wrap (x60+((min q76.2 q73.2:Nat):Int)),z80))
 else
  (gL x62).map Sum.inr
def gN (p0:List Ap) (r12:Int×Int):Option (List Ap):=
 (mk 7036874417766 (Z0.wrap r12.2) Ap.zero).bind fun z37=>
 aq (fun s:(Int×List Ap)=>gM s.1 s.2) (((min p0.length z37.length:Nat):Int),(cpy z37 p0))
def fa (p0:List Ap) (r12:Int×Int) (x30:Bool):Option (List Ap):=
 if x30 then
  none
 else
  gN p0 r12
def gO (p0:List Ap) (p1:Int):Option (List Ap):=
 (uy (Z2.wrap (p0.length:Int)) (Z2.wrap p1)).bind fun r12=>
 if decide (0<r12.1) then
  fa p0 r12 true
 else
  fa p0 r12 (decide (9223372036854775807<r12.2))
def eW (p0:List Ap) (p1:Int):Option (List Ap):=
 if decide (p1<0) then
  none
 else
  gO p0 p1
def mF (r4:List Int×aj) (x16:Int):Option (Int×aj):=
 some (x16,r4.2)
def gr (r4:List Int×aj) (x23:Int) (x25:Int):Option ((Int×Int)⊕(Int×aj)):=
 if decide (x25<(r4.1.length:Int)) then
  (idx r4.1 x25).bind fun x31=>
  some (.inl (bOr .u64 (em .u64 x23 8) (Z2.wrap x31),Z0.wrap (x25+1)))
 else
  (mF r4 x23).map Sum.inr
def fZ (p0:aj):Option (Int×aj):=
 (cH p0 8).bind fun r4=>
 aq (fun s:(Int×Int)=>gr r4 s.1 s.2) (0,0)
def mV (x6:aj):Option (Int×aj):=
 some (0,{ x6 with fOk:=false })
def gP (x19:Int) (x21:Int) (x23:aj) (x30:Bool):Option ((Int×Int×aj)⊕(Int×aj)):=
 if x30 then
  (cH x23 1).bind fun r34=>
  (idx r34.1 0).bind fun x42=>
  (chk (decide (0≤x21))).bind fun u55=>
  if decide (x42<128) then
   (some (bOr .u64 x19 (em .u64 (Z2.wrap (dh .u8 x42 127)) x21),r34.2)).map Sum.inr
  else
   some (.inl (bOr .u64 x19 (em .u64 (Z2.wrap (dh .u8 x42 127)) x21),Z0.wrap (x21+7),r34.2))
 else
  (mV x23).map Sum.inr
def jP (x19:Int) (x21:Int) (x23:aj):Option ((Int×Int×aj)⊕(Int×aj)):=
 if decide (x21<70) then
  gP x19 x21 x23 x23.fOk
 else
  gP x19 x21 x23 false
def eX (p0:aj):Option (Int×aj):=
 aq (fun s:(Int×Int×aj)=>jP s.1 s.2.1 s.2.2) (0,0,p0)
def fN (r28:List Int×aj) (x50:List Int):Option (List Int×aj):=
 some (x50,r28.2)
def fO (x58:Int) (x69:List Int):Option ((Int×List Int)⊕(List Int×aj)):=
 some (.inl (Z0.wrap (x58+1),x69))
def ej (p2:Int) (r28:List Int×aj) (x58:Int) (x81:Int) (x83:List Int):Option ((Int×List Int)⊕((Int×List Int)⊕(List Int×aj))):=
 if decide (x81<p2) then
  (ix x83 x58).bind fun j98=>
  (x83[j98]?).bind fun x101=>
  (idx r28.1 (Z0.wrap ((Z0.wrap ((Z0.wrap (x58*p2))+x81)).tdiv 8))).bind fun x104=>
  (chk (decide (0≤((Z0.wrap ((Z0.wrap (x58*p2))+x81)).tmod 8)))).bind fun u109=>
  (chk (decide (0≤x81))).bind fun u111=>
  (ix x83 x58).bind fun j207=>
  (x83[j207]?).bind fun x212=>
  some (.inl (Z0.wrap (x81+1),(x83.set j207 (bOr .u64 x101 (em .u64 (Z2.wrap (dh .u8 (aD .u8 x104 ((Z0.wrap ((Z0.wrap (x58*p2))+x81)).tmod 8)) 1)) x81)))))
 else
  (fO x58 x83).map Sum.inr
def dB (p2:Int) (r28:List Int×aj) (z38:List Int) (x58:Int) (x60:List Int):Option ((Int×List Int)⊕(List Int×aj)):=
 if decide (x58<(z38.length:Int)) then
  aq (fun s:(Int×List Int)=>ej p2 r28 x58 s.1 s.2) (0,x60)
 else
  (fN r28 x60).map Sum.inr
def dx (p0:aj) (p1:Int) (p2:Int):Option (List Int×aj):=
 if decide (64<p2) then
  (mk 35184372088832 p1 0).bind fun z12=>
  some (z12,{ p0 with fOk:=false })
 else
  (cH p0 (Z0.wrap ((Z0.wrap ((Z0.wrap (p1*p2))+7)).tdiv 8))).bind fun r28=>
  (mk 35184372088832 p1 0).bind fun z38=>
  aq (fun s:(Int×List Int)=>dB p2 r28 z38 s.1 s.2) (0,z38)
def cl (x6:List Ap) (x9:aj):Option (List Ap×aj):=
 some (x6,x9)
def jQ (x20:List Ap) (x23:aj) (x30:Bool):Option ((List Ap×aj)⊕(List Ap×aj)):=
 if x30 then
  (dE x23).bind fun r35=>
  (app 3518437208883 x20 ([r35.1])).bind fun z47=>
  some (.inl (z47,r35.2))
 else
  (cl x20 x23).map Sum.inr
def mW (p2:Int) (x20:List Ap) (x23:aj):Option ((List Ap×aj)⊕(List Ap×aj)):=
 if decide ((x20.length:Int)<p2) then
  jQ x20 x23 x23.fOk
 else
  jQ x20 x23 false
def jR (p2:Int) (x72:List Ap) (x75:aj) (x82:Bool):Option ((List Ap×aj)⊕(List Ap×aj)):=
 if x82 then
  (cH x75 1).bind fun r86=>
  (idx r86.1 0).bind fun x94=>
  (dE r86.2).bind fun r110=>
  (eW ([r110.1]) (if (Z0.wrap (p2 - (x72.length:Int)))<(Z0.wrap x94) then Z0.wrap (p2 - (x72.length:Int)) else Z0.wrap x94)).bind fun r123=>
  (app 3518437208883 x72 r123).bind fun z129=>
  some (.inl (z129,r110.2))
 else
  (cl x72 x75).map Sum.inr
def mX (p2:Int) (x72:List Ap) (x75:aj):Option ((List Ap×aj)⊕(List Ap×aj)):=
 if decide ((x72.length:Int)<p2) then
  jR p2 x72 x75 x75.fOk
 else
  jR p2 x72 x75 false
def jS (x185:List Ap) (x188:Int) (x190:aj) (x197:Bool):Option ((List Ap×Int×aj)⊕(List Ap×aj)):=
 if x197 then
  (eX x190).bind fun r201=>
  (ez (Z0.wrap (x188+(dR .i64 (Z0.wrap (aD .u64 r201.1 1)) (Z0.wrap (0 - (Z0.wrap (dh .u64 r201.1 1)))))))).bind fun r224=>
  (app 3518437208883 x185 ([r224])).bind fun z234=>
  some (.inl (z234,Z0.wrap (x188+(dR .i64 (Z0.wrap (aD .u64 r201.1 1)) (Z0.wrap (0 - (Z0.wrap (dh .u64 r201.1 1)))))),r201.2))
 else
  (cl x185 x190).map Sum.inr
def mY (p2:Int) (x185:List Ap) (x188:Int) (x190:aj):Option ((List Ap×Int×aj)⊕(List Ap×aj)):=
 if decide ((x185.length:Int)<p2) then
  jS x185 x188 x190 x190.fOk
 else
  jS x185 x188 x190 false
def jT (x277:List Ap) (r298:List Int×aj) (x310:List Ap) (x313:Int):Option ((List Ap×Int)⊕(List Ap×aj)):=
 if decide (x313<(r298.1.length:Int)) then
  (idx r298.1 x313).bind fun x319=>
  if decide ((Z2.wrap (x277.length:Int))≤x319) then
   (some ([],r298.2)).map Sum.inr
  else
   (idx x277 x319).bind fun x337=>
   (app 3518437208883 x310 ([x337])).bind fun z347=>
   some (.inl (z347,Z0.wrap (x313+1)))
 else
  (cl x310 r298.2).map Sum.inr
def mZ (p2:Int) (x277:List Ap) (x280:aj):Option (List Ap×aj):=
 (pj (Z2.wrap (Z0.wrap ((if (x277.length:Int)<1 then 1 else (x277.length:Int)) - 1)))).bind fun r291=>
 (dx x280 p2 r291).bind fun r298=>
 aq (fun s:(List Ap×Int)=>jT x277 r298 s.1 s.2) ([],0)
def nf (p2:Int) (x267:Int) (x358:List Ap) (x361:Int) (x363:aj):Option ((List Ap×Int×aj)⊕(List Ap×aj)):=
 if decide (x361<x267) then
  (dE x363).bind fun r372=>
  (app 3518437208883 x358 ([r372.1])).bind fun z384=>
  some (.inl (z384,Z4.wrap (x361+1),r372.2))
 else
  (mZ p2 x358 x363).map Sum.inr
def ng (r394:Int×aj) (r423:List Int×aj) (x435:List Ap) (x438:Int):Option ((List Ap×Int)⊕(List Ap×aj)):=
 if decide (x438<(r423.1.length:Int)) then
  (idx r423.1 x438).bind fun x444=>
  (ez (Z0.wrap (Z2.wrap (r394.1+x444)))).bind fun r457=>
  (app 3518437208883 x435 ([r457])).bind fun z467=>
  some (.inl (z467,Z0.wrap (x438+1)))
 else
  (cl x435 r423.2).map Sum.inr
def bU (p0 : aj) (p1 : Int) (p2 : Int) : Option (List Ap × aj) :=
 if p1==0 then
  aq (fun s:(List Ap×aj)=>mW p2 s.1 s.2) ([],p0)
 else
  if p1==1 then
   aq (fun s:(List Ap×aj)=>mX p2 s.1 s.2) ([],p0)
  else
   if p1==2 then
    (fZ p0).bind fun r153=>
    (ez (Z0.wrap r153.1)).bind fun r166=>
    (app 3518437208883 ([]) ([r166])).bind fun z176=>
    aq (fun s:(List Ap×Int×aj)=>mY p2 s.1 s.2.1 s.2.2) (z176,Z0.wrap r153.1,r153.2)
   else
    if p1==3 then
     (cH p0 1).bind fun r259=>
     (idx r259.1 0).bind fun x267=>
     aq (fun s:(List Ap×Int×aj)=>nf p2 x267 s.1 s.2.1 s.2.2) ([],0,r259.2)
    else
     (fZ p0).bind fun r394=>
     (cH r394.2 1).bind fun r407=>
     (idx r407.1 0).bind fun x415=>
     (dx r407.2 p2 (Z0.wrap x415)).bind fun r423=>
     aq (fun s:(List Ap×Int)=>ng r394 r423 s.1 s.2) ([],0)
def iZ (x30:List Ap) (x56:Bool):Option (List Ap×Int):=
 if x56 then
  some ([],60)
 else
  some (x30,0)
def kL (p0 : Int) (p1 : List Int) (p2 : Int) (x30 : List Ap) (x33 : aj) : Option (List Ap × Int) :=
 (ff p0 x30).bind fun r39=>
 if !x33.fOk then
  iZ x30 true
 else
  if r39.2 != 0 then
   iZ x30 true
  else
   if (x30.length:Int) != p2 then
    iZ x30 true
   else
    (gh r39.1 p1).bind fun r95=>
    iZ x30 (!r95)
def kM (p0:Int) (p1:List Int) (p2:Int) (x12:Bool):Option (List Ap×Int):=
 if x12 then
  some ([],61)
 else
  if decide (0<p2) then
   (bU (⟨p1,true⟩:aj) p0 p2).bind fun r107=>
   kL p0 p1 p2 r107.1 r107.2
  else
   kL p0 p1 p2 ([]) (⟨p1,true⟩:aj)
def kN (p0:Int) (p1:List Int) (p2:Int) (x5:Bool):Option (List Ap×Int):=
 if x5 then
  some ([],62)
 else
  if decide (p2<0) then
   kM p0 p1 p2 true
  else
   kM p0 p1 p2 (decide (64<p2))
def ld (p0:Int) (p1:List Int) (p2:Int):Option (List Ap×Int):=
 if decide (p0<0) then
  kN p0 p1 p2 true
 else
  kN p0 p1 p2 (decide (4<p0))
def ju (r5:bM×List Int×Bool) (r120:List Ap×Int) (x159:Bool):Option (List Ap×Int×Int):=
 if x159 then
  some ([],0,70)
 else
  some (r120.1,r5.1.fBytes,0)
def kO (p0 : List Int) : Option (List Ap × Int × Int) :=
 (jA p0).bind fun r5=>
 if !r5.2.2 then
  some ([],0,70)
 else
  (sub p0 0 (Z0.wrap (r5.1.fBytes - 4))).bind fun x39=>
  (jX x39).bind fun r43=>
  (kf r43).bind fun r50=>
  (sub p0 0 r5.1.fBytes).bind fun x58=>
  (gh r50 x58).bind fun r100=>
  if !r100 then
   some ([],0,71)
  else
   (ld r5.1.fKind r5.2.1 r5.1.fMany).bind fun r120=>
   if r120.2 != 0 then
    some ([],0,70)
   else
    (kJ r5.1.fKind r120.1).bind fun r146=>
    if r146.fNulls != r5.1.fNulls then
     ju r5 r120 true
    else
     if !decide (r146.fMin=r5.1.fMin) then
      ju r5 r120 true
     else
      ju r5 r120 (!decide (r146.fMax=r5.1.fMax))
def jU (p0:aa):Option aa:=
 (gX p0.fRow).bind fun r10=>
 some ({ p0 with fRow:=r10 })
def zY (x8:List Ap):Option (List Ap):=
 some x8
def mo (x16:List Ap) (x19:Int) (x50:Ap):Option ((List Ap×Int)⊕List Ap):=
 (app 3518437208883 x16 ([x50])).bind fun z61=>
 some (.inl (z61,Z0.wrap (x19+1)))
def mp (p1:List Ap) (x16:List Ap) (x19:Int) (x25:Int) (r33:Ap) (x46:Bool):Option ((List Ap×Int)⊕List Ap):=
 if x46 then
  (idx p1 x25).bind fun x73=>
  mo x16 x19 x73
 else
  mo x16 x19 r33
def pp (p0:List Int) (p1:List Ap) (x16:List Ap) (x19:Int):Option ((List Ap×Int)⊕List Ap):=
 if decide (x19<(p0.length:Int)) then
  (idx p0 x19).bind fun x25=>
  (kD).bind fun r33=>
  if decide (0≤x25) then
   mp p1 x16 x19 x25 r33 (decide (x25<(p1.length:Int)))
  else
   mp p1 x16 x19 x25 r33 false
 else
  (zY x16).map Sum.inr
def ly (p0:List Int) (p1:List Ap):Option (List Ap):=
 aq (fun s:(List Ap×Int)=>pp p0 p1 s.1 s.2) ([],0)
def u9 (p0:List Ap) (p1:List Ap):Option Int:=
 (il (p0.length:Int) (p1.length:Int)).bind fun r15=>
 some r15
def va (p0:List Ap) (p1:List Ap) (x25:Int):Option (Int⊕Int):=
 if decide (x25<(if (p1.length:Int)<(p0.length:Int) then (p1.length:Int) else (p0.length:Int))) then
  (idx p0 x25).bind fun x33=>
  (idx p1 x25).bind fun x37=>
  (cD x33 x37).bind fun r83=>
  if r83 != 0 then
   (some r83).map Sum.inr
  else
   some (.inl (Z0.wrap (x25+1)))
 else
  (u9 p0 p1).map Sum.inr
def oO (p0:List Ap) (p1:List Ap):Option Int:=
 aq (fun s:Int=>va p0 p1 s) 0
def kP (p0:Int):Option Bool:=
 some (p0 != p0)
def g8 (p0 : Int) (p1 : Int) : Option Int :=
 (kP p0).bind fun r3=>
 (kP p1).bind fun r11=>
 if r3 then
  if r11 then
   some 0
  else
   some (-1)
 else
  if r11 then
   some 1
  else
   if decide (p0<p1) then
    some (-1)
   else
    if decide (p1<p0) then
     some 1
    else
     some 0
def kQ (p0:Int):Option Bool:=
 some (p0 != p0)
def g9 (p0 : Int) (p1 : Int) : Option Int :=
 (kQ p0).bind fun r3=>
 (kQ p1).bind fun r11=>
 if r3 then
  if r11 then
   some 0
  else
   some (-1)
 else
  if r11 then
   some 1
  else
   if decide (p0<p1) then
    some (-1)
   else
    if decide (p1<p0) then
     some 1
    else
     some 0
def Bu:Option Int:=
 some 0
def gn (p0:List Int) (x13:Int):Option (Int⊕Int):=
 if decide (x13<(p0.length:Int)) then
  (idx p0 x13).bind fun x19=>
  if x19 != 0 then
   (some x19).map Sum.inr
  else
   some (.inl (Z0.wrap (x13+1)))
 else
  (Bu).map Sum.inr
def mq (p0:List Int):Option Int:=
 aq (fun s:Int=>gn p0 s) 0
def lf (p0:aK) (p1:aK):Option Int:=
 (g8 p0.fEpoch p1.fEpoch).bind fun r14=>
 (g9 p0.fNumber p1.fNumber).bind fun r78=>
 (mq ([r14,r78])).bind fun r89=>
 some r89
def eD (p0:aa) (p1:aa) (p2:List Int):Option Int:=
 (ly p2 p0.fRow).bind fun r12=>
 (ly p2 p1.fRow).bind fun r19=>
 (oO r12 r19).bind fun r24=>
 (lf p0.fId p1.fId).bind fun r94=>
 (mq ([r24,r94])).bind fun r105=>
 some r105
def cz (x6:Int) (x19:List aa):Option ((Int×List aa)⊕List aa):=
 some (.inl (Z0.wrap (x6+1),x19))
def aY (x6:Int) (x30:Int) (x32:List aa) (x39:Bool):Option ((Int×List aa)⊕((Int×List aa)⊕List aa)):=
 if x39 then
  (ix x32 (Z0.wrap (x30 - 1))).bind fun j42=>
  (x32[j42]?).bind fun x45=>
  (ix x32 x30).bind fun j47=>
  (x32[j47]?).bind fun x50=>
  (ix x32 x30).bind fun j52=>
  (x32[j52]?).bind fun x56=>
  (ix (x32.set j52 x45) (Z0.wrap (x30 - 1))).bind fun j134=>
  ((x32.set j52 x45)[j134]?).bind fun x139=>
  some (.inl (Z0.wrap (x30 - 1),((x32.set j52 x45).set j134 x50)))
 else
  (cz x6 x32).map Sum.inr
def aZ (p1:Int) (p3:(aa→aa→Option Int)) (x6:Int) (x30:Int) (x32:List aa):Option ((Int×List aa)⊕((Int×List aa)⊕List aa)):=
 if decide (p1<x30) then
  (ix x32 x30).bind fun j146=>
  (x32[j146]?).bind fun x149=>
  (ix x32 (Z0.wrap (x30 - 1))).bind fun j151=>
  (x32[j151]?).bind fun x154=>
  (p3 x149 x154).bind fun r249=>
  aY x6 x30 x32 (decide (r249<0))
 else
  aY x6 x30 x32 false
def bj (p1:Int) (p2:Int) (p3:(aa→aa→Option Int)) (x6:Int) (x8:List aa):Option ((Int×List aa)⊕List aa):=
 if decide (x6<p2) then
  aq (fun s:(Int×List aa)=>aZ p1 p3 x6 s.1 s.2) (x6,x8)
 else
  (some x8).map Sum.inr
def ci (p0:List aa) (p1:Int) (p2:Int) (p3:(aa→aa→Option Int)):Option (List aa):=
 aq (fun s:(Int×List aa)=>bj p1 p2 p3 s.1 s.2) (Z0.wrap (p1+1),p0)
def bE (p1:Int) (p2:Int) (p3:Int) (x4:Int) (x6:List aa):Option ((Int×List aa)⊕List aa):=
 if decide (x4<p3) then
  (ix x6 (Z0.wrap (p2+x4))).bind fun j15=>
  (x6[j15]?).bind fun x18=>
  (ix x6 (Z0.wrap (p1+x4))).bind fun j20=>
  (x6[j20]?).bind fun x23=>
  (ix x6 (Z0.wrap (p1+x4))).bind fun j25=>
  (x6[j25]?).bind fun x29=>
  (ix (x6.set j25 x18) (Z0.wrap (p2+x4))).bind fun j137=>
  ((x6.set j25 x18)[j137]?).bind fun x142=>
  some (.inl (Z0.wrap (x4+1),((x6.set j25 x18).set j137 x23)))
 else
  (some x6).map Sum.inr
def cg (p0:List aa) (p1:Int) (p2:Int) (p3:Int) (p4:(aa→aa→Option Int)):Option (List aa):=
 aq (fun s:(Int×List aa)=>bE p1 p2 p3 s.1 s.2) (0,p0)
def dX (p2:Int) (p4:(aa→aa→Option Int)) (x11:Int) (x13:List aa):Option (List aa):=
 (cg x13 (Z0.wrap (p2 - x11)) p2 x11 p4).bind fun r24=>
 some r24
def bB (p2:Int) (p4:(aa→aa→Option Int)) (x33:Int) (x35:Int) (x37:List aa):Option ((Int×Int×List aa)⊕List aa):=
 if x33 != x35 then
  if decide (x35<x33) then
   (cg x37 (Z0.wrap (p2 - x33)) p2 x35 p4).bind fun r57=>
   some (.inl (Z0.wrap (x33 - x35),x35,r57))
  else
   (cg x37 (Z0.wrap (p2 - x33)) (Z0.wrap ((Z0.wrap (p2+x35)) - x33)) x33 p4).bind fun r79=>
   some (.inl (x33,Z0.wrap (x35 - x33),r79))
 else
  (dX p2 p4 x33 x37).map Sum.inr
def cB (p0:List aa) (p1:Int) (p2:Int) (p3:Int) (p4:(aa→aa→Option Int)):Option (List aa):=
 aq (fun s:(Int×Int×List aa)=>bB p2 p4 s.1 s.2.1 s.2.2) (Z0.wrap (p2 - p1),Z0.wrap (p3 - p2),p0)
def dL (x19:List aa):Option (List aa):=
 some x19
def bH (x12:Int) (x25:Int) (x27:List aa):Option ((Int×List aa)⊕List aa):=
 if decide (x25<(Z0.wrap (x12 - 1))) then
  (ix x27 (Z0.wrap (x25+1))).bind fun j37=>
  (x27[j37]?).bind fun x40=>
  (ix x27 x25).bind fun j42=>
  (x27[j42]?).bind fun x45=>
  (ix x27 x25).bind fun j47=>
  (x27[j47]?).bind fun x51=>
  (ix (x27.set j47 x40) (Z0.wrap (x25+1))).bind fun j129=>
  ((x27.set j47 x40)[j129]?).bind fun x134=>
  some (.inl (Z0.wrap (x25+1),((x27.set j47 x40).set j129 x45)))
 else
  (dL x27).map Sum.inr
def cT (p0:List aa) (p1:Int) (x12:Int):Option (List aa):=
 aq (fun s:(Int×List aa)=>bH x12 s.1 s.2) (p1,p0)
def bX (p0:List aa) (p1:Int) (p4:(aa→aa→Option Int)) (x142:Int) (x144:Int):Option ((Int×Int)⊕List aa):=
 if decide (x142<x144) then
  (ix p0 (Z0.wrap (aD .u64 (Z2.wrap (Z0.wrap (x142+x144))) 1))).bind fun j159=>
  (p0[j159]?).bind fun x162=>
  (ix p0 p1).bind fun j164=>
  (p0[j164]?).bind fun x167=>
  (p4 x162 x167).bind fun r215=>
  if decide (r215<0) then
   some (.inl (Z0.wrap ((Z0.wrap (aD .u64 (Z2.wrap (Z0.wrap (x142+x144))) 1))+1),x144))
  else
   some (.inl (x142,Z0.wrap (aD .u64 (Z2.wrap (Z0.wrap (x142+x144))) 1)))
 else
  (cT p0 p1 x142).map Sum.inr
def dM (x247:List aa):Option (List aa):=
 some x247
def bI (x240:Int) (x253:Int) (x255:List aa):Option ((Int×List aa)⊕List aa):=
 if decide (x240<x253) then
  (ix x255 (Z0.wrap (x253 - 1))).bind fun j264=>
  (x255[j264]?).bind fun x267=>
  (ix x255 x253).bind fun j269=>
  (x255[j269]?).bind fun x272=>
  (ix x255 x253).bind fun j274=>
  (x255[j274]?).bind fun x278=>
  (ix (x255.set j274 x267) (Z0.wrap (x253 - 1))).bind fun j356=>
  ((x255.set j274 x267)[j356]?).bind fun x361=>
  some (.inl (Z0.wrap (x253 - 1),((x255.set j274 x267).set j356 x272)))
 else
  (dM x255).map Sum.inr
def cU (p0:List aa) (p2:Int) (x240:Int):Option (List aa):=
 aq (fun s:(Int×List aa)=>bI x240 s.1 s.2) (p2,p0)
def bY (p0:List aa) (p2:Int) (p4:(aa→aa→Option Int)) (x369:Int) (x371:Int):Option ((Int×Int)⊕List aa):=
 if decide (x369<x371) then
  (ix p0 p2).bind fun j386=>
  (p0[j386]?).bind fun x389=>
  (ix p0 (Z0.wrap (aD .u64 (Z2.wrap (Z0.wrap (x369+x371))) 1))).bind fun j391=>
  (p0[j391]?).bind fun x394=>
  (p4 x389 x394).bind fun r442=>
  if !(decide (r442<0)) then
   some (.inl (Z0.wrap ((Z0.wrap (aD .u64 (Z2.wrap (Z0.wrap (x369+x371))) 1))+1),x371))
  else
   some (.inl (x369,Z0.wrap (aD .u64 (Z2.wrap (Z0.wrap (x369+x371))) 1)))
 else
  (cU p0 p2 x369).map Sum.inr
def cL (p1:Int) (p2:Int) (p3:Int) (p4:(aa→aa→Option Int)) (self_:((List aa)→Int→Int→Int→(aa→aa→Option Int)→Option (List aa))) (x485:Int) (x508:List aa) (x514:Bool):Option (List aa):=
 if x514 then
  (self_ x508 (Z0.wrap (aD .u64 (Z2.wrap (Z0.wrap (p1+p3))) 1)) (Z0.wrap ((Z0.wrap ((Z0.wrap (aD .u64 (Z2.wrap (Z0.wrap (p1+p3))) 1))+p2)) - x485)) p3 p4).bind fun r522=>
  some r522
 else
  some x508
def cp (p1:Int) (p2:Int) (p3:Int) (p4:(aa→aa→Option Int)) (self_:((List aa)→Int→Int→Int→(aa→aa→Option Int)→Option (List aa))) (x485:Int) (x508:List aa):Option (List aa):=
 if decide ((Z0.wrap (aD .u64 (Z2.wrap (Z0.wrap (p1+p3))) 1))<(Z0.wrap ((Z0.wrap ((Z0.wrap (aD .u64 (Z2.wrap (Z0.wrap (p1+p3))) 1))+p2)) - x485))) then
  cL p1 p2 p3 p4 self_ x485 x508 (decide ((Z0.wrap ((Z0.wrap ((Z0.wrap (aD .u64 (Z2.wrap (Z0.wrap (p1+p3))) 1))+p2)) - x485))<p3))
 else
  cL p1 p2 p3 p4 self_ x485 x508 false
def cV (p1:Int) (p2:Int) (p3:Int) (p4:(aa→aa→Option Int)) (self_:((List aa)→Int→Int→Int→(aa→aa→Option Int)→Option (List aa))) (x485:Int) (x498:List aa) (x504:Bool):Option (List aa):=
 if x504 then
  (self_ x498 p1 x485 (Z0.wrap (aD .u64 (Z2.wrap (Z0.wrap (p1+p3))) 1)) p4).bind fun r545=>
  cp p1 p2 p3 p4 self_ x485 r545
 else
  cp p1 p2 p3 p4 self_ x485 x498
def ct (p1:Int) (p2:Int) (p3:Int) (p4:(aa→aa→Option Int)) (self_:((List aa)→Int→Int→Int→(aa→aa→Option Int)→Option (List aa))) (x485:Int) (x498:List aa):Option (List aa):=
 if decide (p1<x485) then
  cV p1 p2 p3 p4 self_ x485 x498 (decide (x485<(Z0.wrap (aD .u64 (Z2.wrap (Z0.wrap (p1+p3))) 1))))
 else
  cV p1 p2 p3 p4 self_ x485 x498 false
def cW (p0:List aa) (p1:Int) (p2:Int) (p3:Int) (p4:(aa→aa→Option Int)) (self_:((List aa)→Int→Int→Int→(aa→aa→Option Int)→Option (List aa))) (x485:Int) (x494:Bool):Option (List aa):=
 if x494 then
  (cB p0 x485 p2 (Z0.wrap ((Z0.wrap ((Z0.wrap (aD .u64 (Z2.wrap (Z0.wrap (p1+p3))) 1))+p2)) - x485)) p4).bind fun r568=>
  ct p1 p2 p3 p4 self_ x485 r568
 else
  ct p1 p2 p3 p4 self_ x485 p0
def cu (p0:List aa) (p1:Int) (p2:Int) (p3:Int) (p4:(aa→aa→Option Int)) (self_:((List aa)→Int→Int→Int→(aa→aa→Option Int)→Option (List aa))) (x485:Int):Option (List aa):=
 if decide (x485<p2) then
  cW p0 p1 p2 p3 p4 self_ x485 (decide (p2<(Z0.wrap ((Z0.wrap ((Z0.wrap (aD .u64 (Z2.wrap (Z0.wrap (p1+p3))) 1))+p2)) - x485))))
 else
  cW p0 p1 p2 p3 p4 self_ x485 false
def cw (p0:List aa) (p1:Int) (p2:Int) (p3:Int) (p4:(aa→aa→Option Int)) (self_:((List aa)→Int→Int→Int→(aa→aa→Option Int)→Option (List aa))) (x587:Int) (x589:Int):Option ((Int×Int)⊕List aa):=
 if decide (x587<x589) then
  (ix p0 (Z0.wrap ((Z0.wrap ((Z0.wrap ((Z0.wrap (aD .u64 (Z2.wrap (Z0.wrap (p1+p3))) 1))+p2)) - 1)) - (Z0.wrap (aD .u64 (Z2.wrap (Z0.wrap (x587+x589))) 1))))).bind fun j604=>
  (p0[j604]?).bind fun x607=>
  (ix p0 (Z0.wrap (aD .u64 (Z2.wrap (Z0.wrap (x587+x589))) 1))).bind fun j609=>
  (p0[j609]?).bind fun x612=>
  (p4 x607 x612).bind fun r670=>
  if !(decide (r670<0)) then
   some (.inl (Z0.wrap ((Z0.wrap (aD .u64 (Z2.wrap (Z0.wrap (x587+x589))) 1))+1),x589))
  else
   some (.inl (x587,Z0.wrap (aD .u64 (Z2.wrap (Z0.wrap (x587+x589))) 1)))
 else
  (cu p0 p1 p2 p3 p4 self_ x587).map Sum.inr
def cx (p0:List aa) (p1:Int) (p2:Int) (p3:Int) (p4:(aa→aa→Option Int)) (self_:((List aa)→Int→Int→Int→(aa→aa→Option Int)→Option (List aa))) (x475:Int) (x477:Int):Option (List aa):=
 aq (fun s:(Int×Int)=>cw p0 p1 p2 p3 p4 self_ s.1 s.2) (x475,x477)
def c8 (self_ : ((List aa) → Int → Int → Int → (aa → aa → Option Int) → Option (List aa))) (p0 : List aa) (p1 : Int) (p2 : Int) (p3 : Int) (p4 : (aa → aa → Option Int)) : Option (List aa) :=
 if (Z0.wrap (p2 - p1))==1 then
  aq (fun s:(Int×Int)=>bX p0 p1 p4 s.1 s.2) (p2,p3)
 else
  if (Z0.wrap (p3 - p2))==1 then
   aq (fun s:(Int×Int)=>bY p0 p2 p4 s.1 s.2) (p1,p2)
  else
   if decide ((Z0.wrap (aD .u64 (Z2.wrap (Z0.wrap (p1+p3))) 1))<p2) then
    cx p0 p1 p2 p3 p4 self_ (Z0.wrap ((Z0.wrap ((Z0.wrap (aD .u64 (Z2.wrap (Z0.wrap (p1+p3))) 1))+p2)) - p3)) (Z0.wrap (aD .u64 (Z2.wrap (Z0.wrap (p1+p3))) 1))
   else
    cx p0 p1 p2 p3 p4 self_ p1 p2
def c9:Nat→(List aa)→Int→Int→Int→(aa→aa→Option Int)→Option (List aa)
 |0=>fun _ _ _ _ _=>none
 |n+1=>c8 (c9 n)
def du (p0:List aa) (p1:Int) (p2:Int) (p3:Int) (p4:(aa→aa→Option Int)):Option (List aa):=c9 (p0.length+1) p0 p1 p2 p3 p4
def cE (x26:Int) (x58:List aa):Option ((Int×List aa)⊕List aa):=
 some (.inl (Z0.wrap (x26*2),x58))
def dm (p1:Int) (p2:(aa→aa→Option Int)) (x26:Int) (x43:Int) (x45:List aa):Option ((Int×List aa)⊕List aa):=
 if decide ((Z0.wrap (x43+x26))<p1) then
  (du x45 x43 (Z0.wrap (x43+x26)) p1 p2).bind fun r71=>
  cE x26 r71
 else
  cE x26 x45
def bR (p1:Int) (p2:(aa→aa→Option Int)) (x26:Int) (x80:Int) (x82:Int) (x84:List aa):Option ((Int×Int×List aa)⊕((Int×List aa)⊕List aa)):=
 if decide (x82≤p1) then
  (du x84 x80 (Z0.wrap (x80+x26)) x82 p2).bind fun r100=>
  some (.inl (x82,Z0.wrap (x82+(Z0.wrap (2*x26))),r100))
 else
  (dm p1 p2 x26 x80 x84).map Sum.inr
def bd (p1:Int) (p2:(aa→aa→Option Int)) (x26:Int) (x28:List aa):Option ((Int×List aa)⊕List aa):=
 if decide (x26<p1) then
  aq (fun s:(Int×Int×List aa)=>bR p1 p2 x26 s.1 s.2.1 s.2.2) (0,Z0.wrap (2*x26),x28)
 else
  (some x28).map Sum.inr
def dY (p1:Int) (p2:(aa→aa→Option Int)) (x7:Int) (x9:List aa):Option (List aa):=
 (ci x9 x7 p1 p2).bind fun r17=>
 aq (fun s:(Int×List aa)=>bd p1 p2 s.1 s.2) (20,r17)
def bC (p1:Int) (p2:(aa→aa→Option Int)) (x116:Int) (x118:Int) (x120:List aa):Option ((Int×Int×List aa)⊕List aa):=
 if decide (x118≤p1) then
  (ci x120 x116 x118 p2).bind fun r133=>
  some (.inl (x118,Z0.wrap (x118+20),r133))
 else
  (dY p1 p2 x116 x120).map Sum.inr
def eO (p0:List aa) (p1:Int) (p2:(aa→aa→Option Int)):Option (List aa):=
 aq (fun s:(Int×Int×List aa)=>bC p1 p2 s.1 s.2.1 s.2.2) (0,20,p0)
def dD (p0:List aa) (p1:(aa→aa→Option Int)):Option (List aa):=
 (eO p0 (p0.length:Int) p1).bind fun r5=>
 some r5
def iy (p0:List Int) (x12:List aa):Option (List aa):=
 (dD x12 (fun y0_ y1_=>eD y0_ y1_ p0)).bind fun r23=>
 some r23
def iz (p0:List Int) (p1:List aa) (x43:Int) (x45:List aa):Option ((Int×List aa)⊕List aa):=
 if decide (x43<(p1.length:Int)) then
  (idx p1 x43).bind fun x54=>
  (jU x54).bind fun r68=>
  (app 2932031007402 x45 ([r68])).bind fun z78=>
  some (.inl (Z0.wrap (x43+1),z78))
 else
  (iy p0 x45).map Sum.inr
def iN (p0:List Int) (p1:List aa):Option (List aa):=
 aq (fun s:(Int×List aa)=>iz p0 p1 s.1 s.2) (0,([]:List aa))
def Gz (x6:List Ap):Option (List Ap):=
 some x6
def sA (x14:List Ap) (x17:Int) (x39:Ap):Option ((List Ap×Int)⊕List Ap):=
 (app 3518437208883 x14 ([x39])).bind fun z50=>
 some (.inl (z50,Z0.wrap (x17+1)))
def sB (p0:List Int) (p1:List Ap) (x14:List Ap) (x17:Int) (x35:Bool):Option ((List Ap×Int)⊕List Ap):=
 if x35 then
  (idx p0 x17).bind fun x64=>
  (idx p1 x64).bind fun x71=>
  sA x14 x17 x71
 else
  sA x14 x17 (⟨0,false,0,[]⟩:Ap)
def vV (p0:List Int) (p1:List Ap) (x14:List Ap) (x17:Int):Option ((List Ap×Int)⊕List Ap):=
 if decide (x17<(p0.length:Int)) then
  (idx p0 x17).bind fun x82=>
  if decide (0≤x82) then
   (idx p0 x17).bind fun x94=>
   sB p0 p1 x14 x17 (decide (x94<(p1.length:Int)))
  else
   sB p0 p1 x14 x17 false
 else
  (Gz x14).map Sum.inr
def y3 (p0:List Int) (p1:List Ap):Option (List Ap):=
 aq (fun s:(List Ap×Int)=>vV p0 p1 s.1 s.2) ([],0)
def y4 (p0:List Ap) (p1:List Ap):Option Int:=
 if decide ((p0.length:Int)<(p1.length:Int)) then
  some (-1)
 else
  some 0
def y5 (p0 : List Ap) (p1 : List Ap) (x16 : Int) : Option (Int ⊕ Int) :=
 if decide (x16 < (p0.length : Int)) then
  if x16==(p1.length:Int) then
   (some 1).map Sum.inr
  else
   (idx p0 x16).bind fun x31=>
   (idx p1 x16).bind fun x35=>
   (jz x31 x35).bind fun r81=>
   if r81 != 0 then
    (some r81).map Sum.inr
   else
    some (.inl (Z0.wrap (x16+1)))
 else
  (y4 p0 p1).map Sum.inr
def zZ (p0:List Ap) (p1:List Ap):Option Int:=
 aq (fun s:Int=>y5 p0 p1 s) 0
def vW (p0:aK) (p1:aK):Option Bool:=
 if p0.fEpoch != p1.fEpoch then
  some (decide (p0.fEpoch<p1.fEpoch))
 else
  some (decide (p0.fNumber<p1.fNumber))
def vX (p0:List Int) (p1:aa) (p2:aa):Option Bool:=
 (y3 p0 p1.fRow).bind fun r11=>
 (y3 p0 p2.fRow).bind fun r53=>
 (zZ r11 r53).bind fun r59=>
 if r59 != 0 then
  some (decide (r59<0))
 else
  (vW p1.fId p2.fId).bind fun r79=>
  some r79
def CL (x6:List aa):Option (List aa):=
 some x6
def rC (x17:Int) (x28:List aa):Option ((List aa×Int)⊕List aa):=
 some (.inl (x28,Z0.wrap (x17+1)))
def oP (p1:List aa) (x14:List aa) (x17:Int) (x40:Int):Option ((List aa×Int)⊕List aa):=
 (sub x14 0 x40).bind fun x47=>
 (app 2932031007402 ([]) x47).bind fun z51=>
 (idx p1 x17).bind fun x61=>
 (app 2932031007402 z51 ([x61])).bind fun z71=>
 (sub x14 x40 x14.length).bind fun x81=>
 (app 2932031007402 z71 x81).bind fun z85=>
 rC x17 z85
def kp (p0:List Int) (p1:List aa) (x14:List aa) (x17:Int) (x96:Int):Option (Int⊕((List aa×Int)⊕List aa)):=
 if decide (0<x96) then
  (idx p1 x17).bind fun x103=>
  (idx x14 (Z0.wrap (x96 - 1))).bind fun x107=>
  (vX p0 x103 x107).bind fun r162=>
  if !r162 then
   (oP p1 x14 x17 x96).map Sum.inr
  else
   some (.inl (Z0.wrap (x96 - 1)))
 else
  (oP p1 x14 x17 x96).map Sum.inr
def vY (p0:List Int) (p1:List aa) (x14:List aa) (x17:Int):Option ((List aa×Int)⊕List aa):=
 if decide (x17<(p1.length:Int)) then
  aq (fun s:Int=>kp p0 p1 x14 x17 s) (x14.length:Int)
 else
  (CL x14).map Sum.inr
def vZ (p0:List Int) (p1:List aa):Option (List aa):=
 aq (fun s:(List aa×Int)=>vY p0 p1 s.1 s.2) ([],0)
def vi:Option Int:=
 some (-1)
def gw (p0:List Int) (p1:Int) (x11:Int):Option (Int⊕Int):=
 if decide (x11<(p0.length:Int)) then
  (idx p0 x11).bind fun x22=>
  if p1==x22 then
   (some x11).map Sum.inr
  else
   some (.inl (Z0.wrap (x11+1)))
 else
  (vi).map Sum.inr
def kR (p0:List Int) (p1:Int):Option Int:=
 aq (fun s:Int=>gw p0 p1 s) 0
def gy (p0:List Int) (p1:Int):Option Bool:=
 (kR p0 p1).bind fun r4=>
 some (decide (0≤r4))
def i6 (x20:Bool):Option Bool:=
 some x20
def i7 (p0 : Int) (p1 : aa) (x16 : Bool) : Option Bool :=
 if (p1.fRow.length : Int) == p0 then
  if decide (1≤p1.fId.fEpoch) then
   if decide (p1.fId.fEpoch≤9223372036854775807) then
    i6 (!x16)
   else
    i6 false
  else
   i6 false
 else
  i6 false
def kS (p0:Int) (p1:aa):Option Bool:=
 if p1.fDeleted != 0 then
  if decide (p1.fDeleted≤p1.fId.fEpoch) then
   i7 p0 p1 true
  else
   i7 p0 p1 (decide (9223372036854775807<p1.fDeleted))
 else
  i7 p0 p1 false
def kU (p0:Int) (p1:aa) (x98:Int):Option (Int⊕Bool):=
 if decide (x98<(p1.fRow.length:Int)) then
  (idx p1.fRow x98).bind fun x104=>
  (lr x104).bind fun r117=>
  if !r117 then
   (some false).map Sum.inr
  else
   some (.inl (Z0.wrap (x98+1)))
 else
  (kS p0 p1).map Sum.inr
def lg (p0:Int) (p1:aa):Option Bool:=
 aq (fun s:Int=>kU p0 p1 s) 0
def lZ (x29:List aK):Option Int:=
 some 0
def fA (x37:Int) (x39:List aK) (x47:aa) (x63:Bool):Option ((Int×List aK)⊕Int):=
 if x63 then
  (some 81).map Sum.inr
 else
  some (.inl (Z0.wrap (x37+1),(x47.fId::x39)))
def dv (p0:Int) (p2:List aa) (x37:Int) (x39:List aK):Option ((Int×List aK)⊕Int):=
 if decide (x37<(p2.length:Int)) then
  (idx p2 x37).bind fun x47=>
  (lg p0 x47).bind fun r72=>
  if !r72 then
   fA x37 x39 x47 true
  else
   fA x37 x39 x47 (decide (1<(jo (x47.fId::x39) x47.fId)))
 else
  (lZ x39).map Sum.inr
def eE (p0:Int) (p2:List aa):Option Int:=
 if decide (4096<(p2.length:Int)) then
  some 81
 else
  aq (fun s:(Int×List aK)=>dv p0 p2 s.1 s.2) (0,([]:List aK))
def eF (x91:Int) (x109:Bool):Option (Int⊕Int):=
 if x109 then
  (some 1).map Sum.inr
 else
  some (.inl (Z0.wrap (x91+1)))
def fC (p0 : Int) (p1 : List Int) (p2 : List aa) (x91 : Int) : Option (Int ⊕ Int) :=
 if decide (x91 < (p1.length : Int)) then
  (idx p1 x91).bind fun x98=>
  if decide (x98<0) then
   eF x91 true
  else
   if decide (p0≤x98) then
    eF x91 true
   else
    (sub p1 0 x91).bind fun x131=>
    (gy x131 x98).bind fun r136=>
    eF x91 r136
 else
  (eE p0 p2).map Sum.inr
def fD (p0:Int) (p1:List Int) (p2:List aa) (x4:Bool):Option Int:=
 if x4 then
  some 1
 else
  aq (fun s:Int=>fC p0 p1 p2 s) 0
def f7 (p0:Int) (p1:List Int) (p2:List aa):Option Int:=
 if decide (p0<1) then
  fD p0 p1 p2 true
 else
  fD p0 p1 p2 (decide (8<p0))
def i8 (p0:List Int) (p1:Int):Option (List Int):=
 (app 140737488355328 p0 ([Z4.wrap (aD .i64 p1 24),Z4.wrap (aD .i64 p1 16),Z4.wrap (aD .i64 p1 8),Z4.wrap p1])).bind fun z18=>
 some z18
def xn (x8:List Ap):Option (List Ap):=
 some x8
def gj (x19:Int) (x43:List Ap):Option ((List Ap×Int)⊕List Ap):=
 some (.inl (x43,Z0.wrap (x19+1)))
def mK (p0 : Int) (p1 : Int) (p2 : List aa) (x16 : List Ap) (x19 : Int) : Option ((List Ap × Int) ⊕ List Ap) :=
 if decide (x19 < (p2.length : Int)) then
  (idx p2 x19).bind fun x25=>
  if (Z0.wrap (p1 - p0))==0 then
   (ez (Z0.wrap x25.fId.fEpoch)).bind fun r57=>
   (app 3518437208883 x16 ([r57])).bind fun z67=>
   gj x19 z67
  else
   if (Z0.wrap (p1 - p0))==1 then
    (ez (Z0.wrap x25.fId.fNumber)).bind fun r84=>
    (app 3518437208883 x16 ([r84])).bind fun z94=>
    gj x19 z94
   else
    if (Z0.wrap (p1 - p0))==2 then
     (ez (Z0.wrap x25.fDeleted)).bind fun r110=>
     (app 3518437208883 x16 ([r110])).bind fun z120=>
     gj x19 z120
    else
     (idx x25.fRow p1).bind fun x132=>
     (app 3518437208883 x16 ([x132])).bind fun z142=>
     gj x19 z142
 else
  (xn x16).map Sum.inr
def kq (p0:Int) (p1:Int) (p2:List aa):Option (List Ap):=
 aq (fun s:(List Ap×Int)=>mK p0 p1 p2 s.1 s.2) ([],0)
def cK {σ:Type} (step:(σ→(List Ap)→Option (σ×Bool))) (p1:List Ap) (p2:Int) (x4:Int) (x6:σ):Option ((Int×σ)⊕σ):=
 if decide (x4<(p1.length:Int)) then
  (sub p1 x4 p1.length).bind fun x21=>
  (sub p1 x4 (Z0.wrap (x4+(if (x21.length:Int)<p2 then (x21.length:Int) else p2)))).bind fun x68=>
  (step x6 x68).bind fun r72=>
  if !r72.2 then
   (some r72.1).map Sum.inr
  else
   some (.inl (Z0.wrap (x4+p2),r72.1))
 else
  (some x6).map Sum.inr
def f8 {σ:Type} (step:(σ→(List Ap)→Option (σ×Bool))) (s0_:σ) (p1:List Ap) (p2:Int):Option σ:=
 aq (fun s:(Int×σ)=>cK step p1 p2 s.1 s.2) (0,s0_)
def fP (p1:List Ap) (p2:Int):Option (List (List Ap)):=
 f8 (fun (s:List (List Ap)) x=>some (s++[x],true)) [] p1 p2
def im (p0:List Ap) (p1:Int):Option (List (List Ap)):=
 (fP p0 p1).bind fun x23=>
 some x23
def hU (p0:List Ap) (p1:Int):Option (List (List Ap)):=
 if decide (p1<1) then
  none
 else
  im p0 p1
def qI (p0:Int) (p1:List Ap):Option Bool:=
 (ff p0 p1).bind fun r4=>
 some (r4.2==0)
def gk (x17:List Int) (x20:List Ap) (x44:Int):Option (List Int×Bool):=
 (mS x44 x20).bind fun r49=>
 (app 140737488355328 x17 r49.1).bind fun z67=>
 some (z67,true)
def eS (p0:Int) (x17:List Int) (x20:List Ap):Option (List Int×Bool):=
 (qI p0 x20).bind fun r35=>
 if !r35 then
  gk x17 x20 (-1)
 else
  gk x17 x20 p0
def kr (p0:Int) (p1:List Ap):Option (List Int):=
 (hU p1 64).bind fun r9=>
 (ew (fun (s:List Int) (x:List Ap)=>eS p0 s x) ([]:(List Int)) r9).bind fun y78=>
 if y78.2 then
  some y78.1
 else
  none
def i9 (x78:List Int):Option (List Int×Int):=
 (gZ x78).bind fun r84=>
 (i8 x78 (Z0.wrap r84)).bind fun r92=>
 some (r92,0)
def gG (p0:Int) (r22:List aa) (x102:List Int) (x105:Int) (x120:Int):Option ((List Int×Int)⊕(List Int×Int)):=
 (kq p0 x105 r22).bind fun r127=>
 (kr x120 r127).bind fun r133=>
 (i8 x102 (r133.length:Int)).bind fun r143=>
 (app 140737488355328 r143 r133).bind fun z150=>
 some (.inl (z150,Z0.wrap (x105+1)))
def fq (p0:Int) (p2:List Int) (r22:List aa) (x102:List Int) (x105:Int) (x116:Bool):Option ((List Int×Int)⊕(List Int×Int)):=
 if x116 then
  (idx p2 x105).bind fun x162=>
  gG p0 r22 x102 x105 x162
 else
  gG p0 r22 x102 x105 (-1)
def gH (p0:Int) (p2:List Int) (r22:List aa) (x102:List Int) (x105:Int):Option ((List Int×Int)⊕(List Int×Int)):=
 if decide (x105<(Z0.wrap (p0+3))) then
  if decide (x105<p0) then
   fq p0 p2 r22 x102 x105 (decide (x105<(p2.length:Int)))
  else
   fq p0 p2 r22 x102 x105 false
 else
  (i9 x102).map Sum.inr
def ja (p0:Int) (p2:List Int) (r22:List aa) (x59:List Int):Option (List Int×Int):=
 (i8 x59 (r22.length:Int)).bind fun r66=>
 aq (fun s:(List Int×Int)=>gH p0 p2 r22 s.1 s.2) (r66,0)
def jb (p0:Int) (p1:List Int) (p2:List Int) (r22:List aa) (x183:List Int) (x186:Int):Option ((List Int×Int)⊕(List Int×Int)):=
 if decide (x186<(p1.length:Int)) then
  (idx p1 x186).bind fun x192=>
  (app 140737488355328 x183 ([Z4.wrap x192])).bind fun z207=>
  some (.inl (z207,Z0.wrap (x186+1)))
 else
  (ja p0 p2 r22 x183).map Sum.inr
def fh (p0:Int) (p1:List Int) (p2:List Int) (p3:List aa):Option (List Int×Int):=
 (f7 p0 p1 p3).bind fun r6=>
 if r6 != 0 then
  some ([],r6)
 else
  (iN p1 p3).bind fun r22=>
  (app 140737488355328 ([72,65,89,49]) ([Z4.wrap p0,Z4.wrap (p1.length:Int)])).bind fun z47=>
  aq (fun s:(List Int×Int)=>jb p0 p1 p2 r22 s.1 s.2) (z47,0)
def d4 (p0:List Int):Option Int:=
 (idx p0 0).bind fun x2=>
 (idx p0 1).bind fun x7=>
 (idx p0 2).bind fun x12=>
 (idx p0 3).bind fun x17=>
 some (bOr .i64 (bOr .i64 (bOr .i64 (em .i64 (Z0.wrap x2) 24) (em .i64 (Z0.wrap x7) 16)) (em .i64 (Z0.wrap x12) 8)) (Z0.wrap x17))
def f9 (x63:az) (x85:Int) (x87:List Int) (x90:Bool):Option (Int×List Int×Bool×az):=
 some (x85,x87,x90,x63)
def iF (x29:Int) (x39:List Int) (x63:az):Option (Int×List Int×Bool×az):=
 (sub x39 (Z0.wrap x29) x39.length).bind fun x71=>
 (d4 x71).bind fun r75=>
 (sub x39 (Z0.wrap ((Z0.wrap x29)+4)) x39.length).bind fun x92=>
 (f7 x63.fColumns x63.fSort ([])).bind fun r98=>
 if r98==0 then
  f9 x63 r75 x92 (decide (r75≤4096))
 else
  f9 x63 r75 x92 false
def ga (x29:Int) (x39:List Int) (x55:List Int) (x305:Int) (x307:az):Option ((Int×az)⊕(Int×List Int×Bool×az)):=
 if decide (x305<(x55.length:Int)) then
  (idx x55 x305).bind fun x316=>
  (app 17592186044416 x307.fSort ([Z0.wrap x316])).bind fun z336=>
  some (.inl (Z0.wrap (x305+1),{ x307 with fSort:=z336 }))
 else
  (iF x29 x39 x307).map Sum.inr
def eP (p1:List Int) (x6:Bool):Option (Int×List Int×Bool×az):=
 if x6 then
  some (0,[],false,az.zero)
 else
  (idx p1 4).bind fun x14=>
  (idx p1 5).bind fun x29=>
  (sub p1 6 p1.length).bind fun x39=>
  if decide ((x39.length:Int)<(Z0.wrap ((Z0.wrap x29)+4))) then
   some (0,[],false,{ az.zero with fColumns:=Z0.wrap x14 })
  else
   (sub x39 0 (Z0.wrap x29)).bind fun x55=>
   aq (fun s:(Int×az)=>ga x29 x39 x55 s.1 s.2) (0,{ az.zero with fColumns:=Z0.wrap x14 })
def iA (p1:List Int):Option (Int×List Int×Bool×az):=
 if decide ((p1.length:Int)<6) then
  eP p1 true
 else
  (sub p1 0 4).bind fun x357=>
  (Lm x357).bind fun x361=>
  eP p1 (!decide (x361=(72,65,89,49)))
def jY (p1:Int) (x6:List Ap):Option (List Ap×Bool):=
 some (x6,(x6.length:Int)==p1)
def iB (x19:List Int) (x22:List Ap) (r32:List Ap×Int×Int) (x54:Bool):Option ((List Int×List Ap)⊕(List Ap×Bool)):=
 if x54 then
  (some ([],false)).map Sum.inr
 else
  (app 3518437208883 x22 r32.1).bind fun z59=>
  (sub x19 r32.2.1 x19.length).bind fun x65=>
  some (.inl (x65,z59))
def iC (p1:Int) (x19:List Int) (x22:List Ap):Option ((List Int×List Ap)⊕(List Ap×Bool)):=
 if decide (0<(x19.length:Int)) then
  (kO x19).bind fun r32=>
  if r32.2.2 != 0 then
   iB x19 x22 r32 true
  else
   iB x19 x22 r32 ((r32.1.length:Int) != (if (Z0.wrap (p1 - (x22.length:Int)))<64 then Z0.wrap (p1 - (x22.length:Int)) else 64))
 else
  (jY p1 x22).map Sum.inr
def iO (p0:List Int) (p1:Int):Option (List Ap×Bool):=
 aq (fun s:(List Int×List Ap)=>iC p1 s.1 s.2) (p0,[])
def iG (x7:List aa):Option (Bool×List aa):=
 some (true,x7)
def dw (x14:Int) (x64:List aa):Option ((Int×List aa)⊕(Bool×List aa)):=
 some (.inl (Z0.wrap (x14+1),x64))
def dS (p0 : az) (p1 : Int) (x14 : Int) (x16 : List aa) (x24 : Ap) (j42 : Nat) (x48 : Bool) : Option ((Int × List aa) ⊕ (Bool × List aa)) :=
 if x48 then
  (some (false,x16)).map Sum.inr
 else
  if (Z0.wrap (p1 - p0.fColumns))==0 then
   (x16[j42]?).bind fun x82=>
   dw x14 (x16.set j42 ({ x82 with fId:={ x82.fId with fEpoch:=Z2.wrap x24.fInt } }))
  else
   if (Z0.wrap (p1 - p0.fColumns))==1 then
    if decide (4294967295<x24.fInt) then
     (some (false,x16)).map Sum.inr
    else
     (x16[j42]?).bind fun x106=>
     dw x14 (x16.set j42 ({ x106 with fId:={ x106.fId with fNumber:=Zy.wrap x24.fInt } }))
   else
    if (Z0.wrap (p1 - p0.fColumns))==2 then
     (x16[j42]?).bind fun x122=>
     dw x14 (x16.set j42 ({ x122 with fDeleted:=Z2.wrap x24.fInt }))
    else
     (x16[j42]?).bind fun x126=>
     (app 3518437208883 x126.fRow ([x24])).bind fun z132=>
     (x16[j42]?).bind fun x182=>
     dw x14 (x16.set j42 ({ x182 with fRow:=z132 }))
def dT (p0 : az) (p1 : Int) (p2 : List Ap) (x14 : Int) (x16 : List aa) : Option ((Int × List aa) ⊕ (Bool × List aa)) :=
 if decide (x14 < (p2.length : Int)) then
  (idx p2 x14).bind fun x24=>
  (ix x16 x14).bind fun j42=>
  if decide (p0.fColumns≤p1) then
   if x24.fKind != 2 then
    dS p0 p1 x14 x16 x24 j42 true
   else
    dS p0 p1 x14 x16 x24 j42 (decide (x24.fInt<0))
  else
   dS p0 p1 x14 x16 x24 j42 false
 else
  (iG x16).map Sum.inr
def iD (p0:az) (pA:List aa) (p1:Int) (p2:List Ap):Option (Bool×List aa):=
 aq (fun s:(Int×List aa)=>dT p0 p1 p2 s.1 s.2) (0,pA)
def qf:Option Bool:=
 some true
def hZ (p0:List aa) (p1:List aa) (p2:(aa→aa→Option Bool)) (x18:Int):Option (Int⊕Bool):=
 if decide (x18<(p0.length:Int)) then
  (idx p0 x18).bind fun x25=>
  (idx p1 x18).bind fun x39=>
  (p2 x25 x39).bind fun r55=>
  if !r55 then
   (some false).map Sum.inr
  else
   some (.inl (Z0.wrap (x18+1)))
 else
  (qf).map Sum.inr
def eG (p0:List aa) (p1:List aa) (p2:(aa→aa→Option Bool)):Option Bool:=
 if (p0.length:Int) != (p1.length:Int) then
  some false
 else
  aq (fun s:Int=>hZ p0 p1 p2 s) 0
def et (p0:aa) (p1:aa):Option Bool:=
 some (decide (p0.fId=p1.fId))
def gA (p0:(Option az)):Option Bool:=
 (p0).bind fun x2=>
 (p0).bind fun x7=>
 (iN x2.fSort x7.fL).bind fun r52=>
 (p0).bind fun x61=>
 (eG r52 x61.fL et).bind fun r69=>
 some r69
def jB (r24:Int×List Int×Bool×az) (x79:List aa) (x92:Bool):Option ((Option az)×Int):=
 if x92 then
  some ((none:(Option az)),80)
 else
  some ((some ({ r24.2.2.2 with fL:=x79 })),0)
def lN (r24:Int×List Int×Bool×az) (x75:List Int) (x79:List aa):Option ((Option az)×Int):=
 if decide (0<(x75.length:Int)) then
  jB r24 x79 true
 else
  ((some ({ r24.2.2.2 with fL:=x79 }))).bind fun x138=>
  ((some ({ r24.2.2.2 with fL:=x79 }))).bind fun x144=>
  ((some ({ r24.2.2.2 with fL:=x79 }))).bind fun x149=>
  (f7 x138.fColumns x144.fSort x149.fL).bind fun r229=>
  if r229 != 0 then
   jB r24 x79 true
  else
   (gA (some ({ r24.2.2.2 with fL:=x79 }))).bind fun r242=>
   jB r24 x79 (!r242)
def jC (x252:List Int) (x255:Int) (r275:Int) (x307:Bool) (x309:List aa):Option ((List Int×Int×List aa)⊕((Option az)×Int)):=
 if x307 then
  (some ((none:(Option az)),80)).map Sum.inr
 else
  (sub x252 (Z0.wrap (4+r275)) x252.length).bind fun x319=>
  some (.inl (x319,Z0.wrap (x255+1),x309))
def jD (r24:Int×List Int×Bool×az) (x252:List Int) (x255:Int) (x258:List aa) (x269:Bool):Option ((List Int×Int×List aa)⊕((Option az)×Int)):=
 if x269 then
  (some ((none:(Option az)),80)).map Sum.inr
 else
  (d4 x252).bind fun r275=>
  (sub x252 4 (Z0.wrap (4+r275))).bind fun x286=>
  (iO x286 r24.1).bind fun r291=>
  if !r291.2 then
   jC x252 x255 r275 true x258
  else
   (iD r24.2.2.2 x258 x255 r291.1).bind fun r334=>
   jC x252 x255 r275 (!r334.1) r334.2
def gc (r24:Int×List Int×Bool×az) (x252:List Int) (x255:Int) (x258:List aa):Option ((List Int×Int×List aa)⊕((Option az)×Int)):=
 if decide (x255<(Z0.wrap (r24.2.2.2.fColumns+3))) then
  if decide ((x252.length:Int)<4) then
   jD r24 x252 x255 x258 true
  else
   (d4 x252).bind fun r354=>
   jD r24 x252 x255 x258 (decide ((x252.length:Int)<(Z0.wrap (4+r354))))
 else
  (lN r24 x252 x258).map Sum.inr
def jE (p0:List Int) (x10:Bool):Option ((Option az)×Int):=
 if x10 then
  some ((none:(Option az)),80)
 else
  (sub p0 0 (Z0.wrap ((p0.length:Int) - 4))).bind fun x20=>
  (iA x20).bind fun r24=>
  if !r24.2.2.1 then
   some ((none:(Option az)),80)
  else
   (mk 5864062014805 r24.1 aa.zero).bind fun z52=>
   aq (fun s:(List Int×Int×List aa)=>gc r24 s.1 s.2.1 s.2.2) (r24.2.1,0,z52)
def fc (p0:List Int):Option ((Option az)×Int):=
 if decide ((p0.length:Int)<4) then
  jE p0 true
 else
  (sub p0 (Z0.wrap ((p0.length:Int) - 4)) p0.length).bind fun x397=>
  (d4 x397).bind fun r400=>
  (sub p0 0 (Z0.wrap ((p0.length:Int) - 4))).bind fun x406=>
  (gZ x406).bind fun r484=>
  jE p0 (r400 != (Z0.wrap r484))
def da (p0:aa) (p1:aK):Option Bool:=
 some (decide (p0.fId=p1))
def qg:Option Int:=
 some (-1)
def dO (p0:List aa) (p1:(aa→Option Bool)) (x11:Int):Option (Int⊕Int):=
 if decide (x11<(p0.length:Int)) then
  (idx p0 x11).bind fun x22=>
  (p1 x22).bind fun r28=>
  if r28 then
   (some x11).map Sum.inr
  else
   some (.inl (Z0.wrap (x11+1)))
 else
  (qg).map Sum.inr
def eH (p0:List aa) (p1:(aa→Option Bool)):Option Int:=
 aq (fun s:Int=>dO p0 p1 s) 0
def eT (p0:(Option az)) (p1:aK):Option (Int×Bool):=
 (p0).bind fun x8=>
 (eH x8.fL (fun y0_=>da y0_ p1)).bind fun r20=>
 some ((if r20<0 then 0 else r20),decide (0≤r20))
def nU (p0:(Option az)):Option Int:=
 (p0).bind fun x3=>
 some (x3.fL.length:Int)
def nh (x87:Bool):Option Bool:=
 some x87
def lz (r46 : ((Option az) × Int)) (x63 : Bool) : Option Bool :=
 if x63 then
  some false
 else
  (eT r46.1 (⟨1,0⟩:aK)).bind fun r70=>
  (nU r46.1).bind fun r90=>
  if r90==2 then
   if r70.1==1 then
    nh r70.2
   else
    nh false
  else
   nh false
def pq:Option Bool:=
 (fh 1 ([0]) ([]) ([(⟨(⟨1,0⟩:aK),[(⟨2,false,2,[]⟩:Ap)],0⟩:aa),(⟨(⟨2,0⟩:aK),[(⟨2,false,1,[]⟩:Ap)],0⟩:aa)])).bind fun r30=>
 (fc r30.1).bind fun r46=>
 if r30.2 != 0 then
  lz r46 true
 else
  if r46.2 != 0 then
   lz r46 true
  else
   lz r46 r46.1.isNone
def Bv:Option Int:=
 some 0
def vb (x24:Int):Option (Int⊕Int):=
 some (.inl (Z0.wrap (x24+1)))
def nG (p2:List aa) (x24:Int) (x41:aa) (x65:Int):Option (Int⊕(Int⊕Int)):=
 if decide (x65<x24) then
  (idx p2 x65).bind fun x73=>
  if decide (x73.fId=x41.fId) then
   ((some 81).map Sum.inr).map Sum.inr
  else
   some (.inl (Z0.wrap (x65+1)))
 else
  (vb x24).map Sum.inr
def lh (p2:List aa) (x24:Int) (x41:aa):Option (Int⊕Int):=
 aq (fun s:Int=>nG p2 x24 x41 s) 0
def nH (p2:List aa) (x24:Int) (x41:aa) (x125:Int):Option (Int⊕(Int⊕Int)):=
 if decide (x125<(x41.fRow.length:Int)) then
  (idx x41.fRow x125).bind fun x140=>
  (up x140).bind fun r146=>
  if !r146 then
   ((some 81).map Sum.inr).map Sum.inr
  else
   some (.inl (Z0.wrap (x125+1)))
 else
  (lh p2 x24 x41).map Sum.inr
def gp (p2:List aa) (x24:Int) (x41:aa) (x54:Bool):Option (Int⊕Int):=
 if x54 then
  (some 81).map Sum.inr
 else
  aq (fun s:Int=>nH p2 x24 x41 s) 0
def nI (p0 : Int) (p2 : List aa) (x24 : Int) : Option (Int ⊕ Int) :=
 if decide (x24 < (p2.length : Int)) then
  (idx p2 x24).bind fun x41=>
  if (x41.fRow.length:Int) != p0 then
   gp p2 x24 x41 true
  else
   if x41.fId.fEpoch==0 then
    gp p2 x24 x41 true
   else
    if decide (9223372036854775807<x41.fId.fEpoch) then
     gp p2 x24 x41 true
    else
     if decide (9223372036854775807<x41.fDeleted) then
      gp p2 x24 x41 true
     else
      if x41.fDeleted != 0 then
       gp p2 x24 x41 (decide (x41.fDeleted≤x41.fId.fEpoch))
      else
       gp p2 x24 x41 false
 else
  (Bv).map Sum.inr
def lj (p0:Int) (p2:List aa):Option Int:=
 if decide (4096<(p2.length:Int)) then
  some 81
 else
  aq (fun s:Int=>nI p0 p2 s) 0
def vc (x233:Int):Option (Int⊕Int):=
 some (.inl (Z0.wrap (x233+1)))
def nJ (p1:List Int) (x233:Int) (x257:Int):Option (Int⊕(Int⊕Int)):=
 if decide (x257<x233) then
  (idx p1 x257).bind fun x265=>
  (idx p1 x233).bind fun x270=>
  if x265==x270 then
   ((some 1).map Sum.inr).map Sum.inr
  else
   some (.inl (Z0.wrap (x257+1)))
 else
  (vc x233).map Sum.inr
def nK (p1:List Int) (x233:Int) (x250:Bool):Option (Int⊕Int):=
 if x250 then
  (some 1).map Sum.inr
 else
  aq (fun s:Int=>nJ p1 x233 s) 0
def nL (p0:Int) (p1:List Int) (p2:List aa) (x233:Int):Option (Int⊕Int):=
 if decide (x233<(p1.length:Int)) then
  (idx p1 x233).bind fun x329=>
  if decide (x329<0) then
   nK p1 x233 true
  else
   (idx p1 x233).bind fun x342=>
   nK p1 x233 (decide (p0≤x342))
 else
  (lj p0 p2).map Sum.inr
def nM (p0:Int) (p1:List Int) (p2:List aa) (x4:Bool):Option Int:=
 if x4 then
  some 1
 else
  aq (fun s:Int=>nL p0 p1 p2 s) 0
def uz (p0:Int) (p1:List Int) (p2:List aa):Option Int:=
 if decide (p0<1) then
  nM p0 p1 p2 true
 else
  nM p0 p1 p2 (decide (8<p0))
def CM (x6:List Ap):Option (List Ap):=
 some x6
def kt (x17:Int) (x31:List Ap):Option ((List Ap×Int)⊕List Ap):=
 some (.inl (x31,Z0.wrap (x17+1)))
def rD (p0 : Int) (p1 : Int) (p2 : List aa) (x14 : List Ap) (x17 : Int) : Option ((List Ap × Int) ⊕ List Ap) :=
 if decide (x17 < (p2.length : Int)) then
  if decide (p1<p0) then
   (idx p2 x17).bind fun x42=>
   (idx x42.fRow p1).bind fun x52=>
   (app 3518437208883 x14 ([x52])).bind fun z62=>
   kt x17 z62
  else
   if p1==p0 then
    (idx p2 x17).bind fun x76=>
    (app 3518437208883 x14 ([(⟨2,false,Z0.wrap x76.fId.fEpoch,[]⟩:Ap)])).bind fun z96=>
    kt x17 z96
   else
    if p1==(Z0.wrap (p0+1)) then
     (idx p2 x17).bind fun x111=>
     (app 3518437208883 x14 ([(⟨2,false,Z0.wrap x111.fId.fNumber,[]⟩:Ap)])).bind fun z131=>
     kt x17 z131
    else
     (idx p2 x17).bind fun x141=>
     (app 3518437208883 x14 ([(⟨2,false,Z0.wrap x141.fDeleted,[]⟩:Ap)])).bind fun z158=>
     kt x17 z158
 else
  (CM x14).map Sum.inr
def wa (p0:Int) (p1:Int) (p2:List aa):Option (List Ap):=
 aq (fun s:(List Ap×Int)=>rD p0 p1 p2 s.1 s.2) ([],0)
def CN (x6:List Int):Option (List Int):=
 some x6
def oQ (x14:List Int) (x17:Int) (x33:List Ap) (x61:Int):Option ((List Int×Int)⊕List Int):=
 (yg x61 x33).bind fun r66=>
 (app 140737488355328 x14 r66.1).bind fun z83=>
 some (.inl (z83,Z0.wrap (x17+64)))
def rE (p0:Int) (p1:List Ap) (x14:List Int) (x17:Int):Option ((List Int×Int)⊕List Int):=
 if decide (x17<(p1.length:Int)) then
  (sub p1 x17 (if (p1.length:Int)<(Z0.wrap (x17+64)) then (p1.length:Int) else Z0.wrap (x17+64))).bind fun x33=>
  (qe p0 x33).bind fun r42=>
  if r42.2 != 0 then
   oQ x14 x17 x33 (-1)
  else
   oQ x14 x17 x33 p0
 else
  (CN x14).map Sum.inr
def wb (p0:Int) (p1:List Ap):Option (List Int):=
 aq (fun s:(List Int×Int)=>rE p0 p1 s.1 s.2) ([],0)
def th (x66:List Int):Option (List Int×Int):=
 (y2 x66).bind fun r72=>
 (n9 (Z2.wrap r72) 4).bind fun r80=>
 (app 140737488355328 x66 r80).bind fun z86=>
 some (z86,0)
def pU (p0:Int) (r22:List aa) (x96:List Int) (x99:Int) (x115:Int):Option ((List Int×Int)⊕(List Int×Int)):=
 (wa p0 x99 r22).bind fun r122=>
 (wb x115 r122).bind fun r128=>
 (n9 (Z2.wrap (r128.length:Int)) 4).bind fun r139=>
 (app 140737488355328 x96 r139).bind fun z145=>
 (app 140737488355328 z145 r128).bind fun z154=>
 some (.inl (z154,Z0.wrap (x99+1)))
def ni (p0:Int) (p2:List Int) (r22:List aa) (x96:List Int) (x99:Int) (x111:Bool):Option ((List Int×Int)⊕(List Int×Int)):=
 if x111 then
  (idx p2 x99).bind fun x167=>
  pU p0 r22 x96 x99 x167
 else
  pU p0 r22 x96 x99 (-1)
def pV (p0:Int) (p2:List Int) (r22:List aa) (x96:List Int) (x99:Int):Option ((List Int×Int)⊕(List Int×Int)):=
 if decide (x99<(Z0.wrap (p0+3))) then
  if decide (x99<p0) then
   ni p0 p2 r22 x96 x99 (decide (x99<(p2.length:Int)))
  else
   ni p0 p2 r22 x96 x99 false
 else
  (th x96).map Sum.inr
def tj (p0:Int) (p2:List Int) (p3:List aa) (r22:List aa) (x42:List Int):Option (List Int×Int):=
 (n9 (Z2.wrap (p3.length:Int)) 4).bind fun r50=>
 (app 140737488355328 x42 r50).bind fun z56=>
 aq (fun s:(List Int×Int)=>pV p0 p2 r22 s.1 s.2) (z56,0)
def tl (p0:Int) (p1:List Int) (p2:List Int) (p3:List aa) (r22:List aa) (x188:List Int) (x191:Int):Option ((List Int×Int)⊕(List Int×Int)):=
 if decide (x191<(p1.length:Int)) then
  (idx p1 x191).bind fun x203=>
  (app 140737488355328 x188 ([Z4.wrap x203])).bind fun z215=>
  some (.inl (z215,Z0.wrap (x191+1)))
 else
  (tj p0 p2 p3 r22 x188).map Sum.inr
def yh (p0:Int) (p1:List Int) (p2:List Int) (p3:List aa):Option (List Int×Int):=
 (uz p0 p1 p3).bind fun r6=>
 if r6 != 0 then
  some ([],r6)
 else
  (vZ p1 p3).bind fun r22=>
  aq (fun s:(List Int×Int)=>tl p0 p1 p2 p3 r22 s.1 s.2) ([72,65,89,49,Z4.wrap p0,Z4.wrap (p1.length:Int)],0)
def cI {σ:Type} (step:(σ→aa→Option (σ×Bool))) (x9:List aa) (x61:Int) (x63:σ):Option ((Int×σ)⊕σ):=
 if decide (x61<(x9.length:Int)) then
  (idx x9 x61).bind fun x71=>
  (jU x71).bind fun r85=>
  (step x63 r85).bind fun r91=>
  if !r91.2 then
   (some r91.1).map Sum.inr
  else
   some (.inl (Z0.wrap (x61+1),r91.1))
 else
  (some x63).map Sum.inr
def dJ {σ:Type} (step:(σ→aa→Option (σ×Bool))) (s0_:σ) (p1:(Option az)) (p2:Int):Option σ:=
 (p1).bind fun x2=>
 (sub x2.fL p2 x2.fL.length).bind fun x9=>
 aq (fun s:(Int×σ)=>cI step x9 s.1 s.2) (0,s0_)
def dU (p1:(Option az)) (p2:Int):Option (List aa):=
 dJ (fun (s:List aa) x=>some (s++[x],true)) [] p1 p2
def gB (p0:(Option az)) (p1:Int):Option (List aa):=
 (dU p0 p1).bind fun x16=>
 some x16
def jd (p0:(Option az)):Option (List aa):=
 (gB p0 0).bind fun r3=>
 some r3
structure Iy where
 fColumn:Int
 fOp:Int
 fValue:Ap
 deriving DecidableEq
def Iy.zero:Iy:=⟨0,0,Ap.zero⟩
end
theorem Fe {σ β:Type} {f:σ→Option (σ⊕β)} {n:Nat} {s:σ} {b:β} (h:ii f n s=some b): ∃k,n=k+1∧((f s=some (.inr b))∨ ∃s',f s=some (.inl s')∧ii f k s'=some b):=by
 cases n with
 |zero=>cases h
 | succ k =>
  rw [ii] at h;cases hf:f s with
  |none=>rw [hf] at h;cases h
  |some r=>
   rw [hf] at h;cases r with
   |inl s'=>exact ⟨k,rfl,.inr ⟨s',rfl,h⟩⟩
   |inr b'=>injection h with h;subst h;exact ⟨k,rfl,.inl rfl⟩
abbrev Ff {α:Type}:List α→α→Option (List α×Bool):=fun s x=>some (s++[x],true)
theorem CO {ι σ α : Type} {step : σ → α → Option (σ × Bool)} {s : σ} {xs : List α} {r : σ × Bool} (F : {τ : Type} → (τ → α → Option (τ × Bool)) → ι → τ → Option ((ι × τ) ⊕ τ)) (c : ι → Bool) (el : ι → Option α) (nx : ι → ι)
  (hF: ∀{τ:Type} (st:τ→α→Option (τ×Bool)) i s,F st i s=if c i then (el i).bind fun x=>(st s x).bind fun r=>if !r.2 then (some r.1).map Sum.inr else some (.inl (nx i,r.1)) else (some s).map Sum.inr)
  {i0:ι} (h:aq (fun s:ι×List α=>F Ff s.1 s.2) (i0,[])=some xs) (hf:ew step s xs=some r):aq (fun s:ι×σ=>F step s.1 s.2) (i0,s)=some r.1:=by
 have key : ∀ (k : Nat) (i : ι) (acc : List α) (out : List α), ii (fun s : ι × List α => F Ff s.1 s.2) k (i, acc) = some out → ∃ ys, out = acc ++ ys ∧ ∀ (s : σ) r, ew step s ys = some r → aq (fun s : ι × σ => F step s.1 s.2) (i, s) = some r.1 := by
  intro k
  induction k with
  |zero=>intro i acc out h;cases h
  | succ k ih =>
   intro i acc out h;obtain ⟨k',hk,g⟩:=Fe h;obtain rfl:k'=k:=by omega
   clear h;have h:=g;clear g;rcases h with h|⟨s',h1,h2⟩
   ·have h:F Ff i acc=some (.inr out):=h
    rw [hF] at h
    by_cases hc:c i=true
    ·rw [if_pos hc] at h
     cases hx:el i with
     |none=>rw [hx] at h;cases h
     |some x=>rw [hx] at h;simp at h
    ·rw [if_neg hc] at h
     simp only [Option.map_some,Option.some.injEq,Sum.inr.injEq] at h;subst h;refine ⟨[],by simp,fun s r hf=> ?_⟩;simp only [ew,Option.some.injEq] at hf;subst hf;refine a7 ?_;show F step i s=_;rw [hF,if_neg hc];rfl
   ·have h1 : F Ff i acc = some (.inl s') := h1
    rw [hF] at h1
    by_cases hc:c i=true
    ·rw [if_pos hc] at h1
     cases hx:el i with
     |none=>rw [hx] at h1;cases h1
     | some x =>
      rw [hx] at h1;simp only [Z1,Bool.not_true,Zm,if_false,Option.some.injEq,Sum.inl.injEq] at h1;subst h1;obtain ⟨ys,e,hall⟩:=ih _ _ _ h2;refine ⟨x::ys,by rw [e];simp,fun s r hf=> ?_⟩;simp only [ew] at hf;cases hst:step s x with
      |none=>rw [hst] at hf;cases hf
      | some q =>
       rw [hst] at hf;simp only [Z1] at hf;cases hq:q.2 with
       | true =>
        rw [hq] at hf;simp only [if_true] at hf;rw [bO (s':=(nx i,q.1))]
        ·exact hall _ _ hf
        ·show F step i s=_
         rw [hF,if_pos hc,hx,Z1,hst,Z1,hq];rfl
       |false=>
        rw [hq] at hf;simp only [Zm,if_false,Option.some.injEq] at hf;subst hf;refine a7 ?_;show F step i s=_;rw [hF,if_pos hc,hx,Z1,hst,Z1,hq];rfl
    ·rw [if_neg hc] at h1
     cases h1
 obtain ⟨k,hk⟩:=FY.1 h;obtain ⟨ys,e,hall⟩:=key k _ _ _ hk;simp only [List.nil_append] at e;subst e;exact hall _ _ hf
theorem qJ {σ:Type} {step:σ→List Ap→Option (σ×Bool)} {s:σ} {xs:List (List Ap)} {p1:List Ap} {p2:Int} {r:σ×Bool} (h:fP p1 p2=some xs) (hf:ew step s xs=some r):f8 step s p1 p2=some r.1:=by
 refine CO (fun {τ} st i s=>cK st p1 p2 i s) (fun i=>decide (i<(p1.length:Int))) (fun i=>(sub p1 i p1.length).bind fun x21=>sub p1 i (Z0.wrap (i+(if (x21.length:Int)<p2 then (x21.length:Int) else p2)))) (fun i=>Z0.wrap (i+p2)) (fun st i s=> ?_) h hf;simp only [cK,Option.bind_assoc]
theorem qq {σ:Type} {step:σ→aa→Option (σ×Bool)} {s:σ} {xs:List aa} {p1:Option az} {p2:Int} {r:σ×Bool} (h:dU p1 p2=some xs) (hf:ew step s xs=some r):dJ step s p1 p2=some r.1:=by
 unfold dU dJ at h;unfold dJ;cases p1 with
 |none=>cases h
 | some f =>
  simp only [Z1] at h ⊢;cases hs:sub f.fL p2 (f.fL.length:Int) with
  |none=>rw [hs] at h;cases h
  |some l=>
   rw [hs] at h;simp only [Z1] at h ⊢;refine CO (fun {τ} st i s=>cI st l i s) (fun i=>decide (i<(l.length:Int))) (fun i=>(idx l i).bind fun x=>jU x) (fun i=>Z0.wrap (i+1)) (fun st i s=> ?_) h hf;simp only [cI,Option.bind_assoc]
theorem gq {σ β:Type} {f:σ→Option (σ⊕β)} (I:σ→Prop) (μ:σ→Nat) (Q:β→Prop)
  (step: ∀s,I s→(∃s',f s=some (.inl s')∧I s'∧μ s'<μ s)∨ ∃b,f s=some (.inr b)∧Q b) {s:σ} (h:I s): ∃b,aq f s=some b∧Q b:=by
 generalize hn:μ s=n
 induction n using Nat.strongRecOn generalizing s with
 | _ n ih =>
  rcases step s h with ⟨s',h1,h2,h3⟩|⟨b,h1,h2⟩
  ·obtain ⟨b,h4,h5⟩:=ih (μ s') (by omega) h2 rfl
   exact ⟨b,by rw [bO h1];exact h4,h5⟩
  ·exact ⟨b,a7 h1,h2⟩
theorem oa {σ β:Type} {f:σ→Option (σ⊕β)} (I:σ→Prop) (μ:σ→Nat) {b:β}
  (step: ∀s,I s→(∃s',f s=some (.inl s')∧I s'∧μ s'<μ s)∨f s=some (.inr b)) {s:σ} (h:I s):aq f s=some b:=by
 obtain ⟨c,h1,rfl⟩:=gq I μ (fun c=>c=b) (fun s hs=>(step s hs).imp id fun h=>⟨b,h,rfl⟩) h;exact h1
theorem ak {n:Int} (h: -9223372036854775808≤n∧n≤9223372036854775807):Z0.wrap n=n:=by
 have:inR .i64 n:=by rw [mL];exact h
 exact this
theorem aA {α:Type} {xs:List α} {i:Nat} (h:i<xs.length):idx xs (i:Int)=some xs[i]:=by
 unfold idx;rw [if_pos (by omega)];simp [h]
theorem aJ {α:Type} {N:Nat} {xs ys:List α} (h:xs.length+ys.length≤N):app N xs ys=some (xs++ys):=by
 unfold app;rw [if_pos h]
theorem ek {α:Type} {xs:List α} {lo hi:Nat} (h:lo≤hi) (h':hi≤xs.length):sub xs (lo:Int) (hi:Int)=some ((xs.take hi).drop lo):=by
 unfold sub;rw [if_pos (by omega)];simp
theorem bD (n:Int):Z2.wrap n=n%18446744073709551616:=by
 simp [IntKind.wrap,IntKind.bits,IntKind.signed]
theorem lA (n:Int):Zy.wrap n=n%4294967296:=by
 simp [IntKind.wrap,IntKind.bits,IntKind.signed]
theorem bm (n:Int):Z4.wrap n=n%256:=by
 simp [IntKind.wrap,IntKind.bits,IntKind.signed]
theorem pW {x:Int} {k:Nat} (hk:k≤64):aD .u64 x (k:Int)=x/2^k:=by
 unfold aD;rw [Zr _ (Int.le_of_lt (Int.pow_pos (by decide)))];congr 2;simp [IntKind.bits];omega
theorem Qx {x:Int} {k:Nat} (hk:k≤8):aD .u8 x (k:Int)=x/2^k:=by
 unfold aD;rw [Zr _ (Int.le_of_lt (Int.pow_pos (by decide)))];congr 2;simp [IntKind.bits];omega
theorem y6 {x:Int} {k:Nat} (hk:k≤64):em .u64 x (k:Int)=(x*2^k)%18446744073709551616:=by
 unfold em;rw [bD];congr 3;simp [IntKind.bits];omega
theorem Jr {a b:Nat} (ha:a<18446744073709551616) (hb:b<18446744073709551616):dh .u64 (a:Int) (b:Int)=((a&&&b:Nat):Int):=by
 unfold dh;rw [bD]
 have h1:(Zb Z2.bits (a:Int)).toNat=a:=by
  show (Zb 64 (a:Int)).toNat=a;rw [Z9];omega
 have h2:(Zb Z2.bits (b:Int)).toNat=b:=by
  show (Zb 64 (b:Int)).toNat=b;rw [Z9];omega
 rw [BitVec.toNat_and,h1,h2];have:a&&&b≤a:=Nat.and_le_left;omega
theorem Iz {a b:Nat} (ha:a<18446744073709551616) (hb:b<18446744073709551616):bOr .u64 (a:Int) (b:Int)=((a|||b:Nat):Int):=by
 unfold bOr;rw [bD]
 have h1:(Zb Z2.bits (a:Int)).toNat=a:=by
  show (Zb 64 (a:Int)).toNat=a;rw [Z9];omega
 have h2:(Zb Z2.bits (b:Int)).toNat=b:=by
  show (Zb 64 (b:Int)).toNat=b;rw [Z9];omega
 rw [BitVec.toNat_or,h1,h2];have:a|||b<2^64:=Nat.or_lt_two_pow (by simpa using ha) (by simpa using hb)
 have e:(2:Nat)^64=18446744073709551616:=by decide
 omega
def be8 (n:Int):List Int:=[n/2^56%256,n/2^48%256,n/2^40%256,n/2^32%256,n/2^24%256,n/2^16%256,n/2^8%256,n%256]
theorem sC (n:Int):lU n=some (be8 n):=by
 unfold lU
 have step: ∀(l:List Int) (i:Nat),i<8→l.length≤8→fV n l (i:Int)=some (.inl (l++[n/2^(56 - 8*i)%256],((i+1:Nat):Int))):=by
  intro l i hi hl;unfold fV;have h1:decide ((i:Int)<8)=true:=by simpa using by omega
  have h2:Z0.wrap (8*(i:Int))=((8*i:Nat):Int):=by rw [ak (by omega)];omega
  have h3:Z0.wrap (56 - ((8*i:Nat):Int))=((56 - 8*i:Nat):Int):=by rw [ak (by omega)];omega
  have h4:Z0.wrap ((i:Int)+1)=((i+1:Nat):Int):=by rw [ak (by omega)];omega
  rw [if_pos h1,h2,h3,pW (by omega),bm,h4];have h5:chk (decide (0≤((56 - 8*i:Nat):Int)))=some ():=by simp [chk]
  rw [h5,Z1,aJ (by simp;omega),Z1]
 have e8: ∀l:List Int,fV n l 8=some (.inr l):=fun l=>by
  unfold fV;rw [if_neg (by decide)];rfl
 have s: ∀(l:List Int) (i:Nat),i<8→l.length≤8→aq (fun s:(List Int×Int)=>fV n s.1 s.2) (l,(i:Int))=aq (fun s:(List Int×Int)=>fV n s.1 s.2) (l++[n/2^(56 - 8*i)%256],((i+1:Nat):Int)):=fun l i hi hl=>bO (step l i hi hl);have:=s [] 0 (by omega) (by simp);rw [show ((0:Nat):Int)=0 from rfl] at this;rw [this,s _ 1 (by omega) (by simp),s _ 2 (by omega) (by simp),s _ 3 (by omega) (by simp),s _ 4 (by omega) (by simp),s _ 5 (by omega) (by simp),s _ 6 (by omega) (by simp),s _ 7 (by omega) (by simp)];rw [show ((7+1:Nat):Int)=8 from rfl,a7 (e8 _)];simp [be8]
theorem wc (n:Int):qd n=some (be8 n):=by
 unfold qd
 have step: ∀(l:List Int) (i:Nat),i<8→l.length≤8→iY n l ((8*i:Nat):Int)=some (.inl (l++[n/2^(8*i)%256],(8*i:Nat) - 8)):=by
  intro l i hi hl;unfold iY;have h1:decide (0≤((8*i:Nat):Int))=true:=by simp;omega
  have h4:Z0.wrap (((8*i:Nat):Int) - 8)=((8*i:Nat):Int) - 8:=by rw [ak (by omega)]
  rw [if_pos h1,pW (by omega),bm,h4];have h5:chk (decide (0≤((8*i:Nat):Int)))=some ():=by rw [h1];rfl
  rw [h5,Z1,aJ (by simp;omega),Z1]
 have e8: ∀l:List Int,iY n l (-8)=some (.inr l):=fun l=>by
  unfold iY;rw [if_neg (by decide)];rfl
 have s: ∀(l:List Int) (i:Nat),i<8→l.length≤8→aq (fun s:(List Int×Int)=>iY n s.1 s.2) (l,((8*i:Nat):Int))=aq (fun s:(List Int×Int)=>iY n s.1 s.2) (l++[n/2^(8*i)%256],((8*i:Nat):Int) - 8):=fun l i hi hl=>bO (step l i hi hl);have e: ∀i:Nat,((8*(i+1):Nat):Int) - 8=((8*i:Nat):Int):=fun i=>by omega
 have:=s [] 7 (by omega) (by simp);rw [show ((8*7:Nat):Int)=56 from rfl] at this;rw [this,show (56:Int) - 8=((8*6:Nat):Int) from rfl,s _ 6 (by omega) (by simp),e 5,s _ 5 (by omega) (by simp),e 4,s _ 4 (by omega) (by simp),e 3,s _ 3 (by omega) (by simp),e 2,s _ 2 (by omega) (by simp),e 1,s _ 1 (by omega) (by simp),e 0,s _ 0 (by omega) (by simp)];rw [show ((8*0:Nat):Int) - 8= -8 from rfl,a7 (e8 _)];simp [be8]
def en (l:List Int):Int:=l.foldl (fun a c=>a*256+c) 0
theorem tn (l:List Int) (c:Int):en (l++[c])=en l*256+c:=by simp [en]
theorem z6 (l:List Int) (h: ∀c∈l,0≤c∧c<256):0≤en l∧en l<256^l.length:=by
 have key: ∀(r:List Int),(∀c∈r,0≤c∧c<256)→0≤en r.reverse∧en r.reverse<256^r.length:=by
  intro r
  induction r with
  |nil=>intro _;simp [en]
  |cons c r ih=>
   intro h;obtain ⟨h1,h2⟩:=ih (fun x hx=>h x (by simp [hx]));have hc:=h c (by simp);rw [List.reverse_cons,tn,X3,Int.pow_succ];omega
 have:=key l.reverse (fun c hc=>h c (by simpa using hc));simpa using this
theorem yi {n:Int} (h0:0≤n) (h1:n<18446744073709551616):en (be8 n)=n:=by
 simp only [en,be8,List.foldl_cons,List.foldl_nil];omega
theorem wd (n:Int): ∀c∈be8 n,0≤c∧c<256:=by
 intro c hc;simp only [be8,X4,List.not_mem_nil,or_false] at hc;rcases hc with rfl|rfl|rfl|rfl|rfl|rfl|rfl|rfl<;>omega
theorem cf (n:Int):(be8 n).length=8:=rfl
theorem aW {σ β:Type} {f:σ→Option (σ⊕β)} {s:σ} {b:β} (S:Nat→σ) (n:Nat) (h0:s=S 0) (step: ∀i,i<n→f (S i)=some (.inl (S (i+1)))) (fin:f (S n)=some (.inr b)):aq f s=some b:=by
 have key: ∀i,i≤n→aq f s=aq f (S i):=by
  intro i
  induction i with
  |zero=>intro _;rw [h0]
  |succ i ih=>intro h;rw [ih (by omega),bO (step i (by omega))]
 rw [key n (Zn n),a7 fin]
theorem uA {α β:Type} {f:Int→Option (Int⊕β)} (xs:List α) (p:α→Bool) (b0 b1:β) (step: ∀(i:Nat) (h:i<xs.length),p xs[i]=true→f (i:Int)=some (.inl ((i+1:Nat):Int)))
  (out: ∀(i:Nat) (h:i<xs.length),p xs[i]=false→f (i:Int)=some (.inr b0)) (fin:f (xs.length:Int)=some (.inr b1)):aq f 0=some (if xs.all p then b1 else b0):=by
 have key: ∀k i:Nat,i+k=xs.length→aq f (i:Int)=some (if (xs.drop i).all p then b1 else b0):=by
  intro k
  induction k with
  |zero=>
   intro i hi;have:i=xs.length:=by omega
   subst this;rw [a7 fin];simp
  |succ k ih=>
   intro i hi;have hlt:i<xs.length:=by omega
   rw [Zv hlt,List.all_cons];cases hp:p xs[i] with
   |true=>rw [bO (step i hlt hp),ih (i+1) (by omega)];simp
   |false=>rw [a7 (out i hlt hp)];simp
 have:=key xs.length 0 (by omega);simpa using this
theorem A8 {α β:Type} {f:Int→Option (Int⊕β)} (xs:List α) (p:α→Bool) (b0:Nat→β) (b1:β) (step: ∀(i:Nat) (h:i<xs.length),p xs[i]=false→f (i:Int)=some (.inl ((i+1:Nat):Int)))
  (out: ∀(i:Nat) (h:i<xs.length),p xs[i]=true→f (i:Int)=some (.inr (b0 i))) (fin:f (xs.length:Int)=some (.inr b1)):aq f 0=some (if xs.any p then b0 (xs.findIdx p) else b1):=by
 have key: ∀k i:Nat,i+k=xs.length→aq f (i:Int)=some (if (xs.drop i).any p then b0 (i+(xs.drop i).findIdx p) else b1):=by
  intro k
  induction k with
  |zero=>
   intro i hi;have:i=xs.length:=by omega
   subst this;rw [a7 fin];simp
  | succ k ih =>
   intro i hi;have hlt:i<xs.length:=by omega
   rw [Zv hlt,List.any_cons,List.findIdx_cons];cases hp:p xs[i] with
   |false=>
    rw [bO (step i hlt hp),ih (i+1) (by omega)];simp only [Bool.false_or,cond_false];congr 2;congr 1;omega
   |true=>rw [a7 (out i hlt hp)];simp
 have:=key xs.length 0 (by omega);simpa using this
theorem aV {i:Nat} (h:i<4611686018427387904):Z0.wrap ((i:Int)+1)=((i+1:Nat):Int):=by rw [ak (by omega)];rfl
theorem rF {b:Bool} (h:b=true):chk b=some ():=by subst h;rfl

def Byt (l:List Int):Prop:= ∀c∈l,0≤c∧c<256
theorem Byt.nil:Byt []:=fun c h=>by cases h
theorem Byt.cons {c:Int} {l:List Int} (h0:0≤c∧c<256) (h:Byt l):Byt (c::l):=fun d hd=>by
 rcases X4.1 hd with rfl|hd
 ·exact h0
 ·exact h d hd
theorem Byt.head {c:Int} {l:List Int} (h:Byt (c::l)):0≤c∧c<256:=h c (by simp)
theorem Byt.tail {c:Int} {l:List Int} (h:Byt (c::l)):Byt l:=fun d hd=>h d (by simp [hd])
theorem Byt.app {a b:List Int} (h:Byt a) (k:Byt b):Byt (a++b):=fun c hc=>by
 rcases List.mem_append.1 hc with hc|hc
 ·exact h c hc
 ·exact k c hc
theorem Byt.take {a:List Int} (h:Byt a) (n:Nat):Byt (a.take n):=fun c hc=>h c (List.mem_of_mem_take hc)
theorem Byt.drop {a:List Int} (h:Byt a) (n:Nat):Byt (a.drop n):=fun c hc=>h c (List.mem_of_mem_drop hc)
theorem Byt.left {a b:List Int} (h:Byt (a++b)):Byt a:=fun c hc=>h c (by simp [hc])
theorem Byt.right {a b:List Int} (h:Byt (a++b)):Byt b:=fun c hc=>h c (by simp [hc])
def cY (n:Int):Prop:= -9223372036854775808≤n∧n≤9223372036854775807
structure VOK (v:Ap):Prop where
 kind:cY v.fKind
 int:cY v.fInt
 text:Byt v.fText
abbrev kV:Ap:=⟨0,false,0,[]⟩
abbrev BR (b:Bool):Ap:=⟨1,b,0,[]⟩
abbrev iH (n:Int):Ap:=⟨2,false,n,[]⟩
abbrev xc (t:List Int):Ap:=⟨3,false,0,t⟩
def right (v:Ap):Bool:=
 if v.fKind==0 then decide (v=kV) else if v.fKind==1 then decide (v=BR v.fBool) else if v.fKind==2 then decide (v=iH v.fInt) else
 if v.fKind==3 then decide (v=xc v.fText)&&decide ((v.fText.length:Int)≤64) else false
theorem iP (v:Ap):lr v=some (right v):=by
 obtain ⟨k,b,n,t⟩:=v;unfold lr right kD oC ez oD pg;simp only [Z1]
 by_cases h0:k=0
 ·subst h0;rfl
 by_cases h1:k=1
 ·subst h1;rfl
 by_cases h2:k=2
 ·subst h2;rfl
 by_cases h3:k=3
 ·subst h3
  by_cases h:(⟨3,b,n,t⟩:Ap)=xc t
  ·simp [h]
  ·simp [h]
 have e0:(k==0)=false:=by simpa using h0
 have e1:(k==1)=false:=by simpa using h1
 have e2:(k==2)=false:=by simpa using h2
 have e3:(k==3)=false:=by simpa using h3
 simp only [e0,e1,e2,e3];rfl
theorem oR (v:Ap):up v=some (right v):=by
 obtain ⟨k,b,n,t⟩:=v;unfold up sW sV sU mT right
 by_cases h0:k=0
 ·subst h0
  by_cases h:b=false∧n=0∧t=[]
  ·simp [h]
  ·simp [h]
 by_cases h1:k=1
 ·subst h1
  by_cases h:n=0∧t=[]
  ·simp [h]
  ·simp [h]
 by_cases h2:k=2
 ·subst h2
  by_cases h:b=false∧t=[]
  ·simp [h]
  ·simp [h]
 by_cases h3:k=3
 ·subst h3;simp
  by_cases h:b=false∧n=0
  ·simp [h]
  ·rw [if_neg h];simp;intro h5 h6;exact absurd ⟨h5,h6⟩ h
 have e0:(k==0)=false:=by simpa using h0
 have e1:(k==1)=false:=by simpa using h1
 have e2:(k==2)=false:=by simpa using h2
 have e3:(k==3)=false:=by simpa using h3
 simp only [e0,e1,e2,e3,Zm,if_false]
 by_cases h4:0≤k
 ·by_cases h5:k≤3
  ·omega
  ·simp [h5]
 ·simp [h4]
inductive Rgt:Ap→Prop
 |null:Rgt kV
 |bool (b:Bool):Rgt (BR b)
 |int (n:Int) (h:cY n):Rgt (iH n)
 |text (t:List Int) (h:Byt t) (hl:t.length≤64):Rgt (xc t)
theorem Rgt.of {v:Ap} (h:VOK v) (hr:right v=true):Rgt v:=by
 unfold right at hr;split at hr
 ·have:=of_decide_eq_true hr;rw [this];exact .null
 split at hr
 ·have:=of_decide_eq_true hr;rw [this];exact .bool _
 split at hr
 ·have:=of_decide_eq_true hr;rw [this];exact .int _ h.int
 split at hr
 ·simp only [Bool.and_eq_true,decide_eq_true_eq] at hr
  rw [hr.1];exact .text _ h.text (by omega)
 ·cases hr
theorem Rgt.right {v:Ap} (h:Rgt v):right v=true:=by
 cases h with
 |null=>rfl
 |bool b=>cases b<;>rfl
 |int n _=>simp [Go.Proofs.YthbonoagbeilkaaGreat.Hay.right]
 |text t _ hl=>simp [Go.Proofs.YthbonoagbeilkaaGreat.Hay.right];omega
theorem Rgt.ok {v:Ap} (h:Rgt v):VOK v:=by
 cases h with
 |null=>exact ⟨by simp [cY],by simp [cY],Byt.nil⟩
 |bool b=>exact ⟨by simp [cY],by simp [cY],Byt.nil⟩
 |int n h=>exact ⟨by simp [cY],h,Byt.nil⟩
 |text t h _=>exact ⟨by simp [cY],by simp [cY],h⟩
def bv (v:Ap):List Int:=
 if v.fKind=1 then [1,if v.fBool then 1 else 0] else if v.fKind=2 then 2::be8 (v.fInt%18446744073709551616) else if v.fKind=3 then 3::(v.fText.length:Int)::v.fText else [v.fKind]
theorem GA:bv kV=[0]:=rfl
theorem GB (b:Bool):bv (BR b)=[1,if b then 1 else 0]:=rfl
theorem uB (n:Int):bv (iH n)=2::be8 (n%18446744073709551616):=rfl
theorem sD (t:List Int):bv (xc t)=3::(t.length:Int)::t:=rfl
theorem rG {v:Ap} (h:Rgt v):Byt (bv v):=by
 cases h with
 |null=>exact .cons (by decide) .nil
 |bool b=>exact .cons (by decide) (.cons (by cases b<;>decide) .nil)
 |int n h=>exact .cons (by decide) (wd _)
 |text t h hl=>exact .cons (by decide) (.cons (by show 0≤(t.length:Int)∧(t.length:Int)<256;omega) h)
theorem d8 {v:Ap} (h:Rgt v):1≤(bv v).length∧(bv v).length≤66:=by
 cases h with
 |null=>decide
 |bool b=>cases b<;>decide
 |int n h=>rw [uB];simp [cf]
 |text t h hl=>rw [sD];simp;omega
theorem Bw {p:List Int} (n:Int) (hp:p.length+8≤140737488355328):me p n=some (p++be8 n):=by
 unfold me;refine aW (fun i=>((i:Int),(be8 n).take i++Z3 (8 - i) 0)) 8 rfl ?_ ?_
 ·intro i hi
  dsimp only;unfold k8;have h1:decide ((i:Int)<8)=true:=by simpa using by omega
  have h2:Z0.wrap (8*(i:Int))=((8*i:Nat):Int):=by rw [ak (by omega)];omega
  have h3:Z0.wrap (56 - ((8*i:Nat):Int))=((56 - 8*i:Nat):Int):=by rw [ak (by omega)];omega
  rw [if_pos h1,h2,h3,pW (by omega),bm,aV (by omega),rF (by simp),Z1];have hl:((be8 n).take i++Z3 (8 - i) (0:Int)).length=8:=by simp [cf];omega
  have hj:ix ((be8 n).take i++Z3 (8 - i) (0:Int)) (i:Int)=some i:=by unfold ix;rw [if_pos (by rw [hl];omega)];simp
  rw [hj,Z1,Z7 (by omega),Z1];have:i=0∨i=1∨i=2∨i=3∨i=4∨i=5∨i=6∨i=7:=by omega
  rcases this with rfl|rfl|rfl|rfl|rfl|rfl|rfl|rfl<;>simp [be8,Z3]
 ·unfold k8 nz
  have e:(be8 n).take 8++Z3 (8 - 8) (0:Int)=be8 n:=by simp [be8]
  dsimp only;rw [if_neg (by simp)];rw [e,aJ (by simp [cf];omega)];rfl
theorem DO {p:List Int} {v:Ap} (h:Rgt v) (hp:p.length+66≤140737488355328):uo p v=some (p++bv v):=by
 unfold uo;rw [aJ (by simp;omega),Z1];cases h with
 |null=>simp [bv,bm]
 | bool b =>
  cases b
  ·simp only [bv,bm]
   rw [if_pos (by decide),if_neg (by decide),aJ (by simp;omega)];simp
  ·simp only [bv,bm]
   rw [if_pos (by decide),if_pos (by decide),aJ (by simp;omega)];simp
 |int n h=>
  simp only [bm,bD,bv];rw [if_neg (by decide),if_pos (by decide),Bw _ (by simp;omega)];simp
 |text t h hl=>
  simp only [bm,bv];rw [if_neg (by decide),if_neg (by decide),if_pos (by decide),aJ (by simp;omega),Z1,aJ (by simp;omega)];simp;omega
theorem DP (l:List Ap) (hl:l.length≤281474976710656):ri l=some (l.all right&&decide (l.length≤16)):=by
 have h:ri l=some (if l.all right then decide ((l.length:Int)≤16) else false):=by
  unfold ri;refine uA l right _ _ (fun i h hp=> ?_) (fun i h hp=> ?_) ?_
  ·unfold pN
   rw [if_pos (by simpa using h),aA h,Z1,iP,Z1,hp,if_neg (by decide),aV (by omega)]
  ·unfold pN
   rw [if_pos (by simpa using h),aA h,Z1,iP,Z1,hp];rfl
  ·unfold pN xr
   rw [if_neg (by simp)];rfl
 rw [h];cases l.all right<;>simp;omega
def uC (l:List Ap):List Int:=(l.length:Int)::l.flatMap bv
theorem je {l:List Ap} (h: ∀v∈l,Rgt v):(l.flatMap bv).length≤66*l.length:=by
 induction l with
 |nil=>simp
 |cons v r ih=>
  have:=(d8 (h v (by simp))).2;have:=ih (fun x hx=>h x (by simp [hx]));rw [List.flatMap_cons,List.length_append,X3];omega
theorem l5 {α:Type} {l:List α} {f:α→List Int} {i:Nat} (h:i<l.length):(l.take (i+1)).flatMap f=(l.take i).flatMap f++f l[i]:=by
 rw [Za h,List.flatMap_append,List.flatMap_singleton]
theorem tP {l:List Ap} (h: ∀v∈l,Rgt v) (hl:l.length≤16):mP l=some (uC l,0):=by
 unfold mP;rw [DP l (by omega),Z1];have ha:l.all right=true:=by rw [List.all_eq_true];exact fun v hv=>(h v hv).right
 rw [ha,if_neg (by simpa using hl)];refine aW (fun i=>((l.length:Int)::(l.take i).flatMap bv,(i:Int))) l.length (by simp [bm];omega) (fun i hi=> ?_) ?_
 ·dsimp only
  unfold ph;have:=je (l:=l.take i) fun v hv=>h v (List.mem_of_mem_take hv);rw [if_pos (by simpa using hi),aA hi,Z1,DO (h _ (Zk hi)) (by simp at this ⊢;omega),Z1,aV (by omega),l5 hi]
  rfl
 ·unfold ph tK
  rw [if_neg (by simp)];simp [uC]
theorem qr {v:Ap} (h:Rgt v):kE v=some (bv v):=by
 unfold kE;rw [tP (l:=[v]) (by simpa using h) (by simp),Z1]
 have:sub (uC [v]) 1 ((uC [v]).length:Int)=some (bv v):=by
  have:=ek (xs:=uC [v]) (lo:=1) (hi:=(uC [v]).length) (by simp [uC]) (Zn _);rw [show ((1:Nat):Int)=1 from rfl] at this;rw [this];simp [uC]
 dsimp only;rw [this];rfl
theorem oS {v:Ap} (h:Rgt v):rl v=some (bv v):=by
 unfold rl vK;cases h with
 |null=>simp [bv,bm]
 |bool b=>cases b<;>simp [bv,bm,app]
 |int n h=>
  simp only [bm,bD,bv];rw [if_neg (by decide),if_neg (by decide),if_neg (by decide),if_pos (by decide),wc,Z1,aJ (by simp [cf])];simp
 |text t h hl=>
  simp only [bm,bv];rw [if_neg (by decide),if_neg (by decide),if_neg (by decide),if_neg (by decide),if_pos (by decide),aJ (by simp),Z1,aJ (by simp;omega)];simp;omega
def cj:List Int→Option (Ap×Nat)
 |[]=>none
 |k::b=>
  if k=0 then some (kV,1) else
  if k=1 then (match b with|c::_=>if c≤1 then some (BR (c==1),2) else none|[]=>none) else
  if k=2 then (if 8≤b.length then some (iH (Z0.wrap (en (b.take 8))),9) else none) else
  if k=3 then (match b with|c::r=>if c≤64∧c≤(r.length:Int) then some (xc (r.take c.toNat),2+c.toNat) else none|[]=>none) else none
theorem IA {l:List Int} (h:Byt l) (hl:l.length=8):be8 (en l)=l:=by
 match l,hl with
 |[a,b,c,d,e,f,g,i],_=>
  have ha:=h a (by simp);have hb:=h b (by simp);have hc:=h c (by simp);have hd:=h d (by simp);have he:=h e (by simp);have hf:=h f (by simp);have hg:=h g (by simp);have hi:=h i (by simp);simp only [be8,en,List.foldl_cons,List.foldl_nil,List.cons.injEq,and_true];refine ⟨?_,?_,?_,?_,?_,?_,?_,?_⟩<;>omega
theorem jf (n:Int):Z0.wrap n=(n+9223372036854775808)%18446744073709551616 - 9223372036854775808:=by
 simp only [IntKind.wrap,IntKind.bits,IntKind.signed];simp;omega
theorem IB {n:Int} (h:0≤n∧n<18446744073709551616):Z0.wrap n%18446744073709551616=n:=by
 rw [jf];omega
theorem yj {n:Int} (h:cY n):Z0.wrap (n%18446744073709551616)=n:=by
 rw [jf];unfold cY at h;omega
theorem ll (n:Int):cY (Z0.wrap n):=by rw [jf];unfold cY;omega
theorem qh {v:Ap} (h:Rgt v) (r:List Int):cj (bv v++r)=some (v,(bv v).length):=by
 cases h with
 |null=>simp [GA,cj]
 |bool b=>cases b<;>simp [GB,cj]
 |int n h=>
  rw [uB];have h1: ¬ ((2:Int)=0):=by decide
  have h2: ¬ ((2:Int)=1):=by decide
  have h3:8≤(be8 (n%18446744073709551616)++r).length:=by simp [cf]
  have h4:(be8 (n%18446744073709551616)++r).take 8=be8 (n%18446744073709551616):=List.take_left' (cf _);simp only [List.cons_append,cj];rw [if_neg h1,if_neg h2,if_pos trivial,if_pos h3,h4,yi (by omega) (by omega),yj h];simp [cf]
 |text t h hl=>
  rw [sD];simp only [List.cons_append,cj];rw [if_neg (by decide),if_neg (by decide),if_neg (by decide),if_pos trivial,if_pos (by simp;omega)];simp;omega
theorem mr {b:List Int} {v:Ap} {n:Nat} (hb:Byt b) (h:cj b=some (v,n)):Rgt v∧ ∃r,b=bv v++r∧n=(bv v).length:=by
 cases b with
 |nil=>cases h
 | cons k b =>
  simp only [cj] at h;split at h
  ·rename_i hk;subst hk
   simp only [Option.some.injEq,Prod.mk.injEq] at h;obtain ⟨rfl,rfl⟩:=h;exact ⟨.null,b,rfl,rfl⟩
  split at h
  ·rename_i hk;subst hk
   cases b with
   |nil=>cases h
   | cons c r =>
    simp only at h;split at h
    ·rename_i hc
     simp only [Option.some.injEq,Prod.mk.injEq] at h;obtain ⟨rfl,rfl⟩:=h;have h0:=hb.tail.head;have:c=0∨c=1:=by omega
     rcases this with rfl|rfl
     ·exact ⟨.bool _,r,rfl,rfl⟩
     ·exact ⟨.bool _,r,rfl,rfl⟩
    ·cases h
  split at h
  ·rename_i hk;subst hk
   split at h
   ·rename_i hl
    simp only [Option.some.injEq,Prod.mk.injEq] at h;obtain ⟨rfl,rfl⟩:=h;have h8:(b.take 8).length=8:=by simp;omega
    have hbd:=z6 (b.take 8) (hb.tail.take 8);rw [h8] at hbd;refine ⟨.int _ (ll _),b.drop 8,?_,?_⟩
    ·rw [uB,IB (by omega),IA (hb.tail.take 8) h8]
     simp
    ·rw [uB];simp [cf]
   ·cases h
  split at h
  ·rename_i hk;subst hk
   cases b with
   |nil=>cases h
   | cons c r =>
    simp only at h;split at h
    ·rename_i hc
     simp only [Option.some.injEq,Prod.mk.injEq] at h;obtain ⟨rfl,rfl⟩:=h;have h0:=hb.tail.head;refine ⟨.text _ (hb.tail.tail.take _) (by simp;omega),r.drop c.toNat,?_,?_⟩
     ·rw [sD]
      have:((r.take c.toNat).length:Int)=c:=by simp;omega
      rw [this];simp
     ·rw [sD];simp;omega
    ·cases h
  ·cases h
theorem rH {b:List Int} {v:Ap} {n:Nat} (hb:Byt b) (h:cj b=some (v,n)):1≤n∧n≤66∧n≤b.length:=by
 obtain ⟨h1,r,rfl,rfl⟩:=mr hb h;have:=d8 h1;simp;omega
theorem qK {b:List Int} {v:Ap} {n k:Nat} (hb:Byt b) (h:cj (b.take k)=some (v,n)):cj b=some (v,n)∧n≤k:=by
 obtain ⟨h1,r,h2,rfl⟩:=mr (hb.take k) h;have h3:b=bv v++(r++b.drop k):=by rw [←List.append_assoc, ←h2];simp
 refine ⟨by rw [h3];exact qh h1 _,?_⟩;have:=congrArg List.length h2;simp at this;omega
theorem vd {b:List Int} {v:Ap} {n k:Nat} (hb:Byt b) (h:cj b=some (v,n)) (hk:n≤k):cj (b.take k)=some (v,n):=by
 obtain ⟨h1,r,rfl,rfl⟩:=mr hb h;rw [List.take_append,Zz hk];exact qh h1 _
theorem GC {x y:Int} (k:Nat) (hx:0≤x) (h0:0≤y) (hy:y<2^k) (hs:x*2^k+y<18446744073709551616):bOr .u64 (x*2^k) y=x*2^k+y:=by
 obtain ⟨a,rfl⟩:=Z8 hx;obtain ⟨b,rfl⟩:=Z8 h0;have e:(a:Int)*2^k=((2^k*a:Nat):Int):=by rw [Int.natCast_mul,Z6,Int.mul_comm];rfl
 have e2:((2:Int)^k)=((2^k:Nat):Int):=by rw [Z6];rfl
 rw [e2] at hy;rw [e] at hs ⊢;have hb:b<2^k:=by omega
 rw [Iz (by omega) (by omega), ←Zq hb];omega
theorem z7 {b:List Int} (hb:Byt b) (hl:8≤b.length):pT b=some (en (b.take 8)):=by
 unfold pT;refine aW (fun i=>(en (b.take i),(i:Int))) 8 (by simp [en]) (fun i hi=> ?_) ?_
 ·dsimp only
  unfold pn;have hi':i<b.length:=by omega
  have hbd:=z6 (b.take i) (hb.take i);have hci:=hb b[i] (Zk hi')
  have hp:(256:Int)^(b.take i).length≤256^7:=by
   have:(b.take i).length≤7:=by simp;omega
   have h9:=Zc (show 0<256 by omega) this;have h8:=Int.ofNat_le.2 h9;simpa [Z6] using h8
  have hsh:=y6 (x:=en (b.take i)) (k:=8) (by omega);rw [show ((8:Nat):Int)=8 from rfl] at hsh
  have e:en (b.take (i+1))=en (b.take i)*256+b[i]:=by
   rw [Za hi',tn]
  have e1:en (b.take i)*2^8%18446744073709551616=en (b.take i)*2^8:=by omega
  have e2:b[i]%18446744073709551616=b[i]:=by omega
  rw [if_pos (by simpa using by omega),aA hi',Z1,aV (by omega),hsh,bD,e,e1,e2,GC 8 (by omega) (by omega) (by omega) (by omega)]
  rfl
 ·unfold pn tN
  dsimp only;rw [if_neg (by simp)];rfl
theorem dF {α:Type} (a:α) (l:List α):idx (a::l) 0=some a:=aA (xs:=a::l) (i:=0) (by simp)
theorem A9 {α:Type} (a b:α) (l:List α):idx (a::b::l) 1=some b:=aA (xs:=a::b::l) (i:=1) (by simp)
theorem ge {α:Type} {xs:List α} {k:Nat} (h:k≤xs.length):sub xs (k:Int) (xs.length:Int)=some (xs.drop k):=by
 rw [ek h (Zn _),List.take_length]
theorem sE {α:Type} (a:α) (l:List α):sub (a::l) 1 ((a::l).length:Int)=some l:=by
 have:=ge (xs:=a::l) (k:=1) (by simp);simpa using this
theorem tQ {c:Int} (h:0≤c∧c<256):Z0.wrap c=c:=ak (by omega)
theorem CP {b:List Int} (hb:Byt b):sy b=some (match cj b with|some (v,n)=>(v,b.drop n,true)|none=>(kV,[],false)):=by
 cases b with
 |nil=>rfl
 | cons k r =>
  have hk:=hb.head;have hr:=hb.tail;unfold sy;rw [if_neg (by simp;omega),dF,Z1,sE,Z1,tQ hk]
  by_cases h0:k=0
  ·subst h0;simp [cj,kD]
  rw [if_neg (by simpa using h0)];have e0:kg r false=some (kV,[],false):=rfl
  by_cases h1:k=1
  ·subst h1
   have e2:kj 1 r false=some (kV,[],false):=rfl;rw [if_pos (by simp)];cases r with
   |nil=>simp [cj,e2]
   | cons c r =>
    rw [if_pos (by simp;omega),dF,Z1]
    by_cases hc:c≤1
    ·unfold kj
     rw [if_pos (by simpa using hc),dF,Z1,sE];simp [cj,hc,oC]
    ·have:decide (c≤1)=false:=by simpa using hc
     rw [this,e2];simp [cj,hc]
  rw [if_neg (by simpa using h1)];unfold kj;rw [if_neg (by decide),tQ hk]
  by_cases h2:k=2
  ·subst h2
   rw [if_pos (by simp)];unfold oM
   by_cases hl:8≤r.length
   ·have hs:=ge (xs:=r) (k:=8) hl
    rw [show ((8:Nat):Int)=8 from rfl] at hs;rw [if_pos (by simpa using by omega),z7 hr hl,Z1];unfold ez;rw [Z1,hs];simp [cj,hl]
   ·rw [if_neg (by simpa using by omega),if_neg (by decide),e0]
    simp [cj,hl]
  rw [if_neg (by simpa using h2)];unfold oM;rw [if_neg (by decide),tQ hk]
  by_cases h3:k=3
  ·subst h3
   rw [if_pos (by simp)];cases r with
   |nil=>simp [cj,e0]
   | cons c r =>
    have hc:=hr.head;rw [if_pos (by simp;omega),dF,Z1]
    by_cases hc64:c≤64
    ·rw [if_pos (by simpa using hc64),Z1,tQ hc]
     by_cases hl:c≤(r.length:Int)
     ·obtain ⟨n,rfl⟩:=Z8 hc.1
      have e3:Z4.wrap (1+(n:Int))=((1+n:Nat):Int):=by rw [bm];omega
      have hs:=ek (xs:=(n:Int)::r) (lo:=1) (hi:=1+n) (by omega) (by simp;omega);rw [show ((1:Nat):Int)=1 from rfl] at hs;have hs2:=ge (xs:=(n:Int)::r) (k:=1+n) (by simp;omega);unfold kg;rw [if_pos (by simp;omega),dF,Z1,e3,hs,Z1];unfold oD;rw [Z1,Z1,e3,hs2]
      have e5:cj (3::(n:Int)::r)=some (xc (r.take n),2+n):=by
       simp only [cj];rw [if_neg (by decide),if_neg (by decide),if_neg (by decide),if_pos trivial,if_pos ⟨hc64,hl⟩];simp
      rw [e5];simp only [Z1,Option.some.injEq,Prod.mk.injEq,and_true];have e6:1+n=n+1:=by omega
      have e7:2+n=n+1+1:=by omega
      rw [e6,e7];simp
     ·have:decide (c<(((c::r).length:Nat):Int))=false:=by simp;omega
      rw [this,e0];simp [cj,hl]
    ·rw [if_neg (by simpa using hc64),e0];simp [cj,hc64]
  rw [if_neg (by simpa using h3),e0];simp [cj,h0,h1,h2,h3]
def qi:Nat→List Int→Option (List Ap×List Int)
 |0,b=>some ([],b)
 |n+1,b=>match cj b with
  |some (v,k)=>(qi n (b.drop k)).map fun x=>(v::x.1,x.2)
  |none=>none
theorem yk (many:Nat) (hm:many≤255): ∀(n i:Nat) (b:List Int) (acc:List Ap),i+n=many→Byt b→acc.length=i→
  aq (fun s:(List Int×List Ap×Int)=>ko (many:Int) s.1 s.2.1 s.2.2) (b,acc,(i:Int))=some (match qi n b with|some (l,[])=>(acc++l,0)|_=>([],30)):=by
 intro n
 induction n with
 |zero=>
  intro i b acc hi hb ha;apply a7;dsimp only;unfold ko tO;rw [if_neg (by rw [ak (by omega)];simp;omega)];cases b with
  |nil=>simp [qi]
  |cons c r=>simp [qi]
 | succ n ih =>
  intro i b acc hi hb ha
  have step:ko (many:Int) b acc (i:Int)=match cj b with|some (v,k)=>some (.inl (b.drop k,acc++[v],((i+1:Nat):Int)))|none=>some (.inr ([],30)):=by
   unfold ko;rw [if_pos (by rw [ak (by omega)];simp;omega),CP hb,Z1];cases hp:cj b with
   |none=>rfl
   |some x=>
    obtain ⟨v,k⟩:=x;simp only [Bool.not_true,Zm,if_false];rw [aJ (by simp;omega),Z1,aV (by omega)]
  simp only [qi];cases hp:cj b with
  |none=>rw [hp] at step;rw [a7 (by dsimp only;exact step)]
  | some x =>
   obtain ⟨v,k⟩:=x;rw [hp] at step;rw [bO (by dsimp only;exact step),ih (i+1) _ _ (by omega) (hb.drop _) (by simp;omega)];dsimp only;cases hq:qi n (b.drop k) with
   |none=>rfl
   |some y=>
    obtain ⟨l,r⟩:=y;cases r<;>simp
theorem Aa {b:List Int} (hb:Byt b):lw b=some (match b with|[]=>([],30)|c::r=>if c≤16 then (match qi c.toNat r with|some (l,[])=>(l,0)|_=>([],30)) else ([],30)):=by
 cases b with
 |nil=>rfl
 | cons c r =>
  have hc:=hb.head;unfold lw;rw [if_neg (by simp;omega),dF,Z1];unfold po
  by_cases h:c≤16
  ·rw [if_neg (by simpa using h),dF,Z1,sE,Z1]
   have:=yk c.toNat (by omega) c.toNat 0 r [] (by omega) hb.tail rfl;rw [show ((c.toNat:Nat):Int)=c by omega] at this;rw [show ((0:Nat):Int)=0 from rfl] at this;rw [this];simp [h]
  ·rw [if_pos (by simpa using by omega)];simp [h]
theorem sF {c:List Int} (hb:Byt c):lw (1::c)=some (match cj c with|some (v,k)=>if k=c.length then ([v],0) else ([],30)|none=>([],30)):=by
 rw [Aa (hb.cons (by decide))];simp only [show ((1:Int)≤16)=True by simp,if_true,show (1:Int).toNat=1 from rfl,qi];cases hp:cj c with
 |none=>rfl
 | some x =>
  obtain ⟨v,k⟩:=x;have:=(rH hb hp).2.2;simp only [Option.map_some]
  by_cases h:k=c.length
  ·subst h;simp
  ·rw [if_neg h]
   cases hd:c.drop k with
   |nil=>have:=List.drop_eq_nil_iff.1 hd;omega
   |cons _ _=>rfl
theorem CQ {r:aj} (hb:Byt r.fB) (hl:r.fB.length<140737488355328):dE r=some (match cj r.fB with|some (v,n)=>(v,⟨r.fB.drop n,r.fOk⟩)|none=>(kV,⟨r.fB,false⟩)):=by
 unfold dE
 have step: ∀k,1≤k→k≤r.fB.length→k≤66→gK r (k:Int)=match cj (r.fB.take k) with|some (v,n)=>(if n=k then some (.inr (v,⟨r.fB.drop k,r.fOk⟩)) else some (.inl ((k+1:Nat):Int)))|none=>some (.inl ((k+1:Nat):Int)):=by
  intro k h1 h2 h3;have hs:=ek (xs:=r.fB) (lo:=0) (hi:=k) (by omega) h2;rw [show ((0:Nat):Int)=0 from rfl] at hs;unfold gK gJ;rw [if_pos (by simpa using by omega),if_pos (by simp;omega),hs,Z1,aJ (by simp;omega),Z1,List.drop_zero,List.singleton_append,sF (hb.take _),Z1,ge h2,aV (by omega)];have hlen:(r.fB.take k).length=k:=by simp;omega
  cases hp:cj (r.fB.take k) with
  |none=>rfl
  |some x=>
   obtain ⟨v,n⟩:=x;simp only [hlen]
   by_cases e:n=k
   ·rw [if_pos e,if_pos e];rfl
   ·rw [if_neg e,if_neg e];rfl
 cases hp:cj r.fB with
 | some x =>
  obtain ⟨v,n⟩:=x;have hn:=rH hb hp;refine aW (fun i=>((i+1:Nat):Int)) (n - 1) rfl (fun i hi=> ?_) ?_
  ·rw [step (i+1) (by omega) (by omega) (by omega)]
   cases hq:cj (r.fB.take (i+1)) with
   |none=>rfl
   |some y=>
    obtain ⟨v',n'⟩:=y;obtain ⟨h1,h2⟩:=qK hb hq;rw [hp] at h1;simp only [Option.some.injEq,Prod.mk.injEq] at h1;omega
  ·have e:n - 1+1=n:=by omega
   rw [e,step n (by omega) (by omega) (by omega),vd hb hp (Zn _)];simp
 | none =>
  refine aW (fun i=>((i+1:Nat):Int)) (min r.fB.length 66) rfl (fun i hi=> ?_) ?_
  ·rw [step (i+1) (by omega) (by omega) (by omega)]
   cases hq:cj (r.fB.take (i+1)) with
   |none=>rfl
   |some y=>
    obtain ⟨v',n'⟩:=y;obtain ⟨h1,h2⟩:=qK hb hq;rw [hp] at h1;cases h1
  ·have e0:gJ r ((min r.fB.length 66+1:Nat):Int) false=some (.inr (kV,⟨r.fB,false⟩)):=rfl
   unfold gK;split
   ·have:decide (((min r.fB.length 66+1:Nat):Int)≤66)=false:=by
     rename_i h;simp at h ⊢;omega
    rw [this,e0]
   ·exact e0
def eI (f:Nat→Bool):Nat→Nat
 |0=>0
 |n+1=>2^n*(f n).toNat+eI f n
theorem mt (f:Nat→Bool): ∀n,eI f n<2^n
 |0=>by simp [eI]
 |n+1=>by
  have:=mt f n;simp only [eI];cases f n<;>simp [Zo]<;>omega
theorem l6 (f:Nat→Bool): ∀n k,(eI f n).testBit k=(decide (k<n)&&f k)
 |0,k=>by simp [eI]
 | n + 1, k => by
  simp only [eI];rw [Nat.testBit_two_pow_mul_add _ (mt f n),l6 f n k]
  by_cases h:k<n
  ·rw [if_pos h];simp [h];intro _;omega
  ·rw [if_neg h]
   by_cases h':k=n
   ·subst h';simp;cases f k<;>rfl
   ·have: ¬ k<n+1:=by omega
    simp [this];have:k - n≠0:=by omega
    cases f n
    ·simp
    ·simp only [Bool.toNat_true]
     obtain ⟨j,hj⟩: ∃j,k - n=j+1:=⟨k - n - 1,by omega⟩
     rw [hj,Nat.testBit_succ];simp
theorem mu {f g:Nat→Bool} {n:Nat} (h: ∀k,k<n→f k=g k):eI f n=eI g n:=by
 apply Zp;intro k;rw [l6,l6]
 by_cases hk:k<n
 ·rw [h k hk]
 ·simp [hk]
theorem GD {x n:Nat} (h:x<2^n):eI (fun k=>x.testBit k) n=x:=by
 apply Zp;intro k;rw [l6]
 by_cases hk:k<n
 ·simp [hk]
 ·have:=Nat.testBit_lt_two_pow (Nat.lt_of_lt_of_le h (Zc (by decide) (Nat.le_of_not_lt hk)))
  simp [this]
theorem Eh (x k:Nat):x/2^k=2*(x/2^(k+1))+(x.testBit k).toNat:=by
 have h1:x/2^(k+1)=x/2^k/2:=by rw [Zo,Zd]
 rw [h1,Zi];have:x/2^k%2=0∨x/2^k%2=1:=by omega
 rcases this with h|h<;>simp [h]<;>omega
def fi (l:List Int) (w p:Nat):Bool:=decide (p<l.length*w)&&(l.getD (p/w) 0).toNat.testBit (p%w)
def jm (l:List Int) (w q:Nat):List Int:=(Zw ((l.length*w+7)/8)).map fun j=>((eI (fun k=>decide (8*j+k<q)&&fi l w (8*j+k)) 8:Nat):Int)
def cM (l:List Int) (w:Nat):List Int:=jm l w (l.length*w)
theorem fE (l:List Int) (w q:Nat):(jm l w q).length=(l.length*w+7)/8:=by simp [jm]
theorem l7 (l:List Int) (w q j:Nat) (h:j<(jm l w q).length):(jm l w q)[j]=((eI (fun k=>decide (8*j+k<q)&&fi l w (8*j+k)) 8:Nat):Int):=by simp [jm]
theorem y7 (l:List Int) (w:Nat):Byt (cM l w):=fun c hc=>by
 simp only [cM,jm,List.mem_map] at hc;obtain ⟨j,_,rfl⟩:=hc;have:=mt (fun k=>decide (8*j+k<l.length*w)&&fi l w (8*j+k)) 8;omega
theorem GE (l:List Int) (w q:Nat) (hq:q<l.length*w) (hb:fi l w q=true):
  ∃x:Nat,x<256∧(jm l w q)[q/8]? =some (x:Int)∧(jm l w q).set (q/8) (((x|||2^(q%8):Nat)):Int)=jm l w (q+1):=by
 have hlt:q/8<(jm l w q).length:=by rw [fE];omega
 refine ⟨_,mt _ 8,by rw [Z7 hlt,l7],?_⟩;apply Zs
 ·simp [fE]
 intro j h1 h2;rw [List.getElem_set,l7];split
 ·rename_i e
  subst e;rw [l7];congr 1;apply Zp;intro k;rw [Nat.testBit_or,l6,l6,Nat.testBit_two_pow]
  by_cases hk:k<8
  ·by_cases e:q%8=k
   ·have:8*(q/8)+k=q:=by omega
    simp [hk,e,this,hb]
   ·have h3:(8*(q/8)+k<q+1)=(8*(q/8)+k<q):=by apply propext;omega
    simp [e,h3]
  ·have:q%8≠k:=by omega
   simp [hk,this]
 ·rename_i e
  rw [l7];congr 1;apply mu;intro k hk;have h3:(8*j+k<q+1)=(8*j+k<q):=by apply propext;omega
  simp [h3]
theorem Fg (l:List Int) (w q:Nat) (hb:fi l w q=false):jm l w q=jm l w (q+1):=by
 unfold jm;apply List.map_congr_left;intro j _;congr 1;apply mu;intro k hk
 by_cases e:8*j+k=q
 ·rw [e,hb];simp
 ·have h3:(8*j+k<q+1)=(8*j+k<q):=by apply propext;omega
  simp [h3]
theorem Fh (l:List Int) (w:Nat):jm l w 0=Z3 ((l.length*w+7)/8) 0:=by
 apply Zs
 ·simp [fE]
 intro j h1 h2;rw [l7];have:eI (fun k=>decide (8*j+k<0)&&fi l w (8*j+k)) 8=eI (fun _=>false) 8:=mu fun k _=>by simp
 rw [this];simp [eI]
def eu (b:List Int) (p:Nat):Bool:=(b.getD (p/8) 0).toNat.testBit (p%8)
def unp (b:List Int) (w i:Nat):Nat:=eI (fun k=>eu b (i*w+k)) w
theorem Ab (l:List Int) (w p:Nat) (r:List Int) (hp:p<l.length*w):eu (cM l w++r) p=fi l w p:=by
 have hlt:p/8<(cM l w).length:=by unfold cM;rw [fE];omega
 unfold eu;rw [Z5,List.getElem?_append_left hlt,Z7 hlt];simp only [Option.getD_some];have e:(cM l w)[p/8]=_:=l7 l w (l.length*w) (p/8) hlt;rw [e];simp only [Int.toNat_natCast];rw [l6];have h1:8*(p/8)+p%8=p:=by omega
 have h2:p%8<8:=by omega
 simp [h1,h2,hp]
theorem yl (l:List Int) (w i k:Nat) (hi:i<l.length) (hk:k<w):i*w+k<l.length*w∧fi l w (i*w+k)=(l[i]).toNat.testBit k:=by
 have h0:i*w+k<l.length*w:=by
  have:(i+1)*w≤l.length*w:=Zg _ hi;rw [Zu] at this;omega
 refine ⟨h0,?_⟩;unfold fi
 have h1:(i*w+k)/w=i:=by
  rw [X5,Nat.mul_add_div (by omega),Zx hk];rfl
 have h2:(i*w+k)%w=k:=by
  rw [X5,Nat.mul_add_mod,Nat.mod_eq_of_lt hk]
 rw [h1,h2,Z5,Z7 hi];simp [h0]
theorem Fi (l:List Int) (w i:Nat) (r:List Int) (hi:i<l.length) (hb:0≤l[i]∧l[i]<2^w):(unp (cM l w++r) w i:Int)=l[i]:=by
 have h1:unp (cM l w++r) w i=eI (fun k=>(l[i]).toNat.testBit k) w:=mu fun k hk=>by
  obtain ⟨h2,h3⟩:=yl l w i k hi hk;rw [Ab _ _ _ _ h2,h3]
 rw [h1,GD]
 ·omega
 ·have:((l[i].toNat:Nat):Int)<((2^w:Nat):Int):=by
   rw [Z6];have:((l[i].toNat:Nat):Int)=l[i]:=by omega
   rw [this];exact hb.2
  exact Int.ofNat_lt.1 this
theorem tR (n:Nat):chk (decide (0≤(n:Int)))=some ():=rF (decide_eq_true (Zj n))
theorem or8 {a b:Nat} (ha:a<256) (hb:b<256):bOr .u8 (a:Int) (b:Int)=((a|||b:Nat):Int):=by
 unfold bOr;rw [bm]
 have h1:(Zb Z4.bits (a:Int)).toNat=a:=by
  show (Zb 8 (a:Int)).toNat=a;rw [Z9];omega
 have h2:(Zb Z4.bits (b:Int)).toNat=b:=by
  show (Zb 8 (b:Int)).toNat=b;rw [Z9];omega
 rw [BitVec.toNat_or,h1,h2];have:a|||b<2^8:=Nat.or_lt_two_pow (by simpa using ha) (by simpa using hb)
 omega
theorem LH {a b:Nat} (ha:a<256) (hb:b<256):dh .u8 (a:Int) (b:Int)=((a&&&b:Nat):Int):=by
 unfold dh;rw [bm]
 have h1:(Zb Z4.bits (a:Int)).toNat=a:=by
  show (Zb 8 (a:Int)).toNat=a;rw [Z9];omega
 have h2:(Zb Z4.bits (b:Int)).toNat=b:=by
  show (Zb 8 (b:Int)).toNat=b;rw [Z9];omega
 rw [BitVec.toNat_and,h1,h2];have:a&&&b≤a:=Nat.and_le_left;omega
theorem Ad (x:Nat) (k:Nat):x/2^k&&&1=(x.testBit k).toNat:=by
 rw [Nat.and_one_is_mod,Zi];have:x/2^k%2=0∨x/2^k%2=1:=by omega
 rcases this with h|h<;>simp [h]
theorem LI {x:Int} {k:Nat} (h:0≤x∧x<18446744073709551616) (hk:k≤64):dh .u64 (aD .u64 x (k:Int)) 1=(x.toNat.testBit k).toNat:=by
 obtain ⟨n,rfl⟩:=Z8 h.1;rw [pW hk];have h1:((n:Int)/2^k)=((n/2^k:Nat):Int):=by simp [Z6]
 have h2:n/2^k≤n:=Zl _ _;rw [h1,show (1:Int)=((1:Nat):Int) from rfl,Jr (by omega) (by omega),Ad];simp
theorem Kl {x:Int} {k:Nat} (h:0≤x∧x<256) (hk:k≤8):dh .u8 (aD .u8 x (k:Int)) 1=(x.toNat.testBit k).toNat:=by
 obtain ⟨n,rfl⟩:=Z8 h.1;rw [Qx hk];have h1:((n:Int)/2^k)=((n/2^k:Nat):Int):=by simp [Z6]
 have h2:n/2^k≤n:=Zl _ _;rw [h1,show (1:Int)=((1:Nat):Int) from rfl,LH (by omega) (by omega),Ad];simp
theorem IC {i w k:Nat} (hi:i<1048576) (hw:w≤64) (hk:k≤64):Z0.wrap ((Z0.wrap ((i:Int)*(w:Int)))+(k:Int))=((i*w+k:Nat):Int):=by
 have:i*w≤1048576*64:=Zh (by omega) hw;have e:(i:Int)*(w:Int)=((i*w:Nat):Int):=by simp
 rw [e,ak (n:=((i*w:Nat):Int)) (by omega),ak (by omega)];omega
theorem Fj (n:Nat):((n:Int)).tdiv 8=((n/8:Nat):Int):=by
 rw [Zf (by omega)];rfl
theorem Js (n:Nat):((n:Int)).tmod 8=((n%8:Nat):Int):=by
 rw [Zt (by omega)];rfl
theorem Jt {i w:Nat} (hi:i<1048576) (hw:w≤64):Z0.wrap ((Z0.wrap ((Z0.wrap ((i:Int)*(w:Int)))+7)).tdiv 8)=(((i*w+7)/8:Nat):Int):=by
 have:i*w≤1048576*64:=Zh (by omega) hw;have e:=IC (i:=i) (w:=w) (k:=7) hi hw (by omega);rw [show ((7:Nat):Int)=7 from rfl] at e;rw [e,Fj,ak (by omega)]
def U64 (l:List Int):Prop:= ∀x∈l,0≤x∧x<18446744073709551616
theorem uD {α:Type} {N n:Nat} {z:α} (h:n≤N):mk N (n:Int) z=some (Z3 n z):=by
 unfold mk;rw [if_pos (by omega)];simp
theorem nN {α:Type} {xs:List α} {i:Nat} (h:i<xs.length):ix xs (i:Int)=some i:=by
 unfold ix;rw [if_pos (by omega)];simp
theorem Ba {l:List Int} {w:Nat} (hu:U64 l) (hl:l.length<1048576) (hw:w≤64):ir l (w:Int)=some (cM l w):=by
 have hlw:l.length*w≤1048576*64:=Zh (by omega) hw;unfold ir;rw [Jt hl hw,uD (by omega),Z1];refine aW (fun i=>((i:Int),jm l w (i*w))) l.length (by simp [Fh]) (fun i hi=> ?_) ?_
 ·dsimp only
  unfold iW;rw [if_pos (by simpa using hi),aA hi,Z1];have hx:=hu l[i] (Zk hi);refine aW (fun k=>((k:Int),jm l w (i*w+k))) w rfl (fun k hk=> ?_) ?_
  ·dsimp only
   unfold iV iU;obtain ⟨h1,h2⟩:=yl l w i k hi hk;rw [if_pos (by simpa using hk),rF (by simp),Z1,LI hx (by omega),IC (by omega) hw (by omega),Fj,Js,ak (by omega),aV (by omega)];cases hb:l[i].toNat.testBit k with
   |false=>
    rw [hb] at h2;rw [if_neg (by decide),Fg l w _ h2];rfl
   | true =>
    rw [hb] at h2;obtain ⟨x,hx1,hx2,hx3⟩:=GE l w _ h1 h2;have hlt:(i*w+k)/8<(jm l w (i*w+k)).length:=by rw [fE];omega
    rw [if_pos (by decide),nN hlt,Z1,hx2,Z1,tR,Z1,Z1,hx2,Z1]
    have h8:em .u8 1 (((i*w+k)%8:Nat):Int)=((2^((i*w+k)%8):Nat):Int):=by
     unfold em;rw [bm];have hm:min (((i*w+k)%8:Nat):Int).toNat Z4.bits=(i*w+k)%8:=by simp [IntKind.bits];omega
     rw [hm];have:(2:Nat)^((i*w+k)%8)≤2^7:=Zc (by decide) (by omega);rw [Z6];have e:((2:Int)^((i*w+k)%8))=(((2:Nat)^((i*w+k)%8):Nat):Int):=by simp [Z6]
     rw [show ((2:Nat):Int)=2 from rfl,e];generalize (2:Nat)^((i*w+k)%8)=m at*;omega
    have:(2:Nat)^((i*w+k)%8)≤2^7:=Zc (by decide) (by omega);rw [h8,or8 hx1 (by omega),hx3];rfl
  ·dsimp only
   unfold iV kG;rw [if_neg (by simp),aV (by omega)];simp [Zu]
 ·unfold iW kF
  rw [if_neg (by simp)];rfl
theorem Ae {r:aj} {n:Nat} (hn:n≤281474976710656):cH r (n:Int)=some (if r.fB.length<n then (Z3 n 0,⟨[],false⟩) else (r.fB.take n,⟨r.fB.drop n,r.fOk⟩)):=by
 unfold cH
 by_cases h:r.fB.length<n
 ·rw [if_pos (by simpa using h),if_pos h,uD hn];rfl
 ·rw [if_neg (by simpa using h),if_neg h,uD hn,Z1,ek (by omega) (Zn _)]
  simp only [Z1,List.take_length];unfold cpy;simp;omega
theorem Km (f:Nat→Bool) (k:Nat):eI f k|||2^k*(f k).toNat=eI f (k+1):=by
 rw [Nat.or_comm, ←Zq (mt f k)];rfl
theorem LJ {b:Bool} {k:Nat} (hk:k<64):em .u64 ((b.toNat:Nat):Int) (k:Int)=((2^k*b.toNat:Nat):Int):=by
 rw [y6 (by omega)];have h1:(2:Nat)^k<2^64:=Nat.pow_lt_pow_right (by decide) hk;have e:((2:Int)^k)=(((2:Nat)^k:Nat):Int):=by simp [Z6]
 rw [e];cases b
 ·simp
 ·simp only [Bool.toNat_true,Nat.mul_one]
  have:(2:Nat)^64=18446744073709551616:=by decide
  generalize (2:Nat)^k=m at*;omega
def rI (r:aj) (many w:Nat):List Int×aj:=
 if 64<w then (Z3 many 0,⟨r.fB,false⟩) else
 if r.fB.length<(many*w+7)/8 then (Z3 many 0,⟨[],false⟩) else
 ((Zw many).map fun i=>((unp r.fB w i:Nat):Int),⟨r.fB.drop ((many*w+7)/8),r.fOk⟩)
theorem GF {l:List Int} {n i:Nat} (h:i<n):(l.take n).getD i 0=l.getD i 0:=by
 rw [Z5,Z5,List.getElem?_take,if_pos h]
theorem ID (b:List Int) (w i n:Nat) (h:(i+1)*w≤8*n):unp (b.take n) w i=unp b w i:=mu fun k hk=>by
 rw [Zu] at h;unfold eu;rw [GF (by omega)]
theorem IE (n w i:Nat):unp (Z3 n 0) w i=0:=by
 have:unp (Z3 n 0) w i=eI (fun _=>false) w:=mu fun k hk=>by
  unfold eu;rw [Z5,List.getElem?_replicate];split<;>simp
 rw [this];have: ∀w,eI (fun _=>false) w=0:=by intro w;induction w with|zero=>rfl|succ w ih=>simp [eI,ih]
 exact this w
theorem xE {r:aj} {many w:Nat} (hb:Byt r.fB) (hm:many<1048576):dx r (many:Int) (w:Int)=some (rI r many w):=by
 unfold dx rI
 by_cases hw:64<w
 ·rw [if_pos (by simpa using by omega),if_pos hw,uD (by omega)];rfl
 rw [if_neg (by simpa using by omega),if_neg hw];have hw':w≤64:=by omega
 have hlw:many*w≤1048576*64:=Zh (by omega) hw';rw [Jt hm hw',Ae (by omega),Z1,uD (by omega),Z1]
 have key: ∀(b:List Int) (r':aj),Byt b→b.length=(many*w+7)/8→
   aq (fun s:(Int×List Int)=>dB (w:Int) (b,r') (Z3 many 0) s.1 s.2) (0,Z3 many 0)=some ((Zw many).map fun i=>((unp b w i:Nat):Int),r'):=by
  intro b r' hb hl;refine aW (fun i=>((i:Int),(Zw i).map (fun i=>((unp b w i:Nat):Int))++Z3 (many - i) 0)) many (by simp) (fun i hi=> ?_) ?_
  ·dsimp only
   unfold dB;rw [if_pos (by simpa using hi)];have hi1:(i+1)*w≤many*w:=Zg _ hi;rw [Zu] at hi1
   have h64: ∀k,k≤64→eI (fun k=>eu b (i*w+k)) k<18446744073709551616:=fun k hk=>by
    have:=mt (fun k=>eu b (i*w+k)) k;have h2:(2:Nat)^k≤2^64:=Zc (by decide) hk;have:(2:Nat)^64=18446744073709551616:=by decide
    omega
   refine aW (fun k=>((k:Int),(Zw i).map (fun i=>((unp b w i:Nat):Int))++((eI (fun k=>eu b (i*w+k)) k:Nat):Int)::Z3 (many - i - 1) 0)) w ?_ (fun k hk=> ?_) ?_
   ·have:many - i=(many - i - 1)+1:=by omega
    rw [this,List.replicate_succ];simp [eI]
   ·dsimp only
    unfold ej;have hat:(i*w+k)/8<b.length:=by omega
    have hlen:i<((Zw i).map (fun i=>((unp b w i:Nat):Int))++((eI (fun k=>eu b (i*w+k)) k:Nat):Int)::Z3 (many - i - 1) 0).length:=by simp
    have hget:((Zw i).map (fun i=>((unp b w i:Nat):Int))++((eI (fun k=>eu b (i*w+k)) k:Nat):Int)::Z3 (many - i - 1) 0)[i]? =some ((eI (fun k=>eu b (i*w+k)) k:Nat):Int):=by simp
    rw [if_pos (by simpa using hk),nN hlen,Z1,hget,Z1,IC (by omega) hw' (by omega),Fj,Js,ak (by omega),aA hat,Z1,tR,Z1,tR,Z1,Z1,hget,Z1,aV (by omega)];have hbb:=hb b[(i*w+k)/8] (Zk hat);rw [Kl hbb (by omega)]
    have e:b[(i*w+k)/8].toNat.testBit ((i*w+k)%8)=eu b (i*w+k):=by
     unfold eu;rw [Z5,Z7 hat];rfl
    rw [e,bD];have e2:(((eu b (i*w+k)).toNat:Nat):Int)%18446744073709551616=(((eu b (i*w+k)).toNat:Nat):Int):=by cases eu b (i*w+k)<;>rfl
    have h3:2^k*(eu b (i*w+k)).toNat<18446744073709551616:=by
     have h1:(2:Nat)^k<2^64:=Nat.pow_lt_pow_right (by decide) (by omega);have:(2:Nat)^64=18446744073709551616:=by decide
     cases eu b (i*w+k)<;>simp<;>omega
    rw [e2,LJ (by omega),Iz (h64 k (by omega)) h3,Km (fun k=>eu b (i*w+k)) k];congr 3;rw [List.set_append_right _ _ (by simp)];simp
   ·dsimp only
    unfold ej fO;rw [if_neg (by simp),aV (by omega)];have:many - i - 1=many - (i+1):=by omega
    rw [this];simp [List.range_succ,unp]
  ·dsimp only
   unfold dB fN;rw [if_neg (by simp)];simp
 by_cases hl:r.fB.length<(many*w+7)/8
 ·rw [if_pos hl,if_pos hl,key _ _ (fun c hc=>by rw [List.eq_of_mem_replicate hc];decide) (by simp)]
  congr 2;apply Zs
  ·simp
  ·intro j h1 h2;simp [IE]
 ·rw [if_neg hl,if_neg hl,key _ _ (hb.take _) (by simp;omega)]
  congr 2;apply Zs
  ·simp
  ·intro j h1 h2
   simp only [List.getElem_map,List.getElem_range];rw [ID];simp at h1;have:(j+1)*w≤many*w:=Zg _ h1;omega
def nO (l:List Int) (w q:Nat):List Int:=(Zw q).map fun p=>((fi l w p).toNat:Int)
theorem Fk (l:List Int) (w q:Nat):nO l w (q+1)=nO l w q++[((fi l w q).toNat:Int)]:=by simp [nO,List.range_succ]
theorem ym (l:List Int) {w:Nat} (hl:l.length<1048576) (hw:w≤64):ru (nO l w (l.length*w))=some (cM l w):=by
 have hlw:l.length*w≤1048576*64:=Zh (by omega) hw;unfold ru;have hlen:(nO l w (l.length*w)).length=l.length*w:=by simp [nO]
 refine aW (fun j=>((cM l w).take j,((8*j:Nat):Int))) ((l.length*w+7)/8) (by simp) (fun j hj=> ?_) ?_
 ·dsimp only
  unfold rt;rw [hlen,if_pos (by simpa using by omega)];have hpl:(cM l w).length=(l.length*w+7)/8:=fE _ _ _;refine aW (fun t=>(((eI (fun k=>decide (8*j+k<l.length*w)&&fi l w (8*j+k)) 8/2^(8 - t):Nat):Int),7 - (t:Int))) 8 ?_ (fun t ht=> ?_) ?_
  ·have:=mt (fun k=>decide (8*j+k<l.length*w)&&fi l w (8*j+k)) 8
   rw [Zx (by simpa using this)];simp
  ·dsimp only
   unfold rq rp;obtain ⟨k,hk⟩: ∃k,8=t+1+k:=⟨8 - t - 1,by omega⟩
   have e:7 - (t:Int)=(k:Int):=by omega
   have e1:8 - t=k+1:=by omega
   have e2:8 - (t+1)=k:=by omega
   have e4:Z0.wrap ((k:Int) - 1)=7 - ((t+1:Nat):Int):=by rw [ak (by omega)];omega
   have e5:Z0.wrap (((8*j:Nat):Int)+(k:Int))=((8*j+k:Nat):Int):=by rw [ak (by omega)];omega
   rw [e,if_pos (by simp),e1,e2,e4,e5,Eh _ k];have hN:=mt (fun k=>decide (8*j+k<l.length*w)&&fi l w (8*j+k)) 8;have hN2:eI (fun k=>decide (8*j+k<l.length*w)&&fi l w (8*j+k)) 8/2^k≤eI (fun k=>decide (8*j+k<l.length*w)&&fi l w (8*j+k)) 8:=Zl _ _;have hN3:=Eh (eI (fun k=>decide (8*j+k<l.length*w)&&fi l w (8*j+k)) 8) k;have hbk:=l6 (fun k=>decide (8*j+k<l.length*w)&&fi l w (8*j+k)) 8 k;have hk8:k<8:=by omega
   by_cases hp:8*j+k<l.length*w
   ·rw [if_pos (by simpa using by omega),aA (by rw [hlen];exact hp),Z1]
    have hg:(nO l w (l.length*w))[8*j+k]'(by rw [hlen];exact hp)=(((eI (fun k=>decide (8*j+k<l.length*w)&&fi l w (8*j+k)) 8).testBit k).toNat:Int):=by
     rw [hbk];simp [nO,hp,hk8]
    rw [hg,bm,bm];congr 3;omega
   ·rw [if_neg (by simpa using by omega)]
    have hg:(eI (fun k=>decide (8*j+k<l.length*w)&&fi l w (8*j+k)) 8).testBit k=false:=by
     rw [hbk];simp [hp]
    rw [hg] at hN3 ⊢;rw [bm];simp only [Bool.toNat_false,Nat.add_zero] at hN3 ⊢;congr 3;omega
  ·dsimp only
   unfold rq vN vM;rw [if_neg (by decide),aJ (by simp;omega),Z1];have h1:j<(cM l w).length:=by omega
   rw [Za h1];have h2:(cM l w)[j]=((eI (fun k=>decide (8*j+k<l.length*w)&&fi l w (8*j+k)) 8:Nat):Int):=l7 _ _ _ _ _;have e9:((8*j:Nat):Int)+8=((8*(j+1):Nat):Int):=by omega
   rw [h2,ak (by omega),e9];simp
 ·dsimp only
  unfold rt vL;rw [hlen,if_neg (by simp;omega)];rw [Zz (by unfold cM;rw [fE];omega)];rfl
theorem ve {l:List Int} {w:Nat} (hu:U64 l) (hl:l.length<1048576) (hw:w≤64):sw l (w:Int)=some (cM l w):=by
 have hlw:l.length*w≤1048576*64:=Zh (by omega) hw;unfold sw;refine aW (fun i=>(nO l w (i*w),(i:Int))) l.length (by simp [nO]) (fun i hi=> ?_) ?_
 ·dsimp only
  unfold rx;have hx:=hu l[i] (Zk hi);have hi1:(i+1)*w≤l.length*w:=Zg _ hi;rw [Zu] at hi1;rw [if_pos (by simpa using hi),aA hi,Z1];refine aW (fun k=>(nO l w (i*w+k),((l[i].toNat/2^k:Nat):Int),(k:Int))) w ?_ (fun k hk=> ?_) ?_
  ·simp;omega
  ·dsimp only
   unfold rv;obtain ⟨h1,h2⟩:=yl l w i k hi hk;have h3:l[i].toNat/2^k≤l[i].toNat:=Zl _ _;have h4:l[i].toNat/2^(k+1)=l[i].toNat/2^k/2:=by rw [Zo,Zd]
   have h5:(((l[i].toNat/2^k:Nat):Int)).tmod 2=((fi l w (i*w+k)).toNat:Int):=by
    rw [h2, ←Ad,Nat.and_one_is_mod,Zt (Zj _)];rfl
   rw [if_pos (by simpa using hk),h5,bm];have h6:((fi l w (i*w+k)).toNat:Int)%256=((fi l w (i*w+k)).toNat:Int):=by cases fi l w (i*w+k)<;>rfl
   rw [h6,aJ (by simp [nO];omega),Z1, ←Nat.add_assoc,Fk,aV (by omega),bD,Zf (Zj _),h4];congr 4;generalize l[i].toNat/2^k=q at*;omega
  ·dsimp only
   unfold rv vO;rw [if_neg (by simp),aV (by omega)];simp [Zu]
 ·dsimp only
  unfold rx;rw [if_neg (by simp),ym l hl hw];rfl
def wid (n:Nat):Nat:=if n=0 then 0 else n.log2+1
theorem CR (n:Nat):n<2^wid n:=by
 unfold wid;split
 ·omega
 ·exact Nat.lt_log2_self
theorem IF {n:Nat} (h:n≠0):wid n=wid (n/2)+1:=by
 unfold wid;rw [if_neg h]
 by_cases h1:n/2=0
 ·have:n=1:=by omega
  subst this;rfl
 ·rw [if_neg h1,Nat.log2_def,if_pos (by omega)]
theorem we {n k:Nat} (h:2^k≤n):wid n=wid (n/2^k)+k:=by
 induction k generalizing n with
 |zero=>simp
 |succ k ih=>
  rw [Zo] at h;have:0<2^k:=Nat.pow_pos (by decide);rw [IF (n:=n) (by omega),ih (n:=n/2) (by omega),Zo,X5 (2^k) 2, ←Zd];omega
theorem oT {n w:Nat} (h:n<2^w):wid n≤w:=by
 unfold wid;split
 ·omega
 ·rename_i h0
  have:=Nat.log2_lt h0 |>.2 h
  omega
theorem CT {n:Nat} (h:n<18446744073709551616):ut (n:Int)=some ((wid n:Nat):Int):=by
 unfold ut;have h64:wid n≤64:=oT (by simpa using h);refine aW (fun i=>(((n/2^i:Nat):Int),(i:Int))) (wid n) (by simp) (fun i hi=> ?_) ?_
 ·dsimp only
  unfold s9
  have h0:0<n/2^i:=by
   rcases Nat.eq_zero_or_pos (n/2^i) with h1|h1
   ·have:n<2^i:=by
     have:=Nat.div_eq_zero_iff.1 h1;have h2:0<2^i:=Nat.pow_pos (by decide);omega
    have:=oT this;omega
   ·exact h1
  have h3:n/2^i≤n:=Zl _ _;have h4:n/2^(i+1)=n/2^i/2:=by rw [Zo,Zd]
  generalize n/2^i=q at*;rw [if_pos (decide_eq_true (by omega)),Zf (Zj _),bD,aV (by omega),h4];congr 3;omega
 ·dsimp only
  unfold s9 xA;have:n/2^wid n=0:=Zx (CR n);rw [this,if_neg (by decide)];rfl
def IG:List Int:=[0,1,2,2,3,3,3,3,4,4,4,4,4,4,4,4,5,5,5,5,5,5,5,5,5,5,5,5,5,5,5,5,6,6,6,6,6,6,6,6,6,6,6,6,6,6,6,6,6,6,6,6,6,6,6,6,6,6,6,6,6,6,6,6,7,7,7,7,7,7,7,7,7,7,7,7,7,7,7,7,7,7,7,7,7,7,7,7,7,7,7,7,7,7,7,7,7,7,7,7,7,7,7,7,7,7,7,7,7,7,7,7,7,7,7,7,7,7,7,7,7,7,7,7,7,7,7,7,8,8,8,8,8,8,8,8,8,8,8,8,8,8,8,8,8,8,8,8,8,8,8,8,8,8,8,8,8,8,8,8,8,8,8,8,8,8,8,8,8,8,8,8,8,8,8,8,8,8,8,8,8,8,8,8,8,8,8,8,8,8,8,8,8,8,8,8,8,8,8,8,8,8,8,8,8,8,8,8,8,8,8,8,8,8,8,8,8,8,8,8,8,8,8,8,8,8,8,8,8,8,8,8,8,8,8,8,8,8,8,8,8,8,8,8,8,8,8,8,8,8,8,8,8,8,8,8]
theorem Kn: ∀n:_root_.Fin 256,idx IG ((n.val:Nat):Int)=some ((wid n.val:Nat):Int):=by decide+kernel
set_option maxRecDepth 100000 in
theorem CU (x y:Int):nA x y=(idx IG (Z4.wrap x)).bind fun r=>some (Z0.wrap (y+Z0.wrap r)):=rfl
theorem CW {n k:Nat} (h:n<256) (hk:k≤56):nA (n:Int) (k:Int)=some ((wid n+k:Nat):Int):=by
 have h1:idx IG (n:Int)=some ((wid n:Nat):Int):=Kn ⟨n,h⟩;have hw:wid n≤8:=oT (by simpa using h);rw [CU,bm,show ((n:Int)%256)=(n:Int) by omega,h1,Z1,ak (n:=((wid n:Nat):Int)) (by omega),ak (by omega)];congr 1;omega
theorem CX {n k:Nat} (h:n<65536) (hk:k≤48):nB (n:Int) (k:Int)=some ((wid n+k:Nat):Int):=by
 unfold nB
 by_cases h1:256≤n
 ·rw [if_pos (by simpa using by omega)]
  have e:aD .u64 (n:Int) 8=((n/2^8:Nat):Int):=by have:=pW (x:=(n:Int)) (k:=8) (by omega);simpa using this
  have e2:Z0.wrap ((k:Int)+8)=((k+8:Nat):Int):=by rw [ak (by omega)];rfl
  rw [e,e2,CW (by omega) (by omega),we (n:=n) (k:=8) (by omega)];congr 2;omega
 ·rw [if_neg (by simpa using by omega),CW (by omega) (by omega)]
theorem CY {n k:Nat} (h:n<4294967296) (hk:k≤32):nC (n:Int) (k:Int)=some ((wid n+k:Nat):Int):=by
 unfold nC
 by_cases h1:65536≤n
 ·rw [if_pos (by simpa using by omega)]
  have e:aD .u64 (n:Int) 16=((n/2^16:Nat):Int):=by have:=pW (x:=(n:Int)) (k:=16) (by omega);simpa using this
  have e2:Z0.wrap ((k:Int)+16)=((k+16:Nat):Int):=by rw [ak (by omega)];rfl
  rw [e,e2,CX (by omega) (by omega),we (n:=n) (k:=16) (by omega)];congr 2;omega
 ·rw [if_neg (by simpa using by omega),CX (by omega) (by omega)]
theorem CZ {n:Nat} (h:n<18446744073709551616):oF (n:Int)=some ((wid n:Nat):Int):=by
 unfold oF
 by_cases h1:4294967296≤n
 ·rw [if_pos (by simpa using by omega)]
  have e:aD .u64 (n:Int) 32=((n/2^32:Nat):Int):=by have:=pW (x:=(n:Int)) (k:=32) (by omega);simpa using this
  rw [e,show (32:Int)=((32:Nat):Int) from rfl,CY (by omega) (by omega),we (n:=n) (k:=32) (by omega)]
 ·rw [if_neg (by simpa using by omega),show (0:Int)=((0:Nat):Int) from rfl,CY (by omega) (by omega)]
  rfl
theorem len_eq {n:Nat} (h:n<18446744073709551616):pj (n:Int)=some ((wid n:Nat):Int):=by
 unfold pj;rw [CZ h];rfl
end Go.Proofs.YthbonoagbeilkaaGreat.Hay
