import Derived.Test.YthbonoagbeilkaaGreatHbM
set_option linter.unusedVariables false
namespace Go.Proofs.YthbonoagbeilkaaGreat.Hay
open Option renaming bind_some→Zt
open List renaming getElem?_append_right→Z1,getElem?_eq_some_iff→Z2,getElem?_append_left→Z4,mem_cons→Z6,mem_append→Z9,drop_append_of_le_length→Zb,mem_zipIdx_iff_getElem?→Zd,all_eq_true→Zf,any_eq_true→Zg,getElem?_take→Zh,map_cons→Zj,mem_map_of_mem→Zk,length_append→Zl,mem_singleton→Zm,mem_map→Zn,set_append_right→Zp,eq_nil_of_length_eq_zero→Zq,set_append_left→Zs,append_assoc→Zw,length_cons→Zx,replicate→Zy,drop_left→Zz
open Nat renaming eq_of_beq_eq_true→Z0,le_of_ble_eq_true→Z3,beq→Z7,add_sub_cancel_left→Za,blt→Zc,ble_eq_true_of_le→Ze,lt_or_ge→Zi,le_trans→Zo,add_zero→Zr,ble→Zv,not_le→X3
open Bool renaming and_eq_true→Z5,noConfusion→Zu
open M.le renaming refl→Z8
section
variable {G:Sg}{P:Program}{δ:List Nat}{n:Nat}{W0:Bse}{L0:Rs}{T0:List (Nat×Value)}{m0:M}{st:St G}{a:Act}{w:World}{Γ:Tab P G}{ty t t2:TypeId}{d:Nat}{pos:String}{aft:Array Edge}{g:Option (Nat×Bool)}{x y:Operand}{o:Oper}
def TG (G:Sg) (P:Program) (δ:List Nat) (n:Nat) (W0:Bse) (L0:Rs) (T0:List (Nat×Value)) (m0:M) (st:St G) (r:Option (mU G)) (o:Oper) (a:Act) (w:World):Prop:=
 ∀R b,r=some R→R.mv=some b→bg P o a w (λv w'=>Sat G P δ n W0 L0 T0 m0 (R.k b) (a.put o.dst v) w'∧Ext st.c st (R.k b)∧(R.k b).c=st.c)
theorem TG.none:TG G P δ n W0 L0 T0 m0 st none o a w:=λR b hr=>by cases hr
theorem TG.one {s:St G}(h:bg P o a w (λv w'=>Sat G P δ n W0 L0 T0 m0 s (a.put o.dst v) w'∧Ext st.c st s∧s.c=st.c)):TG G P δ n W0 L0 T0 m0 st (vR s) o a w:=λR b hr hb=>by
 injection hr with hr;subst hr;exact h
theorem TG.two {β:Type}{mv:Option β}{k:β→St G}(h:∀b,mv=some b→bg P o a w (λv w'=>Sat G P δ n W0 L0 T0 m0 (k b) (a.put o.dst v) w'∧Ext st.c st (k b)∧(k b).c=st.c)):TG G P δ n W0 L0 T0 m0 st (two mv k) o a w:=λR b hr hb=>by
 injection hr with hr;subst hr;exact h b hb
theorem Sat.of {env:List (Nat×Nat×EV G)} {L:List (Nat×BC G)} {T:List Nat} {c:Nat} {m m':M} {z:Cz} {e:EV G} {v:Value} {w':World} (h0:M.le m0 m) (hm:M.le m m') (hr:j0 G P m' z env a) (hv:e.Rel G P m' z v) (hM:gk G W0 L0 T0 L T m' z w')
  (hd:Zc d n=true) (hdf:a.defers=δ.map λD=>{ target:= .collected D,args:= #[] }) (hs:a.tmps.size=n):Sat G P δ n W0 L0 T0 m0 (St.put ⟨env,c,L,T⟩ d e) (a.put (some d) v) w':=
 ⟨⟨m',z,h0.trans hm,hr.put hs hd hv,hM⟩,by simp[Act.put,hdf],by simp[Act.put,hs]⟩
theorem Sat.of0 {env:List (Nat×Nat×EV G)} {L:List (Nat×BC G)} {T:List Nat} {c:Nat} {m m':M} {z:Cz} {v:Value} {w':World} (h0:M.le m0 m) (hm:M.le m m') (hr:j0 G P m' z env a) (hM:gk G W0 L0 T0 L T m' z w')
  (hdf:a.defers=δ.map λD=>{ target:= .collected D,args:= #[] }) (hs:a.tmps.size=n):Sat G P δ n W0 L0 T0 m0 ⟨env,c,L,T⟩ (a.put none v) w':=
 ⟨⟨m',z,h0.trans hm,hr,hM⟩,hdf,hs⟩
theorem Zle.pushB (z:Cz)(p:Nat×Value):Zle z ⟨p::z.b,z.t⟩:=⟨λ_ _ h=>xj h,λ_ _ h=>h⟩
theorem Zle.pushT (z:Cz)(v:Value):Zle z ⟨z.b,v::z.t⟩:=⟨λ_ _ h=>h,λ_ _ h=>xj h⟩
theorem jH {α:Type}{x:α}{l:List α}:fb (x::l) l.length=some x:=by
 simp[fb]
theorem gk.len {Ls:List (Nat×BC G)}{Ts:List Nat}{m:M}{z:Cz}(h:gk G W0 L0 T0 Ls Ts m z w):z.b.length=Ls.length∧z.t.length=Ts.length:=by
 obtain⟨Lc,Tc,h1,h2,_⟩:=h;exact⟨h1.len.1,h2.len.1⟩
theorem gk.push {Ls:List (Nat×BC G)} {Ts:List Nat} {m:M} {z:Cz} {w':World} {Lc:List (Nat×List Value)} {Tc:List (Nat×Value)} {b:Nat} {cs:List Value} {sv:Value} {s:Nat} {B:BC G} (h1:LR G m Ls z.b Lc) (h2:TRl Ts z.t Tc)
  (hS:S W0 m w' ((b,cs)::(Lc++L0.l)) (Tc++T0)) (hsf:Sfx z.b L0.nm) (hB:B.Rel G m (b,sv) cs):gk G W0 L0 T0 ((s,B)::Ls) Ts m ⟨(b,sv)::z.b,z.t⟩ w':=
 ⟨(b,cs)::Lc,Tc,⟨rfl,hB,h1⟩,h2,hS,hsf.cons⟩
theorem Ext.push_put {B:BC G}{e:EV G}:Ext st.c st ((st.push B).put d e):=Ext.push.trans (Ext.put (st:=st.push B))
theorem Ext.envL {st st':St G}(h1:st'.env=st.env)(h2:st'.L=st.L):Ext st.c st st':=by
 refine⟨λk _ e he hl=>⟨e.2.1,hl,?_⟩,λk _ i s B hb hs=>⟨s,hs,?_⟩⟩
 ·rw[h1] at he;exact he
 ·rw[h2] at hb;exact hb
theorem GF (hs:Sat G P δ n W0 L0 T0 m0 st a w)(hd:Zc d n=true):TG G P δ n W0 L0 T0 m0 st (allocT Γ st t d) ⟨some d,.alloc t,ty,pos,aft,g⟩ a w:=by
 obtain⟨⟨m,z,h0,hr,hM⟩,hdf,hsz⟩:=hs;have hlen:=hM.len;obtain⟨Lc,Tc,h1,h2,hS,hsf⟩:=hM;unfold allocT;split
 ·rename_i R _
  refine .one ((dS hS R.hz R.hzc).imp λv w' hq=>?_);obtain⟨b,rfl,hS'⟩:=hq;have hB:(BC.arr R.t (some R.n) (Zy R.n R.z)).Rel G m (b,.slice (some ⟨b,0,none⟩) R.n R.n) (Zy R.n R.c).flatten:=⟨GS.zero R.hzR R.hn,by simp⟩
  exact⟨Sat.of h0 (Z8 m) (hr.z (Z8 m) (Zle.pushB z _)) ⟨_,by rw[←hlen.1];exact jH,rfl⟩ (gk.push h1 h2 hS' hsf hB) hd hdf hsz,Ext.push_put,rfl⟩
 ·split
  ·rename_i I _
   refine .one ((dS hS I.hz (cs:=I.zv.cells.toList) (by simp)).imp λv w' hq=>?_);obtain⟨b,rfl,hS'⟩:=hq;have hB:(BC.dat I.T I.z).Rel G m (b,undef) I.zv.cells.toList:=I.hzR m;exact⟨Sat.of h0 (Z8 m) (hr.z (Z8 m) (Zle.pushB z _)) ⟨_,by rw[←hlen.1];exact jH,rfl⟩ (gk.push h1 h2 hS' hsf hB) hd hdf hsz,Ext.push_put,rfl⟩
  ·exact .none
theorem Kl (hs:Sat G P δ n W0 L0 T0 m0 st a w)(hd:Zc d n=true):TG G P δ n W0 L0 T0 m0 st (Iv Γ st t x d) ⟨some d,.box t x,ty,pos,aft,g⟩ a w:=by
 obtain⟨⟨m,z,h0,hr,hM⟩,hdf,hsz⟩:=hs;have hlen:=hM.len;obtain⟨Lc,Tc,h1,h2,hS,hsf⟩:=hM;unfold Iv;split
 ·rename_i I b _ hx
  split
  ·rename_i y hy
   obtain⟨l,hE,hl⟩:=d4 hdf hsz [x];have hv:=AV.as_rel hy (bp (fc hr) hx);refine .one ((kq hE hS (hl x (by simp)) hv).imp λv w' hq=>?_);obtain⟨b,cs,rfl,hc,hS'⟩:=hq;have hB:(BC.dat I.T y).Rel G m (b,undef) cs:=hc;exact⟨Sat.of h0 (Z8 m) (hr.z (Z8 m) (Zle.pushB z _)) ⟨_,by rw[←hlen.1];exact jH,rfl⟩ (gk.push h1 h2 hS' hsf hB) hd hdf hsz,Ext.push_put,rfl⟩
  ·exact .none
 ·exact .none
theorem lD {α:Type}{l l0:List α}{j:Nat}{x y:α}(h:l[j]? =some y):(l++l0).set j x=l.set j x++l0:=by
 have:j<l.length:=(Z2.1 h).1;rw[Zs _ _ this]
theorem kw {α:Type}{l l0:List α}{j:Nat}{y:α}(h:l[j]? =some y):(l++l0)[j]? =some y:=by
 have:j<l.length:=(Z2.1 h).1;rw[Z4 this];exact h
theorem GG (hs:Sat G P δ n W0 L0 T0 m0 st a w):TG G P δ n W0 L0 T0 m0 st (CL Γ st t x y) ⟨none,.store t x y,ty,pos,aft,g⟩ a w:=by
 obtain⟨⟨m,z,h0,hr,hM⟩,hdf,hsz⟩:=hs;obtain⟨Lc,Tc,h1,h2,hS,hsf⟩:=hM;unfold CL;split
 ·rename_i I p q _ hx hy
  obtain⟨l,hE,hl⟩:=d4 hdf hsz [x,y];have hxl:=hl x (by simp);have hyl:=hl y (by simp);have hp:=bp (fc hr) hx;split
  ·rename_i vv hv
   have hV:=AV.as_rel hv (bp (fc hr) hy);split
   ·rename_i i
    split
    ·rename_i c x0 hB
     split
     ·rename_i hc
      subst hc;obtain⟨s,hs⟩:=ia hB;obtain⟨p',cs,j,g1,g2,g3,g4⟩:=h1.get hs;obtain⟨p'',g5,g6⟩:=hp;rw[g1] at g5;injection g5 with g5;subst g5
      rw[g6] at hxl;refine .one ((dG hE hS I.ok bm hxl hyl hV (kw g2) g3).imp λv w' hq=>?_);obtain⟨cs',hc',hS'⟩:=hq;have hB':(BC.dat I.T vv).Rel G m (p'.1,p'.2) cs':=hc';have:=g4 (st.c,BC.dat I.T vv) p'.2 cs' hB';rw[ku g1] at this;exact⟨Sat.of0 h0 (Z8 m) hr ⟨_,Tc,this,h2,by rw[←lD g2];exact hS',hsf⟩ hdf hsz,Ext.setB,rfl⟩
     ·exact .none
    ·exact .none
   ·rename_i i c b A
    split
    ·rename_i c' x0 hB
     split
     ·rename_i x1 v1 e1 e2
      obtain⟨e,e1⟩:=bY e1;subst e;subst e1;obtain⟨e,e2⟩:=bY e2;subst e;subst e2;obtain⟨s,hs⟩:=ia hB;obtain⟨p',cs,j,g1,g2,g3,g4⟩:=h1.get hs;obtain⟨p'',g5,g6⟩:=hp;rw[g1] at g5;injection g5 with g5;subst g5
      rw[g6] at hxl;refine .one ((dG hE hS I.ok A.stf hxl hyl hV (kw g2) g3).imp λv w' hq=>?_);obtain⟨cs',hc',hS'⟩:=hq;have:=g4 (st.c,BC.dat c' _) p'.2 cs' hc';rw[ku g1] at this;exact⟨Sat.of0 h0 (Z8 m) hr ⟨_,Tc,this,h2,by rw[←lD g2];exact hS',hsf⟩ hdf hsz,Ext.setB,rfl⟩
     ·exact .none
    ·exact .none
   ·rename_i i j c b A
    split
    ·rename_i c' nn xs hB
     split
     ·rename_i ys v1 e1 e2
      obtain⟨e,e1⟩:=bY e1;injection e with e
      subst e;subst e1;obtain⟨e,e2⟩:=bY e2;subst e;subst e2;refine .two λx1 hx1=>?_;obtain⟨s,hs⟩:=ia hB;obtain⟨p',cs,j',g1,g2,g3,g4⟩:=h1.get hs;obtain⟨p'',g5,g6⟩:=hp;rw[g1] at g5;injection g5 with g5;subst g5
      rw[g6] at hxl;refine(ef hE hS I.ok A.stf g3.1 hx1 hxl hyl hV (kw g2)).imp λv w' hq=>?_;obtain⟨cs',hc',hS'⟩:=hq
      have hB':(BC.arr c' nn (List.set (α:=c'.den G) _ j (A.set x1 _))).Rel G m (p'.1,p'.2) cs':=⟨hc',by
       have:=g3.2;cases nn with
       |none=>trivial
       |some k=>exact(List.length_set ..).trans this⟩
      have:=g4 (st.c,_) p'.2 cs' hB';rw[ku g1] at this;exact⟨Sat.of0 h0 (Z8 m) hr ⟨_,Tc,this,h2,by rw[←lD g2];exact hS',hsf⟩ hdf hsz,Ext.setB,rfl⟩
     ·exact .none
    ·exact .none
   ·exact .none
  ·exact .none
 ·exact .none
theorem Ep {c:Ty} {l:List (Nat×Value)} {m:M} {z:Cz}: ∀{ps:List (Nat×Operand)} {k:Nat} {xs:List (c.den G)} {σ:Operand→Option (AV G)},(∀p∈ps,∀b,σ p.2=some b→ ∃v,evl l p.2=some v∧b.Rel G P m z v)→
  z7 Γ c (ps.map λp=>(p.1,σ p.2)) k=some xs→∃vs,ps.mapM (λp=>(evl l p.2).map λv=>(p.1,v))=some (num k vs)∧RVl (c.kd G) m vs xs∧vs.length=ps.length
 |[],k,xs,σ,_,h=>by
  simp only[List.map_nil,z7,Option.some.injEq] at h;subst h;exact⟨[],rfl,trivial,rfl⟩
 | (i, o) :: ps, k, xs, σ, hr, h => by
  simp only[Zj] at h;cases hs:σ o with
  |none=>simp[hs,z7] at h
  | some b =>
   rw[hs] at h;unfold z7 at h;split at h
   ·rename_i hik
    subst hik;split at h
    ·rename_i x xs' hx hxs
     injection h with h
     subst h;obtain⟨v,g1,g2⟩:=hr (i,o) (by simp) b hs;obtain⟨vs,k1,k2,k3⟩:=Ep (λp hp=>hr p (by simp[hp])) hxs;exact⟨v::vs,by simp[g1,k1,num],⟨AV.as_rel hx g2,k2⟩,by simp[k3]⟩
    ·cases h
   ·cases h
theorem Km {len:Nat}{ps:Array (Nat×Operand)}(hs:Sat G P δ n W0 L0 T0 m0 st a w)(hd:Zc d n=true):TG G P δ n W0 L0 T0 m0 st (Iw Γ st t len ps d) ⟨some d,.buildSlice t len ps,ty,pos,aft,g⟩ a w:=by
 obtain⟨⟨m,z,h0,hr,hM⟩,hdf,hsz⟩:=hs;have hlen:=hM.len;obtain⟨Lc,Tc,h1,h2,hS,hsf⟩:=hM;unfold Iw;split
 ·split
  ·rename_i c B _
   split
   ·rename_i xs hxs
    split
    ·rename_i hc
     obtain⟨l,hE,hl⟩:=d4 hdf hsz (ps.toList.map (·.2));obtain⟨vs,k1,k2,k3⟩:=Ep (σ:=λx=>av? (st.op x)) (λp hp b hb=>⟨_,hl p.2 (Zk hp),bp (fc hr) hb⟩) hxs;refine .one ((fC hE hS k1 B.hu B.hs B.hz k2 (len:=len) (by rw[k3];exact hc.1) hc.2).imp λv w' hq=>?_);obtain⟨m',hm,hS',hv⟩:=hq;refine⟨Sat.of (z:=⟨z.b,v::z.t⟩) h0 hm (hr.z hm (Zle.pushT z v)) ⟨hv,?_⟩ ⟨Lc,((c.kd G).sz,v)::Tc,h1.mono hm,⟨rfl,h2⟩,hS',hsf⟩ hd hdf hsz,(Ext.envL (st:=st) (st':={ st with T:=(c.kd G).sz::st.T }) rfl rfl).trans (Ext.put (st:={ st with T:=(c.kd G).sz::st.T })),rfl⟩;show fb (v::z.t) st.T.length=some v
     rw[←hlen.2];exact jH
    ·exact .none
   ·exact .none
  ·exact .none
 ·exact .none
theorem AV.rel_app {b:AV G}{v u:Value}{j:Nat}{m:M}{z:Cz}(h:b.Rel G P m z v):(b.tagged j=false→b.Rel G P m ⟨z.b,sb z.t j u⟩ v)∧b.er.Rel G P m ⟨z.b,sb z.t j u⟩ v:=by
 cases b with
 | dat t x o =>
  refine⟨λhb=>⟨h.1,?_⟩,⟨h.1,trivial⟩⟩;cases o with
  |none=>trivial
  |some i=>
   have hne:j≠i:=λe=>by subst e;simp[AV.tagged] at hb
   show fb (sb z.t j u) i=some v;rw[jY hne];exact h.2
 |_=>exact⟨λ_=>h,h⟩
theorem CN {asv:List (AV G)}{vs:List Value}{u:Value}{j:Nat}{m:M}{z:Cz}(h:pw G P m z asv vs):(asv.any (AV.tagged j)=false→pw G P m ⟨z.b,sb z.t j u⟩ asv vs)∧pw G P m ⟨z.b,sb z.t j u⟩ (asv.map AV.er) vs:=by
 induction asv generalizing vs with
 |nil=>cases vs<;>exact⟨λ_=>h,h⟩
 | cons b asv ih =>
  cases vs with
  |nil=>exact h.elim
  |cons v vs=>
   have h1:=AV.rel_app (u:=u) (j:=j) h.1;have h2:=ih h.2;refine⟨λhb=>?_,⟨h1.2,h2.2⟩⟩;simp only[List.any_cons,Bool.or_eq_false_iff] at hb;exact⟨h1.1 hb.1,h2.1 hb.2⟩
theorem sG {env:List (Nat×Nat×EV G)}{u:Value}{j c:Nat}{m:M}{z:Cz}(h:j0 G P m z env a):j0 G P m ⟨z.b,sb z.t j u⟩ (nJ j c env) a:=by
 intro e he;obtain⟨e0,h0,rfl⟩:=Zn.1 he;have hr:=h e0 h0;split
 ·show (EV.er e0.2.2).Rel G P m _ (a.tmps.getD e0.1 undef)
  cases hb:e0.2.2 with
  |one b=>rw[hb] at hr;exact(AV.rel_app hr).2
  |tup asv=>rw[hb] at hr;obtain⟨vs,k1,k2⟩:=hr;exact⟨vs,k1,(CN k2).2⟩
 ·rename_i ht
  simp only[Bool.not_eq_true] at ht;cases hb:e0.2.2 with
  |one b=>rw[hb] at hr ht;exact(AV.rel_app hr).1 ht
  |tup asv=>rw[hb] at hr ht;obtain⟨vs,k1,k2⟩:=hr;exact⟨vs,k1,(CN k2).1 ht⟩
theorem Ext.er {j:Nat}:Ext st.c st { st with env:=nJ j st.c st.env }:=
 ⟨λk hk e he hl=>by
  obtain⟨e0,h0,rfl⟩:=Zn.1 he;split at hl
  ·simp only at hl;omega
  ·rename_i ht
   rw[if_neg ht]
   exact⟨e0.2.1,hl,h0⟩,λk _ i s B hb hs=>⟨s,hs,hb⟩⟩
theorem AV.own_eq {q:AV G}{i:Nat}(h:q.own?=some i):q= .own i:=by
 cases q<;>simp[AV.own?] at h;rw[h]
theorem Er {c:Ty} {q:AV G} {ys:List (c.den G)} {m:M} {z:Cz} {v:Value} {Lc:List (Nat×List Value)} {TL:List (Nat×Value)} (h1:LR G m st.L z.b Lc) (hS:S W0 m w (Lc++L0.l) TL) {I2:TI P G t2}
  (hq:q.Rel G P m z v) (h:Iu Γ (eW st.L) c I2.T q=some ys):uv P (c.kd G) m w t2 v ys:=by
 unfold Iu at h;split at h
 ·rename_i hT
  split at h
  ·rename_i s hs
   obtain⟨e,h⟩:=bY h;injection e with e
   subst e;subst h;obtain⟨rfl,k1,_⟩:=AV.s_rel hs hq;exact J5 (TI.str hT) k1
  ·cases h
 ·rename_i c0 hT
  unfold LP at h;split at h
  ·rename_i i hi
   rw[AV.own_eq hi] at hq;cases hB:eW st.L i with
   |none=>simp[hB] at h
   | some B =>
    cases B with
    |arr c' nn xs=>
     simp only[hB] at h;obtain⟨e,h⟩:=bY h;injection e with e
     subst e;subst h;obtain⟨s,hs⟩:=ia hB;obtain⟨p',cs,j,g1,g2,g3,g4⟩:=h1.get hs;obtain⟨p'',g5,rfl⟩:=hq;rw[g1] at g5;injection g5 with g5;subst g5
     exact Eh hS (I2.sl hT).hu (kw g2) g3.1
    |_=>simp[hB] at h
  ·exact ql hS (I2.sl hT).hu (AV.as_rel h hq)
 ·cases h
theorem Kn (hs:Sat G P δ n W0 L0 T0 m0 st a w)(hd:Zc d n=true):TG G P δ n W0 L0 T0 m0 st (Ix Γ st t t2 x y d) ⟨some d,.call ⟨.builtin .append,#[x,y],#[t,t2]⟩,ty,pos,aft,g⟩ a w:=by
 obtain⟨⟨m,z,h0,hr,hM⟩,hdf,hsz⟩:=hs;have hlen:=hM.len;obtain⟨Lc,Tc,h1,h2,hS,hsf⟩:=hM;unfold Ix;split
 ·rename_i I I2 p q _ _ hx hy
  obtain⟨l,hE,hl⟩:=d4 hdf hsz [x,y];have hxl:=hl x (by simp);have hyl:=hl y (by simp);have hp:=bp (fc hr) hx;have hq:=bp (fc hr) hy;split
  ·rename_i c B _
   have hN:Zv (nx xn B.by_*B.by_) 140737488355328=true:=Ze (B6 xn B.by_).1;have hM:Zv (nx xn B.by_) 281474976710656=true:=Ze (Zo (B6 xn B.by_).2 (by decide));split
   ·rename_i ys hys
    split
    ·refine .two fun zs hzs=> ?_
     have hv:a.eval x= .slice none 0 0:=hp;rw[hv] at hxl;have hS0:=hS.tail0 (c.kd G).sz;refine(zX hE hS0 hxl hyl B.hu B.hel (i:=0) rfl dL (Er h1 hS hq hys) hzs hN hM).imp λv w' hq=>?_;obtain⟨m',hm,hS',hv⟩:=hq;refine⟨Sat.of (z:=⟨z.b,v::z.t⟩) h0 hm (hr.z hm (Zle.pushT z v)) ⟨hv,?_⟩ ⟨Lc,((c.kd G).sz,v)::Tc,h1.mono hm,⟨rfl,h2⟩,hS',hsf⟩ hd hdf hsz,(Ext.envL (st:=st) (st':={ st with T:=(c.kd G).sz::st.T }) rfl rfl).trans (Ext.put (st:={ st with T:=(c.kd G).sz::st.T })),rfl⟩;show fb (v::z.t) st.T.length=some v;rw[←hlen.2];exact jH
    ·rename_i t' xs0 j
     split
     ·rename_i xs hc
      obtain⟨e,hc⟩:=bY hc;subst e;subst hc;split
      ·rename_i hj
       refine .two λzs hzs=>?_;obtain⟨i,k1,k2⟩:=h2.get hj hp.2;refine(zX hE hS hxl hyl B.hu B.hel (kw k1) hp.1 (Er h1 hS hq hys) hzs hN hM).imp λv w' hq=>?_;obtain⟨m',hm,hS',hv⟩:=hq;rw[lD k1] at hS';have hr':=sG (u:=v) (j:=j) (c:=st.c) hr;refine⟨Sat.of (z:=⟨z.b,sb z.t j v⟩) h0 hm (λe he=>(hr' e he).mono hm) ⟨hv,n9 hp.2⟩ ⟨Lc,_,h1.mono hm,k2 v,hS',hsf⟩ hd hdf hsz,Ext.er.trans (Ext.put (st:={ st with env:=nJ j st.c st.env })),rfl⟩
      ·exact .none
     ·exact .none
    ·exact .none
   ·exact .none
  ·exact .none
 ·exact .none
theorem Iy {x y:Operand}{l:List (Nat×Value)}{p q:AV G}{k k':IntKind}{i i':Int}{m:M}{z:Cz}(h:Fh x y=true)(hx:evl l x=some (.int k i))(hy:evl l y=some (.int k' i')):i=i':=by
 unfold Fh at h;split at h
 ·have:=Z0 h
  subst this;rw[hx] at hy;injection hy with hy;injection hy
 ·have h:=of_decide_eq_true h
  subst h;simp only[evl,Option.some.injEq,Value.int.injEq] at hx hy;omega
 ·cases h
theorem Iz (hs:Sat G P δ n W0 L0 T0 m0 st a w)(hd:Zc d n=true):TG G P δ n W0 L0 T0 m0 st (Fi Γ st t x y d) ⟨some d,.makeSlice t x y,ty,pos,aft,g⟩ a w:=by
 obtain⟨⟨m,z,h0,hr,hM⟩,hdf,hsz⟩:=hs;have hlen:=hM.len;obtain⟨Lc,Tc,h1,h2,hS,hsf⟩:=hM;unfold Fi;split
 ·rename_i I p q _ hx hy
  obtain⟨l,hE,hl⟩:=d4 hdf hsz [x,y];have hxl:=hl x (by simp);have hyl:=hl y (by simp);have hp:=bp (fc hr) hx;have hq:=bp (fc hr) hy;split
  ·rename_i c B k i k' i' _ e1 e2
   split
   ·rename_i hsame
    refine .two λzs hzs=>?_;rw[(AV.i_rel e1 hp).1] at hxl;rw[(AV.i_rel e2 hq).1] at hyl;have:=Iy (p:=p) (q:=q) (m:=m) (z:=z) hsame hxl hyl;subst this;refine(ry (m:=m) hE hS hxl hyl B.hu B.hi B.hiz B.hsz B.hby B.hzR hzs (Ze (B6 Fg B.by_).1) (Ze (B6 Fg B.by_).2)).imp λv w' hq=>?_;obtain⟨b,cs,hg,hS'⟩:=hq;have hB:(BC.arr c none zs).Rel G m (b,v) cs:=⟨hg,trivial⟩
    exact⟨Sat.of h0 (Z8 m) (hr.z (Z8 m) (Zle.pushB z _)) ⟨_,by rw[←hlen.1];exact jH,rfl⟩ (gk.push h1 h2 hS' hsf hB) hd hdf hsz,Ext.push_put,rfl⟩
   ·exact .none
  ·exact .none
 ·exact .none
theorem IA (hs:Sat G P δ n W0 L0 T0 m0 st a w)(hd:Zc d n=true):TG G P δ n W0 L0 T0 m0 st (Fj Γ st t x y d) ⟨some d,.call ⟨.builtin .copy,#[x,y],#[t,t2]⟩,ty,pos,aft,g⟩ a w:=by
 obtain⟨⟨m,z,h0,hr,hM⟩,hdf,hsz⟩:=hs;obtain⟨Lc,Tc,h1,h2,hS,hsf⟩:=hM;unfold Fj;split
 ·rename_i I i q _ hx hy
  obtain⟨l,hE,hl⟩:=d4 hdf hsz [x,y];have hxl:=hl x (by simp);have hyl:=hl y (by simp);have hp:=bp (fc hr) hx;have hq:=bp (fc hr) hy;split
  ·rename_i c B c' nn xs0 _ hB
   split
   ·rename_i xs ys e1 e2
    obtain⟨e,e1⟩:=bY e1;injection e with e
    subst e;subst e1;obtain⟨s,hs⟩:=ia hB;obtain⟨p',cs,j,g1,g2,g3,g4⟩:=h1.get hs;obtain⟨p'',g5,g6⟩:=hp;rw[g1] at g5;injection g5 with g5;subst g5
    rw[g6] at hxl;refine .one ((Cq hE hS hxl hyl B.hu B.hs (kw g2) g3.1 (AV.as_rel e2 hq)).imp λv w' hq=>?_);obtain⟨rfl,cs',hc',hS'⟩:=hq
    have hB':(BC.arr c' nn (cpy (α:=c'.den G) _ ys)).Rel G m (p'.1,p'.2) cs':=⟨hc',by
     have:=g3.2;cases nn with
     |none=>trivial
     |some k=>
      have hh:=GS.len_eq g3.1 hc'
      exact hh.trans this⟩
    have:=g4 (st.c,_) p'.2 cs' hB';rw[ku g1] at this;exact⟨Sat.of h0 (Z8 m) hr (c9 (P:=P) (dK (Zo (Nat.min_le_right _ _) (GS.len g3.1)))) ⟨_,Tc,this,h2,by rw[←lD g2];exact hS',hsf⟩ hd hdf hsz,Ext.setB.trans (Ext.put (st:=st.setB i _)),rfl⟩
   ·exact .none
  ·exact .none
 ·exact .none
theorem Ko {o:Op}{dst:Option Nat}(hs:Sat G P δ n W0 L0 T0 m0 st a w)(hd:∀d,dst=some d→Zc d n=true):TG G P δ n W0 L0 T0 m0 st (CM Γ st o dst) ⟨dst,o,ty,pos,aft,g⟩ a w:=by
 unfold CM;split
 ·exact GF hs (hd _ rfl)
 ·exact Kl hs (hd _ rfl)
 ·exact GG hs
 ·exact Km hs (hd _ rfl)
 ·exact Kn hs (hd _ rfl)
 ·exact IA hs (hd _ rfl)
 ·exact Iz hs (hd _ rfl)
 ·exact .none
end
set_option linter.unusedVariables false
section
variable {G:Sg}{P:Program}
def EV.isOwn (i:Nat):EV G→Bool
 | .one (.own j)=>Z7 i j
 |_=>false
def frz (st:St G) (i:Nat):St G:=
 match eW st.L i with
 |some (.arr c none xs)=>{ st with env:=st.env.map λe=>if e.2.2.isOwn i then (e.1,st.c,.one (.dat (.sl c) xs none)) else e,L:=sb st.L i (st.c,.gone) }
 |_=>st
def uz (st:St G) (x:Operand):St G:=
 match av? (st.op x) with
 |some (.own i)=>frz st i
 |_=>st
def uA:List Pm→List Operand→St G→St G
 | .rd _::ps,x::xs,st=>uA ps xs (uz st x)
 |_::ps,_::xs,st=>uA ps xs st
 |_,_,st=>st
def ir (Γ : Tab P G) : (ps : List Pm) → List Operand → St G → Option (d5 G ps × St G × List (Nat × Option Nat))
 |[],[],st=>some ((),st,[])
 | .rd t :: ps, x :: xs, st =>(match ir Γ ps xs st with
  |some (y,st',bk)=>(match av? (st'.op x) with
   |some b=>(match b.as Γ t with|some u=>some ((u,y),st',bk)|none=>none)
   |none=>none)
  |none=>none)
 | .ap t :: ps, x :: xs, st =>(match ir Γ ps xs st with
  | some (y, st', bk) =>(match av? (st'.op x) with
   |some .nils=>some (([],y),st',bk)
   |some (.dat t' u (some j))=>(match dM G t' (.sl t) u with
    |some u=>if fb st'.T j=some (t.kd G).sz then some ((u,y),{ st' with env:=nJ j st'.c st'.env },bk) else none
    |none=>none)
   |_=>none)
  |none=>none)
 | .pt t :: ps, x :: xs, st =>(match ir Γ ps xs st with
  | some (y, st', bk) =>(match av? (st'.op x) with
   |some (.blk i)=>(match eW st'.L i with
    |some (.dat c u)=>(match dM G c t u with|some u=>some ((u,y),st'.setB i .gone,(i,none)::bk)|none=>none)
    |_=>none)
   |_=>none)
  |none=>none)
 | .ow t :: ps, x :: xs, st =>(match ir Γ ps xs st with
  | some (y, st', bk) =>(match av? (st'.op x) with
   |some (.own i)=>(match eW st'.L i with
    |some (.arr c n u)=>(match dM G (.sl c) (.sl t) u with|some u=>some ((u,y),st'.setB i .gone,(i,n)::bk)|none=>none)
    |_=>none)
   |_=>none)
  |none=>none)
 | .f1 a b :: ps, x :: xs, st =>(match ir Γ ps xs st with
  |some (y,st',bk)=>(match av? (st'.op x) with
   |some (.fn1 a' b' f)=>if h:a'=a∧b'=b then some ((h.1 ▸ h.2 ▸ f,y),st',bk) else none
   |_=>none)
  |none=>none)
 | .f2 a c b :: ps, x :: xs, st =>(match ir Γ ps xs st with
  |some (y,st',bk)=>(match av? (st'.op x) with
   |some (.fn2 a' c' b' f)=>if h:a'=a∧c'=c∧b'=b then some ((h.1 ▸ h.2.1 ▸ h.2.2 ▸ f,y),st',bk) else none
   |_=>none)
  |none=>none)
 |_,_,_=>none
def jv (G:Sg):(ps:List Pm)→List (Nat×Option Nat)→bH G (ps.filterMap Pm.out)→St G→St G
 | .pt t::ps,(i,_)::bk,x,st=>jv G ps bk (tlT G t (ps.filterMap Pm.out) x) (st.setB i (.dat t (hdT G t (ps.filterMap Pm.out) x)))
 | .ow t::ps,(i,n)::bk,x,st=>jv G ps bk (tlT G (.sl t) (ps.filterMap Pm.out) x) (st.setB i (.arr t n (hdT G (.sl t) (ps.filterMap Pm.out) x)))
 | .rd _::ps,bk,x,st=>jv G ps bk x st
 | .ap _::ps,bk,x,st=>jv G ps bk x st
 | .f1 _ _::ps,bk,x,st=>jv G ps bk x st
 | .f2 _ _ _::ps,bk,x,st=>jv G ps bk x st
 |_,_,_,st=>st
def mV (G:Sg) (os:List Ty):(rs:List Rm)→bH G (rs.map Rm.ty++os)→St G→List (AV G)×St G
 |[],_,st=>([],st)
 | .rd t::rs,x,st=>match mV G os rs (tlT G t (rs.map Rm.ty++os) x) st with|(asv,st')=>(.dat t (hdT G t (rs.map Rm.ty++os) x) none::asv,st')
 | .ap t::rs,x,st=>match mV G os rs (tlT G (.sl t) (rs.map Rm.ty++os) x) st with|(asv,st')=>(.dat (.sl t) (hdT G (.sl t) (rs.map Rm.ty++os) x) (some st'.T.length)::asv,{ st' with T:=(t.kd G).sz::st'.T })
 | .ow t::rs,x,st=>match mV G os rs (tlT G (.sl t) (rs.map Rm.ty++os) x) st with|(asv,st')=>(.own st'.L.length::asv,st'.push (.arr t none (hdT G (.sl t) (rs.map Rm.ty++os) x)))
def evs:List (AV G)→EV G
 |[b]=> .one b
 |asv=> .tup asv
def y4:List (CS P G)→FuncId→Option (CS P G)
 |[],_=>none
 |c::D,f=>if Z7 c.f f then some c else y4 D f
def vS (C:CS P G) (st':St G) (bk:List (Nat×Option Nat)) (d:Option Nat) (r:bH G (ib C.ps C.rs)):St G:=
 match mV G (C.ps.filterMap Pm.out) C.rs r (jv G C.ps bk (rest G (C.ps.filterMap Pm.out) C.rs r) st') with
 |(asv,st2)=>match d with|some d=>st2.put d (evs asv)|none=>st2
def Fk (Γ:Tab P G) (D:List (CS P G)) (st:St G) (f:FuncId) (xs:List Operand) (d:Option Nat):Option (mU G):=
 match y4 D f with
 |some C=>(match ir Γ C.ps xs (uA C.ps xs st) with
  |some (x,st',bk)=>two (C.g x) (vS C st' bk d)
  |none=>none)
 |none=>none
def Fl (Γ:Tab P G) (st:St G) (x:Operand) (xs:List Operand) (d:Nat):Option (mU G):=
 match av? (st.op x),xs with
 |some (.fn1 a b f),[y]=>(match av? (st.op y) with
  |some p=>(match p.as Γ a with|some u=>two (f u) λr=>st.put d (.one (.dat b r none))|none=>none)
  |none=>none)
 |some (.fn2 a c b f),[y,y']=>(match av? (st.op y),av? (st.op y') with
  |some p,some p'=>(match p.as Γ a,p'.as Γ c with|some u,some u'=>two (f u u') λr=>st.put d (.one (.dat b r none))|_,_=>none)
  |_,_=>none)
 |_,_=>none
end
set_option linter.unusedVariables false
set_option linter.unusedSimpArgs false
section
variable {G:Sg}{P:Program}{δ:List Nat}{n:Nat}{W0:Bse}{L0:Rs}{T0:List (Nat×Value)}{m0:M}{st:St G}{a:Act}{w:World}{Γ:Tab P G}{ty t t2:TypeId}{pos:String}{aft:Array Edge}{g:Option (Nat×Bool)}
theorem tY {α:Type}{A B C:List α}{j:Nat}{x y:α}(h:B[j]? =some y):(A++(B++C)).set (A.length+j) x=A++(B.set j x++C):=by
 rw[Zp _ _ (by omega),Za,lD h]
theorem tZ {α:Type}{A B C:List α}{j:Nat}{y:α}(h:B[j]? =some y):(A++(B++C))[A.length+j]? =some y:=by
 rw[Z1 (by omega),Za];exact kw h
structure MF (G:Sg) (P:Program) (W0:Bse) (L0:Rs) (T0:List (Nat×Value)) (a:Act) (w:World) (m:M) (z:Cz) (st:St G) (Lp:List (Nat×List Value)) (Tp:List (Nat×Value)):Prop where
 env:j0 G P m z st.env a
 mem:∃Lc Tc,LR G m st.L z.b Lc∧TRl st.T z.t Tc∧S W0 m w (Lp++(Lc++L0.l)) (Tp++(Tc++T0))∧Sfx z.b L0.nm
theorem IB {m m':M} {z:Cz} {i:Nat} {c:Ty} {xs:List (c.den G)} {p:Nat×Value} {env:List (Nat×Nat×EV G)} {s:Nat} (hz:fb z.b i=some p) (hm:M.le m m') (hv:RV (kSl (c.kd G)) m' p.2 xs) (h:j0 G P m z env a):
  j0 G P m' z (env.map λe=>if e.2.2.isOwn i then (e.1,s,.one (.dat (.sl c) xs none)) else e) a:=by
 intro e he;obtain⟨e0,h0,rfl⟩:=Zn.1 he;have hr:=h e0 h0;split
 ·rename_i ho
  show(RV (kSl (c.kd G)) m' (a.tmps.getD e0.1 undef) xs)∧True;cases hb:e0.2.2 with
  |tup asv=>rw[hb] at ho;simp[EV.isOwn] at ho
  |one b=>
   rw[hb] at ho hr;cases b<;>simp[EV.isOwn] at ho;subst ho;obtain⟨p',h1,h2⟩:=hr;rw[hz] at h1;injection h1 with h1;subst h1
   rw[h2];exact⟨hv,trivial⟩
 ·exact hr.mono hm
theorem LQ {m:M}{z:Cz}{i:Nat}(h:MF G P W0 L0 T0 a w m z st [] []):∃m',M.le m m'∧MF G P W0 L0 T0 a w m' z (frz st i) [] []∧Ext st.c st (frz st i)∧(frz st i).c=st.c:=by
 unfold frz;split
 ·rename_i c xs hB
  obtain⟨hr,Lc,Tc,h1,h2,hS,hsf⟩:=h;obtain⟨s,hs⟩:=ia hB;obtain⟨p',cs,j,g1,g2,g3,g4⟩:=h1.get hs;have hS0:S W0 m w (Lc++L0.l) (Tc++T0):=hS;have hS1:=S.takeL hS0 (kw g2);rw[lD g2] at hS1;obtain⟨m',hm,hS2,hv⟩:=S.freeze hS1 g3.1;refine⟨m',hm,⟨IB g1 hm hv hr,_,Tc,?_,h2,hS2,hsf⟩,?_,rfl⟩
  ·have:=(g4 (st.c,BC.gone) p'.2 [] rfl).mono hm
   rw[ku g1] at this;exact this
  ·refine ⟨fun k hk e he hl=> ?_,fun k hk i s B hb hs=> ?_⟩
   ·obtain ⟨e0,h0,rfl⟩:=Zn.1 he
    split at hl
    ·simp only at hl;omega
    ·rename_i ho
     rw[if_neg ho];exact⟨e0.2.1,hl,h0⟩
   ·rcases JD hb with ⟨_,h1⟩|⟨_,h⟩
    ·injection h1 with h1 _;omega
    ·exact⟨s,hs,h⟩
 ·exact⟨m,Z8 m,h,Ext.refl _ _,rfl⟩
theorem Es {m:M}{z:Cz}{x:Operand}(h:MF G P W0 L0 T0 a w m z st [] []):∃m',M.le m m'∧MF G P W0 L0 T0 a w m' z (uz st x) [] []∧Ext st.c st (uz st x)∧(uz st x).c=st.c:=by
 unfold uz;split
 ·exact LQ h
 ·exact⟨m,Z8 m,h,Ext.refl _ _,rfl⟩
theorem ye {m:M}{z:Cz}:∀{ps:List Pm} {xs:List Operand} {st:St G} {m:M},MF G P W0 L0 T0 a w m z st [] []→∃m',M.le m m'∧MF G P W0 L0 T0 a w m' z (uA ps xs st) [] []∧Ext st.c st (uA ps xs st)∧(uA ps xs st).c=st.c:=by
 intro ps
 induction ps with
 |nil=>intro xs st m h;cases xs<;>exact⟨m,Z8 m,h,Ext.refl _ _,rfl⟩
 | cons p ps ih =>
  intro xs st m h;cases xs with
  |nil=>cases p<;>exact⟨m,Z8 m,h,Ext.refl _ _,rfl⟩
  | cons x xs =>
   cases p with
   |rd t=>
    obtain⟨m1,h1,h2,h3,h4⟩:=Es (x:=x) h;obtain⟨m2,k1,k2,k3,k4⟩:=ih (xs:=xs) h2;rw[h4] at k3 k4;exact⟨m2,h1.trans k1,k2,h3.trans k3,k4⟩
   |_=>exact ih h
def BK (G:Sg) (z:Cz) (Ls:List (Nat×BC G)):List Pm→List (Nat×Option Nat)→List Value→List (Nat×List Value)→Prop
 |[],[],_,[]=>True
 | .pt t::ps,(i,_)::bk,v::vs,e::Lp=>(∃sv s,fb z.b i=some (e.1,sv)∧fb Ls i=some (s,.gone))∧(∀q∈bk,q.1≠i)∧BK G z Ls ps bk vs Lp
 | .ow t::ps,(i,n)::bk,v::vs,e::Lp=>(∃s,fb z.b i=some (e.1,v)∧fb Ls i=some (s,.gone))∧(∀q∈bk,q.1≠i)∧(∃m cs,∃xs:List (t.den G),GS (t.kd G) m e.1 cs v xs∧(match n with|none=>True|some k=>xs.length=k))∧BK G z Ls ps bk vs Lp
 | .rd _::ps,bk,_::vs,Lp=>BK G z Ls ps bk vs Lp
 | .ap _::ps,bk,_::vs,Lp=>BK G z Ls ps bk vs Lp
 | .f1 _ _::ps,bk,_::vs,Lp=>BK G z Ls ps bk vs Lp
 | .f2 _ _ _::ps,bk,_::vs,Lp=>BK G z Ls ps bk vs Lp
 |_,_,_,_=>False
theorem BK.gone {z:Cz}{Ls:List (Nat×BC G)}:∀{ps:List Pm} {bk:List (Nat×Option Nat)} {vs:List Value} {Lp:List (Nat×List Value)},BK G z Ls ps bk vs Lp→∀q∈bk,∃s,fb Ls q.1=some (s,.gone):=by
 intro ps
 induction ps with
 |nil=>intro bk vs Lp h q hq;cases bk with|nil=>cases hq|cons b bk=>exact h.elim
 | cons p ps ih =>
  intro bk vs Lp h q hq;cases p with
  | pt t =>
   cases bk with
   |nil=>cases hq
   | cons b bk =>
    cases vs with
    |nil=>exact h.elim
    | cons v vs =>
     cases Lp with
     |nil=>exact h.elim
     |cons e Lp=>
      obtain⟨⟨sv,s,_,h1⟩,_,h2⟩:=h;rcases Z6.1 hq with rfl|hq
      ·exact⟨s,h1⟩
      ·exact ih h2 q hq
  | ow t =>
   cases bk with
   |nil=>cases hq
   | cons b bk =>
    cases vs with
    |nil=>exact h.elim
    | cons v vs =>
     cases Lp with
     |nil=>exact h.elim
     |cons e Lp=>
      obtain⟨⟨s,_,h1⟩,_,_,h2⟩:=h;rcases Z6.1 hq with rfl|hq
      ·exact⟨s,h1⟩
      ·exact ih h2 q hq
  |_=>
   cases vs with
   |nil=>cases bk<;>exact h.elim
   |cons v vs=>exact ih h q hq
theorem BK.other {z:Cz}{Ls:List (Nat×BC G)}{i:Nat}{B:Nat×BC G}:∀{ps:List Pm} {bk:List (Nat×Option Nat)} {vs:List Value} {Lp:List (Nat×List Value)},BK G z Ls ps bk vs Lp→(∀q∈bk,q.1≠i)→BK G z (sb Ls i B) ps bk vs Lp:=by
 intro ps
 induction ps with
 |nil=>intro bk vs Lp h _;cases bk<;>cases Lp<;>first|exact h|exact h.elim
 | cons p ps ih =>
  intro bk vs Lp h hne;cases p with
  | pt t =>
   cases bk with
   |nil=>cases vs<;>cases Lp<;>exact h.elim
   | cons b bk =>
    cases vs with
    |nil=>exact h.elim
    | cons v vs =>
     cases Lp with
     |nil=>exact h.elim
     |cons e Lp=>
      obtain⟨⟨sv,s,h0,h1⟩,h2,h3⟩:=h;exact⟨⟨sv,s,h0,by rw[jY (λx=>hne b (by simp) x.symm)];exact h1⟩,h2,ih h3 λq hq=>hne q (by simp[hq])⟩
  | ow t =>
   cases bk with
   |nil=>cases vs<;>cases Lp<;>exact h.elim
   | cons b bk =>
    cases vs with
    |nil=>exact h.elim
    | cons v vs =>
     cases Lp with
     |nil=>exact h.elim
     |cons e Lp=>
      obtain⟨⟨s,h0,h1⟩,h2,h4,h3⟩:=h;exact⟨⟨s,h0,by rw[jY (λx=>hne b (by simp) x.symm)];exact h1⟩,h2,h4,ih h3 λq hq=>hne q (by simp[hq])⟩
  |_=>
   cases vs with
   |nil=>cases bk<;>exact h.elim
   |cons v vs=>exact ih h hne
theorem yf {m : M} {z : Cz} (h : MF G P W0 L0 T0 a w m z st [] []) : ∀ {ps : List Pm} {xs : List Operand} {y : d5 G ps} {st' : St G} {bk : List (Nat × Option Nat)}, ir Γ ps xs st = some (y, st', bk) →
  ∃z' Lp Tp,z'.b=z.b∧MF G P W0 L0 T0 a w m z' st' Lp Tp∧jZ G P m ps (xs.map a.eval) y Lp Tp∧BK G z' st'.L ps bk (xs.map a.eval) Lp∧Ext st.c st st'∧st'.c=st.c:=by
 intro ps
 induction ps with
 | nil =>
  intro xs y st' bk he;cases xs with
  |cons x xs=>simp[ir] at he
  |nil=>
   simp only[ir,Option.some.injEq,Prod.mk.injEq] at he;obtain⟨_,rfl,rfl⟩:=he;exact⟨z,[],[],rfl,h,trivial,trivial,Ext.refl _ _,rfl⟩
 | cons p ps ih =>
  intro xs y st' bk he;cases xs with
  |nil=>cases p<;>simp[ir] at he
  | cons x xs =>
   cases hr:ir Γ ps xs st with
   |none=>cases p<;>simp[ir,hr] at he
   | some q =>
    obtain⟨y1,st1,bk1⟩:=q;obtain⟨z1,Lp,Tp,hz,hM,hP,hK,hx,hc⟩:=ih hr;obtain⟨hE,Lc,Tc,h1,h2,hS,hsf⟩:=hM;have hrel:∀b,av? (st1.op x)=some b→b.Rel G P m z1 (a.eval x):=λb hb=>bp (fc hE) hb;cases p with
    | rd t =>
     simp only[ir,hr] at he;split at he
     ·rename_i b hb
      split at he
      ·rename_i u hu
       simp only[Option.some.injEq,Prod.mk.injEq] at he;obtain⟨rfl,rfl,rfl⟩:=he;exact⟨z1,Lp,Tp,hz,⟨hE,Lc,Tc,h1,h2,hS,hsf⟩,⟨AV.as_rel hu (hrel b hb),hP⟩,hK,hx,hc⟩
      ·cases he
     ·cases he
    | ap t =>
     simp only[ir,hr] at he;split at he
     ·rename_i hb
      simp only[Option.some.injEq,Prod.mk.injEq] at he;obtain⟨rfl,rfl,rfl⟩:=he;have hv:a.eval x= .slice none 0 0:=hrel _ hb;refine⟨z1,Lp,((t.kd G).sz,.slice none 0 0)::Tp,hz,⟨hE,Lc,Tc,h1,h2,hS.tail0 _,hsf⟩,?_,hK,hx,hc⟩;show RV _ m (a.eval x) _∧_∧_;rw[hv];exact⟨dL,rfl,hP⟩
     ·rename_i t' u j hb
      split at he
      ·rename_i u' hu
       obtain⟨e,hu⟩:=bY hu;subst e;subst hu;split at he
       ·rename_i hj
        simp only[Option.some.injEq,Prod.mk.injEq] at he;obtain⟨rfl,rfl,rfl⟩:=he;have hv:=hrel _ hb;obtain⟨i,k1,k2⟩:=h2.get hj hv.2;have hS1:=S.takeT hS (tZ k1);rw[tY k1] at hS1;refine⟨⟨z1.b,sb z1.t j (.slice none 0 0)⟩,Lp,((t.kd G).sz,a.eval x)::Tp,hz,⟨sG hE,Lc,_,h1,k2 _,hS1,hsf⟩,⟨hv.1,rfl,hP⟩,?_,hx.trans ?_,hc⟩
        ·show BK G _ st1.L ps _ _ Lp
         clear hP hr;revert hK
         have:∀{ps:List Pm} {bk:List (Nat×Option Nat)} {vs:List Value} {Lp:List (Nat×List Value)},BK G z1 st1.L ps bk vs Lp→BK G ⟨z1.b,sb z1.t j (.slice none 0 0)⟩ st1.L ps bk vs Lp:=by
          intro ps
          induction ps with
          |nil=>intro bk vs Lp h;cases bk<;>cases Lp<;>first|exact h|exact h.elim
          | cons p ps ih =>
           intro bk vs Lp h;cases p with
           |pt t=>
            cases bk<;>cases vs<;>cases Lp<;>first|exact h.elim|exact⟨h.1,h.2.1,ih h.2.2⟩
           |ow t=>
            cases bk<;>cases vs<;>cases Lp<;>first|exact h.elim|exact⟨h.1,h.2.1,h.2.2.1,ih h.2.2.2⟩
           |_=>
            cases vs with
            |nil=>cases bk<;>exact h.elim
            |cons v vs=>exact ih h
         exact this
        ·have:=Ext.er (st:=st1) (j:=j)
         rw[hc] at this ⊢;exact this
       ·cases he
      ·cases he
     ·cases he
    | pt t =>
     simp only[ir,hr] at he;split at he
     ·rename_i i hb
      split at he
      ·rename_i c u hB
       split at he
       ·rename_i u' hu
        obtain⟨e,hu⟩:=bY hu;subst e;subst hu;simp only[Option.some.injEq,Prod.mk.injEq] at he;obtain⟨rfl,rfl,rfl⟩:=he;obtain⟨p,g5,g6⟩:=hrel _ hb;obtain⟨s,hs⟩:=ia hB;obtain⟨p',cs,j,g1,g2,g3,g4⟩:=h1.get hs;rw[g1] at g5;injection g5 with g5;subst g5
        have hS1:=S.takeL hS (tZ g2);rw[tY g2] at hS1;have hL:=g4 (st1.c,BC.gone) p'.2 [] rfl;rw[ku g1] at hL
        have hne:∀q∈bk1,q.1≠i:=λq hq e=>by
         obtain⟨s',hg⟩:=hK.gone q hq;rw[e,hs] at hg;injection hg with hg;injection hg with _ hg;cases hg
        refine⟨z1,(p'.1,cs)::Lp,Tp,hz,⟨hE,_,Tc,hL,h2,hS1,hsf⟩,⟨g3,g6,hP⟩,⟨⟨p'.2,st1.c,g1,n9 hs⟩,hne,hK.other hne⟩,hx.trans ?_,hc⟩;have:=Ext.setB (st:=st1) (i:=i) (B:= .gone);rw[hc] at this;exact this
       ·cases he
      ·cases he
     ·cases he
    | ow t =>
     simp only[ir,hr] at he;split at he
     ·rename_i i hb
      split at he
      ·rename_i c nn u hB
       split at he
       ·rename_i u' hu
        obtain⟨e,hu⟩:=bY hu;injection e with e
        subst e;subst hu;simp only[Option.some.injEq,Prod.mk.injEq] at he;obtain⟨rfl,rfl,rfl⟩:=he;obtain⟨p,g5,g6⟩:=hrel _ hb;obtain⟨s,hs⟩:=ia hB;obtain⟨p',cs,j,g1,g2,g3,g4⟩:=h1.get hs;rw[g1] at g5;injection g5 with g5;subst g5
        have hS1:=S.takeL hS (tZ g2);rw[tY g2] at hS1;have hL:=g4 (st1.c,BC.gone) p'.2 [] rfl;rw[ku g1] at hL
        have hne:∀q∈bk1,q.1≠i:=λq hq e=>by
         obtain⟨s',hg⟩:=hK.gone q hq;rw[e,hs] at hg;injection hg with hg;injection hg with _ hg;cases hg
        have g3':=g3.1;rw[←g6] at g3';refine⟨z1,(p'.1,cs)::Lp,Tp,hz,⟨hE,_,Tc,hL,h2,hS1,hsf⟩,⟨g3',hP⟩,⟨⟨st1.c,by rw[g1,g6],n9 hs⟩,hne,⟨m,cs,_,g3',g3.2⟩,hK.other hne⟩,hx.trans ?_,hc⟩;have:=Ext.setB (st:=st1) (i:=i) (B:= .gone);rw[hc] at this;exact this
       ·cases he
      ·cases he
     ·cases he
    | f1 b c =>
     simp only[ir,hr] at he;split at he
     ·rename_i a' b' f hb
      split at he
      ·rename_i hh
       obtain⟨rfl,rfl⟩:=hh;simp only[Option.some.injEq,Prod.mk.injEq] at he;obtain⟨rfl,rfl,rfl⟩:=he;exact⟨z1,Lp,Tp,hz,⟨hE,Lc,Tc,h1,h2,hS,hsf⟩,⟨hrel _ hb,hP⟩,hK,hx,hc⟩
      ·cases he
     ·cases he
    | f2 b c d =>
     simp only[ir,hr] at he;split at he
     ·rename_i a' c' b' f hb
      split at he
      ·rename_i hh
       obtain⟨rfl,rfl,rfl⟩:=hh;simp only[Option.some.injEq,Prod.mk.injEq] at he;obtain⟨rfl,rfl,rfl⟩:=he;exact⟨z1,Lp,Tp,hz,⟨hE,Lc,Tc,h1,h2,hS,hsf⟩,⟨hrel _ hb,hP⟩,hK,hx,hc⟩
      ·cases he
     ·cases he
end
set_option linter.unusedVariables false
set_option linter.unusedSimpArgs false
section
variable {G:Sg}{P:Program}{δ:List Nat}{n:Nat}{W0:Bse}{L0:Rs}{T0:List (Nat×Value)}{m0:M}{st:St G}{a:Act}{w:World}{Γ:Tab P G}{ty t t2:TypeId}{pos:String}{aft:Array Edge}{g:Option (Nat×Bool)}
theorem Kp {L0 : List (Nat × List Value)} {m : M} {z : Cz} {TL : List (Nat × Value)} : ∀ {ps : List Pm} {bk : List (Nat × Option Nat)} {vs : List Value} {Lp Lp' Lc : List (Nat × List Value)} {x : bH G (ps.filterMap Pm.out)} {st : St G}, BK G z st.L ps bk vs Lp → iC G m ps vs x Lp Lp' → LR G m st.L z.b Lc → S W0 m w (Lp' ++ (Lc ++ L0)) TL →
  ∃Lc',LR G m (jv G ps bk x st).L z.b Lc'∧S W0 m w (Lc'++L0) TL∧(jv G ps bk x st).env=st.env∧(jv G ps bk x st).T=st.T∧(jv G ps bk x st).c=st.c∧Ext st.c st (jv G ps bk x st):=by
 intro ps
 induction ps with
 |nil=>
  intro bk vs Lp Lp' Lc x st hK hO hL hS;cases bk<;>cases Lp<;>cases Lp'<;>first|exact hK.elim|exact hO.elim|exact⟨Lc,hL,hS,rfl,rfl,rfl,Ext.refl _ _⟩
 | cons p ps ih =>
  intro bk vs Lp Lp' Lc x st hK hO hL hS;cases p with
  | pt t =>
   cases bk with
   |nil=>cases vs<;>cases Lp<;>exact hK.elim
   | cons b bk =>
    cases vs with
    |nil=>exact hK.elim
    | cons v vs =>
     cases Lp with
     |nil=>exact hK.elim
     | cons e Lp =>
      cases Lp' with
      |nil=>exact hO.elim
      |cons e' Lp'=>
       obtain⟨⟨sv,s,k1,k2⟩,hne,hK⟩:=hK;obtain⟨o1,o2,hO⟩:=hO;obtain⟨p',cs,j,g1,g2,g3,g4⟩:=hL.get k2;rw[k1] at g1;injection g1 with g1;subst g1
       have hcs:cs=[]:=g3;subst hcs;have hB:(BC.dat t (hdT G t (ps.filterMap Pm.out) x)).Rel G m (e.1,sv) e'.2:=o2;have hL':=g4 (st.c,_) sv e'.2 hB;rw[ku k1] at hL';have hS1:S W0 m w (e'::(Lp'++(Lc++L0))) TL:=hS;have hS':=S.putL hS1 (tZ g2);rw[tY g2,show e'=(e.1,e'.2) from by rw[←o1]] at hS';obtain⟨Lc',r1,r2,r3,r4,r5,r6⟩:=ih (st:=st.setB b.1 (.dat t (hdT G t (ps.filterMap Pm.out) x))) (hK.other hne) hO hL' hS';exact⟨Lc',r1,r2,r3,r4,r5,Ext.setB.trans r6⟩
  | ow t =>
   cases bk with
   |nil=>cases vs<;>cases Lp<;>exact hK.elim
   | cons b bk =>
    cases vs with
    |nil=>exact hK.elim
    | cons v vs =>
     cases Lp with
     |nil=>exact hK.elim
     | cons e Lp =>
      cases Lp' with
      |nil=>exact hO.elim
      | cons e' Lp' =>
       obtain⟨⟨s,k1,k2⟩,hne,⟨mm,css,xs,k3,k4⟩,hK⟩:=hK;obtain⟨o1,o2,hO⟩:=hO;obtain⟨p',cs,j,g1,g2,g3,g4⟩:=hL.get k2;rw[k1] at g1;injection g1 with g1;subst g1
       have hcs:cs=[]:=g3;subst hcs;rw[o1] at o2
       have hB:(BC.arr t b.2 (hdT G (.sl t) (ps.filterMap Pm.out) x)).Rel G m (e.1,v) e'.2:=⟨o2,by
        revert k4;cases b.2 with
        |none=>intro _;trivial
        |some k=>intro k4;exact(GS.len_eq k3 o2).trans k4⟩
       have hL':=g4 (st.c,_) v e'.2 hB;rw[ku k1] at hL';have hS1:S W0 m w (e'::(Lp'++(Lc++L0))) TL:=hS;have hS':=S.putL hS1 (tZ g2);rw[tY g2,show e'=(e.1,e'.2) from by rw[←o1]] at hS';obtain⟨Lc',r1,r2,r3,r4,r5,r6⟩:=ih (st:=st.setB b.1 (.arr t b.2 (hdT G (.sl t) (ps.filterMap Pm.out) x))) (hK.other hne) hO hL' hS';exact⟨Lc',r1,r2,r3,r4,r5,Ext.setB.trans r6⟩
  |_=>
   cases vs with
   |nil=>cases bk<;>exact hK.elim
   |cons v vs=>exact ih hK hO hL hS
theorem Zle.trans {z1 z2 z3:Cz}(h:Zle z1 z2)(k:Zle z2 z3):Zle z1 z3:=⟨λi p hp=>k.b i p (h.b i p hp),λj v hv=>k.t j v (h.t j v hv)⟩
theorem pw.z {m:M}{z z':Cz}{asv:List (AV G)}{vs:List Value}(h:pw G P m z asv vs)(hz:Zle z z'):pw G P m z' asv vs:=by
 induction asv generalizing vs with
 |nil=>cases vs<;>exact h
 |cons b asv ih=>
  cases vs with
  |nil=>exact h
  |cons v vs=>exact⟨h.1.z hz,ih h.2⟩
theorem LS {os:List Ty} {m:M}: ∀{rs:List Rm} {us:List Value} {x:bH G (rs.map Rm.ty++os)} {Lr:List (Nat×List Value)} {Tr:List (Nat×Value)} {st:St G} {z:Cz} {Lc:List (Nat×List Value)} {Tc:List (Nat×Value)},mT G m os rs us x Lr Tr→LR G m st.L z.b Lc→TRl st.T z.t Tc→
  ∃z',Zle z z'∧LR G m (mV G os rs x st).2.L z'.b (Lr++Lc)∧TRl (mV G os rs x st).2.T z'.t (Tr++Tc)∧pw G P m z' (mV G os rs x st).1 us∧(mV G os rs x st).2.env=st.env∧(mV G os rs x st).2.c=st.c∧Ext st.c st (mV G os rs x st).2∧∀{s:List (Nat×Value)},Sfx z.b s→Sfx z'.b s:=by
 intro rs
 induction rs with
 |nil=>
  intro us x Lr Tr st z Lc Tc h h1 h2;cases us<;>cases Lr<;>cases Tr<;>first|exact h.elim|exact⟨z,Zle.refl z,h1,h2,trivial,rfl,rfl,Ext.refl _ _,λh=>h⟩
 | cons r rs ih =>
  intro us x Lr Tr st z Lc Tc h h1 h2;cases us with
  |nil=>cases r<;>exact h.elim
  | cons u us =>
   cases r with
   |rd t=>
    obtain⟨k1,k2⟩:=h;obtain⟨z',r1,r2,r3,r4,r5,r6,r7,r8⟩:=ih k2 h1 h2;exact⟨z',r1,r2,r3,⟨⟨k1,trivial⟩,r4⟩,r5,r6,r7,r8⟩
   | ap t =>
    cases Tr with
    |nil=>exact h.elim
    | cons e Tr =>
     obtain⟨k1,rfl,k2⟩:=h;obtain⟨z',r1,r2,r3,r4,r5,r6,r7,r8⟩:=ih k2 h1 h2;have hz:=Zle.pushT z' u;refine⟨⟨z'.b,u::z'.t⟩,r1.trans hz,r2,⟨rfl,r3⟩,⟨⟨k1,?_⟩,r4.z hz⟩,r5,r6,?_,r8⟩
     ·show fb (u::z'.t) _=some u
      rw[←r3.len.1];exact jH
     ·rw [←r6] at r7 ⊢
      exact r7.trans (Ext.envL (st:=(mV G os rs _ st).2) rfl rfl)
   | ow t =>
    cases Lr with
    |nil=>exact h.elim
    | cons e Lr =>
     obtain⟨k1,k2⟩:=h;obtain⟨z',r1,r2,r3,r4,r5,r6,r7,r8⟩:=ih k2 h1 h2;have hz:=Zle.pushB z' (e.1,u);refine⟨⟨(e.1,u)::z'.b,z'.t⟩,r1.trans hz,⟨rfl,⟨k1,trivial⟩,r2⟩,r3,⟨⟨(e.1,u),?_,rfl⟩,r4.z hz⟩,r5,r6,?_,λh=>(r8 h).cons⟩
     ·rw[←r2.len.1];exact jH
     ·rw [←r6] at r7 ⊢
      exact r7.trans Ext.push
theorem Et {m:M}{z:Cz}{asv:List (AV G)}{us:List Value}(h:pw G P m z asv us):(evs asv).Rel G P m z (tup us):=by
 match asv,us,h with
 |[],[],_=>exact⟨[],rfl,trivial⟩
 |[b],[u],h=>exact h.1
 |b::b'::asv,u::u'::us,h=>exact⟨_,rfl,h⟩
 |[b],[],h=>exact h.elim
 |[b],_::_::_,h=>exact h.2.elim
 |[],_::_,h=>exact h.elim
 |_::_::_,[],h=>exact h.elim
 |_::_::_,[_],h=>exact h.2.elim
theorem Eu {D:List (CS P G)}{f:FuncId}{C:CS P G}(h:y4 D f=some C):C.f=f:=by
 induction D with
 |nil=>cases h
 | cons c D ih =>
  simp only[y4] at h;split at h
  ·rename_i hb
   injection h with h;subst h
   exact Z0 hb
  ·exact ih h
theorem uB {l:List (Nat×Value)}{a:Act}{xs:List Operand}(h:∀x∈xs,evl l x=some (a.eval x)):s9 l xs.toArray=some (xs.map a.eval):=by
 unfold s9;simp only
 induction xs with
 |nil=>rfl
 |cons x xs ih=>simp[h x (by simp),ih λy hy=>h y (by simp[hy])]
theorem IC {D:List (CS P G)} {f:FuncId} {xs:List Operand} {tys:Array TypeId} {d:Option Nat} (hs:Sat G P δ n W0 L0 T0 m0 st a w) (hd: ∀e,d=some e→Zc e n=true):
  TG G P δ n W0 L0 T0 m0 st (Fk Γ D st f xs d) ⟨d,.call ⟨.value (.func f),xs.toArray,tys⟩,ty,pos,aft,g⟩ a w:=by
 obtain⟨⟨m,z,h0,hr,hM⟩,hdf,hsz⟩:=hs;obtain⟨Lc,Tc,h1,h2,hS,hsf⟩:=hM;unfold Fk;split
 ·rename_i C hC
  have hf:=Eu hC;subst hf;obtain⟨m1,hm1,hF,hx1,hc1⟩:=ye (G:=G) (P:=P) (L0:=L0) (T0:=T0) (ps:=C.ps) (xs:=xs) (st:=st) (m:=m) (z:=z) ⟨hr,Lc,Tc,h1,h2,hS,hsf⟩;split
  ·rename_i y st' bk he
   obtain⟨z',Lp,Tp,hz,hM',hP,hK,hx,hc⟩:=yf hF he;obtain⟨hE',Lc',Tc',k1,k2,hS',hsf'⟩:=hM';refine .two λr hrr=>?_;have hcall:=C.ok W0 m1 w (Lc'++L0.l) (Tc'++T0) (xs.map a.eval) y r Lp Tp hS' hP hrr;obtain⟨l,hE,hl⟩:=d4 hdf hsz xs
   have post: ∀v w',(∃(m':M) (us:List Value) (Lr Lp':List (Nat×List Value)) (Tr:List (Nat×Value)),M.le m1 m'∧S W0 m' w' (Lr++(Lp'++(Lc'++L0.l))) (Tr++(Tc'++T0))∧v=tup us∧mT G m' (C.ps.filterMap Pm.out) C.rs us r Lr Tr∧iC G m' C.ps (xs.map a.eval) (rest G (C.ps.filterMap Pm.out) C.rs r) Lp Lp')→
     Sat G P δ n W0 L0 T0 m0 (vS C st' bk d r) (a.put d v) w'∧Ext st.c st (vS C st' bk d r)∧(vS C st' bk d r).c=st.c:=by
    rintro v w' ⟨m',us,Lr,Lp',Tr,hm',hSr,rfl,hR,hO⟩
    have hSo:S W0 m' w' (Lp'++(Lc'++(L0.l))) (Tr++(Tc'++T0)):=by
     have:=hSr.dropL Lr.length;rw[Zz] at this;exact this
    have hSo2:S W0 m' w' (Lp'++(Lc'++(L0.l++Lr))) (Tr++(Tc'++T0)):=by
     refine hSr.selL _ (λi=>if i<Lp'.length+Lc'.length+L0.l.length then Lr.length+i else if i<Lp'.length+Lc'.length+L0.l.length+Lr.length then i - (Lp'.length+Lc'.length+L0.l.length) else i) (λi e he=>?_) (λi j hij=>?_)
     ·by_cases hi:i<Lp'.length+Lc'.length+L0.l.length
      ·rw [if_pos hi,Z1 (by omega),Za]
       rw[show Lp'++(Lc'++(L0.l++Lr))=(Lp'++(Lc'++L0.l))++Lr by simp,Z4 (by simp;omega)] at he;exact he
      ·rw [if_neg hi]
       rw[show Lp'++(Lc'++(L0.l++Lr))=(Lp'++(Lc'++L0.l))++Lr by simp,Z1 (by simp;omega)] at he;simp only[Zl] at he;have hlt:i - (Lp'.length+(Lc'.length+L0.l.length))<Lr.length:=(Z2.1 he).1;rw[if_pos (by omega),Z4 (by omega),←Nat.add_assoc] at*;exact he
     ·split at hij<;>split at hij<;>(try split at hij)<;>(try split at hij)<;>omega
    obtain⟨Lc2,q1,q2,q3,q4,q5,q6⟩:=Kp (L0:=L0.l++Lr) hK hO (k1.mono hm') hSo2;have k2':TRl (jv G C.ps bk (rest G (C.ps.filterMap Pm.out) C.rs r) st').T z'.t Tc':=by rw[q4];exact k2
    obtain⟨z2,p1,p2,p3,p4,p5,p6,p7,p8⟩:=LS (P:=P) hR q1 k2'
    have hSf:S W0 m' w' ((Lr++Lc2)++L0.l) ((Tr++Tc')++T0):=by
     rw[Zw Tr];refine q2.selL _ (λi=>if i<Lr.length then Lc2.length+L0.l.length+i else if i<Lr.length+Lc2.length+L0.l.length then i - Lr.length else i) (λi e he=>?_) (λi j hij=>?_)
     ·by_cases hi:i<Lr.length
      ·rw [if_pos hi]
       rw[Zw,Z4 hi] at he;rw[show Lc2++(L0.l++Lr)=(Lc2++L0.l)++Lr by simp,Z1 (by simp),Zl,Za];exact he
      ·rw [if_neg hi]
       rw[Zw,Z1 (by omega)] at he;have hlt:i - Lr.length<(Lc2++L0.l).length:=(Z2.1 he).1;simp only[Zl] at hlt;rw[if_pos (by omega),show Lc2++(L0.l++Lr)=(Lc2++L0.l)++Lr by simp,Z4 (by simp;omega)];exact he
     ·split at hij<;>split at hij<;>(try split at hij)<;>(try split at hij)<;>omega
    have hEnv:j0 G P m' z2 (mV G (C.ps.filterMap Pm.out) C.rs r (jv G C.ps bk (rest G (C.ps.filterMap Pm.out) C.rs r) st')).2.env a:=by
     rw[p5,q3];exact hE'.z hm' p1
    have hX:Ext st.c st (mV G (C.ps.filterMap Pm.out) C.rs r (jv G C.ps bk (rest G (C.ps.filterMap Pm.out) C.rs r) st')).2:=by
     rw[hc1] at hx hc;rw[hc] at q5 q6;rw[q5] at p7;exact hx1.trans (hx.trans (q6.trans p7))
    have hcc:(mV G (C.ps.filterMap Pm.out) C.rs r (jv G C.ps bk (rest G (C.ps.filterMap Pm.out) C.rs r) st')).2.c=st.c:=by rw[p6,q5,hc,hc1]
    have hMf:gk G W0 L0 T0 (mV G (C.ps.filterMap Pm.out) C.rs r (jv G C.ps bk (rest G (C.ps.filterMap Pm.out) C.rs r) st')).2.L (mV G (C.ps.filterMap Pm.out) C.rs r (jv G C.ps bk (rest G (C.ps.filterMap Pm.out) C.rs r) st')).2.T m' z2 w':=⟨_,_,p2,p3,hSf,p8 hsf'⟩
    unfold vS;cases d with
    |none=>exact⟨Sat.of0 h0 (hm1.trans hm') hEnv hMf hdf hsz,hX,hcc⟩
    |some d=>
     refine⟨Sat.of h0 (hm1.trans hm') hEnv (Et p4) hMf (hd d rfl) hdf hsz,hX.trans ?_,hcc⟩;rw[←hcc];exact Ext.put
   have hrun:bg P ⟨d,.call ⟨.value (.func C.f),xs.toArray,tys⟩,ty,pos,aft,g⟩ a w (λv w'=>∃(m':M) (us:List Value) (Lr Lp':List (Nat×List Value)) (Tr:List (Nat×Value)),M.le m1 m'∧S W0 m' w' (Lr++(Lp'++(Lc'++L0.l))) (Tr++(Tc'++T0))∧v=tup us∧mT G m' (C.ps.filterMap Pm.out) C.rs us r Lr Tr∧iC G m' C.ps (xs.map a.eval) (rest G (C.ps.filterMap Pm.out) C.rs r) Lp Lp'):=by
    intro ro Kk Q hk
    have hrun:(execOp a.eval ⟨d,.call ⟨.value (.func C.f),xs.toArray,tys⟩,ty,pos,aft,g⟩).run P w= .ok (.enter C.f (xs.map a.eval).toArray) w:=by
     simp[execOp,resolve,Act.eval,Deferred.ofValue,invoke,iX hE (uB hl),C.hc]
    refine sw hrun (hcall.mono λe w' he=>?_);cases e with
    |returned v=>exact hk v w' he
    |panicked ch=>exact he.elim
    |outgrown=>exact he.elim
   exact hrun.imp post
  ·exact .none
 ·exact .none
end
set_option linter.unusedVariables false
set_option linter.unusedSimpArgs false
section
variable {G:Sg}{P:Program}
def xp (n:Nat):Option Nat→Bool
 |some d=>Zc d n
 |none=>true
def Fm (n:Nat) (Γ:Tab P G) (st:St G) (op:Op) (dst:Option Nat):Option (mU G):=
 match dst with
 |some d=>(match yZ Γ st.op (eW st.L) op with
  |some R=>some ⟨R.β,R.mv,λb=>st.put d (R.k b)⟩
  |none=>none)
 |none=>none
def y5 (n:Nat) (Γ:Tab P G) (st:St G) (op:Op) (dst:Option Nat):Option (mU G):=
 match Fm n Γ st op dst with
 |some R=>some R
 |none=>CM Γ st op dst
def CO:List Operand→St G→St G
 |[],st=>st
 |x::xs,st=>CO xs (uz st x)
def CP (n:Nat) (Γ:Tab P G) (D:List (CS P G)) (st:St G) (op:Op) (dst:Option Nat):Option (mU G):=
 match op with
 | .call ⟨.value (.func f),⟨xs⟩,_⟩=>Fk Γ D st f xs dst
 | .call ⟨.value x,⟨xs⟩,_⟩=>(match dst with|some d=>Fl Γ st x xs d|none=>none)
 |op=>(match y5 n Γ st op dst with
  |some R=>some R
  |none=>y5 n Γ (CO op.operands.toList st) op dst)
def y6 {ρ:Type} (n:Nat) (Γ:Tab P G) (D:List (CS P G)) (o:Oper) (st:St G) (K:St G→Option ρ):Option ρ:=
 match xp n o.dst with
 |true=>(match CP n Γ D st o.op o.dst with
  |some R=>R.mv.bind λb=>K (R.k b)
  |none=>none)
 |false=>none
def vT {ρ:Type} (n:Nat) (o:Oper) (st:St G) (K:St G→Option ρ):Option ρ:=
 match o.dst with
 |some d=>(match Zc d n with|true=>K (st.put d (.one .und))|false=>none)
 |none=>K st
def AV.g?:AV G→Option (Option Bool)
 | .dat .bool x none=>some (some x)
 | .und=>some none
 |_=>none
def gd (e:Option (EV G)):Option (Option Bool):=match av? e with|some b=>b.g?|none=>none
def lU {ρ : Type} (n : Nat) (Γ : Tab P G) (D : List (CS P G)) (all : List Oper) : List Oper → St G → (St G → Option ρ) → Option ρ
 |[],st,K=>K st
 | o :: r, st, K =>(match o.guard with
  |none=>y6 n Γ D o st λst'=>lU n Γ D all r st' K
  | some (g, b) =>(match cz all.toArray g with
   | some dg =>(match Zc dg n, gd (st.op (.tmp dg)) with
    | true, some (some x) => if x = true then
      (match b with
       |true=>y6 n Γ D o (st.put dg (.one (db true))) λst'=>lU n Γ D all r st' K
       |false=>vT n o (st.put dg (.one (db true))) λst'=>lU n Γ D all r st' K)
     else
      (match b with
       |false=>y6 n Γ D o (st.put dg (.one (db false))) λst'=>lU n Γ D all r st' K
       |true=>vT n o (st.put dg (.one (db false))) λst'=>lU n Γ D all r st' K)
    |true,some none=>vT n o st λst'=>lU n Γ D all r st' K
    |_,_=>none)
   |none=>none))
end
section
variable {G:Sg}{P:Program}{δ:List Nat}{n:Nat}{W0:Bse}{L0:Rs}{T0:List (Nat×Value)}{m0:M}{st:St G}{a:Act}{w:World}{Γ:Tab P G}{D:List (CS P G)}{ty t t2:TypeId}{pos:String}{aft:Array Edge}{g:Option (Nat×Bool)}
theorem ID {x:Operand} {xs:List Operand} {tys:Array TypeId} {d:Nat} (hs:Sat G P δ n W0 L0 T0 m0 st a w) (hd:Zc d n=true):
  TG G P δ n W0 L0 T0 m0 st (Fl Γ st x xs d) ⟨some d,.call ⟨.value x,xs.toArray,tys⟩,ty,pos,aft,g⟩ a w:=by
 obtain⟨⟨m,z,h0,hr,hM⟩,hdf,hsz⟩:=hs;obtain⟨Lc,Tc,h1,h2,hS,hsf⟩:=hM;obtain⟨l,hE,hl⟩:=d4 hdf hsz (x::xs);have hxl:=hl x (by simp);have hal:=uB (xs:=xs) (a:=a) (l:=l) λy hy=>hl y (by simp[hy]);unfold Fl;split
 ·rename_i a' b f y hx
  have hf:=bp (fc hr) hx;split
  ·rename_i p hy
   split
   ·rename_i u hu
    refine .two λr hrr=>?_;refine(A8 hE hS hxl hal hf (AV.as_rel hu (bp (fc hr) hy)) hrr).imp λv w' hq=>?_;obtain⟨m',hm,hS',hv⟩:=hq;exact⟨Sat.of h0 hm (hr.z hm (Zle.refl z)) ⟨hv,trivial⟩ ⟨Lc,Tc,h1.mono hm,h2,hS',hsf⟩ hd hdf hsz,Ext.put,rfl⟩
   ·exact .none
  ·exact .none
 ·rename_i a' c b f y y' hx
  have hf:=bp (fc hr) hx;split
  ·rename_i p p' hy hy'
   split
   ·rename_i u u' hu hu'
    refine .two λr hrr=>?_;refine(ox hE hS hxl hal hf (AV.as_rel hu (bp (fc hr) hy)) (AV.as_rel hu' (bp (fc hr) hy')) hrr).imp λv w' hq=>?_;obtain⟨m',hm,hS',hv⟩:=hq;exact⟨Sat.of h0 hm (hr.z hm (Zle.refl z)) ⟨hv,trivial⟩ ⟨Lc,Tc,h1.mono hm,h2,hS',hsf⟩ hd hdf hsz,Ext.put,rfl⟩
   ·exact .none
  ·exact .none
 ·exact .none
theorem IE {op:Op}{dst:Option Nat}(hs:Sat G P δ n W0 L0 T0 m0 st a w)(hd:xp n dst=true):TG G P δ n W0 L0 T0 m0 st (Fm n Γ st op dst) ⟨dst,op,ty,pos,aft,g⟩ a w:=by
 obtain⟨⟨m,z,h0,hr,hM⟩,hdf,hsz⟩:=hs;unfold Fm;split
 ·rename_i d
  split
  ·rename_i R hR
   intro R' b hr' hb;injection hr' with hr'
   subst hr';refine(Eo (d:=d) hdf hsz hM (fc hr) R b hR hb).imp λv w' hq=>?_;obtain⟨rfl,hv⟩:=hq;exact⟨Sat.of h0 (Z8 m) hr hv hM hd hdf hsz,Ext.put,rfl⟩
  ·exact .none
 ·exact .none
theorem Be {op:Op}{dst:Option Nat}(hs:Sat G P δ n W0 L0 T0 m0 st a w)(hd:xp n dst=true):TG G P δ n W0 L0 T0 m0 st (y5 n Γ st op dst) ⟨dst,op,ty,pos,aft,g⟩ a w:=by
 unfold y5;split
 ·rename_i R hR
  rw[←hR];exact IE hs hd
 ·exact Ko hs λd he=>by subst he;exact hd
theorem IF {x:Operand}(hs:Sat G P δ n W0 L0 T0 m0 st a w):Sat G P δ n W0 L0 T0 m0 (uz st x) a w∧Ext st.c st (uz st x)∧(uz st x).c=st.c:=by
 obtain⟨⟨m,z,h0,hr,hM⟩,hdf,hsz⟩:=hs;obtain⟨Lc,Tc,h1,h2,hS,hsf⟩:=hM;obtain⟨m',hm,⟨hr',Lc',Tc',k1,k2,hS',hsf'⟩,hx,hc⟩:=Es (G:=G) (P:=P) (L0:=L0) (T0:=T0) (x:=x) (st:=st) (m:=m) (z:=z) ⟨hr,Lc,Tc,h1,h2,hS,hsf⟩;exact⟨⟨⟨m',z,h0.trans hm,hr',Lc',Tc',k1,k2,hS',hsf'⟩,hdf,hsz⟩,hx,hc⟩
theorem IG {xs:List Operand}(hs:Sat G P δ n W0 L0 T0 m0 st a w):Sat G P δ n W0 L0 T0 m0 (CO xs st) a w∧Ext st.c st (CO xs st)∧(CO xs st).c=st.c:=by
 induction xs generalizing st with
 |nil=>exact⟨hs,Ext.refl _ _,rfl⟩
 |cons x xs ih=>
  obtain⟨h1,h2,h3⟩:=IF (x:=x) hs;obtain⟨k1,k2,k3⟩:=ih h1;rw[h3] at k2 k3;exact⟨k1,h2.trans k2,k3⟩
theorem GH {op:Op}{dst:Option Nat}(hs:Sat G P δ n W0 L0 T0 m0 st a w)(hd:xp n dst=true):TG G P δ n W0 L0 T0 m0 st (CP n Γ D st op dst) ⟨dst,op,ty,pos,aft,g⟩ a w:=by
 unfold CP;split
 ·exact IC hs λe he=>by subst he;exact hd
 ·split
  ·exact ID hs hd
  ·exact .none
 ·split
  ·rename_i R hR
   rw[←hR];exact Be hs hd
  ·obtain ⟨h1,h2,h3⟩:=IG (xs:=op.operands.toList) hs
   intro R b hR hb;refine(Be h1 hd R b hR hb).imp λv w' hq=>?_;obtain⟨q1,q2,q3⟩:=hq;rw[h3] at q2 q3;exact⟨q1,h2.trans q2,q3⟩
variable {ρ:Type}{ro:Option Nat}{Q:Exit→Act→World→Prop}{K:St G→Option ρ}{res:ρ}{all:List Oper}
def Nxt (G:Sg) (P:Program) (δ:List Nat) (n:Nat) (W0:Bse) (L0:Rs) (T0:List (Nat×Value)) (m0:M) {ρ:Type} (K:St G→Option ρ) (res:ρ) (st0:St G) (N:Act→World→Prop):Prop:=
 ∀st' a' w',K st'=some res→Sat G P δ n W0 L0 T0 m0 st' a' w'→Ext st0.c st0 st'→st'.c=st0.c→N a' w'
theorem Nxt.later {st0 st1:St G} {N:Act→World→Prop} (h:Nxt G P δ n W0 L0 T0 m0 K res st0 N) (hx:Ext st0.c st0 st1) (hc:st1.c=st0.c):Nxt G P δ n W0 L0 T0 m0 K res st1 N:=
 λst' a' w' h1 h2 h3 h4=>h st' a' w' h1 h2 (hx.trans (by rw[hc] at h3;exact h3)) (by rw[h4,hc])
theorem yg {o:Oper} (hs:Sat G P δ n W0 L0 T0 m0 st a w) (h:y6 n Γ D o st K=some res) {N:Act→World→Prop} (k:Nxt G P δ n W0 L0 T0 m0 K res st N):
  bg P o a w (λv w'=>N (a.put o.dst v) w'):=by
 unfold y6 at h;split at h
 ·rename_i hd
  split at h
  ·rename_i R hR
   cases hb:R.mv with
   |none=>simp[hb] at h
   |some b=>
    simp only[hb,Zt] at h;obtain⟨dst,op,ty,pos,aft,g⟩:=o;refine(GH hs hd R b hR hb).imp λv w' hq=>?_;exact k _ _ _ h hq.1 hq.2.1 hq.2.2
  ·cases h
 ·cases h
theorem Sat.lit {dg:Nat}{x:Bool}(hs:Sat G P δ n W0 L0 T0 m0 st a w)(hd:Zc dg n=true)(hx:gd (st.op (.tmp dg))=some (some x)):Sat G P δ n W0 L0 T0 m0 (st.put dg (.one (db x))) a w∧a.tmps.getD dg undef= .bool x:=by
 obtain⟨⟨m,z,h0,hr,hM⟩,hdf,hsz⟩:=hs
 have hv:a.tmps.getD dg undef= .bool x:=by
  unfold gd at hx;split at hx
  ·rename_i b hb
   have hrel:=bp (fc hr) hb;cases b with
   |dat t y oo=>
    cases t<;>cases oo<;>simp only[AV.g?,reduceCtorEq] at hx;obtain rfl:=Option.some.inj (Option.some.inj hx);exact eQ hrel.1
   |_=>simp[AV.g?] at hx
  ·cases hx
 refine⟨⟨⟨m,z,h0,λe he=>?_,hM⟩,hdf,hsz⟩,hv⟩;rcases Z6.1 he with rfl|he
 ·show AV.Rel G P m z (db x) (a.tmps.getD dg undef)
  rw[hv];exact eV
 ·exact hr e (lC he).1
theorem rB {g dg:Nat}{x:Bool}(hs:a.tmps.size=n)(hg:cz all.toArray g=some dg)(hd:Zc dg n=true)(hv:a.tmps.getD dg undef= .bool x):yielded all.toArray a.tmps g=some x:=by
 have hd':dg<n:=Z3 hd;unfold cz at hg;unfold yielded;rw[hg];rw[Array.getD_eq_getD_getElem?] at hv;have hlt:dg<a.tmps.size:=by omega
 simp only[Zt];rw[Array.getElem?_eq_getElem hlt] at hv ⊢;simp at hv;simp[hv]
theorem Aa {o:Oper} {r:List Oper} {g:Nat} {b:Bool} (hs:Sat G P δ n W0 L0 T0 m0 st a w) (hg:o.guard=some (g,b)) (hy:yielded all.toArray a.tmps g≠some b) (h:vT n o st K=some res)
  (k:Nxt G P δ n W0 L0 T0 m0 K res st (λa w=>wpL ro P all.toArray Q r a w)):wpL ro P all.toArray Q (o::r) a w:=by
 refine wpListIn_step λKk hK=>?_
 have hw:Region.wanted o (yielded all.toArray a.tmps)=false:=by
  simp only[Region.wanted,hg];simpa using hy
 rw[hw];simp only[Bool.false_eq_true,if_false];refine⟨λ_ _=>trivial,hK _ _ ?_⟩;unfold vT at h;split at h
 ·rename_i d hd
  split at h
  ·rename_i hdn
   obtain⟨⟨m,z,h0,hr,hM⟩,hdf,hsz⟩:=hs;rw[hd];exact k _ _ _ h (Sat.of h0 (Z8 m) hr (show EV.Rel G P m z (.one .und) undef from rfl) hM hdn hdf hsz) Ext.put rfl
  ·cases h
 ·rename_i hd
  rw[hd];exact k _ _ _ h hs (Ext.refl _ _) rfl
theorem yh :∀ {os : List Oper} {st : St G} {a : Act} {w : World}, lU n Γ D all os st K = some res → Sat G P δ n W0 L0 T0 m0 st a w → Nxt G P δ n W0 L0 T0 m0 K res st (λa w => wpL ro P all.toArray Q [] a w) → wpL ro P all.toArray Q os a w := by
 intro os
 induction os with
 |nil=>intro st a w h hs k;exact k st a w h hs (Ext.refl _ _) rfl
 | cons o r ih =>
  intro st a w h hs k;unfold lU at h
  have tailN:∀{st1:St G},Ext st.c st st1→st1.c=st.c→Nxt G P δ n W0 L0 T0 m0 (λst'=>lU n Γ D all r st' K) res st1 (λa w=>wpL ro P all.toArray Q r a w):=by
   intro st1 hx hc st' a' w' h1 h2 h3 h4;exact ih h1 h2 ((k.later hx hc).later h3 h4)
  split at h
  ·rename_i hg
   exact wpListIn_plain hg λKk hK=>yg hs h (tailN (Ext.refl _ _) rfl) _ _ _ λv w' hp=>hK _ _ hp
  ·rename_i g b hg
   split at h
   ·rename_i dg hdg
    split at h
    ·rename_i x hd hx
     obtain⟨hs1,hv⟩:=Sat.lit hs hd hx;have hy:=rB (all:=all) hs.sz hdg hd hv;have hx1:Ext st.c st (st.put dg (.one (db x))):=Ext.put;split at h
     ·rename_i hxt
      rw[hxt] at hy hs1 hx1;split at h
      ·exact wpListIn_step λKk hK=>by
        simp only[Region.wanted,hg,hy,beq_self_eq_true,if_true];exact yg hs1 h (tailN hx1 rfl) _ _ _ λv w' hp=>hK _ _ hp
      ·exact Aa hs1 hg (by rw[hy];simp) h (tailN hx1 rfl)
     ·rename_i hxf
      have hxf':x=false:=by simpa using hxf
      rw[hxf'] at hy hs1 hx1;split at h
      ·exact wpListIn_step λKk hK=>by
        simp only[Region.wanted,hg,hy,beq_self_eq_true,if_true];exact yg hs1 h (tailN hx1 rfl) _ _ _ λv w' hp=>hK _ _ hp
      ·exact Aa hs1 hg (by rw[hy];simp) h (tailN hx1 rfl)
    ·rename_i hd hx
     refine Aa hs hg ?_ h (tailN (Ext.refl _ _) rfl);obtain⟨⟨m,z,h0,hr,hM⟩,hdf,hsz⟩:=hs
     have hu:a.tmps.getD dg undef=undef:=by
      unfold gd at hx;split at hx
      ·rename_i b hb
       have hrel:=bp (fc hr) hb;cases b with
       |und=>exact hrel
       |dat t y oo=>cases t<;>cases oo<;>simp[AV.g?] at hx
       |_=>simp[AV.g?] at hx
      ·cases hx
     rw[nI hdg hu];simp
    ·cases h
   ·cases h
end
set_option linter.unusedVariables false
set_option linter.unusedSimpArgs false
section
variable {G:Sg}{P:Program}
def mc (Γ:Tab P G) (ρ:Operand→Option (EV G)):(ps:List Pm)→List Operand→Option (d5 G ps)
 |[],[]=>some ()
 | .rd t::ps,x::xs=>(match av? (ρ x),mc Γ ρ ps xs with
  |some b,some y=>(match b.as Γ t with|some u=>some (u,y)|none=>none)
  |_,_=>none)
 | .f1 a b::ps,x::xs=>(match av? (ρ x),mc Γ ρ ps xs with
  |some (.fn1 a' b' f),some y=>if h:a'=a∧b'=b then some (h.1 ▸ h.2 ▸ f,y) else none
  |_,_=>none)
 | .f2 a c b::ps,x::xs=>(match av? (ρ x),mc Γ ρ ps xs with
  |some (.fn2 a' c' b' f),some y=>if h:a'=a∧c'=c∧b'=b then some (h.1 ▸ h.2.1 ▸ h.2.2 ▸ f,y) else none
  |_,_=>none)
 |_,_=>none
def y7:List Rm→Bool
 |[]=>true
 | .rd _::rs=>y7 rs
 | .ap _::rs=>y7 rs
 | .ow _::_=>false
def IH (G:Sg) (os:List Ty):(rs:List Rm)→bH G (rs.map Rm.ty++os)→List (AV G)
 |[],_=>[]
 |r::rs,x=> .dat r.ty (hdT G r.ty (rs.map Rm.ty++os) x) none::IH G os rs (tlT G r.ty (rs.map Rm.ty++os) x)
def JE (Γ:Tab P G) (D:List (CS P G)) (ρ:Operand→Option (EV G)) (f:FuncId) (xs:List Operand):Option (hZ G):=
 match y4 D f with
 |some C=>(match mc Γ ρ C.ps xs,y7 C.rs with
  |some y,true=>some ⟨bH G (ib C.ps C.rs),C.g y,λr=>evs (IH G (C.ps.filterMap Pm.out) C.rs r)⟩
  |_,_=>none)
 |none=>none
def GI (Γ:Tab P G) (ρ:Operand→Option (EV G)) (x:Operand) (xs:List Operand):Option (hZ G):=
 match av? (ρ x),xs with
 |some (.fn1 a b f),[y]=>(match av? (ρ y) with
  |some p=>(match p.as Γ a with|some u=>pb (f u) λr=> .dat b r none|none=>none)
  |none=>none)
 |some (.fn2 a c b f),[y,y']=>(match av? (ρ y),av? (ρ y') with
  |some p,some p'=>(match p.as Γ a,p'.as Γ c with|some u,some u'=>pb (f u u') λr=> .dat b r none|_,_=>none)
  |_,_=>none)
 |_,_=>none
def rC (Γ:Tab P G) (D:List (CS P G)) (ρ:Operand→Option (EV G)) (Lv:Nat→Option (BC G)) (op:Op):Option (hZ G):=
 match op with
 | .call ⟨.value (.func f),⟨xs⟩,_⟩=>JE Γ D ρ f xs
 | .call ⟨.value x,⟨xs⟩,_⟩=>GI Γ ρ x xs
 |op=>yZ Γ ρ Lv op
def vis (all:List Oper) (k i:Nat) (pre:List Nat) (t:Nat):Bool:=
 (all.take k).zipIdx.all λp=>match p.1.dst with
  |some d=> !(Z7 d t)||pre.any (Z7 p.2)||(bX p.1).any (Z7 i)
  |none=>true
def visρ (all:List Oper) (k i:Nat) (o:Oper) (st:St G):Operand→Option (EV G)
 | .tmp t=>(match vis all k i (bX o) t with|true=>st.op (.tmp t)|false=>none)
 |x=>st.op x
def ln {ρ : Type} (n : Nat) (Γ : Tab P G) (D : List (CS P G)) (all : List Oper) (k : Nat) : Nat → List Oper → St G → (St G → Option ρ) → Option ρ
 |_,[],st,K=>K st
 | i, o :: r, st, K =>(match o.dst with
  | some d =>(match Zc d n, o.guard with
   |true,none=>(match rC Γ D (visρ all k i o st) (eW st.L) o.op with
    |some R=>R.mv.bind λb=>ln n Γ D all k (i+1) r (st.put d (R.k b)) K
    |none=>none)
   | true, some (g, b) =>(match (bX o).any (Z7 g), cz (all.take k).toArray g with
    | true, some dg =>(match Zc dg n, gd (st.op (.tmp dg)) with
     | true, some (some x) => if x = true then
       (match b with
        |true=>(match rC Γ D (visρ all k i o (st.put dg (.one (db true)))) (eW st.L) o.op with
         |some R=>R.mv.bind λb=>ln n Γ D all k (i+1) r ((st.put dg (.one (db true))).put d (R.k b)) K
         |none=>none)
        |false=>ln n Γ D all k (i+1) r ((st.put dg (.one (db true))).put d (.one .und)) K)
      else
       (match b with
        |false=>(match rC Γ D (visρ all k i o (st.put dg (.one (db false)))) (eW st.L) o.op with
         |some R=>R.mv.bind λb=>ln n Γ D all k (i+1) r ((st.put dg (.one (db false))).put d (R.k b)) K
         |none=>none)
        |true=>ln n Γ D all k (i+1) r ((st.put dg (.one (db false))).put d (.one .und)) K)
     |true,some none=>ln n Γ D all k (i+1) r (st.put d (.one .und)) K
     |_,_=>none)
    |_,_=>none)
   |_,_=>none)
  |none=>none)
def lP (o:Oper):Bool:=match o.op with
 | .alloc _=>true
 | .store _ _ _=>true
 |_=>false
inductive Sp (G:Sg) where
 |al (d:Nat) (t:Ty) (x:t.den G)
 |so (i:Nat) (t:Ty) (x:t.den G)
def Sp.blk:Sp G→Option Nat
 | .al _ _ _=>none
 | .so i _ _=>some i
def Fo (Γ:Tab P G) (ρ:Operand→Option (EV G)) (Lv:Nat→Option (BC G)) (o:Oper):Option (Sp G):=
 match o.guard,o.dst,o.op with
 |none,some d,.alloc t=>(match Γ.ar t,Γ.ty t with|none,some I=>some (.al d I.T I.z)|_,_=>none)
 | none, none, .store t x y =>(match Γ.ty t, av? (ρ x), av? (ρ y) with
  |some I,some (.blk i),some b=>(match Lv i with
   |some (.dat c _)=>if c=I.T then (match b.as Γ I.T with|some u=>some (.so i I.T u)|none=>none) else none
   |_=>none)
  |_,_,_=>none)
 |_,_,_=>none
def stG (st:St G):List Oper→List (Option Nat)
 |[]=>[]
 |o::r=>(match o.op with
  | .alloc _=>none::stG st r
  | .store _ x _=>(match av? (st.op x) with|some (.blk i)=>some i::stG st r|_=>none::stG st r)
  |_=>stG st r)
def fU (c:Nat):List (Option Nat)→List (Nat×BC G)→List (Nat×BC G)
 |[],L=>L
 |none::r,L=>fU c r L
 |some i::r,L=>sb (fU c r L) i (c,.gone)
def gOK (Lv:Nat→Option (BC G)):List (Option Nat)→Bool
 |[]=>true
 |none::r=>gOK Lv r
 |some i::r=>(match Lv i with|some (.dat _ _)=>true|_=>false)&& !(r.any λj=>decide (j=some i))&&gOK Lv r
def lE:List (Nat×Sp G)→St G→St G
 |[],st=>st
 |(_,.al d t x)::r,st=>lE r ((st.push (.dat t x)).put d (.one (.blk st.L.length)))
 |(_,.so i t x)::r,st=>lE r (st.setB i (.dat t x))
def rk {ρ:Type} (n:Nat) (Γ:Tab P G) (D:List (CS P G)) (all:List Oper) (k:Nat) (Lv:Nat→Option (BC G)):Nat→List Oper→St G→List (Nat×Sp G)→(St G→List (Nat×Sp G)→Option ρ)→Option ρ
 |_,[],st,acc,K=>K st acc
 | i, o :: r, st, acc, K =>(match lP o with
  |true=>(match xp n o.dst,Fo Γ (visρ all k i o st) Lv o with
   |true,some sp=>rk n Γ D all k Lv (i+1) r (match o.dst with|some d=>{ st with env:=rmk st.env d }|none=>st) (acc++[(i,sp)]) K
   |_,_=>none)
  |false=>ln n Γ D all k i [o] st λst'=>rk n Γ D all k Lv (i+1) r st' acc K)
def B7 (all:List Oper):Nat:=all.zipIdx.foldl (λacc p=>if Z7 p.2 0||(bX p.1).any (λe=>Z7 (e+1) p.2) then acc else p.2) 0
def kOf (all:List Oper):Nat:=match oJ all (B7 all) with|true=>B7 all|false=>(match oJ all (B7 all+1) with|true=>B7 all+1|false=>all.length)
def yi {ρ : Type} (n : Nat) (Γ : Tab P G) (D : List (CS P G)) (all : List Oper) (dr : Bool) (st : St G) (K : St G → Option ρ) : Option ρ :=
 match dr with
 |false=>lU n Γ D all all st K
 | true =>(match ov all && oJ all (kOf all) && vN (all.take (kOf all)) n with
  | true =>(match (all.take (kOf all)).any lP with
   |false=>ln n Γ D all (kOf all) 0 (all.take (kOf all)) st λst'=>lU n Γ D all (all.drop (kOf all)) st' K
   |true=>(match gOK (eW st.L) (stG st (all.take (kOf all))) with
    | true => rk n Γ D all (kOf all) (eW st.L) 0 (all.take (kOf all)) { st with L := fU st.c (stG st (all.take (kOf all))) st.L } [] λst' sps =>
      if sps.map (λq=>q.2.blk)=stG st (all.take (kOf all)) then lU n Γ D all (all.drop (kOf all)) (lE sps st') K else none
    |false=>none))
  |false=>none)
end
section
variable {G:Sg}{P:Program}{δ:List Nat}{n:Nat}{W0:Bse}{L0:Rs}{T0:List (Nat×Value)}{m m0:M}{z:Cz}{st:St G}{a:Act}{w:World}{Γ:Tab P G}{D:List (CS P G)}{ty t t2:TypeId}{pos:String}{aft:Array Edge}{g:Option (Nat×Bool)}{Ls:List (Nat×BC G)}{Ts:List Nat}{ρ:Operand→Option (EV G)}{d:Nat}
theorem GJ (hρ:∀x e,ρ x=some e→e.Rel G P m z (a.eval x)):∀{ps:List Pm} {xs:List Operand} {y:d5 G ps},mc Γ ρ ps xs=some y→jZ G P m ps (xs.map a.eval) y [] []∧ps.filterMap Pm.out=[]:=by
 intro ps
 induction ps with
 |nil=>
  intro xs y h;cases xs with
  |nil=>exact⟨trivial,rfl⟩
  |cons x xs=>simp[mc] at h
 | cons p ps ih =>
  intro xs y h;cases xs with
  |nil=>cases p<;>simp[mc] at h
  | cons x xs =>
   cases p with
   | rd t =>
    simp only[mc] at h;split at h
    ·rename_i b y' hb hy
     split at h
     ·rename_i u hu
      injection h with h
      subst h;obtain⟨h1,h2⟩:=ih hy;exact⟨⟨AV.as_rel hu (bp hρ hb),h1⟩,h2⟩
     ·cases h
    ·cases h
   | f1 b c =>
    simp only[mc] at h;split at h
    ·rename_i a' b' f y' hb hy
     split at h
     ·rename_i hh
      obtain⟨rfl,rfl⟩:=hh;injection h with h
      subst h;obtain⟨h1,h2⟩:=ih hy;exact⟨⟨bp hρ hb,h1⟩,h2⟩
     ·cases h
    ·cases h
   | f2 b c e =>
    simp only[mc] at h;split at h
    ·rename_i a' c' b' f y' hb hy
     split at h
     ·rename_i hh
      obtain⟨rfl,rfl,rfl⟩:=hh;injection h with h
      subst h;obtain⟨h1,h2⟩:=ih hy;exact⟨⟨bp hρ hb,h1⟩,h2⟩
     ·cases h
    ·cases h
   |_=>simp[mc] at h
theorem Kq {os:List Ty}:∀{rs:List Rm} {us:List Value} {x:bH G (rs.map Rm.ty++os)} {Lr:List (Nat×List Value)} {Tr:List (Nat×Value)},y7 rs=true→mT G m os rs us x Lr Tr→Lr=[]∧pw G P m z (IH G os rs x) us:=by
 intro rs
 induction rs with
 |nil=>
  intro us x Lr Tr _ h;cases us<;>cases Lr<;>cases Tr<;>first|exact h.elim|exact⟨rfl,trivial⟩
 | cons r rs ih =>
  intro us x Lr Tr ha h;cases r with
  | rd t =>
   cases us with
   |nil=>exact h.elim
   |cons u us=>
    obtain⟨k1,k2⟩:=h;obtain⟨r1,r3⟩:=ih ha k2;exact⟨r1,⟨k1,trivial⟩,r3⟩
  | ap t =>
   cases us with
   |nil=>cases Lr<;>cases Tr<;>exact h.elim
   | cons u us =>
    cases Tr with
    |nil=>cases Lr<;>exact h.elim
    |cons e Tr=>
     obtain⟨k1,_,k2⟩:=h;obtain⟨r1,r3⟩:=ih ha k2;exact⟨r1,⟨k1,trivial⟩,r3⟩
  |_=>simp[y7] at ha
def JF (G:Sg) (P:Program) (W0:Bse) (L0:Rs) (T0:List (Nat×Value)) (Ls:List (Nat×BC G)) (Ts:List Nat) (m:M) (z:Cz) (r:Option (hZ G)) (o:Oper) (a:Act) (w:World):Prop:=
 ∀R b,r=some R→R.mv=some b→bg P o a w (λv w'=>∃m',M.le m m'∧gk G W0 L0 T0 Ls Ts m' z w'∧(R.k b).Rel G P m' z v)
theorem JF.none {o:Oper}:JF G P W0 L0 T0 Ls Ts m z none o a w:=λR b hr=>by cases hr
theorem II {vs:List Value}{Lp':List (Nat×List Value)}:∀{ps:List Pm} {vs:List Value} {x:bH G (ps.filterMap Pm.out)},ps.filterMap Pm.out=[]→iC G m ps vs x [] Lp'→Lp'=[]:=by
 intro ps
 induction ps with
 |nil=>intro vs x _ h;cases Lp' with|nil=>rfl|cons e l=>exact h.elim
 | cons p ps ih =>
  intro vs x he h;cases p with
  |pt t=>simp[Pm.out] at he
  |ow t=>simp[Pm.out] at he
  |_=>
   cases vs with
   |nil=>exact h.elim
   |cons v vs=>exact ih (by simpa[Pm.out] using he) h
theorem Bf {op:Op} (hd:a.defers=δ.map fun D=>{ target:= .collected D,args:= #[] }) (hs:a.tmps.size=n) (hM:gk G W0 L0 T0 Ls Ts m z w) (hρ: ∀x e,ρ x=some e→e.Rel G P m z (a.eval x)):
  JF G P W0 L0 T0 Ls Ts m z (rC Γ D ρ (eW Ls) op) ⟨some d,op,ty,pos,aft,g⟩ a w:=by
 unfold rC;split
 ·rename_i f xs tys
  obtain⟨l,hE,hl⟩:=d4 hd hs xs;unfold JE;split
  ·rename_i C hC
   have hf:=Eu hC;subst hf;split
   ·rename_i y hy ha
    intro R r hR hr;injection hR with hR
    subst hR;obtain⟨hP,hO⟩:=GJ hρ hy;obtain⟨Lc,Tc,h1,h2,hS,hsf⟩:=hM;have hcall:=C.ok W0 m w (Lc++L0.l) (Tc++T0) (xs.map a.eval) y r [] [] hS hP hr;intro ro Kk Q hk
    have hrun:(execOp a.eval ⟨some d,.call ⟨.value (.func C.f),xs.toArray,tys⟩,ty,pos,aft,g⟩).run P w= .ok (.enter C.f (xs.map a.eval).toArray) w:=by
     simp[execOp,resolve,Act.eval,Deferred.ofValue,invoke,iX hE (uB hl),C.hc]
    refine sw hrun (hcall.mono λe w' he=>?_);cases e with
    |returned v=>
     obtain⟨m',us,Lr,Lp',Tr,hm,hS',rfl,hR,hO'⟩:=he;obtain⟨rfl,r3⟩:=Kq (P:=P) (z:=z) ha hR;have:=II (vs:=[]) hO hO';subst this;have hS2:=hS'.dropT Tr.length;rw[Zz] at hS2;exact hk _ _ ⟨m',hm,⟨Lc,Tc,h1.mono hm,h2,hS2,hsf⟩,Et r3⟩
    |panicked ch=>exact he.elim
    |outgrown=>exact he.elim
   ·exact .none
  ·exact .none
 ·rename_i x xs tys _
  obtain⟨Lc,Tc,h1,h2,hS,hsf⟩:=hM;obtain⟨l,hE,hl⟩:=d4 hd hs (x::xs);have hxl:=hl x (by simp);have hal:=uB (xs:=xs) (a:=a) (l:=l) λy hy=>hl y (by simp[hy]);unfold GI;split
  ·rename_i a' b f y hx
   have hf:=bp hρ hx;split
   ·rename_i p hy
    split
    ·rename_i u hu
     intro R r hR hr;injection hR with hR
     subst hR;refine(A8 hE hS hxl hal hf (AV.as_rel hu (bp hρ hy)) hr).imp λv w' hq=>?_;obtain⟨m',hm,hS',hv⟩:=hq;exact⟨m',hm,⟨Lc,Tc,h1.mono hm,h2,hS',hsf⟩,hv,trivial⟩
    ·exact .none
   ·exact .none
  ·rename_i a' c b f y y' hx
   have hf:=bp hρ hx;split
   ·rename_i p p' hy hy'
    split
    ·rename_i u u' hu hu'
     intro R r hR hr;injection hR with hR
     subst hR;refine(ox hE hS hxl hal hf (AV.as_rel hu (bp hρ hy)) (AV.as_rel hu' (bp hρ hy')) hr).imp λv w' hq=>?_;obtain⟨m',hm,hS',hv⟩:=hq;exact⟨m',hm,⟨Lc,Tc,h1.mono hm,h2,hS',hsf⟩,hv,trivial⟩
    ·exact .none
   ·exact .none
  ·exact .none
 ·intro R b hR hb
  refine(Eo hd hs hM hρ R b hR hb).imp λv w' hq=>?_;obtain⟨rfl,hv⟩:=hq;exact⟨m,Z8 m,hM,hv⟩
end
set_option linter.unusedVariables false
set_option linter.unusedSimpArgs false
section
variable {G:Sg}{P:Program}{δ:List Nat}{n:Nat}{W0:Bse}{L0:Rs}{T0:List (Nat×Value)}{m m0:M}{z:Cz}{st:St G}{a:Act}{w:World}{Γ:Tab P G}{D:List (CS P G)}{g:Option (Nat×Bool)}{res:Type}{all:List Oper}{k:Nat}
abbrev dj (os:List Oper)(j:Nat):Option Nat:=cz os.toArray j
def nsp (all:List Oper)(k q:Nat):Prop:= ∀oq,(all.take k)[q]? =some oq→lP oq=false
def sH (G:Sg) (all:List Oper) (k:Nat) (st0:St G) (ev:Nat→EV G) (j:Nat) (o:Oper) (ρ:Operand→Option (EV G)):Prop:=
 ∀x e,ρ x=some e→match x with
  | .tmp t=>(∃q,q∈bX o∧q<j∧dj (all.take k) q=some t∧ev q=e∧nsp all k q)∨((∃lv,(t,lv,e)∈st0.env)∧∀(q:Nat) (oq:Oper),(all.take k)[q]? =some oq→oq.dst=some t→j∈bX oq)
  | .const v=>∃b,cAV v=some b∧e= .one b
  |_=>False
def yj (G:Sg) (P:Program) (Γ:Tab P G) (D:List (CS P G)) (all:List Oper) (k:Nat) (st0:St G) (ev:Nat→EV G) (j:Nat) (o:Oper):Prop:=
 ∃(R:hZ G) (b:R.β) (ρ:Operand→Option (EV G)),rC Γ D ρ (eW st0.L) o.op=some R∧R.mv=some b∧ev j=R.k b∧sH G all k st0 ev j o ρ
def OpF (G:Sg) (P:Program) (Γ:Tab P G) (D:List (CS P G)) (n:Nat) (all:List Oper) (k:Nat) (st0:St G) (ev:Nat→EV G) (j:Nat) (o:Oper):Prop:=
 ∃d,o.dst=some d∧Zc d n=true∧match o.guard with
  |none=>yj G P Γ D all k st0 ev j o
  |some (g,b)=>g∈bX o∧nsp all k g∧∃dg,dj (all.take k) g=some dg∧Zc dg n=true∧((∃x,ev g= .one (db x)∧(x=b→yj G P Γ D all k st0 ev j o)∧(x≠b→ev j= .one .und))∨(ev g= .one .und∧ev j= .one .und))
structure oa (G:Sg) (all:List Oper) (k:Nat) (st0:St G) (ev:Nat→EV G) (i:Nat) (st:St G):Prop where
 L:st.L=st0.L
 T:st.T=st0.T
 c:st.c=st0.c
 env:∀e∈st.env,(∃j,j<i∧dj (all.take k) j=some e.1∧ev j=e.2.2∧e.2.1=st0.c∧nsp all k j)∨((∀j,j<i→dj (all.take k) j≠some e.1)∧e∈st0.env)
structure Dis (all:List Oper) (k n:Nat):Prop where
 ed:ov all=true
 ne:∀(i j:Nat) (d:Nat),dj (all.take k) i=some d→dj (all.take k) j=some d→i=j
theorem RK {os:List Oper}{j d:Nat}:dj os j=some d↔ ∃o,os[j]? =some o∧o.dst=some d:=by
 unfold dj cz;cases ho:os[j]? with
 |none=>simp[ho]
 |some o=>simp[ho]
theorem GK (he:ov all=true)(hd:vN (all.take k) n=true):Dis all k n:=by
 refine⟨he,λi j d hi hj=>?_⟩;obtain⟨o,ho,hod⟩:=RK.1 hi;obtain⟨o',ho',hod'⟩:=RK.1 hj;unfold vN at hd;rw[Z5] at hd;have h1:=Zf.1 hd.2 (o,i) (by rw[Zd];exact ho);have h2:=Zf.1 h1 (o',j) (by rw[Zd];exact ho');simp only[hod,hod',Bool.or_eq_true,Bool.not_eq_true'] at h2;rcases h2 with h2|h2
 ·exact Z0 h2
 ·simp at h2
theorem Bg {ev:Nat→EV G}{st0:St G}{i:Nat}{o:Oper}(hD:Dis all k n)(ho:all[i]? =some o)(hc:oa G all k st0 ev i st):sH G all k st0 ev i o (visρ all k i o st):=by
 intro x e hx;cases x with
 | tmp t =>
  simp only[visρ] at hx;split at hx
  ·rename_i hv
   simp only[St.op] at hx;split at hx
   ·rename_i e' he
    injection hx with hx;subst hx
    have hm:=iq he
    have hvis:∀q oq,(all.take k)[q]? =some oq→oq.dst=some t→q∈bX o∨i∈bX oq:=by
     intro q oq hq hqd;have:=Zf.1 hv (oq,q) (by rw[Zd];exact hq);simp only[hqd,Bool.or_eq_true,Bool.not_eq_true'] at this;rcases this with(h|h)|h
     ·simp at h
     ·obtain ⟨p,hp,hb⟩:=Zg.1 h
      have:=Z0 hb;subst this;exact .inl hp
     ·obtain ⟨p,hp,hb⟩:=Zg.1 h
      have:=Z0 hb;subst this;exact .inr hp
    rcases hc.env _ hm with⟨j,hj,hdj,hej,_,hns⟩|⟨hno,h0⟩
    ·obtain ⟨oj,hoj,hojd⟩:=RK.1 hdj
     rcases hvis j oj hoj hojd with h|h
     ·exact .inl ⟨j,h,hj,hdj,hej,hns⟩
     ·exfalso
      have hoj':all[j]? =some oj:=by
       rw[Zh] at hoj;split at hoj
       ·exact hoj
       ·cases hoj
      have:=jG hD.ed hoj' i h;omega
    ·refine .inr ⟨⟨e'.1,h0⟩,fun q oq hq hqd=> ?_⟩
     rcases hvis q oq hq hqd with h|h
     ·exfalso
      have:=jG hD.ed ho q h;exact hno q this (RK.2 ⟨oq,hq,hqd⟩)
     ·exact h
   ·cases hx
  ·cases hx
 | const v =>
  simp only[visρ,St.op] at hx;split at hx
  ·rename_i b hb
   injection hx with hx;subst hx
   exact⟨b,hb,rfl⟩
  ·cases hx
 |_=>simp[visρ,St.op] at hx
theorem oa.step {ev ev':Nat→EV G}{st0:St G}{i d:Nat}{e:EV G}(hns:nsp all k i)(hc:oa G all k st0 ev i st)(hd:dj (all.take k) i=some d)(he:ev' i=e)(hev:∀j,j<i→ev' j=ev j):oa G all k st0 ev' (i+1) (st.put d e):=by
 refine⟨hc.L,hc.T,hc.c,λx hx=>?_⟩;rcases Z6.1 hx with rfl|hx
 ·exact .inl ⟨i,by omega,hd,he,hc.c,hns⟩
 ·obtain ⟨h1,h2⟩:=lC hx
  rcases hc.env x h1 with⟨j,hj,h3,h4,h5⟩|⟨h3,h4⟩
  ·exact .inl ⟨j,by omega,h3,by rw[hev j hj];exact h4,h5⟩
  ·refine .inr ⟨fun j hj hdj=> ?_,h4⟩
   rcases Zi j i with h|h
   ·exact h3 j h hdj
   ·have:j=i:=by omega
    subst this;rw[hd] at hdj;injection hdj with hdj
    exact h2 hdj.symm
theorem oa.lit {ev:Nat→EV G} {st0:St G} {i gi dg:Nat} {x:Bool} (hD:Dis all k n) (hc:oa G all k st0 ev i st) (hg:dj (all.take k) gi=some dg) (hgi:gi<i) (hx:gd (st.op (.tmp dg))=some (some x)):
  ev gi= .one (db x)∧nsp all k gi∧oa G all k st0 ev i (st.put dg (.one (db x))):=by
 have key:ev gi= .one (db x)∧nsp all k gi:=by
  unfold gd at hx;split at hx
  ·rename_i b hb
   have:b=db x:=by
    cases b with
    |dat t y oo=>
     cases t<;>cases oo<;>simp only[AV.g?,reduceCtorEq] at hx;obtain rfl:=Option.some.inj (Option.some.inj hx)
     rfl
    |_=>simp[AV.g?] at hx
   subst this;cases he:lke st.env dg with
   |none=>simp[St.op,he,av?] at hb
   | some e =>
    simp only[St.op,he] at hb;have hm:=iq he
    have hev:e.2= .one (db x):=by
     cases h2:e.2 with
     |one v=>simp only[h2,av?,Option.some.injEq] at hb;rw[hb]
     |tup vs=>simp[h2,av?] at hb
    rcases hc.env _ hm with⟨j,hj,h3,h4,_,hns⟩|⟨h3,_⟩
    ·have:=hD.ne gi j dg hg h3
     subst this;rw[h4];exact⟨hev,hns⟩
    ·exact absurd hg (h3 gi hgi)
  ·cases hx
 refine⟨key.1,key.2,hc.L,hc.T,hc.c,λe he=>?_⟩;rcases Z6.1 he with rfl|he
 ·exact .inl ⟨gi,hgi,hg,key.1,hc.c,key.2⟩
 ·exact hc.env e (lC he).1
theorem oa.und {ev:Nat→EV G}{st0:St G}{i gi dg:Nat}(hD:Dis all k n)(hc:oa G all k st0 ev i st)(hg:dj (all.take k) gi=some dg)(hgi:gi<i)(hx:gd (st.op (.tmp dg))=some none):ev gi= .one .und∧nsp all k gi:=by
 unfold gd at hx;split at hx
 ·rename_i b hb
  have:b= .und:=by
   cases b with
   |und=>rfl
   |dat t y oo=>cases t<;>cases oo<;>simp[AV.g?] at hx
   |_=>simp[AV.g?] at hx
  subst this;cases he:lke st.env dg with
  |none=>simp[St.op,he,av?] at hb
  | some e =>
   simp only[St.op,he] at hb;have hm:=iq he
   have hev:e.2= .one .und:=by
    cases h2:e.2 with
    |one v=>simp only[h2,av?,Option.some.injEq] at hb;rw[hb]
    |tup vs=>simp[h2,av?] at hb
   rcases hc.env _ hm with⟨j,hj,h3,h4,_,hns⟩|⟨h3,_⟩
   ·have:=hD.ne gi j dg hg h3
    subst this;rw[h4];exact⟨hev,hns⟩
   ·exact absurd hg (h3 gi hgi)
 ·cases hx
theorem Bh {ρ : Type} {K : St G → Option ρ} {r : ρ} {st0 : St G} (hD : Dis all k n) : ∀ {os rest : List Oper} {i : Nat} {st : St G} {ev : Nat → EV G}, (all.take k).drop i = os ++ rest → (∀ o ∈ os, lP o = false) → oa G all k st0 ev i st → ln n Γ D all k i os st K = some r →
  ∃ev' stf,(∀j,j<i→ev' j=ev j)∧(∀j o,i≤j→j<i+os.length→(all.take k)[j]? =some o→OpF G P Γ D n all k st0 ev' j o)∧K stf=some r∧oa G all k st0 ev' (i+os.length) stf:=by
 intro os
 induction os with
 |nil=>
  intro rest i st ev hdr _ hc h;exact⟨ev,st,λ_ _=>rfl,λj o hj hj2 ho=>by simp at hj2;omega,h,hc⟩
 | cons o os ih =>
  intro rest i st ev hdr hsp hc h
  have ho:(all.take k)[i]? =some o:=by
   have:=congrArg (·[0]?) hdr;simpa using this
  have hoa:all[i]? =some o:=by
   rw[Zh] at ho;split at ho
   ·exact ho
   ·cases ho
  have hdr':(all.take k).drop (i+1)=os++rest:=by rw[←List.drop_drop,hdr];rfl
  have hsp':∀o∈os,lP o=false:=λo' ho'=>hsp o' (List.mem_cons_of_mem _ ho');have hns:nsp all k i:=λoq hoq=>by rw[ho] at hoq;injection hoq with hoq;subst hoq;exact hsp o (by simp)
  -- the rest, from a state behind this operation
  have go: ∀{st1:St G} {e:EV G} {d:Nat},o.dst=some d→Zc d n=true→oa G all k st0 ev i st1→ln n Γ D all k (i+1) os (st1.put d e) K=some r→
    (∀ev':Nat→EV G,(∀j,j<i→ev' j=ev j)→ev' i=e→OpF G P Γ D n all k st0 ev' i o)→
    ∃ev' stf,(∀j,j<i→ev' j=ev j)∧(∀j o',i≤j→j<i+(o::os).length→(all.take k)[j]? =some o'→OpF G P Γ D n all k st0 ev' j o')∧K stf=some r∧oa G all k st0 ev' (i+(o::os).length) stf:=by
   intro st1 e d hd hdn hc1 h1 hf;have hc2:=oa.step hns hc1 (ev':=λj=>if j=i then e else ev j) (RK.2 ⟨o,ho,hd⟩) (if_pos rfl) (λj hj=>if_neg (by omega));obtain⟨ev',stf,q1,q2,q3,q4⟩:=ih hdr' hsp' hc2 h1;have e1:∀j,j<i→ev' j=ev j:=λj hj=>by rw[q1 j (by omega)];exact if_neg (by omega)
   have e2:ev' i=e:=by rw[q1 i (by omega)];exact if_pos rfl
   refine⟨ev',stf,e1,λj oj hj hj2 hoj=>?_,q3,by rw[Zx,show i+(os.length+1)=i+1+os.length by omega];exact q4⟩;rw[Zx] at hj2;rcases Zi i j with hij|hij
   ·exact q2 j oj (by omega) (by omega) hoj
   ·have:j=i:=by omega
    subst this;rw[ho] at hoj;injection hoj with hoj;subst hoj
    exact hf ev' e1 e2
  have reads:∀{st1:St G},oa G all k st0 ev i st1→∀ev':Nat→EV G,(∀j,j<i→ev' j=ev j)→sH G all k st0 ev' i o (visρ all k i o st1):=by
   intro st1 hc1 ev' he x e hx;have:=Bg hD hoa hc1 x e hx;cases x with
   |tmp t=>
    rcases this with⟨q,h1,h2,h3,h4,h5⟩|h
    ·exact .inl ⟨q,h1,h2,h3,by rw[he q h2];exact h4,h5⟩
    ·exact .inr h
   |_=>exact this
  have exec:∀{st1:St G} {R:hZ G} {b:R.β},oa G all k st0 ev i st1→rC Γ D (visρ all k i o st1) (eW st.L) o.op=some R→R.mv=some b→∀ev':Nat→EV G,(∀j,j<i→ev' j=ev j)→ev' i=R.k b→yj G P Γ D all k st0 ev' i o:=by
   intro st1 R b hc1 hR hb ev' he hi;exact⟨R,b,_,by rw[hc.L] at hR;exact hR,hb,hi,reads hc1 ev' he⟩
  unfold ln at h;split at h
  ·rename_i d hd
   split at h
   ·rename_i hdn hgn
    split at h
    ·rename_i R hR
     cases hb:R.mv with
     |none=>simp[hb] at h
     |some b=>
      simp only[hb,Zt] at h;refine go hd hdn hc h λev' he hi=>⟨d,hd,hdn,?_⟩
      rw[hgn];exact exec hc hR hb ev' he hi
    ·cases h
   ·rename_i g b hdn hgn
    split at h
    ·rename_i dg hgp hdg
     have hgm:g∈bX o:=by
      obtain⟨e,he,hb⟩:=Zg.1 hgp;have:=Z0 hb;subst this;exact he
     have hgi:=jG hD.ed hoa g hgm;split at h
     ·rename_i x hdgn hx
      obtain⟨k1,kn,hc1⟩:=oa.lit hD hc hdg hgi hx;split at h
      ·rename_i hxt
       rw[hxt] at k1 hc1;split at h
       ·split at h
        ·rename_i R hR
         cases hb:R.mv with
         |none=>simp[hb] at h
         |some b=>
          simp only[hb,Zt] at h;refine go hd hdn hc1 h λev' he hi=>⟨d,hd,hdn,?_⟩
          rw[hgn];exact⟨hgm,kn,dg,hdg,hdgn,.inl ⟨true,by rw[he g hgi];exact k1,λ_=>exec hc1 hR hb ev' he hi,λhne=>absurd rfl hne⟩⟩
        ·cases h
       ·refine go hd hdn hc1 h fun ev' he hi=>⟨d,hd,hdn,?_⟩
        rw[hgn];exact⟨hgm,kn,dg,hdg,hdgn,.inl ⟨true,by rw[he g hgi];exact k1,(λhne=>Zu hne),λ_=>hi⟩⟩
      ·rename_i hxf
       have hxf':x=false:=by simpa using hxf
       rw[hxf'] at k1 hc1;split at h
       ·split at h
        ·rename_i R hR
         cases hb:R.mv with
         |none=>simp[hb] at h
         |some b=>
          simp only[hb,Zt] at h;refine go hd hdn hc1 h λev' he hi=>⟨d,hd,hdn,?_⟩
          rw[hgn];exact⟨hgm,kn,dg,hdg,hdgn,.inl ⟨false,by rw[he g hgi];exact k1,λ_=>exec hc1 hR hb ev' he hi,λhne=>absurd rfl hne⟩⟩
        ·cases h
       ·refine go hd hdn hc1 h fun ev' he hi=>⟨d,hd,hdn,?_⟩
        rw[hgn];exact⟨hgm,kn,dg,hdg,hdgn,.inl ⟨false,by rw[he g hgi];exact k1,(λhne=>Zu hne),λ_=>hi⟩⟩
     ·rename_i hdgn hx
      obtain⟨k1,kn⟩:=oa.und hD hc hdg hgi hx;refine go hd hdn hc h λev' he hi=>⟨d,hd,hdn,?_⟩
      rw[hgn];exact⟨hgm,kn,dg,hdg,hdgn,.inr ⟨by rw[he g hgi];exact k1,hi⟩⟩
     ·cases h
    ·cases h
   ·cases h
  ·cases h
theorem y8 {g dg:Nat}(h:dj (all.take k) g=some dg):cz all.toArray g=some dg:=by
 obtain⟨o,ho,hd⟩:=RK.1 h;rw[Zh] at ho;split at ho
 ·exact RK.2 ⟨o,ho,hd⟩
 ·cases ho
theorem lF {j:Nat}{o:Oper}(h:(all.take k)[j]? =some o):all[j]? =some o∧j<k:=by
 rw[Zh] at h;split at h
 ·exact⟨h, ‹_›⟩
 ·cases h
theorem CQ {j:Nat}{o:Oper}(h:all[j]? =some o)(hk:j<k):(all.take k)[j]? =some o:=by
 rw[Zh,if_pos hk];exact h
theorem gk.drew {Ls:List (Nat×BC G)}{Ts:List Nat}(h:gk G W0 L0 T0 Ls Ts m z w):gk G W0 L0 T0 Ls Ts m z w.drew:=by
 obtain⟨Lc,Tc,h1,h2,h3,h4⟩:=h;exact⟨Lc,Tc,h1,h2,h3.drew,h4⟩
theorem Kr {ρ:Type} {ro:Option Nat} {id:Nat} {K':St G→Option ρ} {r:ρ} {N Rt:Act→World→Prop} {X:List (Nat×(Act→World→Prop))} (hnsp:(all.take k).any lP=false) (hmx:P.follows .mixedOrders=true) (hs:Sat G P δ n W0 L0 T0 m0 st a w) (hD:Dis all k n) (htl:oJ all k=true)
  (h:ln n Γ D all k 0 (all.take k) st (λst'=>lU n Γ D all (all.drop k) st' K')=some r) (hN:Nxt G P δ n W0 L0 T0 m0 K' r st N):K ro P (.region id all.toArray true) N X Rt a w:=by
 obtain⟨⟨m,z,h0,hr,hM⟩,hdf,hsz⟩:=hs
 have hsp:∀o∈all.take k,lP o=false:=λo ho=>by
  cases hq:lP o with
  |false=>rfl
  |true=>rw[Zg.2 ⟨o,ho,hq⟩] at hnsp;cases hnsp
 obtain⟨ev,stf,_,hF,hK,hC⟩:=Bh (G:=G) (P:=P) (st0:=st) (ev:=λ_=> .one .und) hD (i:=0) (rest:=[]) (by simp) hsp ⟨rfl,rfl,rfl,λe he=> .inr ⟨λj hj=>by omega,he⟩⟩ h;rw[Nat.zero_add] at hC;have hF':∀j o,(all.take k)[j]? =some o→OpF G P Γ D n all k st ev j o:=λj o ho=>hF j o (Nat.zero_le _) (by have:=(Z2.1 ho).1;omega) ho
 refine E2 (k:=k) hmx hD.ed htl (fun s a w=> ∃m',M.le m m'∧gk G W0 L0 T0 st.L st.T m' z w∧(a.defers=δ.map fun D=>{ target:= .collected D,args:= #[] })∧a.tmps.size=n∧
   (∀(j:Nat) (o:Oper),(all.take k)[j]? =some o→s j=true→∀d,o.dst=some d→(ev j).Rel G P m' z (a.tmps.getD d undef))∧
   (∀e∈st.env,(∀(j:Nat) (o:Oper),(all.take k)[j]? =some o→o.dst=some e.1→s j=false)→e.2.2.Rel G P m' z (a.tmps.getD e.1 undef))) ?_ ?_ ?_
 ·exact⟨m,Z8 m,hM.drew,hdf,hsz,(λj o _ h=>Zu h),λe he _=>hr e he⟩
 ·rintro i o hio hik s a w ⟨m',hm,hMe,hdf,hsz,hev,hold⟩ hsi hpre hcl
  have hit:=CQ hio hik;obtain⟨d,hd,hdn,hop⟩:=hF' i o hit;have hdn':d<n:=Z3 hdn
  -- what it may read holds now
  have reads:∀{ρ:Operand→Option (EV G)},sH G all k st ev i o ρ→∀x e,ρ x=some e→e.Rel G P m' z (a.eval x):=by
   intro ρ hR x e hx;have:=hR x e hx;cases x with
   | tmp t =>
    rcases this with⟨q,h1,h2,h3,h4,_⟩|⟨⟨lv,h1⟩,h2⟩
    ·obtain ⟨oq,hoq,hod⟩:=RK.1 h3
     rw[←h4];exact hev q oq hoq (hpre q h1) t hod
    ·refine hold _ h1 fun q oq hoq hod=> ?_
     cases hsq:s q with
     |false=>rfl
     |true=>
      have:=hcl q oq (lF hoq).1 hsq i (h2 q oq hoq hod);rw[hsi] at this;cases this
   |const v=>
    obtain⟨b,h1,rfl⟩:=this;exact z6 h1
   |_=>exact this.elim
  have next: ∀(v:Value) (w':World) (m'':M),M.le m' m''→gk G W0 L0 T0 st.L st.T m'' z w'→(ev i).Rel G P m'' z v→
    ∃m',M.le m m'∧gk G W0 L0 T0 st.L st.T m' z w'∧((a.put o.dst v).defers=δ.map fun D=>{ target:= .collected D,args:= #[] })∧(a.put o.dst v).tmps.size=n∧
     (∀(j:Nat) (o':Oper),(all.take k)[j]? =some o'→upd s i j=true→∀d,o'.dst=some d→(ev j).Rel G P m' z ((a.put o.dst v).tmps.getD d undef))∧
     (∀e∈st.env,(∀(j:Nat) (o:Oper),(all.take k)[j]? =some o→o.dst=some e.1→upd s i j=false)→e.2.2.Rel G P m' z ((a.put o.dst v).tmps.getD e.1 undef)):=by
   intro v w' m'' hm' hM' hv;rw[hd];refine⟨m'',hm.trans hm',hM',by simp[Act.put,hdf],by simp[Act.put,hsz],λj oj hoj hu e hoe=>?_,λe he hno=>?_⟩
   ·by_cases hji:j=i
    ·subst hji
     rw[hit] at hoj;injection hoj with hoj;subst hoj
     rw[hd] at hoe;injection hoe with hoe;subst hoe
     simpa[Act.put,hsz,hdn'] using hv
    ·unfold upd at hu
     rw[if_neg hji] at hu;have h1:=(hev j oj hoj hu e hoe).mono hm'
     have hne:d≠e:=λx=>by
      subst x;exact hji (hD.ne j i d (RK.2 ⟨oj,hoj,hoe⟩) (RK.2 ⟨o,hit,hd⟩))
     simpa[Act.put,Array.getElem?_setIfInBounds_ne hne] using h1
   ·have hne:d≠e.1:=λx=>by
     have:=hno i o hit (by rw[hd,x]);simp[upd] at this
    have h1:=(hold e he λj oj hoj hod=>by
     have:=hno j oj hoj hod;unfold upd at this;split at this
     ·cases this
     ·exact this).mono hm'
    simpa[Act.put,Array.getElem?_setIfInBounds_ne hne] using h1
  have run:yj G P Γ D all k st ev i o→bg P o a w (fun v w'=> ∃m',M.le m m'∧gk G W0 L0 T0 st.L st.T m' z w'∧((a.put o.dst v).defers=δ.map fun D=>{ target:= .collected D,args:= #[] })∧(a.put o.dst v).tmps.size=n∧
     (∀(j:Nat) (o':Oper),(all.take k)[j]? =some o'→upd s i j=true→∀d,o'.dst=some d→(ev j).Rel G P m' z ((a.put o.dst v).tmps.getD d undef))∧
     (∀e∈st.env,(∀(j:Nat) (o:Oper),(all.take k)[j]? =some o→o.dst=some e.1→upd s i j=false)→e.2.2.Rel G P m' z ((a.put o.dst v).tmps.getD e.1 undef))):=by
   rintro ⟨R,b,ρ,hR,hb,he,hrd⟩;obtain⟨dst,op,ty,pos,aft,g⟩:=o;simp only at hd;subst hd;refine(Bf (d:=d) hdf hsz hMe (reads hrd) R b hR hb).imp λv w' hq=>?_;obtain⟨m'',h1,h2,h3⟩:=hq;exact next v w' m'' h1 h2 (by rw[he];exact h3)
  have skip:ev i= .one .und→ ∃m',M.le m m'∧gk G W0 L0 T0 st.L st.T m' z w∧((a.put o.dst undef).defers=δ.map fun D=>{ target:= .collected D,args:= #[] })∧(a.put o.dst undef).tmps.size=n∧
     (∀(j:Nat) (o':Oper),(all.take k)[j]? =some o'→upd s i j=true→∀d,o'.dst=some d→(ev j).Rel G P m' z ((a.put o.dst undef).tmps.getD d undef))∧
     (∀e∈st.env,(∀(j:Nat) (o:Oper),(all.take k)[j]? =some o→o.dst=some e.1→upd s i j=false)→e.2.2.Rel G P m' z ((a.put o.dst undef).tmps.getD e.1 undef)):=
   λhe=>next undef w m' (Z8 m') hMe (by rw[he];rfl)
  cases hg:o.guard with
  |none=>
   rw[hg] at hop;have hw:Region.wanted o (yielded all.toArray a.tmps)=true:=by simp[Region.wanted,hg]
   rw[if_pos hw];exact run hop
  | some gb =>
   obtain⟨g,b⟩:=gb;rw[hg] at hop;obtain⟨hgp,_,dg,hdg,hdgn,hx⟩:=hop;obtain⟨og,hog,hogd⟩:=RK.1 hdg;have hgv:=hev g og hog (hpre g hgp) dg hogd;rcases hx with⟨x,h1,h2,h3⟩|⟨h1,h2⟩
   ·rw [h1] at hgv
    have hv:a.tmps.getD dg undef= .bool x:=eQ hgv.1;have hy:=rB (all:=all) hsz (y8 hdg) hdgn hv
    by_cases hxb:x=b
    ·have hw:Region.wanted o (yielded all.toArray a.tmps)=true:=by simp [Region.wanted,hg,hy,hxb]
     rw[if_pos hw];exact run (h2 hxb)
    ·have hw: ¬ Region.wanted o (yielded all.toArray a.tmps)=true:=by simp [Region.wanted,hg,hy,hxb]
     rw[if_neg hw];exact skip (h3 hxb)
   ·rw [h1] at hgv
    have hv:a.tmps.getD dg undef=undef:=hgv;have hy:=nI (y8 hdg) hv;have hw: ¬ Region.wanted o (yielded all.toArray a.tmps)=true:=by simp[Region.wanted,hg,hy]
    rw[if_neg hw];exact skip h2
 ·rintro s a w ⟨m',hm,hMe,hdf,hsz,hev,hold⟩ hall
  have hEf:j0 G P m' z stf.env a:=by
   intro e he;rcases hC.env e he with⟨j,hj,h3,h4,_⟩|⟨h3,h4⟩
   ·obtain ⟨o,ho,hod⟩:=RK.1 h3
    rw[←h4];exact hev j o ho (hall j (lF ho).2 (Z2.1 (lF ho).1).1) e.1 hod
   ·refine hold e h4 fun j o ho hod=> ?_
    exact absurd (RK.2 ⟨o,ho,hod⟩) (h3 j (Z2.1 ho).1)
  have hSf:Sat G P δ n W0 L0 T0 m0 stf a w:=⟨⟨m',z,h0.trans hm,hEf,by rw[hC.L,hC.T];exact hMe⟩,hdf,hsz⟩
  have hX:Ext st.c st stf:=by
   refine⟨λq hq e he hl=>?_,λq hq i s B hb hs=>⟨s,hs,by rw[hC.L] at hb;exact hb⟩⟩;rcases hC.env e he with⟨j,_,_,_,h5,_⟩|⟨_,h4⟩
   ·omega
   ·exact⟨e.2.1,hl,h4⟩
  exact yh hK hSf λst' a' w' q1 q2 q3 q4=>ag (hN st' a' w' q1 q2 (hX.trans (by rw[hC.c] at q3;exact q3)) (by rw[q4,hC.c]))
end
set_option linter.unusedVariables false
set_option linter.unusedSimpArgs false
section
variable {G:Sg}{P:Program}{δ:List Nat}{n:Nat}{W0:Bse}{L0:Rs}{T0:List (Nat×Value)}{m m0:M}{z:Cz}{st:St G}{a:Act}{w:World}{Γ:Tab P G}{D:List (CS P G)}{g:Option (Nat×Bool)}{all:List Oper}{k:Nat}
theorem S.comm {A B C:List (Nat×List Value)}{TL:List (Nat×Value)}(h:S W0 m w (A++(B++C)) TL):S W0 m w (B++(A++C)) TL:=by
 refine h.selL _ (λi=>if i<B.length then i+A.length else if i<B.length+A.length then i - B.length else i) (λi e he=>?_) (λi j hij=>?_)
 ·by_cases h1:i<B.length
  ·rw [if_pos h1]
   rw[Z4 h1] at he;rw[Z1 (by omega),Z4 (by omega),show i+A.length - A.length=i by omega];exact he
  ·rw [if_neg h1]
   rw[Z1 (by omega)] at he
   by_cases h2:i<B.length+A.length
   ·rw [if_pos h2]
    rw[Z4 (by omega)] at he;rw[Z4 (by omega)];exact he
   ·rw [if_neg h2]
    rw[Z1 (by omega)] at he;rw[Z1 (by omega),Z1 (by omega),show i - A.length - B.length=i - B.length - A.length by omega];exact he
 ·split at hij<;>split at hij<;>(try split at hij)<;>(try split at hij)<;>omega
def CR (G:Sg) (m:M) (z:Cz) (done:Bool) (a:Act):Sp G→Nat×List Value→Prop
 | .al d t x,e=>match done with
  |true=>a.tmps.getD d undef= .pointer (some ⟨e.1,0,none⟩)∧(t.kd G).R m e.2 x
  |false=>e.2=[]
 | .so i t x,e=>∃p,fb z.b i=some p∧e.1=p.1∧match done with
  |true=>(t.kd G).R m e.2 x
  |false=>∃y,(t.kd G).R m e.2 y
def FrR (G:Sg) (m:M) (z:Cz) (s:Nat→Bool) (a:Act):List (Nat×Sp G)→List (Nat×List Value)→Prop
 |[],[]=>True
 |q::r,e::Fr=>CR G m z (s q.1) a q.2 e∧FrR G m z s a r Fr
 |_,_=>False
theorem CR.step {m':M}{b:Bool}{sp:Sp G}{e:Nat×List Value}{a':Act}(h:CR G m z b a sp e)(hm:M.le m m')(ha:∀d t x,sp= .al d t x→a'.tmps.getD d undef=a.tmps.getD d undef):CR G m' z b a' sp e:=by
 cases sp with
 |al d t x=>
  cases b with
  |true=>obtain⟨h1,h2⟩:=h;exact⟨by rw[ha d t x rfl];exact h1,(t.kd G).mono hm h2⟩
  |false=>exact h
 |so i t x=>
  obtain⟨p,h1,h2,h3⟩:=h;cases b with
  |true=>exact⟨p,h1,h2,(t.kd G).mono hm h3⟩
  |false=>obtain⟨y,h3⟩:=h3;exact⟨p,h1,h2,y,(t.kd G).mono hm h3⟩
theorem FrR.step {m':M}{s s':Nat→Bool}{a':Act}:∀{sps:List (Nat×Sp G)} {Fr:List (Nat×List Value)},FrR G m z s a sps Fr→M.le m m'→(∀q∈sps,s' q.1=s q.1∧∀d t x,q.2= .al d t x→a'.tmps.getD d undef=a.tmps.getD d undef)→FrR G m' z s' a' sps Fr:=by
 intro sps
 induction sps with
 |nil=>intro Fr h _ _;cases Fr with|nil=>trivial|cons e Fr=>exact h.elim
 | cons q r ih =>
  intro Fr h hm hq;cases Fr with
  |nil=>exact h.elim
  |cons e Fr=>
   obtain⟨h1,h2⟩:=h;obtain⟨q1,q2⟩:=hq q (by simp);exact⟨by rw[q1];exact h1.step hm q2,ih h2 hm λx hx=>hq x (by simp[hx])⟩
theorem FrR.zz {z':Cz}{s:Nat→Bool}(hz:∀i p,fb z.b i=some p→fb z'.b i=some p):∀{sps:List (Nat×Sp G)} {Fr:List (Nat×List Value)},FrR G m z s a sps Fr→FrR G m z' s a sps Fr:=by
 intro sps
 induction sps with
 |nil=>intro Fr h;cases Fr with|nil=>trivial|cons e Fr=>exact h.elim
 | cons q r ih =>
  intro Fr h;cases Fr with
  |nil=>exact h.elim
  |cons e Fr=>
   obtain⟨h1,h2⟩:=h;refine⟨?_,ih h2⟩;obtain⟨j,sp⟩:=q;cases sp with
   |al d t x=>exact h1
   |so i t x=>obtain⟨p,k1,k2⟩:=h1;exact⟨p,hz i p k1,k2⟩
theorem FrR.set {s:Nat→Bool}: ∀{sps:List (Nat×Sp G)} {Fr:List (Nat×List Value)} {i:Nat} {sp:Sp G},FrR G m z s a sps Fr→(i,sp)∈sps→(sps.map Prod.fst).Nodup→
  ∃p e,Fr[p]? =some e∧CR G m z (s i) a sp e∧∀(m':M) (a':Act) (e':Nat×List Value),M.le m m'→CR G m' z true a' sp e'→(∀q∈sps,q.1≠i→∀d t x,q.2= .al d t x→a'.tmps.getD d undef=a.tmps.getD d undef)→FrR G m' z (upd s i) a' sps (Fr.set p e'):=by
 intro sps
 induction sps with
 |nil=>intro Fr i sp _ hi;cases hi
 | cons q r ih =>
  intro Fr i sp h hi hn;cases Fr with
  |nil=>exact h.elim
  | cons e Fr =>
   obtain⟨h1,h2⟩:=h;simp only[Zj,List.nodup_cons] at hn;obtain⟨hn1,hn2⟩:=hn;rcases Z6.1 hi with hq|hi
   ·subst hq
    refine⟨0,e,rfl,h1,λm' a' e' hm he ha=>⟨?_,?_⟩⟩
    ·rw[show upd s i i=true from if_pos rfl];exact he
    ·refine h2.step hm fun x hx=> ?_
     have hne:x.1≠i:=λe=>by
      have h5:=Zk (f:=Prod.fst) hx;rw[e] at h5;exact hn1 h5
     exact⟨if_neg hne,ha x (by simp[hx]) hne⟩
   ·obtain ⟨p,e1,k1,k2,k3⟩:=ih h2 hi hn2
    have hne:q.1≠i:=λe=>hn1 (by rw[e];exact Zk (f:=Prod.fst) hi);refine⟨p+1,e1,k1,k2,λm' a' e' hm he ha=>⟨?_,k3 m' a' e' hm he λx hx=>ha x (by simp[hx])⟩⟩;rw[show upd s i q.1=s q.1 from if_neg hne];exact h1.step hm (ha q (by simp) hne)
theorem GL {c:Nat} {X:List (Nat×List Value)} {TL:List (Nat×Value)} {Ls:List (Nat×BC G)} {Lc:List (Nat×List Value)} (h1:LR G m Ls z.b Lc) (hS:S W0 m w (Lc++X) TL): ∀{gs:List (Option Nat)},gOK (eW Ls) gs=true→
  ∃(Lc' Fr:List (Nat×List Value)),LR G m (fU c gs Ls) z.b Lc'∧S W0 m w (Fr++(Lc'++X)) TL∧(∀j,(∀o∈gs,o≠some j)→fb (fU c gs Ls) j=fb Ls j)∧
   (∀sps:List (Nat×Sp G),sps.map (λq=>q.2.blk)=gs→(∀q∈sps,∀i t x,q.2= .so i t x→∃y,eW Ls i=some (.dat t y))→FrR G m z (λ_=>false) a sps Fr):=by
 intro gs
 induction gs with
 |nil=>
  intro _;refine⟨Lc,[],h1,hS,λ_ _=>rfl,λsps hs _=>?_⟩;cases sps with
  |nil=>trivial
  |cons q r=>simp at hs
 | cons o gs ih =>
  intro hg;cases o with
  | none =>
   obtain⟨Lc',Fr,k1,k2,k3,k4⟩:=ih hg;refine⟨Lc',(0,[])::Fr,k1,k2.void 0,λj hj=>k3 j λo ho=>hj o (by simp[ho]),λsps hs hq=>?_⟩;cases sps with
   |nil=>simp at hs
   |cons q r=>
    simp only[Zj,List.cons.injEq] at hs;obtain⟨hs1,hs2⟩:=hs;refine⟨?_,k4 r hs2 λx hx=>hq x (by simp[hx])⟩;obtain⟨j,sp⟩:=q;cases sp with
    |al d t x=>exact rfl
    |so i t x=>simp[Sp.blk] at hs1
  | some i =>
   simp only[gOK,Z5] at hg;obtain⟨⟨hg1,hg2⟩,hg3⟩:=hg;obtain⟨Lc',Fr,k1,k2,k3,k4⟩:=ih hg3
   have hni:∀o∈gs,o≠some i:=λo ho e=>by
    subst e;have:gs.any (λj=>decide (j=some i))=true:=Zg.2 ⟨some i,ho,by simp⟩;rw[this] at hg2;cases hg2
   split at hg1
   ·rename_i t y hB
    obtain⟨lv,hlv⟩:=ia hB;have hlv':fb (fU c gs Ls) i=some (lv,.dat t y):=by rw[k3 i hni];exact hlv
    obtain⟨p,cs,j,g1,g2,g3,g4⟩:=k1.get hlv';have g5:=g4 (c,.gone) p.2 [] rfl;rw[ku g1] at g5
    have e0:(Fr++(Lc'++X))[Fr.length+j]? =some (p.1,cs):=by
     rw[Z1 (by omega),show Fr.length+j - Fr.length=j by omega];exact kw g2
    have hS2:=k2.takeL e0
    have e1:(Fr++(Lc'++X)).set (Fr.length+j) (p.1,[])=Fr++(Lc'.set j (p.1,[])++X):=by
     rw[Zp _ _ (by omega),show Fr.length+j - Fr.length=j by omega,lD g2]
    rw[e1] at hS2;refine⟨_,(p.1,cs)::Fr,g5,hS2,λq hq=>?_,λsps hs hq=>?_⟩
    ·show fb (sb (fU c gs Ls) i (c,.gone)) q=_
     rw[jY (λe=>hq (some i) (by simp) (by rw[e]))];exact k3 q λo ho=>hq o (by simp[ho])
    ·cases sps with
     |nil=>simp at hs
     | cons q r =>
      simp only[Zj,List.cons.injEq] at hs;obtain⟨hs1,hs2⟩:=hs;refine⟨?_,k4 r hs2 λx hx=>hq x (by simp[hx])⟩;obtain⟨j',sp⟩:=q;cases sp with
      |al d t x=>simp[Sp.blk] at hs1
      |so i' t' x=>
       simp only[Sp.blk,Option.some.injEq] at hs1;subst hs1;obtain⟨y',hy'⟩:=hq (j',.so i' t' x) (by simp) i' t' x rfl;rw[hB] at hy';injection hy' with hy'
       injection hy' with e2 e3
       subst e2;exact⟨p,g1,rfl,y,g3⟩
   ·cases hg1
def gND:List (Option Nat)→Prop
 |[]=>True
 |none::r=>gND r
 |some i::r=>(∀o∈r,o≠some i)∧gND r
theorem LT {Lv:Nat→Option (BC G)}:∀{gs:List (Option Nat)},gOK Lv gs=true→gND gs:=by
 intro gs
 induction gs with
 |nil=>intro _;trivial
 | cons o gs ih =>
  intro hg;cases o with
  |none=>exact ih hg
  |some i=>
   simp only[gOK,Z5] at hg;obtain⟨⟨_,hg2⟩,hg3⟩:=hg;refine⟨λo ho e=>?_,ih hg3⟩;subst e;have:gs.any (λj=>decide (j=some i))=true:=Zg.2 ⟨some i,ho,by simp⟩;rw[this] at hg2;cases hg2
theorem Ks {c:Nat}{Ls:List (Nat×BC G)}:∀{gs:List (Option Nat)},gOK (eW Ls) gs=true→∀i,some i∈gs→∃lv,fb (fU c gs Ls) i=some (lv,.gone):=by
 intro gs
 induction gs with
 |nil=>intro _ i hi;cases hi
 | cons o gs ih =>
  intro hg i hi;cases o with
  |none=>exact ih hg i (by simpa using hi)
  | some q =>
   simp only[gOK,Z5] at hg;obtain⟨⟨hg1,_⟩,hg3⟩:=hg;show∃lv,fb (sb (fU c gs Ls) q (c,.gone)) i=some (lv,.gone)
   by_cases hq:q=i
   ·subst hq
    have key:∀{gs:List (Option Nat)} {q:Nat} {e:Nat×BC G},fb Ls q=some e→∃e',fb (fU c gs Ls) q=some e':=by
     intro gs
     induction gs with
     |nil=>intro q e h;exact⟨e,h⟩
     | cons o gs ih2 =>
      intro q e h;cases o with
      |none=>exact ih2 h
      |some j=>
       obtain⟨e',he'⟩:=ih2 h;show∃e',fb (sb (fU c gs Ls) j (c,.gone)) q=some e'
       by_cases hj:j=q
       ·subst hj;exact⟨_,n9 he'⟩
       ·exact⟨e',by rw[jY hj];exact he'⟩
    split at hg1
    ·rename_i t y hB
     obtain⟨lv,hlv⟩:=ia hB;obtain⟨e',he'⟩:=key hlv (gs:=gs);exact⟨c,n9 he'⟩
    ·cases hg1
   ·rw [jY hq]
    rcases Z6.1 hi with h|h
    ·injection h with h;exact absurd h.symm hq
    ·exact ih hg3 i h
theorem Ext.gone {gs:List (Option Nat)}:Ext st.c st { st with L:=fU st.c gs st.L }:=by
 induction gs with
 |nil=>exact Ext.refl _ _
 |cons o gs ih=>
  cases o with
  |none=>exact ih
  |some i=>exact ih.trans (Ext.setB (st:={ st with L:=fU st.c gs st.L }) (i:=i) (B:= .gone))
theorem LU {X:List (Nat×List Value)} {TL:List (Nat×Value)} {nm:List (Nat×Value)} {s:Nat→Bool}: ∀{sps:List (Nat×Sp G)} {Fr Lc:List (Nat×List Value)} {st:St G} {z:Cz},FrR G m z s a sps Fr→(∀q∈sps,s q.1=true)→gND (sps.map fun q=>q.2.blk)→(∀i,some i∈sps.map (fun q=>q.2.blk)→ ∃lv,fb st.L i=some (lv,.gone))→
  j0 G P m z st.env a→LR G m st.L z.b Lc→S W0 m w (Lc++(Fr++X)) TL→Sfx z.b nm→
  ∃(z':Cz) (Lc':List (Nat×List Value)),z'.t=z.t∧j0 G P m z' (lE sps st).env a∧LR G m (lE sps st).L z'.b Lc'∧S W0 m w (Lc'++X) TL∧Sfx z'.b nm∧Ext st.c st (lE sps st)∧(lE sps st).c=st.c∧(lE sps st).T=st.T:=by
 intro sps
 induction sps with
 |nil=>
  intro Fr Lc st z hF _ _ _ hr h1 hS hsf;cases Fr with
  |nil=>exact⟨z,Lc,rfl,hr,h1,hS,hsf,Ext.refl _ _,rfl,rfl⟩
  |cons e Fr=>exact hF.elim
 | cons q r ih =>
  intro Fr Lc st z hF hs hnd hg hr h1 hS hsf;cases Fr with
  |nil=>exact hF.elim
  | cons e Fr =>
   obtain⟨hF1,hF2⟩:=hF;have hq:=hs q (by simp);have hs':∀q∈r,s q.1=true:=λx hx=>hs x (by simp[hx]);obtain⟨j,sp⟩:=q;simp only at hq;rw[hq] at hF1;have hS1:S W0 m w (e::(Lc++(Fr++X))) TL:=S.comm (A:=Lc) (B:=[e]) (C:=Fr++X) hS;cases sp with
   | al d t x =>
    obtain⟨f1,f2⟩:=hF1;have hlen:=h1.len.1
    have hr2:j0 G P m ⟨(e.1,undef)::z.b,z.t⟩ ((st.push (.dat t x)).put d (.one (.blk st.L.length))).env a:=by
     intro y hy;rcases Z6.1 hy with rfl|hy
     ·exact⟨_,by rw[←hlen];exact jH,f1⟩
     ·exact(hr y (lC hy).1).z (Zle.pushB z _)
    have hnd':gND (r.map λq=>q.2.blk):=hnd
    obtain⟨z',Lc',k0,k1,k2,k3,k4,k5,k6,k7⟩:=ih (z:=⟨(e.1,undef)::z.b,z.t⟩) (Lc:=e::Lc) (st:=(st.push (.dat t x)).put d (.one (.blk st.L.length))) (hF2.zz λi p h=>xj h) hs' hnd' (λi hi=>by
     obtain⟨lv,h⟩:=hg i (by simp only[Zj,Z6];exact .inr hi)
     exact⟨lv,xj h⟩) hr2 ⟨rfl,f2,h1⟩ hS1 hsf.cons
    exact⟨z',Lc',k0,k1,k2,k3,k4,Ext.push_put.trans k5,k6,k7⟩
   | so i t x =>
    obtain⟨p,f1,f2,f3⟩:=hF1;have hnd1:(∀o∈r.map (λq=>q.2.blk),o≠some i)∧gND (r.map λq=>q.2.blk):=hnd;obtain⟨lv,hlv⟩:=hg i (by simp[Sp.blk]);obtain⟨p',cs,j',g1,g2,g3,g4⟩:=h1.get hlv;rw[f1] at g1;injection g1 with g1;subst g1
    have hcs:cs=[]:=g3;subst hcs;have g5:=g4 (st.c,.dat t x) p.2 e.2 f3;rw[ku f1] at g5;have ee:e=(p.1,e.2):=by rw[←f2]
    rw[ee] at hS1;have hS2:=hS1.putL (kw (l0:=Fr++X) g2);rw[lD g2] at hS2
    obtain⟨z',Lc',k0,k1,k2,k3,k4,k5,k6,k7⟩:=ih (z:=z) (st:=st.setB i (.dat t x)) hF2 hs' hnd1.2 (λq hq=>by
     obtain⟨lv',h⟩:=hg q (by simp only[Zj,Z6];exact .inr hq)
     exact⟨lv',by
      show fb (sb st.L i _) q=_
      rw[jY (λe=>hnd1.1 (some q) hq (by rw[e]))];exact h⟩) hr g5 hS2 hsf
    exact⟨z',Lc',k0,k1,k2,k3,k4,Ext.setB.trans k5,k6,k7⟩
def SpF (G:Sg) (P:Program) (Γ:Tab P G) (n:Nat) (all:List Oper) (k:Nat) (Lv:Nat→Option (BC G)) (st0:St G) (ev:Nat→EV G) (j:Nat) (sp:Sp G):Prop:=
 ∃o ρ,(all.take k)[j]? =some o∧lP o=true∧xp n o.dst=true∧Fo Γ ρ Lv o=some sp∧sH G all k st0 ev j o ρ
theorem sH.congr {st0:St G}{ev ev':Nat→EV G}{j:Nat}{o:Oper}{ρ:Operand→Option (EV G)}(h:sH G all k st0 ev j o ρ)(he:∀q,q<j→ev' q=ev q):sH G all k st0 ev' j o ρ:=by
 intro x e hx;have:=h x e hx;cases x with
 |tmp t=>
  rcases this with⟨q,h1,h2,h3,h4,h5⟩|h
  ·exact .inl ⟨q,h1,h2,h3,by rw[he q h2];exact h4,h5⟩
  ·exact .inr h
 |_=>exact this
theorem OpF.congr {st0:St G}{ev ev':Nat→EV G}{j:Nat}{o:Oper}(h:OpF G P Γ D n all k st0 ev j o)(hD:Dis all k n)(ho:all[j]? =some o)(he:∀q,q<j+1→ev' q=ev q):OpF G P Γ D n all k st0 ev' j o:=by
 have hx:yj G P Γ D all k st0 ev j o→yj G P Γ D all k st0 ev' j o:=by
  rintro ⟨R,b,ρ,h1,h2,h3,h4⟩;exact⟨R,b,ρ,h1,h2,by rw[he j (by omega)];exact h3,h4.congr λq hq=>he q (by omega)⟩
 obtain⟨d,h1,h2,h3⟩:=h;refine⟨d,h1,h2,?_⟩;cases hg:o.guard with
 |none=>rw[hg] at h3;exact hx h3
 |some gb=>
  obtain⟨g,b⟩:=gb;rw[hg] at h3;obtain⟨k1,k2,dg,k3,k4,k5⟩:=h3;have hgj:=jG hD.ed ho g k1;refine⟨k1,k2,dg,k3,k4,?_⟩;rw[he g (by omega),he j (by omega)];rcases k5 with⟨x,q1,q2,q3⟩|q
  ·exact .inl ⟨x,q1,λhb=>hx (q2 hb),q3⟩
  ·exact .inr q
structure xq (G:Sg) (P:Program) (Γ:Tab P G) (n:Nat) (all:List Oper) (k:Nat) (Lv:Nat→Option (BC G)) (st0:St G) (ev:Nat→EV G) (i:Nat) (acc:List (Nat×Sp G)):Prop where
 lt:∀q∈acc,q.1<i
 f:∀q∈acc,SpF G P Γ n all k Lv st0 ev q.1 q.2
 nd:(acc.map Prod.fst).Nodup
 al:∀j o,j<i→(all.take k)[j]? =some o→lP o=true→∃sp,(j,sp)∈acc
theorem xq.congr {Lv:Nat→Option (BC G)} {st0:St G} {ev ev':Nat→EV G} {i:Nat} {acc:List (Nat×Sp G)} (h:xq G P Γ n all k Lv st0 ev i acc) (he: ∀q,q<i→ev' q=ev q):xq G P Γ n all k Lv st0 ev' i acc:=
 ⟨h.lt,λq hq=>by
  obtain⟨o,ρ,h1,h2,h3,h4,h5⟩:=h.f q hq
  exact⟨o,ρ,h1,h2,h3,h4,h5.congr λx hx=>he x (by have:=h.lt q hq;omega)⟩,h.nd,h.al⟩
theorem Fp {ρ : Type} {K : St G → List (Nat × Sp G) → Option ρ} {r : ρ} {st0 : St G} {Lv : Nat → Option (BC G)} (hD : Dis all k n) : ∀ {os : List Oper} {i : Nat} {st : St G} {acc : List (Nat × Sp G)} {ev : Nat → EV G}, (all.take k).drop i = os → oa G all k st0 ev i st → xq G P Γ n all k Lv st0 ev i acc →
  rk n Γ D all k Lv i os st acc K=some r→
  ∃ev' sps stf,(∀j,j<i→ev' j=ev j)∧(∀j o,i≤j→(all.take k)[j]? =some o→lP o=false→OpF G P Γ D n all k st0 ev' j o)∧xq G P Γ n all k Lv st0 ev' (all.take k).length sps∧K stf sps=some r∧oa G all k st0 ev' (all.take k).length stf:=by
 intro os
 induction os with
 | nil =>
  intro i st acc ev hdr hc ha h
  have hlen:(all.take k).length≤i:=by
   have:=congrArg List.length hdr;simp only[List.length_drop,List.length_nil] at this;omega
  refine⟨ev,acc,st,λ_ _=>rfl,λj o hj ho=>?_,⟨λq hq=>?_,ha.f,ha.nd,λj o hj ho=>ha.al j o (by omega) ho⟩,h,⟨hc.L,hc.T,hc.c,λe he=>?_⟩⟩
  ·have:=(Z2.1 ho).1;omega
  ·obtain ⟨o,_,h1,_⟩:=ha.f q hq
   exact(Z2.1 h1).1
  ·rcases hc.env e he with ⟨j,hj,h3,h4⟩|⟨h3,h4⟩
   ·obtain ⟨o,ho,_⟩:=RK.1 h3
    exact .inl ⟨j,(Z2.1 ho).1,h3,h4⟩
   ·refine .inr ⟨λj hj=>h3 j (by omega),h4⟩
 | cons o os ih =>
  intro i st acc ev hdr hc ha h
  have ho:(all.take k)[i]? =some o:=by
   have:=congrArg (·[0]?) hdr;simpa using this
  have hoa:all[i]? =some o:=(lF ho).1;have hdr':(all.take k).drop (i+1)=os:=by rw[←List.drop_drop,hdr];rfl
  unfold rk at h;split at h
  ·rename_i hsp
   split at h
   ·rename_i sp hdn hs
    have hR:=Bg hD hoa hc
    have hc':oa G all k st0 ev (i+1) (match o.dst with|some d=>{ st with env:=rmk st.env d }|none=>st):=by
     cases hd:o.dst with
     | none =>
      refine⟨hc.L,hc.T,hc.c,λe he=>?_⟩;rcases hc.env e he with⟨j,hj,h3⟩|⟨h3,h4⟩
      ·exact .inl ⟨j,by omega,h3⟩
      ·refine .inr ⟨fun j hj hdj=> ?_,h4⟩
       rcases Zi j i with hji|hji
       ·exact h3 j hji hdj
       ·have:j=i:=by omega
        subst this;obtain⟨o',ho',hd'⟩:=RK.1 hdj;rw[ho] at ho';injection ho' with ho';subst ho'
        rw[hd] at hd';cases hd'
     | some d =>
      refine⟨hc.L,hc.T,hc.c,λe he=>?_⟩;obtain⟨he1,he2⟩:=lC he;rcases hc.env e he1 with⟨j,hj,h3⟩|⟨h3,h4⟩
      ·exact .inl ⟨j,by omega,h3⟩
      ·refine .inr ⟨fun j hj hdj=> ?_,h4⟩
       rcases Zi j i with hji|hji
       ·exact h3 j hji hdj
       ·have:j=i:=by omega
        subst this;obtain⟨o',ho',hd'⟩:=RK.1 hdj;rw[ho] at ho';injection ho' with ho';subst ho'
        rw[hd] at hd';injection hd' with hd'
        exact he2 hd'.symm
    have ha':xq G P Γ n all k Lv st0 ev (i+1) (acc++[(i,sp)]):=by
     refine⟨λq hq=>?_,λq hq=>?_,?_,λj o' hj ho' hs'=>?_⟩
     ·rcases Z9.1 hq with hq|hq
      ·have:=ha.lt q hq;omega
      ·simp only[Zm] at hq;subst hq;simp
     ·rcases Z9.1 hq with hq|hq
      ·exact ha.f q hq
      ·simp only [Zm] at hq;subst hq
       exact⟨o,_,ho,hsp,hdn,hs,hR⟩
     ·rw [List.map_append,List.nodup_append]
      refine⟨ha.nd,by simp,λx hx y hy=>?_⟩;simp only[Zj,List.map_nil,Zm] at hy;subst hy;obtain⟨q,hq,rfl⟩:=Zn.1 hx;have:=ha.lt q hq;omega
     ·rcases Zi j i with hji|hji
      ·obtain ⟨sp',h1⟩:=ha.al j o' hji ho' hs'
       exact⟨sp',Z9.2 (.inl h1)⟩
      ·have:j=i:=by omega
       subst this;exact⟨sp,by simp⟩
    obtain⟨ev',sps,stf,q1,q2,q3,q4,q5⟩:=ih hdr' hc' ha' h;refine⟨ev',sps,stf,λj hj=>q1 j (by omega),λj o' hj ho' hs'=>?_,q3,q4,q5⟩;rcases Zi i j with hij|hij
    ·exact q2 j o' (by omega) ho' hs'
    ·have:j=i:=by omega
     subst this;rw[ho] at ho';injection ho' with ho';subst ho'
     rw[hsp] at hs';cases hs'
   ·cases h
  ·rename_i hsp
   obtain⟨ev1,st1,p1,p2,p3,p4⟩:=Bh (os:=[o]) (rest:=os) hD hdr (λo' ho'=>by simp only[Zm] at ho';subst ho';exact hsp) hc h
   have ha1:xq G P Γ n all k Lv st0 ev1 (i+1) acc:=by
    have:=ha.congr p1;refine⟨λq hq=>by have:=ha.lt q hq;omega,this.f,this.nd,λj o' hj ho' hs'=>?_⟩;rcases Zi j i with hji|hji
    ·exact ha.al j o' hji ho' hs'
    ·have:j=i:=by omega
     subst this;rw[ho] at ho';injection ho' with ho';subst ho'
     rw[hsp] at hs';cases hs'
   obtain⟨ev',sps,stf,q1,q2,q3,q4,q5⟩:=ih hdr' p4 ha1 p3;refine⟨ev',sps,stf,λj hj=>by rw[q1 j (by omega)];exact p1 j hj,λj o' hj ho' hs'=>?_,q3,q4,q5⟩;rcases Zi i j with hij|hij
   ·exact q2 j o' (by omega) ho' hs'
   ·have:j=i:=by omega
    subst this;have hop:=p2 j o' (by omega) (by simp) ho';exact hop.congr hD (lF ho').1 (λq hq=>q1 q (by omega))
theorem yk {Lv:Nat→Option (BC G)} {ρ:Operand→Option (EV G)} {o:Oper} {sp:Sp G} (h:Fo Γ ρ Lv o=some sp):
  (∃(d:Nat) (t:TypeId) (I:TI P G t),o.guard=none∧o.dst=some d∧o.op= .alloc t∧sp= .al d I.T I.z)∨
  (∃(t:TypeId) (x y:Operand) (I:TI P G t) (i:Nat) (b:AV G) (u:I.T.den G) (y0:I.T.den G),o.guard=none∧o.dst=none∧o.op= .store t x y∧av? (ρ x)=some (.blk i)∧av? (ρ y)=some b∧Lv i=some (.dat I.T y0)∧b.as Γ I.T=some u∧sp= .so i I.T u):=by
 unfold Fo at h;split at h
 ·rename_i d t hg hd ho
  split at h
  ·rename_i I _ _
   injection h with h
   exact .inl ⟨d,t,I,hg,hd,ho,h.symm⟩
  ·cases h
 ·rename_i t x y hg hd ho
  split at h
  ·rename_i I i b hI hx hy
   split at h
   ·rename_i c y0 hL
    split at h
    ·rename_i hc
     subst hc;split at h
     ·rename_i u hu
      injection h with h
      exact .inr ⟨t,x,y,I,i,b,u,y0,hg,hd,ho,hx,hy,hL,hu,h.symm⟩
     ·cases h
    ·cases h
   ·cases h
  ·cases h
 ·cases h
theorem IJ {ρ:Type} {ro:Option Nat} {id:Nat} {K':St G→Option ρ} {r:ρ} {N Rt:Act→World→Prop} {X:List (Nat×(Act→World→Prop))} (hmx:P.follows .mixedOrders=true) (hs:Sat G P δ n W0 L0 T0 m0 st a w) (hD:Dis all k n) (htl:oJ all k=true)
  (hgk:gOK (eW st.L) (stG st (all.take k))=true) (h:rk n Γ D all k (eW st.L) 0 (all.take k) { st with L:=fU st.c (stG st (all.take k)) st.L } [] (λst' sps=>if sps.map (λq=>q.2.blk)=stG st (all.take k) then lU n Γ D all (all.drop k) (lE sps st') K' else none)=some r) (hN:Nxt G P δ n W0 L0 T0 m0 K' r st N):K ro P (.region id all.toArray true) N X Rt a w:=by
 obtain⟨⟨m,z,h0,hr,hM⟩,hdf,hsz⟩:=hs;obtain⟨ev,sps,stf,_,hF0,hA,hK0,hC⟩:=Fp (G:=G) (P:=P) (st0:={ st with L:=fU st.c (stG st (all.take k)) st.L }) (ev:=λ_=> .one .und) hD (i:=0) rfl ⟨rfl,rfl,rfl,λe he=> .inr ⟨λj hj=>by omega,he⟩⟩ ⟨λq hq=>(by cases hq),λq hq=>(by cases hq),by simp,λj o hj=>(by omega)⟩ h;have hF':∀j o,(all.take k)[j]? =some o→lP o=false→OpF G P Γ D n all k { st with L:=fU st.c (stG st (all.take k)) st.L } ev j o:=λj o ho=>hF0 j o (Nat.zero_le _) ho;split at hK0
 rotate_left
 ·cases hK0
 rename_i hgs;have hK:=hK0;obtain⟨Lc,Tc,h1,h2,hS,hsf⟩:=hM;obtain⟨Lc1,Fr1,k1,k2,_,k4⟩:=GL (a:=a) (c:=st.c) h1 hS hgk
 have hFr1:=k4 sps hgs (λq hq i t x he=>by
  obtain⟨o,ρ,_,_,_,hs,_⟩:=hA.f q hq;rcases yk hs with⟨d,t',I,_,_,_,e⟩|⟨t',x',y',I,i',b,u,y0,_,_,_,_,_,e5,_,e7⟩
  ·rw[he] at e;cases e
  ·rw[he] at e7;injection e7 with e1 e2 e3;subst e1;subst e2;exact⟨y0,e5⟩)
 have hM:gk G W0 ⟨Fr1++L0.l,L0.nm⟩ T0 (fU st.c (stG st (all.take k)) st.L) st.T m z w:=⟨Lc1,Tc,k1,h2,k2.comm,hsf⟩
 have aldj:∀q∈sps,∀d t x,q.2= .al d t x→dj (all.take k) q.1=some d:=by
  intro q hq d t x he;obtain⟨o,ρ,ho,_,_,hs,_⟩:=hA.f q hq;rcases yk hs with⟨d',t',I,_,hd,_,e⟩|⟨t',x',y',I,i',b,u,y0,_,_,_,_,_,_,_,e7⟩
  ·rw[he] at e;injection e with e1;subst e1;exact RK.2 ⟨o,ho,hd⟩
  ·rw[he] at e7;cases e7
 refine E2 (k:=k) hmx hD.ed htl (fun s a w=> ∃m' Fr,M.le m m'∧FrR G m' z s a sps Fr∧gk G W0 ⟨Fr++L0.l,L0.nm⟩ T0 (fU st.c (stG st (all.take k)) st.L) st.T m' z w∧(a.defers=δ.map fun D=>{ target:= .collected D,args:= #[] })∧a.tmps.size=n∧
   (∀(j:Nat) (o:Oper),(all.take k)[j]? =some o→lP o=false→s j=true→∀d,o.dst=some d→(ev j).Rel G P m' z (a.tmps.getD d undef))∧
   (∀e∈st.env,(∀(j:Nat) (o:Oper),(all.take k)[j]? =some o→o.dst=some e.1→s j=false)→e.2.2.Rel G P m' z (a.tmps.getD e.1 undef))) ?_ ?_ ?_
 ·exact⟨m,Fr1,Z8 m,hFr1,hM.drew,hdf,hsz,(λj o _ _ h=>Zu h),λe he _=>hr e he⟩
 ·rintro i o hio hik s a w ⟨m',Fr,hm,hFr,hMe,hdf,hsz,hev,hold⟩ hsi hpre hcl
  have hit:=CQ hio hik
  -- what it may read holds now
  have reads:∀{ρ:Operand→Option (EV G)},sH G all k { st with L:=fU st.c (stG st (all.take k)) st.L } ev i o ρ→∀x e,ρ x=some e→e.Rel G P m' z (a.eval x):=by
   intro ρ hR x e hx;have:=hR x e hx;cases x with
   | tmp t =>
    rcases this with⟨q,h1,h2,h3,h4,hnq⟩|⟨⟨lv,h1⟩,h2⟩
    ·obtain ⟨oq,hoq,hod⟩:=RK.1 h3
     rw[←h4];exact hev q oq hoq (hnq oq hoq) (hpre q h1) t hod
    ·refine hold _ h1 fun q oq hoq hod=> ?_
     cases hsq:s q with
     |false=>rfl
     |true=>
      have:=hcl q oq (lF hoq).1 hsq i (h2 q oq hoq hod);rw[hsi] at this;cases this
   |const v=>
    obtain⟨b,h1,rfl⟩:=this;exact z6 h1
   |_=>exact this.elim
  cases hsp:lP o with
  | true =>
   obtain⟨sp,hsps⟩:=hA.al i o (Z2.1 hit).1 hit hsp;obtain⟨o',ρ,ho',_,hdn,hs,hR⟩:=hA.f _ hsps;simp only at ho';rw[hit] at ho';injection ho' with ho';subst ho'
   obtain⟨p,e,g1,g2,g3⟩:=hFr.set hsps hA.nd;rw[hsi] at g2
   have hns:∀(j:Nat) (oj:Oper),(all.take k)[j]? =some oj→lP oj=false→j≠i:=λj oj hj hjs e=>by
    subst e;rw[hit] at hj;injection hj with hj;subst hj
    rw[hsp] at hjs;cases hjs
   obtain⟨Lc,Tc,h1,h2,hS,hsf⟩:=hMe
   have e0:(Lc++(Fr++L0.l))[Lc.length+p]? =some e:=by
    rw[Z1 (by omega),show Lc.length+p - Lc.length=p by omega];exact kw g1
   have e1:∀e',(Lc++(Fr++L0.l)).set (Lc.length+p) e'=Lc++(Fr.set p e'++L0.l):=λe'=>by
    rw[Zp _ _ (by omega),show Lc.length+p - Lc.length=p by omega,lD g1]
   rcases yk hs with⟨d,t,I,hg,hd,hop,rfl⟩|⟨t,x,y,I,bi,b,u,y0,hg,hd,hop,hx,hy,hLv,hu,rfl⟩
   ·have hw:Region.wanted o (yielded all.toArray a.tmps)=true:=by simp [Region.wanted,hg]
    rw[if_pos hw];obtain⟨dst,op,ty,pos,aft,g⟩:=o;simp only at hd hop hg;subst hd;subst hop;subst hg;have hdn':d<n:=Z3 hdn;refine(dS hS I.hz (cs:=I.zv.cells.toList) (by simp)).imp λv w' hq=>?_;obtain⟨b,rfl,hS'⟩:=hq
    have hee:e=(e.1,[]):=by
     have g2:e.2=[]:=g2;rw[←g2]
    rw[hee] at e0;have hS2:=hS'.putL e0;rw[e1] at hS2
    have hput:∀q,q≠d→(a.put (some d) (.pointer (some ⟨b,0,none⟩))).tmps.getD q undef=a.tmps.getD q undef:=λq hq=>by
     simp[Act.put,Array.getElem?_setIfInBounds_ne (Ne.symm hq)]
    refine⟨m',Fr.set p (b,I.zv.cells.toList),hm,g3 m' _ _ (Z8 m') ⟨by simp[Act.put,hsz,hdn'],I.hzR m'⟩ (λq hq hqi d' t' x' he=>hput d' λe=>hqi ?_),⟨Lc,Tc,h1,h2,hS2,hsf⟩,by simp[Act.put,hdf],by simp[Act.put,hsz],λj oj hoj hjs hju dd hdd=>?_,λe' he' hno=>?_⟩
    ·subst e
     exact hD.ne q.1 i _ (aldj q hq _ t' x' he) (RK.2 ⟨_,hit,rfl⟩)
    ·have hji:=hns j oj hoj hjs
     unfold upd at hju;rw[if_neg hji] at hju;rw[hput dd λe=>hji (hD.ne j i dd (RK.2 ⟨oj,hoj,hdd⟩) (RK.2 ⟨_,hit,by rw[e]⟩))];exact hev j oj hoj hjs hju dd hdd
    ·have hne:e'.1≠d:=λe=>by
      have:=hno i _ hit (by rw[e]);simp[upd] at this
     rw[hput _ hne]
     exact hold e' he' λj oj hoj hod=>by
      have:=hno j oj hoj hod;unfold upd at this;split at this
      ·cases this
      ·exact this
   ·have hw:Region.wanted o (yielded all.toArray a.tmps)=true:=by simp [Region.wanted,hg]
    rw[if_pos hw];obtain⟨dst,op,ty,pos,aft,g⟩:=o;simp only at hd hop hg;subst hd;subst hop;subst hg;obtain⟨l,hE,hl⟩:=d4 hdf hsz [x,y];obtain⟨p1,q1,q2⟩:=bp (reads hR) hx;obtain⟨p2,q3,q4,yy,q5⟩:=g2;rw[q1] at q3;injection q3 with q3;subst q3
    have hee:e=(p1.1,e.2):=by rw[←q4]
    rw[hee] at e0;have hxl:=hl x (by simp);rw[q2] at hxl;refine(dG hE hS I.ok bm hxl (hl y (by simp)) (AV.as_rel hu (bp (reads hR) hy)) e0 q5).imp λv w' hq=>?_;obtain⟨cs',hc',hS'⟩:=hq;rw[e1] at hS';refine⟨m',Fr.set p (p1.1,cs'),hm,g3 m' _ _ (Z8 m') ⟨p1,q1,rfl,hc'⟩ (λq hq hqi d' t' x' he=>rfl),⟨Lc,Tc,h1,h2,hS',hsf⟩,hdf,hsz,λj oj hoj hjs hju dd hdd=>?_,λe' he' hno=>?_⟩
    ·have hji:=hns j oj hoj hjs
     unfold upd at hju;rw[if_neg hji] at hju;exact hev j oj hoj hjs hju dd hdd
    ·exact hold e' he' λj oj hoj hod=>by
      have:=hno j oj hoj hod;unfold upd at this;split at this
      ·cases this
      ·exact this
  |false=>
  obtain⟨d,hd,hdn,hop⟩:=hF' i o hit hsp;have hdn':d<n:=Z3 hdn
  have hqs:∀q∈sps,q.1≠i∧∀d' t x,q.2= .al d' t x→d'≠d:=λq hq=>by
   have hqi:q.1≠i:=λe=>by
    obtain⟨o',_,ho',hs',_⟩:=hA.f q hq;rw[e,hit] at ho';injection ho' with ho';subst ho'
    rw[hsp] at hs';cases hs'
   exact⟨hqi,λd' t x he e=>by
    subst e
    exact hqi (hD.ne q.1 i _ (aldj q hq _ t x he) (RK.2 ⟨o,hit,hd⟩))⟩
  have fr:∀(v:Value) (m'':M),M.le m' m''→FrR G m'' z (upd s i) (a.put o.dst v) sps Fr:=λv m'' hm''=>hFr.step hm'' λq hq=>by
   obtain⟨c1,c2⟩:=hqs q hq;refine⟨if_neg c1,λd' t x he=>?_⟩;rw[hd];simp[Act.put,Array.getElem?_setIfInBounds_ne (Ne.symm (c2 d' t x he))]
  have next: ∀(v:Value) (w':World) (m'':M),M.le m' m''→gk G W0 ⟨Fr++L0.l,L0.nm⟩ T0 (fU st.c (stG st (all.take k)) st.L) st.T m'' z w'→(ev i).Rel G P m'' z v→
    ∃m' Fr',M.le m m'∧FrR G m' z (upd s i) (a.put o.dst v) sps Fr'∧gk G W0 ⟨Fr'++L0.l,L0.nm⟩ T0 (fU st.c (stG st (all.take k)) st.L) st.T m' z w'∧((a.put o.dst v).defers=δ.map fun D=>{ target:= .collected D,args:= #[] })∧(a.put o.dst v).tmps.size=n∧
     (∀(j:Nat) (o':Oper),(all.take k)[j]? =some o'→lP o'=false→upd s i j=true→∀d,o'.dst=some d→(ev j).Rel G P m' z ((a.put o.dst v).tmps.getD d undef))∧
     (∀e∈st.env,(∀(j:Nat) (o:Oper),(all.take k)[j]? =some o→o.dst=some e.1→upd s i j=false)→e.2.2.Rel G P m' z ((a.put o.dst v).tmps.getD e.1 undef)):=by
   intro v w' m'' hm' hM' hv;refine⟨m'',Fr,hm.trans hm',fr v m'' hm',hM',by rw[hd];simp[Act.put,hdf],by rw[hd];simp[Act.put,hsz],λj oj hoj hjs hu e hoe=>?_,λe he hno=>?_⟩<;>rw[hd]
   ·by_cases hji:j=i
    ·subst hji
     rw[hit] at hoj;injection hoj with hoj;subst hoj
     rw[hd] at hoe;injection hoe with hoe;subst hoe
     simpa[Act.put,hsz,hdn'] using hv
    ·unfold upd at hu
     rw[if_neg hji] at hu;have h1:=(hev j oj hoj hjs hu e hoe).mono hm'
     have hne:d≠e:=λx=>by
      subst x;exact hji (hD.ne j i d (RK.2 ⟨oj,hoj,hoe⟩) (RK.2 ⟨o,hit,hd⟩))
     simpa[Act.put,Array.getElem?_setIfInBounds_ne hne] using h1
   ·have hne:d≠e.1:=λx=>by
     have:=hno i o hit (by rw[hd,x]);simp[upd] at this
    have h1:=(hold e he λj oj hoj hod=>by
     have:=hno j oj hoj hod;unfold upd at this;split at this
     ·cases this
     ·exact this).mono hm'
    simpa[Act.put,Array.getElem?_setIfInBounds_ne hne] using h1
  have run:yj G P Γ D all k { st with L:=fU st.c (stG st (all.take k)) st.L } ev i o→bg P o a w (fun v w'=> ∃m' Fr',M.le m m'∧FrR G m' z (upd s i) (a.put o.dst v) sps Fr'∧gk G W0 ⟨Fr'++L0.l,L0.nm⟩ T0 (fU st.c (stG st (all.take k)) st.L) st.T m' z w'∧((a.put o.dst v).defers=δ.map fun D=>{ target:= .collected D,args:= #[] })∧(a.put o.dst v).tmps.size=n∧
     (∀(j:Nat) (o':Oper),(all.take k)[j]? =some o'→lP o'=false→upd s i j=true→∀d,o'.dst=some d→(ev j).Rel G P m' z ((a.put o.dst v).tmps.getD d undef))∧
     (∀e∈st.env,(∀(j:Nat) (o:Oper),(all.take k)[j]? =some o→o.dst=some e.1→upd s i j=false)→e.2.2.Rel G P m' z ((a.put o.dst v).tmps.getD e.1 undef))):=by
   rintro ⟨R,b,ρ,hR,hb,he,hrd⟩;obtain⟨dst,op,ty,pos,aft,g⟩:=o;simp only at hd;subst hd;refine(Bf (d:=d) hdf hsz hMe (reads hrd) R b hR hb).imp λv w' hq=>?_;obtain⟨m'',h1,h2,h3⟩:=hq;exact next v w' m'' h1 h2 (by rw[he];exact h3)
  have skip:ev i= .one .und→ ∃m' Fr',M.le m m'∧FrR G m' z (upd s i) (a.put o.dst undef) sps Fr'∧gk G W0 ⟨Fr'++L0.l,L0.nm⟩ T0 (fU st.c (stG st (all.take k)) st.L) st.T m' z w∧((a.put o.dst undef).defers=δ.map fun D=>{ target:= .collected D,args:= #[] })∧(a.put o.dst undef).tmps.size=n∧
     (∀(j:Nat) (o':Oper),(all.take k)[j]? =some o'→lP o'=false→upd s i j=true→∀d,o'.dst=some d→(ev j).Rel G P m' z ((a.put o.dst undef).tmps.getD d undef))∧
     (∀e∈st.env,(∀(j:Nat) (o:Oper),(all.take k)[j]? =some o→o.dst=some e.1→upd s i j=false)→e.2.2.Rel G P m' z ((a.put o.dst undef).tmps.getD e.1 undef)):=
   λhe=>next undef w m' (Z8 m') hMe (by rw[he];rfl)
  cases hg:o.guard with
  |none=>
   rw[hg] at hop;have hw:Region.wanted o (yielded all.toArray a.tmps)=true:=by simp[Region.wanted,hg]
   rw[if_pos hw];exact run hop
  | some gb =>
   obtain⟨g,b⟩:=gb;rw[hg] at hop;obtain⟨hgp,hng,dg,hdg,hdgn,hx⟩:=hop;obtain⟨og,hog,hogd⟩:=RK.1 hdg;have hgv:=hev g og hog (hng og hog) (hpre g hgp) dg hogd;rcases hx with⟨x,h1,h2,h3⟩|⟨h1,h2⟩
   ·rw [h1] at hgv
    have hv:a.tmps.getD dg undef= .bool x:=eQ hgv.1;have hy:=rB (all:=all) hsz (y8 hdg) hdgn hv
    by_cases hxb:x=b
    ·have hw:Region.wanted o (yielded all.toArray a.tmps)=true:=by simp [Region.wanted,hg,hy,hxb]
     rw[if_pos hw];exact run (h2 hxb)
    ·have hw: ¬ Region.wanted o (yielded all.toArray a.tmps)=true:=by simp [Region.wanted,hg,hy,hxb]
     rw[if_neg hw];exact skip (h3 hxb)
   ·rw [h1] at hgv
    have hv:a.tmps.getD dg undef=undef:=hgv;have hy:=nI (y8 hdg) hv;have hw: ¬ Region.wanted o (yielded all.toArray a.tmps)=true:=by simp[Region.wanted,hg,hy]
    rw[if_neg hw];exact skip h2
 ·rintro s a w ⟨m',Fr,hm,hFr,⟨Lc,Tc,h1,h2,hS,hsf⟩,hdf,hsz,hev,hold⟩ hall
  have hEf:j0 G P m' z stf.env a:=by
   intro e he;rcases hC.env e he with⟨j,hj,h3,h4,_,hns⟩|⟨h3,h4⟩
   ·obtain ⟨o,ho,hod⟩:=RK.1 h3
    rw[←h4];exact hev j o ho (hns o ho) (hall j (lF ho).2 (Z2.1 (lF ho).1).1) e.1 hod
   ·refine hold e h4 fun j o ho hod=> ?_
    exact absurd (RK.2 ⟨o,ho,hod⟩) (h3 j (Z2.1 ho).1)
  obtain⟨z',Lc',c0,c1,c2,c3,c4,c5,c6,c7⟩:=LU (st:=stf) hFr (λq hq=>by
   obtain⟨o,_,ho,_⟩:=hA.f q hq
   exact hall q.1 (lF ho).2 (Z2.1 (lF ho).1).1) (by rw[hgs];exact LT hgk) (λi hi=>by rw[hgs] at hi;rw[hC.L];exact Ks hgk i hi) hEf (by rw[hC.L];exact h1) hS hsf
  have hSf:Sat G P δ n W0 L0 T0 m0 (lE sps stf) a w:=⟨⟨m',z',h0.trans hm,c1,Lc',Tc,c2,by rw[c7,c0,hC.T];exact h2,c3,c4⟩,hdf,hsz⟩
  have hX:Ext st.c st stf:=by
   refine(Ext.gone (st:=st) (gs:=stG st (all.take k))).trans ⟨λq hq e he hl=>?_,λq hq i s B hb hs=>⟨s,hs,by rw[hC.L] at hb;exact hb⟩⟩;rcases hC.env e he with⟨j,_,_,_,h5,_⟩|⟨_,h4⟩
   ·have h5:e.2.1=st.c:=h5
    omega
   ·exact⟨e.2.1,hl,h4⟩
  have hcc:stf.c=st.c:=hC.c;rw[hcc] at c5 c6;exact yh hK hSf λst' a' w' q1 q2 q3 q4=>ag (hN st' a' w' q1 q2 ((hX.trans c5).trans (by rw[c6] at q3;exact q3)) (by rw[q4,c6]))

end
set_option linter.unusedVariables false
set_option linter.unusedSimpArgs false
inductive Sh where
 |dat (t:Ty) (o:Option Nat)
 |ptr (t:Ty)
 |fn1 (a b:Ty)
 |fn2 (a c b:Ty)
def Sh.den (G:Sg):Sh→Type
 | .dat t _=>t.den G
 | .ptr t=>t.den G
 | .fn1 a b=>a.den G→Option (b.den G)
 | .fn2 a c b=>a.den G→c.den G→Option (b.den G)
inductive It where
 |v (q lv:Nat) (s:Sh)
 |b (i lv:Nat) (t:Ty)
 |a (i lv:Nat) (t:Ty) (n:Option Nat)
def It.den (G:Sg):It→Type
 | .v _ _ s=>s.den G
 | .b _ _ t=>t.den G
 | .a _ _ t _=>List (t.den G)
def fd (G:Sg):List It→Type
 |[]=>Unit
 |[i]=>i.den G
 |i::i'::r=>i.den G×fd G (i'::r)
def hdI (G:Sg) (i:It):(r:List It)→fd G (i::r)→i.den G
 |[],x=>x
 |_::_,x=>x.1
def tlI (G:Sg) (i:It):(r:List It)→fd G (i::r)→fd G r
 |[],_=>()
 |_::_,x=>x.2
def mkI (G:Sg) (i:It):(r:List It)→i.den G→fd G r→fd G (i::r)
 |[],x,_=>x
 |_::_,x,y=>(x,y)
inductive Fx where
 |blk (i:Nat)
 |own (i:Nat)
 |nils
 |und
section
variable {G:Sg}{P:Program}
def Sh.mk (G:Sg):(s:Sh)→s.den G→AV G
 | .dat t o,x=> .dat t x o
 | .ptr t,x=> .ptr t x
 | .fn1 a b,f=> .fn1 a b f
 | .fn2 a c b,f=> .fn2 a c b f
def Fx.mk (G:Sg):Fx→AV G
 | .blk i=> .blk i
 | .own i=> .own i
 | .nils=> .nils
 | .und=> .und
def Fx.is:Fx→AV G→Bool
 | .blk i,.blk j=>Z7 i j
 | .own i,.own j=>Z7 i j
 | .nils,.nils=>true
 | .und,.und=>true
 |_,_=>false
def BC.of (G:Sg):(i:It)→i.den G→BC G
 | .v _ _ _,_=> .gone
 | .b _ _ t,x=> .dat t x
 | .a _ _ t n,x=> .arr t n x
def lV (G:Sg):(its:List It)→fd G its→List (Nat×Nat×EV G)
 |[],_=>[]
 | .v q lv s::r,x=>(q,lv,.one (s.mk G (hdI G (.v q lv s) r x)))::lV G r (tlI G (.v q lv s) r x)
 | .b i lv t::r,x=>lV G r (tlI G (.b i lv t) r x)
 | .a i lv t n::r,x=>lV G r (tlI G (.a i lv t n) r x)
def em (G:Sg):(its:List It)→fd G its→Nat→Option (Nat×BC G)
 |[],_,_=>none
 | .v q lv s::r,x,k=>em G r (tlI G (.v q lv s) r x) k
 | .b i lv t::r,x,k=>if Z7 i k then some (lv,.dat t (hdI G (.b i lv t) r x)) else em G r (tlI G (.b i lv t) r x) k
 | .a i lv t n::r,x,k=>if Z7 i k then some (lv,.arr t n (hdI G (.a i lv t n) r x)) else em G r (tlI G (.a i lv t n) r x) k
def mY {α:Type} (f:Nat→α):Nat→List α
 |0=>[]
 |n+1=>f n::mY f n
def AV.dt?:AV G→Option ((t:Ty)×(t.den G)×Option Nat)
 | .dat t x o=>some ⟨t,x,o⟩
 |_=>none
def AV.pt?:AV G→Option ((t:Ty)×t.den G)
 | .ptr t x=>some ⟨t,x⟩
 |_=>none
def AV.f1?:AV G→Option ((a:Ty)×(b:Ty)×(a.den G→Option (b.den G)))
 | .fn1 a b f=>some ⟨a,b,f⟩
 |_=>none
def AV.f2?:AV G→Option ((a:Ty)×(c:Ty)×(b:Ty)×(a.den G→c.den G→Option (b.den G)))
 | .fn2 a c b f=>some ⟨a,c,b,f⟩
 |_=>none
theorem AV.dt_eq {b:AV G}{q:(t:Ty)×(t.den G)×Option Nat}(h:b.dt?=some q):b= .dat q.1 q.2.1 q.2.2:=by
 cases b<;>simp[AV.dt?] at h;subst h;rfl
theorem AV.pt_eq {b:AV G}{q:(t:Ty)×t.den G}(h:b.pt?=some q):b= .ptr q.1 q.2:=by
 cases b<;>simp[AV.pt?] at h;subst h;rfl
theorem AV.f1_eq {p:AV G}{q:(a:Ty)×(b:Ty)×(a.den G→Option (b.den G))}(h:p.f1?=some q):p= .fn1 q.1 q.2.1 q.2.2:=by
 cases p<;>simp[AV.f1?] at h;subst h;rfl
theorem AV.f2_eq {p:AV G}{q:(a:Ty)×(c:Ty)×(b:Ty)×(a.den G→c.den G→Option (b.den G))}(h:p.f2?=some q):p= .fn2 q.1 q.2.1 q.2.2.1 q.2.2.2:=by
 cases p<;>simp[AV.f2?] at h;subst h;rfl
def LV (nT:Nat):Option Nat→Bool
 |some j=>Zc j nT
 |none=>true
def shX (G:Sg) (nT:Nat) (s:Sh) (b:AV G):Option (s.den G):=
 match s with
 | .dat t o=>(match b.dt? with
  |some q=>if q.2.2=o∧LV nT o=true then dM G q.1 t q.2.1 else none
  |none=>none)
 | .ptr t=>(match b.pt? with|some q=>dM G q.1 t q.2|none=>none)
 | .fn1 a b'=>(match b.f1? with|some q=>if h:q.1=a∧q.2.1=b' then some (h.1 ▸ h.2 ▸ q.2.2) else none|none=>none)
 | .fn2 a c b'=>(match b.f2? with|some q=>if h:q.1=a∧q.2.1=c∧q.2.2.1=b' then some (h.1 ▸ h.2.1 ▸ h.2.2 ▸ q.2.2.2) else none|none=>none)
def shA (Γ:Tab P G) (nT:Nat) (s:Sh) (b:AV G):Option (s.den G):=
 match s with
 | .dat t none=>b.as Γ t
 |s=>shX G nT s b
def mW (Γ:Tab P G) (nT:Nat) (st:St G):(its:List It)→Option (fd G its)
 |[]=>some ()
 | .v q lv s::r=>(match lke st.env q,mW Γ nT st r with
  |some (lv',.one b),some y=>if st.c≤lv∨lv'≤lv then (match (if st.c≤lv then shA Γ nT s b else shX G nT s b) with|some x=>some (mkI G (.v q lv s) r x y)|none=>none) else none
  |_,_=>none)
 | .b i lv t::r=>(match fb st.L i,mW Γ nT st r with
  |some (lv',.dat t' x),some y=>if st.c≤lv∨lv'≤lv then (match dM G t' t x with|some x=>some (mkI G (.b i lv t) r x y)|none=>none) else none
  |_,_=>none)
 | .a i lv t n::r=>(match fb st.L i,mW Γ nT st r with
  |some (lv',.arr t' n' x),some y=>if (st.c≤lv∨lv'≤lv)∧n'=n then (match dM G (.sl t') (.sl t) x with|some x=>some (mkI G (.a i lv t n) r x y)|none=>none) else none
  |_,_=>none)
def nilT (G:Sg) (q:Nat) (c:Ty) (st:St G):St G:=
 match lke st.env q with
 |some (_,.one .nils)=>{ st with T:=(c.kd G).sz::st.T }.put q (.one (.dat (.sl c) [] (some st.T.length)))
 |_=>st
def CU (G:Sg) (q j:Nat) (st:St G):St G:=
 match lke st.env q with
 |some (_,.one (.dat t x (some j')))=>
  if j'=j then st else
  (match fb st.T j,fb st.T j' with
  |some s,some s'=>if s=s' then { st with env:=(q,st.c,.one (.dat t x (some j)))::rmk (nJ j' st.c (nJ j st.c st.env)) q } else st
  |_,_=>st)
 |_=>st
def nK (G:Sg):List It→St G→St G
 |[],st=>st
 | .v q _ (.dat (.sl c) (some j))::r,st=>nK G r (CU G q j (nilT G q c st))
 |_::r,st=>nK G r st
structure Tm where
 fx:List (Nat×Nat×Fx)
 its:List It
 nb:Nat
 T:List Nat
def Tm.st (G:Sg) (T:Tm) (c:Nat) (x:fd G T.its):St G:=
 { env:=T.fx.map (λe=>(e.1,e.2.1,.one (e.2.2.mk G)))++lV G T.its x,c:=c,L:=mY (λi=>match em G T.its x i with|some e=>e|none=>(c,.gone)) T.nb,T:=T.T }
def Fq (st:St G) (nb:Nat):List (Nat×Nat×Fx)→Bool
 |[]=>true
 |(q,lv,f)::r=>(match lke st.env q with
  |some (lv',.one b)=>(Zv st.c lv||Zv lv' lv)&&f.is b&&(match f with| .blk i=>Zc i nb| .own i=>Zc i nb|_=>true)
  |_=>false)&&Fq st nb r
def Tm.fit (Γ:Tab P G) (T:Tm) (st0:St G):Option (fd G T.its):=
 let st:=nK G T.its st0
 match Fq st T.nb T.fx&&Zv T.nb st.L.length&&decide (st.T.drop (st.T.length - T.T.length)=T.T) with
 |true=>mW Γ T.T.length st T.its
 |false=>none
structure Lt where
 its:List It
 keep:List Nat
 nb:Nat
 T:List Nat
def rl (env:List (Nat×Nat×EV G)) (d:Nat):List Nat→List (Nat×Nat×EV G)
 |[]=>[]
 |q::r=>(match lke env q with|some (lv,e)=>(q,min lv d,e)::rl env d r|none=>rl env d r)
def Lt.st (G:Sg) (T:Lt) (st:St G) (x:fd G T.its):St G:=
 { env:=lV G T.its x++rl st.env st.c T.keep,c:=st.c+1,L:=mY (λi=>match em G T.its x i with|some e=>e|none=>(match fb st.L i with|some e=>(min e.1 st.c,e.2)|none=>(0,.gone))) T.nb,T:=T.T }
def px (d:Nat):List It→Bool
 |[]=>true
 | .v _ lv _::r=>Z7 lv (d+1)&&px d r
 | .b _ lv _::r=>Z7 lv (d+1)&&px d r
 | .a _ lv _ _::r=>Z7 lv (d+1)&&px d r
def Lt.fit (Γ:Tab P G) (T:Lt) (st0:St G):Option (St G×fd G T.its):=
 let st:=nK G T.its st0
 match Z7 st.L.length T.nb&&decide (st.T=T.T)&&tW T.keep&&px st.c T.its&&T.keep.all (λq=>(lke st.env q).isSome) with
 |true=>(match mW Γ T.T.length st T.its with|some x=>some (st,x)|none=>none)
 |false=>none
def sI (k:Nat):List It→Bool
 |[]=>false
 | .v _ _ _::r=>sI k r
 | .b i _ _::r=>Z7 i k||sI k r
 | .a i _ _ _::r=>Z7 i k||sI k r
def GM (T:Lt) (d:Nat) (st:St G):Bool:=
 T.keep.all (fun q=>match lke st.env q with|some (lv,_)=>Zv lv d|none=>false)&&Zv T.nb st.L.length&&decide (st.T.drop (st.T.length - T.T.length)=T.T)&&
  (List.range T.nb).all λi=>sI i T.its||(match fb st.L i with|some (lv,_)=>Zv lv d|none=>false)
def Lt.back (Γ:Tab P G) (T:Lt) (d:Nat) (st0:St G):Option (fd G T.its):=
 let st:=nK G T.its st0
 match GM T d st with
 |true=>mW Γ T.T.length st T.its
 |false=>none
end
inductive An (G:Sg):Type→Type 1 where
 |o {ρ:Type}:An G ρ
 |s {ρ:Type} (l r:An G ρ):An G ρ
 |c {ρ:Type} (l:An G ρ) (T:Tm) (J:fd G T.its→Option ρ) (r:An G ρ):An G ρ
 |l {ρ:Type} (T:Lt) (b:An G (fd G T.its⊕ρ)):An G ρ
 |b {ρ:Type} (x:An G ρ):An G ρ
 |i {ρ:Type} (x y:An G ρ):An G ρ
noncomputable section
variable {G:Sg}{P:Program}
def low (d:Nat)(st:St G):St G:={ st with c:=d }
def ex (n : Nat) (Γ : Tab P G) (D : List (CS P G)) : Code → {ρ : Type} → An G ρ → St G → (St G → Option ρ) → (Nat → St G → Option ρ) → (St G → Option ρ) → Option ρ
 | .skip,_,_,st,N,_,_=>N st
 | .label _,_,_,st,N,_,_=>N st
 | .region _ ops dr,_,_,st,N,_,_=>yi n Γ D ops.toList dr st N
 | .seq x y,_,A,st,N,X,R=>(match A with
  | .s l r=>ex n Γ D x l st (λst'=>ex n Γ D y r st' N X R) X R
  | .c l T J r=>ex n Γ D x l st (λst'=>match T.fit Γ st' with|some v=>J v|none=>none) X R
  |_=>ex n Γ D x .o st (λst'=>ex n Γ D y .o st' N X R) X R)
 | .cond c x y, _, A, st, N, X, R =>(match av? (st.op c) with
  | some v =>(match v.b? with
   |some b=>(match A with
    | .i l r=>if b=true then ex n Γ D x l st N X R else ex n Γ D y r st N X R
    |_=>if b=true then ex n Γ D x .o st N X R else ex n Γ D y .o st N X R)
   |none=>none)
  |none=>none)
 | .block id c,_,A,st,N,X,R=>(match A with
  | .b a=>ex n Γ D c a st N (λj st'=>match Z7 j id with|true=>N st'|false=>X j st') R
  |_=>ex n Γ D c .o st N (λj st'=>match Z7 j id with|true=>N st'|false=>X j st') R)
 | .scope c,_,A,st,N,X,R=>(match A with
  | .b a=>ex n Γ D c a st N X R
  |_=>ex n Γ D c .o st N X R)
 | .loop c, _, A, st, N, X, R =>(match A with
  | .l T b=>(match T.fit Γ st with
   |some (st1,x)=>au (λs=>ex n Γ D c b (T.st G st1 s) (λst'=>match T.back Γ st.c st' with|some s'=>some (.inl s')|none=>none) (λj st'=>(X j (low st.c st')).map .inr) (λst'=>(R (low st.c st')).map .inr)) x
   |none=>none)
  |_=>none)
 | .exit id,_,_,st,_,X,_=>X id st
 | .ret,_,_,st,_,_,R=>R st
 |_,_,_,_,_,_,_=>none
def Obl (np n:Nat) (Γ:Tab P G) (D:List (CS P G)):Code→{ρ:Type}→An G ρ→Nat→(St G→Option ρ)→(Nat→St G→Option ρ)→(St G→Option ρ)→Prop
 | .seq x y,_,A,d,N,X,R=>(match A with
  | .s l r=>Obl np n Γ D x l d (λst'=>ex n Γ D y r st' N X R) X R∧Obl np n Γ D y r d N X R
  | .c l T J r=>Obl np n Γ D x l d (λst'=>match T.fit Γ st' with|some v=>J v|none=>none) X R∧Zv np T.nb=true∧(∀v,ex n Γ D y r (T.st G d v) N X R=J v)∧Obl np n Γ D y r d N X R
  |_=>True)
 | .cond _ x y,_,A,d,N,X,R=>(match A with
  | .i l r=>Obl np n Γ D x l d N X R∧Obl np n Γ D y r d N X R
  |_=>True)
 | .block id c,_,A,d,N,X,R=>(match A with
  | .b a=>Obl np n Γ D c a d N (λj st'=>match Z7 j id with|true=>N st'|false=>X j st') R
  |_=>True)
 | .scope c,_,A,d,N,X,R=>(match A with
  | .b a=>Obl np n Γ D c a d N X R
  |_=>True)
 | .loop c,_,A,d,N,X,R=>(match A with
  | .l T b=>Obl np n Γ D c b (d+1) (λst'=>match T.back Γ d st' with|some s'=>some (.inl s')|none=>none) (λj st'=>(X j (low d st')).map .inr) (λst'=>(R (low d st')).map .inr)
  |_=>True)
 |_,_,_,_,_,_,_=>True
theorem Obl.o (np n:Nat)(Γ:Tab P G)(D:List (CS P G))(c:Code){ρ:Type}(d:Nat)(N:St G→Option ρ)(X:Nat→St G→Option ρ)(R:St G→Option ρ):Obl np n Γ D c .o d N X R:=by
 cases c<;>exact trivial
end
set_option linter.unusedVariables false
set_option linter.unusedSimpArgs false
section
variable {G:Sg}{P:Program}{δ:List Nat}{n:Nat}{W0:Bse}{L0:Rs}{T0:List (Nat×Value)}{m m0:M}{z:Cz}{st:St G}{a:Act}{w:World}{Γ:Tab P G}{D:List (CS P G)}
theorem Ab {α : Type} {l : List α} {k i : Nat} (h : i < (l.drop k).length) : fb (l.drop k) i = fb l i := by
  induction l generalizing k with
  |nil=>simp
  | cons x l ih =>
    cases k with
    |zero=>rfl
    | succ k =>
      simp only[List.drop_succ_cons] at h ⊢;rw[ih h];have hi:i<l.length:=by simp at h;omega
      have:Z7 i l.length=false:=by
        cases hb:Z7 i l.length with
        |false=>rfl
        |true=>have:=Z0 hb;omega
      simp[fb,this]
theorem LR.drop {Bs : List (Nat × BC G)} {ps : List (Nat × Value)} {es : List (Nat × List Value)} (h : LR G m Bs ps es) (k : Nat) : LR G m (Bs.drop k) (ps.drop k) (es.drop k) := by
  induction Bs generalizing ps es k with
  |nil=>cases ps<;>cases es<;>first|exact h.elim|(simp;exact trivial)
  | cons B Bs ih =>
    cases ps with
    |nil=>cases es<;>exact h.elim
    | cons p ps =>
      cases es with
      |nil=>exact h.elim
      | cons e es =>
        cases k with
        |zero=>exact h
        |succ k=>exact ih h.2.2 k
theorem TRl.drop {ss : List Nat} {vs : List Value} {es : List (Nat × Value)} (h : TRl ss vs es) (k : Nat) : TRl (ss.drop k) (vs.drop k) (es.drop k) := by
  induction ss generalizing vs es k with
  |nil=>cases vs<;>cases es<;>first|exact h.elim|(simp;exact trivial)
  | cons s ss ih =>
    cases vs with
    |nil=>cases es<;>exact h.elim
    | cons v vs =>
      cases es with
      |nil=>exact h.elim
      | cons e es =>
        cases k with
        |zero=>exact h
        |succ k=>exact ih h.2 k
theorem S.voids {L L':List (Nat×List Value)} {TL:List (Nat×Value)} (h:S W0 m w L TL) (hv: ∀(i:Nat) (e:Nat×List Value),L'[i]? =some e→e.2=[]∨L[i]? =some e):S W0 m w L' TL:=
  ⟨h.below,h.imm,fun i e he hne=>(hv i e he).elim (fun x=>absurd x hne) (fun x=>h.own i e x hne),
   λi j e e' he he' hij hne hne'=>(hv i e he).elim (λx=>absurd x hne) (λx=>(hv j e' he').elim (λy=>absurd y hne') (λy=>h.nodup i j e e' x y hij hne hne')),h.tails,h.apart⟩
theorem uC {α:Type} {f:Nat→α}: ∀{n:Nat},(mY f n).length=n
  |0=>rfl
  |n+1=>by simp[mY,uC]
theorem uD {α:Type} {f:Nat→α}: ∀{n i:Nat} {y:α},fb (mY f n) i=some y→i<n∧y=f i
  |0,i,y,h=>by simp[mY,fb] at h
  | n + 1, i, y, h => by
    simp only[mY,fb,uC] at h;split at h
    · rename_i e
      have:=Z0 e;subst this;injection h with h
      exact⟨by omega,h.symm⟩
    ·have:=uD h;exact⟨by omega,this.2⟩
theorem LR.build {f : Nat → Nat × BC G} : ∀ {n : Nat} {Bs : List (Nat × BC G)} {ps : List (Nat × Value)} {es : List (Nat × List Value)}, LR G m Bs ps es → Bs.length = n → (∀ i, i < n → (f i).2 = .gone ∨ ∃ s, fb Bs i = some (s, (f i).2)) →
    ∃es',LR G m (mY f n) ps es'∧es'.length=es.length∧∀(i:Nat) (e:Nat×List Value),es'[i]? =some e→e.2=[]∨es[i]? =some e
  | 0, Bs, ps, es, h, hl, _ => by
    have:Bs=[]:=Zq hl;subst this;cases ps<;>cases es<;>first|exact h.elim|exact⟨[],trivial,rfl,λi e he=> .inr he⟩
  |n+1,[],ps,es,h,hl,_=>by simp at hl
  |n+1,B::Bs,[],es,h,hl,_=>by cases es<;>exact h.elim
  |n+1,B::Bs,p::ps,[],h,hl,_=>h.elim
  | n + 1, B :: Bs, p :: ps, e :: es, h, hl, hf => by
    obtain⟨h1,h2,h3⟩:=h;have hl':Bs.length=n:=by simpa using hl
    obtain⟨es',k1,k2,k3⟩:=LR.build (f:=f) h3 hl' (λi hi=>by
      rcases hf i (by omega) with h|⟨s,h⟩
      ·exact .inl h
      · refine .inr ⟨s, ?_⟩
        have:Z7 i Bs.length=false:=by
          cases hb:Z7 i Bs.length with
          |false=>rfl
          |true=>have:=Z0 hb;omega
        simp only[fb,this] at h
        exact h)
    rcases hf n (by omega) with hg|⟨s,hs⟩
    · refine ⟨(p.1, []) :: es', ⟨rfl, by rw [hg]; rfl, k1⟩, by simp [k2], fun i x hx => ?_⟩
      cases i with
      |zero=>simp at hx;subst hx;exact .inl rfl
      |succ i=>exact k3 i x (by simpa using hx)
    · have : fb (B :: Bs) n = some B := by rw [← hl']; exact jH
      rw[this] at hs;injection hs with hs
      refine⟨e::es',⟨h1,by rw[show(f n).2=B.2 by rw[hs]];exact h2,k1⟩,by simp[k2],λi x hx=>?_⟩;cases i with
      |zero=>exact .inr (by simpa using hx)
      |succ i=>exact k3 i x (by simpa using hx)
theorem gk.cut {Ls:List (Nat×BC G)} {Ts T':List Nat} {nb:Nat} {f:Nat→Nat×BC G} (h:gk G W0 L0 T0 Ls Ts m z w) (hnb:nb≤Ls.length) (hf: ∀i,i<nb→(f i).2= .gone∨ ∃s,fb Ls i=some (s,(f i).2)) (hT:Ts.drop (Ts.length - T'.length)=T') (hnm:L0.nm.length≤nb):
    ∃z',gk G W0 L0 T0 (mY f nb) T' m z' w∧(∀i p,i<nb→fb z.b i=some p→fb z'.b i=some p)∧(∀j v,j<T'.length→fb z.t j=some v→fb z'.t j=some v):=by
  obtain⟨Lc,Tc,h1,h2,hS,hsf⟩:=h;have hl:=h1.len;have hlT:=h2.len;have d1:=h1.drop (Ls.length - nb);have hdl:(Ls.drop (Ls.length - nb)).length=nb:=by simp;omega
  obtain⟨es',k1,k2,k3⟩:=LR.build (f:=f) d1 hdl (λi hi=>by
    rw[Ab (by omega)];exact hf i hi)
  have d2:=h2.drop (Ts.length - T'.length);rw[hT] at d2
  have hT':T'.length≤Ts.length:=by
    have:=congrArg List.length hT;simp at this;omega
  refine⟨⟨z.b.drop (Ls.length - nb),z.t.drop (Ts.length - T'.length)⟩,⟨es',Tc.drop (Ts.length - T'.length),k1,d2,?_,hsf.drop (by omega)⟩,λi p hi hp=>?_,λj v hj hv=>?_⟩
  · have hS1 := hS.dropL (Ls.length - nb)
    rw[Zb (by omega)] at hS1;have hS2:=hS1.dropT (Ts.length - T'.length);rw[Zb (by omega)] at hS2;refine hS2.voids λi e he=>?_;rw[List.getElem?_append] at he ⊢;rw[k2] at he;split at he
    · rename_i hlt
      rw[if_pos hlt];exact k3 i e he
    · rename_i hlt
      rw[if_neg hlt];exact .inr he
  ·rw[Ab (by simp;omega)];exact hp
  ·rw[Ab (by simp;omega)];exact hv
theorem Kt {q:Nat}{c:Ty}(hs:Sat G P δ n W0 L0 T0 m0 st a w):Sat G P δ n W0 L0 T0 m0 (nilT G q c st) a w∧Ext st.c st (nilT G q c st)∧(nilT G q c st).c=st.c:=by
  unfold nilT;split
  · rename_i lv he
    obtain⟨⟨m,z,h0,hr,hM⟩,hdf,hsz⟩:=hs;have hlen:=hM.len;obtain⟨Lc,Tc,h1,h2,hS,hsf⟩:=hM;have hv:a.tmps.getD q undef= .slice none 0 0:=hr _ (iq he);refine⟨⟨⟨m,⟨z.b,.slice none 0 0::z.t⟩,h0,λe he=>?_,Lc,((c.kd G).sz,.slice none 0 0)::Tc,h1,⟨rfl,h2⟩,hS.tail0 _,hsf⟩,hdf,hsz⟩,(Ext.envL (st:=st) (st':={ st with T:=(c.kd G).sz::st.T }) rfl rfl).trans (Ext.put (st:={ st with T:=(c.kd G).sz::st.T })),rfl⟩;rcases Z6.1 he with rfl|he
    · show RV _ m (a.tmps.getD q undef) _ ∧ Tag _ _ _
      rw[hv];refine⟨dL,?_⟩;show fb (.slice none 0 0::z.t) st.T.length=_;rw[←hlen.2];exact jH
    ·exact((hr e (lC he).1)).z (Zle.pushT z _)
  ·exact⟨hs,Ext.refl _ _,rfl⟩
theorem yl {α:Type}:∀{l:List α} {i:Nat},i<l.length→∃y,fb l i=some y:=by
  intro l
  induction l with
  |nil=>intro i h;simp at h
  | cons a l ih =>
    intro i h;simp only[fb];split
    ·exact⟨_,rfl⟩
    · rename_i hb
      have:i≠l.length:=λe=>by subst e;simp at hb
      simp at h;exact ih (by omega)
theorem TRl.get2 {ss : List Nat} {vs : List Value} {es : List (Nat × Value)} (h : TRl ss vs es) {i s : Nat} {v : Value} (hs : fb ss i = some s) (hv : fb vs i = some v) :
    i<ss.length∧es[ss.length - 1 - i]? =some (s,v)∧∀v',TRl ss (sb vs i v') (es.set (ss.length - 1 - i) (s,v')):=by
  induction ss generalizing vs es with
  |nil=>cases vs<;>simp[fb] at hs
  | cons s0 ss ih =>
    cases vs with
    |nil=>cases es<;>exact h.elim
    | cons v0 vs =>
      cases es with
      |nil=>exact h.elim
      | cons e es =>
        obtain⟨h1,h2⟩:=h;have hl:vs.length=ss.length:=h2.len.1;simp only[fb] at hs hv;rw[hl] at hv;split at hs
        · rename_i hi
          rw[if_pos hi] at hv;injection hs with hs;injection hv with hv
          subst hs;subst hv;have hi':=Z0 hi;subst hi';have e0:(s0::ss).length - 1 - ss.length=0:=by simp
          rw[e0];refine⟨by simp,by simp[h1],λv'=>?_⟩;simp only[sb,hl,hi,if_true,List.set_cons_zero];exact⟨rfl,h2⟩
        · rename_i hi
          rw[if_neg hi] at hv;obtain⟨g0,g1,g2⟩:=ih h2 hs hv;have e0:(s0::ss).length - 1 - i=(ss.length - 1 - i)+1:=by simp;omega
          rw[e0];refine⟨by simp;omega,by simpa using g1,λv'=>?_⟩;simp only[sb,hl,hi,List.set_cons_succ];exact⟨h1,g2 v'⟩
theorem S.swapT {TL : List (Nat × Value)} {L : List (Nat × List Value)} (h : S W0 m w L TL) {k1 k2 : Nat} {e1 e2 : Nat × Value} (h1 : TL[k1]? = some e1) (h2 : TL[k2]? = some e2) (hk : k1 ≠ k2) : S W0 m w L ((TL.set k1 e2).set k2 e1) := by
  refine h.selT _ (λi=>if i=k1 then k2 else if i=k2 then k1 else i) (λi e he=>?_) (λi j hij=>?_)
  · rw [List.getElem?_set] at he
    split at he
    · rename_i e
      subst e;split at he
      · injection he with he; subst he
        rw[if_neg (λe=>hk e.symm),if_pos rfl];exact h1
      ·cases he
    · rename_i hn
      rw[List.getElem?_set] at he;split at he
      · rename_i e
        subst e;split at he
        · injection he with he; subst he
          rw[if_pos rfl];exact h2
        ·cases he
      · rename_i hn2
        rw[if_neg (λe=>hn2 e.symm),if_neg (λe=>hn e.symm)];exact he
  ·split at hij<;>split at hij<;>(try split at hij)<;>(try split at hij)<;>omega
theorem Ext.er2 {j k:Nat}:Ext st.c st { st with env:=nJ k st.c (nJ j st.c st.env) }:=
  (Ext.er (st:=st) (j:=j)).trans (Ext.er (st:={ st with env:=nJ j st.c st.env }) (j:=k))
theorem Ku {q j : Nat} (hs : Sat G P δ n W0 L0 T0 m0 st a w) : Sat G P δ n W0 L0 T0 m0 (CU G q j st) a w ∧ Ext st.c st (CU G q j st) ∧(CU G q j st).c = st.c := by
  unfold CU;split
  · rename_i lv t x j' he
    split
    ·exact⟨hs,Ext.refl _ _,rfl⟩
    · rename_i hne
      split
      · rename_i s s' hj hj'
        split
        · rename_i hss
          subst hss;obtain⟨⟨m,z,h0,hr,hM⟩,hdf,hsz⟩:=hs;have hlen:=hM.len;obtain⟨Lc,Tc,h1,h2,hS,hsf⟩:=hM;obtain⟨hv,ht⟩:=hr _ (iq he);simp only at hv ht;have ht:fb z.t j'=some (a.tmps.getD q undef):=ht;obtain⟨u,hu⟩:=yl (l:=z.t) (i:=j) (by rw[hlen.2];exact xk hj);obtain⟨p1,p2,p3⟩:=h2.get2 hj hu;obtain⟨q1,q2,q3⟩:=(p3 (a.tmps.getD q undef)).get2 hj' (show fb (sb z.t j _) j'=_ by rw[jY (λe=>hne e.symm)];exact ht);obtain⟨_,r2,_⟩:=h2.get2 hj' ht;have hk:st.T.length - 1 - j≠st.T.length - 1 - j':=by omega
          refine⟨⟨⟨m,⟨z.b,sb (sb z.t j (a.tmps.getD q undef)) j' u⟩,h0,λe he=>?_,Lc,_,h1,q3 u,?_,hsf⟩,hdf,hsz⟩,Ext.er2.trans (Ext.put (st:={ st with env:=nJ j' st.c (nJ j st.c st.env) }) (d:=q)),rfl⟩
          · rcases Z6.1 he with rfl | he
            · refine ⟨hv, ?_⟩
              show fb (sb (sb z.t j (a.tmps.getD q undef)) j' u) j=_;rw[jY hne,n9 hu]
            ·exact sG (sG hr) e (lC he).1
          · have := hS.swapT (k1 := st.T.length - 1 - j) (k2 := st.T.length - 1 - j') (by rw [Z4 (by have := h2.len.2; omega)]; exact p2) (by rw [Z4 (by have := h2.len.2; omega)]; exact r2) hk
            rw[Zs _ _ (by have:=h2.len.2;omega),Zs _ _ (by have:=h2.len.2;simp;omega)] at this;exact this
        ·exact⟨hs,Ext.refl _ _,rfl⟩
      ·exact⟨hs,Ext.refl _ _,rfl⟩
  ·exact⟨hs,Ext.refl _ _,rfl⟩
theorem ym:∀{its:List It} {st:St G},Sat G P δ n W0 L0 T0 m0 st a w→Sat G P δ n W0 L0 T0 m0 (nK G its st) a w∧Ext st.c st (nK G its st)∧(nK G its st).c=st.c:=by
  intro its
  induction its with
  |nil=>intro st hs;exact⟨hs,Ext.refl _ _,rfl⟩
  | cons i its ih =>
    intro st hs;unfold nK;split
    · rename_i heq
      cases heq
    · rename_i q lv c j r heq
      injection heq with h1 h2
      subst h2;obtain⟨k1,k2,k3⟩:=Kt (q:=q) (c:=c) hs;obtain⟨l1,l2,l3⟩:=Ku (q:=q) (j:=j) k1;obtain⟨r1,r2,r3⟩:=ih l1;rw[l3,k3] at r2 r3;rw[k3] at l2;exact⟨r1,k2.trans (l2.trans r2),r3⟩
    · rename_i heq
      injection heq with h1 h2
      subst h2;exact ih hs
theorem LW {nT : Nat} {s : Sh} {b : AV G} {x : s.den G} (h : shX G nT s b = some x) : s.mk G x = b ∧∀ t j, s = .dat t (some j) → j < nT := by
  cases s with
  | dat t o =>
    unfold shX at h;dsimp only at h;cases hb:b.dt? with
    |none=>simp[hb] at h
    | some q =>
      simp only[hb] at h;have h':(if q.2.2=o∧LV nT o=true then dM G q.1 t q.2.1 else none)=some (show t.den G from x):=h;clear h;split at h'
      · rename_i hj
        obtain⟨h1,hj⟩:=hj;obtain⟨e,h⟩:=bY h';rw[AV.dt_eq hb];obtain⟨t',x',o'⟩:=q;simp only at e h1;subst e;subst h1;subst h;exact⟨rfl,λt j e=>by injection e with e1 e2;rw[e2] at hj;exact Z3 hj⟩
      ·cases h'
  | ptr t =>
    unfold shX at h;dsimp only at h;cases hb:b.pt? with
    |none=>simp[hb] at h
    | some q =>
      simp only[hb] at h;obtain⟨e,h⟩:=bY h;rw[AV.pt_eq hb];obtain⟨t',x'⟩:=q;simp only at e;subst e;subst h;exact⟨rfl,λt j e=>by cases e⟩
  | fn1 c d =>
    unfold shX at h;dsimp only at h;cases hb:b.f1? with
    |none=>simp[hb] at h
    | some q =>
      simp only[hb] at h;split at h
      · rename_i hh
        rw[AV.f1_eq hb];obtain⟨a',b',f⟩:=q;obtain⟨h1,h2⟩:=hh;simp only at h1 h2;subst h1;subst h2;injection h with h;subst h
        exact⟨rfl,λt j e=>by cases e⟩
      ·cases h
  | fn2 c e d =>
    unfold shX at h;dsimp only at h;cases hb:b.f2? with
    |none=>simp[hb] at h
    | some q =>
      simp only[hb] at h;split at h
      · rename_i hh
        rw[AV.f2_eq hb];obtain⟨a',c',b',f⟩:=q;obtain⟨h1,h2,h3⟩:=hh;simp only at h1 h2 h3;subst h1;subst h2;subst h3;injection h with h;subst h
        exact⟨rfl,λt j e=>by cases e⟩
      ·cases h
theorem QQ {nT:Nat}{s:Sh}{x:s.den G}{v:Value}{z':Cz}(hr:(s.mk G x).Rel G P m z v)(hs:∀t j,s= .dat t (some j)→j<nT)(hz:∀j v,j<nT→fb z.t j=some v→fb z'.t j=some v):(s.mk G x).Rel G P m z' v:=by
  cases s with
  | dat t o =>
    refine⟨hr.1,?_⟩;cases o with
    |none=>trivial
    |some j=>exact hz _ _ (hs t j rfl) hr.2
  |_=>exact hr
theorem vU {nT:Nat}{s:Sh}{b:AV G}{x:s.den G}{v:Value}{z':Cz}(h:shX G nT s b=some x)(hr:b.Rel G P m z v)(hz:∀j v,j<nT→fb z.t j=some v→fb z'.t j=some v):(s.mk G x).Rel G P m z' v∧s.mk G x=b:=by
  obtain⟨h1,h2⟩:=LW h;rw[←h1] at hr;exact⟨QQ hr h2 hz,h1⟩
theorem LX {nT:Nat}{s:Sh}{b:AV G}{x:s.den G}{v:Value}{z':Cz}(h:shA Γ nT s b=some x)(hr:b.Rel G P m z v)(hz:∀j v,j<nT→fb z.t j=some v→fb z'.t j=some v):(s.mk G x).Rel G P m z' v:=by
  cases s with
  | dat t o =>
    cases o with
    | none =>
      have h':b.as Γ t=some x:=h;exact⟨AV.as_rel h' hr,trivial⟩
    | some j =>
      have h':shX G nT (.dat t (some j)) b=some x:=h;exact(vU h' hr hz).1
  | ptr t =>
    have h':shX G nT (.ptr t) b=some x:=h;exact(vU h' hr hz).1
  | fn1 c d =>
    have h':shX G nT (.fn1 c d) b=some x:=h;exact(vU h' hr hz).1
  | fn2 c e d =>
    have h':shX G nT (.fn2 c e d) b=some x:=h;exact(vU h' hr hz).1
theorem Kv {q lv:Nat}{s:Sh}{its:List It}{u:s.den G}{y:fd G its}:lV G (.v q lv s::its) (mkI G (.v q lv s) its u y)=(q,lv,.one (s.mk G u))::lV G its y:=by
  cases its<;>rfl
theorem Kw {i lv:Nat}{t:Ty}{its:List It}{u:t.den G}{y:fd G its}:lV G (.b i lv t::its) (mkI G (.b i lv t) its u y)=lV G its y:=by
  cases its<;>rfl
theorem Kx {i lv:Nat}{t:Ty}{nn:Option Nat}{its:List It}{u:List (t.den G)}{y:fd G its}:lV G (.a i lv t nn::its) (mkI G (.a i lv t nn) its u y)=lV G its y:=by
  cases its<;>rfl
theorem Ky {q lv:Nat}{s:Sh}{its:List It}{u:s.den G}{y:fd G its}{k:Nat}:em G (.v q lv s::its) (mkI G (.v q lv s) its u y) k=em G its y k:=by
  cases its<;>rfl
theorem Kz {i lv:Nat}{t:Ty}{its:List It}{u:t.den G}{y:fd G its}{k:Nat}:em G (.b i lv t::its) (mkI G (.b i lv t) its u y) k=if Z7 i k then some (lv,.dat t u) else em G its y k:=by
  cases its<;>rfl
theorem KA {i lv:Nat}{t:Ty}{nn:Option Nat}{its:List It}{u:List (t.den G)}{y:fd G its}{k:Nat}:em G (.a i lv t nn::its) (mkI G (.a i lv t nn) its u y) k=if Z7 i k then some (lv,.arr t nn u) else em G its y k:=by
  cases its<;>rfl
theorem yn {nT : Nat} {z' : Cz} (hE : j0 G P m z st.env a) (hz : ∀ j v, j < nT → fb z.t j = some v → fb z'.t j = some v) : ∀ {its : List It} {x : fd G its}, mW Γ nT st its = some x →
    ∀e∈lV G its x,e.2.2.Rel G P m z' (a.tmps.getD e.1 undef)∧(e.2.1<st.c→∃lv,lv≤e.2.1∧(e.1,lv,e.2.2)∈st.env):=by
  intro its
  induction its with
  |nil=>intro x h e he;cases he
  | cons i its ih =>
    intro x h;cases i with
    | v q lv s =>
      simp only[mW] at h;split at h
      · rename_i lv' b y hq hy
        split at h
        · rename_i hlv
          split at h
          · rename_i u hu
            injection h with h
            subst h;intro e he;rw[Kv] at he;rcases Z6.1 he with rfl|he
            · have hr : b.Rel G P m z (a.tmps.getD q undef) := hE _ (iq hq)
              split at hu
              · rename_i hc
                exact⟨LX hu hr hz,λh=>absurd h (by show ¬ lv<st.c;omega)⟩
              · obtain ⟨k1, k2⟩ := vU hu hr hz
                exact⟨k1,λhlt=>⟨lv',hlv.resolve_left (X3.2 hlt),by rw[k2];exact iq hq⟩⟩
            ·exact ih hy e he
          ·cases h
        ·cases h
      ·cases h
    | b i lv t =>
      simp only[mW] at h;split at h
      · rename_i lv' t' u y hq hy
        split at h
        · split at h
          · injection h with h
            subst h;intro e he;rw[Kw] at he;exact ih hy e he
          ·cases h
        ·cases h
      ·cases h
    | a i lv t nn =>
      simp only[mW] at h;split at h
      · rename_i lv' t' n' u y hq hy
        split at h
        · split at h
          · injection h with h
            subst h;intro e he;have he':e∈lV G its y:=by rw[←Kx (i:=i) (lv:=lv) (t:=t) (nn:=nn)];exact he
            exact ih hy e he'
          ·cases h
        ·cases h
      ·cases h
theorem yo {nT : Nat} :∀ {its : List It} {x : fd G its}, mW Γ nT st its = some x →∀ k e, em G its x k = some e →∃ lv,(e.1 < st.c → lv ≤ e.1) ∧ fb st.L k = some (lv, e.2) := by
  intro its
  induction its with
  |nil=>intro x h k e he;cases he
  | cons i its ih =>
    intro x h;cases i with
    | v q lv s =>
      simp only[mW] at h;split at h
      · rename_i lv' b y hq hy
        split at h
        · split at h
          · injection h with h
            subst h;intro k e he;rw[Ky] at he;exact ih hy k e he
          ·cases h
        ·cases h
      ·cases h
    | b i lv t =>
      simp only[mW] at h;split at h
      · rename_i lv' t' u y hq hy
        split at h
        · rename_i hlv
          split at h
          · rename_i u' hu
            obtain⟨e,hu⟩:=bY hu;subst e;subst hu;injection h with h
            subst h;intro k e he;rw[Kz] at he;split at he
            · rename_i hb
              have:=Z0 hb;subst this;injection he with he;subst he
              exact⟨lv',λhlt=>hlv.resolve_left (X3.2 hlt),hq⟩
            ·exact ih hy k e he
          ·cases h
        ·cases h
      ·cases h
    | a i lv t nn =>
      simp only[mW] at h;split at h
      · rename_i lv' t' n' u y hq hy
        split at h
        · rename_i hlv
          obtain⟨hlv,rfl⟩:=hlv;split at h
          · rename_i u' hu
            obtain⟨e,hu⟩:=bY hu;injection e with e
            subst e;subst hu;injection h with h
            subst h;intro k e he;have he2:=(KA (G:=G) (i:=i) (lv:=lv) (t:=t')).symm.trans he;clear he;split at he2
            · rename_i hb
              have:=Z0 hb;subst this;injection he2 with he2;subst he2
              exact⟨lv',λhlt=>hlv.resolve_left (X3.2 hlt),hq⟩
            ·exact ih hy k e he2
          ·cases h
        ·cases h
      ·cases h
end
set_option linter.unusedVariables false
set_option linter.unusedSimpArgs false
section
variable {G:Sg}{P:Program}{δ:List Nat}{n:Nat}{W0:Bse}{L0:Rs}{T0:List (Nat×Value)}{m m0:M}{z:Cz}{st:St G}{a:Act}{w:World}{Γ:Tab P G}{D:List (CS P G)}
theorem Fx.is_eq {f:Fx}{b:AV G}(h:f.is b=true):b=f.mk G:=by
  cases f<;>cases b<;>simp[Fx.is] at h<;>simp[Fx.mk,h]
theorem IK {nb : Nat} :∀ {fx : List (Nat × Nat × Fx)}, Fq st nb fx = true →∀ e ∈ fx,∃ lv', lke st.env e.1 = some (lv', .one (e.2.2.mk G)) ∧(e.2.1 < st.c → lv' ≤ e.2.1) ∧(∀ i, e.2.2 = .blk i → i < nb) ∧(∀ i, e.2.2 = .own i → i < nb) := by
  intro fx
  induction fx with
  |nil=>intro _ e he;cases he
  | cons x fx ih =>
    intro h e he;obtain⟨q,lv,f⟩:=x;simp only[Fq,Z5] at h;rcases Z6.1 he with rfl|he
    · obtain ⟨h1, _⟩ := h
      split at h1
      · rename_i lv' b hq
        simp only[Z5] at h1;obtain⟨⟨h1,h2⟩,h3⟩:=h1;have:=Fx.is_eq h2;subst this;refine⟨lv',hq,λhlt=>?_,λi hi=>?_,λi hi=>?_⟩
        · rcases Bool.or_eq_true_iff.1 h1 with h1 | h1
          ·exact absurd (Z3 h1) (X3.2 hlt)
          ·exact Z3 h1
        ·simp only at hi;subst hi;exact Z3 h3
        ·simp only at hi;subst hi;exact Z3 h3
      ·cases h1
    ·exact ih h.2 e he
theorem Tm.ok {T : Tm} {x : fd G T.its} (hnm : L0.nm.length ≤ T.nb) (h : T.fit Γ st = some x) (hs : Sat G P δ n W0 L0 T0 m0 st a w) : Sat G P δ n W0 L0 T0 m0 (T.st G st.c x) a w ∧ Ext st.c st (T.st G st.c x) := by
  obtain⟨hs1,hx1,hc1⟩:=ym (its:=T.its) hs;unfold Tm.fit at h;simp only at h;generalize nK G T.its st=st1 at*;split at h
  · rename_i hc
    simp only[Z5] at hc;obtain⟨⟨hfx,hnb⟩,hT⟩:=hc;have hT:=of_decide_eq_true hT;have hnb:=Z3 hnb;have hfx:=IK hfx;obtain⟨⟨m,z,h0,hr,hM⟩,hdf,hsz⟩:=hs1;have hbl:=yo h
    obtain⟨z',hM',hzb,hzt⟩:=gk.cut (f:=λi=>match em G T.its x i with|some e=>e|none=>(st.c,.gone)) hM hnb (λi hi=>by
      cases hi:em G T.its x i with
      |none=>exact .inl rfl
      |some e=>obtain⟨lv,_,h2⟩:=hbl i e hi;exact .inr ⟨lv,h2⟩) hT hnm
    have henv:=yn hr hzt h;refine⟨⟨⟨m,z',h0,λe he=>?_,hM'⟩,hdf,hsz⟩,?_⟩
    · rcases Z9.1 he with he | he
      · obtain ⟨f, hf, rfl⟩ := Zn.1 he
        obtain⟨lv',k1,k2,k3,k4⟩:=hfx f hf;have hrel:=hr _ (iq k1);show AV.Rel G P m z' (f.2.2.mk G) _;cases hff:f.2.2 with
        |blk i=>rw[hff] at hrel;obtain⟨p,q1,q2⟩:=hrel;exact⟨p,hzb i p (k3 i hff) q1,q2⟩
        |own i=>rw[hff] at hrel;obtain⟨p,q1,q2⟩:=hrel;exact⟨p,hzb i p (k4 i hff) q1,q2⟩
        |nils=>rw[hff] at hrel;exact hrel
        |und=>rw[hff] at hrel;exact hrel
      ·exact(henv e he).1
    · rw [hc1] at henv
      refine hx1.trans ⟨λk hk e he hl=>?_,λk hk i s B hb hsk=>?_⟩
      · rcases Z9.1 he with he | he
        · obtain ⟨f, hf, rfl⟩ := Zn.1 he
          obtain⟨lv',k1,k2,_⟩:=hfx f hf;have hl:f.2.1≤k:=hl;exact⟨lv',Zo (k2 (by rw[hc1];omega)) hl,iq k1⟩
        · obtain ⟨lv, k1, k2⟩ := (henv e he).2 (by omega)
          exact⟨lv,Zo k1 hl,k2⟩
      · obtain ⟨_, hy⟩ := uD hb
        cases hi:em G T.its x i with
        | none =>
          rw[hi] at hy;injection hy with hy _;omega
        | some e =>
          rw[hi] at hy;simp only at hy;subst hy;obtain⟨lv,k1,k2⟩:=hbl i _ hi;exact⟨lv,Zo (k1 (by simp only;omega)) hsk,k2⟩
  ·cases h
theorem pW {env:List (Nat×Nat×EV G)}{d:Nat}:∀{ks:List Nat} {e:Nat×Nat×EV G},e∈rl env d ks→e.1∈ks∧∃lv,lke env e.1=some (lv,e.2.2)∧e.2.1=min lv d:=by
  intro ks
  induction ks with
  |nil=>intro e he;cases he
  | cons q ks ih =>
    intro e he;simp only[rl] at he;split at he
    · rename_i lv ev hq
      rcases Z6.1 he with rfl|he
      ·exact⟨by simp,lv,hq,rfl⟩
      ·obtain⟨h1,h2⟩:=ih he;exact⟨by simp[h1],h2⟩
    ·obtain⟨h1,h2⟩:=ih he;exact⟨by simp[h1],h2⟩
theorem CW {d:Nat}:∀{its:List It} {x:fd G its},px d its=true→∀e∈lV G its x,e.2.1=d+1:=by
  intro its
  induction its with
  |nil=>intro x _ e he;cases he
  | cons i its ih =>
    intro x h e he;cases i with
    | v q lv s =>
      simp only[px,Z5] at h;rcases Z6.1 he with rfl|he
      ·exact Z0 h.1
      ·exact ih h.2 e he
    | b i lv t =>
      simp only[px,Z5] at h;exact ih h.2 e he
    | a i lv t nn =>
      simp only[px,Z5] at h;exact ih h.2 e he
theorem IL {d:Nat}:∀{its:List It} {x:fd G its},px d its=true→∀k e,em G its x k=some e→e.1=d+1:=by
  intro its
  induction its with
  |nil=>intro x _ k e he;cases he
  | cons i its ih =>
    intro x h k e he;cases i with
    | v q lv s =>
      simp only[px,Z5] at h;exact ih h.2 k e he
    | b i lv t =>
      simp only[px,Z5] at h;simp only[em] at he;split at he
      ·injection he with he;subst he;exact Z0 h.1
      ·exact ih h.2 k e he
    | a i lv t nn =>
      simp only[px,Z5] at h;simp only[em] at he;split at he
      ·injection he with he;subst he;exact Z0 h.1
      ·exact ih h.2 k e he
theorem Bi {k:Nat}:∀{its:List It} {x:fd G its},sI k its=(em G its x k).isSome:=by
  intro its
  induction its with
  |nil=>intro x;rfl
  | cons i its ih =>
    intro x;cases i with
    |v q lv s=>exact ih
    | b i lv t =>
      simp only[sI,em];cases Z7 i k with
      |true=>rfl
      |false=>simpa using ih
    | a i lv t nn =>
      simp only[sI,em];cases Z7 i k with
      |true=>rfl
      |false=>simpa using ih
theorem AV.Rel.z2 {m1 m:M}{z1 z z':Cz}{b:AV G}{v1 v:Value}(h1:b.Rel G P m1 z1 v1)(h:b.Rel G P m z v)(hb:∀i p1 p,fb z1.b i=some p1→fb z.b i=some p→fb z'.b i=some p)(ht:∀j u1 u,fb z1.t j=some u1→fb z.t j=some u→fb z'.t j=some u):b.Rel G P m z' v:=by
  cases b with
  | dat t x o =>
    refine⟨h.1,?_⟩;cases o with
    |none=>trivial
    |some j=>exact ht j _ _ h1.2 h.2
  |loc i a b A=>obtain⟨p,q1,q2⟩:=h;obtain⟨p1,r1,_⟩:=h1;exact⟨p,hb _ _ _ r1 q1,q2⟩
  |elp i j a b A=>obtain⟨p,q1,q2⟩:=h;obtain⟨p1,r1,_⟩:=h1;exact⟨p,hb _ _ _ r1 q1,q2⟩
  |blk i=>obtain⟨p,q1,q2⟩:=h;obtain⟨p1,r1,_⟩:=h1;exact⟨p,hb _ _ _ r1 q1,q2⟩
  |own i=>obtain⟨p,q1,q2⟩:=h;obtain⟨p1,r1,_⟩:=h1;exact⟨p,hb _ _ _ r1 q1,q2⟩
  |_=>exact h
theorem EV.Rel.z2 {m1 m : M} {z1 z z' : Cz} {e : EV G} {v1 v : Value} (h1 : e.Rel G P m1 z1 v1) (h : e.Rel G P m z v) (hb :∀ i p1 p, fb z1.b i = some p1 → fb z.b i = some p → fb z'.b i = some p) (ht :∀ j u1 u, fb z1.t j = some u1 → fb z.t j = some u → fb z'.t j = some u) : e.Rel G P m z' v := by
  cases e with
  |one b=>exact AV.Rel.z2 h1 h hb ht
  | tup asv =>
    obtain⟨vs1,k0,k1⟩:=h1;obtain⟨vs,k2,k3⟩:=h;refine⟨vs,k2,?_⟩;clear k2 k0
    induction asv generalizing vs vs1 with
    |nil=>cases vs<;>exact k3
    | cons b asv ih =>
      cases vs with
      |nil=>exact k3
      | cons v vs =>
        cases vs1 with
        |nil=>exact k1.elim
        |cons v1 vs1=>exact⟨AV.Rel.z2 k1.1 k3.1 hb ht,ih vs1 k1.2 vs k3.2⟩
structure Fs (T:Lt) (st:St G):Prop where
  len:st.L.length=T.nb
  tls:st.T=T.T
  nd:tW T.keep=true
  lv:px st.c T.its=true
  keep:∀q∈T.keep,∃e,lke st.env q=some e
theorem Lt.fit_ok {T:Lt}{st1:St G}{x:fd G T.its}(h:T.fit Γ st=some (st1,x)):st1=nK G T.its st∧Fs T st1∧mW Γ T.T.length st1 T.its=some x:=by
  unfold Lt.fit at h;simp only at h;split at h
  · rename_i hc
    split at h
    · rename_i y hy
      injection h with h
      injection h with h1 h2
      subst h1;subst h2;simp only[Z5] at hc;obtain⟨⟨⟨⟨c1,c2⟩,c3⟩,c4⟩,c5⟩:=hc;refine⟨rfl,⟨Z0 c1,of_decide_eq_true c2,c3,c4,λq hq=>?_⟩,hy⟩;exact Option.isSome_iff_exists.1 (Zf.1 c5 q hq)
    ·cases h
  ·cases h
theorem Lt.entry {T : Lt} {st1 : St G} {x : fd G T.its} (hs : Sat G P δ n W0 L0 T0 m0 st1 a w) (hk : Fs T st1) (hf : mW Γ T.T.length st1 T.its = some x) : Sat G P δ n W0 L0 T0 m0 (T.st G st1 x) a w := by
  obtain⟨⟨m,z,h0,hr,hM⟩,hdf,hsz⟩:=hs;have hlen:=hM.len;have hbl:=yo hf
  obtain⟨z',hM',hzb,hzt⟩:=gk.cut (T':=T.T) (nb:=T.nb) (f:=λi=>match em G T.its x i with|some e=>e|none=>(match fb st1.L i with|some e=>(min e.1 st1.c,e.2)|none=>(0,.gone))) hM (by rw[hk.len];exact Nat.le_refl _) (λi hi=>by
      cases hi:em G T.its x i with
      | none =>
        cases hj:fb st1.L i with
        |none=>exact .inl (by simp)
        |some e=>exact .inr ⟨e.1,by simp⟩
      |some e=>obtain⟨lv,_,h2⟩:=hbl i e hi;exact .inr ⟨lv,h2⟩) (by rw[hk.tls];simp) (by obtain⟨_,_,_,_,_,hsf⟩:=hM;have:=hsf.len;rw[hlen.1,hk.len] at this;exact this)
  have hz:Zle z z':=⟨λi p hp=>hzb i p (by have:=xk hp;rw[hlen.1,hk.len] at this;exact this) hp,λj v hv=>hzt j v (by have:=xk hv;rw[hlen.2,hk.tls] at this;exact this) hv⟩
  have henv:=yn hr hzt hf;refine⟨⟨m,z',h0,λe he=>?_,hM'⟩,hdf,hsz⟩;rcases Z9.1 he with he|he
  ·exact(henv e he).1
  · obtain ⟨_, lv, h1, _⟩ := pW he
    exact(hr _ (iq h1)).z hz
theorem Lt.ext {T:Lt}{st1:St G}{s:fd G T.its}(hk:Fs T st1):Ext st1.c st1 (T.st G st1 s):=by
  refine⟨λk hkk e he hl=>?_,λk hkk i sl B hb hsl=>?_⟩
  · rcases Z9.1 he with he | he
    ·have:=CW hk.lv e he;omega
    · obtain ⟨_, lv, h1, h2⟩ := pW he
      exact⟨lv,by omega,iq h1⟩
  · obtain ⟨hi, hy⟩ := uD hb
    cases hit:em G T.its s i with
    | some e =>
      rw[hit] at hy;have:=IL hk.lv i e hit;simp only at hy;subst hy;simp only at this;omega
    | none =>
      rw[hit] at hy;obtain⟨e,he⟩:=yl (l:=st1.L) (i:=i) (by rw[hk.len];exact hi);simp only[he] at hy;injection hy with h1 h2
      subst h2;exact⟨e.1,by omega,he⟩
theorem GN {env:List (Nat×Nat×EV G)}{d q lv:Nat}{e:EV G}:∀{ks:List Nat},(q,lv,e)∈rl env d ks→∃lv',lke env q=some (lv',e):=by
  intro ks h;obtain⟨_,lv',h1,_⟩:=pW h;exact⟨lv',h1⟩
theorem Lt.back_ok {T : Lt} {st1 st' : St G} {s s' : fd G T.its} {a0 : Act} {w0 : World} (hk : Fs T st1) (h0 : Sat G P δ n W0 L0 T0 m0 (T.st G st1 s) a0 w0) (hs0 : Sat G P δ n W0 L0 T0 m0 st' a w) (hx0 : Ext (st1.c + 1) (T.st G st1 s) st') (hc : st'.c = st1.c + 1)
    (hb:T.back Γ st1.c st'=some s'):Sat G P δ n W0 L0 T0 m0 (T.st G st1 s') a w:=by
  obtain⟨hs,hxn,hcn⟩:=ym (its:=T.its) hs0;unfold Lt.back at hb;simp only at hb;rw[hc] at hxn;have hx:=hx0.trans hxn;clear hxn hx0 hs0;generalize nK G T.its st'=st' at*;obtain⟨⟨m1,z1,_,hr1,hM1⟩,_,_⟩:=h0;have hlen1:=hM1.len;have hl1:(T.st G st1 s).L.length=T.nb:=uC;obtain⟨⟨m,z,hm0,hr,hM⟩,hdf,hsz⟩:=hs;split at hb
  · rename_i hok
    unfold GM at hok;simp only[Z5] at hok;obtain⟨⟨⟨c1,c2⟩,c3⟩,c4⟩:=hok;have hbl:=yo hb
    have stay:∀i,i<T.nb→em G T.its s' i=none→∃sl e,fb st1.L i=some e∧fb st'.L i=some (sl,e.2):=by
      intro i hi hn;have h4:=Zf.1 c4 i (by simpa using hi);have hno:sI i T.its=false:=by rw[Bi (G:=G) (x:=s'),hn];rfl
      rw[hno,Bool.false_or] at h4;split at h4
      · rename_i lv B hB
        have hlv:=Z3 h4;obtain⟨sl,_,h6⟩:=hx.blk st1.c (Nat.lt_succ_self _) i lv B hB hlv;obtain⟨_,hy⟩:=uD h6
        have hno':em G T.its s i=none:=by
          have:=Bi (G:=G) (x:=s) (k:=i);rw[hno] at this;cases hq:em G T.its s i with
          |none=>rfl
          |some e=>rw[hq] at this;cases this
        rw[hno'] at hy;obtain⟨e,he⟩:=yl (l:=st1.L) (i:=i) (by rw[hk.len];exact hi);simp only[he] at hy;injection hy with _ hy
        subst hy;exact⟨lv,e,he,hB⟩
      ·cases h4
    obtain⟨z',hM',hzb,hzt⟩:=gk.cut (T':=T.T) (nb:=T.nb) (f:=λi=>match em G T.its s' i with|some e=>e|none=>(match fb st1.L i with|some e=>(min e.1 st1.c,e.2)|none=>(0,.gone))) hM (Z3 c2) (λi hi=>by
        cases hii:em G T.its s' i with
        | none =>
          obtain⟨sl,e,h1,h2⟩:=stay i hi hii;exact .inr ⟨sl,by simp[h1,h2]⟩
        |some e=>obtain⟨lv,_,h2⟩:=hbl i e hii;exact .inr ⟨lv,h2⟩) (of_decide_eq_true c3) (by obtain⟨_,_,_,_,_,hsf⟩:=hM1;have:=hsf.len;rw[hlen1.1,hl1] at this;exact this)
    have henv:=yn hr hzt hb;refine⟨⟨m,z',hm0,λe he=>?_,hM'⟩,hdf,hsz⟩;rcases Z9.1 he with he|he
    ·exact(henv e he).1
    · obtain ⟨hq, lv, h1, _⟩ := pW he
      have h2:=Zf.1 c1 e.1 hq;split at h2
      · rename_i lv2 ev2 hq2
        obtain⟨lv3,h3,h4⟩:=hx.env st1.c (Nat.lt_succ_self _) (e.1,lv2,ev2) (iq hq2) (Z3 h2)
        have hev:ev2=e.2.2:=by
          rcases Z9.1 h4 with h4|h4
          · have := CW hk.lv _ h4
            simp only at this;omega
          · obtain ⟨lv', h5⟩ := GN h4
            rw[h1] at h5;injection h5 with h5;injection h5 with _ h5
            exact h5.symm
        subst hev;have r1:=hr1 e (Z9.2 (.inr he));have r2:=hr _ (iq hq2);refine EV.Rel.z2 r1 r2 (λi p1 p hp1 hp=>hzb i p ?_ hp) (λj u1 u hu1 hu=>hzt j u ?_ hu)
        ·have:=xk hp1;rw[hlen1.1,hl1] at this;exact this
        ·have:=xk hu1;rw[hlen1.2] at this;exact this
      ·cases h2
  ·cases hb
end
set_option linter.unusedVariables false
set_option linter.unusedSimpArgs false
section
variable {G:Sg}{P:Program}{δ:List Nat}{n:Nat}{W0:Bse}{L0:Rs}{T0:List (Nat×Value)}{m0:M}{Γ:Tab P G}{D:List (CS P G)}{ro:Option Nat}
theorem DW {ρ:Type} {id:Nat} {ops:Array Oper} {dr:Bool} {st:St G} {K':St G→Option ρ} {r:ρ} {a:Act} {w:World} {NP RP:Act→World→Prop} {XP:List (Nat×(Act→World→Prop))} (hmx:P.follows .mixedOrders=true) (h:yi n Γ D ops.toList dr st K'=some r) (hs:Sat G P δ n W0 L0 T0 m0 st a w)
  (hN:Nxt G P δ n W0 L0 T0 m0 K' r st NP):K ro P (.region id ops dr) NP XP RP a w:=by
 obtain⟨os⟩:=ops;cases dr with
 |false=>exact ah (yh h hs λst' a' w' h1 h2 h3 h4=>ag (hN st' a' w' h1 h2 h3 h4))
 | true =>
  unfold yi at h;simp only at h;split at h
  ·rename_i hc
   simp only[Z5] at hc;split at h
   ·rename_i hns
    exact Kr hns hmx hs (GK hc.1.1 hc.2) hc.1.2 h hN
   ·split at h
    ·rename_i hg
     exact IJ hmx hs (GK hc.1.1 hc.2) hc.1.2 hg h hN
    ·cases h
  ·cases h
theorem map_inr {σ ρ:Type}{x:Option ρ}{r:σ⊕ρ}(h:x.map Sum.inr=some r):∃o,x=some o∧r= .inr o:=by
 cases x with
 |none=>cases h
 |some o=>injection h with h;exact⟨o,rfl,h.symm⟩
theorem CX {np:Nat} (hnp:L0.nm.length≤np) (hmx:P.follows .mixedOrders=true): ∀(c:Code) {ρ:Type} (A:An G ρ) (st:St G) (N:St G→Option ρ) (X:Nat→St G→Option ρ) (R:St G→Option ρ) (r:ρ) (a:Act) (w:World) (NP RP:Act→World→Prop) (XP:List (Nat×(Act→World→Prop))),
  ex n Γ D c A st N X R=some r→Obl np n Γ D c A st.c N X R→Sat G P δ n W0 L0 T0 m0 st a w→Nxt G P δ n W0 L0 T0 m0 N r st NP→
  (∀j,Nxt G P δ n W0 L0 T0 m0 (X j) r st (λa w=>∃e,XP.find? (λe=>Z7 e.1 j)=some e∧e.2 a w))→Nxt G P δ n W0 L0 T0 m0 R r st RP→K ro P c NP XP RP a w:=by
 intro c
 induction c with
 |skip=>intro ρ A st N X R r a w NP RP XP h _ hs hN _ _;exact aQ (hN st a w h hs (Ext.refl _ _) rfl)
 |label l=>intro ρ A st N X R r a w NP RP XP h _ hs hN _ _;exact Gd (hN st a w h hs (Ext.refl _ _) rfl)
 |region id ops dr=>intro ρ A st N X R r a w NP RP XP h _ hs hN _ _;exact DW hmx h hs hN
 |exit id=>
  intro ρ A st N X R r a w NP RP XP h _ hs _ hX _;obtain⟨e,h1,h2⟩:=hX id st a w h hs (Ext.refl _ _) rfl;exact cC h1 rfl h2
 |ret=>intro ρ A st N X R r a w NP RP XP h _ hs _ _ hR;exact bA (hR st a w h hs (Ext.refl _ _) rfl)
 | seq x y ihx ihy =>
  intro ρ A st N X R r a w NP RP XP h hO hs hN hX hR
  have plain:∀{Ax Ay:An G ρ},ex n Γ D x Ax st (λst'=>ex n Γ D y Ay st' N X R) X R=some r→Obl np n Γ D x Ax st.c (λst'=>ex n Γ D y Ay st' N X R) X R→Obl np n Γ D y Ay st.c N X R→K ro P (.seq x y) NP XP RP a w:=by
   intro Ax Ay h hOx hOy;refine ae (ihx Ax st _ X R r a w _ RP XP h hOx hs (λst' a' w' h1 h2 h3 h4=>?_) hX hR);exact ihy Ay st' N X R r a' w' NP RP XP h1 (by rw[h4];exact hOy) h2 (hN.later h3 h4) (λj=>(hX j).later h3 h4) (hR.later h3 h4)
  cases A with
  |s l r'=>exact plain h hO.1 hO.2
  | c l T J r' =>
   obtain⟨o1,o0,o2,o3⟩:=hO;refine ae (ihx l st _ X R r a w _ RP XP h o1 hs (λst' a' w' h1 h2 h3 h4=>?_) hX hR);split at h1
   ·rename_i v hv
    obtain⟨k1,k2⟩:=Tm.ok (Zo hnp (Z3 o0)) hv h2;rw[h4] at k1 k2;have hx:=h3.trans k2;refine ihy r' (T.st G st.c v) N X R r a' w' NP RP XP (by rw[o2 v];exact h1) o3 k1 (hN.later hx rfl) (λj=>(hX j).later hx rfl) (hR.later hx rfl)
   ·cases h1
  |_=>exact plain h (Obl.o ..) (Obl.o ..)
 | cond cnd x y ihx ihy =>
  intro ρ A st N X R r a w NP RP XP h hO hs hN hX hR;unfold ex at h;split at h
  ·rename_i v hv
   split at h
   ·rename_i b hb
    obtain⟨⟨m,z,h0,hr,hM⟩,hdf,hsz⟩:=hs;have hs:Sat G P δ n W0 L0 T0 m0 st a w:=⟨⟨m,z,h0,hr,hM⟩,hdf,hsz⟩
    have hev:=AV.b_rel hb (bp (fc hr) hv)
    have plain:∀{Ax Ay:An G ρ},(if b=true then ex n Γ D x Ax st N X R else ex n Γ D y Ay st N X R)=some r→Obl np n Γ D x Ax st.c N X R→Obl np n Γ D y Ay st.c N X R→K ro P (.cond cnd x y) NP XP RP a w:=by
     intro Ax Ay h hOx hOy;refine wpIn_cond_split hev (λhb=>?_) (λhb=>?_)
     ·rw [if_pos hb] at h
      exact ihx Ax st N X R r a w NP RP XP h hOx hs hN hX hR
     ·rw [if_neg (by rw [hb];decide)] at h
      exact ihy Ay st N X R r a w NP RP XP h hOy hs hN hX hR
    cases A with
    |i l r'=>exact plain h hO.1 hO.2
    |_=>exact plain h (Obl.o ..) (Obl.o ..)
   ·cases h
  ·cases h
 | block id c ih =>
  intro ρ A st N X R r a w NP RP XP h hO hs hN hX hR
  have plain:∀{Ac:An G ρ},ex n Γ D c Ac st N (λj st'=>match Z7 j id with|true=>N st'|false=>X j st') R=some r→Obl np n Γ D c Ac st.c N (λj st'=>match Z7 j id with|true=>N st'|false=>X j st') R→K ro P (.block id c) NP XP RP a w:=by
   intro Ac h hOc;refine aJ (ih Ac st N _ R r a w NP RP _ h hOc hs hN (λj st' a' w' h1 h2 h3 h4=>?_) hR);split at h1
   ·rename_i hj
    have:=Z0 hj;subst this;exact⟨(j,NP),by simp[List.find?],hN st' a' w' h1 h2 h3 h4⟩
   ·rename_i hj
    obtain⟨e,q1,q2⟩:=hX j st' a' w' h1 h2 h3 h4
    have hne:Z7 id j=false:=by
     cases hb:Z7 id j with
     |false=>rfl
     |true=>
      have:=Z0 hb;subst this;simp at hj
    exact⟨e,by simp only[List.find?,hne];exact q1,q2⟩
  cases A with
  |b x=>exact plain h hO
  |_=>exact plain h (Obl.o ..)
 |scope c ih=>
  intro ρ A st N X R r a w NP RP XP h hO hs hN hX hR;cases A with
  |b x=>exact Ce (ih x st N X R r a w NP RP XP h hO hs hN hX hR)
  |_=>exact Ce (ih .o st N X R r a w NP RP XP h (Obl.o ..) hs hN hX hR)
 | loop c ih =>
  intro ρ A st N X R r a w NP RP XP h hO hs hN hX hR;cases A with
  | l T b =>
   unfold ex at h;simp only at h;split at h
   ·rename_i st1 x0 hfit
    obtain⟨e1,hk,hf⟩:=Lt.fit_ok hfit;obtain⟨hs1,hx1,hc1⟩:=ym (its:=T.its) hs;rw[←e1] at hs1 hx1 hc1;refine cH h (λs a w=>Sat G P δ n W0 L0 T0 m0 (T.st G st1 s) a w) (Lt.entry hs1 hk hf) ?_;intro s a w hI r' hfs ho';have hcs:(T.st G st1 s).c=st.c+1:=by show st1.c+1=_;rw[hc1]
    have hlow:∀{st':St G},Ext (T.st G st1 s).c (T.st G st1 s) st'→Ext st.c st (low st.c st'):=by
     intro st' hx;rw[hcs] at hx;have h2:=Lt.ext (s:=s) hk;rw[hc1] at h2;have h3:=hx1.trans (h2.trans (hx.le (Nat.le_succ _)));exact⟨h3.env,h3.blk⟩
    have hsat:∀{st':St G} {a':Act} {w':World},Sat G P δ n W0 L0 T0 m0 st' a' w'→Sat G P δ n W0 L0 T0 m0 (low st.c st') a' w':=λhs=>⟨hs.ex,hs.df,hs.sz⟩
    refine ih b (T.st G st1 s) _ _ _ r' a w _ RP XP hfs (by rw[hcs];exact hO) hI (λst' a' w' h1 h2 h3 h4=>?_) (λj st' a' w' h1 h2 h3 h4=>?_) (λst' a' w' h1 h2 h3 h4=>?_)
    ·split at h1
     ·rename_i s' hb
      injection h1 with h1
      rw[←hc1] at hb;refine⟨s',h1.symm,Lt.back_ok hk hI h2 ?_ ?_ hb⟩
      ·rw[hcs,←hc1] at h3;exact h3
      ·rw[h4,hcs,hc1]
     ·cases h1
    ·obtain ⟨o,q1,q2⟩:=map_inr h1
     have:=ho' o q2;subst this;exact hX j _ a' w' q1 (hsat h2) (hlow h3) rfl
    ·obtain ⟨o,q1,q2⟩:=map_inr h1
     have:=ho' o q2;subst this;exact hR _ a' w' q1 (hsat h2) (hlow h3) rfl
   ·cases h
  |_=>simp[ex] at h
 |rangeFunc f ps asg c _ _=>intro ρ A st N X R r a w NP RP XP h;simp[ex] at h
 |goto l=>intro ρ A st N X R r a w NP RP XP h;simp[ex] at h
 |refuse s=>intro ρ A st N X R r a w NP RP XP h;simp[ex] at h
end
set_option linter.unusedVariables false
set_option linter.unusedSimpArgs false
section
variable {G:Sg}{P:Program}
def te (G:Sg):(ps:List Pm)→d5 G ps→Nat→List (Nat×Nat×EV G)×List (Nat×BC G)×List Nat
 |[],_,_=>([],[],[])
 | .rd t::ps,x,i=>match te G ps x.2 (i+1) with|(e,L,T)=>((i,0,.one (.dat t x.1 none))::e,L,T)
 | .ap t::ps,x,i=>match te G ps x.2 (i+1) with|(e,L,T)=>((i,0,.one (.dat (.sl t) x.1 (some T.length)))::e,L,(t.kd G).sz::T)
 | .pt t::ps,x,i=>match te G ps x.2 (i+1) with|(e,L,T)=>((i,0,.one (.blk L.length))::e,(0,.dat t x.1)::L,T)
 | .ow t::ps,x,i=>match te G ps x.2 (i+1) with|(e,L,T)=>((i,0,.one (.own L.length))::e,(0,.arr t none x.1)::L,T)
 | .f1 a b::ps,x,i=>match te G ps x.2 (i+1) with|(e,L,T)=>((i,0,.one (.fn1 a b x.1))::e,L,T)
 | .f2 a c b::ps,x,i=>match te G ps x.2 (i+1) with|(e,L,T)=>((i,0,.one (.fn2 a c b x.1))::e,L,T)
def Ad (G:Sg)(ps:List Pm)(x:d5 G ps):St G:=match te G ps x 0 with|(e,L,T)=>⟨e,0,L,T⟩
def nmA:List Pm→List Value→List (Nat×List Value)→List (Nat×Value)
 | .pt _::ps,v::vs,e::Lp=>(e.1,v)::nmA ps vs Lp
 | .ow _::ps,v::vs,e::Lp=>(e.1,v)::nmA ps vs Lp
 | .rd _::ps,_::vs,Lp=>nmA ps vs Lp
 | .ap _::ps,_::vs,Lp=>nmA ps vs Lp
 | .f1 _ _::ps,_::vs,Lp=>nmA ps vs Lp
 | .f2 _ _ _::ps,_::vs,Lp=>nmA ps vs Lp
 |_,_,_=>[]
def Rm.pm:Rm→Pm
 | .rd t=> .rd t
 | .ap t=> .ap t
 | .ow t=> .ow t
def kM (G:Sg) (os:List Ty):(rs:List Rm)→d5 G (rs.map Rm.pm)→bH G os→bH G (rs.map Rm.ty++os)
 |[],_,o=>o
 | .rd t::rs,y,o=>mkT G t (rs.map Rm.ty++os) y.1 (kM G os rs y.2 o)
 | .ap t::rs,y,o=>mkT G (.sl t) (rs.map Rm.ty++os) y.1 (kM G os rs y.2 o)
 | .ow t::rs,y,o=>mkT G (.sl t) (rs.map Rm.ty++os) y.1 (kM G os rs y.2 o)
def BC.dt?:BC G→Option ((t:Ty)×t.den G)
 | .dat t x=>some ⟨t,x⟩
 |_=>none
def BC.ar?:BC G→Option ((t:Ty)×List (t.den G)×Option Nat)
 | .arr t n x=>some ⟨t,x,n⟩
 |_=>none
theorem BC.dt_eq {B:BC G}{q:(t:Ty)×t.den G}(h:B.dt?=some q):B= .dat q.1 q.2:=by
 cases B<;>simp[BC.dt?] at h;subst h;rfl
theorem BC.ar_eq {B:BC G}{q:(t:Ty)×List (t.den G)×Option Nat}(h:B.ar?=some q):B= .arr q.1 q.2.2 q.2.1:=by
 cases B<;>simp[BC.ar?] at h;subst h;rfl
def qD (G : Sg) : (ps : List Pm) → List (Nat × BC G) → Option (bH G (ps.filterMap Pm.out))
 |[],_=>some ()
 | p :: ps, Bs => match p with
  | .pt t =>(match Bs with
   |B::Bs=>(match B.2.dt? with
    |some q=>(match dM G q.1 t q.2,qD G ps Bs with|some x,some y=>some (mkT G t (ps.filterMap Pm.out) x y)|_,_=>none)
    |none=>none)
   |[]=>none)
  | .ow t =>(match Bs with
   |B::Bs=>(match B.2.ar? with
    |some q=>(match dM G (.sl q.1) (.sl t) q.2.1,qD G ps Bs with|some x,some y=>some (mkT G (.sl t) (ps.filterMap Pm.out) x y)|_,_=>none)
    |none=>none)
   |[]=>none)
  | .rd _=>qD G ps Bs
  | .ap _=>qD G ps Bs
  | .f1 _ _=>qD G ps Bs
  | .f2 _ _ _=>qD G ps Bs
def cnt (ps:List Pm):Nat:=(ps.filterMap Pm.out).length
def vV (Γ:Tab P G) (ps:List Pm) (rs:List Rm) (res:List Nat) (st:St G):Option (bH G (ib ps rs)):=
 match ir Γ (rs.map Rm.pm) (res.map Operand.tmp) (uA (rs.map Rm.pm) (res.map Operand.tmp) st) with
 |some (y,st2,_)=>(match Zv (cnt ps) st2.L.length,qD G ps (st2.L.drop (st2.L.length - cnt ps)) with
  |true,some o=>some (kM G (ps.filterMap Pm.out) rs y o)
  |_,_=>none)
 |none=>none
noncomputable def exF (n:Nat) (Γ:Tab P G) (D:List (CS P G)) (c:Code) (ps:List Pm) (rs:List Rm) (res:List Nat) (A:An G (bH G (ib ps rs))) (x:d5 G ps):Option (bH G (ib ps rs)):=
 ex n Γ D c A (Ad G ps x) (vV Γ ps rs res) (λ_ _=>none) (vV Γ ps rs res)
end
section
variable {G:Sg}{P:Program}{W0:Bse}{m:M}{z:Cz}{a:Act}{w:World}{Γ:Tab P G}
theorem y9: ∀{ps:List Pm} {vs:List Value} {x:d5 G ps} {Lp:List (Nat×List Value)} {Tp:List (Nat×Value)} {i:Nat},jZ G P m ps vs x Lp Tp→(∀j v,vs[j]? =some v→a.tmps.getD (i+j) undef=v)→
  ∃zt,j0 G P m ⟨nmA ps vs Lp,zt⟩ (te G ps x i).1 a∧LR G m (te G ps x i).2.1 (nmA ps vs Lp) Lp∧TRl (te G ps x i).2.2 zt Tp∧vs.length=ps.length∧(nmA ps vs Lp).length=cnt ps:=by
 intro ps
 induction ps with
 |nil=>
  intro vs x Lp Tp i h _;cases vs<;>cases Lp<;>cases Tp<;>first|exact h.elim|exact⟨[],λe he=>(by cases he),trivial,trivial,rfl,rfl⟩
 | cons p ps ih =>
  intro vs x Lp Tp i h ha;cases vs with
  |nil=>cases p<;>exact h.elim
  | cons v vs =>
   have hv:=ha 0 v rfl
   have ha':∀j u,vs[j]? =some u→a.tmps.getD (i+1+j) undef=u:=λj u hu=>by
    have:=ha (j+1) u (by simpa using hu);rw[show i+1+j=i+(j+1) by omega];exact this
   cases p with
   | rd t =>
    obtain⟨h1,h2⟩:=h;obtain⟨zt,k1,k2,k3,k4,k5⟩:=ih h2 ha';refine⟨zt,λe he=>?_,k2,k3,by simp[k4],k5⟩;rcases Z6.1 he with rfl|he
    ·rw [Zr] at hv
     show RV _ m (a.tmps.getD i undef) _∧True;rw[hv];exact⟨h1,trivial⟩
    ·exact k1 e he
   | ap t =>
    cases Tp with
    |nil=>exact h.elim
    | cons e Tp =>
     obtain⟨h1,rfl,h2⟩:=h;obtain⟨zt,k1,k2,k3,k4,k5⟩:=ih h2 ha';refine⟨v::zt,λe he=>?_,k2,⟨rfl,k3⟩,by simp[k4],k5⟩;rcases Z6.1 he with rfl|he
     ·rw [Zr] at hv
      show RV _ m (a.tmps.getD i undef) _∧Tag _ _ _;rw[hv];refine⟨h1,?_⟩;show fb (v::zt) _=some v;rw[←k3.len.1];exact jH
     ·exact(k1 e he).z (Zle.pushT _ v)
   | pt t =>
    cases Lp with
    |nil=>exact h.elim
    | cons e Lp =>
     obtain⟨h1,h3,h2⟩:=h;obtain⟨zt,k1,k2,k3,k4,k5⟩:=ih h2 ha';refine⟨zt,λq hq=>?_,⟨rfl,h1,k2⟩,k3,by simp[k4],by simp[nmA,k5,cnt,Pm.out]⟩;rcases Z6.1 hq with rfl|hq
     ·rw [Zr] at hv
      refine⟨(e.1,v),?_,by rw[hv];exact h3⟩;show fb ((e.1,v)::nmA ps vs Lp) _=_;rw[←k2.len.1];exact jH
     ·exact(k1 q hq).z (Zle.pushB ⟨nmA ps vs Lp,zt⟩ (e.1,v))
   | ow t =>
    cases Lp with
    |nil=>exact h.elim
    | cons e Lp =>
     obtain⟨h1,h2⟩:=h;obtain⟨zt,k1,k2,k3,k4,k5⟩:=ih h2 ha';refine⟨zt,λq hq=>?_,⟨rfl,⟨h1,trivial⟩,k2⟩,k3,by simp[k4],by simp[nmA,k5,cnt,Pm.out]⟩;rcases Z6.1 hq with rfl|hq
     ·rw [Zr] at hv
      refine⟨(e.1,v),?_,by rw[hv]⟩;show fb ((e.1,v)::nmA ps vs Lp) _=_;rw[←k2.len.1];exact jH
     ·exact(k1 q hq).z (Zle.pushB ⟨nmA ps vs Lp,zt⟩ (e.1,v))
   | f1 b c =>
    obtain⟨h1,h2⟩:=h;obtain⟨zt,k1,k2,k3,k4,k5⟩:=ih h2 ha';refine⟨zt,λe he=>?_,k2,k3,by simp[k4],k5⟩;rcases Z6.1 he with rfl|he
    ·rw [Zr] at hv
     show Fn1 P _ _ m (a.tmps.getD i undef) _;rw[hv];exact h1
    ·exact k1 e he
   | f2 b c d =>
    obtain⟨h1,h2⟩:=h;obtain⟨zt,k1,k2,k3,k4,k5⟩:=ih h2 ha';refine⟨zt,λe he=>?_,k2,k3,by simp[k4],k5⟩;rcases Z6.1 he with rfl|he
    ·rw [Zr] at hv
     show Fn2 P _ _ _ m (a.tmps.getD i undef) _;rw[hv];exact h1
    ·exact k1 e he
theorem Ew {os:List Ty}{o:bH G os}:∀{rs:List Rm} {us:List Value} {y:d5 G (rs.map Rm.pm)} {Lr:List (Nat×List Value)} {Tr:List (Nat×Value)},jZ G P m (rs.map Rm.pm) us y Lr Tr→mT G m os rs us (kM G os rs y o) Lr Tr∧rest G os rs (kM G os rs y o)=o:=by
 intro rs
 induction rs with
 |nil=>
  intro us y Lr Tr h;cases us<;>cases Lr<;>cases Tr<;>first|exact h.elim|exact⟨trivial,rfl⟩
 | cons r rs ih =>
  intro us y Lr Tr h;cases us with
  |nil=>cases r<;>exact h.elim
  | cons u us =>
   cases r with
   |rd t=>
    obtain⟨h1,h2⟩:=h;obtain⟨k1,k2⟩:=ih h2;have e1:hdT G t (rs.map Rm.ty++os) (kM G os (.rd t::rs) y o)=y.1:=y2;have e2:tlT G t (rs.map Rm.ty++os) (kM G os (.rd t::rs) y o)=kM G os rs y.2 o:=y3;exact⟨⟨e1.symm ▸ h1,e2.symm ▸ k1⟩,(congrArg (rest G os rs) e2).trans k2⟩
   | ap t =>
    cases Tr with
    |nil=>exact h.elim
    |cons e Tr=>
     obtain⟨h1,h3,h2⟩:=h;obtain⟨k1,k2⟩:=ih h2;have e1:hdT G (.sl t) (rs.map Rm.ty++os) (kM G os (.ap t::rs) y o)=y.1:=y2;have e2:tlT G (.sl t) (rs.map Rm.ty++os) (kM G os (.ap t::rs) y o)=kM G os rs y.2 o:=y3;exact⟨⟨e1.symm ▸ h1,h3,e2.symm ▸ k1⟩,(congrArg (rest G os rs) e2).trans k2⟩
   | ow t =>
    cases Lr with
    |nil=>exact h.elim
    |cons e Lr=>
     obtain⟨h1,h2⟩:=h;obtain⟨k1,k2⟩:=ih h2;have e1:hdT G (.sl t) (rs.map Rm.ty++os) (kM G os (.ow t::rs) y o)=y.1:=y2;have e2:tlT G (.sl t) (rs.map Rm.ty++os) (kM G os (.ow t::rs) y o)=kM G os rs y.2 o:=y3;exact⟨⟨e1.symm ▸ h1,e2.symm ▸ k1⟩,(congrArg (rest G os rs) e2).trans k2⟩
theorem Ex :∀ {ps : List Pm} {vs : List Value} {Bs : List (Nat × BC G)} {Lp Lp' : List (Nat × List Value)} {x : d5 G ps} {o : bH G (ps.filterMap Pm.out)} {Tp : List (Nat × Value)} {m0 : M}, jZ G P m0 ps vs x Lp Tp → qD G ps Bs = some o → Bs.length = cnt ps → LR G m Bs (nmA ps vs Lp) Lp' → iC G m ps vs o Lp Lp' := by
 intro ps
 induction ps with
 |nil=>
  intro vs Bs Lp Lp' x o Tp m0 h ho hl hL;have:Bs=[]:=Zq hl;subst this;cases vs<;>cases Lp<;>cases Tp<;>cases Lp'<;>first|exact h.elim|exact hL.elim|trivial
 | cons p ps ih =>
  intro vs Bs Lp Lp' x o Tp m0 h ho hl hL;cases vs with
  |nil=>cases p<;>exact h.elim
  | cons v vs =>
   cases p with
   | pt t =>
    cases Lp with
    |nil=>exact h.elim
    | cons e Lp =>
     obtain⟨_,_,h2⟩:=h;cases Bs with
     |nil=>simp[cnt,Pm.out] at hl
     | cons B Bs =>
      cases Lp' with
      |nil=>exact hL.elim
      | cons e' Lp' =>
       obtain⟨q1,q2,q3⟩:=hL;unfold qD at ho;dsimp only at ho;cases hq:B.2.dt? with
       |none=>simp[hq] at ho
       | some q =>
        simp only[hq] at ho;rw[BC.dt_eq hq] at q2;obtain⟨t',y⟩:=q;cases hc:dM G t' t y with
        |none=>simp[hc] at ho
        | some y' =>
         cases ho':qD G ps Bs with
         |none=>simp[hc,ho'] at ho
         |some o'=>
          simp only[hc,ho'] at ho;obtain⟨ee,hy⟩:=bY hc;subst ee;subst hy;have ho:=Option.some.inj ho;subst ho;have e1:hdT G t' (ps.filterMap Pm.out) (mkT G t' (ps.filterMap Pm.out) y o')=y:=y2;have e2:tlT G t' (ps.filterMap Pm.out) (mkT G t' (ps.filterMap Pm.out) y o')=o':=y3;exact⟨q1,e1.symm ▸ q2,e2.symm ▸ ih h2 ho' (by simpa[cnt,Pm.out] using hl) q3⟩
   | ow t =>
    cases Lp with
    |nil=>exact h.elim
    | cons e Lp =>
     obtain⟨_,h2⟩:=h;cases Bs with
     |nil=>simp[cnt,Pm.out] at hl
     | cons B Bs =>
      cases Lp' with
      |nil=>exact hL.elim
      | cons e' Lp' =>
       obtain⟨q1,q2,q3⟩:=hL;unfold qD at ho;dsimp only at ho;cases hq:B.2.ar? with
       |none=>simp[hq] at ho
       | some q =>
        simp only[hq] at ho;rw[BC.ar_eq hq] at q2;obtain⟨t',y,nn⟩:=q;cases hc:dM G (.sl t') (.sl t) y with
        |none=>simp[hc] at ho
        | some y' =>
         cases ho':qD G ps Bs with
         |none=>simp[hc,ho'] at ho
         |some o'=>
          simp only[hc,ho'] at ho;obtain⟨ee,hy⟩:=bY hc;injection ee with ee
          subst ee;subst hy;have ho:=Option.some.inj ho;subst ho;have e1:hdT G (.sl t') (ps.filterMap Pm.out) (mkT G (.sl t') (ps.filterMap Pm.out) y o')=y:=y2;have e2:tlT G (.sl t') (ps.filterMap Pm.out) (mkT G (.sl t') (ps.filterMap Pm.out) y o')=o':=y3;refine⟨q1,e1.symm ▸ ?_,e2.symm ▸ ih h2 ho' (by simpa[cnt,Pm.out] using hl) q3⟩;rw[q1];exact q2.1
   |rd t=>exact ih h.2 ho hl hL
   |ap t=>
    cases Tp with
    |nil=>exact h.elim
    |cons e Tp=>exact ih h.2.2 ho hl hL
   |f1 b c=>exact ih h.2 ho hl hL
   |f2 b c d=>exact ih h.2 ho hl hL
theorem S.between {A B C:List (Nat×List Value)}{TL:List (Nat×Value)}(h:S W0 m w (A++(B++C)) TL)(k:Nat)(hk:k≤B.length):S W0 m w (A++(B.drop k++C)) TL:=by
 refine h.selL _ (λi=>if i<A.length then i else i+k) (λi e he=>?_) (λi j hij=>?_)
 ·by_cases hi:i<A.length
  ·rw [if_pos hi]
   rw[Z4 hi] at he ⊢;exact he
  ·rw [if_neg hi]
   rw[Z1 (by omega)] at he ⊢;rw[show B.drop k++C=(B++C).drop k from(Zb hk).symm,List.getElem?_drop] at he;rw[show i+k - A.length=k+(i - A.length) by omega];exact he
 ·split at hij<;>split at hij<;>omega
theorem S.betweenT {A B C:List (Nat×Value)}{L:List (Nat×List Value)}(h:S W0 m w L (A++(B++C))):S W0 m w L (A++C):=by
 refine h.selT _ (λi=>if i<A.length then i else i+B.length) (λi e he=>?_) (λi j hij=>?_)
 ·by_cases hi:i<A.length
  ·rw [if_pos hi]
   rw[Z4 hi] at he ⊢;exact he
  ·rw [if_neg hi]
   rw[Z1 (by omega)] at he ⊢;rw[Z1 (by omega),show i+B.length - A.length - B.length=i - A.length by omega];exact he
 ·split at hij<;>split at hij<;>omega
theorem Bj {l:List (Nat×Value)} {n:Nat} (hE:Env n a l): ∀{res:List Nat},(∀t∈res,lk l t=some (a.tmps.getD t undef))→rx P a w (res.map ResultVar.tmp) (res.map fun t=>a.tmps.getD t undef)
 |[],_=> .nil
 |t::res,h=> .tmp hE (h t (by simp)) (Bj hE λu hu=>h u (by simp[hu]))
theorem GO {n:Nat} {fn:Func} {ps:List Pm} {rs:List Rm} {res:List Nat} {st:St G} {L:List (Nat×List Value)} {TL:List (Nat×Value)} {vs:List Value} {x:d5 G ps} {Lp:List (Nat×List Value)} {Tp:List (Nat×Value)} {m0:M} {r:bH G (ib ps rs)}
  (hres:fn.results.toList=res.map ResultVar.tmp) (hP:jZ G P m0 ps vs x Lp Tp) (hnl:(nmA ps vs Lp).length=cnt ps) (hs:Sat G P [] n W0 ⟨L,nmA ps vs Lp⟩ TL m0 st a w) (h:vV Γ ps rs res st=some r):
  Fin P fn (λv w'=>∃(m':M) (us:List Value) (Lr Lp':List (Nat×List Value)) (Tr:List (Nat×Value)),M.le m0 m'∧S W0 m' w' (Lr++(Lp'++L)) (Tr++TL)∧v=tup us∧mT G m' (ps.filterMap Pm.out) rs us r Lr Tr∧iC G m' ps vs (rest G (ps.filterMap Pm.out) rs r) Lp Lp') a w:=by
 obtain⟨⟨m,z,h0,hr,Lc,Tc,h1,h2,hS,hsf⟩,hdf,hsz⟩:=hs;unfold vV at h;obtain⟨m1,hm1,hF,_,_⟩:=ye (G:=G) (P:=P) (L0:=⟨L,nmA ps vs Lp⟩) (T0:=TL) (ps:=rs.map Rm.pm) (xs:=res.map Operand.tmp) (st:=st) (m:=m) (z:=z) ⟨hr,Lc,Tc,h1,h2,hS,hsf⟩;split at h
 ·rename_i y st2 bk he
  split at h
  ·rename_i o hc ho
   injection h with h
   subst h;obtain⟨z',Lr,Tr,hz,⟨_,Lc2,Tc2,k1,k2,hS2,hsf2⟩,hPR,_⟩:=yf hF he;have hlen:=k1.len;have hc:=Z3 hc;obtain⟨pre,hpre⟩:=hsf2;simp only at hpre
   have hpl:pre.length=st2.L.length - cnt ps:=by
    have:=congrArg List.length hpre;rw[Zl,hlen.1,hnl] at this;omega
   have hdz:z'.b.drop (st2.L.length - cnt ps)=nmA ps vs Lp:=by rw[hpre,←hpl,Zz]
   have kd:=k1.drop (st2.L.length - cnt ps);rw[hdz] at kd;have hO:=Ex hP ho (by simp;omega) kd;obtain⟨j1,j2⟩:=Ew (os:=ps.filterMap Pm.out) (o:=o) hPR
   have hus:(res.map Operand.tmp).map a.eval=res.map λt=>a.tmps.getD t undef:=by
    simp only[List.map_map,Function.comp_def];rfl
   obtain⟨l,hE,hl⟩:=d4 hdf hsz (res.map Operand.tmp);refine Fin.mk hE hres (Bj hE λt ht=>hl (.tmp t) (Zk ht)) ⟨m1,_,Lr,Lc2.drop (st2.L.length - cnt ps),Tr,h0.trans hm1,?_,rfl,?_,?_⟩
   ·exact(S.between hS2 _ (by omega)).betweenT
   ·rw[←hus];exact j1
   ·rw[j2];exact hO
  ·cases h
 ·cases h
theorem Ctr.of {f:FuncId} {fn:Func} {c:Code} {n:Nat} {ps:List Pm} {rs:List Rm} {res:List Nat} {D:List (CS P G)} {g:d5 G ps→Option (bH G (ib ps rs))} (A:An G (bH G (ib ps rs)))
  (hmx:P.follows .mixedOrders=true) (hf:P.funcs[f]? =some fn) (hb:fn.body=some c) (hn:fn.ntmps=n) (hle:Zv ps.length n=true) (hres:fn.results.toList=res.map ResultVar.tmp)
  (hO:Obl (cnt ps) n Γ D c A 0 (vV Γ ps rs res) (λ_ _=>none) (vV Γ ps rs res)) (h:∀x,exF n Γ D c ps rs res A x=g x):Ctr G P f ps rs g:=by
 intro W0 m w L TL vs x r Lp Tp hS hP hg;rw[←h x] at hg;have hlen:vs.length=ps.length:=(y9 (a:={ tmps:=vs.toArray,defers:=[] }) (i:=0) hP (λj v hj=>by simp[hj])).choose_spec.2.2.2.1;refine yR hf hb hn (by rw[hlen];exact Z3 hle) λa hE=>?_
 have hargs :∀ j v, vs[j]? = some v → a.tmps.getD (0 + j) undef = v := by
  intro j v hj;rw[Nat.zero_add];refine hE.at_ j v ?_
  have key:∀(l:List Value) (k:Nat) (j:Nat) (v:Value),l[j]? =some v→lk ((List.range' k l.length).zip l) (k+j)=some v:=by
   intro l
   induction l with
   |nil=>intro k j v h;simp at h
   | cons u l ih =>
    intro k j v h;simp only[Zx,List.range'_succ,List.zip_cons_cons,lk];cases j with
    |zero=>simp at h;subst h;simp
    | succ j =>
     have hb:Z7 k (k+(j+1))=false:=by
      cases hb:Z7 k (k+(j+1)) with
      |false=>rfl
      |true=>have:=Z0 hb;omega
     simp only[hb];have:=ih (k+1) j v (by simpa using h);rw[show k+1+j=k+(j+1) by omega] at this;exact this
  have:=key vs 0 j v hj;rw[List.range_eq_range'];simpa using this
 obtain⟨zt,k1,k2,k3,_,k5⟩:=y9 (a:=a) (i:=0) hP hargs;have hs:Sat G P [] n W0 ⟨L,nmA ps vs Lp⟩ TL m (Ad G ps x) a w:=⟨⟨m,⟨nmA ps vs Lp,zt⟩,Z8 m,k1,Lp,Tp,k2,k3,hS,⟨[],rfl⟩⟩,hE.defers,hE.size⟩
 refine CX (np:=cnt ps) (L0:=⟨L,nmA ps vs Lp⟩) (by rw[k5];exact Nat.le_refl _) hmx c A (Ad G ps x) _ _ _ r a w _ _ _ hg hO hs ?_ ?_ ?_
 ·intro st' a' w' h1 h2 _ _;exact GO hres hP k5 h2 h1
 ·intro j st' a' w' h1;cases h1
 ·intro st' a' w' h1 h2 _ _;exact GO hres hP k5 h2 h1
end
def za {β:Nat→Type}:List ((i:Nat)×β i)→(j:Nat)→Option (β j)
 |[],_=>none
 |⟨i,x⟩::l,j=>if h:i=j then some (h ▸ x) else za l j
def CY {β:Nat→Nat→Type}:List ((i:Nat)×(k:Nat)×β i k)→(j l:Nat)→Option (β j l)
 |[],_,_=>none
 |⟨i,k,x⟩::r,j,l=>if h:i=j then (if h':k=l then some (h ▸ h' ▸ x) else CY r j l) else CY r j l
def CZ:List (Nat×((α:Type)×Kd α))→Nat→(α:Type)×Kd α
 |[],_=>⟨Bool,cO⟩
 |(i,p)::l,j=>if Z7 i j then p else CZ l j
def QR (l:List (Nat×((α:Type)×Kd α))):Sg:=⟨λi=>(CZ l i).1,λi=>(CZ l i).2⟩
section
variable {P:Program}{G:Sg}
def oK {i:TypeId} {k:IntKind} {zv:Value} (h:P.underlying i=some (.int k)) (hs: ∀w,(sizeOf i).run P w= .ok 1 w) (ha: ∀w,(isAgg i).run P w= .ok false w) (hz: ∀w,(zeroValue i).run P w= .ok zv w) (hv:zv= .int k 0) (h0:k.wrap 0=0):TI P G i:=
 ⟨.int k,⟨hs,ha⟩,⟨h⟩,(0:Int),zv,hz,λm=>by subst hv;exact⟨rfl,h0⟩⟩
def LY {i:TypeId} {zv:Value} (h:P.underlying i=some .bool) (hs: ∀w,(sizeOf i).run P w= .ok 1 w) (ha: ∀w,(isAgg i).run P w= .ok false w) (hz: ∀w,(zeroValue i).run P w= .ok zv w) (hv:zv= .bool false):TI P G i:=
 ⟨.bool,⟨hs,ha⟩,⟨h⟩,false,zv,hz,λm=>by subst hv;exact rfl⟩
def Ft {i:TypeId} {zv:Value} (h:P.underlying i=some .string) (hs: ∀w,(sizeOf i).run P w= .ok 1 w) (ha: ∀w,(isAgg i).run P w= .ok false w) (hz: ∀w,(zeroValue i).run P w= .ok zv w) (hv:zv= .string ⟨#[]⟩):TI P G i:=
 ⟨.str,⟨hs,ha⟩,⟨h⟩,([]:List Int),zv,hz,λm=>by subst hv;exact⟨rfl,by simp,by simp⟩⟩
def uE {i:TypeId} (t:Ty) (B:SlI P G i t) {zv:Value} (hs: ∀w,(sizeOf i).run P w= .ok 1 w) (ha: ∀w,(isAgg i).run P w= .ok false w) (hz: ∀w,(zeroValue i).run P w= .ok zv w) (hv:zv= .slice none 0 0):TI P G i:=
 ⟨.sl t,⟨hs,ha⟩,B,([]:List (t.den G)),zv,hz,λm=>by subst hv;exact⟨none,0,0,rfl,rfl,Nat.le_refl _,by simp,rfl⟩⟩
end
section
variable {G:Sg}{P:Program}
def An.nc:{ρ:Type}→An G ρ→Bool
 |_,.o=>true
 |_,.s p q=>p.nc&&q.nc
 |_,.c _ _ _ _=>false
 |_,.l _ q=>q.nc
 |_,.b p=>p.nc
 |_,.i p q=>p.nc&&q.nc
theorem Obl.nc (np n:Nat)(Γ:Tab P G)(D:List (CS P G))(c:Code):∀{ρ:Type} (A:An G ρ) (d:Nat) (N:St G→Option ρ) (X:Nat→St G→Option ρ) (R:St G→Option ρ),A.nc=true→Obl np n Γ D c A d N X R:=by
 induction c with
 | seq x y hx hy =>
  intro ρ A d N X R h;cases A with
  |s l r=>
   have h:(l.nc&&r.nc)=true:=h;rw[Z5] at h;exact⟨hx l d _ X R h.1,hy r d N X R h.2⟩
  |c l T J r=>cases h
  |_=>exact trivial
 | cond c x y hx hy =>
  intro ρ A d N X R h;cases A with
  |i l r=>
   have h:(l.nc&&r.nc)=true:=h;rw[Z5] at h;exact⟨hx l d N X R h.1,hy r d N X R h.2⟩
  |_=>exact trivial
 |block id c hc=>
  intro ρ A d N X R h;cases A with
  |b a=>exact hc a d N _ R h
  |_=>exact trivial
 |scope c hc=>
  intro ρ A d N X R h;cases A with
  |b a=>exact hc a d N X R h
  |_=>exact trivial
 |loop c hc=>
  intro ρ A d N X R h;cases A with
  |l T b=>exact hc b (d+1) _ _ _ h
  |_=>exact trivial
 |_=>intro ρ A d N X R h;exact trivial
theorem Ctr.nc {Γ:Tab P G} {f:FuncId} {fn:Func} {c:Code} {n:Nat} {ps:List Pm} {rs:List Rm} {res:List Nat} {D:List (CS P G)} {g:d5 G ps→Option (bH G (ib ps rs))} (A:An G (bH G (ib ps rs)))
  (hA:A.nc=true) (hmx:P.follows .mixedOrders=true) (hf:P.funcs[f]? =some fn) (hb:fn.body=some c) (hn:fn.ntmps=n) (hle:Zv ps.length n=true) (hres:fn.results.toList=res.map ResultVar.tmp)
  (h:∀x,exF n Γ D c ps rs res A x=g x):Ctr G P f ps rs g:=
 Ctr.of A hmx hf hb hn hle hres (Obl.nc _ _ _ _ c A 0 _ _ _ hA) h
end
section
variable {P:Program}{G:Sg}
def slI {i e:TypeId} (E:TI P G e) (inf:TypeInfo) (by_:Nat) (hu:P.underlying i=some (.slice e)) (hs: ∀w,(sizeOf e).run P w= .ok (E.T.kd G).sz w) (hel:mS P e (E.T.kd G).sz by_) (hi:P.info? e=some inf) (hiz:inf.zero=some E.zv) (hsz:inf.size=(E.T.kd G).sz) (hby:inf.bytes=by_):SlI P G i E.T:=
 ⟨e,by_,E.z,E.zv,inf,hu,hs,hel,E.hz,E.hzR,hi,hiz,hsz,hby⟩
def tf {i:TypeId} {zv:Value} (ok:dy P i (G.k i)) (hz: ∀w,(zeroValue i).run P w= .ok zv w) (z:G.α i) (hzR: ∀m,(G.k i).R m zv.cells.toList z):TI P G i:=
 ⟨.st i,ok,(),z,zv,hz,hzR⟩
def arI {i e:TypeId} (E:TI P G e) (n:Nat) {zv:Value} (hu:P.underlying i=some (.array n e)) (hs: ∀w,(sizeOf e).run P w= .ok (E.T.kd G).sz w) (hz: ∀w,(zeroValue i).run P w= .ok zv w) (hzc:zv.cells=((Zy n E.zv.cells.toList).flatten).toArray) (hn:Zv n cI=true):AI P G i:=
 ⟨n,E.T,e,E.z,zv,E.zv.cells.toList,hu,hs,hz,hzc,E.hzR,hn⟩
end
end Go.Proofs.YthbonoagbeilkaaGreat.Hay
