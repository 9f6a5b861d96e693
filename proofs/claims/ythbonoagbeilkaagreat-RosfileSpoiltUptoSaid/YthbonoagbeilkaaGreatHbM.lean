import Derived.Test.YthbonoagbeilkaaGreatHbA
import Derived.Lib.Bytealg
import Derived.Laws.Externs
import Derived.Laws.Cover3
import Derived.Shelf.GgSortFunc.InsertionK
import Derived.Shelf.SlSortCmp.InsertionK
import Derived.Deep.Slices
import Derived.RangeFuncLeaves
import Derived.ChangeKeysEq
import Derived.WideKeyEntry
import Derived.DeepKeys4
namespace Go.Proofs.YthbonoagbeilkaaGreat.Hay
open Option renaming bind_some→Zp,map_some→X4,bind_eq_bind→Xa,pure_def→Xp
open List renaming getElem?_eq_some_iff→Z0,getElem?_eq_getElem→Z2,getElem?_append_right→Z4,append_assoc→Z5,mem_filter→Z6,length_take→Z7,mem_of_getElem?→Z8,map_cons→Z9,getElem?_append_left→Za,take_append_drop→Zb,getElem?_drop→Zc,mem_singleton→Zd,filter_cons→Ze,getElem?_take_of_lt→Zf,range→Zg,pairwise_append→Zh,mem_append→Zi,mem_cons→Zj,elem_iff→Zk,getElem?_cons_succ→Zo,length_append→Zq,range_succ_eq_map→Zr,drop_zero→Zt,replicate→Zu,length_cons→Zv,drop_succ_cons→Zw,map_congr_left→Zy,filterMap_cons→Zz,mem_or_eq_of_mem_set→X6,pairwise_iff_getElem→X7,mapM_cons→X9,drop_drop→Xb,getElem?_set→Xc,map_map→Xd,mem_map→Xe,getElem_cons_zero→Xf,take_of_length_le→Xg,drop_eq_nil_of_le→Xh,getElem?_eq_none→Xi,head?_drop→Xk,map_nil→Xn,take_zero→Xo,take_one→Xq
open Nat renaming le_of_ble_eq_true→Z1,eq_of_beq_eq_true→Z3,add_mul→Zl,blt→Zn,le_refl→Zx,zero_add→X5,beq→X8,add_zero→Xj,ble→Xl
open Bool renaming and_eq_true→Zm,not_eq_true'→Zs
open M.le renaming refl→Xm
open IntKind renaming i64→X3
open Go.RowKit (Below)

def JB (P:Program) (fv:Value) (vs:List Value) (w:World) (R:Value→World→Prop):Prop:=
 ∀(dst:Option Tmp) (ty:TypeId) (pos:String) (aft:Array Edge) (g:Option (Nat×Bool)) (x:Operand) (xs:Array Operand) (tys:Array TypeId) (a:Act),a.eval x=fv→xs.map a.eval=vs.toArray→bg P ⟨dst,.call ⟨.value x,xs,tys⟩,ty,pos,aft,g⟩ a w R
theorem JB.of_func {P:Program}{f:FuncId}{first cap:Array Value}{vs:List Value}{w:World}{R:Value→World→Prop}(hcall:∀vs w,(callFunc f vs).run P w= .ok (.enter f vs) w)(hc:Calls P f (first++vs.toArray++cap) w (Ret R)):JB P (.func (.func f) first cap) vs w R:=by
 intro dst ty pos aft g x xs tys a hx hxs ro Kk Q hk
 have hrun:(execOp a.eval ⟨dst,.call ⟨.value x,xs,tys⟩,ty,pos,aft,g⟩).run P w= .ok (.enter f (first++vs.toArray++cap)) w:=by
  simp[execOp,resolve,hx,Deferred.ofValue,invoke,hxs,hcall]
 refine sw hrun (hc.mono λe w' he=>?_);cases e with
 |returned v=>exact hk v w' he
 |panicked ch=>exact he.elim
 |outgrown=>exact he.elim
def Fn1 {α β:Type} (P:Program) (ka:Kd α) (kb:Kd β) (m0:M) (fv:Value) (f:α→Option β):Prop:=
 ∃(g:FuncId) (cb:Array Value),fv= .func (.func g) #[] cb∧(∀vs w,(callFunc g vs).run P w= .ok (.enter g vs) w)∧
  ∀(W0:Bse) (m:M) (w:World) (L:List (Nat×List Value)) (TL:List (Nat×Value)) (v:Value) (x:α) (r:β),M.le m0 m→S W0 m w L TL→RV ka m v x→f x=some r→Calls P g (#[v]++cb) w (Ret λv' w'=>∃m',M.le m m'∧S W0 m' w' L TL∧RV kb m' v' r)
def Fn2 {α α' β:Type} (P:Program) (ka:Kd α) (ka':Kd α') (kb:Kd β) (m0:M) (fv:Value) (f:α→α'→Option β):Prop:=
 ∃(g:FuncId) (cb:Array Value),fv= .func (.func g) #[] cb∧(∀vs w,(callFunc g vs).run P w= .ok (.enter g vs) w)∧
  ∀(W0:Bse) (m:M) (w:World) (L:List (Nat×List Value)) (TL:List (Nat×Value)) (v v':Value) (x:α) (x':α') (r:β),M.le m0 m→S W0 m w L TL→RV ka m v x→RV ka' m v' x'→f x x'=some r→Calls P g (#[v,v']++cb) w (Ret λu w'=>∃m',M.le m m'∧S W0 m' w' L TL∧RV kb m' u r)
theorem Fn1.mono {α β:Type}{P:Program}{ka:Kd α}{kb:Kd β}{m0 m1:M}{fv:Value}{f:α→Option β}(h:Fn1 P ka kb m0 fv f)(hm:M.le m0 m1):Fn1 P ka kb m1 fv f:=by
 obtain⟨g,cb,h0,h1,h⟩:=h;exact⟨g,cb,h0,h1,λW0 m w L TL v x r h1 h2 h3 h4=>h W0 m w L TL v x r (hm.trans h1) h2 h3 h4⟩
theorem Fn2.mono {α α' β:Type}{P:Program}{ka:Kd α}{ka':Kd α'}{kb:Kd β}{m0 m1:M}{fv:Value}{f:α→α'→Option β}(h:Fn2 P ka ka' kb m0 fv f)(hm:M.le m0 m1):Fn2 P ka ka' kb m1 fv f:=by
 obtain⟨g,cb,h0,h1,h⟩:=h;exact⟨g,cb,h0,h1,λW0 m w L TL v v' x x' r h1 h2 h3 h4 h5=>h W0 m w L TL v v' x x' r (hm.trans h1) h2 h3 h4 h5⟩
section
variable {δ:List Nat}{ro:Option Nat}{P:Program}{W0:Bse}{m:M}{L:List (Nat×List Value)}{TL:List (Nat×Value)}{n:Nat}{a:Act}{l:List (Nat×Value)}{w:World}{ty t t2 e:TypeId}{pos:String}{aft:Array Edge}{g:Option (Nat×Bool)}{x y:Operand}{d:Nat}{α α' β:Type}{k:Kd α}{ka:Kd α}{ka':Kd α'}{kb:Kd β}{b i:Nat}{cs:List Value}
theorem A8 {xs:Array Operand} {tys:Array TypeId} {fv v:Value} {f:α→Option β} {xx:α} {r:β} (hE:ax δ n a l) (hS:S W0 m w L TL) (hx:evl l x=some fv) (ha:s9 l xs=some [v]) (hf:Fn1 P ka kb m fv f) (hv:RV ka m v xx) (hr:f xx=some r):
  bg P ⟨some d,.call ⟨.value x,xs,tys⟩,ty,pos,aft,g⟩ a w (λv' w'=>∃m',M.le m m'∧S W0 m' w' L TL∧RV kb m' v' r):=by
 obtain⟨g,cb,rfl,h1,h⟩:=hf;exact JB.of_func h1 (by simpa using h W0 m w L TL v xx r (Xm m) hS hv hr) _ _ _ _ _ _ _ _ _ (hE.eval hx) (iX hE ha)
theorem ox {xs:Array Operand} {tys:Array TypeId} {fv v v':Value} {f:α→α'→Option β} {xx:α} {yy:α'} {r:β} (hE:ax δ n a l) (hS:S W0 m w L TL) (hx:evl l x=some fv) (ha:s9 l xs=some [v,v']) (hf:Fn2 P ka ka' kb m fv f) (hv:RV ka m v xx) (hv':RV ka' m v' yy) (hr:f xx yy=some r):
  bg P ⟨some d,.call ⟨.value x,xs,tys⟩,ty,pos,aft,g⟩ a w (λu w'=>∃m',M.le m m'∧S W0 m' w' L TL∧RV kb m' u r):=by
 obtain⟨g,cb,rfl,h1,h⟩:=hf;exact JB.of_func h1 (by simpa using h W0 m w L TL v v' xx yy r (Xm m) hS hv hv' hr) _ _ _ _ _ _ _ _ _ (hE.eval hx) (iX hE ha)
theorem S.freezeL (h:S W0 m w ((b,cs)::L) TL){xx:α}(hR:k.R m cs xx):∃m',M.le m m'∧S W0 m' w L TL∧PR k m' (.pointer (some ⟨b,0,none⟩)) xx:=by
 have h1:=h.dropL 1;simp only[Zw,Zt] at h1;have hl:=k.len hR;have hp:=k.pos;have hc:cs≠[]:=λe=>by subst e;simp at hl;omega
 obtain⟨hB,hm,t,ht⟩:=h.own 0 (b,cs) rfl hc;have hle:M.le m (m.put b cs):=M.le_put _ hm;refine⟨m.put b cs,hle,⟨h1.below,λb' r hb=>?_,λi e he hv=>?_,h1.nodup,λi e he=>?_,h1.apart⟩,b,0,rfl,?_⟩
 ·by_cases hbb:b'=b
  ·subst hbb
   rw[M.put_same] at hb;injection hb with hb;subst hb
   exact⟨_,t,_,[],ht,by simp⟩
  ·rw[M.put_other _ _ hbb] at hb;exact h1.imm b' r hb
 ·obtain ⟨q1,q2,q3⟩:=h1.own i e he hv
  have hne:=h.nodup 0 (i+1) (b,cs) e rfl (by simpa using he) (by omega) hc hv;exact⟨q1,by rw[M.put_other _ _ (λe=>hne e.symm)];exact q2,q3⟩
 ·have hT:=h1.tails i e he
  obtain⟨sz,u⟩:=e;cases u<;>try exact hT
  rename_i ad len' cap';cases ad with
  |none=>trivial
  |some ad=>
   obtain⟨hlt,hT⟩:=hT;refine⟨hlt,?_⟩;rcases hT with hf|⟨p0,p1,r,c,t',p2,p3,p4,p5⟩
   ·exact .inl hf
   ·exact .inr ⟨p0,p1,r,c,t',by rw[M.put_other _ _ (λe=>by rw[e,hm] at p2;cases p2)];exact p2,p3,p4,p5⟩
 ·have:(m.put b cs).row b 0 k.sz=cs:=by
   unfold M.row;rw[M.put_same];simp[←hl]
  rw[this];exact k.mono hle hR
def td (s u:List Int):Int:=if ltB s u then -1 else if ltB u s then 1 else 0
theorem ya:∀{s u:List Int},(∀n∈s,0≤n∧n<256)→(∀n∈u,0≤n∧n<256)→Lib.compareBytes (bts s).data.toList (bts u).data.toList=td s u:=by
 intro s u hs hu;show Lib.compareBytes (s.map (λn=>UInt8.ofNat n.toNat)) (u.map (λn=>UInt8.ofNat n.toNat))=_
 induction s generalizing u with
 |nil=>cases u<;>simp[Lib.compareBytes,td,ltB]
 | cons a x ih =>
  cases u with
  |nil=>simp[Lib.compareBytes,td,ltB]
  | cons b y =>
   have ha:=hs a (by simp);have hb:=hu b (by simp);have hih:=ih (u:=y) (λn hn=>hs n (by simp[hn])) (λn hn=>hu n (by simp[hn]));have e1:=ou ha;have e2:=ou hb
   have h1:(UInt8.ofNat a.toNat<UInt8.ofNat b.toNat)↔a<b:=by
    rw[UInt8.lt_iff_toNat_lt];omega
   have h2:(UInt8.ofNat b.toNat<UInt8.ofNat a.toNat)↔b<a:=by
    rw[UInt8.lt_iff_toNat_lt];omega
   simp only[Z9,Lib.compareBytes,h1,h2,hih];unfold td;simp only[ltB]
   by_cases c1:a<b
   ·simp[c1]
   ·by_cases c2:b<a
    ·simp[c1,c2,show ¬ a=b by omega]
    ·have:a=b:=by omega
     subst this;simp
theorem Gn {f:FuncId} {fn:Func} {xs:Array Operand} {tys:Array TypeId} {s u:List Int} (hE:ax δ n a l) (hf:P.funcs[f]? =some fn) (hname:(fn.name== "runtime.NumGoroutine")=false) (hb:fn.body.isNone=true) (hn:Extern.findNext fn=none) (he:Extern.find fn=some Extern.BytealgCompare.compare)
  (ha:s9 l xs=some [.string (bts s),.string (bts u)]) (hs:∀n∈s,0≤n∧n<256) (hu:∀n∈u,0≤n∧n<256):
  aD P ⟨some d,.call ⟨.value (.func f),xs,tys⟩,ty,pos,aft,g⟩ a w (.int .i64 (td s u)) w:=by
 have h1:=run_callFunc_extern hf hname hb hn he #[.string (bts s),.string (bts u)] w;rw[Lib.run_compareString,ya hs hu] at h1;simp[aD,execOp,resolve,Act.eval,Deferred.ofValue,invoke,iX hE ha,h1]
theorem Ie (s u:List Int):inR .i64 (td s u):=by
 unfold td;split
 ·exact aw (by decide)
 ·split<;>exact aw (by decide)
theorem yb {v:Value} {xs:List α} (hE:ax δ n a l) (hx:evl l x=some v) (hy:evl l y=some (.slice none 0 0)) (hv:RV (kSl k) m v xs) (hu:P.underlying t=some (.slice e)):
  bg P ⟨some d,.binOp .eql t x y t2,ty,pos,aft,g⟩ a w (λu w'=>w=w'∧∃c,u= .bool c∧(c=true→xs=[])):=by
 obtain⟨ad,cap,rfl,h3,h4,h5⟩:=kJ hv;have hg:(eqGuard .eql t x y (.slice ad xs.length cap) (.slice none 0 0)).run P w= .ok () w:=by simp[eqGuard]
 have hr:aD P ⟨some d,.binOp .eql t x y t2,ty,pos,aft,g⟩ a w (.bool ad.isNone) w:=by
  simp only[aD,execOp,hE.eval hx,hE.eval hy,Sem.run_bind,hg,Result.andThen_ok];simp[binOp,run_equal_slice_nil _ t e ad xs.length cap hu]
 refine hr.step ⟨rfl,_,rfl,λhc=>?_⟩;cases ad with
 |none=>simp only at h5;exact List.eq_nil_of_length_eq_zero (by omega)
 |some _=>simp at hc
end
section
variable {δ:List Nat}{ro:Option Nat}{P:Program}{ops:Array Oper}{Q:Exit→Act→World→Prop}{rest:List Oper}{a:Act}{w:World}{n:Nat}{l:List (Nat×Value)}{d:Nat}{op:Op}{ty:TypeId}{pos:String}{aft:Array Edge}{v:Value}
theorem sp (hE:ax δ n a l) (hr:aD P ⟨some d,op,ty,pos,aft,none⟩ a w v w) (hd:Zn d n=true) (k: ∀a',ax δ n a' ((d,v)::l)→wpL ro P ops Q rest a' w):wpL ro P ops Q (⟨some d,op,ty,pos,aft,none⟩::rest) a w:=
 st hE hr.pure hd λu a' w' h hE'=>by obtain⟨rfl,rfl⟩:=h;exact k a' hE'
theorem oi {α:Type}{x y:α}(h:some x=some y):x=y:=Option.some.inj h
theorem cb {b c:Bool}(h:b=c):Value.bool b=Value.bool c:=congrArg Value.bool h
theorem spg {og:Oper} {g dg:Nat} {b c:Bool} (hE:ax δ n a l) (hg:ops[g]? =some og) (ho:og.dst=some dg) (hdg:Zn dg n=true) (hl:lk l dg=some (.bool c)) (hc:c=b)
  (hr:aD P ⟨some d,op,ty,pos,aft,some (g,b)⟩ a w v w) (hd:Zn d n=true) (k:∀a',ax δ n a' ((d,v)::l)→wpL ro P ops Q rest a' w):wpL ro P ops Q (⟨some d,op,ty,pos,aft,some (g,b)⟩::rest) a w:=
 stg hE hg ho hdg hl hc hr.pure hd λu a' w' h hE'=>by obtain⟨rfl,rfl⟩:=h;exact k a' hE'
theorem ob {α β:Type}{x:Option α}{f:α→Option β}{r:β}(h:x.bind f=some r):∃y,x=some y∧f y=some r:=Option.bind_eq_some_iff.1 h
end
open Go.RowKit (Below)
open Go.Sort (grow ahead putRowK flatK HoldsK mapBlock onCells putCells)
open Go.Shelf Go.Lib

section
variable {P:Program}{W0:Bse}{m:M}{L:List (Nat×List Value)}{TL:List (Nat×Value)}{w:World}{α:Type}{k:Kd α}
theorem rA (w:World)(os:Array Obj)(b:Nat)(h:b<w.heap.size):(grow w os).heap[b]? =w.heap[b]? :=by
 show(w.heap++os)[b]? =_;rw[Array.getElem?_append_left h]
theorem S.more (h:S W0 m w L TL)(os:Array Obj):S W0 m (Go.Sort.grow w os) L TL:=by
 have hB:W0.heap.size≤w.heap.size:=h.below.size;refine⟨h.below.step ⟨⟨rfl,rfl,rfl,by simp[Go.Sort.grow],λj hj=>rA w os j (by omega)⟩,Zx _⟩ (λk o hk _=>by rw[rA w os k (Array.getElem?_eq_some_iff.1 hk).1];exact hk),λb l hb=>?_,λi e he hv=>?_,h.nodup,λi e he=>qi (λb hb=>rA w os b hb) (h.tails i e he),h.apart⟩
 ·rw[rA w os b (h.lt hb)];exact h.imm b l hb
 ·obtain ⟨h1,h2,t,h3⟩:=h.own i e he hv
  exact⟨h1,h2,t,by rw[rA w os _ (Array.getElem?_eq_some_iff.1 h3).1];exact h3⟩
theorem S.aheadN (h:S W0 m w L TL) (n:Nat):S W0 m (Go.Sort.ahead w n) L TL:=
 ⟨⟨⟨⟨h.below.os,h.below.tape,h.below.output,h.below.size,h.below.block⟩,Nat.le_trans h.below.drawn (Nat.le_add_right _ _)⟩,h.below.kept⟩,h.imm,h.own,h.nodup,λi e he=>by
  have:=h.tails i e he;revert this
  cases e with|mk s v=>cases v<;>intro h<;>exact h,h.apart⟩
theorem Cr {w w':World}(h:Bel w.heap.size w w'):∃q os',w'=grow (w.drewN q) os':=by
 refine⟨w'.drawn - w.drawn,w'.heap.extract w.heap.size w'.heap.size,?_⟩;have hd:=h.drawn;have hs:=h.size
 have hh:w'.heap=w.heap++w'.heap.extract w.heap.size w'.heap.size:=by
  apply Array.ext_getElem?
  intro i
  by_cases hi:i<w.heap.size
  ·rw[Array.getElem?_append_left hi];exact h.block i hi
  ·rw [Array.getElem?_append_right (by omega),Array.getElem?_extract]
   by_cases hi':i<w'.heap.size
   ·rw[if_pos (by omega)];congr 1;omega
   ·rw[if_neg (by omega),Array.getElem?_eq_none (by omega)]
 have h1:=h.os;have h2:=h.tape;have h3:=h.output;cases w;cases w';simp only[grow,World.drewN] at*;subst h1;subst h2;subst h3;simp only[World.mk.injEq,true_and,and_true];exact⟨hh,by omega⟩
end
abbrev El {α:Type}(k:Kd α)(m:M)(xs:List α):Type:={p:List Value×α//k.R m p.1 p.2∧p.2∈xs}
def If {α:Type} (cmp:α→α→Option Int) (xs:List α):Prop:=
 (∀x∈xs,∀y∈xs,∃c,cmp x y=some c∧inR .i64 c)∧(∀x∈xs,¬ (cmp x x).getD 0<0)∧
 (∀x∈xs,∀y∈xs,∀z∈xs,(cmp x y).getD 0<0→(cmp y z).getD 0<0→(cmp x z).getD 0<0)∧
 (∀x∈xs,∀y∈xs,∀z∈xs,¬ (cmp x y).getD 0<0→ ¬ (cmp y z).getD 0<0→ ¬ (cmp x z).getD 0<0)∧
 (∀x∈xs,∀y∈xs,¬ (cmp x y).getD 0<0→ ¬ (cmp y x).getD 0<0→x=y)
noncomputable section
open Classical in
def xg {α:Type}(cmp:α→α→Option Int)(xs:List α):Option (List α):=if If cmp xs then some ((xs.attach.mergeSort λx y=> !decide ((cmp y.1 x.1).getD 0<0)).map (·.1)) else none
end
theorem yV {α:Type}{cmp:α→α→Option Int}{xs r:List α}(h:xg cmp xs=some r):If cmp xs∧r.Perm xs∧r.Pairwise (λx y=> ¬ (cmp y x).getD 0<0):=by
 unfold xg at h;split at h
 ·rename_i hg
  injection h with h
  subst h;refine⟨hg,?_,?_⟩
  ·have:=(List.mergeSort_perm xs.attach fun x y=> !decide ((cmp y.1 x.1).getD 0<0)).map (·.1)
   have e:xs.attach.map (λx=>x.val)=xs:=by simp
   rwa[e] at this
  ·rw [List.pairwise_map]
   have h1:=List.pairwise_mergeSort (le:=λ(x y:{x//x∈xs})=> !decide ((cmp y.1 x.1).getD 0<0)) (λa b c hab hbc=>by
    simp only[Zs,decide_eq_false_iff_not] at*
    exact hg.2.2.2.1 c.1 c.2 b.1 b.2 a.1 a.2 hbc hab) (λa b=>by
    simp only[Bool.or_eq_true,Zs,decide_eq_false_iff_not]
    by_cases h:(cmp b.1 a.1).getD 0<0
    ·right;intro h'
     exact hg.2.1 a.1 a.2 (hg.2.2.1 a.1 a.2 b.1 b.2 a.1 a.2 h' h)
    ·left;exact h) xs.attach
   exact h1.imp λh=>by simpa using h
 ·cases h
section
variable {P:Program}{W0:Bse}{m:M}{L:List (Nat×List Value)}{TL:List (Nat×Value)}{w:World}{α:Type}{k:Kd α}{b:Nat}{cs:List Value}{xs:List α}
theorem E4 (h:Rl k m cs xs):∃d:List (El k m xs),d.map (λa=>a.1.2)=xs∧(d.flatMap λa=>a.1.1)=cs:=by
 have gen:∀(ys:List α) (cs:List Value),(∀y∈ys,y∈xs)→Rl k m cs ys→∃d:List (El k m xs),d.map (λa=>a.1.2)=ys∧(d.flatMap λa=>a.1.1)=cs:=by
  intro ys
  induction ys with
  |nil=>intro cs _ h;exact⟨[],rfl,by have:=h.1;simp at this;simp[this]⟩
  |cons y r ih=>
   intro cs hm h;have h0:=h.2 0 (by simp);simp only[Nat.zero_mul,Zt,Xf] at h0;have h1:=h.drop 1;simp only[Nat.one_mul,Zw,Zt] at h1;obtain⟨d,hd1,hd2⟩:=ih _ (λz hz=>hm z (by simp[hz])) h1;exact⟨⟨(cs.take k.sz,y),h0,hm y (by simp)⟩::d,by simp[hd1],by simp[hd2]⟩
 exact gen xs cs (λ_ h=>h) h
theorem Cs (d:Array (El k m xs)) [Inhabited (El k m xs)]:(flatK (λa:El k m xs=>a.1.1) k.sz d).toList=d.toList.flatMap λa=>a.1.1:=by
 have hp:=k.pos
 have hlen:(d.toList.flatMap λa=>a.1.1).length=d.size*k.sz:=by
  have:∀l:List (El k m xs),(l.flatMap λa=>a.1.1).length=l.length*k.sz:=by
   intro l
   induction l with
   |nil=>simp
   |cons a r ih=>rw[List.flatMap_cons,Zq,ih,k.len a.2.1,Zv,Zl];omega
  rw[this];simp
 have key:∀(l:List (El k m xs)) (t:Nat),t<l.length*k.sz→(l.flatMap λa=>a.1.1)[t]? =(l[t/k.sz]?).bind λa=>a.1.1[t%k.sz]? :=by
  intro l
  induction l with
  |nil=>intro t h;simp at h
  | cons a r ih =>
   intro t ht;have hl:=k.len a.2.1;rw[List.flatMap_cons]
   by_cases h:t<k.sz
   ·rw[Za (by omega),Nat.div_eq_of_lt h,Nat.mod_eq_of_lt h];rfl
   ·rw [Z4 (by omega),hl,ih _ (by simp [Zl] at ht;omega)]
    have e1:t/k.sz=(t - k.sz)/k.sz+1:=by rw[←Nat.add_div_right _ hp];congr 1;omega
    have e2:t%k.sz=(t - k.sz)%k.sz:=by rw[←Nat.mod_eq_sub_mod (by omega)]
    rw[e1,e2,Zo]
 apply List.ext_getElem
 ·rw[hlen];simp
 intro t h1 h2;have ht:t<d.size*k.sz:=by simpa using h1
 have hq:t/k.sz<d.size:=by rw[Nat.div_lt_iff_lt_mul hp];exact ht
 have h3:=key d.toList t (by simpa using ht);rw[Z2 h2] at h3;have hr:t%k.sz<d[t/k.sz].1.1.length:=by rw[k.len d[t/k.sz].2.1];exact Nat.mod_lt _ hp
 have h4:(d.toList[t/k.sz]?)=some d[t/k.sz]:=by simp[hq]
 rw[h4] at h3;simp only[Zp] at h3;rw[Z2 hr] at h3;injection h3 with h3
 rw[h3];simp only[Array.getElem_toList];simp only[flatK,Array.getElem_map,Array.getElem_range];rw[getElem!_pos d (t/k.sz) hq];exact getElem!_pos (d[t/k.sz].1.1) (t%k.sz) hr
theorem Gp {A:Type} [Inhabited A] (enc:A→List Value) (sz:Nat) (w:World) (b:Nat) (cs:List Value) (t:TypeId) (d:Array A) (hb:w.heap[b]? =some (.cells cs.toArray t (0,0))) (hl:d.size*sz≤cs.length):
  putRowK enc sz w b 0 d=w.setRow b ((flatK enc sz d).toList++cs.drop (d.size*sz)).toArray:=by
 have hlt:=(Array.getElem?_eq_some_iff.1 hb).1;have hv:=(Array.getElem?_eq_some_iff.1 hb).2;unfold putRowK Go.Sort.putRow mapBlock World.setRow;congr 1;apply Array.ext_getElem?
 intro i;rw[Array.getElem?_modify,Array.getElem?_modify]
 by_cases hi:b=i
 ·subst hi
  simp only[if_true,hb,X4,onCells];congr 2;apply Array.ext
  ·simp[putCells];omega
  ·intro j h1 h2
   simp only[putCells,Array.getElem_mapIdx];have hj:j<cs.length:=by simpa[putCells] using h1
   by_cases hjd:j<d.size*sz
   ·have hfl:j<(flatK enc sz d).size:=by simpa using hjd
    have hc1:0≤j∧j<0+(flatK enc sz d).size:=⟨Nat.zero_le _,by simpa using hjd⟩
    rw[if_pos hc1];simp only[Nat.sub_zero,id_eq,List.getElem_toArray];rw[List.getElem_append_left (by simpa using hjd),getElem!_pos _ j hfl];simp
   ·have hc1: ¬ (0≤j∧j<0+(flatK enc sz d).size):=by simp;omega
    rw[if_neg hc1];simp only[List.getElem_toArray];rw[List.getElem_append_right (by simp;omega),List.getElem_drop];congr 1;simp;omega
 ·simp[hi]
end

def m0 (w:World):M:=λb=>match w.heap[b]? with|some (.cells c _ _)=>some c.toList|_=>none
theorem J8 (w:World):S ⟨w,λ_=>none⟩ (m0 w) w [] []:=by
 refine⟨⟨Bel.refl _ _,λk o h=>by cases h⟩,λb l hb=>?_,λi e he=>by simp at he,λi j e e' he=>by simp at he,λi e he=>by simp at he,λi j e e' he=>by simp at he⟩;unfold m0 at hb;split at hb
 ·rename_i c t fr hc
  injection hb with hb
  exact⟨c,t,fr,[],hc,by simp[hb]⟩
 ·cases hb
structure E5 (H:Type) where
 b:DataW H→Nat
 ba:List (DataW H)→Nat
 str:∀s,b (.lit (.string s))=s.length+1
 one:∀d,1≤b d
 slice:∀e s,b (.slice e s)=ba e+ba s+1
 agg:∀l,b (.agg l)=ba l+1
 nil:ba []=0
 cons:∀d r,ba (d::r)=b d+ba r
def Rd (P:Program) (t:TypeId) {α:Type} (k:Kd α) (sz:α→Nat):Prop:=
 ∀{H:Type} (enc:TypeId×Value→H) (B:E5 H) (w:World) (fuel:Nat) (cs:List Value) (d:DataW H) (ps:List MemPlace),DataW.trod enc P w 0 (λ_=>true) true fuel t cs=some (d,ps)→B.b d≤1099511627776→∃x,k.R (m0 w) cs x∧sz x≤B.b d
section
variable {P:Program}{t e:TypeId}{α β:Type}{k:Kd α}{sz:α→Nat}
theorem vO {kk:IntKind}(hu:P.underlying t=some (.int kk)):Rd P t (ai kk) (λ_=>1):=by
 intro H enc B w fuel cs d ps h hb;cases fuel with
 |zero=>simp[DataW.trod] at h
 | succ fuel =>
  unfold DataW.trod at h;rw[hu] at h
  match cs,h with
  | [.int k' n], h =>
   simp only at h;split at h
   ·rename_i hk
    obtain⟨rfl,hwf⟩:=hk;injection h with h;injection h with h1 h2
    refine⟨n,⟨rfl,?_⟩,B.one _⟩;rw[l9];simpa[Lit.wf] using hwf
   ·cases h
theorem J9 (hu:P.underlying t=some .bool):Rd P t cO (λ_=>1):=by
 intro H enc B w fuel cs d ps h hb;cases fuel with
 |zero=>simp[DataW.trod] at h
 |succ fuel=>
  unfold DataW.trod at h;rw[hu] at h
  match cs,h with
  |[.bool b],h=>exact⟨b,rfl,B.one _⟩
theorem LJ (hu:P.underlying t=some .string):Rd P t qC (λs=>s.length+1):=by
 intro H enc B w fuel cs d ps h hb;cases fuel with
 |zero=>simp[DataW.trod] at h
 | succ fuel =>
  unfold DataW.trod at h;rw[hu] at h
  match cs,h with
  | [.string s], h =>
   simp only at h;split at h
   ·injection h with h;injection h with h1 h2
    subst h1;rw[B.str] at hb ⊢;refine⟨s.data.toList.map λc=>(c.toNat:Int),⟨?_,?_,?_⟩,by simp⟩
    ·congr 2
     unfold bts
     cases s with|mk data=>
     congr 1;apply Array.ext';have hc:∀c:UInt8,UInt8.ofNat ((c.toNat:Int)).toNat=c:=λc=>by simp
     simp only[Xd]
     conv=>lhs;rw[←List.map_id data.toList]
     exact Zy λc _=>(hc c).symm
    ·intro n hn
     obtain⟨c,_,rfl⟩:=Xe.1 hn;have:=c.toNat_lt;omega
    ·simp at hb ⊢;unfold cI;omega
   ·cases h
theorem vm {α β:Type} (f:α→Option β): ∀(l:List α) (r:List β),l.mapM f=some r→l.length=r.length∧ ∀i (h:i<l.length) (h':i<r.length),f l[i]=some r[i]
 |[],r,h=>by simp at h;subst h;exact⟨rfl,λi h=>by simp at h⟩
 | a :: l, r, h => by
  simp only[X9,Xa,Xp] at h;cases hx:f a with
  |none=>simp[hx] at h
  | some y =>
   cases hr:l.mapM f with
   |none=>simp[hx,hr] at h
   |some s=>
    simp[hx,hr] at h;subst h;obtain⟨h1,h2⟩:=vm f l s hr;refine⟨by simp[h1],λi hi hi'=>?_⟩;cases i with
    |zero=>simpa using hx
    |succ i=>simpa using h2 i (by simpa using hi) (by simpa using hi')
theorem QM (a:Addr)(i:Nat):(a.add i).block=a.block:=by
 unfold Addr.add;split<;>rfl
theorem QN (a:Addr)(i:Nat):(a.add i).off=a.off+i:=by
 unfold Addr.add;split<;>simp_all
theorem A9 {w:World}{a:Addr}{n:Nat}{cs:List Value}(h:w.cells? 0 a n=some cs)(hn:0<n):a.spot=none∧(m0 w).row a.block a.off n=cs:=by
 unfold World.cells? at h;rw[if_pos (Nat.zero_le _)] at h;obtain⟨h1,h2⟩:=vm _ _ _ h;simp only[List.length_range] at h1;have h3:=h2 0 (by simpa using hn) (by omega);simp only[List.getElem_range] at h3;obtain⟨b,o,sp⟩:=a;simp only[show(⟨b,o,sp⟩:Addr).add 0=⟨b,o,sp⟩ from rfl,World.cell?] at h3;cases hb:w.heap[b]? with
 |none=>rw[hb] at h3;simp at h3
 | some ob =>
  rw[hb] at h3;cases ob<;>try (simp at h3;done)
  rename_i c t fr;simp only at h3
  have hsp:sp=none:=by
   cases sp with
   |none=>rfl
   |some s=>simp at h3
  refine⟨hsp,?_⟩;subst hsp;have hm:m0 w b=some c.toList:=by simp[m0,hb]
  unfold M.row;rw[hm];apply List.ext_getElem?
  intro j;rw[List.getElem?_take,Zc]
  by_cases hj:j<n
  ·have h4:=h2 j (by simpa using hj) (by omega)
   simp only[List.getElem_range,gh,World.cell?,hb] at h4;rw[if_pos hj,Z2 (show j<cs.length by omega),←h4];simp
  ·rw[if_neg hj,Xi (by omega)]
theorem yc (hu:P.underlying t=some (.slice e))(he:P.cellsOf e=k.sz)(hr:Rd P e k sz):Rd P t (kSl k) (λxs=>(xs.map sz).sum+1):=by
 intro H enc B w fuel cs d ps h hb;have hp:=k.pos;rcases Go.Deep.open_slice hu h with⟨rfl,hx⟩|⟨a,len,cap,mm,n,D,Pl,rfl,_,hl,hm,hmm,hx,hall⟩
 ·injection hx with h1 h2;subst h1
  exact⟨[],⟨none,0,0,rfl,rfl,Zx _,by simp,rfl⟩,by simpa using B.one _⟩
 ·injection hx with h1 h2;subst h1
  simp only[if_true] at hmm;subst hmm;rw[B.slice] at hb
  have sums:∀(q:Nat) (o:Nat),(∀j,j<q→B.b (D (o+j))≤1099511627776)→o+q≤mm→∃xs:List α,xs.length=q∧(∀j (hj:j<xs.length),k.R (m0 w) ((m0 w).row a.block (a.off+(o+j)*k.sz) k.sz) xs[j])∧(xs.map sz).sum≤B.ba ((Zg q).map λj=>D (o+j)):=by
   intro q
   induction q with
   |zero=>intro o _ _;exact⟨[],rfl,λj hj=>by simp at hj,by simp⟩
   | succ q ih =>
    intro o hbd hoq;obtain⟨xs,hx1,hx2,hx3⟩:=ih (o+1) (λj hj=>by have:=hbd (j+1) (by omega);rwa[show o+(j+1)=o+1+j by omega] at this) (by omega);obtain⟨cs',hc1,hc2⟩:=hall o (by omega);rw[he] at hc1;obtain⟨_,hrow⟩:=A9 hc1 hp;obtain⟨x,hxR,hxs⟩:=hr enc B w n cs' _ _ hc2 (by have:=hbd 0 (by omega);simpa using this);refine⟨x::xs,by simp[hx1],λj hj=>?_,?_⟩
    ·cases j with
     |zero=>
      simp only[Xf,Xj];rw[QM,QN] at hrow;rw[hrow];exact hxR
     |succ j=>
      have:=hx2 j (by simpa using hj);simp only[List.getElem_cons_succ];rw[show o+(j+1)=o+1+j by omega];exact this
    ·simp only [Zr,Z9,B.cons,Xd,List.sum_cons,Xj]
     have e1:(Zg q).map ((λj=>D (o+j))∘Nat.succ)=(Zg q).map λj=>D (o+1+j):=Zy λj _=>by simp only[Function.comp];congr 1;omega
     rw[e1];omega
  have bound:∀(q:Nat) (f:Nat→DataW H) (j:Nat),j<q→B.b (f j)≤B.ba ((Zg q).map f):=by
   intro q
   induction q with
   |zero=>intro f j hj;omega
   |succ q ih=>
    intro f j hj;rw[Zr,Z9,B.cons,Xd];cases j with
    |zero=>omega
    |succ j=>have:=ih (f∘Nat.succ) j (by omega);simp only[Function.comp] at this;have h9:B.b (f (j+1))≤B.ba (List.map (f∘Nat.succ) (Zg q)):=this;omega
  have hbd:∀j,j<len→B.b (D (0+j))≤1099511627776:=λj hj=>by
   have:=bound len D j hj;rw[X5];have h0:B.ba ((Zg len).map D)≤1099511627776:=by omega
   omega
  obtain⟨xs,hx1,hx2,hx3⟩:=sums len 0 hbd (by omega)
  have hlen:xs.length≤B.ba ((Zg len).map D):=by
   have:∀(q:Nat) (f:Nat→DataW H),q≤B.ba ((Zg q).map f):=by
    intro q
    induction q with
    |zero=>intro f;omega
    |succ q ih=>
     intro f;rw[Zr,Z9,B.cons,Xd];have:=ih (f∘Nat.succ);have h1:=B.one (f 0);omega
   rw[hx1];exact this len D
  refine⟨xs,⟨some a,len,mm,rfl,hx1.symm,hl,by unfold cI;omega,λhc=>?_,λj hj=>?_⟩,?_⟩
  ·obtain ⟨cs',hc1,_⟩:=hall 0 hc
   rw[he] at hc1;have:=(A9 hc1 hp).1;have h0:a.add (0*k.sz)=a:=by unfold Addr.add;rw[if_pos (by simp)]
   rwa[h0] at this
  ·have:=hx2 j hj
   rwa[X5] at this
  ·rw [B.slice]
   have e1:(Zg len).map (λj=>D (0+j))=(Zg len).map D:=Zy λj _=>by rw[X5]
   rw[e1] at hx3;show(xs.map sz).sum+1≤_;omega
def RdF (P:Program) (fs:List Field) (off:Nat) {α:Type} (k:Kd α) (sz:α→Nat):Prop:=
 ∀{H:Type} (enc:TypeId×Value→H) (B:E5 H) (w:World) (fuel:Nat) (cs:List Value) (ds:List (DataW H×List MemPlace)),
  fs.mapM (λf=>DataW.trod enc P w 0 (λ_=>true) true fuel f.type ((cs.drop f.offset).take (P.cellsOf f.type)))=some ds→cs.length=off+k.sz→B.ba (ds.map (·.1))≤1099511627776→∃x,k.R (m0 w) (cs.drop off) x∧sz x≤B.ba (ds.map (·.1))
theorem xi {f:Field}{off:Nat}(hr:Rd P f.type k sz)(ho:f.offset=off)(hc:P.cellsOf f.type=k.sz):RdF P [f] off k sz:=by
 intro H enc B w fuel cs ds h hl hb;simp only[X9,List.mapM_nil,Xa,Xp] at h;cases hx:DataW.trod enc P w 0 (λ_=>true) true fuel f.type ((cs.drop f.offset).take (P.cellsOf f.type)) with
 |none=>rw[hx] at h;simp at h
 |some d=>
  rw[hx] at h;simp at h;subst h;obtain⟨d,ps⟩:=d;simp only[Z9,Xn,B.cons,B.nil,Xj] at hb ⊢;obtain⟨x,hxR,hxs⟩:=hr enc B w fuel _ d ps hx hb;rw[ho,hc,Xg (by simp;omega)] at hxR;exact⟨x,hxR,hxs⟩
theorem kK {γ:Type}{k':Kd γ}{sz':γ→Nat}{f:Field}{fs:List Field}{off:Nat}(hr:Rd P f.type k sz)(ho:f.offset=off)(hc:P.cellsOf f.type=k.sz)(hs:RdF P fs (off+k.sz) k' sz'):RdF P (f::fs) off (bQ k k') (λx=>sz x.1+sz' x.2):=by
 intro H enc B w fuel cs ds h hl hb;have hl':cs.length=off+k.sz+k'.sz:=by rw[hl];show off+(k.sz+k'.sz)=_;omega
 simp only[X9,Xa,Xp] at h;cases hx:DataW.trod enc P w 0 (λ_=>true) true fuel f.type ((cs.drop f.offset).take (P.cellsOf f.type)) with
 |none=>rw[hx] at h;simp at h
 | some d =>
  rw[hx] at h;simp only[Zp] at h;cases hy:fs.mapM (λf=>DataW.trod enc P w 0 (λ_=>true) true fuel f.type ((cs.drop f.offset).take (P.cellsOf f.type))) with
  |none=>rw[hy] at h;simp at h
  | some es =>
   rw[hy] at h;simp at h;subst h;obtain⟨d,ps⟩:=d;simp only[Z9,B.cons] at hb ⊢;obtain⟨x,hxR,hxs⟩:=hr enc B w fuel _ d ps hx (by omega);obtain⟨y,hyR,hys⟩:=hs enc B w fuel cs es hy hl' (by omega);rw[ho,hc] at hxR;refine⟨(x,y),⟨hxR,?_⟩,?_⟩
   ·show k'.R (m0 w) ((cs.drop off).drop k.sz) y
    rw[Xb];exact hyR
   ·show sz x+sz' y≤_
    omega
theorem sB {γ:Type}{fs:Array Field}{g:γ→α}{gi:α→γ}(hu:P.underlying t=some (.struct fs))(hc:P.cellsOf t=k.sz)(hs:RdF P fs.toList 0 k sz)(hg:∀x,g (gi x)=x):Rd P t (oH g k) (λy=>sz (g y)+1):=by
 intro H enc B w fuel cs d ps h hb;cases fuel with
 |zero=>simp[DataW.trod] at h
 | succ fuel =>
  unfold DataW.trod at h;rw[hu] at h;simp only at h;split at h
  ·rename_i hl
   cases hx:fs.toList.mapM (λf=>DataW.trod enc P w 0 (λ_=>true) true fuel f.type ((cs.drop f.offset).take (P.cellsOf f.type))) with
   |none=>rw[hx] at h;simp at h
   | some ds =>
    rw[hx] at h;simp at h;obtain⟨rfl,_⟩:=h;rw[B.agg] at hb ⊢;obtain⟨x,hxR,hxs⟩:=hs enc B w fuel cs ds hx (by rw[hl,hc];omega) (by omega);refine⟨gi x,?_,?_⟩
    ·show k.R (m0 w) cs (g (gi x))
     rw[hg];simpa using hxR
    ·show sz (g (gi x))+1≤_
     rw[hg];omega
  ·cases h
end
open Go.RowKit

def Bse.put (W0:Bse)(b:Nat)(o:Obj):Bse:={ W0 with keep:=λk=>if k=b then some o else W0.keep k }
section
variable {W0:Bse}{m:M}{w:World}{L:List (Nat×List Value)}{TL:List (Nat×Value)}
theorem Ct (w:World)(b:Nat)(o:Obj):(w.putObj b o).heap.size=w.heap.size:=by simp[World.putObj]
theorem Ig {B sz b:Nat}{v:Value}{o o':Obj}(hb:w.heap[b]? =some o)(ho:o.isCells=false)(h:s8 B m w sz v):s8 B m (w.putObj b o') sz v:=by
 cases v<;>try exact h
 rename_i a len cap;cases a with
 |none=>trivial
 | some ad =>
  obtain⟨hlt,h⟩:=h;refine⟨by rw[Ct];exact hlt,?_⟩;rcases h with h|⟨h0,h1,l,c,t,h2,h3,h4,h5⟩
  ·exact .inl h
  ·refine .inr ⟨h0,h1,l,c,t,h2,h3,?_,h5⟩
   rw[World.putObj_heap_other]
   ·exact h4
   ·intro e;rw[e,hb] at h4;injection h4 with h4;subst h4;cases ho
theorem S.putK (h:S W0 m w L TL){b:Nat}{o o':Obj}(hb:w.heap[b]? =some o)(ho:o.isCells=false)(ho':o'.isCells=false)(hB:W0.heap.size≤b):S (W0.put b o') m (w.putObj b o') L TL:=by
 have hlt:=(Array.getElem?_eq_some_iff.1 hb).1
 have hne:∀{k:Nat} {c:Array Value} {t:TypeId} {fr:Nat×Nat},w.heap[k]? =some (.cells c t fr)→(w.putObj b o').heap[k]? =some (.cells c t fr):=λ{k c t fr} hk=>by
  rw[World.putObj_heap_other]
  ·exact hk
  ·intro e;subst e;rw[hb] at hk;injection hk with hk;subst hk;cases ho
 refine⟨⟨⟨⟨h.below.os,h.below.tape,h.below.output,by rw[Ct];exact h.below.size,λk hk=>?_⟩,h.below.drawn⟩,λk x hx=>?_⟩,λc l hc=>?_,λi e he hv=>?_,h.nodup,λi e he=>Ig hb ho (h.tails i e he),h.apart⟩
 ·have hk':k<W0.heap.size:=hk
  rw[World.putObj_heap_other (by omega)];exact h.below.block k hk
 ·unfold Bse.put at hx
  simp only at hx;split at hx
  ·rename_i e;subst e;injection hx with hx;subst hx
   exact⟨World.putObj_heap_same hlt,ho'⟩
  ·rename_i e
   obtain⟨h1,h2⟩:=h.below.kept k x hx;exact⟨by rw[World.putObj_heap_other e];exact h1,h2⟩
 ·obtain ⟨c',t,fr,r,h1,h2⟩:=h.imm c l hc
  exact⟨c',t,fr,r,hne h1,h2⟩
 ·obtain ⟨h1,h2,t,h3⟩:=h.own i e he hv
  exact⟨h1,h2,t,hne h3⟩
theorem S.newK (h:S W0 m w L TL){o:Obj}(ho:o.isCells=false):S (W0.put w.heap.size o) m (w.alloc o) L TL:=by
 have hB:W0.heap.size≤w.heap.size:=h.below.size;refine⟨⟨(h.below.alloc hB o).toBel,λk x hx=>?_⟩,λc l hc=>?_,λi e he hv=>?_,h.nodup,λi e he=>qi (g9 w _) (h.tails i e he),h.apart⟩
 ·unfold Bse.put at hx
  simp only at hx;split at hx
  ·rename_i e;subst e;injection hx with hx;subst hx
   exact⟨qj w _,ho⟩
  ·obtain ⟨h1,h2⟩:=h.below.kept k x hx
   exact⟨by rw[g9 w o k (Array.getElem?_eq_some_iff.1 h1).1];exact h1,h2⟩
 ·rw[g9 w _ c (h.lt hc)];exact h.imm c l hc
 ·obtain ⟨h1,h2,t,h3⟩:=h.own i e he hv
  exact⟨h1,h2,t,by rw[g9 w _ _ (Array.getElem?_eq_some_iff.1 h3).1];exact h3⟩
theorem S.keepNone (h:S W0 m w L TL){k:Nat}(hk:w.heap.size≤k):W0.keep k=none:=by
 cases hx:W0.keep k with
 |none=>rfl
 |some x=>have:=(Array.getElem?_eq_some_iff.1 (h.below.kept k x hx).1).1;omega
theorem S.unK {b:Nat} {o:Obj} (h:S (W0.put b o) m w L TL) (hn:W0.keep b=none):S W0 m w L TL:=
 ⟨⟨h.below.toBel,λk x hx=>h.below.kept k x (by
  unfold Bse.put;simp only
  rw[if_neg (λe=>by subst e;rw[hn] at hx;cases hx)];exact hx)⟩,h.imm,h.own,h.nodup,h.tails,h.apart⟩
theorem Bse.put_put (W0:Bse)(b:Nat)(o o':Obj):(W0.put b o).put b o'=W0.put b o':=by
 unfold Bse.put;simp only[Bse.mk.injEq,true_and];funext k
 by_cases e:k=b<;>simp[e]
theorem Bse.put_same (W0:Bse)(b:Nat)(o:Obj):(W0.put b o).keep b=some o:=by simp[Bse.put]
theorem Bse.put_other (W0:Bse){b k:Nat}(o:Obj)(h:k≠b):(W0.put b o).keep k=W0.keep k:=by simp[Bse.put,h]
end
def fT {σ α:Type} (step:σ→α→Option (σ×Bool)):σ→List α→Option (σ×Bool)
 |s,[]=>some (s,true)
 |s,x::xs=>(step s x).bind λr=>if r.2 then fT step r.1 xs else some (r.1,false)
abbrev Mem:=List (Nat×List Value)
abbrev Tls:=List (Nat×Value)
def Cu {σ α:Type} (P:Program) (Rv:M→List Value→α→Prop) (B:σ→Bse) (y:Value) (I:M→σ→Mem→Tls→Prop) (step:σ→α→Option (σ×Bool)):Prop:=
 ∀(m:M) (w:World) (L:Mem) (TL:Tls) (s:σ) (Ls:Mem) (TLs:Tls) (vs:List Value) (x:α) (s':σ) (b:Bool),I m s Ls TLs→S (B s) m w (Ls++L) (TLs++TL)→Rv m vs x→step s x=some (s',b)→
  JB P y vs w (λr w'=>r= .bool b∧∃m' Ls' TLs',M.le m m'∧I m' s' Ls' TLs'∧S (B s') m' w' (Ls'++L) (TLs'++TL))
def B4 {α:Type} (P:Program) (Rv:M→List Value→α→Prop) (gf:FuncId) (lb:Array Value) (mi:M) (xs:List α):Prop:=
 ∀(σ:Type) (I:M→σ→Mem→Tls→Prop) (step:σ→α→Option (σ×Bool)) (B:σ→Bse) (y:Value) (m:M) (w:World) (L:Mem) (TL:Tls) (s:σ) (Ls:Mem) (TLs:Tls) (r:σ×Bool),
  (∀m m' s a b,M.le m m'→I m s a b→I m' s a b)→M.le mi m→Cu P Rv B y I step→I m s Ls TLs→S (B s) m w (Ls++L) (TLs++TL)→fT step s xs=some r→
  Calls P gf (#[y]++lb) w (Ret λ_ w'=>∃m' Ls' TLs',M.le m m'∧I m' r.1 Ls' TLs'∧S (B r.1) m' w' (Ls'++L) (TLs'++TL))
theorem Ba {δ:List Nat} {n:Nat} {a:Act} {l:List (Nat×Value)} (hE:ax δ n a l): ∀(ps:List Tmp) (vs:List Value) (t:Array Value) (l:List (Nat×Value)),ps.length=vs.length→(∀p∈ps,p<n)→ax [] n { tmps:=t,defers:=[] } l→
  ax [] n { tmps:=(ps.zip vs).foldl (λt (p,v)=>t.setIfInBounds p v) t,defers:=[] } ((ps.zip vs).reverse++l)
 |[],[],t,l,_,_,h=>h
 |[],_::_,_,_,h,_,_=>by simp at h
 |_::_,[],_,_,h,_,_=>by simp at h
 | p :: ps, v :: vs, t, l, hl, hp, h => by
  have h1:ax [] n { tmps:=t.setIfInBounds p v,defers:=[] } ((p,v)::l):=by
   have:=h.put (d:=p) (Nat.ble_eq_true_of_le (hp p (by simp))) v;exact this
  have:=Ba hE ps vs (t.setIfInBounds p v) ((p,v)::l) (by simpa using hl) (λq hq=>hp q (by simp[hq])) h1;simpa using this
section
variable {δ:List Nat}{P:Program}{W0:Bse}{m:M}{L:Mem}{TL:Tls}{n:Nat}{a:Act}{l:List (Nat×Value)}{w:World}{N Rt:Act→World→Prop}{X:List (Nat×(Act→World→Prop))}
abbrev sC {σ:Type}(W2:Bse)(I:M→σ→Mem→Tls→Prop)(L':Mem)(TL':Tls)(m:M)(s':σ)(w':World):Prop:= ∃m' Ls' TLs',M.le m m'∧I m' s' Ls' TLs'∧S W2 m' w' (Ls'++L') (TLs'++TL')
theorem LK {σ α:Type} {Rv:M→List Value→α→Prop} {g:Operand} {ps:Array Tmp} {assign body:Code} {gf:FuncId} {lb:Array Value} {mi:M} {xs:List α} (step:σ→α→Option (σ×Bool)) (jc:σ→Code) (ids:List Nat)
  (I:M→σ→Mem→Tls→Prop) {s0:σ} {Ls:Mem} {TLs:Tls} {sf:σ} {bf:Bool}
  (hE:ax δ n a l) (hS:S W0 m w (Ls++L) (TLs++TL)) (hg:evl l g=some (.func (.func gf) #[] lb)) (hcall:∀vs w,(callFunc gf vs).run P w= .ok (.enter gf vs) w) (hit:B4 P Rv gf lb mi xs) (hmi:M.le mi m)
  (hps:∀p∈ps.toList,p<n) (hRv:∀m vs x,Rv m vs x→vs.length=ps.size)
  (mono:∀m m' s a b,M.le m m'→I m s a b→I m' s a b) (h0:I m s0 Ls TLs) (hfold:fT step s0 xs=some (sf,bf))
  (round: ∀(lid:Nat) (W1 W2:Bse) (m:M) (w:World) (L':Mem) (TL':Tls) (s:σ) (Ls:Mem) (TLs:Tls) (vs:List Value) (x:α) (s':σ) (b:Bool) (a0:Act) (orr ob:Obj),I m s Ls TLs→S W1 m w (Ls++L') (TLs++TL')→Rv m vs x→step s x=some (s',b)→
   ax [] n a0 ((ps.toList.zip vs).reverse++l)→(∀m w L TL,S W1 m w L TL→w.heap[lid]? =some orr∧S W2 m (w.putObj lid ob) L TL)→
   K (some lid) P assign (λa1 w1=>w1.heap[lid]? =some orr∧K (some lid) P body (λ_ w'=>b=true∧sC W2 I L' TL' m s' w') (ids.map λid=>(id,λ_ w'=>b=false∧jc s'= .exit id∧sC W2 I L' TL' m s' w')) (λ_ w'=>b=false∧jc s'= .ret∧sC W2 I L' TL' m s' w') a1 (w1.putObj lid ob)) [] (λ_ _=>False) a0 w)
  (done: ∀(D:Nat) (m':M) (w':World) (a':Act) (Ls':Mem) (TLs':Tls),M.le m m'→ax (D::δ) n a' l→I m' sf Ls' TLs'→S (W0.put D (.deferred (some []))) m' w' (Ls'++L) (TLs'++TL)→W0.keep D=none→W0.heap.size≤D→
   if bf=true then N a' w' else K none P (jc sf) N X Rt a' w'):
  K none P (.rangeFunc g ps assign body) N X Rt a w:=by
 refine wpIn_rangeFunc ?_;intro fn _;obtain⟨D,hD⟩:∃D,D=w.heap.size:=⟨_,rfl⟩
 obtain⟨lid,hlid⟩:∃lid,lid=w.heap.size+1:=⟨_,rfl⟩
 obtain⟨rec,hrec⟩:∃rec:LoopState→Option Code→Loop,rec=λst pe=>{ state:=st,pending:=pe,fn,tmps:=a.tmps,params:=ps,assign,body,defers:=D }:=⟨_,rfl⟩
 -- the bases: the mark's block, the loop's record
 obtain⟨WD,hWD⟩:∃WD:Bse,WD=W0.put D (.deferred (some [])):=⟨_,rfl⟩
 have hkD:W0.keep D=none:=hS.keepNone (by omega);have hS1:S WD m (w.alloc (.deferred (some []))) (Ls++L) (TLs++TL):=by rw[hWD,hD];exact hS.newK rfl
 have hkl:WD.keep lid=none:=hS1.keepNone (by simp[World.size_alloc];omega)
 have hS2:S (WD.put lid (.loop (rec .ready none))) m ((w.alloc (.deferred (some []))).alloc (.loop (rec .ready none))) (Ls++L) (TLs++TL):=by
  have:=hS1.newK (o:= .loop (rec .ready none)) rfl;rwa[show(w.alloc (.deferred (some []))).heap.size=lid by simp[World.size_alloc];omega] at this
 have hBl:W0.heap.size≤lid:=by have:W0.heap.size≤w.heap.size:=hS.below.size;omega
 have hBW:∀o,(WD.put lid o).heap.size≤lid:=λo=>by rw[hWD];exact hBl
 obtain⟨wl,hwl⟩:∃wl,wl=(w.alloc (.deferred (some []))).alloc (.loop (rec .ready none)):=⟨_,rfl⟩
 rw[←hwl] at hS2
 -- the iterator's call
 let B:σ×Option Code→Bse:=λs=>WD.put lid (.loop (rec (if s.2.isNone then .ready else .done) s.2))
 let step':σ×Option Code→α→Option ((σ×Option Code)×Bool):=λs x=>if s.2.isNone then (step s.1 x).map λr=>((r.1,if r.2 then none else some (jc r.1)),r.2) else none
 have hf':∀(xs:List α) (s:σ) r,fT step s xs=some r→fT step' (s,none) xs=some ((r.1,if r.2 then none else some (jc r.1)),r.2):=by
  intro xs
  induction xs with
  |nil=>intro s r h;simp only[fT] at h ⊢;injection h with h;subst h;simp
  | cons x xs ih =>
   intro s r h;simp only[fT] at h ⊢;simp only[step',Option.isNone_none,if_true];cases hx:step s x with
   |none=>rw[hx] at h;simp at h
   |some q=>
    rw[hx] at h;obtain⟨s',b⟩:=q;simp only[Zp,X4] at h ⊢;cases b with
    |true=>simp only[if_true] at h ⊢;exact ih s' r h
    |false=>simp only[Bool.false_eq_true,if_false] at h ⊢;injection h with h;subst h;simp
 have hyield : Cu P Rv B (.func (.yield lid) #[] #[]) (λm s => I m s.1) step' := by
  intro m1 w1 L1 TL1 s Ls1 TLs1 vs x s' b hI1 hS3 hx hst;obtain⟨s,p⟩:=s;simp only[step'] at hst;cases p with
  |some c=>simp at hst
  |none=>
  simp only[Option.isNone_none,if_true] at hst;cases hstep:step s x with
  |none=>rw[hstep] at hst;simp at hst
  |some q=>
  rw[hstep] at hst;obtain⟨s1,b1⟩:=q;simp only[X4,Option.some.injEq,Prod.mk.injEq] at hst;obtain⟨rfl,rfl⟩:=hst;intro dst ty pos aft gd xo xso tys ac hxo hxs ro Kk Q hk;have hl:w1.heap[lid]? =some (.loop (rec .ready none)):=(hS3.below.kept lid _ (Bse.put_same _ _ _)).1;have hy:=run_yield (P:=P) (args:=vs.toArray) hl (by rw[hrec];simpa using hRv _ _ _ hx)
  have hrun:(execOp ac.eval ⟨dst,.call ⟨.value xo,xso,tys⟩,ty,pos,aft,gd⟩).run P w1= .ok (.round lid fn ((ps.zip vs.toArray).foldl (λtmps (t,a)=>tmps.setIfInBounds t a) a.tmps) assign body) w1:=by
   have h2:(execOp ac.eval ⟨dst,.call ⟨.value xo,xso,tys⟩,ty,pos,aft,gd⟩).run P w1=(Instr.yield lid vs.toArray).run P w1:=by
    simp[execOp,resolve,hxo,Deferred.ofValue,invoke,hxs]
   rw[h2,hy,hrec]
  refine⟨λ_ _=>trivial,?_⟩;show Oper.uponIn _ _ _ _ _ _ _ ((Oper.semAt ro ac.eval _).run P w1);rw[pU hrun (λd=>by simp)];refine⟨λh=>(by cases h),roundIn_of_wpIn trivial ?_⟩
  have htmps:(ps.zip vs.toArray).foldl (λtmps (t,a)=>tmps.setIfInBounds t a) a.tmps=(ps.toList.zip vs).foldl (λt (p,v)=>t.setIfInBounds p v) a.tmps:=by
   rw[←Array.foldl_toList,Array.toList_zip]
  rw[htmps];have hE0:ax [] n { tmps:=a.tmps,defers:=[] } l:=⟨rfl,hE.size,hE.at_⟩
  have hEr:=Ba hE ps.toList vs a.tmps l (by have:=hRv _ _ _ hx;simpa using this.symm) hps hE0;obtain⟨bz,hbz⟩:∃bz:Loop,bz={ rec .ready none with state:= .busy }:=⟨_,rfl⟩
  have hturn:∀m w L TL,S (B (s,none)) m w L TL→w.heap[lid]? =some (.loop (rec .ready none))∧S (WD.put lid (.loop bz)) m (w.putObj lid (.loop bz)) L TL:=λm w L TL h=>by
   have:=h.putK (o':= .loop bz) (h.below.kept lid _ (Bse.put_same _ _ _)).1 rfl rfl (hBW _);rw[Bse.put_put] at this;exact⟨(h.below.kept lid _ (Bse.put_same _ _ _)).1,this⟩
  have hr:=round lid (B (s,none)) (WD.put lid (.loop bz)) m1 w1 L1 TL1 s Ls1 TLs1 vs x s1 b1 _ (.loop (rec .ready none)) (.loop bz) hI1 hS3 hx hstep hEr hturn;have hready:rec .ready none={ rec .ready none with state:= .ready }:=by rw[hrec]
  -- a round's end
  have fin:∀(jump:Option Code) (w3:World),jump.isNone=b1→(b1=false→jump=some (jc s1))→sC (WD.put lid (.loop bz)) I L1 TL1 m1 s1 w3→∃v w4,(Instr.endRound lid jump).run P w3= .ok v w4∧Kk (ac.put dst v) w4:=by
   rintro jump w3 hj hj2 ⟨m',Ls',TLs',h1,h2,h3⟩;have hb3:=(h3.below.kept lid _ (Bse.put_same _ _ _)).1;refine⟨_,_,run_endRound jump hb3,hk _ _ ⟨by rw[hj],m',Ls',TLs',h1,h2,?_⟩⟩;have h4:=h3.putK (o':= .loop { bz with state:=if jump.isNone then .ready else .done,pending:=jump }) hb3 rfl rfl (hBW _);rw[Bse.put_put] at h4
   have e:(.loop { bz with state:=if jump.isNone then .ready else .done,pending:=jump }:Obj)= .loop (rec (if (if b1 then (none:Option Code) else some (jc s1)).isNone then .ready else .done) (if b1 then none else some (jc s1))):=by
    rw[hbz,hrec];cases b1 with
    |true=>
     have:jump=none:=by simpa using hj
     subst this;rfl
    |false=>
     have:=hj2 rfl;subst this;rfl
   revert h4;rw[e];exact λh4=>h4
  refine wpIn_mono hr λe a1 w1' q=>?_;cases e with
  | normal =>
   obtain⟨hl1,hb1⟩:=q;refine⟨_,run_beginRound hl1 (by rw[hrec]),?_⟩;rw[←hbz];refine wpIn_mono hb1 λe a2 w2 q2=>?_;cases e with
   |normal=>
    obtain⟨hb,hp⟩:=q2;exact fin none w2 (by rw[hb];rfl) (λh=>by rw[hb] at h;cases h) hp
   |ret=>
    obtain⟨hb,hj,hp⟩:=q2;exact fin (some .ret) w2 (by rw[hb];rfl) (λ_=>by rw[hj]) hp
   | exit id =>
    have key:b1=false∧jc s1= .exit id∧sC (WD.put lid (.loop bz)) I L1 TL1 m1 s1 w2:=by
     simp only[mkQ] at q2;split at q2
     ·rename_i e he
      have h1:=List.find?_some he;obtain⟨id',_,rfl⟩:=Xe.1 (List.mem_of_find?_eq_some he);have:=Z3 h1;subst this;exact q2
     ·exact q2.elim
    obtain⟨hb,hj,hp⟩:=key;exact fin (some (.exit id)) w2 (by rw[hb];rfl) (λ_=>by rw[hj]) hp
   |goto t=>exact q2.elim
   |panic ch=>exact q2.elim
   |outgrown=>exact q2.elim
  |ret=>exact q.elim
  |exit id=>simp[mkQ] at q
  |goto t=>exact q.elim
  |panic ch=>exact q.elim
  |outgrown=>exact q.elim
 have hc:=hit (σ×Option Code) (λm s=>I m s.1) step' B (.func (.yield lid) #[] #[]) m wl L TL (s0,none) Ls TLs _ (λm m' s a b hm h=>mono m m' s.1 a b hm h) hmi hyield h0 hS2 (hf' xs s0 _ hfold);refine⟨lid,[{ target:= .collected D,args:= #[] }],wl,{ target:= .fn (.func gf) lb,args:= #[.func (.yield lid) #[] #[]] },wl,gf,#[.func (.yield lid) #[] #[]]++lb,wl,?_,?_,λ_ _=>trivial,?_,λh=>(by cases h),?_⟩
 ·show (Instr.enterLoop fn a.tmps ps assign body none).run P w=_
  rw[run_enterLoop_outer,hwl,hlid,hD,hrec,hD]
 ·simp only [resolve,hE.eval hg]
  simp[go_sem]
 ·simp[invoke,go_sem,hcall]
 ·refine Cd (hc.mono fun e w' he=> ?_)
  cases e with
  |panicked ch=>exact he.elim
  |outgrown=>exact he.elim
  | returned v =>
   obtain⟨m',Ls',TLs',h1,h2,h3⟩:=he;have hb3:=(h3.below.kept lid _ (Bse.put_same _ _ _)).1
   have hst:(rec (if (if bf then (none:Option Code) else some (jc sf)).isNone then LoopState.ready else .done) (if bf then none else some (jc sf))).state≠ .busy:=by
    rw[hrec];cases bf<;>simp
   have hend:=run_endLoop (P:=P) hb3 hst;refine⟨_,_,hend,?_⟩;have h4:=h3.putK (o':= .loop { (rec (if (if bf then (none:Option Code) else some (jc sf)).isNone then LoopState.ready else .done) (if bf then none else some (jc sf))) with state:= .exhausted }) hb3 rfl rfl (hBW _);rw[Bse.put_put] at h4;have h5:=h4.unK hkl;rw[hWD] at h5;have hE':ax (D::δ) n { a with defers:=[{ target:= .collected D,args:= #[] }]++a.defers } l:=⟨by simp[hE.defers],hE.size,hE.at_⟩
   have hd:=done D m' _ _ Ls' TLs' h1 hE' h2 h5 hkD (by have:W0.heap.size≤w.heap.size:=hS.below.size;omega);have hp:(rec (if (if bf then (none:Option Code) else some (jc sf)).isNone then LoopState.ready else .done) (if bf then none else some (jc sf))).pending=if bf then none else some (jc sf):=by rw[hrec]
   clear hend;generalize (w'.putObj lid (.loop { (rec (if (if bf then (none:Option Code) else some (jc sf)).isNone then LoopState.ready else .done) (if bf then none else some (jc sf))) with state:= .exhausted }))=wx at hd ⊢;rw[hp];cases bf with
   |true=>simp only[if_true] at hd ⊢;exact hd
   |false=>simp only[Bool.false_eq_true,if_false] at hd ⊢;exact hd
end
open Go.RowKit

def Ih:List Nat→World→World→Prop
 |[],w,w'=>w'=w
 |D::δ,w,w'=>w.heap[D]? =some (.deferred (some []))∧Ih δ (w.putObj D (.deferred none)) w'
def Cv (P:Program) (fn:Func) (R:Value→World→Prop) (a:Act) (w:World):Prop:=
 ∃δ w',a.defers=(δ.map λD=>{ target:= .collected D,args:= #[] })∧Ih δ w w'∧Fin P fn R { a with defers:=[] } w'
section
variable {P:Program}{fn:Func}{R:Value→World→Prop}{a:Act}{w:World}{δ:List Nat}{n:Nat}{l:List (Nat×Value)}{W0:Bse}{m:M}{L:Mem}{TL:Tls}{D:Nat}
theorem Cv.nil (hE:Env n a l)(h:Fin P fn R a w):Cv P fn R a w:=by
 refine⟨[],w,by simp[hE.defers],rfl,?_⟩
 have:({ a with defers:=[] }:Act)=a:=by
  have:=hE.defers;cases a;simp at this;simp[this]
 rw[this];exact h
theorem Cv.shut (hE:ax (D::δ) n a l) (hS:S (W0.put D (.deferred (some []))) m w L TL) (hk:W0.keep D=none) (hB:W0.heap.size≤D)
  (k:∀a w,S W0 m w L TL→ax δ n a l→Cv P fn R a w):Cv P fn R a w:=by
 have hD:=(hS.below.kept D _ (Bse.put_same _ _ _)).1
 have hS3:S W0 m (w.putObj D (.deferred none)) L TL:=by
  have:=hS.putK (o':= .deferred none) hD rfl rfl hB;rw[Bse.put_put] at this;exact this.unK hk
 obtain⟨δ',w',h1,h2,h3⟩:=k { a with defers:=δ.map λD=>{ target:= .collected D,args:= #[] } } _ hS3 ⟨rfl,hE.size,hE.at_⟩;refine⟨D::δ,w',hE.defers,⟨hD,?_⟩,h3⟩
 have:δ'=δ:=by
  have h1:δ.map (λD=>({ target:= .collected D,args:= #[] }:Deferred))=δ'.map λD=>{ target:= .collected D,args:= #[] }:=h1;clear hE k h2 h3
  induction δ generalizing δ' with
  |nil=>cases δ' with
   |nil=>rfl
   |cons=>simp at h1
  | cons x δ ih =>
   cases δ' with
   |nil=>simp at h1
   |cons y δ'=>
    simp only[Z9,List.cons.injEq,Deferred.mk.injEq,and_true] at h1;obtain⟨h1,h2⟩:=h1;injection h1 with h1
    rw[h1,ih _ (by assumption) h2]
 rw[←this];exact h2
theorem Gq {f:FuncId} {c:Code} {args:List Value} (hf:P.funcs[f]? =some fn) (hb:fn.body=some c) (hn:fn.ntmps=n) (hle:args.length≤n)
  (h:∀a,Env n a ((Zg args.length).zip args)→K none P c (Cv P fn R) [] (Cv P fn R) a w):
  Calls P f args.toArray w (Ret R):=by
 refine Gb (n:=0) (callsIn_of_wp_marks hf hb trivial (wpIn_mono (h _ ?_) λe a w q=>?_))
 ·exact Cg hn hle
 ·have key:∀(δ:List Nat) (w w':World),Ih δ w w'→Fin P fn R { a with defers:=[] } w'→LeavesInM (Fr none) 0 P fn a.tmps (Ret R) (δ.map λD=>{ target:= .collected D,args:= #[] }) .returning w:=by
   intro δ
   induction δ with
   |nil=>
    intro w w' h h3;obtain rfl:w'=w:=h;obtain⟨vs,h1,_,h2⟩:=h3;exact⟨vs,h1,h2⟩
   |cons D δ ih=>
    intro w w' ⟨h,h'⟩ h3;exact⟨by simp,.inl ⟨D,_,rfl,run_takeDeferred h,ih _ _ h' h3⟩⟩
  cases e with
  |normal=>obtain⟨δ,w',h1,h2,h3⟩:=q;show LeavesInM _ _ _ _ _ _ a.defers _ _;rw[h1];exact key δ w w' h2 h3
  |ret=>obtain⟨δ,w',h1,h2,h3⟩:=q;show LeavesInM _ _ _ _ _ _ a.defers _ _;rw[h1];exact key δ w w' h2 h3
  |exit id=>simp[mkQ] at q
  |goto t=>exact q.elim
  |panic ch=>exact q.elim
  |outgrown=>exact q.elim
def ItV {α:Type} (P:Program) (Rv:M→List Value→α→Prop) (m:M) (v:Value) (xs:List α):Prop:=
 ∃gf lb,v= .func (.func gf) #[] lb∧(∀vs w,(callFunc gf vs).run P w= .ok (.enter gf vs) w)∧B4 P Rv gf lb m xs
theorem ItV.mono {α:Type}{Rv:M→List Value→α→Prop}{m m':M}{v:Value}{xs:List α}(h:ItV P Rv m v xs)(hm:M.le m m'):ItV P Rv m' v xs:=by
 obtain⟨gf,lb,h1,h2,h3⟩:=h;exact⟨gf,lb,h1,h2,λσ I step B y m w L TL s Ls TLs r mono hle=>h3 σ I step B y m w L TL s Ls TLs r mono (hm.trans hle)⟩
def Rv1 {α:Type}(k:Kd α):M→List Value→α→Prop:=λm vs x=>∃v,vs=[v]∧RV k m v x
end
theorem Ei {α:Type}{k:Kd α}{m:M}{vs:List Value}{x:α}(h:Rv1 k m vs x):vs.length=1:=by obtain⟨_,rfl,_⟩:=h;rfl
section
variable {δ:List Nat}{P:Program}{W0:Bse}{m:M}{L:Mem}{TL:Tls}{n:Nat}{a:Act}{l:List (Nat×Value)}{w:World}{N Rt:Act→World→Prop}{X:List (Nat×(Act→World→Prop))}
theorem Ej {σ α:Type} {Rv:M→List Value→α→Prop} {g:Operand} {ps:Array Tmp} {assign body:Code} {v:Value} {xs:List α} (step:σ→α→Option (σ×Bool)) (jc:σ→Code) (ids:List Nat)
  (I:M→σ→Mem→Tls→Prop) {s0:σ} {Ls:Mem} {TLs:Tls} {sf:σ} {bf:Bool}
  (hE:ax δ n a l) (hS:S W0 m w (Ls++L) (TLs++TL)) (hg:evl l g=some v) (hv:ItV P Rv m v xs)
  (hps:∀p∈ps.toList,p<n) (hRv:∀m vs x,Rv m vs x→vs.length=ps.size)
  (mono:∀m m' s a b,M.le m m'→I m s a b→I m' s a b) (h0:I m s0 Ls TLs) (hfold:fT step s0 xs=some (sf,bf))
  (round: ∀(lid:Nat) (W1 W2:Bse) (m:M) (w:World) (L':Mem) (TL':Tls) (s:σ) (Ls:Mem) (TLs:Tls) (vs:List Value) (x:α) (s':σ) (b:Bool) (a0:Act) (orr ob:Obj),I m s Ls TLs→S W1 m w (Ls++L') (TLs++TL')→Rv m vs x→step s x=some (s',b)→
   ax [] n a0 ((ps.toList.zip vs).reverse++l)→(∀m w L TL,S W1 m w L TL→w.heap[lid]? =some orr∧S W2 m (w.putObj lid ob) L TL)→
   K (some lid) P assign (λa1 w1=>w1.heap[lid]? =some orr∧K (some lid) P body (λ_ w'=>b=true∧sC W2 I L' TL' m s' w') (ids.map λid=>(id,λ_ w'=>b=false∧jc s'= .exit id∧sC W2 I L' TL' m s' w')) (λ_ w'=>b=false∧jc s'= .ret∧sC W2 I L' TL' m s' w') a1 (w1.putObj lid ob)) [] (λ_ _=>False) a0 w)
  (done: ∀(D:Nat) (m':M) (w':World) (a':Act) (Ls':Mem) (TLs':Tls),M.le m m'→ax (D::δ) n a' l→I m' sf Ls' TLs'→S (W0.put D (.deferred (some []))) m' w' (Ls'++L) (TLs'++TL)→W0.keep D=none→W0.heap.size≤D→
   if bf=true then N a' w' else K none P (jc sf) N X Rt a' w'):
  K none P (.rangeFunc g ps assign body) N X Rt a w:=by
 obtain⟨gf,lb,rfl,hcall,hit⟩:=hv;exact LK step jc ids I hE hS hg hcall hit (Xm m) hps hRv mono h0 hfold round done
end
def zY {σ α:Type} (step:σ→α→Option (σ×Bool)) (xs:List α) (t:Int×σ):Option ((Int×σ)⊕(σ×Bool)):=
 if decide (t.1<(xs.length:Int)) then (idx xs t.1).bind λx=>(step t.2 x).bind λr=>if r.2 then some (.inl (X3.wrap (t.1+1),r.1)) else some (.inr (r.1,false)) else some (.inr (t.2,true))
theorem E6 {σ α:Type}{step:σ→α→Option (σ×Bool)}{xs:List α}{s:σ}{r:σ×Bool}(hl:xs.length≤cI)(h:fT step s xs=some r):au (zY step xs) (0,s)=some r:=by
 have key :∀ (ys : List α) (i : Nat) (s : σ), xs.drop i = ys → fT step s ys = some r → au (zY step xs) ((i : Int), s) = some r := by
  intro ys
  induction ys with
  |nil=>
   intro i s hd hf;simp only[fT] at hf;injection hf with hf
   have:xs.length≤i:=by simpa using hd
   rw[aZ (b:=r)];unfold zY;rw[if_neg (by simp;omega),hf]
  | cons y ys ih =>
   intro i s hd hf;simp only[fT] at hf
   have hlt:i<xs.length:=by
    apply Classical.byContradiction;intro hc;rw[Xh (by omega)] at hd;cases hd
   have hy:xs[i]? =some y:=by
    have:=congrArg (·[0]?) hd;simpa using this
   have hix:idx xs (i:Int)=some y:=by
    have e:xs[i]=y:=by simpa[hlt] using hy
    simp[idx,hlt,e]
   have hd':xs.drop (i+1)=ys:=by
    rw[←Xb,hd];rfl
   cases hs:step s y with
   |none=>rw[hs] at hf;cases hf
   | some q =>
    rw[hs] at hf;simp only[Zp] at hf
    have hw:X3.wrap ((i:Int)+1)=((i+1:Nat):Int):=by
     rw[show(i:Int)+1=((i+1:Nat):Int) from rfl];exact dK (n:=i+1) (by omega)
    by_cases hq:q.2=true
    ·rw [if_pos hq] at hf
     rw[bL (s':=(((i+1:Nat):Int),q.1))]
     ·exact ih (i+1) _ hd' hf
     ·unfold zY
      rw[if_pos (by simpa using hlt)];simp only[hix,Zp,hs];rw[if_pos hq,hw]
    ·rw [if_neg hq] at hf
     injection hf with hf
     refine aZ ?_;unfold zY;rw[if_pos (by simpa using hlt)];simp only[hix,Zp,hs];rw[if_neg hq,hf]
 exact key xs 0 s (by simp) h
open Go.RowKit
theorem Bb {α:Type}{k:Kd α}{m:M}{v:Value}{xs:List α}(h:RV (kSl k) m v xs):(kSl k).R m [v] xs:=by
 obtain⟨cs,hR,rfl⟩:=h;have h0:=hR;obtain⟨a,len,cap,rfl,h⟩:=h0;exact hR
section
variable {δ:List Nat}{ro:Option Nat}{P:Program}{W0:Bse}{m:M}{L:List (Nat×List Value)}{TL:List (Nat×Value)}{n:Nat}{a:Act}{l:List (Nat×Value)}{w:World}{ty t t2 e:TypeId}{pos:String}{aft:Array Edge}{g:Option (Nat×Bool)}{x y:Operand}{d:Nat}{α:Type}{k:Kd α}
theorem Bc {i b:Nat} {v:Value} {xx:List α} (hE:ax δ n a l) (hS:S W0 m w L TL) (hT:dy P t (kSl k)) (hx:evl l x=some (.pointer (some ⟨b,0,none⟩))) (hL:L[i]? =some (b,[v])) (hv:RV (kSl k) m v xx):
  aD P ⟨some d,.load t x,ty,pos,aft,g⟩ a w v w:=by
 have hR:=Bb hv;have hA:At w b 0 (([v].drop 0).take (kSl k).sz):=hS.atL hL (by simp[kSl]) (by simp[kSl]);have e:(([v].drop 0).take (kSl k).sz)=[v]:=rfl;rw[e] at hA;have:(kSl k).val [v]=v:=rfl;have hr:=ja hT hR hA;rw[this] at hr;simp[aD,execOp,Instr.loadAt,hE.eval hx,Instr.sureAddr,hr]
theorem E7 {i b:Nat} {v v0:Value} {yy:List α} (hE:ax δ n a l) (hS:S W0 m w L TL) (hT:dy P t (kSl k)) (hx:evl l x=some (.pointer (some ⟨b,0,none⟩))) (hy:evl l y=some v) (hv:RV (kSl k) m v yy) (hL:L[i]? =some (b,[v0])):
  bg P ⟨none,.store t x y,ty,pos,aft,g⟩ a w (λ_ w'=>S W0 m w' (L.set i (b,[v])) TL):=by
 have hR:=Bb hv;obtain⟨hB,hm,t',ht⟩:=hS.own i _ hL (by simp);have hrun:=eP (P:=P) [v] b 0 0 [v0] t' w ht (by simp) ((kSl k).one hR)
 have hr:uq P ⟨none,.store t x y,ty,pos,aft,g⟩ a w (w.setRow b [v].toArray):=by
  have hsz:=hT.size w;have hc:v.cells= #[v]:=by have:=k.pos;have:=(kSl k).val_cells hR;exact this
  simp only[uq,execOp,hE.eval hx,hE.eval hy,Instr.storeAt,Instr.sureAddr,Sem.run_bind,Sem.run_pure,Result.andThen_ok,storeVar,hc,hsz];have h2:(storeCells { block:=b,off:=0 } [v]).run P w= .ok () (w.setRow b #[v]):=by simpa using hrun
  simp[kSl,h2]
 exact hr.step (hS.setL hL (by simp) _)
end
set_option linter.unusedVariables false
set_option linter.unusedSimpArgs false
set_option maxRecDepth 100000
section
variable {P:Program}{W0:Bse}{m:M}{w:World}{L:List (Nat×List Value)}{TL:List (Nat×Value)}{α:Type}{k:Kd α}
end
section
variable {δ:List Nat}{P:Program}{W0:Bse}{m:M}{w:World}{L:List (Nat×List Value)}{TL:List (Nat×Value)}{α:Type}{k:Kd α}{n d:Nat}{a:Act}{l:List (Nat×Value)}{x y:Operand}{t t2 e ty:TypeId}{pos:String}{aft:Array Edge}{g:Option (Nat×Bool)}{by_:Nat}
theorem Gr {v:Value} {xs:List α} {xh xm:Operand} {kh km:IntKind} (hE:ax δ n a l) (hx:evl l x=some v) (hu:P.underlying t=some (.slice e)) (hs: ∀w,(sizeOf e).run P w= .ok k.sz w) (hv:RV (kSl k) m v xs)
  (hh:evl l xh=some (.int kh (xs.length:Int))) (hm:evl l xm=some (.int km (xs.length:Int))):
  bg P ⟨some d,.slice t x none (some xh) (some xm),ty,pos,aft,g⟩ a w (λv w'=>w=w'∧RV (kSl k) m v xs):=by
 obtain⟨ad,cap,rfl,h3,h4,h5⟩:=kJ hv
 have key:(Instr.sliceBounds true xs.length cap none (some (.int kh (xs.length:Int))) (some (.int km (xs.length:Int)))).run P w= .ok (0,xs.length,xs.length) w:=by
  simp[Instr.sliceBounds,Instr.sliceBound,asIntOf,h3]
 have hr:aD P ⟨some d,.slice t x none (some xh) (some xm),ty,pos,aft,g⟩ a w (.slice (if xs.length=0 then ad else ad.map (·.add (0*k.sz))) (xs.length - 0) (xs.length - 0)) w:=by
  simp[aD,execOp,Instr.sliceAt,run_underlying hu,Instr.slice,hE.eval hx,hE.eval hh,hE.eval hm,key,hs]
 refine hr.step ⟨rfl,?_⟩
 by_cases hc:xs.length=0
 ·rw [if_pos hc]
  refine gj (by simp) h4 ?_;cases ad with
  |none=>simp[hc]
  |some ad=>exact⟨λh=>by omega,λi hi=>by omega⟩
 ·rw [if_neg hc]
  refine gj (by simp) h4 ?_;cases ad with
  |none=>simp only at h5;omega
  |some ad=>
   obtain⟨b,o,sp⟩:=ad;obtain⟨hsp,hR⟩:=h5;replace hsp:=hsp (by omega);simp only at hsp;subst hsp;simp only[X4,gh];exact⟨λ_=>trivial,λi hi'=>by simpa using hR i hi'⟩
end
set_option linter.unusedVariables false
set_option linter.unusedSimpArgs false
def kPt {α:Type} (d:Kd α):Kd (Option α):={
 sz:=1
 agg:=false
 R:=λm cs x=>match x with|none=>cs=[.pointer none]|some y=>∃b o,cs=[.pointer (some ⟨b,o,none⟩)]∧d.R m (m.row b o d.sz) y
 mono:=λ{m m' cs x} hm h=>by
  cases x with
  |none=>exact h
  |some y=>
   obtain⟨b,o,h1,h2⟩:=h;refine⟨b,o,h1,?_⟩;rw[M.row_mono hm (d.len h2) d.pos];exact d.mono hm h2
 len:=λ{m cs x} h=>by
  cases x with
  |none=>simp[show cs=_ from h]
  |some y=>obtain⟨b,o,h1,h2⟩:=h;simp[h1]
 one:=λ{m cs x} h=>by
  cases x with
  |none=>simp[show cs=_ from h,Value.oneCell']
  |some y=>obtain⟨b,o,h1,h2⟩:=h;simp[h1,Value.oneCell']
 pos:=by decide
 flat:=λ_=>rfl
 }
section
variable {δ:List Nat}{P:Program}{W0:Bse}{m:M}{w:World}{L:List (Nat×List Value)}{TL:List (Nat×Value)}{α:Type}{k:Kd α}{n d:Nat}{a:Act}{l:List (Nat×Value)}{x y:Operand}{t t2 e ty:TypeId}{pos:String}{aft:Array Edge}{g:Option (Nat×Bool)}
theorem sD {v:Value}{p:α}(h:PR k m v p):RV (kPt k) m v (some p):=by
 obtain⟨b,o,rfl,h⟩:=h;exact⟨[_],⟨b,o,rfl,h⟩,rfl⟩
theorem vP:RV (kPt k) m (.pointer none) none:=⟨[_],rfl,rfl⟩
theorem Cw {v:Value}{p:Option α}(h:RV (kPt k) m v p):∃q:Option Addr,v= .pointer q∧q.isNone=p.isNone∧∀y,p=some y→PR k m v y:=by
 obtain⟨cs,hR,rfl⟩:=h;cases p with
 |none=>obtain rfl:cs=_:=hR;exact⟨none,rfl,rfl,λ_ h=>nomatch h⟩
 |some y=>
  obtain⟨b,o,rfl,h2⟩:=hR;exact⟨some _,rfl,rfl,λz hz=>by cases hz;exact⟨b,o,rfl,h2⟩⟩
theorem qR {v:Value}{p:Option α}{q:α}(hv:RV (kPt k) m v p)(hq:p=some q):PR k m v q:=by
 obtain⟨_,_,_,h⟩:=Cw hv;exact h q hq
theorem qm {v:Value}{p:Option α}{q:α}(hE:ax δ n a l)(hx:evl l x=some v)(hv:RV (kPt k) m v p)(hq:p=some q):aD P ⟨some d,.nilCheck x,ty,pos,aft,g⟩ a w v w:=by
 obtain⟨b,o,rfl,h2⟩:=qR hv hq;exact ci hE hx
theorem Gs {v:Value} {p:Option α} (hE:ax δ n a l) (hx:evl l x=some v) (hy:evl l y=some (.pointer none)) (hu:P.underlying t=some (.pointer e)) (hv:RV (kPt k) m v p):
  aD P ⟨some d,.binOp .eql t x y t2,ty,pos,aft,g⟩ a w (.bool p.isNone) w:=by
 obtain⟨o,rfl,h1,_⟩:=Cw hv;have hp:P.underlying t=some (.pointer (P.pointee t)):=by simp[Program.pointee,hu]
 have hg:(eqGuard .eql t x y (.pointer o) (.pointer none)).run P w= .ok () w:=by simp[eqGuard]
 rw[←h1];simp only[aD,execOp,hE.eval hx,hE.eval hy,Sem.run_bind,hg,Result.andThen_ok,run_eql_pointer_nil w t o hp,Sem.run_pure]
theorem E8 {v:Value} {xs ys:List α} {xl xh xm:Operand} {kl kh km:IntKind} {lo hi:Int} (hE:ax δ n a l) (hx:evl l x=some v) (hu:P.underlying t=some (.slice e)) (hs: ∀w,(sizeOf e).run P w= .ok k.sz w) (hv:RV (kSl k) m v xs)
  (hl:evl l xl=some (.int kl lo)) (hh:evl l xh=some (.int kh hi)) (hm:evl l xm=some (.int km hi)) (hsub:sub xs lo hi=some ys):
  bg P ⟨some d,.slice t x (some xl) (some xh) (some xm),ty,pos,aft,g⟩ a w (λv w'=>w=w'∧RV (kSl k) m v ys):=by
 obtain⟨h0,h1,h2,hy⟩:=ur hsub;obtain⟨ad,cap,rfl,h3,h4,h5⟩:=kJ hv
 have key:(Instr.sliceBounds true xs.length cap (some (.int kl lo)) (some (.int kh hi)) (some (.int km hi))).run P w= .ok (lo.toNat,hi.toNat,hi.toNat) w:=by
  have q1:hi≤(cap:Int):=by omega
  have q2:lo≤((hi.toNat:Nat):Int):=by omega
  have q3:0≤hi:=by omega
  have q4: ¬ hi<0:=by omega
  have q5: ¬ lo<0:=by omega
  have q6:((hi.toNat:Nat):Int)=hi:=by omega
  simp[Instr.sliceBounds,Instr.sliceBound,asIntOf,h0,q1,q2,q3,q4,q5,q6,h1]
 have hr:aD P ⟨some d,.slice t x (some xl) (some xh) (some xm),ty,pos,aft,g⟩ a w (.slice (if hi.toNat=lo.toNat then ad else ad.map (·.add (lo.toNat*k.sz))) (hi.toNat - lo.toNat) (hi.toNat - lo.toNat)) w:=by
  simp[aD,execOp,Instr.sliceAt,run_underlying hu,Instr.slice,hE.eval hx,hE.eval hl,hE.eval hh,hE.eval hm,key,hs]
 refine hr.step ⟨rfl,?_⟩;have hlen:ys.length=hi.toNat - lo.toNat:=by rw[hy];simp;omega
 rw[←hlen]
 by_cases hc:hi.toNat=lo.toNat
 ·rw [if_pos hc]
  refine gj (Zx _) (by omega) ?_;cases ad with
  |none=>simp only;omega
  |some ad=>exact⟨λh=>by omega,λi hi=>by omega⟩
 ·rw [if_neg hc]
  refine gj (Zx _) (by omega) ?_;cases ad with
  |none=>simp only at h5;omega
  |some ad=>
   obtain⟨b,o,sp⟩:=ad;obtain⟨hsp,hR⟩:=h5;replace hsp:=hsp (by omega);simp only at hsp;subst hsp;simp only[X4,gh];refine⟨λ_=>trivial,λi hi'=>?_⟩;have hR':=hR (lo.toNat+i) (by omega);have e1:ys[i]=xs[lo.toNat+i]'(by omega):=by subst hy;simp
   rw[e1,show o+lo.toNat*k.sz+i*k.sz=o+(lo.toNat+i)*k.sz by rw[Zl];omega];exact hR'
def kA4:Kd (Int×Int×Int×Int):=bQ (ai .u8) (bQ (ai .u8) (bQ (ai .u8) (ai .u8)))
def LL:List Int→Option (Int×Int×Int×Int)
 |a::b::c::d::_=>some (a,b,c,d)
 |_=>none
theorem Cx {cs:List Value}{p:Int×Int×Int×Int}(h:kA4.R m cs p):cs=[.int .u8 p.1,.int .u8 p.2.1,.int .u8 p.2.2.1,.int .u8 p.2.2.2]:=by
 obtain⟨h1,h2,h3,h4⟩:=h;rw[←Zb 1 cs,show cs.take 1=_ from h1.1,←Zb 1 (cs.drop 1),show(cs.drop 1).take 1=_ from h2.1,←Zb 1 ((cs.drop 1).drop 1),show((cs.drop 1).drop 1).take 1=_ from h3.1,show((cs.drop 1).drop 1).drop 1=_ from h4.1]
 rfl
theorem Ka {v:Value} {xs:List Int} {p:Int×Int×Int×Int} (hE:ax δ n a l) (hx:evl l x=some v) (hu:P.underlying t=some (.array 4 e)) (hv:RV (kSl (ai .u8)) m v xs) (hp:LL xs=some p):
  bg P ⟨some d,.sliceToArrayPointer t x,ty,pos,aft,g⟩ a w (λv w'=>w=w'∧PR kA4 m v p):=by
 match xs,hv,hp with
 | q0 :: q1 :: q2 :: q3 :: r, hv, hp =>
  injection hp with hp
  subst hp;obtain⟨ad,cap,rfl,h3,h4,h5⟩:=kJ hv;simp only[Zv] at h3 h4 h5;cases ad with
  |none=>simp only at h5;omega
  | some ad =>
   obtain⟨b,o,sp⟩:=ad;obtain⟨hsp,hR⟩:=h5;replace hsp:=hsp (by omega);simp only at hsp;subst hsp
   have hr:aD P ⟨some d,.sliceToArrayPointer t x,ty,pos,aft,g⟩ a w (.pointer (some ⟨b,o,none⟩)) w:=by
    have hlt: ¬ (r.length+1+1+1+1<4):=by omega
    simp[aD,execOp,hE.eval hx,Instr.arrayAt,run_underlying hu,hlt]
   have hl:Rl (ai .u8) m (m.row b o (4*1)) [q0,q1,q2,q3]:=A3 (d:=ai .u8) (xs:=[q0,q1,q2,q3]) (λi hi=>by
    have hR':=hR i (by simp only[Zv,List.length_nil] at hi ⊢;omega)
    match i,hi,hR' with
    |0,_,h=>exact h
    |1,_,h=>exact h
    |2,_,h=>exact h
    |3,_,h=>exact h
    |i+4,hi,_=>simp only[Zv,List.length_nil] at hi;omega)
   refine hr.step ⟨rfl,b,o,rfl,?_⟩;have e0:=hl.2 0 (by simp);have e1:=hl.2 1 (by simp);have e2:=hl.2 2 (by simp);have e3:=hl.2 3 (by simp);have hlen:=hl.1;show kA4.R m (m.row b o (4*1)) (q0,q1,q2,q3);generalize m.row b o (4*1)=cs at*
   match cs,hlen,e0,e1,e2,e3 with
   |[c0,c1,c2,c3],_,e0,e1,e2,e3=>exact⟨e0,e1,e2,e3⟩
theorem QO {i:TypeInfo}(hu:P.underlying t=some (.array 4 e))(hi:P.info? e=some i)(hc:P.cellsOf e=1)(he:P.underlying e=some (.int .u8))(ha:∀w,(isAgg e).run P w= .ok false w)(hG:P.eqGuardType P.depth t=false):vJ P t kA4:=by
 refine⟨λm cs ds p q d w hx hy=>?_,λop o o' cs ds w=>?_⟩
 ·rw [Cx hx,Cx hy]
  show(Op.equalIn (d+20) t (.agg #[.int .u8 p.1,.int .u8 p.2.1,.int .u8 p.2.2.1,.int .u8 p.2.2.2]) (.agg #[.int .u8 q.1,.int .u8 q.2.1,.int .u8 q.2.2.1,.int .u8 q.2.2.2])).run _ _=_;rw[run_equalIn_array w (d+19) _ _ hu hi,hc]
  have ee:p=q↔p.1=q.1∧p.2.1=q.2.1∧p.2.2.1=q.2.2.1∧p.2.2.2=q.2.2.2:=by
   obtain⟨p1,p2,p3,p4⟩:=p;obtain⟨q1,q2,q3,q4⟩:=q;simp
  rw[show Zg 4=[0,1,2,3] from rfl]
  have hp:∀(cs:Array Value) (j:Nat) (v:Value) (w:World),cs[j]? =some v→(part e cs (j*1)).run P w= .ok v w:=λcs j v w h=>by
   simp[part,ha,h]
  have he':=λ(w:World) (a b:Int)=>run_equalIn_int w (d+18) e .u8 .u8 a b he;have hn:(Op.eqItems (d+19) e 1 #[.int .u8 p.1,.int .u8 p.2.1,.int .u8 p.2.2.1,.int .u8 p.2.2.2] #[.int .u8 q.1,.int .u8 q.2.1,.int .u8 q.2.2.1,.int .u8 q.2.2.2] []).run P w= .ok true w:=rfl
  have step: ∀(j:Nat) (is:List Nat) (a b:Int) (r:Bool),(#[Value.int .u8 p.1,.int .u8 p.2.1,.int .u8 p.2.2.1,.int .u8 p.2.2.2]:Array Value)[j]? =some (.int .u8 a)→(#[Value.int .u8 q.1,.int .u8 q.2.1,.int .u8 q.2.2.1,.int .u8 q.2.2.2]:Array Value)[j]? =some (.int .u8 b)→
    (Op.eqItems (d+19) e 1 #[.int .u8 p.1,.int .u8 p.2.1,.int .u8 p.2.2.1,.int .u8 p.2.2.2] #[.int .u8 q.1,.int .u8 q.2.1,.int .u8 q.2.2.1,.int .u8 q.2.2.2] is).run P w= .ok r w→
    (Op.eqItems (d+19) e 1 #[.int .u8 p.1,.int .u8 p.2.1,.int .u8 p.2.2.1,.int .u8 p.2.2.2] #[.int .u8 q.1,.int .u8 q.2.1,.int .u8 q.2.2.1,.int .u8 q.2.2.2] (j::is)).run P w= .ok (a==b&&r) w:=by
   intro j is a b r h1 h2 h3;simp only[Op.eqItems,Sem.run_bind,hp _ _ _ _ h1,hp _ _ _ _ h2,Result.andThen_ok,he'];cases hab:(a==b) with
   |true=>simpa using h3
   |false=>simp
  rw[step 0 _ _ _ _ rfl rfl (step 1 _ _ _ _ rfl rfl (step 2 _ _ _ _ rfl rfl (step 3 _ _ _ _ rfl rfl hn)))];congr 1;rw[Bool.eq_iff_iff];simp[ee]
 ·show (eqGuard op t o o' (.agg _) (.agg _)).run _ _=_
  cases op<;>simp[eqGuard,hG]
theorem Gt {ps:Array (Nat×Operand)} {a0 a1 a2 a3:Int} (hE:ax δ n a l) (hp:prt l ps=some [(0,.int .u8 a0),(1,.int .u8 a1),(2,.int .u8 a2),(3,.int .u8 a3)]) (hu:P.underlying t=some (.array 4 e)) (hs: ∀w,(sizeOf e).run P w= .ok 1 w)
  (hz:∀w,(zeroValue t).run P w= .ok (.agg #[.int .u8 0,.int .u8 0,.int .u8 0,.int .u8 0]) w) (h0:inR .u8 a0) (h1:inR .u8 a1) (h2:inR .u8 a2) (h3:inR .u8 a3):
  bg P ⟨some d,.build t ps,ty,pos,aft,g⟩ a w (λv w'=>w=w'∧RV kA4 m v (a0,a1,a2,a3)):=by
 have hpv:(ps.map λp=>(p.1,a.eval p.2)).toList=_:=pq hE hp
 have hr:aD P ⟨some d,.build t ps,ty,pos,aft,g⟩ a w (.agg #[.int .u8 a0,.int .u8 a1,.int .u8 a2,.int .u8 a3]) w:=by
  have hrun:(Instr.build t (ps.map λp=>(p.1,a.eval p.2))).run P w= .ok (.agg #[.int .u8 a0,.int .u8 a1,.int .u8 a2,.int .u8 a3]) w:=by
   simp only[Instr.build,Sem.run_bind,hz,Result.andThen_ok,run_underlying hu,hs,hpv]
   rfl
  simp only[aD,execOp,hrun,Sem.run_bind,Sem.run_pure,Result.andThen_ok]
 exact hr.step ⟨rfl,_,⟨⟨rfl,h0⟩,⟨rfl,h1⟩,⟨rfl,h2⟩,⟨rfl,h3⟩⟩,rfl⟩
theorem sE (hE:ax δ n a l) (hS:S W0 m w L TL) (hT:dy P t k) {i b o:Nat} {cs:List Value} {v:Value} {xx:α} (hx:evl l x=some (.pointer (some ⟨b,o,none⟩))) (hy:evl l y=some v) (hv:RV k m v xx) (hL:L[i]? =some (b,cs)) (hb:o+k.sz≤cs.length):
  bg P ⟨none,.store t x y,ty,pos,aft,g⟩ a w (λ_ w'=>∃vs,k.R m vs xx∧v=k.val vs∧S W0 m w' (L.set i (b,cs.take o++vs++cs.drop (o+k.sz))) TL):=by
 obtain⟨vs,hR,rfl⟩:=hv;have hl:=k.len hR;have hne:cs≠[]:=λe=>by have:=k.pos;subst e;simp at hb;omega
 obtain⟨hB,hm,t',ht⟩:=hS.own i _ hL hne;have hrun:=eP (P:=P) vs b o 0 cs t' w ht (by omega) (k.one hR)
 have hr:uq P ⟨none,.store t x y,ty,pos,aft,g⟩ a w (w.setRow b (cs.take o++vs++cs.drop (o+k.sz)).toArray):=by
  simp only[Xj,hl] at hrun;have hsz:=hT.size w;simp only[uq,execOp,hE.eval hx,hE.eval hy,Instr.storeAt,Instr.sureAddr,Sem.run_bind,Sem.run_pure,Result.andThen_ok,storeVar,k.val_cells hR,hsz];simp[hl,hrun]
 exact hr.step ⟨vs,hR,rfl,hS.setL hL hne _⟩
section
variable {β:Type}{kT:Kd α}{k':Kd β}{cs:List Value}{v:Value}
theorem B5 {o:Nat}{xx:List α}(hR:(kSl k).R m ((cs.drop o).take (kSl k).sz) xx)(hc:cs[o]? =some v):RV (kSl k) m v xx:=by
 have e:(cs.drop o).take (kSl k).sz=[v]:=by
  show(cs.drop o).take 1=[v]
  rw[Xq,Xk,hc];rfl
 rw[e] at hR;exact⟨_,hR,rfl⟩
theorem uy {i b o:Nat} {xx:List α} (hE:ax δ n a l) (hS:S W0 m w L TL) (hT:dy P t (kSl k)) (hx:evl l x=some (.pointer (some ⟨b,o,none⟩))) (hL:L[i]? =some (b,cs)) (hR:(kSl k).R m ((cs.drop o).take (kSl k).sz) xx) (hc:cs[o]? =some v):
  aD P ⟨some d,.load t x,ty,pos,aft,g⟩ a w v w:=by
 have hA:At w b o ((cs.drop o).take (kSl k).sz):=hS.atL hL (by rw[(kSl k).len hR]) (by rw[(kSl k).len hR];exact(kSl k).pos);have hr:=ja hT hR hA
 have e:(cs.drop o).take (kSl k).sz=[v]:=by
  show(cs.drop o).take 1=[v]
  rw[Xq,Xk,hc];rfl
 rw[e] at hr;have hv:(kSl k).val [v]=v:=rfl;rw[hv] at hr;simp[aD,execOp,Instr.loadAt,hE.eval hx,Instr.sureAddr,hr]
theorem E9 {off:Nat} {s:α→List β→α} {i b:Nat} {xx:α} {yy:List β} (hE:ax δ n a l) (hS:S W0 m w L TL) (hT:dy P t (kSl k')) (hf:StF kT (kSl k') off s) (hx:evl l x=some (.pointer (some ⟨b,off,none⟩))) (hy:evl l y=some v) (hv:RV (kSl k') m v yy) (hL:L[i]? =some (b,cs)) (hR:kT.R m cs xx):
  bg P ⟨none,.store t x y,ty,pos,aft,g⟩ a w (λ_ w'=>∃cs',kT.R m cs' (s xx yy)∧cs'[off]? =some v∧S W0 m w' (L.set i (b,cs')) TL):=
 (sE hE hS hT hx hy hv hL (by rw[kT.len hR];exact hf.1)).imp λ_ _ ⟨vs,h1,h0,h2⟩=>⟨_,hf.2 m cs vs xx yy hR h1,by
  have hl:=(kSl k').len h1
  match vs,hl,h0 with
  |[c],_,h0=>
   have h0:v=c:=h0;subst h0;have h1:=hf.1;rw[←kT.len hR] at h1;have h1:off+1≤cs.length:=h1;rw[Z5,Z4 (by simp only[Z7];omega),show off - (cs.take off).length=0 by simp only[Z7];omega]
   rfl,h2⟩
theorem Gu {off:Nat} {s:α→β→α} {i b:Nat} {xx:α} {yy:β} (hE:ax δ n a l) (hS:S W0 m w L TL) (hT:dy P t k') (hf:StF kT k' off s) (hx:evl l x=some (.pointer (some ⟨b,off,none⟩))) (hy:evl l y=some v) (hv:RV k' m v yy) (hL:L[i]? =some (b,cs)) (hR:kT.R m cs xx):
  bg P ⟨none,.store t x y,ty,pos,aft,g⟩ a w (λ_ w'=>∃cs',kT.R m cs' (s xx yy)∧(∀q u,cs[q]? =some u→(q<off∨off+k'.sz≤q)→cs'[q]? =some u)∧S W0 m w' (L.set i (b,cs')) TL):=
 (sE hE hS hT hx hy hv hL (by rw[kT.len hR];exact hf.1)).imp λ_ _ ⟨vs,h1,h0,h2⟩=>⟨_,hf.2 m cs vs xx yy hR h1,λq u hq hd=>by
  have hl:=k'.len h1;have h1:=hf.1;rw[←kT.len hR] at h1;have hlt:=(Z0.1 hq).1;rcases hd with hd|hd
  ·rw[Z5,Za (by simp;omega),Zf hd,hq]
  ·rw [Z4 (by simp;omega)]
   simp only[Zq,Z7,Zc]
   rw[←hq];congr 1;omega,h2⟩
end
theorem Ii {ps:Array (Nat×Operand)} {fs:Array Field} {pl:List (Nat×Nat)} {z:Value} (hE:ax δ n a l) (hp:prt l ps=some []) (hu:P.underlying t=some (.struct fs)) (hpl:fs.toList.mapM (fun f=>(P.info? f.type).map fun i=>(f.offset,i.size))=some pl)
  (hz:∀w,(zeroValue t).run P w= .ok z w):aD P ⟨some d,.build t ps,ty,pos,aft,g⟩ a w (.agg z.cells) w:=by
 have hpv:(ps.map λp=>(p.1,a.eval p.2)).toList=[]:=pq hE hp
 have hmap:(fs.mapM λf:Field=>(do pure (f.offset,←sizeOf f.type):Sem (Nat×Nat))).run P w= .ok pl.toArray w:=by
  rw[Array.mapM_eq_mapM_toList];have:=run_places (P:=P) w fs.toList pl hpl;simp only[Sem.run_map]
  have e1:(fs.toList.mapM λf:Field=>(do pure (f.offset,←sizeOf f.type):Sem (Nat×Nat))).run P w= .ok pl w:=by
   have h2:(λf:Field=>(do pure (f.offset,←sizeOf f.type):Sem (Nat×Nat)))=(λf:Field=>Prod.mk f.offset<$>sizeOf f.type):=by
    funext f;rfl
   rw[h2];exact this
  rw[e1]
  rfl
 have hrun:(Instr.build t (ps.map λp=>(p.1,a.eval p.2))).run P w= .ok (.agg z.cells) w:=by
  simp only[Instr.build,Sem.run_bind,hz,Result.andThen_ok,run_underlying hu,hmap,hpv,Instr.fill,Sem.run_pure]
 simp only[aD,execOp,hrun,Sem.run_bind,Sem.run_pure,Result.andThen_ok]
theorem Ek {ps:Array (Nat×Operand)} {vs:List Value} {xs:List α} {z:Value} (hE:ax δ n a l) (hS:S W0 m w L TL) (hp:prt l ps=some (num 0 vs)) (hu:P.underlying t=some (.slice e)) (hs: ∀w,(sizeOf e).run P w= .ok k.sz w) (hz: ∀w,(zeroValue e).run P w= .ok z w) (hv:RVl k m vs xs)
  {len:Nat} (hlen:vs.length=len) (hsmall:Xl (len*k.sz) 16777216=true):
  bg P ⟨some d,.buildSlice t len ps,ty,pos,aft,g⟩ a w (λv' w'=>∃m',M.le m m'∧S W0 m' w' L ((k.sz,v')::TL)∧RV (kSl k) m' v' xs∧∃b l',v'= .slice (some ⟨b,0,none⟩) len len∧W0.heap.size≤b∧m' b=some l'):=by
 intro ro Kk Q hk;have hB:W0.heap.size≤w.heap.size:=hS.below.size;have hsm:=Z1 hsmall;subst hlen
 have hrun:aD P ⟨some d,.buildSlice t vs.length ps,ty,pos,aft,g⟩ a w (.slice (some ⟨w.heap.size,0,none⟩) vs.length vs.length) (w.alloc (.cells (iG vs).toArray e)):=by
  have hfill:=λ(cs:Array Value) (hcs:cs.size=vs.length*k.sz)=>by
   have:=uu (sz:=k.sz) vs 0 cs.toList hv.size (by simp[hcs]);simpa[hcs,Xo,Xh (show cs.toList.length≤vs.length*k.sz by simp[hcs])] using this
  have:(Instr.buildSlice t vs.length (ps.map λp=>(p.1,a.eval p.2))).run P w= .ok (.slice (some ⟨w.heap.size,0,none⟩) vs.length vs.length) (w.alloc (.cells (iG vs).toArray e)):=by
   simp only[Instr.buildSlice,Sem.run_bind,run_underlying hu,Result.andThen_ok,hs,pq hE hp];rw[if_neg (by omega)]
   by_cases h0:vs.length*k.sz=0
   ·simp only [h0,if_true,Sem.run_bind,Sem.run_pure,Result.andThen_ok]
    have:=hfill ((Array.range 0).map (λx=>(#[]:Array Value)[x%(#[]:Array Value).size]!)) (by simp[h0]);rw[this];simp[newRow]
   ·simp only [h0,if_false,Sem.run_bind,hz,Sem.run_pure,Result.andThen_ok]
    have:=hfill ((Array.range (vs.length*k.sz)).map (λx=>z.cells[x%z.cells.size]!)) (by simp);rw[this];simp[newRow]
  simp[aD,execOp,this]
 have h1:=hS.allocM (iG vs) e;refine hrun.step (Post:=λv' w'=>∃m',M.le m m'∧S W0 m' w' L ((k.sz,v')::TL)∧RV (kSl k) m' v' xs∧∃b l',v'= .slice (some ⟨b,0,none⟩) vs.length vs.length∧W0.heap.size≤b∧m' b=some l') ?_ ro Kk Q hk;refine⟨m.put w.heap.size (iG vs),h1.1,?_,?_,w.heap.size,iG vs,rfl,hB,M.put_same _ _ _⟩
 ·have hS':=h1.2
  refine⟨hS'.below,hS'.imm,hS'.own,hS'.nodup,λi e' he=>?_,λi j e1 e2 he1 he2 hij=>?_⟩
  ·cases i with
   |zero=>simp at he;subst he;exact⟨by simp,.inl rfl⟩
   |succ i=>exact hS'.tails i e' (by simpa using he)
  ·have old:∀(i:Nat) (e':Nat×Value),TL[i]? =some e'→jy e'.2≠some w.heap.size:=λi e' he hb=>by
    have:=w8 (hS.tails i e' he) hb;omega
   intro b hb hb';cases i with
   |zero=>
    simp at he1;subst he1;cases j with
    |zero=>omega
    |succ j=>simp[jy] at hb;subst hb;exact old j e2 (by simpa using he2) hb'
   |succ i=>
    cases j with
    |zero=>simp at he2;subst he2;simp[jy] at hb';subst hb';exact old i e1 (by simpa using he1) hb
    |succ j=>exact hS.apart i j e1 e2 (by simpa using he1) (by simpa using he2) (by omega) b hb hb'
 ·have hlx:=hv.length
  have hpos:=k.pos;rw[hlx];refine gj (Zx _) (by unfold cI;have:=Nat.mul_le_mul_left vs.length hpos;simp at this;omega) ⟨λ_=>rfl,?_⟩;exact qk (M.put_same _ _ _) (hv.cells.mono h1.1) (by simp)
theorem Cy {v:Value} {b q i sz:Nat} {l':List Value} (hE:ax δ n a l) (hS:S W0 m w L TL) (hx:evl l x=some v) (hu:P.underlying t=some (.slice e)) (he:P.underlying e=some (.int .u8)) (hv:v= .slice (some ⟨b,0,none⟩) q q) (hB:W0.heap.size≤b) (hm:m b=some l') (hT:TL[i]? =some (sz,v)):
  bg P ⟨some d,.convert t t x,ty,pos,aft,g⟩ a w (λu w'=>v=u∧S W0 m w' L TL):=by
 obtain⟨c,tt,fr,r,hb,hc⟩:=hS.imm b l' hm;subst hv;have hfr:(w.freeze { block:=b,off:=c.size } 1)={ w with heap:=w.heap.modify b fun| .cells c' elem (lo,hi)=> .cells c' elem (if lo==hi then (c.size,c.size+1) else (min lo c.size,max hi (c.size+1)))|o=>o }:=rfl
 obtain⟨fr',hfb⟩:∃fr',(w.freeze { block:=b,off:=c.size } 1).heap[b]? =some (.cells c tt fr'):=by
  obtain⟨lo,hi⟩:=fr;refine⟨if lo==hi then (c.size,c.size+1) else (min lo c.size,max hi (c.size+1)),?_⟩;rw[hfr];simp[Array.getElem?_modify,hb]
 have hfo:∀k,k≠b→(w.freeze { block:=b,off:=c.size } 1).heap[k]? =w.heap[k]? :=λk hk=>by
  rw[hfr];simp[Array.getElem?_modify,Ne.symm hk]
 have hsz:(w.freeze { block:=b,off:=c.size } 1).heap.size=w.heap.size:=by rw[hfr];simp
 have hr:aD P ⟨some d,.convert t t x,ty,pos,aft,g⟩ a w (.slice (some ⟨b,0,none⟩) q q) (w.freeze { block:=b,off:=c.size } 1):=by
  have hsh:(shape b).run P w= .ok (some (tt,c.size)) w:=by
   simp[shape,Sem.run,World.shape?,hb]
  have hmk:(markStringish ⟨b,0,none⟩).run P w= .ok () (w.freeze { block:=b,off:=c.size } 1):=by
   simp only[markStringish,Sem.run_bind,hsh,Result.andThen_ok]
   rfl
  simp[aD,execOp,hE.eval hx,convert,run_underlying hu,run_underlying he,hmk,Result.andThen]
 refine hr.step ⟨rfl,⟨⟨⟨⟨hS.below.os,hS.below.tape,hS.below.output,by rw[hsz];exact hS.below.size,λk hk=>?_⟩,hS.below.drawn⟩,λk o ho=>?_⟩,λk lk' hk=>?_,λj e' hj hne=>?_,hS.nodup,λj e' hj=>?_,hS.apart⟩⟩
 ·have hk':k<W0.heap.size:=hk
  rw[hfo k (by omega)];exact hS.below.block k hk
 ·obtain ⟨h1,h2⟩:=hS.below.kept k o ho
  have hne:k≠b:=λe'=>by
   subst e';rw[hb] at h1;injection h1 with h1;subst h1;cases h2
  exact⟨by rw[hfo k hne];exact h1,h2⟩
 ·by_cases e':k=b
  ·subst e'
   rw[hm] at hk;injection hk with hk;subst hk
   exact⟨c,tt,fr',r,hfb,hc⟩
  ·obtain ⟨c',t',f',r',h1,h2⟩:=hS.imm k lk' hk
   exact⟨c',t',f',r',by rw[hfo k e'];exact h1,h2⟩
 ·obtain ⟨h1,h2,t',h3⟩:=hS.own j e' hj hne
  have hne':e'.1≠b:=λe2=>by rw[e2,hm] at h2;cases h2
  exact⟨h1,h2,t',by rw[hfo _ hne'];exact h3⟩
 ·have ht:=hS.tails j e' hj
  by_cases hji:j=i
  ·subst hji
   rw[hT] at hj;injection hj with hj;subst hj
   exact⟨by rw[hsz];exact(Array.getElem?_eq_some_iff.1 hb).1,.inl rfl⟩
  ·have hap:=hS.apart i j _ _ hT hj (fun e2=>hji e2.symm) b rfl
   obtain⟨s',u⟩:=e';cases u<;>try exact ht
   rename_i ao len cap;cases ao with
   |none=>trivial
   |some ad=>
    have hne:ad.block≠b:=λe2=>hap (by simp[jy,e2]);obtain⟨hlt,h⟩:=ht;refine⟨by rw[hsz];exact hlt,?_⟩;rcases h with h|⟨h0,h1,l2,c2,t2,h2,h3,h4,h5⟩
    ·exact .inl h
    ·exact .inr ⟨h0,h1,l2,c2,t2,h2,h3,by rw[hfo _ hne];exact h4,h5⟩
end
set_option linter.unusedVariables false
set_option linter.unusedSimpArgs false
set_option maxRecDepth 100000
open Go.WideMaps (KeyLaw)
structure CA (P:Program) (tk:TypeId) {α:Type} (k:Kd α) where
 cv:α→Value
 of:∀{m v x},RV k m v x→v=cv x
 inj:∀{x y},cv x=cv y→x=y
 law:KeyLaw P tk
 key:∀{m v x},RV k m v x→∃l,keyOf P tk v=some l
def jz {α:Type} [DecidableEq α](seen:List α)(x:α):Int:=X3.wrap (seen.count x:Int)
theorem Gv {α:Type} [DecidableEq α](seen:List α)(x y:α):jz (x::seen) y=if x=y then X3.wrap (jz seen y+1) else jz seen y:=by
 unfold jz;rw[List.count_cons]
 by_cases e:x=y
 ·subst e
  simp only[beq_self_eq_true,if_true,Int.natCast_add]
  have:∀n:Int,X3.wrap (n+1)=X3.wrap (X3.wrap n+1):=λn=>by
   have key:∀n:Int,X3.wrap n=(n+9223372036854775808)%18446744073709551616 - 9223372036854775808:=by
    intro n;simp[IntKind.wrap,IntKind.bits,IntKind.signed];split<;>omega
   rw[key,key,key];omega
  exact this _
 ·simp[e]
structure pu {P:Program} {tk:TypeId} {α:Type} {k:Kd α} [DecidableEq α] (K:CA P tk k) (es:Array MapEntry) (ck:Nat) (seen:List α):Prop where
 keys:∀e∈es.toList,∃l,keyOf P tk e.key=some l
 cnt:∀e∈es.toList,∀x,e.key=K.cv x→e.val= .int .i64 (jz seen x)
 all:∀x∈seen,∃e∈es.toList,e.key=K.cv x
 nd:(es.toList.map (·.key)).Nodup
 born:(es.toList.map (·.born)).Nodup
 lt:∀e∈es.toList,e.born<ck
theorem JC {k:IntKind}{n:Int}(h:inR k n):(Lit.int k n).wf=true:=by
 rw[l9] at h;simpa[Lit.wf] using h
theorem Gw {P:Program} {t:TypeId} {f0 f1:Field} {k0 k1:IntKind} {n0 n1:Int} {d:Nat} (hu:P.underlying t=some (.struct #[f0,f1])) (hb:(f0.name != "_" &&f1.name != "_")=true) (h0:P.underlying f0.type=some (.int k0)) (h1:P.underlying f1.type=some (.int k1))
  (o0:f0.offset=0) (o1:f1.offset=1) (c0:P.cellsOf f0.type=1) (c1:P.cellsOf f1.type=1) (hc:P.cellsOf t=2) (hk:P.keyType t=true) (hs:P.types.size=d+1) (w0:(Lit.int k0 n0).wf=true) (w1:(Lit.int k1 n1).wf=true):
  ∃l,keyOf P t (.agg #[.int k0 n0,.int k1 n1])=some l:=by
 rw[Zm] at hb
 have e0:P.keyLits (d+1) f0.type (([Value.int k0 n0,.int k1 n1].drop f0.offset).take (P.cellsOf f0.type))=some [.int k0 n0]:=by
  rw[o0,c0];simp only[Zt,List.take_succ_cons,Xo,Program.keyLits,h0];rw[if_pos ⟨trivial,w0⟩]
 have e1:P.keyLits (d+1) f1.type (([Value.int k0 n0,.int k1 n1].drop f1.offset).take (P.cellsOf f1.type))=some [.int k1 n1]:=by
  rw[o1,c1];simp only[Zw,Zt,List.take_succ_cons,Xo,Program.keyLits,h1];rw[if_pos ⟨trivial,w1⟩]
 have e2:P.keyLits (d+2) t [Value.int k0 n0,.int k1 n1]=some [.int k0 n0,.int k1 n1]:=by
  unfold Program.keyLits;rw[hu];simp only[hc];rw[if_pos ⟨rfl,by simp[hb.1,hb.2]⟩];simp only[X9,List.mapM_nil,e0,e1]
  rfl
 unfold keyOf;rw[hu];simp only[hk,Value.formed,hu,hc,hs];rw[if_pos (by rfl)];exact⟨_,by rw[show(Value.agg #[Value.int k0 n0,.int k1 n1]).cells.toList=[Value.int k0 n0,.int k1 n1] from rfl,e2];rfl⟩
section
variable {P:Program}{tk t e2:TypeId}{α:Type}{k:Kd α} [DecidableEq α]{K:CA P tk k}{es:Array MapEntry}{ck b:Nat}{seen:List α}{m:M}{w:World}{v:Value}{x:α}
theorem pu.nil:pu K #[] 0 []:=⟨by simp,by simp,by simp,by simp,by simp,by simp⟩
theorem pu.find (h:pu K es ck seen) (hx:RV k m v x) (w:World):
  ((Instr.findKey tk v es.toList).run P w= .ok none w∧(∀e∈es.toList,e.key≠v)∧jz seen x=0)∨
  ∃j e,(Instr.findKey tk v es.toList).run P w= .ok (some (j,e.val)) w∧es.toList[j]? =some e∧e.key=v∧e.val= .int .i64 (jz seen x):=by
 obtain⟨l,hl⟩:=K.key hx;rcases K.law.find w hl es.toList h.keys with⟨h1,h2⟩|⟨j,e,h1,h2,h3⟩
 ·left
  refine⟨h1,h2,?_⟩
  have hn:x∉seen:=λhm=>by
   obtain⟨e,he,hk⟩:=h.all x hm;exact h2 e he (hk.trans (K.of hx).symm)
  unfold jz;rw[List.count_eq_zero.2 hn];decide
 ·exact .inr ⟨j,e,h1,h2,h3,h.cnt e (Z8 h2) x (h3.trans (K.of hx))⟩
theorem pu.look (h:pu K es ck seen) (hx:RV k m v x) (ht:P.underlying t=some (.map tk e2)) (hz: ∀w,(zeroValue e2).run P w= .ok (.int .i64 0) w) (hb:w.heap[b]? =some (.map es ck)):
  (Instr.lookup t (.map (some b)) v false).run P w= .ok (.int .i64 (jz seen x)) w:=by
 obtain⟨l,hl⟩:=K.key hx;rcases h.find hx w with⟨h1,h2,h3⟩|⟨j,e,h1,h2,h3,h4⟩
 ·simp[Instr.lookup,run_underlying ht,MapKept.run_getObj_map hb,K.law.check w _ hl,h1,hz,h3,Result.andThen]
 ·simp[Instr.lookup,run_underlying ht,MapKept.run_getObj_map hb,K.law.check w _ hl,h1,h4,Result.andThen]
theorem Gx {l:List MapEntry}(h:(l.map (·.key)).Nodup){i j:Nat}{a c:MapEntry}(hi:l[i]? =some a)(hj:l[j]? =some c)(hk:a.key=c.key):i=j:=by
 have h1:(l.map (·.key))[i]? =some a.key:=by simp[hi]
 have h2:(l.map (·.key))[j]? =some a.key:=by simp[hj,hk]
 exact(List.getElem?_inj (Z0.1 h1).1 h).1 (h1.trans h2.symm)
theorem pu.entry (h:pu K es ck seen) (hx:RV k m v x) (ht:P.underlying t=some (.map tk e2)) (hz: ∀w,(zeroValue e2).run P w= .ok (.int .i64 0) w) (hb:w.heap[b]? =some (.map es ck)):
  ∃(es1:Array MapEntry) (ck1 j:Nat) (e:MapEntry),(Instr.mapEntry t (.map (some b)) v).run P w= .ok (.tuple #[e.val,goInt e.born]) (w.putObj b (.map es1 ck1))∧pu K es1 ck1 seen∧es1.toList[j]? =some e∧e.key=v:=by
 obtain⟨l,hl⟩:=K.key hx;rcases h.find hx w with⟨h1,h2,h3⟩|⟨j,e,h1,h2,h3,h4⟩
 ·refine ⟨es.push ⟨v,.int .i64 0,ck⟩,ck+1,es.size,⟨v,.int .i64 0,ck⟩,?_,⟨?_,?_,?_,?_,?_,?_⟩,by simp,rfl⟩
  ·simp[Instr.mapEntry,run_underlying ht,MapKept.run_getObj_map hb,K.law.check w false hl,h1,hz,MapKept.run_setObj_map _ hb,Result.andThen,World.putObj]
  ·intro e he
   simp only[Array.toList_push,Zi,Zd] at he;rcases he with he|rfl
   ·exact h.keys e he
   ·exact⟨l,hl⟩
  ·intro e he y hy
   simp only[Array.toList_push,Zi,Zd] at he;rcases he with he|rfl
   ·exact h.cnt e he y hy
   ·have:x=y:=K.inj ((K.of hx).symm.trans hy)
    subst this;rw[h3]
  ·intro y hy
   obtain⟨e,he,hk⟩:=h.all y hy;exact⟨e,by simp only[Array.toList_push,Zi];exact .inl he,hk⟩
  ·simp only [Array.toList_push,List.map_append,Z9,Xn]
   refine List.nodup_append.2 ⟨h.nd,by simp,λa ha c hc e=>?_⟩;simp only[Zd] at hc;obtain⟨z,hz,rfl⟩:=Xe.1 ha;exact h2 z hz (e.trans hc)
  ·simp only [Array.toList_push,List.map_append,Z9,Xn]
   refine List.nodup_append.2 ⟨h.born,by simp,λa ha c hc e=>?_⟩;simp only[Zd] at hc;obtain⟨z,hz,rfl⟩:=Xe.1 ha;have:=h.lt z hz;omega
  ·intro e he
   simp only[Array.toList_push,Zi,Zd] at he;rcases he with he|rfl
   ·have:=h.lt e he;omega
   ·exact Nat.lt_succ_self _
 ·have hj:es[j]? =some e:=by simpa using h2
  have hsame:es.modify j (λe'=>{ e' with key:=v })=es:=by
   apply Array.ext';rw[Array.toList_modify,ChangeMaps.modify_eq_set _ _ _ _ h2];have:({ e with key:=v }:MapEntry)=e:=by rw[←h3]
   rw[this];exact WideElems.set_self _ _ _ h2
  refine⟨es,ck,j,e,?_,h,h2,h3⟩;simp[Instr.mapEntry,run_underlying ht,MapKept.run_getObj_map hb,K.law.check w false hl,h1,hj,h3,K.law.stays w hl,hsame,MapKept.run_setObj_map _ hb,Result.andThen,World.putObj]
theorem pu.store (h:pu K es ck seen) (hx:RV k m v x) {j:Nat} {e:MapEntry} (he:es.toList[j]? =some e) (hk:e.key=v) (hb:w.heap[b]? =some (.map es ck)):
  ∃es1,(Instr.entryStore t (.map (some b)) (goInt e.born) (.int .i64 (X3.wrap (jz seen x+1)))).run P w= .ok () (w.putObj b (.map es1 ck))∧pu K es1 ck (x::seen):=by
 have hidx:es.findIdx? (λe'=>((e'.born:Nat):Int)==((e.born:Nat):Int))=some j:=by
  rw[WideElems.findIdx_arr];exact WideElems.findIdx_born h.born he
 have hl:(es.modify j λe'=>{ e' with val:= .int .i64 (X3.wrap (jz seen x+1)) }).toList=es.toList.set j { e with val:= .int .i64 (X3.wrap (jz seen x+1)) }:=by
  rw[Array.toList_modify,ChangeMaps.modify_eq_set _ _ _ _ he]
 have hlt:=(Z0.1 he).1;refine⟨_,by simp[Instr.entryStore,MapKept.run_getObj_map hb,asInt,asIntOf,goInt,hidx,MapKept.run_setObj_map _ hb,Result.andThen,World.putObj];rfl,⟨?_,?_,?_,?_,?_,?_⟩⟩
 ·rw [hl]
  intro a ha;rcases X6 ha with ha|rfl
  ·exact h.keys a ha
  ·exact h.keys e (Z8 he)
 ·rw [hl]
  intro a ha y hy;rw[Gv];obtain⟨i,hi,rfl⟩:=List.getElem_of_mem ha;rw[List.getElem_set] at hy ⊢;split
  ·rename_i hji
   rw[if_pos hji] at hy;have:x=y:=K.inj ((K.of hx).symm.trans (hk.symm.trans hy));rw[if_pos this,this]
  ·rename_i hji
   rw[if_neg hji] at hy;simp only[List.length_set] at hi
   have hne:x≠y:=λe'=>by
    subst e';have hi2:es.toList[i]? =some es.toList[i]:=Z2 hi;exact hji (Gx h.nd he hi2 (hk.trans ((K.of hx).trans hy.symm)))
   rw[if_neg hne];exact h.cnt _ (List.getElem_mem hi) y hy
 ·rw [hl]
  intro y hy
  have:∃a∈es.toList,a.key=K.cv y:=by
   rcases Zj.1 hy with rfl|hy
   ·exact⟨e,Z8 he,hk.trans (K.of hx)⟩
   ·exact h.all y hy
  obtain⟨a,ha,hak⟩:=this;obtain⟨i,hi,rfl⟩:=List.getElem_of_mem ha
  by_cases hji:j=i
  ·subst hji
   have e1:es.toList[j]=e:=(Z0.1 he).2;exact⟨_,List.mem_set hlt _,by rw[←hak,e1]⟩
  ·refine ⟨es.toList[i],?_,hak⟩
   refine Z8 (i:=i) ?_;rw[List.getElem?_set_ne hji,Z2 hi]
 ·rw [hl,List.map_set]
  have:(es.toList.map (·.key)).set j e.key=es.toList.map (·.key):=WideElems.set_self _ _ _ (by simp[he]);rw[this];exact h.nd
 ·rw [hl,List.map_set]
  have:(es.toList.map (·.born)).set j e.born=es.toList.map (·.born):=WideElems.set_self _ _ _ (by simp[he]);rw[this];exact h.born
 ·rw [hl]
  intro a ha;rcases X6 ha with ha|rfl
  ·exact h.lt a ha
  ·exact h.lt e (Z8 he)
end
section
variable {δ:List Nat}{ro:Option Nat}{P:Program}{W0:Bse}{m:M}{w:World}{L:List (Nat×List Value)}{TL:List (Nat×Value)}{tk e2:TypeId}{α:Type}{k:Kd α} [DecidableEq α]{K:CA P tk k}{es:Array MapEntry}{ck b:Nat}{seen:List α}{n d:Nat}{a:Act}{l:List (Nat×Value)}{x y:Operand}{t ty:TypeId}{pos:String}{aft:Array Edge}{g:Option (Nat×Bool)}{v:Value}{xx:α}
theorem Fa (hS:S W0 m w L TL):bg P ⟨some d,.makeMap t none,ty,pos,aft,g⟩ a w (λv w'=>∃b,v= .map (some b)∧S (W0.put b (.map #[] 0)) m w' L TL∧W0.keep b=none∧W0.heap.size≤b):=by
 have hr:aD P ⟨some d,.makeMap t none,ty,pos,aft,g⟩ a w (.map (some w.heap.size)) (w.alloc (.map #[] 0)):=by
  simp[aD,execOp,show(Instr.makeMap t none).run P w= .ok (.map (some w.heap.size)) (w.alloc (.map #[] 0)) from rfl]
 exact hr.step ⟨_,rfl,hS.newK rfl,hS.keepNone (Zx _),hS.below.size⟩
theorem Em (hE:ax δ n a l) (hS:S (W0.put b (.map es ck)) m w L TL) (hC:pu K es ck seen) (hx:evl l x=some (.map (some b))) (hy:evl l y=some v) (hv:RV k m v xx) (ht:P.underlying t=some (.map tk e2)) (hz: ∀w,(zeroValue e2).run P w= .ok (.int .i64 0) w):
  aD P ⟨some d,.lookup t x y false,ty,pos,aft,g⟩ a w (.int .i64 (jz seen xx)) w:=by
 have hb:=(hS.below.kept b _ (Bse.put_same _ _ _)).1;simp[aD,execOp,hE.eval hx,hE.eval hy,hC.look hv ht hz hb]
abbrev Pq (tm tv tk ti:TypeId) (p:String):List Oper:=[
 ⟨some 50,.move (.tmp 9),tm,p,#[],none⟩,
 ⟨some 51,.fieldAddr tv (.tmp 11) 0,0,p,#[],none⟩,
 ⟨some 52,.load tk (.tmp 51),tk,p,#[⟨1,.data⟩],none⟩,
 ⟨some 53,.lookup tm (.tmp 50) (.tmp 52) false,ti,p,#[⟨0,.data⟩,⟨2,.data⟩],none⟩,
 ⟨some 54,.binOp .add ti (.tmp 53) (.const (.int .i64 1)) ti,ti,p,#[⟨3,.data⟩],none⟩,
 ⟨some 55,.mapEntry tm (.tmp 50) (.tmp 52),0,p,#[⟨0,.data⟩,⟨2,.data⟩,⟨0,.phase⟩,⟨1,.phase⟩,⟨2,.phase⟩,⟨3,.textOnly .mapOpAssignEntry⟩,⟨4,.textOnly .mapOpAssignEntry⟩],none⟩,
 ⟨some 56,.extract (.tmp 55) 1,ti,p,#[⟨5,.data⟩],none⟩,
 ⟨none,.entryStore tm (.tmp 50) (.tmp 56) (.tmp 54),0,p,#[⟨0,.data⟩,⟨6,.data⟩,⟨4,.data⟩,⟨5,.chain⟩,⟨0,.phase⟩,⟨1,.phase⟩,⟨2,.phase⟩,⟨3,.phase⟩,⟨4,.phase⟩,⟨5,.phase⟩,⟨6,.phase⟩],none⟩]
def yW {P:Program} {tk:TypeId} {α:Type} {k:Kd α} [DecidableEq α] (K:CA P tk k) (m:M) (b bl:Nat) (seen:List α) (x:α) (es:Array MapEntry):Nat→Value→Prop
 |0,v=>v= .map (some b)
 |1,v=>v= .pointer (some ⟨bl,0,none⟩)
 |2,v=>RV k m v x
 |3,v=>v= .int .i64 (jz seen x)
 |4,v=>v= .int .i64 (X3.wrap (jz seen x+1))
 |5,v=>∃(j:Nat) (e:MapEntry),es.toList[j]? =some e∧e.key=K.cv x∧v= .tuple #[e.val,goInt e.born]
 |6,v=>∃(j:Nat) (e:MapEntry),es.toList[j]? =some e∧e.key=K.cv x∧v=goInt e.born
 |_,_=>True
theorem QP {tm tv ti:TypeId} {p:String} {id bl i:Nat} {β:Type} {kv:Kd β} {f:β→α} {cs:List Value} {y0:β} {N Rt:Act→World→Prop} {X:List (Nat×(Act→World→Prop))}
  (hm:P.follows .mixedOrders=true) (hn:Xl 57 n=true) (hE:ax δ n a l) (hl:(Zg 7).all (λj=>(lk l (50+j)).isNone)=true) (hS:S (W0.put b (.map es ck)) m w L TL) (hB:W0.heap.size≤b) (hC:pu K es ck seen) (hx:lk l 9=some (.map (some b))) (hy:lk l 11=some (.pointer (some ⟨bl,0,none⟩)))
  (ht:P.underlying tm=some (.map tk e2)) (hz:∀w,(zeroValue e2).run P w= .ok (.int .i64 0) w) (hF:cP P tv 0 0) (hf:Fld kv k 0 f) (hT:dy P tk k) (hL:L[i]? =some (bl,cs)) (hR:kv.R m cs y0) (hti:P.underlying ti=some (.int .i64))
  (fin:∀a w es ck,ax δ n a l→S (W0.put b (.map es ck)) m w L TL→pu K es ck (f y0::seen)→N a w):
  Hay.K ro P (.region id (Pq tm tv tk ti p).toArray true) N X Rt a w:=by
 have hn:=Z1 hn
 have hln:∀j,j<7→lk l (50+j)=none:=λj hj=>by
  have:=List.all_eq_true.1 hl j (List.mem_range.2 hj);simpa using this
 refine E2 (k:=7) hm (by kernel_rfl) (by kernel_rfl) (λs a w=>∃es ck,S (W0.put b (.map es ck)) m w L TL∧pu K es ck seen∧ax δ n a l∧∀j,j<7→s j=true→yW K m b bl seen (f y0) es j (a.tmps.getD (50+j) undef)) ?_ ?_ ?_
 ·exact⟨es,ck,hS.drew,hC,hE,λj _ h=>(Bool.false_ne_true h).elim⟩
 ·intro q o ho hq s a w ⟨es,ck,hS,hC,hE,hp⟩ hsq hpre hcl
  have env:∀v,ax δ n (a.put (some (50+q)) v) l:=λv=>⟨by simp[Act.put,hE.defers],by simp[Act.put,hE.size],λj u hj=>by
   have hne:50+q≠j:=λe=>by rw[←e,hln q hq] at hj;cases hj
   have:=hE.at_ j u hj
   simpa[Act.put,Array.getElem?_setIfInBounds_ne hne] using this⟩
  have slots: ∀(v:Value) (es':Array MapEntry),yW K m b bl seen (f y0) es' q v→(∀j,j<7→j≠q→s j=true→yW K m b bl seen (f y0) es' j (a.tmps.getD (50+j) undef))→
    ∀j,j<7→upd s q j=true→yW K m b bl seen (f y0) es' j ((a.put (some (50+q)) v).tmps.getD (50+j) undef):=by
   intro v es' h1 h2 j hj hs
   by_cases hjq:j=q
   ·subst hjq
    have:(a.put (some (50+j)) v).tmps.getD (50+j) undef=v:=by
     have:=hE.size;simp[Act.put,show 50+j<a.tmps.size by omega]
    rw[this];exact h1
   ·have hs':s j=true:=by simpa [upd,hjq] using hs
    have:(a.put (some (50+q)) v).tmps.getD (50+j) undef=a.tmps.getD (50+j) undef:=by
     have hne:50+q≠50+j:=by omega
     simp[Act.put,Array.getElem?_setIfInBounds_ne hne]
    rw[this];exact h2 j hj hjq hs'
  have same:∀j,j<7→j≠q→s j=true→yW K m b bl seen (f y0) es j (a.tmps.getD (50+j) undef):=λj hj _ h=>hp j hj h;have hb:=(hS.below.kept b _ (Bse.put_same _ _ _)).1
  match q,hq,ho,hpre,env,slots,same with
  |0,_,ho,hpre,env,slots,same=>
   injection ho with ho;subst ho
   show bg P _ _ _ _;exact(iF hE (x:= .tmp 9) hx).step ⟨es,ck,hS,hC,env _,slots _ es rfl same⟩
  |1,_,ho,hpre,env,slots,same=>
   injection ho with ho;subst ho
   show bg P _ _ _ _;exact(aM hE hF (x:= .tmp 11) hy).step ⟨es,ck,hS,hC,env _,slots _ es rfl same⟩
  |2,_,ho,hpre,env,slots,same=>
   injection ho with ho;subst ho
   show bg P _ _ _ _;have h1:a.tmps.getD 51 undef= .pointer (some ⟨bl,0,none⟩):=hp 1 (by decide) (hpre 1 (Zk.1 rfl));have hE':=hE.add h1;refine(aC hE' hS hT (x:= .tmp 51) rfl hL (hf.R_drop (aR hR))).imp λv w' ⟨e,hv⟩=>?_;subst e;exact⟨es,ck,hS,hC,env _,slots _ es hv same⟩
  |3,_,ho,hpre,env,slots,same=>
   injection ho with ho;subst ho
   show bg P _ _ _ _;have h0:a.tmps.getD 50 undef= .map (some b):=hp 0 (by decide) (hpre 0 (Zk.1 rfl));have h2:RV k m (a.tmps.getD 52 undef) (f y0):=hp 2 (by decide) (hpre 2 (Zk.1 rfl));have hE':=(hE.add h0).add (i:=52) rfl;exact(Em hE' hS hC (x:= .tmp 50) (y:= .tmp 52) rfl rfl h2 ht hz).step ⟨es,ck,hS,hC,env _,slots _ es rfl same⟩
  |4,_,ho,hpre,env,slots,same=>
   injection ho with ho;subst ho
   show bg P _ _ _ _;have h3:a.tmps.getD 53 undef= .int .i64 (jz seen (f y0)):=hp 3 (by decide) (hpre 3 (Zk.1 rfl));have hE':=hE.add h3;exact(aP hE' (x:= .tmp 53) (y:= .const (.int .i64 1)) rfl rfl (be rfl)).step ⟨es,ck,hS,hC,env _,slots _ es rfl same⟩
  | 5, _, ho, hpre, env, slots, same =>
   injection ho with ho;subst ho
   show bg P _ _ _ _;have h0:a.tmps.getD 50 undef= .map (some b):=hp 0 (by decide) (hpre 0 (Zk.1 rfl));have h2:RV k m (a.tmps.getD 52 undef) (f y0):=hp 2 (by decide) (hpre 2 (Zk.1 rfl));have hE':=(hE.add h0).add (i:=52) rfl;obtain⟨es1,ck1,j,e,h1,h3,h4,h5⟩:=hC.entry h2 ht hz hb
   have hr:aD P ⟨some 55,.mapEntry tm (.tmp 50) (.tmp 52),0,p,#[⟨0,.data⟩,⟨2,.data⟩,⟨0,.phase⟩,⟨1,.phase⟩,⟨2,.phase⟩,⟨3,.textOnly .mapOpAssignEntry⟩,⟨4,.textOnly .mapOpAssignEntry⟩],none⟩ a w (.tuple #[e.val,goInt e.born]) (w.putObj b (.map es1 ck1)):=by
    have e1:a.eval (.tmp 50)= .map (some b):=hE'.eval rfl;have e2:a.eval (.tmp 52)=a.tmps.getD 52 undef:=rfl;simp only[aD,execOp,e1,e2,h1,Sem.run_bind,Sem.run_pure,Result.andThen_ok]
   have hS':S (W0.put b (.map es1 ck1)) m (w.putObj b (.map es1 ck1)) L TL:=by
    have:=hS.putK (o':= .map es1 ck1) hb rfl rfl hB;rwa[Bse.put_put] at this
   refine hr.step ⟨es1,ck1,hS',h3,env _,slots _ es1 ⟨j,e,h4,h5.trans (K.of h2),rfl⟩ λj' hj' hne hs'=>?_⟩;have:=same j' hj' hne hs'
   match j',hj',hne,this with
   |0,_,_,h=>exact h
   |1,_,_,h=>exact h
   |2,_,_,h=>exact h
   |3,_,_,h=>exact h
   |4,_,_,h=>exact h
   |5,_,hne,_=>exact(hne rfl).elim
   |6,_,_,_=>
    have h6:=hcl 6 _ rfl hs' 5 (Zk.1 rfl);rw[hsq] at h6;cases h6
   |j'+7,hj',_,_=>omega
  |6,_,ho,hpre,env,slots,same=>
   injection ho with ho;subst ho
   show bg P _ _ _ _;obtain⟨j,e,h1,h2,h3⟩:∃(j:Nat) (e:MapEntry),es.toList[j]? =some e∧e.key=K.cv (f y0)∧a.tmps.getD 55 undef= .tuple #[e.val,goInt e.born]:=hp 5 (by decide) (hpre 5 (Zk.1 rfl));have hE':=hE.add h3;exact(bM hE' (x:= .tmp 55) rfl rfl).step ⟨es,ck,hS,hC,env _,slots _ es ⟨j,e,h1,h2,rfl⟩ same⟩
  |q+7,hq,_,_,_,_,_=>omega
 ·intro s a w ⟨es,ck,hS,hC,hE,hp⟩ hs
  have h0:a.tmps.getD 50 undef= .map (some b):=hp 0 (by decide) (hs 0 (by decide) (Z1 rfl));have h2:RV k m (a.tmps.getD 52 undef) (f y0):=hp 2 (by decide) (hs 2 (by decide) (Z1 rfl));have h4:a.tmps.getD 54 undef= .int .i64 (X3.wrap (jz seen (f y0)+1)):=hp 4 (by decide) (hs 4 (by decide) (Z1 rfl));obtain⟨j,e,h5,h6,h7⟩:∃(j:Nat) (e:MapEntry),es.toList[j]? =some e∧e.key=K.cv (f y0)∧a.tmps.getD 56 undef=goInt e.born:=hp 6 (by decide) (hs 6 (by decide) (Z1 rfl));have hE':=((hE.add h0).add h4).add h7;have hb:=(hS.below.kept b _ (Bse.put_same _ _ _)).1
  obtain⟨es1,h8,h9⟩:=hC.store (t:=tm) h2 h5 (h6.trans (K.of h2).symm) hb
  have hS':S (W0.put b (.map es1 ck)) m (w.putObj b (.map es1 ck)) L TL:=by
   have:=hS.putK (o':= .map es1 ck) hb rfl rfl hB;rwa[Bse.put_put] at this
  refine st0 hE (Post:=λ_ w'=>w'=w.putObj b (.map es1 ck)) (uq.step ?_ rfl) ?_
  ·have e1:a.eval (.tmp 50)= .map (some b):=hE'.eval rfl
   have e2:a.eval (.tmp 56)=goInt e.born:=hE'.eval rfl;have e3:a.eval (.tmp 54)= .int .i64 (X3.wrap (jz seen (f y0)+1)):=hE'.eval rfl;simp only[uq,execOp,e1,e2,e3,h8,Sem.run_bind,Sem.run_pure,Result.andThen_ok]
  ·rintro _ w' rfl hE
   exact ag (fin _ _ es1 ck hE hS' h9)
end
set_option linter.unusedVariables false
set_option linter.unusedSimpArgs false
def GR {α:Type} (k:Kd α) (o:Nat) (m:M) (b:Nat) (cs:List Value) (v:Value) (xs:List α) (rows:List Value):Prop:=
 GS k m b cs v xs∧rows.length=xs.length∧∀i r,rows[i]? =some r→cs[i*k.sz+o]? =some r
def tls (sz:Nat)(rows:List Value):List (Nat×Value):=rows.map λv=>(sz,v)
section
variable {α:Type}{k:Kd α}{o:Nat}{m m':M}{b:Nat}{cs:List Value}{v:Value}{xs:List α}{rows:List Value}
theorem GR.mono (h:GR k o m b cs v xs rows)(hm:M.le m m'):GR k o m' b cs v xs rows:=⟨h.1.mono hm,h.2⟩
theorem GR.row (h:GR k o m b cs v xs rows){j:Nat}{x:α}(hj:xs[j]? =some x):∃r,rows[j]? =some r∧cs[j*k.sz+o]? =some r:=by
 have hlt:=(Z0.1 hj).1;have:j<rows.length:=by rw[h.2.1];exact hlt
 exact⟨rows[j],Z2 this,h.2.2 j _ (Z2 this)⟩
theorem yX {α:Type}{l:List α}{i:Nat}(h:i<l.length):(l[i]::l.eraseIdx i).Perm l:=by
 have e:l=l.take i++l[i]::l.drop (i+1):=by rw[←List.drop_eq_getElem_cons h,Zb]
 rw[List.eraseIdx_eq_take_drop_succ]
 conv=>rhs;rw[e]
 exact List.perm_middle.symm
theorem Ij {sz j:Nat}{r:Value}(h:rows[j]? =some r)(TL:List (Nat×Value)):(tls sz rows++TL).Perm ((sz,r)::(tls sz (rows.eraseIdx j)++TL)):=by
 obtain⟨hlt,rfl⟩:=Z0.1 h;have h1:rows.Perm (rows[j]::rows.eraseIdx j):=(yX hlt).symm;exact(h1.map λv=>(sz,v)).append_right TL
theorem Ik {sz j:Nat}{u:Value}(h:j<rows.length)(TL:List (Nat×Value)):((sz,u)::(tls sz (rows.eraseIdx j)++TL)).Perm (tls sz (rows.set j u)++TL):=by
 have hl:j<(rows.set j u).length:=by simpa using h
 have h1:((rows.set j u)[j]::(rows.set j u).eraseIdx j).Perm (rows.set j u):=yX hl;rw[List.getElem_set_self,List.eraseIdx_set_eq] at h1;exact(h1.map λv=>(sz,v)).append_right TL
end
theorem w7.symm {v u:Value}(h:w7 v u):w7 u v:=λb h1 h2=>h b h2 h1
theorem S.permT {W0:Bse}{m:M}{w:World}{L:List (Nat×List Value)}{TL TL':List (Nat×Value)}(h:S W0 m w L TL)(hp:TL.Perm TL'):S W0 m w L TL':=by
 have hap:TL.Pairwise λa b=>w7 a.2 b.2:=by
  rw[X7];intro i j hi hj hij;exact h.apart i j _ _ (Z2 hi) (Z2 hj) (by omega)
 have hap':TL'.Pairwise λa b=>w7 a.2 b.2:=(hp.pairwise_iff λh=>h.symm).1 hap;rw[X7] at hap';refine⟨h.below,h.imm,h.own,h.nodup,λi e he=>?_,λi j e e' he he' hij=>?_⟩
 ·have:e∈TL:=hp.mem_iff.2 (Z8 he)
  obtain⟨q,hq⟩:=List.getElem?_of_mem this;exact h.tails q e hq
 ·obtain ⟨hi,rfl⟩:=Z0.1 he
  obtain⟨hj,rfl⟩:=Z0.1 he';rcases Nat.lt_or_gt_of_ne hij with hl|hl
  ·exact hap' i j hi hj hl
  ·exact(hap' j i hj hi hl).symm
section
variable {δ:List Nat}{P:Program}{W0:Bse}{m:M}{w:World}{L:List (Nat×List Value)}{TL:List (Nat×Value)}{α β:Type}{k:Kd α}{k':Kd β}{n d:Nat}{a:Act}{l:List (Nat×Value)}{x y:Operand}{t ty:TypeId}{pos:String}{aft:Array Edge}{g:Option (Nat×Bool)}{o b i:Nat}{cs:List Value}{v:Value}{xs:List α}{rows:List Value}
theorem yY {off j:Nat} {s:α→β→α} {u:Value} {xx:α} {yy:β} (hE:ax δ n a l) (hS:S W0 m w L TL) (hT:dy P t k') (hf:StF k k' off s) (hg:GS k m b cs v xs) (hj:xs[j]? =some xx) (hx:evl l x=some (.pointer (some ⟨b,j*k.sz+off,none⟩))) (hy:evl l y=some u) (hv:RV k' m u yy) (hL:L[i]? =some (b,cs)):
  bg P ⟨none,.store t x y,ty,pos,aft,g⟩ a w (λ_ w'=>∃vs,k'.R m vs yy∧u=k'.val vs∧vs.length=k'.sz∧j*k.sz+off+k'.sz≤cs.length∧GS k m b (cs.take (j*k.sz+off)++vs++cs.drop (j*k.sz+off+k'.sz)) v (xs.set j (s xx yy))∧S W0 m w' (L.set i (b,cs.take (j*k.sz+off)++vs++cs.drop (j*k.sz+off+k'.sz))) TL):=by
 have hR:=hg.elem hj;have hl:=k.len hR;have hb:j*k.sz+off+k'.sz≤cs.length:=by have:=hf.1;simp at hl;have:=k.pos;omega
 refine(sE hE hS hT hx hy hv hL hb).imp λ_ w' ⟨vs,h1,h0,h2⟩=>⟨vs,h1,h0,k'.len h1,hb,?_,h2⟩
 have h3:=hf.2 m _ vs xx yy hR h1;have h4:=hg.set hj h3;have hvs:=k'.len h1
 have e2:cs.take (j*k.sz)++(((cs.drop (j*k.sz)).take k.sz).take off++vs++((cs.drop (j*k.sz)).take k.sz).drop (off+k'.sz))++cs.drop (j*k.sz+k.sz)=cs.take (j*k.sz+off)++vs++cs.drop (j*k.sz+off+k'.sz):=by
  have hf1:=hf.1;rw[List.take_take,Nat.min_eq_left (by omega),List.take_add (i:=j*k.sz) (j:=off) (l:=cs)]
  have e3:((cs.drop (j*k.sz)).take k.sz).drop (off+k'.sz)++cs.drop (j*k.sz+k.sz)=cs.drop (j*k.sz+off+k'.sz):=by
   rw[List.drop_take,Xb,show cs.drop (j*k.sz+k.sz)=(cs.drop (j*k.sz+(off+k'.sz))).drop (k.sz - (off+k'.sz)) by rw[Xb];congr 1;omega,Zb];congr 1;omega
  rw[Z5,Z5,Z5,e3];simp
 rw[e2] at h4;exact h4
theorem CB {A B C:List Value}{q:Nat}(h:q<A.length):(A++B++C)[q]? =A[q]? :=by
 rw[Z5,Za h]
theorem vQ {off j:Nat} {s:α→β→α} {u:Value} {xx:α} {yy:β} (hE:ax δ n a l) (hS:S W0 m w L TL) (hT:dy P t k') (hf:StF k k' off s) (hg:GR k o m b cs v xs rows) (hj:xs[j]? =some xx) (hx:evl l x=some (.pointer (some ⟨b,j*k.sz+off,none⟩))) (hy:evl l y=some u) (hv:RV k' m u yy) (hL:L[i]? =some (b,cs))
  (ho:o<k.sz) (hd:o<off∨off+k'.sz≤o):
  bg P ⟨none,.store t x y,ty,pos,aft,g⟩ a w (λ_ w'=>∃cs',GR k o m b cs' v (xs.set j (s xx yy)) rows∧S W0 m w' (L.set i (b,cs')) TL):=by
 refine(yY hE hS hT hf hg.1 hj hx hy hv hL).imp λ_ w' ⟨vs,h1,h0,hvl,hb,h2,h3⟩=>⟨_,⟨h2,by simpa using hg.2.1,λq r hq=>?_⟩,h3⟩
 have hc:=hg.2.2 q r hq;have hf1:=hf.1;have hcl:=(Z0.1 hc).1
 have hpos:q*k.sz+o<j*k.sz+off∨j*k.sz+off+k'.sz≤q*k.sz+o:=by
  rcases Nat.lt_trichotomy q j with hl|hl|hl
  ·have:=hU (sz:=k.sz) hl;omega
  ·subst hl;omega
  ·have:=hU (sz:=k.sz) hl;omega
 rcases hpos with hpos|hpos
 ·rw[CB (by simp;omega),Zf hpos,hc]
 ·rw [Z4 (by simp;omega)]
  simp only[Zq,Z7,Zc];rw[←hc];congr 1;omega
theorem DV {γ:Type} {kc:Kd γ} {j:Nat} {s:α→List γ→α} {u:Value} {xx:α} {yy:List γ} (hE:ax δ n a l) (hS:S W0 m w L TL) (hT:dy P t (kSl kc)) (hf:StF k (kSl kc) o s) (hg:GR k o m b cs v xs rows) (hj:xs[j]? =some xx) (hx:evl l x=some (.pointer (some ⟨b,j*k.sz+o,none⟩))) (hy:evl l y=some u) (hv:RV (kSl kc) m u yy) (hL:L[i]? =some (b,cs)):
  bg P ⟨none,.store t x y,ty,pos,aft,g⟩ a w (λ_ w'=>∃cs',GR k o m b cs' v (xs.set j (s xx yy)) (rows.set j u)∧S W0 m w' (L.set i (b,cs')) TL):=by
 refine(yY hE hS hT hf hg.1 hj hx hy hv hL).imp λ_ w' ⟨vs,h1,h0,hvl,hb,h2,h3⟩=>⟨_,⟨h2,by simpa using hg.2.1,λq r hq=>?_⟩,h3⟩
 have hvs:vs=[u]:=by
  match vs,hvl,h0 with
  |[c],_,h0=>exact congrArg (λz=>[z]) (show c=u from h0.symm)
 subst hvs;have hb:j*k.sz+o+1≤cs.length:=hb
 by_cases hqj:q=j
 ·subst hqj
  have:q<rows.length:=by
   have:=(Z0.1 hq).1;simpa using this
  rw[List.getElem?_set_self this] at hq;injection hq with hq;subst hq
  rw[Z5,Z4 (by simp only[Z7];omega),show q*k.sz+o - (cs.take (q*k.sz+o)).length=0 by simp only[Z7];omega]
  rfl
 ·rw [List.getElem?_set_ne (fun e=>hqj e.symm)] at hq
  have hc:=hg.2.2 q r hq;have hf1:o+1≤k.sz:=hf.1;have hcl:=(Z0.1 hc).1;show(cs.take (j*k.sz+o)++[u]++cs.drop (j*k.sz+o+1))[q*k.sz+o]? =some r
  have hpos:q*k.sz+o<j*k.sz+o∨j*k.sz+o+1≤q*k.sz+o:=by
   rcases Nat.lt_or_gt_of_ne hqj with hl|hl
   ·have:=hU (sz:=k.sz) hl;omega
   ·have:=hU (sz:=k.sz) hl;omega
  rcases hpos with hpos|hpos
  ·rw[CB (by simp;omega),Zf hpos,hc]
  ·rw [Z4 (by simp;omega)]
   simp only[Zq,Z7,Zc,List.length_singleton];rw[←hc];congr 1;omega
def yd:Kd Unit:={
 sz:=1
 agg:=false
 R:=λ_ cs _=>∃c,cs=[c]∧c.oneCell'=true
 mono:=λ_ h=>h
 len:=λh=>by obtain⟨c,rfl,_⟩:=h;rfl
 one:=λh=>by obtain⟨c,rfl,h1⟩:=h;simpa using h1
 pos:=by decide
 flat:=λ_=>rfl
 }
theorem GS.one (h:GS k m b cs v xs):v.oneCell'=true:=by
 obtain⟨a,cap,rfl,_⟩:=h.val
 rfl
theorem Kb {c:Value}(hE:ax δ n a l)(hS:S W0 m w L TL)(hT:dy P t yd)(hx:evl l x=some (.pointer (some ⟨b,o,none⟩)))(hL:L[i]? =some (b,cs))(hc:cs[o]? =some c)(h1:c.oneCell'=true):aD P ⟨some d,.load t x,ty,pos,aft,g⟩ a w c w:=by
 have e:(cs.drop o).take 1=[c]:=by
  rw[Xq,Xk,hc];rfl
 have hlt:=(Z0.1 hc).1;have hR:yd.R m ((cs.drop o).take yd.sz) ():=⟨c,e,h1⟩
 have hA:At w b o ((cs.drop o).take yd.sz):=hS.atL hL (by rw[yd.len hR]) (by rw[yd.len hR];exact yd.pos);have hr:=ja hT hR hA
 have hv:yd.val ((cs.drop o).take yd.sz)=c:=by
  show yd.val ((cs.drop o).take 1)=c;rw[e];rfl
 rw[hv] at hr;simp[aD,execOp,Instr.loadAt,hE.eval hx,Instr.sureAddr,hr]
theorem S.tailsN (h:S W0 m w L TL) (sz:Nat): ∀q,S W0 m w L (tls sz (Zu q (.slice none 0 0))++TL)
 |0=>h
 |q+1=>(S.tailsN h sz q).tail0 sz
theorem S.dropR {sz:Nat}(h:S W0 m w L (tls sz rows++TL)):S W0 m w L TL:=by
 have:=h.dropT (tls sz rows).length;simpa using this
theorem Il {e:TypeId} {by_ N sz:Nat} {kk kc:IntKind} {i:Int} {xs:List α} {x0:α} {inf:TypeInfo} {z:Value} (hE:ax δ n a l) (hS:S W0 m w L TL) (hx:evl l x=some (.int kk i)) (hy:evl l y=some (.int kc i)) (hu:P.underlying t=some (.slice e)) (hi:P.info? e=some inf) (hz:inf.zero=some z) (hsz:inf.size=k.sz) (hby:inf.bytes=by_) (hz0: ∀m,k.R m z.cells.toList x0)
  (hmk:mk N i x0=some xs) (hN:Xl (N*by_) 281474976710656=true) (hM:Xl N 281474976710656=true) (ho:z.cells.toList[o]? =some (.slice none 0 0)):
  bg P ⟨some d,.makeSlice t x y,ty,pos,aft,g⟩ a w (λv w'=>∃b cs rows,GR k o m b cs v xs rows∧S W0 m w' ((b,cs)::L) (tls sz rows++TL)):=by
 unfold mk at hmk;split at hmk
 ·rename_i h0
  injection hmk with hmk
  subst hmk;have hb:=Z1 hN;have hM':=Z1 hM
  have hrun:=run_make (P:=P) w t e inf z hu hi hz kk kc i i h0.1 (Int.le_refl _) (by
   rw[hby];have h1:(by_:Int)*i≤by_*N:=Int.mul_le_mul_of_nonneg_left h0.2 (by omega);have h2:((N*by_:Nat):Int)=by_*N:=by rw[Int.natCast_mul,Int.mul_comm]
   omega) (by omega)
  have hr:aD P ⟨some d,.makeSlice t x y,ty,pos,aft,g⟩ a w (.slice (some ⟨w.heap.size,0,none⟩) i.toNat i.toNat) (w.alloc (.cells (madeCells z.cells (i.toNat*inf.size)) e)):=by
   simp[aD,execOp,hE.eval hx,hE.eval hy,hrun]
  have hzl:=k.len (hz0 m);have hpos:=k.pos
  have hel:∀q j:Nat,j<q→((madeCells z.cells (q*k.sz)).toList.drop (j*k.sz)).take k.sz=z.cells.toList:=λq j hj'=>by
   apply List.ext_getElem?
   intro r;rw[List.getElem?_take,Zc]
   have h2:j*k.sz+k.sz≤q*k.sz:=by
    have:=Nat.mul_le_mul_right k.sz (show j+1≤q by omega);rw[Zl] at this;omega
   by_cases hr':r<k.sz
   ·rw [if_pos hr']
    have hzs:z.cells.size=k.sz:=by simpa using hzl
    have h3:(j*k.sz+r)%k.sz=r:=by rw[Nat.mul_comm,Nat.mul_add_mod];exact Nat.mod_eq_of_lt hr'
    have h4:j*k.sz+r<q*k.sz:=by omega
    have hrz:r<z.cells.size:=by omega
    have h5:z.cells[r]! =z.cells[r]:=getElem!_pos z.cells r hrz;simp[madeCells,h4,hzs,h3,h5,Array.getElem?_eq_getElem hrz]
   ·rw [if_neg hr']
    have hzs:z.cells.toList.length=k.sz:=hzl;rw[Xi (by omega)]
  have hcells:∀q:Nat,Rl k m (madeCells z.cells (q*k.sz)).toList (Zu q x0):=λq=>by
   refine⟨by simp[madeCells],λj hj=>?_⟩;simp only[List.getElem_replicate];rw[hel q j (by simpa using hj)];exact hz0 m
  refine hr.step ⟨w.heap.size,(madeCells z.cells (i.toNat*k.sz)).toList,Zu i.toNat (.slice none 0 0),⟨?_,by simp,λq r hq=>?_⟩,?_⟩
  ·have:=GS.of_Rl (b:=w.heap.size) (hcells i.toNat) (by unfold cI;simp;omega)
   simpa using this
  ·rw [List.getElem?_replicate] at hq
   split at hq
   ·rename_i hlt
    injection hq with hq;subst hq
    have h1:=hel i.toNat q hlt
    have ho':o<k.sz:=by
     have:=(Z0.1 ho).1;rw[←hzl];exact this
    have h2:(((madeCells z.cells (i.toNat*k.sz)).toList.drop (q*k.sz)).take k.sz)[o]? =some (.slice none 0 0):=by rw[h1];exact ho
    rw[Zf ho',Zc] at h2;exact h2
   ·cases hq
  ·have h1:=hS.allocL (madeCells z.cells (i.toNat*k.sz)).toList e
   rw[hsz];refine S.tailsN (sz:=sz) ?_ i.toNat;simpa using h1
 ·cases hmk
theorem Kc {zc:List Value}(hE:ax δ n a l)(hS:S W0 m w L TL)(hx:evl l x=some (.agg zc.toArray)):bg P ⟨some d,.box t x,ty,pos,aft,g⟩ a w (λv w'=>∃b,v= .pointer (some ⟨b,0,none⟩)∧S W0 m w' ((b,zc)::L) TL):=by
 have hr:aD P ⟨some d,.box t x,ty,pos,aft,g⟩ a w (.pointer (some ⟨w.heap.size,0,none⟩)) (w.alloc (.cells zc.toArray t)):=by
  simp[aD,execOp,Instr.box,hE.eval hx,newVar,newRow,Value.cells]
 exact hr.step ⟨_,rfl,hS.allocL zc t⟩
theorem Gy {kT:Kd α} {u:Value} {xx:α} (hE:ax δ n a l) (hS:S W0 m w L TL) (hT:dy P t yd) (hf:StF kT yd o (fun x _=>x)) (hx:evl l x=some (.pointer (some ⟨b,o,none⟩))) (hy:evl l y=some u) (h1:u.oneCell'=true) (hL:L[i]? =some (b,cs)) (hR:kT.R m cs xx):
  bg P ⟨none,.store t x y,ty,pos,aft,g⟩ a w (λ_ w'=>∃cs',kT.R m cs' xx∧cs'[o]? =some u∧S W0 m w' (L.set i (b,cs')) TL):=
 (sE (k:=yd) (xx:=()) hE hS hT hx hy ⟨[u],⟨u,rfl,h1⟩,rfl⟩ hL (by rw[kT.len hR];exact hf.1)).imp λ_ _ ⟨vs,h1,h0,h2⟩=>⟨_,hf.2 m cs vs xx () hR h1,by
  have hl:=yd.len h1
  match vs,hl,h0 with
  |[c],_,h0=>
   have h0:u=c:=h0;subst h0;have h1:=hf.1;rw[←kT.len hR] at h1;have h1:o+1≤cs.length:=h1;rw[Z5,Z4 (by simp only[Z7];omega),show o - (cs.take o).length=0 by simp only[Z7];omega]
   rfl,h2⟩
end
set_option linter.unusedVariables false
abbrev ei (k:IntKind)(x:Int)(v:Value):Prop:=v= .int k x∧inR k x
theorem gz {x b:Bool}(h:x=b):∀(m:M) (ws:List Wit) (v:Value),v= .bool x→v= .bool b:=λ_ _ _ h'=>by rw[h',h]
section
variable {δ:List Nat}{ro:Option Nat}{P:Program}{os:List Oper}{Φ:Nat→M→List Wit→Value→Prop}{Q:Nat→M→List Wit→List (Nat×List Value)→List (Nat×Value)→Prop}{W0:Bse}{m:M}{n:Nat}{cs:List COp}{i:Nat}{c:COp}{dst:Option Tmp}{op:Op}{ty:TypeId}{pos:String}{aft:Array Edge}
theorem cp0 (h: ∀post L' TL' m' a w,c.lo+post.length≤c.hi→M.le m m'→Q (c.lo+post.length) m' ([]++post) L' TL'→S W0 m' w L' TL'→ax δ n a c.olds→
  (∀(j:Nat) (_:j∈bX ⟨dst,op,ty,pos,aft,none⟩:=by decide) {d:Nat} (_:cz os.toArray j=some d:=by exact rfl),Φ j m' (([]:List Wit).take ((cs.map COp.lv).getD j 0)) (a.tmps.getD d undef))→
  bg P ⟨dst,op,ty,pos,aft,none⟩ a w (λv w'=>∃m'',M.le m' m''∧S W0 m'' w' L' TL'∧Φ i m'' [] v)) (h0:c.lo=0:=by exact rfl):
  ChS δ P os Φ Q W0 m n cs i c ⟨dst,op,ty,pos,aft,none⟩:=Gm λpre post L' TL' m' a w h1 h2 h3 h4 h5 h6 h7=>by
 obtain rfl:pre=[]:=eh (by rw[h1,h0]);exact h post L' TL' m' a w h2 h3 h4 h5 h6 λj hj d hd=>h7 j hj d hd
theorem cp1 (h: ∀L' TL' m' a w,M.le m m'→Q 0 m' [] L' TL'→S W0 m' w L' TL'→ax δ n a c.olds→
  (∀(j:Nat) (_:j∈bX ⟨dst,op,ty,pos,aft,none⟩:=by decide) {d:Nat} (_:cz os.toArray j=some d:=by exact rfl),Φ j m' (([]:List Wit).take ((cs.map COp.lv).getD j 0)) (a.tmps.getD d undef))→
  bg P ⟨dst,op,ty,pos,aft,none⟩ a w (λv w'=>∃m'',M.le m' m''∧S W0 m'' w' L' TL'∧Φ i m'' [] v)) (h0:c.lo=0:=by exact rfl) (h1:c.hi=0:=by exact rfl):
  ChS δ P os Φ Q W0 m n cs i c ⟨dst,op,ty,pos,aft,none⟩:=cp0 (λpost L' TL' m' a w h2 h3 h4 h5 h6 h7=>by
 obtain rfl:post=[]:=eh (by rw[h1] at h2;omega);rw[h0] at h4
 exact h L' TL' m' a w h3 h4 h5 h6 @h7) h0
theorem cmv {x:Operand} {v:Value} (hp: ∀m',M.le m m'→Φ i m' [] v) (h0:c.lo=0:=by exact rfl) (hx:evl c.olds x=some v:=by exact rfl):ChS δ P os Φ Q W0 m n cs i c ⟨dst,.move x,ty,pos,aft,none⟩:=
 cp0 (λpost L' TL' m' a w h2 h3 h4 h5 h6 h7=>bg.imp (aD.pure (iF h6 hx)) λ_ _ ⟨e1,e2⟩=>by subst e1 e2;exact⟨_,Xm _,h5,hp _ h3⟩) h0
theorem cg0 {g dg:Nat} {b:Bool} (hq: ∀m ws v,Φ g m ws v→v= .bool b)
  (h:∀post L' TL' m' a w,c.lo+post.length≤c.hi→M.le m m'→Q (c.lo+post.length) m' ([]++post) L' TL'→S W0 m' w L' TL'→ax δ n a c.olds→
  (∀(j:Nat) (_:j∈bX ⟨dst,op,ty,pos,aft,some (g,b)⟩:=by decide) {d:Nat} (_:cz os.toArray j=some d:=by exact rfl),Φ j m' (([]:List Wit).take ((cs.map COp.lv).getD j 0)) (a.tmps.getD d undef))→
  bg P ⟨dst,op,ty,pos,aft,some (g,b)⟩ a w (λv w'=>∃m'',M.le m' m''∧S W0 m'' w' L' TL'∧Φ i m'' [] v)) (h0:c.lo=0:=by exact rfl)
  (hd:cz os.toArray g=some dg:=by exact rfl) (hn:Zn dg n=true:=by exact rfl) (hg:g∈bX ⟨dst,op,ty,pos,aft,some (g,b)⟩:=by decide):
  ChS δ P os Φ Q W0 m n cs i c ⟨dst,op,ty,pos,aft,some (g,b)⟩:=LI hd hn hg hq λpre post L' TL' m' a w h1 h2 h3 h4 h5 h6 h7=>by
 obtain rfl:pre=[]:=eh (by rw[h1,h0]);exact h post L' TL' m' a w h2 h3 h4 h5 h6 λj hj d hd=>h7 j hj d hd
theorem cg1 {g dg:Nat} {b:Bool} (hq: ∀m ws v,Φ g m ws v→v= .bool b)
  (h:∀L' TL' m' a w,M.le m m'→Q 0 m' [] L' TL'→S W0 m' w L' TL'→ax δ n a c.olds→
  (∀(j:Nat) (_:j∈bX ⟨dst,op,ty,pos,aft,some (g,b)⟩:=by decide) {d:Nat} (_:cz os.toArray j=some d:=by exact rfl),Φ j m' (([]:List Wit).take ((cs.map COp.lv).getD j 0)) (a.tmps.getD d undef))→
  bg P ⟨dst,op,ty,pos,aft,some (g,b)⟩ a w (λv w'=>∃m'',M.le m' m''∧S W0 m'' w' L' TL'∧Φ i m'' [] v)) (h0:c.lo=0:=by exact rfl) (h1:c.hi=0:=by exact rfl)
  (hd:cz os.toArray g=some dg:=by exact rfl) (hn:Zn dg n=true:=by exact rfl) (hg:g∈bX ⟨dst,op,ty,pos,aft,some (g,b)⟩:=by decide):
  ChS δ P os Φ Q W0 m n cs i c ⟨dst,op,ty,pos,aft,some (g,b)⟩:=cg0 hq (λpost L' TL' m' a w h2 h3 h4 h5 h6 h7=>by
 obtain rfl:post=[]:=eh (by rw[h1] at h2;omega);rw[h0] at h4
 exact h L' TL' m' a w h3 h4 h5 h6 @h7) h0 hd hn hg
theorem cgm {g dg:Nat} {b:Bool} {x:Operand} {v:Value} (hq: ∀m ws v,Φ g m ws v→v= .bool b) (hp: ∀m',M.le m m'→Φ i m' [] v) (h0:c.lo=0:=by exact rfl) (hx:evl c.olds x=some v:=by exact rfl)
  (hd:cz os.toArray g=some dg:=by exact rfl) (hn:Zn dg n=true:=by exact rfl) (hg:g∈bX ⟨dst,.move x,ty,pos,aft,some (g,b)⟩:=by decide):ChS δ P os Φ Q W0 m n cs i c ⟨dst,.move x,ty,pos,aft,some (g,b)⟩:=
 cg0 hq (λpost L' TL' m' a w h2 h3 h4 h5 h6 h7=>bg.imp (aD.pure (iF h6 hx)) λ_ _ ⟨e1,e2⟩=>by subst e1 e2;exact⟨_,Xm _,h5,hp _ h3⟩) h0 hd hn hg
theorem csk {g dg:Nat} {b b':Bool} (hq: ∀m ws v,Φ g m ws v→v= .bool b) (hd:cz os.toArray g=some dg:=by exact rfl) (hn:Zn dg n=true:=by exact rfl) (hg:g∈bX ⟨dst,op,ty,pos,aft,some (g,b')⟩:=by decide) (hb:b≠b':=by decide) (h: ∀m ws,Φ i m ws undef:=by exact fun _ _=>rfl):
  ChS δ P os Φ Q W0 m n cs i c ⟨dst,op,ty,pos,aft,some (g,b')⟩:=Pp hd hn hg hq hb h
end
section
variable {P:Program}{o:Oper}{a:Act}{w:World}{W0:Bse}{m':M}{L:List (Nat×List Value)}{TL:List (Nat×Value)}{v:Value}{F:M→Value→Prop}{R:Value→Prop}
theorem cq (h:aD P o a w v w) (hS:S W0 m' w L TL) (hp:F m' v):bg P o a w (fun v w'=> ∃m'',M.le m' m''∧S W0 m'' w' L TL∧F m'' v):=
 bg.imp (aD.pure h) λ_ _ ⟨e1,e2⟩=>by subst e1 e2;exact⟨_,Xm _,hS,hp⟩
theorem cr (h:bg P o a w (fun v w'=>w=w'∧R v)) (hS:S W0 m' w L TL) (hp: ∀v,R v→F m' v):bg P o a w (fun v w'=> ∃m'',M.le m' m''∧S W0 m'' w' L TL∧F m'' v):=
 bg.imp h λ_ _ ⟨e,hv⟩=>by subst e;exact⟨_,Xm _,hS,hp _ hv⟩
end
section
variable {δ:List Nat}{ro:Option Nat}{P:Program}{ops:Array Oper}{Q:Exit→Act→World→Prop}{rest:List Oper}{a:Act}{w:World}{n:Nat}{l:List (Nat×Value)}{d:Nat}{op:Op}{ty t t':TypeId}{pos:String}{aft:Array Edge}{v:Value}
theorem qM {x:Operand}(hE:ax δ n a l)(hx:evl l x=some v)(k:∀a',ax δ n a' ((d,v)::l)→wpL ro P ops Q rest a' w)(hd:Zn d n=true:=by exact rfl):wpL ro P ops Q (⟨some d,.move x,ty,pos,aft,none⟩::rest) a w:=sp hE (iF hE hx) hd k
theorem qA {x:Operand}(hE:ax δ n a l)(hx:evl l x=some v)(k:∀a',ax δ n a' ((d,v)::l)→wpL ro P ops Q rest a' w)(hd:Zn d n=true:=by exact rfl):wpL ro P ops Q (⟨some d,.assign x,ty,pos,aft,none⟩::rest) a w:=sp hE (ma hE hx) hd k
theorem qB {x y:Operand} {bo:BinOp} {k k':IntKind} {p q:Int} (hE:ax δ n a l) (hx:evl l x=some (.int k p)) (hy:evl l y=some (.int k' q)) (hr: ∀w,(binOp bo t (.int k p) (.int k' q)).run P w= .ok v w)
  (kk:∀a',ax δ n a' ((d,v)::l)→wpL ro P ops Q rest a' w) (hd:Zn d n=true:=by exact rfl):wpL ro P ops Q (⟨some d,.binOp bo t x y t',ty,pos,aft,none⟩::rest) a w:=sp hE (aP hE hx hy hr) hd kk
theorem qX {g:Nat} {b b':Bool} {o:Oper} {dg:Nat} (hE:ax δ n a l) (hb:b= !b') (k: ∀a',ax δ n a' ((d,undef)::l)→wpL ro P ops Q rest a' w) (hg:ops[g]? =some o:=by exact rfl) (ho:o.dst=some dg:=by exact rfl) (hdg:Zn dg n=true:=by exact rfl) (hl:lk l dg=some (.bool b):=by exact rfl)
  (hd:Zn d n=true:=by exact rfl):wpL ro P ops Q (⟨some d,op,ty,pos,aft,some (g,b')⟩::rest) a w:=sx hE hg ho hdg hl hb hd k
theorem qG {og:Oper} {g dg:Nat} {b c:Bool} {x:Operand} (hE:ax δ n a l) (hc:c=b) (hx:evl l x=some v) (k: ∀a',ax δ n a' ((d,v)::l)→wpL ro P ops Q rest a' w) (hg:ops[g]? =some og:=by exact rfl) (ho:og.dst=some dg:=by exact rfl) (hdg:Zn dg n=true:=by exact rfl) (hl:lk l dg=some (.bool c):=by exact rfl)
  (hd:Zn d n=true:=by exact rfl):wpL ro P ops Q (⟨some d,.move x,ty,pos,aft,some (g,b)⟩::rest) a w:=spg hE hg ho hdg hl hc (iF hE hx) hd k
theorem qT {b:Bool}{x y z:Operand}(hE:ax δ n a l)(hb:b=true)(hy:evl l y=some v)(k:∀a',ax δ n a' ((d,v)::l)→wpL ro P ops Q rest a' w)(hx:evl l x=some (.bool b):=by exact rfl)(hd:Zn d n=true:=by exact rfl):wpL ro P ops Q (⟨some d,.pick x y z,ty,pos,aft,none⟩::rest) a w:=sp hE (tT hE hx hb hy) hd k
theorem qF {b:Bool}{x y z:Operand}(hE:ax δ n a l)(hb:b=false)(hz:evl l z=some v)(k:∀a',ax δ n a' ((d,v)::l)→wpL ro P ops Q rest a' w)(hx:evl l x=some (.bool b):=by exact rfl)(hd:Zn d n=true:=by exact rfl):wpL ro P ops Q (⟨some d,.pick x y z,ty,pos,aft,none⟩::rest) a w:=sp hE (tU hE hx hb hz) hd k
end
section
variable {P:Program}{f:FuncId}{fn:Func}{c:Code}{args:List Value}{n:Nat}{w:World}{R:Value→World→Prop}
theorem kc (hf:P.funcs[f]? =some fn) (hn:fn.ntmps=n) (h: ∀a,Env n a ((Zg args.length).zip args)→K none P c (Fin P fn R) [] (Fin P fn R) a w) (hb:fn.body=some c:=by exact rfl) (hle:Xl args.length n=true:=by exact rfl):Calls P f args.toArray w (Ret R):=
 yR hf hb hn (Z1 hle) h
theorem f1 {a:Act}{l:List (Nat×Value)}{t:Nat}{v:Value}(hE:Env n a l)(hR:R v w)(hr:fn.results.toList=[.tmp t]:=by exact rfl)(h:lk l t=some v:=by exact rfl):Fin P fn R a w:=Fin.mk hE hr (rx.tmp hE h rx.nil) hR
theorem f2 {a:Act}{l:List (Nat×Value)}{t t':Nat}{v v':Value}(hE:Env n a l)(hR:R (.tuple #[v,v']) w)(hr:fn.results.toList=[.tmp t,.tmp t']:=by exact rfl)(h:lk l t=some v:=by exact rfl)(h':lk l t'=some v':=by exact rfl):Fin P fn R a w:=Fin.mk hE hr (rx.tmp hE h (rx.tmp hE h' rx.nil)) hR
theorem rm {vs:Array Value} {Q Q':Value→World→Prop} (h:Calls P f vs w (Ret Q)) (k: ∀v w',Q v w'→Q' v w'):Calls P f vs w (Ret Q'):=
 h.mono λe w' he=>by
  cases e with
  |returned v=>exact k v w' he
  |panicked ch=>exact he.elim
  |outgrown=>exact he.elim
end
section
variable {α β γ:Type}{r:γ}
theorem ob2 {x:Option α}{y:α→Option β}{f:α→β→Option γ}(h:(x.bind λa=>(y a).bind (f a))=some r):∃a,x=some a∧∃b,y a=some b∧f a b=some r:=by
 obtain⟨a,h1,h⟩:=ob h;obtain⟨b,h2,h⟩:=ob h;exact⟨a,h1,b,h2,h⟩
end
theorem kut {δ:List Nat}{n:Nat}{a:Act}{l l':List (Nat×Value)}(h:ax δ n a l)(hs:Sub l l':=by repeat' first|exact trivial|exact rfl|refine And.intro ?_ ?_):ax δ n a l':=h.cut hs
theorem eof {δ:List Nat} {n:Nat} {a:Act} {l:List (Nat×Value)} (k:Nat) (l':List (Nat×Value)) (h1:a.defers=δ.map fun D=>{ target:= .collected D,args:= #[] }) (h2:a.tmps.size=n) {ops:Array Oper} (h3: ∀d v,lk l d=some v→(∀j,j<k→cz ops j≠some d)→a.tmps.getD d undef=v) (hs:Sub l l':=by repeat' first|exact trivial|exact rfl|refine And.intro ?_ ?_)
  (hk:(Zg k).all (λj=>match cz ops j with|some d=>l'.all (λe=> !(X8 e.1 d))|none=>true)=true:=by exact rfl):ax δ n a l':=ax.of h1 h2 h3 hs hk
abbrev pz (b:Nat):Value:= .pointer (some ⟨b,0,none⟩)
theorem adv {δ:List Nat}{n:Nat}{a:Act}{l:List (Nat×Value)}{α:Type}{k:Kd α}{m:M}{d:Nat}{x:α}(hE:ax δ n a l)(h:RV k m (a.tmps.getD d undef) x):∃v,ax δ n a ((d,v)::l)∧RV k m v x:=⟨_,hE.add rfl,h⟩
section
variable {δ:List Nat}{ro:Option Nat}{P:Program}{Φ:Nat→M→List Wit→Value→Prop}{Q:Nat→M→List Wit→List (Nat×List Value)→List (Nat×Value)→Prop}{W0:Bse}{m:M}{n:Nat}{a:Act}{l:List (Nat×Value)}{w:World}{L:List (Nat×List Value)}{TL:List (Nat×Value)}
theorem kch {os:List Oper} {id k:Nat} {es:List Nat} {cs:List COp} {N Rt:Act→World→Prop} {X:List (Nat×(Act→World→Prop))}
  (hm:P.follows .mixedOrders=true) (hE:ax δ n a l) (hS:S W0 m w L TL) (hQ:Q 0 m [] L TL) (hed:ov os=true) (htl:oJ os k=true) (hok:Id os es cs k n=true)
  (mono:∀i m m' ws v,M.le m m'→Φ i m ws v→Φ i m' ws v) (monq:∀c m m' ws L T,M.le m m'→Q c m ws L T→Q c m' ws L T)
  (step:BZ δ P os Φ Q W0 m n cs 0 cs os)
  (fin: ∀ws L' TL' m' a w,ws.length=es.length→M.le m m'→Q es.length m' ws L' TL'→S W0 m' w L' TL'→a.defers=δ.map (fun D=>{ target:= .collected D,args:= #[] })→a.tmps.size=n→(∀d v,lk l d=some v→(∀j,j<k→cz os.toArray j≠some d)→a.tmps.getD d undef=v)→
   (∀(j:Nat) (_:Zn j (min k os.length)=true:=by exact rfl) {d:Nat} (_:cz os.toArray j=some d:=by exact rfl),Φ j m' (ws.take ((cs.map COp.lv).getD j 0)) (a.tmps.getD d undef))→wpL ro P os.toArray (mkQ N X Rt) (os.drop k) a w) (hsub:B3 l cs:=by repeat' first|exact trivial|exact rfl|refine And.intro ?_ ?_):K ro P (.region id os.toArray true) N X Rt a w:=
 LH hm hE hS hQ hed htl hsub hok mono monq step λws L' TL' m' a w h1 h2 h3 h4 h5 h6 h7 h8=>fin ws L' TL' m' a w h1 h2 h3 h4 h5 h6 h7 λj hj d hd=>h8 j (Z1 hj) d hd
end
set_option linter.unusedVariables false
set_option linter.unusedSimpArgs false
section
variable {δ:List Nat}{P:Program}{W0:Bse}{m:M}{L:List (Nat×List Value)}{TL:List (Nat×Value)}{n:Nat}{a:Act}{l:List (Nat×Value)}{w:World}{ty t t2 e:TypeId}{pos:String}{aft:Array Edge}{g:Option (Nat×Bool)}{x y:Operand}{d:Nat}{α:Type}{k:Kd α}{by_ N:Nat}
theorem Ke {v u:Value} {q b0:Nat} {xs ys zs:List α} (hE:ax δ n a l) (hS:S W0 m w L TL) (hx:evl l x=some v) (hy:evl l y=some u) (hu:P.underlying t=some (.slice e)) (hel:mS P e k.sz by_) (hvv:v= .slice (some ⟨b0,0,none⟩) q q) (hv:RV (kSl k) m v xs) (hpos:0<ys.length) (hw:uv P k m w t2 u ys) (happ:app N xs ys=some zs)
  (hN:Xl (N*by_) 140737488355328=true) (hM:Xl N 281474976710656=true):
  bg P ⟨some d,.call ⟨.builtin .append,#[x,y],#[t,t2]⟩,ty,pos,aft,g⟩ a w (λv' w'=>∃b' cs',GS k m b' cs' v' zs∧S W0 m w' ((b',cs')::L) TL):=by
 obtain⟨hle,rfl⟩:=ut happ;obtain⟨hux,hn,news,hR,hf⟩:=hw;have hN':(xs.length+ys.length)*by_≤140737488355328:=by have:=Nat.mul_le_mul_right by_ hle;have:=Z1 hN;omega
 have hM':xs.length+ys.length≤cI:=by have:=Z1 hM;unfold cI;omega
 have hMx:xs.length+ys.length≤281474976710656:=hM';obtain⟨inf,z,hi,hsz,hby,hz,hzc⟩:=hel.ok;have hp:=k.pos
 suffices hmain:∃v' w' b' cs',(Builtin.append_ #[t,t2] ty #[v,u]).run P w= .ok v' w'∧GS k m b' cs' v' (xs++ys)∧S W0 m w' ((b',cs')::L) TL by
  obtain⟨v',w',b',cs',hrun,h1,h2⟩:=hmain
  have hr:aD P ⟨some d,.call ⟨.builtin .append,#[x,y],#[t,t2]⟩,ty,pos,aft,g⟩ a w v' w':=by
   simp[aD,execOp,resolve,invoke,builtin,hE.eval hx,hE.eval hy,hrun]
  exact hr.step ⟨b',cs',h1,h2⟩
 obtain⟨gcs,hcs,hfc,_⟩:=kr (P:=P) hS hv
 have hql:q=xs.length:=by
  obtain⟨ad,cap,h1,_⟩:=kJ hv;rw[hvv] at h1;injection h1
 subst hql;have hgt:xs.length<xs.length+ys.length:=by omega
 have h63: ¬ (9223372036854775807<((xs.length:Int)+(ys.length:Int))):=by omega
 have h48: ¬ (281474976710656<Builtin.nextslicecap (xs.length+ys.length) xs.length*inf.bytes):=by
  have:=growslice_fits hgt (bytes:=inf.bytes) (by rw[hby];exact hN');omega
 have hfit: ¬ (xs.length+ys.length≤xs.length):=by omega
 have hy0:ys≠[]:=λh=>by subst h;simp at hpos
 generalize hcapn:grownCap w (xs.length+ys.length) xs.length e=cap' at*
 have hcap':xs.length+ys.length≤cap':=by
  rw[←hcapn];simp[grownCap,Question.cut]
 let rest:=(Builtin.zeroCells z.cells (cap' - (xs.length+ys.length))).toList
 have hrl:rest.length=(cap' - (xs.length+ys.length))*k.sz:=by simp[rest,Builtin.zeroCells,hzc]
 have hrlz:(xs.length+ys.length)*k.sz+rest.length=cap'*k.sz:=by rw[hrl,←Zl];congr 1;omega
 rw[Zl] at hrlz;refine⟨.slice (some ⟨w.heap.size,0,none⟩) (xs++ys).length cap',w.drew.alloc (.cells (gcs++news++rest).toArray e),w.heap.size,gcs++news++rest,?_,⟨by simpa using hM',.inr ⟨cap',rfl,by simpa using hcap',?_,?_⟩⟩,?_⟩
 ·have hfd:=hfc w.drew (fun _ _=>rfl)
  have hfd':=hf w.drew (λ_ _=>rfl)
  have e2:gcs.toArray++(news.toArray++Builtin.zeroCells z.cells (cap' - (xs.length+ys.length)))=(gcs++(news++rest)).toArray:=by
   apply Array.ext';simp[rest]
  have hcapn':(Question.appendCap (xs.length+ys.length) xs.length e).cut (w.tape w.drawn (Question.appendCap (xs.length+ys.length) xs.length e))=cap':=hcapn;subst hvv;rcases hux with⟨_,hux⟩|hux<;>simp[Builtin.append_,run_underlying hu,run_underlying hux,sizeOf,typeInfo,zeroValue,hi,hz,hn,hsz,hfit,hy0,h63,h48,Question.forced,hfd,hfd',newRow,hcapn',e2]
 ·simp[hcs.1,hR.1];omega
 ·rw [List.take_append_of_le_length (by simp [hcs.1,hR.1,Zl]),Xg (by simp [hcs.1,hR.1,Zl])]
  exact Rl.app hcs hR
 ·exact hS.drew.allocL (gcs++news++rest) e
end
set_option linter.unusedVariables false
set_option linter.unusedSimpArgs false
structure Swo {α:Type} (lt:α→α→Bool):Prop where
 irr:∀a,lt a a=false
 tr:∀a b c,lt a b=true→lt b c=true→lt a c=true
 inc:∀a b c,lt a b=false→lt b c=false→lt a c=false
section
variable {α:Type}{lt:α→α→Bool}
def eqv (lt:α→α→Bool)(a b:α):Bool:= !lt a b&& !lt b a
def Srt (lt:α→α→Bool)(l:List α):Prop:=l.Pairwise λa b=>lt b a=false
theorem kL (h:Swo lt)(a:α):eqv lt a a=true:=by simp[eqv,h.irr]
theorem Fb (h:Swo lt):∀{l l':List α},Srt lt l→Srt lt l'→(∀a,l.filter (eqv lt a)=l'.filter (eqv lt a))→l=l':=by
 intro l
 induction l with
 | nil =>
  intro l' _ _ hf;cases l' with
  |nil=>rfl
  |cons b t=>
   have:=hf b;rw[Ze,if_pos (kL h b)] at this;cases this
 | cons a t ih =>
  intro l' hs hs' hf;cases l' with
  |nil=>
   have:=hf a;rw[Ze,if_pos (kL h a)] at this;cases this
  | cons b t' =>
   unfold Srt at hs hs';rw[List.pairwise_cons] at hs hs'
   have ha:a∈b::t':=by
    have h1:a∈(a::t).filter (eqv lt a):=Z6.2 ⟨by simp,kL h a⟩;rw[hf a] at h1;exact(Z6.1 h1).1
   have hb:b∈a::t:=by
    have h1:b∈(b::t').filter (eqv lt b):=Z6.2 ⟨by simp,kL h b⟩;rw[←hf b] at h1;exact(Z6.1 h1).1
   have h1:lt a b=false:=by
    rcases Zj.1 ha with rfl|ha
    ·exact h.irr _
    ·exact hs'.1 a ha
   have h2:lt b a=false:=by
    rcases Zj.1 hb with rfl|hb
    ·exact h.irr _
    ·exact hs.1 b hb
   have hab:a=b:=by
    have:=hf a;rw[Ze,if_pos (kL h a),Ze,if_pos (by simp[eqv,h1,h2])] at this;exact(List.cons.inj this).1
   subst hab;congr 1;refine ih hs.2 hs'.2 λc=>?_;have:=hf c;rw[Ze,Ze] at this;split at this
   ·exact(List.cons.inj this).2
   ·exact this
structure Stb (lt:α→α→Bool) (l l':List α):Prop where
 srt:Srt lt l'
 flt:∀a,l'.filter (eqv lt a)=l.filter (eqv lt a)
theorem Stb.unique (h:Swo lt) {l l1 l2:List α} (h1:Stb lt l l1) (h2:Stb lt l l2):l1=l2:=
 Fb h h1.srt h2.srt λa=>(h1.flt a).trans (h2.flt a).symm
theorem Stb.mem (h:Swo lt){l l':List α}(hs:Stb lt l l'){x:α}:x∈l'↔x∈l:=by
 constructor
 ·intro hx
  have:x∈l'.filter (eqv lt x):=Z6.2 ⟨hx,kL h x⟩;rw[hs.flt x] at this;exact(Z6.1 this).1
 ·intro hx
  have:x∈l.filter (eqv lt x):=Z6.2 ⟨hx,kL h x⟩;rw[←hs.flt x] at this;exact(Z6.1 this).1
theorem Swo.asym (h:Swo lt){a b:α}(hab:lt a b=true):lt b a=false:=by
 cases hb:lt b a with
 |false=>rfl
 |true=>have:=h.tr a b a hab hb;rw[h.irr] at this;cases this
theorem Stb.cat (h:Swo lt) {A1 A2 B1 B2 R1 R2:List α} (h1:Stb lt (A1++B1) R1) (h2:Stb lt (A2++B2) R2) (hA:Srt lt (A1++A2)) (hB:Srt lt (B1++B2)) (c1: ∀b∈B1,∀a∈A2,lt b a=true) (c2: ∀a∈A1,∀b∈B2,lt b a=false):
  Stb lt ((A1++A2)++(B1++B2)) (R1++R2):=by
 unfold Srt at hA hB;rw[Zh] at hA hB;refine⟨?_,λc=>?_⟩
 ·unfold Srt
  rw[Zh];refine⟨h1.srt,h2.srt,λx hx y hy=>?_⟩;have hx:=(h1.mem h).1 hx;have hy:=(h2.mem h).1 hy;rcases Zi.1 hx with hx|hx<;>rcases Zi.1 hy with hy|hy
  ·exact hA.2.2 x hx y hy
  ·exact c2 x hx y hy
  ·exact h.asym (c1 x hx y hy)
  ·exact hB.2.2 x hx y hy
 ·have key:A2.filter (eqv lt c)++B1.filter (eqv lt c)=B1.filter (eqv lt c)++A2.filter (eqv lt c):=by
   cases ha:A2.filter (eqv lt c) with
   |nil=>simp
   | cons a s =>
    cases hb:B1.filter (eqv lt c) with
    |nil=>simp
    |cons b s'=>
     exfalso;have ha':a∈A2.filter (eqv lt c):=by rw[ha];simp
     have hb':b∈B1.filter (eqv lt c):=by rw[hb];simp
     obtain⟨ha1,ha2⟩:=Z6.1 ha';obtain⟨hb1,hb2⟩:=Z6.1 hb';have hl:=c1 b hb1 a ha1;simp only[eqv,Zm,Zs] at ha2 hb2;rw[h.inc b c a hb2.2 ha2.1] at hl;cases hl
  simp only[List.filter_append,h1.flt,h2.flt,Z5];rw[←Z5 (B1.filter _),←key,Z5]
theorem Stb.refl {l:List α}(hs:Srt lt l):Stb lt l l:=⟨hs,λ_=>rfl⟩
theorem Stb.trans {l l' l2:List α}(h1:∀a,l'.filter (eqv lt a)=l.filter (eqv lt a))(h2:Stb lt l' l2):Stb lt l l2:=⟨h2.srt,λa=>(h2.flt a).trans (h1 a)⟩
theorem Stb.ins (h:Swo lt){S1 S2:List α}{v:α}(hS:Srt lt (S1++S2))(h2:∀s∈S2,lt v s=true)(h1:∀s∈S1,lt v s=false):Stb lt (S1++S2++[v]) (S1++v::S2):=by
 unfold Srt at hS;rw[Zh] at hS;refine⟨?_,λc=>?_⟩
 ·unfold Srt
  rw[Zh,List.pairwise_cons];refine⟨hS.1,⟨λs hs=>h.asym (h2 s hs),hS.2.1⟩,λx hx y hy=>?_⟩;rcases Zj.1 hy with rfl|hy
  ·exact h1 x hx
  ·exact hS.2.2 x hx y hy
 ·simp only [List.filter_append,Ze,List.filter_nil,Z5]
  split
  ·rename_i hv
   have hn:S2.filter (eqv lt c)=[]:=by
    rw[List.filter_eq_nil_iff];intro s hs hc;have hl:=h2 s hs;simp only[eqv,Zm,Zs] at hv hc;rw[h.inc v c s hv.2 hc.1] at hl;cases hl
   rw[hn];simp
  ·simp
theorem CC (h:Swo lt){S:List α}{s v:α}(hS:Srt lt (S++[s]))(hv:lt v s=false):∀x∈S++[s],lt v x=false:=by
 intro x hx;unfold Srt at hS;rw[Zh] at hS;rcases Zi.1 hx with hx|hx
 ·exact h.inc v s x hv (hS.2.2 x hx s (by simp))
 ·simp only[Zd] at hx;subst hx;exact hv
end

inductive Ty where
 |int (k:IntKind)
 |bool
 |str
 |sl (t:Ty)
 |st (i:Nat)
 deriving DecidableEq
structure Sg where
 α:Nat→Type
 k:(i:Nat)→Kd (α i)
def Ty.den (G:Sg):Ty→Type
 | .int _=>Int
 | .bool=>Bool
 | .str=>List Int
 | .sl t=>List (t.den G)
 | .st i=>G.α i
def Ty.kd (G:Sg):(t:Ty)→Kd (t.den G)
 | .int k=>ai k
 | .bool=>cO
 | .str=>qC
 | .sl t=>kSl (t.kd G)
 | .st i=>G.k i
def dM (G:Sg)(a b:Ty)(x:a.den G):Option (b.den G):=if h:a=b then some (h ▸ x) else none
theorem bY {G:Sg}{a b:Ty}{x:a.den G}{y:b.den G}(h:dM G a b x=some y):∃e:a=b,e ▸ x=y:=by
 unfold dM at h;split at h
 ·rename_i e
  injection h with h
  exact⟨e,h⟩
 ·cases h
structure Acc (G:Sg) (a b:Ty) where
 off:Nat
 get:a.den G→b.den G
 set:a.den G→b.den G→a.den G
 fld:Fld (a.kd G) (b.kd G) off get
 stf:StF (a.kd G) (b.kd G) off set
def Acc.self (G:Sg)(a:Ty):Acc G a a:=⟨0,λx=>x,λ_ y=>y,jb,bm⟩
def Acc.comp {G:Sg}{a b c:Ty}(A:Acc G a b)(B:Acc G b c):Acc G a c:=⟨A.off+B.off,λx=>B.get (A.get x),λx y=>A.set x (B.set (A.get x) y),Gh A.fld B.fld,Cm A.fld A.stf B.stf⟩

inductive AV (G:Sg) where
 |li (k:IntKind) (n:Int)
 |dat (t:Ty) (x:t.den G) (o:Option Nat)
 |ptr (t:Ty) (x:t.den G)
 |loc (i:Nat) (a b:Ty) (A:Acc G a b)
 |elp (i j:Nat) (a b:Ty) (A:Acc G a b)
 |blk (i:Nat)
 |own (i:Nat)
 |nils
 |agc (cs:List Value)
 |fn1 (a b:Ty) (f:a.den G→Option (b.den G))
 |fn2 (a c b:Ty) (f:a.den G→c.den G→Option (b.den G))
 |und
inductive EV (G:Sg) where
 |one (v:AV G)
 |tup (vs:List (AV G))
inductive BC (G:Sg) where
 |dat (t:Ty) (x:t.den G)
 |arr (t:Ty) (n:Option Nat) (xs:List (t.den G))
 |gone
structure St (G:Sg) where
 env:List (Nat×Nat×EV G)
 c:Nat
 L:List (Nat×BC G)
 T:List Nat
def fb {α:Type}:List α→Nat→Option α
 |[],_=>none
 |x::l,i=>if X8 i l.length then some x else fb l i
def sb {α:Type}:List α→Nat→α→List α
 |[],_,_=>[]
 |x::l,i,y=>if X8 i l.length then y::l else x::sb l i y
def lke {α:Type}:List (Nat×α)→Nat→Option α
 |[],_=>none
 |(q,x)::l,j=>if X8 q j then some x else lke l j
structure Cz where
 b:List (Nat×Value)
 t:List Value
def Tag (z:Cz)(o:Option Nat)(v:Value):Prop:=match o with|none=>True|some j=>fb z.t j=some v
def AV.Rel (G:Sg) (P:Program) (m:M) (z:Cz):AV G→Value→Prop
 | .li k n,v=>v= .int k n∧inR k n
 | .dat t x o,v=>RV (t.kd G) m v x∧Tag z o v
 | .ptr t x,v=>PR (t.kd G) m v x
 | .loc i _ _ A,v=>∃p,fb z.b i=some p∧v= .pointer (some ⟨p.1,A.off,none⟩)
 | .elp i j a _ A,v=>∃p,fb z.b i=some p∧v= .pointer (some ⟨p.1,j*(a.kd G).sz+A.off,none⟩)
 | .blk i,v=>∃p,fb z.b i=some p∧v= .pointer (some ⟨p.1,0,none⟩)
 | .own i,v=>∃p,fb z.b i=some p∧v=p.2
 | .nils,v=>v= .slice none 0 0
 | .agc cs,v=>v= .agg cs.toArray
 | .fn1 a b f,v=>Fn1 P (a.kd G) (b.kd G) m v f
 | .fn2 a c b f,v=>Fn2 P (a.kd G) (c.kd G) (b.kd G) m v f
 | .und,v=>v=undef
def pw (G:Sg) (P:Program) (m:M) (z:Cz):List (AV G)→List Value→Prop
 |[],[]=>True
 |a::asv,v::vs=>a.Rel G P m z v∧pw G P m z asv vs
 |_,_=>False
def EV.Rel (G:Sg) (P:Program) (m:M) (z:Cz):EV G→Value→Prop
 | .one a,v=>a.Rel G P m z v
 | .tup asv,v=>∃vs:List Value,v= .tuple vs.toArray∧pw G P m z asv vs
def BC.Rel (G:Sg) (m:M):BC G→Nat×Value→List Value→Prop
 | .dat t x,_,cs=>(t.kd G).R m cs x
 | .arr t n xs,p,cs=>GS (t.kd G) m p.1 cs p.2 xs∧(match n with|none=>True|some k=>xs.length=k)
 | .gone,_,cs=>cs=[]
def LR (G:Sg) (m:M):List (Nat×BC G)→List (Nat×Value)→List (Nat×List Value)→Prop
 |[],[],[]=>True
 |B::Bs,p::ps,e::es=>e.1=p.1∧B.2.Rel G m p e.2∧LR G m Bs ps es
 |_,_,_=>False
def TRl:List Nat→List Value→List (Nat×Value)→Prop
 |[],[],[]=>True
 |s::ss,v::vs,e::es=>e=(s,v)∧TRl ss vs es
 |_,_,_=>False
structure Rs where
 l:List (Nat×List Value)
 nm:List (Nat×Value)
def Sfx {α:Type}(l s:List α):Prop:= ∃p,l=p++s
theorem Sfx.cons {α:Type}{x:α}{l s:List α}(h:Sfx l s):Sfx (x::l) s:=by obtain⟨p,rfl⟩:=h;exact⟨x::p,rfl⟩
theorem Sfx.app {α:Type}{q l s:List α}(h:Sfx l s):Sfx (q++l) s:=by obtain⟨p,rfl⟩:=h;exact⟨q++p,by simp⟩
theorem Sfx.len {α:Type}{l s:List α}(h:Sfx l s):s.length≤l.length:=by obtain⟨p,rfl⟩:=h;simp
theorem Sfx.drop {α:Type}{l s:List α}(h:Sfx l s){k:Nat}(hk:k+s.length≤l.length):Sfx (l.drop k) s:=by
 obtain⟨p,rfl⟩:=h;simp at hk;exact⟨p.drop k,List.drop_append_of_le_length hk⟩
def gk (G:Sg) (W0:Bse) (L0:Rs) (T0:List (Nat×Value)) (Ls:List (Nat×BC G)) (Ts:List Nat) (m:M) (z:Cz) (w:World):Prop:=
 ∃Lc Tc,LR G m Ls z.b Lc∧TRl Ts z.t Tc∧S W0 m w (Lc++L0.l) (Tc++T0)∧Sfx z.b L0.nm
section
variable {G:Sg}{P:Program}{m m':M}{z z':Cz}
theorem AV.Rel.mono {a:AV G}{v:Value}(h:a.Rel G P m z v)(hm:M.le m m'):a.Rel G P m' z v:=by
 cases a with
 |dat t x o=>exact⟨RV.mono h.1 hm,h.2⟩
 |ptr t x=>exact PR.mono h hm
 |fn1 a b f=>exact Fn1.mono h hm
 |fn2 a c b f=>exact Fn2.mono h hm
 |_=>exact h
theorem pw.mono {asv:List (AV G)}{vs:List Value}(h:pw G P m z asv vs)(hm:M.le m m'):pw G P m' z asv vs:=by
 induction asv generalizing vs with
 |nil=>cases vs<;>exact h
 |cons a asv ih=>
  cases vs with
  |nil=>exact h
  |cons v vs=>exact⟨h.1.mono hm,ih h.2⟩
theorem EV.Rel.mono {e:EV G}{v:Value}(h:e.Rel G P m z v)(hm:M.le m m'):e.Rel G P m' z v:=by
 cases e with
 |one a=>exact AV.Rel.mono h hm
 |tup asv=>obtain⟨vs,h1,h2⟩:=h;exact⟨vs,h1,h2.mono hm⟩
theorem BC.Rel.mono {B:BC G}{p:Nat×Value}{cs:List Value}(h:B.Rel G m p cs)(hm:M.le m m'):B.Rel G m' p cs:=by
 cases B with
 |dat t x=>exact(t.kd G).mono hm h
 |arr t n xs=>exact⟨GS.mono h.1 hm,h.2⟩
 |gone=>exact h
theorem LR.mono {Bs:List (Nat×BC G)}{ps:List (Nat×Value)}{es:List (Nat×List Value)}(h:LR G m Bs ps es)(hm:M.le m m'):LR G m' Bs ps es:=by
 induction Bs generalizing ps es with
 |nil=>cases ps<;>cases es<;>exact h
 | cons B Bs ih =>
  cases ps with
  |nil=>cases es<;>exact h
  |cons p ps=>
   cases es with
   |nil=>exact h
   |cons e es=>exact⟨h.1,h.2.1.mono hm,ih h.2.2⟩
theorem LR.len {Bs:List (Nat×BC G)}{ps:List (Nat×Value)}{es:List (Nat×List Value)}(h:LR G m Bs ps es):ps.length=Bs.length∧es.length=Bs.length:=by
 induction Bs generalizing ps es with
 |nil=>cases ps<;>cases es<;>first|exact⟨rfl,rfl⟩|exact h.elim
 | cons B Bs ih =>
  cases ps with
  |nil=>cases es<;>exact h.elim
  |cons p ps=>
   cases es with
   |nil=>exact h.elim
   |cons e es=>have:=ih h.2.2;simp[this.1,this.2]
theorem LR.get {Bs:List (Nat×BC G)} {ps:List (Nat×Value)} {es:List (Nat×List Value)} (h:LR G m Bs ps es) {i:Nat} {B:Nat×BC G} (hB:fb Bs i=some B):
  ∃p cs j,fb ps i=some p∧es[j]? =some (p.1,cs)∧B.2.Rel G m p cs∧
   ∀(B':Nat×BC G) (sv:Value) (cs':List Value),B'.2.Rel G m (p.1,sv) cs'→LR G m (sb Bs i B') (sb ps i (p.1,sv)) (es.set j (p.1,cs')):=by
 induction Bs generalizing ps es with
 |nil=>simp[fb] at hB
 | cons B0 Bs ih =>
  cases ps with
  |nil=>cases es<;>exact h.elim
  | cons p ps =>
   cases es with
   |nil=>exact h.elim
   | cons e es =>
    obtain⟨h1,h2,h3⟩:=h;have hl:=h3.len;simp only[fb] at hB;split at hB
    ·rename_i hi
     injection hB with hB
     subst hB;refine⟨p,e.2,0,by simp[fb,hl.1,hi],by simp[←h1],h2,λB' sv cs' hb=>?_⟩;simp only[sb,hi,hl.1,if_true,List.set_cons_zero];exact⟨rfl,hb,h3⟩
    ·rename_i hi
     obtain⟨p',cs,j,g1,g2,g3,g4⟩:=ih h3 hB;refine⟨p',cs,j+1,by simp[fb,hl.1,hi,g1],by simpa using g2,g3,λB' sv cs' hb=>?_⟩;simp only[sb,hi,hl.1,List.set_cons_succ];exact⟨h1,h2,g4 B' sv cs' hb⟩
theorem xj {α:Type}{x:α}{l:List α}{i:Nat}{y:α}(h:fb l i=some y):fb (x::l) i=some y:=by
 have:∀{l:List α} {i:Nat} {y:α},fb l i=some y→i<l.length:=by
  intro l
  induction l with
  |nil=>intro i y h;simp[fb] at h
  | cons a l ih =>
   intro i y h;simp only[fb] at h;split at h
   ·rename_i e
    have:=Z3 e;simp;omega
   ·have:=ih h;simp;omega
 have hi:=this h;unfold fb
 have:X8 i l.length=false:=by
  cases hb:X8 i l.length with
  |false=>rfl
  |true=>have:=Z3 hb;omega
 simp only[this];exact h
theorem jY {α:Type}{l:List α}{i j:Nat}{y:α}(h:i≠j):fb (sb l i y) j=fb l j:=by
 have len:∀l:List α,(sb l i y).length=l.length:=by
  intro l
  induction l with
  |nil=>rfl
  |cons a l ih=>simp only[sb];split<;>simp[ih]
 induction l with
 |nil=>rfl
 | cons a l ih =>
  simp only[sb];split
  ·rename_i e
   have e':=Z3 e
   have:X8 j l.length=false:=by
    cases hb:X8 j l.length with
    |false=>rfl
    |true=>have:=Z3 hb;omega
   simp[fb,this]
  ·simp only[fb,len,ih]
theorem n9 {α:Type}{l:List α}{i:Nat}{x y:α}(h:fb l i=some x):fb (sb l i y) i=some y:=by
 induction l with
 |nil=>simp[fb] at h
 | cons a l ih =>
  simp only[fb] at h
  have len:(sb l i y).length=l.length:=by
   clear ih h
   induction l with
   |nil=>rfl
   |cons a l ih=>simp only[sb];split<;>simp[ih]
  simp only[sb];split
  ·rename_i e;simp[fb,e]
  ·rename_i e
   rw[if_neg e] at h;simp[fb,len,e,ih h]
theorem TRl.len {ss:List Nat}{vs:List Value}{es:List (Nat×Value)}(h:TRl ss vs es):vs.length=ss.length∧es.length=ss.length:=by
 induction ss generalizing vs es with
 |nil=>cases vs<;>cases es<;>first|exact⟨rfl,rfl⟩|exact h.elim
 | cons a asv ih =>
  cases vs with
  |nil=>cases es<;>exact h.elim
  |cons b bs=>
   cases es with
   |nil=>exact h.elim
   |cons c cs=>have:=ih h.2;simp[this.1,this.2]
theorem TRl.get {ss:List Nat} {vs:List Value} {es:List (Nat×Value)} (h:TRl ss vs es) {i s:Nat} {v:Value} (hs:fb ss i=some s) (hv:fb vs i=some v):
  ∃j,es[j]? =some (s,v)∧∀v',TRl ss (sb vs i v') (es.set j (s,v')):=by
 induction ss generalizing vs es with
 |nil=>simp[fb] at hs
 | cons s0 ss ih =>
  cases vs with
  |nil=>cases es<;>exact h.elim
  | cons v0 vs =>
   cases es with
   |nil=>exact h.elim
   | cons e es =>
    obtain⟨h1,h2⟩:=h;have hl:vs.length=ss.length:=h2.len.1;simp only[fb] at hs hv;rw[hl] at hv;split at hs
    ·rename_i hi
     rw[if_pos hi] at hv;injection hs with hs;injection hv with hv
     subst hs;subst hv;refine⟨0,by simp[h1],λv'=>?_⟩;simp only[sb,hl,hi,if_true,List.set_cons_zero];exact⟨rfl,h2⟩
    ·rename_i hi
     rw[if_neg hi] at hv;obtain⟨j,g1,g2⟩:=ih h2 hs hv;refine⟨j+1,by simpa using g1,λv'=>?_⟩;simp only[sb,hl,hi,List.set_cons_succ];exact⟨h1,g2 v'⟩
end
structure SlI (P:Program) (G:Sg) (i:TypeId) (t:Ty) where
 e:TypeId
 by_:Nat
 z:t.den G
 zv:Value
 inf:TypeInfo
 hu:P.underlying i=some (.slice e)
 hs:∀w,(sizeOf e).run P w= .ok (t.kd G).sz w
 hel:mS P e (t.kd G).sz by_
 hz:∀w,(zeroValue e).run P w= .ok zv w
 hzR:∀m,(t.kd G).R m zv.cells.toList z
 hi:P.info? e=some inf
 hiz:inf.zero=some zv
 hsz:inf.size=(t.kd G).sz
 hby:inf.bytes=by_
def UI (P:Program) (G:Sg) (i:TypeId):Ty→Type
 | .int k=>PLift (P.underlying i=some (.int k))
 | .bool=>PLift (P.underlying i=some .bool)
 | .str=>PLift (P.underlying i=some .string)
 | .sl t=>SlI P G i t
 | .st _=>Unit
structure TI (P:Program) (G:Sg) (i:TypeId) where
 T:Ty
 ok:dy P i (T.kd G)
 u:UI P G i T
 z:T.den G
 zv:Value
 hz:∀w,(zeroValue i).run P w= .ok zv w
 hzR:∀m,(T.kd G).R m zv.cells.toList z
structure AI (P:Program) (G:Sg) (i:TypeId) where
 n:Nat
 t:Ty
 e:TypeId
 z:t.den G
 zv:Value
 c:List Value
 hu:P.underlying i=some (.array n e)
 hs:∀w,(sizeOf e).run P w= .ok (t.kd G).sz w
 hz:∀w,(zeroValue i).run P w= .ok zv w
 hzc:zv.cells=((Zu n c).flatten).toArray
 hzR:∀m,(t.kd G).R m c z
 hn:Xl n cI=true
structure FI (P:Program) (G:Sg) (s f:Nat) where
 t:Ty
 A:Acc G (.st s) t
 ok:cP P s f A.off
structure EI (P:Program) (G:Sg) (s:Nat) where
 dec:DecidableEq (G.α s)
 ok:vJ P s (G.k s)
 agg:(G.k s).agg=true
structure BI (P:Program) (G:Sg) (s:Nat) where
 fs:Array Field
 pl:List (Nat×Nat)
 z:G.α s
 zv:Value
 hu:P.underlying s=some (.struct fs)
 hpl:fs.toList.mapM (λf=>(P.info? f.type).map λi=>(f.offset,i.size))=some pl
 hz:∀w,(zeroValue s).run P w= .ok zv w
 hzR:∀m,(G.k s).R m zv.cells.toList z
 agg:(G.k s).agg=true
structure Tab (P:Program) (G:Sg) where
 ty:(i:TypeId)→Option (TI P G i)
 ar:(i:TypeId)→Option (AI P G i)
 fl:(s f:Nat)→Option (FI P G s f)
 eq:(s:Nat)→Option (EI P G s)
 bu:(s:Nat)→Option (BI P G s)
structure hZ (G:Sg) where
 β:Type
 mv:Option β
 k:β→EV G
section
variable {G:Sg}{P:Program}
def pv (v:AV G):Option (hZ G):=some ⟨Unit,some (),λ_=> .one v⟩
def pe (v:EV G):Option (hZ G):=some ⟨Unit,some (),λ_=>v⟩
def pb {β:Type}(mv:Option β)(k:β→AV G):Option (hZ G):=some ⟨β,mv,λb=> .one (k b)⟩
def AV.i?:AV G→Option (IntKind×Int)
 | .li k n=>some (k,n)
 | .dat (.int k) x _=>some (k,x)
 |_=>none
def AV.lit?:AV G→Option Int
 | .li _ n=>some n
 |_=>none
def AV.b?:AV G→Option Bool
 | .dat .bool x _=>some x
 |_=>none
def AV.s?:AV G→Option (List Int)
 | .dat .str x _=>some x
 |_=>none
def vEq:Value→Value→Bool
 | .int k n,.int k' n'=>decide (k=k')&&decide (n=n')
 | .bool b,.bool b'=>b==b'
 | .string s,.string s'=>decide (s.data.toList=s'.data.toList)
 | .slice none 0 0,.slice none 0 0=>true
 |_,_=>false
theorem LM {a b:Value}(h:vEq a b=true):a=b:=by
 unfold vEq at h;split at h
 ·simp only [Zm,decide_eq_true_eq] at h
  rw[h.1,h.2]
 ·simp only [beq_iff_eq] at h
  rw[h]
 ·rename_i s s'
  simp only[decide_eq_true_eq] at h;cases s;cases s';simp only at h;rw[Array.toList_inj.1 h]
 ·rfl
 ·cases h
def Fc:List Value→List Value→Bool
 |[],[]=>true
 |a::asv,b::bs=>vEq a b&&Fc asv bs
 |_,_=>false
theorem En: ∀{asv bs:List Value},Fc asv bs=true→asv=bs
 |[],[],_=>rfl
 |a::asv,b::bs,h=>by
  simp only[Fc,Zm] at h;rw[LM h.1,En h.2]
 |[],_::_,h=>by cases h
 |_::_,[],h=>by cases h
def AV.as (Γ:Tab P G) (t:Ty):AV G→Option (t.den G)
 | .li k n=>dM G (.int k) t n
 | .dat t' x _=>dM G t' t x
 | .nils=>match t with| .sl _=>some []|_=>none
 | .agc cs => match t with
  | .st i=>match Γ.bu i with
   |some B=>if Fc B.zv.cells.toList cs then some B.z else none
   |none=>none
  |_=>none
 |_=>none
def av?:Option (EV G)→Option (AV G)
 |some (.one v)=>some v
 |_=>none
def di (k:IntKind)(x:Int):AV G:= .dat (.int k) x none
def db (x:Bool):AV G:= .dat .bool x none
def Im (op:BinOp) (k k':IntKind) (p q:Int) (lit:Option Int):Option (hZ G):=
 match op with
 | .add=>if k=k' then pv (di k (k.wrap (p+q))) else none
 | .sub=>if k=k' then pv (di k (k.wrap (p - q))) else none
 | .mul=>if k=k' then pv (di k (k.wrap (p*q))) else none
 | .quo=>if k=k' then (match lit with|some n=>if n=q∧n≠0 then pv (di k (k.wrap (p.tdiv q))) else none|none=>pb (chk (q != 0)) λ_=>di k (k.wrap (p.tdiv q))) else none
 | .rem=>if k=k' then (match lit with|some n=>if n=q∧n≠0 then pv (di k (p.tmod q)) else none|none=>pb (chk (q != 0)) λ_=>di k (p.tmod q)) else none
 | .and=>if k=k' then pv (di k (cL k p q)) else none
 | .or=>if k=k' then pv (di k (bOr k p q)) else none
 | .xor=>if k=k' then pv (di k (cx k p q)) else none
 | .shl=>match lit with
  |some n=>if n=q∧0≤n then pv (di k (dx k p q)) else none
  |none=>if k'= .u8∨k'= .u32∨k'= .u64 then pv (di k (dx k p q)) else pb (chk (decide (0≤q))) λ_=>di k (dx k p q)
 | .shr=>match lit with
  |some n=>if n=q∧0≤n then pv (di k (ay k p q)) else none
  |none=>if k'= .u8∨k'= .u32∨k'= .u64 then pv (di k (ay k p q)) else pb (chk (decide (0≤q))) λ_=>di k (ay k p q)
 | .eql=>if k=k' then pv (db (p==q)) else none
 | .neq=>if k=k' then pv (db (p != q)) else none
 | .lss=>if k=k' then pv (db (decide (p<q))) else none
 | .leq=>if k=k' then pv (db (decide (p≤q))) else none
 | .gtr=>if k=k' then pv (db (decide (q<p))) else none
 | .geq=>if k=k' then pv (db (decide (q≤p))) else none
 |_=>none
def sF (G:Sg) (P:Program) (m:M) (z:Cz) (r:Option (hZ G)) (o:Oper) (a:Act):Prop:=
 ∀R b,r=some R→R.mv=some b→∀w,∃v,aD P o a w v w∧(R.k b).Rel G P m z v
theorem sF.pv {v:AV G}{m:M}{z:Cz}{o:Oper}{a:Act}(h:∀w,∃u,aD P o a w u w∧v.Rel G P m z u):sF G P m z (pv v) o a:=by
 intro R b hr hb w;injection hr with hr
 subst hr;exact h w
theorem sF.none {m:M}{z:Cz}{o:Oper}{a:Act}:sF G P m z none o a:=by
 intro R b hr;cases hr
theorem sF.pb {β:Type}{mv:Option β}{k:β→AV G}{m:M}{z:Cz}{o:Oper}{a:Act}(h:∀b,mv=some b→∀w,∃u,aD P o a w u w∧(k b).Rel G P m z u):sF G P m z (pb mv k) o a:=by
 intro R b hr hb w;injection hr with hr
 subst hr;exact h b hb w
theorem sF.ite {c:Prop} [Decidable c]{x y:Option (hZ G)}{m:M}{z:Cz}{o:Oper}{a:Act}(h:c→sF G P m z x o a)(h': ¬ c→sF G P m z y o a):sF G P m z (if c then x else y) o a:=by
 split
 ·exact h ‹_›
 ·exact h' ‹_›
theorem c9 {m:M}{z:Cz}{k:IntKind}{x:Int}(h:inR k x):(di k x:AV G).Rel G P m z (.int k x):=⟨aq h,trivial⟩
theorem eV {m:M}{z:Cz}{x:Bool}:(db x:AV G).Rel G P m z (.bool x):=⟨dt,trivial⟩
theorem AV.i_rel {a:AV G}{m:M}{z:Cz}{v:Value}{k:IntKind}{x:Int}(h:a.i?=some (k,x))(hr:a.Rel G P m z v):v= .int k x∧inR k x:=by
 cases a with
 |li k' n=>
  simp only[AV.i?,Option.some.injEq,Prod.mk.injEq] at h;obtain⟨rfl,rfl⟩:=h;exact hr
 |dat t y o=>
  cases t<;>simp only[AV.i?,reduceCtorEq] at h;obtain⟨rfl,rfl⟩:=Prod.mk.inj (Option.some.inj h);exact aG hr.1
 |_=>simp[AV.i?] at h
theorem AV.b_rel {a:AV G}{m:M}{z:Cz}{v:Value}{x:Bool}(h:a.b?=some x)(hr:a.Rel G P m z v):v= .bool x:=by
 cases a with
 |dat t y o=>
  cases t<;>simp only[AV.b?,reduceCtorEq] at h;obtain rfl:=Option.some.inj h;exact eQ hr.1
 |_=>simp[AV.b?] at h
theorem AV.s_rel {a:AV G}{m:M}{z:Cz}{v:Value}{x:List Int}(h:a.s?=some x)(hr:a.Rel G P m z v):v= .string (bts x)∧(∀n∈x,0≤n∧n<256)∧x.length≤cI:=by
 cases a with
 |dat t y o=>
  cases t<;>simp only[AV.s?,reduceCtorEq] at h;obtain rfl:=Option.some.inj h;exact Cl hr.1
 |_=>simp[AV.s?] at h
theorem AV.as_rel {Γ:Tab P G}{a:AV G}{m:M}{z:Cz}{v:Value}{t:Ty}{x:t.den G}(h:a.as Γ t=some x)(hr:a.Rel G P m z v):RV (t.kd G) m v x:=by
 cases a with
 |li k n=>
  obtain⟨e,h⟩:=bY h;subst e;subst h;obtain⟨rfl,h2⟩:=hr;exact aq h2
 |dat t' y o=>
  obtain⟨e,h⟩:=bY h;subst e;subst h;exact hr.1
 | nils =>
  cases t with
  |sl t=>
   simp only[AV.as] at h;obtain rfl:=Option.some.inj h;have:v= .slice none 0 0:=hr;subst this;exact dL
  |_=>simp[AV.as] at h
 | agc cs =>
  cases t with
  | st i =>
   simp only[AV.as] at h;split at h
   ·rename_i B _
    split at h
    ·rename_i he
     obtain rfl:=Option.some.inj h;have hv:v= .agg cs.toArray:=hr;have:=En he;refine⟨cs,?_,?_⟩
     ·rw[←this];exact B.hzR m
     ·subst hv
      show _=(G.k i).val cs;simp[Kd.val,B.agg]
    ·cases h
   ·cases h
  |_=>simp[AV.as] at h
 |_=>simp[AV.as] at h
theorem Fd {op:BinOp} {k k':IntKind} {p q:Int} {lit:Option Int} {m:M} {z:Cz} {t t':TypeId} {x y:Operand} {dst:Option Tmp} {ty:TypeId} {pos:String} {aft:Array Edge} {g:Option (Nat×Bool)} {δ:List Nat} {n:Nat} {l:List (Nat×Value)} {a:Act}
  (hE:ax δ n a l) (hx:evl l x=some (.int k p)) (hy:evl l y=some (.int k' q)) (hp:inR k p) (hq:inR k' q):sF G P m z (Im op k k' p q lit) ⟨dst,.binOp op t x y t',ty,pos,aft,g⟩ a:=by
 have nn:k'= .u8∨k'= .u32∨k'= .u64→0≤q:=by
  rintro (rfl|rfl|rfl)
  ·exact DU hq
  ·exact Co hq
  ·exact Cp hq
 cases op<;>simp only[Im]
 case add=>exact .ite (λe=>by subst e;exact .pv λw=>⟨_,aP hE hx hy (be rfl),c9 (ak _ _)⟩) λ_=> .none
 case sub=>exact .ite (λe=>by subst e;exact .pv λw=>⟨_,aP hE hx hy (dq rfl),c9 (ak _ _)⟩) λ_=> .none
 case mul=>exact .ite (λe=>by subst e;exact .pv λw=>⟨_,aP hE hx hy (oI rfl),c9 (ak _ _)⟩) λ_=> .none
 case quo=>
  refine .ite (λe=>?_) λ_=> .none;subst e;split
  ·exact .ite (λh=> .pv λw=>⟨_,aP hE hx hy (sy rfl (by rw[←h.1];exact h.2)),c9 (ak _ _)⟩) λ_=> .none
  ·exact .pb λb hb w=>⟨_,aP hE hx hy (sy rfl (bne_iff_ne.1 (jd hb))),c9 (ak _ _)⟩
 case rem=>
  refine .ite (λe=>?_) λ_=> .none;subst e;split
  ·exact .ite (λh=> .pv λw=>⟨_,aP hE hx hy (yS rfl (by rw[←h.1];exact h.2)),c9 (tS hp)⟩) λ_=> .none
  ·exact .pb λb hb w=>⟨_,aP hE hx hy (yS rfl (bne_iff_ne.1 (jd hb))),c9 (tS hp)⟩
 case and=>exact .ite (λe=>by subst e;exact .pv λw=>⟨_,aP hE hx hy (xb rfl),c9 (Eb _ _ _)⟩) λ_=> .none
 case or=>exact .ite (λe=>by subst e;exact .pv λw=>⟨_,aP hE hx hy (H6 rfl),c9 (Ch _ _ _)⟩) λ_=> .none
 case xor=>exact .ite (λe=>by subst e;exact .pv λw=>⟨_,aP hE hx hy (xc rfl),c9 (w9 _ _ _)⟩) λ_=> .none
 case shl=>
  split
  ·exact .ite (λh=> .pv λw=>⟨_,aP hE hx hy (xd rfl (by rw[←h.1];exact h.2)),c9 (ri _ _ _)⟩) λ_=> .none
  ·exact .ite (λh=> .pv λw=>⟨_,aP hE hx hy (xd rfl (nn h)),c9 (ri _ _ _)⟩) λ_=> .pb λb hb w=>⟨_,aP hE hx hy (xd rfl (of_decide_eq_true (jd hb))),c9 (ri _ _ _)⟩
 case shr=>
  split
  ·exact .ite (λh=> .pv λw=>⟨_,aP hE hx hy (kg rfl (by rw[←h.1];exact h.2)),c9 (xa hp _)⟩) λ_=> .none
  ·exact .ite (λh=> .pv λw=>⟨_,aP hE hx hy (kg rfl (nn h)),c9 (xa hp _)⟩) λ_=> .pb λb hb w=>⟨_,aP hE hx hy (kg rfl (of_decide_eq_true (jd hb))),c9 (xa hp _)⟩
 case andNot=>exact .none
 case eql=>exact .ite (λe=>by subst e;exact .pv λw=>⟨_,aP hE hx hy gg,eV⟩) λ_=> .none
 case neq=>exact .ite (λe=>by subst e;exact .pv λw=>⟨_,aP hE hx hy lS,eV⟩) λ_=> .none
 case lss=>exact .ite (λe=>by subst e;exact .pv λw=>⟨_,aP hE hx hy bn,eV⟩) λ_=> .none
 case leq=>exact .ite (λe=>by subst e;exact .pv λw=>⟨_,aP hE hx hy BX,eV⟩) λ_=> .none
 case gtr=>exact .ite (λe=>by subst e;exact .pv λw=>⟨_,aP hE hx hy ju,eV⟩) λ_=> .none
 case geq=>exact .ite (λe=>by subst e;exact .pv λw=>⟨_,aP hE hx hy yT,eV⟩) λ_=> .none
theorem d4 {δ:List Nat}{n:Nat}{a:Act}(hd:a.defers=δ.map λD=>{ target:= .collected D,args:= #[] })(hs:a.tmps.size=n)(xs:List Operand):∃l,ax δ n a l∧∀x∈xs,evl l x=some (a.eval x):=by
 refine⟨xs.filterMap λx=>match x with| .tmp t=>some (t,a.tmps.getD t undef)|_=>none,⟨hd,hs,λj v hj=>?_⟩,λx hx=>?_⟩
 ·induction xs with
  |nil=>simp[lk] at hj
  | cons x xs ih =>
   cases x with
   | tmp t =>
    simp only[Zz,lk] at hj;split at hj
    ·rename_i e
     have:=Z3 e;subst this;injection hj
    ·exact ih hj
   |_=>exact ih (by simpa using hj)
 ·cases x with
  | tmp t =>
   show lk _ t=some (a.tmps.getD t undef)
   induction xs with
   |nil=>cases hx
   | cons y xs ih =>
    by_cases hy:y= .tmp t
    ·subst hy;simp[lk]
    ·have hx':Operand.tmp t∈xs:=by
      rcases Zj.1 hx with h|h
      ·exact absurd h.symm hy
      ·exact h
     cases y with
     | tmp t' =>
      have:t'≠t:=λe=>hy (by rw[e])
      have hb:X8 t' t=false:=by
       cases hb:X8 t' t with
       |false=>rfl
       |true=>exact absurd (Z3 hb) this
      simp only[Zz,lk,hb];exact ih hx'
     |_=>simp only[Zz];exact ih hx'
  |_=>rfl
end
section
variable {G:Sg}{P:Program}
def LN {α:Type}(xs:List α)(j:Nat):Option α:=xs[j]?
def TI.elem {i:TypeId}:TI P G i→Option TypeId
 |⟨.sl _,_,u,_,_,_,_⟩=>some u.e
 |_=>none
def In (Γ : Tab P G) (op : BinOp) (t : TypeId) (a b : AV G) : Option (hZ G) :=
 match a.i?,b.i? with
 |some (k,p),some (k',q)=>Im op k k' p q b.lit?
 | _, _ =>
  match Γ.ty t with
  | some I =>(match I.T with
   | .bool=>(match a.b?,b.b? with
    |some p,some q=>(match op with| .eql=>pv (db (p==q))| .neq=>pv (db (!(p==q)))|_=>none)
    |_,_=>none)
   | .str=>(match a.s?,b.s? with
    |some p,some q=>(match op with| .eql=>pv (db (decide (p=q)))| .neq=>pv (db (!decide (p=q)))| .lss=>pv (db (ltB p q))|_=>none)
    |_,_=>none)
   | .st i =>(match Γ.eq t with
    |some E=>if i=t then (match a.as Γ (.st t),b.as Γ (.st t) with
     |some p,some q=>(match op with| .eql=>pv (db (@decide _ (E.dec p q)))| .neq=>pv (db (!(@decide _ (E.dec p q))))|_=>none)
     |_,_=>none) else none
    |none=>none)
   |_=>none)
  |none=>none
def unA (op:UnOp) (a:AV G):Option (hZ G):=
 match op with
 | .not=>(match a.b? with|some p=>pv (db (!p))|none=>none)
 | .neg=>(match a.i? with|some (k,p)=>pv (di k (k.wrap (0 - p)))|none=>none)
 | .xor=>(match a.i? with|some (k,p)=>pv (di k (xV k p))|none=>none)
 |_=>none
def Fe (Γ : Tab P G) (t t2 : TypeId) (a : AV G) : Option (hZ G) :=
 match Γ.ty t,Γ.ty t2 with
 | some I, some I2 =>(match I.T, I2.T with
  | .int _,.int k'=>(match a.i? with|some (_,p)=>pv (di k' (k'.wrap p))|none=>none)
  | .sl (.int k), .str =>(match I.elem with
   |some e=>(match Γ.ty e with
    |some J=>if k= .u8∧J.T= .int .u8 then (match a.as Γ (.sl (.int k)) with|some x=>pv (.dat .str x none)|none=>none) else none
    |none=>none)
   |none=>none)
  |_,_=>none)
 |_,_=>none
def Ff (Γ:Tab P G) (Lv:Nat→Option (BC G)) (t:TypeId) (a:AV G):Option (hZ G):=
 match Γ.ty t with
 | some I =>(match a with
  | .ptr b v=>if b=I.T then pv (.dat b v none) else none
  | .blk i=>(match Lv i with
   |some (.dat c x)=>if c=I.T then pv (.dat c x none) else none
   |_=>none)
  | .loc i c b A=>if b=I.T then (match Lv i with
   |some (.dat c' x)=>(match dM G c' c x with|some x=>pv (.dat b (A.get x) none)|none=>none)
   |_=>none) else none
  | .elp i j c b A=>if b=I.T then (match Lv i with
   |some (.arr c' _ xs)=>(match dM G (.sl c') (.sl c) xs with|some xs=>pb (LN (α:=c.den G) xs j) λx=> .dat b (A.get x) none|none=>none)
   |_=>none) else none
  |_=>none)
 |none=>none
def CD (Γ:Tab P G) (Lv:Nat→Option (BC G)) (s f:Nat) (a:AV G):Option (hZ G):=
 match Γ.fl s f with
 |some F=>(match a with
  | .ptr t v=>(match dM G t (.st s) v with|some x=>pv (.ptr F.t (F.A.get x))|none=>none)
  | .blk i=>(match Lv i with|some (.dat c _)=>if c= .st s then pv (.loc i (.st s) F.t F.A) else none|_=>none)
  | .loc i c b A=>if h:b= .st s then pv (.loc i c F.t ((h ▸ A:Acc G c (.st s)).comp F.A)) else none
  | .elp i j c b A=>if h:b= .st s then pv (.elp i j c F.t ((h ▸ A:Acc G c (.st s)).comp F.A)) else none
  |_=>none)
 |none=>none
def CE (Γ : Tab P G) (Lv : Nat → Option (BC G)) (t : TypeId) (a b : AV G) : Option (hZ G) :=
 match b.i? with
 | some (_, q) =>(match a with
  | .blk i=>(match Γ.ar t,Lv i with
   |some R,some (.arr c (some n) xs)=>if c=R.t∧n=R.n then pb (ix xs q) λj=> .elp i j c c (.self G c) else none
   |_,_=>none)
  | .own i=>(match Γ.ty t,Lv i with
   |some I,some (.arr c _ xs)=>if I.T= .sl c then pb (ix xs q) λj=> .elp i j c c (.self G c) else none
   |_,_=>none)
  | a =>(match Γ.ty t with
   |some I=>(match I.T with
    | .sl c=>(match a.as Γ (.sl c) with|some xs=>pb (idx (xs:List (c.den G)) q) λx=> .ptr c x|none=>none)
    |_=>none)
   |none=>none))
 |none=>none
def CF (Γ:Tab P G) (t:TypeId) (a b:AV G):Option (hZ G):=
 match Γ.ty t,a.s?,b.i? with
 |some I,some s,some (_,q)=>(match I.T with| .str=>pb (idx s q) λc=>di .u8 c|_=>none)
 |_,_,_=>none
def bnd (dflt:Int):Option (Option (AV G))→Option Int
 |none=>some dflt
 |some (some v)=>v.i?.map (·.2)
 |some none=>none
def CG (Γ : Tab P G) (t : TypeId) (a : AV G) (lo hi : Option (Option (AV G))) : Option (hZ G) :=
 match Γ.ty t with
 | some I =>(match I.T with
  | .sl c =>(match a.as Γ (.sl c) with
   |some xs=>(match bnd 0 lo,bnd ((xs:List (c.den G)).length:Int) hi with
    |some l,some h=>pb (sub (xs:List (c.den G)) l h) λy=> .dat (.sl c) y none
    |_,_=>none)
   |none=>none)
  |_=>none)
 |none=>none
def tX (Γ : Tab P G) (s : Nat) (pl : List (Nat × Nat)) : List (Nat × Option (AV G)) → G.α s → Option (G.α s)
 |[],x=>some x
 | (f, some a) :: r, x => match Γ.fl s f with
  | some F =>(match a.as Γ F.t with
   |some y=>(match pl[f]? with
    |some q=>if q.1=F.A.off∧q.2=(F.t.kd G).sz then tX Γ s pl r (F.A.set x y) else none
    |none=>none)
   |none=>none)
  |none=>none
 |_,_=>none
def CH (Γ:Tab P G) (t:TypeId) (ps:List (Nat×Option (AV G))):Option (hZ G):=
 match Γ.bu t with
 |some B=>(match tX Γ t B.pl ps B.z with|some x=>pv (.dat (.st t) x none)|none=>none)
 |none=>none
def Io (Γ:Tab P G) (Lv:Nat→Option (BC G)) (t:TypeId) (a:AV G):Option (hZ G):=
 match Γ.ty t with
 | some I =>(match I.T with
  | .str=>(match a.s? with|some s=>pv (di .i64 (s.length:Int))|none=>none)
  | .sl c=>(match a with
   | .nils=>pv (.li .i64 0)
   | .own i=>(match Lv i with|some (.arr c' _ xs)=>if c'=c then pv (di .i64 (xs.length:Int)) else none|_=>none)
   |a=>(match a.as Γ (.sl c) with|some xs=>pv (di .i64 ((xs:List (c.den G)).length:Int))|none=>none))
  |_=>none)
 |none=>none
def mmA (mx:Bool) (a b:AV G):Option (hZ G):=
 match a.i?,b.i? with
 |some (k,p),some (k',q)=>if k=k' then pv (di k (match mx with|true=>(if p<q then q else p)|false=>(if q<p then q else p))) else none
 |_,_=>none
def oav (ρ:Operand→Option (EV G)):Option Operand→Option (Option (AV G))
 |none=>none
 |some x=>some (av? (ρ x))
def yZ (Γ : Tab P G) (ρ : Operand → Option (EV G)) (Lv : Nat → Option (BC G)) : Op → Option (hZ G)
 | .move x=>(match ρ x with|some e=>pe e|none=>none)
 | .assign x=>(match ρ x with|some e=>pe e|none=>none)
 | .pick c x y =>(match av? (ρ c) with
  | some a =>(match a.b? with
   |some b=>(match b with
    |true=>(match ρ x with|some e=>pe e|none=>none)
    |false=>(match ρ y with|some e=>pe e|none=>none))
   |none=>none)
  |none=>none)
 | .nilCheck x=>(match av? (ρ x) with
  |some (.ptr t v)=>pv (.ptr t v)
  |some (.loc i a b A)=>pv (.loc i a b A)
  |some (.elp i j a b A)=>pv (.elp i j a b A)
  |some (.blk i)=>pv (.blk i)
  |_=>none)
 | .binOp op t x y _=>(match av? (ρ x),av? (ρ y) with|some a,some b=>In Γ op t a b|_,_=>none)
 | .unOp op _ x=>(match av? (ρ x) with|some a=>unA op a|none=>none)
 | .convert t t2 x=>(match av? (ρ x) with|some a=>Fe Γ t t2 a|none=>none)
 | .extract x i=>(match ρ x with|some (.tup vs)=>(match vs[i]? with|some v=>pv v|none=>none)|_=>none)
 | .load t x=>(match av? (ρ x) with|some a=>Ff Γ Lv t a|none=>none)
 | .fieldAddr s x f=>(match av? (ρ x) with|some a=>CD Γ Lv s f a|none=>none)
 | .indexAddr t x y=>(match av? (ρ x),av? (ρ y) with|some a,some b=>CE Γ Lv t a b|_,_=>none)
 | .index t x y=>(match av? (ρ x),av? (ρ y) with|some a,some b=>CF Γ t a b|_,_=>none)
 | .slice t x lo hi none=>(match av? (ρ x) with|some a=>CG Γ t a (oav ρ lo) (oav ρ hi)|none=>none)
 | .build t ps=>CH Γ t (ps.toList.map λp=>(p.1,av? (ρ p.2)))
 | .call ⟨.builtin .len,⟨[x]⟩,⟨[t]⟩⟩=>(match av? (ρ x) with|some a=>Io Γ Lv t a|none=>none)
 | .call ⟨.builtin .max,⟨[x,y]⟩,_⟩=>(match av? (ρ x),av? (ρ y) with|some a,some b=>mmA true a b|_,_=>none)
 | .call ⟨.builtin .min,⟨[x,y]⟩,_⟩=>(match av? (ρ x),av? (ρ y) with|some a,some b=>mmA false a b|_,_=>none)
 |_=>none
def gK (G:Sg) (P:Program) (m:M) (z:Cz) (r:Option (hZ G)) (o:Oper) (a:Act) (w:World):Prop:=
 ∀R b,r=some R→R.mv=some b→bg P o a w (λv w'=>w=w'∧(R.k b).Rel G P m z v)
section
variable {m:M}{z:Cz}{o:Oper}{a:Act}{w:World}
theorem sF.s {r:Option (hZ G)}(h:sF G P m z r o a):gK G P m z r o a w:=λR b hr hb=>by
 obtain⟨v,h1,h2⟩:=h R b hr hb w;exact h1.step ⟨rfl,h2⟩
theorem gK.none:gK G P m z none o a w:=λR b hr=>by cases hr
theorem gK.pv {v:AV G}(h:bg P o a w (λu w'=>w=w'∧v.Rel G P m z u)):gK G P m z (pv v) o a w:=λR b hr _=>by
 injection hr with hr;subst hr;exact h
theorem gK.run {v:AV G}{u:Value}(h:aD P o a w u w)(hr:v.Rel G P m z u):gK G P m z (Hay.pv v) o a w:= .pv (h.step ⟨rfl,hr⟩)
theorem gK.pb {β:Type}{mv:Option β}{k:β→AV G}(h:∀b,mv=some b→bg P o a w (λu w'=>w=w'∧(k b).Rel G P m z u)):gK G P m z (pb mv k) o a w:=λR b hr hb=>by
 injection hr with hr;subst hr;exact h b hb
theorem gK.pe {e:EV G}(h:bg P o a w (λu w'=>w=w'∧e.Rel G P m z u)):gK G P m z (pe e) o a w:=λR b hr _=>by
 injection hr with hr;subst hr;exact h
end
section
variable {δ:List Nat}{n:Nat}{l:List (Nat×Value)}{a:Act}{m:M}{z:Cz}{w:World}{t t2 ty:TypeId}{x y:Operand}{d:Nat}{pos:String}{aft:Array Edge}{g:Option (Nat×Bool)}{u v:Value}{p q:AV G}{Γ:Tab P G}
theorem TI.int {i:TypeId}{I:TI P G i}{k:IntKind}(h:I.T= .int k):P.underlying i=some (.int k):=by
 have:=I.u;rw[h] at this;exact this.down
theorem TI.bool {i:TypeId}{I:TI P G i}(h:I.T= .bool):P.underlying i=some .bool:=by
 have:=I.u;rw[h] at this;exact this.down
theorem TI.str {i:TypeId}{I:TI P G i}(h:I.T= .str):P.underlying i=some .string:=by
 have:=I.u;rw[h] at this;exact this.down
def TI.sl {i:TypeId}(I:TI P G i){c:Ty}(h:I.T= .sl c):SlI P G i c:=by
 have:=I.u;rw[h] at this;exact this
theorem Kf {i e:TypeId}{I:TI P G i}{c:Ty}(h:I.T= .sl c)(he:I.elem=some e):(I.sl h).e=e:=by
 obtain⟨T,a1,u,a3,a4,a5,a6⟩:=I;simp only at h;subst h;simp only[TI.elem,Option.some.injEq] at he;exact he
theorem Kg {op:BinOp}(hE:ax δ n a l)(hx:evl l x=some u)(hy:evl l y=some v)(hp:p.Rel G P m z u)(hq:q.Rel G P m z v):gK G P m z (In Γ op t p q) ⟨some d,.binOp op t x y t2,ty,pos,aft,g⟩ a w:=by
 unfold In;split
 ·rename_i k p' k' q' h1 h2
  obtain⟨rfl,h3⟩:=AV.i_rel h1 hp;obtain⟨rfl,h4⟩:=AV.i_rel h2 hq;exact(Fd hE hx hy h3 h4).s
 ·split
  ·rename_i I _
   split
   ·rename_i hT
    split
    ·rename_i b c h1 h2
     have e1:=AV.b_rel h1 hp;have e2:=AV.b_rel h2 hq;subst e1;subst e2;split
     ·exact .run (Lz hE hx hy (TI.bool hT)) eV
     ·exact .run (LA hE hx hy (TI.bool hT)) eV
     ·exact .none
    ·exact .none
   ·rename_i hT
    split
    ·rename_i b c h1 h2
     obtain⟨rfl,h3,_⟩:=AV.s_rel h1 hp;obtain⟨rfl,h4,_⟩:=AV.s_rel h2 hq;split
     ·exact .run (LC hE hx hy h3 h4) eV
     ·exact .run (LD hE hx hy h3 h4) eV
     ·exact .run (LE hE hx hy h3 h4) eV
     ·exact .none
    ·exact .none
   ·split
    ·rename_i E _
     split
     ·split
      ·rename_i b c h1 h2
       have e1:=AV.as_rel h1 hp;have e2:=AV.as_rel h2 hq
       letI:=E.dec
       split
       ·exact .run (yU hE E.ok hx hy e1 e2 E.agg) eV
       ·exact .run (vK hE E.ok hx hy e1 e2 E.agg) eV
       ·exact .none
      ·exact .none
     ·exact .none
    ·exact .none
   ·exact .none
  ·exact .none
theorem LO {op:UnOp}(hE:ax δ n a l)(hx:evl l x=some u)(hp:p.Rel G P m z u):gK G P m z (unA op p) ⟨some d,.unOp op t x,ty,pos,aft,g⟩ a w:=by
 unfold unA;split
 ·split
  ·rename_i h1
   have e1:=AV.b_rel h1 hp;subst e1;exact .run (lT hE hx) eV
  ·exact .none
 ·split
  ·rename_i h1
   obtain⟨rfl,h3⟩:=AV.i_rel h1 hp;exact .run (Pn hE hx rfl) (c9 (ak _ _))
  ·exact .none
 ·split
  ·rename_i h1
   obtain⟨rfl,h3⟩:=AV.i_rel h1 hp;exact .run (JA hE hx rfl) (c9 (Ec _ _))
  ·exact .none
 ·exact .none
theorem Ip {W0:Bse}{L:List (Nat×List Value)}{TL:List (Nat×Value)}(hE:ax δ n a l)(hS:S W0 m w L TL)(hx:evl l x=some u)(hp:p.Rel G P m z u):gK G P m z (Fe Γ t t2 p) ⟨some d,.convert t t2 x,ty,pos,aft,g⟩ a w:=by
 unfold Fe;split
 ·rename_i I I2 h1 h2
  split
  ·rename_i hT hT2
   split
   ·rename_i h3
    obtain⟨rfl,_⟩:=AV.i_rel h3 hp;exact .run (cl hE hx (TI.int hT) (TI.int hT2) rfl) (c9 (ak _ _))
   ·exact .none
  ·rename_i k hT hT2
   split
   ·rename_i e he
    split
    ·rename_i J _
     split
     ·rename_i hk
      obtain⟨rfl,hJ⟩:=hk;split
      ·rename_i xs h3
       have hv:=AV.as_rel h3 hp;exact .run (J2 hE hS hx (I.sl hT).hu ((Kf hT he).symm ▸ TI.int hJ) (TI.str hT2) hv) ⟨A4 (H8 hv) (iH hv),trivial⟩
      ·exact .none
     ·exact .none
    ·exact .none
   ·exact .none
  ·exact .none
 ·exact .none
end
end
section
variable {G:Sg} {P:Program} {δ:List Nat} {n:Nat} {l:List (Nat×Value)} {a:Act} {m:M} {z:Cz} {w:World} {t t2 ty:TypeId} {x y:Operand} {d:Nat} {pos:String} {aft:Array Edge} {g:Option (Nat×Bool)} {u v:Value} {p q:AV G} {Γ:Tab P G}
 {W0:Bse} {L0:Rs} {T0:List (Nat×Value)} {Ls:List (Nat×BC G)} {Ts:List Nat}
def eW (Ls:List (Nat×BC G))(i:Nat):Option (BC G):=(fb Ls i).map (·.2)
theorem ia {i:Nat}{B:BC G}(h:eW Ls i=some B):∃s,fb Ls i=some (s,B):=by
 unfold eW at h;cases hf:fb Ls i with
 |none=>simp[hf] at h
 |some e=>simp[hf] at h;exact⟨e.1,by rw[←h]⟩
theorem gk.get (hM:gk G W0 L0 T0 Ls Ts m z w){i:Nat}{B:BC G}(h:eW Ls i=some B):∃(L:List (Nat×List Value)) (TL:List (Nat×Value)) (p:Nat×Value) (cs:List Value) (j:Nat),S W0 m w L TL∧fb z.b i=some p∧L[j]? =some (p.1,cs)∧B.Rel G m p cs:=by
 obtain⟨Lc,Tc,h1,h2,h3,_⟩:=hM;obtain⟨s,hs⟩:=ia h;obtain⟨p,cs,j,g1,g2,g3,_⟩:=h1.get hs;refine⟨_,_,p,cs,j,h3,g1,?_,g3⟩;have:j<Lc.length:=(Z0.1 g2).1;rw[Za this];exact g2
theorem gk.any (hM:gk G W0 L0 T0 Ls Ts m z w):∃L TL,S W0 m w L TL:=let ⟨_,_,_,_,h,_⟩:=hM;⟨_,_,h⟩
theorem CI {c b:Ty}(A:Acc G c b){cs:List Value}{o:Nat}{xx:c.den G}(h:(c.kd G).R m ((cs.drop o).take (c.kd G).sz) xx):(b.kd G).R m ((cs.drop (o+A.off)).take (b.kd G).sz) (A.get xx):=A.fld.R_drop h
theorem Iq (hE:ax δ n a l)(hM:gk G W0 L0 T0 Ls Ts m z w)(hx:evl l x=some u)(hp:p.Rel G P m z u):gK G P m z (Ff Γ (eW Ls) t p) ⟨some d,.load t x,ty,pos,aft,g⟩ a w:=by
 unfold Ff;split
 ·rename_i I _
  split
  ·rename_i b xx
   split
   ·rename_i hb
    subst hb;obtain⟨L,TL,hS⟩:=hM.any;exact .pv ((bG hE hS I.ok hx hp).imp λ_ _ h=>⟨h.1,h.2,trivial⟩)
   ·exact .none
  ·rename_i i
   split
   ·rename_i c' x0 hB
    split
    ·rename_i hb
     subst hb;obtain⟨L,TL,p',cs,j,hS,g1,g2,g3⟩:=hM.get hB;obtain⟨p'',g4,rfl⟩:=hp;rw[g1] at g4;injection g4 with g4;subst g4
     exact .pv ((aC hE hS I.ok hx g2 (aR g3)).imp λ_ _ h=>⟨h.1,h.2,trivial⟩)
    ·exact .none
   ·exact .none
  ·rename_i i c b A
   split
   ·rename_i hb
    subst hb;split
    ·rename_i c' x0 hB
     split
     ·rename_i x1 hc
      obtain⟨e,hc⟩:=bY hc;subst e;subst hc;obtain⟨L,TL,p',cs,j,hS,g1,g2,g3⟩:=hM.get hB;obtain⟨p'',g4,rfl⟩:=hp;rw[g1] at g4;injection g4 with g4;subst g4
      have:=CI A (o:=0) (aR g3);rw[X5] at this;exact .pv ((aC hE hS I.ok hx g2 this).imp λ_ _ h=>⟨h.1,h.2,trivial⟩)
     ·exact .none
    ·exact .none
   ·exact .none
  ·rename_i i j c b A
   split
   ·rename_i hb
    subst hb;split
    ·rename_i c' nn xs hB
     split
     ·rename_i ys hc
      obtain⟨e,hc⟩:=bY hc;injection e with e
      subst e;subst hc;refine .pb λxx hxx=>?_;obtain⟨L,TL,p',cs,j',hS,g1,g2,g3⟩:=hM.get hB;obtain⟨p'',g4,rfl⟩:=hp;rw[g1] at g4;injection g4 with g4;subst g4
      exact(aC hE hS I.ok hx g2 (CI A (GS.elem g3.1 hxx))).imp λ_ _ h=>⟨h.1,h.2,trivial⟩
     ·exact .none
    ·exact .none
   ·exact .none
  ·exact .none
 ·exact .none
theorem Gz {s f:Nat}(hE:ax δ n a l)(hx:evl l x=some u)(hp:p.Rel G P m z u):gK G P m z (CD Γ (eW Ls) s f p) ⟨some d,.fieldAddr s x f,ty,pos,aft,g⟩ a w:=by
 unfold CD;split
 ·rename_i F _
  split
  ·rename_i t0 v0
   split
   ·rename_i x1 hc
    obtain⟨e,hc⟩:=bY hc;subst e;subst hc;exact .pv (jF hE F.ok F.A.fld hx hp)
   ·exact .none
  ·rename_i i
   split
   ·split
    ·obtain ⟨p',g1,rfl⟩:=hp
     exact .run (aM hE F.ok hx) ⟨p',g1,by rw[X5]⟩
    ·exact .none
   ·exact .none
  ·rename_i i c b A
   split
   ·rename_i hb
    subst hb;obtain⟨p',g1,rfl⟩:=hp;exact .run (aM hE F.ok hx) ⟨p',g1,rfl⟩
   ·exact .none
  ·rename_i i j c b A
   split
   ·rename_i hb
    subst hb;obtain⟨p',g1,rfl⟩:=hp;exact .run (aM hE F.ok hx) ⟨p',g1,by show _=_;simp only[Acc.comp,Nat.add_assoc]⟩
   ·exact .none
  ·exact .none
 ·exact .none
theorem GA (hE:ax δ n a l)(hM:gk G W0 L0 T0 Ls Ts m z w)(hx:evl l x=some u)(hy:evl l y=some v)(hp:p.Rel G P m z u)(hq:q.Rel G P m z v):gK G P m z (CE Γ (eW Ls) t p q) ⟨some d,.indexAddr t x y,ty,pos,aft,g⟩ a w:=by
 unfold CE;split
 ·rename_i k q' hi
  obtain⟨rfl,_⟩:=AV.i_rel hi hq;split
  ·rename_i i
   split
   ·rename_i R c nn xs _ hB
    split
    ·rename_i h1
     obtain⟨rfl,rfl⟩:=h1;refine .pb λj hj=>?_;obtain⟨L,TL,p',cs,j',hS,g1,g2,g3⟩:=hM.get hB;obtain⟨p'',g4,rfl⟩:=hp;rw[g1] at g4;injection g4 with g4;subst g4
     exact(rz (k:=R.t.kd G) hE hx hy R.hu R.hs g3.2 hj rfl).step ⟨rfl,p',g1,rfl⟩
    ·exact .none
   ·exact .none
  ·rename_i i
   split
   ·rename_i I c nn xs _ hB
    split
    ·rename_i h1
     refine .pb λj hj=>?_;obtain⟨L,TL,p',cs,j',hS,g1,g2,g3⟩:=hM.get hB;obtain⟨p'',g4,rfl⟩:=hp;rw[g1] at g4;injection g4 with g4;subst g4
     exact(br hE hx hy (I.sl h1).hu (I.sl h1).hs g3.1 hj rfl).step ⟨rfl,p',g1,rfl⟩
    ·exact .none
   ·exact .none
  ·split
   ·rename_i I _
    split
    ·rename_i c hT
     split
     ·rename_i xs h3
      have hv:=AV.as_rel h3 hp;exact .pb λxx hxx=>dT (k:=c.kd G) hE hx hy (I.sl hT).hu (I.sl hT).hs hv hxx
     ·exact .none
    ·exact .none
   ·exact .none
 ·exact .none
theorem GB (hE:ax δ n a l)(hx:evl l x=some u)(hy:evl l y=some v)(hp:p.Rel G P m z u)(hq:q.Rel G P m z v):gK G P m z (CF Γ t p q) ⟨some d,.index t x y,ty,pos,aft,g⟩ a w:=by
 unfold CF;split
 ·rename_i I s k q' _ h1 h2
  obtain⟨rfl,_⟩:=AV.i_rel h2 hq;obtain⟨rfl,h3,_⟩:=AV.s_rel h1 hp;split
  ·rename_i hT
   exact .pb λc hc=>(Ib hE hx hy (TI.str hT) h3 hc).step ⟨rfl,c9 (Ic h3 hc)⟩
  ·exact .none
 ·exact .none
def OkO (G:Sg) (P:Program) (l:List (Nat×Value)) (m:M) (z:Cz):Option Operand→Option (Option (AV G))→Prop
 |none,none=>True
 |some o,some av=>∀b,av=some b→∃v,evl l o=some v∧b.Rel G P m z v
 |_,_=>False
theorem CJ {o:Option Operand}{lv:Option (Option (AV G))}{dflt e:Int}:OkO G P l m z o lv→bnd dflt lv=some e→match o with|some o=>∃kk,evl l o=some (.int kk e)|none=>e=dflt:=by
 intro h he;cases o with
 |none=>
  cases lv with
  |none=>injection he with he;exact he.symm
  |some _=>exact h.elim
 | some o =>
  cases lv with
  |none=>exact h.elim
  | some av =>
   cases av with
   |none=>cases he
   | some b =>
    obtain⟨v,g1,g2⟩:=h b rfl;cases hb:b.i? with
    |none=>simp[bnd,hb] at he
    |some r=>
     simp[bnd,hb] at he;obtain⟨rfl,_⟩:=AV.i_rel (k:=r.1) (x:=r.2) hb g2;exact⟨r.1,by rw[g1,he]⟩
theorem GC {lo hi:Option Operand} {lv hv:Option (Option (AV G))} (hE:ax δ n a l) (hx:evl l x=some u) (hp:p.Rel G P m z u)
  (hlo:OkO G P l m z lo lv)
  (hhi:OkO G P l m z hi hv):
  gK G P m z (CG Γ t p lv hv) ⟨some d,.slice t x lo hi none,ty,pos,aft,g⟩ a w:=by
 unfold CG;split
 ·rename_i I _
  split
  ·rename_i c hT
   split
   ·rename_i xs h3
    have hV:=AV.as_rel h3 hp;split
    ·rename_i lo' hi' e1 e2
     refine .pb λys hys=>?_;have k1:=CJ hlo e1;have k2:=CJ hhi e2;exact(eD (k:=c.kd G) hE hx (I.sl hT).hu (I.sl hT).hs hV k1 k2 hys).imp λ_ _ h=>⟨h.1,h.2,trivial⟩
    ·exact .none
   ·exact .none
  ·exact .none
 ·exact .none
theorem Bd {s:Nat} {B:BI P G s} {l:List (Nat×Value)}: ∀{ps:List (Nat×Operand)} {x0 xx:G.α s} {σ:Operand→Option (AV G)},(∀p∈ps,∀b,σ p.2=some b→ ∃v,evl l p.2=some v∧b.Rel G P m z v)→
  tX Γ s B.pl (ps.map λp=>(p.1,σ p.2)) x0=some xx→∃pv,ps.mapM (λp=>(evl l p.2).map λv=>(p.1,v))=some pv∧xf (B.pl.toArray[·]?) (G.k s) m pv x0 xx
 |[],x0,xx,σ,_,h=>by
  simp only[Xn,tX,Option.some.injEq] at h;subst h;exact⟨[],rfl,.nil⟩
 | (f, o) :: ps, x0, xx, σ, hr, h => by
  simp only[Z9] at h;cases hs:σ o with
  |none=>simp[hs,tX] at h
  | some b =>
   rw[hs] at h;unfold tX at h;split at h
   ·rename_i F _
    split at h
    ·rename_i y hy
     split at h
     ·rename_i q hq
      split at h
      ·rename_i he
       obtain⟨v,g1,g2⟩:=hr (f,o) (by simp) b hs;obtain⟨pv,k1,k2⟩:=Bd (λp hp=>hr p (by simp[hp])) h;refine⟨(f,v)::pv,by simp[g1,k1],?_⟩;refine .cons (off:=F.A.off) ?_ F.A.stf (AV.as_rel hy g2) k2;show B.pl.toArray[f]? =_;rw[List.getElem?_toArray,hq,←he.1,←he.2]
      ·cases h
     ·cases h
    ·cases h
   ·cases h
theorem GD {ps:Array (Nat×Operand)} {σ:Operand→Option (AV G)} (hE:ax δ n a l) (hr: ∀p∈ps.toList,∀b,σ p.2=some b→ ∃v,evl l p.2=some v∧b.Rel G P m z v):
  gK G P m z (CH Γ t (ps.toList.map λp=>(p.1,σ p.2))) ⟨some d,.build t ps,ty,pos,aft,g⟩ a w:=by
 unfold CH;split
 ·rename_i B _
  split
  ·rename_i xx hxx
   obtain⟨pvs,k1,k2⟩:=Bd hr hxx;exact .pv ((jX hE k1 B.hu B.hpl B.hz B.hzR B.agg k2).imp λ_ _ h=>⟨h.1,h.2,trivial⟩)
  ·exact .none
 ·exact .none
theorem Kh (hE:ax δ n a l)(hM:gk G W0 L0 T0 Ls Ts m z w)(hx:evl l x=some u)(hp:p.Rel G P m z u):gK G P m z (Io Γ (eW Ls) t p) ⟨some d,.call ⟨.builtin .len,#[x],#[t]⟩,ty,pos,aft,g⟩ a w:=by
 unfold Io;split
 ·rename_i I _
  split
  ·rename_i hT
   split
   ·rename_i s hs
    obtain⟨rfl,h1,h2⟩:=AV.s_rel hs hp;exact .run (H7 hE hx rfl (TI.str hT)) (c9 (dK h2))
   ·exact .none
  ·rename_i c hT
   split
   ·have hv:u= .slice none 0 0:=hp
    subst hv;exact .run (bd (k:=c.kd G) (m:=m) (xs:=[]) hE hx rfl (I.sl hT).hu dL) ⟨rfl,aw (by decide)⟩
   ·rename_i i
    split
    ·rename_i c' nn xs hB
     split
     ·rename_i hc
      subst hc;obtain⟨L,TL,p',cs,j',hS,g1,g2,g3⟩:=hM.get hB;obtain⟨p'',g4,rfl⟩:=hp;rw[g1] at g4;injection g4 with g4;subst g4
      exact .run (mb hE hx rfl (I.sl hT).hu g3.1) (c9 (dK (GS.len g3.1)))
     ·exact .none
    ·exact .none
   ·split
    ·rename_i xs h3
     have hV:=AV.as_rel h3 hp;exact .run (bd (k:=c.kd G) hE hx rfl (I.sl hT).hu hV) (c9 (dK (iH hV)))
    ·exact .none
  ·exact .none
 ·exact .none
theorem GE {mx:Bool}{ts:Array TypeId}(hE:ax δ n a l)(hx:evl l x=some u)(hy:evl l y=some v)(hp:p.Rel G P m z u)(hq:q.Rel G P m z v):gK G P m z (mmA mx p q) ⟨some d,.call ⟨.builtin (match mx with|true=> .max|false=> .min),#[x,y],ts⟩,ty,pos,aft,g⟩ a w:=by
 unfold mmA;split
 ·rename_i k p' k' q' h1 h2
  obtain⟨rfl,h3⟩:=AV.i_rel h1 hp;obtain⟨rfl,h4⟩:=AV.i_rel h2 hq;split
  ·rename_i e
   subst e;cases mx with
   |true=>exact .run (Gf hE hx hy) (c9 (Ef h3 h4))
   |false=>exact .run (Ci hE hx hy) (c9 (J4 h3 h4))
  ·exact .none
 ·exact .none
end
section
variable {G:Sg} {P:Program} {δ:List Nat} {n:Nat} {a:Act} {m:M} {z:Cz} {w:World} {ty:TypeId} {d:Nat} {pos:String} {aft:Array Edge} {g:Option (Nat×Bool)} {Γ:Tab P G}
 {W0:Bse} {L0:Rs} {T0:List (Nat×Value)} {Ls:List (Nat×BC G)} {Ts:List Nat} {ρ:Operand→Option (EV G)}
theorem bp (hρ:∀x e,ρ x=some e→e.Rel G P m z (a.eval x)){x:Operand}{b:AV G}(h:av? (ρ x)=some b):b.Rel G P m z (a.eval x):=by
 cases hx:ρ x with
 |none=>simp[hx,av?] at h
 | some e =>
  cases e with
  |one v=>
   simp only[hx,av?,Option.some.injEq] at h;subst h;exact hρ x _ hx
  |tup vs=>simp[hx,av?] at h
theorem Ir {asv:List (AV G)}{vs:List Value}(h:pw G P m z asv vs){i:Nat}{b:AV G}(hb:asv[i]? =some b):∃v,vs[i]? =some v∧b.Rel G P m z v:=by
 induction asv generalizing vs i with
 |nil=>simp at hb
 | cons x asv ih =>
  cases vs with
  |nil=>exact h.elim
  |cons v vs=>
   cases i with
   |zero=>simp at hb;subst hb;exact⟨v,rfl,h.1⟩
   |succ i=>simp at hb;obtain⟨v',g1,g2⟩:=ih h.2 hb;exact⟨v',by simpa using g1,g2⟩
theorem Eo {o:Op} (hd:a.defers=δ.map fun D=>{ target:= .collected D,args:= #[] }) (hs:a.tmps.size=n) (hM:gk G W0 L0 T0 Ls Ts m z w) (hρ: ∀x e,ρ x=some e→e.Rel G P m z (a.eval x)):
  gK G P m z (yZ Γ ρ (eW Ls) o) ⟨some d,o,ty,pos,aft,g⟩ a w:=by
 unfold yZ;split
 ·rename_i x
  obtain⟨l,hE,hl⟩:=d4 hd hs [x];split
  ·rename_i e he;exact .pe ((iF hE (hl x (by simp))).step ⟨rfl,hρ _ _ he⟩)
  ·exact .none
 ·rename_i x
  obtain⟨l,hE,hl⟩:=d4 hd hs [x];split
  ·rename_i e he;exact .pe ((ma hE (hl x (by simp))).step ⟨rfl,hρ _ _ he⟩)
  ·exact .none
 ·rename_i c x y
  obtain⟨l,hE,hl⟩:=d4 hd hs [c,x,y];split
  ·rename_i ca hc
   split
   ·rename_i b hb
    have hv:=AV.b_rel hb (bp hρ hc);have hc':=hl c (by simp);rw[hv] at hc';split
    ·split
     ·rename_i e he;exact .pe ((tT hE hc' rfl (hl x (by simp))).step ⟨rfl,hρ _ _ he⟩)
     ·exact .none
    ·split
     ·rename_i e he;exact .pe ((tU hE hc' rfl (hl y (by simp))).step ⟨rfl,hρ _ _ he⟩)
     ·exact .none
   ·exact .none
  ·exact .none
 ·rename_i x
  obtain⟨l,hE,hl⟩:=d4 hd hs [x];have hx:=hl x (by simp);split
  ·rename_i t v h1
   have hr:=bp hρ h1;obtain⟨b,o,hv,hR⟩:=hr;rw[hv] at hx;exact .run (ci hE hx) ⟨b,o,rfl,hR⟩
  ·rename_i h1
   obtain⟨p,hp,hv⟩:=bp hρ h1;rw[hv] at hx;exact .run (ci hE hx) ⟨p,hp,rfl⟩
  ·rename_i h1
   obtain⟨p,hp,hv⟩:=bp hρ h1;rw[hv] at hx;exact .run (ci hE hx) ⟨p,hp,rfl⟩
  ·rename_i h1
   obtain⟨p,hp,hv⟩:=bp hρ h1;rw[hv] at hx;exact .run (ci hE hx) ⟨p,hp,rfl⟩
  ·exact .none
 ·rename_i x y _
  obtain⟨l,hE,hl⟩:=d4 hd hs [x,y];split
  ·rename_i h1 h2
   exact Kg hE (hl x (by simp)) (hl y (by simp)) (bp hρ h1) (bp hρ h2)
  ·exact .none
 ·rename_i x
  obtain⟨l,hE,hl⟩:=d4 hd hs [x];split
  ·rename_i h1;exact LO hE (hl x (by simp)) (bp hρ h1)
  ·exact .none
 ·rename_i x
  obtain⟨l,hE,hl⟩:=d4 hd hs [x];split
  ·rename_i h1
   obtain⟨L,TL,hS⟩:=hM.any;exact Ip hE hS (hl x (by simp)) (bp hρ h1)
  ·exact .none
 ·rename_i x i
  obtain⟨l,hE,hl⟩:=d4 hd hs [x];have hx:=hl x (by simp);split
  ·rename_i vs h1
   split
   ·rename_i v hv
    obtain⟨us,hu,hR⟩:=hρ _ _ h1;obtain⟨u,g1,g2⟩:=Ir hR hv;rw[hu] at hx;exact .run (bM hE hx (by simpa using g1)) g2
   ·exact .none
  ·exact .none
 ·rename_i x
  obtain⟨l,hE,hl⟩:=d4 hd hs [x];split
  ·rename_i h1;exact Iq hE hM (hl x (by simp)) (bp hρ h1)
  ·exact .none
 ·rename_i x _
  obtain⟨l,hE,hl⟩:=d4 hd hs [x];split
  ·rename_i h1;exact Gz hE (hl x (by simp)) (bp hρ h1)
  ·exact .none
 ·rename_i x y
  obtain⟨l,hE,hl⟩:=d4 hd hs [x,y];split
  ·rename_i h1 h2;exact GA hE hM (hl x (by simp)) (hl y (by simp)) (bp hρ h1) (bp hρ h2)
  ·exact .none
 ·rename_i x y
  obtain⟨l,hE,hl⟩:=d4 hd hs [x,y];split
  ·rename_i h1 h2;exact GB hE (hl x (by simp)) (hl y (by simp)) (bp hρ h1) (bp hρ h2)
  ·exact .none
 ·rename_i x lo hi
  obtain⟨l,hE,hl⟩:=d4 hd hs (x::(lo.toList++hi.toList));split
  ·rename_i h1
   refine GC hE (hl x (by simp)) (bp hρ h1) ?_ ?_
   ·cases lo with
    |none=>trivial
    |some o=>exact λb hb=>⟨_,hl o (by simp),bp hρ hb⟩
   ·cases hi with
    |none=>trivial
    |some o=>exact λb hb=>⟨_,hl o (by simp),bp hρ hb⟩
  ·exact .none
 ·rename_i t ps
  obtain⟨l,hE,hl⟩:=d4 hd hs (ps.toList.map (·.2));exact GD (σ:=λx=>av? (ρ x)) hE λp hp b hb=>⟨_,hl p.2 (List.mem_map_of_mem hp),bp hρ hb⟩
 ·rename_i x t
  obtain⟨l,hE,hl⟩:=d4 hd hs [x];split
  ·rename_i h1;exact Kh hE hM (hl x (by simp)) (bp hρ h1)
  ·exact .none
 ·rename_i x y _
  obtain⟨l,hE,hl⟩:=d4 hd hs [x,y];split
  ·rename_i h1 h2;exact GE (mx:=true) hE (hl x (by simp)) (hl y (by simp)) (bp hρ h1) (bp hρ h2)
  ·exact .none
 ·rename_i x y _
  obtain⟨l,hE,hl⟩:=d4 hd hs [x,y];split
  ·rename_i h1 h2;exact GE (mx:=false) hE (hl x (by simp)) (hl y (by simp)) (bp hρ h1) (bp hρ h2)
  ·exact .none
 ·exact .none
end
section
variable {W0:Bse}{m:M}{w:World}{L:List (Nat×List Value)}{TL:List (Nat×Value)}
theorem S.takeL (h:S W0 m w L TL){i:Nat}{e:Nat×List Value}(hi:L[i]? =some e):S W0 m w (e::L.set i (e.1,[])) TL:=by
 have key:∀(j:Nat) (x:Nat×List Value),(e::L.set i (e.1,[]))[j]? =some x→x.2≠[]→∃k,L[k]? =some x∧(j=0∧k=i∨j=k+1∧k≠i):=by
  intro j x hx hv;cases j with
  |zero=>simp at hx;subst hx;exact⟨i,hi,.inl ⟨rfl,rfl⟩⟩
  | succ j =>
   simp only[Zo,Xc] at hx;split at hx
   ·split at hx
    ·injection hx with hx;subst hx;exact absurd rfl hv
    ·cases hx
   ·rename_i hne;exact⟨j,hx,.inr ⟨rfl,λe=>hne e.symm⟩⟩
 refine⟨h.below,h.imm,λj x hx hv=>?_,λj k x y hx hy hjk hv hv'=>?_,h.tails,h.apart⟩
 ·obtain⟨k,hk,_⟩:=key j x hx hv;exact h.own k x hk hv
 ·obtain ⟨j',hj,h1⟩:=key j x hx hv
  obtain⟨k',hk,h2⟩:=key k y hy hv';exact h.nodup j' k' x y hj hk (by omega) hv hv'
theorem S.putL {e:Nat×List Value}(h:S W0 m w (e::L) TL){i b:Nat}(_hi:L[i]? =some (b,[])):S W0 m w (L.set i e) TL:=by
 have key:∀(j:Nat) (x:Nat×List Value),(L.set i e)[j]? =some x→x.2≠[]→∃k,(e::L)[k]? =some x∧(j=i∧k=0∨j≠i∧k=j+1):=by
  intro j x hx hv;rw[Xc] at hx;split at hx
  ·rename_i hij
   split at hx
   ·injection hx with hx;subst hx;exact⟨0,rfl,.inl ⟨hij.symm,rfl⟩⟩
   ·cases hx
  ·rename_i hij;exact⟨j+1,by simpa using hx,.inr ⟨λe=>hij e.symm,rfl⟩⟩
 refine⟨h.below,h.imm,λj x hx hv=>?_,λj k x y hx hy hjk hv hv'=>?_,h.tails,h.apart⟩
 ·obtain⟨k,hk,_⟩:=key j x hx hv;exact h.own k x hk hv
 ·obtain ⟨j',hj,h1⟩:=key j x hx hv
  obtain⟨k',hk,h2⟩:=key k y hy hv';exact h.nodup j' k' x y hj hk (by omega) hv hv'
theorem S.takeT (h:S W0 m w L TL){i:Nat}{e:Nat×Value}(hi:TL[i]? =some e):S W0 m w L (e::TL.set i (e.1,.slice none 0 0)):=by
 have key:∀(j:Nat) (x:Nat×Value),(e::TL.set i (e.1,.slice none 0 0))[j]? =some x→x.2= .slice none 0 0∨ ∃k,TL[k]? =some x∧(j=0∧k=i∨j=k+1∧k≠i):=by
  intro j x hx;cases j with
  |zero=>simp at hx;subst hx;exact .inr ⟨i,hi,.inl ⟨rfl,rfl⟩⟩
  | succ j =>
   simp only[Zo,Xc] at hx;split at hx
   ·split at hx
    ·injection hx with hx;subst hx;exact .inl rfl
    ·cases hx
   ·rename_i hne;exact .inr ⟨j,hx,.inr ⟨rfl,λe=>hne e.symm⟩⟩
 refine⟨h.below,h.imm,h.own,h.nodup,λj x hx=>?_,λj k x y hx hy hjk=>?_⟩
 ·rcases key j x hx with hx|⟨k,hk,_⟩
  ·obtain⟨s,v⟩:=x;simp only at hx;subst hx;trivial
  ·exact h.tails k x hk
 ·rcases key j x hx with hx|⟨j',hj,h1⟩
  ·intro b hb;rw[hx] at hb;simp[jy] at hb
  ·rcases key k y hy with hy|⟨k',hk,h2⟩
   ·intro b hb;rw[hy];simp[jy]
   ·exact h.apart j' k' x y hj hk (by omega)
end
def bH (G:Sg):List Ty→Type
 |[]=>Unit
 |[t]=>t.den G
 |t::t'::ts=>t.den G×bH G (t'::ts)
def hdT (G:Sg) (t:Ty):(ts:List Ty)→bH G (t::ts)→t.den G
 |[],x=>x
 |_::_,x=>x.1
def tlT (G:Sg) (t:Ty):(ts:List Ty)→bH G (t::ts)→bH G ts
 |[],_=>()
 |_::_,x=>x.2
def mkT (G:Sg) (t:Ty):(ts:List Ty)→t.den G→bH G ts→bH G (t::ts)
 |[],x,_=>x
 |_::_,x,y=>(x,y)
theorem y2 {G:Sg} {t:Ty}: ∀{ts:List Ty} {x:t.den G} {y:bH G ts},hdT G t ts (mkT G t ts x y)=x
 |[],_,_=>rfl
 |_::_,_,_=>rfl
theorem y3 {G:Sg} {t:Ty}: ∀{ts:List Ty} {x:t.den G} {y:bH G ts},tlT G t ts (mkT G t ts x y)=y
 |[],_,_=>rfl
 |_::_,_,_=>rfl
inductive Pm where
 |rd (u:Ty)
 |ap (u:Ty)
 |pt (u:Ty)
 |ow (u:Ty)
 |f1 (a b:Ty)
 |f2 (a c b:Ty)
inductive Rm where
 |rd (u:Ty)
 |ap (u:Ty)
 |ow (u:Ty)
def Pm.den (G:Sg):Pm→Type
 | .rd t=>t.den G
 | .ap t=>List (t.den G)
 | .pt t=>t.den G
 | .ow t=>List (t.den G)
 | .f1 a b=>a.den G→Option (b.den G)
 | .f2 a c b=>a.den G→c.den G→Option (b.den G)
def d5 (G:Sg):List Pm→Type
 |[]=>Unit
 |p::ps=>p.den G×d5 G ps
def Pm.out:Pm→Option Ty
 | .pt t=>some t
 | .ow t=>some (.sl t)
 |_=>none
def Rm.ty:Rm→Ty
 | .rd t=>t
 | .ap t=> .sl t
 | .ow t=> .sl t
def jZ (G:Sg) (P:Program) (m:M):(ps:List Pm)→List Value→d5 G ps→List (Nat×List Value)→List (Nat×Value)→Prop
 |[],[],_,[],[]=>True
 | .rd t::ps,v::vs,x,Lp,Tp=>RV (t.kd G) m v x.1∧jZ G P m ps vs x.2 Lp Tp
 | .ap t::ps,v::vs,x,Lp,e::Tp=>RV (kSl (t.kd G)) m v x.1∧e=((t.kd G).sz,v)∧jZ G P m ps vs x.2 Lp Tp
 | .pt t::ps,v::vs,x,e::Lp,Tp=>(t.kd G).R m e.2 x.1∧v= .pointer (some ⟨e.1,0,none⟩)∧jZ G P m ps vs x.2 Lp Tp
 | .ow t::ps,v::vs,x,e::Lp,Tp=>GS (t.kd G) m e.1 e.2 v x.1∧jZ G P m ps vs x.2 Lp Tp
 | .f1 a b::ps,v::vs,x,Lp,Tp=>Fn1 P (a.kd G) (b.kd G) m v x.1∧jZ G P m ps vs x.2 Lp Tp
 | .f2 a c b::ps,v::vs,x,Lp,Tp=>Fn2 P (a.kd G) (c.kd G) (b.kd G) m v x.1∧jZ G P m ps vs x.2 Lp Tp
 |_,_,_,_,_=>False
def iC (G:Sg) (m:M):(ps:List Pm)→List Value→bH G (ps.filterMap Pm.out)→List (Nat×List Value)→List (Nat×List Value)→Prop
 |[],_,_,[],[]=>True
 | .pt t::ps,_::vs,x,e::Lp,e'::Lp'=>e'.1=e.1∧(t.kd G).R m e'.2 (hdT G t (ps.filterMap Pm.out) x)∧iC G m ps vs (tlT G t (ps.filterMap Pm.out) x) Lp Lp'
 | .ow t::ps,v::vs,x,e::Lp,e'::Lp'=>e'.1=e.1∧GS (t.kd G) m e'.1 e'.2 v (hdT G (.sl t) (ps.filterMap Pm.out) x)∧iC G m ps vs (tlT G (.sl t) (ps.filterMap Pm.out) x) Lp Lp'
 | .rd _::ps,_::vs,x,Lp,Lp'=>iC G m ps vs x Lp Lp'
 | .ap _::ps,_::vs,x,Lp,Lp'=>iC G m ps vs x Lp Lp'
 | .f1 _ _::ps,_::vs,x,Lp,Lp'=>iC G m ps vs x Lp Lp'
 | .f2 _ _ _::ps,_::vs,x,Lp,Lp'=>iC G m ps vs x Lp Lp'
 |_,_,_,_,_=>False
def mT (G:Sg) (m:M) (os:List Ty):(rs:List Rm)→List Value→bH G (rs.map Rm.ty++os)→List (Nat×List Value)→List (Nat×Value)→Prop
 |[],[],_,[],[]=>True
 | .rd t::rs,v::vs,x,Lr,Tr=>RV (t.kd G) m v (hdT G t (rs.map Rm.ty++os) x)∧mT G m os rs vs (tlT G t (rs.map Rm.ty++os) x) Lr Tr
 | .ap t::rs,v::vs,x,Lr,e::Tr=>RV (kSl (t.kd G)) m v (hdT G (.sl t) (rs.map Rm.ty++os) x)∧e=((t.kd G).sz,v)∧mT G m os rs vs (tlT G (.sl t) (rs.map Rm.ty++os) x) Lr Tr
 | .ow t::rs,v::vs,x,e::Lr,Tr=>GS (t.kd G) m e.1 e.2 v (hdT G (.sl t) (rs.map Rm.ty++os) x)∧mT G m os rs vs (tlT G (.sl t) (rs.map Rm.ty++os) x) Lr Tr
 |_,_,_,_,_=>False
def rest (G:Sg) (os:List Ty):(rs:List Rm)→bH G (rs.map Rm.ty++os)→bH G os
 |[],x=>x
 |r::rs,x=>rest G os rs (tlT G r.ty (rs.map Rm.ty++os) x)
abbrev ib (ps:List Pm)(rs:List Rm):List Ty:=rs.map Rm.ty++ps.filterMap Pm.out
def Ctr (G:Sg) (P:Program) (f:FuncId) (ps:List Pm) (rs:List Rm) (g:d5 G ps→Option (bH G (ib ps rs))):Prop:=
 ∀(W0:Bse) (m:M) (w:World) (L:List (Nat×List Value)) (TL:List (Nat×Value)) (vs:List Value) (x:d5 G ps) (r:bH G (ib ps rs)) (Lp:List (Nat×List Value)) (Tp:List (Nat×Value)),
  S W0 m w (Lp++L) (Tp++TL)→jZ G P m ps vs x Lp Tp→g x=some r→
  Calls P f vs.toArray w (Ret λv w'=>∃(m':M) (us:List Value) (Lr Lp':List (Nat×List Value)) (Tr:List (Nat×Value)),M.le m m'∧S W0 m' w' (Lr++(Lp'++L)) (Tr++TL)∧v=tup us∧mT G m' (ps.filterMap Pm.out) rs us r Lr Tr∧iC G m' ps vs (rest G (ps.filterMap Pm.out) rs r) Lp Lp')
structure CS (P:Program) (G:Sg) where
 f:FuncId
 ps:List Pm
 rs:List Rm
 g:d5 G ps→Option (bH G (ib ps rs))
 ok:Ctr G P f ps rs g
 hc:∀vs w,(callFunc f vs).run P w= .ok (.enter f vs) w
set_option linter.unusedVariables false
section
variable {G:Sg}{P:Program}
def rmk {α:Type}:List (Nat×α)→Nat→List (Nat×α)
  |[],_=>[]
  |(q,x)::l,d=>if X8 q d then rmk l d else (q,x)::rmk l d
theorem lC {α : Type} {l : List (Nat × α)} {d : Nat} {e : Nat × α} (h : e ∈ rmk l d) : e ∈ l ∧ e.1 ≠ d := by
  induction l with
  |nil=>cases h
  | cons x l ih =>
    obtain⟨q,x⟩:=x;simp only[rmk] at h;split at h
    ·have:=ih h;exact⟨by simp[this.1],this.2⟩
    · rename_i hq
      rcases Zj.1 h with h|h
      · subst h
        exact⟨by simp,λe=>by subst e;simp at hq⟩
      ·have:=ih h;exact⟨by simp[this.1],this.2⟩
def St.put (st:St G)(d:Nat)(e:EV G):St G:={ st with env:=(d,st.c,e)::rmk st.env d }
def St.push (st:St G)(B:BC G):St G:={ st with L:=(st.c,B)::st.L }
def St.setB (st:St G)(i:Nat)(B:BC G):St G:={ st with L:=sb st.L i (st.c,B) }
def zZ (s:ByteArray):List Int:=s.data.toList.map λb=>(b.toNat:Int)
def cAV:Value→Option (AV G)
  | .int k n=>if k.wrap n=n then some (.li k n) else none
  | .bool b=>some (db b)
  | .string s=>if Xl (zZ s).length cI then some (.dat .str (zZ s) none) else none
  | .slice none 0 0=>some .nils
  | .agg cs=>some (.agc cs.toList)
  |_=>none
theorem Is (s:ByteArray):bts (zZ s)=s:=by
  cases s with
  | mk d =>
    unfold bts zZ;congr 1;apply Array.ext';simp[Xd,Function.comp_def]
theorem Ki (s:ByteArray):∀n∈zZ s,0≤n∧n<256:=by
  intro n hn;unfold zZ at hn;obtain⟨b,_,rfl⟩:=Xe.1 hn;have:=b.toNat_lt;omega
theorem z6 {v:Value}{b:AV G}{m:M}{z:Cz}(h:cAV v=some b):b.Rel G P m z v:=by
  unfold cAV at h;split at h
  · split at h
    ·rename_i hk;injection h with h;subst h;exact⟨rfl,hk⟩
    ·cases h
  ·injection h with h;subst h;exact eV
  · rename_i s
    split at h
    · rename_i hk
      injection h with h;subst h
      refine⟨?_,trivial⟩;have:=A4 (m:=m) (Ki s) (Z1 hk);rw[Is] at this;exact this
    ·cases h
  ·injection h with h;subst h;rfl
  · rename_i cs
    injection h with h;subst h
    show _=_;simp
  ·cases h
def St.op (st:St G):Operand→Option (EV G)
  | .tmp t=>(match lke st.env t with|some e=>some e.2|none=>none)
  | .const v=>(match cAV v with|some b=>some (.one b)|none=>none)
  |_=>none
theorem iq {α:Type}{l:List (Nat×α)}{q:Nat}{x:α}(h:lke l q=some x):(q,x)∈l:=by
  induction l with
  |nil=>cases h
  | cons e l ih =>
    obtain⟨j,y⟩:=e;simp only[lke] at h;split at h
    · rename_i hq
      have:=Z3 hq;injection h with h
      subst this;subst h;simp
    ·simp[ih h]
def j0 (G:Sg)(P:Program)(m:M)(z:Cz)(env:List (Nat×Nat×EV G))(a:Act):Prop:= ∀e∈env,e.2.2.Rel G P m z (a.tmps.getD e.1 undef)
theorem fc {st:St G}{a:Act}{m:M}{z:Cz}(h:j0 G P m z st.env a):∀x e,st.op x=some e→e.Rel G P m z (a.eval x):=by
  intro x e hx;cases x with
  | tmp t =>
    simp only[St.op] at hx;split at hx
    · rename_i e' he
      injection hx with hx;subst hx
      exact h _ (iq he)
    ·cases hx
  | const v =>
    simp only[St.op] at hx;split at hx
    · rename_i b hb
      injection hx with hx;subst hx
      exact z6 hb
    ·cases hx
  |_=>simp[St.op] at hx
structure Sat (G:Sg) (P:Program) (δ:List Nat) (n:Nat) (W0:Bse) (L0:Rs) (T0:List (Nat×Value)) (m0:M) (st:St G) (a:Act) (w:World):Prop where
  ex:∃m z,M.le m0 m∧j0 G P m z st.env a∧gk G W0 L0 T0 st.L st.T m z w
  df:a.defers=δ.map λD=>{ target:= .collected D,args:= #[] }
  sz:a.tmps.size=n
structure Ext (k0:Nat) (st st':St G):Prop where
  env:∀k,k<k0→∀e∈st'.env,e.2.1≤k→∃lv,lv≤k∧(e.1,lv,e.2.2)∈st.env
  blk:∀k,k<k0→∀i s B,fb st'.L i=some (s,B)→s≤k→∃s',s'≤k∧fb st.L i=some (s',B)
theorem Ext.refl (k0:Nat)(st:St G):Ext k0 st st:=⟨λk _ e he hl=>⟨e.2.1,hl,he⟩,λk _ i s B h hs=>⟨s,hs,h⟩⟩
theorem Ext.trans {k0:Nat} {a b c:St G} (h:Ext k0 a b) (k:Ext k0 b c):Ext k0 a c:=
  ⟨λq hq e he hl=>by
    obtain⟨lv,h1,h2⟩:=k.env q hq e he hl;exact h.env q hq (e.1,lv,e.2.2) h2 h1,
   λq hq i s B hb hs=>by
    obtain⟨s',h1,h2⟩:=k.blk q hq i s B hb hs
    exact h.blk q hq i s' B h2 h1⟩
theorem Ext.le {k0 k1:Nat}{a b:St G}(h:Ext k0 a b)(hk:k1≤k0):Ext k1 a b:=⟨λq hq=>h.env q (by omega),λq hq=>h.blk q (by omega)⟩
theorem Ext.put {st:St G} {d:Nat} {e:EV G}:Ext st.c st (st.put d e):=
  ⟨λk hk x hx hl=>by
    rcases Zj.1 hx with rfl|hx
    ·simp only at hl;omega
    ·exact⟨x.2.1,hl,(lC hx).1⟩,λk hk i s B h hs=>⟨s,hs,h⟩⟩
theorem xk {α:Type}{l:List α}{i:Nat}{y:α}(h:fb l i=some y):i<l.length:=by
  induction l with
  |nil=>simp[fb] at h
  | cons a l ih =>
    simp only[fb] at h;split at h
    · rename_i e
      have:=Z3 e;simp;omega
    ·have:=ih h;simp;omega
theorem Kj {α:Type}{l:List α}{x y:α}{i:Nat}(h:fb (x::l) i=some y):(i=l.length∧x=y)∨fb l i=some y:=by
  simp only[fb] at h;split at h
  · rename_i e
    injection h with h
    exact .inl ⟨Z3 e,h⟩
  ·exact .inr h
theorem JD {α : Type} {l : List α} {i j : Nat} {x y : α} (h : fb (sb l i x) j = some y) :(j = i ∧ x = y) ∨ (j ≠ i ∧ fb l j = some y) := by
  by_cases e:i=j
  · subst e
    cases hl:fb l i with
    | none =>
      exfalso
      have hlen:(sb l i x).length=l.length:=by
        clear h hl
        induction l with
        |nil=>rfl
        |cons a l ih=>simp only[sb];split<;>simp[ih]
      have h1:=xk h;rw[hlen] at h1
      have:∀{l:List α} {i:Nat},i<l.length→fb l i≠none:=by
        intro l
        induction l with
        |nil=>intro i h;simp at h
        | cons a l ih =>
          intro i h hn;simp only[fb] at hn;split at hn
          ·cases hn
          · rename_i hb
            have:i≠l.length:=λe=>by subst e;simp at hb
            simp at h;exact ih (by omega) hn
      exact this h1 hl
    | some y' =>
      rw[n9 hl] at h;injection h with h
      exact .inl ⟨rfl,h⟩
  · rw [jY e] at h
    exact .inr ⟨λx=>e x.symm,h⟩
theorem Ext.push {st:St G} {B:BC G}:Ext st.c st (st.push B):=
  ⟨λk hk x hx hl=>⟨x.2.1,hl,hx⟩,λk hk i s B' h hs=>by
    rcases Kj h with⟨_,h1⟩|h
    ·injection h1 with h1 _;omega
    ·exact⟨s,hs,h⟩⟩
theorem Ext.setB {st:St G} {i:Nat} {B:BC G}:Ext st.c st (st.setB i B):=
  ⟨λk hk x hx hl=>⟨x.2.1,hl,hx⟩,λk hk j s B' h hs=>by
    rcases JD h with⟨_,h1⟩|⟨_,h⟩
    ·injection h1 with h1 _;omega
    ·exact⟨s,hs,h⟩⟩
structure Zle (z z':Cz):Prop where
  b:∀i p,fb z.b i=some p→fb z'.b i=some p
  t:∀j v,fb z.t j=some v→fb z'.t j=some v
theorem Zle.refl (z:Cz):Zle z z:=⟨λ_ _ h=>h,λ_ _ h=>h⟩
theorem AV.Rel.z {m:M}{z z':Cz}{b:AV G}{v:Value}(h:b.Rel G P m z v)(hz:Zle z z'):b.Rel G P m z' v:=by
  cases b with
  | dat t x o =>
    refine⟨h.1,?_⟩;cases o with
    |none=>trivial
    |some j=>exact hz.t j v h.2
  |loc i a b A=>obtain⟨p,h1,h2⟩:=h;exact⟨p,hz.b _ _ h1,h2⟩
  |elp i j a b A=>obtain⟨p,h1,h2⟩:=h;exact⟨p,hz.b _ _ h1,h2⟩
  |blk i=>obtain⟨p,h1,h2⟩:=h;exact⟨p,hz.b _ _ h1,h2⟩
  |own i=>obtain⟨p,h1,h2⟩:=h;exact⟨p,hz.b _ _ h1,h2⟩
  |_=>exact h
theorem EV.Rel.z {m:M}{z z':Cz}{e:EV G}{v:Value}(h:e.Rel G P m z v)(hz:Zle z z'):e.Rel G P m z' v:=by
  cases e with
  |one b=>exact AV.Rel.z h hz
  | tup asv =>
    obtain⟨vs,h1,h2⟩:=h;refine⟨vs,h1,?_⟩;clear h1
    induction asv generalizing vs with
    |nil=>cases vs<;>exact h2
    | cons a asv ih =>
      cases vs with
      |nil=>exact h2
      |cons v vs=>exact⟨h2.1.z hz,ih vs h2.2⟩
theorem j0.z {m m':M}{z z':Cz}{env:List (Nat×Nat×EV G)}{a:Act}(h:j0 G P m z env a)(hm:M.le m m')(hz:Zle z z'):j0 G P m' z' env a:=λe he=>((h e he).mono hm).z hz
theorem j0.put {m:M}{z:Cz}{env:List (Nat×Nat×EV G)}{a:Act}{n d lv:Nat}{e:EV G}{v:Value}(h:j0 G P m z env a)(hs:a.tmps.size=n)(hd:Zn d n=true)(hv:e.Rel G P m z v):j0 G P m z ((d,lv,e)::rmk env d) (a.put (some d) v):=by
  have hd':d<n:=Z1 hd;intro x hx;rcases Zj.1 hx with rfl|hx
  ·simpa[Act.put,hs,hd'] using hv
  · obtain ⟨h1, h2⟩ := lC hx
    have:=h x h1;have hne:d≠x.1:=λe=>h2 e.symm;simpa[Act.put,Array.getElem?_setIfInBounds_ne hne] using this
theorem ku {α:Type}{l:List α}{i:Nat}{x:α}(h:fb l i=some x):sb l i x=l:=by
  induction l with
  |nil=>simp[fb] at h
  | cons a l ih =>
    simp only[fb] at h;simp only[sb];split at h
    ·rename_i e;injection h with h;subst h;simp[e]
    ·rename_i e;simp[e,ih h]
end
set_option linter.unusedVariables false
structure mU (G:Sg) where
 β:Type
 mv:Option β
 k:β→St G
section
variable {G:Sg}{P:Program}
def AV.tagged (j:Nat):AV G→Bool
 | .dat _ _ (some i)=>X8 i j
 |_=>false
def AV.er:AV G→AV G
 | .dat t x _=> .dat t x none
 |b=>b
def EV.tagged (j:Nat):EV G→Bool
 | .one b=>b.tagged j
 | .tup asv=>asv.any (AV.tagged j)
def EV.er:EV G→EV G
 | .one b=> .one b.er
 | .tup asv=> .tup (asv.map AV.er)
def nJ (j c:Nat)(env:List (Nat×Nat×EV G)):List (Nat×Nat×EV G):=env.map λe=>if e.2.2.tagged j then (e.1,c,e.2.2.er) else e
def nx (m:Nat)(by_:Nat):Nat:=m/(if by_=0 then 1 else by_)
theorem B6 (m by_:Nat):nx m by_*by_≤m∧nx m by_≤m:=by
 unfold nx;split
 ·rename_i h;subst h;simp
 ·exact⟨Nat.div_mul_le_self _ _,Nat.div_le_self _ _⟩
def xn:Nat:=140737488355328
def Fg:Nat:=281474976710656
def TI.sl? {i:TypeId}:TI P G i→Option (Sigma fun c:Ty=>SlI P G i c)
 |⟨.sl c,_,u,_,_,_,_⟩=>some ⟨c,u⟩
 |_=>none
def AV.own?:AV G→Option Nat
 | .own i=>some i
 |_=>none
def LP (Γ:Tab P G) (Lv:Nat→Option (BC G)) (c:Ty) (q:AV G):Option (List (c.den G)):=
 match q.own? with
 |some i=>(match Lv i with|some (.arr c' _ xs)=>dM G (.sl c') (.sl c) xs|_=>none)
 |none=>q.as Γ (.sl c)
def Iu (Γ:Tab P G) (Lv:Nat→Option (BC G)) (c T2:Ty) (q:AV G):Option (List (c.den G)):=
 match T2 with
 | .str=>(match q.s? with|some s=>dM G (.sl (.int .u8)) (.sl c) s|none=>none)
 | .sl _=>LP Γ Lv c q
 |_=>none
def z7 (Γ:Tab P G) (c:Ty):List (Nat×Option (AV G))→Nat→Option (List (c.den G))
 |[],_=>some []
 |(i,some b)::r,k=>if i=k then (match b.as Γ c,z7 Γ c r (k+1) with|some x,some xs=>some (x::xs)|_,_=>none) else none
 |_,_=>none
def Fh:Operand→Operand→Bool
 | .tmp i,.tmp j=>X8 i j
 | .const (.int k i),.const (.int k' j)=>decide (i=j)
 |_,_=>false
def two {β:Type}(mv:Option β)(k:β→St G):Option (mU G):=some ⟨β,mv,k⟩
def vR (s:St G):Option (mU G):=some ⟨Unit,some (),λ_=>s⟩
def allocT (Γ:Tab P G) (st:St G) (t:TypeId) (d:Nat):Option (mU G):=
 match Γ.ar t with
 |some R=>vR ((st.push (.arr R.t (some R.n) (Zu R.n R.z))).put d (.one (.blk st.L.length)))
 |none=>(match Γ.ty t with
  |some I=>vR ((st.push (.dat I.T I.z)).put d (.one (.blk st.L.length)))
  |none=>none)
def Iv (Γ:Tab P G) (st:St G) (t:TypeId) (x:Operand) (d:Nat):Option (mU G):=
 match Γ.ty t,av? (st.op x) with
 |some I,some b=>(match b.as Γ I.T with
  |some y=>vR ((st.push (.dat I.T y)).put d (.one (.blk st.L.length)))
  |none=>none)
 |_,_=>none
def CL (Γ : Tab P G) (st : St G) (t : TypeId) (x y : Operand) : Option (mU G) :=
 match Γ.ty t,av? (st.op x),av? (st.op y) with
 | some I, some p, some q =>(match q.as Γ I.T with
  | some v =>(match p with
   | .blk i=>(match eW st.L i with
    |some (.dat c x0)=>if c=I.T then vR (st.setB i (.dat I.T v)) else none
    |_=>none)
   | .loc i c b A =>(match eW st.L i with
    |some (.dat c' x0)=>(match dM G c' c x0,dM G I.T b v with
     |some x1,some v=>vR (st.setB i (.dat c (A.set x1 v)))
     |_,_=>none)
    |_=>none)
   | .elp i j c b A =>(match eW st.L i with
    |some (.arr c' n xs)=>(match dM G (.sl c') (.sl c) xs,dM G I.T b v with
     |some ys,some v=>two (LN (α:=c.den G) ys j) λx1=>st.setB i (.arr c n (List.set (α:=c.den G) ys j (A.set x1 v)))
     |_,_=>none)
    |_=>none)
   |_=>none)
  |none=>none)
 |_,_,_=>none
def Iw (Γ:Tab P G) (st:St G) (t:TypeId) (len:Nat) (ps:Array (Nat×Operand)) (d:Nat):Option (mU G):=
 match Γ.ty t with
 | some I =>(match I.sl? with
  |some ⟨c,_⟩=>(match z7 Γ c (ps.toList.map λp=>(p.1,av? (st.op p.2))) 0 with
   |some xs=>if ps.toList.length=len∧Xl (len*(c.kd G).sz) 16777216=true then vR ({ st with T:=(c.kd G).sz::st.T }.put d (.one (.dat (.sl c) xs (some st.T.length)))) else none
   |none=>none)
  |none=>none)
 |none=>none
def Ix (Γ : Tab P G) (st : St G) (t t2 : TypeId) (x y : Operand) (d : Nat) : Option (mU G) :=
 match Γ.ty t,Γ.ty t2,av? (st.op x),av? (st.op y) with
 | some I, some I2, some p, some q =>(match I.sl? with
  | some ⟨c, B⟩ =>(match Iu Γ (eW st.L) c I2.T q with
   | some ys =>(match p with
    | .nils=>two (app (nx xn B.by_) ([]:List (c.den G)) ys) λzs=>{ st with T:=(c.kd G).sz::st.T }.put d (.one (.dat (.sl c) zs (some st.T.length)))
    | .dat t' xs (some j)=>(match dM G t' (.sl c) xs with
     |some xs=>if fb st.T j=some (c.kd G).sz then two (app (α:=c.den G) (nx xn B.by_) xs ys) λzs=>{ st with env:=nJ j st.c st.env }.put d (.one (.dat (.sl c) zs (some j))) else none
     |none=>none)
    |_=>none)
   |none=>none)
  |none=>none)
 |_,_,_,_=>none
def Fi (Γ:Tab P G) (st:St G) (t:TypeId) (x y:Operand) (d:Nat):Option (mU G):=
 match Γ.ty t,av? (st.op x),av? (st.op y) with
 |some I,some p,some q=>(match I.sl?,p.i?,q.i? with
  |some ⟨c,B⟩,some (_,i),some (_,_)=>if Fh x y=true then two (mk (nx Fg B.by_) i B.z) λzs=>(st.push (.arr c none zs)).put d (.one (.own st.L.length)) else none
  |_,_,_=>none)
 |_,_,_=>none
def Fj (Γ:Tab P G) (st:St G) (t:TypeId) (x y:Operand) (d:Nat):Option (mU G):=
 match Γ.ty t,av? (st.op x),av? (st.op y) with
 | some I, some (.own i), some q =>(match I.sl?, eW st.L i with
  |some ⟨c,B⟩,some (.arr c' n xs)=>(match dM G (.sl c') (.sl c) xs,q.as Γ (.sl c) with
   |some xs,some ys=>vR ((st.setB i (.arr c n (cpy (α:=c.den G) xs ys))).put d (.one (di .i64 ((min (List.length (α:=c.den G) ys) (List.length (α:=c.den G) xs):Nat):Int))))
   |_,_=>none)
  |_,_=>none)
 |_,_,_=>none
def CM (Γ:Tab P G) (st:St G):Op→Option Nat→Option (mU G)
 | .alloc t,some d=>allocT Γ st t d
 | .box t x,some d=>Iv Γ st t x d
 | .store t x y,none=>CL Γ st t x y
 | .buildSlice t len ps,some d=>Iw Γ st t len ps d
 | .call ⟨.builtin .append,⟨[x,y]⟩,⟨[t,t2]⟩⟩,some d=>Ix Γ st t t2 x y d
 | .call ⟨.builtin .copy,⟨[x,y]⟩,⟨[t,_]⟩⟩,some d=>Fj Γ st t x y d
 | .makeSlice t x y,some d=>Fi Γ st t x y d
 |_,_=>none
end
end Go.Proofs.YthbonoagbeilkaaGreat.Hay
