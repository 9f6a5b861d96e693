import Derived.Test.YthbonoagbeilkaaGreatHbA
import Derived.WideKeyEntry
import Derived.DeepKeys4
set_option linter.unusedVariables false
set_option linter.unusedSimpArgs false
set_option maxRecDepth 100000
namespace Go.Proofs.YthbonoagbeilkaaGreat.Hay
open Option renaming bind_some→Zx,none→Yc
open List renaming getElem?_eq_some_iff→j6,getElem?_append_right→zx,getElem?_append_left→Z2,mem_singleton→Z3,append_assoc→Z4,mem_cons→Z5,getElem?_eq_getElem→Z7,mem_append→Z9,mem_filter→Za,mem_of_getElem?→Zc,map_cons→Ze,length_append→Zf,getElem?_take→Zg,filter_cons→Zh,pairwise_append→Zj,mem_zipIdx_iff_getElem?→Zk,length_take→Zm,any_eq_true→Zn,elem_iff→Zo,replicate→Zq,getElem?_take_of_lt→Zr,mem_map→Zs,mem_map_of_mem→Zt,getElem?_drop→Zu,set_append_right→Zw,all_eq_true→Zy,take_succ_cons→X3,getElem_of_mem→X4,filterMap_cons→X5,mem_or_eq_of_mem_set→X6,drop_eq_getElem_cons→X7,pairwise_iff_getElem→X8,drop_zero→X9,nodup_append→Y0,drop_drop→Y1,getElem?_cons_succ→Y2,getElem?_set→Y3,map_nil→Y5,take_append_drop→Y6,map_append→Y7,length→Y9,range→Yb
open Nat renaming le_of_ble_eq_true→Z0,eq_of_beq_eq_true→Z1,blt→Z8,beq→Zd,add_sub_cancel_left→Zi,ble_eq_true_of_le→Zl,lt_or_ge→Zp,ble→Y8,zero_add→Ya
open Bool renaming and_eq_true→Zb,not_eq_true'→Zv,noConfusion→Zz
open M.le renaming refl→Z6
open IntKind renaming i64→Y4
open Go.WideMaps (KeyLaw)
structure Ff (P:Program)(tk:TypeId){O:Type}(k:Kd O)where
 cv:O->Value
 of:∀{m v x},RV k m v x->v=cv x
 inj:∀{x y},cv x=cv y->x=y
 law:KeyLaw P tk
 key:∀{m v x},RV k m v x->∃l,keyOf P tk v=some l
def jV{O:Type}[DecidableEq O](seen:List O)(x:O):Int:=Y4.wrap (seen.count x:Int)
theorem Jk{O:Type}[DecidableEq O](seen:List O)(x y:O):jV (x::seen) y=if x=y then Y4.wrap (jV seen y+1)else jV seen y:=by
 unfold jV;rw[List.count_cons];by_cases e:x=y
 ·subst e;simp only[beq_self_eq_true,if_true,Int.natCast_add];have:∀n:Int,Y4.wrap (n+1)=Y4.wrap (Y4.wrap n+1):=λn=>by
   have key:∀n:Int,Y4.wrap n=(n+9223372036854775808)%18446744073709551616-9223372036854775808:=by intro n;simp[IntKind.wrap,IntKind.bits,IntKind.signed];split<;>omega
   rw[key,key,key];omega
  exact this _
 ·simp[e]
structure rx{P:Program}{tk:TypeId}{O:Type}{k:Kd O}[DecidableEq O](K:Ff P tk k)(es:Array MapEntry)(ck:Nat)(seen:List O):Prop where
 keys:∀e∈es.toList,∃l,keyOf P tk e.key=some l
 cnt:∀e∈es.toList,∀x,e.key=K.cv x->e.val=.int .i64 (jV seen x)all:∀x∈seen,∃e∈es.toList,e.key=K.cv x
 nd:(es.toList.map (·.key)).Nodup
 born:(es.toList.map (·.born)).Nodup
 lt:∀e∈es.toList,e.born<ck
theorem MW{k:IntKind}{n:Int}(h:inR k n):(Lit.int k n).wf=true:=by rw[nv]at h;simpa[Lit.wf]using h
theorem Jl{P:Program}{t:TypeId}{f0 f1:Field}{k0 k1:IntKind}{n0 n1:Int}{d:Nat}(hu:P.underlying t=some (.struct #[f0,f1])) (hb:(f0.name != "_"&&f1.name != "_")=true) (h0:P.underlying f0.type=some (.int k0)) (h1:P.underlying f1.type=some (.int k1))(o0:f0.offset=0) (o1:f1.offset=1) (c0:P.cellsOf f0.type=1) (c1:P.cellsOf f1.type=1) (hc:P.cellsOf t=2) (hk:P.keyType t=true) (hs:P.types.size=d+1) (w0:(Lit.int k0 n0).wf=true) (w1:(Lit.int k1 n1).wf=true):∃l,keyOf P t (.agg #[.int k0 n0,.int k1 n1])=some l:=by
 rw[Zb]at hb;have e0:P.keyLits (d+1) f0.type (([Value.int k0 n0,.int k1 n1].drop f0.offset).take (P.cellsOf f0.type))=some [.int k0 n0]:=by rw[o0,c0];simp only[X9,X3,List.take_zero,Program.keyLits,h0];rw[if_pos ⟨trivial,w0⟩]
 have e1:P.keyLits (d+1) f1.type (([Value.int k0 n0,.int k1 n1].drop f1.offset).take (P.cellsOf f1.type))=some [.int k1 n1]:=by rw[o1,c1];simp only[List.drop_succ_cons,X9,X3,List.take_zero,Program.keyLits,h1];rw[if_pos ⟨trivial,w1⟩]
 have e2:P.keyLits (d+2) t [Value.int k0 n0,.int k1 n1]=some [.int k0 n0,.int k1 n1]:=by
  unfold Program.keyLits;rw[hu];simp only[hc];rw[if_pos ⟨rfl,by simp[hb.1,hb.2]⟩];simp only[List.mapM_cons,List.mapM_nil,e0,e1];rfl
 unfold keyOf;rw[hu];simp only[hk,Value.formed,hu,hc,hs];rw[if_pos (by rfl)];exact⟨_,by rw[show(Value.agg #[Value.int k0 n0,.int k1 n1]).cells.toList=[Value.int k0 n0,.int k1 n1]from rfl,e2];rfl⟩
section
variable{P:Program}{tk t e2:TypeId}{O:Type}{k:Kd O}[DecidableEq O]{K:Ff P tk k}{es:Array MapEntry}{ck b:Nat}{seen:List O}{m:M}{w:World}{v:Value}{x:O}
theorem rx.nil:rx K #[] 0 []:=⟨by simp,by simp,by simp,by simp,by simp,by simp⟩
theorem rx.find (h:rx K es ck seen)(Z:RV k m v x)(w:World):((Instr.findKey tk v es.toList).run P w=.ok none w/\(∀e∈es.toList,e.key≠v)/\jV seen x=0)\/∃j e,(Instr.findKey tk v es.toList).run P w=.ok (some (j,e.val)) w/\es.toList[j]?=some e/\e.key=v/\e.val=.int .i64 (jV seen x):=by
 obtain⟨l,hl⟩:=K.key Z;rcases K.law.find w hl es.toList h.keys with⟨W,J⟩|⟨j,e,W,J,h3⟩
 ·left;refine⟨W,J,?_⟩;have hn:x∉seen:=λhm=>by obtain⟨e,he,hk⟩:=h.all x hm;exact J e he (hk.trans (K.of Z).symm)
  unfold jV;rw[List.count_eq_zero.2 hn];decide
 ·exact .inr ⟨j,e,W,J,h3,h.cnt e (Zc J) x (h3.trans (K.of Z))⟩
theorem rx.look (h:rx K es ck seen)(hx:RV k m v x)(ht:P.underlying t=some (.map tk e2))(hz:∀w,(zeroValue e2).run P w=.ok (.int .i64 0) w)(W:w.heap[b]?=some (.map es ck)):(Instr.lookup t (.map (some b)) v false).run P w=.ok (.int .i64 (jV seen x)) w:=by
 obtain⟨l,hl⟩:=K.key hx;rcases h.find hx w with⟨J,h2,Z⟩|⟨j,e,J,h2,Z,h4⟩;·simp[Instr.lookup,run_underlying ht,MapKept.run_getObj_map W,K.law.check w _ hl,J,hz,Z,Result.andThen]
 ·simp[Instr.lookup,run_underlying ht,MapKept.run_getObj_map W,K.law.check w _ hl,J,h4,Result.andThen]
theorem Jm{l:List MapEntry}(h:(l.map (·.key)).Nodup){i j:Nat}{a c:MapEntry}(hi:l[i]?=some a)(W:l[j]?=some c)(Z:a.key=c.key):i=j:=by
 have J:(l.map (·.key))[i]?=some a.key:=by simp[hi]
 have h2:(l.map (·.key))[j]?=some a.key:=by simp[W,Z]
 exact(List.getElem?_inj (j6.1 J).1 h).1 (J.trans h2.symm)
theorem rx.entry (h:rx K es ck seen)(hx:RV k m v x)(ht:P.underlying t=some (.map tk e2))(hz:∀w,(zeroValue e2).run P w=.ok (.int .i64 0) w)(hb:w.heap[b]?=some (.map es ck)):∃(a0:Array MapEntry) (a1 j:Nat) (e:MapEntry),(Instr.mapEntry t (.map (some b)) v).run P w=.ok (.tuple #[e.val,goInt e.born]) (w.putObj b (.map a0 a1))/\rx K a0 a1 seen/\a0.toList[j]?=some e/\e.key=v:=by
 obtain⟨l,hl⟩:=K.key hx;rcases h.find hx w with⟨h1,W,Z⟩|⟨j,e,h1,W,Z,h4⟩
 ·refine⟨es.push ⟨v,.int .i64 0,ck⟩,ck+1,es.size,⟨v,.int .i64 0,ck⟩,?_,⟨?_,?_,?_,?_,?_,?_⟩,by simp,rfl⟩;·simp[Instr.mapEntry,run_underlying ht,MapKept.run_getObj_map hb,K.law.check w false hl,h1,hz,MapKept.run_setObj_map _ hb,Result.andThen,World.putObj]
  ·intro e J;simp only[Array.toList_push,Z9,Z3]at J;rcases J with J|rfl;·exact h.keys e J
   ·exact⟨l,hl⟩
  ·intro e J y hy;simp only[Array.toList_push,Z9,Z3]at J;rcases J with J|rfl;·exact h.cnt e J y hy
   ·have:x=y:=K.inj ((K.of hx).symm.trans hy);subst this;rw[Z]
  ·intro y hy;obtain⟨e,J,hk⟩:=h.all y hy;exact⟨e,by simp only[Array.toList_push,Z9];exact .inl J,hk⟩
  ·simp only[Array.toList_push,Y7,Ze,Y5];refine Y0.2 ⟨h.nd,by simp,λa ha c hc e=>?_⟩;simp only[Z3]at hc;obtain⟨z,hz,rfl⟩:=Zs.1 ha;exact W z hz (e.trans hc)
  ·simp only[Array.toList_push,Y7,Ze,Y5];refine Y0.2 ⟨h.born,by simp,λa ha c hc e=>?_⟩;simp only[Z3]at hc;obtain⟨z,hz,rfl⟩:=Zs.1 ha;have:=h.lt z hz;omega
  ·intro e J;simp only[Array.toList_push,Z9,Z3]at J;rcases J with J|rfl;·have:=h.lt e J;omega
   ·exact Nat.lt_succ_self _
 ·have hj:es[j]?=some e:=by simpa using W
  have a2:es.modify j (λe'=>{e' with key:=v})=es:=by
   apply Array.ext';rw[Array.toList_modify,ChangeMaps.modify_eq_set _ _ _ _ W];have:({e with key:=v}:MapEntry)=e:=by rw[←Z]
   rw[this];exact WideElems.set_self _ _ _ W
  refine⟨es,ck,j,e,?_,h,W,Z⟩;simp[Instr.mapEntry,run_underlying ht,MapKept.run_getObj_map hb,K.law.check w false hl,h1,hj,Z,K.law.stays w hl,a2,MapKept.run_setObj_map _ hb,Result.andThen,World.putObj]
theorem rx.store (h:rx K es ck seen)(hx:RV k m v x){j:Nat}{e:MapEntry}(W:es.toList[j]?=some e)(hk:e.key=v)(hb:w.heap[b]?=some (.map es ck)):∃es1,(Instr.entryStore t (.map (some b)) (goInt e.born) (.int .i64 (Y4.wrap (jV seen x+1)))).run P w=.ok () (w.putObj b (.map es1 ck))/\rx K es1 ck (x::seen):=by
 have a5:es.findIdx? (λe'=>((e'.born:Nat):Int)==((e.born:Nat):Int))=some j:=by rw[WideElems.findIdx_arr];exact WideElems.findIdx_born h.born W
 have hl:(es.modify j λe'=>{e' with val:=.int .i64 (Y4.wrap (jV seen x+1))}).toList=es.toList.set j {e with val:=.int .i64 (Y4.wrap (jV seen x+1))}:=by rw[Array.toList_modify,ChangeMaps.modify_eq_set _ _ _ _ W]
 have a4:=(j6.1 W).1;refine⟨_,by simp[Instr.entryStore,MapKept.run_getObj_map hb,asInt,asIntOf,goInt,a5,MapKept.run_setObj_map _ hb,Result.andThen,World.putObj];rfl,⟨?_,?_,?_,?_,?_,?_⟩⟩
 ·rw[hl];intro a J;rcases X6 J with J|rfl;·exact h.keys a J
  ·exact h.keys e (Zc W)
 ·rw[hl];intro a J y Z;rw[Jk];obtain⟨i,hi,rfl⟩:=X4 J;rw[List.getElem_set]at Z⊢;split
  ·rename_i a0;rw[if_pos a0]at Z;have:x=y:=K.inj ((K.of hx).symm.trans (hk.symm.trans Z));rw[if_pos this,this]
  ·rename_i a0;rw[if_neg a0]at Z;simp only[List.length_set]at hi;have a2:x≠y:=λe'=>by subst e';have a3:es.toList[i]?=some es.toList[i]:=Z7 hi;exact a0 (Jm h.nd W a3 (hk.trans ((K.of hx).trans Z.symm)))
   rw[if_neg a2];exact h.cnt _ (List.getElem_mem hi) y Z
 ·rw[hl];intro y Z;have:∃a∈es.toList,a.key=K.cv y:=by
   rcases Z5.1 Z with rfl|Z;·exact⟨e,Zc W,hk.trans (K.of hx)⟩
   ·exact h.all y Z
  obtain⟨a,J,a1⟩:=this;obtain⟨i,hi,rfl⟩:=X4 J;by_cases a0:j=i
  ·subst a0;have e1:es.toList[j]=e:=(j6.1 W).2;exact⟨_,List.mem_set a4 _,by rw[←a1,e1]⟩
  ·refine⟨es.toList[i],?_,a1⟩;refine Zc (i:=i) ?_;rw[List.getElem?_set_ne a0,Z7 hi]
 ·rw[hl,List.map_set];have:(es.toList.map (·.key)).set j e.key=es.toList.map (·.key):=WideElems.set_self _ _ _ (by simp[W]);rw[this];exact h.nd
 ·rw[hl,List.map_set];have:(es.toList.map (·.born)).set j e.born=es.toList.map (·.born):=WideElems.set_self _ _ _ (by simp[W]);rw[this];exact h.born
 ·rw[hl];intro a J;rcases X6 J with J|rfl;·exact h.lt a J
  ·exact h.lt e (Zc W)
end
section
variable{δ:List Nat}{ro:Option Nat}{P:Program}{W0:Bse}{m:M}{w:World}{L:List (Nat×List Value)}{TL:List (Nat×Value)}{tk e2:TypeId}{O:Type}{k:Kd O}[DecidableEq O]{K:Ff P tk k}{es:Array MapEntry}{ck b:Nat}{seen:List O}{n d:Nat}{a:Act}{l:List (Nat×Value)}{x y:Operand}{t ty:TypeId}{pos:String}{aft:Array Edge}{g:Option (Nat×Bool)}{v:Value}{xx:O}
theorem H0 (hS:S W0 m w L TL):a8 P ⟨some d,.makeMap t none,ty,pos,aft,g⟩ a w (λv w'=>∃b,v=.map (some b)/\S (W0.put b (.map #[] 0)) m w' L TL/\W0.keep b=none/\W0.heap.size<=b):=by
 have h:ay P ⟨some d,.makeMap t none,ty,pos,aft,g⟩ a w (.map (some w.heap.size)) (w.alloc (.map #[] 0)):=by simp[ay,execOp,show(Instr.makeMap t none).run P w=.ok (.map (some w.heap.size)) (w.alloc (.map #[] 0))from rfl]
 exact h.step ⟨_,rfl,hS.newK rfl,hS.keepNone (Nat.le_refl _),hS.below.size⟩
theorem Hf (h:aw δ n a l)(hS:S (W0.put b (.map es ck)) m w L TL)(Z:rx K es ck seen)(hx:evl l x=some (.map (some b)))(hy:evl l y=some v)(J:RV k m v xx)(ht:P.underlying t=some (.map tk e2))(hz:∀w,(zeroValue e2).run P w=.ok (.int .i64 0) w):ay P ⟨some d,.lookup t x y false,ty,pos,aft,g⟩ a w (.int .i64 (jV seen xx)) w:=by have W:=(hS.below.kept b _ (Bse.put_same _ _ _)).1;simp[ay,execOp,h.eval hx,h.eval hy,Z.look J ht hz W]
abbrev Ui (tm tv tk ti:TypeId)(p:String):List Oper:=[⟨some 50,.move (.tmp 9),tm,p,#[],none⟩,⟨some 51,.fieldAddr tv (.tmp 11) 0,0,p,#[],none⟩,⟨some 52,.load tk (.tmp 51),tk,p,#[⟨1,.data⟩],none⟩,⟨some 53,.lookup tm (.tmp 50) (.tmp 52) false,ti,p,#[⟨0,.data⟩,⟨2,.data⟩],none⟩,⟨some 54,.binOp .add ti (.tmp 53) (.const (.int .i64 1)) ti,ti,p,#[⟨3,.data⟩],none⟩,⟨some 55,.mapEntry tm (.tmp 50) (.tmp 52),0,p,#[⟨0,.data⟩,⟨2,.data⟩,⟨0,.phase⟩,⟨1,.phase⟩,⟨2,.phase⟩,⟨3,.textOnly .mapOpAssignEntry⟩,⟨4,.textOnly .mapOpAssignEntry⟩],none⟩,⟨some 56,.extract (.tmp 55) 1,ti,p,#[⟨5,.data⟩],none⟩,⟨none,.entryStore tm (.tmp 50) (.tmp 56) (.tmp 54),0,p,#[⟨0,.data⟩,⟨6,.data⟩,⟨4,.data⟩,⟨5,.chain⟩,⟨0,.phase⟩,⟨1,.phase⟩,⟨2,.phase⟩,⟨3,.phase⟩,⟨4,.phase⟩,⟨5,.phase⟩,⟨6,.phase⟩],none⟩]
def BD{P:Program}{tk:TypeId}{O:Type}{k:Kd O}[DecidableEq O](K:Ff P tk k)(m:M)(b h:Nat)(seen:List O)(x:O)(es:Array MapEntry):Nat->Value->Prop
 |0,v=>v=.map (some b)|1,v=>v=.pointer (some ⟨h,0,none⟩)|2,v=>RV k m v x|3,v=>v=.int .i64 (jV seen x)|4,v=>v=.int .i64 (Y4.wrap (jV seen x+1))|5,v=>∃(j:Nat) (e:MapEntry),es.toList[j]?=some e/\e.key=K.cv x/\v=.tuple #[e.val,goInt e.born]|6,v=>∃(j:Nat) (e:MapEntry),es.toList[j]?=some e/\e.key=K.cv x/\v=goInt e.born|_,_=>True
theorem WN{tm tv ti:TypeId}{p:String}{id bl i:Nat}{β:Type}{kv:Kd β}{f:β->O}{cs:List Value}{y0:β}{N Rt:Act->World->Prop}{X:List (Nat×(Act->World->Prop))}(hm:P.follows .mixedOrders=true) (hn:Y8 57 n=true) (W:aw δ n a l) (hl:(Yb 7).all (λj=>(lk l (50+j)).isNone)=true) (hS:S (W0.put b (.map es ck)) m w L TL) (hB:W0.heap.size<=b) (hC:rx K es ck seen) (hx:lk l 9=some (.map (some b))) (hy:lk l 11=some (.pointer (some ⟨bl,0,none⟩)))(ht:P.underlying tm=some (.map tk e2)) (hz:∀w,(zeroValue e2).run P w=.ok (.int .i64 0) w) (hF:dc P tv 0 0) (hf:Fld kv k 0 f) (hT:dz P tk k) (hL:L[i]?=some (bl,cs)) (hR:kv.R m cs y0) (b3:P.underlying ti=some (.int .i64))(b1:∀a w es ck,aw δ n a l->S (W0.put b (.map es ck)) m w L TL->rx K es ck (f y0::seen)->N a w):Hay.K ro P (.region id (Ui tm tv tk ti p).toArray true) N X Rt a w:=by
 have hn:=Z0 hn;have b2:∀j,j<7->lk l (50+j)=none:=λj hj=>by have:=Zy.1 hl j (List.mem_range.2 hj);simpa using this
 refine EY (k:=7) hm (by kernel_rfl) (by kernel_rfl) (λs a w=>∃es ck,S (W0.put b (.map es ck)) m w L TL/\rx K es ck seen/\aw δ n a l/\∀j,j<7->s j=true->BD K m b bl seen (f y0) es j (a.tmps.getD (50+j) undef)) ?_ ?_ ?_;·exact⟨es,ck,hS.drew,hC,W,λj _ h=>(Bool.false_ne_true h).elim⟩
 ·intro q o J hq s a w⟨es,ck,hS,hC,W,hp⟩hsq hpre hcl;have env:∀v,aw δ n (a.put (some (50+q)) v) l:=λv=>⟨by simp[Act.put,W.defers],by simp[Act.put,W.size],λj u hj=>by
   have a3:50+q≠j:=λe=>by rw[←e,b2 q hq]at hj;cases hj
   have:=W.at_ j u hj;simpa[Act.put,Array.getElem?_setIfInBounds_ne a3]using this⟩;have Z:∀(v:Value) (a5:Array MapEntry),BD K m b bl seen (f y0) a5 q v->(∀j,j<7->j≠q->s j=true->BD K m b bl seen (f y0) a5 j (a.tmps.getD (50+j) undef))->∀j,j<7->upd s q j=true->BD K m b bl seen (f y0) a5 j ((a.put (some (50+q)) v).tmps.getD (50+j) undef):=by
   intro v a5 h1 h2 j hj hs;by_cases hjq:j=q
   ·subst hjq;have:(a.put (some (50+j)) v).tmps.getD (50+j) undef=v:=by have:=W.size;simp[Act.put,show 50+j<a.tmps.size by omega]
    rw[this];exact h1
   ·have a6:s j=true:=by simpa[upd,hjq]using hs
    have:(a.put (some (50+q)) v).tmps.getD (50+j) undef=a.tmps.getD (50+j) undef:=by
     have a3:50+q≠50+j:=by omega
     simp[Act.put,Array.getElem?_setIfInBounds_ne a3]
    rw[this];exact h2 j hj hjq a6
  have a0:∀j,j<7->j≠q->s j=true->BD K m b bl seen (f y0) es j (a.tmps.getD (50+j) undef):=λj hj _ h=>hp j hj h;have hb:=(hS.below.kept b _ (Bse.put_same _ _ _)).1;match q,hq,J,hpre,env,Z,a0 with
  |0,_,J,hpre,env,Z,a0=>
   injection J with J;subst J;show a8 P _ _ _ _;exact(jd W (x:=.tmp 9) hx).step ⟨es,ck,hS,hC,env _,Z _ es rfl a0⟩|1,_,J,hpre,env,Z,a0=>
   injection J with J;subst J;show a8 P _ _ _ _;exact(aK W hF (x:=.tmp 11) hy).step ⟨es,ck,hS,hC,env _,Z _ es rfl a0⟩|2,_,J,hpre,env,Z,a0=>
   injection J with J;subst J;show a8 P _ _ _ _;have h1:a.tmps.getD 51 undef=.pointer (some ⟨bl,0,none⟩):=hp 1 (by decide) (hpre 1 (Zo.1 rfl));have a1:=W.add h1;refine(aM a1 hS hT (x:=.tmp 51) rfl hL (hf.R_drop (aL hR))).imp λv w'⟨e,hv⟩=>?_;subst e;exact⟨es,ck,hS,hC,env _,Z _ es hv a0⟩|3,_,J,hpre,env,Z,a0=>
   injection J with J;subst J;show a8 P _ _ _ _;have h0:a.tmps.getD 50 undef=.map (some b):=hp 0 (by decide) (hpre 0 (Zo.1 rfl));have h2:RV k m (a.tmps.getD 52 undef) (f y0):=hp 2 (by decide) (hpre 2 (Zo.1 rfl));have a1:=(W.add h0).add (i:=52) rfl;exact(Hf a1 hS hC (x:=.tmp 50) (y:=.tmp 52) rfl rfl h2 ht hz).step ⟨es,ck,hS,hC,env _,Z _ es rfl a0⟩|4,_,J,hpre,env,Z,a0=>
   injection J with J;subst J;show a8 P _ _ _ _;have h3:a.tmps.getD 53 undef=.int .i64 (jV seen (f y0)):=hp 3 (by decide) (hpre 3 (Zo.1 rfl));have a1:=W.add h3;exact(bg a1 (x:=.tmp 53) (y:=.const (.int .i64 1)) rfl rfl (cp rfl)).step ⟨es,ck,hS,hC,env _,Z _ es rfl a0⟩|5,_,J,hpre,env,Z,a0=>
   injection J with J;subst J;show a8 P _ _ _ _;have h0:a.tmps.getD 50 undef=.map (some b):=hp 0 (by decide) (hpre 0 (Zo.1 rfl));have h2:RV k m (a.tmps.getD 52 undef) (f y0):=hp 2 (by decide) (hpre 2 (Zo.1 rfl));have a1:=(W.add h0).add (i:=52) rfl;obtain⟨a2,a4,j,e,h1,h3,h4,h5⟩:=hC.entry h2 ht hz hb;have hr:ay P ⟨some 55,.mapEntry tm (.tmp 50) (.tmp 52),0,p,#[⟨0,.data⟩,⟨2,.data⟩,⟨0,.phase⟩,⟨1,.phase⟩,⟨2,.phase⟩,⟨3,.textOnly .mapOpAssignEntry⟩,⟨4,.textOnly .mapOpAssignEntry⟩],none⟩ a w (.tuple #[e.val,goInt e.born]) (w.putObj b (.map a2 a4)):=by have e1:a.eval (.tmp 50)=.map (some b):=a1.eval rfl;have e2:a.eval (.tmp 52)=a.tmps.getD 52 undef:=rfl;simp only[ay,execOp,e1,e2,h1,Sem.run_bind,Sem.run_pure,Result.andThen_ok]
   have a9:S (W0.put b (.map a2 a4)) m (w.putObj b (.map a2 a4)) L TL:=by have:=hS.putK (o':=.map a2 a4) hb rfl rfl hB;rwa[Bse.put_put]at this
   refine hr.step ⟨a2,a4,a9,h3,env _,Z _ a2 ⟨j,e,h4,h5.trans (K.of h2),rfl⟩ λj' b0 a3 a6=>?_⟩;have:=a0 j' b0 a3 a6;match j',b0,a3,this with
   |0,_,_,h=>exact h|1,_,_,h=>exact h|2,_,_,h=>exact h|3,_,_,h=>exact h|4,_,_,h=>exact h|5,_,a3,_=>exact(a3 rfl).elim|6,_,_,_=>have h6:=hcl 6 _ rfl a6 5 (Zo.1 rfl);rw[hsq]at h6;cases h6|j'+7,b0,_,_=>omega
  |6,_,J,hpre,env,Z,a0=>
   injection J with J;subst J;show a8 P _ _ _ _;obtain⟨j,e,h1,h2,h3⟩:∃(j:Nat) (e:MapEntry),es.toList[j]?=some e/\e.key=K.cv (f y0)/\a.tmps.getD 55 undef=.tuple #[e.val,goInt e.born]:=hp 5 (by decide) (hpre 5 (Zo.1 rfl));have a1:=W.add h3;exact(bQ a1 (x:=.tmp 55) rfl rfl).step ⟨es,ck,hS,hC,env _,Z _ es ⟨j,e,h1,h2,rfl⟩ a0⟩|q+7,hq,_,_,_,_,_=>omega
 ·intro s a w⟨es,ck,hS,hC,W,hp⟩hs;have h0:a.tmps.getD 50 undef=.map (some b):=hp 0 (by decide) (hs 0 (by decide) (Z0 rfl));have h2:RV k m (a.tmps.getD 52 undef) (f y0):=hp 2 (by decide) (hs 2 (by decide) (Z0 rfl));have h4:a.tmps.getD 54 undef=.int .i64 (Y4.wrap (jV seen (f y0)+1)):=hp 4 (by decide) (hs 4 (by decide) (Z0 rfl));obtain⟨j,e,h5,h6,h7⟩:∃(j:Nat) (e:MapEntry),es.toList[j]?=some e/\e.key=K.cv (f y0)/\a.tmps.getD 56 undef=goInt e.born:=hp 6 (by decide) (hs 6 (by decide) (Z0 rfl));have a1:=((W.add h0).add h4).add h7;have hb:=(hS.below.kept b _ (Bse.put_same _ _ _)).1;obtain⟨a2,h8,h9⟩:=hC.store (t:=tm) h2 h5 (h6.trans (K.of h2).symm) hb;have a9:S (W0.put b (.map a2 ck)) m (w.putObj b (.map a2 ck)) L TL:=by have:=hS.putK (o':=.map a2 ck) hb rfl rfl hB;rwa[Bse.put_put]at this
  refine st0 W (Post:=λ_ w'=>w'=w.putObj b (.map a2 ck)) (wT.step ?_ rfl) ?_
  ·have e1:a.eval (.tmp 50)=.map (some b):=a1.eval rfl;have e2:a.eval (.tmp 56)=goInt e.born:=a1.eval rfl;have e3:a.eval (.tmp 54)=.int .i64 (Y4.wrap (jV seen (f y0)+1)):=a1.eval rfl;simp only[wT,execOp,e1,e2,e3,h8,Sem.run_bind,Sem.run_pure,Result.andThen_ok]
  ·rintro _ w' rfl W;exact ag (b1 _ _ a2 ck W a9 h9)
end
def GR{O:Type}(k:Kd O)(o:Nat)(m:M)(b:Nat)(cs:List Value)(v:Value)(xs:List O)(rows:List Value):Prop:=GS k m b cs v xs/\rows.length=xs.length/\∀i r,rows[i]?=some r->cs[i*k.sz+o]?=some r
def tls (sz:Nat)(rows:List Value):List (Nat×Value):=rows.map λv=>(sz,v)
section
variable{O:Type}{k:Kd O}{o:Nat}{m m':M}{b:Nat}{cs:List Value}{v:Value}{xs:List O}{rows:List Value}
theorem GR.mono (h:GR k o m b cs v xs rows)(hm:M.le m m'):GR k o m' b cs v xs rows:=⟨h.1.mono hm,h.2⟩
theorem GR.row (h:GR k o m b cs v xs rows){j:Nat}{x:O}(J:xs[j]?=some x):∃r,rows[j]?=some r/\cs[j*k.sz+o]?=some r:=by
 have W:=(j6.1 J).1;have:j<rows.length:=by rw[h.2.1];exact W
 exact⟨rows[j],Z7 this,h.2.2 j _ (Z7 this)⟩
theorem BE{O:Type}{l:List O}{i:Nat}(h:i<l.length):(l[i]::l.eraseIdx i).Perm l:=by
 have e:l=l.take i++l[i]::l.drop (i+1):=by rw[←X7 h,Y6]
 rw[List.eraseIdx_eq_take_drop_succ];conv=>rhs;rw[e]
 exact List.perm_middle.symm
theorem Lh{sz j:Nat}{r:Value}(h:rows[j]?=some r)(TL:List (Nat×Value)):(tls sz rows++TL).Perm ((sz,r)::(tls sz (rows.eraseIdx j)++TL)):=by obtain⟨W,rfl⟩:=j6.1 h;have J:rows.Perm (rows[j]::rows.eraseIdx j):=(BE W).symm;exact(J.map λv=>(sz,v)).append_right TL
theorem Li{sz j:Nat}{u:Value}(h:j<rows.length)(TL:List (Nat×Value)):((sz,u)::(tls sz (rows.eraseIdx j)++TL)).Perm (tls sz (rows.set j u)++TL):=by
 have hl:j<(rows.set j u).length:=by simpa using h
 have J:((rows.set j u)[j]::(rows.set j u).eraseIdx j).Perm (rows.set j u):=BE hl;rw[List.getElem_set_self,List.eraseIdx_set_eq]at J;exact(J.map λv=>(sz,v)).append_right TL
end
theorem zI.symm{v u:Value}(h:zI v u):zI u v:=λb J W=>h b W J
theorem S.permT{W0:Bse}{m:M}{w:World}{L:List (Nat×List Value)}{TL Z:List (Nat×Value)}(h:S W0 m w L TL)(hp:TL.Perm Z):S W0 m w L Z:=by
 have a3:TL.Pairwise λa b=>zI a.2 b.2:=by rw[X8];intro i j hi J a1;exact h.apart i j _ _ (Z7 hi) (Z7 J) (by omega)
 have a0:Z.Pairwise λa b=>zI a.2 b.2:=(hp.pairwise_iff λh=>h.symm).1 a3;rw[X8]at a0;refine⟨h.below,h.imm,h.own,h.nodup,λi e W=>?_,λi j e e' W a2 a1=>?_⟩
 ·have:e∈TL:=hp.mem_iff.2 (Zc W);obtain⟨q,hq⟩:=List.getElem?_of_mem this;exact h.tails q e hq
 ·obtain⟨hi,rfl⟩:=j6.1 W;obtain⟨J,rfl⟩:=j6.1 a2;rcases Nat.lt_or_gt_of_ne a1 with hl|hl;·exact a0 i j hi J hl
  ·exact(a0 j i J hi hl).symm
section
variable{δ:List Nat}{P:Program}{W0:Bse}{m:M}{w:World}{L:List (Nat×List Value)}{TL:List (Nat×Value)}{O β:Type}{k:Kd O}{k':Kd β}{n d:Nat}{a:Act}{l:List (Nat×Value)}{x y:Operand}{t ty:TypeId}{pos:String}{aft:Array Edge}{g:Option (Nat×Bool)}{o b i:Nat}{cs:List Value}{v:Value}{xs:List O}{rows:List Value}
theorem BF{off j:Nat}{s:O->β->O}{u:Value}{xx:O}{h:β}(hE:aw δ n a l)(hS:S W0 m w L TL)(hT:dz P t k')(W:StF k k' off s)(hg:GS k m b cs v xs)(hj:xs[j]?=some xx)(hx:evl l x=some (.pointer (some ⟨b,j*k.sz+off,none⟩)))(hy:evl l y=some u)(hv:RV k' m u h)(hL:L[i]?=some (b,cs)):a8 P ⟨none,.store t x y,ty,pos,aft,g⟩ a w (λ_ w'=>∃vs,k'.R m vs h/\u=k'.val vs/\vs.length=k'.sz/\j*k.sz+off+k'.sz<=cs.length/\GS k m b (cs.take (j*k.sz+off)++vs++cs.drop (j*k.sz+off+k'.sz)) v (xs.set j (s xx h))/\S W0 m w' (L.set i (b,cs.take (j*k.sz+off)++vs++cs.drop (j*k.sz+off+k'.sz))) TL):=by
 have Z:=hg.elem hj;have hl:=k.len Z;have hb:j*k.sz+off+k'.sz<=cs.length:=by have:=W.1;simp at hl;have:=k.pos;omega
 refine(sD hE hS hT hx hy hv hL hb).imp λ_ w'⟨vs,J,h0,h2⟩=>⟨vs,J,h0,k'.len J,hb,?_,h2⟩;have h3:=W.2 m _ vs xx h Z J;have h4:=hg.set hj h3;have a1:=k'.len J;have e2:cs.take (j*k.sz)++(((cs.drop (j*k.sz)).take k.sz).take off++vs++((cs.drop (j*k.sz)).take k.sz).drop (off+k'.sz))++cs.drop (j*k.sz+k.sz)=cs.take (j*k.sz+off)++vs++cs.drop (j*k.sz+off+k'.sz):=by
  have a0:=W.1;rw[List.take_take,Nat.min_eq_left (by omega),List.take_add (i:=j*k.sz) (j:=off) (l:=cs)];have e3:((cs.drop (j*k.sz)).take k.sz).drop (off+k'.sz)++cs.drop (j*k.sz+k.sz)=cs.drop (j*k.sz+off+k'.sz):=by rw[List.drop_take,Y1,show cs.drop (j*k.sz+k.sz)=(cs.drop (j*k.sz+(off+k'.sz))).drop (k.sz-(off+k'.sz))by rw[Y1];congr 1;omega,Y6];congr 1;omega
  rw[Z4,Z4,Z4,e3];simp
 rw[e2]at h4;exact h4
theorem Fg{A B C:List Value}{q:Nat}(h:q<A.length):(A++B++C)[q]?=A[q]?:=by rw[Z4,Z2 h]
theorem yH{off j:Nat}{s:O->β->O}{u:Value}{xx:O}{yy:β}(hE:aw δ n a l)(hS:S W0 m w L TL)(hT:dz P t k')(Z:StF k k' off s)(W:GR k o m b cs v xs rows)(hj:xs[j]?=some xx)(hx:evl l x=some (.pointer (some ⟨b,j*k.sz+off,none⟩)))(hy:evl l y=some u)(hv:RV k' m u yy)(hL:L[i]?=some (b,cs))(ho:o<k.sz) (hd:o<off\/off+k'.sz<=o):a8 P ⟨none,.store t x y,ty,pos,aft,g⟩ a w (λ_ w'=>∃cs',GR k o m b cs' v (xs.set j (s xx yy)) rows/\S W0 m w' (L.set i (b,cs')) TL):=by
 refine(BF hE hS hT Z W.1 hj hx hy hv hL).imp λ_ w'⟨vs,h1,h0,a1,hb,h2,h3⟩=>⟨_,⟨h2,by simpa using W.2.1,λq r hq=>?_⟩,h3⟩;have J:=W.2.2 q r hq;have a2:=Z.1;have a0:=(j6.1 J).1;have h:q*k.sz+o<j*k.sz+off\/j*k.sz+off+k'.sz<=q*k.sz+o:=by
  rcases Nat.lt_trichotomy q j with hl|hl|hl;·have:=iN (sz:=k.sz) hl;omega
  ·subst hl;omega
  ·have:=iN (sz:=k.sz) hl;omega
 rcases h with h|h;·rw[Fg (by simp;omega),Zr h,J]
 ·rw[zx (by simp;omega)];simp only[Zf,Zm,Zu];rw[←J];congr 1;omega
theorem GT{γ:Type}{kc:Kd γ}{j:Nat}{s:O->List γ->O}{u:Value}{xx:O}{yy:List γ}(hE:aw δ n a l)(hS:S W0 m w L TL)(hT:dz P t (kSl kc))(hf:StF k (kSl kc) o s)(Z:GR k o m b cs v xs rows)(hj:xs[j]?=some xx)(hx:evl l x=some (.pointer (some ⟨b,j*k.sz+o,none⟩)))(hy:evl l y=some u)(hv:RV (kSl kc) m u yy)(hL:L[i]?=some (b,cs)):a8 P ⟨none,.store t x y,ty,pos,aft,g⟩ a w (λ_ w'=>∃cs',GR k o m b cs' v (xs.set j (s xx yy)) (rows.set j u)/\S W0 m w' (L.set i (b,cs')) TL):=by
 refine(BF hE hS hT hf Z.1 hj hx hy hv hL).imp λ_ w'⟨vs,h1,h0,a0,hb,h2,h3⟩=>⟨_,⟨h2,by simpa using Z.2.1,λq r h=>?_⟩,h3⟩;have a1:vs=[u]:=by match vs,a0,h0 with|[c],_,h0=>exact congrArg (λz=>[z]) (show c=u from h0.symm)
 subst a1;have hb:j*k.sz+o+1<=cs.length:=hb;by_cases hqj:q=j
 ·subst hqj;have:q<rows.length:=by have:=(j6.1 h).1;simpa using this
  rw[List.getElem?_set_self this]at h;injection h with h;subst h;rw[Z4,zx (by simp only[Zm];omega),show q*k.sz+o-(cs.take (q*k.sz+o)).length=0 by simp only[Zm];omega];rfl
 ·rw[List.getElem?_set_ne (λe=>hqj e.symm)]at h;have W:=Z.2.2 q r h;have a3:o+1<=k.sz:=hf.1;have a2:=(j6.1 W).1;show(cs.take (j*k.sz+o)++[u]++cs.drop (j*k.sz+o+1))[q*k.sz+o]?=some r;have J:q*k.sz+o<j*k.sz+o\/j*k.sz+o+1<=q*k.sz+o:=by
   rcases Nat.lt_or_gt_of_ne hqj with hl|hl;·have:=iN (sz:=k.sz) hl;omega
   ·have:=iN (sz:=k.sz) hl;omega
  rcases J with J|J;·rw[Fg (by simp;omega),Zr J,W]
  ·rw[zx (by simp;omega)];simp only[Zf,Zm,Zu,List.length_singleton];rw[←W];congr 1;omega
def A6:Kd Unit:={
 sz:=1
 agg:=false
 R:=λ_ cs _=>∃c,cs=[c]/\c.oneCell'=true
 mono:=λ_ h=>h
 len:=λh=>by obtain⟨c,rfl,_⟩:=h;rfl
 one:=λh=>by obtain⟨c,rfl,J⟩:=h;simpa using J
 pos:=by decide
 flat:=λ_=>rfl
 }
theorem GS.one (h:GS k m b cs v xs):v.oneCell'=true:=by
 obtain⟨a,cap,rfl,_⟩:=h.val;rfl
theorem NS{c:Value}(hE:aw δ n a l)(hS:S W0 m w L TL)(hT:dz P t A6)(hx:evl l x=some (.pointer (some ⟨b,o,none⟩)))(hL:L[i]?=some (b,cs))(J:cs[o]?=some c)(h1:c.oneCell'=true):ay P ⟨some d,.load t x,ty,pos,aft,g⟩ a w c w:=by
 have e:(cs.drop o).take 1=[c]:=by rw[List.take_one,List.head?_drop,J];rfl
 have a0:=(j6.1 J).1;have h:A6.R m ((cs.drop o).take A6.sz) ():=⟨c,e,h1⟩;have hA:At w b o ((cs.drop o).take A6.sz):=hS.atL hL (by rw[A6.len h]) (by rw[A6.len h];exact A6.pos);have W:=jE hT h hA;have Z:A6.val ((cs.drop o).take A6.sz)=c:=by show A6.val ((cs.drop o).take 1)=c;rw[e];rfl
 rw[Z]at W;simp[ay,execOp,Instr.loadAt,hE.eval hx,Instr.sureAddr,W]
theorem S.tailsN (h:S W0 m w L TL)(sz:Nat):∀q,S W0 m w L (tls sz (Zq q (.slice none 0 0))++TL)
 |0=>h|q+1=>(S.tailsN h sz q).tail0 sz
theorem S.dropR{sz:Nat}(h:S W0 m w L (tls sz rows++TL)):S W0 m w L TL:=by have:=h.dropT (tls sz rows).length;simpa using this
theorem Lj{e:TypeId}{by_ N sz:Nat}{kk kc:IntKind}{i:Int}{xs:List O}{x0:O}{J:TypeInfo}{z:Value}(hE:aw δ n a l)(hS:S W0 m w L TL)(hx:evl l x=some (.int kk i))(hy:evl l y=some (.int kc i))(hu:P.underlying t=some (.slice e))(hi:P.info? e=some J)(hz:J.zero=some z)(a5:J.size=k.sz)(a6:J.bytes=by_)(a4:∀m,k.R m z.cells.toList x0)(W:mk N i x0=some xs) (hN:Y8 (N*by_) 281474976710656=true) (hM:Y8 N 281474976710656=true) (ho:z.cells.toList[o]?=some (.slice none 0 0)):a8 P ⟨some d,.makeSlice t x y,ty,pos,aft,g⟩ a w (λv w'=>∃b cs rows,GR k o m b cs v xs rows/\S W0 m w' ((b,cs)::L) (tls sz rows++TL)):=by
 unfold mk at W;split at W
 ·rename_i h0;injection W with W;subst W;have hb:=Z0 hN;have b5:=Z0 hM;have b1:=run_make (P:=P) w t e J z hu hi hz kk kc i i h0.1 (Int.le_refl _) (by
   rw[a6];have h1:(by_:Int)*i<=by_*N:=Int.mul_le_mul_of_nonneg_left h0.2 (by omega);have Z:((N*by_:Nat):Int)=by_*N:=by rw[Int.natCast_mul,Int.mul_comm]
   omega) (by omega);have hr:ay P ⟨some d,.makeSlice t x y,ty,pos,aft,g⟩ a w (.slice (some ⟨w.heap.size,0,none⟩) i.toNat i.toNat) (w.alloc (.cells (madeCells z.cells (i.toNat*J.size)) e)):=by simp[ay,execOp,hE.eval hx,hE.eval hy,b1]
  have a0:=k.len (a4 m);have b3:=k.pos;have a2:∀q j:Nat,j<q->((madeCells z.cells (q*k.sz)).toList.drop (j*k.sz)).take k.sz=z.cells.toList:=λq j b4=>by
   apply List.ext_getElem?;intro r;rw[Zg,Zu];have Z:j*k.sz+k.sz<=q*k.sz:=by have:=Nat.mul_le_mul_right k.sz (show j+1<=q by omega);rw[Nat.add_mul]at this;omega
   by_cases hr':r<k.sz
   ·rw[if_pos hr'];have a1:z.cells.size=k.sz:=by simpa using a0
    have h3:(j*k.sz+r)%k.sz=r:=by rw[Nat.mul_comm,Nat.mul_add_mod];exact Nat.mod_eq_of_lt hr'
    have h4:j*k.sz+r<q*k.sz:=by omega
    have a3:r<z.cells.size:=by omega
    have h5:z.cells[r]! =z.cells[r]:=getElem!_pos z.cells r a3;simp[madeCells,h4,a1,h3,h5,Array.getElem?_eq_getElem a3]
   ·rw[if_neg hr'];have a1:z.cells.toList.length=k.sz:=a0;rw[List.getElem?_eq_none (by omega)]
  have a9:∀q:Nat,Rl k m (madeCells z.cells (q*k.sz)).toList (Zq q x0):=λq=>by refine⟨by simp[madeCells],λj hj=>?_⟩;simp only[List.getElem_replicate];rw[a2 q j (by simpa using hj)];exact a4 m
  refine hr.step ⟨w.heap.size,(madeCells z.cells (i.toNat*k.sz)).toList,Zq i.toNat (.slice none 0 0),⟨?_,by simp,λq r h=>?_⟩,?_⟩
  ·have:=GS.of_Rl (b:=w.heap.size) (a9 i.toNat) (by unfold cz;simp;omega);simpa using this
  ·rw[List.getElem?_replicate]at h;split at h
   ·rename_i b2;injection h with h;subst h;have h1:=a2 i.toNat q b2;have b0:o<k.sz:=by have:=(j6.1 ho).1;rw[←a0];exact this
    have Z:(((madeCells z.cells (i.toNat*k.sz)).toList.drop (q*k.sz)).take k.sz)[o]?=some (.slice none 0 0):=by rw[h1];exact ho
    rw[Zr b0,Zu]at Z;exact Z
   ·cases h
  ·have h1:=hS.allocL (madeCells z.cells (i.toNat*k.sz)).toList e;rw[a5];refine S.tailsN (sz:=sz) ?_ i.toNat;simpa using h1
 ·cases W
theorem NT{zc:List Value}(J:aw δ n a l)(hS:S W0 m w L TL)(W:evl l x=some (.agg zc.toArray)):a8 P ⟨some d,.box t x,ty,pos,aft,g⟩ a w (λv w'=>∃b,v=.pointer (some ⟨b,0,none⟩)/\S W0 m w' ((b,zc)::L) TL):=by
 have h:ay P ⟨some d,.box t x,ty,pos,aft,g⟩ a w (.pointer (some ⟨w.heap.size,0,none⟩)) (w.alloc (.cells zc.toArray t)):=by simp[ay,execOp,Instr.box,J.eval W,newVar,newRow,Value.cells]
 exact h.step ⟨_,rfl,hS.allocL zc t⟩
theorem Jn{kT:Kd O}{u:Value}{xx:O}(hE:aw δ n a l)(hS:S W0 m w L TL)(hT:dz P t A6)(Z:StF kT A6 o (λx _=>x))(hx:evl l x=some (.pointer (some ⟨b,o,none⟩)))(hy:evl l y=some u)(h:u.oneCell'=true)(hL:L[i]?=some (b,cs))(W:kT.R m cs xx):a8 P ⟨none,.store t x y,ty,pos,aft,g⟩ a w (λ_ w'=>∃cs',kT.R m cs' xx/\cs'[o]?=some u/\S W0 m w' (L.set i (b,cs')) TL):=(sD (k:=A6) (xx:=()) hE hS hT hx hy ⟨[u],⟨u,rfl,h⟩,rfl⟩ hL (by rw[kT.len W];exact Z.1)).imp λ_ _⟨vs,h,J,h2⟩=>⟨_,Z.2 m cs vs xx () W h,by
 have hl:=A6.len h;match vs,hl,J with
 |[c],_,J=>
  have J:u=c:=J;subst J;have h:=Z.1;rw[←kT.len W]at h;have h:o+1<=cs.length:=h;rw[Z4,zx (by simp only[Zm];omega),show o-(cs.take o).length=0 by simp only[Zm];omega];rfl,h2⟩
end
abbrev ei (k:IntKind)(x:Int)(v:Value):Prop:=v=.int k x/\inR k x
theorem gz{x b:Bool}(h:x=b):∀(m:M) (W:List Wit) (v:Value),v=.bool x->v=.bool b:=λ_ _ _ J=>by rw[J,h]
section
variable{δ:List Nat}{ro:Option Nat}{P:Program}{os:List Oper}{Φ:Nat->M->List Wit->Value->Prop}{Q:Nat->M->List Wit->List (Nat×List Value)->List (Nat×Value)->Prop}{W0:Bse}{m:M}{n:Nat}{cs:List COp}{i:Nat}{c:COp}{dst:Option Tmp}{op:Op}{ty:TypeId}{pos:String}{aft:Array Edge}
theorem cp0 (h:∀J W Z m' a w,c.lo+J.length<=c.hi->M.le m m'->Q (c.lo+J.length) m' ([]++J) W Z->S W0 m' w W Z->aw δ n a c.olds->(∀(j:Nat) (_:j∈bm ⟨dst,op,ty,pos,aft,none⟩:=by decide){d:Nat}(_:cw os.toArray j=some d:=by exact rfl),Φ j m' (([]:List Wit).take ((cs.map COp.lv).getD j 0)) (a.tmps.getD d undef))->a8 P ⟨dst,op,ty,pos,aft,none⟩ a w (λv w'=>∃m'',M.le m' m''/\S W0 m'' w' W Z/\Φ i m'' [] v)) (h0:c.lo=0:=by exact rfl):ChS δ P os Φ Q W0 m n cs i c ⟨dst,op,ty,pos,aft,none⟩:=Je λpre J W Z m' a w h1 h2 h3 h4 h5 h6 h7=>by obtain rfl:pre=[]:=eS (by rw[h1,h0]);exact h J W Z m' a w h2 h3 h4 h5 h6 λj hj d hd=>h7 j hj d hd
theorem cp1 (h:∀J W m' a w,M.le m m'->Q 0 m' [] J W->S W0 m' w J W->aw δ n a c.olds->(∀(j:Nat) (_:j∈bm ⟨dst,op,ty,pos,aft,none⟩:=by decide){d:Nat}(_:cw os.toArray j=some d:=by exact rfl),Φ j m' (([]:List Wit).take ((cs.map COp.lv).getD j 0)) (a.tmps.getD d undef))->a8 P ⟨dst,op,ty,pos,aft,none⟩ a w (λv w'=>∃m'',M.le m' m''/\S W0 m'' w' J W/\Φ i m'' [] v)) (Z:c.lo=0:=by exact rfl) (h1:c.hi=0:=by exact rfl):ChS δ P os Φ Q W0 m n cs i c ⟨dst,op,ty,pos,aft,none⟩:=cp0 (λa0 J W m' a w h2 h3 h4 h5 h6 h7=>by
 obtain rfl:a0=[]:=eS (by rw[h1]at h2;omega);rw[Z]at h4;exact h J W m' a w h3 h4 h5 h6 @h7) Z
theorem cmv{x:Operand}{v:Value}(J:∀m',M.le m m'->Φ i m' [] v)(h0:c.lo=0:=by exact rfl)(hx:evl c.olds x=some v:=by exact rfl):ChS δ P os Φ Q W0 m n cs i c ⟨dst,.move x,ty,pos,aft,none⟩:=cp0 (λa0 L' a1 m' a w h2 W h4 Z h6 h7=>a8.imp (ay.pure (jd h6 hx)) λ_ _⟨h,e2⟩=>by subst h e2;exact⟨_,Z6 _,Z,J _ W⟩) h0
theorem cg0{g dg:Nat}{b:Bool}(hq:∀m ws v,Φ g m ws v->v=.bool b)(h:∀J W Z m' a w,c.lo+J.length<=c.hi->M.le m m'->Q (c.lo+J.length) m' ([]++J) W Z->S W0 m' w W Z->aw δ n a c.olds->(∀(j:Nat) (_:j∈bm ⟨dst,op,ty,pos,aft,some (g,b)⟩:=by decide){d:Nat}(_:cw os.toArray j=some d:=by exact rfl),Φ j m' (([]:List Wit).take ((cs.map COp.lv).getD j 0)) (a.tmps.getD d undef))->a8 P ⟨dst,op,ty,pos,aft,some (g,b)⟩ a w (λv w'=>∃m'',M.le m' m''/\S W0 m'' w' W Z/\Φ i m'' [] v)) (h0:c.lo=0:=by exact rfl)(hd:cw os.toArray g=some dg:=by exact rfl) (hn:Z8 dg n=true:=by exact rfl) (hg:g∈bm ⟨dst,op,ty,pos,aft,some (g,b)⟩:=by decide):ChS δ P os Φ Q W0 m n cs i c ⟨dst,op,ty,pos,aft,some (g,b)⟩:=Pq hd hn hg hq λpre J W Z m' a w h1 h2 h3 h4 h5 h6 h7=>by obtain rfl:pre=[]:=eS (by rw[h1,h0]);exact h J W Z m' a w h2 h3 h4 h5 h6 λj hj d hd=>h7 j hj d hd
theorem cg1{g Z:Nat}{b:Bool}(hq:∀m ws v,Φ g m ws v->v=.bool b)(h:∀J W m' a w,M.le m m'->Q 0 m' [] J W->S W0 m' w J W->aw δ n a c.olds->(∀(j:Nat) (_:j∈bm ⟨dst,op,ty,pos,aft,some (g,b)⟩:=by decide){d:Nat}(_:cw os.toArray j=some d:=by exact rfl),Φ j m' (([]:List Wit).take ((cs.map COp.lv).getD j 0)) (a.tmps.getD d undef))->a8 P ⟨dst,op,ty,pos,aft,some (g,b)⟩ a w (λv w'=>∃m'',M.le m' m''/\S W0 m'' w' J W/\Φ i m'' [] v)) (h0:c.lo=0:=by exact rfl) (h1:c.hi=0:=by exact rfl)(hd:cw os.toArray g=some Z:=by exact rfl) (hn:Z8 Z n=true:=by exact rfl) (hg:g∈bm ⟨dst,op,ty,pos,aft,some (g,b)⟩:=by decide):ChS δ P os Φ Q W0 m n cs i c ⟨dst,op,ty,pos,aft,some (g,b)⟩:=cg0 hq (λa0 J W m' a w h2 h3 h4 h5 h6 h7=>by
 obtain rfl:a0=[]:=eS (by rw[h1]at h2;omega);rw[h0]at h4;exact h J W m' a w h3 h4 h5 h6 @h7) h0 hd hn hg
theorem cgm{g h:Nat}{b:Bool}{x:Operand}{v:Value}(hq:∀m ws v,Φ g m ws v->v=.bool b)(W:∀m',M.le m m'->Φ i m' [] v)(h0:c.lo=0:=by exact rfl)(hx:evl c.olds x=some v:=by exact rfl)(hd:cw os.toArray g=some h:=by exact rfl) (hn:Z8 h n=true:=by exact rfl) (hg:g∈bm ⟨dst,.move x,ty,pos,aft,some (g,b)⟩:=by decide):ChS δ P os Φ Q W0 m n cs i c ⟨dst,.move x,ty,pos,aft,some (g,b)⟩:=cg0 hq (λa0 L' a1 m' a w h2 Z h4 h5 h6 h7=>a8.imp (ay.pure (jd h6 hx)) λ_ _⟨J,e2⟩=>by subst J e2;exact⟨_,Z6 _,h5,W _ Z⟩) h0 hd hn hg
theorem csk{g J:Nat}{b b':Bool}(hq:∀m ws v,Φ g m ws v->v=.bool b)(Z:cw os.toArray g=some J:=by exact rfl)(hn:Z8 J n=true:=by exact rfl)(hg:g∈bm ⟨dst,op,ty,pos,aft,some (g,b')⟩:=by decide)(W:b≠b':=by decide)(h:∀m ws,Φ i m ws undef:=by exactλ_ _=>rfl):ChS δ P os Φ Q W0 m n cs i c ⟨dst,op,ty,pos,aft,some (g,b')⟩:=Uh Z hn hg hq W h
end
section
variable{P:Program}{o:Oper}{a:Act}{w:World}{W0:Bse}{m':M}{L:List (Nat×List Value)}{TL:List (Nat×Value)}{v:Value}{F:M->Value->Prop}{R:Value->Prop}
theorem cq (h:ay P o a w v w)(hS:S W0 m' w L TL)(W:F m' v):a8 P o a w (λv w'=>∃m'',M.le m' m''/\S W0 m'' w' L TL/\F m'' v):=a8.imp (ay.pure h) λ_ _⟨J,e2⟩=>by subst J e2;exact⟨_,Z6 _,hS,W⟩
theorem cr (h:a8 P o a w (λv w'=>w=w'/\R v))(hS:S W0 m' w L TL)(W:∀v,R v->F m' v):a8 P o a w (λv w'=>∃m'',M.le m' m''/\S W0 m'' w' L TL/\F m'' v):=a8.imp h λ_ _⟨e,J⟩=>by subst e;exact⟨_,Z6 _,hS,W _ J⟩
end
section
variable{δ:List Nat}{ro:Option Nat}{P:Program}{ops:Array Oper}{Q:Exit->Act->World->Prop}{rest:List Oper}{a:Act}{w:World}{n:Nat}{l:List (Nat×Value)}{d:Nat}{op:Op}{ty t t':TypeId}{pos:String}{aft:Array Edge}{v:Value}
theorem qM{x:Operand}(h:aw δ n a l)(W:evl l x=some v)(k:∀a',aw δ n a' ((d,v)::l)->wpL ro P ops Q rest a' w)(J:Z8 d n=true:=by exact rfl):wpL ro P ops Q (⟨some d,.move x,ty,pos,aft,none⟩::rest) a w:=sp h (jd h W) J k
theorem qA{x:Operand}(h:aw δ n a l)(W:evl l x=some v)(k:∀a',aw δ n a' ((d,v)::l)->wpL ro P ops Q rest a' w)(J:Z8 d n=true:=by exact rfl):wpL ro P ops Q (⟨some d,.assign x,ty,pos,aft,none⟩::rest) a w:=sp h (pV h W) J k
theorem qB{x y:Operand}{J:BinOp}{k k':IntKind}{p q:Int}(h:aw δ n a l)(hx:evl l x=some (.int k p))(hy:evl l y=some (.int k' q))(W:∀w,(binOp J t (.int k p) (.int k' q)).run P w=.ok v w)(kk:∀a',aw δ n a' ((d,v)::l)->wpL ro P ops Q rest a' w) (Z:Z8 d n=true:=by exact rfl):wpL ro P ops Q (⟨some d,.binOp J t x y t',ty,pos,aft,none⟩::rest) a w:=sp h (bg h hx hy W) Z kk
theorem qX{g:Nat}{b b':Bool}{o:Oper}{h:Nat}(hE:aw δ n a l)(J:b=!b')(k:∀a',aw δ n a' ((d,undef)::l)->wpL ro P ops Q rest a' w)(hg:ops[g]?=some o:=by exact rfl)(ho:o.dst=some h:=by exact rfl)(W:Z8 h n=true:=by exact rfl)(hl:lk l h=some (.bool b):=by exact rfl)(Z:Z8 d n=true:=by exact rfl):wpL ro P ops Q (⟨some d,op,ty,pos,aft,some (g,b')⟩::rest) a w:=sx hE hg ho W hl J Z k
theorem qG{W:Oper}{g h:Nat}{b c:Bool}{x:Operand}(J:aw δ n a l)(Z:c=b)(hx:evl l x=some v)(k:∀a',aw δ n a' ((d,v)::l)->wpL ro P ops Q rest a' w)(hg:ops[g]?=some W:=by exact rfl)(ho:W.dst=some h:=by exact rfl)(a0:Z8 h n=true:=by exact rfl)(hl:lk l h=some (.bool c):=by exact rfl)(hd:Z8 d n=true:=by exact rfl):wpL ro P ops Q (⟨some d,.move x,ty,pos,aft,some (g,b)⟩::rest) a w:=spg J hg ho a0 hl Z (jd J hx) hd k
theorem qT{b:Bool}{x y z:Operand}(h:aw δ n a l)(J:b=true)(hy:evl l y=some v)(k:∀a',aw δ n a' ((d,v)::l)->wpL ro P ops Q rest a' w)(Z:evl l x=some (.bool b):=by exact rfl)(W:Z8 d n=true:=by exact rfl):wpL ro P ops Q (⟨some d,.pick x y z,ty,pos,aft,none⟩::rest) a w:=sp h (zK h Z J hy) W k
theorem qF{b:Bool}{x y z:Operand}(h:aw δ n a l)(J:b=false)(hz:evl l z=some v)(k:∀a',aw δ n a' ((d,v)::l)->wpL ro P ops Q rest a' w)(Z:evl l x=some (.bool b):=by exact rfl)(W:Z8 d n=true:=by exact rfl):wpL ro P ops Q (⟨some d,.pick x y z,ty,pos,aft,none⟩::rest) a w:=sp h (zL h Z J hz) W k
end
section
variable{P:Program}{f:FuncId}{fn:Func}{c:Code}{args:List Value}{n:Nat}{w:World}{R:Value->World->Prop}
theorem kc (W:P.funcs[f]?=some fn)(hn:fn.ntmps=n)(h:∀a,Env n a ((Yb args.length).zip args)->K none P c (Fin P fn R) [] (Fin P fn R) a w)(Z:fn.body=some c:=by exact rfl)(J:Y8 args.length n=true:=by exact rfl):Calls P f args.toArray w (Ret R):=wU W Z hn (Z0 J) h
theorem f1{a:Act}{l:List (Nat×Value)}{t:Nat}{v:Value}(J:Env n a l)(Z:R v w)(W:fn.results.toList=[.tmp t]:=by exact rfl)(h:lk l t=some v:=by exact rfl):Fin P fn R a w:=Fin.mk J W (tR.tmp J h tR.nil) Z
theorem f2{a:Act}{l:List (Nat×Value)}{t t':Nat}{v v':Value}(J:Env n a l)(Z:R (.tuple #[v,v']) w)(W:fn.results.toList=[.tmp t,.tmp t']:=by exact rfl)(h:lk l t=some v:=by exact rfl)(h':lk l t'=some v':=by exact rfl):Fin P fn R a w:=Fin.mk J W (tR.tmp J h (tR.tmp J h' tR.nil)) Z
theorem rm{vs:Array Value}{Q W:Value->World->Prop}(h:Calls P f vs w (Ret Q))(k:∀v w',Q v w'->W v w'):Calls P f vs w (Ret W):=h.mono λe w' J=>by cases e with
 |returned v=>exact k v w' J|panicked ch=>exact J.elim|outgrown=>exact J.elim
end
section
variable{O β γ:Type}{r:γ}
theorem ob2{x:Option O}{y:O->Option β}{f:O->β->Option γ}(h:(x.bind λa=>(y a).bind (f a))=some r):∃a,x=some a/\∃b,y a=some b/\f a b=some r:=by obtain⟨a,J,h⟩:=ob h;obtain⟨b,W,h⟩:=ob h;exact⟨a,J,b,W,h⟩
end
theorem kut{δ:List Nat}{n:Nat}{a:Act}{l J:List (Nat×Value)}(h:aw δ n a l)(W:Sub l J:=by repeat' first|exact trivial|exact rfl|refine And.intro ?_ ?_):aw δ n a J:=h.cut W
theorem eof{δ:List Nat}{n:Nat}{a:Act}{l:List (Nat×Value)}(k:Nat)(h:List (Nat×Value))(h1:a.defers=δ.map λD=>{target:=.collected D,args:=#[]})(W:a.tmps.size=n){ops:Array Oper}(Z:∀d v,lk l d=some v->(∀j,j<k->cw ops j≠some d)->a.tmps.getD d undef=v)(hs:Sub l h:=by repeat' first|exact trivial|exact rfl|refine And.intro ?_ ?_)(J:(Yb k).all (λj=>match cw ops j with|some d=>h.all (λe=>!(Zd e.1 d))|none=>true)=true:=by exact rfl):aw δ n a h:=aw.of h1 W Z hs J
abbrev pz (b:Nat):Value:=.pointer (some ⟨b,0,none⟩)
theorem adv{δ:List Nat}{n:Nat}{a:Act}{l:List (Nat×Value)}{O:Type}{k:Kd O}{m:M}{d:Nat}{x:O}(J:aw δ n a l)(h:RV k m (a.tmps.getD d undef) x):∃v,aw δ n a ((d,v)::l)/\RV k m v x:=⟨_,J.add rfl,h⟩
section
variable{δ:List Nat}{ro:Option Nat}{P:Program}{Φ:Nat->M->List Wit->Value->Prop}{Q:Nat->M->List Wit->List (Nat×List Value)->List (Nat×Value)->Prop}{W0:Bse}{m:M}{n:Nat}{a:Act}{l:List (Nat×Value)}{w:World}{L:List (Nat×List Value)}{TL:List (Nat×Value)}
theorem kch{os:List Oper}{id k:Nat}{es:List Nat}{cs:List COp}{N Rt:Act->World->Prop}{X:List (Nat×(Act->World->Prop))}(hm:P.follows .mixedOrders=true) (hE:aw δ n a l) (hS:S W0 m w L TL) (hQ:Q 0 m [] L TL) (a3:nZ os=true) (a5:o5 os k=true) (a0:La os es cs k n=true)(mono:∀i m m' h v,M.le m m'->Φ i m h v->Φ i m' h v) (a2:∀c m m' h L T,M.le m m'->Q c m h L T->Q c m' h L T)(step:Ey δ P os Φ Q W0 m n cs 0 cs os)(a4:∀h W J m' a w,h.length=es.length->M.le m m'->Q es.length m' h W J->S W0 m' w W J->a.defers=δ.map (λD=>{target:=.collected D,args:=#[]})->a.tmps.size=n->(∀d v,lk l d=some v->(∀j,j<k->cw os.toArray j≠some d)->a.tmps.getD d undef=v)->(∀(j:Nat) (_:Z8 j (min k os.length)=true:=by exact rfl){d:Nat}(_:cw os.toArray j=some d:=by exact rfl),Φ j m' (h.take ((cs.map COp.lv).getD j 0)) (a.tmps.getD d undef))->wpL ro P os.toArray (mkQ N X Rt) (os.drop k) a w) (a1:Ez l cs:=by repeat' first|exact trivial|exact rfl|refine And.intro ?_ ?_):K ro P (.region id os.toArray true) N X Rt a w:=Pp hm hE hS hQ a3 a5 a1 a0 mono a2 step λh W J m' a w h1 Z h3 h4 h5 h6 h7 h8=>a4 h W J m' a w h1 Z h3 h4 h5 h6 h7 λj hj d hd=>h8 j (Z0 hj) d hd
end
section
variable{δ:List Nat}{P:Program}{W0:Bse}{m:M}{L:List (Nat×List Value)}{TL:List (Nat×Value)}{n:Nat}{a:Act}{l:List (Nat×Value)}{w:World}{ty t t2 e:TypeId}{pos:String}{aft:Array Edge}{g:Option (Nat×Bool)}{x y:Operand}{d:Nat}{O:Type}{k:Kd O}{by_ N:Nat}
theorem Lk{ps:Array (Nat×Operand)}{pv:List (Nat×Value)}{h:Array Field}{pl:List (Nat×Nat)}{z:Value}{cs:List Value}(hE:aw δ n a l)(Z:prt l ps=some pv)(hu:P.underlying t=some (.struct h))(a1:h.toList.mapM (λf=>(P.info? f.type).map λi=>(f.offset,i.size))=some pl)(hz:∀w,(zeroValue t).run P w=.ok z w) (hf:Instr.fill (λx=>pl.toArray[x]?) z.cells pv=some cs.toArray):ay P ⟨some d,.build t ps,ty,pos,aft,g⟩ a w (.agg cs.toArray) w:=by
 have a0:(ps.map λp=>(p.1,a.eval p.2)).toList=pv:=pX hE Z;have a2:(h.mapM λf:Field=>(do pure (f.offset,←sizeOf f.type):Sem (Nat×Nat))).run P w=.ok pl.toArray w:=by
  rw[Array.mapM_eq_mapM_toList];have:=run_places (P:=P) w h.toList pl a1;simp only[Sem.run_map];have W:(h.toList.mapM λf:Field=>(do pure (f.offset,←sizeOf f.type):Sem (Nat×Nat))).run P w=.ok pl w:=by
   have h2:(λf:Field=>(do pure (f.offset,←sizeOf f.type):Sem (Nat×Nat)))=(λf:Field=>Prod.mk f.offset<$>sizeOf f.type):=by funext f;rfl
   rw[h2];exact this
  rw[W];rfl
 have J:(Instr.build t (ps.map λp=>(p.1,a.eval p.2))).run P w=.ok (.agg cs.toArray) w:=by
  simp only[Instr.build,Sem.run_bind,hz,Result.andThen_ok,run_underlying hu,a2,a0];rw[hf];rfl
 simp only[ay,execOp,J,Sem.run_bind,Sem.run_pure,Result.andThen_ok]
theorem Fh{pl:List (Nat×Nat)}{pv:List (Nat×Value)}{z:Value}{x0 xx:O}{cs:List Value}(a0:∀m,k.R m z.cells.toList x0)(Z:wX (pl.toArray[·]?) k m pv x0 xx)(hf:Instr.fill (λx=>pl.toArray[x]?) z.cells pv=some cs.toArray):k.R m cs xx:=by
 obtain⟨cs',W,J⟩:=Z.fill _ (a0 m);have h:some cs'.toArray=some cs.toArray:=by rw[←W,←hf]
 injection h with h;have:cs'=cs:=by simpa using congrArg Array.toList h
 rw[←this];exact J
end
open Go.RowKit
def Px{σ O:Type}(P:Program)(Rv:M->List Value->Mem->O->Prop)(B:σ->Bse)(y:Value)(I:M->σ->Mem->Tls->Prop)(step:σ->O->Option (σ×Bool)):Prop:=∀(m:M) (w:World) (L:Mem) (TL:Tls) (s:σ) (Ls:Mem) (TLs:Tls) (vs:List Value) (h:Mem) (x:O) (s':σ) (b:Bool),I m s Ls TLs->S (B s) m w (h++(Ls++L)) (TLs++TL)->Rv m vs h x->step s x=some (s',b)->HU P y vs w (λr w'=>r=.bool b/\∃m' Ls' TLs',M.le m m'/\I m' s' Ls' TLs'/\S (B s') m' w' (Ls'++L) (TLs'++TL))
def Uj{O:Type}(P:Program)(Rv:M->List Value->Mem->O->Prop)(h:FuncId)(J:Array Value)(W:M)(xs:List O):Prop:=∀(σ:Type) (I:M->σ->Mem->Tls->Prop) (step:σ->O->Option (σ×Bool)) (B:σ->Bse) (y:Value) (m:M) (w:World) (L:Mem) (TL:Tls) (s:σ) (Ls:Mem) (TLs:Tls) (r:σ×Bool),(∀m m' s a b,M.le m m'->I m s a b->I m' s a b)->M.le W m->Px P Rv B y I step->I m s Ls TLs->S (B s) m w (Ls++L) (TLs++TL)->dB step s xs=some r->Calls P h (#[y]++J) w (Ret λ_ w'=>∃m' Ls' TLs',M.le m m'/\I m' r.1 Ls' TLs'/\S (B r.1) m' w' (Ls'++L) (TLs'++TL))
def ItX{O:Type}(P:Program)(Rv:M->List Value->Mem->O->Prop)(m:M)(v:Value)(xs:List O):Prop:=∃gf lb,v=.func (.func gf) #[] lb/\(∀vs w,(callFunc gf vs).run P w=.ok (.enter gf vs) w)/\Uj P Rv gf lb m xs
theorem ItX.mono{O:Type}{P:Program}{Rv:M->List Value->Mem->O->Prop}{m m':M}{v:Value}{xs:List O}(h:ItX P Rv m v xs)(hm:M.le m m'):ItX P Rv m' v xs:=by obtain⟨gf,J,h1,W,Z⟩:=h;exact⟨gf,J,h1,W,λσ I step B y m w L TL s Ls TLs r mono hle=>Z σ I step B y m w L TL s Ls TLs r mono (hm.trans hle)⟩
section
variable{δ:List Nat}{P:Program}{W0:Bse}{m:M}{L:Mem}{TL:Tls}{n:Nat}{a:Act}{l:List (Nat×Value)}{w:World}{N Rt:Act->World->Prop}{X:List (Nat×(Act->World->Prop))}
end
section
variable{W0:Bse}{m m':M}{w:World}{L:Mem}{TL:Tls}
end
section
variable{δ:List Nat}{P:Program}{W0:Bse}{m:M}{L Lr:Mem}{TL:Tls}{n:Nat}{a:Act}{l:List (Nat×Value)}{w:World}{d t t2 ty e sz:Nat}{pos:String}{aft:Array Edge}{g:Option (Nat×Bool)}{x y:Operand}{b o c k:Nat}
theorem M.none{m m':M}(hm:M.le m m'){b:Nat}(h:m' b=none):m b=none:=by cases hx:m b with
 |none=>rfl|some l=>obtain⟨s,J⟩:=hm _ l hx;rw[h]at J;cases J
end
def byt (l:List Value):Prop:=∀c∈l,∃n,c=.int .u8 n
section
variable{W0:Bse}{m m' m3:M}{w w':World}{L:Mem}{TL:Tls}{b:Nat}{cs l:List Value}{v:Value}{xs:List Int}
theorem S.framed (h:S W0 m w L TL)(W:S ⟨w,λ_=>none,m⟩ m' w' [] [])(hm:M.le m m'):S W0 m' w' L TL/\(∀b,b<w.heap.size->m' b=m b)/\∀b,b<w.heap.size->w'.heap[b]?=w.heap[b]?:=by
 have hw:∀b,b<w.heap.size->w'.heap[b]?=w.heap[b]?:=λb Z=>W.below.block b Z;have hk:∀b,b<w.heap.size->m' b=m b:=λb Z=>by cases hx:m' b with
  |none=>rw[M.none hm hx]|some l=>
   obtain⟨_,_,_,_,_,_,J|⟨s,J⟩⟩:=W.imm b l hx;·exact absurd Z (Nat.not_lt.2 J)
   ·have J:m b=some (l++s):=J;obtain⟨r,hr⟩:=hm b _ J;rw[hx]at hr;have:=congrArg Y9 (Option.some.inj hr);simp only[Zf]at this;have:s=[]:=List.eq_nil_of_length_eq_zero (by omega);rw[J,this,List.append_nil]
 have a1:W0.heap.size<=w.heap.size:=h.below.size;refine⟨⟨h.below.step ⟨⟨W.below.os,W.below.tape,W.below.output,W.below.size,λk hk=>hw k (Nat.lt_of_lt_of_le hk a1)⟩,W.below.drawn⟩ (λk o ho _=>by rw[hw k (Array.getElem?_eq_some_iff.1 ho).1];exact ho),λb l Z=>?_,λi e he hv=>?_,h.nodup,λi e he=>qj hw (EO hk (h.tails i e he)),h.apart⟩,hk,hw⟩
 ·by_cases a0:b<w.heap.size
  ·rw[hk b a0]at Z;rw[hw b a0];exact h.imm b l Z
  ·obtain⟨c,t,fr,r,h1,h2,_⟩:=W.imm b l Z;exact⟨c,t,fr,r,h1,h2,.inl (by omega)⟩
 ·obtain⟨h1,h2,t,J⟩:=h.own i e he hv;have a0:=(Array.getElem?_eq_some_iff.1 J).1;exact⟨h1,by rw[hk _ a0];exact h2,t,by rw[hw _ a0];exact J⟩
theorem S.freezeX (h:S W0 m w ((b,cs)::L) TL)(hg:GS (aj .u8) m b cs v xs):∃W,M.le m W/\S W0 W w L TL/\RV (kSl (aj .u8)) W v xs/\(xs=[]\/m b=none/\W0.heap.size<=b/\(∃l,W b=some l/\byt l)/\(∀k,k≠b->W k=m k)/\∃t,w.heap[b]?=some (.cells cs.toArray t (0,0))):=by
 by_cases hx:xs=[]
 ·obtain⟨W,J,h2,h3⟩:=S.freeze h hg;exact⟨W,J,h2,h3,.inl hx⟩
 have J:=h.dropL 1;simp only[List.drop_succ_cons,X9]at J;obtain⟨h0,⟨rfl,_⟩|⟨cap,rfl,h2,h3,h4⟩⟩:=hg;·exact absurd rfl hx
 have h3:cs.length=cap*1:=h3;have a3:0<xs.length:=List.length_pos_iff.2 hx;have hc:cs≠[]:=λe=>by subst e;simp at h3;omega
 obtain⟨hB,hm,t,ht⟩:=h.own 0 (b,cs) rfl hc;have a1:M.le m (m.put b (cs.take (xs.length*1))):=M.le_put _ hm;refine⟨m.put b (cs.take (xs.length*1)),a1,⟨J.below,λb' r Z=>?_,λi e he hv=>?_,J.nodup,λi e he=>?_,J.apart⟩,fU h2 h0 ⟨λ_=>rfl,?_⟩,.inr ⟨hm,hB,⟨_,M.put_same _ _ _,?_⟩,λk hk=>M.put_other _ _ hk,t,ht⟩⟩
 ·by_cases hbb:b'=b
  ·subst hbb;rw[M.put_same]at Z;injection Z with Z;subst Z;exact⟨_,t,_,cs.drop (xs.length*1),ht,by simp,.inl hB⟩
  ·rw[M.put_other _ _ hbb]at Z;exact J.imm b' r Z
 ·obtain⟨q1,q2,q3⟩:=J.own i e he hv;have a0:=h.nodup 0 (i+1) (b,cs) e rfl (by simpa using he) (by omega) hc hv;exact⟨q1,by rw[M.put_other _ _ (λe=>a0 e.symm)];exact q2,q3⟩
 ·have hT:=J.tails i e he;have a0:∀(sz:Nat) (u:Value),sQ W0.heap.size m w sz u->sQ W0.heap.size (m.put b (cs.take (xs.length*1))) w sz u:=λsz u hu=>by
   cases u<;>try exact hu
   rename_i a n c;cases a with
   |none=>trivial|some ad=>
    obtain⟨q0,q1|⟨q1,q2,l,c',t',q3,q4,q5,q6⟩⟩:=hu;·exact⟨q0,.inl q1⟩
    ·exact⟨q0,.inr ⟨q1,q2,l,c',t',by rw[M.put_other _ _ (λe=>by rw[e,hm]at q3;cases q3)];exact q3,q4,q5,q6⟩⟩
  exact a0 _ _ hT
 ·exact ql (M.put_same _ _ _) (h4.mono a1) (by rw[X9];exact List.take_length)
 ·intro c a2;obtain⟨j,hj,rfl⟩:=X4 a2;have hl:(cs.take (xs.length*1)).length=xs.length*1:=h4.1;have h6:((cs.take (xs.length*1)).drop (j*1)).take 1=[.int .u8 (xs[j]'(by omega))]:=(h4.2 j (by omega)).1;rw[Nat.mul_one j,X7 hj,X3]at h6;exact⟨_,(List.cons.inj h6).1⟩
def M.off (m:M)(b:Nat):M:=λk=>if k=b then Yc else m k
theorem S.thaw (h:S W0 m w L [])(hm:m b=some l)(hB:W0.heap.size<=b){t:TypeId}(ht:w.heap[b]?=some (.cells cs.toArray t (0,0))):S W0 (m.off b) w ((b,cs)::L) []:=by
 have a1:∀(i:Nat) (e:Nat×List Value),L[i]?=some e->e.2≠[]->b≠e.1:=λi e J W hx=>by have:=(h.own i e J W).2.1;rw[←hx,hm]at this;cases this
 refine⟨h.below,λk l Z=>?_,λi e J W=>?_,λi j e e' J a0 a3 W a2=>?_,λi e J=>by simp at J,h.apart⟩
 ·unfold M.off at Z;split at Z;·cases Z
  ·exact h.imm k l Z
 ·cases i with
  |zero=>simp at J;subst J;exact⟨hB,by simp[M.off],t,ht⟩|succ i=>obtain⟨h1,h2,h3⟩:=h.own i e (by simpa using J) W;exact⟨h1,by unfold M.off;split<;>simp[h2],h3⟩
 ·cases i with
  |zero=>simp at J;subst J;cases j with
   |zero=>omega|succ j=>exact a1 j e' (by simpa using a0) a2
  |succ i=>cases j with
   |zero=>simp at a0;subst a0;exactλx=>a1 i e (by simpa using J) W x.symm|succ j=>exact h.nodup i j e e' (by simpa using J) (by simpa using a0) (by omega) W a2
def vu{O:Type}(k:Kd O)(m:M)(b:Nat):Prop:=∀cs x,k.R m cs x->k.R (m.off b) cs x/\¬byt cs
theorem Hg{o n:Nat}(hm:m b=some l)(hl:byt l){k:Nat}(h:¬byt (m.row k o n)):(m.off b).row k o n=m.row k o n:=by
 unfold M.row M.off;by_cases e:k=b
 ·subst e;refine absurd ?_ h;unfold M.row;rw[hm];exactλc J=>hl c (List.mem_of_mem_drop (List.mem_of_mem_take J))
 ·rw[if_neg e]
theorem vu.sl{O:Type}{k:Kd O}(hm:m b=some l)(hl:byt l)(h:vu k m b):vu (kSl k) m b:=λcs x hR=>by
 obtain⟨a,n,c,rfl,Z,h3,h4,J⟩:=hR;refine⟨⟨a,n,c,rfl,Z,h3,h4,?_⟩,λW=>?_⟩;·cases a with
  |none=>exact J|some ad=>refine⟨J.1,λi hi=>?_⟩;obtain⟨h6,h7⟩:=h _ _ (J.2 i hi);rw[Hg hm hl h7];exact h6
 ·obtain⟨n,hn⟩:=W _ (Z3.2 rfl);cases hn
theorem vu.pt{O:Type}{k:Kd O}(hm:m b=some l)(hl:byt l)(h:vu k m b):vu (kPt k) m b:=λcs x J=>by cases x with
 |none=>have J:cs=[.pointer Yc]:=J;subst J;exact⟨rfl,λW=>by obtain⟨n,Z⟩:=W _ (Z3.2 rfl);cases Z⟩|some y=>obtain⟨b',o,rfl,h1⟩:=J;obtain⟨h6,h7⟩:=h _ _ h1;exact⟨⟨b',o,rfl,by rw[Hg hm hl h7];exact h6⟩,λW=>by obtain⟨n,Z⟩:=W _ (Z3.2 rfl);cases Z⟩
theorem vu.rv{O:Type}{k:Kd O}(h:vu k m b){u:Value}{x:O}(W:RV k m u x):RV k (m.off b) u x:=by obtain⟨cs,J,rfl⟩:=W;exact⟨cs,(h _ _ J).1,rfl⟩
theorem M.le_off (h:M.le m m3)(Z:m b=Yc):M.le m (m3.off b):=λk l J=>by obtain⟨r,W⟩:=h k l J;exact⟨r,by unfold M.off;rw[if_neg (λe=>by subst e;rw[Z]at J;cases J)];exact W⟩
end
structure Swo{O:Type}(lt:O->O->Bool):Prop where
 irr:∀a,lt a a=false
 tr:∀a b c,lt a b=true->lt b c=true->lt a c=true
 inc:∀a b c,lt a b=false->lt b c=false->lt a c=false
section
variable{O:Type}{lt:O->O->Bool}
def eqv (lt:O->O->Bool)(a b:O):Bool:=!lt a b&&!lt b a
def Srt (lt:O->O->Bool)(l:List O):Prop:=l.Pairwise λa b=>lt b a=false
theorem lG (h:Swo lt)(a:O):eqv lt a a=true:=by simp[eqv,h.irr]
theorem H1 (h:Swo lt):∀{l W:List O},Srt lt l->Srt lt W->(∀a,l.filter (eqv lt a)=W.filter (eqv lt a))->l=W:=by
 intro l;induction l with
 |nil=>intro W _ _ Z;cases W with
  |nil=>rfl|cons b t=>have:=Z b;rw[Zh,if_pos (lG h b)]at this;cases this
 |cons a t ih=>intro W hs a0 Z;cases W with
  |nil=>have:=Z a;rw[Zh,if_pos (lG h a)]at this;cases this|cons b t'=>
   unfold Srt at hs a0;rw[List.pairwise_cons]at hs a0;have ha:a∈b::t':=by have J:a∈(a::t).filter (eqv lt a):=Za.2 ⟨by simp,lG h a⟩;rw[Z a]at J;exact(Za.1 J).1
   have hb:b∈a::t:=by have J:b∈(b::t').filter (eqv lt b):=Za.2 ⟨by simp,lG h b⟩;rw[←Z b]at J;exact(Za.1 J).1
   have J:lt a b=false:=by
    rcases Z5.1 ha with rfl|ha;·exact h.irr _
    ·exact a0.1 a ha
   have h2:lt b a=false:=by
    rcases Z5.1 hb with rfl|hb;·exact h.irr _
    ·exact hs.1 b hb
   have a1:a=b:=by have:=Z a;rw[Zh,if_pos (lG h a),Zh,if_pos (by simp[eqv,J,h2])]at this;exact(List.cons.inj this).1
   subst a1;congr 1;refine ih hs.2 a0.2 λc=>?_;have:=Z c;rw[Zh,Zh]at this;split at this;·exact(List.cons.inj this).2
   ·exact this
structure Stb (lt:O->O->Bool)(l l':List O):Prop where
 srt:Srt lt l'
 flt:∀a,l'.filter (eqv lt a)=l.filter (eqv lt a)
theorem Stb.unique (h:Swo lt){l l1 W:List O}(J:Stb lt l l1)(Z:Stb lt l W):l1=W:=H1 h J.srt Z.srt λa=>(J.flt a).trans (Z.flt a).symm
theorem Stb.mem (h:Swo lt){l J:List O}(Z:Stb lt l J){x:O}:x∈J↔x∈l:=by
 constructor
 ·intro W;have:x∈J.filter (eqv lt x):=Za.2 ⟨W,lG h x⟩;rw[Z.flt x]at this;exact(Za.1 this).1
 ·intro W;have:x∈l.filter (eqv lt x):=Za.2 ⟨W,lG h x⟩;rw[←Z.flt x]at this;exact(Za.1 this).1
theorem Swo.asym (h:Swo lt){a b:O}(J:lt a b=true):lt b a=false:=by cases hb:lt b a with
 |false=>rfl|true=>have:=h.tr a b a J hb;rw[h.irr]at this;cases this
theorem Stb.cat (h:Swo lt){A1 A2 B1 B2 R1 R2:List O}(h1:Stb lt (A1++B1) R1)(Z:Stb lt (A2++B2) R2)(hA:Srt lt (A1++A2))(hB:Srt lt (B1++B2))(c1:∀b∈B1,∀a∈A2,lt b a=true)(c2:∀a∈A1,∀b∈B2,lt b a=false):Stb lt ((A1++A2)++(B1++B2)) (R1++R2):=by
 unfold Srt at hA hB;rw[Zj]at hA hB;refine⟨?_,λc=>?_⟩
 ·unfold Srt;rw[Zj];refine⟨h1.srt,Z.srt,λx J y W=>?_⟩;have J:=(h1.mem h).1 J;have W:=(Z.mem h).1 W;rcases Z9.1 J with J|J<;>rcases Z9.1 W with W|W;·exact hA.2.2 x J y W
  ·exact c2 x J y W
  ·exact h.asym (c1 x J y W)
  ·exact hB.2.2 x J y W
 ·have key:A2.filter (eqv lt c)++B1.filter (eqv lt c)=B1.filter (eqv lt c)++A2.filter (eqv lt c):=by cases ha:A2.filter (eqv lt c)with
   |nil=>simp|cons a s=>cases hb:B1.filter (eqv lt c)with
    |nil=>simp|cons b s'=>
     exfalso;have a4:a∈A2.filter (eqv lt c):=by rw[ha];simp
     have a3:b∈B1.filter (eqv lt c):=by rw[hb];simp
     obtain⟨a5,a0⟩:=Za.1 a4;obtain⟨a2,a1⟩:=Za.1 a3;have hl:=c1 b a2 a a5;simp only[eqv,Zb,Zv]at a0 a1;rw[h.inc b c a a1.2 a0.1]at hl;cases hl
  simp only[List.filter_append,h1.flt,Z.flt,Z4];rw[←Z4 (B1.filter _),←key,Z4]
theorem Stb.refl{l:List O}(h:Srt lt l):Stb lt l l:=⟨h,λ_=>rfl⟩
theorem Stb.trans{l J h:List O}(Z:∀a,J.filter (eqv lt a)=l.filter (eqv lt a))(W:Stb lt J h):Stb lt l h:=⟨W.srt,λa=>(W.flt a).trans (Z a)⟩
theorem Stb.ins (h:Swo lt){S1 J:List O}{v:O}(hS:Srt lt (S1++J))(h2:∀s∈J,lt v s=true)(h1:∀s∈S1,lt v s=false):Stb lt (S1++J++[v]) (S1++v::J):=by
 unfold Srt at hS;rw[Zj]at hS;refine⟨?_,λc=>?_⟩
 ·unfold Srt;rw[Zj,List.pairwise_cons];refine⟨hS.1,⟨λs W=>h.asym (h2 s W),hS.2.1⟩,λx hx y Z=>?_⟩;rcases Z5.1 Z with rfl|Z;·exact h1 x hx
  ·exact hS.2.2 x hx y Z
 ·simp only[List.filter_append,Zh,List.filter_nil,Z4];split
  ·rename_i hv;have hn:J.filter (eqv lt c)=[]:=by rw[List.filter_eq_nil_iff];intro s W hc;have hl:=h2 s W;simp only[eqv,Zb,Zv]at hv hc;rw[h.inc v c s hv.2 hc.1]at hl;cases hl
   rw[hn];simp
  ·simp
theorem Ll (h:Swo lt){S:List O}{s v:O}(hS:Srt lt (S++[s]))(W:lt v s=false):∀x∈S++[s],lt v x=false:=by
 intro x J;unfold Srt at hS;rw[Zj]at hS;rcases Z9.1 J with J|J;·exact h.inc v s x W (hS.2.2 x J s (by simp))
 ·simp only[Z3]at J;subst J;exact W
end
inductive Ty where|int (k:IntKind)|bool|str|sl (t:Ty)|st (i:Nat)deriving DecidableEq
structure Sg where
 O:Nat->Type
 k:(i:Nat)->Kd (O i)
def Ty.den (G:Sg):Ty->Type
 |.int _=>Int|.bool=>Bool|.str=>List Int|.sl t=>List (t.den G)|.st i=>G.O i
def Ty.kd (G:Sg):(t:Ty)->Kd (t.den G)
 |.int k=>aj k|.bool=>cS|.str=>sP|.sl t=>kSl (t.kd G)|.st i=>G.k i
def dR (G:Sg)(a b:Ty)(x:a.den G):Option (b.den G):=if h:a=b then some (h▸x)else none
theorem bW{G:Sg}{a b:Ty}{x:a.den G}{y:b.den G}(h:dR G a b x=some y):∃e:a=b,e▸x=y:=by
 unfold dR at h;split at h
 ·rename_i e;injection h with h;exact⟨e,h⟩
 ·cases h
structure Acc (G:Sg)(a b:Ty)where
 off:Nat
 get:a.den G->b.den G
 set:a.den G->b.den G->a.den G
 fld:Fld (a.kd G) (b.kd G) off get
 stf:StF (a.kd G) (b.kd G) off set
def Acc.self (G:Sg)(a:Ty):Acc G a a:=⟨0,λx=>x,λ_ y=>y,jF,bT⟩
def Acc.comp{G:Sg}{a b c:Ty}(A:Acc G a b)(B:Acc G b c):Acc G a c:=⟨A.off+B.off,λx=>B.get (A.get x),λx y=>A.set x (B.set (A.get x) y),I9 A.fld B.fld,EZ A.fld A.stf B.stf⟩
inductive AV (G:Sg)where|li (k:IntKind) (n:Int)|dat (t:Ty) (x:t.den G) (o:Option Nat)|ptr (t:Ty) (x:t.den G)|loc (i:Nat) (a b:Ty) (A:Acc G a b)|elp (i j:Nat) (a b:Ty) (A:Acc G a b)|blk (i:Nat)|own (i:Nat)|nils|nilp|agc (cs:List Value)|fn1 (a b:Ty) (f:a.den G->Option (b.den G))|fn2 (a c b:Ty) (f:a.den G->c.den G->Option (b.den G))|und
inductive EV (G:Sg)where|one (v:AV G)|tup (vs:List (AV G))
inductive BC (G:Sg)where|dat (t:Ty) (x:t.den G)|arr (t:Ty) (n:Option Nat) (xs:List (t.den G))|gone
structure St (G:Sg)where
 env:List (Nat×Nat×EV G)c:Nat
 L:List (Nat×BC G)T:List Nat
def fb{O:Type}:List O->Nat->Option O
 |[],_=>none|x::l,i=>if Zd i l.length then some x else fb l i
def sb{O:Type}:List O->Nat->O->List O
 |[],_,_=>[]|x::l,i,y=>if Zd i l.length then y::l else x::sb l i y
def lke{O:Type}:List (Nat×O)->Nat->Option O
 |[],_=>none|(q,x)::l,j=>if Zd q j then some x else lke l j
structure Cz where
 b:List (Nat×Value)t:List Value
def Tag (z:Cz)(o:Option Nat)(v:Value):Prop:=match o with|none=>True|some j=>fb z.t j=some v
def AV.Rel (G:Sg)(P:Program)(m:M)(z:Cz):AV G->Value->Prop
 |.li k n,v=>v=.int k n/\inR k n|.dat t x o,v=>RV (t.kd G) m v x/\Tag z o v|.ptr t x,v=>PR (t.kd G) m v x|.loc i _ _ A,v=>∃p,fb z.b i=some p/\v=.pointer (some ⟨p.1,A.off,none⟩)|.elp i j a _ A,v=>∃p,fb z.b i=some p/\v=.pointer (some ⟨p.1,j*(a.kd G).sz+A.off,none⟩)|.blk i,v=>∃p,fb z.b i=some p/\v=.pointer (some ⟨p.1,0,none⟩)|.own i,v=>∃p,fb z.b i=some p/\v=p.2|.nils,v=>v=.slice none 0 0|.nilp,v=>v=.pointer none|.agc cs,v=>v=.agg cs.toArray|.fn1 a b f,v=>Fn1 P (a.kd G) (b.kd G) m v f|.fn2 a c b f,v=>Fn2 P (a.kd G) (c.kd G) (b.kd G) m v f|.und,v=>v=undef
def ry (G:Sg)(P:Program)(m:M)(z:Cz):List (AV G)->List Value->Prop
 |[],[]=>True|a::asv,v::vs=>a.Rel G P m z v/\ry G P m z asv vs|_,_=>False
def EV.Rel (G:Sg)(P:Program)(m:M)(z:Cz):EV G->Value->Prop
 |.one a,v=>a.Rel G P m z v|.tup asv,v=>∃vs:List Value,v=.tuple vs.toArray/\ry G P m z asv vs
def BC.Rel (G:Sg)(m:M):BC G->Nat×Value->List Value->Prop
 |.dat t x,_,cs=>(t.kd G).R m cs x|.arr t n xs,p,cs=>GS (t.kd G) m p.1 cs p.2 xs/\(match n with|none=>True|some k=>xs.length=k)|.gone,_,cs=>cs=[]
def LR (G:Sg)(m:M):List (Nat×BC G)->List (Nat×Value)->List (Nat×List Value)->Prop
 |[],[],[]=>True|B::Bs,p::ps,e::es=>e.1=p.1/\B.2.Rel G m p e.2/\LR G m Bs ps es|_,_,_=>False
def TRl:List Nat->List Value->List (Nat×Value)->Prop
 |[],[],[]=>True|s::ss,v::vs,e::es=>e=(s,v)/\TRl ss vs es|_,_,_=>False
structure Rs where
 l:List (Nat×List Value)nm:List (Nat×Value)
def Sfx{O:Type}(l s:List O):Prop:=∃p,l=p++s
theorem Sfx.cons{O:Type}{x:O}{l s:List O}(h:Sfx l s):Sfx (x::l) s:=by obtain⟨p,rfl⟩:=h;exact⟨x::p,rfl⟩
theorem Sfx.app{O:Type}{q l s:List O}(h:Sfx l s):Sfx (q++l) s:=by obtain⟨p,rfl⟩:=h;exact⟨q++p,by simp⟩
theorem Sfx.len{O:Type}{l s:List O}(h:Sfx l s):s.length<=l.length:=by obtain⟨p,rfl⟩:=h;simp
theorem Sfx.drop{O:Type}{l s:List O}(h:Sfx l s){k:Nat}(J:k+s.length<=l.length):Sfx (l.drop k) s:=by obtain⟨p,rfl⟩:=h;simp at J;exact⟨p.drop k,List.drop_append_of_le_length J⟩
def gB (G:Sg)(W0:Bse)(L0:Rs)(T0:List (Nat×Value))(Ls:List (Nat×BC G))(Ts:List Nat)(m:M)(z:Cz)(w:World):Prop:=∃Lc Tc,LR G m Ls z.b Lc/\TRl Ts z.t Tc/\S W0 m w (Lc++L0.l) (Tc++T0)/\Sfx z.b L0.nm
section
variable{G:Sg}{P:Program}{m m':M}{z z':Cz}
theorem AV.Rel.mono{a:AV G}{v:Value}(h:a.Rel G P m z v)(hm:M.le m m'):a.Rel G P m' z v:=by cases a with
 |dat t x o=>exact⟨RV.mono h.1 hm,h.2⟩|ptr t x=>exact PR.mono h hm|fn1 a b f=>exact Fn1.mono h hm|fn2 a c b f=>exact Fn2.mono h hm|_=>exact h
theorem ry.mono{J:List (AV G)}{vs:List Value}(h:ry G P m z J vs)(hm:M.le m m'):ry G P m' z J vs:=by induction J generalizing vs with
 |nil=>cases vs<;>exact h|cons a J ih=>cases vs with
  |nil=>exact h|cons v vs=>exact⟨h.1.mono hm,ih h.2⟩
theorem EV.Rel.mono{e:EV G}{v:Value}(h:e.Rel G P m z v)(hm:M.le m m'):e.Rel G P m' z v:=by cases e with
 |one a=>exact AV.Rel.mono h hm|tup asv=>obtain⟨vs,J,W⟩:=h;exact⟨vs,J,W.mono hm⟩
theorem BC.Rel.mono{B:BC G}{p:Nat×Value}{cs:List Value}(h:B.Rel G m p cs)(hm:M.le m m'):B.Rel G m' p cs:=by cases B with
 |dat t x=>exact(t.kd G).mono hm h|arr t n xs=>exact⟨GS.mono h.1 hm,h.2⟩|gone=>exact h
theorem LR.mono{J:List (Nat×BC G)}{ps:List (Nat×Value)}{es:List (Nat×List Value)}(h:LR G m J ps es)(hm:M.le m m'):LR G m' J ps es:=by induction J generalizing ps es with
 |nil=>cases ps<;>cases es<;>exact h|cons B J ih=>cases ps with
  |nil=>cases es<;>exact h|cons p ps=>cases es with
   |nil=>exact h|cons e es=>exact⟨h.1,h.2.1.mono hm,ih h.2.2⟩
theorem LR.len{J:List (Nat×BC G)}{ps:List (Nat×Value)}{es:List (Nat×List Value)}(h:LR G m J ps es):ps.length=J.length/\es.length=J.length:=by induction J generalizing ps es with
 |nil=>cases ps<;>cases es<;>first|exact⟨rfl,rfl⟩|exact h.elim
 |cons B J ih=>cases ps with
  |nil=>cases es<;>exact h.elim|cons p ps=>cases es with
   |nil=>exact h.elim|cons e es=>have:=ih h.2.2;simp[this.1,this.2]
theorem LR.get{Z:List (Nat×BC G)}{ps:List (Nat×Value)}{es:List (Nat×List Value)}(h:LR G m Z ps es){i:Nat}{B:Nat×BC G}(J:fb Z i=some B):∃p cs j,fb ps i=some p/\es[j]?=some (p.1,cs)/\B.2.Rel G m p cs/\∀(W:Nat×BC G) (sv:Value) (cs':List Value),W.2.Rel G m (p.1,sv) cs'->LR G m (sb Z i W) (sb ps i (p.1,sv)) (es.set j (p.1,cs')):=by induction Z generalizing ps es with
 |nil=>simp[fb]at J|cons B0 Z ih=>cases ps with
  |nil=>cases es<;>exact h.elim|cons p ps=>cases es with
   |nil=>exact h.elim|cons e es=>
    obtain⟨h1,h2,h3⟩:=h;have hl:=h3.len;simp only[fb]at J;split at J
    ·rename_i hi;injection J with J;subst J;refine⟨p,e.2,0,by simp[fb,hl.1,hi],by simp[←h1],h2,λW sv cs' hb=>?_⟩;simp only[sb,hi,hl.1,if_true,List.set_cons_zero];exact⟨rfl,hb,h3⟩
    ·rename_i hi;obtain⟨p',cs,j,g1,g2,g3,g4⟩:=ih h3 J;refine⟨p',cs,j+1,by simp[fb,hl.1,hi,g1],by simpa using g2,g3,λW sv cs' hb=>?_⟩;simp only[sb,hi,hl.1,List.set_cons_succ];exact⟨h1,h2,g4 W sv cs' hb⟩
theorem zV{O:Type}{x:O}{l:List O}{i:Nat}{y:O}(h:fb l i=some y):fb (x::l) i=some y:=by
 have:∀{l:List O}{i:Nat}{y:O},fb l i=some y->i<l.length:=by
  intro l;induction l with
  |nil=>intro i y h;simp[fb]at h|cons a l ih=>
   intro i y h;simp only[fb]at h;split at h
   ·rename_i e;have:=Z1 e;simp;omega
   ·have:=ih h;simp;omega
 have hi:=this h;unfold fb;have:Zd i l.length=false:=by cases hb:Zd i l.length with
  |false=>rfl|true=>have:=Z1 hb;omega
 simp only[this];exact h
theorem kG{O:Type}{l:List O}{i j:Nat}{y:O}(h:i≠j):fb (sb l i y) j=fb l j:=by
 have len:∀l:List O,(sb l i y).length=l.length:=by
  intro l;induction l with
  |nil=>rfl|cons a l ih=>simp only[sb];split<;>simp[ih]
 induction l with
 |nil=>rfl|cons a l ih=>
  simp only[sb];split
  ·rename_i e;have e':=Z1 e;have:Zd j l.length=false:=by cases hb:Zd j l.length with
    |false=>rfl|true=>have:=Z1 hb;omega
   simp[fb,this]
  ·simp only[fb,len,ih]
theorem pY{O:Type}{l:List O}{i:Nat}{x y:O}(h:fb l i=some x):fb (sb l i y) i=some y:=by induction l with
 |nil=>simp[fb]at h|cons a l ih=>
  simp only[fb]at h;have len:(sb l i y).length=l.length:=by
   clear ih h;induction l with
   |nil=>rfl|cons a l ih=>simp only[sb];split<;>simp[ih]
  simp only[sb];split;·rename_i e;simp[fb,e]
  ·rename_i e;rw[if_neg e]at h;simp[fb,len,e,ih h]
theorem TRl.len{J:List Nat}{vs:List Value}{es:List (Nat×Value)}(h:TRl J vs es):vs.length=J.length/\es.length=J.length:=by induction J generalizing vs es with
 |nil=>cases vs<;>cases es<;>first|exact⟨rfl,rfl⟩|exact h.elim
 |cons a asv ih=>cases vs with
  |nil=>cases es<;>exact h.elim|cons b bs=>cases es with
   |nil=>exact h.elim|cons c cs=>have:=ih h.2;simp[this.1,this.2]
theorem TRl.get{Z:List Nat}{vs:List Value}{es:List (Nat×Value)}(h:TRl Z vs es){i s:Nat}{v:Value}(W:fb Z i=some s)(J:fb vs i=some v):∃j,es[j]?=some (s,v)/\∀v',TRl Z (sb vs i v') (es.set j (s,v')):=by induction Z generalizing vs es with
 |nil=>simp[fb]at W|cons s0 Z ih=>cases vs with
  |nil=>cases es<;>exact h.elim|cons v0 vs=>cases es with
   |nil=>exact h.elim|cons e es=>
    obtain⟨h1,h2⟩:=h;have hl:vs.length=Z.length:=h2.len.1;simp only[fb]at W J;rw[hl]at J;split at W
    ·rename_i hi;rw[if_pos hi]at J;injection W with W;injection J with J;subst W;subst J;refine⟨0,by simp[h1],λv'=>?_⟩;simp only[sb,hl,hi,if_true,List.set_cons_zero];exact⟨rfl,h2⟩
    ·rename_i hi;rw[if_neg hi]at J;obtain⟨j,g1,g2⟩:=ih h2 W J;refine⟨j+1,by simpa using g1,λv'=>?_⟩;simp only[sb,hl,hi,List.set_cons_succ];exact⟨h1,g2 v'⟩
end
structure SlI (P:Program)(G:Sg)(i:TypeId)(t:Ty)where
 e:TypeId
 by_:Nat
 z:t.den G
 zv:Value
 inf:TypeInfo
 hu:P.underlying i=some (.slice e)hs:∀w,(sizeOf e).run P w=.ok (t.kd G).sz w
 hel:pW P e (t.kd G).sz by_
 hz:∀w,(zeroValue e).run P w=.ok zv w
 hzR:∀m,(t.kd G).R m zv.cells.toList z
 hi:P.info? e=some inf
 hiz:inf.zero=some zv
 hsz:inf.size=(t.kd G).sz
 hby:inf.bytes=by_
def UI (P:Program)(G:Sg)(i:TypeId):Ty->Type
 |.int k=>PLift (P.underlying i=some (.int k))|.bool=>PLift (P.underlying i=some .bool)|.str=>PLift (P.underlying i=some .string)|.sl t=>SlI P G i t|.st _=>Unit
structure TI (P:Program)(G:Sg)(i:TypeId)where
 T:Ty
 ok:dz P i (T.kd G)u:UI P G i T
 z:T.den G
 zv:Value
 hz:∀w,(zeroValue i).run P w=.ok zv w
 hzR:∀m,(T.kd G).R m zv.cells.toList z
structure AI (P:Program)(G:Sg)(i:TypeId)where
 n:Nat
 t:Ty
 e:TypeId
 z:t.den G
 zv:Value
 c:List Value
 hu:P.underlying i=some (.array n e)hs:∀w,(sizeOf e).run P w=.ok (t.kd G).sz w
 hz:∀w,(zeroValue i).run P w=.ok zv w
 hzc:zv.cells=((Zq n c).flatten).toArray
 hzR:∀m,(t.kd G).R m c z
 hn:Y8 n cz=true
structure FI (P:Program)(G:Sg)(s f:Nat)where
 t:Ty
 A:Acc G (.st s) t
 ok:dc P s f A.off
structure EI (P:Program)(G:Sg)(s:Nat)where
 dec:DecidableEq (G.O s)ok:yx P s (G.k s)agg:(G.k s).agg=true
structure BI (P:Program)(G:Sg)(s:Nat)where
 fs:Array Field
 pl:List (Nat×Nat)z:G.O s
 zv:Value
 hu:P.underlying s=some (.struct fs)hpl:fs.toList.mapM (λf=>(P.info? f.type).map λi=>(f.offset,i.size))=some pl
 hz:∀w,(zeroValue s).run P w=.ok zv w
 hzR:∀m,(G.k s).R m zv.cells.toList z
 agg:(G.k s).agg=true
structure NI (P:Program)(G:Sg)(s:Nat)where
 q:Nat
 to:G.O s->Option (G.O q)e:TypeId
 hu:P.underlying s=some (.pointer e)hk:∀m v x,RV (G.k s) m v x->RV (kPt (G.k q)) m v (to x)
structure Tab (P:Program)(G:Sg)where
 ty:(i:TypeId)->Option (TI P G i)ar:(i:TypeId)->Option (AI P G i)fl:(s f:Nat)->Option (FI P G s f)eq:(s:Nat)->Option (EI P G s)bu:(s:Nat)->Option (BI P G s)nl:(s:Nat)->Option (NI P G s)
structure iO (G:Sg)where
 β:Type
 mv:Option β
 k:β->EV G
section
variable{G:Sg}{P:Program}
def pv (v:AV G):Option (iO G):=some ⟨Unit,some (),λ_=>.one v⟩
def pe (v:EV G):Option (iO G):=some ⟨Unit,some (),λ_=>v⟩
def pb{β:Type}(h:Option β)(k:β->AV G):Option (iO G):=some ⟨β,h,λb=>.one (k b)⟩
def AV.i?:AV G->Option (IntKind×Int)
 |.li k n=>some (k,n)|.dat (.int k) x _=>some (k,x)|_=>none
def AV.lit?:AV G->Option Int
 |.li _ n=>some n|_=>none
def AV.b?:AV G->Option Bool
 |.dat .bool x _=>some x|_=>none
def AV.s?:AV G->Option (List Int)
 |.dat .str x _=>some x|_=>none
def vEq:Value->Value->Bool
 |.int k n,.int k' n'=>decide (k=k')&&decide (n=n')|.bool b,.bool b'=>b==b'|.string s,.string s'=>decide (s.data.toList=s'.data.toList)|.slice none 0 0,.slice none 0 0=>true|_,_=>false
theorem Py{a b:Value}(h:vEq a b=true):a=b:=by
 unfold vEq at h;split at h
 ·simp only[Zb,decide_eq_true_eq]at h;rw[h.1,h.2]
 ·simp only[beq_iff_eq]at h;rw[h]
 ·rename_i s s';simp only[decide_eq_true_eq]at h;cases s;cases s';simp only at h;rw[Array.toList_inj.1 h]
 ·rfl
 ·cases h
def H2:List Value->List Value->Bool
 |[],[]=>true|a::asv,b::bs=>vEq a b&&H2 asv bs|_,_=>false
theorem Hh:∀{W J:List Value},H2 W J=true->W=J
 |[],[],_=>rfl|a::W,b::J,h=>by simp only[H2,Zb]at h;rw[Py h.1,Hh h.2]|[],_::_,h=>by cases h|_::_,[],h=>by cases h
def AV.as (Γ:Tab P G)(t:Ty):AV G->Option (t.den G)
 |.li k n=>dR G (.int k) t n|.dat t' x _=>dR G t' t x|.nils=>match t with|.sl _=>some []|_=>none
 |.agc cs=>match t with
  |.st i=>match Γ.bu i with
   |some B=>if H2 B.zv.cells.toList cs then some B.z else none|none=>none
  |_=>none
 |_=>none
def av?:Option (EV G)->Option (AV G)
 |some (.one v)=>some v|_=>none
def di (k:IntKind)(x:Int):AV G:=.dat (.int k) x none
def db (x:Bool):AV G:=.dat .bool x none
def H3 (op:BinOp)(k k':IntKind)(p q:Int)(lit:Option Int):Option (iO G):=match op with
 |.add=>if k=k' then pv (di k (k.wrap (p+q)))else none|.sub=>if k=k' then pv (di k (k.wrap (p-q)))else none|.mul=>if k=k' then pv (di k (k.wrap (p*q)))else none|.quo=>if k=k' then (match lit with|some n=>if n=q/\n≠0 then pv (di k (k.wrap (p.tdiv q)))else none|none=>pb (chk (q !=0)) λ_=>di k (k.wrap (p.tdiv q)))else none|.rem=>if k=k' then (match lit with|some n=>if n=q/\n≠0 then pv (di k (p.tmod q))else none|none=>pb (chk (q !=0)) λ_=>di k (p.tmod q))else none|.and=>if k=k' then pv (di k (d4 k p q))else none|.or=>if k=k' then pv (di k (bOr k p q))else none|.xor=>if k=k' then pv (di k (d7 k p q))else none|.shl=>match lit with
  |some n=>if n=q/\0<=n then pv (di k (en k p q))else none|none=>if k'=.u8\/k'=.u32\/k'=.u64 then pv (di k (en k p q))else pb (chk (decide (0<=q))) λ_=>di k (en k p q)
 |.shr=>match lit with
  |some n=>if n=q/\0<=n then pv (di k (aV k p q))else none|none=>if k'=.u8\/k'=.u32\/k'=.u64 then pv (di k (aV k p q))else pb (chk (decide (0<=q))) λ_=>di k (aV k p q)
 |.eql=>if k=k' then pv (db (p==q))else none|.neq=>if k=k' then pv (db (p !=q))else none|.lss=>if k=k' then pv (db (decide (p<q)))else none|.leq=>if k=k' then pv (db (decide (p<=q)))else none|.gtr=>if k=k' then pv (db (decide (q<p)))else none|.geq=>if k=k' then pv (db (decide (q<=p)))else none|_=>none
def uR (G:Sg)(P:Program)(m:M)(z:Cz)(r:Option (iO G))(o:Oper)(a:Act):Prop:=∀R b,r=some R->R.mv=some b->∀w,∃v,ay P o a w v w/\(R.k b).Rel G P m z v
theorem uR.pv{v:AV G}{m:M}{z:Cz}{o:Oper}{a:Act}(h:∀w,∃u,ay P o a w u w/\v.Rel G P m z u):uR G P m z (pv v) o a:=by
 intro R b J W w;injection J with J;subst J;exact h w
theorem uR.none{m:M}{z:Cz}{o:Oper}{a:Act}:uR G P m z none o a:=by intro R b h;cases h
theorem uR.pb{β:Type}{W:Option β}{k:β->AV G}{m:M}{z:Cz}{o:Oper}{a:Act}(h:∀b,W=some b->∀w,∃u,ay P o a w u w/\(k b).Rel G P m z u):uR G P m z (pb W k) o a:=by
 intro R b J Z w;injection J with J;subst J;exact h b Z w
theorem uR.ite{c:Prop}[Decidable c]{x y:Option (iO G)}{m:M}{z:Cz}{o:Oper}{a:Act}(h:c->uR G P m z x o a)(J:¬c->uR G P m z y o a):uR G P m z (if c then x else y) o a:=by
 split;·exact h ‹_›
 ·exact J ‹_›
theorem dt{m:M}{z:Cz}{k:IntKind}{x:Int}(h:inR k x):(di k x:AV G).Rel G P m z (.int k x):=⟨ax h,trivial⟩
theorem eH{m:M}{z:Cz}{x:Bool}:(db x:AV G).Rel G P m z (.bool x):=⟨dA,trivial⟩
theorem AV.i_rel{a:AV G}{m:M}{z:Cz}{v:Value}{k:IntKind}{x:Int}(h:a.i?=some (k,x))(J:a.Rel G P m z v):v=.int k x/\inR k x:=by cases a with
 |li k' n=>simp only[AV.i?,Option.some.injEq,Prod.mk.injEq]at h;obtain⟨rfl,rfl⟩:=h;exact J|dat t y o=>cases t<;>simp only[AV.i?,reduceCtorEq]at h;obtain⟨rfl,rfl⟩:=Prod.mk.inj (Option.some.inj h);exact aF J.1|_=>simp[AV.i?]at h
theorem AV.b_rel{a:AV G}{m:M}{z:Cz}{v:Value}{x:Bool}(h:a.b?=some x)(J:a.Rel G P m z v):v=.bool x:=by cases a with
 |dat t y o=>cases t<;>simp only[AV.b?,reduceCtorEq]at h;obtain rfl:=Option.some.inj h;exact fg J.1|_=>simp[AV.b?]at h
theorem AV.s_rel{a:AV G}{m:M}{z:Cz}{v:Value}{x:List Int}(h:a.s?=some x)(J:a.Rel G P m z v):v=.string (bts x)/\(∀n∈x,0<=n/\n<256)/\x.length<=cz:=by cases a with
 |dat t y o=>cases t<;>simp only[AV.s?,reduceCtorEq]at h;obtain rfl:=Option.some.inj h;exact EX J.1|_=>simp[AV.s?]at h
theorem AV.as_rel{Γ:Tab P G}{a:AV G}{m:M}{z:Cz}{v:Value}{t:Ty}{x:t.den G}(h:a.as Γ t=some x)(J:a.Rel G P m z v):RV (t.kd G) m v x:=by cases a with
 |li k n=>obtain⟨e,h⟩:=bW h;subst e;subst h;obtain⟨rfl,h2⟩:=J;exact ax h2|dat t' y o=>obtain⟨e,h⟩:=bW h;subst e;subst h;exact J.1|nils=>cases t with
  |sl t=>simp only[AV.as]at h;obtain rfl:=Option.some.inj h;have:v=.slice none 0 0:=J;subst this;exact dK|_=>simp[AV.as]at h
 |agc cs=>cases t with
  |st i=>
   simp only[AV.as]at h;split at h
   ·rename_i B _;split at h
    ·rename_i Z;obtain rfl:=Option.some.inj h;have W:v=.agg cs.toArray:=J;have:=Hh Z;refine⟨cs,?_,?_⟩;·rw[←this];exact B.hzR m
     ·subst W;show _=(G.k i).val cs;simp[Kd.val,B.agg]
    ·cases h
   ·cases h|_=>simp[AV.as]at h
 |_=>simp[AV.as]at h
theorem H4{op:BinOp}{k k':IntKind}{p q:Int}{lit:Option Int}{m:M}{z:Cz}{t t':TypeId}{x y:Operand}{dst:Option Tmp}{ty:TypeId}{pos:String}{aft:Array Edge}{g:Option (Nat×Bool)}{δ:List Nat}{n:Nat}{l:List (Nat×Value)}{a:Act}(J:aw δ n a l) (W:evl l x=some (.int k p)) (Z:evl l y=some (.int k' q)) (hp:inR k p) (hq:inR k' q):uR G P m z (H3 op k k' p q lit) ⟨dst,.binOp op t x y t',ty,pos,aft,g⟩ a:=by
 have nn:k'=.u8\/k'=.u32\/k'=.u64->0<=q:=by
  rintro (rfl|rfl|rfl);·exact GQ hq
  ·exact E2 hq
  ·exact E3 hq
 cases op<;>simp only[H3];case add=>exact .ite (λe=>by subst e;exact .pv λw=>⟨_,bg J W Z (cp rfl),dt (aG _ _)⟩) λ_=>.none
 case sub=>exact .ite (λe=>by subst e;exact .pv λw=>⟨_,bg J W Z (kf rfl),dt (aG _ _)⟩) λ_=>.none
 case mul=>exact .ite (λe=>by subst e;exact .pv λw=>⟨_,bg J W Z (MS rfl),dt (aG _ _)⟩) λ_=>.none
 case quo=>
  refine .ite (λe=>?_) λ_=>.none;subst e;split;·exact .ite (λh=>.pv λw=>⟨_,bg J W Z (MT rfl (by rw[←h.1];exact h.2)),dt (aG _ _)⟩) λ_=>.none
  ·exact .pb λb hb w=>⟨_,bg J W Z (MT rfl (bne_iff_ne.1 (rt hb))),dt (aG _ _)⟩
 case rem=>
  refine .ite (λe=>?_) λ_=>.none;subst e;split;·exact .ite (λh=>.pv λw=>⟨_,bg J W Z (MU rfl (by rw[←h.1];exact h.2)),dt (G9 hp)⟩) λ_=>.none
  ·exact .pb λb hb w=>⟨_,bg J W Z (MU rfl (bne_iff_ne.1 (rt hb))),dt (G9 hp)⟩
 case and=>exact .ite (λe=>by subst e;exact .pv λw=>⟨_,bg J W Z (Ud rfl),dt (NC _ _ _)⟩) λ_=>.none
 case or=>exact .ite (λe=>by subst e;exact .pv λw=>⟨_,bg J W Z (WI rfl),dt (Pe _ _ _)⟩) λ_=>.none
 case xor=>exact .ite (λe=>by subst e;exact .pv λw=>⟨_,bg J W Z (Ue rfl),dt (ND _ _ _)⟩) λ_=>.none
 case shl=>
  split;·exact .ite (λh=>.pv λw=>⟨_,bg J W Z (HR rfl (by rw[←h.1];exact h.2)),dt (CK _ _ _)⟩) λ_=>.none
  ·exact .ite (λh=>.pv λw=>⟨_,bg J W Z (HR rfl (nn h)),dt (CK _ _ _)⟩) λ_=>.pb λb hb w=>⟨_,bg J W Z (HR rfl (of_decide_eq_true (rt hb))),dt (CK _ _ _)⟩
 case shr=>
  split;·exact .ite (λh=>.pv λw=>⟨_,bg J W Z (Ew rfl (by rw[←h.1];exact h.2)),dt (CL hp _)⟩) λ_=>.none
  ·exact .ite (λh=>.pv λw=>⟨_,bg J W Z (Ew rfl (nn h)),dt (CL hp _)⟩) λ_=>.pb λb hb w=>⟨_,bg J W Z (Ew rfl (of_decide_eq_true (rt hb))),dt (CL hp _)⟩
 case andNot=>exact .none
 case eql=>exact .ite (λe=>by subst e;exact .pv λw=>⟨_,bg J W Z mR,eH⟩) λ_=>.none
 case neq=>exact .ite (λe=>by subst e;exact .pv λw=>⟨_,bg J W Z mS,eH⟩) λ_=>.none
 case lss=>exact .ite (λe=>by subst e;exact .pv λw=>⟨_,bg J W Z cu,eH⟩) λ_=>.none
 case leq=>exact .ite (λe=>by subst e;exact .pv λw=>⟨_,bg J W Z MV,eH⟩) λ_=>.none
 case gtr=>exact .ite (λe=>by subst e;exact .pv λw=>⟨_,bg J W Z lC,eH⟩) λ_=>.none
 case geq=>exact .ite (λe=>by subst e;exact .pv λw=>⟨_,bg J W Z zM,eH⟩) λ_=>.none
theorem ez{δ:List Nat}{n:Nat}{a:Act}(hd:a.defers=δ.map λD=>{target:=.collected D,args:=#[]})(hs:a.tmps.size=n)(xs:List Operand):∃l,aw δ n a l/\∀x∈xs,evl l x=some (a.eval x):=by
 refine⟨xs.filterMap λx=>match x with|.tmp t=>some (t,a.tmps.getD t undef)|_=>none,⟨hd,hs,λj v J=>?_⟩,λx hx=>?_⟩;·induction xs with
  |nil=>simp[lk]at J|cons x xs ih=>cases x with
   |tmp t=>
    simp only[X5,lk]at J;split at J
    ·rename_i e;have:=Z1 e;subst this;injection J
    ·exact ih J|_=>exact ih (by simpa using J)
 ·cases x with
  |tmp t=>
   show lk _ t=some (a.tmps.getD t undef);induction xs with
   |nil=>cases hx|cons y xs ih=>
    by_cases hy:y=.tmp t;·subst hy;simp[lk]
    ·have Z:Operand.tmp t∈xs:=by
      rcases Z5.1 hx with h|h;·exact absurd h.symm hy
      ·exact h
     cases y with
     |tmp t'=>
      have:t'≠t:=λe=>hy (by rw[e]);have W:Zd t' t=false:=by cases W:Zd t' t with
       |false=>rfl|true=>exact absurd (Z1 W) this
      simp only[X5,lk,W];exact ih Z|_=>simp only[X5];exact ih Z
  |_=>rfl
end
section
variable{G:Sg}{P:Program}
def Pz{O:Type}(xs:List O)(j:Nat):Option O:=xs[j]?
def TI.elem{i:TypeId}:TI P G i->Option TypeId
 |⟨.sl _,_,u,_,_,_,_⟩=>some u.e|_=>none
def Fi (Γ:Tab P G)(op:BinOp)(t:TypeId)(a b:AV G):Option (iO G):=match a.i?,b.i? with
 |some (k,p),some (k',q)=>H3 op k k' p q b.lit?|_,_=>match Γ.ty t with
  |some I=>(match I.T with
   |.bool=>(match a.b?,b.b? with
    |some p,some q=>(match op with|.eql=>pv (db (p==q))|.neq=>pv (db (!(p==q)))|_=>none)|_,_=>none)|.str=>(match a.s?,b.s? with
    |some p,some q=>(match op with|.eql=>pv (db (decide (p=q)))|.neq=>pv (db (!decide (p=q)))|.lss=>pv (db (ltB p q))|_=>none)|_,_=>none)|.st i=>(match b with
    |.nilp=>(match Γ.nl t with
     |some N=>if i=t then (match a.as Γ (.st t)with
      |some p=>(match op with|.eql=>pv (db (N.to p).isNone)|.neq=>pv (db (!(N.to p).isNone))|_=>none)|none=>none)else none|none=>none)|_=>(match Γ.eq t with
    |some E=>if i=t then (match a.as Γ (.st t),b.as Γ (.st t)with
     |some p,some q=>(match op with|.eql=>pv (db (@decide _ (E.dec p q)))|.neq=>pv (db (!(@decide _ (E.dec p q))))|_=>none)|_,_=>none)else none|none=>none))|_=>none)|none=>none
def unA (op:UnOp)(a:AV G):Option (iO G):=match op with
 |.not=>(match a.b? with|some p=>pv (db (!p))|none=>none)|.neg=>(match a.i? with|some (k,p)=>pv (di k (k.wrap (0-p)))|none=>none)|.xor=>(match a.i? with|some (k,p)=>pv (di k (CJ k p))|none=>none)|_=>none
def H5 (Γ:Tab P G)(t t2:TypeId)(a:AV G):Option (iO G):=match Γ.ty t,Γ.ty t2 with
 |some I,some I2=>(match I.T,I2.T with
  |.int _,.int k'=>(match a.i? with|some (_,p)=>pv (di k' (k'.wrap p))|none=>none)|.sl (.int k),.str=>(match I.elem with
   |some e=>(match Γ.ty e with
    |some J=>if k=.u8/\J.T=.int .u8 then (match a.as Γ (.sl (.int k))with|some x=>pv (.dat .str x none)|none=>none)else none|none=>none)|none=>none)|_,_=>none)|_,_=>none
def H6 (Γ:Tab P G)(h:Nat->Option (BC G))(t:TypeId)(a:AV G):Option (iO G):=match Γ.ty t with
 |some I=>(match a with
  |.ptr b v=>if b=I.T then pv (.dat b v none)else none|.blk i=>(match h i with
   |some (.dat c x)=>if c=I.T then pv (.dat c x none)else none|_=>none)|.loc i c b A=>if b=I.T then (match h i with
   |some (.dat c' x)=>(match dR G c' c x with|some x=>pv (.dat b (A.get x) none)|none=>none)|_=>none)else none|.elp i j c b A=>if b=I.T then (match h i with
   |some (.arr c' _ xs)=>(match dR G (.sl c') (.sl c) xs with|some xs=>pb (Pz (O:=c.den G) xs j) λx=>.dat b (A.get x) none|none=>none)|_=>none)else none|_=>none)|none=>none
def Fj (Γ:Tab P G)(J:Nat->Option (BC G))(s f:Nat)(a:AV G):Option (iO G):=match Γ.fl s f with
 |some F=>(match a with
  |.ptr t v=>(match dR G t (.st s) v with|some x=>pv (.ptr F.t (F.A.get x))|none=>none)|.blk i=>(match J i with|some (.dat c _)=>if c=.st s then pv (.loc i (.st s) F.t F.A)else none|_=>none)|.loc i c b A=>if h:b=.st s then pv (.loc i c F.t ((h▸A:Acc G c (.st s)).comp F.A))else none|.elp i j c b A=>if h:b=.st s then pv (.elp i j c F.t ((h▸A:Acc G c (.st s)).comp F.A))else none|_=>none)|none=>none
def Fk (Γ:Tab P G)(h:Nat->Option (BC G))(t:TypeId)(a b:AV G):Option (iO G):=match b.i? with
 |some (_,q)=>(match a with
  |.blk i=>(match Γ.ar t,h i with
   |some R,some (.arr c (some n) xs)=>if c=R.t/\n=R.n then pb (ix xs q) λj=>.elp i j c c (.self G c)else none|_,_=>none)|.own i=>(match Γ.ty t,h i with
   |some I,some (.arr c _ xs)=>if I.T=.sl c then pb (ix xs q) λj=>.elp i j c c (.self G c)else none|_,_=>none)|a=>(match Γ.ty t with
   |some I=>(match I.T with
    |.sl c=>(match a.as Γ (.sl c)with|some xs=>pb (idx (xs:List (c.den G)) q) λx=>.ptr c x|none=>none)|_=>none)|none=>none))|none=>none
def Fl (Γ:Tab P G)(t:TypeId)(a b:AV G):Option (iO G):=match Γ.ty t,a.s?,b.i? with
 |some I,some s,some (_,q)=>(match I.T with|.str=>pb (idx s q) λc=>di .u8 c|_=>none)|_,_,_=>none
def bnd (h:Int):Option (Option (AV G))->Option Int
 |none=>some h|some (some v)=>v.i?.map (·.2)|some none=>none
def Fm (Γ:Tab P G)(t:TypeId)(a:AV G)(lo hi:Option (Option (AV G))):Option (iO G):=match Γ.ty t with
 |some I=>(match I.T with
  |.sl c=>(match a.as Γ (.sl c)with
   |some xs=>(match bnd 0 lo,bnd ((xs:List (c.den G)).length:Int) hi with
    |some l,some h=>pb (sub (xs:List (c.den G)) l h) λy=>.dat (.sl c) y none|_,_=>none)|none=>none)|_=>none)|none=>none
def wd (Γ:Tab P G) (s:Nat) (pl:List (Nat×Nat)):List (Nat×Option (AV G))->G.O s->Option (G.O s)
 |[],x=>some x|(f,some a)::r,x=>match Γ.fl s f with
  |some F=>(match a.as Γ F.t with
   |some y=>(match pl[f]?with
    |some q=>if q.1=F.A.off/\q.2=(F.t.kd G).sz then wd Γ s pl r (F.A.set x y)else none|none=>none)|none=>none)|none=>none
 |_,_=>none
def Fo (Γ:Tab P G)(t:TypeId)(ps:List (Nat×Option (AV G))):Option (iO G):=match Γ.bu t with
 |some B=>(match wd Γ t B.pl ps B.z with|some x=>pv (.dat (.st t) x none)|none=>none)|none=>none
def Lm (Γ:Tab P G)(h:Nat->Option (BC G))(t:TypeId)(a:AV G):Option (iO G):=match Γ.ty t with
 |some I=>(match I.T with
  |.str=>(match a.s? with|some s=>pv (di .i64 (s.length:Int))|none=>none)|.sl c=>(match a with
   |.nils=>pv (.li .i64 0)|.own i=>(match h i with|some (.arr c' _ xs)=>if c'=c then pv (di .i64 (xs.length:Int))else none|_=>none)|a=>(match a.as Γ (.sl c)with|some xs=>pv (di .i64 ((xs:List (c.den G)).length:Int))|none=>none))|_=>none)|none=>none
def mmA (mx:Bool)(a b:AV G):Option (iO G):=match a.i?,b.i? with
 |some (k,p),some (k',q)=>if k=k' then pv (di k (match mx with|true=>(if p<q then q else p)|false=>(if q<p then q else p)))else none|_,_=>none
def oav (ρ:Operand->Option (EV G)):Option Operand->Option (Option (AV G))
 |none=>none|some x=>some (av? (ρ x))
def BG (Γ:Tab P G) (ρ:Operand->Option (EV G)) (h:Nat->Option (BC G)):Op->Option (iO G)
 |.move x=>(match ρ x with|some e=>pe e|none=>none)|.assign x=>(match ρ x with|some e=>pe e|none=>none)|.pick c x y=>(match av? (ρ c)with
  |some a=>(match a.b? with
   |some b=>(match b with
    |true=>(match ρ x with|some e=>pe e|none=>none)|false=>(match ρ y with|some e=>pe e|none=>none))|none=>none)|none=>none)|.nilCheck x=>(match av? (ρ x)with
  |some (.ptr t v)=>pv (.ptr t v)|some (.loc i a b A)=>pv (.loc i a b A)|some (.elp i j a b A)=>pv (.elp i j a b A)|some (.blk i)=>pv (.blk i)|some (.dat (.st i) x _)=>(match Γ.nl i with
   |some N=>pb (N.to x) λq=>.ptr (.st N.q) q|none=>none)|_=>none)|.binOp op t x y _=>(match av? (ρ x),av? (ρ y)with|some a,some b=>Fi Γ op t a b|_,_=>none)|.unOp op _ x=>(match av? (ρ x)with|some a=>unA op a|none=>none)|.convert t t2 x=>(match av? (ρ x)with|some a=>H5 Γ t t2 a|none=>none)|.extract x i=>(match ρ x with|some (.tup vs)=>(match vs[i]?with|some v=>pv v|none=>none)|_=>none)|.load t x=>(match av? (ρ x)with|some a=>H6 Γ h t a|none=>none)|.fieldAddr s x f=>(match av? (ρ x)with|some a=>Fj Γ h s f a|none=>none)|.indexAddr t x y=>(match av? (ρ x),av? (ρ y)with|some a,some b=>Fk Γ h t a b|_,_=>none)|.index t x y=>(match av? (ρ x),av? (ρ y)with|some a,some b=>Fl Γ t a b|_,_=>none)|.slice t x lo hi none=>(match av? (ρ x)with|some a=>Fm Γ t a (oav ρ lo) (oav ρ hi)|none=>none)|.build t ps=>Fo Γ t (ps.toList.map λp=>(p.1,av? (ρ p.2)))|.call ⟨.builtin .len,⟨[x]⟩,⟨[t]⟩⟩=>(match av? (ρ x)with|some a=>Lm Γ h t a|none=>none)|.call ⟨.builtin .max,⟨[x,y]⟩,_⟩=>(match av? (ρ x),av? (ρ y)with|some a,some b=>mmA true a b|_,_=>none)|.call ⟨.builtin .min,⟨[x,y]⟩,_⟩=>(match av? (ρ x),av? (ρ y)with|some a,some b=>mmA false a b|_,_=>none)|_=>none
def ic (G:Sg)(P:Program)(m:M)(z:Cz)(r:Option (iO G))(o:Oper)(a:Act)(w:World):Prop:=∀R b,r=some R->R.mv=some b->a8 P o a w (λv w'=>w=w'/\(R.k b).Rel G P m z v)
section
variable{m:M}{z:Cz}{o:Oper}{a:Act}{w:World}
theorem uR.s{r:Option (iO G)}(h:uR G P m z r o a):ic G P m z r o a w:=λR b W Z=>by obtain⟨v,J,h2⟩:=h R b W Z w;exact J.step ⟨rfl,h2⟩
theorem ic.none:ic G P m z none o a w:=λR b h=>by cases h
theorem ic.pv{v:AV G}(h:a8 P o a w (λu w'=>w=w'/\v.Rel G P m z u)):ic G P m z (pv v) o a w:=λR b J _=>by injection J with J;subst J;exact h
theorem ic.run{v:AV G}{u:Value}(h:ay P o a w u w)(J:v.Rel G P m z u):ic G P m z (Hay.pv v) o a w:=.pv (h.step ⟨rfl,J⟩)
theorem ic.pb{β:Type}{W:Option β}{k:β->AV G}(h:∀b,W=some b->a8 P o a w (λu w'=>w=w'/\(k b).Rel G P m z u)):ic G P m z (pb W k) o a w:=λR b J Z=>by injection J with J;subst J;exact h b Z
theorem ic.pe{e:EV G}(h:a8 P o a w (λu w'=>w=w'/\e.Rel G P m z u)):ic G P m z (pe e) o a w:=λR b J _=>by injection J with J;subst J;exact h
end
section
variable{δ:List Nat}{n:Nat}{l:List (Nat×Value)}{a:Act}{m:M}{z:Cz}{w:World}{t t2 ty:TypeId}{x y:Operand}{d:Nat}{pos:String}{aft:Array Edge}{g:Option (Nat×Bool)}{u v:Value}{p q:AV G}{Γ:Tab P G}
theorem TI.int{i:TypeId}{I:TI P G i}{k:IntKind}(h:I.T=.int k):P.underlying i=some (.int k):=by have:=I.u;rw[h]at this;exact this.down
theorem TI.bool{i:TypeId}{I:TI P G i}(h:I.T=.bool):P.underlying i=some .bool:=by have:=I.u;rw[h]at this;exact this.down
theorem TI.str{i:TypeId}{I:TI P G i}(h:I.T=.str):P.underlying i=some .string:=by have:=I.u;rw[h]at this;exact this.down
def TI.sl{i:TypeId}(I:TI P G i){c:Ty}(h:I.T=.sl c):SlI P G i c:=by have:=I.u;rw[h]at this;exact this
theorem NU{i e:TypeId}{I:TI P G i}{c:Ty}(h:I.T=.sl c)(J:I.elem=some e):(I.sl h).e=e:=by obtain⟨T,a1,u,a3,Z,W,a6⟩:=I;simp only at h;subst h;simp only[TI.elem,Option.some.injEq]at J;exact J
theorem NV{op:BinOp}(h:aw δ n a l)(J:evl l x=some u)(W:evl l y=some v)(hp:p.Rel G P m z u)(hq:q.Rel G P m z v):ic G P m z (Fi Γ op t p q) ⟨some d,.binOp op t x y t2,ty,pos,aft,g⟩ a w:=by
 unfold Fi;split
 ·rename_i k p' k' q' Z h2;obtain⟨rfl,h3⟩:=AV.i_rel Z hp;obtain⟨rfl,h4⟩:=AV.i_rel h2 hq;exact(H4 h J W h3 h4).s
 ·split
  ·rename_i I _;split
   ·rename_i hT;split
    ·rename_i b c Z h2;have e1:=AV.b_rel Z hp;have e2:=AV.b_rel h2 hq;subst e1;subst e2;split;·exact .run (Pf h J W (TI.bool hT)) eH
     ·exact .run (Pg h J W (TI.bool hT)) eH
     ·exact .none
    ·exact .none
   ·rename_i hT;split
    ·rename_i b c Z h2;obtain⟨rfl,h3,_⟩:=AV.s_rel Z hp;obtain⟨rfl,h4,_⟩:=AV.s_rel h2 hq;split;·exact .run (Pi h J W h3 h4) eH
     ·exact .run (Pj h J W h3 h4) eH
     ·exact .run (Pk h J W h3 h4) eH
     ·exact .none
    ·exact .none
   ·split
    ·have hv:v=.pointer none:=hq;subst hv;split
     ·rename_i N _;split
      ·split
       ·rename_i c Z;have e1:=N.hk _ _ _ (AV.as_rel Z hp);split;·exact .run (Pu h J W N.hu e1) eH
        ·exact .run (Pv h J W N.hu e1) eH
        ·exact .none
       ·exact .none
      ·exact .none
     ·exact .none
    split
    ·rename_i E _;split
     ·split
      ·rename_i b c Z h2;have e1:=AV.as_rel Z hp;have e2:=AV.as_rel h2 hq;letI:=E.dec;split;·exact .run (yz h E.ok J W e1 e2 E.agg) eH
       ·exact .run (E1 h E.ok J W e1 e2 E.agg) eH
       ·exact .none
      ·exact .none
     ·exact .none
    ·exact .none
   ·exact .none
  ·exact .none
theorem PA{op:UnOp}(W:aw δ n a l)(Z:evl l x=some u)(J:p.Rel G P m z u):ic G P m z (unA op p) ⟨some d,.unOp op t x,ty,pos,aft,g⟩ a w:=by
 unfold unA;split
 ·split
  ·rename_i h;have e1:=AV.b_rel h J;subst e1;exact .run (lD W Z) eH
  ·exact .none
 ·split
  ·rename_i h;obtain⟨rfl,h3⟩:=AV.i_rel h J;exact .run (Uf W Z rfl) (dt (aG _ _))
  ·exact .none
 ·split
  ·rename_i h;obtain⟨rfl,h3⟩:=AV.i_rel h J;exact .run (Ug W Z rfl) (dt (NE _ _))
  ·exact .none
 ·exact .none
theorem Ln{W0:Bse}{L:List (Nat×List Value)}{TL:List (Nat×Value)}(hE:aw δ n a l)(hS:S W0 m w L TL)(hx:evl l x=some u)(hp:p.Rel G P m z u):ic G P m z (H5 Γ t t2 p) ⟨some d,.convert t t2 x,ty,pos,aft,g⟩ a w:=by
 unfold H5;split
 ·rename_i I I2 h1 h2;split
  ·rename_i h a0;split
   ·rename_i Z;obtain⟨rfl,_⟩:=AV.i_rel Z hp;exact .run (fC hE hx (TI.int h) (TI.int a0) rfl) (dt (aG _ _))
   ·exact .none
  ·rename_i k h a0;split
   ·rename_i e he;split
    ·rename_i J _;split
     ·rename_i hk;obtain⟨rfl,hJ⟩:=hk;split
      ·rename_i xs Z;have W:=AV.as_rel Z hp;exact .run (NH hE hS hx (I.sl h).hu ((NU h he).symm▸TI.int hJ) (TI.str a0) W) ⟨Dx (K5 W) (jg W),trivial⟩
      ·exact .none
     ·exact .none
    ·exact .none
   ·exact .none
  ·exact .none
 ·exact .none
end
end
section
variable{G:Sg}{P:Program}{δ:List Nat}{n:Nat}{l:List (Nat×Value)}{a:Act}{m:M}{z:Cz}{w:World}{t t2 ty:TypeId}{x y:Operand}{d:Nat}{pos:String}{aft:Array Edge}{g:Option (Nat×Bool)}{u v:Value}{p q:AV G}{Γ:Tab P G}{W0:Bse}{L0:Rs}{T0:List (Nat×Value)}{Ls:List (Nat×BC G)}{Ts:List Nat}
def fm (Ls:List (Nat×BC G))(i:Nat):Option (BC G):=(fb Ls i).map (·.2)
theorem iP{i:Nat}{B:BC G}(h:fm Ls i=some B):∃s,fb Ls i=some (s,B):=by unfold fm at h;cases hf:fb Ls i with
 |none=>simp[hf]at h|some e=>simp[hf]at h;exact⟨e.1,by rw[←h]⟩
theorem gB.get (W:gB G W0 L0 T0 Ls Ts m z w){i:Nat}{B:BC G}(h:fm Ls i=some B):∃(L:List (Nat×List Value)) (TL:List (Nat×Value)) (p:Nat×Value) (cs:List Value) (j:Nat),S W0 m w L TL/\fb z.b i=some p/\L[j]?=some (p.1,cs)/\B.Rel G m p cs:=by obtain⟨Lc,Tc,h1,h2,Z,_⟩:=W;obtain⟨s,hs⟩:=iP h;obtain⟨p,cs,j,g1,J,g3,_⟩:=h1.get hs;refine⟨_,_,p,cs,j,Z,g1,?_,g3⟩;have:j<Lc.length:=(j6.1 J).1;rw[Z2 this];exact J
theorem gB.any (J:gB G W0 L0 T0 Ls Ts m z w):∃L TL,S W0 m w L TL:=let⟨_,_,_,_,h,_⟩:=J;⟨_,_,h⟩
theorem Fp{c b:Ty}(A:Acc G c b){cs:List Value}{o:Nat}{xx:c.den G}(h:(c.kd G).R m ((cs.drop o).take (c.kd G).sz) xx):(b.kd G).R m ((cs.drop (o+A.off)).take (b.kd G).sz) (A.get xx):=A.fld.R_drop h
theorem Lo (hE:aw δ n a l)(hM:gB G W0 L0 T0 Ls Ts m z w)(hx:evl l x=some u)(hp:p.Rel G P m z u):ic G P m z (H6 Γ (fm Ls) t p) ⟨some d,.load t x,ty,pos,aft,g⟩ a w:=by
 unfold H6;split
 ·rename_i I _;split
  ·rename_i b xx;split
   ·rename_i Z;subst Z;obtain⟨L,TL,hS⟩:=hM.any;exact .pv ((aC hE hS I.ok hx hp).imp λ_ _ h=>⟨h.1,h.2,trivial⟩)
   ·exact .none
  ·rename_i i;split
   ·rename_i c' x0 hB;split
    ·rename_i Z;subst Z;obtain⟨L,TL,p',cs,j,hS,g1,g2,g3⟩:=hM.get hB;obtain⟨a0,J,rfl⟩:=hp;rw[g1]at J;injection J with J;subst J;exact .pv ((aM hE hS I.ok hx g2 (aL g3)).imp λ_ _ h=>⟨h.1,h.2,trivial⟩)
    ·exact .none
   ·exact .none
  ·rename_i i c b A;split
   ·rename_i Z;subst Z;split
    ·rename_i c' x0 hB;split
     ·rename_i x1 W;obtain⟨e,W⟩:=bW W;subst e;subst W;obtain⟨L,TL,p',cs,j,hS,g1,g2,g3⟩:=hM.get hB;obtain⟨a0,J,rfl⟩:=hp;rw[g1]at J;injection J with J;subst J;have:=Fp A (o:=0) (aL g3);rw[Ya]at this;exact .pv ((aM hE hS I.ok hx g2 this).imp λ_ _ h=>⟨h.1,h.2,trivial⟩)
     ·exact .none
    ·exact .none
   ·exact .none
  ·rename_i i j c b A;split
   ·rename_i Z;subst Z;split
    ·rename_i c' nn xs hB;split
     ·rename_i ys W;obtain⟨e,W⟩:=bW W;injection e with e;subst e;subst W;refine .pb λxx a1=>?_;obtain⟨L,TL,p',cs,j',hS,g1,g2,g3⟩:=hM.get hB;obtain⟨a0,J,rfl⟩:=hp;rw[g1]at J;injection J with J;subst J;exact(aM hE hS I.ok hx g2 (Fp A (GS.elem g3.1 a1))).imp λ_ _ h=>⟨h.1,h.2,trivial⟩
     ·exact .none
    ·exact .none
   ·exact .none
  ·exact .none
 ·exact .none
theorem Jo{s f:Nat}(Z:aw δ n a l)(hx:evl l x=some u)(W:p.Rel G P m z u):ic G P m z (Fj Γ (fm Ls) s f p) ⟨some d,.fieldAddr s x f,ty,pos,aft,g⟩ a w:=by
 unfold Fj;split
 ·rename_i F _;split
  ·rename_i t0 v0;split
   ·rename_i x1 hc;obtain⟨e,hc⟩:=bW hc;subst e;subst hc;exact .pv (bX Z F.ok F.A.fld hx W)
   ·exact .none
  ·rename_i i;split
   ·split
    ·obtain⟨J,h,rfl⟩:=W;exact .run (aK Z F.ok hx) ⟨J,h,by rw[Ya]⟩
    ·exact .none
   ·exact .none
  ·rename_i i c b A;split
   ·rename_i hb;subst hb;obtain⟨J,h,rfl⟩:=W;exact .run (aK Z F.ok hx) ⟨J,h,rfl⟩
   ·exact .none
  ·rename_i i j c b A;split
   ·rename_i hb;subst hb;obtain⟨J,h,rfl⟩:=W;exact .run (aK Z F.ok hx) ⟨J,h,by show _=_;simp only[Acc.comp,Nat.add_assoc]⟩
   ·exact .none
  ·exact .none
 ·exact .none
theorem Jp (hE:aw δ n a l)(hM:gB G W0 L0 T0 Ls Ts m z w)(hx:evl l x=some u)(hy:evl l y=some v)(Z:p.Rel G P m z u)(hq:q.Rel G P m z v):ic G P m z (Fk Γ (fm Ls) t p q) ⟨some d,.indexAddr t x y,ty,pos,aft,g⟩ a w:=by
 unfold Fk;split
 ·rename_i k q' hi;obtain⟨rfl,_⟩:=AV.i_rel hi hq;split
  ·rename_i i;split
   ·rename_i R c nn xs _ hB;split
    ·rename_i W;obtain⟨rfl,rfl⟩:=W;refine .pb λj hj=>?_;obtain⟨L,TL,p',cs,j',hS,J,g2,g3⟩:=hM.get hB;obtain⟨a0,h,rfl⟩:=Z;rw[J]at h;injection h with h;subst h;exact(E5 (k:=R.t.kd G) hE hx hy R.hu R.hs g3.2 hj rfl).step ⟨rfl,p',J,rfl⟩
    ·exact .none
   ·exact .none
  ·rename_i i;split
   ·rename_i I c nn xs _ hB;split
    ·rename_i W;refine .pb λj hj=>?_;obtain⟨L,TL,p',cs,j',hS,J,g2,g3⟩:=hM.get hB;obtain⟨a0,h,rfl⟩:=Z;rw[J]at h;injection h with h;subst h;exact(lF hE hx hy (I.sl W).hu (I.sl W).hs g3.1 hj rfl).step ⟨rfl,p',J,rfl⟩
    ·exact .none
   ·exact .none
  ·split
   ·rename_i I _;split
    ·rename_i c hT;split
     ·rename_i xs h3;have hv:=AV.as_rel h3 Z;exact .pb λxx a1=>be (k:=c.kd G) hE hx hy (I.sl hT).hu (I.sl hT).hs hv a1
     ·exact .none
    ·exact .none
   ·exact .none
 ·exact .none
theorem Jq (hE:aw δ n a l)(hx:evl l x=some u)(hy:evl l y=some v)(W:p.Rel G P m z u)(hq:q.Rel G P m z v):ic G P m z (Fl Γ t p q) ⟨some d,.index t x y,ty,pos,aft,g⟩ a w:=by
 unfold Fl;split
 ·rename_i I s k q' _ h1 Z;obtain⟨rfl,_⟩:=AV.i_rel Z hq;obtain⟨rfl,h,_⟩:=AV.s_rel h1 W;split
  ·rename_i hT;exact .pb λc J=>(K8 hE hx hy (TI.str hT) h J).step ⟨rfl,dt (K9 h J)⟩
  ·exact .none
 ·exact .none
def OkO (G:Sg)(P:Program)(l:List (Nat×Value))(m:M)(z:Cz):Option Operand->Option (Option (AV G))->Prop
 |none,none=>True|some o,some av=>∀b,av=some b->∃v,evl l o=some v/\b.Rel G P m z v|_,_=>False
theorem Fq{o:Option Operand}{lv:Option (Option (AV G))}{W e:Int}:OkO G P l m z o lv->bnd W lv=some e->match o with|some o=>∃kk,evl l o=some (.int kk e)|none=>e=W:=by intro h J;cases o with
 |none=>cases lv with
  |none=>injection J with J;exact J.symm|some _=>exact h.elim
 |some o=>cases lv with
  |none=>exact h.elim|some av=>cases av with
   |none=>cases J|some b=>obtain⟨v,g1,Z⟩:=h b rfl;cases hb:b.i? with
    |none=>simp[bnd,hb]at J|some r=>simp[bnd,hb]at J;obtain⟨rfl,_⟩:=AV.i_rel (k:=r.1) (x:=r.2) hb Z;exact⟨r.1,by rw[g1,J]⟩
theorem Jr{lo hi:Option Operand}{lv J:Option (Option (AV G))}(hE:aw δ n a l)(hx:evl l x=some u)(hp:p.Rel G P m z u)(a0:OkO G P l m z lo lv)(a2:OkO G P l m z hi J):ic G P m z (Fm Γ t p lv J) ⟨some d,.slice t x lo hi none,ty,pos,aft,g⟩ a w:=by
 unfold Fm;split
 ·rename_i I _;split
  ·rename_i c W;split
   ·rename_i xs h3;have Z:=AV.as_rel h3 hp;split
    ·rename_i lo' hi' e1 e2;refine .pb λys a1=>?_;have k1:=Fq a0 e1;have k2:=Fq a2 e2;exact(dy (k:=c.kd G) hE hx (I.sl W).hu (I.sl W).hs Z k1 k2 a1).imp λ_ _ h=>⟨h.1,h.2,trivial⟩
    ·exact .none
   ·exact .none
  ·exact .none
 ·exact .none
theorem DF{s:Nat}{B:BI P G s}{l:List (Nat×Value)}:∀{ps:List (Nat×Operand)}{x0 xx:G.O s}{σ:Operand->Option (AV G)},(∀p∈ps,∀b,σ p.2=some b->∃v,evl l p.2=some v/\b.Rel G P m z v)->wd Γ s B.pl (ps.map λp=>(p.1,σ p.2)) x0=some xx->∃pv,ps.mapM (λp=>(evl l p.2).map λv=>(p.1,v))=some pv/\wX (B.pl.toArray[·]?) (G.k s) m pv x0 xx
 |[],x0,xx,σ,_,h=>by simp only[Y5,wd,Option.some.injEq]at h;subst h;exact⟨[],rfl,.nil⟩|(f,o)::ps,x0,xx,σ,hr,h=>by simp only[Ze]at h;cases hs:σ o with
  |none=>simp[hs,wd]at h|some b=>
   rw[hs]at h;unfold wd at h;split at h
   ·rename_i F _;split at h
    ·rename_i y hy;split at h
     ·rename_i q hq;split at h
      ·rename_i J;obtain⟨v,g1,W⟩:=hr (f,o) (by simp) b hs;obtain⟨pv,k1,k2⟩:=DF (λp Z=>hr p (by simp[Z])) h;refine⟨(f,v)::pv,by simp[g1,k1],?_⟩;refine .cons (off:=F.A.off) ?_ F.A.stf (AV.as_rel hy W) k2;show B.pl.toArray[f]?=_;rw[List.getElem?_toArray,hq,←J.1,←J.2]
      ·cases h
     ·cases h
    ·cases h
   ·cases h
theorem Js{ps:Array (Nat×Operand)}{σ:Operand->Option (AV G)}(W:aw δ n a l)(J:∀p∈ps.toList,∀b,σ p.2=some b->∃v,evl l p.2=some v/\b.Rel G P m z v):ic G P m z (Fo Γ t (ps.toList.map λp=>(p.1,σ p.2))) ⟨some d,.build t ps,ty,pos,aft,g⟩ a w:=by
 unfold Fo;split
 ·rename_i B _;split
  ·rename_i xx Z;obtain⟨a0,k1,k2⟩:=DF J Z;exact .pv ((rq W k1 B.hu B.hpl B.hz B.hzR B.agg k2).imp λ_ _ h=>⟨h.1,h.2,trivial⟩)
  ·exact .none
 ·exact .none
theorem NW (W:aw δ n a l)(hM:gB G W0 L0 T0 Ls Ts m z w)(hx:evl l x=some u)(J:p.Rel G P m z u):ic G P m z (Lm Γ (fm Ls) t p) ⟨some d,.call ⟨.builtin .len,#[x],#[t]⟩,ty,pos,aft,g⟩ a w:=by
 unfold Lm;split
 ·rename_i I _;split
  ·rename_i h;split
   ·rename_i s hs;obtain⟨rfl,h1,h2⟩:=AV.s_rel hs J;exact .run (K4 W hx rfl (TI.str h)) (dt (eD h2))
   ·exact .none
  ·rename_i c h;split
   ·have hv:u=.slice none 0 0:=J;subst hv;exact .run (bq (k:=c.kd G) (m:=m) (xs:=[]) W hx rfl (I.sl h).hu dK) ⟨rfl,az (by decide)⟩
   ·rename_i i;split
    ·rename_i c' nn xs hB;split
     ·rename_i hc;subst hc;obtain⟨L,TL,p',cs,j',hS,g1,g2,g3⟩:=hM.get hB;obtain⟨a0,Z,rfl⟩:=J;rw[g1]at Z;injection Z with Z;subst Z;exact .run (tS W hx rfl (I.sl h).hu g3.1) (dt (eD (GS.len g3.1)))
     ·exact .none
    ·exact .none
   ·split
    ·rename_i xs h3;have hV:=AV.as_rel h3 J;exact .run (bq (k:=c.kd G) W hx rfl (I.sl h).hu hV) (dt (eD (jg hV)))
    ·exact .none
  ·exact .none
 ·exact .none
theorem Jt{mx:Bool}{ts:Array TypeId}(J:aw δ n a l)(W:evl l x=some u)(Z:evl l y=some v)(hp:p.Rel G P m z u)(hq:q.Rel G P m z v):ic G P m z (mmA mx p q) ⟨some d,.call ⟨.builtin (match mx with|true=>.max|false=>.min),#[x,y],ts⟩,ty,pos,aft,g⟩ a w:=by
 unfold mmA;split
 ·rename_i k p' k' q' h1 h2;obtain⟨rfl,h⟩:=AV.i_rel h1 hp;obtain⟨rfl,h4⟩:=AV.i_rel h2 hq;split
  ·rename_i e;subst e;cases mx with
   |true=>exact .run (ET J W Z) (dt (CM h h4))|false=>exact .run (Bz J W Z) (dt (Hb h h4))
  ·exact .none
 ·exact .none
end
section
variable{G:Sg}{P:Program}{δ:List Nat}{n:Nat}{a:Act}{m:M}{z:Cz}{w:World}{ty:TypeId}{d:Nat}{pos:String}{aft:Array Edge}{g:Option (Nat×Bool)}{Γ:Tab P G}{W0:Bse}{L0:Rs}{T0:List (Nat×Value)}{Ls:List (Nat×BC G)}{Ts:List Nat}{ρ:Operand->Option (EV G)}
theorem bp (J:∀x e,ρ x=some e->e.Rel G P m z (a.eval x)){x:Operand}{b:AV G}(h:av? (ρ x)=some b):b.Rel G P m z (a.eval x):=by cases hx:ρ x with
 |none=>simp[hx,av?]at h|some e=>cases e with
  |one v=>simp only[hx,av?,Option.some.injEq]at h;subst h;exact J x _ hx|tup vs=>simp[hx,av?]at h
theorem Lu{W:List (AV G)}{vs:List Value}(h:ry G P m z W vs){i:Nat}{b:AV G}(J:W[i]?=some b):∃v,vs[i]?=some v/\b.Rel G P m z v:=by induction W generalizing vs i with
 |nil=>simp at J|cons x W ih=>cases vs with
  |nil=>exact h.elim|cons v vs=>cases i with
   |zero=>simp at J;subst J;exact⟨v,rfl,h.1⟩|succ i=>simp at J;obtain⟨v',Z,g2⟩:=ih h.2 J;exact⟨v',by simpa using Z,g2⟩
theorem Hi{o:Op}(Z:a.defers=δ.map λD=>{target:=.collected D,args:=#[]})(hs:a.tmps.size=n)(hM:gB G W0 L0 T0 Ls Ts m z w)(W:∀x e,ρ x=some e->e.Rel G P m z (a.eval x)):ic G P m z (BG Γ ρ (fm Ls) o) ⟨some d,o,ty,pos,aft,g⟩ a w:=by
 unfold BG;split
 ·rename_i x;obtain⟨l,h,hl⟩:=ez Z hs [x];split;·rename_i e he;exact .pe ((jd h (hl x (by simp))).step ⟨rfl,W _ _ he⟩)
  ·exact .none
 ·rename_i x;obtain⟨l,h,hl⟩:=ez Z hs [x];split;·rename_i e he;exact .pe ((pV h (hl x (by simp))).step ⟨rfl,W _ _ he⟩)
  ·exact .none
 ·rename_i c x y;obtain⟨l,h,hl⟩:=ez Z hs [c,x,y];split
  ·rename_i ca hc;split
   ·rename_i b hb;have hv:=AV.b_rel hb (bp W hc);have a0:=hl c (by simp);rw[hv]at a0;split
    ·split;·rename_i e he;exact .pe ((zK h a0 rfl (hl x (by simp))).step ⟨rfl,W _ _ he⟩)
     ·exact .none
    ·split;·rename_i e he;exact .pe ((zL h a0 rfl (hl y (by simp))).step ⟨rfl,W _ _ he⟩)
     ·exact .none
   ·exact .none
  ·exact .none
 ·rename_i x;obtain⟨l,h,hl⟩:=ez Z hs [x];have hx:=hl x (by simp);split
  ·rename_i t v J;have hr:=bp W J;obtain⟨b,o,hv,hR⟩:=hr;rw[hv]at hx;exact .run (ct h hx) ⟨b,o,rfl,hR⟩
  ·rename_i J;obtain⟨p,hp,hv⟩:=bp W J;rw[hv]at hx;exact .run (ct h hx) ⟨p,hp,rfl⟩
  ·rename_i J;obtain⟨p,hp,hv⟩:=bp W J;rw[hv]at hx;exact .run (ct h hx) ⟨p,hp,rfl⟩
  ·rename_i J;obtain⟨p,hp,hv⟩:=bp W J;rw[hv]at hx;exact .run (ct h hx) ⟨p,hp,rfl⟩
  ·rename_i J;obtain⟨hr,_⟩:=bp W J;split
   ·rename_i N _;have e1:=N.hk _ _ _ hr;exact .pb λq hq=>(ld h hx e1 hq).step ⟨rfl,mU e1 hq⟩
   ·exact .none
  ·exact .none
 ·rename_i x y _;obtain⟨l,h,hl⟩:=ez Z hs [x,y];split
  ·rename_i J h2;exact NV h (hl x (by simp)) (hl y (by simp)) (bp W J) (bp W h2)
  ·exact .none
 ·rename_i x;obtain⟨l,h,hl⟩:=ez Z hs [x];split;·rename_i J;exact PA h (hl x (by simp)) (bp W J)
  ·exact .none
 ·rename_i x;obtain⟨l,h,hl⟩:=ez Z hs [x];split
  ·rename_i J;obtain⟨L,TL,hS⟩:=hM.any;exact Ln h hS (hl x (by simp)) (bp W J)
  ·exact .none
 ·rename_i x i;obtain⟨l,h,hl⟩:=ez Z hs [x];have hx:=hl x (by simp);split
  ·rename_i vs J;split
   ·rename_i v hv;obtain⟨us,hu,hR⟩:=W _ _ J;obtain⟨u,g1,g2⟩:=Lu hR hv;rw[hu]at hx;exact .run (bQ h hx (by simpa using g1)) g2
   ·exact .none
  ·exact .none
 ·rename_i x;obtain⟨l,h,hl⟩:=ez Z hs [x];split;·rename_i J;exact Lo h hM (hl x (by simp)) (bp W J)
  ·exact .none
 ·rename_i x _;obtain⟨l,h,hl⟩:=ez Z hs [x];split;·rename_i J;exact Jo h (hl x (by simp)) (bp W J)
  ·exact .none
 ·rename_i x y;obtain⟨l,h,hl⟩:=ez Z hs [x,y];split;·rename_i J h2;exact Jp h hM (hl x (by simp)) (hl y (by simp)) (bp W J) (bp W h2)
  ·exact .none
 ·rename_i x y;obtain⟨l,h,hl⟩:=ez Z hs [x,y];split;·rename_i J h2;exact Jq h (hl x (by simp)) (hl y (by simp)) (bp W J) (bp W h2)
  ·exact .none
 ·rename_i x lo hi;obtain⟨l,h,hl⟩:=ez Z hs (x::(lo.toList++hi.toList));split
  ·rename_i J;refine Jr h (hl x (by simp)) (bp W J) ?_ ?_;·cases lo with
    |none=>trivial|some o=>exactλb hb=>⟨_,hl o (by simp),bp W hb⟩
   ·cases hi with
    |none=>trivial|some o=>exactλb hb=>⟨_,hl o (by simp),bp W hb⟩
  ·exact .none
 ·rename_i t ps;obtain⟨l,h,hl⟩:=ez Z hs (ps.toList.map (·.2));exact Js (σ:=λx=>av? (ρ x)) h λp hp b hb=>⟨_,hl p.2 (Zt hp),bp W hb⟩
 ·rename_i x t;obtain⟨l,h,hl⟩:=ez Z hs [x];split;·rename_i J;exact NW h hM (hl x (by simp)) (bp W J)
  ·exact .none
 ·rename_i x y _;obtain⟨l,h,hl⟩:=ez Z hs [x,y];split;·rename_i J h2;exact Jt (mx:=true) h (hl x (by simp)) (hl y (by simp)) (bp W J) (bp W h2)
  ·exact .none
 ·rename_i x y _;obtain⟨l,h,hl⟩:=ez Z hs [x,y];split;·rename_i J h2;exact Jt (mx:=false) h (hl x (by simp)) (hl y (by simp)) (bp W J) (bp W h2)
  ·exact .none
 ·exact .none
end
section
variable{W0:Bse}{m:M}{w:World}{L:List (Nat×List Value)}{TL:List (Nat×Value)}
theorem S.takeL (h:S W0 m w L TL){i:Nat}{e:Nat×List Value}(hi:L[i]?=some e):S W0 m w (e::L.set i (e.1,[])) TL:=by
 have key:∀(j:Nat) (x:Nat×List Value),(e::L.set i (e.1,[]))[j]?=some x->x.2≠[]->∃k,L[k]?=some x/\(j=0/\k=i\/j=k+1/\k≠i):=by intro j x J W;cases j with
  |zero=>simp at J;subst J;exact⟨i,hi,.inl ⟨rfl,rfl⟩⟩|succ j=>
   simp only[Y2,Y3]at J;split at J
   ·split at J;·injection J with J;subst J;exact absurd rfl W
    ·cases J
   ·rename_i a1;exact⟨j,J,.inr ⟨rfl,λe=>a1 e.symm⟩⟩
 refine⟨h.below,h.imm,λj x J W=>?_,λj k x y J hy a2 W a0=>?_,h.tails,h.apart⟩;·obtain⟨k,Z,_⟩:=key j x J W;exact h.own k x Z W
 ·obtain⟨j',hj,h1⟩:=key j x J W;obtain⟨k',Z,h2⟩:=key k y hy a0;exact h.nodup j' k' x y hj Z (by omega) W a0
theorem S.putL{e:Nat×List Value}(h:S W0 m w (e::L) TL){i b:Nat}(_hi:L[i]?=some (b,[])):S W0 m w (L.set i e) TL:=by
 have key:∀(j:Nat) (x:Nat×List Value),(L.set i e)[j]?=some x->x.2≠[]->∃k,(e::L)[k]?=some x/\(j=i/\k=0\/j≠i/\k=j+1):=by
  intro j x J W;rw[Y3]at J;split at J
  ·rename_i a0;split at J;·injection J with J;subst J;exact⟨0,rfl,.inl ⟨a0.symm,rfl⟩⟩
   ·cases J
  ·rename_i a0;exact⟨j+1,by simpa using J,.inr ⟨λe=>a0 e.symm,rfl⟩⟩
 refine⟨h.below,h.imm,λj x J W=>?_,λj k x y J hy a2 W a1=>?_,h.tails,h.apart⟩;·obtain⟨k,Z,_⟩:=key j x J W;exact h.own k x Z W
 ·obtain⟨j',hj,h1⟩:=key j x J W;obtain⟨k',Z,h2⟩:=key k y hy a1;exact h.nodup j' k' x y hj Z (by omega) W a1
theorem S.takeT (h:S W0 m w L TL){i:Nat}{e:Nat×Value}(hi:TL[i]?=some e):S W0 m w L (e::TL.set i (e.1,.slice none 0 0)):=by
 have key:∀(j:Nat) (x:Nat×Value),(e::TL.set i (e.1,.slice none 0 0))[j]?=some x->x.2=.slice none 0 0\/∃k,TL[k]?=some x/\(j=0/\k=i\/j=k+1/\k≠i):=by intro j x J;cases j with
  |zero=>simp at J;subst J;exact .inr ⟨i,hi,.inl ⟨rfl,rfl⟩⟩|succ j=>
   simp only[Y2,Y3]at J;split at J
   ·split at J;·injection J with J;subst J;exact .inl rfl
    ·cases J
   ·rename_i a0;exact .inr ⟨j,J,.inr ⟨rfl,λe=>a0 e.symm⟩⟩
 refine⟨h.below,h.imm,h.own,h.nodup,λj x J=>?_,λj k x y J hy a1=>?_⟩
 ·rcases key j x J with J|⟨k,W,_⟩;·obtain⟨s,v⟩:=x;simp only at J;subst J;trivial
  ·exact h.tails k x W
 ·rcases key j x J with J|⟨j',hj,h1⟩;·intro b Z;rw[J]at Z;simp[jU]at Z
  ·rcases key k y hy with hy|⟨k',W,h2⟩;·intro b Z;rw[hy];simp[jU]
   ·exact h.apart j' k' x y hj W (by omega)
end
def br (G:Sg):List Ty->Type
 |[]=>Unit|[t]=>t.den G|t::t'::ts=>t.den G×br G (t'::ts)
def hdT (G:Sg)(t:Ty):(h:List Ty)->br G (t::h)->t.den G
 |[],x=>x|_::_,x=>x.1
def tlT (G:Sg)(t:Ty):(h:List Ty)->br G (t::h)->br G h
 |[],_=>()|_::_,x=>x.2
def mkT (G:Sg)(t:Ty):(h:List Ty)->t.den G->br G h->br G (t::h)
 |[],x,_=>x|_::_,x,y=>(x,y)
theorem BH{G:Sg}{t:Ty}:∀{h:List Ty}{x:t.den G}{y:br G h},hdT G t h (mkT G t h x y)=x
 |[],_,_=>rfl|_::_,_,_=>rfl
theorem BJ{G:Sg}{t:Ty}:∀{h:List Ty}{x:t.den G}{y:br G h},tlT G t h (mkT G t h x y)=y
 |[],_,_=>rfl|_::_,_,_=>rfl
inductive Pm where|rd (u:Ty)|ap (u:Ty)|pt (u:Ty)|ow (u:Ty)|f1 (a b:Ty)|f2 (a c b:Ty)
inductive Rm where|rd (u:Ty)|ap (u:Ty)|ow (u:Ty)
def Pm.den (G:Sg):Pm->Type
 |.rd t=>t.den G|.ap t=>List (t.den G)|.pt t=>t.den G|.ow t=>List (t.den G)|.f1 a b=>a.den G->Option (b.den G)|.f2 a c b=>a.den G->c.den G->Option (b.den G)
def dH (G:Sg):List Pm->Type
 |[]=>Unit|p::ps=>p.den G×dH G ps
def Pm.out:Pm->Option Ty
 |.pt t=>some t|.ow t=>some (.sl t)|_=>none
def Rm.ty:Rm->Ty
 |.rd t=>t|.ap t=>.sl t|.ow t=>.sl t
def kH (G:Sg)(P:Program)(m:M):(ps:List Pm)->List Value->dH G ps->List (Nat×List Value)->List (Nat×Value)->Prop
 |[],[],_,[],[]=>True|.rd t::ps,v::vs,x,Lp,Tp=>RV (t.kd G) m v x.1/\kH G P m ps vs x.2 Lp Tp|.ap t::ps,v::vs,x,Lp,e::Tp=>RV (kSl (t.kd G)) m v x.1/\e=((t.kd G).sz,v)/\kH G P m ps vs x.2 Lp Tp|.pt t::ps,v::vs,x,e::Lp,Tp=>(t.kd G).R m e.2 x.1/\v=.pointer (some ⟨e.1,0,none⟩)/\kH G P m ps vs x.2 Lp Tp|.ow t::ps,v::vs,x,e::Lp,Tp=>GS (t.kd G) m e.1 e.2 v x.1/\kH G P m ps vs x.2 Lp Tp|.f1 a b::ps,v::vs,x,Lp,Tp=>Fn1 P (a.kd G) (b.kd G) m v x.1/\kH G P m ps vs x.2 Lp Tp|.f2 a c b::ps,v::vs,x,Lp,Tp=>Fn2 P (a.kd G) (c.kd G) (b.kd G) m v x.1/\kH G P m ps vs x.2 Lp Tp|_,_,_,_,_=>False
def i9 (G:Sg)(m:M):(ps:List Pm)->List Value->br G (ps.filterMap Pm.out)->List (Nat×List Value)->List (Nat×List Value)->Prop
 |[],_,_,[],[]=>True|.pt t::ps,_::vs,x,e::Lp,e'::Lp'=>e'.1=e.1/\(t.kd G).R m e'.2 (hdT G t (ps.filterMap Pm.out) x)/\i9 G m ps vs (tlT G t (ps.filterMap Pm.out) x) Lp Lp'|.ow t::ps,v::vs,x,e::Lp,e'::Lp'=>e'.1=e.1/\GS (t.kd G) m e'.1 e'.2 v (hdT G (.sl t) (ps.filterMap Pm.out) x)/\i9 G m ps vs (tlT G (.sl t) (ps.filterMap Pm.out) x) Lp Lp'|.rd _::ps,_::vs,x,Lp,Lp'=>i9 G m ps vs x Lp Lp'|.ap _::ps,_::vs,x,Lp,Lp'=>i9 G m ps vs x Lp Lp'|.f1 _ _::ps,_::vs,x,Lp,Lp'=>i9 G m ps vs x Lp Lp'|.f2 _ _ _::ps,_::vs,x,Lp,Lp'=>i9 G m ps vs x Lp Lp'|_,_,_,_,_=>False
def nw (G:Sg)(m:M)(os:List Ty):(rs:List Rm)->List Value->br G (rs.map Rm.ty++os)->List (Nat×List Value)->List (Nat×Value)->Prop
 |[],[],_,[],[]=>True|.rd t::rs,v::vs,x,Lr,Tr=>RV (t.kd G) m v (hdT G t (rs.map Rm.ty++os) x)/\nw G m os rs vs (tlT G t (rs.map Rm.ty++os) x) Lr Tr|.ap t::rs,v::vs,x,Lr,e::Tr=>RV (kSl (t.kd G)) m v (hdT G (.sl t) (rs.map Rm.ty++os) x)/\e=((t.kd G).sz,v)/\nw G m os rs vs (tlT G (.sl t) (rs.map Rm.ty++os) x) Lr Tr|.ow t::rs,v::vs,x,e::Lr,Tr=>GS (t.kd G) m e.1 e.2 v (hdT G (.sl t) (rs.map Rm.ty++os) x)/\nw G m os rs vs (tlT G (.sl t) (rs.map Rm.ty++os) x) Lr Tr|_,_,_,_,_=>False
def rest (G:Sg)(os:List Ty):(rs:List Rm)->br G (rs.map Rm.ty++os)->br G os
 |[],x=>x|r::rs,x=>rest G os rs (tlT G r.ty (rs.map Rm.ty++os) x)
abbrev gu (ps:List Pm)(rs:List Rm):List Ty:=rs.map Rm.ty++ps.filterMap Pm.out
def Ctr (G:Sg)(P:Program)(f:FuncId)(ps:List Pm)(rs:List Rm)(g:dH G ps->Option (br G (gu ps rs))):Prop:=∀(W0:Bse) (m:M) (w:World) (L:List (Nat×List Value)) (TL:List (Nat×Value)) (vs:List Value) (x:dH G ps) (r:br G (gu ps rs)) (Lp:List (Nat×List Value)) (Tp:List (Nat×Value)),S W0 m w (Lp++L) (Tp++TL)->kH G P m ps vs x Lp Tp->g x=some r->Calls P f vs.toArray w (Ret λv w'=>∃(m':M) (us:List Value) (Lr Lp':List (Nat×List Value)) (Tr:List (Nat×Value)),M.le m m'/\S W0 m' w' (Lr++(Lp'++L)) (Tr++TL)/\v=tup us/\nw G m' (ps.filterMap Pm.out) rs us r Lr Tr/\i9 G m' ps vs (rest G (ps.filterMap Pm.out) rs r) Lp Lp')
structure CS (P:Program)(G:Sg)where
 f:FuncId
 ps:List Pm
 rs:List Rm
 g:dH G ps->Option (br G (gu ps rs))ok:Ctr G P f ps rs g
 hc:∀vs w,(callFunc f vs).run P w=.ok (.enter f vs) w
section
variable{G:Sg}{P:Program}
def rmk{O:Type}:List (Nat×O)->Nat->List (Nat×O)
 |[],_=>[]|(q,x)::l,d=>if Zd q d then rmk l d else (q,x)::rmk l d
theorem mr{O:Type}{l:List (Nat×O)}{d:Nat}{e:Nat×O}(h:e∈rmk l d):e∈l/\e.1≠d:=by induction l with
 |nil=>cases h|cons x l ih=>
   obtain⟨q,x⟩:=x;simp only[rmk]at h;split at h;·have:=ih h;exact⟨by simp[this.1],this.2⟩
   · rename_i J;rcases Z5.1 h with h|h
     ·subst h;exact⟨by simp,λe=>by subst e;simp at J⟩
     ·have:=ih h;exact⟨by simp[this.1],this.2⟩
def St.put (st:St G)(d:Nat)(e:EV G):St G:={st with env:=(d,st.c,e)::rmk st.env d}
def St.push (st:St G)(B:BC G):St G:={st with L:=(st.c,B)::st.L}
def St.setB (st:St G)(i:Nat)(B:BC G):St G:={st with L:=sb st.L i (st.c,B)}
def CP (s:ByteArray):List Int:=s.data.toList.map λb=>(b.toNat:Int)
def cAV:Value->Option (AV G)
 |.int k n=>if k.wrap n=n then some (.li k n)else none|.bool b=>some (db b)|.string s=>if Y8 (CP s).length cz then some (.dat .str (CP s) none)else none|.slice none 0 0=>some .nils|.pointer none=>some .nilp|.agg cs=>some (.agc cs.toList)|_=>none
theorem Lw (s:ByteArray):bts (CP s)=s:=by cases s with|mk d=>unfold bts CP;congr 1;apply Array.ext';simp[List.map_map,Function.comp_def]
theorem NX (s:ByteArray):∀n∈CP s,0<=n/\n<256:=by intro n h;unfold CP at h;obtain⟨b,_,rfl⟩:=Zs.1 h;have:=b.toNat_lt;omega
theorem zW{v:Value}{b:AV G}{m:M}{z:Cz}(h:cAV v=some b):b.Rel G P m z v:=by
 unfold cAV at h;split at h
 · split at h;·rename_i J;injection h with h;subst h;exact⟨rfl,J⟩
   ·cases h
 ·injection h with h;subst h;exact eH
 · rename_i s;split at h
   ·rename_i J;injection h with h;subst h;refine⟨?_,trivial⟩;have:=Dx (m:=m) (NX s) (Z0 J);rw[Lw]at this;exact this
   ·cases h
 ·injection h with h;subst h;rfl
 ·injection h with h;subst h;rfl
 ·rename_i cs;injection h with h;subst h;show _=_;simp
 ·cases h
def St.op (st:St G):Operand->Option (EV G)
 |.tmp t=>(match lke st.env t with|some e=>some e.2|none=>none)|.const v=>(match cAV v with|some b=>some (.one b)|none=>none)|_=>none
theorem iX{O:Type}{l:List (Nat×O)}{q:Nat}{x:O}(h:lke l q=some x):(q,x)∈l:=by induction l with
 |nil=>cases h|cons e l ih=>
   obtain⟨j,y⟩:=e;simp only[lke]at h;split at h
   ·rename_i J;have:=Z1 J;injection h with h;subst this;subst h;simp
   ·simp[ih h]
def kI (G:Sg)(P:Program)(m:M)(z:Cz)(env:List (Nat×Nat×EV G))(a:Act):Prop:=∀e∈env,e.2.2.Rel G P m z (a.tmps.getD e.1 undef)
theorem fD{st:St G}{a:Act}{m:M}{z:Cz}(h:kI G P m z st.env a):∀x e,st.op x=some e->e.Rel G P m z (a.eval x):=by intro x e J;cases x with
 |tmp t=>
   simp only[St.op]at J;split at J
   ·rename_i e' W;injection J with J;subst J;exact h _ (iX W)
   ·cases J|const v=>
   simp only[St.op]at J;split at J
   ·rename_i b Z;injection J with J;subst J;exact zW Z
   ·cases J|_=>simp[St.op]at J
structure Sat (G:Sg)(P:Program)(δ:List Nat)(n:Nat)(W0:Bse)(L0:Rs)(T0:List (Nat×Value))(m0:M)(st:St G)(a:Act)(w:World):Prop where
 ex:∃m z,M.le m0 m/\kI G P m z st.env a/\gB G W0 L0 T0 st.L st.T m z w
 df:a.defers=δ.map λD=>{target:=.collected D,args:=#[]}sz:a.tmps.size=n
structure Ext (k0:Nat)(st st':St G):Prop where
 env:∀k,k<k0->∀e∈st'.env,e.2.1<=k->∃lv,lv<=k/\(e.1,lv,e.2.2)∈st.env
 blk:∀k,k<k0->∀i s B,fb st'.L i=some (s,B)->s<=k->∃s',s'<=k/\fb st.L i=some (s',B)
theorem Ext.refl (Z:Nat)(st:St G):Ext Z st st:=⟨λk _ e J hl=>⟨e.2.1,hl,J⟩,λk _ i s B h W=>⟨s,W,h⟩⟩
theorem Ext.trans{W:Nat}{a b c:St G}(h:Ext W a b)(k:Ext W b c):Ext W a c:=⟨λq J e he hl=>by obtain⟨lv,h1,Z⟩:=k.env q J e he hl;exact h.env q J (e.1,lv,e.2.2) Z h1,λq J i s B hb hs=>by
 obtain⟨s',h1,Z⟩:=k.blk q J i s B hb hs;exact h.blk q J i s' B Z h1⟩
theorem Ext.le{J k1:Nat}{a b:St G}(h:Ext J a b)(Z:k1<=J):Ext k1 a b:=⟨λq W=>h.env q (by omega),λq W=>h.blk q (by omega)⟩
theorem Ext.put{st:St G}{d:Nat}{e:EV G}:Ext st.c st (st.put d e):=⟨λk Z x J hl=>by
 rcases Z5.1 J with rfl|J;·simp only at hl;omega
 ·exact⟨x.2.1,hl,(mr J).1⟩,λk Z i s B h W=>⟨s,W,h⟩⟩
theorem zX{O:Type}{l:List O}{i:Nat}{y:O}(h:fb l i=some y):i<l.length:=by induction l with
 |nil=>simp[fb]at h|cons a l ih=>
   simp only[fb]at h;split at h
   ·rename_i e;have:=Z1 e;simp;omega
   ·have:=ih h;simp;omega
theorem NY{O:Type}{l:List O}{x y:O}{i:Nat}(h:fb (x::l) i=some y):(i=l.length/\x=y)\/fb l i=some y:=by
 simp only[fb]at h;split at h
 ·rename_i e;injection h with h;exact .inl ⟨Z1 e,h⟩
 ·exact .inr h
theorem MX{O:Type}{l:List O}{i j:Nat}{x y:O}(h:fb (sb l i x) j=some y):(j=i/\x=y)\/(j≠i/\fb l j=some y):=by
 by_cases e:i=j
 ·subst e;cases hl:fb l i with
   |none=>
     exfalso;have Z:(sb l i x).length=l.length:=by
      clear h hl;induction l with
      |nil=>rfl|cons a l ih=>simp only[sb];split<;>simp[ih]
     have W:=zX h;rw[Z]at W;have:∀{l:List O}{i:Nat},i<l.length->fb l i≠none:=by
      intro l;induction l with
      |nil=>intro i h;simp at h|cons a l ih=>
        intro i h J;simp only[fb]at J;split at J;·cases J
        · rename_i hb;have:i≠l.length:=λe=>by subst e;simp at hb
          simp at h;exact ih (by omega) J
     exact this W hl|some y'=>
     rw[pY hl]at h;injection h with h;exact .inl ⟨rfl,h⟩
 ·rw[kG e]at h;exact .inr ⟨λx=>e x.symm,h⟩
theorem Ext.push{st:St G}{B:BC G}:Ext st.c st (st.push B):=⟨λk W x Z hl=>⟨x.2.1,hl,Z⟩,λk W i s B' h hs=>by
 rcases NY h with⟨_,J⟩|h;·injection J with J _;omega
 ·exact⟨s,hs,h⟩⟩
theorem Ext.setB{st:St G}{i:Nat}{B:BC G}:Ext st.c st (st.setB i B):=⟨λk W x Z hl=>⟨x.2.1,hl,Z⟩,λk W j s B' h hs=>by
 rcases MX h with⟨_,J⟩|⟨_,h⟩;·injection J with J _;omega
 ·exact⟨s,hs,h⟩⟩
structure Zle (z z':Cz):Prop where
 b:∀i p,fb z.b i=some p->fb z'.b i=some p
 t:∀j v,fb z.t j=some v->fb z'.t j=some v
theorem Zle.refl (z:Cz):Zle z z:=⟨λ_ _ h=>h,λ_ _ h=>h⟩
theorem AV.Rel.z{m:M}{z z':Cz}{b:AV G}{v:Value}(h:b.Rel G P m z v)(Z:Zle z z'):b.Rel G P m z' v:=by cases b with
 |dat t x o=>refine⟨h.1,?_⟩;cases o with
   |none=>trivial|some j=>exact Z.t j v h.2
 |loc i a b A=>obtain⟨p,J,W⟩:=h;exact⟨p,Z.b _ _ J,W⟩|elp i j a b A=>obtain⟨p,J,W⟩:=h;exact⟨p,Z.b _ _ J,W⟩|blk i=>obtain⟨p,J,W⟩:=h;exact⟨p,Z.b _ _ J,W⟩|own i=>obtain⟨p,J,W⟩:=h;exact⟨p,Z.b _ _ J,W⟩|_=>exact h
theorem EV.Rel.z{m:M}{z z':Cz}{e:EV G}{v:Value}(h:e.Rel G P m z v)(Z:Zle z z'):e.Rel G P m z' v:=by cases e with
 |one b=>exact AV.Rel.z h Z|tup asv=>
   obtain⟨vs,W,J⟩:=h;refine⟨vs,W,?_⟩;clear W;induction asv generalizing vs with
   |nil=>cases vs<;>exact J|cons a asv ih=>cases vs with
     |nil=>exact J|cons v vs=>exact⟨J.1.z Z,ih vs J.2⟩
theorem kI.z{m m':M}{z z':Cz}{env:List (Nat×Nat×EV G)}{a:Act}(h:kI G P m z env a)(hm:M.le m m')(W:Zle z z'):kI G P m' z' env a:=λe J=>((h e J).mono hm).z W
theorem kI.put{m:M}{z:Cz}{env:List (Nat×Nat×EV G)}{a:Act}{n d lv:Nat}{e:EV G}{v:Value}(h:kI G P m z env a)(hs:a.tmps.size=n)(hd:Z8 d n=true)(W:e.Rel G P m z v):kI G P m z ((d,lv,e)::rmk env d) (a.put (some d) v):=by
 have a0:d<n:=Z0 hd;intro x J;rcases Z5.1 J with rfl|J;·simpa[Act.put,hs,a0]using W
 ·obtain⟨h1,h2⟩:=mr J;have:=h x h1;have Z:d≠x.1:=λe=>h2 e.symm;simpa[Act.put,Array.getElem?_setIfInBounds_ne Z]using this
theorem lf{O:Type}{l:List O}{i:Nat}{x:O}(h:fb l i=some x):sb l i x=l:=by induction l with
 |nil=>simp[fb]at h|cons a l ih=>
   simp only[fb]at h;simp only[sb];split at h;·rename_i e;injection h with h;subst h;simp[e]
   ·rename_i e;simp[e,ih h]
end
structure oQ (G:Sg)where
 β:Type
 mv:Option β
 k:β->St G
section
variable{G:Sg}{P:Program}
def AV.tagged (j:Nat):AV G->Bool
 |.dat _ _ (some i)=>Zd i j|_=>false
def AV.er:AV G->AV G
 |.dat t x _=>.dat t x none|b=>b
def EV.tagged (j:Nat):EV G->Bool
 |.one b=>b.tagged j|.tup asv=>asv.any (AV.tagged j)
def EV.er:EV G->EV G
 |.one b=>.one b.er|.tup asv=>.tup (asv.map AV.er)
def pC (j c:Nat)(env:List (Nat×Nat×EV G)):List (Nat×Nat×EV G):=env.map λe=>if e.2.2.tagged j then (e.1,c,e.2.2.er)else e
def nx (m:Nat)(by_:Nat):Nat:=m/(if by_=0 then 1 else by_)
theorem EA (m by_:Nat):nx m by_*by_<=m/\nx m by_<=m:=by
 unfold nx;split;·rename_i h;subst h;simp
 ·exact⟨Nat.div_mul_le_self _ _,Nat.div_le_self _ _⟩
def zY:Nat:=140737488355328
def H7:Nat:=281474976710656
def TI.sl?{i:TypeId}:TI P G i->Option (Sigma λc:Ty=>SlI P G i c)
 |⟨.sl c,_,u,_,_,_,_⟩=>some ⟨c,u⟩|_=>none
def AV.own?:AV G->Option Nat
 |.own i=>some i|_=>none
def PB (Γ:Tab P G)(h:Nat->Option (BC G))(c:Ty)(q:AV G):Option (List (c.den G)):=match q.own? with
 |some i=>(match h i with|some (.arr c' _ xs)=>dR G (.sl c') (.sl c) xs|_=>none)|none=>q.as Γ (.sl c)
def Lz (Γ:Tab P G)(J:Nat->Option (BC G))(c h:Ty)(q:AV G):Option (List (c.den G)):=match h with
 |.str=>(match q.s? with|some s=>dR G (.sl (.int .u8)) (.sl c) s|none=>none)|.sl _=>PB Γ J c q|_=>none
def CQ (Γ:Tab P G)(c:Ty):List (Nat×Option (AV G))->Nat->Option (List (c.den G))
 |[],_=>some []|(i,some b)::r,k=>if i=k then (match b.as Γ c,CQ Γ c r (k+1)with|some x,some xs=>some (x::xs)|_,_=>none)else none|_,_=>none
def H8:Operand->Operand->Bool
 |.tmp i,.tmp j=>Zd i j|.const (.int k i),.const (.int k' j)=>decide (i=j)|_,_=>false
def two{β:Type}(h:Option β)(k:β->St G):Option (oQ G):=some ⟨β,h,k⟩
def yI (s:St G):Option (oQ G):=some ⟨Unit,some (),λ_=>s⟩
def allocT (Γ:Tab P G)(st:St G)(t:TypeId)(d:Nat):Option (oQ G):=match Γ.ar t with
 |some R=>yI ((st.push (.arr R.t (some R.n) (Zq R.n R.z))).put d (.one (.blk st.L.length)))|none=>(match Γ.ty t with
  |some I=>yI ((st.push (.dat I.T I.z)).put d (.one (.blk st.L.length)))|none=>none)
def LA (Γ:Tab P G)(st:St G)(t:TypeId)(x:Operand)(d:Nat):Option (oQ G):=match Γ.ty t,av? (st.op x)with
 |some I,some b=>(match b.as Γ I.T with
  |some y=>yI ((st.push (.dat I.T y)).put d (.one (.blk st.L.length)))|none=>none)|_,_=>none
def Ft (Γ:Tab P G)(st:St G)(t:TypeId)(x y:Operand):Option (oQ G):=match Γ.ty t,av? (st.op x),av? (st.op y)with
 |some I,some p,some q=>(match q.as Γ I.T with
  |some v=>(match p with
   |.blk i=>(match fm st.L i with
    |some (.dat c x0)=>if c=I.T then yI (st.setB i (.dat I.T v))else none|_=>none)|.loc i c b A=>(match fm st.L i with
    |some (.dat c' x0)=>(match dR G c' c x0,dR G I.T b v with
     |some h,some v=>yI (st.setB i (.dat c (A.set h v)))|_,_=>none)|_=>none)|.elp i j c b A=>(match fm st.L i with
    |some (.arr c' n xs)=>(match dR G (.sl c') (.sl c) xs,dR G I.T b v with
     |some ys,some v=>two (Pz (O:=c.den G) ys j) λh=>st.setB i (.arr c n (List.set (α:=c.den G) ys j (A.set h v)))|_,_=>none)|_=>none)|_=>none)|none=>none)|_,_,_=>none
def LB (Γ:Tab P G)(st:St G)(t:TypeId)(len:Nat)(ps:Array (Nat×Operand))(d:Nat):Option (oQ G):=match Γ.ty t with
 |some I=>(match I.sl? with
  |some ⟨c,_⟩=>(match CQ Γ c (ps.toList.map λp=>(p.1,av? (st.op p.2))) 0 with
   |some xs=>if ps.toList.length=len/\Y8 (len*(c.kd G).sz) 16777216=true then yI ({st with T:=(c.kd G).sz::st.T}.put d (.one (.dat (.sl c) xs (some st.T.length))))else none|none=>none)|none=>none)|none=>none
def LC (Γ:Tab P G)(st:St G)(t t2:TypeId)(x y:Operand)(d:Nat):Option (oQ G):=match Γ.ty t,Γ.ty t2,av? (st.op x),av? (st.op y)with
 |some I,some I2,some p,some q=>(match I.sl? with
  |some ⟨c,B⟩=>(match Lz Γ (fm st.L) c I2.T q with
   |some ys=>(match p with
    |.nils=>two (app (nx zY B.by_) ([]:List (c.den G)) ys) λh=>{st with T:=(c.kd G).sz::st.T}.put d (.one (.dat (.sl c) h (some st.T.length)))|.dat t' xs (some j)=>(match dR G t' (.sl c) xs with
     |some xs=>if fb st.T j=some (c.kd G).sz then two (app (O:=c.den G) (nx zY B.by_) xs ys) λh=>{st with env:=pC j st.c st.env}.put d (.one (.dat (.sl c) h (some j)))else none|none=>none)|_=>none)|none=>none)|none=>none)|_,_,_,_=>none
def H9 (Γ:Tab P G)(st:St G)(t:TypeId)(x y:Operand)(d:Nat):Option (oQ G):=match Γ.ty t,av? (st.op x),av? (st.op y)with
 |some I,some p,some q=>(match I.sl?,p.i?,q.i? with
  |some ⟨c,B⟩,some (_,i),some (_,_)=>if H8 x y=true then two (mk (nx H7 B.by_) i B.z) λh=>(st.push (.arr c none h)).put d (.one (.own st.L.length))else none|_,_,_=>none)|_,_,_=>none
def Ia (Γ:Tab P G)(st:St G)(t:TypeId)(x y:Operand)(d:Nat):Option (oQ G):=match Γ.ty t,av? (st.op x),av? (st.op y)with
 |some I,some (.own i),some q=>(match I.sl?,fm st.L i with
  |some ⟨c,B⟩,some (.arr c' n xs)=>(match dR G (.sl c') (.sl c) xs,q.as Γ (.sl c)with
   |some xs,some ys=>yI ((st.setB i (.arr c n (cpy (O:=c.den G) xs ys))).put d (.one (di .i64 ((min (@Y9 (c.den G) ys) (@Y9 (c.den G) xs):Nat):Int))))|_,_=>none)|_,_=>none)|_,_,_=>none
def Fu (Γ:Tab P G)(st:St G):Op->Option Nat->Option (oQ G)
 |.alloc t,some d=>allocT Γ st t d|.box t x,some d=>LA Γ st t x d|.store t x y,none=>Ft Γ st t x y|.buildSlice t len ps,some d=>LB Γ st t len ps d|.call ⟨.builtin .append,⟨[x,y]⟩,⟨[t,t2]⟩⟩,some d=>LC Γ st t t2 x y d|.call ⟨.builtin .copy,⟨[x,y]⟩,⟨[t,_]⟩⟩,some d=>Ia Γ st t x y d|.makeSlice t x y,some d=>H9 Γ st t x y d|_,_=>none
end
section
variable{G:Sg}{P:Program}{δ:List Nat}{n:Nat}{W0:Bse}{L0:Rs}{T0:List (Nat×Value)}{m0:M}{st:St G}{a:Act}{w:World}{Γ:Tab P G}{ty t t2:TypeId}{d:Nat}{pos:String}{aft:Array Edge}{g:Option (Nat×Bool)}{x y:Operand}{o:Oper}
def TG (G:Sg)(P:Program)(δ:List Nat)(n:Nat)(W0:Bse)(L0:Rs)(T0:List (Nat×Value))(m0:M)(st:St G)(r:Option (oQ G))(o:Oper)(a:Act)(w:World):Prop:=∀R b,r=some R->R.mv=some b->a8 P o a w (λv w'=>Sat G P δ n W0 L0 T0 m0 (R.k b) (a.put o.dst v) w'/\Ext st.c st (R.k b)/\(R.k b).c=st.c)
theorem TG.none:TG G P δ n W0 L0 T0 m0 st none o a w:=λR b h=>by cases h
theorem TG.one{s:St G}(h:a8 P o a w (λv w'=>Sat G P δ n W0 L0 T0 m0 s (a.put o.dst v) w'/\Ext st.c st s/\s.c=st.c)):TG G P δ n W0 L0 T0 m0 st (yI s) o a w:=λR b J W=>by injection J with J;subst J;exact h
theorem TG.two{β:Type}{W:Option β}{k:β->St G}(h:∀b,W=some b->a8 P o a w (λv w'=>Sat G P δ n W0 L0 T0 m0 (k b) (a.put o.dst v) w'/\Ext st.c st (k b)/\(k b).c=st.c)):TG G P δ n W0 L0 T0 m0 st (two W k) o a w:=λR b J Z=>by injection J with J;subst J;exact h b Z
theorem Sat.of{env:List (Nat×Nat×EV G)}{L:List (Nat×BC G)}{T:List Nat}{c:Nat}{m m':M}{z:Cz}{e:EV G}{v:Value}{w':World}(h0:M.le m0 m)(hm:M.le m m')(hr:kI G P m' z env a)(J:e.Rel G P m' z v)(W:gB G W0 L0 T0 L T m' z w')(Z:Z8 d n=true) (a0:a.defers=δ.map λD=>{target:=.collected D,args:=#[]}) (h:a.tmps.size=n):Sat G P δ n W0 L0 T0 m0 (St.put ⟨env,c,L,T⟩ d e) (a.put (some d) v) w':=⟨⟨m',z,h0.trans hm,hr.put h Z J,W⟩,by simp[Act.put,a0],by simp[Act.put,h]⟩
theorem Sat.of0{env:List (Nat×Nat×EV G)}{L:List (Nat×BC G)}{T:List Nat}{c:Nat}{m m':M}{z:Cz}{v:Value}{w':World}(W:M.le m0 m)(hm:M.le m m')(J:kI G P m' z env a)(h:gB G W0 L0 T0 L T m' z w')(Z:a.defers=δ.map λD=>{target:=.collected D,args:=#[]}) (hs:a.tmps.size=n):Sat G P δ n W0 L0 T0 m0 ⟨env,c,L,T⟩ (a.put none v) w':=⟨⟨m',z,W.trans hm,J,h⟩,Z,hs⟩
theorem Zle.pushB (z:Cz)(p:Nat×Value):Zle z ⟨p::z.b,z.t⟩:=⟨λ_ _ h=>zV h,λ_ _ h=>h⟩
theorem Zle.pushT (z:Cz)(v:Value):Zle z ⟨z.b,v::z.t⟩:=⟨λ_ _ h=>h,λ_ _ h=>zV h⟩
theorem ki{O:Type}{x:O}{l:List O}:fb (x::l) l.length=some x:=by simp[fb]
theorem gB.len{Ls:List (Nat×BC G)}{Ts:List Nat}{m:M}{z:Cz}(h:gB G W0 L0 T0 Ls Ts m z w):z.b.length=Ls.length/\z.t.length=Ts.length:=by obtain⟨Lc,Z,J,W,_⟩:=h;exact⟨J.len.1,W.len.1⟩
theorem gB.push{Ls:List (Nat×BC G)}{Ts:List Nat}{m:M}{z:Cz}{w':World}{Lc:List (Nat×List Value)}{h:List (Nat×Value)}{b:Nat}{cs:List Value}{sv:Value}{s:Nat}{B:BC G}(Z:LR G m Ls z.b Lc)(W:TRl Ts z.t h)(hS:S W0 m w' ((b,cs)::(Lc++L0.l)) (h++T0)) (J:Sfx z.b L0.nm) (hB:B.Rel G m (b,sv) cs):gB G W0 L0 T0 ((s,B)::Ls) Ts m ⟨(b,sv)::z.b,z.t⟩ w':=⟨(b,cs)::Lc,h,⟨rfl,hB,Z⟩,W,hS,J.cons⟩
theorem Ext.push_put{B:BC G}{e:EV G}:Ext st.c st ((st.push B).put d e):=Ext.push.trans (Ext.put (st:=st.push B))
theorem Ext.envL{st st':St G}(Z:st'.env=st.env)(W:st'.L=st.L):Ext st.c st st':=by
 refine⟨λk _ e J hl=>⟨e.2.1,hl,?_⟩,λk _ i s B h hs=>⟨s,hs,?_⟩⟩;·rw[Z]at J;exact J
 ·rw[W]at h;exact h
theorem Ju (hs:Sat G P δ n W0 L0 T0 m0 st a w)(hd:Z8 d n=true):TG G P δ n W0 L0 T0 m0 st (allocT Γ st t d) ⟨some d,.alloc t,ty,pos,aft,g⟩ a w:=by
 obtain⟨⟨m,z,h0,hr,hM⟩,hdf,hsz⟩:=hs;have a0:=hM.len;obtain⟨Lc,Tc,h1,h2,hS,Z⟩:=hM;unfold allocT;split
 ·rename_i R _;refine .one ((cF hS R.hz R.hzc).imp λv w' W=>?_);obtain⟨b,rfl,J⟩:=W;have h:(BC.arr R.t (some R.n) (Zq R.n R.z)).Rel G m (b,.slice (some ⟨b,0,none⟩) R.n R.n) (Zq R.n R.c).flatten:=⟨GS.zero R.hzR R.hn,by simp⟩;exact⟨Sat.of h0 (Z6 m) (hr.z (Z6 m) (Zle.pushB z _)) ⟨_,by rw[←a0.1];exact ki,rfl⟩ (gB.push h1 h2 J Z h) hd hdf hsz,Ext.push_put,rfl⟩
 ·split
  ·rename_i I _;refine .one ((cF hS I.hz (cs:=I.zv.cells.toList) (by simp)).imp λv w' W=>?_);obtain⟨b,rfl,J⟩:=W;have h:(BC.dat I.T I.z).Rel G m (b,undef) I.zv.cells.toList:=I.hzR m;exact⟨Sat.of h0 (Z6 m) (hr.z (Z6 m) (Zle.pushB z _)) ⟨_,by rw[←a0.1];exact ki,rfl⟩ (gB.push h1 h2 J Z h) hd hdf hsz,Ext.push_put,rfl⟩
  ·exact .none
theorem NZ (hs:Sat G P δ n W0 L0 T0 m0 st a w)(hd:Z8 d n=true):TG G P δ n W0 L0 T0 m0 st (LA Γ st t x d) ⟨some d,.box t x,ty,pos,aft,g⟩ a w:=by
 obtain⟨⟨m,z,h0,J,h⟩,hdf,hsz⟩:=hs;have a1:=h.len;obtain⟨Lc,Tc,h1,h2,hS,Z⟩:=h;unfold LA;split
 ·rename_i I b _ hx;split
  ·rename_i y hy;obtain⟨l,hE,hl⟩:=ez hdf hsz [x];have W:=AV.as_rel hy (bp (fD J) hx);refine .one ((je hE hS (hl x (by simp)) W).imp λv w' hq=>?_);obtain⟨b,cs,rfl,hc,a0⟩:=hq;have hB:(BC.dat I.T y).Rel G m (b,undef) cs:=hc;exact⟨Sat.of h0 (Z6 m) (J.z (Z6 m) (Zle.pushB z _)) ⟨_,by rw[←a1.1];exact ki,rfl⟩ (gB.push h1 h2 a0 Z hB) hd hdf hsz,Ext.push_put,rfl⟩
  ·exact .none
 ·exact .none
theorem mt{O:Type}{l l0:List O}{j:Nat}{x y:O}(h:l[j]?=some y):(l++l0).set j x=l.set j x++l0:=by have:j<l.length:=(j6.1 h).1;rw[List.set_append_left _ _ this]
theorem lg{O:Type}{l l0:List O}{j:Nat}{y:O}(h:l[j]?=some y):(l++l0)[j]?=some y:=by have:j<l.length:=(j6.1 h).1;rw[Z2 this];exact h
theorem Jv (hs:Sat G P δ n W0 L0 T0 m0 st a w):TG G P δ n W0 L0 T0 m0 st (Ft Γ st t x y) ⟨none,.store t x y,ty,pos,aft,g⟩ a w:=by
 obtain⟨⟨m,z,h0,hr,hM⟩,hdf,hsz⟩:=hs;obtain⟨Lc,Tc,h1,h2,hS,a5⟩:=hM;unfold Ft;split
 ·rename_i I p q _ hx hy;obtain⟨l,hE,hl⟩:=ez hdf hsz [x,y];have a0:=hl x (by simp);have a3:=hl y (by simp);have hp:=bp (fD hr) hx;split
  ·rename_i vv hv;have hV:=AV.as_rel hv (bp (fD hr) hy);split
   ·rename_i i;split
    ·rename_i c x0 hB;split
     ·rename_i hc;subst hc;obtain⟨s,hs⟩:=iP hB;obtain⟨J,cs,j,Z,W,g3,g4⟩:=h1.get hs;obtain⟨a6,h,g6⟩:=hp;rw[Z]at h;injection h with h;subst h;rw[g6]at a0;refine .one ((dq hE hS I.ok bT a0 a3 hV (lg W) g3).imp λv w' hq=>?_);obtain⟨cs',a1,a2⟩:=hq;have a4:(BC.dat I.T vv).Rel G m (J.1,J.2) cs':=a1;have:=g4 (st.c,BC.dat I.T vv) J.2 cs' a4;rw[lf Z]at this;exact⟨Sat.of0 h0 (Z6 m) hr ⟨_,Tc,this,h2,by rw[←mt W];exact a2,a5⟩ hdf hsz,Ext.setB,rfl⟩
     ·exact .none
    ·exact .none
   ·rename_i i c b A;split
    ·rename_i c' x0 hB;split
     ·rename_i x1 v1 e1 e2;obtain⟨e,e1⟩:=bW e1;subst e;subst e1;obtain⟨e,e2⟩:=bW e2;subst e;subst e2;obtain⟨s,hs⟩:=iP hB;obtain⟨J,cs,j,Z,W,g3,g4⟩:=h1.get hs;obtain⟨a6,h,g6⟩:=hp;rw[Z]at h;injection h with h;subst h;rw[g6]at a0;refine .one ((dq hE hS I.ok A.stf a0 a3 hV (lg W) g3).imp λv w' hq=>?_);obtain⟨cs',a1,a2⟩:=hq;have:=g4 (st.c,BC.dat c' _) J.2 cs' a1;rw[lf Z]at this;exact⟨Sat.of0 h0 (Z6 m) hr ⟨_,Tc,this,h2,by rw[←mt W];exact a2,a5⟩ hdf hsz,Ext.setB,rfl⟩
     ·exact .none
    ·exact .none
   ·rename_i i j c b A;split
    ·rename_i c' nn xs hB;split
     ·rename_i ys v1 e1 e2;obtain⟨e,e1⟩:=bW e1;injection e with e;subst e;subst e1;obtain⟨e,e2⟩:=bW e2;subst e;subst e2;refine .two λx1 a9=>?_;obtain⟨s,hs⟩:=iP hB;obtain⟨J,cs,j',Z,W,g3,g4⟩:=h1.get hs;obtain⟨a6,h,g6⟩:=hp;rw[Z]at h;injection h with h;subst h;rw[g6]at a0;refine(sC hE hS I.ok A.stf g3.1 a9 a0 a3 hV (lg W)).imp λv w' hq=>?_;obtain⟨cs',a1,a2⟩:=hq;have a4:(BC.arr c' nn (List.set (α:=c'.den G) _ j (A.set x1 _))).Rel G m (J.1,J.2) cs':=⟨a1,by have:=g3.2;cases nn with
       |none=>trivial|some k=>exact(List.length_set ..).trans this⟩;have:=g4 (st.c,_) J.2 cs' a4;rw[lf Z]at this;exact⟨Sat.of0 h0 (Z6 m) hr ⟨_,Tc,this,h2,by rw[←mt W];exact a2,a5⟩ hdf hsz,Ext.setB,rfl⟩
     ·exact .none
    ·exact .none
   ·exact .none
  ·exact .none
 ·exact .none
theorem Hj{c:Ty}{l:List (Nat×Value)}{m:M}{z:Cz}:∀{ps:List (Nat×Operand)}{k:Nat}{xs:List (c.den G)}{σ:Operand->Option (AV G)},(∀p∈ps,∀b,σ p.2=some b->∃v,evl l p.2=some v/\b.Rel G P m z v)->CQ Γ c (ps.map λp=>(p.1,σ p.2)) k=some xs->∃vs,ps.mapM (λp=>(evl l p.2).map λv=>(p.1,v))=some (num k vs)/\RVl (c.kd G) m vs xs/\vs.length=ps.length
 |[],k,xs,σ,_,h=>by simp only[Y5,CQ,Option.some.injEq]at h;subst h;exact⟨[],rfl,trivial,rfl⟩|(i,o)::ps,k,xs,σ,hr,h=>by simp only[Ze]at h;cases hs:σ o with
  |none=>simp[hs,CQ]at h|some b=>
   rw[hs]at h;unfold CQ at h;split at h
   ·rename_i a0;subst a0;split at h
    ·rename_i x a2 hx a1;injection h with h;subst h;obtain⟨v,g1,J⟩:=hr (i,o) (by simp) b hs;obtain⟨vs,k1,k2,Z⟩:=Hj (λp W=>hr p (by simp[W])) a1;exact⟨v::vs,by simp[g1,k1,num],⟨AV.as_rel hx J,k2⟩,by simp[Z]⟩
    ·cases h
   ·cases h
theorem N0{len:Nat}{ps:Array (Nat×Operand)}(hs:Sat G P δ n W0 L0 T0 m0 st a w)(hd:Z8 d n=true):TG G P δ n W0 L0 T0 m0 st (LB Γ st t len ps d) ⟨some d,.buildSlice t len ps,ty,pos,aft,g⟩ a w:=by
 obtain⟨⟨m,z,h0,W,J⟩,hdf,hsz⟩:=hs;have a2:=J.len;obtain⟨Lc,Tc,h1,h2,hS,a3⟩:=J;unfold LB;split
 ·split
  ·rename_i c B _;split
   ·rename_i xs a0;split
    ·rename_i h;obtain⟨l,hE,hl⟩:=ez hdf hsz (ps.toList.map (·.2));obtain⟨vs,k1,k2,k3⟩:=Hj (σ:=λx=>av? (st.op x)) (λp Z b hb=>⟨_,hl p.2 (Zt Z),bp (fD W) hb⟩) a0;refine .one ((gA hE hS k1 B.hu B.hs B.hz k2 (len:=len) (by rw[k3];exact h.1) h.2).imp λv w' hq=>?_);obtain⟨m',hm,a1,hv⟩:=hq;refine⟨Sat.of (z:=⟨z.b,v::z.t⟩) h0 hm (W.z hm (Zle.pushT z v)) ⟨hv,?_⟩ ⟨Lc,((c.kd G).sz,v)::Tc,h1.mono hm,⟨rfl,h2⟩,a1,a3⟩ hd hdf hsz,(Ext.envL (st:=st) (st':={st with T:=(c.kd G).sz::st.T}) rfl rfl).trans (Ext.put (st:={st with T:=(c.kd G).sz::st.T})),rfl⟩;show fb (v::z.t) st.T.length=some v;rw[←a2.2];exact ki
    ·exact .none
   ·exact .none
  ·exact .none
 ·exact .none
theorem AV.rel_app{b:AV G}{v u:Value}{j:Nat}{m:M}{z:Cz}(h:b.Rel G P m z v):(b.tagged j=false->b.Rel G P m ⟨z.b,sb z.t j u⟩ v)/\b.er.Rel G P m ⟨z.b,sb z.t j u⟩ v:=by cases b with
 |dat t x o=>refine⟨λW=>⟨h.1,?_⟩,⟨h.1,trivial⟩⟩;cases o with
  |none=>trivial|some i=>
   have J:j≠i:=λe=>by subst e;simp[AV.tagged]at W
   show fb (sb z.t j u) i=some v;rw[kG J];exact h.2
 |_=>exact⟨λ_=>h,h⟩
theorem Fv{J:List (AV G)}{vs:List Value}{u:Value}{j:Nat}{m:M}{z:Cz}(h:ry G P m z J vs):(J.any (AV.tagged j)=false->ry G P m ⟨z.b,sb z.t j u⟩ J vs)/\ry G P m ⟨z.b,sb z.t j u⟩ (J.map AV.er) vs:=by induction J generalizing vs with
 |nil=>cases vs<;>exact⟨λ_=>h,h⟩|cons b J ih=>cases vs with
  |nil=>exact h.elim|cons v vs=>have Z:=AV.rel_app (u:=u) (j:=j) h.1;have h2:=ih h.2;refine⟨λW=>?_,⟨Z.2,h2.2⟩⟩;simp only[List.any_cons,Bool.or_eq_false_iff]at W;exact⟨Z.1 W.1,h2.1 W.2⟩
theorem uS{env:List (Nat×Nat×EV G)}{u:Value}{j c:Nat}{m:M}{z:Cz}(h:kI G P m z env a):kI G P m ⟨z.b,sb z.t j u⟩ (pC j c env) a:=by
 intro e he;obtain⟨W,h0,rfl⟩:=Zs.1 he;have J:=h W h0;split
 ·show(EV.er W.2.2).Rel G P m _ (a.tmps.getD W.1 undef);cases hb:W.2.2 with
  |one b=>rw[hb]at J;exact(AV.rel_app J).2|tup asv=>rw[hb]at J;obtain⟨vs,k1,k2⟩:=J;exact⟨vs,k1,(Fv k2).2⟩
 ·rename_i Z;simp only[Bool.not_eq_true]at Z;cases hb:W.2.2 with
  |one b=>rw[hb]at J Z;exact(AV.rel_app J).1 Z|tup asv=>rw[hb]at J Z;obtain⟨vs,k1,k2⟩:=J;exact⟨vs,k1,(Fv k2).1 Z⟩
theorem Ext.er{j:Nat}:Ext st.c st {st with env:=pC j st.c st.env}:=⟨λk hk e J hl=>by
 obtain⟨W,Z,rfl⟩:=Zs.1 J;split at hl;·simp only at hl;omega
 ·rename_i ht;rw[if_neg ht];exact⟨W.2.1,hl,Z⟩,λk _ i s B h hs=>⟨s,hs,h⟩⟩
theorem AV.own_eq{q:AV G}{i:Nat}(h:q.own?=some i):q=.own i:=by cases q<;>simp[AV.own?]at h;rw[h]
theorem Hk{c:Ty}{q:AV G}{ys:List (c.den G)}{m:M}{z:Cz}{v:Value}{Lc:List (Nat×List Value)}{TL:List (Nat×Value)}(h1:LR G m st.L z.b Lc)(hS:S W0 m w (Lc++L0.l) TL){I2:TI P G t2}(Z:q.Rel G P m z v) (h:Lz Γ (fm st.L) c I2.T q=some ys):zO P (c.kd G) m w t2 v ys:=by
 unfold Lz at h;split at h
 ·rename_i J;split at h
  ·rename_i s hs;obtain⟨e,h⟩:=bW h;injection e with e;subst e;subst h;obtain⟨rfl,k1,_⟩:=AV.s_rel hs Z;exact NK (TI.str J) k1
  ·cases h
 ·rename_i c0 J;unfold PB at h;split at h
  ·rename_i i hi;rw[AV.own_eq hi]at Z;cases hB:fm st.L i with
   |none=>simp[hB]at h|some B=>cases B with
    |arr c' nn xs=>
     simp only[hB]at h;obtain⟨e,h⟩:=bW h;injection e with e;subst e;subst h;obtain⟨s,hs⟩:=iP hB;obtain⟨p',cs,j,g1,g2,g3,g4⟩:=h1.get hs;obtain⟨a0,W,rfl⟩:=Z;rw[g1]at W;injection W with W;subst W;exact Hd hS (I2.sl J).hu (lg g2) g3.1|_=>simp[hB]at h
  ·exact yC hS (I2.sl J).hu (AV.as_rel h Z)
 ·cases h
theorem N1 (hs:Sat G P δ n W0 L0 T0 m0 st a w)(hd:Z8 d n=true):TG G P δ n W0 L0 T0 m0 st (LC Γ st t t2 x y d) ⟨some d,.call ⟨.builtin .append,#[x,y],#[t,t2]⟩,ty,pos,aft,g⟩ a w:=by
 obtain⟨⟨m,z,h0,hr,W⟩,hdf,hsz⟩:=hs;have a9:=W.len;obtain⟨Lc,Tc,h1,h2,hS,a5⟩:=W;unfold LC;split
 ·rename_i I I2 p q _ _ hx hy;obtain⟨l,hE,hl⟩:=ez hdf hsz [x,y];have a2:=hl x (by simp);have a3:=hl y (by simp);have Z:=bp (fD hr) hx;have h:=bp (fD hr) hy;split
  ·rename_i c B _;have hN:Y8 (nx zY B.by_*B.by_) 140737488355328=true:=Zl (EA zY B.by_).1;have W:Y8 (nx zY B.by_) 281474976710656=true:=Zl (Nat.le_trans (EA zY B.by_).2 (by decide));split
   ·rename_i ys a4;split
    ·refine .two λzs a1=>?_;have J:a.eval x=.slice none 0 0:=Z;rw[J]at a2;have a6:=hS.tail0 (c.kd G).sz;refine(CN hE a6 a2 a3 B.hu B.hel (i:=0) rfl dK (Hk h1 hS h a4) a1 hN W).imp λv w' h=>?_;obtain⟨m',hm,a0,J⟩:=h;refine⟨Sat.of (z:=⟨z.b,v::z.t⟩) h0 hm (hr.z hm (Zle.pushT z v)) ⟨J,?_⟩ ⟨Lc,((c.kd G).sz,v)::Tc,h1.mono hm,⟨rfl,h2⟩,a0,a5⟩ hd hdf hsz,(Ext.envL (st:=st) (st':={st with T:=(c.kd G).sz::st.T}) rfl rfl).trans (Ext.put (st:={st with T:=(c.kd G).sz::st.T})),rfl⟩;show fb (v::z.t) st.T.length=some v;rw[←a9.2];exact ki
    ·rename_i t' b1 j;split
     ·rename_i xs hc;obtain⟨e,hc⟩:=bW hc;subst e;subst hc;split
      ·rename_i hj;refine .two λzs a1=>?_;obtain⟨i,k1,k2⟩:=h2.get hj Z.2;refine(CN hE hS a2 a3 B.hu B.hel (lg k1) Z.1 (Hk h1 hS h a4) a1 hN W).imp λv w' h=>?_;obtain⟨m',hm,a0,J⟩:=h;rw[mt k1]at a0;have b0:=uS (u:=v) (j:=j) (c:=st.c) hr;refine⟨Sat.of (z:=⟨z.b,sb z.t j v⟩) h0 hm (λe he=>(b0 e he).mono hm) ⟨J,pY Z.2⟩ ⟨Lc,_,h1.mono hm,k2 v,a0,a5⟩ hd hdf hsz,Ext.er.trans (Ext.put (st:={st with env:=pC j st.c st.env})),rfl⟩
      ·exact .none
     ·exact .none
    ·exact .none
   ·exact .none
  ·exact .none
 ·exact .none
theorem LD{x y:Operand}{l:List (Nat×Value)}{p q:AV G}{k k':IntKind}{i W:Int}{m:M}{z:Cz}(h:H8 x y=true)(Z:evl l x=some (.int k i))(J:evl l y=some (.int k' W)):i=W:=by
 unfold H8 at h;split at h
 ·have:=Z1 h;subst this;rw[Z]at J;injection J with J;injection J
 ·have h:=of_decide_eq_true h;subst h;simp only[evl,Option.some.injEq,Value.int.injEq]at Z J;omega
 ·cases h
theorem LE (hs:Sat G P δ n W0 L0 T0 m0 st a w)(hd:Z8 d n=true):TG G P δ n W0 L0 T0 m0 st (H9 Γ st t x y d) ⟨some d,.makeSlice t x y,ty,pos,aft,g⟩ a w:=by
 obtain⟨⟨m,z,h0,W,hM⟩,hdf,hsz⟩:=hs;have a2:=hM.len;obtain⟨Lc,Tc,h1,h2,hS,a4⟩:=hM;unfold H9;split
 ·rename_i I p q _ hx hy;obtain⟨l,hE,hl⟩:=ez hdf hsz [x,y];have Z:=hl x (by simp);have h:=hl y (by simp);have hp:=bp (fD W) hx;have J:=bp (fD W) hy;split
  ·rename_i c B k i k' i' _ e1 e2;split
   ·rename_i a3;refine .two λzs a0=>?_;rw[(AV.i_rel e1 hp).1]at Z;rw[(AV.i_rel e2 J).1]at h;have:=LD (p:=p) (q:=q) (m:=m) (z:=z) a3 Z h;subst this;refine(E4 (m:=m) hE hS Z h B.hu B.hi B.hiz B.hsz B.hby B.hzR a0 (Zl (EA H7 B.by_).1) (Zl (EA H7 B.by_).2)).imp λv w' J=>?_;obtain⟨b,cs,hg,a1⟩:=J;have hB:(BC.arr c none zs).Rel G m (b,v) cs:=⟨hg,trivial⟩;exact⟨Sat.of h0 (Z6 m) (W.z (Z6 m) (Zle.pushB z _)) ⟨_,by rw[←a2.1];exact ki,rfl⟩ (gB.push h1 h2 a1 a4 hB) hd hdf hsz,Ext.push_put,rfl⟩
   ·exact .none
  ·exact .none
 ·exact .none
theorem LG (hs:Sat G P δ n W0 L0 T0 m0 st a w)(hd:Z8 d n=true):TG G P δ n W0 L0 T0 m0 st (Ia Γ st t x y d) ⟨some d,.call ⟨.builtin .copy,#[x,y],#[t,t2]⟩,ty,pos,aft,g⟩ a w:=by
 obtain⟨⟨m,z,h0,hr,hM⟩,hdf,hsz⟩:=hs;obtain⟨Lc,Tc,h1,h2,hS,a5⟩:=hM;unfold Ia;split
 ·rename_i I i q _ hx hy;obtain⟨l,hE,hl⟩:=ez hdf hsz [x,y];have a1:=hl x (by simp);have a2:=hl y (by simp);have hp:=bp (fD hr) hx;have W:=bp (fD hr) hy;split
  ·rename_i c B c' nn a6 _ hB;split
   ·rename_i xs ys e1 e2;obtain⟨e,e1⟩:=bW e1;injection e with e;subst e;subst e1;obtain⟨s,hs⟩:=iP hB;obtain⟨Z,cs,j,g1,g2,J,g4⟩:=h1.get hs;obtain⟨a9,h,g6⟩:=hp;rw[g1]at h;injection h with h;subst h;rw[g6]at a1;refine .one ((E6 hE hS a1 a2 B.hu B.hs (lg g2) J.1 (AV.as_rel e2 W)).imp λv w' W=>?_);obtain⟨rfl,cs',a0,a3⟩:=W;have a4:(BC.arr c' nn (cpy (O:=c'.den G) _ ys)).Rel G m (Z.1,Z.2) cs':=⟨a0,by have:=J.2;cases nn with
     |none=>trivial|some k=>
      have hh:=GS.len_eq J.1 a0;exact hh.trans this⟩;have:=g4 (st.c,_) Z.2 cs' a4;rw[lf g1]at this;exact⟨Sat.of h0 (Z6 m) hr (dt (P:=P) (eD (Nat.le_trans (Nat.min_le_right _ _) (GS.len J.1)))) ⟨_,Tc,this,h2,by rw[←mt g2];exact a3,a5⟩ hd hdf hsz,Ext.setB.trans (Ext.put (st:=st.setB i _)),rfl⟩
   ·exact .none
  ·exact .none
 ·exact .none
theorem N2{o:Op}{dst:Option Nat}(h:Sat G P δ n W0 L0 T0 m0 st a w)(J:∀d,dst=some d->Z8 d n=true):TG G P δ n W0 L0 T0 m0 st (Fu Γ st o dst) ⟨dst,o,ty,pos,aft,g⟩ a w:=by
 unfold Fu;split;·exact Ju h (J _ rfl)
 ·exact NZ h (J _ rfl)
 ·exact Jv h
 ·exact N0 h (J _ rfl)
 ·exact N1 h (J _ rfl)
 ·exact LG h (J _ rfl)
 ·exact LE h (J _ rfl)
 ·exact .none
end
section
variable{G:Sg}{P:Program}
def AV.thaw (i:Nat)(c:Ty)(xs:List (c.den G)):AV G->AV G
 |.own j=>if Zd i j then .dat (.sl c) xs none else .own j|b=>b
def EV.isOwn (i:Nat):EV G->Bool
 |.one (.own j)=>Zd i j|_=>false
def frz (st:St G)(i:Nat):St G:=match fm st.L i with
 |some (.arr c none xs)=>{st with env:=st.env.map λe=>if e.2.2.isOwn i then (e.1,st.c,.one (.dat (.sl c) xs none))else e,L:=sb st.L i (st.c,.gone)}|_=>st
def w9 (st:St G)(x:Operand):St G:=match av? (st.op x)with
 |some (.own i)=>frz st i|_=>st
def xa:List Pm->List Operand->St G->St G
 |.rd _::ps,x::xs,st=>xa ps xs (w9 st x)|_::ps,_::xs,st=>xa ps xs st|_,_,st=>st
def iY (Γ:Tab P G):(ps:List Pm)->List Operand->St G->Option (dH G ps×St G×List (Nat×Option Nat))
 |[],[],st=>some ((),st,[])|.rd t::ps,x::xs,st=>(match iY Γ ps xs st with
  |some (y,st',bk)=>(match av? (st'.op x)with
   |some b=>(match b.as Γ t with|some u=>some ((u,y),st',bk)|none=>none)|none=>none)|none=>none)|.ap t::ps,x::xs,st=>(match iY Γ ps xs st with
  |some (y,st',bk)=>(match av? (st'.op x)with
   |some .nils=>some (([],y),st',bk)|some (.dat t' u (some j))=>(match dR G t' (.sl t) u with
    |some u=>if fb st'.T j=some (t.kd G).sz then some ((u,y),{st' with env:=pC j st'.c st'.env},bk)else none|none=>none)|_=>none)|none=>none)|.pt t::ps,x::xs,st=>(match iY Γ ps xs st with
  |some (y,st',bk)=>(match av? (st'.op x)with
   |some (.blk i)=>(match fm st'.L i with
    |some (.dat c u)=>(match dR G c t u with|some u=>some ((u,y),st'.setB i .gone,(i,none)::bk)|none=>none)|_=>none)|_=>none)|none=>none)|.ow t::ps,x::xs,st=>(match iY Γ ps xs st with
  |some (y,st',bk)=>(match av? (st'.op x)with
   |some (.own i)=>(match fm st'.L i with
    |some (.arr c n u)=>(match dR G (.sl c) (.sl t) u with|some u=>some ((u,y),st'.setB i .gone,(i,n)::bk)|none=>none)|_=>none)|_=>none)|none=>none)|.f1 a b::ps,x::xs,st=>(match iY Γ ps xs st with
  |some (y,st',bk)=>(match av? (st'.op x)with
   |some (.fn1 a' b' f)=>if h:a'=a/\b'=b then some ((h.1▸h.2▸f,y),st',bk)else none|_=>none)|none=>none)|.f2 a c b::ps,x::xs,st=>(match iY Γ ps xs st with
  |some (y,st',bk)=>(match av? (st'.op x)with
   |some (.fn2 a' c' b' f)=>if h:a'=a/\c'=c/\b'=b then some ((h.1▸h.2.1▸h.2.2▸f,y),st',bk)else none|_=>none)|none=>none)|_,_,_=>none
def jP (G:Sg):(ps:List Pm)->List (Nat×Option Nat)->br G (ps.filterMap Pm.out)->St G->St G
 |.pt t::ps,(i,_)::bk,x,st=>jP G ps bk (tlT G t (ps.filterMap Pm.out) x) (st.setB i (.dat t (hdT G t (ps.filterMap Pm.out) x)))|.ow t::ps,(i,n)::bk,x,st=>jP G ps bk (tlT G (.sl t) (ps.filterMap Pm.out) x) (st.setB i (.arr t n (hdT G (.sl t) (ps.filterMap Pm.out) x)))|.rd _::ps,bk,x,st=>jP G ps bk x st|.ap _::ps,bk,x,st=>jP G ps bk x st|.f1 _ _::ps,bk,x,st=>jP G ps bk x st|.f2 _ _ _::ps,bk,x,st=>jP G ps bk x st|_,_,_,st=>st
def oR (G:Sg)(os:List Ty):(rs:List Rm)->br G (rs.map Rm.ty++os)->St G->List (AV G)×St G
 |[],_,st=>([],st)|.rd t::rs,x,st=>match oR G os rs (tlT G t (rs.map Rm.ty++os) x) st with|(asv,st')=>(.dat t (hdT G t (rs.map Rm.ty++os) x) none::asv,st')
 |.ap t::rs,x,st=>match oR G os rs (tlT G (.sl t) (rs.map Rm.ty++os) x) st with|(asv,st')=>(.dat (.sl t) (hdT G (.sl t) (rs.map Rm.ty++os) x) (some st'.T.length)::asv,{st' with T:=(t.kd G).sz::st'.T})
 |.ow t::rs,x,st=>match oR G os rs (tlT G (.sl t) (rs.map Rm.ty++os) x) st with|(asv,st')=>(.own st'.L.length::asv,st'.push (.arr t none (hdT G (.sl t) (rs.map Rm.ty++os) x)))
def evs:List (AV G)->EV G
 |[b]=>.one b|asv=>.tup asv
def BL:List (CS P G)->FuncId->Option (CS P G)
 |[],_=>none|c::D,f=>if Zd c.f f then some c else BL D f
def yJ (C:CS P G)(st':St G)(h:List (Nat×Option Nat))(d:Option Nat)(r:br G (gu C.ps C.rs)):St G:=match oR G (C.ps.filterMap Pm.out) C.rs r (jP G C.ps h (rest G (C.ps.filterMap Pm.out) C.rs r) st')with|(asv,st2)=>match d with|some d=>st2.put d (evs asv)|none=>st2
def Ib (Γ:Tab P G)(D:List (CS P G))(st:St G)(f:FuncId)(xs:List Operand)(d:Option Nat):Option (oQ G):=match BL D f with
 |some C=>(match iY Γ C.ps xs (xa C.ps xs st)with
  |some (x,st',bk)=>two (C.g x) (yJ C st' bk d)|none=>none)|none=>none
def Ic (Γ:Tab P G)(st:St G)(x:Operand)(xs:List Operand)(d:Nat):Option (oQ G):=match av? (st.op x),xs with
 |some (.fn1 a b f),[y]=>(match av? (st.op y)with
  |some p=>(match p.as Γ a with|some u=>two (f u) λr=>st.put d (.one (.dat b r none))|none=>none)|none=>none)|some (.fn2 a c b f),[y,y']=>(match av? (st.op y),av? (st.op y')with
  |some p,some p'=>(match p.as Γ a,p'.as Γ c with|some u,some u'=>two (f u u') λr=>st.put d (.one (.dat b r none))|_,_=>none)|_,_=>none)|_,_=>none
end
section
variable{G:Sg}{P:Program}{δ:List Nat}{n:Nat}{W0:Bse}{L0:Rs}{T0:List (Nat×Value)}{m0:M}{st:St G}{a:Act}{w:World}{Γ:Tab P G}{ty t t2:TypeId}{pos:String}{aft:Array Edge}{g:Option (Nat×Bool)}
theorem we{O:Type}{A B C:List O}{j:Nat}{x y:O}(h:B[j]?=some y):(A++(B++C)).set (A.length+j) x=A++(B.set j x++C):=by rw[Zw _ _ (by omega),Zi,mt h]
theorem wg{O:Type}{A B C:List O}{j:Nat}{y:O}(h:B[j]?=some y):(A++(B++C))[A.length+j]?=some y:=by rw[zx (by omega),Zi];exact lg h
structure MF (G:Sg)(P:Program)(W0:Bse)(L0:Rs)(T0:List (Nat×Value))(a:Act)(w:World)(m:M)(z:Cz)(st:St G)(Lp:List (Nat×List Value))(Tp:List (Nat×Value)):Prop where
 env:kI G P m z st.env a
 mem:∃Lc Tc,LR G m st.L z.b Lc/\TRl st.T z.t Tc/\S W0 m w (Lp++(Lc++L0.l)) (Tp++(Tc++T0))/\Sfx z.b L0.nm
theorem LH{m m':M}{z:Cz}{i:Nat}{c:Ty}{xs:List (c.den G)}{p:Nat×Value}{env:List (Nat×Nat×EV G)}{s:Nat}(hz:fb z.b i=some p)(hm:M.le m m')(hv:RV (kSl (c.kd G)) m' p.2 xs)(h:kI G P m z env a):kI G P m' z (env.map λe=>if e.2.2.isOwn i then (e.1,s,.one (.dat (.sl c) xs none))else e) a:=by
 intro e he;obtain⟨e0,h0,rfl⟩:=Zs.1 he;have Z:=h e0 h0;split
 ·rename_i J;show(RV (kSl (c.kd G)) m' (a.tmps.getD e0.1 undef) xs)/\True;cases hb:e0.2.2 with
  |tup asv=>rw[hb]at J;simp[EV.isOwn]at J|one b=>
   rw[hb]at J Z;cases b<;>simp[EV.isOwn]at J;subst J;obtain⟨p',W,h2⟩:=Z;rw[hz]at W;injection W with W;subst W;rw[h2];exact⟨hv,trivial⟩
 ·exact Z.mono hm
theorem PC{m:M}{z:Cz}{i:Nat}(h:MF G P W0 L0 T0 a w m z st [] []):∃m',M.le m m'/\MF G P W0 L0 T0 a w m' z (frz st i) [] []/\Ext st.c st (frz st i)/\(frz st i).c=st.c:=by
 unfold frz;split
 ·rename_i c xs hB;obtain⟨hr,Lc,Z,J,h2,hS,a3⟩:=h;obtain⟨s,W⟩:=iP hB;obtain⟨p',cs,j,g1,g2,g3,g4⟩:=J.get W;have a1:S W0 m w (Lc++L0.l) (Z++T0):=hS;have a0:=S.takeL a1 (lg g2);rw[mt g2]at a0;obtain⟨m',hm,a2,hv⟩:=S.freeze a0 g3.1;refine⟨m',hm,⟨LH g1 hm hv hr,_,Z,?_,h2,a2,a3⟩,?_,rfl⟩
  ·have:=(g4 (st.c,BC.gone) p'.2 [] rfl).mono hm;rw[lf g1]at this;exact this
  ·refine⟨λk hk e he hl=>?_,λk hk i s B hb W=>?_⟩
   ·obtain⟨e0,h0,rfl⟩:=Zs.1 he;split at hl;·simp only at hl;omega
    ·rename_i ho;rw[if_neg ho];exact⟨e0.2.1,hl,h0⟩
   ·rcases MX hb with⟨_,J⟩|⟨_,h⟩;·injection J with J _;omega
    ·exact⟨s,W,h⟩
 ·exact⟨m,Z6 m,h,Ext.refl _ _,rfl⟩
theorem Hl{m:M}{z:Cz}{x:Operand}(h:MF G P W0 L0 T0 a w m z st [] []):∃m',M.le m m'/\MF G P W0 L0 T0 a w m' z (w9 st x) [] []/\Ext st.c st (w9 st x)/\(w9 st x).c=st.c:=by
 unfold w9;split;·exact PC h
 ·exact⟨m,Z6 m,h,Ext.refl _ _,rfl⟩
theorem A7{m:M}{z:Cz}:∀{ps:List Pm}{xs:List Operand}{st:St G}{m:M},MF G P W0 L0 T0 a w m z st [] []->∃m',M.le m m'/\MF G P W0 L0 T0 a w m' z (xa ps xs st) [] []/\Ext st.c st (xa ps xs st)/\(xa ps xs st).c=st.c:=by
 intro ps;induction ps with
 |nil=>intro xs st m h;cases xs<;>exact⟨m,Z6 m,h,Ext.refl _ _,rfl⟩|cons p ps ih=>intro xs st m h;cases xs with
  |nil=>cases p<;>exact⟨m,Z6 m,h,Ext.refl _ _,rfl⟩|cons x xs=>cases p with
   |rd t=>obtain⟨m1,h1,Z,h3,h4⟩:=Hl (x:=x) h;obtain⟨m2,k1,k2,J,W⟩:=ih (xs:=xs) Z;rw[h4]at J W;exact⟨m2,h1.trans k1,k2,h3.trans J,W⟩|_=>exact ih h
def BK (G:Sg)(z:Cz)(Ls:List (Nat×BC G)):List Pm->List (Nat×Option Nat)->List Value->List (Nat×List Value)->Prop
 |[],[],_,[]=>True|.pt t::ps,(i,_)::bk,v::vs,e::Lp=>(∃sv s,fb z.b i=some (e.1,sv)/\fb Ls i=some (s,.gone))/\(∀q∈bk,q.1≠i)/\BK G z Ls ps bk vs Lp|.ow t::ps,(i,n)::bk,v::vs,e::Lp=>(∃s,fb z.b i=some (e.1,v)/\fb Ls i=some (s,.gone))/\(∀q∈bk,q.1≠i)/\(∃m cs,∃xs:List (t.den G),GS (t.kd G) m e.1 cs v xs/\(match n with|none=>True|some k=>xs.length=k))/\BK G z Ls ps bk vs Lp|.rd _::ps,bk,_::vs,Lp=>BK G z Ls ps bk vs Lp|.ap _::ps,bk,_::vs,Lp=>BK G z Ls ps bk vs Lp|.f1 _ _::ps,bk,_::vs,Lp=>BK G z Ls ps bk vs Lp|.f2 _ _ _::ps,bk,_::vs,Lp=>BK G z Ls ps bk vs Lp|_,_,_,_=>False
theorem BK.gone{z:Cz}{Ls:List (Nat×BC G)}:∀{ps:List Pm}{W:List (Nat×Option Nat)}{vs:List Value}{Lp:List (Nat×List Value)},BK G z Ls ps W vs Lp->∀q∈W,∃s,fb Ls q.1=some (s,.gone):=by
 intro ps;induction ps with
 |nil=>intro W vs Lp h q J;cases W with|nil=>cases J|cons b W=>exact h.elim
 |cons p ps ih=>intro W vs Lp h q J;cases p with
  |pt t=>cases W with
   |nil=>cases J|cons b W=>cases vs with
    |nil=>exact h.elim|cons v vs=>cases Lp with
     |nil=>exact h.elim|cons e Lp=>
      obtain⟨⟨sv,s,_,Z⟩,_,h2⟩:=h;rcases Z5.1 J with rfl|J;·exact⟨s,Z⟩
      ·exact ih h2 q J
  |ow t=>cases W with
   |nil=>cases J|cons b W=>cases vs with
    |nil=>exact h.elim|cons v vs=>cases Lp with
     |nil=>exact h.elim|cons e Lp=>
      obtain⟨⟨s,_,Z⟩,_,_,h2⟩:=h;rcases Z5.1 J with rfl|J;·exact⟨s,Z⟩
      ·exact ih h2 q J
  |_=>cases vs with
   |nil=>cases W<;>exact h.elim|cons v vs=>exact ih h q J
theorem BK.other{z:Cz}{Ls:List (Nat×BC G)}{i:Nat}{B:Nat×BC G}:∀{ps:List Pm}{J:List (Nat×Option Nat)}{vs:List Value}{Lp:List (Nat×List Value)},BK G z Ls ps J vs Lp->(∀q∈J,q.1≠i)->BK G z (sb Ls i B) ps J vs Lp:=by
 intro ps;induction ps with
 |nil=>intro J vs Lp h _;cases J<;>cases Lp<;>first|exact h|exact h.elim
 |cons p ps ih=>intro J vs Lp h W;cases p with
  |pt t=>cases J with
   |nil=>cases vs<;>cases Lp<;>exact h.elim|cons b J=>cases vs with
    |nil=>exact h.elim|cons v vs=>cases Lp with
     |nil=>exact h.elim|cons e Lp=>obtain⟨⟨sv,s,h0,Z⟩,h2,h3⟩:=h;exact⟨⟨sv,s,h0,by rw[kG (λx=>W b (by simp) x.symm)];exact Z⟩,h2,ih h3 λq hq=>W q (by simp[hq])⟩
  |ow t=>cases J with
   |nil=>cases vs<;>cases Lp<;>exact h.elim|cons b J=>cases vs with
    |nil=>exact h.elim|cons v vs=>cases Lp with
     |nil=>exact h.elim|cons e Lp=>obtain⟨⟨s,h0,Z⟩,h2,h4,h3⟩:=h;exact⟨⟨s,h0,by rw[kG (λx=>W b (by simp) x.symm)];exact Z⟩,h2,h4,ih h3 λq hq=>W q (by simp[hq])⟩
  |_=>cases vs with
   |nil=>cases J<;>exact h.elim|cons v vs=>exact ih h W
theorem A8{m:M}{z:Cz}(h:MF G P W0 L0 T0 a w m z st [] []):∀{ps:List Pm}{xs:List Operand}{y:dH G ps}{st':St G}{bk:List (Nat×Option Nat)},iY Γ ps xs st=some (y,st',bk)->∃z' Lp Tp,z'.b=z.b/\MF G P W0 L0 T0 a w m z' st' Lp Tp/\kH G P m ps (xs.map a.eval) y Lp Tp/\BK G z' st'.L ps bk (xs.map a.eval) Lp/\Ext st.c st st'/\st'.c=st.c:=by
 intro ps;induction ps with
 |nil=>intro xs y st' bk J;cases xs with
  |cons x xs=>simp[iY]at J|nil=>simp only[iY,Option.some.injEq,Prod.mk.injEq]at J;obtain⟨_,rfl,rfl⟩:=J;exact⟨z,[],[],rfl,h,trivial,trivial,Ext.refl _ _,rfl⟩
 |cons p ps ih=>intro xs y st' bk J;cases xs with
  |nil=>cases p<;>simp[iY]at J|cons x xs=>cases hr:iY Γ ps xs st with
   |none=>cases p<;>simp[iY,hr]at J|some q=>obtain⟨y1,a0,a6⟩:=q;obtain⟨z1,Lp,Tp,hz,hM,hP,hK,hx,hc⟩:=ih hr;obtain⟨hE,Lc,Tc,h1,h2,hS,a3⟩:=hM;have a2:∀b,av? (a0.op x)=some b->b.Rel G P m z1 (a.eval x):=λb W=>bp (fD hE) W;cases p with
    |rd t=>
     simp only[iY,hr]at J;split at J
     ·rename_i b W;split at J
      ·rename_i u Z;simp only[Option.some.injEq,Prod.mk.injEq]at J;obtain⟨rfl,rfl,rfl⟩:=J;exact⟨z1,Lp,Tp,hz,⟨hE,Lc,Tc,h1,h2,hS,a3⟩,⟨AV.as_rel Z (a2 b W),hP⟩,hK,hx,hc⟩
      ·cases J
     ·cases J|ap t=>
     simp only[iY,hr]at J;split at J
     ·rename_i W;simp only[Option.some.injEq,Prod.mk.injEq]at J;obtain⟨rfl,rfl,rfl⟩:=J;have hv:a.eval x=.slice none 0 0:=a2 _ W;refine⟨z1,Lp,((t.kd G).sz,.slice none 0 0)::Tp,hz,⟨hE,Lc,Tc,h1,h2,hS.tail0 _,a3⟩,?_,hK,hx,hc⟩;show RV _ m (a.eval x) _/\_/\_;rw[hv];exact⟨dK,rfl,hP⟩
     ·rename_i t' u j W;split at J
      ·rename_i u' Z;obtain⟨e,Z⟩:=bW Z;subst e;subst Z;split at J
       ·rename_i hj;simp only[Option.some.injEq,Prod.mk.injEq]at J;obtain⟨rfl,rfl,rfl⟩:=J;have hv:=a2 _ W;obtain⟨i,k1,k2⟩:=h2.get hj hv.2;have a1:=S.takeT hS (wg k1);rw[we k1]at a1;refine⟨⟨z1.b,sb z1.t j (.slice none 0 0)⟩,Lp,((t.kd G).sz,a.eval x)::Tp,hz,⟨uS hE,Lc,_,h1,k2 _,a1,a3⟩,⟨hv.1,rfl,hP⟩,?_,hx.trans ?_,hc⟩
        ·show BK G _ a0.L ps _ _ Lp;clear hP hr;revert hK;have:∀{ps:List Pm}{bk:List (Nat×Option Nat)}{vs:List Value}{Lp:List (Nat×List Value)},BK G z1 a0.L ps bk vs Lp->BK G ⟨z1.b,sb z1.t j (.slice none 0 0)⟩ a0.L ps bk vs Lp:=by
          intro ps;induction ps with
          |nil=>intro bk vs Lp h;cases bk<;>cases Lp<;>first|exact h|exact h.elim
          |cons p ps ih=>intro bk vs Lp h;cases p with
           |pt t=>cases bk<;>cases vs<;>cases Lp<;>first|exact h.elim|exact⟨h.1,h.2.1,ih h.2.2⟩
           |ow t=>cases bk<;>cases vs<;>cases Lp<;>first|exact h.elim|exact⟨h.1,h.2.1,h.2.2.1,ih h.2.2.2⟩
           |_=>cases vs with
            |nil=>cases bk<;>exact h.elim|cons v vs=>exact ih h
         exact this
        ·have:=Ext.er (st:=a0) (j:=j);rw[hc]at this⊢;exact this
       ·cases J
      ·cases J
     ·cases J|pt t=>
     simp only[iY,hr]at J;split at J
     ·rename_i i W;split at J
      ·rename_i c u hB;split at J
       ·rename_i u' Z;obtain⟨e,Z⟩:=bW Z;subst e;subst Z;simp only[Option.some.injEq,Prod.mk.injEq]at J;obtain⟨rfl,rfl,rfl⟩:=J;obtain⟨p,g5,g6⟩:=a2 _ W;obtain⟨s,hs⟩:=iP hB;obtain⟨p',cs,j,g1,g2,g3,g4⟩:=h1.get hs;rw[g1]at g5;injection g5 with g5;subst g5;have a1:=S.takeL hS (wg g2);rw[we g2]at a1;have hL:=g4 (a0.c,BC.gone) p'.2 [] rfl;rw[lf g1]at hL;have a4:∀q∈a6,q.1≠i:=λq hq e=>by obtain⟨s',hg⟩:=hK.gone q hq;rw[e,hs]at hg;injection hg with hg;injection hg with _ hg;cases hg
        refine⟨z1,(p'.1,cs)::Lp,Tp,hz,⟨hE,_,Tc,hL,h2,a1,a3⟩,⟨g3,g6,hP⟩,⟨⟨p'.2,a0.c,g1,pY hs⟩,a4,hK.other a4⟩,hx.trans ?_,hc⟩;have:=Ext.setB (st:=a0) (i:=i) (B:=.gone);rw[hc]at this;exact this
       ·cases J
      ·cases J
     ·cases J|ow t=>
     simp only[iY,hr]at J;split at J
     ·rename_i i W;split at J
      ·rename_i c nn u hB;split at J
       ·rename_i u' Z;obtain⟨e,Z⟩:=bW Z;injection e with e;subst e;subst Z;simp only[Option.some.injEq,Prod.mk.injEq]at J;obtain⟨rfl,rfl,rfl⟩:=J;obtain⟨p,g5,g6⟩:=a2 _ W;obtain⟨s,hs⟩:=iP hB;obtain⟨p',cs,j,g1,g2,g3,g4⟩:=h1.get hs;rw[g1]at g5;injection g5 with g5;subst g5;have a1:=S.takeL hS (wg g2);rw[we g2]at a1;have hL:=g4 (a0.c,BC.gone) p'.2 [] rfl;rw[lf g1]at hL;have a4:∀q∈a6,q.1≠i:=λq hq e=>by obtain⟨s',hg⟩:=hK.gone q hq;rw[e,hs]at hg;injection hg with hg;injection hg with _ hg;cases hg
        have a5:=g3.1;rw[←g6]at a5;refine⟨z1,(p'.1,cs)::Lp,Tp,hz,⟨hE,_,Tc,hL,h2,a1,a3⟩,⟨a5,hP⟩,⟨⟨a0.c,by rw[g1,g6],pY hs⟩,a4,⟨m,cs,_,a5,g3.2⟩,hK.other a4⟩,hx.trans ?_,hc⟩;have:=Ext.setB (st:=a0) (i:=i) (B:=.gone);rw[hc]at this;exact this
       ·cases J
      ·cases J
     ·cases J|f1 b c=>
     simp only[iY,hr]at J;split at J
     ·rename_i a' b' f W;split at J
      ·rename_i hh;obtain⟨rfl,rfl⟩:=hh;simp only[Option.some.injEq,Prod.mk.injEq]at J;obtain⟨rfl,rfl,rfl⟩:=J;exact⟨z1,Lp,Tp,hz,⟨hE,Lc,Tc,h1,h2,hS,a3⟩,⟨a2 _ W,hP⟩,hK,hx,hc⟩
      ·cases J
     ·cases J|f2 b c d=>
     simp only[iY,hr]at J;split at J
     ·rename_i a' c' b' f W;split at J
      ·rename_i hh;obtain⟨rfl,rfl,rfl⟩:=hh;simp only[Option.some.injEq,Prod.mk.injEq]at J;obtain⟨rfl,rfl,rfl⟩:=J;exact⟨z1,Lp,Tp,hz,⟨hE,Lc,Tc,h1,h2,hS,a3⟩,⟨a2 _ W,hP⟩,hK,hx,hc⟩
      ·cases J
     ·cases J
end
section
variable{G:Sg}{P:Program}{δ:List Nat}{n:Nat}{W0:Bse}{L0:Rs}{T0:List (Nat×Value)}{m0:M}{st:St G}{a:Act}{w:World}{Γ:Tab P G}{ty t t2:TypeId}{pos:String}{aft:Array Edge}{g:Option (Nat×Bool)}
theorem N3{L0:List (Nat×List Value)}{m:M}{z:Cz}{TL:List (Nat×Value)}:∀{ps:List Pm}{J:List (Nat×Option Nat)}{vs:List Value}{Lp Lp' Lc:List (Nat×List Value)}{x:br G (ps.filterMap Pm.out)}{st:St G},BK G z st.L ps J vs Lp->i9 G m ps vs x Lp Lp'->LR G m st.L z.b Lc->S W0 m w (Lp'++(Lc++L0)) TL->∃a0,LR G m (jP G ps J x st).L z.b a0/\S W0 m w (a0++L0) TL/\(jP G ps J x st).env=st.env/\(jP G ps J x st).T=st.T/\(jP G ps J x st).c=st.c/\Ext st.c st (jP G ps J x st):=by
 intro ps;induction ps with
 |nil=>intro J vs Lp Lp' Lc x st h W hL hS;cases J<;>cases Lp<;>cases Lp'<;>first|exact h.elim|exact W.elim|exact⟨Lc,hL,hS,rfl,rfl,rfl,Ext.refl _ _⟩
 |cons p ps ih=>intro J vs Lp Lp' Lc x st h W hL hS;cases p with
  |pt t=>cases J with
   |nil=>cases vs<;>cases Lp<;>exact h.elim|cons b J=>cases vs with
    |nil=>exact h.elim|cons v vs=>cases Lp with
     |nil=>exact h.elim|cons e Lp=>cases Lp' with
      |nil=>exact W.elim|cons e' Lp'=>
       obtain⟨⟨sv,s,k1,k2⟩,hne,h⟩:=h;obtain⟨o1,o2,W⟩:=W;obtain⟨p',cs,j,Z,g2,g3,g4⟩:=hL.get k2;rw[k1]at Z;injection Z with Z;subst Z;have a3:cs=[]:=g3;subst a3;have hB:(BC.dat t (hdT G t (ps.filterMap Pm.out) x)).Rel G m (e.1,sv) e'.2:=o2;have a2:=g4 (st.c,_) sv e'.2 hB;rw[lf k1]at a2;have a4:S W0 m w (e'::(Lp'++(Lc++L0))) TL:=hS;have a1:=S.putL a4 (wg g2);rw[we g2,show e'=(e.1,e'.2)from by rw[←o1]]at a1;obtain⟨a0,r1,r2,r3,r4,r5,r6⟩:=ih (st:=st.setB b.1 (.dat t (hdT G t (ps.filterMap Pm.out) x))) (h.other hne) W a2 a1;exact⟨a0,r1,r2,r3,r4,r5,Ext.setB.trans r6⟩
  |ow t=>cases J with
   |nil=>cases vs<;>cases Lp<;>exact h.elim|cons b J=>cases vs with
    |nil=>exact h.elim|cons v vs=>cases Lp with
     |nil=>exact h.elim|cons e Lp=>cases Lp' with
      |nil=>exact W.elim|cons e' Lp'=>
       obtain⟨⟨s,k1,k2⟩,hne,⟨mm,a5,xs,k3,k4⟩,h⟩:=h;obtain⟨o1,o2,W⟩:=W;obtain⟨p',cs,j,Z,g2,g3,g4⟩:=hL.get k2;rw[k1]at Z;injection Z with Z;subst Z;have a3:cs=[]:=g3;subst a3;rw[o1]at o2;have hB:(BC.arr t b.2 (hdT G (.sl t) (ps.filterMap Pm.out) x)).Rel G m (e.1,v) e'.2:=⟨o2,by revert k4;cases b.2 with
        |none=>intro _;trivial|some k=>intro k4;exact(GS.len_eq k3 o2).trans k4⟩;have a2:=g4 (st.c,_) v e'.2 hB;rw[lf k1]at a2;have a4:S W0 m w (e'::(Lp'++(Lc++L0))) TL:=hS;have a1:=S.putL a4 (wg g2);rw[we g2,show e'=(e.1,e'.2)from by rw[←o1]]at a1;obtain⟨a0,r1,r2,r3,r4,r5,r6⟩:=ih (st:=st.setB b.1 (.arr t b.2 (hdT G (.sl t) (ps.filterMap Pm.out) x))) (h.other hne) W a2 a1;exact⟨a0,r1,r2,r3,r4,r5,Ext.setB.trans r6⟩
  |_=>cases vs with
   |nil=>cases J<;>exact h.elim|cons v vs=>exact ih h W hL hS
theorem Zle.trans{W z2 J:Cz}(h:Zle W z2)(k:Zle z2 J):Zle W J:=⟨λi p hp=>k.b i p (h.b i p hp),λj v Z=>k.t j v (h.t j v Z)⟩
theorem ry.z{m:M}{z z':Cz}{J:List (AV G)}{vs:List Value}(h:ry G P m z J vs)(W:Zle z z'):ry G P m z' J vs:=by induction J generalizing vs with
 |nil=>cases vs<;>exact h|cons b J ih=>cases vs with
  |nil=>exact h|cons v vs=>exact⟨h.1.z W,ih h.2⟩
theorem PD{os:List Ty}{m:M}:∀{rs:List Rm}{us:List Value}{x:br G (rs.map Rm.ty++os)}{Lr:List (Nat×List Value)}{Tr:List (Nat×Value)}{st:St G}{z:Cz}{Lc:List (Nat×List Value)}{Tc:List (Nat×Value)},nw G m os rs us x Lr Tr->LR G m st.L z.b Lc->TRl st.T z.t Tc->∃z',Zle z z'/\LR G m (oR G os rs x st).2.L z'.b (Lr++Lc)/\TRl (oR G os rs x st).2.T z'.t (Tr++Tc)/\ry G P m z' (oR G os rs x st).1 us/\(oR G os rs x st).2.env=st.env/\(oR G os rs x st).2.c=st.c/\Ext st.c st (oR G os rs x st).2/\∀{s:List (Nat×Value)},Sfx z.b s->Sfx z'.b s:=by
 intro rs;induction rs with
 |nil=>intro us x Lr Tr st z Lc Tc h h1 h2;cases us<;>cases Lr<;>cases Tr<;>first|exact h.elim|exact⟨z,Zle.refl z,h1,h2,trivial,rfl,rfl,Ext.refl _ _,λh=>h⟩
 |cons r rs ih=>intro us x Lr Tr st z Lc Tc h h1 h2;cases us with
  |nil=>cases r<;>exact h.elim|cons u us=>cases r with
   |rd t=>obtain⟨k1,k2⟩:=h;obtain⟨z',r1,Z,r3,r4,r5,J,W,r8⟩:=ih k2 h1 h2;exact⟨z',r1,Z,r3,⟨⟨k1,trivial⟩,r4⟩,r5,J,W,r8⟩|ap t=>cases Tr with
    |nil=>exact h.elim|cons e Tr=>
     obtain⟨k1,rfl,k2⟩:=h;obtain⟨z',r1,Z,r3,r4,r5,J,W,r8⟩:=ih k2 h1 h2;have hz:=Zle.pushT z' u;refine⟨⟨z'.b,u::z'.t⟩,r1.trans hz,Z,⟨rfl,r3⟩,⟨⟨k1,?_⟩,r4.z hz⟩,r5,J,?_,r8⟩
     ·show fb (u::z'.t) _=some u;rw[←r3.len.1];exact ki
     ·rw[←J]at W⊢;exact W.trans (Ext.envL (st:=(oR G os rs _ st).2) rfl rfl)
   |ow t=>cases Lr with
    |nil=>exact h.elim|cons e Lr=>
     obtain⟨k1,k2⟩:=h;obtain⟨z',r1,Z,r3,r4,r5,J,W,r8⟩:=ih k2 h1 h2;have hz:=Zle.pushB z' (e.1,u);refine⟨⟨(e.1,u)::z'.b,z'.t⟩,r1.trans hz,⟨rfl,⟨k1,trivial⟩,Z⟩,r3,⟨⟨(e.1,u),?_,rfl⟩,r4.z hz⟩,r5,J,?_,λh=>(r8 h).cons⟩;·rw[←Z.len.1];exact ki
     ·rw[←J]at W⊢;exact W.trans Ext.push
theorem Hm{m:M}{z:Cz}{J:List (AV G)}{us:List Value}(h:ry G P m z J us):(evs J).Rel G P m z (tup us):=by match J,us,h with
 |[],[],_=>exact⟨[],rfl,trivial⟩|[b],[u],h=>exact h.1|b::b'::J,u::u'::us,h=>exact⟨_,rfl,h⟩|[b],[],h=>exact h.elim|[b],_::_::_,h=>exact h.2.elim|[],_::_,h=>exact h.elim|_::_::_,[],h=>exact h.elim|_::_::_,[_],h=>exact h.2.elim
theorem Hn{D:List (CS P G)}{f:FuncId}{C:CS P G}(h:BL D f=some C):C.f=f:=by induction D with
 |nil=>cases h|cons c D ih=>
  simp only[BL]at h;split at h
  ·rename_i J;injection h with h;subst h;exact Z1 J
  ·exact ih h
theorem xb{l:List (Nat×Value)}{a:Act}{xs:List Operand}(h:∀x∈xs,evl l x=some (a.eval x)):vq l xs.toArray=some (xs.map a.eval):=by
 unfold vq;simp only;induction xs with
 |nil=>rfl|cons x xs ih=>simp[h x (by simp),ih λy J=>h y (by simp[J])]
theorem LI{D:List (CS P G)}{f:FuncId}{xs:List Operand}{a4:Array TypeId}{d:Option Nat}(hs:Sat G P δ n W0 L0 T0 m0 st a w)(hd:∀e,d=some e->Z8 e n=true):TG G P δ n W0 L0 T0 m0 st (Ib Γ D st f xs d) ⟨d,.call ⟨.value (.func f),xs.toArray,a4⟩,ty,pos,aft,g⟩ a w:=by
 obtain⟨⟨m,z,h0,hr,hM⟩,hdf,hsz⟩:=hs;obtain⟨Lc,Tc,h1,h2,hS,c4⟩:=hM;unfold Ib;split
 ·rename_i C hC;have hf:=Hn hC;subst hf;obtain⟨m1,b0,hF,b4,b2⟩:=A7 (G:=G) (P:=P) (L0:=L0) (T0:=T0) (ps:=C.ps) (xs:=xs) (st:=st) (m:=m) (z:=z) ⟨hr,Lc,Tc,h1,h2,hS,c4⟩;split
  ·rename_i y st' W h;obtain⟨z',Lp,Tp,hz,c3,hP,hK,hx,hc⟩:=A8 hF h;obtain⟨b5,J,a1,k1,k2,c0,b6⟩:=c3;refine .two λr c1=>?_;have c2:=C.ok W0 m1 w (J++L0.l) (a1++T0) (xs.map a.eval) y r Lp Tp c0 hP c1;obtain⟨l,hE,hl⟩:=ez hdf hsz xs;have b7:∀v w',(∃(m':M) (us:List Value) (Lr Lp':List (Nat×List Value)) (Tr:List (Nat×Value)),M.le m1 m'/\S W0 m' w' (Lr++(Lp'++(J++L0.l))) (Tr++(a1++T0))/\v=tup us/\nw G m' (C.ps.filterMap Pm.out) C.rs us r Lr Tr/\i9 G m' C.ps (xs.map a.eval) (rest G (C.ps.filterMap Pm.out) C.rs r) Lp Lp')->Sat G P δ n W0 L0 T0 m0 (yJ C st' W d r) (a.put d v) w'/\Ext st.c st (yJ C st' W d r)/\(yJ C st' W d r).c=st.c:=by
    rintro v w'⟨m',us,Lr,Lp',Tr,a2,b1,rfl,hR,hO⟩;have d0:S W0 m' w' (Lp'++(J++(L0.l))) (Tr++(a1++T0)):=by have:=b1.dropL Lr.length;rw[List.drop_left]at this;exact this
    have c7:S W0 m' w' (Lp'++(J++(L0.l++Lr))) (Tr++(a1++T0)):=by
     refine b1.selL _ (λi=>if i<Lp'.length+J.length+L0.l.length then Lr.length+i else if i<Lp'.length+J.length+L0.l.length+Lr.length then i-(Lp'.length+J.length+L0.l.length)else i) (λi e h=>?_) (λi j Z=>?_)
     ·by_cases hi:i<Lp'.length+J.length+L0.l.length
      ·rw[if_pos hi,zx (by omega),Zi];rw[show Lp'++(J++(L0.l++Lr))=(Lp'++(J++L0.l))++Lr by simp,Z2 (by simp;omega)]at h;exact h
      ·rw[if_neg hi];rw[show Lp'++(J++(L0.l++Lr))=(Lp'++(J++L0.l))++Lr by simp,zx (by simp;omega)]at h;simp only[Zf]at h;have b3:i-(Lp'.length+(J.length+L0.l.length))<Lr.length:=(j6.1 h).1;rw[if_pos (by omega),Z2 (by omega),←Nat.add_assoc]at*;exact h
     ·split at Z<;>split at Z<;>(try split at Z)<;>(try split at Z)<;>omega
    obtain⟨a0,q1,q2,q3,q4,q5,q6⟩:=N3 (L0:=L0.l++Lr) hK hO (k1.mono a2) c7;have c6:TRl (jP G C.ps W (rest G (C.ps.filterMap Pm.out) C.rs r) st').T z'.t a1:=by rw[q4];exact k2
    obtain⟨z2,p1,p2,p3,p4,p5,p6,p7,p8⟩:=PD (P:=P) hR q1 c6;have c5:S W0 m' w' ((Lr++a0)++L0.l) ((Tr++a1)++T0):=by
     rw[Z4 Tr];refine q2.selL _ (λi=>if i<Lr.length then a0.length+L0.l.length+i else if i<Lr.length+a0.length+L0.l.length then i-Lr.length else i) (λi e h=>?_) (λi j Z=>?_)
     ·by_cases hi:i<Lr.length
      ·rw[if_pos hi];rw[Z4,Z2 hi]at h;rw[show a0++(L0.l++Lr)=(a0++L0.l)++Lr by simp,zx (by simp),Zf,Zi];exact h
      ·rw[if_neg hi];rw[Z4,zx (by omega)]at h;have b3:i-Lr.length<(a0++L0.l).length:=(j6.1 h).1;simp only[Zf]at b3;rw[if_pos (by omega),show a0++(L0.l++Lr)=(a0++L0.l)++Lr by simp,Z2 (by simp;omega)];exact h
     ·split at Z<;>split at Z<;>(try split at Z)<;>(try split at Z)<;>omega
    have a6:kI G P m' z2 (oR G (C.ps.filterMap Pm.out) C.rs r (jP G C.ps W (rest G (C.ps.filterMap Pm.out) C.rs r) st')).2.env a:=by rw[p5,q3];exact b5.z a2 p1
    have hX:Ext st.c st (oR G (C.ps.filterMap Pm.out) C.rs r (jP G C.ps W (rest G (C.ps.filterMap Pm.out) C.rs r) st')).2:=by rw[b2]at hx hc;rw[hc]at q5 q6;rw[q5]at p7;exact b4.trans (hx.trans (q6.trans p7))
    have a5:(oR G (C.ps.filterMap Pm.out) C.rs r (jP G C.ps W (rest G (C.ps.filterMap Pm.out) C.rs r) st')).2.c=st.c:=by rw[p6,q5,hc,b2]
    have a9:gB G W0 L0 T0 (oR G (C.ps.filterMap Pm.out) C.rs r (jP G C.ps W (rest G (C.ps.filterMap Pm.out) C.rs r) st')).2.L (oR G (C.ps.filterMap Pm.out) C.rs r (jP G C.ps W (rest G (C.ps.filterMap Pm.out) C.rs r) st')).2.T m' z2 w':=⟨_,_,p2,p3,c5,p8 b6⟩;unfold yJ;cases d with
    |none=>exact⟨Sat.of0 h0 (b0.trans a2) a6 a9 hdf hsz,hX,a5⟩|some d=>refine⟨Sat.of h0 (b0.trans a2) a6 (Hm p4) a9 (hd d rfl) hdf hsz,hX.trans ?_,a5⟩;rw[←a5];exact Ext.put
   have a3:a8 P ⟨d,.call ⟨.value (.func C.f),xs.toArray,a4⟩,ty,pos,aft,g⟩ a w (λv w'=>∃(m':M) (us:List Value) (Lr Lp':List (Nat×List Value)) (Tr:List (Nat×Value)),M.le m1 m'/\S W0 m' w' (Lr++(Lp'++(J++L0.l))) (Tr++(a1++T0))/\v=tup us/\nw G m' (C.ps.filterMap Pm.out) C.rs us r Lr Tr/\i9 G m' C.ps (xs.map a.eval) (rest G (C.ps.filterMap Pm.out) C.rs r) Lp Lp'):=by
    intro ro Kk Q hk;have a3:(execOp a.eval ⟨d,.call ⟨.value (.func C.f),xs.toArray,a4⟩,ty,pos,aft,g⟩).run P w=.ok (.enter C.f (xs.map a.eval).toArray) w:=by simp[execOp,resolve,Act.eval,Deferred.ofValue,invoke,gU hE (xb hl),C.hc]
    refine uO a3 (c2.mono λe w' h=>?_);cases e with
    |returned v=>exact hk v w' h|panicked ch=>exact h.elim|outgrown=>exact h.elim
   exact a3.imp b7
  ·exact .none
 ·exact .none
end
section
variable{G:Sg}{P:Program}
def zZ (n:Nat):Option Nat->Bool
 |some d=>Z8 d n|none=>true
def Id (n:Nat)(Γ:Tab P G)(st:St G)(op:Op)(dst:Option Nat):Option (oQ G):=match dst with
 |some d=>(match BG Γ st.op (fm st.L) op with
  |some R=>some ⟨R.β,R.mv,λb=>st.put d (R.k b)⟩|none=>none)|none=>none
def BM (n:Nat)(Γ:Tab P G)(st:St G)(op:Op)(dst:Option Nat):Option (oQ G):=match Id n Γ st op dst with
 |some R=>some R|none=>Fu Γ st op dst
def Fw:List Operand->St G->St G
 |[],st=>st|x::xs,st=>Fw xs (w9 st x)
def Fy (n:Nat)(Γ:Tab P G)(D:List (CS P G))(st:St G)(op:Op)(dst:Option Nat):Option (oQ G):=match op with
 |.call ⟨.value (.func f),⟨xs⟩,_⟩=>Ib Γ D st f xs dst|.call ⟨.value x,⟨xs⟩,_⟩=>(match dst with|some d=>Ic Γ st x xs d|none=>none)|op=>(match BM n Γ st op dst with
  |some R=>some R|none=>BM n Γ (Fw op.operands.toList st) op dst)
def BN{ρ:Type}(n:Nat)(Γ:Tab P G)(D:List (CS P G))(o:Oper)(st:St G)(K:St G->Option ρ):Option ρ:=match zZ n o.dst with
 |true=>(match Fy n Γ D st o.op o.dst with
  |some R=>R.mv.bind λb=>K (R.k b)|none=>none)|false=>none
def yK{ρ:Type}(n:Nat)(o:Oper)(st:St G)(K:St G->Option ρ):Option ρ:=match o.dst with
 |some d=>(match Z8 d n with|true=>K (st.put d (.one .und))|false=>none)|none=>K st
def AV.g?:AV G->Option (Option Bool)
 |.dat .bool x none=>some (some x)|.und=>some none|_=>none
def gd (e:Option (EV G)):Option (Option Bool):=match av? e with|some b=>b.g?|none=>none
def iB{ρ:Type}(n:Nat) (Γ:Tab P G) (D:List (CS P G)) (all:List Oper):List Oper->St G->(St G->Option ρ)->Option ρ
 |[],st,K=>K st|o::r,st,K=>(match o.guard with
  |none=>BN n Γ D o st λst'=>iB n Γ D all r st' K|some (g,b)=>(match cw all.toArray g with
   |some dg=>(match Z8 dg n,gd (st.op (.tmp dg))with
    |true,some (some x)=>if x=true then(match b with
       |true=>BN n Γ D o (st.put dg (.one (db true))) λst'=>iB n Γ D all r st' K|false=>yK n o (st.put dg (.one (db true))) λst'=>iB n Γ D all r st' K)else(match b with
       |false=>BN n Γ D o (st.put dg (.one (db false))) λst'=>iB n Γ D all r st' K|true=>yK n o (st.put dg (.one (db false))) λst'=>iB n Γ D all r st' K)|true,some none=>yK n o st λst'=>iB n Γ D all r st' K|_,_=>none)|none=>none))
end
section
variable{G:Sg}{P:Program}{δ:List Nat}{n:Nat}{W0:Bse}{L0:Rs}{T0:List (Nat×Value)}{m0:M}{st:St G}{a:Act}{w:World}{Γ:Tab P G}{D:List (CS P G)}{ty t t2:TypeId}{pos:String}{aft:Array Edge}{g:Option (Nat×Bool)}
theorem LJ{x:Operand}{xs:List Operand}{a6:Array TypeId}{d:Nat}(hs:Sat G P δ n W0 L0 T0 m0 st a w)(hd:Z8 d n=true):TG G P δ n W0 L0 T0 m0 st (Ic Γ st x xs d) ⟨some d,.call ⟨.value x,xs.toArray,a6⟩,ty,pos,aft,g⟩ a w:=by
 obtain⟨⟨m,z,h0,h,hM⟩,hdf,hsz⟩:=hs;obtain⟨Lc,Tc,h1,h2,hS,a3⟩:=hM;obtain⟨l,hE,hl⟩:=ez hdf hsz (x::xs);have a4:=hl x (by simp);have a2:=xb (xs:=xs) (a:=a) (l:=l) λy J=>hl y (by simp[J]);unfold Ic;split
 ·rename_i a' b f y hx;have W:=bp (fD h) hx;split
  ·rename_i p J;split
   ·rename_i u hu;refine .two λr a1=>?_;refine(DB hE hS a4 a2 W (AV.as_rel hu (bp (fD h) J)) a1).imp λv w' Z=>?_;obtain⟨m',hm,a0,hv⟩:=Z;exact⟨Sat.of h0 hm (h.z hm (Zle.refl z)) ⟨hv,trivial⟩ ⟨Lc,Tc,h1.mono hm,h2,a0,a3⟩ hd hdf hsz,Ext.put,rfl⟩
   ·exact .none
  ·exact .none
 ·rename_i a' c b f y y' hx;have W:=bp (fD h) hx;split
  ·rename_i p p' J a5;split
   ·rename_i u u' hu a9;refine .two λr a1=>?_;refine(DC hE hS a4 a2 W (AV.as_rel hu (bp (fD h) J)) (AV.as_rel a9 (bp (fD h) a5)) a1).imp λv w' Z=>?_;obtain⟨m',hm,a0,hv⟩:=Z;exact⟨Sat.of h0 hm (h.z hm (Zle.refl z)) ⟨hv,trivial⟩ ⟨Lc,Tc,h1.mono hm,h2,a0,a3⟩ hd hdf hsz,Ext.put,rfl⟩
   ·exact .none
  ·exact .none
 ·exact .none
theorem LK{op:Op}{dst:Option Nat}(hs:Sat G P δ n W0 L0 T0 m0 st a w)(hd:zZ n dst=true):TG G P δ n W0 L0 T0 m0 st (Id n Γ st op dst) ⟨dst,op,ty,pos,aft,g⟩ a w:=by
 obtain⟨⟨m,z,h0,W,J⟩,hdf,hsz⟩:=hs;unfold Id;split
 ·rename_i d;split
  ·rename_i R hR;intro R' b h hb;injection h with h;subst h;refine(Hi (d:=d) hdf hsz J (fD W) R b hR hb).imp λv w' hq=>?_;obtain⟨rfl,Z⟩:=hq;exact⟨Sat.of h0 (Z6 m) W Z J hd hdf hsz,Ext.put,rfl⟩
  ·exact .none
 ·exact .none
theorem DG{op:Op}{dst:Option Nat}(J:Sat G P δ n W0 L0 T0 m0 st a w)(h:zZ n dst=true):TG G P δ n W0 L0 T0 m0 st (BM n Γ st op dst) ⟨dst,op,ty,pos,aft,g⟩ a w:=by
 unfold BM;split
 ·rename_i R Z;rw[←Z];exact LK J h
 ·exact N2 J λd W=>by subst W;exact h
theorem LL{x:Operand}(hs:Sat G P δ n W0 L0 T0 m0 st a w):Sat G P δ n W0 L0 T0 m0 (w9 st x) a w/\Ext st.c st (w9 st x)/\(w9 st x).c=st.c:=by obtain⟨⟨m,z,h0,hr,Z⟩,hdf,hsz⟩:=hs;obtain⟨Lc,Tc,h1,h2,hS,W⟩:=Z;obtain⟨m',hm,⟨J,a2,a0,k1,k2,a1,h⟩,hx,hc⟩:=Hl (G:=G) (P:=P) (L0:=L0) (T0:=T0) (x:=x) (st:=st) (m:=m) (z:=z) ⟨hr,Lc,Tc,h1,h2,hS,W⟩;exact⟨⟨⟨m',z,h0.trans hm,J,a2,a0,k1,k2,a1,h⟩,hdf,hsz⟩,hx,hc⟩
theorem LM{xs:List Operand}(J:Sat G P δ n W0 L0 T0 m0 st a w):Sat G P δ n W0 L0 T0 m0 (Fw xs st) a w/\Ext st.c st (Fw xs st)/\(Fw xs st).c=st.c:=by induction xs generalizing st with
 |nil=>exact⟨J,Ext.refl _ _,rfl⟩|cons x xs ih=>obtain⟨Z,W,h3⟩:=LL (x:=x) J;obtain⟨k1,k2,h⟩:=ih Z;rw[h3]at k2 h;exact⟨k1,W.trans k2,h⟩
theorem Jw{op:Op}{dst:Option Nat}(J:Sat G P δ n W0 L0 T0 m0 st a w)(h:zZ n dst=true):TG G P δ n W0 L0 T0 m0 st (Fy n Γ D st op dst) ⟨dst,op,ty,pos,aft,g⟩ a w:=by
 unfold Fy;split;·exact LI J λe he=>by subst he;exact h
 ·split;·exact LJ J h
  ·exact .none
 ·split
  ·rename_i R W;rw[←W];exact DG J h
  ·obtain⟨h1,h2,h3⟩:=LM (xs:=op.operands.toList) J;intro R b W hb;refine(DG h1 h R b W hb).imp λv w' hq=>?_;obtain⟨q1,Z,q3⟩:=hq;rw[h3]at Z q3;exact⟨q1,h2.trans Z,q3⟩
variable{ρ:Type}{ro:Option Nat}{Q:Exit->Act->World->Prop}{K:St G->Option ρ}{res:ρ}{all:List Oper}
def Nxt (G:Sg)(P:Program)(δ:List Nat)(n:Nat)(W0:Bse)(L0:Rs)(T0:List (Nat×Value))(m0:M){ρ:Type}(K:St G->Option ρ)(res:ρ)(st0:St G)(N:Act->World->Prop):Prop:=∀st' a' w',K st'=some res->Sat G P δ n W0 L0 T0 m0 st' a' w'->Ext st0.c st0 st'->st'.c=st0.c->N a' w'
theorem Nxt.later{st0 J:St G}{N:Act->World->Prop}(h:Nxt G P δ n W0 L0 T0 m0 K res st0 N)(hx:Ext st0.c st0 J)(W:J.c=st0.c):Nxt G P δ n W0 L0 T0 m0 K res J N:=λst' a' w' h1 h2 Z h4=>h st' a' w' h1 h2 (hx.trans (by rw[W]at Z;exact Z)) (by rw[h4,W])
theorem xc{o:Oper}(Z:Sat G P δ n W0 L0 T0 m0 st a w)(h:BN n Γ D o st K=some res){N:Act->World->Prop}(k:Nxt G P δ n W0 L0 T0 m0 K res st N):a8 P o a w (λv w'=>N (a.put o.dst v) w'):=by
 unfold BN at h;split at h
 ·rename_i W;split at h
  ·rename_i R hR;cases hb:R.mv with
   |none=>simp[hb]at h|some b=>simp only[hb,Zx]at h;obtain⟨dst,op,ty,pos,aft,g⟩:=o;refine(Jw Z W R b hR hb).imp λv w' J=>?_;exact k _ _ _ h J.1 J.2.1 J.2.2
  ·cases h
 ·cases h
theorem Sat.lit{h:Nat}{x:Bool}(hs:Sat G P δ n W0 L0 T0 m0 st a w)(hd:Z8 h n=true)(J:gd (st.op (.tmp h))=some (some x)):Sat G P δ n W0 L0 T0 m0 (st.put h (.one (db x))) a w/\a.tmps.getD h undef=.bool x:=by
 obtain⟨⟨m,z,h0,hr,hM⟩,hdf,hsz⟩:=hs;have Z:a.tmps.getD h undef=.bool x:=by
  unfold gd at J;split at J
  ·rename_i b hb;have a0:=bp (fD hr) hb;cases b with
   |dat t y oo=>cases t<;>cases oo<;>simp only[AV.g?,reduceCtorEq]at J;obtain rfl:=Option.some.inj (Option.some.inj J);exact fg a0.1|_=>simp[AV.g?]at J
  ·cases J
 refine⟨⟨⟨m,z,h0,λe W=>?_,hM⟩,hdf,hsz⟩,Z⟩;rcases Z5.1 W with rfl|W
 ·show AV.Rel G P m z (db x) (a.tmps.getD h undef);rw[Z];exact eH
 ·exact hr e (mr W).1
theorem tV{g h:Nat}{x:Bool}(hs:a.tmps.size=n)(W:cw all.toArray g=some h)(Z:Z8 h n=true)(J:a.tmps.getD h undef=.bool x):yielded all.toArray a.tmps g=some x:=by
 have a1:h<n:=Z0 Z;unfold cw at W;unfold yielded;rw[W];rw[Array.getD_eq_getD_getElem?]at J;have a0:h<a.tmps.size:=by omega
 simp only[Zx];rw[Array.getElem?_eq_getElem a0]at J⊢;simp at J;simp[J]
theorem CR{o:Oper}{r:List Oper}{g:Nat}{b:Bool}(W:Sat G P δ n W0 L0 T0 m0 st a w)(hg:o.guard=some (g,b))(hy:yielded all.toArray a.tmps g≠some b)(h:yK n o st K=some res)(k:Nxt G P δ n W0 L0 T0 m0 K res st (λa w=>wpL ro P all.toArray Q r a w)):wpL ro P all.toArray Q (o::r) a w:=by
 refine wpListIn_step λKk Z=>?_;have hw:Region.wanted o (yielded all.toArray a.tmps)=false:=by simp only[Region.wanted,hg];simpa using hy
 rw[hw];simp only[Bool.false_eq_true,if_false];refine⟨λ_ _=>trivial,Z _ _ ?_⟩;unfold yK at h;split at h
 ·rename_i d J;split at h
  ·rename_i a0;obtain⟨⟨m,z,h0,hr,hM⟩,hdf,hsz⟩:=W;rw[J];exact k _ _ _ h (Sat.of h0 (Z6 m) hr (show EV.Rel G P m z (.one .und) undef from rfl) hM a0 hdf hsz) Ext.put rfl
  ·cases h
 ·rename_i J;rw[J];exact k _ _ _ h W (Ext.refl _ _) rfl
theorem A9:∀{os:List Oper}{st:St G}{a:Act}{w:World},iB n Γ D all os st K=some res->Sat G P δ n W0 L0 T0 m0 st a w->Nxt G P δ n W0 L0 T0 m0 K res st (λa w=>wpL ro P all.toArray Q [] a w)->wpL ro P all.toArray Q os a w:=by
 intro os;induction os with
 |nil=>intro st a w h Z k;exact k st a w h Z (Ext.refl _ _) rfl|cons o r ih=>
  intro st a w h Z k;unfold iB at h;have a2:∀{a3:St G},Ext st.c st a3->a3.c=st.c->Nxt G P δ n W0 L0 T0 m0 (λst'=>iB n Γ D all r st' K) res a3 (λa w=>wpL ro P all.toArray Q r a w):=by intro a3 J hc st' a' w' h1 h2 h3 h4;exact ih h1 h2 ((k.later J hc).later h3 h4)
  split at h
  ·rename_i W;exact wpListIn_plain W λKk hK=>xc Z h (a2 (Ext.refl _ _) rfl) _ _ _ λv w' hp=>hK _ _ hp
  ·rename_i g b W;split at h
   ·rename_i dg a4;split at h
    ·rename_i x hd J;obtain⟨a1,hv⟩:=Sat.lit Z hd J;have hy:=tV (all:=all) Z.sz a4 hd hv;have a0:Ext st.c st (st.put dg (.one (db x))):=Ext.put;split at h
     ·rename_i a9;rw[a9]at hy a1 a0;split at h
      ·exact wpListIn_step λKk hK=>by simp only[Region.wanted,W,hy,beq_self_eq_true,if_true];exact xc a1 h (a2 a0 rfl) _ _ _ λv w' hp=>hK _ _ hp
      ·exact CR a1 W (by rw[hy];simp) h (a2 a0 rfl)
     ·rename_i a6;have b0:x=false:=by simpa using a6
      rw[b0]at hy a1 a0;split at h
      ·exact wpListIn_step λKk hK=>by simp only[Region.wanted,W,hy,beq_self_eq_true,if_true];exact xc a1 h (a2 a0 rfl) _ _ _ λv w' hp=>hK _ _ hp
      ·exact CR a1 W (by rw[hy];simp) h (a2 a0 rfl)
    ·rename_i hd J;refine CR Z W ?_ h (a2 (Ext.refl _ _) rfl);obtain⟨⟨m,z,h0,hr,hM⟩,hdf,hsz⟩:=Z;have hu:a.tmps.getD dg undef=undef:=by
      unfold gd at J;split at J
      ·rename_i b hb;have a5:=bp (fD hr) hb;cases b with
       |und=>exact a5|dat t y oo=>cases t<;>cases oo<;>simp[AV.g?]at J|_=>simp[AV.g?]at J
      ·cases J
     rw[pB a4 hu];simp
    ·cases h
   ·cases h
end
section
variable{G:Sg}{P:Program}
def ny (Γ:Tab P G)(ρ:Operand->Option (EV G)):(ps:List Pm)->List Operand->Option (dH G ps)
 |[],[]=>some ()|.rd t::ps,x::xs=>(match av? (ρ x),ny Γ ρ ps xs with
  |some b,some y=>(match b.as Γ t with|some u=>some (u,y)|none=>none)|_,_=>none)|.f1 a b::ps,x::xs=>(match av? (ρ x),ny Γ ρ ps xs with
  |some (.fn1 a' b' f),some y=>if h:a'=a/\b'=b then some (h.1▸h.2▸f,y)else none|_,_=>none)|.f2 a c b::ps,x::xs=>(match av? (ρ x),ny Γ ρ ps xs with
  |some (.fn2 a' c' b' f),some y=>if h:a'=a/\c'=c/\b'=b then some (h.1▸h.2.1▸h.2.2▸f,y)else none|_,_=>none)|_,_=>none
def BO:List Rm->Bool
 |[]=>true|.rd _::rs=>BO rs|.ap _::rs=>BO rs|.ow _::_=>false
def LN (G:Sg)(os:List Ty):(rs:List Rm)->br G (rs.map Rm.ty++os)->List (AV G)
 |[],_=>[]|r::rs,x=>.dat r.ty (hdT G r.ty (rs.map Rm.ty++os) x) none::LN G os rs (tlT G r.ty (rs.map Rm.ty++os) x)
def MY (Γ:Tab P G)(D:List (CS P G))(ρ:Operand->Option (EV G))(f:FuncId)(xs:List Operand):Option (iO G):=match BL D f with
 |some C=>(match ny Γ ρ C.ps xs,BO C.rs with
  |some y,true=>some ⟨br G (gu C.ps C.rs),C.g y,λr=>evs (LN G (C.ps.filterMap Pm.out) C.rs r)⟩|_,_=>none)|none=>none
def Jx (Γ:Tab P G)(ρ:Operand->Option (EV G))(x:Operand)(xs:List Operand):Option (iO G):=match av? (ρ x),xs with
 |some (.fn1 a b f),[y]=>(match av? (ρ y)with
  |some p=>(match p.as Γ a with|some u=>pb (f u) λr=>.dat b r none|none=>none)|none=>none)|some (.fn2 a c b f),[y,y']=>(match av? (ρ y),av? (ρ y')with
  |some p,some p'=>(match p.as Γ a,p'.as Γ c with|some u,some u'=>pb (f u u') λr=>.dat b r none|_,_=>none)|_,_=>none)|_,_=>none
def tW (Γ:Tab P G)(D:List (CS P G))(ρ:Operand->Option (EV G))(h:Nat->Option (BC G))(op:Op):Option (iO G):=match op with
 |.call ⟨.value (.func f),⟨xs⟩,_⟩=>MY Γ D ρ f xs|.call ⟨.value x,⟨xs⟩,_⟩=>Jx Γ ρ x xs|op=>BG Γ ρ h op
def vis (all:List Oper)(k i:Nat)(pre:List Nat)(t:Nat):Bool:=(all.take k).zipIdx.all λp=>match p.1.dst with
 |some d=>!(Zd d t)||pre.any (Zd p.2)||(bm p.1).any (Zd i)|none=>true
def visρ (all:List Oper)(k i:Nat)(o:Oper)(st:St G):Operand->Option (EV G)
 |.tmp t=>(match vis all k i (bm o) t with|true=>st.op (.tmp t)|false=>none)|x=>st.op x
def kj{ρ:Type}(n:Nat) (Γ:Tab P G) (D:List (CS P G)) (all:List Oper) (k:Nat):Nat->List Oper->St G->(St G->Option ρ)->Option ρ
 |_,[],st,K=>K st|i,o::r,st,K=>(match o.dst with
  |some d=>(match Z8 d n,o.guard with
   |true,none=>(match tW Γ D (visρ all k i o st) (fm st.L) o.op with
    |some R=>R.mv.bind λb=>kj n Γ D all k (i+1) r (st.put d (R.k b)) K|none=>none)|true,some (g,b)=>(match (bm o).any (Zd g),cw (all.take k).toArray g with
    |true,some dg=>(match Z8 dg n,gd (st.op (.tmp dg))with
     |true,some (some x)=>if x=true then(match b with
        |true=>(match tW Γ D (visρ all k i o (st.put dg (.one (db true)))) (fm st.L) o.op with
         |some R=>R.mv.bind λb=>kj n Γ D all k (i+1) r ((st.put dg (.one (db true))).put d (R.k b)) K|none=>none)|false=>kj n Γ D all k (i+1) r ((st.put dg (.one (db true))).put d (.one .und)) K)else(match b with
        |false=>(match tW Γ D (visρ all k i o (st.put dg (.one (db false)))) (fm st.L) o.op with
         |some R=>R.mv.bind λb=>kj n Γ D all k (i+1) r ((st.put dg (.one (db false))).put d (R.k b)) K|none=>none)|true=>kj n Γ D all k (i+1) r ((st.put dg (.one (db false))).put d (.one .und)) K)|true,some none=>kj n Γ D all k (i+1) r (st.put d (.one .und)) K|_,_=>none)|_,_=>none)|_,_=>none)|none=>none)
def jG (o:Oper):Bool:=match o.op with
 |.alloc _=>true|.store _ _ _=>true|_=>false
inductive Sp (G:Sg)where|al (d:Nat) (t:Ty) (x:t.den G)|so (i:Nat) (t:Ty) (x:t.den G)
def Sp.blk:Sp G->Option Nat
 |.al _ _ _=>none|.so i _ _=>some i
def Ie (Γ:Tab P G)(ρ:Operand->Option (EV G))(h:Nat->Option (BC G))(o:Oper):Option (Sp G):=match o.guard,o.dst,o.op with
 |none,some d,.alloc t=>(match Γ.ar t,Γ.ty t with|none,some I=>some (.al d I.T I.z)|_,_=>none)|none,none,.store t x y=>(match Γ.ty t,av? (ρ x),av? (ρ y)with
  |some I,some (.blk i),some b=>(match h i with
   |some (.dat c _)=>if c=I.T then (match b.as Γ I.T with|some u=>some (.so i I.T u)|none=>none)else none|_=>none)|_,_,_=>none)|_,_,_=>none
def stG (st:St G):List Oper->List (Option Nat)
 |[]=>[]|o::r=>(match o.op with
  |.alloc _=>none::stG st r|.store _ x _=>(match av? (st.op x)with|some (.blk i)=>some i::stG st r|_=>none::stG st r)|_=>stG st r)
def gk (c:Nat):List (Option Nat)->List (Nat×BC G)->List (Nat×BC G)
 |[],L=>L|none::r,L=>gk c r L|some i::r,L=>sb (gk c r L) i (c,.gone)
def gOK (h:Nat->Option (BC G)):List (Option Nat)->Bool
 |[]=>true|none::r=>gOK h r|some i::r=>(match h i with|some (.dat _ _)=>true|_=>false)&&!(r.any λj=>decide (j=some i))&&gOK h r
def mu:List (Nat×Sp G)->St G->St G
 |[],st=>st|(_,.al d t x)::r,st=>mu r ((st.push (.dat t x)).put d (.one (.blk st.L.length)))|(_,.so i t x)::r,st=>mu r (st.setB i (.dat t x))
def tL{ρ:Type}(n:Nat)(Γ:Tab P G)(D:List (CS P G))(all:List Oper)(k:Nat)(h:Nat->Option (BC G)):Nat->List Oper->St G->List (Nat×Sp G)->(St G->List (Nat×Sp G)->Option ρ)->Option ρ
 |_,[],st,acc,K=>K st acc|i,o::r,st,acc,K=>(match jG o with
  |true=>(match zZ n o.dst,Ie Γ (visρ all k i o st) h o with
   |true,some sp=>tL n Γ D all k h (i+1) r (match o.dst with|some d=>{st with env:=rmk st.env d}|none=>st) (acc++[(i,sp)]) K|_,_=>none)|false=>kj n Γ D all k i [o] st λst'=>tL n Γ D all k h (i+1) r st' acc K)
def EB (all:List Oper):Nat:=all.zipIdx.foldl (λh p=>if Zd p.2 0||(bm p.1).any (λe=>Zd (e+1) p.2)then h else p.2) 0
def MZ (all:List Oper):Nat->Nat->Nat
 |0,_=>all.length|f+1,k=>match o5 all k with|true=>k|false=>MZ all f (k+1)
def kOf (all:List Oper):Nat:=MZ all (all.length-EB all) (EB all)
def dV:Op->List Operand
 |.move x=>[x]|.assign x=>[x]|.load _ x=>[x]|.store _ x y=>[x,y]|.indexAddr _ x y=>[x,y]|.fieldAddr _ x _=>[x]|.binOp _ _ x y _=>[x,y]|.convert _ _ x=>[x]|.buildSlice _ _ ps=>ps.toList.map (·.2)|.call c=>c.args.toList|_=>[]
def okT:Op->Bool
 |.move _=>true|.assign _=>true|.load _ _=>true|.store _ _ _=>true|.indexAddr _ _ _=>true|.fieldAddr _ _ _=>true|.binOp _ _ _ _ _=>true|.convert _ _ _=>true|.buildSlice _ _ _=>true|.call ⟨.builtin .append,_,_⟩=>true|_=>false
def opT (t:Nat):Operand->Bool
 |.tmp q=>Zd q t|_=>false
def inN (l:List Nat)(j:Nat):Bool:=l.any (Zd j)
def LO:Op->Bool
 |.move _=>true|.binOp .add _ _ _ _=>true|.binOp .sub _ _ _ _=>true|_=>false
def d8 (all:List Oper)(k:Nat):List Nat:=match all[k]?with
 |some o=>(let c:=cov all 12 (bm o);(Yb k).filter λj=>!(c.any λe=>Zd j e))|none=>[]
def LP (o h:Oper)(j:Nat):Bool:=inN (bm o) j||(match h.dst with
 |some d=>!((dV o.op).any (opT d))&&(match o.dst with|some e=>!(Zd e d)&&!((dV h.op).any (opT e))|none=>true)|none=>false)
def z6 (all:List Oper)(k:Nat):Bool:=Z8 k all.length&&(d8 all k).all (λj=>match all[j]?with
 |some oj=>oj.guard.isNone&&LO oj.op&&(bm oj).all (λe=>inN (d8 all k) e&&Z8 e j)&&(d8 all k).all (λi=>match all[i]?with|some oi=>(match oi.dst with|some d=>inN (bm oj) i||!((dV oj.op).any (opT d))|none=>false)|none=>false)|none=>false)&&all.zipIdx.all (λp=>Z8 p.2 k||(p.1.guard.isNone&&okT p.1.op&&(Zd p.2 k||(bm p.1).any λe=>Zd (e+1) p.2)&&(d8 all k).all λj=>match all[j]?with|some oj=>LP p.1 oj j|none=>false))
def EC (all:List Oper):Nat->Nat->Option Nat
 |0,_=>none|f+1,k=>match z6 all k with|true=>some k|false=>EC all f (k+1)
def PE (o:Oper):Bool:=match o.op with
 |.store _ _ _=>true|.buildSlice _ _ _=>true|.call ⟨.builtin .append,_,_⟩=>true|_=>false
def fK (all:List Oper):Option Nat:=match (all.take (kOf all)).any PE with
 |true=>(match EC all (all.length-EB all) (EB all)with
  |some k=>(match (all.take k).any λo=>PE o||jG o with|true=>none|false=>some k)|none=>none)|false=>none
def Ba{ρ:Type}(n:Nat)(Γ:Tab P G)(D:List (CS P G))(all:List Oper)(J:Bool)(st:St G)(K:St G->Option ρ):Option ρ:=match J with
 |false=>iB n Γ D all all st K|true=>(match fK all with
  |some k=>(match nZ all&&wb (all.take k) n with
   |true=>(match (all.take k).any jG with
    |false=>kj n Γ D all k 0 (all.take k) st λst'=>iB n Γ D all (all.drop k) st' K|true=>none)|false=>none)|none=>(match nZ all&&o5 all (kOf all)&&wb (all.take (kOf all)) n with
  |true=>(match (all.take (kOf all)).any jG with
   |false=>kj n Γ D all (kOf all) 0 (all.take (kOf all)) st λst'=>iB n Γ D all (all.drop (kOf all)) st' K|true=>(match gOK (fm st.L) (stG st (all.take (kOf all)))with
    |true=>tL n Γ D all (kOf all) (fm st.L) 0 (all.take (kOf all)) {st with L:=gk st.c (stG st (all.take (kOf all))) st.L} [] λst' h=>if h.map (λq=>q.2.blk)=stG st (all.take (kOf all))then iB n Γ D all (all.drop (kOf all)) (mu h st') K else none|false=>none))|false=>none))
end
section
variable{G:Sg}{P:Program}{δ:List Nat}{n:Nat}{W0:Bse}{L0:Rs}{T0:List (Nat×Value)}{m m0:M}{z:Cz}{st:St G}{a:Act}{w:World}{Γ:Tab P G}{D:List (CS P G)}{ty t t2:TypeId}{pos:String}{aft:Array Edge}{g:Option (Nat×Bool)}{Ls:List (Nat×BC G)}{Ts:List Nat}{ρ:Operand->Option (EV G)}{d:Nat}
theorem Jy (hρ:∀x e,ρ x=some e->e.Rel G P m z (a.eval x)):∀{ps:List Pm}{xs:List Operand}{y:dH G ps},ny Γ ρ ps xs=some y->kH G P m ps (xs.map a.eval) y [] []/\ps.filterMap Pm.out=[]:=by
 intro ps;induction ps with
 |nil=>intro xs y h;cases xs with
  |nil=>exact⟨trivial,rfl⟩|cons x xs=>simp[ny]at h
 |cons p ps ih=>intro xs y h;cases xs with
  |nil=>cases p<;>simp[ny]at h|cons x xs=>cases p with
   |rd t=>
    simp only[ny]at h;split at h
    ·rename_i b y' J hy;split at h
     ·rename_i u hu;injection h with h;subst h;obtain⟨Z,W⟩:=ih hy;exact⟨⟨AV.as_rel hu (bp hρ J),Z⟩,W⟩
     ·cases h
    ·cases h|f1 b c=>
    simp only[ny]at h;split at h
    ·rename_i a' b' f y' J hy;split at h
     ·rename_i hh;obtain⟨rfl,rfl⟩:=hh;injection h with h;subst h;obtain⟨Z,W⟩:=ih hy;exact⟨⟨bp hρ J,Z⟩,W⟩
     ·cases h
    ·cases h|f2 b c e=>
    simp only[ny]at h;split at h
    ·rename_i a' c' b' f y' J hy;split at h
     ·rename_i hh;obtain⟨rfl,rfl,rfl⟩:=hh;injection h with h;subst h;obtain⟨Z,W⟩:=ih hy;exact⟨⟨bp hρ J,Z⟩,W⟩
     ·cases h
    ·cases h|_=>simp[ny]at h
theorem N4{os:List Ty}:∀{rs:List Rm}{us:List Value}{x:br G (rs.map Rm.ty++os)}{Lr:List (Nat×List Value)}{Tr:List (Nat×Value)},BO rs=true->nw G m os rs us x Lr Tr->Lr=[]/\ry G P m z (LN G os rs x) us:=by
 intro rs;induction rs with
 |nil=>intro us x Lr Tr _ h;cases us<;>cases Lr<;>cases Tr<;>first|exact h.elim|exact⟨rfl,trivial⟩
 |cons r rs ih=>intro us x Lr Tr Z h;cases r with
  |rd t=>cases us with
   |nil=>exact h.elim|cons u us=>obtain⟨k1,k2⟩:=h;obtain⟨W,J⟩:=ih Z k2;exact⟨W,⟨k1,trivial⟩,J⟩
  |ap t=>cases us with
   |nil=>cases Lr<;>cases Tr<;>exact h.elim|cons u us=>cases Tr with
    |nil=>cases Lr<;>exact h.elim|cons e Tr=>obtain⟨k1,_,k2⟩:=h;obtain⟨W,J⟩:=ih Z k2;exact⟨W,⟨k1,trivial⟩,J⟩
  |_=>simp[BO]at Z
def M0 (G:Sg)(P:Program)(W0:Bse)(L0:Rs)(T0:List (Nat×Value))(Ls:List (Nat×BC G))(Ts:List Nat)(m:M)(z:Cz)(r:Option (iO G))(o:Oper)(a:Act)(w:World):Prop:=∀R b,r=some R->R.mv=some b->a8 P o a w (λv w'=>∃m',M.le m m'/\gB G W0 L0 T0 Ls Ts m' z w'/\(R.k b).Rel G P m' z v)
theorem M0.none{o:Oper}:M0 G P W0 L0 T0 Ls Ts m z none o a w:=λR b h=>by cases h
theorem LQ{vs:List Value}{Lp':List (Nat×List Value)}:∀{ps:List Pm}{vs:List Value}{x:br G (ps.filterMap Pm.out)},ps.filterMap Pm.out=[]->i9 G m ps vs x [] Lp'->Lp'=[]:=by
 intro ps;induction ps with
 |nil=>intro vs x _ h;cases Lp' with|nil=>rfl|cons e l=>exact h.elim
 |cons p ps ih=>intro vs x J h;cases p with
  |pt t=>simp[Pm.out]at J|ow t=>simp[Pm.out]at J|_=>cases vs with
   |nil=>exact h.elim|cons v vs=>exact ih (by simpa[Pm.out]using J) h
theorem DH{op:Op}(hd:a.defers=δ.map λD=>{target:=.collected D,args:=#[]})(hs:a.tmps.size=n)(hM:gB G W0 L0 T0 Ls Ts m z w)(J:∀x e,ρ x=some e->e.Rel G P m z (a.eval x)):M0 G P W0 L0 T0 Ls Ts m z (tW Γ D ρ (fm Ls) op) ⟨some d,op,ty,pos,aft,g⟩ a w:=by
 unfold tW;split
 ·rename_i f xs a4;obtain⟨l,hE,hl⟩:=ez hd hs xs;unfold MY;split
  ·rename_i C hC;have Z:=Hn hC;subst Z;split
   ·rename_i y W ha;intro R r h hr;injection h with h;subst h;obtain⟨hP,hO⟩:=Jy J W;obtain⟨Lc,Tc,h1,h2,hS,a1⟩:=hM;have b0:=C.ok W0 m w (Lc++L0.l) (Tc++T0) (xs.map a.eval) y r [] [] hS hP hr;intro ro Kk Q hk;have b1:(execOp a.eval ⟨some d,.call ⟨.value (.func C.f),xs.toArray,a4⟩,ty,pos,aft,g⟩).run P w=.ok (.enter C.f (xs.map a.eval).toArray) w:=by simp[execOp,resolve,Act.eval,Deferred.ofValue,invoke,gU hE (xb hl),C.hc]
    refine uO b1 (b0.mono λe w' he=>?_);cases e with
    |returned v=>obtain⟨m',us,Lr,Lp',Tr,hm,a0,rfl,h,a9⟩:=he;obtain⟨rfl,r3⟩:=N4 (P:=P) (z:=z) ha h;have:=LQ (vs:=[]) hO a9;subst this;have a3:=a0.dropT Tr.length;rw[List.drop_left]at a3;exact hk _ _ ⟨m',hm,⟨Lc,Tc,h1.mono hm,h2,a3,a1⟩,Hm r3⟩|panicked ch=>exact he.elim|outgrown=>exact he.elim
   ·exact .none
  ·exact .none
 ·rename_i x xs a4 _;obtain⟨Lc,Tc,h1,h2,hS,a1⟩:=hM;obtain⟨l,hE,hl⟩:=ez hd hs (x::xs);have a5:=hl x (by simp);have a2:=xb (xs:=xs) (a:=a) (l:=l) λy W=>hl y (by simp[W]);unfold Jx;split
  ·rename_i a' b f y hx;have Z:=bp J hx;split
   ·rename_i p W;split
    ·rename_i u hu;intro R r h hr;injection h with h;subst h;refine(DB hE hS a5 a2 Z (AV.as_rel hu (bp J W)) hr).imp λv w' hq=>?_;obtain⟨m',hm,a0,hv⟩:=hq;exact⟨m',hm,⟨Lc,Tc,h1.mono hm,h2,a0,a1⟩,hv,trivial⟩
    ·exact .none
   ·exact .none
  ·rename_i a' c b f y y' hx;have Z:=bp J hx;split
   ·rename_i p p' W a6;split
    ·rename_i u u' hu b2;intro R r h hr;injection h with h;subst h;refine(DC hE hS a5 a2 Z (AV.as_rel hu (bp J W)) (AV.as_rel b2 (bp J a6)) hr).imp λv w' hq=>?_;obtain⟨m',hm,a0,hv⟩:=hq;exact⟨m',hm,⟨Lc,Tc,h1.mono hm,h2,a0,a1⟩,hv,trivial⟩
    ·exact .none
   ·exact .none
  ·exact .none
 ·intro R b h hb;refine(Hi hd hs hM J R b h hb).imp λv w' hq=>?_;obtain⟨rfl,hv⟩:=hq;exact⟨m,Z6 m,hM,hv⟩
end
section
variable{G:Sg}{P:Program}{δ:List Nat}{n:Nat}{W0:Bse}{L0:Rs}{T0:List (Nat×Value)}{m m0:M}{z:Cz}{st:St G}{a:Act}{w:World}{Γ:Tab P G}{D:List (CS P G)}{g:Option (Nat×Bool)}{res:Type}{all:List Oper}{k:Nat}
abbrev dj (os:List Oper)(j:Nat):Option Nat:=cw os.toArray j
def nsp (all:List Oper)(k q:Nat):Prop:=∀oq,(all.take k)[q]?=some oq->jG oq=false
def te (G:Sg)(all:List Oper)(k:Nat)(st0:St G)(ev:Nat->EV G)(j:Nat)(o:Oper)(ρ:Operand->Option (EV G)):Prop:=∀x e,ρ x=some e->match x with
 |.tmp t=>(∃q,q∈bm o/\q<j/\dj (all.take k) q=some t/\ev q=e/\nsp all k q)\/((∃lv,(t,lv,e)∈st0.env)/\∀(q:Nat) (h:Oper),(all.take k)[q]?=some h->h.dst=some t->j∈bm h)|.const v=>∃b,cAV v=some b/\e=.one b|_=>False
def Bb (G:Sg)(P:Program)(Γ:Tab P G)(D:List (CS P G))(all:List Oper)(k:Nat)(st0:St G)(ev:Nat->EV G)(j:Nat)(o:Oper):Prop:=∃(R:iO G) (b:R.β) (ρ:Operand->Option (EV G)),tW Γ D ρ (fm st0.L) o.op=some R/\R.mv=some b/\ev j=R.k b/\te G all k st0 ev j o ρ
def OpF (G:Sg)(P:Program)(Γ:Tab P G)(D:List (CS P G))(n:Nat)(all:List Oper)(k:Nat)(st0:St G)(ev:Nat->EV G)(j:Nat)(o:Oper):Prop:=∃d,o.dst=some d/\Z8 d n=true/\match o.guard with
 |none=>Bb G P Γ D all k st0 ev j o|some (g,b)=>g∈bm o/\nsp all k g/\∃dg,dj (all.take k) g=some dg/\Z8 dg n=true/\((∃x,ev g=.one (db x)/\(x=b->Bb G P Γ D all k st0 ev j o)/\(x≠b->ev j=.one .und))\/(ev g=.one .und/\ev j=.one .und))
structure oS (G:Sg)(all:List Oper)(k:Nat)(st0:St G)(ev:Nat->EV G)(i:Nat)(st:St G):Prop where
 L:st.L=st0.L
 T:st.T=st0.T
 c:st.c=st0.c
 env:∀e∈st.env,(∃j,j<i/\dj (all.take k) j=some e.1/\ev j=e.2.2/\e.2.1=st0.c/\nsp all k j)\/((∀j,j<i->dj (all.take k) j≠some e.1)/\e∈st0.env)
structure Dis (all:List Oper)(k n:Nat):Prop where
 ed:nZ all=true
 ne:∀(i j:Nat) (d:Nat),dj (all.take k) i=some d->dj (all.take k) j=some d->i=j
theorem XG{os:List Oper}{j d:Nat}:dj os j=some d↔∃o,os[j]?=some o/\o.dst=some d:=by unfold dj cw;cases ho:os[j]?with
 |none=>simp[ho]|some o=>simp[ho]
theorem Fz (he:nZ all=true)(J:wb (all.take k) n=true):Dis all k n:=by
 refine⟨he,λi j d hi Z=>?_⟩;obtain⟨o,ho,W⟩:=XG.1 hi;obtain⟨o',a0,a1⟩:=XG.1 Z;unfold wb at J;rw[Zb]at J;have h1:=Zy.1 J.2 (o,i) (by rw[Zk];exact ho);have h:=Zy.1 h1 (o',j) (by rw[Zk];exact a0);simp only[W,a1,Bool.or_eq_true,Zv]at h;rcases h with h|h;·exact Z1 h
 ·simp at h
theorem DI{ev:Nat->EV G}{st0:St G}{i:Nat}{o:Oper}(hD:Dis all k n)(ho:all[i]?=some o)(hc:oS G all k st0 ev i st):te G all k st0 ev i o (visρ all k i o st):=by intro x e J;cases x with
 |tmp t=>
  simp only[visρ]at J;split at J
  ·rename_i hv;simp only[St.op]at J;split at J
   ·rename_i e' he;injection J with J;subst J;have hm:=iX he;have a2:∀q W,(all.take k)[q]?=some W->W.dst=some t->q∈bm o\/i∈bm W:=by
     intro q W hq a0;have:=Zy.1 hv (W,q) (by rw[Zk];exact hq);simp only[a0,Bool.or_eq_true,Zv]at this;rcases this with(h|h)|h;·simp at h
     ·obtain⟨p,hp,hb⟩:=Zn.1 h;have:=Z1 hb;subst this;exact .inl hp
     ·obtain⟨p,hp,hb⟩:=Zn.1 h;have:=Z1 hb;subst this;exact .inr hp
    rcases hc.env _ hm with⟨j,hj,a1,a9,_,a6⟩|⟨a4,h0⟩
    ·obtain⟨oj,Z,a5⟩:=XG.1 a1;rcases a2 j oj Z a5 with h|h;·exact .inl ⟨j,h,hj,a1,a9,a6⟩
     ·exfalso;have a3:all[j]?=some oj:=by
       rw[Zg]at Z;split at Z;·exact Z
       ·cases Z
      have:=kg hD.ed a3 i h;omega
    ·refine .inr ⟨⟨e'.1,h0⟩,λq W hq a0=>?_⟩;rcases a2 q W hq a0 with h|h
     ·exfalso;have:=kg hD.ed ho q h;exact a4 q this (XG.2 ⟨W,hq,a0⟩)
     ·exact h
   ·cases J
  ·cases J|const v=>
  simp only[visρ,St.op]at J;split at J
  ·rename_i b hb;injection J with J;subst J;exact⟨b,hb,rfl⟩
  ·cases J|_=>simp[visρ,St.op]at J
theorem oS.step{ev ev':Nat->EV G}{st0:St G}{i d:Nat}{e:EV G}(a1:nsp all k i)(W:oS G all k st0 ev i st)(hd:dj (all.take k) i=some d)(he:ev' i=e)(a0:∀j,j<i->ev' j=ev j):oS G all k st0 ev' (i+1) (st.put d e):=by
 refine⟨W.L,W.T,W.c,λx hx=>?_⟩;rcases Z5.1 hx with rfl|hx;·exact .inl ⟨i,by omega,hd,he,W.c,a1⟩
 ·obtain⟨h1,h2⟩:=mr hx;rcases W.env x h1 with⟨j,hj,Z,h4,h5⟩|⟨Z,h4⟩;·exact .inl ⟨j,by omega,Z,by rw[a0 j hj];exact h4,h5⟩
  ·refine .inr ⟨λj hj J=>?_,h4⟩;rcases Zp j i with h|h;·exact Z j h J
   ·have:j=i:=by omega
    subst this;rw[hd]at J;injection J with J;exact h2 J.symm
theorem oS.lit{ev:Nat->EV G}{st0:St G}{i gi Z:Nat}{x:Bool}(hD:Dis all k n)(J:oS G all k st0 ev i st)(hg:dj (all.take k) gi=some Z)(a0:gi<i)(W:gd (st.op (.tmp Z))=some (some x)):ev gi=.one (db x)/\nsp all k gi/\oS G all k st0 ev i (st.put Z (.one (db x))):=by
 have key:ev gi=.one (db x)/\nsp all k gi:=by
  unfold gd at W;split at W
  ·rename_i b hb;have:b=db x:=by cases b with
    |dat t y oo=>
     cases t<;>cases oo<;>simp only[AV.g?,reduceCtorEq]at W;obtain rfl:=Option.some.inj (Option.some.inj W);rfl|_=>simp[AV.g?]at W
   subst this;cases h:lke st.env Z with
   |none=>simp[St.op,h,av?]at hb|some e=>
    simp only[St.op,h]at hb;have hm:=iX h;have a1:e.2=.one (db x):=by cases h2:e.2 with
     |one v=>simp only[h2,av?,Option.some.injEq]at hb;rw[hb]|tup vs=>simp[h2,av?]at hb
    rcases J.env _ hm with⟨j,hj,h3,h4,_,a2⟩|⟨h3,_⟩
    ·have:=hD.ne gi j Z hg h3;subst this;rw[h4];exact⟨a1,a2⟩
    ·exact absurd hg (h3 gi a0)
  ·cases W
 refine⟨key.1,key.2,J.L,J.T,J.c,λe h=>?_⟩;rcases Z5.1 h with rfl|h;·exact .inl ⟨gi,a0,hg,key.1,J.c,key.2⟩
 ·exact J.env e (mr h).1
theorem oS.und{ev:Nat->EV G}{st0:St G}{i gi W:Nat}(hD:Dis all k n)(hc:oS G all k st0 ev i st)(hg:dj (all.take k) gi=some W)(a0:gi<i)(J:gd (st.op (.tmp W))=some none):ev gi=.one .und/\nsp all k gi:=by
 unfold gd at J;split at J
 ·rename_i b h;have:b=.und:=by cases b with
   |und=>rfl|dat t y oo=>cases t<;>cases oo<;>simp[AV.g?]at J|_=>simp[AV.g?]at J
  subst this;cases he:lke st.env W with
  |none=>simp[St.op,he,av?]at h|some e=>
   simp only[St.op,he]at h;have hm:=iX he;have a1:e.2=.one .und:=by cases h2:e.2 with
    |one v=>simp only[h2,av?,Option.some.injEq]at h;rw[h]|tup vs=>simp[h2,av?]at h
   rcases hc.env _ hm with⟨j,hj,Z,h4,_,a2⟩|⟨Z,_⟩
   ·have:=hD.ne gi j W hg Z;subst this;rw[h4];exact⟨a1,a2⟩
   ·exact absurd hg (Z gi a0)
 ·cases J
theorem yL{ρ:Type}{K:St G->Option ρ}{r:ρ}{st0:St G}(hD:Dis all k n):∀{os rest:List Oper}{i:Nat}{st:St G}{ev:Nat->EV G},(all.take k).drop i=os++rest->(∀o∈os,jG o=false)->oS G all k st0 ev i st->kj n Γ D all k i os st K=some r->∃ev' a4,(∀j,j<i->ev' j=ev j)/\(∀j o,i<=j->j<i+os.length->(all.take k)[j]?=some o->OpF G P Γ D n all k st0 ev' j o)/\K a4=some r/\oS G all k st0 ev' (i+os.length) a4:=by
 intro os;induction os with
 |nil=>intro rest i st ev b3 _ hc h;exact⟨ev,st,λ_ _=>rfl,λj o hj b5 ho=>by simp at b5;omega,h,hc⟩|cons o os ih=>
  intro rest i st ev b3 b7 hc h;have ho:(all.take k)[i]?=some o:=by have:=congrArg (·[0]?) b3;simpa using this
  have b6:all[i]?=some o:=by
   rw[Zg]at ho;split at ho;·exact ho
   ·cases ho
  have c3:(all.take k).drop (i+1)=os++rest:=by rw[←Y1,b3];rfl
  have d0:∀o∈os,jG o=false:=λo' c2=>b7 o' (List.mem_cons_of_mem _ c2);have c7:nsp all k i:=λoq b2=>by rw[ho]at b2;injection b2 with b2;subst b2;exact b7 o (by simp)
  have go:∀{a1:St G}{e:EV G}{d:Nat},o.dst=some d->Z8 d n=true->oS G all k st0 ev i a1->kj n Γ D all k (i+1) os (a1.put d e) K=some r->(∀ev':Nat->EV G,(∀j,j<i->ev' j=ev j)->ev' i=e->OpF G P Γ D n all k st0 ev' i o)->∃ev' a4,(∀j,j<i->ev' j=ev j)/\(∀j o',i<=j->j<i+(o::os).length->(all.take k)[j]?=some o'->OpF G P Γ D n all k st0 ev' j o')/\K a4=some r/\oS G all k st0 ev' (i+(o::os).length) a4:=by
   intro a1 e d hd Z a0 h1 hf;have c0:=oS.step c7 a0 (ev':=λj=>if j=i then e else ev j) (XG.2 ⟨o,ho,hd⟩) (if_pos rfl) (λj hj=>if_neg (by omega));obtain⟨ev',a4,q1,q2,q3,q4⟩:=ih c3 d0 c0 h1;have e1:∀j,j<i->ev' j=ev j:=λj hj=>by rw[q1 j (by omega)];exact if_neg (by omega)
   have e2:ev' i=e:=by rw[q1 i (by omega)];exact if_pos rfl
   refine⟨ev',a4,e1,λj oj hj b5 b1=>?_,q3,by rw[List.length_cons,show i+(os.length+1)=i+1+os.length by omega];exact q4⟩;rw[List.length_cons]at b5;rcases Zp i j with hij|hij;·exact q2 j oj (by omega) (by omega) b1
   ·have:j=i:=by omega
    subst this;rw[ho]at b1;injection b1 with b1;subst b1;exact hf ev' e1 e2
  have reads:∀{a1:St G},oS G all k st0 ev i a1->∀ev':Nat->EV G,(∀j,j<i->ev' j=ev j)->te G all k st0 ev' i o (visρ all k i o a1):=by intro a1 a0 ev' J x e hx;have:=DI hD b6 a0 x e hx;cases x with
   |tmp t=>
    rcases this with⟨q,h1,h2,h3,h4,h5⟩|h;·exact .inl ⟨q,h1,h2,h3,by rw[J q h2];exact h4,h5⟩
    ·exact .inr h|_=>exact this
  have b4:∀{a1:St G}{R:iO G}{b:R.β},oS G all k st0 ev i a1->tW Γ D (visρ all k i o a1) (fm st.L) o.op=some R->R.mv=some b->∀ev':Nat->EV G,(∀j,j<i->ev' j=ev j)->ev' i=R.k b->Bb G P Γ D all k st0 ev' i o:=by intro a1 R b a0 hR W ev' J hi;exact⟨R,b,_,by rw[hc.L]at hR;exact hR,W,hi,reads a0 ev' J⟩
  unfold kj at h;split at h
  ·rename_i d hd;split at h
   ·rename_i Z a6;split at h
    ·rename_i R hR;cases W:R.mv with
     |none=>simp[W]at h|some b=>
      simp only[W,Zx]at h;refine go hd Z hc h λev' J hi=>⟨d,hd,Z,?_⟩;rw[a6];exact b4 hc hR W ev' J hi
    ·cases h
   ·rename_i g b Z a6;split at h
    ·rename_i dg c5 a2;have a9:g∈bm o:=by obtain⟨e,J,W⟩:=Zn.1 c5;have:=Z1 W;subst this;exact J
     have a3:=kg hD.ed b6 g a9;split at h
     ·rename_i x b0 hx;obtain⟨k1,kn,a0⟩:=oS.lit hD hc a2 a3 hx;split at h
      ·rename_i c4;rw[c4]at k1 a0;split at h
       ·split at h
        ·rename_i R hR;cases W:R.mv with
         |none=>simp[W]at h|some b=>
          simp only[W,Zx]at h;refine go hd Z a0 h λev' J hi=>⟨d,hd,Z,?_⟩;rw[a6];exact⟨a9,kn,dg,a2,b0,.inl ⟨true,by rw[J g a3];exact k1,λ_=>b4 a0 hR W ev' J hi,λa5=>absurd rfl a5⟩⟩
        ·cases h
       ·refine go hd Z a0 h λev' J hi=>⟨d,hd,Z,?_⟩;rw[a6];exact⟨a9,kn,dg,a2,b0,.inl ⟨true,by rw[J g a3];exact k1,(λa5=>Zz a5),λ_=>hi⟩⟩
      ·rename_i c1;have c6:x=false:=by simpa using c1
       rw[c6]at k1 a0;split at h
       ·split at h
        ·rename_i R hR;cases W:R.mv with
         |none=>simp[W]at h|some b=>
          simp only[W,Zx]at h;refine go hd Z a0 h λev' J hi=>⟨d,hd,Z,?_⟩;rw[a6];exact⟨a9,kn,dg,a2,b0,.inl ⟨false,by rw[J g a3];exact k1,λ_=>b4 a0 hR W ev' J hi,λa5=>absurd rfl a5⟩⟩
        ·cases h
       ·refine go hd Z a0 h λev' J hi=>⟨d,hd,Z,?_⟩;rw[a6];exact⟨a9,kn,dg,a2,b0,.inl ⟨false,by rw[J g a3];exact k1,(λa5=>Zz a5),λ_=>hi⟩⟩
     ·rename_i b0 hx;obtain⟨k1,kn⟩:=oS.und hD hc a2 a3 hx;refine go hd Z hc h λev' J hi=>⟨d,hd,Z,?_⟩;rw[a6];exact⟨a9,kn,dg,a2,b0,.inr ⟨by rw[J g a3];exact k1,hi⟩⟩
     ·cases h
    ·cases h
   ·cases h
  ·cases h
theorem BP{g W:Nat}(h:dj (all.take k) g=some W):cw all.toArray g=some W:=by
 obtain⟨o,J,Z⟩:=XG.1 h;rw[Zg]at J;split at J;·exact XG.2 ⟨o,J,Z⟩
 ·cases J
theorem lh{j:Nat}{o:Oper}(h:(all.take k)[j]?=some o):all[j]?=some o/\j<k:=by
 rw[Zg]at h;split at h;·exact⟨h,‹_›⟩
 ·cases h
theorem tX{j:Nat}{o:Oper}(h:all[j]?=some o)(J:j<k):(all.take k)[j]?=some o:=by rw[Zg,if_pos J];exact h
theorem gB.drew{Ls:List (Nat×BC G)}{Ts:List Nat}(h:gB G W0 L0 T0 Ls Ts m z w):gB G W0 L0 T0 Ls Ts m z w.drew:=by obtain⟨Lc,Tc,Z,J,W,h4⟩:=h;exact⟨Lc,Tc,Z,J,W.drew,h4⟩
def OJ (G:Sg)(P:Program)(δ:List Nat)(n:Nat)(W0:Bse)(L0:Rs)(T0:List (Nat×Value))(all:List Oper)(k:Nat)(st:St G)(ev:Nat->EV G)(m:M)(z:Cz)(s:Nat->Bool)(a:Act)(w:World):Prop:=∃m',M.le m m'/\gB G W0 L0 T0 st.L st.T m' z w/\(a.defers=δ.map λD=>{target:=.collected D,args:=#[]})/\a.tmps.size=n/\(∀(j:Nat) (o:Oper),(all.take k)[j]?=some o->s j=true->∀d,o.dst=some d->(ev j).Rel G P m' z (a.tmps.getD d undef))/\(∀e∈st.env,(∀(j:Nat) (o:Oper),(all.take k)[j]?=some o->o.dst=some e.1->s j=false)->e.2.2.Rel G P m' z (a.tmps.getD e.1 undef))
theorem OJ.reads{ev:Nat->EV G}{s:Nat->Bool}(hJ:OJ G P δ n W0 L0 T0 all k st ev m z s a w){i:Nat}{o:Oper}(a1:s i=false)(a3:∀e∈bm o,s e=true)(a0:∀(j:Nat)(o':Oper),all[j]?=some o'->s j=true->∀e∈bm o',s e=true){ρ:Operand->Option (EV G)}(hR:te G all k st ev i o ρ):∃m',∀x e,ρ x=some e->e.Rel G P m' z (a.eval x):=by obtain⟨m',hm,a5,a9,a6,a2,a4⟩:=hJ;refine⟨m',λx e hx=>?_⟩;have:=hR x e hx;cases x with
 |tmp t=>
  rcases this with⟨q,h,h2,h3,h4,_⟩|⟨⟨lv,h⟩,h2⟩
  ·obtain⟨J,W,Z⟩:=XG.1 h3;rw[←h4];exact a2 q J W (a3 q h) t Z
  ·refine a4 _ h λq J W Z=>?_;cases hsq:s q with
   |false=>rfl|true=>have:=a0 q J (lh W).1 hsq i (h2 q J W Z);rw[a1]at this;cases this
 |const v=>obtain⟨b,h,rfl⟩:=this;exact zW h|_=>exact this.elim
theorem yM{ev:Nat->EV G}(hD:Dis all k n)(c5:∀j o,(all.take k)[j]?=some o->OpF G P Γ D n all k st ev j o)(i:Nat)(o:Oper)(c4:all[i]?=some o)(c6:i<k)(s:Nat->Bool)(a:Act)(w:World)(hJ:OJ G P δ n W0 L0 T0 all k st ev m z s a w)(e0:s i=false)(b5:∀e∈bm o,s e=true) (c1:∀(j:Nat) (o':Oper),all[j]?=some o'->s j=true->∀e∈bm o',s e=true):if Region.wanted o (yielded all.toArray a.tmps)=true then a8 P o a w (λv w'=>OJ G P δ n W0 L0 T0 all k st ev m z (upd s i) (a.put o.dst v) w')else OJ G P δ n W0 L0 T0 all k st ev m z (upd s i) (a.put o.dst undef) w:=by
 obtain⟨m',hm,b7,b4,a2,b1,c0⟩:=hJ;have a3:=tX c4 c6;obtain⟨d,hd,c3,a4⟩:=c5 i o a3;have c7:d<n:=Z0 c3;have reads:∀{ρ:Operand->Option (EV G)},te G all k st ev i o ρ->∀x e,ρ x=some e->e.Rel G P m' z (a.eval x):=by intro ρ hR x e hx;have:=hR x e hx;cases x with
  |tmp t=>
   rcases this with⟨q,h,J,h3,h4,_⟩|⟨⟨lv,h⟩,J⟩
   ·obtain⟨oq,a5,a1⟩:=XG.1 h3;rw[←h4];exact b1 q oq a5 (b5 q h) t a1
   ·refine c0 _ h λq oq a5 a1=>?_;cases hsq:s q with
    |false=>rfl|true=>have:=c1 q oq (lh a5).1 hsq i (J q oq a5 a1);rw[e0]at this;cases this
  |const v=>obtain⟨b,h,rfl⟩:=this;exact zW h|_=>exact this.elim
 have next:∀(v:Value) (w':World) (Z:M),M.le m' Z->gB G W0 L0 T0 st.L st.T Z z w'->(ev i).Rel G P Z z v->∃m',M.le m m'/\gB G W0 L0 T0 st.L st.T m' z w'/\((a.put o.dst v).defers=δ.map λD=>{target:=.collected D,args:=#[]})/\(a.put o.dst v).tmps.size=n/\(∀(j:Nat) (o':Oper),(all.take k)[j]?=some o'->upd s i j=true->∀d,o'.dst=some d->(ev j).Rel G P m' z ((a.put o.dst v).tmps.getD d undef))/\(∀e∈st.env,(∀(j:Nat) (o:Oper),(all.take k)[j]?=some o->o.dst=some e.1->upd s i j=false)->e.2.2.Rel G P m' z ((a.put o.dst v).tmps.getD e.1 undef)):=by
  intro v w' Z b0 d2 hv;rw[hd];refine⟨Z,hm.trans b0,d2,by simp[Act.put,b4],by simp[Act.put,a2],λj oj W hu e a0=>?_,λe he b3=>?_⟩
  ·by_cases hji:j=i
   ·subst hji;rw[a3]at W;injection W with W;subst W;rw[hd]at a0;injection a0 with a0;subst a0;simpa[Act.put,a2,c7]using hv
   ·unfold upd at hu;rw[if_neg hji]at hu;have h:=(b1 j oj W hu e a0).mono b0;have b2:d≠e:=λx=>by subst x;exact hji (hD.ne j i d (XG.2 ⟨oj,W,a0⟩) (XG.2 ⟨o,a3,hd⟩))
    simpa[Act.put,Array.getElem?_setIfInBounds_ne b2]using h
  ·have b2:d≠e.1:=λx=>by have:=b3 i o a3 (by rw[hd,x]);simp[upd]at this
   have h:=(c0 e he λj oj W a1=>by
    have:=b3 j oj W a1;unfold upd at this;split at this;·cases this
    ·exact this).mono b0;simpa[Act.put,Array.getElem?_setIfInBounds_ne b2]using h
 have run:Bb G P Γ D all k st ev i o->a8 P o a w (λv w'=>∃m',M.le m m'/\gB G W0 L0 T0 st.L st.T m' z w'/\((a.put o.dst v).defers=δ.map λD=>{target:=.collected D,args:=#[]})/\(a.put o.dst v).tmps.size=n/\(∀(j:Nat) (o':Oper),(all.take k)[j]?=some o'->upd s i j=true->∀d,o'.dst=some d->(ev j).Rel G P m' z ((a.put o.dst v).tmps.getD d undef))/\(∀e∈st.env,(∀(j:Nat) (o:Oper),(all.take k)[j]?=some o->o.dst=some e.1->upd s i j=false)->e.2.2.Rel G P m' z ((a.put o.dst v).tmps.getD e.1 undef))):=by rintro⟨R,b,ρ,hR,hb,he,d0⟩;obtain⟨dst,op,ty,pos,aft,g⟩:=o;simp only at hd;subst hd;refine(DH (d:=d) b4 a2 b7 (reads d0) R b hR hb).imp λv w' hq=>?_;obtain⟨Z,h,J,h3⟩:=hq;exact next v w' Z h J (by rw[he];exact h3)
 have b6:ev i=.one .und->∃m',M.le m m'/\gB G W0 L0 T0 st.L st.T m' z w/\((a.put o.dst undef).defers=δ.map λD=>{target:=.collected D,args:=#[]})/\(a.put o.dst undef).tmps.size=n/\(∀(j:Nat) (o':Oper),(all.take k)[j]?=some o'->upd s i j=true->∀d,o'.dst=some d->(ev j).Rel G P m' z ((a.put o.dst undef).tmps.getD d undef))/\(∀e∈st.env,(∀(j:Nat) (o:Oper),(all.take k)[j]?=some o->o.dst=some e.1->upd s i j=false)->e.2.2.Rel G P m' z ((a.put o.dst undef).tmps.getD e.1 undef)):=λhe=>next undef w m' (Z6 m') b7 (by rw[he];rfl);cases hg:o.guard with
 |none=>
  rw[hg]at a4;have hw:Region.wanted o (yielded all.toArray a.tmps)=true:=by simp[Region.wanted,hg]
  rw[if_pos hw];exact run a4|some gb=>
  obtain⟨g,b⟩:=gb;rw[hg]at a4;obtain⟨d1,_,dg,a9,e3,hx⟩:=a4;obtain⟨og,e1,c2⟩:=XG.1 a9;have a6:=b1 g og e1 (b5 g d1) dg c2;rcases hx with⟨x,h,J,h3⟩|⟨h,J⟩
  ·rw[h]at a6;have hv:a.tmps.getD dg undef=.bool x:=fg a6.1;have hy:=tV (all:=all) a2 (BP a9) e3 hv;by_cases hxb:x=b
   ·have hw:Region.wanted o (yielded all.toArray a.tmps)=true:=by simp[Region.wanted,hg,hy,hxb]
    rw[if_pos hw];exact run (J hxb)
   ·have hw:¬Region.wanted o (yielded all.toArray a.tmps)=true:=by simp[Region.wanted,hg,hy,hxb]
    rw[if_neg hw];exact b6 (h3 hxb)
  ·rw[h]at a6;have hv:a.tmps.getD dg undef=undef:=a6;have hy:=pB (BP a9) hv;have hw:¬Region.wanted o (yielded all.toArray a.tmps)=true:=by simp[Region.wanted,hg,hy]
   rw[if_neg hw];exact b6 J
theorem FA{ρ:Type}{ev:Nat->EV G}{h:St G}(W:oS G all k st ev (all.take k).length h)(h0:M.le m0 m)(a:Act)(w:World){s:Nat->Bool}(hJ:OJ G P δ n W0 L0 T0 all k st ev m z s a w)(a4:∀j,j<k->j<all.length->s j=true):Sat G P δ n W0 L0 T0 m0 h a w/\Ext st.c st h:=by
 obtain⟨m',hm,a9,a2,a1,a5,b0⟩:=hJ;have a3:kI G P m' z h.env a:=by
  intro e he;rcases W.env e he with⟨j,hj,h3,Z,_⟩|⟨h3,Z⟩
  ·obtain⟨o,J,a0⟩:=XG.1 h3;rw[←Z];exact a5 j o J (a4 j (lh J).2 (j6.1 (lh J).1).1) e.1 a0
  ·refine b0 e Z λj o J a0=>?_;exact absurd (XG.2 ⟨o,J,a0⟩) (h3 j (j6.1 J).1)
 have a6:Sat G P δ n W0 L0 T0 m0 h a w:=⟨⟨m',z,h0.trans hm,a3,by rw[W.L,W.T];exact a9⟩,a2,a1⟩;have hX:Ext st.c st h:=by
  refine⟨λq hq e he hl=>?_,λq hq i s B hb hs=>⟨s,hs,by rw[W.L]at hb;exact hb⟩⟩;rcases W.env e he with⟨j,_,_,_,h5,_⟩|⟨_,Z⟩;·omega
  ·exact⟨e.2.1,hl,Z⟩
 exact⟨a6,hX⟩
theorem N5{ρ:Type}{ro:Option Nat}{id:Nat}{K':St G->Option ρ}{r:ρ}{N Rt:Act->World->Prop}{X:List (Nat×(Act->World->Prop))}(a0:(all.take k).any jG=false)(a1:P.follows .mixedOrders=true)(hs:Sat G P δ n W0 L0 T0 m0 st a w)(Z:Dis all k n)(a5:o5 all k=true)(h:kj n Γ D all k 0 (all.take k) st (λst'=>iB n Γ D all (all.drop k) st' K')=some r) (hN:Nxt G P δ n W0 L0 T0 m0 K' r st N):K ro P (.region id all.toArray true) N X Rt a w:=by
 obtain⟨⟨m,z,h0,hr,hM⟩,hdf,hsz⟩:=hs;have a3:∀o∈all.take k,jG o=false:=λo W=>by cases hq:jG o with
  |false=>rfl|true=>rw[Zn.2 ⟨o,W,hq⟩]at a0;cases a0
 obtain⟨ev,a9,_,hF,hK,J⟩:=yL (G:=G) (P:=P) (st0:=st) (ev:=λ_=>.one .und) Z (i:=0) (rest:=[]) (by simp) a3 ⟨rfl,rfl,rfl,λe he=>.inr ⟨λj hj=>by omega,he⟩⟩ h;rw[Ya]at J;have a2:∀j o,(all.take k)[j]?=some o->OpF G P Γ D n all k st ev j o:=λj o W=>hF j o (Nat.zero_le _) (by have:=(j6.1 W).1;omega) W;refine EY (k:=k) a1 Z.ed a5 (OJ G P δ n W0 L0 T0 all k st ev m z) ?_ (yM Z a2) ?_;·exact⟨m,Z6 m,hM.drew,hdf,hsz,(λj o _ h=>Zz h),λe he _=>hr e he⟩
 ·intro s a w hJ a4;obtain⟨a6,hX⟩:=FA (ρ:=ρ) J h0 a w hJ a4;exact A9 hK a6 λst' a' w' q1 q2 q3 q4=>ag (hN st' a' w' q1 q2 (hX.trans (by rw[J.c]at q3;exact q3)) (by rw[q4,J.c]))
end
section
variable{G:Sg}{P:Program}{δ:List Nat}{n:Nat}{W0:Bse}{L0:Rs}{T0:List (Nat×Value)}{m m0:M}{z:Cz}{st:St G}{a:Act}{w:World}{Γ:Tab P G}{D:List (CS P G)}{g:Option (Nat×Bool)}{all:List Oper}{k:Nat}
theorem S.comm{A B C:List (Nat×List Value)}{TL:List (Nat×Value)}(h:S W0 m w (A++(B++C)) TL):S W0 m w (B++(A++C)) TL:=by
 refine h.selL _ (λi=>if i<B.length then i+A.length else if i<B.length+A.length then i-B.length else i) (λi e J=>?_) (λi j W=>?_)
 ·by_cases h1:i<B.length
  ·rw[if_pos h1];rw[Z2 h1]at J;rw[zx (by omega),Z2 (by omega),show i+A.length-A.length=i by omega];exact J
  ·rw[if_neg h1];rw[zx (by omega)]at J;by_cases h2:i<B.length+A.length
   ·rw[if_pos h2];rw[Z2 (by omega)]at J;rw[Z2 (by omega)];exact J
   ·rw[if_neg h2];rw[zx (by omega)]at J;rw[zx (by omega),zx (by omega),show i-A.length-B.length=i-B.length-A.length by omega];exact J
 ·split at W<;>split at W<;>(try split at W)<;>(try split at W)<;>omega
def FB (G:Sg)(m:M)(z:Cz)(done:Bool)(a:Act):Sp G->Nat×List Value->Prop
 |.al d t x,e=>match done with
  |true=>a.tmps.getD d undef=.pointer (some ⟨e.1,0,none⟩)/\(t.kd G).R m e.2 x|false=>e.2=[]
 |.so i t x,e=>∃p,fb z.b i=some p/\e.1=p.1/\match done with
  |true=>(t.kd G).R m e.2 x|false=>∃y,(t.kd G).R m e.2 y
def FrR (G:Sg)(m:M)(z:Cz)(s:Nat->Bool)(a:Act):List (Nat×Sp G)->List (Nat×List Value)->Prop
 |[],[]=>True|q::r,e::Fr=>FB G m z (s q.1) a q.2 e/\FrR G m z s a r Fr|_,_=>False
theorem FB.step{m':M}{b:Bool}{sp:Sp G}{e:Nat×List Value}{a':Act}(h:FB G m z b a sp e)(hm:M.le m m')(ha:∀d t x,sp=.al d t x->a'.tmps.getD d undef=a.tmps.getD d undef):FB G m' z b a' sp e:=by cases sp with
 |al d t x=>cases b with
  |true=>obtain⟨J,W⟩:=h;exact⟨by rw[ha d t x rfl];exact J,(t.kd G).mono hm W⟩|false=>exact h
 |so i t x=>obtain⟨p,J,W,Z⟩:=h;cases b with
  |true=>exact⟨p,J,W,(t.kd G).mono hm Z⟩|false=>obtain⟨y,Z⟩:=Z;exact⟨p,J,W,y,(t.kd G).mono hm Z⟩
theorem FrR.step{m':M}{s s':Nat->Bool}{a':Act}:∀{J:List (Nat×Sp G)}{Fr:List (Nat×List Value)},FrR G m z s a J Fr->M.le m m'->(∀q∈J,s' q.1=s q.1/\∀d t x,q.2=.al d t x->a'.tmps.getD d undef=a.tmps.getD d undef)->FrR G m' z s' a' J Fr:=by
 intro J;induction J with
 |nil=>intro Fr h _ _;cases Fr with|nil=>trivial|cons e Fr=>exact h.elim
 |cons q r ih=>intro Fr h hm W;cases Fr with
  |nil=>exact h.elim|cons e Fr=>obtain⟨h1,h2⟩:=h;obtain⟨Z,q2⟩:=W q (by simp);exact⟨by rw[Z];exact h1.step hm q2,ih h2 hm λx hx=>W x (by simp[hx])⟩
theorem FrR.zz{z':Cz}{s:Nat->Bool}(Z:∀i p,fb z.b i=some p->fb z'.b i=some p):∀{J:List (Nat×Sp G)}{Fr:List (Nat×List Value)},FrR G m z s a J Fr->FrR G m z' s a J Fr:=by
 intro J;induction J with
 |nil=>intro Fr h;cases Fr with|nil=>trivial|cons e Fr=>exact h.elim
 |cons q r ih=>intro Fr h;cases Fr with
  |nil=>exact h.elim|cons e Fr=>obtain⟨W,h2⟩:=h;refine⟨?_,ih h2⟩;obtain⟨j,sp⟩:=q;cases sp with
   |al d t x=>exact W|so i t x=>obtain⟨p,k1,k2⟩:=W;exact⟨p,Z i p k1,k2⟩
theorem FrR.set{s:Nat->Bool}:∀{J:List (Nat×Sp G)}{Fr:List (Nat×List Value)}{i:Nat}{sp:Sp G},FrR G m z s a J Fr->(i,sp)∈J->(J.map Prod.fst).Nodup->∃p e,Fr[p]?=some e/\FB G m z (s i) a sp e/\∀(m':M) (a':Act) (e':Nat×List Value),M.le m m'->FB G m' z true a' sp e'->(∀q∈J,q.1≠i->∀d t x,q.2=.al d t x->a'.tmps.getD d undef=a.tmps.getD d undef)->FrR G m' z (upd s i) a' J (Fr.set p e'):=by
 intro J;induction J with
 |nil=>intro Fr i sp _ hi;cases hi|cons q r ih=>intro Fr i sp h hi hn;cases Fr with
  |nil=>exact h.elim|cons e Fr=>
   obtain⟨h1,h2⟩:=h;simp only[Ze,List.nodup_cons]at hn;obtain⟨a0,a1⟩:=hn;rcases Z5.1 hi with hq|hi
   ·subst hq;refine⟨0,e,rfl,h1,λm' a' e' hm he Z=>⟨?_,?_⟩⟩;·rw[show upd s i i=true from if_pos rfl];exact he
    ·refine h2.step hm λx hx=>?_;have W:x.1≠i:=λe=>by have h5:=Zt (f:=Prod.fst) hx;rw[e]at h5;exact a0 h5
     exact⟨if_neg W,Z x (by simp[hx]) W⟩
   ·obtain⟨p,e1,k1,k2,k3⟩:=ih h2 hi a1;have W:q.1≠i:=λe=>a0 (by rw[e];exact Zt (f:=Prod.fst) hi);refine⟨p+1,e1,k1,k2,λm' a' e' hm he Z=>⟨?_,k3 m' a' e' hm he λx hx=>Z x (by simp[hx])⟩⟩;rw[show upd s i q.1=s q.1 from if_neg W];exact h1.step hm (Z q (by simp) W)
theorem Jz{c:Nat}{X:List (Nat×List Value)}{TL:List (Nat×Value)}{Ls:List (Nat×BC G)}{Lc:List (Nat×List Value)}(h1:LR G m Ls z.b Lc)(hS:S W0 m w (Lc++X) TL):∀{gs:List (Option Nat)},gOK (fm Ls) gs=true->∃(W Fr:List (Nat×List Value)),LR G m (gk c gs Ls) z.b W/\S W0 m w (Fr++(W++X)) TL/\(∀j,(∀o∈gs,o≠some j)->fb (gk c gs Ls) j=fb Ls j)/\(∀h:List (Nat×Sp G),h.map (λq=>q.2.blk)=gs->(∀q∈h,∀i t x,q.2=.so i t x->∃y,fm Ls i=some (.dat t y))->FrR G m z (λ_=>false) a h Fr):=by
 intro gs;induction gs with
 |nil=>intro _;refine⟨Lc,[],h1,hS,λ_ _=>rfl,λh J _=>?_⟩;cases h with
  |nil=>trivial|cons q r=>simp at J
 |cons o gs ih=>intro hg;cases o with
  |none=>obtain⟨W,Fr,k1,k2,k3,k4⟩:=ih hg;refine⟨W,(0,[])::Fr,k1,k2.void 0,λj hj=>k3 j λo ho=>hj o (by simp[ho]),λh J Z=>?_⟩;cases h with
   |nil=>simp at J|cons q r=>simp only[Ze,List.cons.injEq]at J;obtain⟨a0,a2⟩:=J;refine⟨?_,k4 r a2 λx hx=>Z x (by simp[hx])⟩;obtain⟨j,sp⟩:=q;cases sp with
    |al d t x=>exact rfl|so i t x=>simp[Sp.blk]at a0
  |some i=>
   simp only[gOK,Zb]at hg;obtain⟨⟨a5,a3⟩,hg3⟩:=hg;obtain⟨W,Fr,k1,k2,k3,k4⟩:=ih hg3;have a6:∀o∈gs,o≠some i:=λo ho e=>by subst e;have:gs.any (λj=>decide (j=some i))=true:=Zn.2 ⟨some i,ho,by simp⟩;rw[this]at a3;cases a3
   split at a5
   ·rename_i t y hB;obtain⟨lv,b0⟩:=iP hB;have a9:fb (gk c gs Ls) i=some (lv,.dat t y):=by rw[k3 i a6];exact b0
    obtain⟨p,cs,j,g1,g2,g3,g4⟩:=k1.get a9;have g5:=g4 (c,.gone) p.2 [] rfl;rw[lf g1]at g5;have e0:(Fr++(W++X))[Fr.length+j]?=some (p.1,cs):=by rw[zx (by omega),show Fr.length+j-Fr.length=j by omega];exact lg g2
    have a4:=k2.takeL e0;have e1:(Fr++(W++X)).set (Fr.length+j) (p.1,[])=Fr++(W.set j (p.1,[])++X):=by rw[Zw _ _ (by omega),show Fr.length+j-Fr.length=j by omega,mt g2]
    rw[e1]at a4;refine⟨_,(p.1,cs)::Fr,g5,a4,λq Z=>?_,λh J Z=>?_⟩
    ·show fb (sb (gk c gs Ls) i (c,.gone)) q=_;rw[kG (λe=>Z (some i) (by simp) (by rw[e]))];exact k3 q λo ho=>Z o (by simp[ho])
    ·cases h with
     |nil=>simp at J|cons q r=>simp only[Ze,List.cons.injEq]at J;obtain⟨a0,a2⟩:=J;refine⟨?_,k4 r a2 λx hx=>Z x (by simp[hx])⟩;obtain⟨j',sp⟩:=q;cases sp with
      |al d t x=>simp[Sp.blk]at a0|so i' t' x=>
       simp only[Sp.blk,Option.some.injEq]at a0;subst a0;obtain⟨y',a1⟩:=Z (j',.so i' t' x) (by simp) i' t' x rfl;rw[hB]at a1;injection a1 with a1;injection a1 with e2 e3;subst e2;exact⟨p,g1,rfl,y,g3⟩
   ·cases a5
def gND:List (Option Nat)->Prop
 |[]=>True|none::r=>gND r|some i::r=>(∀o∈r,o≠some i)/\gND r
theorem PF{W:Nat->Option (BC G)}:∀{gs:List (Option Nat)},gOK W gs=true->gND gs:=by
 intro gs;induction gs with
 |nil=>intro _;trivial|cons o gs ih=>intro h;cases o with
  |none=>exact ih h|some i=>simp only[gOK,Zb]at h;obtain⟨⟨_,J⟩,hg3⟩:=h;refine⟨λo Z e=>?_,ih hg3⟩;subst e;have:gs.any (λj=>decide (j=some i))=true:=Zn.2 ⟨some i,Z,by simp⟩;rw[this]at J;cases J
theorem N6{c:Nat}{Ls:List (Nat×BC G)}:∀{gs:List (Option Nat)},gOK (fm Ls) gs=true->∀i,some i∈gs->∃lv,fb (gk c gs Ls) i=some (lv,.gone):=by
 intro gs;induction gs with
 |nil=>intro _ i hi;cases hi|cons o gs ih=>intro W i hi;cases o with
  |none=>exact ih W i (by simpa using hi)|some q=>
   simp only[gOK,Zb]at W;obtain⟨⟨Z,_⟩,hg3⟩:=W;show∃lv,fb (sb (gk c gs Ls) q (c,.gone)) i=some (lv,.gone);by_cases hq:q=i
   ·subst hq;have key:∀{gs:List (Option Nat)}{q:Nat}{e:Nat×BC G},fb Ls q=some e->∃e',fb (gk c gs Ls) q=some e':=by
     intro gs;induction gs with
     |nil=>intro q e h;exact⟨e,h⟩|cons o gs ih2=>intro q e h;cases o with
      |none=>exact ih2 h|some j=>
       obtain⟨e',J⟩:=ih2 h;show∃e',fb (sb (gk c gs Ls) j (c,.gone)) q=some e';by_cases hj:j=q;·subst hj;exact⟨_,pY J⟩
       ·exact⟨e',by rw[kG hj];exact J⟩
    split at Z
    ·rename_i t y hB;obtain⟨lv,a0⟩:=iP hB;obtain⟨e',J⟩:=key a0 (gs:=gs);exact⟨c,pY J⟩
    ·cases Z
   ·rw[kG hq];rcases Z5.1 hi with h|h;·injection h with h;exact absurd h.symm hq
    ·exact ih hg3 i h
theorem Ext.gone{gs:List (Option Nat)}:Ext st.c st {st with L:=gk st.c gs st.L}:=by induction gs with
 |nil=>exact Ext.refl _ _|cons o gs ih=>cases o with
  |none=>exact ih|some i=>exact ih.trans (Ext.setB (st:={st with L:=gk st.c gs st.L}) (i:=i) (B:=.gone))
theorem PG{X:List (Nat×List Value)}{TL:List (Nat×Value)}{nm:List (Nat×Value)}{s:Nat->Bool}:∀{J:List (Nat×Sp G)}{Fr Lc:List (Nat×List Value)}{st:St G}{z:Cz},FrR G m z s a J Fr->(∀q∈J,s q.1=true)->gND (J.map λq=>q.2.blk)->(∀i,some i∈J.map (λq=>q.2.blk)->∃lv,fb st.L i=some (lv,.gone))->kI G P m z st.env a->LR G m st.L z.b Lc->S W0 m w (Lc++(Fr++X)) TL->Sfx z.b nm->∃(z':Cz) (W:List (Nat×List Value)),z'.t=z.t/\kI G P m z' (mu J st).env a/\LR G m (mu J st).L z'.b W/\S W0 m w (W++X) TL/\Sfx z'.b nm/\Ext st.c st (mu J st)/\(mu J st).c=st.c/\(mu J st).T=st.T:=by
 intro J;induction J with
 |nil=>intro Fr Lc st z hF _ _ _ hr h1 hS a0;cases Fr with
  |nil=>exact⟨z,Lc,rfl,hr,h1,hS,a0,Ext.refl _ _,rfl,rfl⟩|cons e Fr=>exact hF.elim
 |cons q r ih=>intro Fr Lc st z hF hs a6 hg hr h1 hS a0;cases Fr with
  |nil=>exact hF.elim|cons e Fr=>obtain⟨a1,a5⟩:=hF;have Z:=hs q (by simp);have a9:∀q∈r,s q.1=true:=λx hx=>hs x (by simp[hx]);obtain⟨j,sp⟩:=q;simp only at Z;rw[Z]at a1;have a2:S W0 m w (e::(Lc++(Fr++X))) TL:=S.comm (A:=Lc) (B:=[e]) (C:=Fr++X) hS;cases sp with
   |al d t x=>
    obtain⟨f1,f2⟩:=a1;have b2:=h1.len.1;have b4:kI G P m ⟨(e.1,undef)::z.b,z.t⟩ ((st.push (.dat t x)).put d (.one (.blk st.L.length))).env a:=by
     intro y hy;rcases Z5.1 hy with rfl|hy;·exact⟨_,by rw[←b2];exact ki,f1⟩
     ·exact(hr y (mr hy).1).z (Zle.pushB z _)
    have b0:gND (r.map λq=>q.2.blk):=a6;obtain⟨z',W,k0,k1,k2,k3,k4,k5,k6,k7⟩:=ih (z:=⟨(e.1,undef)::z.b,z.t⟩) (Lc:=e::Lc) (st:=(st.push (.dat t x)).put d (.one (.blk st.L.length))) (a5.zz λi p h=>zV h) a9 b0 (λi hi=>by
     obtain⟨lv,h⟩:=hg i (by simp only[Ze,Z5];exact .inr hi);exact⟨lv,zV h⟩) b4 ⟨rfl,f2,h1⟩ a2 a0.cons;exact⟨z',W,k0,k1,k2,k3,k4,Ext.push_put.trans k5,k6,k7⟩|so i t x=>
    obtain⟨p,f1,f2,f3⟩:=a1;have a3:(∀o∈r.map (λq=>q.2.blk),o≠some i)/\gND (r.map λq=>q.2.blk):=a6;obtain⟨lv,b5⟩:=hg i (by simp[Sp.blk]);obtain⟨p',cs,j',g1,g2,g3,g4⟩:=h1.get b5;rw[f1]at g1;injection g1 with g1;subst g1;have b1:cs=[]:=g3;subst b1;have g5:=g4 (st.c,.dat t x) p.2 e.2 f3;rw[lf f1]at g5;have ee:e=(p.1,e.2):=by rw[←f2]
    rw[ee]at a2;have a4:=a2.putL (lg (l0:=Fr++X) g2);rw[mt g2]at a4;obtain⟨z',W,k0,k1,k2,k3,k4,k5,k6,k7⟩:=ih (z:=z) (st:=st.setB i (.dat t x)) a5 a9 a3.2 (λq Z=>by
     obtain⟨b3,h⟩:=hg q (by simp only[Ze,Z5];exact .inr Z);exact⟨b3,by
      show fb (sb st.L i _) q=_;rw[kG (λe=>a3.1 (some q) Z (by rw[e]))];exact h⟩) hr g5 a4 a0;exact⟨z',W,k0,k1,k2,k3,k4,Ext.setB.trans k5,k6,k7⟩
def SpF (G:Sg)(P:Program)(Γ:Tab P G)(n:Nat)(all:List Oper)(k:Nat)(h:Nat->Option (BC G))(st0:St G)(ev:Nat->EV G)(j:Nat)(sp:Sp G):Prop:=∃o ρ,(all.take k)[j]?=some o/\jG o=true/\zZ n o.dst=true/\Ie Γ ρ h o=some sp/\te G all k st0 ev j o ρ
theorem te.congr{st0:St G}{ev ev':Nat->EV G}{j:Nat}{o:Oper}{ρ:Operand->Option (EV G)}(h:te G all k st0 ev j o ρ)(he:∀q,q<j->ev' q=ev q):te G all k st0 ev' j o ρ:=by intro x e hx;have:=h x e hx;cases x with
 |tmp t=>
  rcases this with⟨q,Z,J,W,h4,h5⟩|h;·exact .inl ⟨q,Z,J,W,by rw[he q J];exact h4,h5⟩
  ·exact .inr h|_=>exact this
theorem OpF.congr{st0:St G}{ev ev':Nat->EV G}{j:Nat}{o:Oper}(h:OpF G P Γ D n all k st0 ev j o)(hD:Dis all k n)(ho:all[j]?=some o)(W:∀q,q<j+1->ev' q=ev q):OpF G P Γ D n all k st0 ev' j o:=by
 have hx:Bb G P Γ D all k st0 ev j o->Bb G P Γ D all k st0 ev' j o:=by rintro⟨R,b,ρ,h1,Z,J,h4⟩;exact⟨R,b,ρ,h1,Z,by rw[W j (by omega)];exact J,h4.congr λq hq=>W q (by omega)⟩
 obtain⟨d,h1,Z,J⟩:=h;refine⟨d,h1,Z,?_⟩;cases hg:o.guard with
 |none=>rw[hg]at J;exact hx J|some gb=>
  obtain⟨g,b⟩:=gb;rw[hg]at J;obtain⟨k1,k2,dg,k3,k4,k5⟩:=J;have a0:=kg hD.ed ho g k1;refine⟨k1,k2,dg,k3,k4,?_⟩;rw[W g (by omega),W j (by omega)];rcases k5 with⟨x,q1,q2,q3⟩|q;·exact .inl ⟨x,q1,λhb=>hx (q2 hb),q3⟩
  ·exact .inr q
structure Aa (G:Sg)(P:Program)(Γ:Tab P G)(n:Nat)(all:List Oper)(k:Nat)(Lv:Nat->Option (BC G))(st0:St G)(ev:Nat->EV G)(i:Nat)(acc:List (Nat×Sp G)):Prop where
 lt:∀q∈acc,q.1<i
 f:∀q∈acc,SpF G P Γ n all k Lv st0 ev q.1 q.2nd:(acc.map Prod.fst).Nodup
 al:∀j o,j<i->(all.take k)[j]?=some o->jG o=true->∃sp,(j,sp)∈acc
theorem Aa.congr{W:Nat->Option (BC G)}{st0:St G}{ev ev':Nat->EV G}{i:Nat}{J:List (Nat×Sp G)}(h:Aa G P Γ n all k W st0 ev i J)(he:∀q,q<i->ev' q=ev q):Aa G P Γ n all k W st0 ev' i J:=⟨h.lt,λq Z=>by
 obtain⟨o,ρ,h1,h2,h3,h4,h5⟩:=h.f q Z;exact⟨o,ρ,h1,h2,h3,h4,h5.congr λx hx=>he x (by have:=h.lt q Z;omega)⟩,h.nd,h.al⟩
theorem If{ρ:Type}{K:St G->List (Nat×Sp G)->Option ρ}{r:ρ}{st0:St G}{Lv:Nat->Option (BC G)}(hD:Dis all k n):∀{os:List Oper}{i:Nat}{st:St G}{a1:List (Nat×Sp G)}{ev:Nat->EV G},(all.take k).drop i=os->oS G all k st0 ev i st->Aa G P Γ n all k Lv st0 ev i a1->tL n Γ D all k Lv i os st a1 K=some r->∃ev' a4 a3,(∀j,j<i->ev' j=ev j)/\(∀j o,i<=j->(all.take k)[j]?=some o->jG o=false->OpF G P Γ D n all k st0 ev' j o)/\Aa G P Γ n all k Lv st0 ev' (all.take k).length a4/\K a3 a4=some r/\oS G all k st0 ev' (all.take k).length a3:=by
 intro os;induction os with
 |nil=>
  intro i st a1 ev a5 Z ha h;have c4:(all.take k).length<=i:=by have:=congrArg Y9 a5;simp only[List.length_drop,List.length_nil]at this;omega
  refine⟨ev,a1,st,λ_ _=>rfl,λj o hj ho=>?_,⟨λq W=>?_,ha.f,ha.nd,λj o hj ho=>ha.al j o (by omega) ho⟩,h,⟨Z.L,Z.T,Z.c,λe he=>?_⟩⟩;·have:=(j6.1 ho).1;omega
  ·obtain⟨o,_,h1,_⟩:=ha.f q W;exact(j6.1 h1).1
  ·rcases Z.env e he with⟨j,hj,h3,h4⟩|⟨h3,h4⟩
   ·obtain⟨o,ho,_⟩:=XG.1 h3;exact .inl ⟨j,(j6.1 ho).1,h3,h4⟩
   ·refine .inr ⟨λj hj=>h3 j (by omega),h4⟩|cons o os ih=>
  intro i st a1 ev a5 Z ha h;have ho:(all.take k)[i]?=some o:=by have:=congrArg (·[0]?) a5;simpa using this
  have b7:all[i]?=some o:=(lh ho).1;have b0:(all.take k).drop (i+1)=os:=by rw[←Y1,a5];rfl
  unfold tL at h;split at h
  ·rename_i a9;split at h
   ·rename_i sp b2 hs;have hR:=DI hD b7 Z;have b1:oS G all k st0 ev (i+1) (match o.dst with|some d=>{st with env:=rmk st.env d}|none=>st):=by cases hd:o.dst with
     |none=>
      refine⟨Z.L,Z.T,Z.c,λe he=>?_⟩;rcases Z.env e he with⟨j,hj,h3⟩|⟨h3,h4⟩;·exact .inl ⟨j,by omega,h3⟩
      ·refine .inr ⟨λj hj a6=>?_,h4⟩;rcases Zp j i with hji|hji;·exact h3 j hji a6
       ·have:j=i:=by omega
        subst this;obtain⟨o',J,a2⟩:=XG.1 a6;rw[ho]at J;injection J with J;subst J;rw[hd]at a2;cases a2|some d=>
      refine⟨Z.L,Z.T,Z.c,λe he=>?_⟩;obtain⟨c0,b5⟩:=mr he;rcases Z.env e c0 with⟨j,hj,h3⟩|⟨h3,h4⟩;·exact .inl ⟨j,by omega,h3⟩
      ·refine .inr ⟨λj hj a6=>?_,h4⟩;rcases Zp j i with hji|hji;·exact h3 j hji a6
       ·have:j=i:=by omega
        subst this;obtain⟨o',J,a2⟩:=XG.1 a6;rw[ho]at J;injection J with J;subst J;rw[hd]at a2;injection a2 with a2;exact b5 a2.symm
    have b3:Aa G P Γ n all k Lv st0 ev (i+1) (a1++[(i,sp)]):=by
     refine⟨λq W=>?_,λq W=>?_,?_,λj o' hj J a0=>?_⟩
     ·rcases Z9.1 W with W|W;·have:=ha.lt q W;omega
      ·simp only[Z3]at W;subst W;simp
     ·rcases Z9.1 W with W|W;·exact ha.f q W
      ·simp only[Z3]at W;subst W;exact⟨o,_,ho,a9,b2,hs,hR⟩
     ·rw[Y7,Y0];refine⟨ha.nd,by simp,λx hx y hy=>?_⟩;simp only[Ze,Y5,Z3]at hy;subst hy;obtain⟨q,W,rfl⟩:=Zs.1 hx;have:=ha.lt q W;omega
     ·rcases Zp j i with hji|hji
      ·obtain⟨b4,h1⟩:=ha.al j o' hji J a0;exact⟨b4,Z9.2 (.inl h1)⟩
      ·have:j=i:=by omega
       subst this;exact⟨sp,by simp⟩
    obtain⟨ev',a4,a3,q1,q2,q3,q4,q5⟩:=ih b0 b1 b3 h;refine⟨ev',a4,a3,λj hj=>q1 j (by omega),λj o' hj J a0=>?_,q3,q4,q5⟩;rcases Zp i j with hij|hij;·exact q2 j o' (by omega) J a0
    ·have:j=i:=by omega
     subst this;rw[ho]at J;injection J with J;subst J;rw[a9]at a0;cases a0
   ·cases h
  ·rename_i a9;obtain⟨c1,c3,p1,p2,p3,p4⟩:=yL (os:=[o]) (rest:=os) hD a5 (λo' J=>by simp only[Z3]at J;subst J;exact a9) Z h;have c2:Aa G P Γ n all k Lv st0 c1 (i+1) a1:=by
    have:=ha.congr p1;refine⟨λq W=>by have:=ha.lt q W;omega,this.f,this.nd,λj o' hj J a0=>?_⟩;rcases Zp j i with hji|hji;·exact ha.al j o' hji J a0
    ·have:j=i:=by omega
     subst this;rw[ho]at J;injection J with J;subst J;rw[a9]at a0;cases a0
   obtain⟨ev',a4,a3,q1,q2,q3,q4,q5⟩:=ih b0 p4 c2 p3;refine⟨ev',a4,a3,λj hj=>by rw[q1 j (by omega)];exact p1 j hj,λj o' hj J a0=>?_,q3,q4,q5⟩;rcases Zp i j with hij|hij;·exact q2 j o' (by omega) J a0
   ·have:j=i:=by omega
    subst this;have b6:=p2 j o' (by omega) (by simp) J;exact b6.congr hD (lh J).1 (λq W=>q1 q (by omega))
theorem Bc{Lv:Nat->Option (BC G)}{ρ:Operand->Option (EV G)}{o:Oper}{sp:Sp G}(h:Ie Γ ρ Lv o=some sp):(∃(d:Nat) (t:TypeId) (I:TI P G t),o.guard=none/\o.dst=some d/\o.op=.alloc t/\sp=.al d I.T I.z)\/(∃(t:TypeId) (x y:Operand) (I:TI P G t) (i:Nat) (b:AV G) (u:I.T.den G) (Z:I.T.den G),o.guard=none/\o.dst=none/\o.op=.store t x y/\av? (ρ x)=some (.blk i)/\av? (ρ y)=some b/\Lv i=some (.dat I.T Z)/\b.as Γ I.T=some u/\sp=.so i I.T u):=by
 unfold Ie at h;split at h
 ·rename_i d t hg J W;split at h
  ·rename_i I _ _;injection h with h;exact .inl ⟨d,t,I,hg,J,W,h.symm⟩
  ·cases h
 ·rename_i t x y hg J W;split at h
  ·rename_i I i b hI hx hy;split at h
   ·rename_i c Z hL;split at h
    ·rename_i hc;subst hc;split at h
     ·rename_i u hu;injection h with h;exact .inr ⟨t,x,y,I,i,b,u,Z,hg,J,W,hx,hy,hL,hu,h.symm⟩
     ·cases h
    ·cases h
   ·cases h
  ·cases h
 ·cases h
theorem LS{ρ:Type}{ro:Option Nat}{id:Nat}{K':St G->Option ρ}{r:ρ}{N Rt:Act->World->Prop}{X:List (Nat×(Act->World->Prop))}(l2:P.follows .mixedOrders=true)(hs:Sat G P δ n W0 L0 T0 m0 st a w)(hD:Dis all k n)(j5:o5 all k=true)(h6:gOK (fm st.L) (stG st (all.take k))=true) (h:tL n Γ D all k (fm st.L) 0 (all.take k) {st with L:=gk st.c (stG st (all.take k)) st.L} [] (λst' a4=>if a4.map (λq=>q.2.blk)=stG st (all.take k)then iB n Γ D all (all.drop k) (mu a4 st') K' else none)=some r) (hN:Nxt G P δ n W0 L0 T0 m0 K' r st N):K ro P (.region id all.toArray true) N X Rt a w:=by
 obtain⟨⟨m,z,h0,hr,hM⟩,b1,a3⟩:=hs;obtain⟨ev,a4,d1,_,j1,hA,g0,hC⟩:=If (G:=G) (P:=P) (st0:={st with L:=gk st.c (stG st (all.take k)) st.L}) (ev:=λ_=>.one .und) hD (i:=0) rfl ⟨rfl,rfl,rfl,λe W=>.inr ⟨λj hj=>by omega,W⟩⟩ ⟨λq J=>(by cases J),λq J=>(by cases J),by simp,λj o hj=>(by omega)⟩ h;have l4:∀j o,(all.take k)[j]?=some o->jG o=false->OpF G P Γ D n all k {st with L:=gk st.c (stG st (all.take k)) st.L} ev j o:=λj o ho=>j1 j o (Nat.zero_le _) ho;split at g0;rotate_left;·cases g0
 rename_i g7;have hK:=g0;obtain⟨Lc,Tc,Z,h2,hS,b7⟩:=hM;obtain⟨j3,h8,k1,k2,_,k4⟩:=Jz (a:=a) (c:=st.c) Z hS h6;have j2:=k4 a4 g7 (λq J i t x W=>by
  obtain⟨o,ρ,_,_,_,hs,_⟩:=hA.f q J;rcases Bc hs with⟨d,t',I,_,_,_,e⟩|⟨t',x',y',I,i',b,u,y0,_,_,_,_,_,e5,_,e7⟩;·rw[W]at e;cases e
  ·rw[W]at e7;injection e7 with e1 e2 e3;subst e1;subst e2;exact⟨y0,e5⟩);have hM:gB G W0 ⟨h8++L0.l,L0.nm⟩ T0 (gk st.c (stG st (all.take k)) st.L) st.T m z w:=⟨j3,Tc,k1,h2,k2.comm,b7⟩;have i1:∀q∈a4,∀d t x,q.2=.al d t x->dj (all.take k) q.1=some d:=by
  intro q J d t x W;obtain⟨o,ρ,ho,_,_,hs,_⟩:=hA.f q J;rcases Bc hs with⟨d',t',I,_,hd,_,e⟩|⟨t',x',y',I,i',b,u,y0,_,_,_,_,_,_,_,e7⟩;·rw[W]at e;injection e with e1;subst e1;exact XG.2 ⟨o,ho,hd⟩
  ·rw[W]at e7;cases e7
 refine EY (k:=k) l2 hD.ed j5 (λs a w=>∃m' Fr,M.le m m'/\FrR G m' z s a a4 Fr/\gB G W0 ⟨Fr++L0.l,L0.nm⟩ T0 (gk st.c (stG st (all.take k)) st.L) st.T m' z w/\(a.defers=δ.map λD=>{target:=.collected D,args:=#[]})/\a.tmps.size=n/\(∀(j:Nat) (o:Oper),(all.take k)[j]?=some o->jG o=false->s j=true->∀d,o.dst=some d->(ev j).Rel G P m' z (a.tmps.getD d undef))/\(∀e∈st.env,(∀(j:Nat) (o:Oper),(all.take k)[j]?=some o->o.dst=some e.1->s j=false)->e.2.2.Rel G P m' z (a.tmps.getD e.1 undef))) ?_ ?_ ?_;·exact⟨m,h8,Z6 m,j2,hM.drew,b1,a3,(λj o _ _ h=>Zz h),λe W _=>hr e W⟩
 ·rintro i o l3 m1 s a w⟨m',Fr,hm,f0,g8,b1,a3,b3,b6⟩hsi hpre hcl;have a2:=tX l3 m1;have reads:∀{ρ:Operand->Option (EV G)},te G all k {st with L:=gk st.c (stG st (all.take k)) st.L} ev i o ρ->∀x e,ρ x=some e->e.Rel G P m' z (a.eval x):=by intro ρ hR x e hx;have:=hR x e hx;cases x with
   |tmp t=>
    rcases this with⟨q,Z,h2,h3,h4,k3⟩|⟨⟨lv,Z⟩,h2⟩
    ·obtain⟨oq,e4,a1⟩:=XG.1 h3;rw[←h4];exact b3 q oq e4 (k3 oq e4) (hpre q Z) t a1
    ·refine b6 _ Z λq oq e4 a1=>?_;cases hsq:s q with
     |false=>rfl|true=>have:=hcl q oq (lh e4).1 hsq i (h2 q oq e4 a1);rw[hsi]at this;cases this
   |const v=>obtain⟨b,Z,rfl⟩:=this;exact zW Z|_=>exact this.elim
  cases hsp:jG o with
  |true=>
   obtain⟨sp,i2⟩:=hA.al i o (j6.1 a2).1 a2 hsp;obtain⟨o',ρ,b0,_,g4,hs,hR⟩:=hA.f _ i2;simp only at b0;rw[a2]at b0;injection b0 with b0;subst b0;obtain⟨p,e,g1,g2,g3⟩:=f0.set i2 hA.nd;rw[hsi]at g2;have e9:∀(j:Nat) (oj:Oper),(all.take k)[j]?=some oj->jG oj=false->j≠i:=λj oj hj a9 e=>by
    subst e;rw[a2]at hj;injection hj with hj;subst hj;rw[hsp]at a9;cases a9
   obtain⟨Lc,Tc,Z,h2,hS,b7⟩:=g8;have e0:(Lc++(Fr++L0.l))[Lc.length+p]?=some e:=by rw[zx (by omega),show Lc.length+p-Lc.length=p by omega];exact lg g1
   have e1:∀e',(Lc++(Fr++L0.l)).set (Lc.length+p) e'=Lc++(Fr.set p e'++L0.l):=λe'=>by rw[Zw _ _ (by omega),show Lc.length+p-Lc.length=p by omega,mt g1]
   rcases Bc hs with⟨d,t,I,hg,hd,a6,rfl⟩|⟨t,x,y,I,bi,b,u,y0,hg,hd,a6,hx,hy,m8,hu,rfl⟩
   ·have hw:Region.wanted o (yielded all.toArray a.tmps)=true:=by simp[Region.wanted,hg]
    rw[if_pos hw];obtain⟨dst,op,ty,pos,aft,g⟩:=o;simp only at hd a6 hg;subst hd;subst a6;subst hg;have f6:d<n:=Z0 g4;refine(cF hS I.hz (cs:=I.zv.cells.toList) (by simp)).imp λv w' J=>?_;obtain⟨b,rfl,f3⟩:=J;have g5:e=(e.1,[]):=by have g2:e.2=[]:=g2;rw[←g2]
    rw[g5]at e0;have i3:=f3.putL e0;rw[e1]at i3;have g6:∀q,q≠d->(a.put (some d) (.pointer (some ⟨b,0,none⟩))).tmps.getD q undef=a.tmps.getD q undef:=λq J=>by simp[Act.put,Array.getElem?_setIfInBounds_ne (Ne.symm J)]
    refine⟨m',Fr.set p (b,I.zv.cells.toList),hm,g3 m' _ _ (Z6 m') ⟨by simp[Act.put,a3,f6],I.hzR m'⟩ (λq J e6 d' t' x' W=>g6 d' λe=>e6 ?_),⟨Lc,Tc,Z,h2,i3,b7⟩,by simp[Act.put,b1],by simp[Act.put,a3],λj oj a0 a9 b5 dd f4=>?_,λe' h7 b4=>?_⟩
    ·subst e;exact hD.ne q.1 i _ (i1 q J _ t' x' W) (XG.2 ⟨_,a2,rfl⟩)
    ·have b2:=e9 j oj a0 a9;unfold upd at b5;rw[if_neg b2]at b5;rw[g6 dd λe=>b2 (hD.ne j i dd (XG.2 ⟨oj,a0,f4⟩) (XG.2 ⟨_,a2,by rw[e]⟩))];exact b3 j oj a0 a9 b5 dd f4
    ·have d2:e'.1≠d:=λe=>by have:=b4 i _ a2 (by rw[e]);simp[upd]at this
     rw[g6 _ d2];exact b6 e' h7 λj oj a0 a1=>by
      have:=b4 j oj a0 a1;unfold upd at this;split at this;·cases this
      ·exact this
   ·have hw:Region.wanted o (yielded all.toArray a.tmps)=true:=by simp[Region.wanted,hg]
    rw[if_pos hw];obtain⟨dst,op,ty,pos,aft,g⟩:=o;simp only at hd a6 hg;subst hd;subst a6;subst hg;obtain⟨l,hE,hl⟩:=ez b1 a3 [x,y];obtain⟨p1,q1,q2⟩:=bp (reads hR) hx;obtain⟨p2,q3,q4,yy,q5⟩:=g2;rw[q1]at q3;injection q3 with q3;subst q3;have g5:e=(p1.1,e.2):=by rw[←q4]
    rw[g5]at e0;have i4:=hl x (by simp);rw[q2]at i4;refine(dq hE hS I.ok bT i4 (hl y (by simp)) (AV.as_rel hu (bp (reads hR) hy)) e0 q5).imp λv w' J=>?_;obtain⟨cs',i8,f3⟩:=J;rw[e1]at f3;refine⟨m',Fr.set p (p1.1,cs'),hm,g3 m' _ _ (Z6 m') ⟨p1,q1,rfl,i8⟩ (λq J e6 d' t' x' W=>rfl),⟨Lc,Tc,Z,h2,f3,b7⟩,b1,a3,λj oj a0 a9 b5 dd f4=>?_,λe' h7 b4=>?_⟩
    ·have b2:=e9 j oj a0 a9;unfold upd at b5;rw[if_neg b2]at b5;exact b3 j oj a0 a9 b5 dd f4
    ·exact b6 e' h7 λj oj a0 a1=>by
      have:=b4 j oj a0 a1;unfold upd at this;split at this;·cases this
      ·exact this|false=>
  obtain⟨d,hd,g4,a6⟩:=l4 i o a2 hsp;have f6:d<n:=Z0 g4;have m2:∀q∈a4,q.1≠i/\∀d' t x,q.2=.al d' t x->d'≠d:=λq J=>by
   have e6:q.1≠i:=λe=>by
    obtain⟨o',_,b0,i5,_⟩:=hA.f q J;rw[e,a2]at b0;injection b0 with b0;subst b0;rw[hsp]at i5;cases i5
   exact⟨e6,λd' t x W e=>by
    subst e;exact e6 (hD.ne q.1 i _ (i1 q J _ t x W) (XG.2 ⟨o,a2,hd⟩))⟩
  have fr:∀(v:Value) (a5:M),M.le m' a5->FrR G a5 z (upd s i) (a.put o.dst v) a4 Fr:=λv a5 l1=>f0.step l1 λq J=>by obtain⟨c1,c2⟩:=m2 q J;refine⟨if_neg c1,λd' t x W=>?_⟩;rw[hd];simp[Act.put,Array.getElem?_setIfInBounds_ne (Ne.symm (c2 d' t x W))]
  have next:∀(v:Value) (w':World) (a5:M),M.le m' a5->gB G W0 ⟨Fr++L0.l,L0.nm⟩ T0 (gk st.c (stG st (all.take k)) st.L) st.T a5 z w'->(ev i).Rel G P a5 z v->∃m' Fr',M.le m m'/\FrR G m' z (upd s i) (a.put o.dst v) a4 Fr'/\gB G W0 ⟨Fr'++L0.l,L0.nm⟩ T0 (gk st.c (stG st (all.take k)) st.L) st.T m' z w'/\((a.put o.dst v).defers=δ.map λD=>{target:=.collected D,args:=#[]})/\(a.put o.dst v).tmps.size=n/\(∀(j:Nat) (o':Oper),(all.take k)[j]?=some o'->jG o'=false->upd s i j=true->∀d,o'.dst=some d->(ev j).Rel G P m' z ((a.put o.dst v).tmps.getD d undef))/\(∀e∈st.env,(∀(j:Nat) (o:Oper),(all.take k)[j]?=some o->o.dst=some e.1->upd s i j=false)->e.2.2.Rel G P m' z ((a.put o.dst v).tmps.getD e.1 undef)):=by
   intro v w' a5 f5 m5 hv;refine⟨a5,Fr,hm.trans f5,fr v a5 f5,m5,by rw[hd];simp[Act.put,b1],by rw[hd];simp[Act.put,a3],λj oj a0 a9 hu e d0=>?_,λe W b4=>?_⟩<;>rw[hd]
   ·by_cases b2:j=i
    ·subst b2;rw[a2]at a0;injection a0 with a0;subst a0;rw[hd]at d0;injection d0 with d0;subst d0;simpa[Act.put,a3,f6]using hv
    ·unfold upd at hu;rw[if_neg b2]at hu;have Z:=(b3 j oj a0 a9 hu e d0).mono f5;have d2:d≠e:=λx=>by subst x;exact b2 (hD.ne j i d (XG.2 ⟨oj,a0,d0⟩) (XG.2 ⟨o,a2,hd⟩))
     simpa[Act.put,Array.getElem?_setIfInBounds_ne d2]using Z
   ·have d2:d≠e.1:=λx=>by have:=b4 i o a2 (by rw[hd,x]);simp[upd]at this
    have Z:=(b6 e W λj oj a0 a1=>by
     have:=b4 j oj a0 a1;unfold upd at this;split at this;·cases this
     ·exact this).mono f5;simpa[Act.put,Array.getElem?_setIfInBounds_ne d2]using Z
  have run:Bb G P Γ D all k {st with L:=gk st.c (stG st (all.take k)) st.L} ev i o->a8 P o a w (λv w'=>∃m' Fr',M.le m m'/\FrR G m' z (upd s i) (a.put o.dst v) a4 Fr'/\gB G W0 ⟨Fr'++L0.l,L0.nm⟩ T0 (gk st.c (stG st (all.take k)) st.L) st.T m' z w'/\((a.put o.dst v).defers=δ.map λD=>{target:=.collected D,args:=#[]})/\(a.put o.dst v).tmps.size=n/\(∀(j:Nat) (o':Oper),(all.take k)[j]?=some o'->jG o'=false->upd s i j=true->∀d,o'.dst=some d->(ev j).Rel G P m' z ((a.put o.dst v).tmps.getD d undef))/\(∀e∈st.env,(∀(j:Nat) (o:Oper),(all.take k)[j]?=some o->o.dst=some e.1->upd s i j=false)->e.2.2.Rel G P m' z ((a.put o.dst v).tmps.getD e.1 undef))):=by rintro⟨R,b,ρ,hR,hb,W,m4⟩;obtain⟨dst,op,ty,pos,aft,g⟩:=o;simp only at hd;subst hd;refine(DH (d:=d) b1 a3 g8 (reads m4) R b hR hb).imp λv w' J=>?_;obtain⟨a5,Z,h2,h3⟩:=J;exact next v w' a5 Z h2 (by rw[W];exact h3)
  have h9:ev i=.one .und->∃m' Fr',M.le m m'/\FrR G m' z (upd s i) (a.put o.dst undef) a4 Fr'/\gB G W0 ⟨Fr'++L0.l,L0.nm⟩ T0 (gk st.c (stG st (all.take k)) st.L) st.T m' z w/\((a.put o.dst undef).defers=δ.map λD=>{target:=.collected D,args:=#[]})/\(a.put o.dst undef).tmps.size=n/\(∀(j:Nat) (o':Oper),(all.take k)[j]?=some o'->jG o'=false->upd s i j=true->∀d,o'.dst=some d->(ev j).Rel G P m' z ((a.put o.dst undef).tmps.getD d undef))/\(∀e∈st.env,(∀(j:Nat) (o:Oper),(all.take k)[j]?=some o->o.dst=some e.1->upd s i j=false)->e.2.2.Rel G P m' z ((a.put o.dst undef).tmps.getD e.1 undef)):=λW=>next undef w m' (Z6 m') g8 (by rw[W];rfl);cases hg:o.guard with
  |none=>
   rw[hg]at a6;have hw:Region.wanted o (yielded all.toArray a.tmps)=true:=by simp[Region.wanted,hg]
   rw[if_pos hw];exact run a6|some gb=>
   obtain⟨g,b⟩:=gb;rw[hg]at a6;obtain⟨j4,k7,dg,g9,m6,hx⟩:=a6;obtain⟨og,i0,k6⟩:=XG.1 g9;have e8:=b3 g og i0 (k7 og i0) (hpre g j4) dg k6;rcases hx with⟨x,Z,h2,h3⟩|⟨Z,h2⟩
   ·rw[Z]at e8;have hv:a.tmps.getD dg undef=.bool x:=fg e8.1;have hy:=tV (all:=all) a3 (BP g9) m6 hv;by_cases hxb:x=b
    ·have hw:Region.wanted o (yielded all.toArray a.tmps)=true:=by simp[Region.wanted,hg,hy,hxb]
     rw[if_pos hw];exact run (h2 hxb)
    ·have hw:¬Region.wanted o (yielded all.toArray a.tmps)=true:=by simp[Region.wanted,hg,hy,hxb]
     rw[if_neg hw];exact h9 (h3 hxb)
   ·rw[Z]at e8;have hv:a.tmps.getD dg undef=undef:=e8;have hy:=pB (BP g9) hv;have hw:¬Region.wanted o (yielded all.toArray a.tmps)=true:=by simp[Region.wanted,hg,hy]
    rw[if_neg hw];exact h9 h2
 ·rintro s a w⟨m',Fr,hm,f0,⟨Lc,Tc,Z,h2,hS,b7⟩,b1,a3,b3,b6⟩hall;have j0:kI G P m' z d1.env a:=by
   intro e W;rcases hC.env e W with⟨j,hj,h3,h4,_,e9⟩|⟨h3,h4⟩
   ·obtain⟨o,ho,a1⟩:=XG.1 h3;rw[←h4];exact b3 j o ho (e9 o ho) (hall j (lh ho).2 (j6.1 (lh ho).1).1) e.1 a1
   ·refine b6 e h4 λj o ho a1=>?_;exact absurd (XG.2 ⟨o,ho,a1⟩) (h3 j (j6.1 ho).1)
  obtain⟨z',m7,c0,c1,c2,c3,c4,c5,c6,c7⟩:=PG (st:=d1) f0 (λq J=>by
   obtain⟨o,_,ho,_⟩:=hA.f q J;exact hall q.1 (lh ho).2 (j6.1 (lh ho).1).1) (by rw[g7];exact PF h6) (λi hi=>by rw[g7]at hi;rw[hC.L];exact N6 h6 i hi) j0 (by rw[hC.L];exact Z) hS b7;have k0:Sat G P δ n W0 L0 T0 m0 (mu a4 d1) a w:=⟨⟨m',z',h0.trans hm,c1,m7,Tc,c2,by rw[c7,c0,hC.T];exact h2,c3,c4⟩,b1,a3⟩;have hX:Ext st.c st d1:=by
   refine(Ext.gone (st:=st) (gs:=stG st (all.take k))).trans ⟨λq J e W hl=>?_,λq J i s B hb hs=>⟨s,hs,by rw[hC.L]at hb;exact hb⟩⟩;rcases hC.env e W with⟨j,_,_,_,h5,_⟩|⟨_,h4⟩
   ·have h5:e.2.1=st.c:=h5;omega
   ·exact⟨e.2.1,hl,h4⟩
  have k5:d1.c=st.c:=hC.c;rw[k5]at c5 c6;exact A9 hK k0 λst' a' w' q1 q2 q3 q4=>ag (hN st' a' w' q1 q2 ((hX.trans c5).trans (by rw[c6]at q3;exact q3)) (by rw[q4,c6]))
end
end Go.Proofs.YthbonoagbeilkaaGreat.Hay
