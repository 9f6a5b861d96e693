import Derived.Orders
import Derived.Below
import Derived.WalkKit
import Derived.Laws.Tables
import Derived.RangeFuncFrom
import Derived.RangeFuncLeaves
import Derived.OrdersIn
import Derived.Scope
import Derived.Laws.Append
import Derived.RowKit3
import Derived.Laws.BytesArg
import Derived.Laws.MakeOwn
import Derived.Laws.Strings
import Derived.Laws.Slices
import Derived.Laws.StructEq
import Derived.Lib.Bytealg
import Derived.Laws.Externs
import Derived.Laws.Cover3
import Derived.Shelf.GgSortFunc.InsertionK
import Derived.Shelf.SlSortCmp.InsertionK
import Derived.Shelf.SlSortCmp.NoneTotal
import Derived.Deep.Slices
import Derived.ChangeKeysEq
namespace Go.Proofs.YthbonoagbeilkaaGreat.Hay
open Option renaming map_some→Zn,bind_eq_bind→X3,bind_some→X4,pure_def→Ye
open List renaming getElem?_eq_some_iff→zx,eq_nil_of_length_eq_zero→Z1,take_of_length_le→Z2,take_append_of_le_length→Z3,all_eq_true→Z8,drop_eq_nil_of_le→Z9,take_take→Zb,append_assoc→Zc,drop_take→Zd,drop_drop→Ze,getElem?_eq_getElem→Zf,range→Zg,take_append_drop→Zh,getElem?_append_right→Zi,drop_append_of_le_length→Zk,getElem?_append_left→Zl,nil_append→Zo,length_cons→Zp,drop_zero→Zq,length_take→Zr,mem_zipIdx_iff_getElem?→Zt,getElem?_drop→Zu,getElem?_set→Zv,replicate→Zw,getElem?_take→Zx,eq_nil_iff_forall_not_mem→Zz,length_nil→X5,map_congr_left→X6,drop_append→X8,map_cons→Y0,getElem?_toArray→Y1,set_getElem_self→Y2,mapM_cons→Y3,take_zero→Y4,getD_eq_getElem?_getD→Y5,take_succ_eq_append_getElem→Y9,getElem_cons_zero→Yb,range_succ_eq_map→Yc,mem_filter→Yd,getElem?_eq_none→Yg,length_replicate→Yh,getElem_mem→Yj,any_eq_true→Yk,range'→Yl,setIfInBounds_toArray→Ym,map_map→Yn,drop_succ_cons→Yo,getElem_append_right→Yp,drop_eq_getElem_cons→Yq,length_append→Yr,getElem_append_left→Ys,flatMap_cons→Yt,ext_getElem?→Yu,getElem_replicate→Yx,filter_eq_nil_iff→Yy,drop_of_length_le→Yz,ext_getElem→Kc
open Nat renaming mul_le_mul_right→j6,le_of_ble_eq_true→Z0,eq_of_beq_eq_true→Z4,min_eq_left→Z5,add_mul→Z6,le_refl→Z7,eq_zero_or_pos→Za,add_zero→Zm,blt→Zy,mul_pos→Y6,lt_or_ge→Y7,zero_add→Y8,beq→Ya,ble→Yf,mul_le_mul_left→Yi,mod_eq_of_lt→Yv,min_eq_right→Yw
open Bool renaming and_eq_true→Zj,not_eq_true'→Zs,or_eq_true→X7,false_eq_true→X9
open Go.RowKit (Below)
abbrev M:=Nat->Option (List Value)
def M.le (m m':M):Prop:=∀b l,m b=some l->∃r,m' b=some (l++r)
theorem M.le.refl (m:M):M.le m m:=λ_ l h=>⟨[],by simpa using h⟩
theorem M.le.trans{a b c:M}(h:M.le a b)(k:M.le b c):M.le a c:=λx l hl=>by obtain⟨r,Z⟩:=h x l hl;obtain⟨J,W⟩:=k x _ Z;exact⟨r++J,by simpa using W⟩
def M.row (m:M)(b o n:Nat):List Value:=match m b with|some l=>(l.drop o).take n|none=>[]
theorem M.row_mono{m m':M}(h:M.le m m'){b o n:Nat}(hl:(m.row b o n).length=n)(W:0<n):m'.row b o n=m.row b o n:=by unfold M.row at*;cases hm:m b with
 |none=>simp[hm]at hl;omega|some l=>obtain⟨r,J⟩:=h b l hm;simp only[hm,J]at*;rw[X8];simp at hl;rw[Z3 (by simp;omega)]
structure Kd (O:Type)where
 sz:Nat
 agg:Bool
 R:M->List Value->O->Prop
 mono:∀{m m' cs x},M.le m m'->R m cs x->R m' cs x
 len:∀{m cs x},R m cs x->cs.length=sz
 one:∀{m cs x},R m cs x->∀c∈cs,c.oneCell'=true
 pos:0<sz
 flat:agg=false->sz=1
def Kd.val{O:Type}(d:Kd O)(cs:List Value):Value:=if d.agg then .agg cs.toArray else cs.headD undef
def RV{O:Type}(d:Kd O)(m:M)(v:Value)(x:O):Prop:=∃cs,d.R m cs x/\v=d.val cs
theorem RV.mono{O:Type}{d:Kd O}{m m':M}{v:Value}{x:O}(h:RV d m v x)(hm:M.le m m'):RV d m' v x:=by obtain⟨cs,W,J⟩:=h;exact⟨cs,d.mono hm W,J⟩
theorem Kd.val_cells{O:Type}(d:Kd O){m:M}{cs:List Value}{x:O}(h:d.R m cs x):(d.val cs).cells=cs.toArray:=by unfold Kd.val;cases ha:d.agg with
 |true=>simp[Value.cells]|false=>
   have hl:=d.len h;rw[d.flat ha]at hl;match cs,hl with
   |[c],_=>have J:=d.one h c (by simp);simp;cases c<;>simp_all[Value.oneCell',Value.cells]
def PR{O:Type}(d:Kd O)(m:M)(v:Value)(x:O):Prop:=∃b o,v=.pointer (some ⟨b,o,none⟩)/\d.R m (m.row b o d.sz) x
theorem PR.mono{O:Type}{d:Kd O}{m m':M}{v:Value}{x:O}(h:PR d m v x)(hm:M.le m m'):PR d m' v x:=by obtain⟨b,o,W,J⟩:=h;refine⟨b,o,W,?_⟩;rw[M.row_mono hm (d.len J) d.pos];exact d.mono hm J
def inR (k:IntKind)(n:Int):Prop:=k.wrap n=n
def aj (k:IntKind):Kd Int:={
 sz:=1
 agg:=false
 R:=λ_ cs n=>cs=[.int k n]/\inR k n
 mono:=λ_ h=>h
 len:=λh=>by simp[h.1]
 one:=λh=>by simp[h.1,Value.oneCell']
 pos:=by decide
 flat:=λ_=>rfl
 }
def cS:Kd Bool:={
 sz:=1
 agg:=false
 R:=λ_ cs b=>cs=[.bool b]
 mono:=λ_ h=>h
 len:=λh=>by simp[h]
 one:=λh=>by simp[h,Value.oneCell']
 pos:=by decide
 flat:=λ_=>rfl
 }
def bts (s:List Int):ByteArray:=⟨(s.map λn=>UInt8.ofNat n.toNat).toArray⟩
def cz:Nat:=2^48
def sP:Kd (List Int):={
 sz:=1
 agg:=false
 R:=λ_ cs s=>cs=[.string (bts s)]/\(∀n∈s,0<=n/\n<256)/\s.length<=cz
 mono:=λ_ h=>h
 len:=λh=>by simp[h.1]
 one:=λh=>by simp[h.1,Value.oneCell']
 pos:=by decide
 flat:=λ_=>rfl
 }
def kSl{O:Type}(d:Kd O):Kd (List O):={
 sz:=1
 agg:=false
 R:=λm cs xs=>∃a len cap,cs=[.slice a len cap]/\len=xs.length/\len<=cap/\xs.length<=cz/\(match a with
  |none=>cap=0|some ad=>(0<cap->ad.spot=none)/\∀i (h:i<xs.length),d.R m (m.row ad.block (ad.off+i*d.sz) d.sz) xs[i])
 mono:=λ{m m' cs xs}hm h=>by obtain⟨a,len,cap,J,Z,h3,h4,W⟩:=h;refine⟨a,len,cap,J,Z,h3,h4,?_⟩;cases a with
  |none=>exact W|some ad=>refine⟨W.1,λi hi=>?_⟩;have:=W.2 i hi;rw[M.row_mono hm (d.len this) d.pos];exact d.mono hm this
 len:=λh=>by obtain⟨a,len,cap,J,_⟩:=h;simp[J]
 one:=λh=>by obtain⟨a,len,cap,J,_⟩:=h;simp[J,Value.oneCell']
 pos:=by decide
 flat:=λ_=>rfl
 }
def cM{O β:Type}(d:Kd O) (e:Kd β):Kd (O×β):={
 sz:=d.sz+e.sz
 agg:=true
 R:=λm cs x=>d.R m (cs.take d.sz) x.1/\e.R m (cs.drop d.sz) x.2
 mono:=λhm h=>⟨d.mono hm h.1,e.mono hm h.2⟩
 len:=λ{m cs x}h=>by have J:=d.len h.1;have W:=e.len h.2;simp at J W;omega
 one:=λ{m cs x}h c hc=>by
  rw[←Zh d.sz cs]at hc;rcases List.mem_append.1 hc with J|J;·exact d.one h.1 c J
  ·exact e.one h.2 c J
 pos:=by have:=d.pos;omega
 flat:=λh=>by cases h
 }
def qx{O β:Type}(f:β->O)(d:Kd O):Kd β:={
 sz:=d.sz
 agg:=true
 R:=λm cs x=>d.R m cs (f x)
 mono:=d.mono
 len:=d.len
 one:=d.one
 pos:=d.pos
 flat:=λh=>by cases h
 }
def sQ (B:Nat)(m:M)(w:World)(sz:Nat):Value->Prop
 |.slice none _ _=>True|.slice (some ad) len cap=>ad.block<w.heap.size/\(len=cap\/ad.spot=none/\B<=ad.block/\∃l c t,m ad.block=some l/\l.length=ad.off+len*sz/\w.heap[ad.block]?=some (.cells c t (0,0))/\ad.off+cap*sz<=c.size)|_=>False
def jU:Value->Option Nat
 |.slice (some ad) _ _=>some ad.block|_=>none
def zI (v u:Value):Prop:=∀b,jU v=some b->jU u≠some b
structure Bel (B:Nat)(w w':World):Prop extends Below B w w' where drawn:w.drawn<=w'.drawn
theorem Bel.refl (B:Nat)(w:World):Bel B w w:=⟨Below.refl B w,Z7 _⟩
theorem Bel.trans{B:Nat}{a b c:World}(h:Bel B a b)(k:Bel B b c):Bel B a c:=⟨h.toBelow.trans k.toBelow,Nat.le_trans h.drawn k.drawn⟩
theorem Bel.drew{B:Nat}{a w:World}(h:Bel B a w):Bel B a w.drew:=⟨h.toBelow.drew,Nat.le_succ_of_le h.drawn⟩
theorem Bel.alloc{B:Nat}{a w:World}(h:Bel B a w)(J:B<=w.heap.size)(o:Obj):Bel B a (w.alloc o):=⟨h.toBelow.alloc J o,h.drawn⟩
structure Bse where
 w:World
 keep:Nat->Option Obj
 old:M
abbrev Bse.heap (W0:Bse):Array Obj:=W0.w.heap
structure Blw (W0:Bse)(w:World):Prop extends Bel W0.heap.size W0.w w where kept:∀(k:Nat) (o:Obj),W0.keep k=some o->w.heap[k]?=some o/\o.isCells=false
theorem Blw.step{W0:Bse}{w w':World}(h:Blw W0 w)(Z:Bel W0.heap.size w w')(W:∀(k:Nat)(o:Obj),w.heap[k]?=some o->o.isCells=false->w'.heap[k]?=some o):Blw W0 w':=⟨h.toBel.trans Z,λk o J=>⟨W k o (h.kept k o J).1 (h.kept k o J).2,(h.kept k o J).2⟩⟩
theorem Blw.drew{W0:Bse}{w:World}(h:Blw W0 w):Blw W0 w.drew:=⟨h.toBel.drew,h.kept⟩
theorem Blw.alloc{W0:Bse}{w:World}(h:Blw W0 w)(W:W0.heap.size<=w.heap.size)(o:Obj):Blw W0 (w.alloc o):=h.step ((Bel.refl _ w).alloc W o) λk o' J _=>by have:=(Array.getElem?_eq_some_iff.1 J).1;show(w.heap.push o)[k]?=_;rw[Array.getElem?_push,if_neg (by omega)];exact J
structure S (W0:Bse)(m:M)(w:World)(L:List (Nat×List Value))(TL:List (Nat×Value)):Prop where
 below:Blw W0 w
 imm:∀b l,m b=some l->∃c t fr r,w.heap[b]?=some (.cells c t fr)/\c.toList=l++r/\(W0.heap.size<=b\/∃s,W0.old b=some (l++s))own:∀(i:Nat) (e:Nat×List Value),L[i]?=some e->e.2≠[]->W0.heap.size<=e.1/\m e.1=none/\∃t,w.heap[e.1]?=some (.cells e.2.toArray t (0,0))nodup:∀(i j:Nat) (e e':Nat×List Value),L[i]?=some e->L[j]?=some e'->i≠j->e.2≠[]->e'.2≠[]->e.1≠e'.1tails:∀(i:Nat) (e:Nat×Value),TL[i]?=some e->sQ W0.heap.size m w e.1 e.2apart:∀(i j:Nat) (e e':Nat×Value),TL[i]?=some e->TL[j]?=some e'->i≠j->zI e.2 e'.2
section
variable{W0:Bse}{m:M}{w:World}{L:List (Nat×List Value)}{TL:List (Nat×Value)}
theorem S.drew (h:S W0 m w L TL):S W0 m w.drew L TL:=⟨h.below.drew,h.imm,h.own,h.nodup,λi e J=>by
 have:=h.tails i e J;revert this;cases e with|mk s v=>cases v<;>intro h<;>exact h,h.apart⟩
theorem S.lt (h:S W0 m w L TL){b:Nat}{l:List Value}(J:m b=some l):b<w.heap.size:=by obtain⟨c,t,Z,r,W,_⟩:=h.imm b l J;exact(Array.getElem?_eq_some_iff.1 W).1
theorem S.fresh (h:S W0 m w L TL){b:Nat}(J:w.heap.size<=b):m b=none:=by cases hm:m b with
 |none=>rfl|some l=>have:=h.lt hm;omega
theorem S.dropL (h:S W0 m w L TL)(k:Nat):S W0 m w (L.drop k) TL:=⟨h.below,h.imm,λi e J=>h.own (k+i) e (by simpa using J),λi j e e' J W Z=>h.nodup (k+i) (k+j) e e' (by simpa using J) (by simpa using W) (by omega),h.tails,h.apart⟩
theorem S.dropT (h:S W0 m w L TL)(k:Nat):S W0 m w L (TL.drop k):=⟨h.below,h.imm,h.own,h.nodup,λi e J=>h.tails (k+i) e (by simpa using J),λi j e e' J W Z=>h.apart (k+i) (k+j) e e' (by simpa using J) (by simpa using W) (by omega)⟩
theorem S.selL (h:S W0 m w L TL)(Z:List (Nat×List Value))(f:Nat->Nat)(W:∀i e,Z[i]?=some e->L[f i]?=some e)(hi:∀i j,f i=f j->i=j):S W0 m w Z TL:=⟨h.below,h.imm,λi e J=>h.own (f i) e (W i e J),λi j e e' J a1 a0=>h.nodup (f i) (f j) e e' (W i e J) (W j e' a1) (λe=>a0 (hi _ _ e)),h.tails,h.apart⟩
theorem S.selT (h:S W0 m w L TL)(Z:List (Nat×Value))(f:Nat->Nat)(W:∀i e,Z[i]?=some e->TL[f i]?=some e)(hi:∀i j,f i=f j->i=j):S W0 m w L Z:=⟨h.below,h.imm,h.own,h.nodup,λi e J=>h.tails (f i) e (W i e J),λi j e e' J a1 a0=>h.apart (f i) (f j) e e' (W i e J) (W j e' a1) (λe=>a0 (hi _ _ e))⟩
theorem S.nilT (h:S W0 m w L TL)(sz l c:Nat):S W0 m w L ((sz,.slice none l c)::TL):=⟨h.below,h.imm,h.own,h.nodup,λi e J=>by cases i with
 |zero=>simp at J;subst J;trivial|succ i=>exact h.tails i e (by simpa using J),λi j e e' J W a0=>by cases i with
 |zero=>simp at J;subst J;intro b Z;simp[jU]at Z|succ i=>cases j with
   |zero=>simp at W;subst W;intro b Z;simp[jU]|succ j=>exact h.apart i j e e' (by simpa using J) (by simpa using W) (by omega)⟩
theorem qj{B sz:Nat}{v:Value}{w':World}(W:∀b,b<w.heap.size->w'.heap[b]?=w.heap[b]?)(h:sQ B m w sz v):sQ B m w' sz v:=by
 cases v<;>try exact h
 rename_i a len cap;cases a with
 |none=>trivial|some ad=>
   obtain⟨J,h⟩:=h;have a0:ad.block<w'.heap.size:=by have:=W _ J;rw[Array.getElem?_eq_getElem J]at this;exact(Array.getElem?_eq_some_iff.1 this).1
   refine⟨a0,?_⟩;rcases h with h|⟨h0,h1,l,c,t,Z,h3,h4,h5⟩;·exact .inl h
   ·exact .inr ⟨h0,h1,l,c,t,Z,h3,by rw[W _ J];exact h4,h5⟩
theorem EO{B sz:Nat}{v:Value}{m':M}(hm:∀b,b<w.heap.size->m' b=m b)(h:sQ B m w sz v):sQ B m' w sz v:=by
 cases v<;>try exact h
 rename_i a len cap;cases a with
 |none=>trivial|some ad=>
   obtain⟨J,h⟩:=h;refine⟨J,?_⟩;rcases h with h|⟨h0,h1,l,c,t,W,Z,h4,h5⟩;·exact .inl h
   ·exact .inr ⟨h0,h1,l,c,t,by rw[hm _ J];exact W,Z,h4,h5⟩
theorem zJ{B sz b:Nat}{v:Value}(h:sQ B m w sz v)(J:jU v=some b):b<w.heap.size:=by cases v<;>simp[jU]at J;rename_i a len cap;cases a with
 |none=>simp at J|some ad=>simp at J;subst J;exact h.1
theorem iL (w:World)(o:Obj)(b:Nat)(h:b<w.heap.size):(w.alloc o).heap[b]?=w.heap[b]?:=by show(w.heap.push o)[b]?=_;rw[Array.getElem?_push,if_neg (by omega)]
theorem sB (w:World)(o:Obj):(w.alloc o).heap[w.heap.size]?=some o:=by show(w.heap.push o)[w.heap.size]?=_;simp
theorem S.allocL (h:S W0 m w L TL)(cs:List Value)(t:TypeId):S W0 m (w.alloc (.cells cs.toArray t)) ((w.heap.size,cs)::L) TL:=by
 have hB:W0.heap.size<=w.heap.size:=h.below.size;refine⟨h.below.alloc hB _,λb l hb=>?_,λi e J W=>?_,λi j e e' J a0 a2 W a1=>?_,λi (e:Nat×Value)J=>qj (iL w _) (h.tails i e J),h.apart⟩;·rw[iL w _ b (h.lt hb)];exact h.imm b l hb
 ·cases i with
   |zero=>simp at J;subst J;exact⟨hB,h.fresh (Z7 _),t,sB w _⟩|succ i=>obtain⟨h1,h2,t',Z⟩:=h.own i e (by simpa using J) W;exact⟨h1,h2,t',by rw[iL w _ _ (Array.getElem?_eq_some_iff.1 Z).1];exact Z⟩
 · have key:∀(i:Nat) (e:Nat×List Value),L[i]?=some e->e.2≠[]->w.heap.size≠e.1:=λi e J W=>by obtain⟨_,_,t',Z⟩:=h.own i e J W;have:=(Array.getElem?_eq_some_iff.1 Z).1;omega
   cases i with
   |zero=>simp at J;subst J;cases j with
     |zero=>omega|succ j=>exact key j e' (by simpa using a0) a1
   |succ i=>cases j with
     |zero=>simp at a0;subst a0;exactλx=>key i e (by simpa using J) W x.symm|succ j=>exact h.nodup i j e e' (by simpa using J) (by simpa using a0) (by omega) W a1
def M.put (m:M)(b:Nat)(l:List Value):M:=λk=>if k=b then some l else m k
theorem M.le_put{m:M}{b:Nat}(l:List Value)(h:m b=none):M.le m (m.put b l):=λk r J=>⟨[],by
 unfold M.put;split;·rename_i e;subst e;rw[h]at J;cases J
 ·simpa using J⟩
theorem M.put_same (m:M)(b:Nat)(l:List Value):m.put b l b=some l:=by simp[M.put]
theorem M.put_other (m:M){b k:Nat}(l:List Value)(h:k≠b):m.put b l k=m k:=by simp[M.put,h]
theorem S.allocM (h:S W0 m w L TL)(cs:List Value)(t:TypeId):M.le m (m.put w.heap.size cs)/\S W0 (m.put w.heap.size cs) (w.alloc (.cells cs.toArray t)) L TL:=by
 have hB:W0.heap.size<=w.heap.size:=h.below.size;have hn:m w.heap.size=none:=h.fresh (Z7 _);refine⟨M.le_put _ hn,h.below.alloc hB _,λb l J=>?_,λi e W hv=>?_,h.nodup,λi e W=>?_,h.apart⟩
 · by_cases e:b=w.heap.size
   ·subst e;rw[M.put_same]at J;injection J with J;subst J;exact⟨cs.toArray,t,(0,0),[],sB w _,by simp,.inl hB⟩
   ·rw[M.put_other _ _ e]at J;rw[iL w _ b (h.lt J)];exact h.imm b l J
 ·obtain⟨h1,h2,t',Z⟩:=h.own i e W hv;have a0:=(Array.getElem?_eq_some_iff.1 Z).1;exact⟨h1,by rw[M.put_other _ _ (by omega)];exact h2,t',by rw[iL w _ _ a0];exact Z⟩
 ·exact qj (iL w _) (EO (w:=w) (m:=m) (λb J=>M.put_other _ _ (by omega)) (h.tails i e W))
end
open Go.RowKit (Below)
def lk:List (Nat×Value)->Nat->Option Value
 |[],_=>none|(i,v)::l,j=>match Ya i j with|true=>some v|false=>lk l j
structure aw (δ:List Nat)(n:Nat)(a:Act)(l:List (Nat×Value)):Prop where
 defers:a.defers=δ.map λD=>{target:=.collected D,args:=#[]}size:a.tmps.size=n
 at_:∀j v,lk l j=some v->a.tmps.getD j undef=v
abbrev Env (n:Nat)(a:Act)(l:List (Nat×Value)):Prop:=aw [] n a l
def evl (l:List (Nat×Value)):Operand->Option Value
 |.tmp t=>lk l t|.const v=>some v|.global g=>some (.pointer (some ⟨g,0,none⟩))|.func f=>some (.func (.func f) #[] #[])
section
variable{δ:List Nat}{ro:Option Nat}{n:Nat}{a:Act}{l:List (Nat×Value)}
theorem aw.eval (h:aw δ n a l){x:Operand}{v:Value}(J:evl l x=some v):a.eval x=v:=by cases x with
 |tmp t=>exact h.at_ t v J|const v'=>injection J|global g=>injection J|func f=>injection J
theorem aw.put (h:aw δ n a l){d:Nat}(W:Zy d n=true)(v:Value):aw δ n (a.put (some d) v) ((d,v)::l):=by
 have Z:d<n:=Z0 W;refine⟨h.defers,by simp[Act.put,h.size],λj u J=>?_⟩;simp only[lk]at J;split at J
 ·rename_i e;have e':=Z4 e;subst e';injection J with J;subst J;simp[Act.put,h.size,Z]
 ·rename_i e;have e':d≠j:=λx=>by subst x;simp at e
  have:=h.at_ j u J;simpa[Act.put,Array.getElem?_setIfInBounds_ne e']using this
theorem aw.sub (h:aw δ n a l){W:List (Nat×Value)}(Z:∀e∈W,lk l e.1=some e.2):aw δ n a W:=⟨h.defers,h.size,λj v J=>h.at_ j v (by
 clear h;induction W with
 |nil=>simp[lk]at J|cons e r ih=>
  obtain⟨i,u⟩:=e;simp only[lk]at J;split at J
  ·rename_i e;have e':=Z4 e;subst e';injection J with J;subst J;exact Z (i,u) (by simp)
  ·exact ih (λe he=>Z e (by simp[he])) J)⟩
end
def Fr (ro:Option Nat):Fence:={Fence.wide with round:=ro}
abbrev wpL (ro:Option Nat)(P:Program)(ops:Array Oper)(Q:Exit->Act->World->Prop)(rest:List Oper)(a:Act)(w:World):Prop:=wpListIn (Fr ro) 0 P ops Q rest a w
theorem sc{ro:Option Nat}{P:Program}{o:Oper}{ρ:Operand->Value}{w w':World}{x:Next}(h:(execOp ρ o).run P w=.ok x w')(W:∀d,x≠.defer d):(o.semAt ro ρ).run P w=.ok x w':=by cases ro with
 |none=>exact h|some l=>
  rw[Oper.semAt_some];·exact h
  ·intro c J;obtain⟨d,op,ty,pos,Z,g⟩:=o;simp only at J;subst J;simp only[execOp,Sem.run_bind]at h;cases hr:(resolve ρ c ty).run P w with
   |ok d' w1=>
    rw[hr]at h;simp only[Result.andThen_ok,Sem.run_pure]at h;injection h with h1 h2;exact W _ h1.symm|halt x' w1=>rw[hr]at h;cases h
theorem I1{ro:Option Nat}{P:Program}{o:Oper}{a:Act}{w w':World}{v:Value}{K:Act->World->Prop}{Q:Exit->Act->World->Prop}(h:(execOp a.eval o).run P w=.ok (.value v) w')(J:K (a.put o.dst v) w'):o.wpIn (Fr ro) 0 P a w K Q:=by refine⟨λ_ _=>trivial,?_⟩;show o.uponIn _ _ _ _ _ _ ((o.semAt ro a.eval).run P w);rw[sc h (λd=>by simp)];exact J
theorem K3{ro:Option Nat}{P:Program}{o:Oper}{a:Act}{w w':World}{K:Act->World->Prop}{Q:Exit->Act->World->Prop}(h:(execOp a.eval o).run P w=.ok .skip w')(J:K (a.put o.dst undef) w'):o.wpIn (Fr ro) 0 P a w K Q:=by refine⟨λ_ _=>trivial,?_⟩;show o.uponIn _ _ _ _ _ _ ((o.semAt ro a.eval).run P w);rw[sc h (λd=>by simp)];exact J
theorem EP{ro:Option Nat}{n:Nat}{P:Program}{f:FuncId}{args:Array Value}{w:World}{R:Ending->World->Prop}(h:Calls P f args w R):CallsIn (Fr ro) n P f args w R:=(callsIn_wide (n:=n)).2 h
theorem I3{n:Nat}{P:Program}{f:FuncId}{args:Array Value}{w:World}{R:Ending->World->Prop}(h:CallsIn (Fr none) n P f args w R):Calls P f args w R:=(callsIn_wide (n:=n)).1 h
theorem uO{ro:Option Nat}{P:Program}{o:Oper}{a:Act}{w w':World}{f:FuncId}{args:Array Value}{K:Act->World->Prop}{Q:Exit->Act->World->Prop}(h:(execOp a.eval o).run P w=.ok (.enter f args) w')(Z:Calls P f args w' λe W=>match e with|.returned v=>K (a.put o.dst v) W|_=>False):o.wpIn (Fr ro) 0 P a w K Q:=by refine⟨λ_ _=>trivial,?_⟩;show o.uponIn _ _ _ _ _ _ ((o.semAt ro a.eval).run P w);rw[sc h (λd=>by simp)];refine⟨λh=>(by cases h),(EP Z).mono λe W J=>?_⟩;cases e with
 |returned v=>exact J|panicked ch=>exact J.elim|outgrown=>exact J.elim
def ay (P:Program)(o:Oper)(a:Act)(w:World)(v:Value)(w':World):Prop:=(execOp a.eval o).run P w=.ok (.value v) w'
def wT (P:Program)(o:Oper)(a:Act)(w w':World):Prop:=(execOp a.eval o).run P w=.ok .skip w'
theorem ay.wp{ro:Option Nat}{P:Program}{o:Oper}{a:Act}{w w':World}{v:Value}{K:Act->World->Prop}{Q:Exit->Act->World->Prop}(h:ay P o a w v w')(J:K (a.put o.dst v) w'):o.wpIn (Fr ro) 0 P a w K Q:=I1 h J
theorem wT.wp{ro:Option Nat}{P:Program}{o:Oper}{a:Act}{w w':World}{K:Act->World->Prop}{Q:Exit->Act->World->Prop}(h:wT P o a w w')(J:K (a.put o.dst undef) w'):o.wpIn (Fr ro) 0 P a w K Q:=K3 h J
section
variable{δ:List Nat}{ro:Option Nat}{P:Program}{ops:Array Oper}{Q:Exit->Act->World->Prop}{rest:List Oper}{n:Nat}{a:Act}{l:List (Nat×Value)}{w w':World}{d:Nat}{op:Op}{ty:TypeId}{pos:String}{aft:Array Edge}{v:Value}
theorem sv (W:aw δ n a l)(Z:ay P ⟨some d,op,ty,pos,aft,none⟩ a w v w')(J:Zy d n=true)(k:∀a',aw δ n a' ((d,v)::l)->wpL ro P ops Q rest a' w'):wpL ro P ops Q (⟨some d,op,ty,pos,aft,none⟩::rest) a w:=wpListIn_plain rfl λ_ h=>Z.wp (h _ _ (k _ (W.put J v)))
theorem Bx (W:aw δ n a l){o:Oper}{g h:Nat}{b:Bool}(hg:ops[g]?=some o)(ho:o.dst=some h)(hd:Zy h n=true)(hl:lk l h=some (.bool b)):yielded ops a.tmps g=some b:=by
 have J:=W.at_ h _ hl;have a0:h<n:=Z0 hd;have Z:a.tmps[h]?=some (.bool b):=by
  have hs:=W.size;rw[Array.getD_eq_getD_getElem?]at J;have:h<a.tmps.size:=by omega
  rw[Array.getElem?_eq_getElem this]at J⊢;simpa using J
 simp[yielded,hg,ho,Z]
theorem sx{g:Nat}{b b':Bool}{o:Oper}{h:Nat}(J:aw δ n a l)(hg:ops[g]?=some o)(ho:o.dst=some h)(a0:Zy h n=true)(hl:lk l h=some (.bool b))(Z:b=!b')(hd:Zy d n=true) (k:∀a',aw δ n a' ((d,undef)::l)->wpL ro P ops Q rest a' w):wpL ro P ops Q (⟨some d,op,ty,pos,aft,some (g,b')⟩::rest) a w:=wpListIn_step λK W=>by
 have:(some b==some b')=false:=by subst Z;cases b'<;>rfl
 simp only[Region.wanted,Bx J hg ho a0 hl,this,X9,if_false];exact⟨λ_ _=>trivial,W _ _ (k _ (J.put hd undef))⟩
theorem I4{Q':Exit->Act->World->Prop}{c:Code}(h:c.wpIn (Fr ro) 0 P (Exit.noGoto Q') a w):(Code.scope c).wpIn (Fr ro) 0 P Q' a w:=by intro b k cs a1 hb hr;have h0:(lone (b.atR a (.code (.scope c)::k)) cs w).fenced P (Fr ro):=fenced_calm hb hr rfl;have hs:step P (lone (b.atR a (.code (.scope c)::k)) cs w)=.next (lone (b.atR a (.code c::.inScope c::k)) cs w):=step_lone_go (by simp[stepG,stepG.exec,Frame.atR]);have hi:∀W J,step P (lone (b.atR W (.inScope c::k)) cs J)=.next (lone (b.atR W k) cs J):=λW J=>step_lone_go (by simp[stepG,stepG.exec,Frame.atR]);obtain⟨e,W,J,hq,Z⟩:=h b (.inScope c::k) cs a1 hb hr;cases e with
 |normal=>exact⟨.normal,W,J,hq,.head h0 hs (StepsIn.trans Z (.one (fenced_calm hb hr rfl) (hi W J)))⟩|exit id=>
  have hx:exitTo id (.inScope c::k)=exitTo id k:=by simp[exitTo]
  exact⟨.exit id,W,J,hq,λk' hk=>.head h0 hs (Z.1 k' (by rw[hx];exact hk)),λa0 hk=>let⟨k₁,h1,h2⟩:=Z.2 a0 (by rw[hx];exact hk);⟨k₁,h1,.head h0 hs h2⟩⟩|goto l=>exact hq.elim|ret=>exact⟨_,W,J,hq,.of_steps (.one h0 hs) Z⟩|panic ch=>exact⟨_,W,J,hq,.of_steps (.one h0 hs) Z⟩|outgrown=>exact⟨_,W,J,hq,.of_steps (.one h0 hs) Z⟩
def mkQ (N:Act->World->Prop)(X:List (Nat×(Act->World->Prop)))(Rt:Act->World->Prop):Exit->Act->World->Prop
 |.normal,a,w=>N a w|.exit id,a,w=>match X.find? (λe=>Ya e.1 id)with|some e=>e.2 a w|none=>False
 |.ret,a,w=>Rt a w|_,_,_=>False
def K (ro:Option Nat)(P:Program)(c:Code)(N:Act->World->Prop)(X:List (Nat×(Act->World->Prop)))(Rt:Act->World->Prop)(a:Act)(w:World):Prop:=c.wpIn (Fr ro) 0 P (mkQ N X Rt) a w
variable{δ:List Nat}{ro:Option Nat}{N N' Rt:Act->World->Prop}{X:List (Nat×(Act->World->Prop))}{c x y z:Code}{id:Nat}
theorem K.mono (h:K ro P c N X Rt a w)(J:∀a w,N a w->N' a w):K ro P c N' X Rt a w:=wpIn_mono h λe a w q=>by cases e<;>first|exact J _ _ q|exact q
theorem ab (h:K ro P x (λa w=>K ro P y N X Rt a w) X Rt a w):K ro P (.seq x y) N X Rt a w:=wpIn_seq (wpIn_mono h λe a w q=>by cases e<;>exact q)
theorem a7 (h:N a w):K ro P .skip N X Rt a w:=wpIn_skip h
theorem I5{i:Nat}(h:N a w):K ro P (.label i) N X Rt a w:=wpIn_label h
theorem bK (h:Rt a w):K ro P .ret N X Rt a w:=wpIn_ret h
theorem fe{k:Act->World->Prop}{e:Nat×(Act->World->Prop)}(W:X.find? (λe=>Ya e.1 id)=some e)(J:e.2=k)(h:k a w):K ro P (.exit id) N X Rt a w:=wpIn_exit (by simp only[mkQ,W];rw[J];exact h)
theorem bj (h:K ro P c N ((id,N)::X) Rt a w):K ro P (.block id c) N X Rt a w:=wpIn_block (wpIn_mono h λe a w q=>by cases e with
 |exit j=>
  simp only[Exit.inBlock];split;·rename_i e;subst e;simpa[mkQ]using q
  ·rename_i e;have:Ya id j=false:=by cases hb:Ya id j with
    |false=>rfl|true=>exact absurd (Z4 hb).symm e
   simpa[mkQ,this]using q|_=>exact q)
theorem cA (J:Act->World->Prop)(h:K ro P c J X Rt a w)(k:∀a w,J a w->N a w):K ro P c N X Rt a w:=h.mono k
theorem kif (W:aw δ n a l){h:Operand}{b:Bool}(J:evl l h=some (.bool b))(ht:b=true->K ro P x N X Rt a w)(Z:b=false->K ro P y N X Rt a w):K ro P (.cond h x y) N X Rt a w:=wpIn_cond_split (W.eval J) ht Z
theorem EQ (h:K ro P c N X Rt a w):K ro P (.scope c) N X Rt a w:=I4 (wpIn_mono h λe a w q=>by cases e<;>exact q)
theorem ak{lo:List Oper}(h:wpL ro P lo.toArray (mkQ N X Rt) lo a w):K ro P (.region id lo.toArray false) N X Rt a w:=wpIn_region_lit h
theorem ag (h:N a w):wpL ro P ops (mkQ N X Rt) [] a w:=wpListIn_nil h
end
def iW{σ β:Type}(f:σ->Option (σ⊕β)):Nat->σ->Option β
 |0,_=>none|n+1,s=>match f s with
  |none=>none|some (.inl s')=>iW f n s'|some (.inr b)=>some b
open Classical in
noncomputable def am{σ β:Type}(f:σ->Option (σ⊕β)) (s:σ):Option β:=if h:∃b,∃n,iW f n s=some b then some h.choose else none
theorem By{σ β:Type}{f:σ->Option (σ⊕β)}:∀{n:Nat}{s:σ}{b:β},iW f n s=some b->iW f (n+1) s=some b
 |0,_,_,h=>by cases h|n+1,s,b,h=>by unfold iW at h⊢;cases hs:f s with
  |none=>simp[hs]at h|some r=>cases r with
   |inl s'=>simp only[hs]at h⊢;exact By h|inr b'=>simpa[hs]using h
theorem ER{σ β:Type}{f:σ->Option (σ⊕β)}{n k:Nat}{s:σ}{b:β}(h:iW f n s=some b)(J:n<=k):iW f k s=some b:=by induction J with
 |refl=>exact h|step _ ih=>exact By ih
theorem I6{σ β:Type}{f:σ->Option (σ⊕β)}{n k:Nat}{s:σ}{b c:β}(h:iW f n s=some b)(Z:iW f k s=some c):b=c:=by have W:=ER h (Nat.le_max_left n k);have J:=ER Z (Nat.le_max_right n k);rw[W]at J;injection J
theorem I7{σ β:Type}{f:σ->Option (σ⊕β)}{s:σ}{b:β}:am f s=some b↔∃n,iW f n s=some b:=by
 unfold am;constructor
 ·intro h;split at h
  ·rename_i J;injection h with h;have:=J.choose_spec;rw[h]at this;exact this
  ·cases h
 ·intro⟨n,hn⟩;have J:∃b,∃n,iW f n s=some b:=⟨b,n,hn⟩;rw[dif_pos J];obtain⟨k,W⟩:=J.choose_spec;rw[I6 W hn]
theorem nt{σ β:Type}(f:σ->Option (σ⊕β))(s:σ):am f s=match f s with|none=>none|some (.inl s')=>am f s'|some (.inr b)=>some b:=by
 apply Option.ext;intro b;rw[I7];constructor
 ·rintro⟨n,J⟩;cases n with
  |zero=>cases J|succ n=>unfold iW at J;cases W:f s with
   |none=>simp[W]at J|some r=>cases r with
    |inl s'=>simp only[W]at J⊢;exact I7.2 ⟨n,J⟩|inr b'=>simpa[W]using J
 ·intro h;split at h;·cases h
  ·rename_i s' W;obtain⟨n,J⟩:=I7.1 h;exact⟨n+1,by simp[iW,W,J]⟩
  ·rename_i b' W;exact⟨1,by simpa[iW,W]using h⟩
theorem bI{σ β:Type}{f:σ->Option (σ⊕β)}{s s':σ}(h:f s=some (.inl s')):am f s=am f s':=by rw[nt,h]
theorem aR{σ β:Type}{f:σ->Option (σ⊕β)}{s:σ}{b:β}(h:f s=some (.inr b)):am f s=some b:=by rw[nt,h]
section
variable{δ:List Nat}{ro:Option Nat}{P:Program}{n:Nat}{a:Act}{l:List (Nat×Value)}{w:World}{N Rt:Act->World->Prop}{X:List (Nat×(Act->World->Prop))}{c:Code}
theorem fN{σ β:Type}{f:σ->Option (σ⊕β)}{s:σ}{o:β}(hl:am f s=some o)(I:σ->Act->World->Prop)(h0:I s a w)(round:∀s a w,I s a w->∀r,f s=some r->(∀o',r=.inr o'->o'=o)->K ro P c (λa' w'=>∃s',r=.inl s'/\I s' a' w') X Rt a w):K ro P (.loop c) N X Rt a w:=by
 obtain⟨k,h⟩:=I7.1 hl;clear hl;intro b kk cs a2 hb a0;have key:∀k s a w,iW f k s=some o->I s a w->∃e a' w',mkQ N X Rt e a' w'/\ArrivesIn (Machine.fenced P (Fr ro)) P (lone (b.atR a (.code c::.inLoop c::kk)) cs w) b kk cs e a' w':=by
  intro k;induction k with
  |zero=>intro s a w h _;cases h|succ k ih=>intro s a w h hI;rw[iW]at h;cases hf:f s with
   |none=>simp[hf]at h|some r=>have hr:=round s a w hI r hf (λo' ho=>by subst ho;simpa[hf]using h) b (.inLoop c::kk) cs a2 hb a0;obtain⟨e,a₁,Z,J,W⟩:=hr;cases e with
    |normal=>obtain⟨s',a5,a1⟩:=J;subst a5;simp only[hf]at h;obtain⟨e₂,a₂,w₂,a4,a3⟩:=ih s' a₁ Z h a1;exact⟨e₂,a₂,w₂,a4,.of_steps (StepsIn.trans W (.one (fenced_calm hb a0 rfl) stepR_inLoop)) a3⟩|exit id=>exact⟨.exit id,a₁,Z,J,.pass (x:=.inLoop c) rfl (λ_ _=>.inl (by simp)) W⟩|goto l=>exact J.elim|ret=>exact⟨.ret,a₁,Z,J,.pass (x:=.inLoop c) rfl (λ_ _=>.inl (by simp)) W⟩|panic ch=>exact J.elim|outgrown=>exact J.elim
 obtain⟨e,a',w',J,W⟩:=key k s a w h h0;exact⟨e,a',w',J,.of_steps (.one (fenced_calm hb a0 rfl) stepR_loop) W⟩
def Ret (R:Value->World->Prop):Ending->World->Prop
 |.returned v,w=>R v w|_,_=>False
def tup:List Value->Value
 |[v]=>v|vs=>.tuple vs.toArray
def Fin (P:Program)(fn:Func)(R:Value->World->Prop)(a:Act)(w:World):Prop:=∃vs,(results fn a.tmps).run P w=.ok vs w/\a.defers=[]/\R vs w
theorem ES{fn:Func}{args:List Value}{n:Nat}(hn:fn.ntmps=n)(a0:args.length<=n):Env n {tmps:=args.toArray++Array.replicate (fn.ntmps-args.toArray.size) undef,defers:=[]} ((Zg args.length).zip args):=by
 refine⟨rfl,by simp[hn];omega,λj v W=>?_⟩;have key:∀(l:List Value) (k:Nat),lk ((Yl k l.length).zip l) j=some v->k<=j/\l[j-k]?=some v:=by
  intro l;induction l with
  |nil=>intro k h;simp[lk]at h|cons x r ih=>
   intro k h;simp only[Zp,List.range'_succ,List.zip_cons_cons,lk]at h;split at h
   ·rename_i e;have e':=Z4 e;subst e';simpa using h
   ·obtain⟨h1,J⟩:=ih (k+1) h;refine⟨by omega,?_⟩;rw[show j-k=(j-(k+1))+1 by omega];simpa using J
 rw[List.range_eq_range']at W;obtain⟨_,J⟩:=key args 0 W;simp only[Nat.sub_zero]at J;have Z:j<args.length:=(zx.1 J).1;have h3:args[j]=v:=by simpa[Z]using J
 simp[Array.getD_eq_getD_getElem?,Array.getElem?_append,Z,h3]
theorem wU{P:Program}{f:FuncId}{fn:Func}{c:Code}{args:List Value}{n:Nat}{w:World}{R:Value->World->Prop}(hf:P.funcs[f]?=some fn)(hb:fn.body=some c)(hn:fn.ntmps=n)(a0:args.length<=n)(h:∀a,Env n a ((Zg args.length).zip args)->K none P c (Fin P fn R) [] (Fin P fn R) a w):Calls P f args.toArray w (Ret R):=by
 refine calls_of_wp hf hb (wpIn_wide.1 (wpIn_mono (h _ (ES hn a0)) λe a w q=>?_));·cases e with
  |normal=>obtain⟨vs,Z,J,W⟩:=q;exact⟨J,vs,Z,W⟩|ret=>obtain⟨vs,Z,J,W⟩:=q;exact⟨J,vs,Z,W⟩|exit id=>simp[mkQ]at q|goto l=>exact q.elim|panic ch=>exact q.elim|outgrown=>exact q.elim
end
section
variable{δ:List Nat}{ro:Option Nat}{P:Program}{n:Nat}{a:Act}{l:List (Nat×Value)}{w:World}{dst:Option Tmp}{ty:TypeId}{pos:String}{aft:Array Edge}{g:Option (Nat×Bool)}
def vq (l:List (Nat×Value))(xs:Array Operand):Option (List Value):=xs.toList.mapM (evl l)
theorem gU (J:aw δ n a l){xs:Array Operand}{vs:List Value}(h:vq l xs=some vs):xs.map a.eval=vs.toArray:=by
 obtain⟨xs⟩:=xs;unfold vq at h;simp only at h;have:∀(xs:List Operand) (vs:List Value),xs.mapM (evl l)=some vs->xs.map a.eval=vs:=by
  intro xs;induction xs with
  |nil=>intro vs h;simp at h;simp[h]|cons x r ih=>intro vs h;simp only[Y3,X3,Ye]at h;cases hx:evl l x with
   |none=>simp[hx]at h|some v=>cases hr:r.mapM (evl l)with
    |none=>simp[hx,hr]at h|some us=>simp[hx,hr]at h;subst h;simp[J.eval hx,ih us hr]
 simp[this xs vs h]
end
open Go.RowKit (Below)
def a8 (P:Program)(o:Oper)(a:Act)(w:World)(Post:Value->World->Prop):Prop:=∀(ro:Option Nat) (h:Act->World->Prop) (Q:Exit->Act->World->Prop),(∀v w',Post v w'->h (a.put o.dst v) w')->o.wpIn (Fr ro) 0 P a w h Q
section
variable{δ:List Nat}{ro:Option Nat}{P:Program}{ops:Array Oper}{Q:Exit->Act->World->Prop}{rest:List Oper}{a:Act}{w:World}{Post:Value->World->Prop}{n:Nat}{l:List (Nat×Value)}{d:Nat}{op:Op}{ty:TypeId}{pos:String}{aft:Array Edge}
theorem st (Z:aw δ n a l)(h:a8 P ⟨some d,op,ty,pos,aft,none⟩ a w Post)(W:Zy d n=true)(k:∀v a' w',Post v w'->aw δ n a' ((d,v)::l)->wpL ro P ops Q rest a' w'):wpL ro P ops Q (⟨some d,op,ty,pos,aft,none⟩::rest) a w:=wpListIn_plain rfl λ_ J=>h _ _ _ λv w' hp=>J _ _ (k v _ w' hp (Z.put W v))
theorem st0 (W:aw δ n a l)(h:a8 P ⟨none,op,ty,pos,aft,none⟩ a w Post)(k:∀v w',Post v w'->aw δ n a l->wpL ro P ops Q rest a w'):wpL ro P ops Q (⟨none,op,ty,pos,aft,none⟩::rest) a w:=wpListIn_plain rfl λ_ J=>h _ _ _ λv w' Z=>J _ _ (k v w' Z W)
theorem stg{Z:Oper}{g J:Nat}{b c:Bool}(W:aw δ n a l)(hg:ops[g]?=some Z)(ho:Z.dst=some J)(a0:Zy J n=true)(hl:lk l J=some (.bool c))(hc:c=b)(h:a8 P ⟨some d,op,ty,pos,aft,some (g,b)⟩ a w Post) (hd:Zy d n=true) (k:∀v a' w',Post v w'->aw δ n a' ((d,v)::l)->wpL ro P ops Q rest a' w'):wpL ro P ops Q (⟨some d,op,ty,pos,aft,some (g,b)⟩::rest) a w:=wpListIn_step λKk hK=>by subst hc;simp only[Region.wanted,Bx W hg ho a0 hl,beq_self_eq_true,if_true];exact h _ _ _ λv w' hp=>hK _ _ (k v _ w' hp (W.put hd v))
end
theorem ay.step{P:Program}{o:Oper}{a:Act}{w w':World}{v:Value}(h:ay P o a w v w'){Post:Value->World->Prop}(J:Post v w'):a8 P o a w Post:=λ_ _ _ k=>h.wp (k _ _ J)
theorem wT.step{P:Program}{o:Oper}{a:Act}{w w':World}(h:wT P o a w w'){Post:Value->World->Prop}(J:Post undef w'):a8 P o a w Post:=λ_ _ _ k=>h.wp (k _ _ J)
theorem ay.pure{P:Program}{o:Oper}{a:Act}{w:World}{v:Value}(h:ay P o a w v w):a8 P o a w (λu w'=>v=u/\w=w'):=h.step ⟨rfl,rfl⟩
theorem a8.imp{P:Program}{a:Act}{w:World}{o:Oper}{Post J:Value->World->Prop}(h:a8 P o a w Post)(k:∀v w',Post v w'->J v w'):a8 P o a w J:=λro W Q Z=>h ro W Q λv w' hp=>Z v w' (k v w' hp)
def d4 (k:IntKind)(x y:Int):Int:=k.wrap ((BitVec.ofInt k.bits x&&&BitVec.ofInt k.bits y).toNat:Int)
def bOr (k:IntKind)(x y:Int):Int:=k.wrap ((BitVec.ofInt k.bits x|||BitVec.ofInt k.bits y).toNat:Int)
def d7 (k:IntKind)(x y:Int):Int:=k.wrap ((BitVec.ofInt k.bits x^^^BitVec.ofInt k.bits y).toNat:Int)
def en (k:IntKind)(x y:Int):Int:=k.wrap (x*2^(min y.toNat k.bits))
def aV (k:IntKind)(x y:Int):Int:=x.fdiv (2^(min y.toNat k.bits))
def CJ (k:IntKind)(x:Int):Int:=d7 k (if k.signed then-1 else k.max) x
theorem qk (k:IntKind)(x:Int):k.wrap (k.wrap x)=k.wrap x:=by cases k<;>simp only[IntKind.wrap,IntKind.bits,IntKind.signed]<;>simp<;>omega
theorem aG (k:IntKind)(x:Int):inR k (k.wrap x):=qk k x
theorem NC (k:IntKind)(x y:Int):inR k (d4 k x y):=qk k _
theorem Pe (k:IntKind)(x y:Int):inR k (bOr k x y):=qk k _
theorem ND (k:IntKind)(x y:Int):inR k (d7 k x y):=qk k _
theorem CK (k:IntKind)(x y:Int):inR k (en k x y):=qk k _
theorem NE (k:IntKind)(x:Int):inR k (CJ k x):=qk k _
theorem nv{k:IntKind}{x:Int}:inR k x↔k.min<=x/\x<=k.max:=by unfold inR;cases k<;>simp only[IntKind.wrap,IntKind.bits,IntKind.signed,IntKind.min,IntKind.max]<;>simp<;>omega
theorem NF{x:Int}{p:Int}(h:0<p){lo hi:Int}(hl:lo<=0)(hh:0<=hi)(Z:lo<=x)(J:x<=hi):lo<=x.fdiv p/\x.fdiv p<=hi:=by
 rw[Int.fdiv_eq_ediv_of_nonneg _ (by omega)];constructor;·exact(Int.le_ediv_iff_mul_le h).2 (by
  have:lo*p<=lo*1:=Int.mul_le_mul_of_nonpos_left hl (by omega);omega)
 ·have W:=Int.ediv_le_self (b:=p) (a:=x);rcases Int.lt_or_le x 0 with hx|hx
  ·have:x/p<0:=Int.ediv_neg_of_neg_of_pos hx h;omega
  ·have:=Int.ediv_le_self p hx;omega
theorem CL{k:IntKind}{x:Int}(h:inR k x)(y:Int):inR k (aV k x y):=by rw[nv]at*;have J:(0:Int)<2^(min y.toNat k.bits):=Int.pow_pos (by decide);exact NF J (by cases k<;>decide) (by cases k<;>decide) h.1 h.2
theorem G9{k:IntKind}{x y:Int}(h:inR k x):inR k (x.tmod y):=by
 rw[nv]at*;have Z:(x.tmod y).natAbs<=x.natAbs:=by rw[Int.natAbs_tmod];exact Nat.mod_le _ _
 have J:0<=x->0<=x.tmod y:=λh=>Int.tmod_nonneg _ h;have W:x<=0->x.tmod y<=0:=λh=>by have:=Int.tmod_nonneg (a:=-x) y (by omega);rw[Int.neg_tmod]at this;omega
 have h4:k.min<=0:=by cases k<;>decide
 have h5:0<=k.max:=by cases k<;>decide
 rcases Int.le_total 0 x with hx|hx;·have:=J hx;omega
 ·have:=W hx;omega
theorem eD{n:Nat}(h:n<=cz):inR .i64 (n:Int):=by
 rw[nv];have:IntKind.max .i64=9223372036854775807:=by decide
 have:IntKind.min .i64=-9223372036854775808:=by decide
 unfold cz at h;omega
section
variable{δ:List Nat}{ro:Option Nat}{P:Program}{n:Nat}{a:Act}{l:List (Nat×Value)}{w:World}{dst:Option Tmp}{ty t t':TypeId}{pos:String}{aft:Array Edge}{g:Option (Nat×Bool)}{x y z:Operand}{k:IntKind}{p q r:Int}{v u:Value}{b c e:Bool}
theorem jd (h:aw δ n a l)(J:evl l x=some v):ay P ⟨dst,.move x,ty,pos,aft,g⟩ a w v w:=by simp[ay,execOp,h.eval J]
theorem pV (h:aw δ n a l)(J:evl l x=some v):ay P ⟨dst,.assign x,ty,pos,aft,g⟩ a w v w:=by simp[ay,execOp,h.eval J]
theorem zK (h:aw δ n a l)(Z:evl l x=some (.bool b))(J:b=true)(W:evl l y=some v):ay P ⟨dst,.pick x y z,ty,pos,aft,g⟩ a w v w:=by subst J;simp[ay,execOp,h.eval Z,h.eval W,asBool]
theorem zL (h:aw δ n a l)(W:evl l x=some (.bool b))(J:b=false)(Z:evl l z=some u):ay P ⟨dst,.pick x y z,ty,pos,aft,g⟩ a w u w:=by subst J;simp[ay,execOp,h.eval W,h.eval Z,asBool]
theorem bg{op:BinOp}{k':IntKind}(h:aw δ n a l)(Z:evl l x=some (.int k p))(W:evl l y=some (.int k' q))(J:∀w,(binOp op t (.int k p) (.int k' q)).run P w=.ok v w):ay P ⟨dst,.binOp op t x y t',ty,pos,aft,g⟩ a w v w:=by simp[ay,execOp,h.eval Z,h.eval W,eqGuard_at_int,J]
theorem cp (h:k.wrap (p+q)=r):∀w,(binOp .add t (.int k p) (.int k q)).run P w=.ok (.int k r) w:=λw=>by simp[binOp_add,Op.intArith,h]
theorem kf (h:k.wrap (p-q)=r):∀w,(binOp .sub t (.int k p) (.int k q)).run P w=.ok (.int k r) w:=λw=>by simp[binOp_sub,Op.intArith,h]
theorem MS (h:k.wrap (p*q)=r):∀w,(binOp .mul t (.int k p) (.int k q)).run P w=.ok (.int k r) w:=λw=>by simp[binOp_mul,Op.intArith,h]
theorem MT (h:k.wrap (p.tdiv q)=r)(J:q≠0):∀w,(binOp .quo t (.int k p) (.int k q)).run P w=.ok (.int k r) w:=λw=>by simp[binOp_quo,Op.intDiv,h,J]
theorem MU (h:p.tmod q=r)(J:q≠0):∀w,(binOp .rem t (.int k p) (.int k q)).run P w=.ok (.int k r) w:=λw=>by simp[binOp_rem,Op.intDiv,h,J]
theorem Ud (h:d4 k p q=r):∀w,(binOp .and t (.int k p) (.int k q)).run P w=.ok (.int k r) w:=λw=>by simp[binOp_and,Op.intBits,←h,d4]
theorem WI (h:bOr k p q=r):∀w,(binOp .or t (.int k p) (.int k q)).run P w=.ok (.int k r) w:=λw=>by simp[binOp_or,Op.intBits,←h,bOr]
theorem Ue (h:d7 k p q=r):∀w,(binOp .xor t (.int k p) (.int k q)).run P w=.ok (.int k r) w:=λw=>by simp[binOp_xor,Op.intBits,←h,d7]
theorem HR{k':IntKind}(h:en k p q=r)(J:0<=q):∀w,(binOp .shl t (.int k p) (.int k' q)).run P w=.ok (.int k r) w:=λw=>by simp[binOp,Op.shift,show¬q<0 by omega,←h,en]
theorem Ew{k':IntKind}(h:aV k p q=r)(J:0<=q):∀w,(binOp .shr t (.int k p) (.int k' q)).run P w=.ok (.int k r) w:=λw=>by simp[binOp,Op.shift,show¬q<0 by omega,←h,aV]
theorem mR:∀w,(binOp .eql t (.int k p) (.int k q)).run P w=.ok (.bool (p==q)) w:=λw=>by simp[binOp_eql]
theorem mS:∀w,(binOp .neq t (.int k p) (.int k q)).run P w=.ok (.bool (p !=q)) w:=λw=>by simp[binOp_neq]
theorem cu:∀w,(binOp .lss t (.int k p) (.int k q)).run P w=.ok (.bool (decide (p<q))) w:=λw=>by simp[binOp_lss]
theorem MV:∀w,(binOp .leq t (.int k p) (.int k q)).run P w=.ok (.bool (decide (p<=q))) w:=λw=>by simp[binOp_leq]
theorem lC:∀w,(binOp .gtr t (.int k p) (.int k q)).run P w=.ok (.bool (decide (q<p))) w:=λw=>by simp[binOp_gtr]
theorem zM:∀w,(binOp .geq t (.int k p) (.int k q)).run P w=.ok (.bool (decide (q<=p))) w:=λw=>by simp[binOp_geq]
theorem Pf (h:aw δ n a l)(Z:evl l x=some (.bool b))(W:evl l y=some (.bool c))(J:P.underlying t=some .bool):ay P ⟨dst,.binOp .eql t x y t',ty,pos,aft,g⟩ a w (.bool (b==c)) w:=by simp[ay,execOp,h.eval Z,h.eval W,eqGuard_at_bool,run_eql_bool _ _ _ _ J]
theorem Pg (h:aw δ n a l)(Z:evl l x=some (.bool b))(W:evl l y=some (.bool c))(J:P.underlying t=some .bool):ay P ⟨dst,.binOp .neq t x y t',ty,pos,aft,g⟩ a w (.bool (!(b==c))) w:=by simp[ay,execOp,h.eval Z,h.eval W,eqGuard_at_bool,run_neq_bool _ _ _ _ J]
theorem lD (h:aw δ n a l)(J:evl l x=some (.bool b)):ay P ⟨dst,.unOp .not t x,ty,pos,aft,g⟩ a w (.bool (!b)) w:=by simp[ay,execOp,h.eval J,Op.unary]
theorem Uf (J:aw δ n a l)(W:evl l x=some (.int k p))(h:k.wrap (0-p)=r):ay P ⟨dst,.unOp .neg t x,ty,pos,aft,g⟩ a w (.int k r) w:=by subst h;simp[ay,execOp,J.eval W,Op.unary,Op.intArith]
theorem Ug (J:aw δ n a l)(W:evl l x=some (.int k p))(h:CJ k p=r):ay P ⟨dst,.unOp .xor t x,ty,pos,aft,g⟩ a w (.int k r) w:=by subst h;simp[ay,execOp,J.eval W,Op.unary,Op.intBits,CJ,d7]
theorem fC{k' ks:IntKind}(Z:aw δ n a l)(hx:evl l x=some (.int k p))(W:P.underlying t=some (.int ks))(J:P.underlying t'=some (.int k'))(h:k'.wrap p=r):ay P ⟨dst,.convert t t' x,ty,pos,aft,g⟩ a w (.int k' r) w:=by subst h;simp[ay,execOp,Z.eval hx,convert,run_underlying W,run_underlying J,Conv.intToInt]
theorem bQ{vs:Array Value}{i:Nat}(h:aw δ n a l)(J:evl l x=some (.tuple vs))(hi:vs[i]?=some v):ay P ⟨dst,.extract x i,ty,pos,aft,g⟩ a w v w:=by simp[ay,execOp,h.eval J,Instr.extract,hi]
theorem ct{h:Addr}(J:aw δ n a l)(W:evl l x=some (.pointer (some h))):ay P ⟨dst,.nilCheck x,ty,pos,aft,g⟩ a w (.pointer (some h)) w:=by simp[ay,execOp,J.eval W]
theorem lE{fn:Fn}{J cs:Array Operand}{v1 v2:List Value}(h:aw δ n a l)(W:vq l J=some v1)(Z:vq l cs=some v2):ay P ⟨dst,.makeFunc fn J cs,ty,pos,aft,g⟩ a w (.func fn v1.toArray v2.toArray) w:=by simp[ay,execOp,Instr.makeFunc,gU h W,gU h Z]
theorem ET{J:Array TypeId}(h:aw δ n a l)(Z:evl l x=some (.int k p))(W:evl l y=some (.int k q)):ay P ⟨dst,.call ⟨.builtin .max,#[x,y],J⟩,ty,pos,aft,g⟩ a w (.int k (if p<q then q else p)) w:=by simp[ay,execOp,resolve,invoke,builtin,h.eval Z,h.eval W,run_max_int2]
theorem Bz{J:Array TypeId}(h:aw δ n a l)(Z:evl l x=some (.int k p))(W:evl l y=some (.int k q)):ay P ⟨dst,.call ⟨.builtin .min,#[x,y],J⟩,ty,pos,aft,g⟩ a w (.int k (if q<p then q else p)) w:=by simp[ay,execOp,resolve,invoke,builtin,h.eval Z,h.eval W,run_min_int2]
end
open Go.RowKit (Below)
structure dz (P:Program)(t:TypeId){O:Type}(d:Kd O):Prop where
 size:∀w,(sizeOf t).run P w=.ok d.sz w
 agg:∀w,(isAgg t).run P w=.ok d.agg w
def At (w:World)(b o:Nat)(cs:List Value):Prop:=∃c t fr,w.heap[b]?=some (.cells c t fr)/\(c.toList.drop o).take cs.length=cs
theorem At.cell{w:World}{b o:Nat}{cs:List Value}(h:At w b o cs){j:Nat}{v:Value}(J:cs[j]?=some v):w.cell? ⟨b,o+j,none⟩=some v:=by obtain⟨c,t,fr,W,Z⟩:=h;have a0:j<cs.length:=(zx.1 J).1;rw[←Z]at J;simp only[Zx,Zu,a0,if_true]at J;simpa[World.cell?,W]using J
theorem gw (b o j:Nat):(⟨b,o,none⟩:Addr).add j=⟨b,o+j,none⟩:=by unfold Addr.add;split<;>simp_all
theorem jE{P:Program}{t:TypeId}{O:Type}{d:Kd O}{m:M}{w:World}{b o:Nat}{cs:List Value}{x:O}(J:dz P t d)(hR:d.R m cs x)(Z:At w b o cs):(loadVar t ⟨b,o,none⟩).run P w=.ok (d.val cs) w:=by have hl:=d.len hR;have W:=run_loadCells_list (P:=P) w ⟨b,o,none⟩ cs (λj v hj=>by rw[gw];exact Z.cell hj);unfold loadVar Kd.val;cases ha:d.agg with
 |true=>have h:=J.agg w;have h2:=J.size w;rw[ha]at h;rw[hl]at W;simp[h,h2,W]|false=>
  have h:=J.agg w;rw[ha]at h;have hs:=d.flat ha;rw[hs]at hl;match cs,hl with
  |[c],_=>have:=Z.cell (j:=0) (v:=c) rfl;simp only[Zm]at this;simp[h,this]
section
variable{δ:List Nat}{ro:Option Nat}{P:Program}{W0:Bse}{m:M}{L:List (Nat×List Value)}{TL:List (Nat×Value)}{n:Nat}{a:Act}{l:List (Nat×Value)}{w:World}{ty t:TypeId}{pos:String}{aft:Array Edge}{g:Option (Nat×Bool)}{x y:Operand}{d:Nat}{O β:Type}{k:Kd O}{k':Kd β}
theorem S.atL (hS:S W0 m w L TL){i b o:Nat}{cs cs':List Value}(W:L[i]?=some (b,cs))(h:(cs.drop o).take cs'.length=cs')(Z:0<cs'.length):At w b o cs':=by obtain⟨_,_,t,J⟩:=hS.own i _ W (λe=>by simp only at e;subst e;simp at h;subst h;simp at Z);exact⟨_,t,_,J,by simpa using h⟩
theorem S.atM (hS:S W0 m w L TL){b o sz:Nat}(h:(m.row b o sz).length=sz)(h0:0<sz):At w b o (m.row b o sz):=by unfold M.row at*;cases hm:m b with
 |none=>simp[hm]at h;omega|some r=>obtain⟨c,t,W,s,Z,J,_⟩:=hS.imm b r hm;refine⟨c,t,W,Z,?_⟩;simp only[hm]at h⊢;rw[J,h,X8,Z3];simp at h⊢;omega
theorem cF (hS:S W0 m w L TL){z:Value}{cs:List Value}(W:∀w,(zeroValue t).run P w=.ok z w)(J:z.cells=cs.toArray):a8 P ⟨some d,.alloc t,ty,pos,aft,g⟩ a w (λv w'=>∃b,v=.pointer (some ⟨b,0,none⟩)/\S W0 m w' ((b,cs)::L) TL):=by
 have h:ay P ⟨some d,.alloc t,ty,pos,aft,g⟩ a w (.pointer (some ⟨w.heap.size,0,none⟩)) (w.alloc (.cells cs.toArray t)):=by simp[ay,execOp,Instr.alloc,W,newVar,newRow,J]
 exact h.step ⟨_,rfl,hS.allocL cs t⟩
theorem je (Z:aw δ n a l)(hS:S W0 m w L TL){v:Value}{xx:O}(hx:evl l x=some v)(J:RV k m v xx):a8 P ⟨some d,.box t x,ty,pos,aft,g⟩ a w (λv w'=>∃b cs,v=.pointer (some ⟨b,0,none⟩)/\k.R m cs xx/\S W0 m w' ((b,cs)::L) TL):=by
 obtain⟨cs,h,rfl⟩:=J;have W:ay P ⟨some d,.box t x,ty,pos,aft,g⟩ a w (.pointer (some ⟨w.heap.size,0,none⟩)) (w.alloc (.cells cs.toArray t)):=by simp[ay,execOp,Instr.box,Z.eval hx,newVar,newRow,k.val_cells h]
 exact W.step ⟨_,cs,rfl,h,hS.allocL cs t⟩
theorem aM (W:aw δ n a l)(hS:S W0 m w L TL)(hT:dz P t k){i b o:Nat}{cs:List Value}{xx:O}(Z:evl l x=some (.pointer (some ⟨b,o,none⟩)))(hL:L[i]?=some (b,cs))(h:k.R m ((cs.drop o).take k.sz) xx):a8 P ⟨some d,.load t x,ty,pos,aft,g⟩ a w (λv w'=>w=w'/\RV k m v xx):=by
 have hA:At w b o ((cs.drop o).take k.sz):=hS.atL hL (by rw[k.len h]) (by rw[k.len h];exact k.pos);have J:ay P ⟨some d,.load t x,ty,pos,aft,g⟩ a w (k.val ((cs.drop o).take k.sz)) w:=by simp[ay,execOp,Instr.loadAt,W.eval Z,Instr.sureAddr,jE hT h hA]
 exact J.step ⟨rfl,_,h,rfl⟩
theorem aC (Z:aw δ n a l)(hS:S W0 m w L TL)(hT:dz P t k){v:Value}{xx:O}(hx:evl l x=some v)(J:PR k m v xx):a8 P ⟨some d,.load t x,ty,pos,aft,g⟩ a w (λv w'=>w=w'/\RV k m v xx):=by
 obtain⟨b,o,rfl,h⟩:=J;have hA:At w b o (m.row b o k.sz):=hS.atM (k.len h) k.pos;have W:ay P ⟨some d,.load t x,ty,pos,aft,g⟩ a w (k.val (m.row b o k.sz)) w:=by simp[ay,execOp,Instr.loadAt,Z.eval hx,Instr.sureAddr,jE hT h hA]
 exact W.step ⟨rfl,_,h,rfl⟩
structure dc (P:Program)(s:TypeId)(i off:Nat):Prop where at_:∀b o w,(Instr.fieldAt s (.pointer (some ⟨b,o,none⟩)) i).run P w=.ok (.pointer (some ⟨b,o+off,none⟩)) w
theorem cV{s:TypeId}{i off:Nat}{h:Array Field}{f:Field}{sz:Nat}(J:P.underlying s=some (.struct h))(hf:h[i]?=some f)(hs:∀w,(sizeOf f.type).run P w=.ok sz w)(Z:sz≠0)(W:f.offset=off):dc P s i off:=⟨λb o w=>by
 subst W;simp only[Instr.fieldAt,Sem.run_bind,run_underlying J,Result.andThen_ok,hf,Instr.sureAddr,Sem.run_pure,fieldPlace,hs];rw[if_neg Z];simp only[Sem.run_pure,Result.andThen_ok];rw[gw]⟩
theorem aK{s:TypeId}{i off b o:Nat}(h:aw δ n a l)(J:dc P s i off)(W:evl l x=some (.pointer (some ⟨b,o,none⟩))):ay P ⟨some d,.fieldAddr s x i,ty,pos,aft,g⟩ a w (.pointer (some ⟨b,o+off,none⟩)) w:=by simp[ay,execOp,h.eval W,J.at_]
def Fld (k:Kd O)(k':Kd β)(off:Nat)(f:O->β):Prop:=off+k'.sz<=k.sz/\∀m cs x,k.R m cs x->k'.R m ((cs.drop off).take k'.sz) (f x)
theorem Ha{m:M}{b o off sz sz':Nat}(h:off+sz'<=sz):((m.row b o sz).drop off).take sz'=m.row b (o+off) sz':=by unfold M.row;cases m b with
 |none=>simp|some r=>simp only[];rw[Zd,Ze,Zb];congr 1;omega
theorem PR.fld{off:Nat}{f:O->β}(J:Fld k k' off f){v:Value}{xx:O}(h:PR k m v xx):∃b o,v=.pointer (some ⟨b,o,none⟩)/\PR k' m (.pointer (some ⟨b,o+off,none⟩)) (f xx):=by obtain⟨b,o,rfl,W⟩:=h;refine⟨b,o,rfl,b,o+off,rfl,?_⟩;rw[←Ha J.1];exact J.2 _ _ _ W
theorem bX{s:TypeId}{i off:Nat}{f:O->β}(Z:aw δ n a l)(J:dc P s i off)(hf:Fld k k' off f){v:Value}{xx:O}(hx:evl l x=some v)(W:PR k m v xx):a8 P ⟨some d,.fieldAddr s x i,ty,pos,aft,g⟩ a w (λv w'=>w=w'/\PR k' m v (f xx)):=by obtain⟨b,o,rfl,h⟩:=W.fld hf;exact(aK Z J hx).step ⟨rfl,h⟩
theorem Fld.R_drop{off o:Nat}{f:O->β}(J:Fld k k' off f){cs:List Value}{xx:O}(h:k.R m ((cs.drop o).take k.sz) xx):k'.R m ((cs.drop (o+off)).take k'.sz) (f xx):=by have:=J.2 _ _ _ h;rw[Zd,Ze,Zb,Z5 (by have:=J.1;omega)]at this;exact this
theorem aL{cs:List Value}{xx:O}(h:k.R m cs xx):k.R m ((cs.drop 0).take k.sz) xx:=by rw[Zq,Z2 (by rw[k.len h];exact Z7 _)];exact h
theorem ff{P:Program}:∀(vs:List Value) (b o i:Nat) (c:List Value) (t:TypeId) (w:World),w.heap[b]?=some (.cells c.toArray t (0,0))->o+i+vs.length<=c.length->(∀v∈vs,v.oneCell'=true)->(storeCells ⟨b,o,none⟩ vs i).run P w=.ok () (w.setRow b (c.take (o+i)++vs++c.drop (o+i+vs.length)).toArray)
 |[],b,o,i,c,t,w,hb,hl,_=>by simp only[storeCells,List.append_nil,X5,Zm,Zh];show Result.ok () w=_;congr 1;have a2:b<w.heap.size:=(Array.getElem?_eq_some_iff.1 hb).1;have J:w.heap[b]=.cells c.toArray t (0,0):=(Array.getElem?_eq_some_iff.1 hb).2;unfold World.setRow;cases w with|mk heap tape drawn os output=>
   congr 1;apply Array.ext;·simp
   ·intro j h h2;simp only[Array.getElem_modify];split;·rename_i W;subst W;simp at J;simp[J]
    ·rfl|v::rest,b,o,i,c,t,w,hb,hl,h=>by
  simp only[Zp]at hl;have hi:o+i<c.length:=by omega
  have a1:w.cell? ⟨b,o+i,none⟩=some c[o+i]:=by simp[World.cell?,hb,hi]
  have a0:w.frozen? ⟨b,o+i,none⟩=false:=by simp[World.frozen?,hb]
  have Z:(store ((⟨b,o,none⟩:Addr).add i) v).run P w=.ok () (w.setRow b (c.toArray.setIfInBounds (o+i) v)):=by rw[gw,run_store P w _ v _ (h v (by simp)),a1];simp[a0,setCell_eq_setRow w b (o+i) c.toArray t (0,0) v hb]
  have ih:=ff (P:=P) rest b o (i+1) (c.set (o+i) v) t (w.setRow b (c.toArray.setIfInBounds (o+i) v)) (by rw[Ym];exact setRow_heap w b c.toArray _ t _ hb) (by simp;omega) (λx hx=>h x (by simp[hx]));simp only[storeCells,Sem.run_bind,Z,Result.andThen_ok,ih,setRow_setRow];congr 3;rw[show o+(i+1)=o+i+1 by omega,List.take_set,List.drop_set_of_lt (by omega),Zp,show o+i+1+rest.length=o+i+(rest.length+1)by omega];rw[Y9 (by omega)];rw[List.set_append_right _ _ (by simp;omega)];simp[Z5 (Nat.le_of_lt hi)]
theorem S.setL (hS:S W0 m w L TL){i b:Nat}{cs:List Value}(hL:L[i]?=some (b,cs))(a0:cs≠[])(cs':List Value):S W0 m (w.setRow b cs'.toArray) (L.set i (b,cs')) TL:=by
 obtain⟨hB,hm,t,ht⟩:=hS.own i _ hL a0;have a1:∀j,j≠b->(w.setRow b cs'.toArray).heap[j]?=w.heap[j]?:=λj hj=>setRow_other w b j _ hj;simp only at hB hm ht;refine⟨hS.below.step ⟨⟨rfl,rfl,rfl,by simp,λj hj=>a1 j (by omega)⟩,Z7 _⟩ (λk o hk hc=>by rw[a1 k (λe=>by subst e;rw[ht]at hk;injection hk with hk;subst hk;cases hc)];exact hk),λj r hj=>?_,λj e J Z=>?_,λi' j e e' J a6 a9 Z a5=>?_,λj e J=>?_,hS.apart⟩
 ·rw[a1 j (λe=>by subst e;rw[hm]at hj;cases hj)];exact hS.imm j r hj
 ·rw[Zv]at J;split at J
  ·rename_i e1;subst e1;simp at J;obtain⟨_,rfl⟩:=J;exact⟨hB,hm,t,setRow_heap w b _ _ t _ ht⟩
  ·rename_i e1;obtain⟨h1,W,t',h3⟩:=hS.own j e J Z;have a0:=hS.nodup i j _ _ hL J e1 a0 Z;exact⟨h1,W,t',by rw[a1 _ (λe=>a0 e.symm)];exact h3⟩
 ·have key:∀(j:Nat) (e:Nat×List Value),(L.set i (b,cs'))[j]?=some e->e.2≠[]->∃e0,L[j]?=some e0/\e0.1=e.1/\e0.2≠[]:=λj e J Z=>by
   rw[Zv]at J;split at J
   ·rename_i e1;subst e1;simp at J;obtain⟨_,rfl⟩:=J;exact⟨_,hL,rfl,a0⟩
   ·exact⟨e,J,rfl,Z⟩
  obtain⟨e0,h0,h1,W⟩:=key i' e J Z;obtain⟨a3,b1,b0,a2⟩:=key j e' a6 a5;rw[←h1,←b0];exact hS.nodup i' j e0 a3 h0 b1 a9 W a2
 ·have hT:=hS.tails j e J;obtain⟨sz,v⟩:=e;cases v<;>try exact hT
  rename_i ad len cap;cases ad with
  |none=>trivial|some ad=>
   obtain⟨a4,hT⟩:=hT;refine⟨by simpa using a4,?_⟩;rcases hT with h|⟨h0,h1,r,c,t',W,h3,h4,h5⟩;·exact .inl h
   ·exact .inr ⟨h0,h1,r,c,t',W,h3,by rw[a1 _ (λe=>by rw[e,hm]at W;cases W)];exact h4,h5⟩
theorem EU (Z:aw δ n a l)(hS:S W0 m w L TL)(hT:dz P t k){i b o:Nat}{cs:List Value}{v:Value}{xx:O}(hx:evl l x=some (.pointer (some ⟨b,o,none⟩)))(hy:evl l y=some v)(hv:RV k m v xx)(hL:L[i]?=some (b,cs))(hb:o+k.sz<=cs.length):a8 P ⟨none,.store t x y,ty,pos,aft,g⟩ a w (λ_ w'=>∃vs,k.R m vs xx/\S W0 m w' (L.set i (b,cs.take o++vs++cs.drop (o+k.sz))) TL):=by
 obtain⟨vs,h,rfl⟩:=hv;have hl:=k.len h;have W:cs≠[]:=λe=>by have:=k.pos;subst e;simp at hb;omega
 obtain⟨hB,hm,t',ht⟩:=hS.own i _ hL W;have J:=ff (P:=P) vs b o 0 cs t' w ht (by omega) (k.one h);have hr:wT P ⟨none,.store t x y,ty,pos,aft,g⟩ a w (w.setRow b (cs.take o++vs++cs.drop (o+k.sz)).toArray):=by simp only[Zm,hl]at J;have a0:=hT.size w;simp only[wT,execOp,Z.eval hx,Z.eval hy,Instr.storeAt,Instr.sureAddr,Sem.run_bind,Sem.run_pure,Result.andThen_ok,storeVar,k.val_cells h,a0];simp[hl,J]
 exact hr.step ⟨vs,h,hS.setL hL W _⟩
end
open Go.RowKit (Below)
def Rl{O:Type}(d:Kd O)(m:M)(cs:List Value)(xs:List O):Prop:=cs.length=xs.length*d.sz/\∀i (h:i<xs.length),d.R m ((cs.drop (i*d.sz)).take d.sz) xs[i]
section
variable{δ:List Nat}{ro:Option Nat}{O:Type}{d:Kd O}{m m':M}{cs ds:List Value}{xs ys:List O}
theorem Rl.mono (h:Rl d m cs xs)(hm:M.le m m'):Rl d m' cs xs:=⟨h.1,λi hi=>d.mono hm (h.2 i hi)⟩
theorem Rl.nil:Rl d m [] []:=⟨by simp,λi h=>by simp at h⟩
theorem Rl.single{x:O}(h:d.R m cs x):Rl d m cs [x]:=⟨by simp[d.len h],λi hi=>by
 have:i=0:=by simp at hi;omega
 subst this;simp only[Nat.zero_mul,Zq,Yb];rw[Z2 (by rw[d.len h];exact Z7 _)];exact h⟩
theorem Rl.app (h:Rl d m cs xs)(k:Rl d m ds ys):Rl d m (cs++ds) (xs++ys):=by
 refine⟨by simp[h.1,k.1,Z6],λi hi=>?_⟩;have Z:=d.pos;by_cases h1:i<xs.length
 · rw[Ys h1];have J:i*d.sz+d.sz<=xs.length*d.sz:=by have:=j6 d.sz (show i+1<=xs.length by omega);rw[Z6]at this;omega
   rw[Zk (by rw[h.1];omega),Z3 (by simp[h.1];omega)];exact h.2 i h1
 · rw[Yp (by omega)];have J:xs.length*d.sz<=i*d.sz:=j6 _ (by omega);have W:i*d.sz-xs.length*d.sz=(i-xs.length)*d.sz:=by rw[Nat.sub_mul]
   rw[X8,Z9 (by rw[h.1];exact J),Zo,h.1,W];exact k.2 _ (by simp at hi;omega)
theorem Rl.one (h:Rl d m cs xs):∀c∈cs,c.oneCell'=true:=by
 intro c hc;obtain⟨j,J,rfl⟩:=List.mem_iff_getElem.1 hc;have Z:=d.pos;have hi:j/d.sz<xs.length:=by rw[Nat.div_lt_iff_lt_mul Z,←h.1];exact J
 have hR:=h.2 _ hi;refine d.one hR _ ?_;have W:=Nat.div_add_mod j d.sz;have e2:=Nat.mod_lt j Z;rw[Nat.mul_comm]at W;rw[List.mem_iff_getElem?];refine⟨j%d.sz,?_⟩;rw[Zx,if_pos e2,Zu,W,Zf J]
theorem mT{v:Value}(h:RV (kSl d) m v xs):∃a cap,v=.slice a xs.length cap/\xs.length<=cap/\xs.length<=cz/\(match a with|none=>cap=0|some ad=>(0<cap->ad.spot=none)/\∀i (h:i<xs.length),d.R m (m.row ad.block (ad.off+i*d.sz) d.sz) xs[i]):=by obtain⟨cs,⟨a,len,cap,Z,J,W,h4,h5⟩,rfl⟩:=h;subst Z;subst J;exact⟨a,cap,rfl,W,h4,h5⟩
theorem fU{a:Option Addr}{cap:Nat}(J:xs.length<=cap)(W:xs.length<=cz)(Z:match a with|none=>cap=0|some ad=>(0<cap->ad.spot=none)/\∀i (h:i<xs.length),d.R m (m.row ad.block (ad.off+i*d.sz) d.sz) xs[i]):RV (kSl d) m (.slice a xs.length cap) xs:=⟨[_],⟨a,_,cap,rfl,rfl,J,W,Z⟩,rfl⟩
theorem Dw{b o:Nat}(h:∀i (h:i<xs.length),d.R m (m.row b (o+i*d.sz) d.sz) xs[i]):Rl d m (m.row b o (xs.length*d.sz)) xs:=by
 have hp:=d.pos;have W:(m.row b o (xs.length*d.sz)).length=xs.length*d.sz:=by
  rcases Za xs.length with h0|h0;·unfold M.row;cases m b<;>simp[h0]
  ·have J:=d.len (h (xs.length-1) (by omega));unfold M.row at J⊢;cases hm:m b with
    |none=>simp[hm]at J;omega|some l=>
      simp[hm]at J⊢;have e:(xs.length-1)*d.sz+d.sz=xs.length*d.sz:=by rw[←Nat.succ_mul];congr 1;omega
      omega
 refine⟨W,λi hi=>?_⟩;have Z:i*d.sz+d.sz<=xs.length*d.sz:=by have:=j6 d.sz (show i+1<=xs.length by omega);rw[Z6]at this;omega
 rw[Ha Z];exact h i hi
theorem ql{b o:Nat}{l:List Value}(hm:m b=some l)(h:Rl d m cs xs)(hl:(l.drop o).take cs.length=cs):∀i (h:i<xs.length),d.R m (m.row b (o+i*d.sz) d.sz) xs[i]:=by
 intro i hi;have J:i*d.sz+d.sz<=xs.length*d.sz:=by have:=j6 d.sz (show i+1<=xs.length by omega);rw[Z6]at this;omega
 have:=h.2 i hi;rw[←hl,Zd,Ze,Zb,Z5 (by rw[h.1];omega)]at this;unfold M.row;rw[hm];exact this
end
def idx{O:Type}(xs:List O)(i:Int):Option O:=if 0<=i then xs[i.toNat]?else none
theorem AU{O:Type}{xs:List O}{i:Int}{x:O}(h:idx xs i=some x):0<=i/\∃hi:i.toNat<xs.length,xs[i.toNat]=x:=by
 unfold idx at h;split at h
 ·rename_i J;exact⟨J,zx.1 h⟩
 ·cases h
def sub{O:Type}(xs:List O)(lo hi:Int):Option (List O):=if 0<=lo/\lo<=hi/\hi<=(xs.length:Int)then some ((xs.take hi.toNat).drop lo.toNat)else none
theorem wV{O:Type}{xs ys:List O}{lo hi:Int}(h:sub xs lo hi=some ys):0<=lo/\lo<=hi/\hi<=(xs.length:Int)/\ys=(xs.take hi.toNat).drop lo.toNat:=by
 unfold sub at h;split at h
 ·rename_i J;injection h with h;exact⟨J.1,J.2.1,J.2.2,h.symm⟩
 ·cases h
def app{O:Type}(N:Nat)(xs ys:List O):Option (List O):=if xs.length+ys.length<=N then some (xs++ys)else none
theorem AW{O:Type}{N:Nat}{xs ys J:List O}(h:app N xs ys=some J):xs.length+ys.length<=N/\J=xs++ys:=by
 unfold app at h;split at h
 ·rename_i W;injection h with h;exact⟨W,h.symm⟩
 ·cases h
section
variable{δ:List Nat}{ro:Option Nat}{P:Program}{W0:Bse}{m:M}{L:List (Nat×List Value)}{TL:List (Nat×Value)}{n:Nat}{a:Act}{l:List (Nat×Value)}{w:World}{ty t e:TypeId}{pos:String}{aft:Array Edge}{g:Option (Nat×Bool)}{x y:Operand}{d:Nat}{O:Type}{k:Kd O}
theorem bq{h:Array TypeId}{xs:List O}{v:Value}(Z:aw δ n a l)(hx:evl l x=some v)(ht:h[0]?=some t)(W:P.underlying t=some (.slice e))(J:RV (kSl k) m v xs):ay P ⟨some d,.call ⟨.builtin .len,#[x],h⟩,ty,pos,aft,g⟩ a w (.int .i64 (xs.length:Int)) w:=by obtain⟨ad,cap,rfl,_⟩:=mT J;simp[ay,execOp,resolve,invoke,builtin,Z.eval hx,Builtin.len_,ht,run_underlying W,goInt]
theorem AX (s:List Int):(bts s).size=s.length:=by show((s.map _).toArray).size=_;simp
theorem K4{h:Array TypeId}{s:List Int}(W:aw δ n a l)(Z:evl l x=some (.string (bts s)))(ht:h[0]?=some t)(J:P.underlying t=some .string):ay P ⟨some d,.call ⟨.builtin .len,#[x],h⟩,ty,pos,aft,g⟩ a w (.int .i64 (s.length:Int)) w:=by simp[ay,execOp,resolve,invoke,builtin,W.eval Z,Builtin.len_,ht,run_underlying J,goInt,AX]
theorem be{kk:IntKind}{i:Int}{xs:List O}{xx:O}{v:Value}(W:aw δ n a l)(hx:evl l x=some v)(hy:evl l y=some (.int kk i))(hu:P.underlying t=some (.slice e))(hs:∀w,(sizeOf e).run P w=.ok k.sz w)(hv:RV (kSl k) m v xs)(hi:idx xs i=some xx):a8 P ⟨some d,.indexAddr t x y,ty,pos,aft,g⟩ a w (λv w'=>w=w'/\PR k m v xx):=by obtain⟨h0,h1,h2⟩:=AU hi;obtain⟨J,cap,rfl,h3,h4,Z⟩:=mT hv;cases J with
 |none=>simp only at Z;omega|some J=>
   obtain⟨b,o,sp⟩:=J;obtain⟨h,hR⟩:=Z;replace h:=h (by omega);simp only at h;subst h;have a0:i<(xs.length:Int):=by omega
   have hr:ay P ⟨some d,.indexAddr t x y,ty,pos,aft,g⟩ a w (.pointer (some ⟨b,o+i.toNat*k.sz,none⟩)) w:=by simp[ay,execOp,W.eval hx,W.eval hy,Instr.indexAt,asIntOf,run_underlying hu,h0,a0,hs,gw]
   refine hr.step ⟨rfl,b,_,rfl,?_⟩;rw[←h2];exact hR _ h1
theorem Ph{v:Value}{xs ys:List O}{lo hi:Int}(hv:RV (kSl k) m v xs)(hs:sub xs lo hi=some ys):∃a cap,v=.slice a xs.length cap/\hi<=cap/\RV (kSl k) m (.slice (if cap=lo.toNat then a else a.map (·.add (lo.toNat*k.sz))) (hi.toNat-lo.toNat) (cap-lo.toNat)) ys:=by
 obtain⟨h0,h1,h2,rfl⟩:=wV hs;obtain⟨J,cap,rfl,h3,h4,W⟩:=mT hv;have hl:((xs.take hi.toNat).drop lo.toNat).length=hi.toNat-lo.toNat:=by simp;omega
 refine⟨J,cap,rfl,by omega,?_⟩;rw[←hl];refine fU (by omega) (by omega) ?_;by_cases hc:cap=lo.toNat
 ·rw[if_pos hc];cases J with
   |none=>simp only at W⊢;omega|some J=>exact⟨λh=>W.1 (by omega),λi hi'=>by rw[hl]at hi';omega⟩
 ·rw[if_neg hc];cases J with
   |none=>simp only at W⊢;simp;omega|some J=>obtain⟨b,o,sp⟩:=J;obtain⟨Z,hR⟩:=W;replace Z:=Z (by omega);simp only at Z;subst Z;simp only[Zn,gw];refine⟨λ_=>trivial,λi hi'=>?_⟩;rw[hl]at hi';have:=hR (lo.toNat+i) (by omega);rw[Z6,←Nat.add_assoc]at this;simpa using this
theorem sd{a:Option Addr}{len cap:Nat}{lo hi:Option Value}{lo' hi':Nat}(hu:P.underlying t=some (.slice e)) (hs:∀w,(sizeOf e).run P w=.ok k.sz w)(h:match lo with|some (.int _ i)=>i=lo'|none=>lo'=0|_=>False) (Z:match hi with|some (.int _ i)=>i=hi'|none=>hi'=len|_=>False) (h1:lo'<=hi') (h2:hi'<=cap):(Instr.sliceAt t (.slice a len cap) lo hi none).run P w=.ok (.slice (if cap=lo' then a else a.map (·.add (lo'*k.sz))) (hi'-lo') (cap-lo')) w:=by
 have key:(Instr.sliceBounds true len cap lo hi none).run P w=.ok (lo',hi',cap) w:=by
  unfold Instr.sliceBounds;have b1:∀(W:IntKind) (J:BoundsCode),(Instr.sliceBound (.int W (hi':Int)) cap J).run P w=.ok hi' w:=λW J=>by simp[Instr.sliceBound,asIntOf,h2]
  have b2:∀(W:IntKind) (J:BoundsCode),(Instr.sliceBound (.int W (lo':Int)) hi' J).run P w=.ok lo' w:=λW J=>by simp[Instr.sliceBound,asIntOf,h1]
  rcases hi with _|hv
  · simp only at Z;subst Z;rcases lo with _|lv;·simp only at h;subst h;simp
    · cases lv<;>try exact h.elim
      simp only at h;subst h;simp[b2]
  · cases hv<;>try exact Z.elim
    simp only at Z;subst Z;rcases lo with _|lv;·simp only at h;subst h;simp[b1]
    · cases lv<;>try exact h.elim
      simp only at h;subst h;simp[b1,b2]
 simp[Instr.sliceAt,run_underlying hu,Instr.slice,key,hs]
theorem dy{v:Value}{xs ys:List O}{xl xh:Option Operand}{lo hi:Int}(W:aw δ n a l)(hx:evl l x=some v)(hu:P.underlying t=some (.slice e))(hs:∀w,(sizeOf e).run P w=.ok k.sz w)(hv:RV (kSl k) m v xs)(hl:match xl with|some o=>∃h,evl l o=some (.int h lo)|none=>lo=0) (hh:match xh with|some o=>∃h,evl l o=some (.int h hi)|none=>hi=(xs.length:Int)) (a0:sub xs lo hi=some ys):a8 P ⟨some d,.slice t x xl xh none,ty,pos,aft,g⟩ a w (λv w'=>w=w'/\RV (kSl k) m v ys):=by
 obtain⟨h0,h1,h2,_⟩:=wV a0;obtain⟨Z,cap,rfl,h3,h4⟩:=Ph hv a0;have hr:ay P ⟨some d,.slice t x xl xh none,ty,pos,aft,g⟩ a w (.slice (if cap=lo.toNat then Z else Z.map (·.add (lo.toNat*k.sz))) (hi.toNat-lo.toNat) (cap-lo.toNat)) w:=by
  have:=sd (w:=w) (a:=Z) (len:=xs.length) (cap:=cap) (lo:=xl.map a.eval) (hi:=xh.map a.eval) (lo':=lo.toNat) (hi':=hi.toNat) hu hs (by cases xl with
   |none=>simp at hl⊢;omega|some o=>obtain⟨h,J⟩:=hl;simp only[Zn,W.eval J];omega) (by cases xh with
   |none=>simp at hh⊢;omega|some o=>obtain⟨h,J⟩:=hh;simp only[Zn,W.eval J];omega) (by omega) (by omega);simp[ay,execOp,W.eval hx,this]
 exact hr.step ⟨rfl,h4⟩
end
open Go.RowKit (Below)
structure pW (P:Program)(e:TypeId)(sz by_:Nat):Prop where ok:∃i z,P.info? e=some i/\i.size=sz/\i.bytes=by_/\i.zero=some z/\z.cells.size=sz
section
variable{δ:List Nat}{ro:Option Nat}{P:Program}{W0:Bse}{m:M}{L:List (Nat×List Value)}{TL:List (Nat×Value)}{w:World}{O:Type}{k:Kd O}
theorem nY{v:Value}{xs:List O}(hS:S W0 m w L TL) (hv:RV (kSl k) m v xs):∃cs,Rl k m cs xs/\(∀w',(∀b,b<w.heap.size->w'.heap[b]?=w.heap[b]?)->(Builtin.firstCells k.sz xs.length v).run P w'=.ok cs.toArray w')/\(∀a cap J,v=.slice a xs.length cap->a=some J->cs=m.row J.block J.off (xs.length*k.sz))/\(∀l c,v=.slice none l c->cs=[]):=by obtain⟨J,cap,rfl,h3,h4,h5⟩:=mT hv;cases J with
 |none=>
   simp only at h5;have Z:xs.length=0:=by omega
   have:xs=[]:=Z1 Z;subst this;refine⟨[],Rl.nil,λw' _=>run_firstCells_none w' _ _ _ _,?_,λl c h=>rfl⟩;intro a cap J h W;injection h with h;rw[←h]at W;cases W|some J=>
   obtain⟨b,o,sp⟩:=J;obtain⟨a0,hR⟩:=h5;have a1:=Dw hR;refine⟨_,a1,λw' hw=>?_,λa cap J h W=>?_,λl c h=>by cases h⟩
   · rcases Za xs.length with Z|Z
     · have hc:m.row b o (xs.length*k.sz)=[]:=by unfold M.row;cases m b<;>simp[Z]
       rw[hc];have:(Builtin.firstCells k.sz xs.length (.slice (some ⟨b,o,sp⟩) xs.length cap)).run P w'=.ok #[] w':=by simp[Builtin.firstCells,Z,loadCells,loadCellsFrom]
       simpa using this
     ·replace a0:=a0 (by omega);simp only at a0;subst a0;have hp:0<xs.length*k.sz:=Y6 Z k.pos;have hA:=hS.atM (b:=b) (o:=o) a1.1 hp;obtain⟨c,t,fr,hb,hc⟩:=hA;have a3:=(Array.getElem?_eq_some_iff.1 hb).1;have a2:At w' b o (m.row b o (xs.length*k.sz)):=⟨c,t,fr,by rw[hw b a3];exact hb,hc⟩;exact run_firstCells_some w' _ _ _ _ _ _ a1.1 (λj v hj=>by rw[gw];exact a2.cell hj)
   ·injection h with h;rw[←h]at W;injection W with W;subst W;rfl
theorem S.grow (hS:S W0 m w L TL){i b sz:Nat}{l ms:List Value}{c:List Value}{t:TypeId}{v v':Value}(hT:TL[i]?=some (sz,v)) (hb:m b=some l) (hB:W0.heap.size<=b) (hw:w.heap[b]?=some (.cells c.toArray t (0,0))) (hv:jU v=some b)(a5:jU v'=some b)(b2:sQ W0.heap.size (m.put b (l++ms)) (w.setRow b (c.take l.length++ms++c.drop (l.length+ms.length)).toArray) sz v'):M.le m (m.put b (l++ms))/\S W0 (m.put b (l++ms)) (w.setRow b (c.take l.length++ms++c.drop (l.length+ms.length)).toArray) L (TL.set i (sz,v')):=by
 generalize hcs:(c.take l.length++ms++c.drop (l.length+ms.length))=cs at*;have a0:∀j,j≠b->(w.setRow b cs.toArray).heap[j]?=w.heap[j]?:=λj W=>setRow_other w b j _ W;have a4:=setRow_heap w b _ cs.toArray t _ hw;obtain⟨c0,t0,b3,r0,h1,h2,_⟩:=hS.imm b l hb;rw[hw]at h1;injection h1 with h1;injection h1 with h1 _ _;subst h1;simp only at h2;refine⟨λj r W=>?_,hS.below.step ⟨⟨rfl,rfl,rfl,by simp,λj W=>a0 j (by omega)⟩,Z7 _⟩ (λk o hk hc=>by rw[a0 k (λe=>by subst e;rw[hw]at hk;injection hk with hk;subst hk;cases hc)];exact hk),λj r W=>?_,λj e J hv=>?_,hS.nodup,λj e J=>?_,λj j' e e' J b0 b1=>?_⟩
 · by_cases e:j=b
   ·subst e;rw[hb]at W;injection W with W;subst W;exact⟨ms,M.put_same _ _ _⟩
   ·exact⟨[],by rw[M.put_other _ _ e];simpa using W⟩
 · by_cases e:j=b
   · subst e;rw[M.put_same]at W;injection W with W;subst W;refine⟨_,t,_,c.drop (l.length+ms.length),a4,?_,.inl hB⟩;have:c.take l.length=l:=by rw[h2];simp
     rw[←hcs,this]
   ·rw[M.put_other _ _ e]at W;rw[a0 j e];exact hS.imm j r W
 · obtain⟨Z,h4,t',h5⟩:=hS.own j e J hv;have a1:e.1≠b:=λx=>by rw[x,hb]at h4;cases h4
   exact⟨Z,by rw[M.put_other _ _ a1];exact h4,t',by rw[a0 _ a1];exact h5⟩
 · rw[Zv]at J;split at J
   ·rename_i e1;subst e1;simp at J;obtain⟨_,rfl⟩:=J;exact b2
   · rename_i e1;have Z:=hS.tails j e J;have h4:=hS.apart i j _ _ hT J e1 b hv;obtain⟨sz',u⟩:=e;cases u<;>try exact Z
     rename_i ad len cap;cases ad with
     |none=>trivial|some ad=>
       have a1:ad.block≠b:=λx=>h4 (by simp[jU,x]);obtain⟨a6,Z⟩:=Z;refine⟨by simpa using a6,?_⟩;rcases Z with h|⟨h0,h1,r,c',t',h5,h6,h7,h8⟩;·exact .inl h
       ·exact .inr ⟨h0,h1,r,c',t',by rw[M.put_other _ _ a1];exact h5,h6,by rw[a0 _ a1];exact h7,h8⟩
 · have key:∀(j:Nat) (e:Nat×Value),(TL.set i (sz,v'))[j]?=some e->∃e0,TL[j]?=some e0/\jU e0.2=jU e.2:=λj e J=>by
    rw[Zv]at J;split at J
    ·rename_i e1;subst e1;simp at J;obtain⟨_,rfl⟩:=J;exact⟨_,hT,by rw[hv,a5]⟩
    ·exact⟨e,J,rfl⟩
   obtain⟨e0,Z,h4⟩:=key j e J;obtain⟨a3,a2,a9⟩:=key j' e' b0;have:=hS.apart j j' e0 a3 Z a2 b1;unfold zI at*;rw[←h4,←a9];exact this
theorem S.allocT (hS:S W0 m w L TL){i sz:Nat}{v':Value}(cs rs:List Value) (t:TypeId) (a1:jU v'=some w.heap.size)(a5:sQ W0.heap.size (m.put w.heap.size cs) (w.drew.alloc (.cells (cs++rs).toArray t)) sz v'):M.le m (m.put w.heap.size cs)/\S W0 (m.put w.heap.size cs) (w.drew.alloc (.cells (cs++rs).toArray t)) L (TL.set i (sz,v')):=by
 have hB:=hS.below.size;have hn:m w.heap.size=none:=hS.fresh (Z7 _);have a0:∀j,j<w.heap.size->(w.drew.alloc (.cells (cs++rs).toArray t)).heap[j]?=w.heap[j]?:=λj hj=>iL w.drew _ j hj;refine⟨M.le_put _ hn,hS.below.drew.alloc hB _,λb r J=>?_,λj e h hv=>?_,hS.nodup,λj e h=>?_,λj j' e e' h a3 a2=>?_⟩
 · by_cases e:b=w.heap.size
   ·subst e;rw[M.put_same]at J;injection J with J;subst J;exact⟨_,t,(0,0),rs,sB w.drew _,by simp,.inl hB⟩
   ·rw[M.put_other _ _ e]at J;rw[a0 b (hS.lt J)];exact hS.imm b r J
 ·obtain⟨h1,W,t',h3⟩:=hS.own j e h hv;have a4:=(Array.getElem?_eq_some_iff.1 h3).1;exact⟨h1,by rw[M.put_other _ _ (by omega)];exact W,t',by rw[a0 _ a4];exact h3⟩
 · rw[Zv]at h;split at h
   ·rename_i e1;subst e1;simp at h;obtain⟨_,rfl⟩:=h;exact a5
   ·exact qj a0 (EO (w:=w) (m:=m) (λb J=>M.put_other _ _ (by omega)) (hS.tails j e h))
 · have key:∀(j:Nat) (e:Nat×Value),(TL.set i (sz,v'))[j]?=some e->(j=i/\jU e.2=some w.heap.size)\/(j≠i/\TL[j]?=some e):=λj e h=>by
    rw[Zv]at h;split at h
    ·rename_i e1;subst e1;simp at h;obtain⟨_,rfl⟩:=h;exact .inl ⟨rfl,a1⟩
    ·rename_i e1;exact .inr ⟨λx=>e1 x.symm,h⟩
   intro b J Z;rcases key j e h with⟨h1,W⟩|⟨h1,W⟩<;>rcases key j' e' a3 with⟨h3,h4⟩|⟨h3,h4⟩;·omega
   ·have:=zJ (hS.tails j' e' h4) Z;rw[W]at J;injection J with J;omega
   ·have:=zJ (hS.tails j e W) J;rw[h4]at Z;injection Z with Z;omega
   ·exact hS.apart j j' e e' W h4 a2 b J Z
theorem yv{e t tx ty:TypeId}{by_:Nat}(hS:S W0 m w L TL) (hu:P.underlying t=some (.slice e)) (h:(∃e',P.underlying tx=some (.slice e'))\/P.underlying tx=some .string) (c2:pW P e k.sz by_){i:Nat}{v u:Value}{xs ys:List O}{news:List Value}(hT:TL[i]?=some (k.sz,v)) (hv:RV (kSl k) m v xs)(W:(Builtin.lenOf u).run P w=.ok ys.length w) (hf:∀w',(∀b,b<w.heap.size->w'.heap[b]?=w.heap[b]?)->(Builtin.firstCells k.sz ys.length u).run P w'=.ok news.toArray w') (J:Rl k m news ys)(hN:(xs.length+ys.length)*by_<=140737488355328) (hM:xs.length+ys.length<=cz):∃v' m' w',(Builtin.append_ #[t,tx] ty #[v,u]).run P w=.ok v' w'/\M.le m m'/\S W0 m' w' L (TL.set i (k.sz,v'))/\RV (kSl k) m' v' (xs++ys):=by
 obtain⟨b3,z,hi,a2,b5,hz,d1⟩:=c2.ok;obtain⟨cs,a3,c4,d2,e8⟩:=nY (P:=P) hS hv;have b0:=hS.tails i _ hT;obtain⟨ad,cap,rfl,h3,h4,h5⟩:=mT hv;have e7:xs.length+ys.length<=281474976710656:=hM;have hp:=k.pos;by_cases hfit:xs.length+ys.length<=cap;·cases ad with
  |none=>
    simp only at h5;subst h5;have hy:ys=[]:=Z1 (by omega);have hx:xs=[]:=Z1 (by omega);subst hy;subst hx;refine⟨.slice none 0 0,m,w,?_,M.le.refl m,?_,?_⟩
    ·have a0:=hf w (λ_ _=>rfl);simp only[X5]at a0 W;rcases h with⟨_,h⟩|h<;>simp[Builtin.append_,run_underlying hu,run_underlying h,sizeOf,typeInfo,hi,W,a2,a0]
    · have:TL.set i (k.sz,.slice none 0 0)=TL:=by
       have Z:=(zx.1 hT);obtain⟨Z,he⟩:=Z;apply Kc;·simp
       · intro j h1 h2;rw[List.getElem_set];split;·rename_i e;subst e;exact he.symm
         ·rfl
      rw[this];exact hS
    ·simpa using hv|some ad=>
    obtain⟨b,o,sp⟩:=ad;obtain⟨a6,e5⟩:=h5;rcases Za ys.length with h0|h0
    · have hy:ys=[]:=Z1 h0;subst hy;have b7:news=[]:=Z1 (by rw[J.1];simp);subst b7;refine⟨.slice (some ⟨b,o,sp⟩) xs.length cap,m,w,?_,M.le.refl m,?_,?_⟩
      ·have a0:=hf w (λ_ _=>rfl);simp at hfit a0 W;rcases h with⟨_,h⟩|h<;>simp[Builtin.append_,run_underlying hu,run_underlying h,sizeOf,typeInfo,hi,W,a2,a0,hfit,storeCells]
      · have:TL.set i (k.sz,.slice (some ⟨b,o,sp⟩) xs.length cap)=TL:=by
         obtain⟨Z,he⟩:=(zx.1 hT);apply Kc;·simp
         · intro j h1 h2;rw[List.getElem_set];split;·rename_i e;subst e;exact he.symm
           ·rfl
        rw[this];exact hS
      ·simpa using hv
    · replace a6:=a6 (by omega);simp only at a6;subst a6;obtain⟨Z,b0⟩:=b0;rcases b0 with hfull|⟨_,hB,l,c,t0,a5,a9,a4,e0⟩;·omega
      · simp only at hB a5 a9 a4 e0 Z;have b2:=ff (P:=P) news b (o+xs.length*k.sz) 0 c.toList t0 w (by simpa using a4) (by
         rw[J.1];have:=j6 k.sz hfit;rw[Z6]at this;simp;omega) J.one;simp only[Zm]at b2;rw[←a9]at b2;have b1:RV (kSl k) (m.put b (l++news)) (.slice (some ⟨b,o,none⟩) (xs++ys).length cap) (xs++ys):=by
         refine fU (by simpa using hfit) (by simpa using hM) ⟨λ_=>rfl,?_⟩;have a1:M.le m (m.put b (l++news)):=λj r hj=>by
          by_cases e:j=b
          ·subst e;rw[a5]at hj;injection hj with hj;subst hj;exact⟨news,M.put_same _ _ _⟩
          ·exact⟨[],by rw[M.put_other _ _ e];simpa using hj⟩
         refine ql (cs:=cs++news) (M.put_same _ _ _) (Rl.app (a3.mono a1) (J.mono a1)) ?_;have d0:cs=(l.drop o).take (xs.length*k.sz):=by have:=d2 _ _ _ rfl rfl;simpa[M.row,a5]using this
         have b4:cs=l.drop o:=by rw[d0];apply Z2;simp;omega
         show(((l++news).drop o).take (cs++news).length)=cs++news;rw[Zk (by omega),←b4];exact Z2 (by simp)
        have hg:=hS.grow (v':=.slice (some ⟨b,o,none⟩) (xs++ys).length cap) (ms:=news) hT a5 hB (c:=c.toList) (t:=t0) (by simpa using a4) rfl rfl (by
         refine⟨by simpa using Z,.inr ⟨rfl,hB,_,_,t0,M.put_same _ _ _,?_,setRow_heap w b _ _ t0 _ a4,?_⟩⟩;·simp[a9,J.1,Z6,Nat.add_assoc]
         ·have h9:=j6 k.sz hfit;have e6:=J.1;rw[Z6]at h9;simp;omega);refine⟨_,_,_,?_,hg.1,hg.2,b1⟩;rcases h with⟨_,h⟩|h<;>simp[Builtin.append_,run_underlying hu,run_underlying h,sizeOf,typeInfo,hi,W,a2,hf w (λ_ _=>rfl),hfit,gw,←a9,b2]
 · have c1:cap<xs.length+ys.length:=by omega
   have e4:¬(9223372036854775807<((xs.length:Int)+(ys.length:Int))):=by omega
   have c5:¬(281474976710656<Builtin.nextslicecap (xs.length+ys.length) cap*b3.bytes):=by have:=growslice_fits c1 (bytes:=b3.bytes) (by rw[b5];exact hN);omega
   have c6:¬(xs.length+ys.length<=cap):=hfit;generalize hcapn:grownCap w (xs.length+ys.length) cap e=cap' at*;have c7:xs.length+ys.length<=cap':=by rw[←hcapn];simp[grownCap,Question.cut]
   let rest:=(Builtin.zeroCells z.cells (cap'-(xs.length+ys.length))).toList;have c0:rest.length=(cap'-(xs.length+ys.length))*k.sz:=by simp[rest,Builtin.zeroCells,d1]
   have b1:RV (kSl k) (m.put w.heap.size (cs++news)) (.slice (some ⟨w.heap.size,0,none⟩) (xs++ys).length cap') (xs++ys):=by refine fU (by simpa using c7) (by simpa using hM) ⟨λ_=>rfl,?_⟩;have a1:M.le m (m.put w.heap.size (cs++news)):=M.le_put _ (hS.fresh (Z7 _));exact ql (cs:=cs++news) (M.put_same _ _ _) (Rl.app (a3.mono a1) (J.mono a1)) (by rw[Zq];exact Z2 (Z7 _))
   have hg:=hS.allocT (i:=i) (sz:=k.sz) (v':=.slice (some ⟨w.heap.size,0,none⟩) (xs++ys).length cap') (cs++news) rest e rfl (by
    refine⟨by simp,.inr ⟨rfl,hS.below.size,_,_,e,M.put_same _ _ _,?_,sB w.drew _,?_⟩⟩;·simp[a3.1,J.1,Z6]
    · have e1:xs.length*k.sz+ys.length*k.sz+(cap'-(xs.length+ys.length))*k.sz=cap'*k.sz:=by rw[←Z6,←Z6];congr 1;omega
      simp[a3.1,J.1,c0];omega);refine⟨_,_,_,?_,hg.1,hg.2,b1⟩;have b6:=c4 w.drew (λ_ _=>rfl);have e3:=hf w.drew (λ_ _=>rfl);have e2:cs.toArray++(news.toArray++Builtin.zeroCells z.cells (cap'-(xs.length+ys.length)))=(cs++(news++rest)).toArray:=by apply Array.ext';simp[rest]
   have c3:(Question.appendCap (xs.length+ys.length) cap e).cut (w.tape w.drawn (Question.appendCap (xs.length+ys.length) cap e))=cap':=hcapn;rcases h with⟨_,h⟩|h<;>simp[Builtin.append_,run_underlying hu,run_underlying h,sizeOf,typeInfo,zeroValue,hi,hz,W,a2,c6,e4,c5,Question.forced,b6,e3,newRow,c3,e2]
end
open Go.RowKit (Below)
def num:Nat->List Value->List (Nat×Value)
 |_,[]=>[]|k,v::vs=>(k,v)::num (k+1) vs
def RVl{O:Type}(k:Kd O)(m:M):List Value->List O->Prop
 |[],[]=>True|v::vs,x::xs=>RV k m v x/\RVl k m vs xs|_,_=>False
def jf (vs:List Value):List Value:=vs.flatMap λv=>v.cells.toList
theorem RVl.cells{O:Type}{k:Kd O}{m:M}:∀{vs:List Value}{xs:List O},RVl k m vs xs->Rl k m (jf vs) xs
 |[],[],_=>Rl.nil|v::vs,x::xs,h=>by
  obtain⟨⟨cs,J,rfl⟩,h2⟩:=h;have W:Rl k m (k.val cs).cells.toList [x]:=by rw[k.val_cells J];exact Rl.single J
  exact Rl.app W (RVl.cells h2)
theorem RVl.size{O:Type}{k:Kd O}{m:M}:∀{vs:List Value}{xs:List O},RVl k m vs xs->∀v∈vs,v.cells.size=k.sz
 |[],_,_,v,hv=>by simp at hv|u::vs,x::xs,h,v,hv=>by
  obtain⟨⟨cs,J,rfl⟩,h2⟩:=h;rcases List.mem_cons.1 hv with rfl|hv;·rw[k.val_cells J];simpa using k.len J
  ·exact RVl.size h2 v hv
theorem RVl.length{O:Type}{k:Kd O}{m:M}:∀{vs:List Value}{xs:List O},RVl k m vs xs->vs.length=xs.length
 |[],[],_=>rfl|u::vs,x::xs,h=>by simp[RVl.length h.2]
theorem yw (off:Nat):∀(vs:List Value) (j:Nat) (cs:List Value),off+j+vs.length<=cs.length->(vs.zipIdx j).foldl (λ(cs:Array Value) (p:Value×Nat)=>cs.setIfInBounds (off+p.2) p.1) cs.toArray=(cs.take (off+j)++vs++cs.drop (off+j+vs.length)).toArray
 |[],j,cs,_=>by simp|v::vs,j,cs,h=>by simp only[Zp]at h;rw[List.zipIdx_cons,List.foldl_cons];simp only[Ym];rw[yw off vs (j+1) _ (by simp;omega)];congr 1;rw[show off+(j+1)=off+j+1 by omega,List.take_set,List.drop_set_of_lt (by omega),Zp,show off+j+1+vs.length=off+j+(vs.length+1)by omega];rw[Y9 (by omega),List.set_append_right _ _ (by simp;omega)];simp[Z5 (show off+j<=cs.length by omega)]
theorem wW{sz:Nat}:∀(vs:List Value) (k:Nat) (cs:List Value),(∀v∈vs,v.cells.size=sz)->(k+vs.length)*sz<=cs.length->Instr.fill (λi=>some (i*sz,sz)) cs.toArray (num k vs)=some (cs.take (k*sz)++jf vs++cs.drop ((k+vs.length)*sz)).toArray
 |[],k,cs,_,_=>by simp[Instr.fill,num,jf]|v::vs,k,cs,h,hl=>by
  have J:=h v (by simp);have Z:(k+1)*sz+vs.length*sz=(k+(v::vs).length)*sz:=by rw[←Z6];congr 1;simp;omega
  have e2:(k+1)*sz=k*sz+sz:=by rw[Z6];simp
  have a1:k*sz+sz<=cs.length:=by have:(k+1)*sz<=(k+(v::vs).length)*sz:=j6 _ (by simp);omega
  simp only[num,Instr.fill];have hz:((v.cells.zipIdx).foldl (λ(cs:Array Value) (p:Value×Nat)=>cs.setIfInBounds (k*sz+p.2) p.1) cs.toArray)=(cs.take (k*sz)++v.cells.toList++cs.drop (k*sz+sz)).toArray:=by have:=yw (k*sz) v.cells.toList 0 cs (by simp[J];omega);simp only[Zm,Array.length_toList,J]at this;rw[←this,←Array.foldl_toList,Array.toList_zipIdx]
  have hc:(decide (v.cells.size≠sz)||decide (k*sz+v.cells.size>cs.toArray.size))=false:=by simp[J];omega
  rw[if_neg (by rw[hc];simp)];have:=wW vs (k+1) (cs.take (k*sz)++v.cells.toList++cs.drop (k*sz+sz)) (λu hu=>h u (by simp[hu])) (by
   have h9:(k+1+vs.length)*sz=(k+(v::vs).length)*sz:=by congr 1;simp;omega
   have a0:(cs.take (k*sz)++v.cells.toList++cs.drop (k*sz+sz)).length=cs.length:=by simp[J];omega
   rw[h9,a0];exact hl);refine Eq.trans ?_ (this.trans ?_);·congr 1
  ·congr 2;have W:(cs.take (k*sz)++v.cells.toList).length=(k+1)*sz:=by simp[J];omega
   rw[Z3 (by omega),Z2 (by omega)];have l2:(k+1+vs.length)*sz=(k+1)*sz+vs.length*sz:=by rw[Z6]
   rw[X8,Z9 (by rw[W];omega),W,Zo,Ze];simp only[jf,Yt,Zc];congr 4;rw[←Z];omega
section
variable{δ:List Nat}{ro:Option Nat}{P:Program}{W0:Bse}{m:M}{L:List (Nat×List Value)}{TL:List (Nat×Value)}{n:Nat}{a:Act}{l:List (Nat×Value)}{w:World}{ty t t2 e:TypeId}{pos:String}{aft:Array Edge}{g:Option (Nat×Bool)}{x y:Operand}{d:Nat}{O:Type}{k:Kd O}{by_ N:Nat}
theorem AY{v:Value}{xs:List O}(h:RV (kSl k) m v xs)(w:World):(Builtin.lenOf v).run P w=.ok xs.length w:=by obtain⟨J,cap,rfl,_⟩:=mT h;simp[Builtin.lenOf]
theorem iM{i:Nat}{v u:Value}{xs ys W:List O}(h:aw δ n a l)(hS:S W0 m w L TL)(hx:evl l x=some v)(hy:evl l y=some u)(hu:P.underlying t=some (.slice e))(a0:P.underlying t2=some (.slice e))(a3:pW P e k.sz by_)(hT:TL[i]?=some (k.sz,v))(hv:RV (kSl k) m v xs)(J:RV (kSl k) m u ys)(a1:app N xs ys=some W)(hN:Yf (N*by_) 140737488355328=true) (hM:Yf N 281474976710656=true):a8 P ⟨some d,.call ⟨.builtin .append,#[x,y],#[t,t2]⟩,ty,pos,aft,g⟩ a w (λv' w'=>∃m',M.le m m'/\S W0 m' w' L (TL.set i (k.sz,v'))/\RV (kSl k) m' v' W):=by
 obtain⟨a2,rfl⟩:=AW a1;obtain⟨news,hR,hf,_⟩:=nY (P:=P) hS J;obtain⟨v',m',w',a4,h1,Z,h3⟩:=yv (tx:=t2) (ty:=ty) hS hu (.inl ⟨e,a0⟩) a3 hT hv (AY J w) hf hR (by have:=j6 by_ a2;have:=Z0 hN;omega) (by have:=Z0 hM;unfold cz;omega);have hr:ay P ⟨some d,.call ⟨.builtin .append,#[x,y],#[t,t2]⟩,ty,pos,aft,g⟩ a w v' w':=by simp[ay,execOp,resolve,invoke,builtin,h.eval hx,h.eval hy,a4]
 exact hr.step ⟨m',h1,Z,h3⟩
theorem I8{m:M}{s:List Int}(h:∀n∈s,0<=n/\n<256):Rl (aj .u8) m (s.map (Value.int .u8)) s:=by
 refine⟨by simp[aj],λi hi=>?_⟩;have J:=h s[i] (Yj hi);refine⟨?_,?_⟩
 ·simp only[aj,Nat.mul_one];rw[Yq (by simpa using hi)];simp
 ·unfold inR IntKind.wrap;simp[IntKind.bits,IntKind.signed];omega
theorem qm{n:Int}(h:0<=n/\n<256):((UInt8.ofNat n.toNat).toNat:Int)=n:=by simp[UInt8.toNat_ofNat'];omega
def prt (l:List (Nat×Value))(ps:Array (Nat×Operand)):Option (List (Nat×Value)):=ps.toList.mapM λp=>(evl l p.2).map λv=>(p.1,v)
theorem pX (J:aw δ n a l){ps:Array (Nat×Operand)}{vs:List (Nat×Value)}(h:prt l ps=some vs):(ps.map λp=>(p.1,a.eval p.2)).toList=vs:=by
 obtain⟨ps⟩:=ps;unfold prt at h;simp only at h;have:∀(ps:List (Nat×Operand)) (vs:List (Nat×Value)),(ps.mapM λp=>(evl l p.2).map λv=>(p.1,v))=some vs->ps.map (λp=>(p.1,a.eval p.2))=vs:=by
  intro ps;induction ps with
  |nil=>intro vs h;simp at h;simp[h]|cons p r ih=>intro vs h;simp only[Y3,X3,Ye]at h;cases hx:evl l p.2 with
   |none=>simp[hx]at h|some v=>cases hr:r.mapM (λp=>(evl l p.2).map λv=>(p.1,v))with
    |none=>simp[hx,hr]at h|some us=>simp[hx,hr]at h;subst h;simp[J.eval hx,ih us hr]
 simp[this ps vs h]
theorem gA{ps:Array (Nat×Operand)}{vs:List Value}{xs:List O}{z:Value}(hE:aw δ n a l)(hS:S W0 m w L TL)(hp:prt l ps=some (num 0 vs))(hu:P.underlying t=some (.slice e))(hs:∀w,(sizeOf e).run P w=.ok k.sz w)(hz:∀w,(zeroValue e).run P w=.ok z w)(hv:RVl k m vs xs){len:Nat}(b0:vs.length=len) (b1:Yf (len*k.sz) 16777216=true):a8 P ⟨some d,.buildSlice t len ps,ty,pos,aft,g⟩ a w (λv' w'=>∃m',M.le m m'/\S W0 m' w' L ((k.sz,v')::TL)/\RV (kSl k) m' v' xs):=by
 have hR:=hv.cells;have a6:=hv.length;have b4:=Z0 b1;subst b0;have a9:=k.pos;have b2:∃zs:List Value,zs.length=vs.length*k.sz/\(Instr.buildSlice t vs.length (ps.map λp=>(p.1,a.eval p.2))).run P w=.ok (.slice (some ⟨w.heap.size,0,none⟩) vs.length vs.length) (w.alloc (.cells (jf vs).toArray e)):=by
  refine⟨Zw (vs.length*k.sz) undef,by simp,?_⟩;have a5:=λ(cs:Array Value) (a2:cs.size=vs.length*k.sz)=>by have:=wW (sz:=k.sz) vs 0 cs.toList hv.size (by simp[a2]);simpa[a2,Y4,Z9 (show cs.toList.length<=vs.length*k.sz by simp[a2])]using this
  simp only[Instr.buildSlice,Sem.run_bind,run_underlying hu,Result.andThen_ok,hs,pX hE hp];rw[if_neg (by omega)];by_cases h0:vs.length*k.sz=0
  ·simp only[h0,if_true,Sem.run_bind,Sem.run_pure,Result.andThen_ok];have:=a5 ((Array.range 0).map (λx=>(#[]:Array Value)[x%(#[]:Array Value).size]!)) (by simp[h0]);rw[this];simp[newRow]
  ·simp only[h0,if_false,Sem.run_bind,hz,Sem.run_pure,Result.andThen_ok];have:=a5 ((Array.range (vs.length*k.sz)).map (λx=>z.cells[x%z.cells.size]!)) (by simp);rw[this];simp[newRow]
 obtain⟨_,_,b3⟩:=b2;have hr:ay P ⟨some d,.buildSlice t vs.length ps,ty,pos,aft,g⟩ a w (.slice (some ⟨w.heap.size,0,none⟩) vs.length vs.length) (w.alloc (.cells (jf vs).toArray e)):=by simp[ay,execOp,b3]
 obtain⟨a3,h⟩:=hS.allocM (jf vs) e;refine hr.step ⟨_,a3,?_,?_⟩
 ·refine⟨h.below,h.imm,h.own,h.nodup,λi e' W=>?_,λi j e1 e2 a1 a0 b5=>?_⟩;·cases i with
   |zero=>simp at W;subst W;exact⟨by simp,.inl rfl⟩|succ i=>exact h.tails i e' (by simpa using W)
  ·have a4:∀(i:Nat) (e':Nat×Value),TL[i]?=some e'->jU e'.2≠some w.heap.size:=λi e' W J=>by have:=zJ (hS.tails i e' W) J;omega
   intro b J Z;cases i with
   |zero=>simp at a1;subst a1;cases j with
    |zero=>omega|succ j=>simp[jU]at J;subst J;exact a4 j e2 (by simpa using a0) Z
   |succ i=>cases j with
    |zero=>simp at a0;subst a0;simp[jU]at Z;subst Z;exact a4 i e1 (by simpa using a1) J|succ j=>exact h.apart i j e1 e2 (by simpa using a1) (by simpa using a0) (by omega) b J Z
 ·rw[a6];refine fU (Z7 _) (by unfold cz;have:=Yi vs.length a9;simp at this;omega) ⟨λ_=>rfl,?_⟩;exact ql (M.put_same _ _ _) (hR.mono a3) (by simp)
def mk{O:Type}(N:Nat)(n:Int)(z:O):Option (List O):=if 0<=n/\n<=(N:Int)then some (Zw n.toNat z)else none
theorem NG{Z kc:IntKind}{i:Int}{xs:List O}{x0:O}{h:TypeInfo}{z:Value}(hE:aw δ n a l)(hS:S W0 m w L TL)(hx:evl l x=some (.int Z i))(hy:evl l y=some (.int kc i))(hu:P.underlying t=some (.slice e))(hi:P.info? e=some h)(hz:h.zero=some z)(a3:h.size=k.sz)(a4:h.bytes=by_)(a2:∀m,k.R m z.cells.toList x0)(J:mk N i x0=some xs) (hN:Yf (N*by_) 281474976710656=true) (hM:Yf N 281474976710656=true):a8 P ⟨some d,.makeSlice t x y,ty,pos,aft,g⟩ a w (λv w'=>∃b cs,v=.slice (some ⟨b,0,none⟩) xs.length xs.length/\Rl k m cs xs/\S W0 m w' ((b,cs)::L) TL):=by
 unfold mk at J;split at J
 ·rename_i h0;injection J with J;subst J;have hb:=Z0 hN;have b1:=Z0 hM;have a6:=run_make (P:=P) w t e h z hu hi hz Z kc i i h0.1 (Int.le_refl _) (by
   rw[a4];have h1:(by_:Int)*i<=by_*N:=Int.mul_le_mul_of_nonneg_left h0.2 (by omega);have h2:((N*by_:Nat):Int)=by_*N:=by rw[Int.natCast_mul,Int.mul_comm]
   omega) (by omega);have hr:ay P ⟨some d,.makeSlice t x y,ty,pos,aft,g⟩ a w (.slice (some ⟨w.heap.size,0,none⟩) i.toNat i.toNat) (w.alloc (.cells (madeCells z.cells (i.toNat*h.size)) e)):=by simp[ay,execOp,hE.eval hx,hE.eval hy,a6]
  have a0:=k.len (a2 m);have a9:=k.pos;have a5:∀q:Nat,Rl k m (madeCells z.cells (q*k.sz)).toList (Zw q x0):=λq=>by
   refine⟨by simp[madeCells],λj hj=>?_⟩;simp only[Yx];have b0:j<q:=by simpa using hj
   have e1:((madeCells z.cells (q*k.sz)).toList.drop (j*k.sz)).take k.sz=z.cells.toList:=by
    apply Yu;intro r;rw[Zx,Zu];have h2:j*k.sz+k.sz<=q*k.sz:=by have:=j6 k.sz (show j+1<=q by omega);rw[Z6]at this;omega
    by_cases hr':r<k.sz
    ·rw[if_pos hr'];have W:z.cells.size=k.sz:=by simpa using a0
     have h3:(j*k.sz+r)%k.sz=r:=by rw[Nat.mul_comm,Nat.mul_add_mod];exact Yv hr'
     have h4:j*k.sz+r<q*k.sz:=by omega
     have a1:r<z.cells.size:=by omega
     have h5:z.cells[r]! =z.cells[r]:=getElem!_pos z.cells r a1;simp[madeCells,h4,W,h3,h5,Array.getElem?_eq_getElem a1]
    ·rw[if_neg hr'];have W:z.cells.toList.length=k.sz:=a0;rw[Yg (by omega)]
   rw[e1];exact a2 m
  refine hr.step ⟨w.heap.size,_,by simp,a5 i.toNat,?_⟩;have:=hS.allocL (madeCells z.cells (i.toNat*k.sz)).toList e;rw[a3];simpa using this
 ·cases J
theorem NH{v:Value}{xs:List Int}(hE:aw δ n a l)(hS:S W0 m w L TL)(hx:evl l x=some v)(hs:P.underlying t=some (.slice e))(he:P.underlying e=some (.int .u8))(W:P.underlying t2=some .string)(hv:RV (kSl (aj .u8)) m v xs):ay P ⟨some d,.convert t t2 x,ty,pos,aft,g⟩ a w (.string (bts xs)) w:=by obtain⟨ad,cap,rfl,h3,h4,h5⟩:=mT hv;cases ad with
 |none=>
  simp only at h5;have:xs=[]:=Z1 (by omega);subst this;have h:=run_convert_bytes_nil (P:=P) w t e hs he ([]:List Int).length cap t2 W;simp only[ay,execOp,hE.eval hx,Sem.run_bind,h];rfl|some ad=>
  obtain⟨b,o,sp⟩:=ad;obtain⟨J,hR⟩:=h5;rcases Za cap with hc0|hc0
  ·have:xs=[]:=Z1 (by omega);subst this;have h:(convert t t2 (.slice (some ⟨b,o,sp⟩) 0 cap)).run P w=.ok (.string (bts [])) w:=by
    rw[run_convert_bytes_string w t t2 e _ 0 cap hs he W];simp[Conv.bytesToString,loadCells,loadCellsFrom];rfl
   simp only[ay,execOp,hE.eval hx,Sem.run_bind,X5,h];rfl
  replace J:=J hc0;simp only at J;subst J;have a0:∀i,i<xs.length->w.cell? ⟨b,o+i,none⟩=some (.int .u8 (xs.getD i 0)):=λi hi=>by have Z:=hR i hi;simp only[aj,Nat.mul_one]at Z;have hA:=hS.atM (b:=b) (o:=o+i) (sz:=1) (by rw[Z.1];rfl) (by decide);rw[Z.1]at hA;have:=hA.cell (j:=0) rfl;simpa[List.getD,Zf hi]using this
  have h:=run_convert_bytes_arg (P:=P) w t e hs he b o xs.length cap xs rfl a0 t2 W;simp only[ay,execOp,hE.eval hx,Sem.run_bind,h];rfl
theorem zN{s u:List Int}(W:∀n∈s,0<=n/\n<256)(Z:∀n∈u,0<=n/\n<256):((bts s).toList==(bts u).toList)=decide (s=u):=by
 rw[ByteArray.toList_eq,ByteArray.toList_eq];show(s.map (λn=>UInt8.ofNat n.toNat)==u.map (λn=>UInt8.ofNat n.toNat))=_;rw[Bool.eq_iff_iff,beq_iff_eq,decide_eq_true_iff];constructor
 ·intro h;have J:=congrArg (List.map λc:UInt8=>(c.toNat:Int)) h;simp only[Yn]at J;have key:∀s:List Int,(∀n∈s,0<=n/\n<256)->s.map ((λc:UInt8=>(c.toNat:Int))∘λn=>UInt8.ofNat n.toNat)=s:=λs W=>by
   conv=>rhs;rw[←List.map_id s]
   exact X6 λn hn=>qm (W n hn)
  rw[key s W,key u Z]at J;exact J
 ·intro h;rw[h]
theorem Pi{s u:List Int}(h:aw δ n a l)(W:evl l x=some (.string (bts s)))(hy:evl l y=some (.string (bts u)))(Z:∀n∈s,0<=n/\n<256)(J:∀n∈u,0<=n/\n<256):ay P ⟨some d,.binOp .eql t x y t2,ty,pos,aft,g⟩ a w (.bool (decide (s=u))) w:=by simp[ay,execOp,h.eval W,h.eval hy,eqGuard_at_string,binOp_string_eql,←zN Z J]
theorem Pj{s u:List Int}(h:aw δ n a l)(W:evl l x=some (.string (bts s)))(hy:evl l y=some (.string (bts u)))(Z:∀n∈s,0<=n/\n<256)(J:∀n∈u,0<=n/\n<256):ay P ⟨some d,.binOp .neq t x y t2,ty,pos,aft,g⟩ a w (.bool (!decide (s=u))) w:=by simp[ay,execOp,h.eval W,h.eval hy,eqGuard_at_string,binOp_string_neq,←zN Z J]
def ltB:List Int->List Int->Bool
 |_,[]=>false|[],_::_=>true|a::x,b::y=>decide (a<b)||(a==b&&ltB x y)
theorem NJ:∀{s u:List Int},(∀n∈s,0<=n/\n<256)->(∀n∈u,0<=n/\n<256)->Op.bytesLess (bts s).toList (bts u).toList=ltB s u:=by
 intro s u hs hu;rw[ByteArray.toList_eq,ByteArray.toList_eq];show Op.bytesLess (s.map (λn=>UInt8.ofNat n.toNat)) (u.map (λn=>UInt8.ofNat n.toNat))=_;induction s generalizing u with
 |nil=>cases u<;>simp[Op.bytesLess,ltB]|cons a x ih=>cases u with
  |nil=>simp[Op.bytesLess,ltB]|cons b y=>
   have Z:=hs a (by simp);have W:=hu b (by simp);have a0:=ih (u:=y) (λn J=>hs n (by simp[J])) (λn J=>hu n (by simp[J]));simp only[Y0,Op.bytesLess,ltB,a0];have h1:decide (UInt8.ofNat a.toNat<UInt8.ofNat b.toNat)=decide (a<b):=by rw[decide_eq_decide,UInt8.lt_iff_toNat_lt];have e1:=qm Z;have e2:=qm W;omega
   have h2:(UInt8.ofNat a.toNat==UInt8.ofNat b.toNat)=(a==b):=by
    rw[Bool.eq_iff_iff,beq_iff_eq,beq_iff_eq];constructor
    ·intro h;have:=congrArg (λc:UInt8=>(c.toNat:Int)) h;simp only[qm Z,qm W]at this;exact this
    ·intro h;rw[h]
   rw[h1,h2]
theorem Pk{s u:List Int}(h:aw δ n a l)(W:evl l x=some (.string (bts s)))(hy:evl l y=some (.string (bts u)))(Z:∀n∈s,0<=n/\n<256)(J:∀n∈u,0<=n/\n<256):ay P ⟨some d,.binOp .lss t x y t2,ty,pos,aft,g⟩ a w (.bool (ltB s u)) w:=by simp[ay,execOp,h.eval W,h.eval hy,eqGuard_at_string,binOp_string_lss,NJ Z J]
theorem aT{f:FuncId}{xs:Array Operand}{J:Array TypeId}{vs:List Value}{R:Value->World->Prop}(hE:aw δ n a l)(ha:vq l xs=some vs)(a0:∀vs w,(callFunc f vs).run P w=.ok (.enter f vs) w)(hc:Calls P f vs.toArray w (Ret R)):a8 P ⟨some d,.call ⟨.value (.func f),xs,J⟩,ty,pos,aft,g⟩ a w R:=by
 intro ro Kk Q Z;have W:(execOp a.eval ⟨some d,.call ⟨.value (.func f),xs,J⟩,ty,pos,aft,g⟩).run P w=.ok (.enter f vs.toArray) w:=by simp[execOp,resolve,Act.eval,Deferred.ofValue,invoke,gU hE ha,a0]
 refine uO W (hc.mono λe w' h=>?_);cases e with
 |returned v=>exact Z v w' h|panicked ch=>exact h.elim|outgrown=>exact h.elim
end
open Go.RowKit (Below)
inductive tR (P:Program)(a:Act)(w:World):List ResultVar->List Value->Prop|nil:tR P a w [] []|cons{r:ResultVar}{rs:List ResultVar}{v:Value}{vs:List Value}(h:(match r with|.tmp t=>(pure (a.tmps.getD t undef):Sem Value)|.cell b t=>do loadVar t (←asAddr (a.tmps.getD b undef))).run P w=.ok v w) (k:tR P a w rs vs):tR P a w (r::rs) (v::vs)
section
variable{δ:List Nat}{ro:Option Nat}{P:Program}{W0:Bse}{m:M}{L:List (Nat×List Value)}{TL:List (Nat×Value)}{n:Nat}{a:Act}{l:List (Nat×Value)}{w:World}
theorem tR.tmp{t:Nat}{rs:List ResultVar}{v:Value}{vs:List Value}(J:aw δ n a l)(h:lk l t=some v)(k:tR P a w rs vs):tR P a w (.tmp t::rs) (v::vs):=.cons (by simp only;rw[J.at_ t v h];rfl) k
theorem tR.cell{O:Type}{k:Kd O}{b c t i o:Nat}{cs:List Value}{xx:O}{rs:List ResultVar}{vs:List Value}(W:aw δ n a l)(hS:S W0 m w L TL)(hT:dz P t k)(h:lk l c=some (.pointer (some ⟨b,o,none⟩)))(hL:L[i]?=some (b,cs))(J:k.R m ((cs.drop o).take k.sz) xx)(Z:tR P a w rs vs):tR P a w (.cell c t::rs) (k.val ((cs.drop o).take k.sz)::vs):=.cons (by
 have hA:At w b o ((cs.drop o).take k.sz):=hS.atL hL (by rw[k.len J]) (by rw[k.len J];exact k.pos);simp only;rw[W.at_ c _ h];simp[asAddr,jE hT J hA]) Z
theorem EW (rs:List ResultVar)(vs:List Value)(h:tR P a w rs vs):∀(f:ResultVar->Sem Value),(∀r,f r=(match r with|.tmp t=>(pure (a.tmps.getD t undef):Sem Value)|.cell b t=>do loadVar t (←asAddr (a.tmps.getD b undef))))->(rs.mapM f).run P w=.ok vs w:=by
 intro f J;induction h with
 |nil=>simp|cons h1 _ ih=>rw[←J]at h1;simp[Y3,h1,ih]
theorem Fin.mk{fn:Func}{rs:List ResultVar}{vs:List Value}{R:Value->World->Prop}(W:Env n a l)(J:fn.results.toList=rs)(h:tR P a w rs vs)(Z:R (tup vs) w):Fin P fn R a w:=by
 refine⟨_,?_,W.defers,Z⟩;unfold results;rw[Array.mapM_eq_mapM_toList];simp only[Sem.run_bind,Sem.run_map];rw[J,EW rs vs h _ (λr=>by cases r<;>rfl)];simp only[Result.andThen_ok,Sem.run_pure];congr 1;match vs with
 |[]=>rfl|[v]=>rfl|v::u::r=>simp[tup]
theorem aF{k:IntKind}{v:Value}{x:Int}(h:RV (aj k) m v x):v=.int k x/\inR k x:=by obtain⟨cs,⟨rfl,J⟩,rfl⟩:=h;exact⟨rfl,J⟩
theorem fg{v:Value}{x:Bool}(h:RV cS m v x):v=.bool x:=by
 obtain⟨cs,rfl,rfl⟩:=h;rfl
theorem EX{v:Value}{x:List Int}(h:RV sP m v x):v=.string (bts x)/\(∀n∈x,0<=n/\n<256)/\x.length<=cz:=by obtain⟨cs,⟨rfl,J⟩,rfl⟩:=h;exact⟨rfl,J⟩
theorem ax{k:IntKind}{x:Int}(h:inR k x):RV (aj k) m (.int k x) x:=⟨_,⟨rfl,h⟩,rfl⟩
theorem dA{x:Bool}:RV cS m (.bool x) x:=⟨_,rfl,rfl⟩
theorem Dx{x:List Int}(h:∀n∈x,0<=n/\n<256)(J:x.length<=cz):RV sP m (.string (bts x)) x:=⟨_,⟨rfl,h,J⟩,rfl⟩
theorem dK{O:Type}{k:Kd O}:RV (kSl k) m (.slice none 0 0) []:=fU (a:=none) (by simp) (by simp) rfl
theorem vZ{O:Type}{k:Kd O}{cs:List Value}{x:O}(h:k.R m cs x):RV k m (k.val cs) x:=⟨cs,h,rfl⟩
theorem K5{v:Value}{xs:List Int}(h:RV (kSl (aj .u8)) m v xs):∀n∈xs,0<=n/\n<256:=by obtain⟨J,cap,rfl,h3,h4,W⟩:=mT h;intro n Z;obtain⟨i,hi,rfl⟩:=List.mem_iff_getElem.1 Z;cases J with
 |none=>simp only at W;omega|some J=>have:=(W.2 i hi).2;unfold inR IntKind.wrap at this;simp[IntKind.bits,IntKind.signed]at this;omega
theorem jg{O:Type}{k:Kd O}{v:Value}{xs:List O}(h:RV (kSl k) m v xs):xs.length<=cz:=by obtain⟨W,cap,rfl,h3,J,Z⟩:=mT h;exact J
def Sub (l:List (Nat×Value)):List (Nat×Value)->Prop
 |[]=>True|(i,v)::r=>lk l i=some v/\Sub l r
theorem Sub.all:∀{l J:List (Nat×Value)},Sub l J->∀e∈J,lk l e.1=some e.2
 |_,[],_,e,h=>by simp at h|l,(i,v)::r,h,e,he=>by
   rcases List.mem_cons.1 he with rfl|he;·exact h.1
   ·exact Sub.all h.2 e he
def bm (o:Oper):List Nat:=(o.after.toList.filter λe=>Region.binds .any e).map (·.on)
def cw (ops:Array Oper)(i:Nat):Option Nat:=(ops[i]?).bind (·.dst)
def nZ (os:List Oper):Bool:=os.zipIdx.all λp=>(bm p.1).all λe=>Zy e p.2
theorem kg{os:List Oper}(h:nZ os=true){i:Nat}{o:Oper}(hi:os[i]?=some o):∀e∈bm o,e<i:=by intro e W;have J:=Z8.1 h (o,i) (by rw[Zt];simp[hi]);exact Z0 (Z8.1 J e W)
theorem WG{os:List Oper}{a0:Array Bool}{i:Nat}:i∈Region.ready .any os.toArray a0↔∃o,os[i]?=some o/\a0.getD i true=false/\∀e∈bm o,a0.getD e false=true:=by
 unfold Region.ready;simp only[Yd,List.mem_range,List.size_toArray,Zj,Zs];constructor
 ·rintro⟨h1,h2,J⟩;obtain⟨o,W⟩:∃o,os[i]?=some o:=⟨os[i],by simp[h1]⟩;refine⟨o,W,h2,λe he=>?_⟩;simp only[Y1,W,Zn,Option.getD_some]at J;rw[Array.all_eq_true_iff_forall_mem]at J;unfold bm at he;simp only[List.mem_map,Yd,Array.mem_toList_iff]at he;obtain⟨h,⟨hm,Z⟩,rfl⟩:=he;have:=J h hm;simpa[Z]using this
 ·rintro⟨o,W,h2,J⟩;refine⟨(zx.1 W).1,h2,?_⟩;simp only[Y1,W,Zn,Option.getD_some];rw[Array.all_eq_true_iff_forall_mem];intro h hm;cases Z:Region.binds .any h with
   |false=>simp|true=>have:=J h.on (by unfold bm;simp only[List.mem_map,Yd,Array.mem_toList_iff];exact⟨h,⟨hm,Z⟩,rfl⟩);simp[this]
def cov (os:List Oper):Nat->List Nat->List Nat
 |0,js=>js|f+1,js=>js++cov os f (js.flatMap λj=>match os[j]?with|some o=>bm o|none=>[])
def o5 (os:List Oper)(k:Nat):Bool:=(match os[k]?with|some o=>(let c:=cov os 12 (bm o);(Zg k).all λj=>c.any λe=>Ya j e)|none=>true)&&(os.zipIdx.all λp=>Yf p.2 k||(bm p.1).any λe=>Ya (e+1) p.2)
def upd (s:Nat->Bool)(i:Nat):Nat->Bool:=λj=>if j=i then true else s j
theorem EY{os:List Oper}{id k:Nat}{N Rt:Act->World->Prop}{X:List (Nat×(Act->World->Prop))}(hm:P.follows .mixedOrders=true) (b7:nZ os=true) (a9:o5 os k=true) (J:(Nat->Bool)->Act->World->Prop)(h0:J (λ_=>false) a w.drew)(step:∀(i:Nat) (o:Oper),os[i]?=some o->i<k->∀s a w,J s a w->s i=false->(∀e∈bm o,s e=true)->(∀(j:Nat) (o':Oper),os[j]?=some o'->s j=true->∀e∈bm o',s e=true)->if Region.wanted o (yielded os.toArray a.tmps)=true then a8 P o a w (λv w'=>J (upd s i) (a.put o.dst v) w')else J (upd s i) (a.put o.dst undef) w)(c0:∀s a w,J s a w->(∀j,j<k->j<os.length->s j=true)->wpL ro P os.toArray (mkQ N X Rt) (os.drop k) a w):K ro P (.region id os.toArray true) N X Rt a w:=by
 refine wpIn_region_any hm ?_;unfold o5 at a9;rw[Zj]at a9;have c1:∀(s:Nat->Bool),(∀(j:Nat) (o':Oper),os[j]?=some o'->s j=true->∀e∈bm o',s e=true)->∀f js,(∀e∈js,s e=true)->∀e∈cov os f js,s e=true:=by
  intro s hc f;induction f with
  |zero=>exactλjs h=>h|succ f ih=>
    intro js h e he;rcases List.mem_append.1 he with he|he;·exact h e he
    ·refine ih _ (λe' d2=>?_) e he;obtain⟨j,Z,a1⟩:=List.mem_flatMap.1 d2;cases ho:os[j]?with
      |none=>simp[ho]at a1|some o'=>simp[ho]at a1;exact hc j o' ho (h j Z) e' a1
 have a4:∀(W:Array Bool),W.size=os.length->∀j,j<os.length->W.getD j true=W.getD j false:=λW a0 j Z=>by simp[Array.getD,show j<W.size by omega]
 have get:∀(W:Array Bool)i j q,i<W.size->(W.setIfInBounds i true).getD j q=if j=i then true else W.getD j q:=λW i j q hi=>by
  simp only[Array.getD_eq_getD_getElem?,Array.getElem?_setIfInBounds];by_cases e:i=j;·subst e;simp[hi]
  ·simp[e,show¬j=i fromλx=>e x.symm]
 have c3:∀(s:Nat->Bool)i o,os[i]?=some o->(∀e∈bm o,s e=true)->(∀(j:Nat) (o':Oper),os[j]?=some o'->s j=true->∀e∈bm o',s e=true)->(∀(j:Nat) (o':Oper),os[j]?=some o'->upd s i j=true->∀e∈bm o',upd s i e=true):=by
  intro s i o ho hp hc j o' Z hs e he;unfold upd at*;by_cases e1:e=i;·simp[e1]
  · rw[if_neg e1];by_cases e2:j=i;·subst e2;rw[ho]at Z;injection Z with Z;subst Z;exact hp e he
    ·rw[if_neg e2]at hs;exact hc j o' Z hs e he
 have e6:∀(a2 i:Nat) (W:Array Bool) (a:Act) (w:World),W.size=os.length->k<=i->i+a2=os.length->(∀j,j<i->j<os.length->W.getD j false=true)->(∀j,i<=j->W.getD j false=false)->wpL ro P os.toArray (mkQ N X Rt) (os.drop i) a w->wpAnyIn (Fr ro) 0 P .any os.toArray (mkQ N X Rt) a2 W a w:=by
  intro a2;induction a2 with
  |zero=>
    intro i W a w a0 e7 c7 a6 b3 h;refine⟨?_,?_⟩
    ·rw[Zz];intro j Z;obtain⟨o,ho,h1,_⟩:=WG.1 Z;have a3:=(zx.1 ho).1;rw[a4 W a0 j a3,a6 j (by omega) a3]at h1;cases h1
    ·rw[Z9 (by omega)]at h;exact h|succ a2 ih=>
    intro i W a w a0 e7 c7 a6 b3 h;have hi:i<os.length:=by omega
    have hr:∀j,j∈Region.ready .any os.toArray W->j=i:=by
     intro j Z;obtain⟨o,ho,h1,h2⟩:=WG.1 Z;have a3:=(zx.1 ho).1;rw[a4 W a0 j a3]at h1;rcases Nat.lt_trichotomy j i with hji|hji|hji;·rw[a6 j hji a3]at h1;cases h1
     ·exact hji
     · exfalso;have h3:=Z8.1 a9.2 (o,j) (by rw[Zt];simp[ho]);simp only[X7]at h3;rcases h3 with h3|h3;·have:=Z0 h3;omega
       ·obtain⟨e,he,hb⟩:=Yk.1 h3;have b6:=Z4 hb;have:=h2 e he;rw[b3 e (by omega)]at this;cases this
    have b4:os[i]?=some os[i]:=by simp[hi]
    have b1:i∈Region.ready .any os.toArray W:=WG.2 ⟨os[i],b4,by rw[a4 W a0 i hi];exact b3 i (Z7 _),λe he=>by
     have:=kg b7 b4 e he;exact a6 e this (by omega)⟩;refine⟨λb5=>by rw[b5]at b1;simp at b1,λj Z=>?_⟩;have:=hr j Z;subst this;have c5:(W.setIfInBounds j true).size=os.length:=by simpa using a0
    rw[Yq hi]at h;unfold wpL wpListIn at h;unfold wpOpIn;simp only[Y1,b4];have next:∀a w,wpL ro P os.toArray (mkQ N X Rt) (os.drop (j+1)) a w->wpAnyIn (Fr ro) 0 P .any os.toArray (mkQ N X Rt) a2 (W.setIfInBounds j true) a w:=λa w hh=>ih (j+1) _ a w c5 (by omega) (by omega) (λq hq d1=>by rw[get _ _ _ _ (by omega)];split;rfl;exact a6 q (by omega) d1) (λq hq=>by rw[get _ _ _ _ (by omega)];rw[if_neg (by omega)];exact b3 q (by omega)) hh;split
    ·rename_i hw;rw[if_pos hw]at h;exact Oper.wpIn_mono next h
    ·rename_i hw;rw[if_neg hw]at h;exact⟨λ_ _=>trivial,next _ _ h.2⟩
 have key:∀(a2:Nat) (W:Array Bool) (a:Act) (w:World),W.size=os.length->J (λj=>W.getD j false) a w->(∀(j:Nat) (o':Oper),os[j]?=some o'->W.getD j false=true->∀e∈bm o',W.getD e false=true)->(∀j,k<=j->W.getD j false=false)->((Zg os.length).filter (λj=>!W.getD j true)).length=a2->wpAnyIn (Fr ro) 0 P .any os.toArray (mkQ N X Rt) a2 W a w:=by
  intro a2;induction a2 with
  |zero=>
    intro W a w a0 hJ hc hk a5;have all:∀j,j<os.length->W.getD j false=true:=by intro j Z;have h0:=Z1 a5;have:=Zz.1 h0 j;simp only[Yd,List.mem_range,Zs,not_and]at this;have:=this Z;rw[a4 W a0 j Z]at this;simpa using this
    have e5:os.length<=k:=by
     rcases Y7 k os.length with h|h;·have:=all k h;rw[hk k (Z7 _)]at this;cases this
     ·exact h
    have:=c0 _ a w hJ (λj _ Z=>all j Z);rw[Z9 e5]at this;refine⟨?_,this⟩;rw[Zz];intro j Z;obtain⟨o,ho,h1,_⟩:=WG.1 Z;have a3:=(zx.1 ho).1;rw[a4 W a0 j a3,all j a3]at h1;cases h1|succ a2   ih=>
    intro W a w a0 hJ hc hk a5;by_cases hpre:∀j,j<k->j<os.length->W.getD j false=true
    · have hf:=c0 _ a w hJ hpre;have e8:k<os.length:=by
       rcases Y7 k os.length with h|h;·exact h
       · exfalso;have:(Zg os.length).filter (λj=>!W.getD j true)=[]:=by
          rw[Yy];intro j Z;have a1:j<os.length:=by simpa using Z
          rw[a4 W a0 j a1,hpre j (by omega) a1];simp
         rw[this]at a5;simp at a5
      have e9:a2+1=os.length-k:=by
       have e1:(Zg os.length).filter (λj=>!W.getD j true)=(Yl k (os.length-k)):=by
        have e2:Zg os.length=Yl 0 k++Yl k (os.length-k):=by rw[List.range_eq_range'];have:=List.range'_append (s:=0) (m:=k) (n:=os.length-k) (step:=1);simp only[Nat.one_mul,Y8]at this;rw[this];congr 1;omega
        rw[e2,List.filter_append];have e3:(Yl 0 k).filter (λj=>!W.getD j true)=[]:=by
         rw[Yy];intro j Z;have a1:j<k:=by simpa[List.mem_range']using Z
         rw[a4 W a0 j (by omega),hpre j a1 (by omega)];simp
        have e4:(Yl k (os.length-k)).filter (λj=>!W.getD j true)=Yl k (os.length-k):=by
         rw[List.filter_eq_self];intro j Z;have a1:k<=j/\j<os.length:=by have:=List.mem_range'.1 Z;obtain⟨q,hq,rfl⟩:=this;omega
         rw[a4 W a0 j a1.2,hk j a1.1];rfl
        rw[e3,e4,Zo]
       rw[e1]at a5;simpa using a5.symm
      exact e6 (a2+1) k W a w a0 (Z7 _) (by omega) (λj Z a1=>hpre j Z a1) hk hf
    · have c4:∀i,i∈Region.ready .any os.toArray W->i<k:=by
       intro i hi;obtain⟨o,ho,h1,h2⟩:=WG.1 hi;have a3:=(zx.1 ho).1;rcases Y7 i k with h|h;·exact h
       · exfalso;rcases Nat.lt_or_eq_of_le h with h|h
         · have h3:=Z8.1 a9.2 (o,i) (by rw[Zt];simp[ho]);simp only[X7]at h3;rcases h3 with h3|h3;·have:=Z0 h3;omega
           ·obtain⟨e,he,hb⟩:=Yk.1 h3;have b6:=Z4 hb;have:=h2 e he;rw[hk e (by omega)]at this;cases this
         ·subst h;have h3:=a9.1;rw[ho]at h3;simp only at h3;exact hpre λj Z a1=>by have:=Z8.1 h3 j (by simpa using Z);obtain⟨e,he,hb⟩:=Yk.1 this;have b6:=Z4 hb;subst b6;exact c1 (λj=>W.getD j false) hc 12 _ h2 j he
      have e0:Region.ready .any os.toArray W≠[]:=by
       intro b5;apply hpre;intro j;induction j using Nat.strongRecOn with|_ j ihj=>intro Z a1;cases hb:W.getD j false with
        |true=>rfl|false=>
          exfalso;have:j∈Region.ready .any os.toArray W:=WG.2 ⟨os[j],by simp[a1],by rw[a4 W a0 j a1];exact hb,λe he=>by
           have:=kg b7 (i:=j) (o:=os[j]) (by simp[a1]) e he;exact ihj e this (by omega) (by omega)⟩;rw[b5]at this;simp at this
      refine⟨λh=>absurd h e0,λi hi=>?_⟩;obtain⟨o,ho,h1,h2⟩:=WG.1 hi;have a3:=(zx.1 ho).1;have c6:=c4 i hi;rw[a4 W a0 i a3]at h1;have b0:=step i o ho c6 _ a w hJ h1 h2 hc;have d0:(W.setIfInBounds i true).size=os.length:=by simpa using a0
      have hu:(λj=>(W.setIfInBounds i true).getD j false)=upd (λj=>W.getD j false) i:=by
       funext j;rw[get _ _ _ _ (by omega)];rfl
      have c2:((Zg os.length).filter (λj=>!(W.setIfInBounds i true).getD j true)).length=a2:=by
       have e1:(Zg os.length).filter (λj=>!(W.setIfInBounds i true).getD j true)=((Zg os.length).filter (λj=>!W.getD j true)).erase i:=by
        rw[List.Nodup.erase_eq_filter ((List.nodup_range).filter _),List.filter_filter];apply List.filter_congr;intro j Z;rw[get _ _ _ _ (by omega)];by_cases e:j=i<;>simp[e]
       have b1:i∈(Zg os.length).filter (λj=>!W.getD j true):=by simp only[Yd,List.mem_range,Zs];exact⟨a3,by rw[a4 W a0 i a3];exact h1⟩
       rw[e1,List.length_erase_of_mem b1,a5];rfl
      have next:∀a w,J (upd (λj=>W.getD j false) i) a w->wpAnyIn (Fr ro) 0 P .any os.toArray (mkQ N X Rt) a2 (W.setIfInBounds i true) a w:=λa w hh=>ih _ a w d0 (by rw[hu];exact hh) (by
       have:=c3 _ i o ho h2 hc;rw[←hu]at this;exact this) (λj Z=>by rw[get _ _ _ _ (by omega)];rw[if_neg (by omega)];exact hk j Z) c2;unfold wpOpIn;simp only[Y1,ho];split
      ·rename_i hw;rw[if_pos hw]at b0;exact b0 _ _ _ λv w' hh=>next _ _ hh
      ·rename_i hw;rw[if_neg hw]at b0;exact⟨λ_ _=>trivial,next _ _ b0⟩
 have b2:∀j q,(Array.replicate os.toArray.size false).getD j q=if j<os.length then false else q:=λj q=>by simp[Array.getD]
 refine key _ _ a _ (by simp) ?_ (λj o' ho Z=>by rw[b2]at Z;split at Z<;>cases Z) (λj Z=>by rw[b2];split<;>rfl) ?_
 · have:(λj=>(Array.replicate os.toArray.size false).getD j false)=λ_=>false:=by funext j;rw[b2];split<;>rfl
   rw[this];exact h0
 · rw[List.filter_eq_self.2];·simp
   ·intro j Z;rw[b2,if_pos (by simpa using Z)];rfl
end
open Go.RowKit (Below)
section
variable{δ:List Nat}{ro:Option Nat}{O β γ:Type}{m:M}
theorem jF{k:Kd O}:Fld k k 0 id:=⟨by omega,λm cs x h=>aL h⟩
theorem dG{d:Kd O}{e:Kd β}:Fld (cM d e) d 0 Prod.fst:=⟨by show 0+d.sz<=d.sz+e.sz;omega,λm cs x h=>by rw[Zq];exact h.1⟩
theorem bn{d:Kd O}{e:Kd β}{k':Kd γ}{off:Nat}{f:β->γ}(h:Fld e k' off f):Fld (cM d e) k' (d.sz+off) (λx=>f x.2):=⟨by show d.sz+off+k'.sz<=d.sz+e.sz;have:=h.1;omega,λm cs x J=>by
 have:=h.2 m _ _ J.2;rw[Ze]at this;exact this⟩
theorem b9{g:β->O}{d:Kd O}{k':Kd γ}{off:Nat}{f:O->γ}(h:Fld d k' off f):Fld (qx g d) k' off (λx=>f (g x)):=⟨h.1,λm cs x J=>h.2 m cs (g x) J⟩
theorem I9{k:Kd O}{k':Kd β}{W:Kd γ}{o o':Nat}{f:O->β}{g:β->γ}(h:Fld k k' o f)(J:Fld k' W o' g):Fld k W (o+o') (λx=>g (f x)):=⟨by have:=h.1;have:=J.1;omega,λm cs x Z=>J.R_drop (h.2 m cs x Z)⟩
def StF (k:Kd O)(k':Kd β)(off:Nat)(s:O->β->O):Prop:=off+k'.sz<=k.sz/\∀m cs vs x y,k.R m cs x->k'.R m vs y->k.R m (cs.take off++vs++cs.drop (off+k'.sz)) (s x y)
theorem bT{k:Kd O}:StF k k 0 (λ_ y=>y):=⟨by omega,λm cs vs x y J h=>by
 have W:=k.len J;rw[Y4,Zo,Z9 (by omega),List.append_nil];exact h⟩
theorem dQ{d:Kd O}{e:Kd β}:StF (cM d e) d 0 (λx y=>(y,x.2)):=⟨by show 0+d.sz<=d.sz+e.sz;omega,λm cs vs x y J h=>by
 have W:=d.len h;have Z:=(cM d e).len J;refine⟨?_,?_⟩
 ·simp only[Y4,Zo];rw[Z3 (by omega),Z2 (by omega)];exact h
 ·simp only[Y4,Zo,Y8];rw[X8,Z9 (by omega),Zo,W,Nat.sub_self,Zq];exact J.2⟩
theorem bd{d:Kd O}{e:Kd β}{k':Kd γ}{off:Nat}{s:β->γ->β}(h:StF e k' off s):StF (cM d e) k' (d.sz+off) (λx y=>(x.1,s x.2 y)):=⟨by show d.sz+off+k'.sz<=d.sz+e.sz;have:=h.1;omega,λm cs vs x y J W=>by
 have h2:=(cM d e).len J;have a0:(cM d e).sz=d.sz+e.sz:=rfl;have Z:=h.1;have key:=h.2 m _ vs _ y J.2 W;refine⟨?_,?_⟩
 ·have:(cs.take (d.sz+off)++vs++cs.drop (d.sz+off+k'.sz)).take d.sz=cs.take d.sz:=by rw[Zc,Z3 (by simp;omega),Zb,Z5 (by omega)]
  rw[this];exact J.1
 ·have:(cs.take (d.sz+off)++vs++cs.drop (d.sz+off+k'.sz)).drop d.sz=(cs.drop d.sz).take off++vs++(cs.drop d.sz).drop (off+k'.sz):=by rw[Zc,Zk (by simp;omega),Zd,show d.sz+off-d.sz=off by omega,Ze,Zc];congr 3;omega
  rw[this];exact key⟩
theorem cc{g:β->O}{d:Kd O}{k':Kd γ}{off:Nat}{s:O->γ->O}{s':β->γ->β}(h:StF d k' off s)(W:∀x y,g (s' x y)=s (g x) y):StF (qx g d) k' off s':=⟨h.1,λm cs vs x y Z J=>by
 show d.R m _ (g (s' x y));rw[W];exact h.2 m cs vs (g x) y Z J⟩
theorem EZ{k:Kd O}{k':Kd β}{J:Kd γ}{o o':Nat}{f:O->β}{s:O->β->O}{s':β->γ->β}(hf:Fld k k' o f)(h:StF k k' o s)(W:StF k' J o' s'):StF k J (o+o') (λx y=>s x (s' (f x) y)):=⟨by have:=h.1;have:=W.1;omega,λm cs vs x y Z hy=>by
 have h1:=W.2 m _ vs _ y (hf.2 m cs x Z) hy;have h2:=h.2 m cs _ x _ Z h1;have hl:=k.len Z;have hb:=hf.1;have a0:=W.1;have e1:cs.take o++(((cs.drop o).take k'.sz).take o'++vs++((cs.drop o).take k'.sz).drop (o'+J.sz))++cs.drop (o+k'.sz)=cs.take (o+o')++vs++cs.drop (o+o'+J.sz):=by
  rw[Zb,Z5 (by omega),Zd,Ze];have e2:cs.take (o+o')=cs.take o++(cs.drop o).take o':=by rw[List.take_add]
  have e3:cs.drop (o+(o'+J.sz))=(cs.drop (o+(o'+J.sz))).take (k'.sz-(o'+J.sz))++cs.drop (o+k'.sz):=by
   conv=>lhs;rw[←Zh (k'.sz-(o'+J.sz)) (cs.drop (o+(o'+J.sz)))]
   rw[Ze];congr 2;omega
  rw[e2,show o+o'+J.sz=o+(o'+J.sz)by omega];conv=>rhs;rw[e3]
  simp only[Zc]
 rw[e1]at h2;exact h2⟩
inductive wX (places:Nat->Option (Nat×Nat))(k:Kd O)(m:M):List (Nat×Value)->O->O->Prop|nil{x:O}:wX places k m [] x x|cons{β:Type}{k':Kd β}{i off:Nat}{v:Value}{ps:List (Nat×Value)}{s:O->β->O}{x z:O}{y:β}(hp:places i=some (off,k'.sz)) (hs:StF k k' off s) (hv:RV k' m v y) (rest:wX places k m ps (s x y) z):wX places k m ((i,v)::ps) x z
theorem wX.fill{Z:Nat->Option (Nat×Nat)}{k:Kd O}{ps:List (Nat×Value)}{x z:O}(h:wX Z k m ps x z):∀cs:List Value,k.R m cs x->∃cs':List Value,Instr.fill Z cs.toArray ps=some cs'.toArray/\k.R m cs' z:=by induction h with
 |nil=>exactλcs J=>⟨cs,rfl,J⟩|@cons β k' i off v ps s x z y hp hs hv _ ih=>
  intro cs J;obtain⟨vs,W,rfl⟩:=hv;have hl:=k'.len W;have a1:=k.len J;have a0:=hs.1;obtain⟨cs',h1,h2⟩:=ih _ (hs.2 m cs vs x y J W);refine⟨cs',?_,h2⟩;have a2:((k'.val vs).cells.zipIdx).foldl (λ(cs:Array Value) (p:Value×Nat)=>cs.setIfInBounds (off+p.2) p.1) cs.toArray=(cs.take off++vs++cs.drop (off+k'.sz)).toArray:=by have:=yw off vs 0 cs (by omega);simp only[Zm,hl]at this;rw[←this,k'.val_cells W,←Array.foldl_toList,Array.toList_zipIdx]
  simp only[Instr.fill,hp];rw[if_neg (by rw[k'.val_cells W];simp[hl];omega)];rw[←h1];congr 1
end
section
variable{δ:List Nat}{ro:Option Nat}{P:Program}{W0:Bse}{m:M}{L:List (Nat×List Value)}{TL:List (Nat×Value)}{n:Nat}{a:Act}{l:List (Nat×Value)}{w:World}{ty t:TypeId}{pos:String}{aft:Array Edge}{g:Option (Nat×Bool)}{x y:Operand}{d:Nat}{O:Type}{k:Kd O}
theorem rq{ps:Array (Nat×Operand)}{pv:List (Nat×Value)}{h:Array Field}{pl:List (Nat×Nat)}{z:Value}{x0 xx:O}(hE:aw δ n a l)(Z:prt l ps=some pv)(hu:P.underlying t=some (.struct h))(a1:h.toList.mapM (λf=>(P.info? f.type).map λi=>(f.offset,i.size))=some pl)(hz:∀w,(zeroValue t).run P w=.ok z w) (a3:∀m,k.R m z.cells.toList x0) (ha:k.agg=true) (hP:wX (pl.toArray[·]?) k m pv x0 xx):a8 P ⟨some d,.build t ps,ty,pos,aft,g⟩ a w (λv w'=>w=w'/\RV k m v xx):=by
 obtain⟨cs,hf,hR⟩:=hP.fill _ (a3 m);have a0:(ps.map λp=>(p.1,a.eval p.2)).toList=pv:=pX hE Z;have a2:(h.mapM λf:Field=>(do pure (f.offset,←sizeOf f.type):Sem (Nat×Nat))).run P w=.ok pl.toArray w:=by
  rw[Array.mapM_eq_mapM_toList];have:=run_places (P:=P) w h.toList pl a1;simp only[Sem.run_map];have W:(h.toList.mapM λf:Field=>(do pure (f.offset,←sizeOf f.type):Sem (Nat×Nat))).run P w=.ok pl w:=by
   have h2:(λf:Field=>(do pure (f.offset,←sizeOf f.type):Sem (Nat×Nat)))=(λf:Field=>Prod.mk f.offset<$>sizeOf f.type):=by funext f;rfl
   rw[h2];exact this
  rw[W];rfl
 have J:(Instr.build t (ps.map λp=>(p.1,a.eval p.2))).run P w=.ok (.agg cs.toArray) w:=by
  simp only[Instr.build,Sem.run_bind,hz,Result.andThen_ok,run_underlying hu];rw[a2];simp only[Result.andThen_ok,a0];have:Instr.fill (λx=>pl.toArray[x]?) z.cells pv=some cs.toArray:=by simpa using hf
  rw[this];rfl
 have hr:ay P ⟨some d,.build t ps,ty,pos,aft,g⟩ a w (.agg cs.toArray) w:=by simp[ay,execOp,J]
 exact hr.step ⟨rfl,cs,hR,by simp[Kd.val,ha]⟩
theorem aw.cut (h:aw δ n a l){J:List (Nat×Value)}(W:Sub l J):aw δ n a J:=h.sub W.all
theorem aw.add (h:aw δ n a l){i:Nat}{v:Value}(W:a.tmps.getD i undef=v):aw δ n a ((i,v)::l):=⟨h.defers,h.size,λj u J=>by
 simp only[lk]at J;split at J
 ·rename_i e;have e':=Z4 e;subst e';injection J with J;rw[←J];exact W
 ·exact h.at_ j u J⟩
def wa (is:List Nat):Bool:=match is with|[]=>true|i::r=>!(r.any λj=>Ya i j)&&wa r
theorem E0{γ:Type}{X:List γ}:∀{is:List Nat}{Y:List γ},wa is=true->is.mapM (λi=>X[i]?)=some Y->∃f:Nat->Nat,(∀i e,Y[i]?=some e->X[f i]?=some e)/\(∀i j,i<Y.length->j<Y.length->f i=f j->i=j)/\(∀i,i<Y.length->f i∈is)
 |[],Y,_,h=>by simp at h;subst h;exact⟨id,by simp,by simp,by simp⟩|i::is,Y,hn,h=>by simp only[Y3,X3,Ye]at h;cases hx:X[i]?with
  |none=>simp[hx]at h|some x=>cases hr:is.mapM (λi=>X[i]?)with
   |none=>simp[hx,hr]at h|some ys=>
    simp[hx,hr]at h;subst h;simp only[wa,Zj,Zs]at hn;obtain⟨f,h1,h2,h3⟩:=E0 hn.2 hr;have a0:i∉is:=λhm=>by have:=List.any_eq_false.1 hn.1 i hm;simp at this
    refine⟨λj=>match j with|0=>i|j+1=>f j,?_,?_,?_⟩
    ·intro j e he;cases j with
     |zero=>simp at he;subst he;exact hx|succ j=>exact h1 j e (by simpa using he)
    ·intro j J hj a1 Z;cases j with
     |zero=>cases J with
      |zero=>rfl|succ J=>exact absurd (by have W:=h3 J (by simpa using a1);simp only at Z;rw[←Z]at W;exact W) a0
     |succ j=>cases J with
      |zero=>exact absurd (by have W:=h3 j (by simpa using hj);simp only at Z;rw[Z]at W;exact W) a0|succ J=>exact congrArg _ (h2 j J (by simpa using hj) (by simpa using a1) Z)
    ·intro j hj;cases j with
     |zero=>simp|succ j=>exact List.mem_cons_of_mem _ (h3 j (by simpa using hj))
theorem Dy{γ:Type}{X:List γ}{k:Nat}{is:List Nat}{Y:List γ}(hn:wa is=true)(hk:is.all (λi=>Zy i k)=true)(h:is.mapM (λi=>X[i]?)=some Y):∃f:Nat->Nat,(∀i e,(Y++X.drop k)[i]?=some e->X[f i]?=some e)/\(∀i j,f i=f j->i=j):=by
 obtain⟨f,h1,h2,h3⟩:=E0 hn h;refine⟨λi=>if i<Y.length then f i else k+(i-Y.length),λi e W=>?_,λi j Z=>?_⟩
 ·simp only;split
  ·rename_i hi;rw[Zl hi]at W;exact h1 i e W
  ·rename_i hi;rw[Zi (by omega),Zu]at W;exact W
 ·have lt:∀i,i<Y.length->f i<k:=λi hi=>Z0 (Z8.1 hk _ (h3 i hi));simp only at Z;split at Z<;>split at Z;·rename_i hi J;exact h2 i j hi J Z
  ·rename_i hi J;have:=lt i hi;omega
  ·rename_i hi J;have:=lt j J;omega
  ·omega
theorem S.pickL (h:S W0 m w L TL)(k:Nat)(is:List Nat)(hn:wa is=true)(W:is.all (λi=>Zy i k)=true){J:List (Nat×List Value)}(hL:is.mapM (λi=>L[i]?)=some J):S W0 m w (J++L.drop k) TL:=by obtain⟨f,h1,Z⟩:=Dy hn W hL;exact h.selL _ f h1 Z
theorem S.pickT (h:S W0 m w L TL)(k:Nat)(is:List Nat)(hn:wa is=true)(W:is.all (λi=>Zy i k)=true){J:List (Nat×Value)}(hL:is.mapM (λi=>TL[i]?)=some J):S W0 m w L (J++TL.drop k):=by obtain⟨f,h1,Z⟩:=Dy hn W hL;exact h.selT _ f h1 Z
theorem dq{O β:Type}{kT:Kd O}{k':Kd β}{off:Nat}{s:O->β->O}{i b:Nat}{cs:List Value}{v:Value}{xx:O}{h:β}(hE:aw δ n a l)(hS:S W0 m w L TL)(hT:dz P t k')(W:StF kT k' off s)(hx:evl l x=some (.pointer (some ⟨b,off,none⟩)))(hy:evl l y=some v)(Z:RV k' m v h)(hL:L[i]?=some (b,cs))(J:kT.R m cs xx):a8 P ⟨none,.store t x y,ty,pos,aft,g⟩ a w (λ_ w'=>∃cs',kT.R m cs' (s xx h)/\S W0 m w' (L.set i (b,cs')) TL):=(EU hE hS hT hx hy Z hL (by rw[kT.len J];exact W.1)).imp λ_ _⟨vs,h1,h2⟩=>⟨_,W.2 m cs vs xx h J h1,h2⟩
structure yx (P:Program)(t:TypeId){O:Type}[DecidableEq O](k:Kd O):Prop where
 eq:∀m cs ds (x y:O)d w,k.R m cs x->k.R m ds y->(Op.equalIn (d+20) t (k.val cs) (k.val ds)).run P w=.ok (decide (x=y)) w
 plain:∀op o o' cs ds w,(eqGuard op t o o' (k.val cs) (k.val ds)).run P w=.ok () w
theorem yz{O:Type}[DecidableEq O]{k:Kd O}{u v:Value}{xx h:O}{t':TypeId}(W:aw δ n a l)(hq:yx P t k)(hx:evl l x=some u)(hy:evl l y=some v)(hu:RV k m u xx)(hv:RV k m v h)(J:k.agg=true):ay P ⟨some d,.binOp .eql t x y t',ty,pos,aft,g⟩ a w (.bool (decide (xx=h))) w:=by
 obtain⟨cs,hc,rfl⟩:=hu;obtain⟨ds,hd,rfl⟩:=hv;have Z:=hq.eq m cs ds xx h 9980 w hc hd;have h2:=hq.plain .eql x y cs ds w;have h3:k.val cs=.agg cs.toArray:=by simp[Kd.val,J]
 have h4:k.val ds=.agg ds.toArray:=by simp[Kd.val,J]
 simp only[ay,execOp,W.eval hx,W.eval hy,Sem.run_bind,h2,Result.andThen_ok];rw[h3,h4]at Z⊢;simp[binOp,Op.equal,Op.maxDepth,Z]
theorem E1{O:Type}[DecidableEq O]{k:Kd O}{u v:Value}{xx h:O}{t':TypeId}(W:aw δ n a l)(hq:yx P t k)(hx:evl l x=some u)(hy:evl l y=some v)(hu:RV k m u xx)(hv:RV k m v h)(J:k.agg=true):ay P ⟨some d,.binOp .neq t x y t',ty,pos,aft,g⟩ a w (.bool (!decide (xx=h))) w:=by
 obtain⟨cs,hc,rfl⟩:=hu;obtain⟨ds,hd,rfl⟩:=hv;have Z:=hq.eq m cs ds xx h 9980 w hc hd;have h2:=hq.plain .neq x y cs ds w;have h3:k.val cs=.agg cs.toArray:=by simp[Kd.val,J]
 have h4:k.val ds=.agg ds.toArray:=by simp[Kd.val,J]
 simp only[ay,execOp,W.eval hx,W.eval hy,Sem.run_bind,h2,Result.andThen_ok];rw[h3,h4]at Z⊢;simp[binOp,Op.equal,Op.maxDepth,Z]
def chk (b:Bool):Option Unit:=if b then some ()else none
theorem rt{b:Bool}{u:Unit}(h:chk b=some u):b=true:=by
 unfold chk at h;split at h;·assumption
 ·cases h
theorem az{k:IntKind}{x:Int}(h:k.wrap x=x):inR k x:=h
theorem GQ{x:Int}(h:inR .u8 x):0<=x:=by rw[nv]at h;exact h.1
theorem E2{x:Int}(h:inR .u32 x):0<=x:=by rw[nv]at h;exact h.1
theorem E3{x:Int}(h:inR .u64 x):0<=x:=by rw[nv]at h;exact h.1
theorem CM{k:IntKind}{x y:Int}(J:inR k x)(h:inR k y):inR k (if x<y then y else x):=by split<;>assumption
theorem Hb{k:IntKind}{x y:Int}(J:inR k x)(h:inR k y):inR k (if y<x then y else x):=by split<;>assumption
theorem S.tail0 (h:S W0 m w L TL)(sz:Nat):S W0 m w L ((sz,.slice none 0 0)::TL):=h.nilT sz 0 0
end
section
variable{δ:List Nat}{ro:Option Nat}{O σ β:Type}{A B:Option O}{r:O}{c:Bool}
theorem aH (J:c=true)(h:(if c=true then A else B)=some r):A=some r:=by rw[if_pos J]at h;exact h
theorem aI (J:c=false)(h:(if c=true then A else B)=some r):B=some r:=by rw[if_neg (by simp[J])]at h;exact h
theorem cg{e:Option β}{r:σ⊕β}{o:β}(h:e.map Sum.inr=some r)(J:∀o',r=.inr o'->o'=o):e=some o:=by cases e with
 |none=>simp at h|some x=>simp at h;rw[J x h.symm]
end
section
variable{δ:List Nat}{ro:Option Nat}{P:Program}{os:List Oper}{Φ:Nat->Option Nat->M->Value->Prop}{Ψ:M->List Value->Prop}{W0:Bse}{m:M}{LF:Option Nat->List Value->List (Nat×List Value)}{TL:List (Nat×Value)}{n ks:Nat}{cs0:List Value}{l:List (Nat×Value)}{i:Nat}{dst:Option Tmp}{op:Op}{ty:TypeId}{pos:String}{aft:Array Edge}
theorem yA{ops:Array Oper}{a:Act}{g h:Nat}{b:Bool}(hE:aw δ n a l)(W:cw ops g=some h)(hn:Zy h n=true)(J:a.tmps.getD h undef=.bool b):yielded ops a.tmps g=some b:=by
 have Z:h<a.tmps.size:=by rw[hE.size];exact Z0 hn
 unfold cw at W;unfold yielded;rw[W];simp only[X4];rw[Array.getD_eq_getD_getElem?,Array.getElem?_eq_getElem Z]at J;rw[Array.getElem?_eq_getElem Z];simp at J;rw[J]
theorem aw.of{a:Act}{J:List (Nat×Value)}(h1:a.defers=δ.map λD=>{target:=.collected D,args:=#[]})(h2:a.tmps.size=n){ops:Array Oper}{k:Nat}(h3:∀d v,lk l d=some v->(∀j,j<k->cw ops j≠some d)->a.tmps.getD d undef=v)(hs:Sub l J)(Z:(Zg k).all (λj=>match cw ops j with|some d=>J.all (λe=>!(Ya e.1 d))|none=>true)=true):aw δ n a J:=by
 have hl:=hs.all;clear hs;refine⟨h1,h2,λj v h=>?_⟩;have:∃e∈J,e=(j,v):=by
  clear hl Z;induction J with
  |nil=>simp[lk]at h|cons e r ih=>
   obtain⟨i',u⟩:=e;simp only[lk]at h;split at h
   ·rename_i hb;have:=Z4 hb;subst this;injection h with h;subst h;exact⟨_,by simp,rfl⟩
   ·obtain⟨e,W,rfl⟩:=ih h;exact⟨_,by simp[W],rfl⟩
 obtain⟨e,W,rfl⟩:=this;refine h3 j v (hl _ W) λq hq a0=>?_;have h5:=Z8.1 Z q (by simpa using hq);rw[a0]at h5;have h6:=Z8.1 h5 _ W;simp at h6
end
open Go.RowKit (Below)
def GS{O:Type}(k:Kd O)(m:M)(b:Nat)(cs:List Value)(v:Value)(xs:List O):Prop:=xs.length<=cz/\((xs=[]/\cs=[]/\∃a:Option Addr,v=.slice a 0 0/\∀ad,a=some ad->ad.spot=none)\/∃cap,v=.slice (some ⟨b,0,none⟩) xs.length cap/\xs.length<=cap/\cs.length=cap*k.sz/\Rl k m (cs.take (xs.length*k.sz)) xs)
section
variable{δ:List Nat}{ro:Option Nat}{O:Type}{k:Kd O}{m m':M}{b:Nat}{cs:List Value}{v:Value}{xs:List O}
theorem GS.mono (h:GS k m b cs v xs)(hm:M.le m m'):GS k m' b cs v xs:=by
 obtain⟨J,h|⟨cap,h1,W,Z,h4⟩⟩:=h;·exact⟨J,.inl h⟩
 ·exact⟨J,.inr ⟨cap,h1,W,Z,h4.mono hm⟩⟩
theorem GS.len (h:GS k m b cs v xs):xs.length<=cz:=h.1
theorem GS.val (h:GS k m b cs v xs):∃(a:Option Addr) (cap:Nat),v=.slice a xs.length cap/\xs.length<=cap:=by
 obtain⟨Z,⟨rfl,rfl,a,rfl,_⟩|⟨cap,rfl,J,h3,W⟩⟩:=h;·exact⟨a,0,rfl,Z7 _⟩
 ·exact⟨_,cap,rfl,J⟩
theorem GS.void:GS k m b [] (.slice none 0 0) ([]:List O):=⟨by simp,.inl ⟨rfl,rfl,none,rfl,λ_ h=>by cases h⟩⟩
theorem iN{i n sz:Nat}(h:i<n):i*sz+sz<=n*sz:=by have:=j6 sz (show i+1<=n by omega);rw[Z6]at this;omega
theorem GS.elem (h:GS k m b cs v xs){j:Nat}{x:O}(W:xs[j]?=some x):k.R m ((cs.drop (j*k.sz)).take k.sz) x:=by
 obtain⟨J,rfl⟩:=zx.1 W;obtain⟨h0,⟨rfl,_⟩|⟨cap,rfl,h2,h3,Z⟩⟩:=h;·simp at J
 ·have:=Z.2 j J;have a0:=iN (sz:=k.sz) J;rw[Zd,Zb,Z5 (by omega)]at this;exact this
theorem GS.set{x y:O}{vs:List Value}(h:GS k m b cs v xs){j:Nat}(hj:xs[j]?=some x)(W:k.R m vs y):GS k m b (cs.take (j*k.sz)++vs++cs.drop (j*k.sz+k.sz)) v (xs.set j y):=by
 obtain⟨a0,rfl⟩:=zx.1 hj;obtain⟨h0,⟨rfl,_⟩|⟨cap,rfl,Z,h3,h4⟩⟩:=h;·simp at a0
 have a3:=iN (sz:=k.sz) a0;have a2:xs.length*k.sz<=cap*k.sz:=j6 _ Z;have hl:=k.len W;refine⟨by simpa using h0,.inr ⟨cap,by simp,by simpa using Z,by simp;omega,?_⟩⟩;have a1:(cs.take (j*k.sz)++vs++cs.drop (j*k.sz+k.sz)).length=cs.length:=by simp;omega
 refine⟨by rw[Zr,a1];simp;omega,λi hi=>?_⟩;have hi':i<xs.length:=by simpa using hi
 have a4:=iN (sz:=k.sz) hi';rw[List.length_set,Zd,Zb,Z5 (by omega)];by_cases e:i=j
 ·subst e;rw[List.getElem_set_self,Zc,Zk (by simp;omega),Yz (by simp;omega),Zo,Z3 (by omega),Z2 (by omega)];exact W
 ·rw[List.getElem_set_ne (λh=>e h.symm)];have J:=h4.2 i hi';rw[Zd,Zb,Z5 (by omega)]at J;rcases Nat.lt_or_gt_of_ne e with h6|h6
  ·have h7:=iN (sz:=k.sz) h6;rw[Zc,Zk (by simp;omega),Z3 (by simp;omega),Zd,Zb,Z5 (by omega)];exact J
  ·have h7:=iN (sz:=k.sz) h6;rw[X8,Yz (by simp;omega),Zo,Ze];rw[show j*k.sz+k.sz+(i*k.sz-(cs.take (j*k.sz)++vs).length)=i*k.sz by simp;omega];exact J
end
def ix{O:Type}(xs:List O)(i:Int):Option Nat:=if 0<=i/\i<(xs.length:Int)then some i.toNat else none
theorem Hc{O:Type}{xs:List O}{i:Int}{j:Nat}(h:ix xs i=some j):0<=i/\i.toNat=j/\j<xs.length:=by
 unfold ix at h;split at h;·injection h with h;omega
 ·cases h
def cpy{O:Type}(xs ys:List O):List O:=ys.take xs.length++xs.drop ys.length
section
variable{δ:List Nat}{ro:Option Nat}{P:Program}{W0:Bse}{m:M}{L:List (Nat×List Value)}{TL:List (Nat×Value)}{n:Nat}{a:Act}{l:List (Nat×Value)}{w:World}{ty t t2 e:TypeId}{pos:String}{aft:Array Edge}{g:Option (Nat×Bool)}{x y:Operand}{d:Nat}{O β:Type}{k:Kd O}{k':Kd β}{by_ N b i:Nat}{cs:List Value}{v:Value}{xs ys:List O}
theorem S.void (h:S W0 m w L TL)(b:Nat):S W0 m w ((b,[])::L) TL:=by
 refine⟨h.below,h.imm,λi e J W=>?_,λi j e e' J Z a1 W a0=>?_,h.tails,h.apart⟩;·cases i with
  |zero=>simp at J;subst J;exact absurd rfl W|succ i=>exact h.own i e (by simpa using J) W
 ·cases i with
  |zero=>simp at J;subst J;exact absurd rfl W|succ i=>cases j with
   |zero=>simp at Z;subst Z;exact absurd rfl a0|succ j=>exact h.nodup i j e e' (by simpa using J) (by simpa using Z) (by omega) W a0
theorem S.freeze (h:S W0 m w ((b,cs)::L) TL)(hg:GS k m b cs v xs):∃m',M.le m m'/\S W0 m' w L TL/\RV (kSl k) m' v xs:=by
 have J:=h.dropL 1;simp only[Yo,Zq]at J;obtain⟨h0,⟨rfl,rfl,a,rfl,ha⟩|⟨cap,rfl,h2,h3,h4⟩⟩:=hg
 ·refine⟨m,M.le.refl m,J,?_⟩;have:=fU (d:=k) (m:=m) (xs:=[]) (a:=a) (cap:=0) (Z7 _) (by simp) (by cases a with|none=>rfl|some Z=>exact⟨λ_=>ha Z rfl,λi hi=>by simp at hi⟩);exact this
 ·by_cases hc:cs=[]
  ·subst hc;have hp:=k.pos;have a3:cap=0:=by
    rcases Za cap with h|h;·exact h
    ·have:=Y6 h hp;simp at h3;omega
   subst a3;have hx:xs=[]:=Z1 (by omega);subst hx;exact⟨m,M.le.refl m,J,fU (Z7 _) (by simp) ⟨λ_=>rfl,λi hi=>by simp at hi⟩⟩
  ·obtain⟨hB,hm,t,ht⟩:=h.own 0 (b,cs) rfl hc;have a0:M.le m (m.put b (cs.take (xs.length*k.sz))):=M.le_put _ hm;refine⟨m.put b (cs.take (xs.length*k.sz)),a0,⟨J.below,λb' r W=>?_,λi e he hv=>?_,J.nodup,λi e he=>?_,J.apart⟩,fU h2 h0 ⟨λ_=>rfl,?_⟩⟩
   ·by_cases hbb:b'=b
    ·subst hbb;rw[M.put_same]at W;injection W with W;subst W;exact⟨_,t,_,cs.drop (xs.length*k.sz),ht,by simp,.inl hB⟩
    ·rw[M.put_other _ _ hbb]at W;exact J.imm b' r W
   ·obtain⟨q1,q2,q3⟩:=J.own i e he hv;have a1:=h.nodup 0 (i+1) (b,cs) e rfl (by simpa using he) (by omega) hc hv;exact⟨q1,by rw[M.put_other _ _ (λe=>a1 e.symm)];exact q2,q3⟩
   ·have hT:=J.tails i e he;obtain⟨sz,u⟩:=e;cases u<;>try exact hT
    rename_i Z a4 a5;cases Z with
    |none=>trivial|some Z=>
     obtain⟨a2,hT⟩:=hT;refine⟨a2,?_⟩;rcases hT with hf|⟨p0,p1,r,c,t',p2,p3,p4,p5⟩;·exact .inl hf
     ·exact .inr ⟨p0,p1,r,c,t',by rw[M.put_other _ _ (λe=>by rw[e,hm]at p2;cases p2)];exact p2,p3,p4,p5⟩
   ·have:=h4.mono a0;exact ql (M.put_same _ _ _) this (by rw[Zq];exact Z2 (Z7 _))
theorem E4{kk kc:IntKind}{i:Int}{xs:List O}{x0:O}{J:TypeInfo}{z:Value}(hE:aw δ n a l)(hS:S W0 m w L TL)(hx:evl l x=some (.int kk i))(hy:evl l y=some (.int kc i))(hu:P.underlying t=some (.slice e))(hi:P.info? e=some J)(hz:J.zero=some z)(a1:J.size=k.sz)(a2:J.bytes=by_)(a3:∀m,k.R m z.cells.toList x0)(h:mk N i x0=some xs) (hN:Yf (N*by_) 281474976710656=true) (Z:Yf N 281474976710656=true):a8 P ⟨some d,.makeSlice t x y,ty,pos,aft,g⟩ a w (λv w'=>∃b cs,GS k m b cs v xs/\S W0 m w' ((b,cs)::L) TL):=by
 refine(NG hE hS hx hy hu hi hz a1 a2 a3 h hN Z).imp λv w'⟨b,cs,h1,W,h3⟩=>⟨b,cs,?_,h3⟩;have a0:xs.length<=cz:=by
  unfold mk at h;split at h
  ·rename_i h0;injection h with h;subst h;have:=Z0 Z;unfold cz;simp;omega
  ·cases h
 exact⟨a0,.inr ⟨_,h1,Z7 _,W.1,by rw[Z2 (by rw[W.1];exact Z7 _)];exact W⟩⟩
theorem GS.of_Rl{cs:List Value}(h:Rl k m cs xs)(hl:xs.length<=cz):GS k m b cs (.slice (some ⟨b,0,none⟩) xs.length xs.length) xs:=⟨hl,.inr ⟨_,rfl,Z7 _,h.1,by rw[Z2 (by rw[h.1];exact Z7 _)];exact h⟩⟩
theorem tS{h:Array TypeId}(W:aw δ n a l)(Z:evl l x=some v)(ht:h[0]?=some t)(J:P.underlying t=some (.slice e))(hg:GS k m b cs v xs):ay P ⟨some d,.call ⟨.builtin .len,#[x],h⟩,ty,pos,aft,g⟩ a w (.int .i64 (xs.length:Int)) w:=by obtain⟨ad,cap,rfl,_⟩:=hg.val;simp[ay,execOp,resolve,invoke,builtin,W.eval Z,Builtin.len_,ht,run_underlying J,goInt]
theorem lF{kk:IntKind}{i:Int}{j sz:Nat}(h:aw δ n a l)(hx:evl l x=some v)(hy:evl l y=some (.int kk i))(Z:P.underlying t=some (.slice e))(hs:∀w,(sizeOf e).run P w=.ok k.sz w)(hg:GS k m b cs v xs)(hi:ix xs i=some j)(hz:k.sz=sz):ay P ⟨some d,.indexAddr t x y,ty,pos,aft,g⟩ a w (.pointer (some ⟨b,j*sz,none⟩)) w:=by
 obtain⟨h0,W,J⟩:=Hc hi;subst hz;obtain⟨_,⟨rfl,_⟩|⟨cap,rfl,h3,_,_⟩⟩:=hg;·simp at J
 ·have a0:i<(xs.length:Int):=by omega
  simp[ay,execOp,h.eval hx,h.eval hy,Instr.indexAt,asIntOf,run_underlying Z,h0,a0,hs,gw,W]
theorem E5{Z:IntKind}{i:Int}{j sz len:Nat}(h:aw δ n a l)(hx:evl l x=some (.pointer (some ⟨b,0,none⟩)))(hy:evl l y=some (.int Z i))(W:P.underlying t=some (.array len e))(hs:∀w,(sizeOf e).run P w=.ok k.sz w)(hl:xs.length=len)(hi:ix xs i=some j)(hz:k.sz=sz):ay P ⟨some d,.indexAddr t x y,ty,pos,aft,g⟩ a w (.pointer (some ⟨b,j*sz,none⟩)) w:=by
 obtain⟨h0,J,h2⟩:=Hc hi;subst hz;subst hl;have a0:i<(xs.length:Int):=by omega
 simp[ay,execOp,h.eval hx,h.eval hy,Instr.indexAt,asIntOf,run_underlying W,h0,a0,hs,gw,J,Instr.sureAddr]
theorem K6{len:Nat}(W:aw δ n a l)(Z:evl l x=some (.pointer (some ⟨b,0,none⟩)))(h:P.underlying t=some (.array len e))(J:∀w,(sizeOf e).run P w=.ok k.sz w):ay P ⟨some d,.slice t x none none none,ty,pos,aft,g⟩ a w (.slice (some ⟨b,0,none⟩) len len) w:=by simp[ay,execOp,W.eval Z,Instr.sliceAt,run_underlying h,J,Instr.sureAddr,Instr.sliceBounds,gw]
theorem sC{off j:Nat}{s:O->β->O}{u:Value}{xx:O}{J:β}(hE:aw δ n a l)(hS:S W0 m w L TL)(hT:dz P t k')(h:StF k k' off s)(hg:GS k m b cs v xs)(Z:xs[j]?=some xx)(hx:evl l x=some (.pointer (some ⟨b,j*k.sz+off,none⟩)))(hy:evl l y=some u)(hv:RV k' m u J)(hL:L[i]?=some (b,cs)):a8 P ⟨none,.store t x y,ty,pos,aft,g⟩ a w (λ_ w'=>∃cs',GS k m b cs' v (xs.set j (s xx J))/\S W0 m w' (L.set i (b,cs')) TL):=by
 have W:=hg.elem Z;have hl:=k.len W;have hb:j*k.sz+off+k'.sz<=cs.length:=by have:=h.1;simp at hl;have:=k.pos;omega
 refine(EU hE hS hT hx hy hv hL hb).imp λ_ w'⟨vs,h1,h2⟩=>⟨_,?_,h2⟩;have h3:=h.2 m _ vs xx J W h1;have h4:=hg.set Z h3;have a1:=k'.len h1;have e1:(cs.drop (j*k.sz)).take off=(cs.take (j*k.sz+off)).drop (j*k.sz):=by rw[Zd,Nat.add_sub_cancel_left]
 have e2:cs.take (j*k.sz)++(((cs.drop (j*k.sz)).take k.sz).take off++vs++((cs.drop (j*k.sz)).take k.sz).drop (off+k'.sz))++cs.drop (j*k.sz+k.sz)=cs.take (j*k.sz+off)++vs++cs.drop (j*k.sz+off+k'.sz):=by
  have a0:=h.1;rw[Zb,Z5 (by omega),List.take_add (i:=j*k.sz) (j:=off) (l:=cs)];have e3:((cs.drop (j*k.sz)).take k.sz).drop (off+k'.sz)++cs.drop (j*k.sz+k.sz)=cs.drop (j*k.sz+off+k'.sz):=by rw[Zd,Ze,show cs.drop (j*k.sz+k.sz)=(cs.drop (j*k.sz+(off+k'.sz))).drop (k.sz-(off+k'.sz))by rw[Ze];congr 1;omega,Zh];congr 1;omega
  rw[Zc,Zc,Zc,e3];simp
 rw[e2]at h4;exact h4
theorem yB (hS:S W0 m w L TL)(hL:L[i]?=some (b,cs))(hg:GS k m b cs v xs):(Builtin.lenOf v).run P w=.ok xs.length w/\∃news,Rl k m news xs/\(∀w',(∀b,b<w.heap.size->w'.heap[b]?=w.heap[b]?)->(Builtin.firstCells k.sz xs.length v).run P w'=.ok news.toArray w')/\(∀q,q<=xs.length->∀w',(∀b,b<w.heap.size->w'.heap[b]?=w.heap[b]?)->(Builtin.firstCells k.sz q v).run P w'=.ok (news.take (q*k.sz)).toArray w'):=by
 have a1:(Builtin.lenOf v).run P w=.ok xs.length w/\∃news,Rl k m news xs/\(∀q,q<=xs.length->∀w',(∀b,b<w.heap.size->w'.heap[b]?=w.heap[b]?)->(Builtin.firstCells k.sz q v).run P w'=.ok (news.take (q*k.sz)).toArray w'):=by
  obtain⟨_,⟨rfl,rfl,ad,rfl,_⟩|⟨cap,rfl,h3,h4,h5⟩⟩:=hg
  ·refine⟨by simp[Builtin.lenOf],[],Rl.nil,λq h w' _=>?_⟩;have:q=0:=by simpa using h
   subst this;cases ad<;>simp[Builtin.firstCells,loadCells,loadCellsFrom]
  ·refine⟨by simp[Builtin.lenOf],_,h5,λq h w' J=>?_⟩;rcases Za q with h0|h0;·subst h0;simp[Builtin.firstCells,loadCells,loadCellsFrom]
   ·have a2:q*k.sz<=xs.length*k.sz:=j6 _ h;have a5:xs.length*k.sz<=cap*k.sz:=j6 _ h3;have a4:0<q*k.sz:=Y6 h0 k.pos;rw[Zb,Z5 a2];have W:(cs.take (q*k.sz)).length=q*k.sz:=by simp;omega
    have hA:=hS.atL (o:=0) (cs':=cs.take (q*k.sz)) hL (by rw[W,Zq]) (by omega);obtain⟨c,t,fr,hb,hc⟩:=hA;have a3:=(Array.getElem?_eq_some_iff.1 hb).1;have a0:At w' b 0 (cs.take (q*k.sz)):=⟨c,t,fr,by rw[J b a3];exact hb,hc⟩;exact run_firstCells_some w' _ _ _ _ _ _ W (λj v hj=>by rw[gw];exact a0.cell hj)
 obtain⟨g1,news,Z,g3⟩:=a1;refine⟨g1,news,Z,λw' J=>?_,g3⟩;have:=g3 xs.length (Z7 _) w' J;rw[Z2 (by rw[Z.1];exact Z7 _)]at this;exact this
def zO (P:Program)(k:Kd O)(m:M)(w:World)(t2:TypeId)(u:Value)(ys:List O):Prop:=((∃e',P.underlying t2=some (.slice e'))\/P.underlying t2=some .string)/\(Builtin.lenOf u).run P w=.ok ys.length w/\∃news,Rl k m news ys/\(∀w',(∀b,b<w.heap.size->w'.heap[b]?=w.heap[b]?)->(Builtin.firstCells k.sz ys.length u).run P w'=.ok news.toArray w')
theorem yC{u:Value}{e':TypeId}(hS:S W0 m w L TL)(W:P.underlying t2=some (.slice e'))(h:RV (kSl k) m u ys):zO P k m w t2 u ys:=by obtain⟨news,Z,J,_⟩:=nY (P:=P) hS h;exact⟨.inl ⟨e',W⟩,AY h w,news,Z,J⟩
theorem Hd{u:Value}{e':TypeId}(hS:S W0 m w L TL)(Z:P.underlying t2=some (.slice e'))(hL:L[i]?=some (b,cs))(hg:GS k m b cs u ys):zO P k m w t2 u ys:=by obtain⟨W,news,h,J,_⟩:=yB (P:=P) hS hL hg;exact⟨.inl ⟨e',Z⟩,W,news,h,J⟩
theorem NK{s:List Int}(W:P.underlying t2=some .string)(h:∀n∈s,0<=n/\n<256):zO P (aj .u8) m w t2 (.string (bts s)) s:=by
 refine⟨.inr W,by simp[Builtin.lenOf,AX],s.map (Value.int .u8),I8 h,λw' _=>?_⟩;have J:(bts s).extract 0 s.length=bts s:=by have:=AX s;rw[←this];exact ByteArray.extract_zero_size
 simp only[Builtin.firstCells,J,Sem.run_pure];congr 1;apply Array.ext';simp only[bts,Array.toList_map,Yn];apply X6;intro n Z;show Value.int .u8 ((UInt8.ofNat n.toNat).toNat:Int)=Value.int .u8 n;rw[qm (h n Z)]
theorem CN{v u:Value}{xs ys J:List O}(h:aw δ n a l)(hS:S W0 m w L TL)(hx:evl l x=some v)(hy:evl l y=some u)(hu:P.underlying t=some (.slice e))(a2:pW P e k.sz by_)(hT:TL[i]?=some (k.sz,v))(hv:RV (kSl k) m v xs)(hw:zO P k m w t2 u ys)(a0:app N xs ys=some J)(hN:Yf (N*by_) 140737488355328=true) (hM:Yf N 281474976710656=true):a8 P ⟨some d,.call ⟨.builtin .append,#[x,y],#[t,t2]⟩,ty,pos,aft,g⟩ a w (λv' w'=>∃m',M.le m m'/\S W0 m' w' L (TL.set i (k.sz,v'))/\RV (kSl k) m' v' J):=by
 obtain⟨a1,rfl⟩:=AW a0;obtain⟨h0,a3,news,Z,hf⟩:=hw;obtain⟨v',m',w',a4,h1,W,h3⟩:=yv (tx:=t2) (ty:=ty) hS hu h0 a2 hT hv a3 hf Z (by have:=j6 by_ a1;have:=Z0 hN;omega) (by have:=Z0 hM;unfold cz;omega);have hr:ay P ⟨some d,.call ⟨.builtin .append,#[x,y],#[t,t2]⟩,ty,pos,aft,g⟩ a w v' w':=by simp[ay,execOp,resolve,invoke,builtin,h.eval hx,h.eval hy,a4]
 exact hr.step ⟨m',h1,W,h3⟩
theorem S.swapL (hS:S W0 m w ((b,cs)::L) TL)(hi:i<L.length):S W0 m w (L.set i (b,cs)) TL:=by
 refine hS.selL _ (λj=>if j=i then 0 else j+1) (λj e J=>?_) (λj W h=>?_)
 ·rw[Zv]at J;by_cases h:i=j;·subst h;simp[hi]at J⊢;exact J
  ·rw[if_neg h]at J;rw[if_neg (λx=>h x.symm)];simpa using J
 ·split at h<;>split at h<;>omega
theorem zP{v u:Value}{xs ys zs:List O}(hE:aw δ n a l)(hS:S W0 m w L TL)(hx:evl l x=some v)(hy:evl l y=some u)(hu:P.underlying t=some (.slice e))(d2:pW P e k.sz by_)(hL:L[i]?=some (b,cs))(hg:GS k m b cs v xs)(hw:zO P k m w t2 u ys)(b5:app N xs ys=some zs)(hN:Yf (N*by_) 140737488355328=true) (hM:Yf N 281474976710656=true):a8 P ⟨some d,.call ⟨.builtin .append,#[x,y],#[t,t2]⟩,ty,pos,aft,g⟩ a w (λv' w'=>∃b' cs',GS k m b' cs' v' zs/\S W0 m w' (L.set i (b',cs')) TL):=by
 obtain⟨c0,rfl⟩:=AW b5;obtain⟨J,hn,news,W,hf⟩:=hw;have c6:(xs.length+ys.length)*by_<=140737488355328:=by have:=j6 by_ c0;have:=Z0 hN;omega
 have a9:xs.length+ys.length<=cz:=by have:=Z0 hM;unfold cz;omega
 have f3:xs.length+ys.length<=281474976710656:=a9;obtain⟨b0,z,hi,a2,b6,hz,e7⟩:=d2.ok;have hp:=k.pos;have e8:i<L.length:=(zx.1 hL).1;have e5:L.set i (b,cs)=L:=by obtain⟨h1,h2⟩:=zx.1 hL;rw[←h2];exact Y2 h1
 suffices hmain:∃v' w' b' cs',(Builtin.append_ #[t,t2] ty #[v,u]).run P w=.ok v' w'/\GS k m b' cs' v' (xs++ys)/\S W0 m w' (L.set i (b',cs')) TL by
  obtain⟨v',w',b',cs',a4,h1,h2⟩:=hmain;have hr:ay P ⟨some d,.call ⟨.builtin .append,#[x,y],#[t,t2]⟩,ty,pos,aft,g⟩ a w v' w':=by simp[ay,execOp,resolve,invoke,builtin,hE.eval hx,hE.eval hy,a4]
  exact hr.step ⟨b',cs',h1,h2⟩
 obtain⟨_,a1,a3,d0,_⟩:=yB (P:=P) hS hL hg;obtain⟨e4,a0,a5,b1⟩:=hg.val;by_cases hfit:xs.length+ys.length<=a0
 ·rcases Za ys.length with h0|h0
  ·have e0:ys=[]:=Z1 h0;subst e0;have c1:news=[]:=Z1 (by rw[W.1];simp);subst c1;have a6:=hf w (λ_ _=>rfl);simp only[X5]at a6 hn;refine⟨v,w,b,cs,?_,by simpa using hg,by rw[e5];exact hS⟩;subst a5;cases e4 with
   |none=>rcases J with⟨_,J⟩|J<;>simp[Builtin.append_,run_underlying hu,run_underlying J,sizeOf,typeInfo,hi,hn,a2,a6,b1]|some ad=>rcases J with⟨_,J⟩|J<;>simp[Builtin.append_,run_underlying hu,run_underlying J,sizeOf,typeInfo,hi,hn,a2,a6,b1,storeCells]
  ·obtain⟨f0,⟨rfl,rfl,ad,rfl,_⟩|⟨cap,rfl,h3,h4,h5⟩⟩:=hg
   ·have f4:a0=0:=by injection a5 with _ _ h;exact h.symm
    simp only[X5]at hfit;omega
   injection a5 with h1 _ h;subst h;subst h1;have c4:(xs.length+ys.length)*k.sz<=cap*k.sz:=j6 _ hfit;rw[Z6]at c4;have e9:0<ys.length*k.sz:=Y6 h0 hp;have b2:cs≠[]:=λe=>by subst e;simp at h4;omega
   obtain⟨hB,hm,t0,ht⟩:=hS.own i _ hL b2;have e1:=W.1;have a4:=ff (P:=P) news b (xs.length*k.sz) 0 cs t0 w ht (by omega) W.one;simp only[Zm]at a4;refine⟨.slice (some ⟨b,0,none⟩) (xs++ys).length cap,w.setRow b (cs.take (xs.length*k.sz)++news++cs.drop (xs.length*k.sz+news.length)).toArray,b,cs.take (xs.length*k.sz)++news++cs.drop (xs.length*k.sz+news.length),?_,⟨by simpa using a9,.inr ⟨cap,rfl,by simpa using hfit,?_,?_⟩⟩,hS.setL hL b2 _⟩;·rcases J with⟨_,J⟩|J<;>simp[Builtin.append_,run_underlying hu,run_underlying J,sizeOf,typeInfo,hi,hn,a2,hf w (λ_ _=>rfl),hfit,gw,a4]
   ·simp;omega
   ·have f5:(cs.take (xs.length*k.sz)).length=xs.length*k.sz:=by simp;omega
    have b3:(xs++ys).length*k.sz=(cs.take (xs.length*k.sz)++news).length:=by simp[Z6,e1];omega
    rw[b3,Z3 (Z7 _),Z2 (Z7 _)];exact Rl.app h5 W
 ·have c3:a0<xs.length+ys.length:=by omega
  have c5:¬(9223372036854775807<((xs.length:Int)+(ys.length:Int))):=by omega
  have e3:¬(281474976710656<Builtin.nextslicecap (xs.length+ys.length) a0*b0.bytes):=by have:=growslice_fits c3 (bytes:=b0.bytes) (by rw[b6];exact c6);omega
  generalize hcapn:grownCap w (xs.length+ys.length) a0 e=Z at*;have e6:xs.length+ys.length<=Z:=by rw[←hcapn];simp[grownCap,Question.cut]
  let rest:=(Builtin.zeroCells z.cells (Z-(xs.length+ys.length))).toList;have c2:rest.length=(Z-(xs.length+ys.length))*k.sz:=by simp[rest,Builtin.zeroCells,e7]
  have b4:(xs.length+ys.length)*k.sz+rest.length=Z*k.sz:=by rw[c2,←Z6];congr 1;omega
  rw[Z6]at b4;refine⟨.slice (some ⟨w.heap.size,0,none⟩) (xs++ys).length Z,w.drew.alloc (.cells (a1++news++rest).toArray e),w.heap.size,a1++news++rest,?_,⟨by simpa using a9,.inr ⟨Z,rfl,by simpa using e6,?_,?_⟩⟩,?_⟩
  ·have b7:=d0 w.drew (λ_ _=>rfl);have d1:=hf w.drew (λ_ _=>rfl);have e2:a1.toArray++(news.toArray++Builtin.zeroCells z.cells (Z-(xs.length+ys.length)))=(a1++(news++rest)).toArray:=by apply Array.ext';simp[rest]
   have c7:(Question.appendCap (xs.length+ys.length) a0 e).cut (w.tape w.drawn (Question.appendCap (xs.length+ys.length) a0 e))=Z:=hcapn;subst a5;rcases J with⟨_,J⟩|J<;>simp[Builtin.append_,run_underlying hu,run_underlying J,sizeOf,typeInfo,zeroValue,hi,hz,hn,a2,hfit,c5,e3,Question.forced,b7,d1,newRow,c7,e2]
  ·simp[a3.1,W.1];omega
  ·rw[Z3 (by simp[a3.1,W.1,Z6]),Z2 (by simp[a3.1,W.1,Z6])];exact Rl.app a3 W
  ·have:=hS.drew.allocL (a1++news++rest) e;exact this.swapL e8
theorem E6{u:Value}(Z:aw δ n a l)(hS:S W0 m w L TL)(hx:evl l x=some v)(hy:evl l y=some u)(hu:P.underlying t=some (.slice e))(hs:∀w,(sizeOf e).run P w=.ok k.sz w)(hL:L[i]?=some (b,cs))(hg:GS k m b cs v xs)(hw:RV (kSl k) m u ys):a8 P ⟨some d,.call ⟨.builtin .copy,#[x,y],#[t,t2]⟩,ty,pos,aft,g⟩ a w (λv' w'=>v'=.int .i64 (min ys.length xs.length:Nat)/\∃cs',GS k m b cs' v (cpy xs ys)/\S W0 m w' (L.set i (b,cs')) TL):=by
 have c4:i<L.length:=(zx.1 hL).1;have b7:L.set i (b,cs)=L:=by obtain⟨h1,h2⟩:=zx.1 hL;rw[←h2];exact Y2 h1
 have hp:=k.pos;have a2:Nat.min ys.length xs.length=min ys.length xs.length:=rfl;have c3:RV (kSl k) m u ys:=hw;have a9:∃news,Rl k m news (ys.take xs.length)/\(Builtin.firstCells k.sz (min ys.length xs.length) u).run P w=.ok news.toArray w:=by
  obtain⟨J,cap,rfl,h3,h4,W⟩:=mT hw;have b5:RV (kSl k) m (.slice J (ys.take xs.length).length cap) (ys.take xs.length):=by refine fU (by simp;omega) (by simp;omega) ?_;cases J with
   |none=>exact W|some J=>exact⟨W.1,λq hq=>by rw[List.getElem_take];exact W.2 q (by simp at hq;omega)⟩
  obtain⟨news,h6,h7,_⟩:=nY (P:=P) hS b5;have h8:=h7 w (λ_ _=>rfl);refine⟨news,h6,?_⟩;rw[Zr,Nat.min_comm]at h8;cases J<;>simpa[Builtin.firstCells]using h8
 obtain⟨news,hR,a1⟩:=a9;have a3:=AY (P:=P) hw w;rcases Za (min ys.length xs.length)with h0|h0
 ·have c0:cpy xs ys=xs:=by
   unfold cpy;rcases Za ys.length with h|h
   ·have:ys=[]:=Z1 h;subst this;simp
   ·have:xs=[]:=Z1 (by omega);subst this;simp
  have b0:news=[]:=Z1 (by rw[hR.1,Zr,Nat.min_comm,h0];simp);subst b0;obtain⟨J,cap,hv,_⟩:=hg.val;have hr:ay P ⟨some d,.call ⟨.builtin .copy,#[x,y],#[t,t2]⟩,ty,pos,aft,g⟩ a w (.int .i64 (min ys.length xs.length:Nat)) w:=by have a4:=Z.eval hx;rw[hv]at a4;cases J with
   |none=>simp[ay,execOp,resolve,invoke,builtin,a4,Z.eval hy,Builtin.copy_,run_underlying hu,hs,a3,a2,a1,goInt]|some J=>simp[ay,execOp,resolve,invoke,builtin,a4,Z.eval hy,Builtin.copy_,run_underlying hu,hs,a3,a2,a1,goInt,storeCells]
  exact hr.step ⟨rfl,cs,by rw[c0];exact hg,by rw[b7];exact hS⟩
 ·obtain⟨b2,⟨rfl,_⟩|⟨cap,rfl,h3,h4,W⟩⟩:=hg;·simp at h0
  have b1:(ys.take xs.length).length=min ys.length xs.length:=by rw[Zr,Nat.min_comm]
  have b3:news.length=min ys.length xs.length*k.sz:=by rw[hR.1,b1]
  have c2:min ys.length xs.length*k.sz<=xs.length*k.sz:=j6 _ (Nat.min_le_right _ _);have c5:xs.length*k.sz<=cap*k.sz:=j6 _ h3;have c1:0<min ys.length xs.length*k.sz:=Y6 h0 hp;have a6:cs≠[]:=λe=>by subst e;simp at h4;omega
  obtain⟨hB,hm,t0,ht⟩:=hS.own i _ hL a6;have a5:=ff (P:=P) news b 0 0 cs t0 w ht (by omega) hR.one;simp only[Zm,Y8,Y4,Zo]at a5;have hr:ay P ⟨some d,.call ⟨.builtin .copy,#[x,y],#[t,t2]⟩,ty,pos,aft,g⟩ a w (.int .i64 (min ys.length xs.length:Nat)) (w.setRow b (news++cs.drop news.length).toArray):=by simp[ay,execOp,resolve,invoke,builtin,Z.eval hx,Z.eval hy,Builtin.copy_,run_underlying hu,hs,a3,a2,a1,goInt,a5]
  have a0:(cpy xs ys).length=xs.length:=by unfold cpy;simp;omega
  refine hr.step ⟨rfl,_,⟨by rw[a0];exact b2,.inr ⟨cap,by rw[a0],by rw[a0];exact h3,by simp;omega,?_⟩⟩,hS.setL hL a6 _⟩;have b4:Rl k m ((cs.take (xs.length*k.sz)).drop (min ys.length xs.length*k.sz)) (xs.drop ys.length):=by
   refine⟨?_,λq hq=>?_⟩
   ·simp;rw[Nat.sub_mul];rcases Nat.le_total ys.length xs.length with h|h;·rw[Z5 h,Z5 (by omega)]
    ·rw[Yw h,Z5 (by omega)];have:=j6 k.sz h;omega
   ·have b6:ys.length+q<xs.length:=by simp at hq;omega
    have h6:=W.2 (ys.length+q) b6;rw[Z5 (by omega),Ze,←Z6];simpa using h6
  have:=Rl.app hR b4;rw[a0];have e1:(news++cs.drop news.length).take (xs.length*k.sz)=news++(cs.take (xs.length*k.sz)).drop (min ys.length xs.length*k.sz):=by rw[List.take_append,Z2 (by omega),Zd,b3]
  rw[e1];exact this
end
open Go.RowKit (Below)
section
variable{δ:List Nat}{ro:Option Nat}{O:Type}{k:Kd O}{m m':M}{b b':Nat}{cs cs':List Value}{v:Value}{xs ys:List O}
theorem GS.arr_len{a:Option Addr}{n c:Nat}(h:GS k m b cs (.slice a n c) xs):xs.length=n:=by obtain⟨a',W,J,_⟩:=h.val;injection J with _ h _;exact h.symm
theorem GS.len_eq (h:GS k m b cs v xs)(Z:GS k m' b' cs' v ys):ys.length=xs.length:=by obtain⟨a1,c1,W,_⟩:=h.val;obtain⟨a2,c2,J,_⟩:=Z.val;rw[W]at J;injection J with _ h _;exact h.symm
theorem Rl.take (h:Rl k m cs xs)(q:Nat):Rl k m (cs.take (q*k.sz)) (xs.take q):=by
 refine⟨?_,λi hi=>?_⟩
 · rw[Zr,Zr,h.1];rcases Nat.le_total q xs.length with J|J
   ·have:=j6 k.sz J;rw[Z5 this,Z5 J]
   ·have:=j6 k.sz J;rw[Yw this,Yw J]
 · have hi':i<q/\i<xs.length:=by simp at hi;omega
   have J:=iN (sz:=k.sz) hi'.1;rw[List.getElem_take,Zd,Zb,Z5 (by omega)];exact h.2 i hi'.2
theorem Rl.drop (h:Rl k m cs xs)(q:Nat):Rl k m (cs.drop (q*k.sz)) (xs.drop q):=by
 refine⟨by rw[List.length_drop,List.length_drop,h.1,Nat.sub_mul],λi hi=>?_⟩;have hi':q+i<xs.length:=by simp at hi;omega
 rw[List.getElem_drop,Ze,←Z6];exact h.2 _ hi'
def spl (xs:List O)(q:Nat)(ys:List O):List O:=xs.take q++ys++xs.drop (q+ys.length)
theorem GS.splice{news:List Value}(h:GS k m b cs v xs){q:Nat}(Z:q+ys.length<=xs.length)(W:Rl k m news ys):GS k m b (cs.take (q*k.sz)++news++cs.drop (q*k.sz+news.length)) v (spl xs q ys):=by
 have J:(spl xs q ys).length=xs.length:=by unfold spl;simp;omega
 obtain⟨h0,⟨rfl,rfl,ad,rfl,ha⟩|⟨cap,rfl,h2,h3,h4⟩⟩:=h
 ·simp at Z;obtain⟨rfl,rfl⟩:=Z;have hn:news=[]:=Z1 (by rw[W.1];simp);subst hn;exact⟨by simp[spl],.inl ⟨by simp[spl],by simp,ad,rfl,ha⟩⟩
 · have a0:=W.1;have e1:(q+ys.length)*k.sz<=xs.length*k.sz:=j6 _ Z;have e2:xs.length*k.sz<=cap*k.sz:=j6 _ h2;rw[Z6]at e1;refine⟨by rw[J];exact h0,.inr ⟨cap,by rw[J],by rw[J];exact h2,by simp;omega,?_⟩⟩;rw[J];have a1:=h4.take q;rw[Zb,Z5 (by omega)]at a1;have a2:=h4.drop (q+ys.length);rw[Zd,Z6,←a0]at a2;have:=(a1.app W).app a2;unfold spl;have e4:(cs.take (q*k.sz)++news).length=q*k.sz+news.length:=by simp;omega
   rw[List.take_append,Z2 (by rw[e4];omega),e4];exact this
theorem Rl.rep{c:List Value}{z:O}(h:k.R m c z):∀n,Rl k m (Zw n c).flatten (Zw n z)
 |0=>Rl.nil|n+1=>by rw[List.replicate_succ,List.flatten_cons,List.replicate_succ];exact Rl.app (Rl.single h) (Rl.rep h n)
theorem GS.zero{c:List Value}{z:O}(h:∀m,k.R m c z){n:Nat}(J:Yf n cz=true):GS k m b (Zw n c).flatten (.slice (some ⟨b,0,none⟩) n n) (Zw n z):=by have:=GS.of_Rl (b:=b) (Rl.rep (h m) n) (by rw[Yh];exact Z0 J);rwa[Yh]at this
end
def VS (b sz:Nat)(v:Value)(q n:Nat):Prop:=∃ad c,v=.slice ad n c/\(0<n->ad=some ⟨b,q*sz,none⟩)
def vw{O:Type}(xs:List O)(lo hi:Int):Option (Nat×Nat):=if 0<=lo/\lo<=hi/\hi<=(xs.length:Int)then some (lo.toNat,hi.toNat-lo.toNat)else none
theorem NL{O:Type}{xs:List O}{lo hi:Int}{q:Nat×Nat}(h:vw xs lo hi=some q):0<=lo/\lo<=hi/\hi<=(xs.length:Int)/\q.1=lo.toNat/\q.2=hi.toNat-lo.toNat:=by
 unfold vw at h;split at h
 ·rename_i J;injection h with h;exact⟨J.1,J.2.1,J.2.2,by rw[←h],by rw[←h]⟩
 ·cases h
def ixv (q n:Nat)(i:Int):Option Nat:=if 0<=i/\i<(n:Int)then some (q+i.toNat)else none
theorem K7{q n:Nat}{i:Int}{j:Nat}(h:ixv q n i=some j):0<=i/\i<(n:Int)/\j=q+i.toNat:=by
 unfold ixv at h;split at h;·injection h with h;omega
 ·cases h
def clr{O:Type}(xs:List O)(q n:Nat)(z:O):Option (List O):=if q+n<=xs.length then some (spl xs q (Zw n z))else none
def cpv{O:Type}(xs:List O)(p q:Nat×Nat):Option (List O):=if p.1+p.2<=xs.length/\q.1+q.2<=xs.length then some (spl xs p.1 ((xs.drop q.1).take (min q.2 p.2)))else none
section
variable{δ:List Nat}{ro:Option Nat}{P:Program}{W0:Bse}{m:M}{L:List (Nat×List Value)}{TL:List (Nat×Value)}{n:Nat}{a:Act}{l:List (Nat×Value)}{w:World}{ty t t2 e:TypeId}{pos:String}{aft:Array Edge}{g:Option (Nat×Bool)}{x y:Operand}{d:Nat}{O β:Type}{k:Kd O}{k':Kd β}{by_ N b i:Nat}{cs:List Value}{v:Value}{xs ys:List O}
theorem Ja{xh:Operand}{Z:IntKind}{hi:Int}(J:aw δ n a l)(hx:evl l x=some v)(hu:P.underlying t=some (.slice e))(hs:∀w,(sizeOf e).run P w=.ok k.sz w)(hg:GS k m b cs v xs)(hh:evl l xh=some (.int Z hi))(a1:sub xs 0 hi=some ys):a8 P ⟨some d,.slice t x none (some xh) none,ty,pos,aft,g⟩ a w (λv' w'=>w=w'/\GS k m b cs v' ys):=by
 obtain⟨h0,h1,h2,rfl⟩:=wV a1;have h:((xs.take hi.toNat).drop (0:Int).toNat).length=hi.toNat:=by simp;omega
 obtain⟨a2,⟨rfl,rfl,W,rfl,ha⟩|⟨cap,rfl,h3,h4,h5⟩⟩:=hg
 · have a0:hi.toNat=0:=by simp at h2;omega
   have:=sd (k:=k) (w:=w) (a:=W) (len:=0) (cap:=0) (lo:=none) (hi:=some (.int Z hi)) (lo':=0) (hi':=hi.toNat) hu hs rfl (by simp only;omega) (by omega) (by omega);have hr:ay P ⟨some d,.slice t x none (some xh) none,ty,pos,aft,g⟩ a w (.slice W 0 0) w:=by simp only[ay,execOp,J.eval hx,Zn,Option.map_none,J.eval hh];simp only[Sem.run_bind,this,Result.andThen_ok];simp[a0]
   exact hr.step ⟨rfl,by simp,.inl ⟨by simp,rfl,W,rfl,ha⟩⟩
 · have:=sd (k:=k) (w:=w) (a:=some ⟨b,0,none⟩) (len:=xs.length) (cap:=cap) (lo:=none) (hi:=some (.int Z hi)) (lo':=0) (hi':=hi.toNat) hu hs rfl (by simp only;omega) (by omega) (by omega);have hr:ay P ⟨some d,.slice t x none (some xh) none,ty,pos,aft,g⟩ a w (.slice (some ⟨b,0,none⟩) hi.toNat cap) w:=by
    simp only[ay,execOp,J.eval hx,Zn,Option.map_none,J.eval hh];simp only[Sem.run_bind,this,Result.andThen_ok];by_cases hc:cap=0;·simp[hc]
    ·simp[hc,gw]
   refine hr.step ⟨rfl,by rw[h];omega,.inr ⟨cap,by rw[h],by rw[h];omega,h4,?_⟩⟩;have h6:=h5.take hi.toNat;have h7:hi.toNat*k.sz<=xs.length*k.sz:=j6 _ (by omega);rw[Zb,Z5 h7]at h6;rw[h];exact h6
theorem wY{xl xh:Option Operand}{lo hi:Int}{q:Nat×Nat}(Z:aw δ n a l)(hx:evl l x=some v)(hu:P.underlying t=some (.slice e))(hs:∀w,(sizeOf e).run P w=.ok k.sz w)(hg:GS k m b cs v xs)(hl:match xl with|some o=>∃h,evl l o=some (.int h lo)|none=>lo=0) (hh:match xh with|some o=>∃h,evl l o=some (.int h hi)|none=>hi=(xs.length:Int)) (hv:vw xs lo hi=some q){sz:Nat}(hz:k.sz=sz):a8 P ⟨some d,.slice t x xl xh none,ty,pos,aft,g⟩ a w (λv' w'=>w=w'/\VS b sz v' q.1 q.2):=by
 obtain⟨h0,h1,h2,h3,h4⟩:=NL hv;subst hz;obtain⟨W,cap,rfl,a3⟩:=hg.val;have hr:ay P ⟨some d,.slice t x xl xh none,ty,pos,aft,g⟩ a w (.slice (if cap=lo.toNat then W else W.map (·.add (lo.toNat*k.sz))) (hi.toNat-lo.toNat) (cap-lo.toNat)) w:=by
  have:=sd (w:=w) (a:=W) (len:=xs.length) (cap:=cap) (lo:=xl.map a.eval) (hi:=xh.map a.eval) (lo':=lo.toNat) (hi':=hi.toNat) hu hs (by cases xl with
   |none=>simp at hl⊢;omega|some o=>obtain⟨h,J⟩:=hl;simp only[Zn,Z.eval J];omega) (by cases xh with
   |none=>simp at hh⊢;omega|some o=>obtain⟨h,J⟩:=hh;simp only[Zn,Z.eval J];omega) (by omega) (by omega);simp[ay,execOp,Z.eval hx,this]
 refine hr.step ⟨rfl,?_⟩;rw[h3,h4];refine⟨_,_,rfl,λa1=>?_⟩;obtain⟨_,⟨rfl,_⟩|⟨a2,a0,_⟩⟩:=hg;·simp at h2;omega
 ·injection a0 with e1 _ _;subst e1;rw[if_neg (by omega)];simp[gw]
theorem Pn{h:Array TypeId}{q len sz:Nat}(W:aw δ n a l)(Z:evl l x=some v)(ht:h[0]?=some t)(J:P.underlying t=some (.slice e))(hg:VS b sz v q len):ay P ⟨some d,.call ⟨.builtin .len,#[x],h⟩,ty,pos,aft,g⟩ a w (.int .i64 (len:Int)) w:=by obtain⟨ad,cap,rfl,_⟩:=hg;simp[ay,execOp,resolve,invoke,builtin,W.eval Z,Builtin.len_,ht,run_underlying J,goInt]
theorem AZ{kk:IntKind}{i:Int}{j sz q len:Nat}(h:aw δ n a l)(hx:evl l x=some v)(hy:evl l y=some (.int kk i))(Z:P.underlying t=some (.slice e))(hs:∀w,(sizeOf e).run P w=.ok sz w)(hg:VS b sz v q len)(hi:ixv q len i=some j):ay P ⟨some d,.indexAddr t x y,ty,pos,aft,g⟩ a w (.pointer (some ⟨b,j*sz,none⟩)) w:=by
 obtain⟨h0,W,rfl⟩:=K7 hi;obtain⟨ad,c,rfl,a0⟩:=hg;have J:q*sz+i.toNat*sz=(q+i.toNat)*sz:=by rw[Z6]
 simp[ay,execOp,h.eval hx,h.eval hy,a0 (by omega),Instr.indexAt,asIntOf,run_underlying Z,h0,W,hs,gw,J]
theorem Jb{W:Array TypeId}{q len:Nat}{z:Value}{z0:O}{ys:List O}(hE:aw δ n a l) (hS:S W0 m w L TL) (hx:evl l x=some v) (ht:W[0]?=some t) (hu:P.underlying t=some (.slice e)) (hz:∀w,(zeroValue e).run P w=.ok z w) (a6:∀m,k.R m z.cells.toList z0){v0:Value}(J:L[i]?=some (b,cs)) (hg:GS k m b cs v0 xs) (hv:VS b k.sz v q len) (h:clr xs q len z0=some ys):a8 P ⟨none,.call ⟨.builtin .clear,#[x],W⟩,ty,pos,aft,g⟩ a w (λ_ w'=>∃cs',GS k m b cs' v0 ys/\S W0 m w' (L.set i (b,cs')) TL):=by
 unfold clr at h;split at h
 · rename_i a0;injection h with h;subst h;obtain⟨ad,c,rfl,b3⟩:=hv;rcases Za len with h0|h0
   · subst h0;have c0:i<L.length:=(zx.1 J).1;have b5:L.set i (b,cs)=L:=by obtain⟨h1,h2⟩:=zx.1 J;rw[←h2];exact Y2 h1
     have hr:ay P ⟨none,.call ⟨.builtin .clear,#[x],W⟩,ty,pos,aft,g⟩ a w (.tuple #[]) w:=by cases ad<;>simp[ay,execOp,resolve,invoke,builtin,hE.eval hx,Builtin.clear_,ht,run_underlying hu]
     exact hr.step ⟨cs,by simpa[spl]using hg,by rw[b5];exact hS⟩
   · have Z:Rl k m (Builtin.zeroCells z.cells len).toList (Zw len z0):=by
      have a1:=k.len (a6 m);have b6:z.cells.size=k.sz:=by simpa using a1
      refine⟨by simp[Builtin.zeroCells,b6],λj hj=>?_⟩;simp only[Yx];have b1:j<len:=by simpa using hj
      have b0:z.cells.size=k.sz:=by simpa using a1
      have e1:((Builtin.zeroCells z.cells len).toList.drop (j*k.sz)).take k.sz=z.cells.toList:=by
       apply Yu;intro r;rw[Zx,Zu];have h2:=iN (sz:=k.sz) b1;by_cases hr':r<k.sz
       · rw[if_pos hr'];have h3:(j*k.sz+r)%k.sz=r:=by rw[Nat.mul_comm,Nat.mul_add_mod];exact Yv hr'
         have h4:j*k.sz+r<len*k.sz:=by omega
         have a3:r<z.cells.size:=by omega
         have h5:z.cells[r]! =z.cells[r]:=getElem!_pos z.cells r a3;simp[Builtin.zeroCells,h4,b0,h3,h5,Array.getElem?_eq_getElem a3]
       ·rw[if_neg hr',Yg (by rw[a1];omega)]
      rw[e1];exact a6 m
     have b4:=hg.splice (q:=q) (by simpa using a0) Z;have b2:=Z.1;rw[Yh]at b2;obtain⟨_,⟨rfl,_⟩|⟨cap,rfl,h3,h4,h5⟩⟩:=hg;·simp at a0;omega
     have e1:(q+len)*k.sz<=xs.length*k.sz:=j6 _ a0;have e2:xs.length*k.sz<=cap*k.sz:=j6 _ h3;have e3:0<len*k.sz:=Y6 h0 k.pos;rw[Z6]at e1;have a4:cs≠[]:=λe=>by subst e;simp at h4;omega
     obtain⟨hB,hm,t0,a9⟩:=hS.own i _ J a4;have a2:=ff (P:=P) _ b (q*k.sz) 0 cs t0 w a9 (by omega) Z.one;simp only[Zm]at a2;have hr:ay P ⟨none,.call ⟨.builtin .clear,#[x],W⟩,ty,pos,aft,g⟩ a w (.tuple #[]) (w.setRow b (cs.take (q*k.sz)++(Builtin.zeroCells z.cells len).toList++cs.drop (q*k.sz+(Builtin.zeroCells z.cells len).toList.length)).toArray):=by
      have a5:=hE.eval hx;rw[b3 h0]at a5;have c1:len≠0:=by omega
      obtain⟨b7,rfl⟩:∃q,len=q+1:=⟨len-1,by omega⟩;simp only[ay,execOp,resolve,invoke,builtin,Builtin.clear_];simp[a5,ht,run_underlying hu,hz];simp at a2;simp[a2]
     exact hr.step ⟨_,b4,hS.setL J a4 _⟩
 ·cases h
theorem Jc{u:Value}{p q:Nat×Nat}(Z:aw δ n a l) (hS:S W0 m w L TL) (hx:evl l x=some v) (hy:evl l y=some u) (hu:P.underlying t=some (.slice e)) (hs:∀w,(sizeOf e).run P w=.ok k.sz w) (W:L[i]?=some (b,cs)){v0:Value}(hg:GS k m b cs v0 xs) (hv:VS b k.sz v p.1 p.2) (hw:VS b k.sz u q.1 q.2) (h:cpv xs p q=some ys):a8 P ⟨some d,.call ⟨.builtin .copy,#[x,y],#[t,t2]⟩,ty,pos,aft,g⟩ a w (λv' w'=>v'=.int .i64 (min q.2 p.2:Nat)/\∃cs',GS k m b cs' v0 ys/\S W0 m w' (L.set i (b,cs')) TL):=by
 unfold cpv at h;split at h
 · rename_i b3;injection h with h;subst h;obtain⟨a5,c0⟩:=b3;have c1:i<L.length:=(zx.1 W).1;have b5:L.set i (b,cs)=L:=by obtain⟨h1,h2⟩:=zx.1 W;rw[←h2];exact Y2 h1
   have a4:Nat.min q.2 p.2=min q.2 p.2:=rfl;obtain⟨ad,c,rfl,b4⟩:=hv;obtain⟨b0,c',rfl,b7⟩:=hw;rcases Za (min q.2 p.2)with h0|h0
   · have hr:ay P ⟨some d,.call ⟨.builtin .copy,#[x,y],#[t,t2]⟩,ty,pos,aft,g⟩ a w (.int .i64 (min q.2 p.2:Nat)) w:=by
      have a0:(Builtin.firstCells k.sz (min q.2 p.2) (.slice b0 q.2 c')).run P w=.ok #[] w:=by rw[h0];cases b0<;>simp[Builtin.firstCells,loadCells,loadCellsFrom]
      cases ad<;>simp[ay,execOp,resolve,invoke,builtin,Z.eval hx,Z.eval hy,Builtin.copy_,run_underlying hu,hs,Builtin.lenOf,a4,a0,goInt,storeCells]
     exact hr.step ⟨rfl,cs,by simpa[spl,h0]using hg,by rw[b5];exact hS⟩
   · have b1:=λ(news:List Value)J=>hg.splice (q:=p.1) (ys:=(xs.drop q.1).take (min q.2 p.2)) (news:=news) (by simp;omega) J;obtain⟨_,⟨rfl,_⟩|⟨cap,rfl,h3,h4,h5⟩⟩:=hg;·simp at a5;omega
     have e1:(p.1+p.2)*k.sz<=xs.length*k.sz:=j6 _ a5;have e2:xs.length*k.sz<=cap*k.sz:=j6 _ h3;have e3:0<min q.2 p.2*k.sz:=Y6 h0 k.pos;have e4:(q.1+q.2)*k.sz<=xs.length*k.sz:=j6 _ c0;have e5:min q.2 p.2*k.sz<=p.2*k.sz:=j6 _ (Nat.min_le_right _ _);have e6:min q.2 p.2*k.sz<=q.2*k.sz:=j6 _ (Nat.min_le_left _ _);rw[Z6]at e1 e4;have J:=(h5.drop q.1).take (min q.2 p.2);have e7:((cs.take (xs.length*k.sz)).drop (q.1*k.sz)).take (min q.2 p.2*k.sz)=(cs.drop (q.1*k.sz)).take (min q.2 p.2*k.sz):=by rw[Zd,Zb,Z5 (by omega)]
     rw[e7]at J;have b6:=b1 _ J;have a3:((cs.drop (q.1*k.sz)).take (min q.2 p.2*k.sz)).length=min q.2 p.2*k.sz:=by simp;omega
     have a6:cs≠[]:=λe=>by subst e;simp at h4;omega
     obtain⟨hB,hm,t0,b2⟩:=hS.own i _ W a6;have a1:=ff (P:=P) _ b (p.1*k.sz) 0 cs t0 w b2 (by omega) J.one;simp only[Zm]at a1;have hA:=hS.atL (o:=q.1*k.sz) (cs':=(cs.drop (q.1*k.sz)).take (min q.2 p.2*k.sz)) W (by rw[a3]) (by omega);have a0:(Builtin.firstCells k.sz (min q.2 p.2) (.slice (some ⟨b,q.1*k.sz,none⟩) q.2 c')).run P w=.ok ((cs.drop (q.1*k.sz)).take (min q.2 p.2*k.sz)).toArray w:=run_firstCells_some w _ _ _ _ _ _ a3 (λj v hj=>by rw[gw];exact hA.cell hj);have hr:ay P ⟨some d,.call ⟨.builtin .copy,#[x,y],#[t,t2]⟩,ty,pos,aft,g⟩ a w (.int .i64 (min q.2 p.2:Nat)) (w.setRow b (cs.take (p.1*k.sz)++(cs.drop (q.1*k.sz)).take (min q.2 p.2*k.sz)++cs.drop (p.1*k.sz+((cs.drop (q.1*k.sz)).take (min q.2 p.2*k.sz)).length)).toArray):=by have a9:=Z.eval hx;have a2:=Z.eval hy;rw[b4 (by omega)]at a9;rw[b7 (by omega)]at a2;simp only[ay,execOp,resolve,invoke,builtin,Builtin.copy_];simp[a9,a2,run_underlying hu,hs,Builtin.lenOf,a4,a0,goInt];simp at a1;simp[a1]
     exact hr.step ⟨rfl,_,b6,hS.setL W a6 _⟩
 ·cases h
theorem He{ps:Array (Nat×Operand)}{vs:List Value}{xs:List O}{z:Value}(hE:aw δ n a l)(hS:S W0 m w L TL)(hp:prt l ps=some (num 0 vs))(hu:P.underlying t=some (.slice e))(hs:∀w,(sizeOf e).run P w=.ok k.sz w)(hz:∀w,(zeroValue e).run P w=.ok z w)(h:RVl k m vs xs){len:Nat}(a3:vs.length=len) (a1:Yf (len*k.sz) 16777216=true):a8 P ⟨some d,.buildSlice t len ps,ty,pos,aft,g⟩ a w (λv' w'=>∃b cs,GS k m b cs v' xs/\S W0 m w' ((b,cs)::L) TL):=by
 have hR:=h.cells;have Z:=h.length;have a4:=Z0 a1;subst a3;have a2:=k.pos;have a0:(Instr.buildSlice t vs.length (ps.map λp=>(p.1,a.eval p.2))).run P w=.ok (.slice (some ⟨w.heap.size,0,none⟩) vs.length vs.length) (w.alloc (.cells (jf vs).toArray e)):=by
  have W:=λ(cs:Array Value) (J:cs.size=vs.length*k.sz)=>by have:=wW (sz:=k.sz) vs 0 cs.toList h.size (by simp[J]);simpa[J,Y4,Z9 (show cs.toList.length<=vs.length*k.sz by simp[J])]using this
  simp only[Instr.buildSlice,Sem.run_bind,run_underlying hu,Result.andThen_ok,hs,pX hE hp];rw[if_neg (by omega)];by_cases h0:vs.length*k.sz=0
  ·simp only[h0,if_true,Sem.run_bind,Sem.run_pure,Result.andThen_ok];have:=W ((Array.range 0).map (λx=>(#[]:Array Value)[x%(#[]:Array Value).size]!)) (by simp[h0]);rw[this];simp[newRow]
  ·simp only[h0,if_false,Sem.run_bind,hz,Sem.run_pure,Result.andThen_ok];have:=W ((Array.range (vs.length*k.sz)).map (λx=>z.cells[x%z.cells.size]!)) (by simp);rw[this];simp[newRow]
 have hr:ay P ⟨some d,.buildSlice t vs.length ps,ty,pos,aft,g⟩ a w (.slice (some ⟨w.heap.size,0,none⟩) vs.length vs.length) (w.alloc (.cells (jf vs).toArray e)):=by simp[ay,execOp,a0]
 refine hr.step ⟨w.heap.size,jf vs,?_,hS.allocL (jf vs) e⟩;rw[Z];exact GS.of_Rl hR (by rw[←Z];unfold cz;have:=Yi vs.length a2;simp at this;omega)
theorem K8{kk:IntKind}{i:Int}{s:List Int}{c:Int}(J:aw δ n a l)(hx:evl l x=some (.string (bts s)))(hy:evl l y=some (.int kk i))(Z:P.underlying t=some .string)(hs:∀n∈s,0<=n/\n<256)(hi:idx s i=some c):ay P ⟨some d,.index t x y,ty,pos,aft,g⟩ a w (.int .u8 c) w:=by
 obtain⟨h0,h,rfl⟩:=AU hi;have W:(bts s)[i.toNat]?=some (UInt8.ofNat s[i.toNat].toNat):=by show(bts s).data[i.toNat]?=_;simp[bts,h]
 simp[ay,execOp,J.eval hx,J.eval hy,Instr.index,asIntOf,run_underlying Z,h0,W];have:=hs _ (Yj h);omega
theorem K9{s:List Int}{i:Int}{c:Int}(J:∀n∈s,0<=n/\n<256)(hi:idx s i=some c):inR .u8 c:=by obtain⟨W,h,rfl⟩:=AU hi;have:=J _ (Yj h);unfold inR IntKind.wrap;simp[IntKind.bits,IntKind.signed];omega
end
open Go.RowKit (Below)
structure Wit where
 b:Nat
 v:Value
 c:List Value
 c':List Value
 c'':List Value
def wi (h:List Wit)(j:Nat):Wit:=h.getD j ⟨0,undef,[],[],[]⟩
theorem eS{O:Type}{l:List O}(h:l.length=0):l=[]:=Z1 h
theorem A0{O:Type}{l:List O}(h:l.length=1):∃x,l=[x]:=match l,h with|[x],_=>⟨x,rfl⟩
theorem WJ{O:Type}{l:List O}(h:l.length=2):∃x y,l=[x,y]:=match l,h with|[x,y],_=>⟨x,y,rfl⟩
theorem Po{a n:Nat}(h:a+n<=a):n=0:=by omega
theorem HS{O:Type}{l:List O}{a n:Nat}(h:a+l.length<=a+(n+1)):l.length=0\/∃x r,l=x::r/\a+r.length<=a+n:=match l,h with
 |[],_=>.inl rfl|x::r,h=>.inr ⟨x,r,rfl,by simp at h;omega⟩
def Ex (h:List Nat)(J:List Nat):Nat:=J.foldl (λx j=>x|||(h.getD j 0|||1<<<j)) 0
def HT (os:List Oper):List Nat:=os.foldl (λh o=>h++[Ex h (bm o)]) []
structure COp where
 lo:Nat
 hi:Nat
 tur:Bool
 olds:List (Nat×Value)
abbrev jc(l:List (Nat×Value)):COp:=⟨0,0,false,l⟩
def COp.lv (c:COp):Nat:=if c.tur then c.lo+1 else c.lo
theorem Ed (W:List Nat)(J:List Nat)(q:Nat):(Ex W J).testBit q=true->∃j∈J,(W.getD j 0).testBit q=true\/q=j:=by
 unfold Ex;have key:∀(J:List Nat) (x:Nat),(J.foldl (λx j=>x|||(W.getD j 0|||1<<<j)) x).testBit q=true->x.testBit q=true\/∃j∈J,(W.getD j 0).testBit q=true\/q=j:=by
  intro J;induction J with
  |nil=>intro x h;exact .inl h|cons j r ih=>
   intro x h;rw[List.foldl_cons]at h;rcases ih _ h with h|⟨Z,a0,h⟩
   ·simp only[Nat.testBit_or,X7]at h;rcases h with h|h|h;·exact .inl h
    ·exact .inr ⟨j,by simp,.inl h⟩
    ·refine .inr ⟨j,by simp,.inr ?_⟩;rw[Nat.shiftLeft_eq,Nat.one_mul,Nat.testBit_two_pow]at h;exact(of_decide_eq_true h).symm
   ·exact .inr ⟨Z,by simp[a0],h⟩
 intro h;rcases key J 0 h with h|h;·simp at h
 ·exact h
theorem Dz (os:List Oper)(s:Nat->Bool)(hc:∀(j:Nat)(o:Oper),os[j]?=some o->s j=true->∀e∈bm o,s e=true)(i:Nat)(o:Oper)(hi:os[i]?=some o)(W:∀e∈bm o,s e=true)(a3:nZ os=true):∀q,((HT os).getD i 0).testBit q=true->s q=true:=by
 have a2:∀(done rest:List Oper) (Z:List Nat),os=done++rest->Z.length=done.length->(∀i o,done[i]?=some o->(∀e∈bm o,s e=true)->∀q,(Z.getD i 0).testBit q=true->s q=true)->∀i o,os[i]?=some o->(∀e∈bm o,s e=true)->∀q,((rest.foldl (λZ o=>Z++[Ex Z (bm o)]) Z).getD i 0).testBit q=true->s q=true:=by
  intro done rest;induction rest generalizing done with
  |nil=>intro Z he hl h i o hi W q J;simp at he;subst he;exact h i o hi W q J|cons x r ih=>
   intro Z he hl h i o hi W q J;rw[List.foldl_cons]at J;refine ih (done++[x]) _ (by simp[he]) (by simp[hl]) ?_ i o hi W q J;intro i o hi W q J;rcases Y7 i done.length with h1|h1
   ·rw[Zl h1]at hi;refine h i o hi W q ?_;rw[Y5,Zl (by omega)]at J;rw[Y5];exact J
   ·rw[Zi h1]at hi;have h2:i=done.length:=by have:=(zx.1 hi).1;simp at this;omega
    subst h2;simp at hi;subst hi;rw[Y5,Zi (by omega)]at J;simp[hl]at J;obtain⟨j,hj,h3⟩:=Ed _ _ _ J;have a0:=W j hj;rcases h3 with h3|h3
    ·have a1:j<done.length:=kg a3 (i:=done.length) (o:=x) (by rw[he];simp) j hj;have ho:done[j]?=some done[j]:=by simp[a1]
     exact h j done[j] ho (hc j done[j] (by rw[he,Zl a1];exact ho) a0) q h3
    ·subst h3;exact a0
 exact a2 [] os [] (by simp) rfl (λi o hi=>by simp at hi) i o hi W
section
variable{δ:List Nat}{ro:Option Nat}{P:Program}{W0:Bse}{m:M}{L:List (Nat×List Value)}{TL:List (Nat×Value)}{n:Nat}{a:Act}{l:List (Nat×Value)}{w:World}
theorem pB{ops:Array Oper}{a:Act}{g W:Nat}(Z:cw ops g=some W)(J:a.tmps.getD W undef=undef):yielded ops a.tmps g=none:=by unfold cw at Z;unfold yielded;rw[Z];simp only[X4];rw[Array.getD_eq_getD_getElem?]at J;cases h:a.tmps[W]?with
 |none=>rfl|some v=>rw[h]at J;simp at J;rw[J];rfl
def ChS (δ:List Nat)(P:Program)(os:List Oper)(Φ:Nat->M->List Wit->Value->Prop)(Q:Nat->M->List Wit->List (Nat×List Value)->List (Nat×Value)->Prop)(W0:Bse)(m:M)(n:Nat)(cs:List COp)(i:Nat)(c:COp)(o:Oper):Prop:=∀pre post L' TL' m' a w,pre.length=c.lo->c.lo+post.length<=c.hi->M.le m m'->Q (c.lo+post.length) m' (pre++post) L' TL'->S W0 m' w L' TL'->aw δ n a c.olds->(∀j∈bm o,∀d,cw os.toArray j=some d->Φ j m' (pre.take ((cs.map COp.lv).getD j 0)) (a.tmps.getD d undef))->if Region.wanted o (yielded os.toArray a.tmps)=true then a8 P o a w (λv w'=>∃m'',M.le m' m''/\S W0 m'' w' L' TL'/\Φ i m'' pre v)else Φ i m' pre undef
def ChM (δ:List Nat)(P:Program)(os:List Oper)(Φ:Nat->M->List Wit->Value->Prop)(Q:Nat->M->List Wit->List (Nat×List Value)->List (Nat×Value)->Prop)(W0:Bse)(m:M)(n:Nat)(cs:List COp)(i:Nat)(c:COp)(o:Oper):Prop:=∀pre L' TL' m' a w,pre.length=c.lo->M.le m m'->Q c.lo m' pre L' TL'->S W0 m' w L' TL'->aw δ n a c.olds->(∀j∈bm o,∀d,cw os.toArray j=some d->Φ j m' (pre.take ((cs.map COp.lv).getD j 0)) (a.tmps.getD d undef))->Region.wanted o (yielded os.toArray a.tmps)=true/\a8 P o a w (λv w'=>∃m'' wit L'' TL'',M.le m' m''/\S W0 m'' w' L'' TL''/\Q (c.lo+1) m'' (pre++[wit]) L'' TL''/\Φ i m'' (pre++[wit]) v)
def Ey (δ:List Nat)(P:Program)(os:List Oper)(Φ:Nat->M->List Wit->Value->Prop)(Q:Nat->M->List Wit->List (Nat×List Value)->List (Nat×Value)->Prop)(W0:Bse)(m:M)(n:Nat)(cs:List COp):Nat->List COp->List Oper->Prop
 |i,c::r,o::ro=>(match c.tur with|true=>ChM δ P os Φ Q W0 m n cs i c o|false=>ChS δ P os Φ Q W0 m n cs i c o)/\Ey δ P os Φ Q W0 m n cs (i+1) r ro|_,_,_=>True
def Jd (os:List Oper)(i:Nat)(d:Nat):Bool:=os.zipIdx.all λp=>match p.1.dst with|some e=>!(Ya e d)||(bm p.1).any (Ya i)|none=>true
def wb (os:List Oper)(n:Nat):Bool:=os.zipIdx.all (λp=>match p.1.dst with|some d=>Zy d n|none=>true)&&(os.zipIdx.all λp=>os.zipIdx.all λq=>Ya p.2 q.2||(match p.1.dst,q.1.dst with|some d,some e=>!(Ya d e)|_,_=>true))
def ch1 (os:List Oper)(h:List Nat)(es:List Nat)(cs:List COp)(i:Nat)(c:COp)(o:Oper):Bool:=(Zg c.lo).all (λq=>Zy q es.length&&(h.getD i 0).testBit (es.getD q 0))&&(Zg es.length).all (λq=>Zy q (if c.tur then c.lo+1 else c.hi)||(h.getD (es.getD q 0) 0).testBit i)&&(bm o).all (λj=>Yf ((cs.map COp.lv).getD j 0) c.lo)&&(match c.tur with|true=>Zy c.lo es.length&&Ya (es.getD c.lo 0) i|false=>es.all λe=>!(Ya e i))&&c.olds.all (λe=>Jd os i e.1)
def ch2 (J os:List Oper)(h:List Nat)(es:List Nat)(cs0:List COp):Nat->List COp->List Oper->Bool
 |i,c::r,o::ro=>ch1 os h es cs0 i c o&&ch2 J os h es cs0 (i+1) r ro|_,_,_=>true
def wc:List Nat->Bool
 |[]=>true|x::r=>r.all (λy=>!(Ya x y))&&wc r
def La (os:List Oper)(es:List Nat)(cs:List COp)(k n:Nat):Bool:=Ya cs.length k&&wc es&&es.all (λe=>Zy e k&&Zy e os.length)&&wb (os.take k) n&&ch2 os (os.take k) (HT os) es cs 0 cs os
def Ez (l0:List (Nat×Value)):List COp->Prop
 |[]=>True|c::cs=>Sub l0 c.olds/\Ez l0 cs
theorem DA:∀{es:List Nat},wc es=true->∀(p q:Nat) (x:Nat),es[p]?=some x->es[q]?=some x->p=q
 |[],_,p,q,x,h,_=>by simp at h|y::r,h,p,q,x,hp,hq=>by
  unfold wc at h;rw[Zj]at h;have J:∀j,r[j]?=some y->False:=λj W=>by have:=Z8.1 h.1 y (List.mem_of_getElem? W);simp at this
  cases p with
  |zero=>simp at hp;subst hp;cases q with
   |zero=>rfl|succ q=>exact(J q (by simpa using hq)).elim
  |succ p=>cases q with
   |zero=>simp at hq;subst hq;exact(J p (by simpa using hp)).elim|succ q=>rw[DA h.2 p q x (by simpa using hp) (by simpa using hq)]
theorem Pp{os:List Oper}{id k:Nat}{es:List Nat}{cs:List COp}{Φ:Nat->M->List Wit->Value->Prop}{Q:Nat->M->List Wit->List (Nat×List Value)->List (Nat×Value)->Prop}{N Rt:Act->World->Prop}{X:List (Nat×(Act->World->Prop))}(hm:P.follows .mixedOrders=true) (hE:aw δ n a l) (hS:S W0 m w L TL) (hQ:Q 0 m [] L TL) (b5:nZ os=true) (f6:o5 os k=true) (i4:Ez l cs) (c6:La os es cs k n=true)(mono:∀i m m' J v,M.le m m'->Φ i m J v->Φ i m' J v) (j0:∀c m m' J L T,M.le m m'->Q c m J L T->Q c m' J L T)(step:Ey δ P os Φ Q W0 m n cs 0 cs os)(g5:∀J L' a1 m' a w,J.length=es.length->M.le m m'->Q es.length m' J L' a1->S W0 m' w L' a1->a.defers=δ.map (λD=>{target:=.collected D,args:=#[]})->a.tmps.size=n->(∀d v,lk l d=some v->(∀j,j<k->cw os.toArray j≠some d)->a.tmps.getD d undef=v)->(∀j,j<min k os.length->∀d,cw os.toArray j=some d->Φ j m' (J.take ((cs.map COp.lv).getD j 0)) (a.tmps.getD d undef))->wpL ro P os.toArray (mkQ N X Rt) (os.drop k) a w):K ro P (.region id os.toArray true) N X Rt a w:=by
 unfold La at c6;simp only[Zj]at c6;obtain⟨⟨⟨⟨hk,h9⟩,hes⟩,hd⟩,hch⟩:=c6;have hk:=Z4 hk;unfold wb at hd;rw[Zj]at hd;have mem:∀(i:Nat) (o:Oper),os[i]?=some o->i<k->(o,i)∈(os.take k).zipIdx:=λi o hi a4=>by rw[Zt];simp[a4,hi]
 have g2:∀(i:Nat) (o:Oper),os[i]?=some o->i<k->∀d,o.dst=some d->d<n:=λi o hi a4 d a2=>by have:=Z8.1 hd.1 (o,i) (mem i o hi a4);simp only[a2]at this;exact Z0 this
 have g9:∀(i j:Nat) (o o':Oper),os[i]?=some o->os[j]?=some o'->i<k->j<k->i≠j->∀d e,o.dst=some d->o'.dst=some e->d≠e:=λi j o o' hi hj a4 a5 j2 d e a2 b2 i8=>by
  have W:=Z8.1 hd.2 _ (mem i o hi a4);have h2:=Z8.1 W _ (mem j o' hj a5);simp only[a2,b2,X7,Zs]at h2;rcases h2 with h2|h2;·exact j2 (Z4 h2)
  ·subst i8;simp at h2
 have b4:∀(j d:Nat),cw os.toArray j=some d↔∃o,os[j]?=some o/\o.dst=some d:=λj d=>by unfold cw;cases ho:os[j]?with
  |none=>simp[ho]|some o=>simp[ho]
 have i2:∀(r:List COp) (ro:List Oper) (q:Nat),Ey δ P os Φ Q W0 m n cs q r ro->Ez l r->ch2 os (os.take k) (HT os) es cs q r ro=true->∀(i:Nat) (o:Oper) (c:COp),ro[i]?=some o->r[i]?=some c->(∀e∈c.olds,lk l e.1=some e.2)/\ch1 (os.take k) (HT os) es cs (q+i) c o=true/\(match c.tur with|true=>ChM δ P os Φ Q W0 m n cs (q+i) c o|false=>ChS δ P os Φ Q W0 m n cs (q+i) c o):=by
  intro r;induction r with
  |nil=>intro ro q _ _ _ i o c _ h;simp at h|cons c0 r ih=>intro ro q hD e6 hC i o c hi hc;cases ro with
   |nil=>simp at hi|cons o0 ro=>unfold ch2 at hC;rw[Zj]at hC;cases i with
    |zero=>simp at hi hc;subst hi;subst hc;exact⟨e6.1.all,hC.1,hD.1⟩|succ i=>have:=ih ro (q+1) hD.2 e6.2 hC.2 i o c (by simpa using hi) (by simpa using hc);rw[show q+1+i=q+(i+1)by omega]at this;exact this
 have b7:∀q,q<es.length->∃e,es[q]?=some e/\es.getD q 0=e/\e<k/\∃o,os[e]?=some o:=λq hq=>by have W:=Z8.1 hes es[q] (Yj hq);rw[Zj]at W;have h2:es[q]<os.length:=Z0 W.2;exact⟨es[q],by simp[hq],by simp[List.getD,hq],Z0 W.1,os[es[q]],by simp[h2]⟩
 refine EY (k:=k) hm b5 f6 (λs a w=>∃J L' a1 m',J.length<=es.length/\(∀q e,es[q]?=some e->(s e=true↔q<J.length))/\M.le m m'/\Q J.length m' J L' a1/\S W0 m' w L' a1/\a.defers=δ.map (λD=>{target:=.collected D,args:=#[]})/\a.tmps.size=n/\(∀d v,lk l d=some v->(∀j,j<k->cw os.toArray j=some d->s j=false)->a.tmps.getD d undef=v)/\(∀j,j<k->s j=true->(cs.map COp.lv).getD j 0<=J.length/\∀d,cw os.toArray j=some d->Φ j m' (J.take ((cs.map COp.lv).getD j 0)) (a.tmps.getD d undef))) ?_ ?_ ?_;·exact⟨[],L,TL,m,by simp,λq e _=>by simp,M.le.refl m,hQ,hS.drew,hE.defers,hE.size,λd v hv _=>hE.at_ d v hv,λj _ h=>(Bool.false_ne_true h).elim⟩
 ·intro i o ho a4 s a w⟨J,L',a1,m',hwl,hst,hle,hq,hS',hdf,hsz,holdv,hphi⟩hsi hpre hcl;have i1:∃c,cs[i]?=some c:=⟨cs[i]'(by omega),by simp[show i<cs.length by omega]⟩;obtain⟨c,hc⟩:=i1;obtain⟨e8,b6,a6⟩:=i2 cs os 0 step i4 hch i o c ho hc;rw[Y8]at b6 a6;unfold ch1 at b6;simp only[Zj]at b6;obtain⟨⟨⟨⟨f3,c2⟩,hpl⟩,hmt⟩,hold1⟩:=b6;have d2:(cs.map COp.lv).getD i 0=c.lv:=by simp[List.getD,hc]
  have g1:c.lo<=J.length:=by
   rcases Za c.lo with h0|h0;·omega
   ·have W:=Z8.1 f3 (c.lo-1) (by simp;omega);rw[Zj]at W;have h2:c.lo-1<es.length:=Z0 W.1;obtain⟨e,Z,b0,_,_⟩:=b7 _ h2;rw[b0]at W;have h3:=Dz os s hcl i o ho hpre b5 e W.2;have:=(hst _ _ Z).1 h3;omega
  have e1:aw δ n a c.olds:=by
   have d1:∀e∈c.olds,Jd (os.take k) i e.1=true:=λe Z=>Z8.1 hold1 e Z;clear a6 d2;generalize c.olds=li at*;refine⟨hdf,hsz,λj v hj=>?_⟩;have:∃e∈li,e=(j,v):=by
    clear e8 d1 hold1;induction li with
    |nil=>simp[lk]at hj|cons e r ih=>
     obtain⟨i',u⟩:=e;simp only[lk]at hj;split at hj
     ·rename_i hb;have:=Z4 hb;subst this;injection hj with hj;subst hj;exact⟨_,by simp,rfl⟩
     ·obtain⟨e,Z,rfl⟩:=ih hj;exact⟨_,by simp[Z],rfl⟩
   obtain⟨e,Z,rfl⟩:=this;refine holdv j v (e8 _ Z) λq hq g3=>?_;obtain⟨o',a3,b1⟩:=(b4 q j).1 g3;have h3:=Z8.1 (d1 _ Z) (o',q) (mem q o' a3 hq);simp only[b1,X7,Zs]at h3;have h4:i∈bm o':=by
    rcases h3 with h3|h3;·simp at h3
    ·obtain⟨e,Z,hb⟩:=Yk.1 h3;have:=Z4 hb;subst this;exact Z
   cases hs:s q with
   |false=>rfl|true=>have:=hcl q o' a3 hs i h4;rw[hsi]at this;cases this
  have hT:∀j∈bm o,∀d,cw os.toArray j=some d->Φ j m' ((J.take c.lo).take ((cs.map COp.lv).getD j 0)) (a.tmps.getD d undef):=λj hj d hd=>by have W:=(hphi j (by have:=kg b5 ho j hj;omega) (hpre j hj)).2 d hd;have h2:=Z0 (Z8.1 hpl j hj);rw[Zb,Z5 h2];exact W
  have e9:∀u:Value,(a.put o.dst u).tmps.size=n:=λu=>by cases a2:o.dst<;>simp[Act.put,hsz]
  have e4:∀u:Value,(a.put o.dst u).defers=δ.map (λD=>{target:=.collected D,args:=#[]}):=λu=>by cases a2:o.dst<;>simp[Act.put,hdf]
  have e5:∀(u:Value),∀e v,lk l e=some v->(∀j,j<k->cw os.toArray j=some e->upd s i j=false)->(a.put o.dst u).tmps.getD e undef=v:=by
   intro u e v hv hj;have h5:=holdv e v hv (λj a5 c3=>by
    have:=hj j a5 c3;unfold upd at this;split at this;·cases this
    ·exact this);cases a2:o.dst with
   |none=>simpa[Act.put]using h5|some d=>
    have c5:d≠e:=λx=>by subst x;have:=hj i a4 ((b4 i d).2 ⟨o,ho,a2⟩);simp[upd]at this
    simpa[Act.put,Array.getElem?_setIfInBounds_ne c5]using h5
  have e0:∀(u:Value) (a0:M) (a9:List Wit),Φ i a0 (a9.take c.lv) u->M.le m' a0->c.lv<=a9.length->(∃r,a9=J++r)->(∀j,j<k->upd s i j=true->(cs.map COp.lv).getD j 0<=a9.length/\∀e,cw os.toArray j=some e->Φ j a0 (a9.take ((cs.map COp.lv).getD j 0)) ((a.put o.dst u).tmps.getD e undef)):=by
   intro u a0 a9 hu f4 i3⟨rr,hrr⟩j a5 hj;by_cases hji:j=i
   ·subst hji;rw[d2];refine⟨i3,λe Z=>?_⟩;obtain⟨o',a3,b1⟩:=(b4 j e).1 Z;rw[ho]at a3;injection a3 with a3;subst a3;have g6:=g2 j o ho a5 e b1;rw[b1];have:(a.put (some e) u).tmps.getD e undef=u:=by simp[Act.put,hsz,g6]
    rw[this];exact hu
   ·unfold upd at hj;rw[if_neg hji]at hj;obtain⟨h6,h7⟩:=hphi j a5 hj;refine⟨by rw[hrr,Yr];omega,λe Z=>?_⟩;have h8:=mono j m' a0 _ _ f4 (h7 e Z);rw[hrr,Z3 h6];cases a2:o.dst with
    |none=>simpa[Act.put]using h8|some d=>
     obtain⟨o',a3,b1⟩:=(b4 j e).1 Z;have c5:=g9 i j o o' ho a3 a4 a5 (λx=>hji x.symm) d e a2 b1;have:(a.put (some d) u).tmps.getD e undef=a.tmps.getD e undef:=by simp[Act.put,Array.getElem?_setIfInBounds_ne c5]
     rw[this];exact h8
  cases hmu:c.tur with
  |true=>
   rw[hmu]at hmt a6;simp only[hmu,if_true]at c2;simp only[Zj]at hmt;have j1:c.lo<es.length:=Z0 hmt.1;have f5:=Z4 hmt.2;obtain⟨e,Z,b0,_,_⟩:=b7 _ j1;rw[f5]at b0;subst b0;have c4:J.length=c.lo:=by
    rcases Y7 c.lo J.length with h|h
    ·have:=(hst _ _ Z).2 h;rw[hsi]at this;cases this
    ·omega
   have d0:c.lv=c.lo+1:=by simp[COp.lv,hmu]
   have i5:J.take c.lo=J:=Z2 (by omega);rw[c4]at hq;obtain⟨hw,g0⟩:=a6 J L' a1 m' a w c4 hle hq hS' e1 (by rw[i5]at hT;exact hT);rw[if_pos hw];refine g0.imp λv w'⟨a0,c7,g4,g7,W,h2,h3,h4⟩=>?_;refine⟨J++[c7],g4,g7,a0,by simp;omega,λq e' b3=>?_,hle.trans W,by simp;rw[c4];exact h3,h2,e4 v,e9 v,e5 v,e0 v a0 (J++[c7]) ?_ W (by simp;omega) ⟨[c7],rfl⟩⟩
   ·unfold upd;by_cases h5:e'=i
    ·subst h5;have:=DA h9 q c.lo e' b3 Z;simp;omega
    ·rw[if_neg h5,hst q e' b3];have:q≠c.lo:=λx=>by subst x;rw[Z]at b3;injection b3 with b3;exact h5 b3.symm
     simp;omega
   ·rw[Z2 (by simp;omega)];exact h4|false=>
   rw[hmu]at hmt a6;simp only[hmu,X9,if_false]at c2;have d0:c.lv=c.lo:=by simp[COp.lv,hmu]
   have j3:J.length<=c.hi:=by
    rcases Y7 c.hi J.length with h|h
    ·exfalso;have h0:c.hi<es.length:=by omega
     have W:=Z8.1 c2 c.hi (by simpa using h0);rw[X7]at W;obtain⟨e,Z,b0,f0,oe,b2⟩:=b7 _ h0;rcases W with W|W;·have:=Z0 W;omega
     ·rw[b0]at W;have h2:=(hst _ _ Z).2 h;have h3:=Dz os s hcl e oe b2 (hcl e oe b2 h2) b5 i W;rw[hsi]at h3;cases h3
    ·exact h
   have e7:(J.drop c.lo).length=J.length-c.lo:=by simp
   have g8:Q (c.lo+(J.drop c.lo).length) m' (J.take c.lo++J.drop c.lo) L' a1:=by rw[Zh,e7,show c.lo+(J.length-c.lo)=J.length by omega];exact hq
   have c1:=a6 (J.take c.lo) (J.drop c.lo) L' a1 m' a w (by simp;omega) (by rw[e7];omega) hle g8 hS' e1 hT;have next:∀(v:Value) (w':World) (a0:M),M.le m' a0->S W0 a0 w' L' a1->Φ i a0 (J.take c.lo) v->∃J L' a1 m',J.length<=es.length/\(∀q e,es[q]?=some e->(upd s i e=true↔q<J.length))/\M.le m m'/\Q J.length m' J L' a1/\S W0 m' w' L' a1/\(a.put o.dst v).defers=δ.map (λD=>{target:=.collected D,args:=#[]})/\(a.put o.dst v).tmps.size=n/\(∀d u,lk l d=some u->(∀j,j<k->cw os.toArray j=some d->upd s i j=false)->(a.put o.dst v).tmps.getD d undef=u)/\(∀j,j<k->upd s i j=true->(cs.map COp.lv).getD j 0<=J.length/\∀d,cw os.toArray j=some d->Φ j m' (J.take ((cs.map COp.lv).getD j 0)) ((a.put o.dst v).tmps.getD d undef)):=by
    intro v w' a0 W h2 h3;refine⟨J,L',a1,a0,hwl,λq e Z=>?_,hle.trans W,j0 _ _ _ _ _ _ W hq,h2,e4 v,e9 v,e5 v,e0 v a0 J (by rw[d0];exact h3) W (by rw[d0];exact g1) ⟨[],by simp⟩⟩;have h5:e≠i:=λx=>by subst x;have:=Z8.1 hmt e (List.mem_of_getElem? Z);simp at this
    unfold upd;rw[if_neg h5];exact hst q e Z
   split
   ·rename_i hw;rw[if_pos hw]at c1;exact c1.imp λv w'⟨a0,W,h2,h3⟩=>next v w' a0 W h2 h3
   ·rename_i hw;rw[if_neg hw]at c1;exact next undef w m' (M.le.refl _) hS' c1
 ·intro s a w⟨J,L',a1,m',hwl,hst,hle,hq,hS',hdf,hsz,holdv,hphi⟩hall;have e3:J.length=es.length:=by
   rcases Y7 J.length es.length with h|h
   ·obtain⟨e,Z,_,f0,oe,b2⟩:=b7 _ h;have:=(hst _ _ Z).1 (hall e f0 (zx.1 b2).1);omega
   ·omega
  rw[e3]at hq;exact g5 J L' a1 m' a w e3 hle hq hS' hdf hsz (λd v hv i0=>holdv d v hv (λj hj c3=>absurd c3 (i0 j hj))) (λj hj d hd=>(hphi j (by omega) (hall j (by omega) (by omega))).2 d hd)
end
section
variable{δ:List Nat}{ro:Option Nat}{P:Program}{os:List Oper}{Φ:Nat->M->List Wit->Value->Prop}{Q:Nat->M->List Wit->List (Nat×List Value)->List (Nat×Value)->Prop}{W0:Bse}{m:M}{n:Nat}{cs:List COp}{i:Nat}{c:COp}{dst:Option Tmp}{op:Op}{ty:TypeId}{pos:String}{aft:Array Edge}
theorem Je (h:∀pre J W Z m' a w,pre.length=c.lo->c.lo+J.length<=c.hi->M.le m m'->Q (c.lo+J.length) m' (pre++J) W Z->S W0 m' w W Z->aw δ n a c.olds->(∀j∈bm ⟨dst,op,ty,pos,aft,none⟩,∀d,cw os.toArray j=some d->Φ j m' (pre.take ((cs.map COp.lv).getD j 0)) (a.tmps.getD d undef))->a8 P ⟨dst,op,ty,pos,aft,none⟩ a w (λv w'=>∃m'',M.le m' m''/\S W0 m'' w' W Z/\Φ i m'' pre v)):ChS δ P os Φ Q W0 m n cs i c ⟨dst,op,ty,pos,aft,none⟩:=λpre J W Z m' a w h1 h2 h3 h4 h5 h6 h7=>by rw[if_pos (by rfl)];exact h pre J W Z m' a w h1 h2 h3 h4 h5 h6 h7
theorem wZ (h:∀pre J W m' a w,pre.length=c.lo->M.le m m'->Q c.lo m' pre J W->S W0 m' w J W->aw δ n a c.olds->(∀j∈bm ⟨dst,op,ty,pos,aft,none⟩,∀d,cw os.toArray j=some d->Φ j m' (pre.take ((cs.map COp.lv).getD j 0)) (a.tmps.getD d undef))->a8 P ⟨dst,op,ty,pos,aft,none⟩ a w (λv w'=>∃m'' wit L'' TL'',M.le m' m''/\S W0 m'' w' L'' TL''/\Q (c.lo+1) m'' (pre++[wit]) L'' TL''/\Φ i m'' (pre++[wit]) v)):ChM δ P os Φ Q W0 m n cs i c ⟨dst,op,ty,pos,aft,none⟩:=λpre J W m' a w h1 Z h4 h5 h6 h7=>⟨rfl,h pre J W m' a w h1 Z h4 h5 h6 h7⟩
theorem Pq{g dg:Nat}{b:Bool}(hd:cw os.toArray g=some dg)(hn:Zy dg n=true)(hg:g∈bm ⟨dst,op,ty,pos,aft,some (g,b)⟩)(hq:∀m ws v,Φ g m ws v->v=.bool b)(h:∀pre J W Z m' a w,pre.length=c.lo->c.lo+J.length<=c.hi->M.le m m'->Q (c.lo+J.length) m' (pre++J) W Z->S W0 m' w W Z->aw δ n a c.olds->(∀j∈bm ⟨dst,op,ty,pos,aft,some (g,b)⟩,∀d,cw os.toArray j=some d->Φ j m' (pre.take ((cs.map COp.lv).getD j 0)) (a.tmps.getD d undef))->a8 P ⟨dst,op,ty,pos,aft,some (g,b)⟩ a w (λv w'=>∃m'',M.le m' m''/\S W0 m'' w' W Z/\Φ i m'' pre v)):ChS δ P os Φ Q W0 m n cs i c ⟨dst,op,ty,pos,aft,some (g,b)⟩:=λpre J W Z m' a w h1 h2 h3 h4 h5 h6 h7=>by have hy:=yA h6 hd hn (hq _ _ _ (h7 g hg dg hd));rw[if_pos (by simp[Region.wanted,hy])];exact h pre J W Z m' a w h1 h2 h3 h4 h5 h6 h7
theorem Uh{g J:Nat}{b b':Bool}(W:cw os.toArray g=some J)(hn:Zy J n=true)(hg:g∈bm ⟨dst,op,ty,pos,aft,some (g,b')⟩)(hq:∀m ws v,Φ g m ws v->v=.bool b)(Z:b≠b')(h:∀m ws,Φ i m ws undef):ChS δ P os Φ Q W0 m n cs i c ⟨dst,op,ty,pos,aft,some (g,b')⟩:=λpre a0 L' a1 m' a w h1 h2 h3 h4 h5 h6 h7=>by have hy:=yA h6 W hn (hq _ _ _ (h7 g hg J W));rw[if_neg (by simp[Region.wanted,hy,Z])];exact h _ _
end
section
variable{δ:List Nat}{ro:Option Nat}{P:Program}{ops:Array Oper}{Q:Exit->Act->World->Prop}{rest:List Oper}{a:Act}{w:World}{n:Nat}{l:List (Nat×Value)}{d:Nat}{op:Op}{ty:TypeId}{pos:String}{aft:Array Edge}
theorem sxu{g:Nat}{b':Bool}{o:Oper}{h:Nat}(J:aw δ n a l)(hg:ops[g]?=some o)(ho:o.dst=some h)(hl:lk l h=some undef)(Z:Zy d n=true) (k:∀a',aw δ n a' ((d,undef)::l)->wpL ro P ops Q rest a' w):wpL ro P ops Q (⟨some d,op,ty,pos,aft,some (g,b')⟩::rest) a w:=wpListIn_step λK W=>by have hy:yielded ops a.tmps g=none:=pB (by unfold cw;rw[hg];exact ho) (J.at_ h _ hl);have:((none:Option Bool)==some b')=false:=rfl;simp only[Region.wanted,hy,this,X9,if_false];exact⟨λ_ _=>trivial,W _ _ (k _ (J.put Z undef))⟩
end
open Go.RowKit (Below)
def HU (P:Program)(J:Value)(vs:List Value)(w:World)(R:Value->World->Prop):Prop:=∀(dst:Option Tmp) (ty:TypeId) (pos:String) (aft:Array Edge) (g:Option (Nat×Bool)) (x:Operand) (xs:Array Operand) (h:Array TypeId) (a:Act),a.eval x=J->xs.map a.eval=vs.toArray->a8 P ⟨dst,.call ⟨.value x,xs,h⟩,ty,pos,aft,g⟩ a w R
theorem HU.of_func{P:Program}{f:FuncId}{first cap:Array Value}{vs:List Value}{w:World}{R:Value->World->Prop}(a0:∀vs w,(callFunc f vs).run P w=.ok (.enter f vs) w)(hc:Calls P f (first++vs.toArray++cap) w (Ret R)):HU P (.func (.func f) first cap) vs w R:=by
 intro dst ty pos aft g x xs W a hx a1 ro Kk Q Z;have J:(execOp a.eval ⟨dst,.call ⟨.value x,xs,W⟩,ty,pos,aft,g⟩).run P w=.ok (.enter f (first++vs.toArray++cap)) w:=by simp[execOp,resolve,hx,Deferred.ofValue,invoke,a1,a0]
 refine uO J (hc.mono λe w' h=>?_);cases e with
 |returned v=>exact Z v w' h|panicked ch=>exact h.elim|outgrown=>exact h.elim
def Fn1{O β:Type}(P:Program)(ka:Kd O)(kb:Kd β)(m0:M)(h:Value)(f:O->Option β):Prop:=∃(g:FuncId) (cb:Array Value),h=.func (.func g) #[] cb/\(∀vs w,(callFunc g vs).run P w=.ok (.enter g vs) w)/\∀(W0:Bse) (m:M) (w:World) (L:List (Nat×List Value)) (TL:List (Nat×Value)) (v:Value) (x:O) (r:β),M.le m0 m->S W0 m w L TL->RV ka m v x->f x=some r->Calls P g (#[v]++cb) w (Ret λv' w'=>∃m',M.le m m'/\S W0 m' w' L TL/\RV kb m' v' r)
def Fn2{O α' β:Type}(P:Program)(ka:Kd O)(ka':Kd α')(kb:Kd β)(m0:M)(J:Value)(f:O->α'->Option β):Prop:=∃(g:FuncId) (cb:Array Value),J=.func (.func g) #[] cb/\(∀vs w,(callFunc g vs).run P w=.ok (.enter g vs) w)/\∀(W0:Bse) (m:M) (w:World) (L:List (Nat×List Value)) (TL:List (Nat×Value)) (v v':Value) (x:O) (h:α') (r:β),M.le m0 m->S W0 m w L TL->RV ka m v x->RV ka' m v' h->f x h=some r->Calls P g (#[v,v']++cb) w (Ret λu w'=>∃m',M.le m m'/\S W0 m' w' L TL/\RV kb m' u r)
theorem Fn1.mono{O β:Type}{P:Program}{ka:Kd O}{kb:Kd β}{m0 Z:M}{W:Value}{f:O->Option β}(h:Fn1 P ka kb m0 W f)(hm:M.le m0 Z):Fn1 P ka kb Z W f:=by obtain⟨g,cb,h0,J,h⟩:=h;exact⟨g,cb,h0,J,λW0 m w L TL v x r J h2 h3 h4=>h W0 m w L TL v x r (hm.trans J) h2 h3 h4⟩
theorem Fn2.mono{O α' β:Type}{P:Program}{ka:Kd O}{ka':Kd α'}{kb:Kd β}{m0 Z:M}{W:Value}{f:O->α'->Option β}(h:Fn2 P ka ka' kb m0 W f)(hm:M.le m0 Z):Fn2 P ka ka' kb Z W f:=by obtain⟨g,cb,h0,J,h⟩:=h;exact⟨g,cb,h0,J,λW0 m w L TL v v' x x' r J h2 h3 h4 h5=>h W0 m w L TL v v' x x' r (hm.trans J) h2 h3 h4 h5⟩
section
variable{δ:List Nat}{ro:Option Nat}{P:Program}{W0:Bse}{m:M}{L:List (Nat×List Value)}{TL:List (Nat×Value)}{n:Nat}{a:Act}{l:List (Nat×Value)}{w:World}{ty t t2 e:TypeId}{pos:String}{aft:Array Edge}{g:Option (Nat×Bool)}{x y:Operand}{d:Nat}{O α' β:Type}{k:Kd O}{ka:Kd O}{ka':Kd α'}{kb:Kd β}{b i:Nat}{cs:List Value}
theorem DB{xs:Array Operand}{a0:Array TypeId}{W v:Value}{f:O->Option β}{xx:O}{r:β}(J:aw δ n a l)(hS:S W0 m w L TL)(hx:evl l x=some W)(ha:vq l xs=some [v])(hf:Fn1 P ka kb m W f)(Z:RV ka m v xx)(hr:f xx=some r):a8 P ⟨some d,.call ⟨.value x,xs,a0⟩,ty,pos,aft,g⟩ a w (λv' w'=>∃m',M.le m m'/\S W0 m' w' L TL/\RV kb m' v' r):=by obtain⟨g,cb,rfl,h1,h⟩:=hf;exact HU.of_func h1 (by simpa using h W0 m w L TL v xx r (M.le.refl m) hS Z hr) _ _ _ _ _ _ _ _ _ (J.eval hx) (gU J ha)
theorem DC{xs:Array Operand}{a0:Array TypeId}{Z v v':Value}{f:O->α'->Option β}{xx:O}{J:α'}{r:β}(W:aw δ n a l)(hS:S W0 m w L TL)(hx:evl l x=some Z)(ha:vq l xs=some [v,v'])(hf:Fn2 P ka ka' kb m Z f)(hv:RV ka m v xx)(a1:RV ka' m v' J)(hr:f xx J=some r):a8 P ⟨some d,.call ⟨.value x,xs,a0⟩,ty,pos,aft,g⟩ a w (λu w'=>∃m',M.le m m'/\S W0 m' w' L TL/\RV kb m' u r):=by obtain⟨g,cb,rfl,h1,h⟩:=hf;exact HU.of_func h1 (by simpa using h W0 m w L TL v v' xx J r (M.le.refl m) hS hv a1 hr) _ _ _ _ _ _ _ _ _ (W.eval hx) (gU W ha)
theorem S.freezeL (h:S W0 m w ((b,cs)::L) TL){xx:O}(hR:k.R m cs xx):∃m',M.le m m'/\S W0 m' w L TL/\PR k m' (.pointer (some ⟨b,0,none⟩)) xx:=by
 have J:=h.dropL 1;simp only[Yo,Zq]at J;have hl:=k.len hR;have hp:=k.pos;have hc:cs≠[]:=λe=>by subst e;simp at hl;omega
 obtain⟨hB,hm,t,ht⟩:=h.own 0 (b,cs) rfl hc;have a0:M.le m (m.put b cs):=M.le_put _ hm;refine⟨m.put b cs,a0,⟨J.below,λb' r W=>?_,λi e he hv=>?_,J.nodup,λi e he=>?_,J.apart⟩,b,0,rfl,?_⟩
 ·by_cases hbb:b'=b
  ·subst hbb;rw[M.put_same]at W;injection W with W;subst W;exact⟨_,t,_,[],ht,by simp,.inl hB⟩
  ·rw[M.put_other _ _ hbb]at W;exact J.imm b' r W
 ·obtain⟨q1,q2,q3⟩:=J.own i e he hv;have a1:=h.nodup 0 (i+1) (b,cs) e rfl (by simpa using he) (by omega) hc hv;exact⟨q1,by rw[M.put_other _ _ (λe=>a1 e.symm)];exact q2,q3⟩
 ·have Z:=J.tails i e he;obtain⟨sz,u⟩:=e;cases u<;>try exact Z
  rename_i ad a3 a4;cases ad with
  |none=>trivial|some ad=>
   obtain⟨a2,Z⟩:=Z;refine⟨a2,?_⟩;rcases Z with hf|⟨p0,p1,r,c,t',p2,p3,p4,p5⟩;·exact .inl hf
   ·exact .inr ⟨p0,p1,r,c,t',by rw[M.put_other _ _ (λe=>by rw[e,hm]at p2;cases p2)];exact p2,p3,p4,p5⟩
 ·have:(m.put b cs).row b 0 k.sz=cs:=by unfold M.row;rw[M.put_same];simp[←hl]
  rw[this];exact k.mono a0 hR
def vt (s u:List Int):Int:=if ltB s u then-1 else if ltB u s then 1 else 0
theorem A3:∀{s u:List Int},(∀n∈s,0<=n/\n<256)->(∀n∈u,0<=n/\n<256)->Lib.compareBytes (bts s).data.toList (bts u).data.toList=vt s u:=by
 intro s u W J;show Lib.compareBytes (s.map (λn=>UInt8.ofNat n.toNat)) (u.map (λn=>UInt8.ofNat n.toNat))=_;induction s generalizing u with
 |nil=>cases u<;>simp[Lib.compareBytes,vt,ltB]|cons a x ih=>cases u with
  |nil=>simp[Lib.compareBytes,vt,ltB]|cons b y=>
   have ha:=W a (by simp);have Z:=J b (by simp);have a0:=ih (u:=y) (λn h=>W n (by simp[h])) (λn h=>J n (by simp[h]));have e1:=qm ha;have e2:=qm Z;have h1:(UInt8.ofNat a.toNat<UInt8.ofNat b.toNat)↔a<b:=by rw[UInt8.lt_iff_toNat_lt];omega
   have h2:(UInt8.ofNat b.toNat<UInt8.ofNat a.toNat)↔b<a:=by rw[UInt8.lt_iff_toNat_lt];omega
   simp only[Y0,Lib.compareBytes,h1,h2,a0];unfold vt;simp only[ltB];by_cases c1:a<b;·simp[c1]
   ·by_cases c2:b<a;·simp[c1,c2,show¬a=b by omega]
    ·have:a=b:=by omega
     subst this;simp
theorem Jf{f:FuncId}{fn:Func}{xs:Array Operand}{tys:Array TypeId}{s u:List Int}(hE:aw δ n a l) (hf:P.funcs[f]?=some fn) (hname:(fn.name== "runtime.NumGoroutine")=false) (hb:fn.body.isNone=true) (hn:Extern.findNext fn=none) (he:Extern.find fn=some Extern.BytealgCompare.compare)(ha:vq l xs=some [.string (bts s),.string (bts u)]) (hs:∀n∈s,0<=n/\n<256) (hu:∀n∈u,0<=n/\n<256):ay P ⟨some d,.call ⟨.value (.func f),xs,tys⟩,ty,pos,aft,g⟩ a w (.int .i64 (vt s u)) w:=by have h1:=run_callFunc_extern hf hname hb hn he #[.string (bts s),.string (bts u)] w;rw[Lib.run_compareString,A3 hs hu]at h1;simp[ay,execOp,resolve,Act.eval,Deferred.ofValue,invoke,gU hE ha,h1]
theorem Lb (s u:List Int):inR .i64 (vt s u):=by
 unfold vt;split;·exact az (by decide)
 ·split<;>exact az (by decide)
theorem w7{v:Value}{xs:List O}(J:aw δ n a l)(hx:evl l x=some v)(hy:evl l y=some (.slice none 0 0))(W:RV (kSl k) m v xs)(hu:P.underlying t=some (.slice e)):a8 P ⟨some d,.binOp .eql t x y t2,ty,pos,aft,g⟩ a w (λu w'=>w=w'/\∃c,u=.bool c/\(c=true->xs=[])):=by
 obtain⟨h,cap,rfl,h3,h4,h5⟩:=mT W;have hg:(eqGuard .eql t x y (.slice h xs.length cap) (.slice none 0 0)).run P w=.ok () w:=by simp[eqGuard]
 have hr:ay P ⟨some d,.binOp .eql t x y t2,ty,pos,aft,g⟩ a w (.bool h.isNone) w:=by simp only[ay,execOp,J.eval hx,J.eval hy,Sem.run_bind,hg,Result.andThen_ok];simp[binOp,run_equal_slice_nil _ t e h xs.length cap hu]
 refine hr.step ⟨rfl,_,rfl,λZ=>?_⟩;cases h with
 |none=>simp only at h5;exact Z1 (by omega)|some _=>simp at Z
end
section
variable{δ:List Nat}{ro:Option Nat}{P:Program}{ops:Array Oper}{Q:Exit->Act->World->Prop}{rest:List Oper}{a:Act}{w:World}{n:Nat}{l:List (Nat×Value)}{d:Nat}{op:Op}{ty:TypeId}{pos:String}{aft:Array Edge}{v:Value}
theorem sp (W:aw δ n a l)(J:ay P ⟨some d,op,ty,pos,aft,none⟩ a w v w)(Z:Zy d n=true)(k:∀a',aw δ n a' ((d,v)::l)->wpL ro P ops Q rest a' w):wpL ro P ops Q (⟨some d,op,ty,pos,aft,none⟩::rest) a w:=st W J.pure Z λu a' w' h a0=>by obtain⟨rfl,rfl⟩:=h;exact k a' a0
theorem oi{O:Type}{x y:O}(h:some x=some y):x=y:=Option.some.inj h
theorem cb{b c:Bool}(h:b=c):Value.bool b=Value.bool c:=congrArg Value.bool h
theorem spg{W:Oper}{g J:Nat}{b c:Bool}(hE:aw δ n a l)(hg:ops[g]?=some W)(ho:W.dst=some J)(a0:Zy J n=true)(hl:lk l J=some (.bool c))(Z:c=b)(hr:ay P ⟨some d,op,ty,pos,aft,some (g,b)⟩ a w v w) (hd:Zy d n=true) (k:∀a',aw δ n a' ((d,v)::l)->wpL ro P ops Q rest a' w):wpL ro P ops Q (⟨some d,op,ty,pos,aft,some (g,b)⟩::rest) a w:=stg hE hg ho a0 hl Z hr.pure hd λu a' w' h a1=>by obtain⟨rfl,rfl⟩:=h;exact k a' a1
theorem ob{O β:Type}{x:Option O}{f:O->Option β}{r:β}(h:x.bind f=some r):∃y,x=some y/\f y=some r:=Option.bind_eq_some_iff.1 h
end
open Go.RowKit (Below)
open Go.Sort (grow ahead putRowK flatK HoldsK mapBlock onCells putCells)
open Go.Shelf Go.Lib
section
variable{P:Program}{W0:Bse}{m:M}{L:List (Nat×List Value)}{TL:List (Nat×Value)}{w:World}{O:Type}{k:Kd O}
theorem tT (w:World)(os:Array Obj)(b:Nat)(h:b<w.heap.size):(grow w os).heap[b]?=w.heap[b]?:=by show(w.heap++os)[b]?=_;rw[Array.getElem?_append_left h]
theorem S.more (h:S W0 m w L TL)(os:Array Obj):S W0 m (Go.Sort.grow w os) L TL:=by
 have hB:W0.heap.size<=w.heap.size:=h.below.size;refine⟨h.below.step ⟨⟨rfl,rfl,rfl,by simp[Go.Sort.grow],λj hj=>tT w os j (by omega)⟩,Z7 _⟩ (λk o Z _=>by rw[tT w os k (Array.getElem?_eq_some_iff.1 Z).1];exact Z),λb l J=>?_,λi e W hv=>?_,h.nodup,λi e W=>qj (λb J=>tT w os b J) (h.tails i e W),h.apart⟩;·rw[tT w os b (h.lt J)];exact h.imm b l J
 ·obtain⟨h1,h2,t,h3⟩:=h.own i e W hv;exact⟨h1,h2,t,by rw[tT w os _ (Array.getElem?_eq_some_iff.1 h3).1];exact h3⟩
theorem S.aheadN (h:S W0 m w L TL)(n:Nat):S W0 m (Go.Sort.ahead w n) L TL:=⟨⟨⟨⟨h.below.os,h.below.tape,h.below.output,h.below.size,h.below.block⟩,Nat.le_trans h.below.drawn (Nat.le_add_right _ _)⟩,h.below.kept⟩,h.imm,h.own,h.nodup,λi e J=>by
 have:=h.tails i e J;revert this;cases e with|mk s v=>cases v<;>intro h<;>exact h,h.apart⟩
theorem E7{w w':World}(h:Bel w.heap.size w w'):∃q os',w'=grow (w.drewN q) os':=by
 refine⟨w'.drawn-w.drawn,w'.heap.extract w.heap.size w'.heap.size,?_⟩;have hd:=h.drawn;have hs:=h.size;have hh:w'.heap=w.heap++w'.heap.extract w.heap.size w'.heap.size:=by
  apply Array.ext_getElem?;intro i;by_cases hi:i<w.heap.size;·rw[Array.getElem?_append_left hi];exact h.block i hi
  ·rw[Array.getElem?_append_right (by omega),Array.getElem?_extract];by_cases hi':i<w'.heap.size;·rw[if_pos (by omega)];congr 1;omega
   ·rw[if_neg (by omega),Array.getElem?_eq_none (by omega)]
 have Z:=h.os;have J:=h.tape;have W:=h.output;cases w;cases w';simp only[grow,World.drewN]at*;subst Z;subst J;subst W;simp only[World.mk.injEq,true_and,and_true];exact⟨hh,by omega⟩
end
abbrev El{O:Type}(k:Kd O)(m:M)(xs:List O):Type:={p:List Value×O//k.R m p.1 p.2/\p.2∈xs}
def Ld{O:Type}(h:O->O->Option Int)(xs:List O):Prop:=(∀x∈xs,∀y∈xs,∃c,h x y=some c/\inR .i64 c)/\(∀x∈xs,¬(h x x).getD 0<0)/\(∀x∈xs,∀y∈xs,∀z∈xs,(h x y).getD 0<0->(h y z).getD 0<0->(h x z).getD 0<0)/\(∀x∈xs,∀y∈xs,∀z∈xs,¬(h x y).getD 0<0->¬(h y z).getD 0<0->¬(h x z).getD 0<0)/\(∀x∈xs,∀y∈xs,¬(h x y).getD 0<0->¬(h y x).getD 0<0->x=y)
noncomputable section
open Classical in
def zQ{O:Type}(h:O->O->Option Int)(xs:List O):Option (List O):=if Ld h xs then some ((xs.attach.mergeSort λx y=>!decide ((h y.1 x.1).getD 0<0)).map (·.1))else none
end
theorem BA{O:Type}{J:O->O->Option Int}{xs r:List O}(h:zQ J xs=some r):Ld J xs/\r.Perm xs/\r.Pairwise (λx y=>¬(J y x).getD 0<0):=by
 unfold zQ at h;split at h
 ·rename_i W;injection h with h;subst h;refine⟨W,?_,?_⟩
  ·have:=(List.mergeSort_perm xs.attach λx y=>!decide ((J y.1 x.1).getD 0<0)).map (·.1);have e:xs.attach.map (λx=>x.val)=xs:=by simp
   rwa[e]at this
  ·rw[List.pairwise_map];have Z:=List.pairwise_mergeSort (le:=λ(x y:{x//x∈xs})=>!decide ((J y.1 x.1).getD 0<0)) (λa b c a0 a1=>by
    simp only[Zs,decide_eq_false_iff_not]at*;exact W.2.2.2.1 c.1 c.2 b.1 b.2 a.1 a.2 a1 a0) (λa b=>by
    simp only[X7,Zs,decide_eq_false_iff_not];by_cases h:(J b.1 a.1).getD 0<0
    ·right;intro h';exact W.2.1 a.1 a.2 (W.2.2.1 a.1 a.2 b.1 b.2 a.1 a.2 h' h)
    ·left;exact h) xs.attach;exact Z.imp λh=>by simpa using h
 ·cases h
section
variable{P:Program}{W0:Bse}{m:M}{L:List (Nat×List Value)}{TL:List (Nat×Value)}{w:World}{O:Type}{k:Kd O}{b:Nat}{cs:List Value}{xs:List O}
theorem HV (h:Rl k m cs xs):∃d:List (El k m xs),d.map (λa=>a.1.2)=xs/\(d.flatMap λa=>a.1.1)=cs:=by
 have Z:∀(ys:List O) (cs:List Value),(∀y∈ys,y∈xs)->Rl k m cs ys->∃d:List (El k m xs),d.map (λa=>a.1.2)=ys/\(d.flatMap λa=>a.1.1)=cs:=by
  intro ys;induction ys with
  |nil=>intro cs _ h;exact⟨[],rfl,by have:=h.1;simp at this;simp[this]⟩|cons y r ih=>intro cs hm h;have W:=h.2 0 (by simp);simp only[Nat.zero_mul,Zq,Yb]at W;have J:=h.drop 1;simp only[Nat.one_mul,Yo,Zq]at J;obtain⟨d,a1,a0⟩:=ih _ (λz hz=>hm z (by simp[hz])) J;exact⟨⟨(cs.take k.sz,y),W,hm y (by simp)⟩::d,by simp[a1],by simp[a0]⟩
 exact Z xs cs (λ_ h=>h) h
theorem E8 (d:Array (El k m xs))[Inhabited (El k m xs)]:(flatK (λa:El k m xs=>a.1.1) k.sz d).toList=d.toList.flatMap λa=>a.1.1:=by
 have Z:=k.pos;have a0:(d.toList.flatMap λa=>a.1.1).length=d.size*k.sz:=by
  have:∀l:List (El k m xs),(l.flatMap λa=>a.1.1).length=l.length*k.sz:=by
   intro l;induction l with
   |nil=>simp|cons a r ih=>rw[Yt,Yr,ih,k.len a.2.1,Zp,Z6];omega
  rw[this];simp
 have key:∀(l:List (El k m xs)) (t:Nat),t<l.length*k.sz->(l.flatMap λa=>a.1.1)[t]?=(l[t/k.sz]?).bind λa=>a.1.1[t%k.sz]?:=by
  intro l;induction l with
  |nil=>intro t h;simp at h|cons a r ih=>
   intro t W;have hl:=k.len a.2.1;rw[Yt];by_cases h:t<k.sz;·rw[Zl (by omega),Nat.div_eq_of_lt h,Yv h];rfl
   ·rw[Zi (by omega),hl,ih _ (by simp[Z6]at W;omega)];have e1:t/k.sz=(t-k.sz)/k.sz+1:=by rw[←Nat.add_div_right _ Z];congr 1;omega
    have e2:t%k.sz=(t-k.sz)%k.sz:=by rw[←Nat.mod_eq_sub_mod (by omega)]
    rw[e1,e2,List.getElem?_cons_succ]
 apply Kc;·rw[a0];simp
 intro t h1 h2;have W:t<d.size*k.sz:=by simpa using h1
 have hq:t/k.sz<d.size:=by rw[Nat.div_lt_iff_lt_mul Z];exact W
 have J:=key d.toList t (by simpa using W);rw[Zf h2]at J;have hr:t%k.sz<d[t/k.sz].1.1.length:=by rw[k.len d[t/k.sz].2.1];exact Nat.mod_lt _ Z
 have h4:(d.toList[t/k.sz]?)=some d[t/k.sz]:=by simp[hq]
 rw[h4]at J;simp only[X4]at J;rw[Zf hr]at J;injection J with J;rw[J];simp only[Array.getElem_toList];simp only[flatK,Array.getElem_map,Array.getElem_range];rw[getElem!_pos d (t/k.sz) hq];exact getElem!_pos (d[t/k.sz].1.1) (t%k.sz) hr
theorem Jg{A:Type}[Inhabited A](enc:A->List Value)(sz:Nat)(w:World)(b:Nat)(cs:List Value)(t:TypeId)(d:Array A)(J:w.heap[b]?=some (.cells cs.toArray t (0,0)))(hl:d.size*sz<=cs.length):putRowK enc sz w b 0 d=w.setRow b ((flatK enc sz d).toList++cs.drop (d.size*sz)).toArray:=by
 have a0:=(Array.getElem?_eq_some_iff.1 J).1;have hv:=(Array.getElem?_eq_some_iff.1 J).2;unfold putRowK Go.Sort.putRow mapBlock World.setRow;congr 1;apply Array.ext_getElem?;intro i;rw[Array.getElem?_modify,Array.getElem?_modify];by_cases hi:b=i
 ·subst hi;simp only[if_true,J,Zn,onCells];congr 2;apply Array.ext;·simp[putCells];omega
  ·intro j W h2;simp only[putCells,Array.getElem_mapIdx];have hj:j<cs.length:=by simpa[putCells]using W
   by_cases hjd:j<d.size*sz
   ·have Z:j<(flatK enc sz d).size:=by simpa using hjd
    have h:0<=j/\j<0+(flatK enc sz d).size:=⟨Nat.zero_le _,by simpa using hjd⟩;rw[if_pos h];simp only[Nat.sub_zero,id_eq,List.getElem_toArray];rw[Ys (by simpa using hjd),getElem!_pos _ j Z];simp
   ·have h:¬(0<=j/\j<0+(flatK enc sz d).size):=by simp;omega
    rw[if_neg h];simp only[List.getElem_toArray];rw[Yp (by simp;omega),List.getElem_drop];congr 1;simp;omega
 ·simp[hi]
end
open Go.Proofs Go.Shelf Go.Lib
open Go.Sort (putRowK flatK HoldsK SWO PermIn SortedIn)
section
variable{P:Program}{W0:Bse}{m:M}{L:List (Nat×List Value)}{TL:List (Nat×Value)}{w:World}{O:Type}{k:Kd O}{b:Nat}{cs:List Value}{xs:List O}
theorem S.rebase (h:S W0 m w L TL):S ⟨w,λ_=>none,m⟩ m w [] []:=⟨⟨Bel.refl _ _,λk o h=>by cases h⟩,λb l W=>(by
 obtain⟨c,t,Z,r,h1,h2,_⟩:=h.imm b l W;exact⟨c,t,Z,r,h1,h2,.inr ⟨[],by simpa using W⟩⟩),λi e J=>by simp at J,λi j e e' J=>by simp at J,λi e J=>by simp at J,λi j e e' J=>by simp at J⟩
theorem Pr (l:List (El k m xs)):Rl k m (l.flatMap λa=>a.1.1) (l.map λa=>a.1.2):=by induction l with
 |nil=>exact Rl.nil|cons a r ih=>exact Rl.app (Rl.single a.2.1) ih
theorem HW{ρ:Ren}{v fv:Value}{a0:O->O->Option Int}{r:List O}(Ly:SlLaysF0.n6 P ρ)(aE:∀w,(isAgg (ρ.t 24)).run P w=.ok true w)(zE:∀w,(Go.sizeOf (ρ.t 24)).run P w=.ok k.sz w)(e6:k.agg=true)(hS:S W0 m w ((b,cs)::L) TL) (hg:GS k m b cs v xs) (hf:Fn2 P k k (aj .i64) m fv a0) (h:zQ a0 xs=some r):Calls P (ρ.f 6) #[v,fv] w (Ret λ_ w'=>∃m',M.le m m'/\∃q0:List Value,S W0 m' w' ((b,q0)::L) TL/\GS k m' b q0 v r):=by
 obtain⟨g,cb,rfl,eg,d2⟩:=hf;obtain⟨a3,b1,c4⟩:=BA h;have a5:r.length=xs.length:=b1.length_eq;by_cases hx:xs=[]
 ·subst hx;have hr:r=[]:=Z1 a5;subst hr;obtain⟨a,cap,rfl,_⟩:=hg.val;refine(AnyF.slices_SortFunc_none Ly a cap (.func (.func g) #[] cb) w).mono ?_;rintro e w'⟨rfl,rfl⟩;exact⟨m,M.le.refl m,cs,hS,hg⟩
 ·have e9:=hg;obtain⟨h0,⟨rfl,_⟩|⟨cap,rfl,h2,h3,h4⟩⟩:=hg;·exact absurd rfl hx
  have hn:0<xs.length:=List.length_pos_iff.2 hx;have hp:=k.pos;have e8:xs.length*k.sz<=cap*k.sz:=j6 _ h2;have e7:0<xs.length*k.sz:=Y6 hn hp;have c1:cs≠[]:=λe=>by subst e;simp at h3;omega
  obtain⟨W,b3,c7⟩:=HV h4;have a1:W.length=xs.length:=by have:=congrArg List.length b3;simpa using this
  obtain⟨hB,hm,t,ht⟩:=hS.own 0 _ rfl c1;simp only at hB hm ht;have hi:Inhabited (El k m xs):=⟨W[0]'(by omega)⟩;have d0:b<w.heap.size:=(Array.getElem?_eq_some_iff.1 ht).1;have b5:∀(J:Nat) (os:Array Obj) (dk:Array (El k m xs)),dk.size=xs.length->sortWorldK (λa:El k m xs=>a.1.1) k.sz w b 0 J dk os=Go.Sort.grow ((Go.Sort.ahead w J).setRow b (((dk.toList.flatMap λa=>a.1.1)++cs.drop (xs.length*k.sz)).toArray)) os:=by intro J os dk a6;unfold sortWorldK;rw[Jg _ _ (Go.Sort.ahead w J) b cs t dk ht (by rw[a6];omega),E8,a6]
  have c0:∀(J:Nat) (os:Array Obj) (q:List Value),S W0 m (Go.Sort.grow ((Go.Sort.ahead w J).setRow b q.toArray) os) ((b,q)::L) TL:=λJ os q=>((hS.aheadN J).setL (i:=0) rfl c1 q).more os;have c3:∀x y:El k m xs,∃c,a0 x.1.2 y.1.2=some c/\inR .i64 c:=λx y=>a3.1 _ x.2.2 _ y.2.2;have c5:CmpLays P g cb (λa:El k m xs=>a.1.1) k.sz (λx y=>(a0 x.1.2 y.1.2).getD 0) b 0 W.toArray.size w:=by
   intro J os dk a6 x y;rw[b5 J os dk (by rw[a6];simpa using a1)];generalize hw1:Go.Sort.grow ((Go.Sort.ahead w J).setRow b _) os=w1;have b7:=(c0 J os ((dk.toList.flatMap λa=>a.1.1)++cs.drop (xs.length*k.sz))).rebase;rw[hw1]at b7;obtain⟨c,hc,_⟩:=c3 x y;have hv:∀z:El k m xs,Value.agg z.1.1.toArray=k.val z.1.1:=λz=>by simp[Kd.val,e6]
   rw[hv x,hv y];refine(d2 ⟨w1,λ_=>none,m⟩ m w1 [] [] _ _ x.1.2 y.1.2 c (M.le.refl m) b7 ⟨_,x.2.1,rfl⟩ ⟨_,y.2.1,rfl⟩ hc).mono ?_;intro e w' he;cases e with
   |returned u=>obtain⟨m',_,e0,hu⟩:=he;obtain⟨rfl,_⟩:=aF hu;exact⟨by simp[hc],E7 e0.below.toBel⟩|panicked ch=>exact he.elim|outgrown=>exact he.elim
  have hO:SWO (ltOf λx y:El k m xs=>(a0 x.1.2 y.1.2).getD 0):=by
   refine⟨λx=>?_,λx y z h1 h2=>?_,λx y z h1 h2=>?_⟩;·simp only[ltOf,decide_eq_false_iff_not];exact a3.2.1 _ x.2.2
   ·simp only[ltOf,decide_eq_true_eq]at*;exact a3.2.2.1 _ x.2.2 _ y.2.2 _ z.2.2 h1 h2
   ·simp only[ltOf,decide_eq_false_iff_not]at*;exact a3.2.2.2.1 _ x.2.2 _ y.2.2 _ z.2.2 h1 h2
  have hH:HoldsK (λa:El k m xs=>a.1.1) k.sz w b 0 W.toArray:=by
   intro j hj;have a2:j<xs.length*k.sz:=by simpa[a1]using hj
   have b0:=E8 W.toArray;have e1:(flatK (λa:El k m xs=>a.1.1) k.sz W.toArray)[j]! =cs[j]'(by omega):=by
    rw[getElem!_pos _ j (by simpa[a1]using a2)];have:(flatK (λa:El k m xs=>a.1.1) k.sz W.toArray).toList[j]?=cs[j]?:=by rw[b0];show(W.flatMap _)[j]?=_;rw[c7,Zx,if_pos a2]
    rw[Zf (by simpa[a1]using a2),Zf (by omega)]at this;injection this with this
   refine⟨?_,?_⟩
   ·rw[e1];simp[World.cell?,ht,show j<cs.length by omega]
   ·simp[World.frozen?,ht]
  have b6:=AnyQ.slices_SortFunc Ly k.sz aE zE (λa:El k m xs=>a.1.1) (λx=>k.len x.2.1) (λx v hv=>k.one x.2.1 v hv) (λx y=>(a0 x.1.2 y.1.2).getD 0) hO g cb b 0 cap W.toArray w eg c5 hH d0 (by have:xs.length<=281474976710656:=h0;simp[a1];omega);have a9:W.toArray.size=xs.length:=by simpa using a1
  rw[a9]at b6;refine b6.mono ?_;rintro e w'⟨rfl,Z,n,os,b4,e5,rfl⟩;have a4:Z.size=xs.length:=by rw[b4.1,a9]
  rw[b5 n os Z a4];refine⟨m,M.le.refl m,_,c0 n os _,?_⟩;have hR:=Pr Z.toList;have c6:(Z.toList.map λa=>a.1.2)=r:=by
   have b2:(Z.toList.map λa=>a.1.2).Perm xs:=by have:=b4.2.2;rw[←a4,Array.extract_size]at this;rw[a4,←a9,Array.extract_size]at this;have h9:=this.map (λa:El k m xs=>a.1.2);rw[List.toList_toArray,b3]at h9;exact h9
   have e4:(Z.toList.map λa=>a.1.2).Pairwise (λx y=>¬(a0 y x).getD 0<0):=by rw[List.pairwise_map,List.pairwise_iff_getElem];intro i j hi' a2 d1;have:=e5 i j (Nat.zero_le _) d1 (by simpa[a4]using a2);rw[getElem!_pos Z i (by simpa using hi'),getElem!_pos Z j (by simpa using a2)]at this;simpa[ltOf]using this
   refine List.Perm.eq_of_pairwise (le:=λx y=>¬(a0 y x).getD 0<0) ?_ e4 c4 (b2.trans b1.symm);intro x y e3 c2 h1 h2;exact a3.2.2.2.2 x (b2.mem_iff.1 e3) y (b1.mem_iff.1 c2) h2 h1
  have b0:(Z.toList.flatMap λa=>a.1.1).length=xs.length*k.sz:=by have:=hR.1;simpa[a4]using this
  refine⟨by rw[a5];exact h0,.inr ⟨cap,by rw[a5],by rw[a5];exact h2,by simp[b0];omega,?_⟩⟩;rw[a5,Z3 (by omega),Z2 (by omega),←c6];exact hR
end
def m0 (w:World):M:=λb=>match w.heap[b]?with|some (.cells c _ _)=>some c.toList|_=>none
theorem NM (w:World):S ⟨w,λ_=>none,m0 w⟩ (m0 w) w [] []:=by
 refine⟨⟨Bel.refl _ _,λk o h=>by cases h⟩,λb l W=>?_,λi e J=>by simp at J,λi j e e' J=>by simp at J,λi e J=>by simp at J,λi j e e' J=>by simp at J⟩;unfold m0 at W;split at W
 ·rename_i c t fr Z;injection W with W;exact⟨c,t,fr,[],Z,by simp[W],.inr ⟨[],by show m0 w b=_;unfold m0;rw[Z];simp[W]⟩⟩
 ·cases W
structure HX (H:Type)where
 b:DataW H->Nat
 ba:List (DataW H)->Nat
 str:∀s,b (.lit (.string s))=s.length+1one:∀d,1<=b d
 slice:∀e s,b (.slice e s)=ba e+ba s+1agg:∀l,b (.agg l)=ba l+1nil:ba []=0cons:∀d r,ba (d::r)=b d+ba r
def Rd (P:Program)(t:TypeId){O:Type}(k:Kd O)(sz:O->Nat):Prop:=∀{H:Type}(enc:TypeId×Value->H) (B:HX H) (w:World) (h:Nat) (cs:List Value) (d:DataW H) (ps:List MemPlace),DataW.trod enc P w 0 (λ_=>true) true h t cs=some (d,ps)->B.b d<=1099511627776->∃x,k.R (m0 w) cs x/\sz x<=B.b d
section
variable{P:Program}{t e:TypeId}{O β:Type}{k:Kd O}{sz:O->Nat}
theorem E9{J:IntKind}(hu:P.underlying t=some (.int J)):Rd P t (aj J) (λ_=>1):=by intro H enc B w W cs d ps h hb;cases W with
 |zero=>simp[DataW.trod]at h|succ W=>
  unfold DataW.trod at h;rw[hu]at h;match cs,h with
  |[.int k' n],h=>
   simp only at h;split at h
   ·rename_i Z;obtain⟨rfl,a0⟩:=Z;injection h with h;injection h with h1 h2;refine⟨n,⟨rfl,?_⟩,B.one _⟩;rw[nv];simpa[Lit.wf]using a0
   ·cases h
theorem NN (W:P.underlying t=some .bool):Rd P t cS (λ_=>1):=by intro H enc B w J cs d ps h Z;cases J with
 |zero=>simp[DataW.trod]at h|succ J=>
  unfold DataW.trod at h;rw[W]at h;match cs,h with|[.bool b],h=>exact⟨b,rfl,B.one _⟩
theorem Ps (hu:P.underlying t=some .string):Rd P t sP (λs=>s.length+1):=by intro H enc B w W cs d ps h J;cases W with
 |zero=>simp[DataW.trod]at h|succ W=>
  unfold DataW.trod at h;rw[hu]at h;match cs,h with
  |[.string s],h=>
   simp only at h;split at h
   ·injection h with h;injection h with h1 h2;subst h1;rw[B.str]at J⊢;refine⟨s.data.toList.map λc=>(c.toNat:Int),⟨?_,?_,?_⟩,by simp⟩
    ·congr 2;unfold bts;cases s with|mk data=>
     congr 1;apply Array.ext';have Z:∀c:UInt8,UInt8.ofNat ((c.toNat:Int)).toNat=c:=λc=>by simp
     simp only[Yn];conv=>lhs;rw[←List.map_id data.toList]
     exact X6 λc _=>(Z c).symm
    ·intro n hn;obtain⟨c,_,rfl⟩:=List.mem_map.1 hn;have:=c.toNat_lt;omega
    ·simp at J⊢;unfold cz;omega
   ·cases h
theorem yc{O β:Type}(f:O->Option β):∀(l:List O) (r:List β),l.mapM f=some r->l.length=r.length/\∀i (h:i<l.length) (Z:i<r.length),f l[i]=some r[i]
 |[],r,h=>by simp at h;subst h;exact⟨rfl,λi h=>by simp at h⟩|a::l,r,h=>by simp only[Y3,X3,Ye]at h;cases hx:f a with
  |none=>simp[hx]at h|some y=>cases hr:l.mapM f with
   |none=>simp[hx,hr]at h|some s=>simp[hx,hr]at h;subst h;obtain⟨J,W⟩:=yc f l s hr;refine⟨by simp[J],λi hi hi'=>?_⟩;cases i with
    |zero=>simpa using hx|succ i=>simpa using W i (by simpa using hi) (by simpa using hi')
theorem WK (a:Addr)(i:Nat):(a.add i).block=a.block:=by unfold Addr.add;split<;>rfl
theorem WL (a:Addr)(i:Nat):(a.add i).off=a.off+i:=by unfold Addr.add;split<;>simp_all
theorem DD{w:World}{a:Addr}{n:Nat}{cs:List Value}(h:w.cells? 0 a n=some cs)(hn:0<n):a.spot=none/\(m0 w).row a.block a.off n=cs:=by unfold World.cells? at h;rw[if_pos (Nat.zero_le _)]at h;obtain⟨h1,W⟩:=yc _ _ _ h;simp only[List.length_range]at h1;have J:=W 0 (by simpa using hn) (by omega);simp only[List.getElem_range]at J;obtain⟨b,o,sp⟩:=a;simp only[show(⟨b,o,sp⟩:Addr).add 0=⟨b,o,sp⟩from rfl,World.cell?]at J;cases hb:w.heap[b]?with
 |none=>rw[hb]at J;simp at J|some ob=>
  rw[hb]at J;cases ob<;>try (simp at J;done)
  rename_i c t fr;simp only at J;have Z:sp=none:=by cases sp with
   |none=>rfl|some s=>simp at J
  refine⟨Z,?_⟩;subst Z;have hm:m0 w b=some c.toList:=by simp[m0,hb]
  unfold M.row;rw[hm];apply Yu;intro j;rw[Zx,Zu];by_cases hj:j<n
  ·have h4:=W j (by simpa using hj) (by omega);simp only[List.getElem_range,gw,World.cell?,hb]at h4;rw[if_pos hj,Zf (show j<cs.length by omega),←h4];simp
  ·rw[if_neg hj,Yg (by omega)]
theorem Fa (hu:P.underlying t=some (.slice e))(he:P.cellsOf e=k.sz)(hr:Rd P e k sz):Rd P t (kSl k) (λxs=>(xs.map sz).sum+1):=by
 intro H enc B w b5 cs d ps h hb;have hp:=k.pos;rcases Go.Deep.open_slice hu h with⟨rfl,hx⟩|⟨a,len,cap,mm,n,D,Pl,rfl,_,hl,hm,a3,hx,a4⟩
 ·injection hx with h1 h2;subst h1;exact⟨[],⟨none,0,0,rfl,rfl,Z7 _,by simp,rfl⟩,by simpa using B.one _⟩
 ·injection hx with h1 h2;subst h1;simp only[if_true]at a3;subst a3;rw[B.slice]at hb;have a9:∀(q:Nat) (o:Nat),(∀j,j<q->B.b (D (o+j))<=1099511627776)->o+q<=mm->∃xs:List O,xs.length=q/\(∀j (J:j<xs.length),k.R (m0 w) ((m0 w).row a.block (a.off+(o+j)*k.sz) k.sz) xs[j])/\(xs.map sz).sum<=B.ba ((Zg q).map λj=>D (o+j)):=by
   intro q;induction q with
   |zero=>intro o _ _;exact⟨[],rfl,λj J=>by simp at J,by simp⟩|succ q ih=>
    intro o a0 b4;obtain⟨xs,Z,a1,a2⟩:=ih (o+1) (λj J=>by have:=a0 (j+1) (by omega);rwa[show o+(j+1)=o+1+j by omega]at this) (by omega);obtain⟨cs',W,a6⟩:=a4 o (by omega);rw[he]at W;obtain⟨_,a5⟩:=DD W hp;obtain⟨x,b0,b2⟩:=hr enc B w n cs' _ _ a6 (by have:=a0 0 (by omega);simpa using this);refine⟨x::xs,by simp[Z],λj J=>?_,?_⟩;·cases j with
     |zero=>simp only[Yb,Zm];rw[WK,WL]at a5;rw[a5];exact b0|succ j=>have:=a1 j (by simpa using J);simp only[List.getElem_cons_succ];rw[show o+(j+1)=o+1+j by omega];exact this
    ·simp only[Yc,Y0,B.cons,Yn,List.sum_cons,Zm];have e1:(Zg q).map ((λj=>D (o+j))∘Nat.succ)=(Zg q).map λj=>D (o+1+j):=X6 λj _=>by simp only[Function.comp];congr 1;omega
     rw[e1];omega
  have b1:∀(q:Nat) (f:Nat->DataW H) (j:Nat),j<q->B.b (f j)<=B.ba ((Zg q).map f):=by
   intro q;induction q with
   |zero=>intro f j J;omega|succ q ih=>intro f j J;rw[Yc,Y0,B.cons,Yn];cases j with
    |zero=>omega|succ j=>have:=ih (f∘Nat.succ) j (by omega);simp only[Function.comp]at this;have h9:B.b (f (j+1))<=B.ba (List.map (f∘Nat.succ) (Zg q)):=this;omega
  have a0:∀j,j<len->B.b (D (0+j))<=1099511627776:=λj J=>by
   have:=b1 len D j J;rw[Y8];have h0:B.ba ((Zg len).map D)<=1099511627776:=by omega
   omega
  obtain⟨xs,Z,a1,a2⟩:=a9 len 0 a0 (by omega);have b3:xs.length<=B.ba ((Zg len).map D):=by
   have:∀(q:Nat) (f:Nat->DataW H),q<=B.ba ((Zg q).map f):=by
    intro q;induction q with
    |zero=>intro f;omega|succ q ih=>intro f;rw[Yc,Y0,B.cons,Yn];have:=ih (f∘Nat.succ);have h1:=B.one (f 0);omega
   rw[Z];exact this len D
  refine⟨xs,⟨some a,len,mm,rfl,Z.symm,hl,by unfold cz;omega,λhc=>?_,λj J=>?_⟩,?_⟩
  ·obtain⟨cs',W,_⟩:=a4 0 hc;rw[he]at W;have:=(DD W hp).1;have h0:a.add (0*k.sz)=a:=by unfold Addr.add;rw[if_pos (by simp)]
   rwa[h0]at this
  ·have:=a1 j J;rwa[Y8]at this
  ·rw[B.slice];have e1:(Zg len).map (λj=>D (0+j))=(Zg len).map D:=X6 λj _=>by rw[Y8]
   rw[e1]at a2;show(xs.map sz).sum+1<=_;omega
def RdF (P:Program)(h:List Field)(off:Nat){O:Type}(k:Kd O)(sz:O->Nat):Prop:=∀{H:Type}(enc:TypeId×Value->H) (B:HX H) (w:World) (J:Nat) (cs:List Value) (ds:List (DataW H×List MemPlace)),h.mapM (λf=>DataW.trod enc P w 0 (λ_=>true) true J f.type ((cs.drop f.offset).take (P.cellsOf f.type)))=some ds->cs.length=off+k.sz->B.ba (ds.map (·.1))<=1099511627776->∃x,k.R (m0 w) (cs.drop off) x/\sz x<=B.ba (ds.map (·.1))
theorem NO{f:Field}{off:Nat}(hr:Rd P f.type k sz)(ho:f.offset=off)(hc:P.cellsOf f.type=k.sz):RdF P [f] off k sz:=by intro H enc B w Z cs ds h hl J;simp only[Y3,List.mapM_nil,X3,Ye]at h;cases hx:DataW.trod enc P w 0 (λ_=>true) true Z f.type ((cs.drop f.offset).take (P.cellsOf f.type))with
 |none=>rw[hx]at h;simp at h|some d=>rw[hx]at h;simp at h;subst h;obtain⟨d,ps⟩:=d;simp only[Y0,List.map_nil,B.cons,B.nil,Zm]at J⊢;obtain⟨x,W,a0⟩:=hr enc B w Z _ d ps hx J;rw[ho,hc,Z2 (by simp;omega)]at W;exact⟨x,W,a0⟩
theorem A4{γ:Type}{k':Kd γ}{sz':γ->Nat}{f:Field}{W:List Field}{off:Nat}(hr:Rd P f.type k sz)(ho:f.offset=off)(hc:P.cellsOf f.type=k.sz)(hs:RdF P W (off+k.sz) k' sz'):RdF P (f::W) off (cM k k') (λx=>sz x.1+sz' x.2):=by
 intro H enc B w J cs ds h hl hb;have a1:cs.length=off+k.sz+k'.sz:=by rw[hl];show off+(k.sz+k'.sz)=_;omega
 simp only[Y3,X3,Ye]at h;cases hx:DataW.trod enc P w 0 (λ_=>true) true J f.type ((cs.drop f.offset).take (P.cellsOf f.type))with
 |none=>rw[hx]at h;simp at h|some d=>rw[hx]at h;simp only[X4]at h;cases hy:W.mapM (λf=>DataW.trod enc P w 0 (λ_=>true) true J f.type ((cs.drop f.offset).take (P.cellsOf f.type)))with
  |none=>rw[hy]at h;simp at h|some es=>
   rw[hy]at h;simp at h;subst h;obtain⟨d,ps⟩:=d;simp only[Y0,B.cons]at hb⊢;obtain⟨x,Z,a3⟩:=hr enc B w J _ d ps hx (by omega);obtain⟨y,a0,a2⟩:=hs enc B w J cs es hy a1 (by omega);rw[ho,hc]at Z;refine⟨(x,y),⟨Z,?_⟩,?_⟩
   ·show k'.R (m0 w) ((cs.drop off).drop k.sz) y;rw[Ze];exact a0
   ·show sz x+sz' y<=_;omega
theorem Jh{γ:Type}{W:Array Field}{g:γ->O}{gi:O->γ}(hu:P.underlying t=some (.struct W))(hc:P.cellsOf t=k.sz)(hs:RdF P W.toList 0 k sz)(Z:∀x,g (gi x)=x):Rd P t (qx g k) (λy=>sz (g y)+1):=by intro H enc B w J cs d ps h hb;cases J with
 |zero=>simp[DataW.trod]at h|succ J=>
  unfold DataW.trod at h;rw[hu]at h;simp only at h;split at h
  ·rename_i hl;cases hx:W.toList.mapM (λf=>DataW.trod enc P w 0 (λ_=>true) true J f.type ((cs.drop f.offset).take (P.cellsOf f.type)))with
   |none=>rw[hx]at h;simp at h|some ds=>
    rw[hx]at h;simp at h;obtain⟨rfl,_⟩:=h;rw[B.agg]at hb⊢;obtain⟨x,a0,a1⟩:=hs enc B w J cs ds hx (by rw[hl,hc];omega) (by omega);refine⟨gi x,?_,?_⟩
    ·show k.R (m0 w) cs (g (gi x));rw[Z];simpa using a0
    ·show sz (g (gi x))+1<=_;rw[Z];omega
  ·cases h
end
open Go.RowKit
def Bse.put (W0:Bse)(b:Nat)(o:Obj):Bse:={W0 with keep:=λk=>if k=b then some o else W0.keep k}
section
variable{W0:Bse}{m:M}{w:World}{L:List (Nat×List Value)}{TL:List (Nat×Value)}
theorem Fb (w:World)(b:Nat)(o:Obj):(w.putObj b o).heap.size=w.heap.size:=by simp[World.putObj]
theorem Le{B sz b:Nat}{v:Value}{o o':Obj}(W:w.heap[b]?=some o)(ho:o.isCells=false)(h:sQ B m w sz v):sQ B m (w.putObj b o') sz v:=by
 cases v<;>try exact h
 rename_i a len cap;cases a with
 |none=>trivial|some ad=>
  obtain⟨a0,h⟩:=h;refine⟨by rw[Fb];exact a0,?_⟩;rcases h with h|⟨h0,h1,l,c,t,Z,h3,J,h5⟩;·exact .inl h
  ·refine .inr ⟨h0,h1,l,c,t,Z,h3,?_,h5⟩;rw[World.putObj_heap_other];·exact J
   ·intro e;rw[e,W]at J;injection J with J;subst J;cases ho
theorem S.putK (h:S W0 m w L TL){b:Nat}{o o':Obj}(hb:w.heap[b]?=some o)(ho:o.isCells=false)(a2:o'.isCells=false)(hB:W0.heap.size<=b):S (W0.put b o') m (w.putObj b o') L TL:=by
 have a1:=(Array.getElem?_eq_some_iff.1 hb).1;have a0:∀{k:Nat}{c:Array Value}{t:TypeId}{Z:Nat×Nat},w.heap[k]?=some (.cells c t Z)->(w.putObj b o').heap[k]?=some (.cells c t Z):=λ{k c t Z}J=>by
  rw[World.putObj_heap_other];·exact J
  ·intro e;subst e;rw[hb]at J;injection J with J;subst J;cases ho
 refine⟨⟨⟨⟨h.below.os,h.below.tape,h.below.output,by rw[Fb];exact h.below.size,λk J=>?_⟩,h.below.drawn⟩,λk x W=>?_⟩,λc l hc=>?_,λi e he hv=>?_,h.nodup,λi e he=>Le hb ho (h.tails i e he),h.apart⟩
 ·have a3:k<W0.heap.size:=J;rw[World.putObj_heap_other (by omega)];exact h.below.block k J
 ·unfold Bse.put at W;simp only at W;split at W
  ·rename_i e;subst e;injection W with W;subst W;exact⟨World.putObj_heap_same a1,a2⟩
  ·rename_i e;obtain⟨h1,h2⟩:=h.below.kept k x W;exact⟨by rw[World.putObj_heap_other e];exact h1,h2⟩
 ·obtain⟨c',t,Z,r,h1,h2⟩:=h.imm c l hc;exact⟨c',t,Z,r,a0 h1,h2⟩
 ·obtain⟨h1,h2,t,h3⟩:=h.own i e he hv;exact⟨h1,h2,t,a0 h3⟩
theorem S.newK (h:S W0 m w L TL){o:Obj}(ho:o.isCells=false):S (W0.put w.heap.size o) m (w.alloc o) L TL:=by
 have hB:W0.heap.size<=w.heap.size:=h.below.size;refine⟨⟨(h.below.alloc hB o).toBel,λk x J=>?_⟩,λc l hc=>?_,λi e he hv=>?_,h.nodup,λi e he=>qj (iL w _) (h.tails i e he),h.apart⟩
 ·unfold Bse.put at J;simp only at J;split at J
  ·rename_i e;subst e;injection J with J;subst J;exact⟨sB w _,ho⟩
  ·obtain⟨W,Z⟩:=h.below.kept k x J;exact⟨by rw[iL w o k (Array.getElem?_eq_some_iff.1 W).1];exact W,Z⟩
 ·rw[iL w _ c (h.lt hc)];exact h.imm c l hc
 ·obtain⟨W,Z,t,h3⟩:=h.own i e he hv;exact⟨W,Z,t,by rw[iL w _ _ (Array.getElem?_eq_some_iff.1 h3).1];exact h3⟩
theorem S.keepNone (h:S W0 m w L TL){k:Nat}(J:w.heap.size<=k):W0.keep k=none:=by cases hx:W0.keep k with
 |none=>rfl|some x=>have:=(Array.getElem?_eq_some_iff.1 (h.below.kept k x hx).1).1;omega
theorem S.unK{b:Nat}{o:Obj}(h:S (W0.put b o) m w L TL)(W:W0.keep b=none):S W0 m w L TL:=⟨⟨h.below.toBel,λk x J=>h.below.kept k x (by
 unfold Bse.put;simp only;rw[if_neg (λe=>by subst e;rw[W]at J;cases J)];exact J)⟩,h.imm,h.own,h.nodup,h.tails,h.apart⟩
theorem Bse.put_put (W0:Bse)(b:Nat)(o o':Obj):(W0.put b o).put b o'=W0.put b o':=by
 unfold Bse.put;simp only[Bse.mk.injEq,true_and,and_true];funext k;by_cases e:k=b<;>simp[e]
theorem Bse.put_same (W0:Bse)(b:Nat)(o:Obj):(W0.put b o).keep b=some o:=by simp[Bse.put]
theorem Bse.put_other (W0:Bse){b k:Nat}(o:Obj)(h:k≠b):(W0.put b o).keep k=W0.keep k:=by simp[Bse.put,h]
end
def dB{σ O:Type}(step:σ->O->Option (σ×Bool)):σ->List O->Option (σ×Bool)
 |s,[]=>some (s,true)|s,x::xs=>(step s x).bind λr=>if r.2 then dB step r.1 xs else some (r.1,false)
abbrev Mem:=List (Nat×List Value)
abbrev Tls:=List (Nat×Value)
def yD{σ O:Type}(P:Program)(Rv:M->List Value->O->Prop)(B:σ->Bse)(y:Value)(I:M->σ->Mem->Tls->Prop)(step:σ->O->Option (σ×Bool)):Prop:=∀(m:M) (w:World) (L:Mem) (TL:Tls) (s:σ) (Ls:Mem) (TLs:Tls) (vs:List Value) (x:O) (s':σ) (b:Bool),I m s Ls TLs->S (B s) m w (Ls++L) (TLs++TL)->Rv m vs x->step s x=some (s',b)->HU P y vs w (λr w'=>r=.bool b/\∃m' Ls' TLs',M.le m m'/\I m' s' Ls' TLs'/\S (B s') m' w' (Ls'++L) (TLs'++TL))
def zR{O:Type}(P:Program)(Rv:M->List Value->O->Prop)(h:FuncId)(J:Array Value)(W:M)(xs:List O):Prop:=∀(σ:Type) (I:M->σ->Mem->Tls->Prop) (step:σ->O->Option (σ×Bool)) (B:σ->Bse) (y:Value) (m:M) (w:World) (L:Mem) (TL:Tls) (s:σ) (Ls:Mem) (TLs:Tls) (r:σ×Bool),(∀m m' s a b,M.le m m'->I m s a b->I m' s a b)->M.le W m->yD P Rv B y I step->I m s Ls TLs->S (B s) m w (Ls++L) (TLs++TL)->dB step s xs=some r->Calls P h (#[y]++J) w (Ret λ_ w'=>∃m' Ls' TLs',M.le m m'/\I m' r.1 Ls' TLs'/\S (B r.1) m' w' (Ls'++L) (TLs'++TL))
theorem DE{δ:List Nat}{n:Nat}{a:Act}{l:List (Nat×Value)}(W:aw δ n a l):∀(ps:List Tmp) (vs:List Value) (t:Array Value) (l:List (Nat×Value)),ps.length=vs.length->(∀p∈ps,p<n)->aw [] n {tmps:=t,defers:=[]} l->aw [] n {tmps:=(ps.zip vs).foldl (λt (p,v)=>t.setIfInBounds p v) t,defers:=[]} ((ps.zip vs).reverse++l)
 |[],[],t,l,_,_,h=>h|[],_::_,_,_,h,_,_=>by simp at h|_::_,[],_,_,h,_,_=>by simp at h|p::ps,v::vs,t,l,hl,hp,h=>by
  have J:aw [] n {tmps:=t.setIfInBounds p v,defers:=[]} ((p,v)::l):=by have:=h.put (d:=p) (Nat.ble_eq_true_of_le (hp p (by simp))) v;exact this
  have:=DE W ps vs (t.setIfInBounds p v) ((p,v)::l) (by simpa using hl) (λq Z=>hp q (by simp[Z])) J;simpa using this
section
variable{δ:List Nat}{P:Program}{W0:Bse}{m:M}{L:Mem}{TL:Tls}{n:Nat}{a:Act}{l:List (Nat×Value)}{w:World}{N Rt:Act->World->Prop}{X:List (Nat×(Act->World->Prop))}
abbrev uP{σ:Type}(W2:Bse)(I:M->σ->Mem->Tls->Prop)(L':Mem)(TL':Tls)(m:M)(s':σ)(w':World):Prop:=∃m' Ls' TLs',M.le m m'/\I m' s' Ls' TLs'/\S W2 m' w' (Ls'++L') (TLs'++TL')
theorem Pt{σ O:Type}{Rv:M->List Value->O->Prop}{g:Operand}{ps:Array Tmp}{assign body:Code}{gf:FuncId}{lb:Array Value}{mi:M}{xs:List O}(step:σ->O->Option (σ×Bool))(W:σ->Code)(f6:List Nat)(I:M->σ->Mem->Tls->Prop){s0:σ}{Ls:Mem}{TLs:Tls}{sf:σ}{bf:Bool}(hE:aw δ n a l) (hS:S W0 m w (Ls++L) (TLs++TL)) (hg:evl l g=some (.func (.func gf) #[] lb)) (f0:∀vs w,(callFunc gf vs).run P w=.ok (.enter gf vs) w) (e1:zR P Rv gf lb mi xs) (e9:M.le mi m)(d1:∀p∈ps.toList,p<n) (c4:∀m vs x,Rv m vs x->vs.length=ps.size)(mono:∀m m' s a b,M.le m m'->I m s a b->I m' s a b) (h0:I m s0 Ls TLs) (g0:dB step s0 xs=some (sf,bf))(round:∀(J:Nat) (W1 W2:Bse) (m:M) (w:World) (L':Mem) (b2:Tls) (s:σ) (Ls:Mem) (TLs:Tls) (vs:List Value) (x:O) (s':σ) (b:Bool) (a0:Act) (c3 ob:Obj),I m s Ls TLs->S W1 m w (Ls++L') (TLs++b2)->Rv m vs x->step s x=some (s',b)->aw [] n a0 ((ps.toList.zip vs).reverse++l)->(∀m w L TL,S W1 m w L TL->w.heap[J]?=some c3/\S W2 m (w.putObj J ob) L TL)->K (some J) P assign (λa1 w1=>w1.heap[J]?=some c3/\K (some J) P body (λ_ w'=>b=true/\uP W2 I L' b2 m s' w') (f6.map λid=>(id,λ_ w'=>b=false/\W s'=.exit id/\uP W2 I L' b2 m s' w')) (λ_ w'=>b=false/\W s'=.ret/\uP W2 I L' b2 m s' w') a1 (w1.putObj J ob)) [] (λ_ _=>False) a0 w)(done:∀(D:Nat) (m':M) (w':World) (a':Act) (a9:Mem) (a6:Tls),M.le m m'->aw (D::δ) n a' l->I m' sf a9 a6->S (W0.put D (.deferred (some []))) m' w' (a9++L) (a6++TL)->W0.keep D=none->W0.heap.size<=D->if bf=true then N a' w' else K none P (W sf) N X Rt a' w'):K none P (.rangeFunc g ps assign body) N X Rt a w:=by
 refine wpIn_rangeFunc ?_;intro fn _;obtain⟨D,hD⟩:∃D,D=w.heap.size:=⟨_,rfl⟩;obtain⟨J,e8⟩:∃J,J=w.heap.size+1:=⟨_,rfl⟩;obtain⟨rec,a5⟩:∃rec:LoopState->Option Code->Loop,rec=λst pe=>{state:=st,pending:=pe,fn,tmps:=a.tmps,params:=ps,assign,body,defers:=D}:=⟨_,rfl⟩;obtain⟨Z,b6⟩:∃Z:Bse,Z=W0.put D (.deferred (some [])):=⟨_,rfl⟩;have g4:W0.keep D=none:=hS.keepNone (by omega);have c1:S Z m (w.alloc (.deferred (some []))) (Ls++L) (TLs++TL):=by rw[b6,hD];exact hS.newK rfl
 have e6:Z.keep J=none:=c1.keepNone (by simp[World.size_alloc];omega);have c7:S (Z.put J (.loop (rec .ready none))) m ((w.alloc (.deferred (some []))).alloc (.loop (rec .ready none))) (Ls++L) (TLs++TL):=by have:=c1.newK (o:=.loop (rec .ready none)) rfl;rwa[show(w.alloc (.deferred (some []))).heap.size=J by simp[World.size_alloc];omega]at this
 have e0:W0.heap.size<=J:=by have:W0.heap.size<=w.heap.size:=hS.below.size;omega
 have b3:∀o,(Z.put J o).heap.size<=J:=λo=>by rw[b6];exact e0
 obtain⟨wl,c5⟩:∃wl,wl=(w.alloc (.deferred (some []))).alloc (.loop (rec .ready none)):=⟨_,rfl⟩;rw[←c5]at c7;let B:σ×Option Code->Bse:=λs=>Z.put J (.loop (rec (if s.2.isNone then .ready else .done) s.2));let step':σ×Option Code->O->Option ((σ×Option Code)×Bool):=λs x=>if s.2.isNone then (step s.1 x).map λr=>((r.1,if r.2 then none else some (W r.1)),r.2)else none;have e4:∀(xs:List O) (s:σ)r,dB step s xs=some r->dB step' (s,none) xs=some ((r.1,if r.2 then none else some (W r.1)),r.2):=by
  intro xs;induction xs with
  |nil=>intro s r h;simp only[dB]at h⊢;injection h with h;subst h;simp|cons x xs ih=>intro s r h;simp only[dB]at h⊢;simp only[step',Option.isNone_none,if_true];cases hx:step s x with
   |none=>rw[hx]at h;simp at h|some q=>rw[hx]at h;obtain⟨s',b⟩:=q;simp only[X4,Zn]at h⊢;cases b with
    |true=>simp only[if_true]at h⊢;exact ih s' r h|false=>simp only[X9,if_false]at h⊢;injection h with h;subst h;simp
 have g3:yD P Rv B (.func (.yield J) #[] #[]) (λm s=>I m s.1) step':=by intro m1 w1 L1 b4 s g6 e7 vs x s' b g7 c6 hx a4;obtain⟨s,p⟩:=s;simp only[step']at a4;cases p with
  |some c=>simp at a4|none=>simp only[Option.isNone_none,if_true]at a4;cases hstep:step s x with
  |none=>rw[hstep]at a4;simp at a4|some q=>
  rw[hstep]at a4;obtain⟨s1,b1⟩:=q;simp only[Zn,Option.some.injEq,Prod.mk.injEq]at a4;obtain⟨rfl,rfl⟩:=a4;intro dst ty pos aft gd xo c2 d0 ac g2 g1 ro Kk Q hk;have hl:w1.heap[J]?=some (.loop (rec .ready none)):=(c6.below.kept J _ (Bse.put_same _ _ _)).1;have hy:=run_yield (P:=P) (args:=vs.toArray) hl (by rw[a5];simpa using c4 _ _ _ hx);have g5:(execOp ac.eval ⟨dst,.call ⟨.value xo,c2,d0⟩,ty,pos,aft,gd⟩).run P w1=.ok (.round J fn ((ps.zip vs.toArray).foldl (λtmps (t,a)=>tmps.setIfInBounds t a) a.tmps) assign body) w1:=by
   have h2:(execOp ac.eval ⟨dst,.call ⟨.value xo,c2,d0⟩,ty,pos,aft,gd⟩).run P w1=(Instr.yield J vs.toArray).run P w1:=by simp[execOp,resolve,g2,Deferred.ofValue,invoke,g1]
   rw[h2,hy,a5]
  refine⟨λ_ _=>trivial,?_⟩;show Oper.uponIn _ _ _ _ _ _ _ ((Oper.semAt ro ac.eval _).run P w1);rw[sc g5 (λd=>by simp)];refine⟨λh=>(by cases h),roundIn_of_wpIn trivial ?_⟩;have g8:(ps.zip vs.toArray).foldl (λtmps (t,a)=>tmps.setIfInBounds t a) a.tmps=(ps.toList.zip vs).foldl (λt (p,v)=>t.setIfInBounds p v) a.tmps:=by rw[←Array.foldl_toList,Array.toList_zip]
  rw[g8];have f3:aw [] n {tmps:=a.tmps,defers:=[]} l:=⟨rfl,hE.size,hE.at_⟩;have e3:=DE hE ps.toList vs a.tmps l (by have:=c4 _ _ _ hx;simpa using this.symm) d1 f3;obtain⟨bz,c0⟩:∃bz:Loop,bz={rec .ready none with state:=.busy}:=⟨_,rfl⟩;have f5:∀m w L TL,S (B (s,none)) m w L TL->w.heap[J]?=some (.loop (rec .ready none))/\S (Z.put J (.loop bz)) m (w.putObj J (.loop bz)) L TL:=λm w L TL h=>by have:=h.putK (o':=.loop bz) (h.below.kept J _ (Bse.put_same _ _ _)).1 rfl rfl (b3 _);rw[Bse.put_put]at this;exact⟨(h.below.kept J _ (Bse.put_same _ _ _)).1,this⟩
  have hr:=round J (B (s,none)) (Z.put J (.loop bz)) m1 w1 L1 b4 s g6 e7 vs x s1 b1 _ (.loop (rec .ready none)) (.loop bz) g7 c6 hx hstep e3 f5;have h6:rec .ready none={rec .ready none with state:=.ready}:=by rw[a5]
  have b5:∀(a3:Option Code) (w3:World),a3.isNone=b1->(b1=false->a3=some (W s1))->uP (Z.put J (.loop bz)) I L1 b4 m1 s1 w3->∃v w4,(Instr.endRound J a3).run P w3=.ok v w4/\Kk (ac.put dst v) w4:=by
   rintro a3 w3 hj e5⟨m',a9,a6,h1,h2,h3⟩;have b0:=(h3.below.kept J _ (Bse.put_same _ _ _)).1;refine⟨_,_,run_endRound a3 b0,hk _ _ ⟨by rw[hj],m',a9,a6,h1,h2,?_⟩⟩;have h4:=h3.putK (o':=.loop {bz with state:=if a3.isNone then .ready else .done,pending:=a3}) b0 rfl rfl (b3 _);rw[Bse.put_put]at h4;have e:(.loop {bz with state:=if a3.isNone then .ready else .done,pending:=a3}:Obj)=.loop (rec (if (if b1 then (none:Option Code)else some (W s1)).isNone then .ready else .done) (if b1 then none else some (W s1))):=by rw[c0,a5];cases b1 with
    |true=>
     have:a3=none:=by simpa using hj
     subst this;rfl|false=>have:=e5 rfl;subst this;rfl
   revert h4;rw[e];exactλh4=>h4
  refine wpIn_mono hr λe a1 h8 q=>?_;cases e with
  |normal=>obtain⟨f4,g9⟩:=q;refine⟨_,run_beginRound f4 (by rw[a5]),?_⟩;rw[←c0];refine wpIn_mono g9 λe a2 w2 q2=>?_;cases e with
   |normal=>obtain⟨hb,hp⟩:=q2;exact b5 none w2 (by rw[hb];rfl) (λh=>by rw[hb]at h;cases h) hp|ret=>obtain⟨hb,hj,hp⟩:=q2;exact b5 (some .ret) w2 (by rw[hb];rfl) (λ_=>by rw[hj]) hp|exit id=>
    have key:b1=false/\W s1=.exit id/\uP (Z.put J (.loop bz)) I L1 b4 m1 s1 w2:=by
     simp only[mkQ]at q2;split at q2
     ·rename_i e he;have h1:=List.find?_some he;obtain⟨h7,_,rfl⟩:=List.mem_map.1 (List.mem_of_find?_eq_some he);have:=Z4 h1;subst this;exact q2
     ·exact q2.elim
    obtain⟨hb,hj,hp⟩:=key;exact b5 (some (.exit id)) w2 (by rw[hb];rfl) (λ_=>by rw[hj]) hp|goto t=>exact q2.elim|panic ch=>exact q2.elim|outgrown=>exact q2.elim
  |ret=>exact q.elim|exit id=>simp[mkQ]at q|goto t=>exact q.elim|panic ch=>exact q.elim|outgrown=>exact q.elim
 have hc:=e1 (σ×Option Code) (λm s=>I m s.1) step' B (.func (.yield J) #[] #[]) m wl L TL (s0,none) Ls TLs _ (λm m' s a b hm h=>mono m m' s.1 a b hm h) e9 g3 h0 c7 (e4 xs s0 _ g0);refine⟨J,[{target:=.collected D,args:=#[]}],wl,{target:=.fn (.func gf) lb,args:=#[.func (.yield J) #[] #[]]},wl,gf,#[.func (.yield J) #[] #[]]++lb,wl,?_,?_,λ_ _=>trivial,?_,λh=>(by cases h),?_⟩
 ·show(Instr.enterLoop fn a.tmps ps assign body none).run P w=_;rw[run_enterLoop_outer,c5,e8,hD,a5,hD]
 ·simp only[resolve,hE.eval hg];simp[go_sem]
 ·simp[invoke,go_sem,f0]
 ·refine EP (hc.mono λe w' he=>?_);cases e with
  |panicked ch=>exact he.elim|outgrown=>exact he.elim|returned v=>
   obtain⟨m',a9,a6,h1,h2,h3⟩:=he;have b0:=(h3.below.kept J _ (Bse.put_same _ _ _)).1;have a4:(rec (if (if bf then (none:Option Code)else some (W sf)).isNone then LoopState.ready else .done) (if bf then none else some (W sf))).state≠.busy:=by rw[a5];cases bf<;>simp
   have b7:=run_endLoop (P:=P) b0 a4;refine⟨_,_,b7,?_⟩;have h4:=h3.putK (o':=.loop {(rec (if (if bf then (none:Option Code)else some (W sf)).isNone then LoopState.ready else .done) (if bf then none else some (W sf)))with state:=.exhausted}) b0 rfl rfl (b3 _);rw[Bse.put_put]at h4;have h5:=h4.unK e6;rw[b6]at h5;have d2:aw (D::δ) n {a with defers:=[{target:=.collected D,args:=#[]}]++a.defers} l:=⟨by simp[hE.defers],hE.size,hE.at_⟩;have hd:=done D m' _ _ a9 a6 h1 d2 h2 h5 g4 (by have:W0.heap.size<=w.heap.size:=hS.below.size;omega);have hp:(rec (if (if bf then (none:Option Code)else some (W sf)).isNone then LoopState.ready else .done) (if bf then none else some (W sf))).pending=if bf then none else some (W sf):=by rw[a5]
   clear b7;generalize (w'.putObj J (.loop {(rec (if (if bf then (none:Option Code)else some (W sf)).isNone then LoopState.ready else .done) (if bf then none else some (W sf)))with state:=.exhausted}))=wx at hd⊢;rw[hp];cases bf with
   |true=>simp only[if_true]at hd⊢;exact hd|false=>simp only[X9,if_false]at hd⊢;exact hd
end
open Go.RowKit
def Lf:List Nat->World->World->Prop
 |[],w,w'=>w'=w|D::δ,w,w'=>w.heap[D]?=some (.deferred (some []))/\Lf δ (w.putObj D (.deferred none)) w'
def Fc (P:Program)(fn:Func)(R:Value->World->Prop)(a:Act)(w:World):Prop:=∃δ w',a.defers=(δ.map λD=>{target:=.collected D,args:=#[]})/\Lf δ w w'/\Fin P fn R {a with defers:=[]} w'
section
variable{P:Program}{fn:Func}{R:Value->World->Prop}{a:Act}{w:World}{δ:List Nat}{n:Nat}{l:List (Nat×Value)}{W0:Bse}{m:M}{L:Mem}{TL:Tls}{D:Nat}
theorem Fc.nil (J:Env n a l)(h:Fin P fn R a w):Fc P fn R a w:=by
 refine⟨[],w,by simp[J.defers],rfl,?_⟩;have:({a with defers:=[]}:Act)=a:=by have:=J.defers;cases a;simp at this;simp[this]
 rw[this];exact h
theorem Fc.shut (W:aw (D::δ) n a l)(hS:S (W0.put D (.deferred (some []))) m w L TL)(hk:W0.keep D=none)(hB:W0.heap.size<=D)(k:∀a w,S W0 m w L TL->aw δ n a l->Fc P fn R a w):Fc P fn R a w:=by
 have Z:=(hS.below.kept D _ (Bse.put_same _ _ _)).1;have a0:S W0 m (w.putObj D (.deferred none)) L TL:=by have:=hS.putK (o':=.deferred none) Z rfl rfl hB;rw[Bse.put_put]at this;exact this.unK hk
 obtain⟨δ',w',h,J,h3⟩:=k {a with defers:=δ.map λD=>{target:=.collected D,args:=#[]}} _ a0 ⟨rfl,W.size,W.at_⟩;refine⟨D::δ,w',W.defers,⟨Z,?_⟩,h3⟩;have:δ'=δ:=by
  have h:δ.map (λD=>({target:=.collected D,args:=#[]}:Deferred))=δ'.map λD=>{target:=.collected D,args:=#[]}:=h;clear W k J h3;induction δ generalizing δ' with
  |nil=>cases δ' with
   |nil=>rfl|cons=>simp at h
  |cons x δ ih=>cases δ' with
   |nil=>simp at h|cons y δ'=>
    simp only[Y0,List.cons.injEq,Deferred.mk.injEq,and_true]at h;obtain⟨h,J⟩:=h;injection h with h;rw[h,ih _ (by assumption) J]
 rw[←this];exact J
theorem BB{f:FuncId}{c:Code}{args:List Value}(hf:P.funcs[f]?=some fn)(hb:fn.body=some c)(hn:fn.ntmps=n)(a0:args.length<=n)(h:∀a,Env n a ((Zg args.length).zip args)->K none P c (Fc P fn R) [] (Fc P fn R) a w):Calls P f args.toArray w (Ret R):=by
 refine I3 (n:=0) (callsIn_of_wp_marks hf hb trivial (wpIn_mono (h _ ?_) λe a w q=>?_));·exact ES hn a0
 ·have key:∀(δ:List Nat) (w w':World),Lf δ w w'->Fin P fn R {a with defers:=[]} w'->LeavesInM (Fr none) 0 P fn a.tmps (Ret R) (δ.map λD=>{target:=.collected D,args:=#[]}) .returning w:=by
   intro δ;induction δ with
   |nil=>intro w w' h J;obtain rfl:w'=w:=h;obtain⟨vs,Z,_,W⟩:=J;exact⟨vs,Z,W⟩|cons D δ ih=>intro w w'⟨h,h'⟩J;exact⟨by simp,.inl ⟨D,_,rfl,run_takeDeferred h,ih _ _ h' J⟩⟩
  cases e with
  |normal=>obtain⟨δ,w',Z,W,J⟩:=q;show LeavesInM _ _ _ _ _ _ a.defers _ _;rw[Z];exact key δ w w' W J|ret=>obtain⟨δ,w',Z,W,J⟩:=q;show LeavesInM _ _ _ _ _ _ a.defers _ _;rw[Z];exact key δ w w' W J|exit id=>simp[mkQ]at q|goto t=>exact q.elim|panic ch=>exact q.elim|outgrown=>exact q.elim
def ItV{O:Type}(P:Program)(Rv:M->List Value->O->Prop)(m:M)(v:Value)(xs:List O):Prop:=∃gf lb,v=.func (.func gf) #[] lb/\(∀vs w,(callFunc gf vs).run P w=.ok (.enter gf vs) w)/\zR P Rv gf lb m xs
theorem ItV.mono{O:Type}{Rv:M->List Value->O->Prop}{m m':M}{v:Value}{xs:List O}(h:ItV P Rv m v xs)(hm:M.le m m'):ItV P Rv m' v xs:=by obtain⟨gf,J,h1,W,Z⟩:=h;exact⟨gf,J,h1,W,λσ I step B y m w L TL s Ls TLs r mono hle=>Z σ I step B y m w L TL s Ls TLs r mono (hm.trans hle)⟩
def Rv1{O:Type}(k:Kd O):M->List Value->O->Prop:=λm vs x=>∃v,vs=[v]/\RV k m v x
end
theorem zS{O:Type}{k:Kd O}{m:M}{vs:List Value}{x:O}(h:Rv1 k m vs x):vs.length=1:=by obtain⟨_,rfl,_⟩:=h;rfl
section
variable{δ:List Nat}{P:Program}{W0:Bse}{m:M}{L:Mem}{TL:Tls}{n:Nat}{a:Act}{l:List (Nat×Value)}{w:World}{N Rt:Act->World->Prop}{X:List (Nat×(Act->World->Prop))}
theorem zT{σ O:Type}{Rv:M->List Value->O->Prop}{g:Operand}{ps:Array Tmp}{assign body:Code}{v:Value}{xs:List O}(step:σ->O->Option (σ×Bool))(J:σ->Code)(a4:List Nat)(I:M->σ->Mem->Tls->Prop){s0:σ}{Ls:Mem}{TLs:Tls}{sf:σ}{bf:Bool}(hE:aw δ n a l) (hS:S W0 m w (Ls++L) (TLs++TL)) (hg:evl l g=some v) (hv:ItV P Rv m v xs)(a6:∀p∈ps.toList,p<n) (b0:∀m vs x,Rv m vs x->vs.length=ps.size)(mono:∀m m' s a b,M.le m m'->I m s a b->I m' s a b) (h0:I m s0 Ls TLs) (a9:dB step s0 xs=some (sf,bf))(round:∀(h:Nat) (W1 Z:Bse) (m:M) (w:World) (L':Mem) (W:Tls) (s:σ) (Ls:Mem) (TLs:Tls) (vs:List Value) (x:O) (s':σ) (b:Bool) (a0:Act) (a3 ob:Obj),I m s Ls TLs->S W1 m w (Ls++L') (TLs++W)->Rv m vs x->step s x=some (s',b)->aw [] n a0 ((ps.toList.zip vs).reverse++l)->(∀m w L TL,S W1 m w L TL->w.heap[h]?=some a3/\S Z m (w.putObj h ob) L TL)->K (some h) P assign (λa1 w1=>w1.heap[h]?=some a3/\K (some h) P body (λ_ w'=>b=true/\uP Z I L' W m s' w') (a4.map λid=>(id,λ_ w'=>b=false/\J s'=.exit id/\uP Z I L' W m s' w')) (λ_ w'=>b=false/\J s'=.ret/\uP Z I L' W m s' w') a1 (w1.putObj h ob)) [] (λ_ _=>False) a0 w)(done:∀(D:Nat) (m':M) (w':World) (a':Act) (a2:Mem) (a5:Tls),M.le m m'->aw (D::δ) n a' l->I m' sf a2 a5->S (W0.put D (.deferred (some []))) m' w' (a2++L) (a5++TL)->W0.keep D=none->W0.heap.size<=D->if bf=true then N a' w' else K none P (J sf) N X Rt a' w'):K none P (.rangeFunc g ps assign body) N X Rt a w:=by obtain⟨gf,lb,rfl,b2,b1⟩:=hv;exact Pt step J a4 I hE hS hg b2 b1 (M.le.refl m) a6 b0 mono h0 a9 round done
end
def CO{σ O:Type}(step:σ->O->Option (σ×Bool))(xs:List O)(t:Int×σ):Option ((Int×σ)⊕(σ×Bool)):=if decide (t.1<(xs.length:Int))then (idx xs t.1).bind λx=>(step t.2 x).bind λr=>if r.2 then some (.inl (IntKind.i64.wrap (t.1+1),r.1))else some (.inr (r.1,false))else some (.inr (t.2,true))
theorem HY{σ O:Type}{step:σ->O->Option (σ×Bool)}{xs:List O}{s:σ}{r:σ×Bool}(hl:xs.length<=cz)(h:dB step s xs=some r):am (CO step xs) (0,s)=some r:=by
 have key:∀(ys:List O) (i:Nat) (s:σ),xs.drop i=ys->dB step s ys=some r->am (CO step xs) ((i:Int),s)=some r:=by
  intro ys;induction ys with
  |nil=>
   intro i s W J;simp only[dB]at J;injection J with J;have:xs.length<=i:=by simpa using W
   rw[aR (b:=r)];unfold CO;rw[if_neg (by simp;omega),J]|cons y ys ih=>
   intro i s W J;simp only[dB]at J;have Z:i<xs.length:=by apply Classical.byContradiction;intro hc;rw[Z9 (by omega)]at W;cases W
   have hy:xs[i]?=some y:=by have:=congrArg (·[0]?) W;simpa using this
   have a0:idx xs (i:Int)=some y:=by
    have e:xs[i]=y:=by simpa[Z]using hy
    simp[idx,Z,e]
   have a1:xs.drop (i+1)=ys:=by rw[←Ze,W];rfl
   cases hs:step s y with
   |none=>rw[hs]at J;cases J|some q=>
    rw[hs]at J;simp only[X4]at J;have hw:IntKind.i64.wrap ((i:Int)+1)=((i+1:Nat):Int):=by rw[show(i:Int)+1=((i+1:Nat):Int)from rfl];exact eD (n:=i+1) (by omega)
    by_cases hq:q.2=true
    ·rw[if_pos hq]at J;rw[bI (s':=(((i+1:Nat):Int),q.1))];·exact ih (i+1) _ a1 J
     ·unfold CO;rw[if_pos (by simpa using Z)];simp only[a0,X4,hs];rw[if_pos hq,hw]
    ·rw[if_neg hq]at J;injection J with J;refine aR ?_;unfold CO;rw[if_pos (by simpa using Z)];simp only[a0,X4,hs];rw[if_neg hq,J]
 exact key xs 0 s (by simp) h
open Go.RowKit
theorem yE{O:Type}{k:Kd O}{m:M}{v:Value}{xs:List O}(h:RV (kSl k) m v xs):(kSl k).R m [v] xs:=by obtain⟨cs,J,rfl⟩:=h;have W:=J;obtain⟨a,len,cap,rfl,h⟩:=W;exact J
section
variable{δ:List Nat}{ro:Option Nat}{P:Program}{W0:Bse}{m:M}{L:List (Nat×List Value)}{TL:List (Nat×Value)}{n:Nat}{a:Act}{l:List (Nat×Value)}{w:World}{ty t t2 e:TypeId}{pos:String}{aft:Array Edge}{g:Option (Nat×Bool)}{x y:Operand}{d:Nat}{O:Type}{k:Kd O}
theorem qn{i b:Nat}{v:Value}{xx:List O}(Z:aw δ n a l)(hS:S W0 m w L TL)(hT:dz P t (kSl k))(hx:evl l x=some (.pointer (some ⟨b,0,none⟩)))(hL:L[i]?=some (b,[v]))(W:RV (kSl k) m v xx):ay P ⟨some d,.load t x,ty,pos,aft,g⟩ a w v w:=by have hR:=yE W;have J:At w b 0 (([v].drop 0).take (kSl k).sz):=hS.atL hL (by simp[kSl]) (by simp[kSl]);have e:(([v].drop 0).take (kSl k).sz)=[v]:=rfl;rw[e]at J;have:(kSl k).val [v]=v:=rfl;have h:=jE hT hR J;rw[this]at h;simp[ay,execOp,Instr.loadAt,Z.eval hx,Instr.sureAddr,h]
theorem td{i b:Nat}{v v0:Value}{yy:List O}(h:aw δ n a l)(hS:S W0 m w L TL)(hT:dz P t (kSl k))(hx:evl l x=some (.pointer (some ⟨b,0,none⟩)))(hy:evl l y=some v)(hv:RV (kSl k) m v yy)(W:L[i]?=some (b,[v0])):a8 P ⟨none,.store t x y,ty,pos,aft,g⟩ a w (λ_ w'=>S W0 m w' (L.set i (b,[v])) TL):=by
 have J:=yE hv;obtain⟨hB,hm,t',ht⟩:=hS.own i _ W (by simp);have Z:=ff (P:=P) [v] b 0 0 [v0] t' w ht (by simp) ((kSl k).one J);have hr:wT P ⟨none,.store t x y,ty,pos,aft,g⟩ a w (w.setRow b #[v]):=by
  have a0:=hT.size w;have hc:v.cells=#[v]:=by have:=k.pos;have:=(kSl k).val_cells J;exact this
  simp only[wT,execOp,h.eval hx,h.eval hy,Instr.storeAt,Instr.sureAddr,Sem.run_bind,Sem.run_pure,Result.andThen_ok,storeVar,hc,a0];have h2:(storeCells {block:=b,off:=0} [v]).run P w=.ok () (w.setRow b #[v]):=by simpa using Z
  simp[kSl,h2]
 exact hr.step (hS.setL W (by simp) _)
theorem Fd{v:Value}{O:Type}{Rv:M->List Value->O->Prop}{xs:List O}{ps rs:Array TypeId}{vr:Bool}(Z:aw δ n a l)(hx:evl l x=some v)(hy:evl l y=some .nilFunc)(hu:P.underlying t=some (.func ps rs vr))(hv:ItV P Rv m v xs):ay P ⟨some d,.binOp .eql t x y t2,ty,pos,aft,g⟩ a w (.bool false) w:=by
 obtain⟨W,J,rfl,_⟩:=hv;have h:∀d:Nat,(Op.equalIn (d+1) t (.func (.func W) #[] J) .nilFunc).run P w=.ok false w:=λd=>by simp[Op.equalIn,run_underlying hu]
 have hb:(binOp .eql t (.func (.func W) #[] J) .nilFunc).run P w=.ok (.bool false) w:=by simp only[binOp];simp[Op.equal,Op.maxDepth,h 9999]
 have hg:(eqGuard .eql t x y (.func (.func W) #[] J) .nilFunc).run P w=.ok () w:=by simp[eqGuard]
 simp only[ay,execOp,Z.eval hx,Z.eval hy,Sem.run_bind,hg,Result.andThen_ok,hb,Sem.run_pure]
end
set_option linter.unusedVariables false
set_option linter.unusedSimpArgs false
set_option maxRecDepth 100000
section
variable{P:Program}{W0:Bse}{m:M}{w:World}{L:List (Nat×List Value)}{TL:List (Nat×Value)}{O:Type}{k:Kd O}
end
section
variable{δ:List Nat}{P:Program}{W0:Bse}{m:M}{w:World}{L:List (Nat×List Value)}{TL:List (Nat×Value)}{O:Type}{k:Kd O}{n d:Nat}{a:Act}{l:List (Nat×Value)}{x y:Operand}{t t2 e ty:TypeId}{pos:String}{aft:Array Edge}{g:Option (Nat×Bool)}{by_:Nat}
theorem Ji{v:Value}{xs:List O}{xh Z:Operand}{kh km:IntKind}(hE:aw δ n a l)(hx:evl l x=some v)(hu:P.underlying t=some (.slice e))(hs:∀w,(sizeOf e).run P w=.ok k.sz w)(hv:RV (kSl k) m v xs)(hh:evl l xh=some (.int kh (xs.length:Int))) (hm:evl l Z=some (.int km (xs.length:Int))):a8 P ⟨some d,.slice t x none (some xh) (some Z),ty,pos,aft,g⟩ a w (λv w'=>w=w'/\RV (kSl k) m v xs):=by
 obtain⟨J,cap,rfl,h3,h4,h5⟩:=mT hv;have key:(Instr.sliceBounds true xs.length cap none (some (.int kh (xs.length:Int))) (some (.int km (xs.length:Int)))).run P w=.ok (0,xs.length,xs.length) w:=by simp[Instr.sliceBounds,Instr.sliceBound,asIntOf,h3]
 have hr:ay P ⟨some d,.slice t x none (some xh) (some Z),ty,pos,aft,g⟩ a w (.slice (if xs.length=0 then J else J.map (·.add (0*k.sz))) (xs.length-0) (xs.length-0)) w:=by simp[ay,execOp,Instr.sliceAt,run_underlying hu,Instr.slice,hE.eval hx,hE.eval hh,hE.eval hm,key,hs]
 refine hr.step ⟨rfl,?_⟩;by_cases hc:xs.length=0
 ·rw[if_pos hc];refine fU (by simp) h4 ?_;cases J with
  |none=>simp[hc]|some J=>exact⟨λh=>by omega,λi hi=>by omega⟩
 ·rw[if_neg hc];refine fU (by simp) h4 ?_;cases J with
  |none=>simp only at h5;omega|some J=>obtain⟨b,o,sp⟩:=J;obtain⟨W,hR⟩:=h5;replace W:=W (by omega);simp only at W;subst W;simp only[Zn,gw];exact⟨λ_=>trivial,λi hi'=>by simpa using hR i hi'⟩
end
set_option linter.unusedVariables false
set_option linter.unusedSimpArgs false
def kPt{O:Type}(d:Kd O):Kd (Option O):={
 sz:=1
 agg:=false
 R:=λm cs x=>match x with|none=>cs=[.pointer none]|some y=>∃b o,cs=[.pointer (some ⟨b,o,none⟩)]/\d.R m (m.row b o d.sz) y
 mono:=λ{m m' cs x}hm h=>by cases x with
  |none=>exact h|some y=>obtain⟨b,o,J,W⟩:=h;refine⟨b,o,J,?_⟩;rw[M.row_mono hm (d.len W) d.pos];exact d.mono hm W
 len:=λ{m cs x}h=>by cases x with
  |none=>simp[show cs=_ from h]|some y=>obtain⟨b,o,J,W⟩:=h;simp[J]
 one:=λ{m cs x}h=>by cases x with
  |none=>simp[show cs=_ from h,Value.oneCell']|some y=>obtain⟨b,o,J,W⟩:=h;simp[J,Value.oneCell']
 pos:=by decide
 flat:=λ_=>rfl
 }
section
variable{δ:List Nat}{P:Program}{W0:Bse}{m:M}{w:World}{L:List (Nat×List Value)}{TL:List (Nat×Value)}{O:Type}{k:Kd O}{n d:Nat}{a:Act}{l:List (Nat×Value)}{x y:Operand}{t t2 e ty:TypeId}{pos:String}{aft:Array Edge}{g:Option (Nat×Bool)}
theorem uQ{v:Value}{p:O}(h:PR k m v p):RV (kPt k) m v (some p):=by obtain⟨b,o,rfl,h⟩:=h;exact⟨[_],⟨b,o,rfl,h⟩,rfl⟩
theorem yF:RV (kPt k) m (.pointer none) none:=⟨[_],rfl,rfl⟩
theorem A5{v:Value}{p:Option O}(h:RV (kPt k) m v p):∃q:Option Addr,v=.pointer q/\q.isNone=p.isNone/\∀y,p=some y->PR k m v y:=by obtain⟨cs,J,rfl⟩:=h;cases p with
 |none=>obtain rfl:cs=_:=J;exact⟨none,rfl,rfl,λ_ h=>nomatch h⟩|some y=>obtain⟨b,o,rfl,Z⟩:=J;exact⟨some _,rfl,rfl,λz W=>by cases W;exact⟨b,o,rfl,Z⟩⟩
theorem mU{v:Value}{p:Option O}{q:O}(J:RV (kPt k) m v p)(W:p=some q):PR k m v q:=by obtain⟨_,_,_,h⟩:=A5 J;exact h q W
theorem ld{v:Value}{p:Option O}{q:O}(J:aw δ n a l)(W:evl l x=some v)(h:RV (kPt k) m v p)(Z:p=some q):ay P ⟨some d,.nilCheck x,ty,pos,aft,g⟩ a w v w:=by obtain⟨b,o,rfl,h2⟩:=mU h Z;exact ct J W
theorem Pu{v:Value}{p:Option O}(h:aw δ n a l)(hx:evl l x=some v)(hy:evl l y=some (.pointer none))(hu:P.underlying t=some (.pointer e))(J:RV (kPt k) m v p):ay P ⟨some d,.binOp .eql t x y t2,ty,pos,aft,g⟩ a w (.bool p.isNone) w:=by
 obtain⟨o,rfl,Z,_⟩:=A5 J;have W:P.underlying t=some (.pointer (P.pointee t)):=by simp[Program.pointee,hu]
 have hg:(eqGuard .eql t x y (.pointer o) (.pointer none)).run P w=.ok () w:=by simp[eqGuard]
 rw[←Z];simp only[ay,execOp,h.eval hx,h.eval hy,Sem.run_bind,hg,Result.andThen_ok,run_eql_pointer_nil w t o W,Sem.run_pure]
theorem Pv{v:Value}{p:Option O}(h:aw δ n a l)(hx:evl l x=some v)(hy:evl l y=some (.pointer none))(hu:P.underlying t=some (.pointer e))(J:RV (kPt k) m v p):ay P ⟨some d,.binOp .neq t x y t2,ty,pos,aft,g⟩ a w (.bool (!p.isNone)) w:=by
 obtain⟨o,rfl,Z,_⟩:=A5 J;have W:P.underlying t=some (.pointer (P.pointee t)):=by simp[Program.pointee,hu]
 have hg:(eqGuard .neq t x y (.pointer o) (.pointer none)).run P w=.ok () w:=by simp[eqGuard]
 rw[←Z];simp only[ay,execOp,h.eval hx,h.eval hy,Sem.run_bind,hg,Result.andThen_ok,run_neq_pointer_nil w t o W,Sem.run_pure]
theorem HZ{v:Value}{xs ys:List O}{xl xh xm:Operand}{kl kh km:IntKind}{lo hi:Int}(W:aw δ n a l)(hx:evl l x=some v)(hu:P.underlying t=some (.slice e))(hs:∀w,(sizeOf e).run P w=.ok k.sz w)(hv:RV (kSl k) m v xs)(hl:evl l xl=some (.int kl lo)) (hh:evl l xh=some (.int kh hi)) (hm:evl l xm=some (.int km hi)) (a0:sub xs lo hi=some ys):a8 P ⟨some d,.slice t x (some xl) (some xh) (some xm),ty,pos,aft,g⟩ a w (λv w'=>w=w'/\RV (kSl k) m v ys):=by
 obtain⟨h0,h1,h2,hy⟩:=wV a0;obtain⟨J,cap,rfl,h3,h4,h5⟩:=mT hv;have key:(Instr.sliceBounds true xs.length cap (some (.int kl lo)) (some (.int kh hi)) (some (.int km hi))).run P w=.ok (lo.toNat,hi.toNat,hi.toNat) w:=by
  have q1:hi<=(cap:Int):=by omega
  have q2:lo<=((hi.toNat:Nat):Int):=by omega
  have q3:0<=hi:=by omega
  have q4:¬hi<0:=by omega
  have q5:¬lo<0:=by omega
  have q6:((hi.toNat:Nat):Int)=hi:=by omega
  simp[Instr.sliceBounds,Instr.sliceBound,asIntOf,h0,q1,q2,q3,q4,q5,q6,h1]
 have hr:ay P ⟨some d,.slice t x (some xl) (some xh) (some xm),ty,pos,aft,g⟩ a w (.slice (if hi.toNat=lo.toNat then J else J.map (·.add (lo.toNat*k.sz))) (hi.toNat-lo.toNat) (hi.toNat-lo.toNat)) w:=by simp[ay,execOp,Instr.sliceAt,run_underlying hu,Instr.slice,W.eval hx,W.eval hl,W.eval hh,W.eval hm,key,hs]
 refine hr.step ⟨rfl,?_⟩;have a2:ys.length=hi.toNat-lo.toNat:=by rw[hy];simp;omega
 rw[←a2];by_cases hc:hi.toNat=lo.toNat
 ·rw[if_pos hc];refine fU (Z7 _) (by omega) ?_;cases J with
  |none=>simp only;omega|some J=>exact⟨λh=>by omega,λi hi=>by omega⟩
 ·rw[if_neg hc];refine fU (Z7 _) (by omega) ?_;cases J with
  |none=>simp only at h5;omega|some J=>
   obtain⟨b,o,sp⟩:=J;obtain⟨Z,hR⟩:=h5;replace Z:=Z (by omega);simp only at Z;subst Z;simp only[Zn,gw];refine⟨λ_=>trivial,λi hi'=>?_⟩;have a1:=hR (lo.toNat+i) (by omega);have e1:ys[i]=xs[lo.toNat+i]'(by omega):=by subst hy;simp
   rw[e1,show o+lo.toNat*k.sz+i*k.sz=o+(lo.toNat+i)*k.sz by rw[Z6];omega];exact a1
def kA4:Kd (Int×Int×Int×Int):=cM (aj .u8) (cM (aj .u8) (cM (aj .u8) (aj .u8)))
def Pw:List Int->Option (Int×Int×Int×Int)
 |a::b::c::d::_=>some (a,b,c,d)|_=>none
theorem Fe{cs:List Value}{p:Int×Int×Int×Int}(h:kA4.R m cs p):cs=[.int .u8 p.1,.int .u8 p.2.1,.int .u8 p.2.2.1,.int .u8 p.2.2.2]:=by
 obtain⟨J,Z,h3,W⟩:=h;rw[←Zh 1 cs,show cs.take 1=_ from J.1,←Zh 1 (cs.drop 1),show(cs.drop 1).take 1=_ from Z.1,←Zh 1 ((cs.drop 1).drop 1),show((cs.drop 1).drop 1).take 1=_ from h3.1,show((cs.drop 1).drop 1).drop 1=_ from W.1];rfl
theorem NQ{v:Value}{xs:List Int}{p:Int×Int×Int×Int}(hE:aw δ n a l)(hx:evl l x=some v)(hu:P.underlying t=some (.array 4 e))(Z:RV (kSl (aj .u8)) m v xs)(J:Pw xs=some p):a8 P ⟨some d,.sliceToArrayPointer t x,ty,pos,aft,g⟩ a w (λv w'=>w=w'/\PR kA4 m v p):=by match xs,Z,J with
 |q0::q1::q2::q3::r,Z,J=>
  injection J with J;subst J;obtain⟨ad,cap,rfl,h3,h4,h5⟩:=mT Z;simp only[Zp]at h3 h4 h5;cases ad with
  |none=>simp only at h5;omega|some ad=>
   obtain⟨b,o,sp⟩:=ad;obtain⟨W,hR⟩:=h5;replace W:=W (by omega);simp only at W;subst W;have hr:ay P ⟨some d,.sliceToArrayPointer t x,ty,pos,aft,g⟩ a w (.pointer (some ⟨b,o,none⟩)) w:=by
    have a1:¬(r.length+1+1+1+1<4):=by omega
    simp[ay,execOp,hE.eval hx,Instr.arrayAt,run_underlying hu,a1]
   have hl:Rl (aj .u8) m (m.row b o (4*1)) [q0,q1,q2,q3]:=Dw (d:=aj .u8) (xs:=[q0,q1,q2,q3]) (λi hi=>by
    have a0:=hR i (by simp only[Zp,X5]at hi⊢;omega);match i,hi,a0 with
    |0,_,h=>exact h|1,_,h=>exact h|2,_,h=>exact h|3,_,h=>exact h|i+4,hi,_=>simp only[Zp,X5]at hi;omega);refine hr.step ⟨rfl,b,o,rfl,?_⟩;have e0:=hl.2 0 (by simp);have e1:=hl.2 1 (by simp);have e2:=hl.2 2 (by simp);have e3:=hl.2 3 (by simp);have a2:=hl.1;show kA4.R m (m.row b o (4*1)) (q0,q1,q2,q3);generalize m.row b o (4*1)=cs at*;match cs,a2,e0,e1,e2,e3 with|[c0,c1,c2,c3],_,e0,e1,e2,e3=>exact⟨e0,e1,e2,e3⟩
theorem WM{i:TypeInfo}(hu:P.underlying t=some (.array 4 e))(hi:P.info? e=some i)(hc:P.cellsOf e=1)(he:P.underlying e=some (.int .u8))(Z:∀w,(isAgg e).run P w=.ok false w)(hG:P.eqGuardType P.depth t=false):yx P t kA4:=by
 refine⟨λm cs ds p q d w hx hy=>?_,λop o o' cs ds w=>?_⟩
 ·rw[Fe hx,Fe hy];show(Op.equalIn (d+20) t (.agg #[.int .u8 p.1,.int .u8 p.2.1,.int .u8 p.2.2.1,.int .u8 p.2.2.2]) (.agg #[.int .u8 q.1,.int .u8 q.2.1,.int .u8 q.2.2.1,.int .u8 q.2.2.2])).run _ _=_;rw[run_equalIn_array w (d+19) _ _ hu hi,hc];have ee:p=q↔p.1=q.1/\p.2.1=q.2.1/\p.2.2.1=q.2.2.1/\p.2.2.2=q.2.2.2:=by obtain⟨p1,p2,p3,p4⟩:=p;obtain⟨q1,q2,q3,q4⟩:=q;simp
  rw[show Zg 4=[0,1,2,3]from rfl];have J:∀(cs:Array Value) (j:Nat) (v:Value) (w:World),cs[j]?=some v->(part e cs (j*1)).run P w=.ok v w:=λcs j v w h=>by simp[part,Z,h]
  have a0:=λ(w:World) (a b:Int)=>run_equalIn_int w (d+18) e .u8 .u8 a b he;have hn:(Op.eqItems (d+19) e 1 #[.int .u8 p.1,.int .u8 p.2.1,.int .u8 p.2.2.1,.int .u8 p.2.2.2] #[.int .u8 q.1,.int .u8 q.2.1,.int .u8 q.2.2.1,.int .u8 q.2.2.2] []).run P w=.ok true w:=rfl;have step:∀(j:Nat) (is:List Nat) (a b:Int) (r:Bool),(#[Value.int .u8 p.1,.int .u8 p.2.1,.int .u8 p.2.2.1,.int .u8 p.2.2.2]:Array Value)[j]?=some (.int .u8 a)->(#[Value.int .u8 q.1,.int .u8 q.2.1,.int .u8 q.2.2.1,.int .u8 q.2.2.2]:Array Value)[j]?=some (.int .u8 b)->(Op.eqItems (d+19) e 1 #[.int .u8 p.1,.int .u8 p.2.1,.int .u8 p.2.2.1,.int .u8 p.2.2.2] #[.int .u8 q.1,.int .u8 q.2.1,.int .u8 q.2.2.1,.int .u8 q.2.2.2] is).run P w=.ok r w->(Op.eqItems (d+19) e 1 #[.int .u8 p.1,.int .u8 p.2.1,.int .u8 p.2.2.1,.int .u8 p.2.2.2] #[.int .u8 q.1,.int .u8 q.2.1,.int .u8 q.2.2.1,.int .u8 q.2.2.2] (j::is)).run P w=.ok (a==b&&r) w:=by intro j is a b r h1 W h3;simp only[Op.eqItems,Sem.run_bind,J _ _ _ _ h1,J _ _ _ _ W,Result.andThen_ok,a0];cases hab:(a==b)with
   |true=>simpa using h3|false=>simp
  rw[step 0 _ _ _ _ rfl rfl (step 1 _ _ _ _ rfl rfl (step 2 _ _ _ _ rfl rfl (step 3 _ _ _ _ rfl rfl hn)))];congr 1;rw[Bool.eq_iff_iff];simp[ee]
 ·show(eqGuard op t o o' (.agg _) (.agg _)).run _ _=_;cases op<;>simp[eqGuard,hG]
theorem Jj{ps:Array (Nat×Operand)}{h J W Z:Int}(hE:aw δ n a l)(hp:prt l ps=some [(0,.int .u8 h),(1,.int .u8 J),(2,.int .u8 W),(3,.int .u8 Z)])(hu:P.underlying t=some (.array 4 e))(hs:∀w,(sizeOf e).run P w=.ok 1 w)(hz:∀w,(zeroValue t).run P w=.ok (.agg #[.int .u8 0,.int .u8 0,.int .u8 0,.int .u8 0]) w) (h0:inR .u8 h) (h1:inR .u8 J) (h2:inR .u8 W) (h3:inR .u8 Z):a8 P ⟨some d,.build t ps,ty,pos,aft,g⟩ a w (λv w'=>w=w'/\RV kA4 m v (h,J,W,Z)):=by
 have a5:(ps.map λp=>(p.1,a.eval p.2)).toList=_:=pX hE hp;have hr:ay P ⟨some d,.build t ps,ty,pos,aft,g⟩ a w (.agg #[.int .u8 h,.int .u8 J,.int .u8 W,.int .u8 Z]) w:=by
  have a4:(Instr.build t (ps.map λp=>(p.1,a.eval p.2))).run P w=.ok (.agg #[.int .u8 h,.int .u8 J,.int .u8 W,.int .u8 Z]) w:=by
   simp only[Instr.build,Sem.run_bind,hz,Result.andThen_ok,run_underlying hu,hs,a5];rfl
  simp only[ay,execOp,a4,Sem.run_bind,Sem.run_pure,Result.andThen_ok]
 exact hr.step ⟨rfl,_,⟨⟨rfl,h0⟩,⟨rfl,h1⟩,⟨rfl,h2⟩,⟨rfl,h3⟩⟩,rfl⟩
theorem sD (Z:aw δ n a l)(hS:S W0 m w L TL)(hT:dz P t k){i b o:Nat}{cs:List Value}{v:Value}{xx:O}(hx:evl l x=some (.pointer (some ⟨b,o,none⟩)))(hy:evl l y=some v)(hv:RV k m v xx)(hL:L[i]?=some (b,cs))(hb:o+k.sz<=cs.length):a8 P ⟨none,.store t x y,ty,pos,aft,g⟩ a w (λ_ w'=>∃vs,k.R m vs xx/\v=k.val vs/\S W0 m w' (L.set i (b,cs.take o++vs++cs.drop (o+k.sz))) TL):=by
 obtain⟨vs,h,rfl⟩:=hv;have hl:=k.len h;have W:cs≠[]:=λe=>by have:=k.pos;subst e;simp at hb;omega
 obtain⟨hB,hm,t',ht⟩:=hS.own i _ hL W;have J:=ff (P:=P) vs b o 0 cs t' w ht (by omega) (k.one h);have hr:wT P ⟨none,.store t x y,ty,pos,aft,g⟩ a w (w.setRow b (cs.take o++vs++cs.drop (o+k.sz)).toArray):=by simp only[Zm,hl]at J;have a0:=hT.size w;simp only[wT,execOp,Z.eval hx,Z.eval hy,Instr.storeAt,Instr.sureAddr,Sem.run_bind,Sem.run_pure,Result.andThen_ok,storeVar,k.val_cells h,a0];simp[hl,J]
 exact hr.step ⟨vs,h,rfl,hS.setL hL W _⟩
section
variable{β:Type}{kT:Kd O}{k':Kd β}{cs:List Value}{v:Value}
theorem zU{o:Nat}{xx:List O}(h:(kSl k).R m ((cs.drop o).take (kSl k).sz) xx)(J:cs[o]?=some v):RV (kSl k) m v xx:=by
 have e:(cs.drop o).take (kSl k).sz=[v]:=by
  show(cs.drop o).take 1=[v];rw[List.take_one,List.head?_drop,J];rfl
 rw[e]at h;exact⟨_,h,rfl⟩
theorem ru{i b o:Nat}{xx:List O}(hE:aw δ n a l)(hS:S W0 m w L TL)(hT:dz P t (kSl k))(hx:evl l x=some (.pointer (some ⟨b,o,none⟩)))(hL:L[i]?=some (b,cs))(J:(kSl k).R m ((cs.drop o).take (kSl k).sz) xx)(Z:cs[o]?=some v):ay P ⟨some d,.load t x,ty,pos,aft,g⟩ a w v w:=by
 have hA:At w b o ((cs.drop o).take (kSl k).sz):=hS.atL hL (by rw[(kSl k).len J]) (by rw[(kSl k).len J];exact(kSl k).pos);have h:=jE hT J hA;have e:(cs.drop o).take (kSl k).sz=[v]:=by
  show(cs.drop o).take 1=[v];rw[List.take_one,List.head?_drop,Z];rfl
 rw[e]at h;have W:(kSl k).val [v]=v:=rfl;rw[W]at h;simp[ay,execOp,Instr.loadAt,hE.eval hx,Instr.sureAddr,h]
theorem w8{off:Nat}{s:O->List β->O}{i b:Nat}{xx:O}{W:List β}(hE:aw δ n a l)(hS:S W0 m w L TL)(hT:dz P t (kSl k'))(hf:StF kT (kSl k') off s)(hx:evl l x=some (.pointer (some ⟨b,off,none⟩)))(hy:evl l y=some v)(hv:RV (kSl k') m v W)(hL:L[i]?=some (b,cs))(Z:kT.R m cs xx):a8 P ⟨none,.store t x y,ty,pos,aft,g⟩ a w (λ_ w'=>∃cs',kT.R m cs' (s xx W)/\cs'[off]?=some v/\S W0 m w' (L.set i (b,cs')) TL):=(sD hE hS hT hx hy hv hL (by rw[kT.len Z];exact hf.1)).imp λ_ _⟨vs,h,J,h2⟩=>⟨_,hf.2 m cs vs xx W Z h,by
 have hl:=(kSl k').len h;match vs,hl,J with
 |[c],_,J=>
  have J:v=c:=J;subst J;have h:=hf.1;rw[←kT.len Z]at h;have h:off+1<=cs.length:=h;rw[Zc,Zi (by simp only[Zr];omega),show off-(cs.take off).length=0 by simp only[Zr];omega];rfl,h2⟩
theorem yG{off:Nat}{s:O->β->O}{i b:Nat}{xx:O}{W:β}(hE:aw δ n a l)(hS:S W0 m w L TL)(hT:dz P t k')(hf:StF kT k' off s)(hx:evl l x=some (.pointer (some ⟨b,off,none⟩)))(hy:evl l y=some v)(hv:RV k' m v W)(hL:L[i]?=some (b,cs))(Z:kT.R m cs xx):a8 P ⟨none,.store t x y,ty,pos,aft,g⟩ a w (λ_ w'=>∃cs',kT.R m cs' (s xx W)/\(∀q u,cs[q]?=some u->(q<off\/off+k'.sz<=q)->cs'[q]?=some u)/\S W0 m w' (L.set i (b,cs')) TL):=(sD hE hS hT hx hy hv hL (by rw[kT.len Z];exact hf.1)).imp λ_ _⟨vs,h,h0,h2⟩=>⟨_,hf.2 m cs vs xx W Z h,λq u hq J=>by
 have hl:=k'.len h;have h:=hf.1;rw[←kT.len Z]at h;have a0:=(zx.1 hq).1;rcases J with J|J;·rw[Zc,Zl (by simp;omega),List.getElem?_take_of_lt J,hq]
 ·rw[Zi (by simp;omega)];simp only[Yr,Zr,Zu];rw[←hq];congr 1;omega,h2⟩
theorem sE{i b:Nat}{zc:List Value}{xx:O}(hE:aw δ n a l)(hS:S W0 m w L TL)(hT:dz P t k)(hx:evl l x=some (.pointer (some ⟨b,0,none⟩)))(hy:evl l y=some (.agg zc.toArray))(h:k.agg=true)(hz:k.R m zc xx)(hL:L[i]?=some (b,cs))(W:cs.length=k.sz):a8 P ⟨none,.store t x y,ty,pos,aft,g⟩ a w (λ_ w'=>S W0 m w' (L.set i (b,zc)) TL):=(sD hE hS hT hx hy ⟨zc,hz,by simp[Kd.val,h]⟩ hL (by omega)).imp λ_ _⟨vs,h1,J,Z⟩=>by
 have e:vs=zc:=by simp only[Kd.val,h,if_true,Value.agg.injEq]at J;simpa using congrArg Array.toList J.symm
 subst e;simpa[←W]using Z
end
theorem tU{ps:Array (Nat×Operand)}{h:Array Field}{pl:List (Nat×Nat)}{z:Value}(hE:aw δ n a l)(Z:prt l ps=some [])(hu:P.underlying t=some (.struct h))(a1:h.toList.mapM (λf=>(P.info? f.type).map λi=>(f.offset,i.size))=some pl)(hz:∀w,(zeroValue t).run P w=.ok z w):ay P ⟨some d,.build t ps,ty,pos,aft,g⟩ a w (.agg z.cells) w:=by
 have a0:(ps.map λp=>(p.1,a.eval p.2)).toList=[]:=pX hE Z;have a2:(h.mapM λf:Field=>(do pure (f.offset,←sizeOf f.type):Sem (Nat×Nat))).run P w=.ok pl.toArray w:=by
  rw[Array.mapM_eq_mapM_toList];have:=run_places (P:=P) w h.toList pl a1;simp only[Sem.run_map];have W:(h.toList.mapM λf:Field=>(do pure (f.offset,←sizeOf f.type):Sem (Nat×Nat))).run P w=.ok pl w:=by
   have h2:(λf:Field=>(do pure (f.offset,←sizeOf f.type):Sem (Nat×Nat)))=(λf:Field=>Prod.mk f.offset<$>sizeOf f.type):=by funext f;rfl
   rw[h2];exact this
  rw[W];rfl
 have J:(Instr.build t (ps.map λp=>(p.1,a.eval p.2))).run P w=.ok (.agg z.cells) w:=by simp only[Instr.build,Sem.run_bind,hz,Result.andThen_ok,run_underlying hu,a2,a0,Instr.fill,Sem.run_pure]
 simp only[ay,execOp,J,Sem.run_bind,Sem.run_pure,Result.andThen_ok]
theorem NR{ps:Array (Nat×Operand)}{vs:List Value}{xs:List O}{z:Value}(hE:aw δ n a l)(hS:S W0 m w L TL)(hp:prt l ps=some (num 0 vs))(hu:P.underlying t=some (.slice e))(hs:∀w,(sizeOf e).run P w=.ok k.sz w)(hz:∀w,(zeroValue e).run P w=.ok z w)(hv:RVl k m vs xs){len:Nat}(a9:vs.length=len) (b0:Yf (len*k.sz) 16777216=true):a8 P ⟨some d,.buildSlice t len ps,ty,pos,aft,g⟩ a w (λv' w'=>∃m',M.le m m'/\S W0 m' w' L ((k.sz,v')::TL)/\RV (kSl k) m' v' xs/\∃b l',v'=.slice (some ⟨b,0,none⟩) len len/\W0.heap.size<=b/\m' b=some l'):=by
 intro ro Kk Q hk;have hB:W0.heap.size<=w.heap.size:=hS.below.size;have b2:=Z0 b0;subst a9;have b1:ay P ⟨some d,.buildSlice t vs.length ps,ty,pos,aft,g⟩ a w (.slice (some ⟨w.heap.size,0,none⟩) vs.length vs.length) (w.alloc (.cells (jf vs).toArray e)):=by
  have a4:=λ(cs:Array Value) (a2:cs.size=vs.length*k.sz)=>by have:=wW (sz:=k.sz) vs 0 cs.toList hv.size (by simp[a2]);simpa[a2,Y4,Z9 (show cs.toList.length<=vs.length*k.sz by simp[a2])]using this
  have:(Instr.buildSlice t vs.length (ps.map λp=>(p.1,a.eval p.2))).run P w=.ok (.slice (some ⟨w.heap.size,0,none⟩) vs.length vs.length) (w.alloc (.cells (jf vs).toArray e)):=by
   simp only[Instr.buildSlice,Sem.run_bind,run_underlying hu,Result.andThen_ok,hs,pX hE hp];rw[if_neg (by omega)];by_cases h0:vs.length*k.sz=0
   ·simp only[h0,if_true,Sem.run_bind,Sem.run_pure,Result.andThen_ok];have:=a4 ((Array.range 0).map (λx=>(#[]:Array Value)[x%(#[]:Array Value).size]!)) (by simp[h0]);rw[this];simp[newRow]
   ·simp only[h0,if_false,Sem.run_bind,hz,Sem.run_pure,Result.andThen_ok];have:=a4 ((Array.range (vs.length*k.sz)).map (λx=>z.cells[x%z.cells.size]!)) (by simp);rw[this];simp[newRow]
  simp[ay,execOp,this]
 have h1:=hS.allocM (jf vs) e;refine b1.step (Post:=λv' w'=>∃m',M.le m m'/\S W0 m' w' L ((k.sz,v')::TL)/\RV (kSl k) m' v' xs/\∃b l',v'=.slice (some ⟨b,0,none⟩) vs.length vs.length/\W0.heap.size<=b/\m' b=some l') ?_ ro Kk Q hk;refine⟨m.put w.heap.size (jf vs),h1.1,?_,?_,w.heap.size,jf vs,rfl,hB,M.put_same _ _ _⟩
 ·have W:=h1.2;refine⟨W.below,W.imm,W.own,W.nodup,λi e' J=>?_,λi j e1 e2 a1 a0 b3=>?_⟩;·cases i with
   |zero=>simp at J;subst J;exact⟨by simp,.inl rfl⟩|succ i=>exact W.tails i e' (by simpa using J)
  ·have a3:∀(i:Nat) (e':Nat×Value),TL[i]?=some e'->jU e'.2≠some w.heap.size:=λi e' J h=>by have:=zJ (hS.tails i e' J) h;omega
   intro b h Z;cases i with
   |zero=>simp at a1;subst a1;cases j with
    |zero=>omega|succ j=>simp[jU]at h;subst h;exact a3 j e2 (by simpa using a0) Z
   |succ i=>cases j with
    |zero=>simp at a0;subst a0;simp[jU]at Z;subst Z;exact a3 i e1 (by simpa using a1) h|succ j=>exact hS.apart i j e1 e2 (by simpa using a1) (by simpa using a0) (by omega) b h Z
 ·have a5:=hv.length;have a6:=k.pos;rw[a5];refine fU (Z7 _) (by unfold cz;have:=Yi vs.length a6;simp at this;omega) ⟨λ_=>rfl,?_⟩;exact ql (M.put_same _ _ _) (hv.cells.mono h1.1) (by simp)
theorem Lg{v:Value}{b q i sz:Nat}{l':List Value}(hE:aw δ n a l)(hS:S W0 m w L TL)(hx:evl l x=some v)(hu:P.underlying t=some (.slice e))(he:P.underlying e=some (.int .u8))(hv:v=.slice (some ⟨b,0,none⟩) q q)(hB:W0.heap.size<=b)(hm:m b=some l')(hT:TL[i]?=some (sz,v)):a8 P ⟨some d,.convert t t x,ty,pos,aft,g⟩ a w (λu w'=>v=u/\S W0 m w' L TL):=by
 obtain⟨c,tt,fr,r,hb,hc,_⟩:=hS.imm b l' hm;subst hv;have a4:(w.freeze {block:=b,off:=c.size} 1)={w with heap:=w.heap.modify b fun|.cells c' elem (lo,hi)=>.cells c' elem (if lo==hi then (c.size,c.size+1)else (min lo c.size,max hi (c.size+1)))|o=>o}:=rfl;obtain⟨a3,a6⟩:∃a3,(w.freeze {block:=b,off:=c.size} 1).heap[b]?=some (.cells c tt a3):=by obtain⟨lo,hi⟩:=fr;refine⟨if lo==hi then (c.size,c.size+1)else (min lo c.size,max hi (c.size+1)),?_⟩;rw[a4];simp[Array.getElem?_modify,hb]
 have a0:∀k,k≠b->(w.freeze {block:=b,off:=c.size} 1).heap[k]?=w.heap[k]?:=λk W=>by rw[a4];simp[Array.getElem?_modify,Ne.symm W]
 have a2:(w.freeze {block:=b,off:=c.size} 1).heap.size=w.heap.size:=by rw[a4];simp
 have hr:ay P ⟨some d,.convert t t x,ty,pos,aft,g⟩ a w (.slice (some ⟨b,0,none⟩) q q) (w.freeze {block:=b,off:=c.size} 1):=by
  have b1:(shape b).run P w=.ok (some (tt,c.size)) w:=by simp[shape,Sem.run,World.shape?,hb]
  have b0:(markStringish ⟨b,0,none⟩).run P w=.ok () (w.freeze {block:=b,off:=c.size} 1):=by
   simp only[markStringish,Sem.run_bind,b1,Result.andThen_ok];rfl
  simp[ay,execOp,hE.eval hx,convert,run_underlying hu,run_underlying he,b0,Result.andThen]
 refine hr.step ⟨rfl,⟨⟨⟨⟨hS.below.os,hS.below.tape,hS.below.output,by rw[a2];exact hS.below.size,λk W=>?_⟩,hS.below.drawn⟩,λk o ho=>?_⟩,λk b3 W=>?_,λj e' hj a1=>?_,hS.nodup,λj e' hj=>?_,hS.apart⟩⟩
 ·have b4:k<W0.heap.size:=W;rw[a0 k (by omega)];exact hS.below.block k W
 ·obtain⟨J,Z⟩:=hS.below.kept k o ho;have a1:k≠b:=λe'=>by subst e';rw[hb]at J;injection J with J;subst J;cases Z
  exact⟨by rw[a0 k a1];exact J,Z⟩
 ·by_cases e':k=b
  ·subst e';rw[hm]at W;injection W with W;subst W;exact⟨c,tt,a3,r,a6,hc,.inl hB⟩
  ·obtain⟨c',t',f',r',J,Z⟩:=hS.imm k b3 W;exact⟨c',t',f',r',by rw[a0 k e'];exact J,Z⟩
 ·obtain⟨J,Z,t',h3⟩:=hS.own j e' hj a1;have a5:e'.1≠b:=λe2=>by rw[e2,hm]at Z;cases Z
  exact⟨J,Z,t',by rw[a0 _ a5];exact h3⟩
 ·have ht:=hS.tails j e' hj;by_cases hji:j=i
  ·subst hji;rw[hT]at hj;injection hj with hj;subst hj;exact⟨by rw[a2];exact(Array.getElem?_eq_some_iff.1 hb).1,.inl rfl⟩
  ·have a9:=hS.apart i j _ _ hT hj (λe2=>hji e2.symm) b rfl;obtain⟨s',u⟩:=e';cases u<;>try exact ht
   rename_i ao len cap;cases ao with
   |none=>trivial|some ad=>
    have a1:ad.block≠b:=λe2=>a9 (by simp[jU,e2]);obtain⟨b2,h⟩:=ht;refine⟨by rw[a2];exact b2,?_⟩;rcases h with h|⟨h0,J,l2,c2,t2,Z,h3,h4,h5⟩;·exact .inl h
    ·exact .inr ⟨h0,J,l2,c2,t2,Z,h3,by rw[a0 _ a1];exact h4,h5⟩
end
end Go.Proofs.YthbonoagbeilkaaGreat.Hay
