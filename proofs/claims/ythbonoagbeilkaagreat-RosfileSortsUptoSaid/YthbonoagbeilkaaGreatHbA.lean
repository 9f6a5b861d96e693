import Derived.Orders
import Derived.Below
import Derived.WalkKit
import Derived.Laws.Tables
import Derived.RangeFuncFrom
import Derived.RangeFuncLeaves
import Derived.OrdersIn
import Derived.Scope
import Derived.Laws.Append
import Derived.RowKit3
import Derived.Laws.BytesArg
import Derived.Laws.MakeOwn
import Derived.Laws.Strings
import Derived.Laws.Slices
import Derived.Laws.StructEq
import Derived.Lib.Bytealg
import Derived.Laws.Externs
import Derived.Laws.Cover3
import Derived.Shelf.GgSortFunc.InsertionK
import Derived.Shelf.SlSortCmp.InsertionK
import Derived.Deep.Slices
import Derived.ChangeKeysEq
import Derived.WideKeyEntry
import Derived.DeepKeys4
namespace Go.Proofs.YthbonoagbeilkaaGreat.Hay
open Option renaming map_some→Qn,bind_eq_bind→Z2,bind_some→Z3,pure_def→Zs
open List renaming getElem?_eq_some_iff→zw,eq_nil_of_length_eq_zero→Q0,take_of_length_le→Q1,take_append_of_le_length→Q2,all_eq_true→Q7,drop_eq_nil_of_le→Q8,take_take→Qa,append_assoc→Qb,range→Qc,drop_take→Qd,drop_drop→Qe,getElem?_eq_getElem→Qf,take_append_drop→Qh,getElem?_append_right→Qi,drop_append_of_le_length→Qj,getElem?_append_left→Qk,drop_zero→Ql,mem_of_getElem?→Qo,nil_append→Qp,length_cons→Qq,length_take→Qr,mem_zipIdx_iff_getElem?→Qt,getElem?_drop→Qu,getElem?_set→Qv,replicate→Qw,take_zero→Qx,map_cons→Qy,eq_nil_iff_forall_not_mem→Z0,mapM_cons→Z1,length_nil→Z4,map_congr_left→Z5,drop_append→Z7,getElem?_take→Z9,mem_singleton→Za,getElem?_toArray→Zb,set_getElem_self→Zc,elem_iff→Zd,getD_eq_getElem?_getD→Ze,mem_append→Zf,drop_eq_getElem_cons→Zg,drop_succ_cons→Zj,getElem_mem→Zk,take_succ_eq_append_getElem→Zl,getElem_cons_zero→Zn,range_succ_eq_map→Zp,mem_filter→Zq,getElem?_eq_none→Zt,length_replicate→Zu,any_eq_true→Zw,range'→Zx,setIfInBounds_toArray→Zy,map_map→Zz,mem_map→X3,getElem_of_mem→X4,take_succ_cons→X5,getElem_append_right→X7,mem_or_eq_of_mem_set→X8,length_append→X9,getElem_append_left→Xa,flatMap_cons→Xb,ext_getElem?→Xc,mem_range→Xe,getElem_replicate→Xg,filter_eq_nil_iff→Xh,drop_of_length_le→Xi,ext_getElem→Xj,getElem_set→Xk,set_append_right→Xl,foldl_cons→Xn,mem_cons→Xq,map_nil→Xs
open Nat renaming le_of_ble_eq_true→zh,mul_le_mul_right→Jn,eq_of_beq_eq_true→Q3,min_eq_left→Q4,le_refl→Q5,add_mul→Q6,eq_zero_or_pos→Q9,add_zero→Qm,blt→Qz,lt_or_ge→Zh,zero_add→Zi,beq→Zm,ble→Zo,mul_pos→Zr,mul_le_mul_left→Zv,mod_eq_of_lt→Xd,min_eq_right→Xf,mul_comm→Xp,min_comm→Xr
open Bool renaming and_eq_true→Qg,not_eq_true'→Qs,or_eq_true→Z6,false_eq_true→Z8,eq_iff_iff→Xo
open BitVec renaming ofInt→Xm
open IntKind renaming i64→X6
open Go.RowKit (Below)
abbrev M:=Nat->Option (List Value)
def M.le (m m':M):Prop:= ∀b l,m b=some l->∃r,m' b=some (l++r)
theorem M.le.refl (m:M):M.le m m:=λ_ l h=>⟨[],by simpa using h⟩
theorem M.le.trans {a b c:M}(h:M.le a b)(k:M.le b c):M.le a c:=λx l W=>by
  obtain⟨r,hr⟩:=h x l W;obtain⟨J,Z⟩:=k x _ hr;exact⟨r++J,by simpa using Z⟩
def M.row (m:M)(b o n:Nat):List Value:=match m b with|some l=>(l.drop o).take n|none=>[]
theorem M.row_mono {m m':M}(h:M.le m m'){b o n:Nat}(J:(m.row b o n).length=n)(Z:0<n):m'.row b o n=m.row b o n:=by
  unfold M.row at*;cases hm:m b with
  |none=>simp[hm] at J;omega
  | some l=>
    obtain⟨r,W⟩:=h b l hm;simp only[hm,W] at*;rw[Z7];simp at J;rw[Q2 (by simp;omega)]
structure Kd (O:Type) where
  sz:Nat
  agg:Bool
  R:M->List Value->O->Prop
  mono:∀{m m' cs x},M.le m m'->R m cs x->R m' cs x
  len:∀{m cs x},R m cs x->cs.length=sz
  one:∀{m cs x},R m cs x->∀c∈cs,c.oneCell'=true
  pos:0<sz
  flat:agg=false->sz=1
def Kd.val {O:Type}(d:Kd O)(cs:List Value):Value:=if d.agg then .agg cs.toArray else cs.headD undef
def RV {O:Type}(d:Kd O)(m:M)(v:Value)(x:O):Prop:= ∃cs,d.R m cs x/\v=d.val cs
theorem RV.mono {O:Type}{d:Kd O}{m m':M}{v:Value}{x:O}(h:RV d m v x)(W:M.le m m'):RV d m' v x:=by
  obtain⟨cs,Z,J⟩:=h;exact⟨cs,d.mono W Z,J⟩
theorem Kd.val_cells {O:Type}(d:Kd O){m:M}{cs:List Value}{x:O}(h:d.R m cs x):(d.val cs).cells=cs.toArray:=by
  unfold Kd.val;cases ha:d.agg with
  |true=>simp[Value.cells]
  | false=>
    have J:=d.len h;rw[d.flat ha] at J
    match cs,J with
    | [c],_=>
      have W:=d.one h c (by simp);simp;cases c<;>simp_all[Value.oneCell',Value.cells]
def PR {O:Type}(d:Kd O)(m:M)(v:Value)(x:O):Prop:= ∃b o,v= .pointer (some ⟨b,o,none⟩)/\d.R m (m.row b o d.sz) x
theorem PR.mono {O:Type}{d:Kd O}{m m':M}{v:Value}{x:O}(h:PR d m v x)(J:M.le m m'):PR d m' v x:=by
  obtain⟨b,o,Z,W⟩:=h;refine⟨b,o,Z,?_⟩;rw[M.row_mono J (d.len W) d.pos];exact d.mono J W
def inR (k:IntKind)(n:Int):Prop:=k.wrap n=n
def aj (k:IntKind):Kd Int:={
  sz:=1
  agg:=false
  R:=λ_ cs n=>cs=[.int k n]/\inR k n
  mono:=λ_ h=>h
  len:=λh=>by simp[h.1]
  one:=λh=>by simp[h.1,Value.oneCell']
  pos:=by decide
  flat:=λ_=>rfl
  }
def cj:Kd Bool:={
  sz:=1
  agg:=false
  R:=λ_ cs b=>cs=[.bool b]
  mono:=λ_ h=>h
  len:=λh=>by simp[h]
  one:=λh=>by simp[h,Value.oneCell']
  pos:=by decide
  flat:=λ_=>rfl
  }
def bts (s:List Int):ByteArray:=⟨(s.map λn=>UInt8.ofNat n.toNat).toArray⟩
def bU:Nat:=2^48
def oy:Kd (List Int):={
  sz:=1
  agg:=false
  R:=λ_ cs s=>cs=[.string (bts s)]/\(∀n∈s,0<=n/\n<256)/\s.length<=bU
  mono:=λ_ h=>h
  len:=λh=>by simp[h.1]
  one:=λh=>by simp[h.1,Value.oneCell']
  pos:=by decide
  flat:=λ_=>rfl
  }
def kSl {O:Type} (d:Kd O):Kd (List O):={
  sz:=1
  agg:=false
  R :=λm cs xs=>∃a len cap,cs=[.slice a len cap]/\len=xs.length/\len<=cap/\xs.length<=bU/\
    (match a with
     |none=>cap=0
     |some ad=>(0<cap->ad.spot=none)/\∀i (h:i<xs.length),d.R m (m.row ad.block (ad.off+i*d.sz) d.sz) xs[i])
  mono:=λ{m m' cs xs} hm h=>by
    obtain⟨a,len,cap,J,h2,Z,h4,W⟩:=h;refine⟨a,len,cap,J,h2,Z,h4,?_⟩;cases a with
    |none=>exact W
    | some ad=>
      refine⟨W.1,λi hi=>?_⟩;have:=W.2 i hi;rw[M.row_mono hm (d.len this) d.pos];exact d.mono hm this
  len:=λh=>by obtain⟨a,len,cap,J,_⟩:=h;simp[J]
  one:=λh=>by obtain⟨a,len,cap,J,_⟩:=h;simp[J,Value.oneCell']
  pos:=by decide
  flat:=λ_=>rfl
  }
def ci {O β:Type} (d:Kd O) (e:Kd β):Kd (O×β):={
  sz:=d.sz+e.sz
  agg:=true
  R:=λm cs x=>d.R m (cs.take d.sz) x.1/\e.R m (cs.drop d.sz) x.2
  mono:=λW h=>⟨d.mono W h.1,e.mono W h.2⟩
  len:=λ{m cs x} h=>by have J:=d.len h.1;have Z:=e.len h.2;simp at J Z;omega
  one:=λ{m cs x} h c hc=>by
    rw[←Qh d.sz cs] at hc;rcases Zf.1 hc with J|J
    ·exact d.one h.1 c J
    ·exact e.one h.2 c J
  pos:=by have:=d.pos;omega
  flat:=λh=>by cases h
  }
def o8 {O β:Type}(f:β->O)(d:Kd O):Kd β:={
  sz:=d.sz
  agg:=true
  R:=λm cs x=>d.R m cs (f x)
  mono:=d.mono
  len:=d.len
  one:=d.one
  pos:=d.pos
  flat:=λh=>by cases h
  }
def qs (B:Nat)(m:M)(w:World)(sz:Nat):Value->Prop
  | .slice none _ _=>True
  | .slice (some ad) len cap=>ad.block<w.heap.size/\(len=cap\/ad.spot=none/\B<=ad.block/\∃l c t,m ad.block=some l/\l.length=ad.off+len*sz/\w.heap[ad.block]? =some (.cells c t (0,0))/\ad.off+cap*sz<=c.size)
  |_=>False
def iz:Value->Option Nat
  | .slice (some ad) _ _=>some ad.block
  |_=>none
def tT (v u:Value):Prop:= ∀b,iz v=some b->iz u≠some b
structure Bel (B:Nat)(w w':World):Prop extends Below B w w' where
  drawn:w.drawn<=w'.drawn
theorem Bel.refl (B:Nat)(w:World):Bel B w w:=⟨Below.refl B w,Q5 _⟩
theorem Bel.trans {B:Nat}{a b c:World}(h:Bel B a b)(k:Bel B b c):Bel B a c:=⟨h.toBelow.trans k.toBelow,Nat.le_trans h.drawn k.drawn⟩
theorem Bel.drew {B:Nat}{a w:World}(h:Bel B a w):Bel B a w.drew:=⟨h.toBelow.drew,Nat.le_succ_of_le h.drawn⟩
theorem Bel.alloc {B:Nat}{a w:World}(h:Bel B a w)(J:B<=w.heap.size)(o:Obj):Bel B a (w.alloc o):=⟨h.toBelow.alloc J o,h.drawn⟩
structure Bse where
  w:World
  keep:Nat->Option Obj
abbrev Bse.heap (W0:Bse):Array Obj:=W0.w.heap
structure Blw (W0:Bse)(w:World):Prop extends Bel W0.heap.size W0.w w where
  kept:∀(k:Nat) (o:Obj),W0.keep k=some o->w.heap[k]? =some o/\o.isCells=false
theorem Blw.step {W0:Bse}{w w':World}(h:Blw W0 w)(W:Bel W0.heap.size w w')(Z:∀(k:Nat)(o:Obj),w.heap[k]? =some o->o.isCells=false->w'.heap[k]? =some o):Blw W0 w':=
  ⟨h.toBel.trans W,λk o J=>⟨Z k o (h.kept k o J).1 (h.kept k o J).2,(h.kept k o J).2⟩⟩
theorem Blw.drew {W0:Bse}{w:World}(h:Blw W0 w):Blw W0 w.drew:=⟨h.toBel.drew,h.kept⟩
theorem Blw.alloc {W0:Bse}{w:World}(h:Blw W0 w)(W:W0.heap.size<=w.heap.size)(o:Obj):Blw W0 (w.alloc o):=
  h.step ((Bel.refl _ w).alloc W o) λk o' J _=>by
    have:=(Array.getElem?_eq_some_iff.1 J).1;show(w.heap.push o)[k]? =_;rw[Array.getElem?_push,if_neg (by omega)];exact J
def byt (l:List Value):Prop:= ∀c∈l,∃n,c= .int .u8 n
structure S (W0:Bse)(m:M)(w:World)(L:List (Nat×List Value))(TL:List (Nat×Value)):Prop where
  below:Blw W0 w
  imm:∀b l,m b=some l->∃c t fr r,w.heap[b]? =some (.cells c t fr)/\c.toList=l++r/\(W0.heap.size<=b->fr=(0,0)\/byt l)
  own:∀(i:Nat) (e:Nat×List Value),L[i]? =some e->e.2≠[]->W0.heap.size<=e.1/\m e.1=none/\∃t,w.heap[e.1]? =some (.cells e.2.toArray t (0,0))
  nodup:∀(i j:Nat) (e e':Nat×List Value),L[i]? =some e->L[j]? =some e'->i≠j->e.2≠[]->e'.2≠[]->e.1≠e'.1
  tails:∀(i:Nat) (e:Nat×Value),TL[i]? =some e->qs W0.heap.size m w e.1 e.2
  apart:∀(i j:Nat) (e e':Nat×Value),TL[i]? =some e->TL[j]? =some e'->i≠j->tT e.2 e'.2
section
variable {W0:Bse}{m:M}{w:World}{L:List (Nat×List Value)}{TL:List (Nat×Value)}
theorem S.drew (h:S W0 m w L TL):S W0 m w.drew L TL:=
  ⟨h.below.drew,h.imm,h.own,h.nodup,λi e J=>by
    have:=h.tails i e J;revert this
    cases e with|mk s v=>cases v<;>intro h<;>exact h,h.apart⟩
theorem S.lt (h:S W0 m w L TL){b:Nat}{l:List Value}(J:m b=some l):b<w.heap.size:=by
  obtain⟨c,t,Z,r,W,_⟩:=h.imm b l J;exact(Array.getElem?_eq_some_iff.1 W).1
theorem S.fresh (h:S W0 m w L TL){b:Nat}(J:w.heap.size<=b):m b=none:=by
  cases hm:m b with
  |none=>rfl
  |some l=>have:=h.lt hm;omega
theorem S.dropL (h:S W0 m w L TL)(k:Nat):S W0 m w (L.drop k) TL:=
  ⟨h.below,h.imm,λi e J=>h.own (k+i) e (by simpa using J),λi j e e' J W Z=>h.nodup (k+i) (k+j) e e' (by simpa using J) (by simpa using W) (by omega),h.tails,h.apart⟩
theorem S.dropT (h:S W0 m w L TL)(k:Nat):S W0 m w L (TL.drop k):=
  ⟨h.below,h.imm,h.own,h.nodup,λi e J=>h.tails (k+i) e (by simpa using J),λi j e e' J W Z=>h.apart (k+i) (k+j) e e' (by simpa using J) (by simpa using W) (by omega)⟩
theorem S.selL (h:S W0 m w L TL)(Z:List (Nat×List Value))(f:Nat->Nat)(W:∀i e,Z[i]? =some e->L[f i]? =some e)(hi:∀i j,f i=f j->i=j):S W0 m w Z TL:=
  ⟨h.below,h.imm,λi e J=>h.own (f i) e (W i e J),λi j e e' J a0 a1=>h.nodup (f i) (f j) e e' (W i e J) (W j e' a0) (λe=>a1 (hi _ _ e)),h.tails,h.apart⟩
theorem S.selT (h:S W0 m w L TL)(Z:List (Nat×Value))(f:Nat->Nat)(W:∀i e,Z[i]? =some e->TL[f i]? =some e)(hi:∀i j,f i=f j->i=j):S W0 m w L Z:=
  ⟨h.below,h.imm,h.own,h.nodup,λi e J=>h.tails (f i) e (W i e J),λi j e e' J a0 a1=>h.apart (f i) (f j) e e' (W i e J) (W j e' a0) (λe=>a1 (hi _ _ e))⟩
theorem S.nilT (h:S W0 m w L TL)(sz l c:Nat):S W0 m w L ((sz,.slice none l c)::TL):=
  ⟨h.below,h.imm,h.own,h.nodup,λi e J=>by
    cases i with
    |zero=>simp at J;subst J;trivial
    |succ i=>exact h.tails i e (by simpa using J),
   λi j e e' J W a0=>by
    cases i with
    |zero=>simp at J;subst J;intro b Z;simp[iz] at Z
    | succ i=>
      cases j with
      |zero=>simp at W;subst W;intro b Z;simp[iz]
      |succ j=>exact h.apart i j e e' (by simpa using J) (by simpa using W) (by omega)⟩
theorem nV {B sz:Nat}{v:Value}{w':World}(W:∀b,b<w.heap.size->w'.heap[b]? =w.heap[b]?)(h:qs B m w sz v):qs B m w' sz v:=by
  cases v<;>try exact h
  rename_i a len cap;cases a with
  |none=>trivial
  | some ad=>
    obtain⟨J,h⟩:=h
    have a0:ad.block<w'.heap.size:=by
      have:=W _ J;rw[Array.getElem?_eq_getElem J] at this;exact(Array.getElem?_eq_some_iff.1 this).1
    refine⟨a0,?_⟩;rcases h with h|⟨Z,h1,l,c,t,h2,h3,h4,h5⟩
    ·exact .inl h
    ·exact .inr ⟨Z,h1,l,c,t,h2,h3,by rw[W _ J];exact h4,h5⟩
theorem C6 {B sz:Nat}{v:Value}{m':M}(W:∀b,b<w.heap.size->m' b=m b)(h:qs B m w sz v):qs B m' w sz v:=by
  cases v<;>try exact h
  rename_i a len cap;cases a with
  |none=>trivial
  | some ad=>
    obtain⟨J,h⟩:=h;refine⟨J,?_⟩;rcases h with h|⟨Z,h1,l,c,t,h2,h3,h4,h5⟩
    ·exact .inl h
    ·exact .inr ⟨Z,h1,l,c,t,by rw[W _ J];exact h2,h3,h4,h5⟩
theorem tU {B sz b:Nat}{v:Value}(h:qs B m w sz v)(J:iz v=some b):b<w.heap.size:=by
  cases v<;>simp[iz] at J;rename_i a len cap;cases a with
  |none=>simp at J
  |some ad=>simp at J;subst J;exact h.1
theorem gp (w:World)(o:Obj)(b:Nat)(h:b<w.heap.size):(w.alloc o).heap[b]? =w.heap[b]? :=by
  show(w.heap.push o)[b]? =_;rw[Array.getElem?_push,if_neg (by omega)]
theorem nW (w:World)(o:Obj):(w.alloc o).heap[w.heap.size]? =some o:=by
  show(w.heap.push o)[w.heap.size]? =_;simp
theorem S.allocL (h:S W0 m w L TL)(cs:List Value)(t:TypeId):S W0 m (w.alloc (.cells cs.toArray t)) ((w.heap.size,cs)::L) TL:=by
  have hB:W0.heap.size<=w.heap.size:=h.below.size;refine⟨h.below.alloc hB _,λb l hb=>?_,λi e J W=>?_,λi j e e' J Z a1 W a0=>?_,λi (e:Nat×Value) J=>nV (gp w _) (h.tails i e J),h.apart⟩
  ·rw[gp w _ b (h.lt hb)];exact h.imm b l hb
  · cases i with
    | zero=>
      simp at J;subst J;exact⟨hB,h.fresh (Q5 _),t,nW w _⟩
    | succ i=>
      obtain⟨h1,h2,t',h3⟩:=h.own i e (by simpa using J) W;exact⟨h1,h2,t',by rw[gp w _ _ (Array.getElem?_eq_some_iff.1 h3).1];exact h3⟩
  · have key:∀(i:Nat) (e:Nat×List Value),L[i]? =some e->e.2≠[]->w.heap.size≠e.1:=λi e J W=>by
      obtain⟨_,_,t',h3⟩:=h.own i e J W;have:=(Array.getElem?_eq_some_iff.1 h3).1;omega
    cases i with
    | zero=>
      simp at J;subst J;cases j with
      |zero=>omega
      |succ j=>exact key j e' (by simpa using Z) a0
    | succ i=>
      cases j with
      |zero=>simp at Z;subst Z;exact λx=>key i e (by simpa using J) W x.symm
      |succ j=>exact h.nodup i j e e' (by simpa using J) (by simpa using Z) (by omega) W a0
def M.put (m:M)(b:Nat)(l:List Value):M:=λk=>if k=b then some l else m k
theorem M.le_put {m:M}{b:Nat}(l:List Value)(h:m b=none):M.le m (m.put b l):=λk r J=>⟨[],by
  unfold M.put;split
  ·rename_i e;subst e;rw[h] at J;cases J
  ·simpa using J⟩
theorem M.put_same (m:M)(b:Nat)(l:List Value):m.put b l b=some l:=by simp[M.put]
theorem M.put_other (m:M){b k:Nat}(l:List Value)(h:k≠b):m.put b l k=m k:=by simp[M.put,h]
theorem S.allocM (h:S W0 m w L TL)(cs:List Value)(t:TypeId):M.le m (m.put w.heap.size cs)/\S W0 (m.put w.heap.size cs) (w.alloc (.cells cs.toArray t)) L TL:=by
  have hB:W0.heap.size<=w.heap.size:=h.below.size;have hn:m w.heap.size=none:=h.fresh (Q5 _);refine⟨M.le_put _ hn,h.below.alloc hB _,λb l J=>?_,λi e W hv=>?_,h.nodup,λi e W=>?_,h.apart⟩
  · by_cases e:b=w.heap.size
    · subst e
      rw[M.put_same] at J;injection J with J;subst J
      exact⟨cs.toArray,t,(0,0),[],nW w _,by simp,λ_=> .inl rfl⟩
    · rw[M.put_other _ _ e] at J
      rw[gp w _ b (h.lt J)];exact h.imm b l J
  · obtain⟨h1,h2,t',Z⟩:=h.own i e W hv
    have a0:=(Array.getElem?_eq_some_iff.1 Z).1;exact⟨h1,by rw[M.put_other _ _ (by omega)];exact h2,t',by rw[gp w _ _ a0];exact Z⟩
  ·exact nV (gp w _) (C6 (w:=w) (m:=m) (λb J=>M.put_other _ _ (by omega)) (h.tails i e W))
end
open Go.RowKit (Below)
def lk:List (Nat×Value)->Nat->Option Value
 |[],_=>none
 |(i,v)::l,j=>match Zm i j with|true=>some v|false=>lk l j
structure am (δ:List Nat)(n:Nat)(a:Act)(l:List (Nat×Value)):Prop where
 defers:a.defers=δ.map λD=>{ target:= .collected D,args:= #[] }
 size:a.tmps.size=n
 at_:∀j v,lk l j=some v->a.tmps.getD j undef=v
abbrev Env (n:Nat)(a:Act)(l:List (Nat×Value)):Prop:=am [] n a l
def evl (l:List (Nat×Value)):Operand->Option Value
 | .tmp t=>lk l t
 | .const v=>some v
 | .global g=>some (.pointer (some ⟨g,0,none⟩))
 | .func f=>some (.func (.func f) #[] #[])
section
variable {δ:List Nat}{ro:Option Nat}{n:Nat}{a:Act}{l:List (Nat×Value)}
theorem am.eval (h:am δ n a l){x:Operand}{v:Value}(J:evl l x=some v):a.eval x=v:=by
 cases x with
 |tmp t=>exact h.at_ t v J
 |const v'=>injection J
 |global g=>injection J
 |func f=>injection J
theorem am.put (h:am δ n a l){d:Nat}(Z:Qz d n=true)(v:Value):am δ n (a.put (some d) v) ((d,v)::l):=by
 have W:d<n:=zh Z;refine⟨h.defers,by simp[Act.put,h.size],λj u J=>?_⟩;simp only[lk] at J;split at J
 ·rename_i e
  have e':=Q3 e;subst e';injection J with J
  subst J;simp[Act.put,h.size,W]
 ·rename_i e
  have e':d≠j:=λx=>by subst x;simp at e
  have:=h.at_ j u J;simpa[Act.put,Array.getElem?_setIfInBounds_ne e'] using this
theorem am.sub (h:am δ n a l){W:List (Nat×Value)}(Z:∀e∈W,lk l e.1=some e.2):am δ n a W:=
 ⟨h.defers,h.size,λj v J=>h.at_ j v (by
  clear h
  induction W with
  |nil=>simp[lk] at J
  | cons e r ih=>
   obtain⟨i,u⟩:=e;simp only[lk] at J;split at J
   ·rename_i e
    have e':=Q3 e;subst e';injection J with J
    subst J;exact Z (i,u) (by simp)
   ·exact ih (λe he=>Z e (by simp[he])) J)⟩
end
def Fr (ro:Option Nat):Fence:={ Fence.wide with round:=ro }
abbrev wpL (ro:Option Nat)(P:Program)(ops:Array Oper)(Q:Exit->Act->World->Prop)(rest:List Oper)(a:Act)(w:World):Prop:=wpListIn (Fr ro) 0 P ops Q rest a w
theorem nJ {ro:Option Nat}{P:Program}{o:Oper}{ρ:Operand->Value}{w w':World}{x:Next}(h:(execOp ρ o).run P w= .ok x w')(W:∀d,x≠ .defer d):(o.semAt ro ρ).run P w= .ok x w':=by
 cases ro with
 |none=>exact h
 | some l=>
  rw[Oper.semAt_some]
  ·exact h
  ·intro c J
   obtain⟨d,op,ty,pos,Z,g⟩:=o;simp only at J;subst J;simp only[execOp,Sem.run_bind] at h;cases hr:(resolve ρ c ty).run P w with
   |ok d' w1=>
    rw[hr] at h;simp only[Result.andThen_ok,Sem.run_pure] at h;injection h with h1 h2
    exact W _ h1.symm
   |halt x' w1=>rw[hr] at h;cases h
theorem C7 {ro:Option Nat}{P:Program}{o:Oper}{a:Act}{w w':World}{v:Value}{K:Act->World->Prop}{Q:Exit->Act->World->Prop}(h:(execOp a.eval o).run P w= .ok (.value v) w')(J:K (a.put o.dst v) w'):o.wpIn (Fr ro) 0 P a w K Q:=by
 refine⟨λ_ _=>trivial,?_⟩;show o.uponIn _ _ _ _ _ _ ((o.semAt ro a.eval).run P w);rw[nJ h (λd=>by simp)];exact J
theorem E5 {ro:Option Nat}{P:Program}{o:Oper}{a:Act}{w w':World}{K:Act->World->Prop}{Q:Exit->Act->World->Prop}(h:(execOp a.eval o).run P w= .ok .skip w')(J:K (a.put o.dst undef) w'):o.wpIn (Fr ro) 0 P a w K Q:=by
 refine⟨λ_ _=>trivial,?_⟩;show o.uponIn _ _ _ _ _ _ ((o.semAt ro a.eval).run P w);rw[nJ h (λd=>by simp)];exact J
theorem yD {ro:Option Nat}{n:Nat}{P:Program}{f:FuncId}{args:Array Value}{w:World}{R:Ending->World->Prop}(h:Calls P f args w R):CallsIn (Fr ro) n P f args w R:=(callsIn_wide (n:=n)).2 h
theorem C8 {n:Nat}{P:Program}{f:FuncId}{args:Array Value}{w:World}{R:Ending->World->Prop}(h:CallsIn (Fr none) n P f args w R):Calls P f args w R:=(callsIn_wide (n:=n)).1 h
theorem pO {ro:Option Nat}{P:Program}{o:Oper}{a:Act}{w w':World}{f:FuncId}{args:Array Value}{K:Act->World->Prop}{Q:Exit->Act->World->Prop}(h:(execOp a.eval o).run P w= .ok (.enter f args) w')
  (Z:Calls P f args w' λe W=>match e with| .returned v=>K (a.put o.dst v) W|_=>False):o.wpIn (Fr ro) 0 P a w K Q:=by
 refine⟨λ_ _=>trivial,?_⟩;show o.uponIn _ _ _ _ _ _ ((o.semAt ro a.eval).run P w);rw[nJ h (λd=>by simp)];refine⟨λh=>(by cases h),(yD Z).mono λe W J=>?_⟩;cases e with
 |returned v=>exact J
 |panicked ch=>exact J.elim
 |outgrown=>exact J.elim
def aw (P:Program)(o:Oper)(a:Act)(w:World)(v:Value)(w':World):Prop:=(execOp a.eval o).run P w= .ok (.value v) w'
def rC (P:Program)(o:Oper)(a:Act)(w w':World):Prop:=(execOp a.eval o).run P w= .ok .skip w'
theorem aw.wp {ro:Option Nat}{P:Program}{o:Oper}{a:Act}{w w':World}{v:Value}{K:Act->World->Prop}{Q:Exit->Act->World->Prop}(h:aw P o a w v w')(J:K (a.put o.dst v) w'):o.wpIn (Fr ro) 0 P a w K Q:=C7 h J
theorem rC.wp {ro:Option Nat}{P:Program}{o:Oper}{a:Act}{w w':World}{K:Act->World->Prop}{Q:Exit->Act->World->Prop}(h:rC P o a w w')(J:K (a.put o.dst undef) w'):o.wpIn (Fr ro) 0 P a w K Q:=E5 h J
section
variable {δ:List Nat}{ro:Option Nat}{P:Program}{ops:Array Oper}{Q:Exit->Act->World->Prop}{rest:List Oper}{n:Nat}{a:Act}{l:List (Nat×Value)}{w w':World}{d:Nat}{op:Op}{ty:TypeId}{pos:String}{aft:Array Edge}{v:Value}
theorem sv (J:am δ n a l)(Z:aw P ⟨some d,op,ty,pos,aft,none⟩ a w v w')(W:Qz d n=true)(k:∀a',am δ n a' ((d,v)::l)->wpL ro P ops Q rest a' w'):
  wpL ro P ops Q (⟨some d,op,ty,pos,aft,none⟩::rest) a w:=
 wpListIn_plain rfl λ_ h=>Z.wp (h _ _ (k _ (J.put W v)))
theorem ve (W:am δ n a l){o:Oper}{g h:Nat}{b:Bool}(Z:ops[g]? =some o)(ho:o.dst=some h)(hd:Qz h n=true)(hl:lk l h=some (.bool b)):yielded ops a.tmps g=some b:=by
 have J:=W.at_ h _ hl;have a0:h<n:=zh hd
 have h2:a.tmps[h]? =some (.bool b):=by
  have hs:=W.size;rw[Array.getD_eq_getD_getElem?] at J;have:h<a.tmps.size:=by omega
  rw[Array.getElem?_eq_getElem this] at J ⊢;simpa using J
 simp[yielded,Z,ho,h2]
theorem sx {g:Nat}{b b':Bool}{o:Oper}{h:Nat}(J:am δ n a l)(Z:ops[g]? =some o)(ho:o.dst=some h)(a0:Qz h n=true)(hl:lk l h=some (.bool b))(W:b= !b')
  (hd:Qz d n=true) (k:∀a',am δ n a' ((d,undef)::l)->wpL ro P ops Q rest a' w):
  wpL ro P ops Q (⟨some d,op,ty,pos,aft,some (g,b')⟩::rest) a w:=
 wpListIn_step λK hK=>by
  have:(some b==some b')=false:=by subst W;cases b'<;>rfl
  simp only[Region.wanted,ve J Z ho a0 hl,this,Z8,if_false];exact⟨λ_ _=>trivial,hK _ _ (k _ (J.put hd undef))⟩
theorem C9 {Q':Exit->Act->World->Prop}{c:Code}(h:c.wpIn (Fr ro) 0 P (Exit.noGoto Q') a w):(Code.scope c).wpIn (Fr ro) 0 P Q' a w:=by
 intro b k cs a1 hb hr;have h0:(lone (b.atR a (.code (.scope c)::k)) cs w).fenced P (Fr ro):=fenced_calm hb hr rfl;have hs:step P (lone (b.atR a (.code (.scope c)::k)) cs w)= .next (lone (b.atR a (.code c:: .inScope c::k)) cs w):=step_lone_go (by simp[stepG,stepG.exec,Frame.atR]);have hi:∀J W,step P (lone (b.atR J (.inScope c::k)) cs W)= .next (lone (b.atR J k) cs W):=λJ W=>step_lone_go (by simp[stepG,stepG.exec,Frame.atR]);obtain⟨e,J,W,Z,a0⟩:=h b (.inScope c::k) cs a1 hb hr;cases e with
 |normal=>exact⟨.normal,J,W,Z,.head h0 hs (StepsIn.trans a0 (.one (fenced_calm hb hr rfl) (hi J W)))⟩
 |exit id=>
  have hx:exitTo id (.inScope c::k)=exitTo id k:=by simp[exitTo]
  exact⟨.exit id,J,W,Z,λk' hk=> .head h0 hs (a0.1 k' (by rw[hx];exact hk)),λa2 hk=>let ⟨k₁,h1,h2⟩:=a0.2 a2 (by rw[hx];exact hk);⟨k₁,h1,.head h0 hs h2⟩⟩
 |goto l=>exact Z.elim
 |ret=>exact⟨_,J,W,Z,.of_steps (.one h0 hs) a0⟩
 |panic ch=>exact⟨_,J,W,Z,.of_steps (.one h0 hs) a0⟩
 |outgrown=>exact⟨_,J,W,Z,.of_steps (.one h0 hs) a0⟩
def mkQ (N:Act->World->Prop)(X:List (Nat×(Act->World->Prop)))(Rt:Act->World->Prop):Exit->Act->World->Prop
 | .normal,a,w=>N a w
 | .exit id,a,w=>match X.find? (λe=>Zm e.1 id) with|some e=>e.2 a w|none=>False
 | .ret,a,w=>Rt a w
 |_,_,_=>False
def K (ro:Option Nat)(P:Program)(c:Code)(N:Act->World->Prop)(X:List (Nat×(Act->World->Prop)))(Rt:Act->World->Prop)(a:Act)(w:World):Prop:=c.wpIn (Fr ro) 0 P (mkQ N X Rt) a w
variable {δ:List Nat}{ro:Option Nat}{N N' Rt:Act->World->Prop}{X:List (Nat×(Act->World->Prop))}{c x y z:Code}{id:Nat}
theorem K.mono (h:K ro P c N X Rt a w)(J:∀a w,N a w->N' a w):K ro P c N' X Rt a w:=
 wpIn_mono h λe a w q=>by cases e<;>first|exact J _ _ q|exact q
theorem ab (h:K ro P x (λa w=>K ro P y N X Rt a w) X Rt a w):K ro P (.seq x y) N X Rt a w:=
 wpIn_seq (wpIn_mono h λe a w q=>by cases e<;>exact q)
theorem aW (h:N a w):K ro P .skip N X Rt a w:=wpIn_skip h
theorem Da {i:Nat}(h:N a w):K ro P (.label i) N X Rt a w:=wpIn_label h
theorem bq (h:Rt a w):K ro P .ret N X Rt a w:=wpIn_ret h
theorem eJ {k:Act->World->Prop}{e:Nat×(Act->World->Prop)}(J:X.find? (λe=>Zm e.1 id)=some e)(W:e.2=k)(h:k a w):K ro P (.exit id) N X Rt a w:=
 wpIn_exit (by simp only[mkQ,J];rw[W];exact h)
theorem aY (h:K ro P c N ((id,N)::X) Rt a w):K ro P (.block id c) N X Rt a w:=
 wpIn_block (wpIn_mono h λe a w q=>by
  cases e with
  | exit j=>
   simp only[Exit.inBlock];split
   ·rename_i e;subst e;simpa[mkQ] using q
   ·rename_i e
    have:Zm id j=false:=by
     cases hb:Zm id j with
     |false=>rfl
     |true=>exact absurd (Q3 hb).symm e
    simpa[mkQ,this] using q
  |_=>exact q)
theorem cF (J:Act->World->Prop)(h:K ro P c J X Rt a w)(k:∀a w,J a w->N a w):K ro P c N X Rt a w:=h.mono k
theorem kif (hE:am δ n a l){h:Operand}{b:Bool}(J:evl l h=some (.bool b))(Z:b=true->K ro P x N X Rt a w)(W:b=false->K ro P y N X Rt a w):K ro P (.cond h x y) N X Rt a w:=
 wpIn_cond_split (hE.eval J) Z W
theorem yE (h:K ro P c N X Rt a w):K ro P (.scope c) N X Rt a w:=
 C9 (wpIn_mono h λe a w q=>by cases e<;>exact q)
theorem ai {lo:List Oper}(h:wpL ro P lo.toArray (mkQ N X Rt) lo a w):K ro P (.region id lo.toArray false) N X Rt a w:=wpIn_region_lit h
theorem ag (h:N a w):wpL ro P ops (mkQ N X Rt) [] a w:=wpListIn_nil h
end
def gB {σ β:Type}(f:σ->Option (σ⊕β)):Nat->σ->Option β
 |0,_=>none
 |n+1,s=>match f s with
  |none=>none
  |some (.inl s')=>gB f n s'
  |some (.inr b)=>some b
open Classical in
noncomputable def aq {σ β:Type} (f:σ->Option (σ⊕β)) (s:σ):Option β:=
 if h:∃b,∃n,gB f n s=some b then some h.choose else none
theorem vf {σ β:Type}{f:σ->Option (σ⊕β)}:∀{n:Nat} {s:σ} {b:β},gB f n s=some b->gB f (n+1) s=some b
 |0,_,_,h=>by cases h
 | n+1,s,b,h=>by
  unfold gB at h ⊢;cases hs:f s with
  |none=>simp[hs] at h
  |some r=>
   cases r with
   |inl s'=>simp only[hs] at h ⊢;exact vf h
   |inr b'=>simpa[hs] using h
theorem yF {σ β:Type}{f:σ->Option (σ⊕β)}{n k:Nat}{s:σ}{b:β}(h:gB f n s=some b)(J:n<=k):gB f k s=some b:=by
 induction J with
 |refl=>exact h
 |step _ ih=>exact vf ih
theorem Db {σ β:Type}{f:σ->Option (σ⊕β)}{n k:Nat}{s:σ}{b c:β}(h:gB f n s=some b)(W:gB f k s=some c):b=c:=by
 have Z:=yF h (Nat.le_max_left n k);have J:=yF W (Nat.le_max_right n k);rw[Z] at J;injection J
theorem Dc {σ β:Type}{f:σ->Option (σ⊕β)}{s:σ}{b:β}:aq f s=some b↔ ∃n,gB f n s=some b:=by
 unfold aq;constructor
 ·intro h
  split at h
  ·rename_i J
   injection h with h
   have:=J.choose_spec;rw[h] at this;exact this
  ·cases h
 ·intro ⟨n,hn⟩
  have J:∃b,∃n,gB f n s=some b:=⟨b,n,hn⟩
  rw[dif_pos J];obtain⟨k,W⟩:=J.choose_spec;rw[Db W hn]
theorem mZ {σ β:Type}(f:σ->Option (σ⊕β))(s:σ):aq f s=match f s with|none=>none|some (.inl s')=>aq f s'|some (.inr b)=>some b:=by
 apply Option.ext;intro b;rw[Dc];constructor
 ·rintro ⟨n,J⟩
  cases n with
  |zero=>cases J
  | succ n=>
   unfold gB at J;cases W:f s with
   |none=>simp[W] at J
   |some r=>
    cases r with
    |inl s'=>simp only[W] at J ⊢;exact Dc.2 ⟨n,J⟩
    |inr b'=>simpa[W] using J
 ·intro h
  split at h
  ·cases h
  ·rename_i s' W
   obtain⟨n,J⟩:=Dc.1 h;exact⟨n+1,by simp[gB,W,J]⟩
  ·rename_i b' W
   exact⟨1,by simpa[gB,W] using h⟩
theorem bK {σ β:Type}{f:σ->Option (σ⊕β)}{s s':σ}(h:f s=some (.inl s')):aq f s=aq f s':=by rw[mZ,h]
theorem aS {σ β:Type}{f:σ->Option (σ⊕β)}{s:σ}{b:β}(h:f s=some (.inr b)):aq f s=some b:=by rw[mZ,h]
section
variable {δ:List Nat}{ro:Option Nat}{P:Program}{n:Nat}{a:Act}{l:List (Nat×Value)}{w:World}{N Rt:Act->World->Prop}{X:List (Nat×(Act->World->Prop))}{c:Code}
theorem eX {σ β:Type}{f:σ->Option (σ⊕β)}{s:σ}{o:β}(hl:aq f s=some o)(I:σ->Act->World->Prop)(h0:I s a w)
  (round:∀s a w,I s a w->∀r,f s=some r->(∀o',r= .inr o'->o'=o)->K ro P c (λa' w'=>∃s',r= .inl s'/\I s' a' w') X Rt a w):K ro P (.loop c) N X Rt a w:=by
 obtain⟨k,h⟩:=Dc.1 hl;clear hl;intro b kk cs a1 hb Z
 have key:∀k s a w,gB f k s=some o->I s a w->
   ∃e a' w',mkQ N X Rt e a' w'/\ArrivesIn (Machine.fenced P (Fr ro)) P (lone (b.atR a (.code c:: .inLoop c::kk)) cs w) b kk cs e a' w':=by
  intro k
  induction k with
  |zero=>intro s a w h _;cases h
  | succ k ih=>
   intro s a w h hI;rw[gB] at h;cases hf:f s with
   |none=>simp[hf] at h
   | some r=>
    have hr:=round s a w hI r hf (λo' ho=>by subst ho;simpa[hf] using h) b (.inLoop c::kk) cs a1 hb Z;obtain⟨e,a₁,w₁,J,W⟩:=hr;cases e with
    |normal=>
     obtain⟨s',a2,a0⟩:=J;subst a2;simp only[hf] at h;obtain⟨e₂,a₂,w₂,a4,a3⟩:=ih s' a₁ w₁ h a0;exact⟨e₂,a₂,w₂,a4,.of_steps (StepsIn.trans W (.one (fenced_calm hb Z rfl) stepR_inLoop)) a3⟩
    |exit id=>exact⟨.exit id,a₁,w₁,J,.pass (x:= .inLoop c) rfl (λ_ _=> .inl (by simp)) W⟩
    |goto l=>exact J.elim
    |ret=>exact⟨.ret,a₁,w₁,J,.pass (x:= .inLoop c) rfl (λ_ _=> .inl (by simp)) W⟩
    |panic ch=>exact J.elim
    |outgrown=>exact J.elim
 obtain⟨e,a',w',J,W⟩:=key k s a w h h0;exact⟨e,a',w',J,.of_steps (.one (fenced_calm hb Z rfl) stepR_loop) W⟩
def Ret (R:Value->World->Prop):Ending->World->Prop
 | .returned v,w=>R v w
 |_,_=>False
def tup:List Value->Value
 |[v]=>v
 |vs=> .tuple vs.toArray
def Fin (P:Program)(fn:Func)(R:Value->World->Prop)(a:Act)(w:World):Prop:= ∃vs,(results fn a.tmps).run P w= .ok vs w/\a.defers=[]/\R vs w
theorem yG {fn:Func}{args:List Value}{n:Nat}(hn:fn.ntmps=n)(a0:args.length<=n):Env n { tmps:=args.toArray++Array.replicate (fn.ntmps - args.toArray.size) undef,defers:=[] } ((Qc args.length).zip args):=by
 refine⟨rfl,by simp[hn];omega,λj v Z=>?_⟩
 have key:∀(l:List Value) (k:Nat),lk ((Zx k l.length).zip l) j=some v->k<=j/\l[j - k]? =some v:=by
  intro l
  induction l with
  |nil=>intro k h;simp[lk] at h
  | cons x r ih=>
   intro k h;simp only[Qq,List.range'_succ,List.zip_cons_cons,lk] at h;split at h
   ·rename_i e
    have e':=Q3 e;subst e';simpa using h
   ·obtain⟨h1,J⟩:=ih (k+1) h
    refine⟨by omega,?_⟩;rw[show j - k=(j - (k+1))+1 by omega];simpa using J
 rw[List.range_eq_range'] at Z;obtain⟨_,J⟩:=key args 0 Z;simp only[Nat.sub_zero] at J;have W:j<args.length:=(zw.1 J).1;have h3:args[j]=v:=by simpa[W] using J
 simp[Array.getD_eq_getD_getElem?,Array.getElem?_append,W,h3]
theorem vg {P:Program}{f:FuncId}{fn:Func}{c:Code}{args:List Value}{n:Nat}{w:World}{R:Value->World->Prop}(hf:P.funcs[f]? =some fn)(hb:fn.body=some c)(hn:fn.ntmps=n)(a0:args.length<=n)
  (h:∀a,Env n a ((Qc args.length).zip args)->K none P c (Fin P fn R) [] (Fin P fn R) a w):
  Calls P f args.toArray w (Ret R):=by
 refine calls_of_wp hf hb (wpIn_wide.1 (wpIn_mono (h _ (yG hn a0)) λe a w q=>?_))
 ·cases e with
  |normal=>obtain⟨vs,Z,W,J⟩:=q;exact⟨W,vs,Z,J⟩
  |ret=>obtain⟨vs,Z,W,J⟩:=q;exact⟨W,vs,Z,J⟩
  |exit id=>simp[mkQ] at q
  |goto l=>exact q.elim
  |panic ch=>exact q.elim
  |outgrown=>exact q.elim
end
section
variable {δ:List Nat}{ro:Option Nat}{P:Program}{n:Nat}{a:Act}{l:List (Nat×Value)}{w:World}{dst:Option Tmp}{ty:TypeId}{pos:String}{aft:Array Edge}{g:Option (Nat×Bool)}
def qt (l:List (Nat×Value))(xs:Array Operand):Option (List Value):=xs.toList.mapM (evl l)
theorem gW (J:am δ n a l){xs:Array Operand}{vs:List Value}(h:qt l xs=some vs):xs.map a.eval=vs.toArray:=by
 obtain⟨xs⟩:=xs;unfold qt at h;simp only at h
 have:∀(xs:List Operand) (vs:List Value),xs.mapM (evl l)=some vs->xs.map a.eval=vs:=by
  intro xs
  induction xs with
  |nil=>intro vs h;simp at h;simp[h]
  | cons x r ih=>
   intro vs h;simp only[Z1,Z2,Zs] at h;cases hx:evl l x with
   |none=>simp[hx] at h
   | some v=>
    cases hr:r.mapM (evl l) with
    |none=>simp[hx,hr] at h
    |some us=>
     simp[hx,hr] at h;subst h;simp[J.eval hx,ih us hr]
 simp[this xs vs h]
end
open Go.RowKit (Below)
def aM (P:Program)(o:Oper)(a:Act)(w:World)(Post:Value->World->Prop):Prop:=
 ∀(ro:Option Nat) (h:Act->World->Prop) (Q:Exit->Act->World->Prop),(∀v w',Post v w'->h (a.put o.dst v) w')->o.wpIn (Fr ro) 0 P a w h Q
section
variable {δ:List Nat}{ro:Option Nat}{P:Program}{ops:Array Oper}{Q:Exit->Act->World->Prop}{rest:List Oper}{a:Act}{w:World}{Post:Value->World->Prop}{n:Nat}{l:List (Nat×Value)}{d:Nat}{op:Op}{ty:TypeId}{pos:String}{aft:Array Edge}
theorem st (W:am δ n a l)(h:aM P ⟨some d,op,ty,pos,aft,none⟩ a w Post)(hd:Qz d n=true)(k:∀v a' w',Post v w'->am δ n a' ((d,v)::l)->wpL ro P ops Q rest a' w'):wpL ro P ops Q (⟨some d,op,ty,pos,aft,none⟩::rest) a w:=
 wpListIn_plain rfl λ_ J=>h _ _ _ λv w' Z=>J _ _ (k v _ w' Z (W.put hd v))
theorem st0 (W:am δ n a l)(h:aM P ⟨none,op,ty,pos,aft,none⟩ a w Post)(k:∀v w',Post v w'->am δ n a l->wpL ro P ops Q rest a w'):wpL ro P ops Q (⟨none,op,ty,pos,aft,none⟩::rest) a w:=
 wpListIn_plain rfl λ_ J=>h _ _ _ λv w' Z=>J _ _ (k v w' Z W)
theorem stg {W:Oper}{g J:Nat}{b c:Bool}(Z:am δ n a l)(hg:ops[g]? =some W)(ho:W.dst=some J)(a0:Qz J n=true)(hl:lk l J=some (.bool c))(hc:c=b)
  (h:aM P ⟨some d,op,ty,pos,aft,some (g,b)⟩ a w Post) (hd:Qz d n=true) (k:∀v a' w',Post v w'->am δ n a' ((d,v)::l)->wpL ro P ops Q rest a' w'):wpL ro P ops Q (⟨some d,op,ty,pos,aft,some (g,b)⟩::rest) a w:=
 wpListIn_step λKk hK=>by
  subst hc;simp only[Region.wanted,ve Z hg ho a0 hl,beq_self_eq_true,if_true];exact h _ _ _ λv w' hp=>hK _ _ (k v _ w' hp (Z.put hd v))
end
theorem aw.step {P:Program}{o:Oper}{a:Act}{w w':World}{v:Value}(h:aw P o a w v w'){Post:Value->World->Prop}(J:Post v w'):aM P o a w Post:=
 λ_ _ _ k=>h.wp (k _ _ J)
theorem rC.step {P:Program}{o:Oper}{a:Act}{w w':World}(h:rC P o a w w'){Post:Value->World->Prop}(J:Post undef w'):aM P o a w Post:=
 λ_ _ _ k=>h.wp (k _ _ J)
theorem aw.pure {P:Program}{o:Oper}{a:Act}{w:World}{v:Value}(h:aw P o a w v w):aM P o a w (λu w'=>v=u/\w=w'):=h.step ⟨rfl,rfl⟩
theorem aM.imp {P:Program}{a:Act}{w:World}{o:Oper}{Post J:Value->World->Prop}(h:aM P o a w Post)(k:∀v w',Post v w'->J v w'):aM P o a w J:=λro W Q Z=>h ro W Q λv w' hp=>Z v w' (k v w' hp)
def dI (k:IntKind)(x y:Int):Int:=k.wrap ((Xm k.bits x&&&Xm k.bits y).toNat:Int)
def bOr (k:IntKind)(x y:Int):Int:=k.wrap ((Xm k.bits x|||Xm k.bits y).toNat:Int)
def fh (k:IntKind)(x y:Int):Int:=k.wrap ((Xm k.bits x^^^Xm k.bits y).toNat:Int)
def eu (k:IntKind)(x y:Int):Int:=k.wrap (x*2^(min y.toNat k.bits))
def aP (k:IntKind)(x y:Int):Int:=x.fdiv (2^(min y.toNat k.bits))
def yH (k:IntKind)(x:Int):Int:=fh k (if k.signed then -1 else k.max) x
theorem mt (k:IntKind)(x:Int):k.wrap (k.wrap x)=k.wrap x:=by
 cases k<;>simp only[IntKind.wrap,IntKind.bits,IntKind.signed]<;>simp<;>omega
theorem aI (k:IntKind)(x:Int):inR k (k.wrap x):=mt k x
theorem G8 (k:IntKind)(x y:Int):inR k (dI k x y):=mt k _
theorem Iz (k:IntKind)(x y:Int):inR k (bOr k x y):=mt k _
theorem G9 (k:IntKind)(x y:Int):inR k (fh k x y):=mt k _
theorem wk (k:IntKind)(x y:Int):inR k (eu k x y):=mt k _
theorem Ha (k:IntKind)(x:Int):inR k (yH k x):=mt k _
theorem lI {k:IntKind}{x:Int}:inR k x↔k.min<=x/\x<=k.max:=by
 unfold inR;cases k<;>simp only[IntKind.wrap,IntKind.bits,IntKind.signed,IntKind.min,IntKind.max]<;>simp<;>omega
theorem Hb {x:Int}{p:Int}(h:0<p){lo hi:Int}(J:lo<=0)(W:0<=hi)(h1:lo<=x)(h2:x<=hi):lo<=x.fdiv p/\x.fdiv p<=hi:=by
 rw[Int.fdiv_eq_ediv_of_nonneg _ (by omega)];constructor
 ·exact(Int.le_ediv_iff_mul_le h).2 (by
   have:lo*p<=lo*1:=Int.mul_le_mul_of_nonpos_left J (by omega)
   omega)
 ·have Z:=Int.ediv_le_self (b:=p) (a:=x)
  rcases Int.lt_or_le x 0 with hx|hx
  ·have:x/p<0:=Int.ediv_neg_of_neg_of_pos hx h
   omega
  ·have:=Int.ediv_le_self p hx
   omega
theorem wm {k:IntKind}{x:Int}(h:inR k x)(y:Int):inR k (aP k x y):=by
 rw[lI] at*;have J:(0:Int)<2^(min y.toNat k.bits):=Int.pow_pos (by decide);exact Hb J (by cases k<;>decide) (by cases k<;>decide) h.1 h.2
theorem AY {k:IntKind}{x y:Int}(h:inR k x):inR k (x.tmod y):=by
 rw[lI] at*
 have Z:(x.tmod y).natAbs<=x.natAbs:=by
  rw[Int.natAbs_tmod];exact Nat.mod_le _ _
 have W:0<=x->0<=x.tmod y:=λh=>Int.tmod_nonneg _ h
 have J:x<=0->x.tmod y<=0:=λh=>by
  have:=Int.tmod_nonneg (a:= -x) y (by omega);rw[Int.neg_tmod] at this;omega
 have h4:k.min<=0:=by cases k<;>decide
 have h5:0<=k.max:=by cases k<;>decide
 rcases Int.le_total 0 x with hx|hx
 ·have:=W hx;omega
 ·have:=J hx;omega
theorem dR {n:Nat}(h:n<=bU):inR .i64 (n:Int):=by
 rw[lI];have:IntKind.max .i64=9223372036854775807:=by decide
 have:IntKind.min .i64= -9223372036854775808:=by decide
 unfold bU at h;omega
section
variable {δ:List Nat}{ro:Option Nat}{P:Program}{n:Nat}{a:Act}{l:List (Nat×Value)}{w:World}{dst:Option Tmp}{ty t t':TypeId}{pos:String}{aft:Array Edge}{g:Option (Nat×Bool)}{x y z:Operand}{k:IntKind}{p q r:Int}{v u:Value}{b c e:Bool}
theorem iJ (J:am δ n a l)(h:evl l x=some v):aw P ⟨dst,.move x,ty,pos,aft,g⟩ a w v w:=by
 simp[aw,execOp,J.eval h]
theorem kH (J:am δ n a l)(h:evl l x=some v):aw P ⟨dst,.assign x,ty,pos,aft,g⟩ a w v w:=by
 simp[aw,execOp,J.eval h]
theorem qL (h:am δ n a l)(Z:evl l x=some (.bool b))(W:b=true)(J:evl l y=some v):aw P ⟨dst,.pick x y z,ty,pos,aft,g⟩ a w v w:=by
 subst W;simp[aw,execOp,h.eval Z,h.eval J,asBool]
theorem qN (h:am δ n a l)(Z:evl l x=some (.bool b))(W:b=false)(J:evl l z=some u):aw P ⟨dst,.pick x y z,ty,pos,aft,g⟩ a w u w:=by
 subst W;simp[aw,execOp,h.eval Z,h.eval J,asBool]
theorem be {op:BinOp}{k':IntKind}(h:am δ n a l)(Z:evl l x=some (.int k p))(J:evl l y=some (.int k' q))(W:∀w,(binOp op t (.int k p) (.int k' q)).run P w= .ok v w):
  aw P ⟨dst,.binOp op t x y t',ty,pos,aft,g⟩ a w v w:=by
 simp[aw,execOp,h.eval Z,h.eval J,eqGuard_at_int,W]
theorem cy (h:k.wrap (p+q)=r):∀w,(binOp .add t (.int k p) (.int k q)).run P w= .ok (.int k r) w:=λw=>by simp[binOp_add,Op.intArith,h]
theorem ku (h:k.wrap (p - q)=r):∀w,(binOp .sub t (.int k p) (.int k q)).run P w= .ok (.int k r) w:=λw=>by simp[binOp_sub,Op.intArith,h]
theorem GD (h:k.wrap (p*q)=r):∀w,(binOp .mul t (.int k p) (.int k q)).run P w= .ok (.int k r) w:=λw=>by simp[binOp_mul,Op.intArith,h]
theorem GE (h:k.wrap (p.tdiv q)=r)(J:q≠0):∀w,(binOp .quo t (.int k p) (.int k q)).run P w= .ok (.int k r) w:=λw=>by simp[binOp_quo,Op.intDiv,h,J]
theorem GF (h:p.tmod q=r)(J:q≠0):∀w,(binOp .rem t (.int k p) (.int k q)).run P w= .ok (.int k r) w:=λw=>by simp[binOp_rem,Op.intDiv,h,J]
theorem Mp (h:dI k p q=r):∀w,(binOp .and t (.int k p) (.int k q)).run P w= .ok (.int k r) w:=λw=>by simp[binOp_and,Op.intBits,←h,dI]
theorem Of (h:bOr k p q=r):∀w,(binOp .or t (.int k p) (.int k q)).run P w= .ok (.int k r) w:=λw=>by simp[binOp_or,Op.intBits,←h,bOr]
theorem Mq (h:fh k p q=r):∀w,(binOp .xor t (.int k p) (.int k q)).run P w= .ok (.int k r) w:=λw=>by simp[binOp_xor,Op.intBits,←h,fh]
theorem BP {k':IntKind}(h:eu k p q=r)(J:0<=q):∀w,(binOp .shl t (.int k p) (.int k' q)).run P w= .ok (.int k r) w:=λw=>by
 simp[binOp,Op.shift,show ¬ q<0 by omega,←h,eu]
theorem yk {k':IntKind}(h:aP k p q=r)(J:0<=q):∀w,(binOp .shr t (.int k p) (.int k' q)).run P w= .ok (.int k r) w:=λw=>by
 simp[binOp,Op.shift,show ¬ q<0 by omega,←h,aP]
theorem iK:∀w,(binOp .eql t (.int k p) (.int k q)).run P w= .ok (.bool (p==q)) w:=λw=>by simp[binOp_eql]
theorem oI:∀w,(binOp .neq t (.int k p) (.int k q)).run P w= .ok (.bool (p != q)) w:=λw=>by simp[binOp_neq]
theorem cz:∀w,(binOp .lss t (.int k p) (.int k q)).run P w= .ok (.bool (decide (p<q))) w:=λw=>by simp[binOp_lss]
theorem GG:∀w,(binOp .leq t (.int k p) (.int k q)).run P w= .ok (.bool (decide (p<=q))) w:=λw=>by simp[binOp_leq]
theorem l6:∀w,(binOp .gtr t (.int k p) (.int k q)).run P w= .ok (.bool (decide (q<p))) w:=λw=>by simp[binOp_gtr]
theorem yl:∀w,(binOp .geq t (.int k p) (.int k q)).run P w= .ok (.bool (decide (q<=p))) w:=λw=>by simp[binOp_geq]
theorem IA (h:am δ n a l)(Z:evl l x=some (.bool b))(W:evl l y=some (.bool c))(J:P.underlying t=some .bool):aw P ⟨dst,.binOp .eql t x y t',ty,pos,aft,g⟩ a w (.bool (b==c)) w:=by
 simp[aw,execOp,h.eval Z,h.eval W,eqGuard_at_bool,run_eql_bool _ _ _ _ J]
theorem IB (h:am δ n a l)(Z:evl l x=some (.bool b))(W:evl l y=some (.bool c))(J:P.underlying t=some .bool):aw P ⟨dst,.binOp .neq t x y t',ty,pos,aft,g⟩ a w (.bool (!(b==c))) w:=by
 simp[aw,execOp,h.eval Z,h.eval W,eqGuard_at_bool,run_neq_bool _ _ _ _ J]
theorem kw (J:am δ n a l)(h:evl l x=some (.bool b)):aw P ⟨dst,.unOp .not t x,ty,pos,aft,g⟩ a w (.bool (!b)) w:=by
 simp[aw,execOp,J.eval h,Op.unary]
theorem Mr (W:am δ n a l)(J:evl l x=some (.int k p))(h:k.wrap (0 - p)=r):aw P ⟨dst,.unOp .neg t x,ty,pos,aft,g⟩ a w (.int k r) w:=by
 subst h;simp[aw,execOp,W.eval J,Op.unary,Op.intArith]
theorem Ms (W:am δ n a l)(J:evl l x=some (.int k p))(h:yH k p=r):aw P ⟨dst,.unOp .xor t x,ty,pos,aft,g⟩ a w (.int k r) w:=by
 subst h;simp[aw,execOp,W.eval J,Op.unary,Op.intBits,yH,fh]
theorem fj {k' ks:IntKind}(Z:am δ n a l)(W:evl l x=some (.int k p))(J:P.underlying t=some (.int ks))(hd:P.underlying t'=some (.int k'))(h:k'.wrap p=r):
  aw P ⟨dst,.convert t t' x,ty,pos,aft,g⟩ a w (.int k' r) w:=by
 subst h;simp[aw,execOp,Z.eval W,convert,run_underlying J,run_underlying hd,Conv.intToInt]
theorem cl {vs:Array Value}{i:Nat}(J:am δ n a l)(h:evl l x=some (.tuple vs))(hi:vs[i]? =some v):aw P ⟨dst,.extract x i,ty,pos,aft,g⟩ a w v w:=by
 simp[aw,execOp,J.eval h,Instr.extract,hi]
theorem bV {h:Addr}(J:am δ n a l)(W:evl l x=some (.pointer (some h))):aw P ⟨dst,.nilCheck x,ty,pos,aft,g⟩ a w (.pointer (some h)) w:=by
 simp[aw,execOp,J.eval W]
theorem mD {fn:Fn}{h cs:Array Operand}{v1 v2:List Value}(J:am δ n a l)(Z:qt l h=some v1)(W:qt l cs=some v2):aw P ⟨dst,.makeFunc fn h cs,ty,pos,aft,g⟩ a w (.func fn v1.toArray v2.toArray) w:=by
 simp[aw,execOp,Instr.makeFunc,gW J Z,gW J W]
theorem Dd {Z:Array TypeId}(h:am δ n a l)(W:evl l x=some (.int k p))(J:evl l y=some (.int k q)):aw P ⟨dst,.call ⟨.builtin .max,#[x,y],Z⟩,ty,pos,aft,g⟩ a w (.int k (if p<q then q else p)) w:=by
 simp[aw,execOp,resolve,invoke,builtin,h.eval W,h.eval J,run_max_int2]
theorem yI {Z:Array TypeId}(h:am δ n a l)(W:evl l x=some (.int k p))(J:evl l y=some (.int k q)):aw P ⟨dst,.call ⟨.builtin .min,#[x,y],Z⟩,ty,pos,aft,g⟩ a w (.int k (if q<p then q else p)) w:=by
 simp[aw,execOp,resolve,invoke,builtin,h.eval W,h.eval J,run_min_int2]
end
open Go.RowKit (Below)
structure cI (P:Program)(t:TypeId){O:Type}(d:Kd O):Prop where
 size:∀w,(sizeOf t).run P w= .ok d.sz w
 agg:∀w,(isAgg t).run P w= .ok d.agg w
def At (w:World)(b o:Nat)(cs:List Value):Prop:= ∃c t fr,w.heap[b]? =some (.cells c t fr)/\(c.toList.drop o).take cs.length=cs
theorem At.cell {w:World}{b o:Nat}{cs:List Value}(h:At w b o cs){j:Nat}{v:Value}(J:cs[j]? =some v):w.cell? ⟨b,o+j,none⟩=some v:=by
 obtain⟨c,t,fr,W,Z⟩:=h;have a0:j<cs.length:=(zw.1 J).1;rw[←Z] at J;simp only[Z9,Qu,a0,if_true] at J;simpa[World.cell?,W] using J
theorem ew (b o j:Nat):(⟨b,o,none⟩:Addr).add j=⟨b,o+j,none⟩:=by
 unfold Addr.add;split<;>simp_all
theorem ib {P:Program}{t:TypeId}{O:Type}{d:Kd O}{m:M}{w:World}{b o:Nat}{cs:List Value}{x:O}(J:cI P t d)(hR:d.R m cs x)(hA:At w b o cs):
  (loadVar t ⟨b,o,none⟩).run P w= .ok (d.val cs) w:=by
 have W:=d.len hR;have Z:=run_loadCells_list (P:=P) w ⟨b,o,none⟩ cs (λj v hj=>by rw[ew];exact hA.cell hj);unfold loadVar Kd.val;cases ha:d.agg with
 |true=>
  have h:=J.agg w;have h2:=J.size w;rw[ha] at h;rw[W] at Z;simp[h,h2,Z]
 | false=>
  have h:=J.agg w;rw[ha] at h;have hs:=d.flat ha;rw[hs] at W
  match cs,W with
  |[c],_=>
   have:=hA.cell (j:=0) (v:=c) rfl;simp only[Qm] at this;simp[h,this]
section
variable {δ:List Nat}{ro:Option Nat}{P:Program}{W0:Bse}{m:M}{L:List (Nat×List Value)}{TL:List (Nat×Value)}{n:Nat}{a:Act}{l:List (Nat×Value)}{w:World}{ty t:TypeId}{pos:String}{aft:Array Edge}{g:Option (Nat×Bool)}{x y:Operand}{d:Nat}{O β:Type}{k:Kd O}{k':Kd β}
theorem S.atL (hS:S W0 m w L TL){i b o:Nat}{cs cs':List Value}(W:L[i]? =some (b,cs))(h:(cs.drop o).take cs'.length=cs')(Z:0<cs'.length):At w b o cs':=by
 obtain⟨_,_,t,J⟩:=hS.own i _ W (λe=>by simp only at e;subst e;simp at h;subst h;simp at Z);exact⟨_,t,_,J,by simpa using h⟩
theorem S.atM (hS:S W0 m w L TL){b o sz:Nat}(h:(m.row b o sz).length=sz)(h0:0<sz):At w b o (m.row b o sz):=by
 unfold M.row at*;cases hm:m b with
 |none=>simp[hm] at h;omega
 |some r=>
  obtain⟨c,t,J,s,Z,W,_⟩:=hS.imm b r hm;refine⟨c,t,J,Z,?_⟩;simp only[hm] at h ⊢;rw[W,h,Z7,Q2];simp at h ⊢;omega
theorem cP (hS:S W0 m w L TL){z:Value}{cs:List Value}(h:∀w,(zeroValue t).run P w= .ok z w)(W:z.cells=cs.toArray):
  aM P ⟨some d,.alloc t,ty,pos,aft,g⟩ a w (λv w'=>∃b,v= .pointer (some ⟨b,0,none⟩)/\S W0 m w' ((b,cs)::L) TL):=by
 have J:aw P ⟨some d,.alloc t,ty,pos,aft,g⟩ a w (.pointer (some ⟨w.heap.size,0,none⟩)) (w.alloc (.cells cs.toArray t)):=by
  simp[aw,execOp,Instr.alloc,h,newVar,newRow,W]
 exact J.step ⟨_,rfl,hS.allocL cs t⟩
theorem j3 (hE:am δ n a l)(hS:S W0 m w L TL){v:Value}{xx:O}(Z:evl l x=some v)(W:RV k m v xx):
  aM P ⟨some d,.box t x,ty,pos,aft,g⟩ a w (λv w'=>∃b cs,v= .pointer (some ⟨b,0,none⟩)/\k.R m cs xx/\S W0 m w' ((b,cs)::L) TL):=by
 obtain⟨cs,h,rfl⟩:=W
 have J:aw P ⟨some d,.box t x,ty,pos,aft,g⟩ a w (.pointer (some ⟨w.heap.size,0,none⟩)) (w.alloc (.cells cs.toArray t)):=by
  simp[aw,execOp,Instr.box,hE.eval Z,newVar,newRow,k.val_cells h]
 exact J.step ⟨_,cs,rfl,h,hS.allocL cs t⟩
theorem aB (hE:am δ n a l)(hS:S W0 m w L TL)(W:cI P t k){i b o:Nat}{cs:List Value}{xx:O}(hx:evl l x=some (.pointer (some ⟨b,o,none⟩)))(J:L[i]? =some (b,cs))(h:k.R m ((cs.drop o).take k.sz) xx):
  aM P ⟨some d,.load t x,ty,pos,aft,g⟩ a w (λv w'=>w=w'/\RV k m v xx):=by
 have hA:At w b o ((cs.drop o).take k.sz):=hS.atL J (by rw[k.len h]) (by rw[k.len h];exact k.pos)
 have Z:aw P ⟨some d,.load t x,ty,pos,aft,g⟩ a w (k.val ((cs.drop o).take k.sz)) w:=by
  simp[aw,execOp,Instr.loadAt,hE.eval hx,Instr.sureAddr,ib W h hA]
 exact Z.step ⟨rfl,_,h,rfl⟩
theorem bh (hE:am δ n a l)(hS:S W0 m w L TL)(J:cI P t k){v:Value}{xx:O}(Z:evl l x=some v)(hp:PR k m v xx):
  aM P ⟨some d,.load t x,ty,pos,aft,g⟩ a w (λv w'=>w=w'/\RV k m v xx):=by
 obtain⟨b,o,rfl,h⟩:=hp;have hA:At w b o (m.row b o k.sz):=hS.atM (k.len h) k.pos
 have W:aw P ⟨some d,.load t x,ty,pos,aft,g⟩ a w (k.val (m.row b o k.sz)) w:=by
  simp[aw,execOp,Instr.loadAt,hE.eval Z,Instr.sureAddr,ib J h hA]
 exact W.step ⟨rfl,_,h,rfl⟩
structure dS (P:Program)(s:TypeId)(i off:Nat):Prop where
 at_:∀b o w,(Instr.fieldAt s (.pointer (some ⟨b,o,none⟩)) i).run P w= .ok (.pointer (some ⟨b,o+off,none⟩)) w
theorem d3 {s:TypeId}{i off:Nat}{h:Array Field}{f:Field}{sz:Nat}(hu:P.underlying s=some (.struct h))(hf:h[i]? =some f)(Z:∀w,(sizeOf f.type).run P w= .ok sz w)(J:sz≠0)(W:f.offset=off):dS P s i off:=
 ⟨λb o w=>by
  subst W;simp only[Instr.fieldAt,Sem.run_bind,run_underlying hu,Result.andThen_ok,hf,Instr.sureAddr,Sem.run_pure,fieldPlace,Z];rw[if_neg J];simp only[Sem.run_pure,Result.andThen_ok]
  rw[ew]⟩
theorem aG {s:TypeId}{i off b o:Nat}(J:am δ n a l)(W:dS P s i off)(h:evl l x=some (.pointer (some ⟨b,o,none⟩))):
  aw P ⟨some d,.fieldAddr s x i,ty,pos,aft,g⟩ a w (.pointer (some ⟨b,o+off,none⟩)) w:=by
 simp[aw,execOp,J.eval h,W.at_]
def Fld (k:Kd O)(k':Kd β)(off:Nat)(f:O->β):Prop:=off+k'.sz<=k.sz/\∀m cs x,k.R m cs x->k'.R m ((cs.drop off).take k'.sz) (f x)
theorem AZ {m:M}{b o off sz sz':Nat}(h:off+sz'<=sz):((m.row b o sz).drop off).take sz'=m.row b (o+off) sz':=by
 unfold M.row;cases m b with
 |none=>simp
 |some r=>
  simp only[];rw[Qd,Qe,Qa];congr 1;omega
theorem PR.fld {off:Nat}{f:O->β}(J:Fld k k' off f){v:Value}{xx:O}(h:PR k m v xx):∃b o,v= .pointer (some ⟨b,o,none⟩)/\PR k' m (.pointer (some ⟨b,o+off,none⟩)) (f xx):=by
 obtain⟨b,o,rfl,W⟩:=h;refine⟨b,o,rfl,b,o+off,rfl,?_⟩;rw[←AZ J.1];exact J.2 _ _ _ W
theorem gX {s:TypeId}{i off:Nat}{f:O->β}(hE:am δ n a l)(hF:dS P s i off)(J:Fld k k' off f){v:Value}{xx:O}(W:evl l x=some v)(Z:PR k m v xx):
  aM P ⟨some d,.fieldAddr s x i,ty,pos,aft,g⟩ a w (λv w'=>w=w'/\PR k' m v (f xx)):=by
 obtain⟨b,o,rfl,h⟩:=Z.fld J;exact(aG hE hF W).step ⟨rfl,h⟩
theorem Fld.R_drop {off o:Nat}{f:O->β}(J:Fld k k' off f){cs:List Value}{xx:O}(h:k.R m ((cs.drop o).take k.sz) xx):k'.R m ((cs.drop (o+off)).take k'.sz) (f xx):=by
 have:=J.2 _ _ _ h;rw[Qd,Qe,Qa,Q4 (by have:=J.1;omega)] at this;exact this
theorem aJ {cs:List Value}{xx:O}(h:k.R m cs xx):k.R m ((cs.drop 0).take k.sz) xx:=by
 rw[Ql,Q1 (by rw[k.len h];exact Q5 _)];exact h
theorem dT {P:Program}:∀(vs:List Value) (b o i:Nat) (c:List Value) (t:TypeId) (w:World),w.heap[b]? =some (.cells c.toArray t (0,0))->o+i+vs.length<=c.length->(∀v∈vs,v.oneCell'=true)->
  (storeCells ⟨b,o,none⟩ vs i).run P w= .ok () (w.setRow b (c.take (o+i)++vs++c.drop (o+i+vs.length)).toArray)
 | [],b,o,i,c,t,w,hb,hl,_=>by
  simp only[storeCells,List.append_nil,Z4,Qm,Qh];show Result.ok () w=_;congr 1;have a2:b<w.heap.size:=(Array.getElem?_eq_some_iff.1 hb).1;have J:w.heap[b]= .cells c.toArray t (0,0):=(Array.getElem?_eq_some_iff.1 hb).2;unfold World.setRow;cases w with
  | mk heap tape drawn os output=>
   congr 1;apply Array.ext
   ·simp
   ·intro j h h2
    simp only[Array.getElem_modify];split
    ·rename_i hk;subst hk;simp at J;simp[J]
    ·rfl
 | v::rest,b,o,i,c,t,w,hb,hl,h=>by
  simp only[Qq] at hl;have hi:o+i<c.length:=by omega
  have a1:w.cell? ⟨b,o+i,none⟩=some c[o+i]:=by simp[World.cell?,hb,hi]
  have W:w.frozen? ⟨b,o+i,none⟩=false:=by simp[World.frozen?,hb]
  have a0:(store ((⟨b,o,none⟩:Addr).add i) v).run P w= .ok () (w.setRow b (c.toArray.setIfInBounds (o+i) v)):=by
   rw[ew,run_store P w _ v _ (h v (by simp)),a1];simp[W,setCell_eq_setRow w b (o+i) c.toArray t (0,0) v hb]
  have Z:=dT (P:=P) rest b o (i+1) (c.set (o+i) v) t (w.setRow b (c.toArray.setIfInBounds (o+i) v))
   (by rw[Zy];exact setRow_heap w b c.toArray _ t _ hb) (by simp;omega) (λx hx=>h x (by simp[hx]))
  simp only[storeCells,Sem.run_bind,a0,Result.andThen_ok,Z,setRow_setRow];congr 3;rw[show o+(i+1)=o+i+1 by omega,List.take_set,List.drop_set_of_lt (by omega),Qq,show o+i+1+rest.length=o+i+(rest.length+1) by omega];rw[Zl (by omega)];rw[Xl _ _ (by simp;omega)];simp[Q4 (Nat.le_of_lt hi)]
theorem S.setL (hS:S W0 m w L TL){i b:Nat}{cs:List Value}(hL:L[i]? =some (b,cs))(a1:cs≠[])(cs':List Value):S W0 m (w.setRow b cs'.toArray) (L.set i (b,cs')) TL:=by
 obtain⟨hB,hm,t,ht⟩:=hS.own i _ hL a1;have a0:∀j,j≠b->(w.setRow b cs'.toArray).heap[j]? =w.heap[j]? :=λj Z=>setRow_other w b j _ Z;simp only at hB hm ht;refine⟨hS.below.step ⟨⟨rfl,rfl,rfl,by simp,λj Z=>a0 j (by omega)⟩,Q5 _⟩ (λk o hk hc=>by rw[a0 k (λe=>by subst e;rw[ht] at hk;injection hk with hk;subst hk;cases hc)];exact hk),λj r Z=>?_,λj e J hv=>?_,λi' j e e' J a4 b1 hv b0=>?_,λj e J=>?_,hS.apart⟩
 ·rw[a0 j (λe=>by subst e;rw[hm] at Z;cases Z)]
  exact hS.imm j r Z
 ·rw[Qv] at J
  split at J
  ·rename_i e1;subst e1
   simp at J;obtain⟨_,rfl⟩:=J;exact⟨hB,hm,t,setRow_heap w b _ _ t _ ht⟩
  ·rename_i e1
   obtain⟨h1,W,t',h3⟩:=hS.own j e J hv;have a1:=hS.nodup i j _ _ hL J e1 a1 hv;exact⟨h1,W,t',by rw[a0 _ (λe=>a1 e.symm)];exact h3⟩
 ·have key:∀(j:Nat) (e:Nat×List Value),(L.set i (b,cs'))[j]? =some e->e.2≠[]->∃e0,L[j]? =some e0/\e0.1=e.1/\e0.2≠[]:=λj e J hv=>by
   rw[Qv] at J;split at J
   ·rename_i e1;subst e1
    simp at J;obtain⟨_,rfl⟩:=J;exact⟨_,hL,rfl,a1⟩
   ·exact⟨e,J,rfl,hv⟩
  obtain⟨e0,h0,h1,W⟩:=key i' e J hv;obtain⟨a9,a2,a5,a3⟩:=key j e' a4 b0;rw[←h1,←a5];exact hS.nodup i' j e0 a9 h0 a2 b1 W a3
 ·have hT:=hS.tails j e J
  obtain⟨sz,v⟩:=e;cases v<;>try exact hT
  rename_i ad len cap;cases ad with
  |none=>trivial
  |some ad=>
   obtain⟨a6,hT⟩:=hT;refine⟨by simpa using a6,?_⟩;rcases hT with h|⟨h0,h1,r,c,t',W,h3,h4,h5⟩
   ·exact .inl h
   ·exact .inr ⟨h0,h1,r,c,t',W,h3,by rw[a0 _ (λe=>by rw[e,hm] at W;cases W)];exact h4,h5⟩
theorem uw (hE:am δ n a l)(hS:S W0 m w L TL)(hT:cI P t k){i b o:Nat}{cs:List Value}{v:Value}{xx:O}(hx:evl l x=some (.pointer (some ⟨b,o,none⟩)))(hy:evl l y=some v)(hv:RV k m v xx)(W:L[i]? =some (b,cs))(hb:o+k.sz<=cs.length):
  aM P ⟨none,.store t x y,ty,pos,aft,g⟩ a w (λ_ w'=>∃vs,k.R m vs xx/\S W0 m w' (L.set i (b,cs.take o++vs++cs.drop (o+k.sz))) TL):=by
 obtain⟨vs,h,rfl⟩:=hv;have hl:=k.len h;have Z:cs≠[]:=λe=>by have:=k.pos;subst e;simp at hb;omega
 obtain⟨hB,hm,t',ht⟩:=hS.own i _ W Z;have J:=dT (P:=P) vs b o 0 cs t' w ht (by omega) (k.one h)
 have hr:rC P ⟨none,.store t x y,ty,pos,aft,g⟩ a w (w.setRow b (cs.take o++vs++cs.drop (o+k.sz)).toArray):=by
  simp only[Qm,hl] at J;have a0:=hT.size w;simp only[rC,execOp,hE.eval hx,hE.eval hy,Instr.storeAt,Instr.sureAddr,Sem.run_bind,Sem.run_pure,Result.andThen_ok,storeVar,k.val_cells h,a0];simp[hl,J]
 exact hr.step ⟨vs,h,hS.setL W Z _⟩
end
open Go.RowKit (Below)
def Rl {O:Type}(d:Kd O)(m:M)(cs:List Value)(xs:List O):Prop:=cs.length=xs.length*d.sz/\∀i (h:i<xs.length),d.R m ((cs.drop (i*d.sz)).take d.sz) xs[i]
section
variable {δ:List Nat}{ro:Option Nat}{O:Type}{d:Kd O}{m m':M}{cs ds:List Value}{xs ys:List O}
theorem Rl.mono (h:Rl d m cs xs)(J:M.le m m'):Rl d m' cs xs:=⟨h.1,λi hi=>d.mono J (h.2 i hi)⟩
theorem Rl.nil:Rl d m [] []:=⟨by simp,λi h=>by simp at h⟩
theorem Rl.single {x:O}(h:d.R m cs x):Rl d m cs [x]:=⟨by simp[d.len h],λi hi=>by
  have:i=0:=by simp at hi;omega
  subst this;simp only[Nat.zero_mul,Ql,Zn];rw[Q1 (by rw[d.len h];exact Q5 _)]
  exact h⟩
theorem Rl.app (h:Rl d m cs xs)(k:Rl d m ds ys):Rl d m (cs++ds) (xs++ys):=by
  refine⟨by simp[h.1,k.1,Q6],λi hi=>?_⟩;have Z:=d.pos
  by_cases h1:i<xs.length
  · rw[Xa h1]
    have J:i*d.sz+d.sz<=xs.length*d.sz:=by
      have:=Jn d.sz (show i+1<=xs.length by omega);rw[Q6] at this;omega
    rw[Qj (by rw[h.1];omega),Q2 (by simp[h.1];omega)];exact h.2 i h1
  · rw[X7 (by omega)]
    have J:xs.length*d.sz<=i*d.sz:=Jn _ (by omega);have W:i*d.sz - xs.length*d.sz=(i - xs.length)*d.sz:=by rw[Nat.sub_mul]
    rw[Z7,Q8 (by rw[h.1];exact J),Qp,h.1,W];exact k.2 _ (by simp at hi;omega)
theorem Rl.one (h:Rl d m cs xs):∀c∈cs,c.oneCell'=true:=by
  intro c hc;obtain⟨j,Z,rfl⟩:=List.mem_iff_getElem.1 hc;have J:=d.pos
  have hi:j/d.sz<xs.length:=by
    rw[Nat.div_lt_iff_lt_mul J,←h.1];exact Z
  have hR:=h.2 _ hi;refine d.one hR _ ?_;have W:=Nat.div_add_mod j d.sz;have e2:=Nat.mod_lt j J;rw[Xp] at W;rw[List.mem_iff_getElem?];refine⟨j%d.sz,?_⟩;rw[Z9,if_pos e2,Qu,W,Qf Z]
theorem iL {v:Value}(h:RV (kSl d) m v xs):∃a cap,v= .slice a xs.length cap/\xs.length<=cap/\xs.length<=bU/\(match a with|none=>cap=0|some ad=>(0<cap->ad.spot=none)/\∀i (h:i<xs.length),d.R m (m.row ad.block (ad.off+i*d.sz) d.sz) xs[i]):=by
  obtain⟨cs,⟨a,len,cap,Z,W,J,h4,h5⟩,rfl⟩:=h;subst Z;subst W;exact⟨a,cap,rfl,J,h4,h5⟩
theorem dw {a:Option Addr}{cap:Nat}(Z:xs.length<=cap)(W:xs.length<=bU)(J:match a with|none=>cap=0|some ad=>(0<cap->ad.spot=none)/\∀i (h:i<xs.length),d.R m (m.row ad.block (ad.off+i*d.sz) d.sz) xs[i]):RV (kSl d) m (.slice a xs.length cap) xs:=
  ⟨[_],⟨a,_,cap,rfl,rfl,Z,W,J⟩,rfl⟩
theorem xg {b o:Nat}(h:∀i (h:i<xs.length),d.R m (m.row b (o+i*d.sz) d.sz) xs[i]):Rl d m (m.row b o (xs.length*d.sz)) xs:=by
  have hp:=d.pos
  have W:(m.row b o (xs.length*d.sz)).length=xs.length*d.sz:=by
    rcases Q9 xs.length with h0|h0
    ·unfold M.row;cases m b<;>simp[h0]
    · have J:=d.len (h (xs.length - 1) (by omega))
      unfold M.row at J ⊢;cases hm:m b with
      |none=>simp[hm] at J;omega
      | some l=>
        simp[hm] at J ⊢
        have e:(xs.length - 1)*d.sz+d.sz=xs.length*d.sz:=by
          rw[←Nat.succ_mul];congr 1;omega
        omega
  refine⟨W,λi hi=>?_⟩
  have Z:i*d.sz+d.sz<=xs.length*d.sz:=by
    have:=Jn d.sz (show i+1<=xs.length by omega);rw[Q6] at this;omega
  rw[AZ Z];exact h i hi
theorem nY {b o:Nat}{l:List Value}(J:m b=some l)(h:Rl d m cs xs)(W:(l.drop o).take cs.length=cs):∀i (h:i<xs.length),d.R m (m.row b (o+i*d.sz) d.sz) xs[i]:=by
  intro i hi
  have Z:i*d.sz+d.sz<=xs.length*d.sz:=by
    have:=Jn d.sz (show i+1<=xs.length by omega);rw[Q6] at this;omega
  have:=h.2 i hi;rw[←W,Qd,Qe,Qa,Q4 (by rw[h.1];omega)] at this;unfold M.row;rw[J];exact this
end
def idx {O:Type}(xs:List O)(i:Int):Option O:=if 0<=i then xs[i.toNat]? else none
theorem ux {O:Type}{xs:List O}{i:Int}{x:O}(h:idx xs i=some x):0<=i/\∃hi:i.toNat<xs.length,xs[i.toNat]=x:=by
  unfold idx at h;split at h
  · rename_i J
    exact⟨J,zw.1 h⟩
  ·cases h
def sub {O:Type}(xs:List O)(lo hi:Int):Option (List O):=if 0<=lo/\lo<=hi/\hi<=(xs.length:Int) then some ((xs.take hi.toNat).drop lo.toNat) else none
theorem rD {O:Type}{xs ys:List O}{lo hi:Int}(h:sub xs lo hi=some ys):0<=lo/\lo<=hi/\hi<=(xs.length:Int)/\ys=(xs.take hi.toNat).drop lo.toNat:=by
  unfold sub at h;split at h
  · rename_i J
    injection h with h
    exact⟨J.1,J.2.1,J.2.2,h.symm⟩
  ·cases h
def app {O:Type}(N:Nat)(xs ys:List O):Option (List O):=if xs.length+ys.length<=N then some (xs++ys) else none
theorem uy {O:Type}{N:Nat}{xs ys J:List O}(h:app N xs ys=some J):xs.length+ys.length<=N/\J=xs++ys:=by
  unfold app at h;split at h
  · rename_i W
    injection h with h
    exact⟨W,h.symm⟩
  ·cases h
section
variable {δ:List Nat}{ro:Option Nat}{P:Program}{W0:Bse}{m:M}{L:List (Nat×List Value)}{TL:List (Nat×Value)}{n:Nat}{a:Act}{l:List (Nat×Value)}{w:World}{ty t e:TypeId}{pos:String}{aft:Array Edge}{g:Option (Nat×Bool)}{x y:Operand}{d:Nat}{O:Type}{k:Kd O}
theorem aV {h:Array TypeId}{xs:List O}{v:Value}(hE:am δ n a l)(W:evl l x=some v)(Z:h[0]? =some t)(hu:P.underlying t=some (.slice e))(J:RV (kSl k) m v xs):
    aw P ⟨some d,.call ⟨.builtin .len,#[x],h⟩,ty,pos,aft,g⟩ a w (.int .i64 (xs.length:Int)) w:=by
  obtain⟨ad,cap,rfl,_⟩:=iL J;simp[aw,execOp,resolve,invoke,builtin,hE.eval W,Builtin.len_,Z,run_underlying hu,goInt]
theorem uz (s:List Int):(bts s).size=s.length:=by
  show((s.map _).toArray).size=_;simp
theorem E6 {h:Array TypeId}{s:List Int}(hE:am δ n a l)(J:evl l x=some (.string (bts s)))(W:h[0]? =some t)(Z:P.underlying t=some .string):
    aw P ⟨some d,.call ⟨.builtin .len,#[x],h⟩,ty,pos,aft,g⟩ a w (.int .i64 (s.length:Int)) w:=by
  simp[aw,execOp,resolve,invoke,builtin,hE.eval J,Builtin.len_,W,run_underlying Z,goInt,uz]
theorem dx {kk:IntKind}{i:Int}{xs:List O}{xx:O}{v:Value}(Z:am δ n a l)(hx:evl l x=some v)(hy:evl l y=some (.int kk i))(hu:P.underlying t=some (.slice e))(hs:∀w,(sizeOf e).run P w= .ok k.sz w)(hv:RV (kSl k) m v xs)(hi:idx xs i=some xx):
    aM P ⟨some d,.indexAddr t x y,ty,pos,aft,g⟩ a w (λv w'=>w=w'/\PR k m v xx):=by
  obtain⟨h0,h1,h2⟩:=ux hi;obtain⟨J,cap,rfl,h3,h4,W⟩:=iL hv;cases J with
  |none=>simp only at W;omega
  | some J=>
    obtain⟨b,o,sp⟩:=J;obtain⟨h,hR⟩:=W;replace h:=h (by omega);simp only at h;subst h;have a0:i<(xs.length:Int):=by omega
    have hr:aw P ⟨some d,.indexAddr t x y,ty,pos,aft,g⟩ a w (.pointer (some ⟨b,o+i.toNat*k.sz,none⟩)) w:=by
      simp[aw,execOp,Z.eval hx,Z.eval hy,Instr.indexAt,asIntOf,run_underlying hu,h0,a0,hs,ew]
    refine hr.step ⟨rfl,b,_,rfl,?_⟩;rw[←h2];exact hR _ h1
theorem IC {v:Value}{xs ys:List O}{lo hi:Int}(hv:RV (kSl k) m v xs)(hs:sub xs lo hi=some ys):
    ∃a cap,v= .slice a xs.length cap/\hi<=cap/\RV (kSl k) m (.slice (if cap=lo.toNat then a else a.map (·.add (lo.toNat*k.sz))) (hi.toNat - lo.toNat) (cap - lo.toNat)) ys:=by
  obtain⟨h0,h1,h2,rfl⟩:=rD hs;obtain⟨J,cap,rfl,h3,h4,Z⟩:=iL hv;have hl:((xs.take hi.toNat).drop lo.toNat).length=hi.toNat - lo.toNat:=by simp;omega
  refine⟨J,cap,rfl,by omega,?_⟩;rw[←hl];refine dw (by omega) (by omega) ?_
  by_cases hc:cap=lo.toNat
  · rw[if_pos hc]
    cases J with
    |none=>simp only at Z ⊢;omega
    |some J=>exact⟨λh=>Z.1 (by omega),λi hi'=>by rw[hl] at hi';omega⟩
  · rw[if_neg hc]
    cases J with
    |none=>simp only at Z ⊢;simp;omega
    | some J=>
      obtain⟨b,o,sp⟩:=J;obtain⟨W,hR⟩:=Z;replace W:=W (by omega);simp only at W;subst W;simp only[Qn,ew];refine⟨λ_=>trivial,λi hi'=>?_⟩;rw[hl] at hi';have:=hR (lo.toNat+i) (by omega);rw[Q6,←Nat.add_assoc] at this;simpa using this
theorem nK {a:Option Addr} {len cap:Nat} {lo hi:Option Value} {lo' hi':Nat} (hu:P.underlying t=some (.slice e)) (hs:∀w,(sizeOf e).run P w= .ok k.sz w)
    (h:match lo with|some (.int _ i)=>i=lo'|none=>lo'=0|_=>False) (J:match hi with|some (.int _ i)=>i=hi'|none=>hi'=len|_=>False) (h1:lo'<=hi') (h2:hi'<=cap):
    (Instr.sliceAt t (.slice a len cap) lo hi none).run P w= .ok (.slice (if cap=lo' then a else a.map (·.add (lo'*k.sz))) (hi' - lo') (cap - lo')) w:=by
  have key:(Instr.sliceBounds true len cap lo hi none).run P w= .ok (lo',hi',cap) w:=by
    unfold Instr.sliceBounds
    have b1:∀(Z:IntKind) (W:BoundsCode),(Instr.sliceBound (.int Z (hi':Int)) cap W).run P w= .ok hi' w:=λZ W=>by
      simp[Instr.sliceBound,asIntOf,h2]
    have b2:∀(Z:IntKind) (W:BoundsCode),(Instr.sliceBound (.int Z (lo':Int)) hi' W).run P w= .ok lo' w:=λZ W=>by
      simp[Instr.sliceBound,asIntOf,h1]
    rcases hi with _|hv
    · simp only at J;subst J
      rcases lo with _|lv
      ·simp only at h;subst h;simp
      · cases lv<;>try exact h.elim
        simp only at h;subst h;simp[b2]
    · cases hv<;>try exact J.elim
      simp only at J;subst J;rcases lo with _|lv
      ·simp only at h;subst h;simp[b1]
      · cases lv<;>try exact h.elim
        simp only at h;subst h;simp[b1,b2]
  simp[Instr.sliceAt,run_underlying hu,Instr.slice,key,hs]
theorem dJ {v:Value}{xs ys:List O}{xl xh:Option Operand}{lo hi:Int}(Z:am δ n a l)(hx:evl l x=some v)(hu:P.underlying t=some (.slice e))(hs:∀w,(sizeOf e).run P w= .ok k.sz w)(hv:RV (kSl k) m v xs)
    (hl:match xl with|some o=>∃h,evl l o=some (.int h lo)|none=>lo=0) (hh:match xh with|some o=>∃h,evl l o=some (.int h hi)|none=>hi=(xs.length:Int)) (a0:sub xs lo hi=some ys):
    aM P ⟨some d,.slice t x xl xh none,ty,pos,aft,g⟩ a w (λv w'=>w=w'/\RV (kSl k) m v ys):=by
  obtain⟨h0,h1,h2,_⟩:=rD a0;obtain⟨W,cap,rfl,h3,h4⟩:=IC hv a0
  have hr :aw P ⟨some d,.slice t x xl xh none,ty,pos,aft,g⟩ a w (.slice (if cap=lo.toNat then W else W.map (·.add (lo.toNat*k.sz))) (hi.toNat - lo.toNat) (cap - lo.toNat)) w:=by
    have:=nK (w:=w) (a:=W) (len:=xs.length) (cap:=cap) (lo:=xl.map a.eval) (hi:=xh.map a.eval) (lo':=lo.toNat) (hi':=hi.toNat) hu hs
      (by cases xl with
          |none=>simp at hl ⊢;omega
          |some o=>obtain⟨h,J⟩:=hl;simp only[Qn,Z.eval J];omega)
      (by cases xh with
          |none=>simp at hh ⊢;omega
          |some o=>obtain⟨h,J⟩:=hh;simp only[Qn,Z.eval J];omega) (by omega) (by omega)
    simp[aw,execOp,Z.eval hx,this]
  exact hr.step ⟨rfl,h4⟩
end
open Go.RowKit (Below)
structure mF (P:Program)(e:TypeId)(sz by_:Nat):Prop where
  ok:∃i z,P.info? e=some i/\i.size=sz/\i.bytes=by_/\i.zero=some z/\z.cells.size=sz
section
variable {δ:List Nat}{ro:Option Nat}{P:Program}{W0:Bse}{m:M}{L:List (Nat×List Value)}{TL:List (Nat×Value)}{w:World}{O:Type}{k:Kd O}
theorem kV {v:Value} {xs:List O} (hS:S W0 m w L TL) (hv:RV (kSl k) m v xs):∃cs,Rl k m cs xs/\(∀w',(∀b,b<w.heap.size->w'.heap[b]? =w.heap[b]?)->(Builtin.firstCells k.sz xs.length v).run P w'= .ok cs.toArray w')/\
    (∀a cap J,v= .slice a xs.length cap->a=some J->cs=m.row J.block J.off (xs.length*k.sz))/\(∀l c,v= .slice none l c->cs=[]):=by
  obtain⟨J,cap,rfl,h3,h4,h5⟩:=iL hv;cases J with
  | none=>
    simp only at h5;have Z:xs.length=0:=by omega
    have:xs=[]:=Q0 Z;subst this;refine⟨[],Rl.nil,λw' _=>run_firstCells_none w' _ _ _ _,?_,λl c h=>rfl⟩;intro a cap J h W;injection h with h
    rw[←h] at W;cases W
  | some J=>
    obtain⟨b,o,sp⟩:=J;obtain⟨a0,hR⟩:=h5;have a1:=xg hR;refine⟨_,a1,λw' hw=>?_,λa cap J h W=>?_,λl c h=>by cases h⟩
    · rcases Q9 xs.length with Z|Z
      · have hc:m.row b o (xs.length*k.sz)=[]:=by unfold M.row;cases m b<;>simp[Z]
        rw[hc]
        have:(Builtin.firstCells k.sz xs.length (.slice (some ⟨b,o,sp⟩) xs.length cap)).run P w'= .ok #[] w':=by
          simp[Builtin.firstCells,Z,loadCells,loadCellsFrom]
        simpa using this
      · replace a0:=a0 (by omega)
        simp only at a0;subst a0;have hp:0<xs.length*k.sz:=Zr Z k.pos;have hA:=hS.atM (b:=b) (o:=o) a1.1 hp;obtain⟨c,t,fr,hb,hc⟩:=hA;have a2:=(Array.getElem?_eq_some_iff.1 hb).1;have a3:At w' b o (m.row b o (xs.length*k.sz)):=⟨c,t,fr,by rw[hw b a2];exact hb,hc⟩
        exact run_firstCells_some w' _ _ _ _ _ _ a1.1 (λj v hj=>by rw[ew];exact a3.cell hj)
    · injection h with h
      rw[←h] at W;injection W with W;subst W;rfl
theorem S.grow (hS:S W0 m w L TL) {i b sz:Nat} {l ms:List Value} {c:List Value} {t:TypeId} {v v':Value} (hT:TL[i]? =some (sz,v)) (hb:m b=some l) (hB:W0.heap.size<=b) (hw:w.heap[b]? =some (.cells c.toArray t (0,0))) (hv:iz v=some b)
    (a4:iz v'=some b)
    (a2:qs W0.heap.size (m.put b (l++ms)) (w.setRow b (c.take l.length++ms++c.drop (l.length+ms.length)).toArray) sz v'):
    M.le m (m.put b (l++ms))/\S W0 (m.put b (l++ms)) (w.setRow b (c.take l.length++ms++c.drop (l.length+ms.length)).toArray) L (TL.set i (sz,v')):=by
  generalize hcs:(c.take l.length++ms++c.drop (l.length+ms.length))=cs at*;have a0:∀j,j≠b->(w.setRow b cs.toArray).heap[j]? =w.heap[j]? :=λj W=>setRow_other w b j _ W;have b1:=setRow_heap w b _ cs.toArray t _ hw;obtain⟨c0,t0,b3,r0,h1,h2,_⟩:=hS.imm b l hb;rw[hw] at h1;injection h1 with h1;injection h1 with h1 _ _;subst h1
  simp only at h2;refine⟨λj r W=>?_,hS.below.step ⟨⟨rfl,rfl,rfl,by simp,λj W=>a0 j (by omega)⟩,Q5 _⟩ (λk o hk hc=>by rw[a0 k (λe=>by subst e;rw[hw] at hk;injection hk with hk;subst hk;cases hc)];exact hk),λj r W=>?_,λj e J hv=>?_,hS.nodup,λj e J=>?_,λj j' e e' J a3 b2=>?_⟩
  · by_cases e:j=b
    · subst e;rw[hb] at W;injection W with W;subst W
      exact⟨ms,M.put_same _ _ _⟩
    ·exact⟨[],by rw[M.put_other _ _ e];simpa using W⟩
  · by_cases e:j=b
    · subst e
      rw[M.put_same] at W;injection W with W;subst W
      refine⟨_,t,_,c.drop (l.length+ms.length),b1,?_,λ_=> .inl rfl⟩;have:c.take l.length=l:=by rw[h2];simp
      rw[←hcs,this]
    · rw[M.put_other _ _ e] at W
      rw[a0 j e];exact hS.imm j r W
  · obtain⟨Z,h4,t',h5⟩:=hS.own j e J hv
    have a1:e.1≠b:=λx=>by rw[x,hb] at h4;cases h4
    exact⟨Z,by rw[M.put_other _ _ a1];exact h4,t',by rw[a0 _ a1];exact h5⟩
  · rw[Qv] at J
    split at J
    · rename_i e1;subst e1
      simp at J;obtain⟨_,rfl⟩:=J;exact a2
    · rename_i e1
      have Z:=hS.tails j e J;have h4:=hS.apart i j _ _ hT J e1 b hv;obtain⟨sz',u⟩:=e;cases u<;>try exact Z
      rename_i ad len cap;cases ad with
      |none=>trivial
      | some ad=>
        have a1:ad.block≠b:=λx=>h4 (by simp[iz,x]);obtain⟨a5,Z⟩:=Z;refine⟨by simpa using a5,?_⟩;rcases Z with h|⟨h0,h1,r,c',t',h5,h6,h7,h8⟩
        ·exact .inl h
        ·exact .inr ⟨h0,h1,r,c',t',by rw[M.put_other _ _ a1];exact h5,h6,by rw[a0 _ a1];exact h7,h8⟩
  · have key:∀(j:Nat) (e:Nat×Value),(TL.set i (sz,v'))[j]? =some e->∃e0,TL[j]? =some e0/\iz e0.2=iz e.2:=λj e J=>by
      rw[Qv] at J;split at J
      · rename_i e1;subst e1
        simp at J;obtain⟨_,rfl⟩:=J;exact⟨_,hT,by rw[hv,a4]⟩
      ·exact⟨e,J,rfl⟩
    obtain⟨e0,Z,h4⟩:=key j e J;obtain⟨b0,a6,a9⟩:=key j' e' a3;have:=hS.apart j j' e0 b0 Z a6 b2;unfold tT at*;rw[←h4,←a9];exact this
theorem S.allocT (hS:S W0 m w L TL) {i sz:Nat} {v':Value} (cs rs:List Value) (t:TypeId) (a3:iz v'=some w.heap.size)
    (a1:qs W0.heap.size (m.put w.heap.size cs) (w.drew.alloc (.cells (cs++rs).toArray t)) sz v'):
    M.le m (m.put w.heap.size cs)/\S W0 (m.put w.heap.size cs) (w.drew.alloc (.cells (cs++rs).toArray t)) L (TL.set i (sz,v')):=by
  have hB:=hS.below.size;have hn:m w.heap.size=none:=hS.fresh (Q5 _);have a0:∀j,j<w.heap.size->(w.drew.alloc (.cells (cs++rs).toArray t)).heap[j]? =w.heap[j]? :=λj hj=>gp w.drew _ j hj;refine⟨M.le_put _ hn,hS.below.drew.alloc hB _,λb r J=>?_,λj e h hv=>?_,hS.nodup,λj e h=>?_,λj j' e e' h a2 a5=>?_⟩
  · by_cases e:b=w.heap.size
    · subst e
      rw[M.put_same] at J;injection J with J;subst J
      exact⟨_,t,(0,0),rs,nW w.drew _,by simp,λ_=> .inl rfl⟩
    · rw[M.put_other _ _ e] at J
      rw[a0 b (hS.lt J)];exact hS.imm b r J
  · obtain⟨h1,W,t',h3⟩:=hS.own j e h hv
    have a4:=(Array.getElem?_eq_some_iff.1 h3).1;exact⟨h1,by rw[M.put_other _ _ (by omega)];exact W,t',by rw[a0 _ a4];exact h3⟩
  · rw[Qv] at h
    split at h
    · rename_i e1;subst e1
      simp at h;obtain⟨_,rfl⟩:=h;exact a1
    ·exact nV a0 (C6 (w:=w) (m:=m) (λb J=>M.put_other _ _ (by omega)) (hS.tails j e h))
  · have key:∀(j:Nat) (e:Nat×Value),(TL.set i (sz,v'))[j]? =some e->(j=i/\iz e.2=some w.heap.size)\/(j≠i/\TL[j]? =some e):=λj e h=>by
      rw[Qv] at h;split at h
      · rename_i e1;subst e1
        simp at h;obtain⟨_,rfl⟩:=h;exact .inl ⟨rfl,a3⟩
      ·rename_i e1;exact .inr ⟨λx=>e1 x.symm,h⟩
    intro b J Z;rcases key j e h with⟨h1,W⟩|⟨h1,W⟩<;>rcases key j' e' a2 with⟨h3,h4⟩|⟨h3,h4⟩
    ·omega
    · have:=tU (hS.tails j' e' h4) Z
      rw[W] at J;injection J with J;omega
    · have:=tU (hS.tails j e W) J
      rw[h4] at Z;injection Z with Z;omega
    ·exact hS.apart j j' e e' W h4 a5 b J Z
theorem sS {e t tx ty:TypeId} {by_:Nat} (hS:S W0 m w L TL) (hu:P.underlying t=some (.slice e)) (h:(∃e',P.underlying tx=some (.slice e'))\/P.underlying tx=some .string) (e0:mF P e k.sz by_) {i:Nat} {v u:Value} {xs ys:List O} {news:List Value} (hT:TL[i]? =some (k.sz,v)) (hv:RV (kSl k) m v xs)
    (W:(Builtin.lenOf u).run P w= .ok ys.length w) (hf:∀w',(∀b,b<w.heap.size->w'.heap[b]? =w.heap[b]?)->(Builtin.firstCells k.sz ys.length u).run P w'= .ok news.toArray w') (J:Rl k m news ys)
    (hN:(xs.length+ys.length)*by_<=140737488355328) (hM:xs.length+ys.length<=bU):
    ∃v' m' w',(Builtin.append_ #[t,tx] ty #[v,u]).run P w= .ok v' w'/\M.le m m'/\S W0 m' w' L (TL.set i (k.sz,v'))/\RV (kSl k) m' v' (xs++ys):=by
  obtain⟨b3,z,hi,a9,c2,hz,e3⟩:=e0.ok;obtain⟨cs,a2,b4,b5,e8⟩:=kV (P:=P) hS hv;have b0:=hS.tails i _ hT;obtain⟨ad,cap,rfl,h3,h4,h5⟩:=iL hv;have e5:xs.length+ys.length<=281474976710656:=hM;have hp:=k.pos
  by_cases hfit:xs.length+ys.length<=cap
  · cases ad with
    | none=>
      simp only at h5;subst h5;have hy:ys=[]:=Q0 (by omega);have hx:xs=[]:=Q0 (by omega);subst hy;subst hx;refine⟨.slice none 0 0,m,w,?_,M.le.refl m,?_,?_⟩
      · have a0:=hf w (λ_ _=>rfl)
        simp only[Z4] at a0 W;rcases h with⟨_,h⟩|h<;>simp[Builtin.append_,run_underlying hu,run_underlying h,sizeOf,typeInfo,hi,W,a9,a0]
      · have:TL.set i (k.sz,.slice none 0 0)=TL:=by
          have Z:=(zw.1 hT)
          obtain⟨Z,he⟩:=Z;apply Xj
          ·simp
          · intro j h1 h2
            rw[Xk];split
            ·rename_i e;subst e;exact he.symm
            ·rfl
        rw[this];exact hS
      ·simpa using hv
    | some ad =>
      obtain⟨b,o,sp⟩:=ad;obtain⟨a4,e7⟩:=h5;rcases Q9 ys.length with h0|h0
      · have hy:ys=[]:=Q0 h0
        subst hy;have d2:news=[]:=Q0 (by rw[J.1];simp);subst d2;refine⟨.slice (some ⟨b,o,sp⟩) xs.length cap,m,w,?_,M.le.refl m,?_,?_⟩
        · have a0:=hf w (λ_ _=>rfl)
          simp at hfit a0 W;rcases h with⟨_,h⟩|h<;>simp[Builtin.append_,run_underlying hu,run_underlying h,sizeOf,typeInfo,hi,W,a9,a0,hfit,storeCells]
        · have:TL.set i (k.sz,.slice (some ⟨b,o,sp⟩) xs.length cap)=TL:=by
            obtain⟨Z,he⟩:=(zw.1 hT)
            apply Xj
            ·simp
            · intro j h1 h2
              rw[Xk];split
              ·rename_i e;subst e;exact he.symm
              ·rfl
          rw[this];exact hS
        ·simpa using hv
      · replace a4:=a4 (by omega)
        simp only at a4;subst a4;obtain⟨Z,b0⟩:=b0;rcases b0 with hfull|⟨_,hB,l,c,t0,a3,a6,a5,c6⟩
        ·omega
        · simp only at hB a3 a6 a5 c6 Z
          have b1:=dT (P:=P) news b (o+xs.length*k.sz) 0 c.toList t0 w (by simpa using a5) (by
            rw[J.1];have:=Jn k.sz hfit;rw[Q6] at this
            simp;omega) J.one
          simp only[Qm] at b1;rw[←a6] at b1
          have b2:RV (kSl k) (m.put b (l++news)) (.slice (some ⟨b,o,none⟩) (xs++ys).length cap) (xs++ys):=by
            refine dw (by simpa using hfit) (by simpa using hM) ⟨λ_=>rfl,?_⟩
            have a1:M.le m (m.put b (l++news)):=λj r hj=>by
              by_cases e:j=b
              · subst e;rw[a3] at hj;injection hj with hj;subst hj
                exact⟨news,M.put_same _ _ _⟩
              ·exact⟨[],by rw[M.put_other _ _ e];simpa using hj⟩
            refine nY (cs:=cs++news) (M.put_same _ _ _) (Rl.app (a2.mono a1) (J.mono a1)) ?_
            have d1:cs=(l.drop o).take (xs.length*k.sz):=by
              have:=b5 _ _ _ rfl rfl;simpa[M.row,a3] using this
            have c5:cs=l.drop o:=by rw[d1];apply Q1;simp;omega
            show(((l++news).drop o).take (cs++news).length)=cs++news;rw[Qj (by omega),←c5];exact Q1 (by simp)
          have hg:=hS.grow (v':= .slice (some ⟨b,o,none⟩) (xs++ys).length cap) (ms:=news) hT a3 hB (c:=c.toList) (t:=t0) (by simpa using a5) rfl rfl (by
            refine⟨by simpa using Z,.inr ⟨rfl,hB,_,_,t0,M.put_same _ _ _,?_,setRow_heap w b _ _ t0 _ a5,?_⟩⟩
            ·simp[a6,J.1,Q6,Nat.add_assoc]
            · have h9:=Jn k.sz hfit
              have e6:=J.1;rw[Q6] at h9
              simp;omega)
          refine⟨_,_,_,?_,hg.1,hg.2,b2⟩;rcases h with⟨_,h⟩|h<;>simp[Builtin.append_,run_underlying hu,run_underlying h,sizeOf,typeInfo,hi,W,a9,hf w (λ_ _=>rfl),hfit,ew,←a6,b1]
  · have d0:cap<xs.length+ys.length:=by omega
    have b6: ¬ (9223372036854775807<((xs.length:Int)+(ys.length:Int))):=by omega
    have b7: ¬ (281474976710656<Builtin.nextslicecap (xs.length+ys.length) cap*b3.bytes):=by
      have:=growslice_fits d0 (bytes:=b3.bytes) (by rw[c2];exact hN);omega
    have e4: ¬ (xs.length+ys.length<=cap):=hfit;generalize hcapn:grownCap w (xs.length+ys.length) cap e=cap' at*
    have c3:xs.length+ys.length<=cap':=by
      rw[←hcapn];simp[grownCap,Question.cut]
    let rest:=(Builtin.zeroCells z.cells (cap' - (xs.length+ys.length))).toList
    have c7:rest.length=(cap' - (xs.length+ys.length))*k.sz:=by simp[rest,Builtin.zeroCells,e3]
    have b2:RV (kSl k) (m.put w.heap.size (cs++news)) (.slice (some ⟨w.heap.size,0,none⟩) (xs++ys).length cap') (xs++ys):=by
      refine dw (by simpa using c3) (by simpa using hM) ⟨λ_=>rfl,?_⟩;have a1:M.le m (m.put w.heap.size (cs++news)):=M.le_put _ (hS.fresh (Q5 _));exact nY (cs:=cs++news) (M.put_same _ _ _) (Rl.app (a2.mono a1) (J.mono a1)) (by rw[Ql];exact Q1 (Q5 _))
    have hg:=hS.allocT (i:=i) (sz:=k.sz) (v':= .slice (some ⟨w.heap.size,0,none⟩) (xs++ys).length cap') (cs++news) rest e rfl (by
      refine⟨by simp,.inr ⟨rfl,hS.below.size,_,_,e,M.put_same _ _ _,?_,nW w.drew _,?_⟩⟩
      ·simp[a2.1,J.1,Q6]
      · have e1:xs.length*k.sz+ys.length*k.sz+(cap' - (xs.length+ys.length))*k.sz=cap'*k.sz:=by
          rw[←Q6,←Q6];congr 1;omega
        simp[a2.1,J.1,c7];omega)
    refine⟨_,_,_,?_,hg.1,hg.2,b2⟩;have c1:=b4 w.drew (λ_ _=>rfl);have c0:=hf w.drew (λ_ _=>rfl)
    have e2:cs.toArray++(news.toArray++Builtin.zeroCells z.cells (cap' - (xs.length+ys.length)))=(cs++(news++rest)).toArray:=by
      apply Array.ext';simp[rest]
    have c4:(Question.appendCap (xs.length+ys.length) cap e).cut (w.tape w.drawn (Question.appendCap (xs.length+ys.length) cap e))=cap':=hcapn;rcases h with⟨_,h⟩|h<;>simp[Builtin.append_,run_underlying hu,run_underlying h,sizeOf,typeInfo,zeroValue,hi,hz,W,a9,e4,b6,b7,Question.forced,c1,c0,newRow,c4,e2]
end
open Go.RowKit (Below)
def num:Nat->List Value->List (Nat×Value)
 |_,[]=>[]
 |k,v::vs=>(k,v)::num (k+1) vs
def RVl {O:Type}(k:Kd O)(m:M):List Value->List O->Prop
 |[],[]=>True
 |v::vs,x::xs=>RV k m v x/\RVl k m vs xs
 |_,_=>False
def gK (vs:List Value):List Value:=vs.flatMap λv=>v.cells.toList
theorem RVl.cells {O:Type}{k:Kd O}{m:M}:∀{vs:List Value} {xs:List O},RVl k m vs xs->Rl k m (gK vs) xs
 |[],[],_=>Rl.nil
 |v::vs,x::xs,h=>by
  obtain⟨⟨cs,J,rfl⟩,h2⟩:=h;have W:Rl k m (k.val cs).cells.toList [x]:=by rw[k.val_cells J];exact Rl.single J
  exact Rl.app W (RVl.cells h2)
theorem RVl.size {O:Type}{k:Kd O}{m:M}:∀{vs:List Value} {xs:List O},RVl k m vs xs->∀v∈vs,v.cells.size=k.sz
 |[],_,_,v,hv=>by simp at hv
 |u::vs,x::xs,h,v,hv=>by
  obtain⟨⟨cs,J,rfl⟩,h2⟩:=h;rcases Xq.1 hv with rfl|hv
  ·rw[k.val_cells J];simpa using k.len J
  ·exact RVl.size h2 v hv
theorem RVl.length {O:Type}{k:Kd O}{m:M}:∀{vs:List Value} {xs:List O},RVl k m vs xs->vs.length=xs.length
 |[],[],_=>rfl
 |u::vs,x::xs,h=>by simp[RVl.length h.2]
theorem sT (off:Nat):∀(vs:List Value) (j:Nat) (cs:List Value),off+j+vs.length<=cs.length->
  (vs.zipIdx j).foldl (λ(cs:Array Value) (p:Value×Nat)=>cs.setIfInBounds (off+p.2) p.1) cs.toArray=(cs.take (off+j)++vs++cs.drop (off+j+vs.length)).toArray
 |[],j,cs,_=>by simp
 |v::vs,j,cs,h=>by
  simp only[Qq] at h;rw[List.zipIdx_cons,Xn];simp only[Zy];rw[sT off vs (j+1) _ (by simp;omega)];congr 1;rw[show off+(j+1)=off+j+1 by omega,List.take_set,List.drop_set_of_lt (by omega),Qq,show off+j+1+vs.length=off+j+(vs.length+1) by omega];rw[Zl (by omega),Xl _ _ (by simp;omega)];simp[Q4 (show off+j<=cs.length by omega)]
theorem rE {sz:Nat}:∀(vs:List Value) (k:Nat) (cs:List Value),(∀v∈vs,v.cells.size=sz)->(k+vs.length)*sz<=cs.length->
  Instr.fill (λi=>some (i*sz,sz)) cs.toArray (num k vs)=some (cs.take (k*sz)++gK vs++cs.drop ((k+vs.length)*sz)).toArray
 |[],k,cs,_,_=>by simp[Instr.fill,num,gK]
 | v::vs,k,cs,h,hl=>by
  have J:=h v (by simp);have e1:(k+1)*sz+vs.length*sz=(k+(v::vs).length)*sz:=by rw[←Q6];congr 1;simp;omega
  have e2:(k+1)*sz=k*sz+sz:=by rw[Q6];simp
  have a1:k*sz+sz<=cs.length:=by
   have:(k+1)*sz<=(k+(v::vs).length)*sz:=Jn _ (by simp);omega
  simp only[num,Instr.fill]
  have hz:((v.cells.zipIdx).foldl (λ(cs:Array Value) (p:Value×Nat)=>cs.setIfInBounds (k*sz+p.2) p.1) cs.toArray)=(cs.take (k*sz)++v.cells.toList++cs.drop (k*sz+sz)).toArray:=by
   have:=sT (k*sz) v.cells.toList 0 cs (by simp[J];omega);simp only[Qm,Array.length_toList,J] at this;rw[←this,←Array.foldl_toList,Array.toList_zipIdx]
  have Z:(decide (v.cells.size≠sz)||decide (k*sz+v.cells.size>cs.toArray.size))=false:=by simp[J];omega
  rw[if_neg (by rw[Z];simp)]
  have:=rE vs (k+1) (cs.take (k*sz)++v.cells.toList++cs.drop (k*sz+sz)) (λu hu=>h u (by simp[hu])) (by
   have h9:(k+1+vs.length)*sz=(k+(v::vs).length)*sz:=by congr 1;simp;omega
   have a0:(cs.take (k*sz)++v.cells.toList++cs.drop (k*sz+sz)).length=cs.length:=by simp[J];omega
   rw[h9,a0]
   exact hl)
  refine Eq.trans ?_ (this.trans ?_)
  ·congr 1
  ·congr 2
   have W:(cs.take (k*sz)++v.cells.toList).length=(k+1)*sz:=by simp[J];omega
   rw[Q2 (by omega),Q1 (by omega)];have l2:(k+1+vs.length)*sz=(k+1)*sz+vs.length*sz:=by rw[Q6]
   rw[Z7,Q8 (by rw[W];omega),W,Qp,Qe];simp only[gK,Xb,Qb];congr 4;rw[←e1];omega
section
variable {δ:List Nat}{ro:Option Nat}{P:Program}{W0:Bse}{m:M}{L:List (Nat×List Value)}{TL:List (Nat×Value)}{n:Nat}{a:Act}{l:List (Nat×Value)}{w:World}{ty t t2 e:TypeId}{pos:String}{aft:Array Edge}{g:Option (Nat×Bool)}{x y:Operand}{d:Nat}{O:Type}{k:Kd O}{by_ N:Nat}
theorem uA {v:Value}{xs:List O}(h:RV (kSl k) m v xs)(w:World):(Builtin.lenOf v).run P w= .ok xs.length w:=by
 obtain⟨J,cap,rfl,_⟩:=iL h;simp[Builtin.lenOf]
theorem jp {i:Nat}{v u:Value}{xs ys J:List O}(h:am δ n a l)(hS:S W0 m w L TL)(hx:evl l x=some v)(hy:evl l y=some u)(hu:P.underlying t=some (.slice e))(a1:P.underlying t2=some (.slice e))(a3:mF P e k.sz by_)(hT:TL[i]? =some (k.sz,v))(hv:RV (kSl k) m v xs)(W:RV (kSl k) m u ys)(a2:app N xs ys=some J)
  (hN:Zo (N*by_) 140737488355328=true) (hM:Zo N 281474976710656=true):
  aM P ⟨some d,.call ⟨.builtin .append,#[x,y],#[t,t2]⟩,ty,pos,aft,g⟩ a w (λv' w'=>∃m',M.le m m'/\S W0 m' w' L (TL.set i (k.sz,v'))/\RV (kSl k) m' v' J):=by
 obtain⟨a4,rfl⟩:=uy a2;obtain⟨news,hR,hf,_⟩:=kV (P:=P) hS W
 obtain⟨v',m',w',a0,h1,h2,Z⟩:=sS (tx:=t2) (ty:=ty) hS hu (.inl ⟨e,a1⟩) a3 hT hv (uA W w) hf hR
  (by have:=Jn by_ a4;have:=zh hN;omega) (by have:=zh hM;unfold bU;omega)
 have hr:aw P ⟨some d,.call ⟨.builtin .append,#[x,y],#[t,t2]⟩,ty,pos,aft,g⟩ a w v' w':=by
  simp[aw,execOp,resolve,invoke,builtin,h.eval hx,h.eval hy,a0]
 exact hr.step ⟨m',h1,h2,Z⟩
theorem De {m:M}{s:List Int}(h:∀n∈s,0<=n/\n<256):Rl (aj .u8) m (s.map (Value.int .u8)) s:=by
 refine⟨by simp[aj],λi hi=>?_⟩;have J:=h s[i] (Zk hi);refine⟨?_,?_⟩
 ·simp only[aj,Nat.mul_one]
  rw[Zg (by simpa using hi)];simp
 ·unfold inR IntKind.wrap
  simp[IntKind.bits,IntKind.signed];omega
theorem mu {n:Int}(h:0<=n/\n<256):((UInt8.ofNat n.toNat).toNat:Int)=n:=by
 simp[UInt8.toNat_ofNat'];omega
def prt (l:List (Nat×Value))(ps:Array (Nat×Operand)):Option (List (Nat×Value)):=ps.toList.mapM λp=>(evl l p.2).map λv=>(p.1,v)
theorem nf (J:am δ n a l){ps:Array (Nat×Operand)}{vs:List (Nat×Value)}(h:prt l ps=some vs):(ps.map λp=>(p.1,a.eval p.2)).toList=vs:=by
 obtain⟨ps⟩:=ps;unfold prt at h;simp only at h
 have:∀(ps:List (Nat×Operand)) (vs:List (Nat×Value)),(ps.mapM λp=>(evl l p.2).map λv=>(p.1,v))=some vs->ps.map (λp=>(p.1,a.eval p.2))=vs:=by
  intro ps
  induction ps with
  |nil=>intro vs h;simp at h;simp[h]
  | cons p r ih=>
   intro vs h;simp only[Z1,Z2,Zs] at h;cases hx:evl l p.2 with
   |none=>simp[hx] at h
   | some v=>
    cases hr:r.mapM (λp=>(evl l p.2).map λv=>(p.1,v)) with
    |none=>simp[hx,hr] at h
    |some us=>
     simp[hx,hr] at h;subst h;simp[J.eval hx,ih us hr]
 simp[this ps vs h]
theorem jq {ps:Array (Nat×Operand)}{vs:List Value}{xs:List O}{z:Value}(hE:am δ n a l)(hS:S W0 m w L TL)(hp:prt l ps=some (num 0 vs))(hu:P.underlying t=some (.slice e))(hs:∀w,(sizeOf e).run P w= .ok k.sz w)(hz:∀w,(zeroValue e).run P w= .ok z w)(hv:RVl k m vs xs)
  {len:Nat} (a9:vs.length=len) (b3:Zo (len*k.sz) 16777216=true):
  aM P ⟨some d,.buildSlice t len ps,ty,pos,aft,g⟩ a w (λv' w'=>∃m',M.le m m'/\S W0 m' w' L ((k.sz,v')::TL)/\RV (kSl k) m' v' xs):=by
 have hR:=hv.cells;have b0:=hv.length;have b4:=zh b3;subst a9;have b2:=k.pos
 have b1:∃zs:List Value,zs.length=vs.length*k.sz/\(Instr.buildSlice t vs.length (ps.map λp=>(p.1,a.eval p.2))).run P w= .ok (.slice (some ⟨w.heap.size,0,none⟩) vs.length vs.length) (w.alloc (.cells (gK vs).toArray e)):=by
  refine⟨Qw (vs.length*k.sz) undef,by simp,?_⟩
  have a4:=λ(cs:Array Value) (a2:cs.size=vs.length*k.sz)=>by
   have:=rE (sz:=k.sz) vs 0 cs.toList hv.size (by simp[a2]);simpa[a2,Qx,Q8 (show cs.toList.length<=vs.length*k.sz by simp[a2])] using this
  simp only[Instr.buildSlice,Sem.run_bind,run_underlying hu,Result.andThen_ok,hs,nf hE hp];rw[if_neg (by omega)]
  by_cases h0:vs.length*k.sz=0
  ·simp only[h0,if_true,Sem.run_bind,Sem.run_pure,Result.andThen_ok]
   have:=a4 ((Array.range 0).map (λx=>(#[]:Array Value)[x%(#[]:Array Value).size]!)) (by simp[h0]);rw[this];simp[newRow]
  ·simp only[h0,if_false,Sem.run_bind,hz,Sem.run_pure,Result.andThen_ok]
   have:=a4 ((Array.range (vs.length*k.sz)).map (λx=>z.cells[x%z.cells.size]!)) (by simp);rw[this];simp[newRow]
 obtain⟨_,_,a6⟩:=b1
 have hr:aw P ⟨some d,.buildSlice t vs.length ps,ty,pos,aft,g⟩ a w (.slice (some ⟨w.heap.size,0,none⟩) vs.length vs.length) (w.alloc (.cells (gK vs).toArray e)):=by
  simp[aw,execOp,a6]
 obtain⟨a5,J⟩:=hS.allocM (gK vs) e;refine hr.step ⟨_,a5,?_,?_⟩
 ·refine⟨J.below,J.imm,J.own,J.nodup,λi e' W=>?_,λi j e1 e2 a1 a0 b5=>?_⟩
  ·cases i with
   |zero=>simp at W;subst W;exact⟨by simp,.inl rfl⟩
   |succ i=>exact J.tails i e' (by simpa using W)
  ·have a3:∀(i:Nat) (e':Nat×Value),TL[i]? =some e'->iz e'.2≠some w.heap.size:=λi e' W h=>by
    have:=tU (hS.tails i e' W) h;omega
   intro b h Z;cases i with
   |zero=>
    simp at a1;subst a1;cases j with
    |zero=>omega
    |succ j=>simp[iz] at h;subst h;exact a3 j e2 (by simpa using a0) Z
   |succ i=>
    cases j with
    |zero=>simp at a0;subst a0;simp[iz] at Z;subst Z;exact a3 i e1 (by simpa using a1) h
    |succ j=>exact J.apart i j e1 e2 (by simpa using a1) (by simpa using a0) (by omega) b h Z
 ·rw[b0]
  refine dw (Q5 _) (by unfold bU;have:=Zv vs.length b2;simp at this;omega) ⟨λ_=>rfl,?_⟩;exact nY (M.put_same _ _ _) (hR.mono a5) (by simp)
def mk {O:Type}(N:Nat)(n:Int)(z:O):Option (List O):=if 0<=n/\n<=(N:Int) then some (Qw n.toNat z) else none
theorem Hc {kk kc:IntKind}{i:Int}{xs:List O}{x0:O}{h:TypeInfo}{z:Value}(hE:am δ n a l)(hS:S W0 m w L TL)(hx:evl l x=some (.int kk i))(hy:evl l y=some (.int kc i))(hu:P.underlying t=some (.slice e))(hi:P.info? e=some h)(hz:h.zero=some z)(a5:h.size=k.sz)(a3:h.bytes=by_)(W:∀m,k.R m z.cells.toList x0)
  (J:mk N i x0=some xs) (hN:Zo (N*by_) 281474976710656=true) (hM:Zo N 281474976710656=true):
  aM P ⟨some d,.makeSlice t x y,ty,pos,aft,g⟩ a w (λv w'=>∃b cs,v= .slice (some ⟨b,0,none⟩) xs.length xs.length/\Rl k m cs xs/\S W0 m w' ((b,cs)::L) TL):=by
 unfold mk at J;split at J
 ·rename_i h0
  injection J with J
  subst J;have hb:=zh hN;have a6:=zh hM
  have a2:=run_make (P:=P) w t e h z hu hi hz kk kc i i h0.1 (Int.le_refl _) (by
   rw[a3];have h1:(by_:Int)*i<=by_*N:=Int.mul_le_mul_of_nonneg_left h0.2 (by omega);have h2:((N*by_:Nat):Int)=by_*N:=by rw[Int.natCast_mul,Int.mul_comm]
   omega) (by omega)
  have hr:aw P ⟨some d,.makeSlice t x y,ty,pos,aft,g⟩ a w (.slice (some ⟨w.heap.size,0,none⟩) i.toNat i.toNat) (w.alloc (.cells (madeCells z.cells (i.toNat*h.size)) e)):=by
   simp[aw,execOp,hE.eval hx,hE.eval hy,a2]
  have a0:=k.len (W m);have a9:=k.pos
  have a4:∀q:Nat,Rl k m (madeCells z.cells (q*k.sz)).toList (Qw q x0):=λq=>by
   refine⟨by simp[madeCells],λj hj=>?_⟩;simp only[Xg];have b0:j<q:=by simpa using hj
   have e1:((madeCells z.cells (q*k.sz)).toList.drop (j*k.sz)).take k.sz=z.cells.toList:=by
    apply Xc;intro r;rw[Z9,Qu]
    have h2:j*k.sz+k.sz<=q*k.sz:=by
     have:=Jn k.sz (show j+1<=q by omega);rw[Q6] at this;omega
    by_cases hr':r<k.sz
    ·rw[if_pos hr']
     have a1:z.cells.size=k.sz:=by simpa using a0
     have h3:(j*k.sz+r)%k.sz=r:=by rw[Xp,Nat.mul_add_mod];exact Xd hr'
     have h4:j*k.sz+r<q*k.sz:=by omega
     have Z:r<z.cells.size:=by omega
     have h5:z.cells[r]! =z.cells[r]:=getElem!_pos z.cells r Z;simp[madeCells,h4,a1,h3,h5,Array.getElem?_eq_getElem Z]
    ·rw[if_neg hr']
     have a1:z.cells.toList.length=k.sz:=a0;rw[Zt (by omega)]
   rw[e1];exact W m
  refine hr.step ⟨w.heap.size,_,by simp,a4 i.toNat,?_⟩;have:=hS.allocL (madeCells z.cells (i.toNat*k.sz)).toList e;rw[a5];simpa using this
 ·cases J
theorem Hd {v:Value}{xs:List Int}(hE:am δ n a l)(hS:S W0 m w L TL)(hx:evl l x=some v)(hs:P.underlying t=some (.slice e))(Z:P.underlying e=some (.int .u8))(h2:P.underlying t2=some .string)(hv:RV (kSl (aj .u8)) m v xs):
  aw P ⟨some d,.convert t t2 x,ty,pos,aft,g⟩ a w (.string (bts xs)) w:=by
 obtain⟨W,cap,rfl,h3,h4,h5⟩:=iL hv;cases W with
 |none=>
  simp only at h5;have:xs=[]:=Q0 (by omega);subst this;have h:=run_convert_bytes_nil (P:=P) w t e hs Z ([]:List Int).length cap t2 h2;simp only[aw,execOp,hE.eval hx,Sem.run_bind,h]
  rfl
 | some W=>
  obtain⟨b,o,sp⟩:=W;obtain⟨J,hR⟩:=h5;rcases Q9 cap with hc0|hc0
  ·have:xs=[]:=Q0 (by omega)
   subst this
   have h:(convert t t2 (.slice (some ⟨b,o,sp⟩) 0 cap)).run P w= .ok (.string (bts [])) w:=by
    rw[run_convert_bytes_string w t t2 e _ 0 cap hs Z h2];simp[Conv.bytesToString,loadCells,loadCellsFrom]
    rfl
   simp only[aw,execOp,hE.eval hx,Sem.run_bind,Z4,h]
   rfl
  replace J:=J hc0;simp only at J;subst J
  have a0:∀i,i<xs.length->w.cell? ⟨b,o+i,none⟩=some (.int .u8 (xs.getD i 0)):=λi hi=>by
   have h1:=hR i hi;simp only[aj,Nat.mul_one] at h1;have hA:=hS.atM (b:=b) (o:=o+i) (sz:=1) (by rw[h1.1];rfl) (by decide);rw[h1.1] at hA;have:=hA.cell (j:=0) rfl;simpa[List.getD,Qf hi] using this
  have h:=run_convert_bytes_arg (P:=P) w t e hs Z b o xs.length cap xs rfl a0 t2 h2;simp only[aw,execOp,hE.eval hx,Sem.run_bind,h]
  rfl
theorem wo {s u:List Int}(J:∀n∈s,0<=n/\n<256)(Z:∀n∈u,0<=n/\n<256):((bts s).toList==(bts u).toList)=decide (s=u):=by
 rw[ByteArray.toList_eq,ByteArray.toList_eq];show(s.map (λn=>UInt8.ofNat n.toNat)==u.map (λn=>UInt8.ofNat n.toNat))=_;rw[Xo,beq_iff_eq,decide_eq_true_iff];constructor
 ·intro h
  have W:=congrArg (List.map λc:UInt8=>(c.toNat:Int)) h;simp only[Zz] at W
  have key:∀s:List Int,(∀n∈s,0<=n/\n<256)->s.map ((λc:UInt8=>(c.toNat:Int))∘λn=>UInt8.ofNat n.toNat)=s:=λs J=>by
   conv=>rhs;rw[←List.map_id s]
   exact Z5 λn hn=>mu (J n hn)
  rw[key s J,key u Z] at W;exact W
 ·intro h;rw[h]
theorem ID {s u:List Int}(h:am δ n a l)(Z:evl l x=some (.string (bts s)))(J:evl l y=some (.string (bts u)))(W:∀n∈s,0<=n/\n<256)(hu:∀n∈u,0<=n/\n<256):
  aw P ⟨some d,.binOp .eql t x y t2,ty,pos,aft,g⟩ a w (.bool (decide (s=u))) w:=by
 simp[aw,execOp,h.eval Z,h.eval J,eqGuard_at_string,binOp_string_eql,←wo W hu]
theorem IE {s u:List Int}(h:am δ n a l)(Z:evl l x=some (.string (bts s)))(J:evl l y=some (.string (bts u)))(W:∀n∈s,0<=n/\n<256)(hu:∀n∈u,0<=n/\n<256):
  aw P ⟨some d,.binOp .neq t x y t2,ty,pos,aft,g⟩ a w (.bool (!decide (s=u))) w:=by
 simp[aw,execOp,h.eval Z,h.eval J,eqGuard_at_string,binOp_string_neq,←wo W hu]
def ltB:List Int->List Int->Bool
 |_,[]=>false
 |[],_::_=>true
 |a::x,b::y=>decide (a<b)||(a==b&&ltB x y)
theorem He:∀{s u:List Int},(∀n∈s,0<=n/\n<256)->(∀n∈u,0<=n/\n<256)->Op.bytesLess (bts s).toList (bts u).toList=ltB s u:=by
 intro s u Z hu;rw[ByteArray.toList_eq,ByteArray.toList_eq];show Op.bytesLess (s.map (λn=>UInt8.ofNat n.toNat)) (u.map (λn=>UInt8.ofNat n.toNat))=_
 induction s generalizing u with
 |nil=>cases u<;>simp[Op.bytesLess,ltB]
 | cons a x ih=>
  cases u with
  |nil=>simp[Op.bytesLess,ltB]
  | cons b y=>
   have ha:=Z a (by simp);have W:=hu b (by simp);have a0:=ih (u:=y) (λn J=>Z n (by simp[J])) (λn J=>hu n (by simp[J]));simp only[Qy,Op.bytesLess,ltB,a0]
   have h1:decide (UInt8.ofNat a.toNat<UInt8.ofNat b.toNat)=decide (a<b):=by
    rw[decide_eq_decide,UInt8.lt_iff_toNat_lt];have e1:=mu ha;have e2:=mu W;omega
   have h2:(UInt8.ofNat a.toNat==UInt8.ofNat b.toNat)=(a==b):=by
    rw[Xo,beq_iff_eq,beq_iff_eq];constructor
    ·intro h
     have:=congrArg (λc:UInt8=>(c.toNat:Int)) h;simp only[mu ha,mu W] at this;exact this
    ·intro h;rw[h]
   rw[h1,h2]
theorem IF {s u:List Int}(h:am δ n a l)(Z:evl l x=some (.string (bts s)))(J:evl l y=some (.string (bts u)))(W:∀n∈s,0<=n/\n<256)(hu:∀n∈u,0<=n/\n<256):
  aw P ⟨some d,.binOp .lss t x y t2,ty,pos,aft,g⟩ a w (.bool (ltB s u)) w:=by
 simp[aw,execOp,h.eval Z,h.eval J,eqGuard_at_string,binOp_string_lss,He W hu]
theorem az {f:FuncId}{xs:Array Operand}{J:Array TypeId}{vs:List Value}{R:Value->World->Prop}(hE:am δ n a l)(ha:qt l xs=some vs)(a0:∀vs w,(callFunc f vs).run P w= .ok (.enter f vs) w)(Z:Calls P f vs.toArray w (Ret R)):
  aM P ⟨some d,.call ⟨.value (.func f),xs,J⟩,ty,pos,aft,g⟩ a w R:=by
 intro ro Kk Q hk
 have W:(execOp a.eval ⟨some d,.call ⟨.value (.func f),xs,J⟩,ty,pos,aft,g⟩).run P w= .ok (.enter f vs.toArray) w:=by
  simp[execOp,resolve,Act.eval,Deferred.ofValue,invoke,gW hE ha,a0]
 refine pO W (Z.mono λe w' h=>?_);cases e with
 |returned v=>exact hk v w' h
 |panicked ch=>exact h.elim
 |outgrown=>exact h.elim
end
open Go.RowKit (Below)
inductive o9 (P:Program)(a:Act)(w:World):List ResultVar->List Value->Prop
  |nil:o9 P a w [] []
  |cons {r:ResultVar} {rs:List ResultVar} {v:Value} {vs:List Value} (h:(match r with| .tmp t=>(pure (a.tmps.getD t undef):Sem Value)| .cell b t=>do loadVar t (←asAddr (a.tmps.getD b undef))).run P w= .ok v w) (k:o9 P a w rs vs):o9 P a w (r::rs) (v::vs)
section
variable {δ:List Nat}{ro:Option Nat}{P:Program}{W0:Bse}{m:M}{L:List (Nat×List Value)}{TL:List (Nat×Value)}{n:Nat}{a:Act}{l:List (Nat×Value)}{w:World}
theorem o9.tmp {t:Nat}{rs:List ResultVar}{v:Value}{vs:List Value}(J:am δ n a l)(h:lk l t=some v)(k:o9 P a w rs vs):o9 P a w (.tmp t::rs) (v::vs):=
  .cons (by simp only;rw[J.at_ t v h];rfl) k
theorem o9.cell {O:Type}{k:Kd O}{b c t i o:Nat}{cs:List Value}{xx:O}{rs:List ResultVar}{vs:List Value}(hE:am δ n a l)(hS:S W0 m w L TL)(Z:cI P t k)(h:lk l c=some (.pointer (some ⟨b,o,none⟩)))(W:L[i]? =some (b,cs))(J:k.R m ((cs.drop o).take k.sz) xx)(kk:o9 P a w rs vs):
    o9 P a w (.cell c t::rs) (k.val ((cs.drop o).take k.sz)::vs):=
  .cons (by
    have hA:At w b o ((cs.drop o).take k.sz):=hS.atL W (by rw[k.len J]) (by rw[k.len J];exact k.pos);simp only;rw[hE.at_ c _ h]
    simp[asAddr,ib Z J hA]) kk
theorem yJ (rs:List ResultVar)(vs:List Value)(h:o9 P a w rs vs):∀(f:ResultVar->Sem Value),(∀r,f r=(match r with| .tmp t=>(pure (a.tmps.getD t undef):Sem Value)| .cell b t=>do loadVar t (←asAddr (a.tmps.getD b undef))))->(rs.mapM f).run P w= .ok vs w:=by
  intro f J
  induction h with
  |nil=>simp
  |cons h1 _ ih=>rw[←J] at h1;simp[Z1,h1,ih]
theorem Fin.mk {fn:Func}{rs:List ResultVar}{vs:List Value}{R:Value->World->Prop}(Z:Env n a l)(W:fn.results.toList=rs)(h:o9 P a w rs vs)(J:R (tup vs) w):Fin P fn R a w:=by
  refine⟨_,?_,Z.defers,J⟩;unfold results;rw[Array.mapM_eq_mapM_toList];simp only[Sem.run_bind,Sem.run_map];rw[W,yJ rs vs h _ (λr=>by cases r<;>rfl)];simp only[Result.andThen_ok,Sem.run_pure];congr 1
  match vs with
  |[]=>rfl
  |[v]=>rfl
  |v::u::r=>simp[tup]
theorem aK {k:IntKind}{v:Value}{x:Int}(h:RV (aj k) m v x):v= .int k x/\inR k x:=by
  obtain⟨cs,⟨rfl,J⟩,rfl⟩:=h;exact⟨rfl,J⟩
theorem dU {v:Value}{x:Bool}(h:RV cj m v x):v= .bool x:=by
  obtain⟨cs,rfl,rfl⟩:=h
  rfl
theorem yK {v:Value}{x:List Int}(h:RV oy m v x):v= .string (bts x)/\(∀n∈x,0<=n/\n<256)/\x.length<=bU:=by
  obtain⟨cs,⟨rfl,J⟩,rfl⟩:=h;exact⟨rfl,J⟩
theorem au {k:IntKind}{x:Int}(h:inR k x):RV (aj k) m (.int k x) x:=⟨_,⟨rfl,h⟩,rfl⟩
theorem dA {x:Bool}:RV cj m (.bool x) x:=⟨_,rfl,rfl⟩
theorem xi {x:List Int}(h:∀n∈x,0<=n/\n<256)(J:x.length<=bU):RV oy m (.string (bts x)) x:=⟨_,⟨rfl,h,J⟩,rfl⟩
theorem c8 {O:Type}{k:Kd O}:RV (kSl k) m (.slice none 0 0) []:=dw (a:=none) (by simp) (by simp) rfl
theorem wq {O:Type}{k:Kd O}{cs:List Value}{x:O}(h:k.R m cs x):RV k m (k.val cs) x:=⟨cs,h,rfl⟩
theorem E7 {v:Value}{xs:List Int}(h:RV (kSl (aj .u8)) m v xs):∀n∈xs,0<=n/\n<256:=by
  obtain⟨J,cap,rfl,h3,h4,W⟩:=iL h;intro n Z;obtain⟨i,hi,rfl⟩:=List.mem_iff_getElem.1 Z;cases J with
  |none=>simp only at W;omega
  | some J=>
    have:=(W.2 i hi).2;unfold inR IntKind.wrap at this;simp[IntKind.bits,IntKind.signed] at this;omega
theorem ic {O:Type}{k:Kd O}{v:Value}{xs:List O}(h:RV (kSl k) m v xs):xs.length<=bU:=by
  obtain⟨ad,cap,rfl,W,J,Z⟩:=iL h;exact J
def Sub (l:List (Nat×Value)):List (Nat×Value)->Prop
  |[]=>True
  |(i,v)::r=>lk l i=some v/\Sub l r
theorem Sub.all:∀{l J:List (Nat×Value)},Sub l J->∀e∈J,lk l e.1=some e.2
  |_,[],_,e,h=>by simp at h
  | l,(i,v)::r,h,e,he=>by
    rcases Xq.1 he with rfl|he
    ·exact h.1
    ·exact Sub.all h.2 e he
def aT (o:Oper):List Nat:=(o.after.toList.filter λe=>Region.binds .any e).map (·.on)
def bW (ops:Array Oper)(i:Nat):Option Nat:=(ops[i]?).bind (·.dst)
def kW (os:List Oper):Bool:=os.zipIdx.all λp=>(aT p.1).all λe=>Qz e p.2
theorem iM {os:List Oper}(h:kW os=true){i:Nat}{o:Oper}(hi:os[i]? =some o):∀e∈aT o,e<i:=by
  intro e J;have W:=Q7.1 h (o,i) (by rw[Qt];simp[hi]);exact zh (Q7.1 W e J)
theorem Od {os:List Oper}{a0:Array Bool}{i:Nat}:i∈Region.ready .any os.toArray a0↔ ∃o,os[i]? =some o/\a0.getD i true=false/\∀e∈aT o,a0.getD e false=true:=by
  unfold Region.ready;simp only[Zq,Xe,List.size_toArray,Qg,Qs];constructor
  · rintro ⟨h1,h2,W⟩
    obtain⟨o,J⟩:∃o,os[i]? =some o:=⟨os[i],by simp[h1]⟩
    refine⟨o,J,h2,λe he=>?_⟩;simp only[Zb,J,Qn,Option.getD_some] at W;rw[Array.all_eq_true_iff_forall_mem] at W;unfold aT at he;simp only[X3,Zq,Array.mem_toList_iff] at he;obtain⟨h,⟨Z,hb⟩,rfl⟩:=he;have:=W h Z;simpa[hb] using this
  · rintro ⟨o,J,h2,W⟩
    refine⟨(zw.1 J).1,h2,?_⟩;simp only[Zb,J,Qn,Option.getD_some];rw[Array.all_eq_true_iff_forall_mem];intro h Z;cases hb:Region.binds .any h with
    |false=>simp
    | true=>
      have:=W h.on (by unfold aT;simp only[X3,Zq,Array.mem_toList_iff];exact⟨h,⟨Z,hb⟩,rfl⟩);simp[this]
def cov (os:List Oper):Nat->List Nat->List Nat
  |0,js=>js
  |f+1,js=>js++cov os f (js.flatMap λj=>match os[j]? with|some o=>aT o|none=>[])
def lJ (os:List Oper)(k:Nat):Bool:=
  (match os[k]? with|some o=>(let c:=cov os 12 (aT o);(Qc k).all λj=>c.any λe=>Zm j e)|none=>true)&&
  (os.zipIdx.all λp=>Zo p.2 k||(aT p.1).any λe=>Zm (e+1) p.2)
def upd (s:Nat->Bool)(i:Nat):Nat->Bool:=λj=>if j=i then true else s j
theorem yL {os:List Oper} {id k:Nat} {N Rt:Act->World->Prop} {X:List (Nat×(Act->World->Prop))} (hm:P.follows .mixedOrders=true) (b7:kW os=true) (a9:lJ os k=true) (J:(Nat->Bool)->Act->World->Prop)
    (h0:J (λ_=>false) a w.drew)
    (step:∀(i:Nat) (o:Oper),os[i]? =some o->i<k->∀s a w,J s a w->s i=false->(∀e∈aT o,s e=true)->(∀(j:Nat) (o':Oper),os[j]? =some o'->s j=true->∀e∈aT o',s e=true)->
      if Region.wanted o (yielded os.toArray a.tmps)=true then aM P o a w (λv w'=>J (upd s i) (a.put o.dst v) w') else J (upd s i) (a.put o.dst undef) w)
    (c0:∀s a w,J s a w->(∀j,j<k->j<os.length->s j=true)->wpL ro P os.toArray (mkQ N X Rt) (os.drop k) a w):K ro P (.region id os.toArray true) N X Rt a w:=by
  refine wpIn_region_any hm ?_;unfold lJ at a9;rw[Qg] at a9
  have d0:∀(s:Nat->Bool),(∀(j:Nat) (o':Oper),os[j]? =some o'->s j=true->∀e∈aT o',s e=true)->∀f js,(∀e∈js,s e=true)->∀e∈cov os f js,s e=true:=by
    intro s hc f
    induction f with
    |zero=>exact λjs h=>h
    | succ f ih=>
      intro js h e he;rcases Zf.1 he with he|he
      ·exact h e he
      · refine ih _ (λe' c5=>?_) e he
        obtain⟨j,Z,a1⟩:=List.mem_flatMap.1 c5;cases ho:os[j]? with
        |none=>simp[ho] at a1
        |some o'=>simp[ho] at a1;exact hc j o' ho (h j Z) e' a1
  have a4:∀(W:Array Bool),W.size=os.length->∀j,j<os.length->W.getD j true=W.getD j false:=λW a0 j Z=>by
    simp[Array.getD,show j<W.size by omega]
  have get:∀(W:Array Bool) i j q,i<W.size->(W.setIfInBounds i true).getD j q=if j=i then true else W.getD j q:=λW i j q hi=>by
    simp only[Array.getD_eq_getD_getElem?,Array.getElem?_setIfInBounds]
    by_cases e:i=j
    ·subst e;simp[hi]
    ·simp[e,show ¬ j=i from λx=>e x.symm]
  have c2:∀(s:Nat->Bool) i o,os[i]? =some o->(∀e∈aT o,s e=true)->(∀(j:Nat) (o':Oper),os[j]? =some o'->s j=true->∀e∈aT o',s e=true)->(∀(j:Nat) (o':Oper),os[j]? =some o'->upd s i j=true->∀e∈aT o',upd s i e=true):=by
    intro s i o ho hp hc j o' Z hs e he;unfold upd at*
    by_cases e1:e=i
    ·simp[e1]
    · rw[if_neg e1]
      by_cases e2:j=i
      ·subst e2;rw[ho] at Z;injection Z with Z;subst Z;exact hp e he
      ·rw[if_neg e2] at hs;exact hc j o' Z hs e he
  have e0:∀(a2 i:Nat) (W:Array Bool) (a:Act) (w:World),W.size=os.length->k<=i->i+a2=os.length->(∀j,j<i->j<os.length->W.getD j false=true)->(∀j,i<=j->W.getD j false=false)->
      wpL ro P os.toArray (mkQ N X Rt) (os.drop i) a w->wpAnyIn (Fr ro) 0 P .any os.toArray (mkQ N X Rt) a2 W a w:=by
    intro a2
    induction a2 with
    | zero=>
      intro i W a w a0 c7 d1 a6 b3 h;refine⟨?_,?_⟩
      · rw[Z0]
        intro j Z;obtain⟨o,ho,h1,_⟩:=Od.1 Z;have a3:=(zw.1 ho).1;rw[a4 W a0 j a3,a6 j (by omega) a3] at h1;cases h1
      · rw[Q8 (by omega)] at h
        exact h
    | succ a2 ih=>
      intro i W a w a0 c7 d1 a6 b3 h;have hi:i<os.length:=by omega
      have hr:∀j,j∈Region.ready .any os.toArray W->j=i:=by
        intro j Z;obtain⟨o,ho,h1,h2⟩:=Od.1 Z;have a3:=(zw.1 ho).1;rw[a4 W a0 j a3] at h1;rcases Nat.lt_trichotomy j i with hji|hji|hji
        ·rw[a6 j hji a3] at h1;cases h1
        ·exact hji
        · exfalso
          have h3:=Q7.1 a9.2 (o,j) (by rw[Qt];simp[ho]);simp only[Z6] at h3;rcases h3 with h3|h3
          ·have:=zh h3;omega
          · obtain⟨e,he,hb⟩:=Zw.1 h3
            have b6:=Q3 hb;have:=h2 e he;rw[b3 e (by omega)] at this;cases this
      have b4:os[i]? =some os[i]:=by simp[hi]
      have b1:i∈Region.ready .any os.toArray W:=Od.2 ⟨os[i],b4,by rw[a4 W a0 i hi];exact b3 i (Q5 _),λe he=>by
        have:=iM b7 b4 e he
        exact a6 e this (by omega)⟩
      refine⟨λb5=>by rw[b5] at b1;simp at b1,λj Z=>?_⟩;have:=hr j Z;subst this;have e6:(W.setIfInBounds j true).size=os.length:=by simpa using a0
      rw[Zg hi] at h;unfold wpL wpListIn at h;unfold wpOpIn;simp only[Zb,b4]
      have next:∀a w,wpL ro P os.toArray (mkQ N X Rt) (os.drop (j+1)) a w->wpAnyIn (Fr ro) 0 P .any os.toArray (mkQ N X Rt) a2 (W.setIfInBounds j true) a w:=λa w hh=>
        ih (j+1) _ a w e6 (by omega) (by omega) (λq hq c1=>by rw[get _ _ _ _ (by omega)];split;rfl;exact a6 q (by omega) c1) (λq hq=>by rw[get _ _ _ _ (by omega)];rw[if_neg (by omega)];exact b3 q (by omega)) hh
      split
      · rename_i hw
        rw[if_pos hw] at h;exact Oper.wpIn_mono next h
      · rename_i hw
        rw[if_neg hw] at h;exact⟨λ_ _=>trivial,next _ _ h.2⟩
  have key: ∀(a2:Nat) (W:Array Bool) (a:Act) (w:World),W.size=os.length->J (λj=>W.getD j false) a w->
      (∀(j:Nat) (o':Oper),os[j]? =some o'->W.getD j false=true->∀e∈aT o',W.getD e false=true)->(∀j,k<=j->W.getD j false=false)->
      ((Qc os.length).filter (λj=> !W.getD j true)).length=a2->
      wpAnyIn (Fr ro) 0 P .any os.toArray (mkQ N X Rt) a2 W a w:=by
    intro a2
    induction a2 with
    | zero=>
      intro W a w a0 hJ hc hk a5
      have all:∀j,j<os.length->W.getD j false=true:=by
        intro j Z;have h0:=Q0 a5;have:=Z0.1 h0 j;simp only[Zq,Xe,Qs,not_and] at this;have:=this Z;rw[a4 W a0 j Z] at this;simpa using this
      have e5:os.length<=k:=by
        rcases Zh k os.length with h|h
        ·have:=all k h;rw[hk k (Q5 _)] at this;cases this
        ·exact h
      have:=c0 _ a w hJ (λj _ Z=>all j Z);rw[Q8 e5] at this;refine⟨?_,this⟩;rw[Z0];intro j Z;obtain⟨o,ho,h1,_⟩:=Od.1 Z;have a3:=(zw.1 ho).1;rw[a4 W a0 j a3,all j a3] at h1;cases h1
    | succ a2   ih=>
      intro W a w a0 hJ hc hk a5
      by_cases hpre:∀j,j<k->j<os.length->W.getD j false=true
      · have hf:=c0 _ a w hJ hpre
        have e9:k<os.length:=by
          rcases Zh k os.length with h|h
          ·exact h
          · exfalso
            have:(Qc os.length).filter (λj=> !W.getD j true)=[]:=by
              rw[Xh];intro j Z;have a1:j<os.length:=by simpa using Z
              rw[a4 W a0 j a1,hpre j (by omega) a1];simp
            rw[this] at a5;simp at a5
        have e8:a2+1=os.length - k:=by
          have e1:(Qc os.length).filter (λj=> !W.getD j true)=(Zx k (os.length - k)):=by
            have e2:Qc os.length=Zx 0 k++Zx k (os.length - k):=by
              rw[List.range_eq_range'];have:=List.range'_append (s:=0) (m:=k) (n:=os.length - k) (step:=1);simp only[Nat.one_mul,Zi] at this;rw[this];congr 1;omega
            rw[e2,List.filter_append]
            have e3:(Zx 0 k).filter (λj=> !W.getD j true)=[]:=by
              rw[Xh];intro j Z;have a1:j<k:=by simpa[List.mem_range'] using Z
              rw[a4 W a0 j (by omega),hpre j a1 (by omega)];simp
            have e4:(Zx k (os.length - k)).filter (λj=> !W.getD j true)=Zx k (os.length - k):=by
              rw[List.filter_eq_self];intro j Z
              have a1:k<=j/\j<os.length:=by
                have:=List.mem_range'.1 Z;obtain⟨q,hq,rfl⟩:=this;omega
              rw[a4 W a0 j a1.2,hk j a1.1]
              rfl
            rw[e3,e4,Qp]
          rw[e1] at a5;simpa using a5.symm
        exact e0 (a2+1) k W a w a0 (Q5 _) (by omega) (λj Z a1=>hpre j Z a1) hk hf
      · have c6:∀i,i∈Region.ready .any os.toArray W->i<k:=by
          intro i hi;obtain⟨o,ho,h1,h2⟩:=Od.1 hi;have a3:=(zw.1 ho).1;rcases Zh i k with h|h
          ·exact h
          · exfalso
            rcases Nat.lt_or_eq_of_le h with h|h
            · have h3:=Q7.1 a9.2 (o,i) (by rw[Qt];simp[ho])
              simp only[Z6] at h3;rcases h3 with h3|h3
              ·have:=zh h3;omega
              · obtain⟨e,he,hb⟩:=Zw.1 h3
                have b6:=Q3 hb;have:=h2 e he;rw[hk e (by omega)] at this;cases this
            · subst h
              have h3:=a9.1;rw[ho] at h3;simp only at h3
              exact hpre λj Z a1=>by
                have:=Q7.1 h3 j (by simpa using Z);obtain⟨e,he,hb⟩:=Zw.1 this;have b6:=Q3 hb;subst b6;exact d0 (λj=>W.getD j false) hc 12 _ h2 j he
        have c3:Region.ready .any os.toArray W≠[]:=by
          intro b5;apply hpre;intro j
          induction j using Nat.strongRecOn with
          | _ j ihj=>
            intro Z a1;cases hb:W.getD j false with
            |true=>rfl
            | false=>
              exfalso
              have:j∈Region.ready .any os.toArray W:=Od.2 ⟨os[j],by simp[a1],by rw[a4 W a0 j a1];exact hb,λe he=>by
                have:=iM b7 (i:=j) (o:=os[j]) (by simp[a1]) e he
                exact ihj e this (by omega) (by omega)⟩
              rw[b5] at this;simp at this
        refine⟨λh=>absurd h c3,λi hi=>?_⟩;obtain⟨o,ho,h1,h2⟩:=Od.1 hi;have a3:=(zw.1 ho).1;have e7:=c6 i hi;rw[a4 W a0 i a3] at h1;have b2:=step i o ho e7 _ a w hJ h1 h2 hc;have c4:(W.setIfInBounds i true).size=os.length:=by simpa using a0
        have hu:(λj=>(W.setIfInBounds i true).getD j false)=upd (λj=>W.getD j false) i:=by
          funext j;rw[get _ _ _ _ (by omega)]
          rfl
        have d2:((Qc os.length).filter (λj=> !(W.setIfInBounds i true).getD j true)).length=a2:=by
          have e1:(Qc os.length).filter (λj=> !(W.setIfInBounds i true).getD j true)=((Qc os.length).filter (λj=> !W.getD j true)).erase i:=by
            rw[List.Nodup.erase_eq_filter ((List.nodup_range).filter _),List.filter_filter];apply List.filter_congr;intro j Z;rw[get _ _ _ _ (by omega)]
            by_cases e:j=i<;>simp[e]
          have b1:i∈(Qc os.length).filter (λj=> !W.getD j true):=by simp only[Zq,Xe,Qs];exact⟨a3,by rw[a4 W a0 i a3];exact h1⟩
          rw[e1,List.length_erase_of_mem b1,a5]
          rfl
        have next:∀a w,J (upd (λj=>W.getD j false) i) a w->wpAnyIn (Fr ro) 0 P .any os.toArray (mkQ N X Rt) a2 (W.setIfInBounds i true) a w:=λa w hh=>
          ih _ a w c4 (by rw[hu];exact hh) (by
            have:=c2 _ i o ho h2 hc;rw[←hu] at this
            exact this) (λj Z=>by rw[get _ _ _ _ (by omega)];rw[if_neg (by omega)];exact hk j Z) d2
        unfold wpOpIn;simp only[Zb,ho];split
        · rename_i hw
          rw[if_pos hw] at b2;exact b2 _ _ _ λv w' hh=>next _ _ hh
        · rename_i hw
          rw[if_neg hw] at b2;exact⟨λ_ _=>trivial,next _ _ b2⟩
  have b0:∀j q,(Array.replicate os.toArray.size false).getD j q=if j<os.length then false else q:=λj q=>by
    simp[Array.getD]
  refine key _ _ a _ (by simp) ?_ (λj o' ho Z=>by rw[b0] at Z;split at Z<;>cases Z) (λj Z=>by rw[b0];split<;>rfl) ?_
  · have:(λj=>(Array.replicate os.toArray.size false).getD j false)=λ_=>false:=by
      funext j;rw[b0];split<;>rfl
    rw[this];exact h0
  · rw[List.filter_eq_self.2]
    ·simp
    · intro j Z
      rw[b0,if_pos (by simpa using Z)]
      rfl
end
open Go.RowKit (Below)
section
variable {δ:List Nat}{ro:Option Nat}{O β γ:Type}{m:M}
theorem kI {k:Kd O}:Fld k k 0 id:=⟨by omega,λm cs x h=>aJ h⟩
theorem eQ {d:Kd O}{e:Kd β}:Fld (ci d e) d 0 Prod.fst:=⟨by show 0+d.sz<=d.sz+e.sz;omega,λm cs x h=>by
 rw[Ql];exact h.1⟩
theorem bX {d:Kd O}{e:Kd β}{k':Kd γ}{off:Nat}{f:β->γ}(h:Fld e k' off f):Fld (ci d e) k' (d.sz+off) (λx=>f x.2):=
 ⟨by show d.sz+off+k'.sz<=d.sz+e.sz;have:=h.1;omega,λm cs x J=>by
  have:=h.2 m _ _ J.2;rw[Qe] at this
  exact this⟩
theorem cQ {g:β->O}{d:Kd O}{k':Kd γ}{off:Nat}{f:O->γ}(h:Fld d k' off f):Fld (o8 g d) k' off (λx=>f (g x)):=⟨h.1,λm cs x J=>h.2 m cs (g x) J⟩
theorem Df {k:Kd O}{k':Kd β}{W:Kd γ}{o o':Nat}{f:O->β}{g:β->γ}(h:Fld k k' o f)(J:Fld k' W o' g):Fld k W (o+o') (λx=>g (f x)):=
 ⟨by have:=h.1;have:=J.1;omega,λm cs x Z=>J.R_drop (h.2 m cs x Z)⟩
def StF (k:Kd O)(k':Kd β)(off:Nat)(s:O->β->O):Prop:=off+k'.sz<=k.sz/\∀m cs vs x y,k.R m cs x->k'.R m vs y->k.R m (cs.take off++vs++cs.drop (off+k'.sz)) (s x y)
theorem bO {k:Kd O}:StF k k 0 (λ_ y=>y):=⟨by omega,λm cs vs x y J h=>by
 have W:=k.len J;rw[Qx,Qp,Q8 (by omega),List.append_nil]
 exact h⟩
theorem fG {d:Kd O}{e:Kd β}:StF (ci d e) d 0 (λx y=>(y,x.2)):=⟨by show 0+d.sz<=d.sz+e.sz;omega,λm cs vs x y J h=>by
 have W:=d.len h;have Z:=(ci d e).len J;refine⟨?_,?_⟩
 ·simp only[Qx,Qp]
  rw[Q2 (by omega),Q1 (by omega)];exact h
 ·simp only[Qx,Qp,Zi]
  rw[Z7,Q8 (by omega),Qp,W,Nat.sub_self,Ql]
  exact J.2⟩
theorem bL {d:Kd O}{e:Kd β}{k':Kd γ}{off:Nat}{s:β->γ->β}(h:StF e k' off s):StF (ci d e) k' (d.sz+off) (λx y=>(x.1,s x.2 y)):=
 ⟨by show d.sz+off+k'.sz<=d.sz+e.sz;have:=h.1;omega,λm cs vs x y J W=>by
  have h2:=(ci d e).len J;have a0:(ci d e).sz=d.sz+e.sz:=rfl;have Z:=h.1;have key:=h.2 m _ vs _ y J.2 W;refine⟨?_,?_⟩
  ·have:(cs.take (d.sz+off)++vs++cs.drop (d.sz+off+k'.sz)).take d.sz=cs.take d.sz:=by
    rw[Qb,Q2 (by simp;omega),Qa,Q4 (by omega)]
   rw[this];exact J.1
  ·have:(cs.take (d.sz+off)++vs++cs.drop (d.sz+off+k'.sz)).drop d.sz=(cs.drop d.sz).take off++vs++(cs.drop d.sz).drop (off+k'.sz):=by
    rw[Qb,Qj (by simp;omega),Qd,show d.sz+off - d.sz=off by omega,Qe,Qb];congr 3;omega
   rw[this];exact key⟩
theorem cS {g:β->O}{d:Kd O}{k':Kd γ}{off:Nat}{s:O->γ->O}{s':β->γ->β}(h:StF d k' off s)(W:∀x y,g (s' x y)=s (g x) y):StF (o8 g d) k' off s':=
 ⟨h.1,λm cs vs x y Z J=>by
  show d.R m _ (g (s' x y));rw[W]
  exact h.2 m cs vs (g x) y Z J⟩
theorem yM {k:Kd O}{k':Kd β}{J:Kd γ}{o o':Nat}{f:O->β}{s:O->β->O}{s':β->γ->β}(hf:Fld k k' o f)(h:StF k k' o s)(W:StF k' J o' s'):StF k J (o+o') (λx y=>s x (s' (f x) y)):=
 ⟨by have:=h.1;have:=W.1;omega,λm cs vs x y Z hy=>by
  have h1:=W.2 m _ vs _ y (hf.2 m cs x Z) hy;have h2:=h.2 m cs _ x _ Z h1;have hl:=k.len Z;have hb:=hf.1;have a0:=W.1
  have e1:cs.take o++(((cs.drop o).take k'.sz).take o'++vs++((cs.drop o).take k'.sz).drop (o'+J.sz))++cs.drop (o+k'.sz)=cs.take (o+o')++vs++cs.drop (o+o'+J.sz):=by
   rw[Qa,Q4 (by omega),Qd,Qe];have e2:cs.take (o+o')=cs.take o++(cs.drop o).take o':=by rw[List.take_add]
   have e3:cs.drop (o+(o'+J.sz))=(cs.drop (o+(o'+J.sz))).take (k'.sz - (o'+J.sz))++cs.drop (o+k'.sz):=by
    conv=>lhs;rw[←Qh (k'.sz - (o'+J.sz)) (cs.drop (o+(o'+J.sz)))]
    rw[Qe];congr 2;omega
   rw[e2,show o+o'+J.sz=o+(o'+J.sz) by omega]
   conv=>rhs;rw[e3]
   simp only[Qb]
  rw[e1] at h2
  exact h2⟩
inductive tV (places:Nat->Option (Nat×Nat))(k:Kd O)(m:M):List (Nat×Value)->O->O->Prop
 |nil {x:O}:tV places k m [] x x
 |cons {β:Type} {k':Kd β} {i off:Nat} {v:Value} {ps:List (Nat×Value)} {s:O->β->O} {x z:O} {y:β} (hp:places i=some (off,k'.sz)) (hs:StF k k' off s) (hv:RV k' m v y) (rest:tV places k m ps (s x y) z):tV places k m ((i,v)::ps) x z
theorem tV.fill {a0:Nat->Option (Nat×Nat)}{k:Kd O}{ps:List (Nat×Value)}{x z:O}(h:tV a0 k m ps x z):∀cs:List Value,k.R m cs x->∃cs':List Value,Instr.fill a0 cs.toArray ps=some cs'.toArray/\k.R m cs' z:=by
 induction h with
 |nil=>exact λcs W=>⟨cs,rfl,W⟩
 | @cons β k' i off v ps s x z y hp hs hv _ ih=>
  intro cs W;obtain⟨vs,J,rfl⟩:=hv;have Z:=k'.len J;have a3:=k.len W;have a1:=hs.1;obtain⟨cs',h1,h2⟩:=ih _ (hs.2 m cs vs x y W J);refine⟨cs',?_,h2⟩
  have a2:((k'.val vs).cells.zipIdx).foldl (λ(cs:Array Value) (p:Value×Nat)=>cs.setIfInBounds (off+p.2) p.1) cs.toArray=(cs.take off++vs++cs.drop (off+k'.sz)).toArray:=by
   have:=sT off vs 0 cs (by omega);simp only[Qm,Z] at this;rw[←this,k'.val_cells J,←Array.foldl_toList,Array.toList_zipIdx]
  simp only[Instr.fill,hp];rw[if_neg (by rw[k'.val_cells J];simp[Z];omega)];rw[←h1];congr 1
end
section
variable {δ:List Nat}{ro:Option Nat}{P:Program}{W0:Bse}{m:M}{L:List (Nat×List Value)}{TL:List (Nat×Value)}{n:Nat}{a:Act}{l:List (Nat×Value)}{w:World}{ty t:TypeId}{pos:String}{aft:Array Edge}{g:Option (Nat×Bool)}{x y:Operand}{d:Nat}{O:Type}{k:Kd O}
theorem rF {ps:Array (Nat×Operand)}{pv:List (Nat×Value)}{h:Array Field}{pl:List (Nat×Nat)}{z:Value}{x0 xx:O}(hE:am δ n a l)(hp:prt l ps=some pv)(hu:P.underlying t=some (.struct h))(a1:h.toList.mapM (λf=>(P.info? f.type).map λi=>(f.offset,i.size))=some pl)
  (J:∀w,(zeroValue t).run P w= .ok z w) (a3:∀m,k.R m z.cells.toList x0) (ha:k.agg=true) (hP:tV (pl.toArray[·]?) k m pv x0 xx):
  aM P ⟨some d,.build t ps,ty,pos,aft,g⟩ a w (λv w'=>w=w'/\RV k m v xx):=by
 obtain⟨cs,hf,W⟩:=hP.fill _ (a3 m);have a2:(ps.map λp=>(p.1,a.eval p.2)).toList=pv:=nf hE hp
 have a0:(h.mapM λf:Field=>(do pure (f.offset,←sizeOf f.type):Sem (Nat×Nat))).run P w= .ok pl.toArray w:=by
  rw[Array.mapM_eq_mapM_toList];have:=run_places (P:=P) w h.toList pl a1;simp only[Sem.run_map]
  have e1:(h.toList.mapM λf:Field=>(do pure (f.offset,←sizeOf f.type):Sem (Nat×Nat))).run P w= .ok pl w:=by
   have h2:(λf:Field=>(do pure (f.offset,←sizeOf f.type):Sem (Nat×Nat)))=(λf:Field=>Prod.mk f.offset<$>sizeOf f.type):=by
    funext f;rfl
   rw[h2];exact this
  rw[e1]
  rfl
 have Z:(Instr.build t (ps.map λp=>(p.1,a.eval p.2))).run P w= .ok (.agg cs.toArray) w:=by
  simp only[Instr.build,Sem.run_bind,J,Result.andThen_ok,run_underlying hu];rw[a0];simp only[Result.andThen_ok,a2]
  have:Instr.fill (λx=>pl.toArray[x]?) z.cells pv=some cs.toArray:=by
   simpa using hf
  rw[this]
  rfl
 have hr:aw P ⟨some d,.build t ps,ty,pos,aft,g⟩ a w (.agg cs.toArray) w:=by
  simp[aw,execOp,Z]
 exact hr.step ⟨rfl,cs,W,by simp[Kd.val,ha]⟩
theorem am.cut (h:am δ n a l){J:List (Nat×Value)}(W:Sub l J):am δ n a J:=h.sub W.all
theorem am.add (h:am δ n a l){i:Nat}{v:Value}(W:a.tmps.getD i undef=v):am δ n a ((i,v)::l):=
 ⟨h.defers,h.size,λj u J=>by
  simp only[lk] at J;split at J
  ·rename_i e
   have e':=Q3 e;subst e';injection J with J
   rw[←J];exact W
  ·exact h.at_ j u J⟩
def qO (is:List Nat):Bool:=match is with|[]=>true|i::r=> !(r.any λj=>Zm i j)&&qO r
theorem yN {γ:Type}{X:List γ}:∀{is:List Nat} {Y:List γ},qO is=true->is.mapM (λi=>X[i]?)=some Y->∃f:Nat->Nat,(∀i e,Y[i]? =some e->X[f i]? =some e)/\(∀i j,i<Y.length->j<Y.length->f i=f j->i=j)/\(∀i,i<Y.length->f i∈is)
 |[],Y,_,h=>by simp at h;subst h;exact⟨id,by simp,by simp,by simp⟩
 | i ::is,Y,hn,h=>by
  simp only[Z1,Z2,Zs] at h;cases hx:X[i]? with
  |none=>simp[hx] at h
  | some x=>
   cases hr:is.mapM (λi=>X[i]?) with
   |none=>simp[hx,hr] at h
   | some ys=>
    simp[hx,hr] at h;subst h;simp only[qO,Qg,Qs] at hn;obtain⟨f,h1,h2,h3⟩:=yN hn.2 hr
    have a1:i∉is:=λhm=>by
     have:=List.any_eq_false.1 hn.1 i hm;simp at this
    refine⟨λj=>match j with|0=>i|j+1=>f j,?_,?_,?_⟩
    ·intro j e he
     cases j with
     |zero=>simp at he;subst he;exact hx
     |succ j=>exact h1 j e (by simpa using he)
    ·intro j J hj a0 Z
     cases j with
     |zero=>
      cases J with
      |zero=>rfl
      |succ J=>exact absurd (by have W:=h3 J (by simpa using a0);simp only at Z;rw[←Z] at W;exact W) a1
     |succ j=>
      cases J with
      |zero=>exact absurd (by have W:=h3 j (by simpa using hj);simp only at Z;rw[Z] at W;exact W) a1
      |succ J=>exact congrArg _ (h2 j J (by simpa using hj) (by simpa using a0) Z)
    ·intro j hj
     cases j with
     |zero=>simp
     |succ j=>exact List.mem_cons_of_mem _ (h3 j (by simpa using hj))
theorem xj {γ:Type}{X:List γ}{k:Nat}{is:List Nat}{Y:List γ}(hn:qO is=true)(hk:is.all (λi=>Qz i k)=true)(h:is.mapM (λi=>X[i]?)=some Y):
  ∃f:Nat->Nat,(∀i e,(Y++X.drop k)[i]? =some e->X[f i]? =some e)/\(∀i j,f i=f j->i=j):=by
 obtain⟨f,h1,h2,h3⟩:=yN hn h;refine⟨λi=>if i<Y.length then f i else k+(i - Y.length),λi e J=>?_,λi j W=>?_⟩
 ·simp only
  split
  ·rename_i hi
   rw[Qk hi] at J;exact h1 i e J
  ·rename_i hi
   rw[Qi (by omega),Qu] at J;exact J
 ·have lt:∀i,i<Y.length->f i<k:=λi hi=>zh (Q7.1 hk _ (h3 i hi))
  simp only at W;split at W<;>split at W
  ·rename_i hi Z;exact h2 i j hi Z W
  ·rename_i hi Z;have:=lt i hi;omega
  ·rename_i hi Z;have:=lt j Z;omega
  ·omega
theorem S.pickL (h:S W0 m w L TL)(k:Nat)(is:List Nat)(Z:qO is=true)(hk:is.all (λi=>Qz i k)=true){J:List (Nat×List Value)}(W:is.mapM (λi=>L[i]?)=some J):S W0 m w (J++L.drop k) TL:=by
 obtain⟨f,h1,h2⟩:=xj Z hk W;exact h.selL _ f h1 h2
theorem S.pickT (h:S W0 m w L TL)(k:Nat)(is:List Nat)(Z:qO is=true)(hk:is.all (λi=>Qz i k)=true){J:List (Nat×Value)}(W:is.mapM (λi=>TL[i]?)=some J):S W0 m w L (J++TL.drop k):=by
 obtain⟨f,h1,h2⟩:=xj Z hk W;exact h.selT _ f h1 h2
theorem cD {O β:Type}{kT:Kd O}{k':Kd β}{off:Nat}{s:O->β->O}{i b:Nat}{cs:List Value}{v:Value}{xx:O}{h:β}(hE:am δ n a l)(hS:S W0 m w L TL)(hT:cI P t k')(W:StF kT k' off s)(hx:evl l x=some (.pointer (some ⟨b,off,none⟩)))(hy:evl l y=some v)(hv:RV k' m v h)(Z:L[i]? =some (b,cs))(J:kT.R m cs xx):
  aM P ⟨none,.store t x y,ty,pos,aft,g⟩ a w (λ_ w'=>∃cs',kT.R m cs' (s xx h)/\S W0 m w' (L.set i (b,cs')) TL):=
 (uw hE hS hT hx hy hv Z (by rw[kT.len J];exact W.1)).imp λ_ _ ⟨vs,h1,h2⟩=>⟨_,W.2 m cs vs xx h J h1,h2⟩
structure uB (P:Program)(t:TypeId){O:Type} [DecidableEq O](k:Kd O):Prop where
 eq:∀m cs ds (x y:O) d w,k.R m cs x->k.R m ds y->(Op.equalIn (d+20) t (k.val cs) (k.val ds)).run P w= .ok (decide (x=y)) w
 plain:∀op o o' cs ds w,(eqGuard op t o o' (k.val cs) (k.val ds)).run P w= .ok () w
theorem vh {O:Type} [DecidableEq O]{k:Kd O}{u v:Value}{xx h:O}{t':TypeId}(hE:am δ n a l)(J:uB P t k)(hx:evl l x=some u)(hy:evl l y=some v)(hu:RV k m u xx)(hv:RV k m v h)(Z:k.agg=true):aw P ⟨some d,.binOp .eql t x y t',ty,pos,aft,g⟩ a w (.bool (decide (xx=h))) w:=by
 obtain⟨cs,hc,rfl⟩:=hu;obtain⟨ds,hd,rfl⟩:=hv;have W:=J.eq m cs ds xx h 9980 w hc hd;have h2:=J.plain .eql x y cs ds w;have h3:k.val cs= .agg cs.toArray:=by simp[Kd.val,Z]
 have h4:k.val ds= .agg ds.toArray:=by simp[Kd.val,Z]
 simp only[aw,execOp,hE.eval hx,hE.eval hy,Sem.run_bind,h2,Result.andThen_ok];rw[h3,h4] at W ⊢;simp[binOp,Op.equal,Op.maxDepth,W]
theorem sU {O:Type} [DecidableEq O]{k:Kd O}{u v:Value}{xx h:O}{t':TypeId}(hE:am δ n a l)(J:uB P t k)(hx:evl l x=some u)(hy:evl l y=some v)(hu:RV k m u xx)(hv:RV k m v h)(Z:k.agg=true):aw P ⟨some d,.binOp .neq t x y t',ty,pos,aft,g⟩ a w (.bool (!decide (xx=h))) w:=by
 obtain⟨cs,hc,rfl⟩:=hu;obtain⟨ds,hd,rfl⟩:=hv;have W:=J.eq m cs ds xx h 9980 w hc hd;have h2:=J.plain .neq x y cs ds w;have h3:k.val cs= .agg cs.toArray:=by simp[Kd.val,Z]
 have h4:k.val ds= .agg ds.toArray:=by simp[Kd.val,Z]
 simp only[aw,execOp,hE.eval hx,hE.eval hy,Sem.run_bind,h2,Result.andThen_ok];rw[h3,h4] at W ⊢;simp[binOp,Op.equal,Op.maxDepth,W]
def chk (b:Bool):Option Unit:=if b then some () else none
theorem ng {b:Bool}{u:Unit}(h:chk b=some u):b=true:=by
 unfold chk at h;split at h
 ·assumption
 ·cases h
theorem ax {k:IntKind}{x:Int}(h:k.wrap x=x):inR k x:=h
theorem AL {x:Int}(h:inR .u8 x):0<=x:=by rw[lI] at h;exact h.1
theorem yO {x:Int}(h:inR .u32 x):0<=x:=by rw[lI] at h;exact h.1
theorem yP {x:Int}(h:inR .u64 x):0<=x:=by rw[lI] at h;exact h.1
theorem A0 {k:IntKind}{x y:Int}(J:inR k x)(h:inR k y):inR k (if x<y then y else x):=by split<;>assumption
theorem Hf {k:IntKind}{x y:Int}(J:inR k x)(h:inR k y):inR k (if y<x then y else x):=by split<;>assumption
theorem S.tail0 (h:S W0 m w L TL)(sz:Nat):S W0 m w L ((sz,.slice none 0 0)::TL):=h.nilT sz 0 0
end
section
variable {δ:List Nat}{ro:Option Nat}{O σ β:Type}{A B:Option O}{r:O}{c:Bool}
theorem aD (J:c=true)(h:(if c=true then A else B)=some r):A=some r:=by rw[if_pos J] at h;exact h
theorem aH (J:c=false)(h:(if c=true then A else B)=some r):B=some r:=by rw[if_neg (by simp[J])] at h;exact h
theorem cG {e:Option β}{r:σ⊕β}{o:β}(h:e.map Sum.inr=some r)(J:∀o',r= .inr o'->o'=o):e=some o:=by
 cases e with
 |none=>simp at h
 |some x=>simp at h;rw[J x h.symm]
end
section
variable {δ:List Nat}{ro:Option Nat}{P:Program}{os:List Oper}{Φ:Nat->Option Nat->M->Value->Prop}{Ψ:M->List Value->Prop}{W0:Bse}{m:M}{LF:Option Nat->List Value->List (Nat×List Value)}{TL:List (Nat×Value)}{n ks:Nat}{cs0:List Value}{l:List (Nat×Value)}{i:Nat}{dst:Option Tmp}{op:Op}{ty:TypeId}{pos:String}{aft:Array Edge}
theorem sV {ops:Array Oper}{a:Act}{g h:Nat}{b:Bool}(hE:am δ n a l)(Z:bW ops g=some h)(hn:Qz h n=true)(J:a.tmps.getD h undef= .bool b):yielded ops a.tmps g=some b:=by
 have W:h<a.tmps.size:=by rw[hE.size];exact zh hn
 unfold bW at Z;unfold yielded;rw[Z];simp only[Z3];rw[Array.getD_eq_getD_getElem?,Array.getElem?_eq_getElem W] at J;rw[Array.getElem?_eq_getElem W];simp at J;rw[J]
theorem am.of {a:Act}{J:List (Nat×Value)}(h1:a.defers=δ.map λD=>{ target:= .collected D,args:= #[] })(h2:a.tmps.size=n){ops:Array Oper}{k:Nat}(h3:∀d v,lk l d=some v->(∀j,j<k->bW ops j≠some d)->a.tmps.getD d undef=v)(Z:Sub l J)(hk:(Qc k).all (λj=>match bW ops j with|some d=>J.all (λe=> !(Zm e.1 d))|none=>true)=true):am δ n a J:=by
 have hl:=Z.all;clear Z;refine⟨h1,h2,λj v h=>?_⟩
 have:∃e∈J,e=(j,v):=by
  clear hl hk
  induction J with
  |nil=>simp[lk] at h
  | cons e r ih=>
   obtain⟨i',u⟩:=e;simp only[lk] at h;split at h
   ·rename_i hb
    have:=Q3 hb;subst this;injection h with h
    subst h;exact⟨_,by simp,rfl⟩
   ·obtain⟨e,W,rfl⟩:=ih h
    exact⟨_,by simp[W],rfl⟩
 obtain⟨e,W,rfl⟩:=this;refine h3 j v (hl _ W) λq hq a0=>?_;have h5:=Q7.1 hk q (by simpa using hq);rw[a0] at h5;have h6:=Q7.1 h5 _ W;simp at h6
end
open Go.RowKit (Below)
def GS {O:Type}(k:Kd O)(m:M)(b:Nat)(cs:List Value)(v:Value)(xs:List O):Prop:=
 xs.length<=bU/\((xs=[]/\cs=[]/\∃a:Option Addr,v= .slice a 0 0/\∀ad,a=some ad->ad.spot=none)\/
  ∃cap,v= .slice (some ⟨b,0,none⟩) xs.length cap/\xs.length<=cap/\cs.length=cap*k.sz/\Rl k m (cs.take (xs.length*k.sz)) xs)
section
variable {δ:List Nat}{ro:Option Nat}{O:Type}{k:Kd O}{m m':M}{b:Nat}{cs:List Value}{v:Value}{xs:List O}
theorem GS.mono (h:GS k m b cs v xs)(W:M.le m m'):GS k m' b cs v xs:=by
 obtain⟨J,h|⟨cap,h1,h2,Z,h4⟩⟩:=h
 ·exact⟨J,.inl h⟩
 ·exact⟨J,.inr ⟨cap,h1,h2,Z,h4.mono W⟩⟩
theorem GS.len (h:GS k m b cs v xs):xs.length<=bU:=h.1
theorem GS.val (h:GS k m b cs v xs):∃(a:Option Addr) (cap:Nat),v= .slice a xs.length cap/\xs.length<=cap:=by
 obtain⟨h0,⟨rfl,rfl,a,rfl,_⟩|⟨cap,rfl,J,W,Z⟩⟩:=h
 ·exact⟨a,0,rfl,Q5 _⟩
 ·exact⟨_,cap,rfl,J⟩
theorem GS.void:GS k m b [] (.slice none 0 0) ([]:List O):=⟨by simp,.inl ⟨rfl,rfl,none,rfl,λ_ h=>by cases h⟩⟩
theorem gq {i n sz:Nat}(h:i<n):i*sz+sz<=n*sz:=by
 have:=Jn sz (show i+1<=n by omega);rw[Q6] at this;omega
theorem GS.elem (h:GS k m b cs v xs){j:Nat}{x:O}(Z:xs[j]? =some x):k.R m ((cs.drop (j*k.sz)).take k.sz) x:=by
 obtain⟨J,rfl⟩:=zw.1 Z;obtain⟨h0,⟨rfl,_⟩|⟨cap,rfl,h2,h3,W⟩⟩:=h
 ·simp at J
 ·have:=W.2 j J
  have a0:=gq (sz:=k.sz) J;rw[Qd,Qa,Q4 (by omega)] at this;exact this
theorem GS.set {x y:O}{vs:List Value}(h:GS k m b cs v xs){j:Nat}(hj:xs[j]? =some x)(Z:k.R m vs y):GS k m b (cs.take (j*k.sz)++vs++cs.drop (j*k.sz+k.sz)) v (xs.set j y):=by
 obtain⟨a0,rfl⟩:=zw.1 hj;obtain⟨h0,⟨rfl,_⟩|⟨cap,rfl,W,h3,h4⟩⟩:=h
 ·simp at a0
 have a2:=gq (sz:=k.sz) a0;have a4:xs.length*k.sz<=cap*k.sz:=Jn _ W;have hl:=k.len Z;refine⟨by simpa using h0,.inr ⟨cap,by simp,by simpa using W,by simp;omega,?_⟩⟩;have a1:(cs.take (j*k.sz)++vs++cs.drop (j*k.sz+k.sz)).length=cs.length:=by simp;omega
 refine⟨by rw[Qr,a1];simp;omega,λi hi=>?_⟩;have hi':i<xs.length:=by simpa using hi
 have a3:=gq (sz:=k.sz) hi';rw[List.length_set,Qd,Qa,Q4 (by omega)]
 by_cases e:i=j
 ·subst e
  rw[List.getElem_set_self,Qb,Qj (by simp;omega),Xi (by simp;omega),Qp,Q2 (by omega),Q1 (by omega)];exact Z
 ·rw[List.getElem_set_ne (λh=>e h.symm)]
  have J:=h4.2 i hi';rw[Qd,Qa,Q4 (by omega)] at J;rcases Nat.lt_or_gt_of_ne e with h6|h6
  ·have h7:=gq (sz:=k.sz) h6
   rw[Qb,Qj (by simp;omega),Q2 (by simp;omega),Qd,Qa,Q4 (by omega)];exact J
  ·have h7:=gq (sz:=k.sz) h6
   rw[Z7,Xi (by simp;omega),Qp,Qe];rw[show j*k.sz+k.sz+(i*k.sz - (cs.take (j*k.sz)++vs).length)=i*k.sz by simp;omega];exact J
end
def ix {O:Type}(xs:List O)(i:Int):Option Nat:=if 0<=i/\i<(xs.length:Int) then some i.toNat else none
theorem A3 {O:Type}{xs:List O}{i:Int}{j:Nat}(h:ix xs i=some j):0<=i/\i.toNat=j/\j<xs.length:=by
 unfold ix at h;split at h
 ·injection h with h;omega
 ·cases h
def cpy {O:Type}(xs ys:List O):List O:=ys.take xs.length++xs.drop ys.length
section
variable {δ:List Nat}{ro:Option Nat}{P:Program}{W0:Bse}{m:M}{L:List (Nat×List Value)}{TL:List (Nat×Value)}{n:Nat}{a:Act}{l:List (Nat×Value)}{w:World}{ty t t2 e:TypeId}{pos:String}{aft:Array Edge}{g:Option (Nat×Bool)}{x y:Operand}{d:Nat}{O β:Type}{k:Kd O}{k':Kd β}{by_ N b i:Nat}{cs:List Value}{v:Value}{xs ys:List O}
theorem S.void (h:S W0 m w L TL)(b:Nat):S W0 m w ((b,[])::L) TL:=by
 refine⟨h.below,h.imm,λi e J W=>?_,λi j e e' J Z a1 W a0=>?_,h.tails,h.apart⟩
 ·cases i with
  |zero=>simp at J;subst J;exact absurd rfl W
  |succ i=>exact h.own i e (by simpa using J) W
 ·cases i with
  |zero=>simp at J;subst J;exact absurd rfl W
  |succ i=>
   cases j with
   |zero=>simp at Z;subst Z;exact absurd rfl a0
   |succ j=>exact h.nodup i j e e' (by simpa using J) (by simpa using Z) (by omega) W a0
theorem S.freeze (h:S W0 m w ((b,cs)::L) TL)(hg:GS k m b cs v xs):∃m',M.le m m'/\S W0 m' w L TL/\RV (kSl k) m' v xs:=by
 have J:=h.dropL 1;simp only[Zj,Ql] at J;obtain⟨h0,⟨rfl,rfl,a,rfl,ha⟩|⟨cap,rfl,h2,h3,h4⟩⟩:=hg
 ·refine⟨m,M.le.refl m,J,?_⟩
  have:=dw (d:=k) (m:=m) (xs:=[]) (a:=a) (cap:=0) (Q5 _) (by simp) (by cases a with|none=>rfl|some Z=>exact⟨λ_=>ha Z rfl,λi hi=>by simp at hi⟩);exact this
 ·by_cases hc:cs=[]
  ·subst hc
   have hp:=k.pos
   have a2:cap=0:=by
    rcases Q9 cap with h|h
    ·exact h
    ·have:=Zr h hp;simp at h3;omega
   subst a2;have hx:xs=[]:=Q0 (by omega);subst hx;exact⟨m,M.le.refl m,J,dw (Q5 _) (by simp) ⟨λ_=>rfl,λi hi=>by simp at hi⟩⟩
  ·obtain⟨hB,hm,t,ht⟩:=h.own 0 (b,cs) rfl hc
   have a0:M.le m (m.put b (cs.take (xs.length*k.sz))):=M.le_put _ hm;refine⟨m.put b (cs.take (xs.length*k.sz)),a0,⟨J.below,λb' r W=>?_,λi e he hv=>?_,J.nodup,λi e he=>?_,J.apart⟩,dw h2 h0 ⟨λ_=>rfl,?_⟩⟩
   ·by_cases hbb:b'=b
    ·subst hbb
     rw[M.put_same] at W;injection W with W;subst W
     exact⟨_,t,_,cs.drop (xs.length*k.sz),ht,by simp,λ_=> .inl rfl⟩
    ·rw[M.put_other _ _ hbb] at W;exact J.imm b' r W
   ·obtain⟨q1,q2,q3⟩:=J.own i e he hv
    have a1:=h.nodup 0 (i+1) (b,cs) e rfl (by simpa using he) (by omega) hc hv;exact⟨q1,by rw[M.put_other _ _ (λe=>a1 e.symm)];exact q2,q3⟩
   ·have hT:=J.tails i e he
    obtain⟨sz,u⟩:=e;cases u<;>try exact hT
    rename_i Z a5 a4;cases Z with
    |none=>trivial
    |some Z=>
     obtain⟨a3,hT⟩:=hT;refine⟨a3,?_⟩;rcases hT with hf|⟨p0,p1,r,c,t',p2,p3,p4,p5⟩
     ·exact .inl hf
     ·exact .inr ⟨p0,p1,r,c,t',by rw[M.put_other _ _ (λe=>by rw[e,hm] at p2;cases p2)];exact p2,p3,p4,p5⟩
   ·have:=h4.mono a0
    exact nY (M.put_same _ _ _) this (by rw[Ql];exact Q1 (Q5 _))
theorem yQ {kk kc:IntKind}{i:Int}{xs:List O}{x0:O}{J:TypeInfo}{z:Value}(hE:am δ n a l)(hS:S W0 m w L TL)(hx:evl l x=some (.int kk i))(hy:evl l y=some (.int kc i))(hu:P.underlying t=some (.slice e))(hi:P.info? e=some J)(hz:J.zero=some z)(a3:J.size=k.sz)(a0:J.bytes=by_)(a2:∀m,k.R m z.cells.toList x0)
  (h:mk N i x0=some xs) (hN:Zo (N*by_) 281474976710656=true) (Z:Zo N 281474976710656=true):
  aM P ⟨some d,.makeSlice t x y,ty,pos,aft,g⟩ a w (λv w'=>∃b cs,GS k m b cs v xs/\S W0 m w' ((b,cs)::L) TL):=by
 refine(Hc hE hS hx hy hu hi hz a3 a0 a2 h hN Z).imp λv w' ⟨b,cs,h1,W,h3⟩=>⟨b,cs,?_,h3⟩
 have a1:xs.length<=bU:=by
  unfold mk at h;split at h
  ·rename_i h0
   injection h with h;subst h
   have:=zh Z;unfold bU;simp;omega
  ·cases h
 exact⟨a1,.inr ⟨_,h1,Q5 _,W.1,by rw[Q1 (by rw[W.1];exact Q5 _)];exact W⟩⟩
theorem GS.of_Rl {cs:List Value}(h:Rl k m cs xs)(J:xs.length<=bU):GS k m b cs (.slice (some ⟨b,0,none⟩) xs.length xs.length) xs:=
 ⟨J,.inr ⟨_,rfl,Q5 _,h.1,by rw[Q1 (by rw[h.1];exact Q5 _)];exact h⟩⟩
theorem pa {h:Array TypeId}(hE:am δ n a l)(W:evl l x=some v)(Z:h[0]? =some t)(hu:P.underlying t=some (.slice e))(J:GS k m b cs v xs):
  aw P ⟨some d,.call ⟨.builtin .len,#[x],h⟩,ty,pos,aft,g⟩ a w (.int .i64 (xs.length:Int)) w:=by
 obtain⟨ad,cap,rfl,_⟩:=J.val;simp[aw,execOp,resolve,invoke,builtin,hE.eval W,Builtin.len_,Z,run_underlying hu,goInt]
theorem kJ {kk:IntKind}{i:Int}{j sz:Nat}(h:am δ n a l)(hx:evl l x=some v)(hy:evl l y=some (.int kk i))(hu:P.underlying t=some (.slice e))(hs:∀w,(sizeOf e).run P w= .ok k.sz w)(Z:GS k m b cs v xs)(hi:ix xs i=some j)(J:k.sz=sz):
  aw P ⟨some d,.indexAddr t x y,ty,pos,aft,g⟩ a w (.pointer (some ⟨b,j*sz,none⟩)) w:=by
 obtain⟨W,h1,h2⟩:=A3 hi;subst J;obtain⟨_,⟨rfl,_⟩|⟨cap,rfl,h3,_,_⟩⟩:=Z
 ·simp at h2
 ·have a0:i<(xs.length:Int):=by omega
  simp[aw,execOp,h.eval hx,h.eval hy,Instr.indexAt,asIntOf,run_underlying hu,W,a0,hs,ew,h1]
theorem yR {Z:IntKind}{i:Int}{j sz len:Nat}(h:am δ n a l)(hx:evl l x=some (.pointer (some ⟨b,0,none⟩)))(hy:evl l y=some (.int Z i))(hu:P.underlying t=some (.array len e))(hs:∀w,(sizeOf e).run P w= .ok k.sz w)(hl:xs.length=len)(hi:ix xs i=some j)(J:k.sz=sz):
  aw P ⟨some d,.indexAddr t x y,ty,pos,aft,g⟩ a w (.pointer (some ⟨b,j*sz,none⟩)) w:=by
 obtain⟨W,h1,h2⟩:=A3 hi;subst J;subst hl;have a0:i<(xs.length:Int):=by omega
 simp[aw,execOp,h.eval hx,h.eval hy,Instr.indexAt,asIntOf,run_underlying hu,W,a0,hs,ew,h1,Instr.sureAddr]
theorem E8 {len:Nat}(Z:am δ n a l)(W:evl l x=some (.pointer (some ⟨b,0,none⟩)))(h:P.underlying t=some (.array len e))(J:∀w,(sizeOf e).run P w= .ok k.sz w):
  aw P ⟨some d,.slice t x none none none,ty,pos,aft,g⟩ a w (.slice (some ⟨b,0,none⟩) len len) w:=by
 simp[aw,execOp,Z.eval W,Instr.sliceAt,run_underlying h,J,Instr.sureAddr,Instr.sliceBounds,ew]
theorem pP {off j:Nat}{s:O->β->O}{u:Value}{xx:O}{h:β}(hE:am δ n a l)(hS:S W0 m w L TL)(hT:cI P t k')(J:StF k k' off s)(Z:GS k m b cs v xs)(hj:xs[j]? =some xx)(hx:evl l x=some (.pointer (some ⟨b,j*k.sz+off,none⟩)))(hy:evl l y=some u)(hv:RV k' m u h)(hL:L[i]? =some (b,cs)):
  aM P ⟨none,.store t x y,ty,pos,aft,g⟩ a w (λ_ w'=>∃cs',GS k m b cs' v (xs.set j (s xx h))/\S W0 m w' (L.set i (b,cs')) TL):=by
 have W:=Z.elem hj;have hl:=k.len W;have hb:j*k.sz+off+k'.sz<=cs.length:=by have:=J.1;simp at hl;have:=k.pos;omega
 refine(uw hE hS hT hx hy hv hL hb).imp λ_ w' ⟨vs,h1,h2⟩=>⟨_,?_,h2⟩
 have h3:=J.2 m _ vs xx h W h1;have h4:=Z.set hj h3;have a1:=k'.len h1;have e1:(cs.drop (j*k.sz)).take off=(cs.take (j*k.sz+off)).drop (j*k.sz):=by rw[Qd,Nat.add_sub_cancel_left]
 have e2:cs.take (j*k.sz)++(((cs.drop (j*k.sz)).take k.sz).take off++vs++((cs.drop (j*k.sz)).take k.sz).drop (off+k'.sz))++cs.drop (j*k.sz+k.sz)=cs.take (j*k.sz+off)++vs++cs.drop (j*k.sz+off+k'.sz):=by
  have a0:=J.1;rw[Qa,Q4 (by omega),List.take_add (i:=j*k.sz) (j:=off) (l:=cs)]
  have e3:((cs.drop (j*k.sz)).take k.sz).drop (off+k'.sz)++cs.drop (j*k.sz+k.sz)=cs.drop (j*k.sz+off+k'.sz):=by
   rw[Qd,Qe,show cs.drop (j*k.sz+k.sz)=(cs.drop (j*k.sz+(off+k'.sz))).drop (k.sz - (off+k'.sz)) by rw[Qe];congr 1;omega,Qh];congr 1;omega
  rw[Qb,Qb,Qb,e3];simp
 rw[e2] at h4;exact h4
theorem sW (hS:S W0 m w L TL)(hL:L[i]? =some (b,cs))(hg:GS k m b cs v xs):(Builtin.lenOf v).run P w= .ok xs.length w/\∃news,Rl k m news xs/\(∀w',(∀b,b<w.heap.size->w'.heap[b]? =w.heap[b]?)->(Builtin.firstCells k.sz xs.length v).run P w'= .ok news.toArray w')/\(∀q,q<=xs.length->∀w',(∀b,b<w.heap.size->w'.heap[b]? =w.heap[b]?)->(Builtin.firstCells k.sz q v).run P w'= .ok (news.take (q*k.sz)).toArray w'):=by
 have a1:(Builtin.lenOf v).run P w= .ok xs.length w/\∃news,Rl k m news xs/\(∀q,q<=xs.length->∀w',(∀b,b<w.heap.size->w'.heap[b]? =w.heap[b]?)->(Builtin.firstCells k.sz q v).run P w'= .ok (news.take (q*k.sz)).toArray w'):=by
  obtain⟨_,⟨rfl,rfl,ad,rfl,_⟩|⟨cap,rfl,h3,h4,h5⟩⟩:=hg
  ·refine⟨by simp[Builtin.lenOf],[],Rl.nil,λq J w' _=>?_⟩
   have:q=0:=by simpa using J
   subst this;cases ad<;>simp[Builtin.firstCells,loadCells,loadCellsFrom]
  ·refine⟨by simp[Builtin.lenOf],_,h5,λq J w' h=>?_⟩
   rcases Q9 q with h0|h0
   ·subst h0;simp[Builtin.firstCells,loadCells,loadCellsFrom]
   ·have a3:q*k.sz<=xs.length*k.sz:=Jn _ J
    have a6:xs.length*k.sz<=cap*k.sz:=Jn _ h3;have a5:0<q*k.sz:=Zr h0 k.pos;rw[Qa,Q4 a3];have a0:(cs.take (q*k.sz)).length=q*k.sz:=by simp;omega
    have hA:=hS.atL (o:=0) (cs':=cs.take (q*k.sz)) hL (by rw[a0,Ql]) (by omega);obtain⟨c,t,fr,Z,hc⟩:=hA;have a2:=(Array.getElem?_eq_some_iff.1 Z).1;have a4:At w' b 0 (cs.take (q*k.sz)):=⟨c,t,fr,by rw[h b a2];exact Z,hc⟩
    exact run_firstCells_some w' _ _ _ _ _ _ a0 (λj v hj=>by rw[ew];exact a4.cell hj)
 obtain⟨g1,news,g2,W⟩:=a1;refine⟨g1,news,g2,λw' h=>?_,W⟩;have:=W xs.length (Q5 _) w' h;rw[Q1 (by rw[g2.1];exact Q5 _)] at this;exact this
def tW (P:Program)(k:Kd O)(m:M)(w:World)(t2:TypeId)(u:Value)(ys:List O):Prop:=
 ((∃e',P.underlying t2=some (.slice e'))\/P.underlying t2=some .string)/\(Builtin.lenOf u).run P w= .ok ys.length w/\∃news,Rl k m news ys/\(∀w',(∀b,b<w.heap.size->w'.heap[b]? =w.heap[b]?)->(Builtin.firstCells k.sz ys.length u).run P w'= .ok news.toArray w')
theorem sX {u:Value}{e':TypeId}(hS:S W0 m w L TL)(Z:P.underlying t2=some (.slice e'))(h:RV (kSl k) m u ys):tW P k m w t2 u ys:=by
 obtain⟨news,J,W,_⟩:=kV (P:=P) hS h;exact⟨.inl ⟨e',Z⟩,uA h w,news,J,W⟩
theorem A4 {u:Value}{e':TypeId}(hS:S W0 m w L TL)(a0:P.underlying t2=some (.slice e'))(h:L[i]? =some (b,cs))(J:GS k m b cs u ys):tW P k m w t2 u ys:=by
 obtain⟨h1,news,Z,W,_⟩:=sW (P:=P) hS h J;exact⟨.inl ⟨e',a0⟩,h1,news,Z,W⟩
theorem Hg {s:List Int}(J:P.underlying t2=some .string)(h:∀n∈s,0<=n/\n<256):tW P (aj .u8) m w t2 (.string (bts s)) s:=by
 refine⟨.inr J,by simp[Builtin.lenOf,uz],s.map (Value.int .u8),De h,λw' _=>?_⟩
 have W:(bts s).extract 0 s.length=bts s:=by
  have:=uz s;rw[←this];exact ByteArray.extract_zero_size
 simp only[Builtin.firstCells,W,Sem.run_pure];congr 1;apply Array.ext';simp only[bts,Array.toList_map,Zz];apply Z5;intro n Z;show Value.int .u8 ((UInt8.ofNat n.toNat).toNat:Int)=Value.int .u8 n;rw[mu (h n Z)]
theorem wt {v u:Value}{xs ys J:List O}(h:am δ n a l)(hS:S W0 m w L TL)(hx:evl l x=some v)(hy:evl l y=some u)(hu:P.underlying t=some (.slice e))(a3:mF P e k.sz by_)(hT:TL[i]? =some (k.sz,v))(hv:RV (kSl k) m v xs)(hw:tW P k m w t2 u ys)(a2:app N xs ys=some J)
  (hN:Zo (N*by_) 140737488355328=true) (hM:Zo N 281474976710656=true):
  aM P ⟨some d,.call ⟨.builtin .append,#[x,y],#[t,t2]⟩,ty,pos,aft,g⟩ a w (λv' w'=>∃m',M.le m m'/\S W0 m' w' L (TL.set i (k.sz,v'))/\RV (kSl k) m' v' J):=by
 obtain⟨a4,rfl⟩:=uy a2;obtain⟨h0,a1,news,hR,Z⟩:=hw
 obtain⟨v',m',w',a0,h1,h2,W⟩:=sS (tx:=t2) (ty:=ty) hS hu h0 a3 hT hv a1 Z hR
  (by have:=Jn by_ a4;have:=zh hN;omega) (by have:=zh hM;unfold bU;omega)
 have hr:aw P ⟨some d,.call ⟨.builtin .append,#[x,y],#[t,t2]⟩,ty,pos,aft,g⟩ a w v' w':=by
  simp[aw,execOp,resolve,invoke,builtin,h.eval hx,h.eval hy,a0]
 exact hr.step ⟨m',h1,h2,W⟩
theorem S.swapL (hS:S W0 m w ((b,cs)::L) TL)(hi:i<L.length):S W0 m w (L.set i (b,cs)) TL:=by
 refine hS.selL _ (λj=>if j=i then 0 else j+1) (λj e J=>?_) (λj W h=>?_)
 ·rw[Qv] at J
  by_cases h:i=j
  ·subst h;simp[hi] at J ⊢;exact J
  ·rw[if_neg h] at J
   rw[if_neg (λx=>h x.symm)];simpa using J
 ·split at h<;>split at h<;>omega
theorem tX {v u:Value}{xs ys zs:List O}(hE:am δ n a l)(hS:S W0 m w L TL)(hx:evl l x=some v)(hy:evl l y=some u)(hu:P.underlying t=some (.slice e))(e5:mF P e k.sz by_)(hL:L[i]? =some (b,cs))(hg:GS k m b cs v xs)(hw:tW P k m w t2 u ys)(e4:app N xs ys=some zs)
  (hN:Zo (N*by_) 140737488355328=true) (hM:Zo N 281474976710656=true):
  aM P ⟨some d,.call ⟨.builtin .append,#[x,y],#[t,t2]⟩,ty,pos,aft,g⟩ a w (λv' w'=>∃b' cs',GS k m b' cs' v' zs/\S W0 m w' (L.set i (b',cs')) TL):=by
 obtain⟨e6,rfl⟩:=uy e4;obtain⟨J,hn,news,W,hf⟩:=hw;have c1:(xs.length+ys.length)*by_<=140737488355328:=by have:=Jn by_ e6;have:=zh hN;omega
 have a6:xs.length+ys.length<=bU:=by have:=zh hM;unfold bU;omega
 have e9:xs.length+ys.length<=281474976710656:=a6;obtain⟨b0,z,hi,a5,c3,hz,e8⟩:=e5.ok;have hp:=k.pos;have d1:i<L.length:=(zw.1 hL).1
 have b4:L.set i (b,cs)=L:=by
  obtain⟨h1,h2⟩:=zw.1 hL;rw[←h2];exact Zc h1
 suffices hmain:∃v' w' b' cs',(Builtin.append_ #[t,t2] ty #[v,u]).run P w= .ok v' w'/\GS k m b' cs' v' (xs++ys)/\S W0 m w' (L.set i (b',cs')) TL by
  obtain⟨v',w',b',cs',a3,h1,h2⟩:=hmain
  have hr:aw P ⟨some d,.call ⟨.builtin .append,#[x,y],#[t,t2]⟩,ty,pos,aft,g⟩ a w v' w':=by
   simp[aw,execOp,resolve,invoke,builtin,hE.eval hx,hE.eval hy,a3]
  exact hr.step ⟨b',cs',h1,h2⟩
 obtain⟨_,a1,a2,b3,_⟩:=sW (P:=P) hS hL hg;obtain⟨e7,a0,a4,b2⟩:=hg.val
 by_cases hfit:xs.length+ys.length<=a0
 ·rcases Q9 ys.length with h0|h0
  ·have c6:ys=[]:=Q0 h0
   subst c6;have e0:news=[]:=Q0 (by rw[W.1];simp);subst e0;have a9:=hf w (λ_ _=>rfl);simp only[Z4] at a9 hn;refine⟨v,w,b,cs,?_,by simpa using hg,by rw[b4];exact hS⟩;subst a4;cases e7 with
   |none=>rcases J with⟨_,J⟩|J<;>simp[Builtin.append_,run_underlying hu,run_underlying J,sizeOf,typeInfo,hi,hn,a5,a9,b2]
   |some ad=>rcases J with⟨_,J⟩|J<;>simp[Builtin.append_,run_underlying hu,run_underlying J,sizeOf,typeInfo,hi,hn,a5,a9,b2,storeCells]
  ·obtain⟨f4,⟨rfl,rfl,ad,rfl,_⟩|⟨cap,rfl,h3,h4,h5⟩⟩:=hg
   ·have f0:a0=0:=by
     injection a4 with _ _ h;exact h.symm
    simp only[Z4] at hfit;omega
   injection a4 with h1 _ h;subst h;subst h1
   have e1:(xs.length+ys.length)*k.sz<=cap*k.sz:=Jn _ hfit;rw[Q6] at e1;have f3:0<ys.length*k.sz:=Zr h0 hp;have b1:cs≠[]:=λe=>by subst e;simp at h4;omega
   obtain⟨hB,hm,t0,ht⟩:=hS.own i _ hL b1;have c7:=W.1;have a3:=dT (P:=P) news b (xs.length*k.sz) 0 cs t0 w ht (by omega) W.one;simp only[Qm] at a3;refine⟨.slice (some ⟨b,0,none⟩) (xs++ys).length cap,w.setRow b (cs.take (xs.length*k.sz)++news++cs.drop (xs.length*k.sz+news.length)).toArray,b,cs.take (xs.length*k.sz)++news++cs.drop (xs.length*k.sz+news.length),?_,⟨by simpa using a6,.inr ⟨cap,rfl,by simpa using hfit,?_,?_⟩⟩,hS.setL hL b1 _⟩
   ·rcases J with⟨_,J⟩|J<;>simp[Builtin.append_,run_underlying hu,run_underlying J,sizeOf,typeInfo,hi,hn,a5,hf w (λ_ _=>rfl),hfit,ew,a3]
   ·simp;omega
   ·have f5:(cs.take (xs.length*k.sz)).length=xs.length*k.sz:=by simp;omega
    have c0:(xs++ys).length*k.sz=(cs.take (xs.length*k.sz)++news).length:=by simp[Q6,c7];omega
    rw[c0,Q2 (Q5 _),Q1 (Q5 _)];exact Rl.app h5 W
 ·have d2:a0<xs.length+ys.length:=by omega
  have b5: ¬ (9223372036854775807<((xs.length:Int)+(ys.length:Int))):=by omega
  have b6: ¬ (281474976710656<Builtin.nextslicecap (xs.length+ys.length) a0*b0.bytes):=by
   have:=growslice_fits d2 (bytes:=b0.bytes) (by rw[c3];exact c1);omega
  generalize hcapn:grownCap w (xs.length+ys.length) a0 e=Z at*
  have c4:xs.length+ys.length<=Z:=by
   rw[←hcapn];simp[grownCap,Question.cut]
  let rest:=(Builtin.zeroCells z.cells (Z - (xs.length+ys.length))).toList
  have d0:rest.length=(Z - (xs.length+ys.length))*k.sz:=by simp[rest,Builtin.zeroCells,e8]
  have e3:(xs.length+ys.length)*k.sz+rest.length=Z*k.sz:=by rw[d0,←Q6];congr 1;omega
  rw[Q6] at e3;refine⟨.slice (some ⟨w.heap.size,0,none⟩) (xs++ys).length Z,w.drew.alloc (.cells (a1++news++rest).toArray e),w.heap.size,a1++news++rest,?_,⟨by simpa using a6,.inr ⟨Z,rfl,by simpa using c4,?_,?_⟩⟩,?_⟩
  ·have c2:=b3 w.drew (λ_ _=>rfl)
   have b7:=hf w.drew (λ_ _=>rfl)
   have e2:a1.toArray++(news.toArray++Builtin.zeroCells z.cells (Z - (xs.length+ys.length)))=(a1++(news++rest)).toArray:=by
    apply Array.ext';simp[rest]
   have c5:(Question.appendCap (xs.length+ys.length) a0 e).cut (w.tape w.drawn (Question.appendCap (xs.length+ys.length) a0 e))=Z:=hcapn;subst a4;rcases J with⟨_,J⟩|J<;>simp[Builtin.append_,run_underlying hu,run_underlying J,sizeOf,typeInfo,zeroValue,hi,hz,hn,a5,hfit,b5,b6,Question.forced,c2,b7,newRow,c5,e2]
  ·simp[a2.1,W.1];omega
  ·rw[Q2 (by simp[a2.1,W.1,Q6]),Q1 (by simp[a2.1,W.1,Q6])]
   exact Rl.app a2 W
  ·have:=hS.drew.allocL (a1++news++rest) e
   exact this.swapL d1
theorem yS {u:Value}(Z:am δ n a l)(hS:S W0 m w L TL)(hx:evl l x=some v)(hy:evl l y=some u)(hu:P.underlying t=some (.slice e))(hs:∀w,(sizeOf e).run P w= .ok k.sz w)(hL:L[i]? =some (b,cs))(hg:GS k m b cs v xs)(hw:RV (kSl k) m u ys):
  aM P ⟨some d,.call ⟨.builtin .copy,#[x,y],#[t,t2]⟩,ty,pos,aft,g⟩ a w (λv' w'=>v'= .int .i64 (min ys.length xs.length:Nat)/\∃cs',GS k m b cs' v (cpy xs ys)/\S W0 m w' (L.set i (b,cs')) TL):=by
 have c3:i<L.length:=(zw.1 hL).1
 have b1:L.set i (b,cs)=L:=by
  obtain⟨h1,h2⟩:=zw.1 hL;rw[←h2];exact Zc h1
 have hp:=k.pos;have a2:Nat.min ys.length xs.length=min ys.length xs.length:=rfl
 have c1:RV (kSl k) m u ys:=hw
 have b2:∃news,Rl k m news (ys.take xs.length)/\(Builtin.firstCells k.sz (min ys.length xs.length) u).run P w= .ok news.toArray w:=by
  obtain⟨J,cap,rfl,h3,h4,W⟩:=iL hw
  have b7:RV (kSl k) m (.slice J (ys.take xs.length).length cap) (ys.take xs.length):=by
   refine dw (by simp;omega) (by simp;omega) ?_;cases J with
   |none=>exact W
   |some J=>exact⟨W.1,λq hq=>by rw[List.getElem_take];exact W.2 q (by simp at hq;omega)⟩
  obtain⟨news,h6,h7,_⟩:=kV (P:=P) hS b7;have h8:=h7 w (λ_ _=>rfl);refine⟨news,h6,?_⟩;rw[Qr,Xr] at h8;cases J<;>simpa[Builtin.firstCells] using h8
 obtain⟨news,hR,a1⟩:=b2;have a3:=uA (P:=P) hw w;rcases Q9 (min ys.length xs.length) with h0|h0
 ·have b0:cpy xs ys=xs:=by
   unfold cpy;rcases Q9 ys.length with h|h
   ·have:ys=[]:=Q0 h
    subst this;simp
   ·have:xs=[]:=Q0 (by omega)
    subst this;simp
  have b5:news=[]:=Q0 (by rw[hR.1,Qr,Xr,h0];simp);subst b5;obtain⟨J,cap,hv,_⟩:=hg.val
  have hr:aw P ⟨some d,.call ⟨.builtin .copy,#[x,y],#[t,t2]⟩,ty,pos,aft,g⟩ a w (.int .i64 (min ys.length xs.length:Nat)) w:=by
   have a4:=Z.eval hx;rw[hv] at a4;cases J with
   |none=>simp[aw,execOp,resolve,invoke,builtin,a4,Z.eval hy,Builtin.copy_,run_underlying hu,hs,a3,a2,a1,goInt]
   |some J=>simp[aw,execOp,resolve,invoke,builtin,a4,Z.eval hy,Builtin.copy_,run_underlying hu,hs,a3,a2,a1,goInt,storeCells]
  exact hr.step ⟨rfl,cs,by rw[b0];exact hg,by rw[b1];exact hS⟩
 ·obtain⟨c0,⟨rfl,_⟩|⟨cap,rfl,h3,h4,W⟩⟩:=hg
  ·simp at h0
  have b3:(ys.take xs.length).length=min ys.length xs.length:=by rw[Qr,Xr]
  have b4:news.length=min ys.length xs.length*k.sz:=by rw[hR.1,b3]
  have c2:min ys.length xs.length*k.sz<=xs.length*k.sz:=Jn _ (Nat.min_le_right _ _);have c4:xs.length*k.sz<=cap*k.sz:=Jn _ h3;have c5:0<min ys.length xs.length*k.sz:=Zr h0 hp;have a5:cs≠[]:=λe=>by subst e;simp at h4;omega
  obtain⟨hB,hm,t0,ht⟩:=hS.own i _ hL a5;have a6:=dT (P:=P) news b 0 0 cs t0 w ht (by omega) hR.one;simp only[Qm,Zi,Qx,Qp] at a6
  have hr:aw P ⟨some d,.call ⟨.builtin .copy,#[x,y],#[t,t2]⟩,ty,pos,aft,g⟩ a w (.int .i64 (min ys.length xs.length:Nat)) (w.setRow b (news++cs.drop news.length).toArray):=by
   simp[aw,execOp,resolve,invoke,builtin,Z.eval hx,Z.eval hy,Builtin.copy_,run_underlying hu,hs,a3,a2,a1,goInt,a6]
  have a0:(cpy xs ys).length=xs.length:=by unfold cpy;simp;omega
  refine hr.step ⟨rfl,_,⟨by rw[a0];exact c0,.inr ⟨cap,by rw[a0],by rw[a0];exact h3,by simp;omega,?_⟩⟩,hS.setL hL a5 _⟩
  have b6:Rl k m ((cs.take (xs.length*k.sz)).drop (min ys.length xs.length*k.sz)) (xs.drop ys.length):=by
   refine⟨?_,λq hq=>?_⟩
   ·simp
    rw[Nat.sub_mul];rcases Nat.le_total ys.length xs.length with h|h
    ·rw[Q4 h,Q4 (by omega)]
    ·rw[Xf h,Q4 (by omega)]
     have:=Jn k.sz h;omega
   ·have a9:ys.length+q<xs.length:=by simp at hq;omega
    have h6:=W.2 (ys.length+q) a9;rw[Q4 (by omega),Qe,←Q6];simpa using h6
  have:=Rl.app hR b6;rw[a0]
  have e1:(news++cs.drop news.length).take (xs.length*k.sz)=news++(cs.take (xs.length*k.sz)).drop (min ys.length xs.length*k.sz):=by
   rw[List.take_append,Q1 (by omega),Qd,b4]
  rw[e1];exact this
end
open Go.RowKit (Below)
section
variable {δ:List Nat}{ro:Option Nat}{O:Type}{k:Kd O}{m m':M}{b b':Nat}{cs cs':List Value}{v:Value}{xs ys:List O}
theorem GS.arr_len {a:Option Addr}{n c:Nat}(h:GS k m b cs (.slice a n c) xs):xs.length=n:=by
  obtain⟨a',W,J,_⟩:=h.val;injection J with _ h _;exact h.symm
theorem GS.len_eq (h:GS k m b cs v xs)(W:GS k m' b' cs' v ys):ys.length=xs.length:=by
  obtain⟨a1,c1,Z,_⟩:=h.val;obtain⟨a2,c2,J,_⟩:=W.val;rw[Z] at J;injection J with _ h _;exact h.symm
theorem Rl.take (h:Rl k m cs xs)(q:Nat):Rl k m (cs.take (q*k.sz)) (xs.take q):=by
  refine⟨?_,λi hi=>?_⟩
  · rw[Qr,Qr,h.1]
    rcases Nat.le_total q xs.length with J|J
    · have:=Jn k.sz J
      rw[Q4 this,Q4 J]
    · have:=Jn k.sz J
      rw[Xf this,Xf J]
  · have hi':i<q/\i<xs.length:=by simp at hi;omega
    have J:=gq (sz:=k.sz) hi'.1;rw[List.getElem_take,Qd,Qa,Q4 (by omega)];exact h.2 i hi'.2
theorem Rl.drop (h:Rl k m cs xs)(q:Nat):Rl k m (cs.drop (q*k.sz)) (xs.drop q):=by
  refine⟨by rw[List.length_drop,List.length_drop,h.1,Nat.sub_mul],λi hi=>?_⟩;have hi':q+i<xs.length:=by simp at hi;omega
  rw[List.getElem_drop,Qe,←Q6];exact h.2 _ hi'
def spl (xs:List O)(q:Nat)(ys:List O):List O:=xs.take q++ys++xs.drop (q+ys.length)
theorem GS.splice {news:List Value}(h:GS k m b cs v xs){q:Nat}(W:q+ys.length<=xs.length)(Z:Rl k m news ys):
    GS k m b (cs.take (q*k.sz)++news++cs.drop (q*k.sz+news.length)) v (spl xs q ys):=by
  have J:(spl xs q ys).length=xs.length:=by unfold spl;simp;omega
  obtain⟨h0,⟨rfl,rfl,ad,rfl,ha⟩|⟨cap,rfl,h2,h3,h4⟩⟩:=h
  · simp at W
    obtain⟨rfl,rfl⟩:=W;have hn:news=[]:=Q0 (by rw[Z.1];simp);subst hn;exact⟨by simp[spl],.inl ⟨by simp[spl],by simp,ad,rfl,ha⟩⟩
  · have a0:=Z.1
    have e1:(q+ys.length)*k.sz<=xs.length*k.sz:=Jn _ W;have e2:xs.length*k.sz<=cap*k.sz:=Jn _ h2;rw[Q6] at e1;refine⟨by rw[J];exact h0,.inr ⟨cap,by rw[J],by rw[J];exact h2,by simp;omega,?_⟩⟩;rw[J];have a1:=h4.take q;rw[Qa,Q4 (by omega)] at a1;have a2:=h4.drop (q+ys.length);rw[Qd,Q6,←a0] at a2;have:=(a1.app Z).app a2;unfold spl;have e4:(cs.take (q*k.sz)++news).length=q*k.sz+news.length:=by simp;omega
    rw[List.take_append,Q1 (by rw[e4];omega),e4];exact this
theorem Rl.rep {c:List Value}{z:O}(h:k.R m c z):∀n,Rl k m (Qw n c).flatten (Qw n z)
  |0=>Rl.nil
  | n+1=>by
    rw[List.replicate_succ,List.flatten_cons,List.replicate_succ];exact Rl.app (Rl.single h) (Rl.rep h n)
theorem GS.zero {c:List Value}{z:O}(h:∀m,k.R m c z){n:Nat}(J:Zo n bU=true):GS k m b (Qw n c).flatten (.slice (some ⟨b,0,none⟩) n n) (Qw n z):=by
  have:=GS.of_Rl (b:=b) (Rl.rep (h m) n) (by rw[Zu];exact zh J);rwa[Zu] at this
end
def VS (b sz:Nat)(v:Value)(q n:Nat):Prop:= ∃ad c,v= .slice ad n c/\(0<n->ad=some ⟨b,q*sz,none⟩)
def vw {O:Type}(xs:List O)(lo hi:Int):Option (Nat×Nat):=if 0<=lo/\lo<=hi/\hi<=(xs.length:Int) then some (lo.toNat,hi.toNat - lo.toNat) else none
theorem Hh {O:Type}{xs:List O}{lo hi:Int}{q:Nat×Nat}(h:vw xs lo hi=some q):0<=lo/\lo<=hi/\hi<=(xs.length:Int)/\q.1=lo.toNat/\q.2=hi.toNat - lo.toNat:=by
  unfold vw at h;split at h
  · rename_i J
    injection h with h
    exact⟨J.1,J.2.1,J.2.2,by rw[←h],by rw[←h]⟩
  ·cases h
def ixv (q n:Nat)(i:Int):Option Nat:=if 0<=i/\i<(n:Int) then some (q+i.toNat) else none
theorem E9 {q n:Nat}{i:Int}{j:Nat}(h:ixv q n i=some j):0<=i/\i<(n:Int)/\j=q+i.toNat:=by
  unfold ixv at h;split at h
  ·injection h with h;omega
  ·cases h
def clr {O:Type}(xs:List O)(q n:Nat)(z:O):Option (List O):=if q+n<=xs.length then some (spl xs q (Qw n z)) else none
def cpv {O:Type}(xs:List O)(p q:Nat×Nat):Option (List O):=if p.1+p.2<=xs.length/\q.1+q.2<=xs.length then some (spl xs p.1 ((xs.drop q.1).take (min q.2 p.2))) else none
section
variable {δ:List Nat}{ro:Option Nat}{P:Program}{W0:Bse}{m:M}{L:List (Nat×List Value)}{TL:List (Nat×Value)}{n:Nat}{a:Act}{l:List (Nat×Value)}{w:World}{ty t t2 e:TypeId}{pos:String}{aft:Array Edge}{g:Option (Nat×Bool)}{x y:Operand}{d:Nat}{O β:Type}{k:Kd O}{k':Kd β}{by_ N b i:Nat}{cs:List Value}{v:Value}{xs ys:List O}
theorem Dg {xh:Operand}{Z:IntKind}{hi:Int}(J:am δ n a l)(hx:evl l x=some v)(hu:P.underlying t=some (.slice e))(hs:∀w,(sizeOf e).run P w= .ok k.sz w)(hg:GS k m b cs v xs)(hh:evl l xh=some (.int Z hi))(a0:sub xs 0 hi=some ys):
    aM P ⟨some d,.slice t x none (some xh) none,ty,pos,aft,g⟩ a w (λv' w'=>w=w'/\GS k m b cs v' ys):=by
  obtain⟨h0,h1,h2,rfl⟩:=rD a0;have h:((xs.take hi.toNat).drop (0:Int).toNat).length=hi.toNat:=by simp;omega
  obtain⟨a2,⟨rfl,rfl,W,rfl,ha⟩|⟨cap,rfl,h3,h4,h5⟩⟩:=hg
  · have a1:hi.toNat=0:=by simp at h2;omega
    have:=nK (k:=k) (w:=w) (a:=W) (len:=0) (cap:=0) (lo:=none) (hi:=some (.int Z hi)) (lo':=0) (hi':=hi.toNat) hu hs rfl (by simp only;omega) (by omega) (by omega)
    have hr:aw P ⟨some d,.slice t x none (some xh) none,ty,pos,aft,g⟩ a w (.slice W 0 0) w:=by
      simp only[aw,execOp,J.eval hx,Qn,Option.map_none,J.eval hh];simp only[Sem.run_bind,this,Result.andThen_ok];simp[a1]
    exact hr.step ⟨rfl,by simp,.inl ⟨by simp,rfl,W,rfl,ha⟩⟩
  · have:=nK (k:=k) (w:=w) (a:=some ⟨b,0,none⟩) (len:=xs.length) (cap:=cap) (lo:=none) (hi:=some (.int Z hi)) (lo':=0) (hi':=hi.toNat) hu hs rfl (by simp only;omega) (by omega) (by omega)
    have hr:aw P ⟨some d,.slice t x none (some xh) none,ty,pos,aft,g⟩ a w (.slice (some ⟨b,0,none⟩) hi.toNat cap) w:=by
      simp only[aw,execOp,J.eval hx,Qn,Option.map_none,J.eval hh];simp only[Sem.run_bind,this,Result.andThen_ok]
      by_cases hc:cap=0
      ·simp[hc]
      ·simp[hc,ew]
    refine hr.step ⟨rfl,by rw[h];omega,.inr ⟨cap,by rw[h],by rw[h];omega,h4,?_⟩⟩;have h6:=h5.take hi.toNat;have h7:hi.toNat*k.sz<=xs.length*k.sz:=Jn _ (by omega);rw[Qa,Q4 h7] at h6;rw[h];exact h6
theorem rG {xl xh:Option Operand}{lo hi:Int}{q:Nat×Nat}(W:am δ n a l)(hx:evl l x=some v)(hu:P.underlying t=some (.slice e))(hs:∀w,(sizeOf e).run P w= .ok k.sz w)(hg:GS k m b cs v xs)
    (hl:match xl with|some o=>∃h,evl l o=some (.int h lo)|none=>lo=0) (hh:match xh with|some o=>∃h,evl l o=some (.int h hi)|none=>hi=(xs.length:Int)) (hv:vw xs lo hi=some q) {sz:Nat} (hz:k.sz=sz):
    aM P ⟨some d,.slice t x xl xh none,ty,pos,aft,g⟩ a w (λv' w'=>w=w'/\VS b sz v' q.1 q.2):=by
  obtain⟨h0,h1,h2,h3,h4⟩:=Hh hv;subst hz;obtain⟨J,cap,rfl,a2⟩:=hg.val
  have hr :aw P ⟨some d,.slice t x xl xh none,ty,pos,aft,g⟩ a w (.slice (if cap=lo.toNat then J else J.map (·.add (lo.toNat*k.sz))) (hi.toNat - lo.toNat) (cap - lo.toNat)) w:=by
    have:=nK (w:=w) (a:=J) (len:=xs.length) (cap:=cap) (lo:=xl.map a.eval) (hi:=xh.map a.eval) (lo':=lo.toNat) (hi':=hi.toNat) hu hs
      (by cases xl with
          |none=>simp at hl ⊢;omega
          |some o=>obtain⟨h,Z⟩:=hl;simp only[Qn,W.eval Z];omega)
      (by cases xh with
          |none=>simp at hh ⊢;omega
          |some o=>obtain⟨h,Z⟩:=hh;simp only[Qn,W.eval Z];omega) (by omega) (by omega)
    simp[aw,execOp,W.eval hx,this]
  refine hr.step ⟨rfl,?_⟩;rw[h3,h4];refine⟨_,_,rfl,λa3=>?_⟩;obtain⟨_,⟨rfl,_⟩|⟨a1,a0,_⟩⟩:=hg
  ·simp at h2;omega
  · injection a0 with e1 _ _
    subst e1;rw[if_neg (by omega)];simp[ew]
theorem IG {h:Array TypeId}{q len sz:Nat}(hE:am δ n a l)(W:evl l x=some v)(Z:h[0]? =some t)(hu:P.underlying t=some (.slice e))(J:VS b sz v q len):
    aw P ⟨some d,.call ⟨.builtin .len,#[x],h⟩,ty,pos,aft,g⟩ a w (.int .i64 (len:Int)) w:=by
  obtain⟨ad,cap,rfl,_⟩:=J;simp[aw,execOp,resolve,invoke,builtin,hE.eval W,Builtin.len_,Z,run_underlying hu,goInt]
theorem uC {kk:IntKind}{i:Int}{j sz q len:Nat}(h:am δ n a l)(hx:evl l x=some v)(hy:evl l y=some (.int kk i))(W:P.underlying t=some (.slice e))(hs:∀w,(sizeOf e).run P w= .ok sz w)(Z:VS b sz v q len)(hi:ixv q len i=some j):
    aw P ⟨some d,.indexAddr t x y,ty,pos,aft,g⟩ a w (.pointer (some ⟨b,j*sz,none⟩)) w:=by
  obtain⟨J,h1,rfl⟩:=E9 hi;obtain⟨ad,c,rfl,a0⟩:=Z;have e1:q*sz+i.toNat*sz=(q+i.toNat)*sz:=by rw[Q6]
  simp[aw,execOp,h.eval hx,h.eval hy,a0 (by omega),Instr.indexAt,asIntOf,run_underlying W,J,h1,hs,ew,e1]
theorem Dh {J:Array TypeId} {q len:Nat} {z:Value} {Z:O} {ys:List O} (hE:am δ n a l) (hS:S W0 m w L TL) (hx:evl l x=some v) (ht:J[0]? =some t) (hu:P.underlying t=some (.slice e)) (hz:∀w,(zeroValue e).run P w= .ok z w) (a4:∀m,k.R m z.cells.toList Z) {v0:Value} (W:L[i]? =some (b,cs)) (hg:GS k m b cs v0 xs) (hv:VS b k.sz v q len) (h:clr xs q len Z=some ys):
    aM P ⟨none,.call ⟨.builtin .clear,#[x],J⟩,ty,pos,aft,g⟩ a w (λ_ w'=>∃cs',GS k m b cs' v0 ys/\S W0 m w' (L.set i (b,cs')) TL):=by
  unfold clr at h;split at h
  · rename_i a2
    injection h with h;subst h
    obtain⟨ad,c,rfl,b2⟩:=hv;rcases Q9 len with h0|h0
    · subst h0
      have c0:i<L.length:=(zw.1 W).1
      have b0:L.set i (b,cs)=L:=by
        obtain⟨h1,h2⟩:=zw.1 W;rw[←h2];exact Zc h1
      have hr:aw P ⟨none,.call ⟨.builtin .clear,#[x],J⟩,ty,pos,aft,g⟩ a w (.tuple #[]) w:=by
        cases ad<;>simp[aw,execOp,resolve,invoke,builtin,hE.eval hx,Builtin.clear_,ht,run_underlying hu]
      exact hr.step ⟨cs,by simpa[spl] using hg,by rw[b0];exact hS⟩
    · have hR:Rl k m (Builtin.zeroCells z.cells len).toList (Qw len Z):=by
        have a1:=k.len (a4 m);have b1:z.cells.size=k.sz:=by simpa using a1
        refine⟨by simp[Builtin.zeroCells,b1],λj hj=>?_⟩;simp only[Xg];have b6:j<len:=by simpa using hj
        have b5:z.cells.size=k.sz:=by simpa using a1
        have e1:((Builtin.zeroCells z.cells len).toList.drop (j*k.sz)).take k.sz=z.cells.toList:=by
          apply Xc;intro r;rw[Z9,Qu];have h2:=gq (sz:=k.sz) b6
          by_cases hr':r<k.sz
          · rw[if_pos hr']
            have h3:(j*k.sz+r)%k.sz=r:=by rw[Xp,Nat.mul_add_mod];exact Xd hr'
            have h4:j*k.sz+r<len*k.sz:=by omega
            have a5:r<z.cells.size:=by omega
            have h5:z.cells[r]! =z.cells[r]:=getElem!_pos z.cells r a5;simp[Builtin.zeroCells,h4,b5,h3,h5,Array.getElem?_eq_getElem a5]
          ·rw[if_neg hr',Zt (by rw[a1];omega)]
        rw[e1];exact a4 m
      have b3:=hg.splice (q:=q) (by simpa using a2) hR;have b4:=hR.1;rw[Zu] at b4;obtain⟨_,⟨rfl,_⟩|⟨cap,rfl,h3,h4,h5⟩⟩:=hg
      ·simp at a2;omega
      have e1:(q+len)*k.sz<=xs.length*k.sz:=Jn _ a2;have e2:xs.length*k.sz<=cap*k.sz:=Jn _ h3;have e3:0<len*k.sz:=Zr h0 k.pos;rw[Q6] at e1;have a3:cs≠[]:=λe=>by subst e;simp at h4;omega
      obtain⟨hB,hm,t0,a9⟩:=hS.own i _ W a3;have a0:=dT (P:=P) _ b (q*k.sz) 0 cs t0 w a9 (by omega) hR.one;simp only[Qm] at a0
      have hr:aw P ⟨none,.call ⟨.builtin .clear,#[x],J⟩,ty,pos,aft,g⟩ a w (.tuple #[]) (w.setRow b (cs.take (q*k.sz)++(Builtin.zeroCells z.cells len).toList++cs.drop (q*k.sz+(Builtin.zeroCells z.cells len).toList.length)).toArray):=by
        have a6:=hE.eval hx;rw[b2 h0] at a6;have c1:len≠0:=by omega
        obtain⟨b7,rfl⟩:∃q,len=q+1:=⟨len - 1,by omega⟩
        simp only[aw,execOp,resolve,invoke,builtin,Builtin.clear_];simp[a6,ht,run_underlying hu,hz];simp at a0;simp[a0]
      exact hr.step ⟨_,b3,hS.setL W a3 _⟩
  ·cases h
theorem Di {u:Value} {p q:Nat×Nat} (Z:am δ n a l) (hS:S W0 m w L TL) (hx:evl l x=some v) (hy:evl l y=some u) (hu:P.underlying t=some (.slice e)) (hs:∀w,(sizeOf e).run P w= .ok k.sz w) (W:L[i]? =some (b,cs)) {v0:Value} (hg:GS k m b cs v0 xs) (hv:VS b k.sz v p.1 p.2) (hw:VS b k.sz u q.1 q.2) (h:cpv xs p q=some ys):
    aM P ⟨some d,.call ⟨.builtin .copy,#[x,y],#[t,t2]⟩,ty,pos,aft,g⟩ a w (λv' w'=>v'= .int .i64 (min q.2 p.2:Nat)/\∃cs',GS k m b cs' v0 ys/\S W0 m w' (L.set i (b,cs')) TL):=by
  unfold cpv at h;split at h
  · rename_i c0
    injection h with h;subst h
    obtain⟨a4,b7⟩:=c0;have c1:i<L.length:=(zw.1 W).1
    have b2:L.set i (b,cs)=L:=by
      obtain⟨h1,h2⟩:=zw.1 W;rw[←h2];exact Zc h1
    have a5:Nat.min q.2 p.2=min q.2 p.2:=rfl;obtain⟨ad,c,rfl,b4⟩:=hv;obtain⟨a2,c',rfl,b3⟩:=hw;rcases Q9 (min q.2 p.2) with h0|h0
    · have hr:aw P ⟨some d,.call ⟨.builtin .copy,#[x,y],#[t,t2]⟩,ty,pos,aft,g⟩ a w (.int .i64 (min q.2 p.2:Nat)) w:=by
        have a0:(Builtin.firstCells k.sz (min q.2 p.2) (.slice a2 q.2 c')).run P w= .ok #[] w:=by
          rw[h0];cases a2<;>simp[Builtin.firstCells,loadCells,loadCellsFrom]
        cases ad<;>simp[aw,execOp,resolve,invoke,builtin,Z.eval hx,Z.eval hy,Builtin.copy_,run_underlying hu,hs,Builtin.lenOf,a5,a0,goInt,storeCells]
      exact hr.step ⟨rfl,cs,by simpa[spl,h0] using hg,by rw[b2];exact hS⟩
    · have b5:=λ(news:List Value) J=>hg.splice (q:=p.1) (ys:=(xs.drop q.1).take (min q.2 p.2)) (news:=news) (by simp;omega) J
      obtain⟨_,⟨rfl,_⟩|⟨cap,rfl,h3,h4,h5⟩⟩:=hg
      ·simp at a4;omega
      have e1:(p.1+p.2)*k.sz<=xs.length*k.sz:=Jn _ a4;have e2:xs.length*k.sz<=cap*k.sz:=Jn _ h3;have e3:0<min q.2 p.2*k.sz:=Zr h0 k.pos;have e4:(q.1+q.2)*k.sz<=xs.length*k.sz:=Jn _ b7;have e5:min q.2 p.2*k.sz<=p.2*k.sz:=Jn _ (Nat.min_le_right _ _);have e6:min q.2 p.2*k.sz<=q.2*k.sz:=Jn _ (Nat.min_le_left _ _);rw[Q6] at e1 e4;have J:=(h5.drop q.1).take (min q.2 p.2)
      have e7:((cs.take (xs.length*k.sz)).drop (q.1*k.sz)).take (min q.2 p.2*k.sz)=(cs.drop (q.1*k.sz)).take (min q.2 p.2*k.sz):=by
        rw[Qd,Qa,Q4 (by omega)]
      rw[e7] at J;have b6:=b5 _ J;have a6:((cs.drop (q.1*k.sz)).take (min q.2 p.2*k.sz)).length=min q.2 p.2*k.sz:=by simp;omega
      have a3:cs≠[]:=λe=>by subst e;simp at h4;omega
      obtain⟨hB,hm,t0,b1⟩:=hS.own i _ W a3;have a1:=dT (P:=P) _ b (p.1*k.sz) 0 cs t0 w b1 (by omega) J.one;simp only[Qm] at a1;have hA:=hS.atL (o:=q.1*k.sz) (cs':=(cs.drop (q.1*k.sz)).take (min q.2 p.2*k.sz)) W (by rw[a6]) (by omega)
      have a0:(Builtin.firstCells k.sz (min q.2 p.2) (.slice (some ⟨b,q.1*k.sz,none⟩) q.2 c')).run P w= .ok ((cs.drop (q.1*k.sz)).take (min q.2 p.2*k.sz)).toArray w:=
        run_firstCells_some w _ _ _ _ _ _ a6 (λj v hj=>by rw[ew];exact hA.cell hj)
      have hr:aw P ⟨some d,.call ⟨.builtin .copy,#[x,y],#[t,t2]⟩,ty,pos,aft,g⟩ a w (.int .i64 (min q.2 p.2:Nat)) (w.setRow b (cs.take (p.1*k.sz)++(cs.drop (q.1*k.sz)).take (min q.2 p.2*k.sz)++cs.drop (p.1*k.sz+((cs.drop (q.1*k.sz)).take (min q.2 p.2*k.sz)).length)).toArray):=by
        have b0:=Z.eval hx;have a9:=Z.eval hy;rw[b4 (by omega)] at b0;rw[b3 (by omega)] at a9;simp only[aw,execOp,resolve,invoke,builtin,Builtin.copy_];simp[b0,a9,run_underlying hu,hs,Builtin.lenOf,a5,a0,goInt];simp at a1;simp[a1]
      exact hr.step ⟨rfl,_,b6,hS.setL W a3 _⟩
  ·cases h
theorem Hi {ps:Array (Nat×Operand)}{vs:List Value}{xs:List O}{z:Value}(hE:am δ n a l)(hS:S W0 m w L TL)(hp:prt l ps=some (num 0 vs))(hu:P.underlying t=some (.slice e))(hs:∀w,(sizeOf e).run P w= .ok k.sz w)(hz:∀w,(zeroValue e).run P w= .ok z w)(J:RVl k m vs xs)
    {len:Nat} (a0:vs.length=len) (a3:Zo (len*k.sz) 16777216=true):
    aM P ⟨some d,.buildSlice t len ps,ty,pos,aft,g⟩ a w (λv' w'=>∃b cs,GS k m b cs v' xs/\S W0 m w' ((b,cs)::L) TL):=by
  have hR:=J.cells;have W:=J.length;have a4:=zh a3;subst a0;have a2:=k.pos
  have a1:(Instr.buildSlice t vs.length (ps.map λp=>(p.1,a.eval p.2))).run P w= .ok (.slice (some ⟨w.heap.size,0,none⟩) vs.length vs.length) (w.alloc (.cells (gK vs).toArray e)):=by
    have Z:=λ(cs:Array Value) (h:cs.size=vs.length*k.sz)=>by
      have:=rE (sz:=k.sz) vs 0 cs.toList J.size (by simp[h]);simpa[h,Qx,Q8 (show cs.toList.length<=vs.length*k.sz by simp[h])] using this
    simp only[Instr.buildSlice,Sem.run_bind,run_underlying hu,Result.andThen_ok,hs,nf hE hp];rw[if_neg (by omega)]
    by_cases h0:vs.length*k.sz=0
    · simp only[h0,if_true,Sem.run_bind,Sem.run_pure,Result.andThen_ok]
      have:=Z ((Array.range 0).map (λx=>(#[]:Array Value)[x%(#[]:Array Value).size]!)) (by simp[h0]);rw[this];simp[newRow]
    · simp only[h0,if_false,Sem.run_bind,hz,Sem.run_pure,Result.andThen_ok]
      have:=Z ((Array.range (vs.length*k.sz)).map (λx=>z.cells[x%z.cells.size]!)) (by simp);rw[this];simp[newRow]
  have hr:aw P ⟨some d,.buildSlice t vs.length ps,ty,pos,aft,g⟩ a w (.slice (some ⟨w.heap.size,0,none⟩) vs.length vs.length) (w.alloc (.cells (gK vs).toArray e)):=by
    simp[aw,execOp,a1]
  refine hr.step ⟨w.heap.size,gK vs,?_,hS.allocL (gK vs) e⟩;rw[W];exact GS.of_Rl hR (by rw[←W];unfold bU;have:=Zv vs.length a2;simp at this;omega)
theorem Fa {kk:IntKind}{i:Int}{s:List Int}{c:Int}(J:am δ n a l)(hx:evl l x=some (.string (bts s)))(Z:evl l y=some (.int kk i))(hu:P.underlying t=some .string)(hs:∀n∈s,0<=n/\n<256)(hi:idx s i=some c):
    aw P ⟨some d,.index t x y,ty,pos,aft,g⟩ a w (.int .u8 c) w:=by
  obtain⟨W,h,rfl⟩:=ux hi
  have e1:(bts s)[i.toNat]? =some (UInt8.ofNat s[i.toNat].toNat):=by
    show(bts s).data[i.toNat]? =_;simp[bts,h]
  simp[aw,execOp,J.eval hx,J.eval Z,Instr.index,asIntOf,run_underlying hu,W,e1];have:=hs _ (Zk h);omega
theorem Fb {s:List Int}{i:Int}{c:Int}(h:∀n∈s,0<=n/\n<256)(hi:idx s i=some c):inR .u8 c:=by
  obtain⟨W,J,rfl⟩:=ux hi;have:=h _ (Zk J);unfold inR IntKind.wrap;simp[IntKind.bits,IntKind.signed];omega
end
open Go.RowKit (Below)
structure Wit where
 b:Nat
 v:Value
 c:List Value
 c':List Value
 c'':List Value
def wi (h:List Wit)(j:Nat):Wit:=h.getD j ⟨0,undef,[],[],[]⟩
theorem gQ {O:Type}{l:List O}(h:l.length=0):l=[]:=Q0 h
theorem yT {O:Type}{l:List O}(h:l.length=1):∃x,l=[x]:=match l,h with|[x],_=>⟨x,rfl⟩
theorem Og {a n:Nat}(h:a+n<=a):n=0:=by omega
theorem Mt {O:Type}{l:List O}{a n:Nat}(h:a+l.length<=a+(n+1)):l.length=0\/ ∃x r,l=x::r/\a+r.length<=a+n:=match l,h with
 |[],_=> .inl rfl
 |x::r,h=> .inr ⟨x,r,rfl,by simp at h;omega⟩
def ym (J:List Nat)(h:List Nat):Nat:=h.foldl (λx j=>x|||(J.getD j 0|||1 <<< j)) 0
def BQ (os:List Oper):List Nat:=os.foldl (λh o=>h++[ym h (aT o)]) []
structure COp where
 lo:Nat
 hi:Nat
 tur:Bool
 olds:List (Nat×Value)
abbrev xV(l:List (Nat×Value)):COp:=⟨0,0,false,l⟩
def COp.lv (c:COp):Nat:=if c.tur then c.lo+1 else c.lo
theorem xX (W:List Nat)(J:List Nat)(q:Nat):(ym W J).testBit q=true->∃j∈J,(W.getD j 0).testBit q=true\/q=j:=by
 unfold ym
 have key:∀(J:List Nat) (x:Nat),(J.foldl (λx j=>x|||(W.getD j 0|||1 <<< j)) x).testBit q=true->x.testBit q=true\/ ∃j∈J,(W.getD j 0).testBit q=true\/q=j:=by
  intro J
  induction J with
  |nil=>intro x h;exact .inl h
  | cons j r ih=>
   intro x h;rw[Xn] at h;rcases ih _ h with h|⟨Z,a0,h⟩
   ·simp only[Nat.testBit_or,Z6] at h
    rcases h with h|h|h
    ·exact .inl h
    ·exact .inr ⟨j,by simp,.inl h⟩
    ·refine .inr ⟨j,by simp,.inr ?_⟩
     rw[Nat.shiftLeft_eq,Nat.one_mul,Nat.testBit_two_pow] at h;exact(of_decide_eq_true h).symm
   ·exact .inr ⟨Z,by simp[a0],h⟩
 intro h;rcases key J 0 h with h|h
 ·simp at h
 ·exact h
theorem xk (os:List Oper)(s:Nat->Bool)(hc:∀(j:Nat)(o:Oper),os[j]? =some o->s j=true->∀e∈aT o,s e=true)(i:Nat)(o:Oper)(hi:os[i]? =some o)(Z:∀e∈aT o,s e=true)(a2:kW os=true):
  ∀q,((BQ os).getD i 0).testBit q=true->s q=true:=by
 have a3:∀(done rest:List Oper) (W:List Nat),os=done++rest->W.length=done.length->(∀i o,done[i]? =some o->(∀e∈aT o,s e=true)->∀q,(W.getD i 0).testBit q=true->s q=true)->
   ∀i o,os[i]? =some o->(∀e∈aT o,s e=true)->∀q,((rest.foldl (λW o=>W++[ym W (aT o)]) W).getD i 0).testBit q=true->s q=true:=by
  intro done rest
  induction rest generalizing done with
  |nil=>intro W he hl h i o hi Z q J;simp at he;subst he;exact h i o hi Z q J
  | cons x r ih=>
   intro W he hl h i o hi Z q J;rw[Xn] at J;refine ih (done++[x]) _ (by simp[he]) (by simp[hl]) ?_ i o hi Z q J;intro i o hi Z q J;rcases Zh i done.length with h1|h1
   ·rw[Qk h1] at hi
    refine h i o hi Z q ?_;rw[Ze,Qk (by omega)] at J;rw[Ze];exact J
   ·rw[Qi h1] at hi
    have h2:i=done.length:=by
     have:=(zw.1 hi).1;simp at this;omega
    subst h2;simp at hi;subst hi;rw[Ze,Qi (by omega)] at J;simp[hl] at J;obtain⟨j,hj,h3⟩:=xX _ _ _ J;have a0:=Z j hj;rcases h3 with h3|h3
    ·have a1:j<done.length:=iM a2 (i:=done.length) (o:=x) (by rw[he];simp) j hj
     have ho:done[j]? =some done[j]:=by simp[a1]
     exact h j done[j] ho (hc j done[j] (by rw[he,Qk a1];exact ho) a0) q h3
    ·subst h3;exact a0
 exact a3 [] os [] (by simp) rfl (λi o hi=>by simp at hi) i o hi Z
section
variable {δ:List Nat}{ro:Option Nat}{P:Program}{W0:Bse}{m:M}{L:List (Nat×List Value)}{TL:List (Nat×Value)}{n:Nat}{a:Act}{l:List (Nat×Value)}{w:World}
theorem l7 {ops:Array Oper}{a:Act}{g W:Nat}(Z:bW ops g=some W)(J:a.tmps.getD W undef=undef):yielded ops a.tmps g=none:=by
 unfold bW at Z;unfold yielded;rw[Z];simp only[Z3];rw[Array.getD_eq_getD_getElem?] at J;cases h:a.tmps[W]? with
 |none=>rfl
 |some v=>rw[h] at J;simp at J;rw[J];rfl
def ChS (δ:List Nat)(P:Program)(os:List Oper)(Φ:Nat->M->List Wit->Value->Prop)(Q:Nat->M->List Wit->List (Nat×List Value)->List (Nat×Value)->Prop)(W0:Bse)(m:M)(n:Nat)(cs:List COp)(i:Nat)(c:COp)(o:Oper):Prop:=
 ∀pre post L' TL' m' a w,pre.length=c.lo->c.lo+post.length<=c.hi->M.le m m'->Q (c.lo+post.length) m' (pre++post) L' TL'->S W0 m' w L' TL'->am δ n a c.olds->
  (∀j∈aT o,∀d,bW os.toArray j=some d->Φ j m' (pre.take ((cs.map COp.lv).getD j 0)) (a.tmps.getD d undef))->
  if Region.wanted o (yielded os.toArray a.tmps)=true then aM P o a w (λv w'=>∃m'',M.le m' m''/\S W0 m'' w' L' TL'/\Φ i m'' pre v) else Φ i m' pre undef
def ChM (δ:List Nat)(P:Program)(os:List Oper)(Φ:Nat->M->List Wit->Value->Prop)(Q:Nat->M->List Wit->List (Nat×List Value)->List (Nat×Value)->Prop)(W0:Bse)(m:M)(n:Nat)(cs:List COp)(i:Nat)(c:COp)(o:Oper):Prop:=
 ∀pre L' TL' m' a w,pre.length=c.lo->M.le m m'->Q c.lo m' pre L' TL'->S W0 m' w L' TL'->am δ n a c.olds->
  (∀j∈aT o,∀d,bW os.toArray j=some d->Φ j m' (pre.take ((cs.map COp.lv).getD j 0)) (a.tmps.getD d undef))->
  Region.wanted o (yielded os.toArray a.tmps)=true/\aM P o a w (λv w'=>∃m'' wit L'' TL'',M.le m' m''/\S W0 m'' w' L'' TL''/\Q (c.lo+1) m'' (pre++[wit]) L'' TL''/\Φ i m'' (pre++[wit]) v)
def yn (δ:List Nat)(P:Program)(os:List Oper)(Φ:Nat->M->List Wit->Value->Prop)(Q:Nat->M->List Wit->List (Nat×List Value)->List (Nat×Value)->Prop)(W0:Bse)(m:M)(n:Nat)(cs:List COp):Nat->List COp->List Oper->Prop
 |i,c::r,o::ro=>(match c.tur with|true=>ChM δ P os Φ Q W0 m n cs i c o|false=>ChS δ P os Φ Q W0 m n cs i c o)/\yn δ P os Φ Q W0 m n cs (i+1) r ro
 |_,_,_=>True
def Dj (os:List Oper)(i:Nat)(d:Nat):Bool:=os.zipIdx.all λp=>match p.1.dst with|some e=> !(Zm e d)||(aT p.1).any (Zm i)|none=>true
def qP (os:List Oper)(n:Nat):Bool:=
 os.zipIdx.all (λp=>match p.1.dst with|some d=>Qz d n|none=>true)&&(os.zipIdx.all λp=>os.zipIdx.all λq=>Zm p.2 q.2||(match p.1.dst,q.1.dst with|some d,some e=> !(Zm d e)|_,_=>true))
def ch1 (os:List Oper)(h:List Nat)(es:List Nat)(cs:List COp)(i:Nat)(c:COp)(o:Oper):Bool:=
 (Qc c.lo).all (λq=>Qz q es.length&&(h.getD i 0).testBit (es.getD q 0))&&
 (Qc es.length).all (λq=>Qz q (if c.tur then c.lo+1 else c.hi)||(h.getD (es.getD q 0) 0).testBit i)&&
 (aT o).all (λj=>Zo ((cs.map COp.lv).getD j 0) c.lo)&&
 (match c.tur with|true=>Qz c.lo es.length&&Zm (es.getD c.lo 0) i|false=>es.all λe=> !(Zm e i))&&
 c.olds.all (λe=>Dj os i e.1)
def ch2 (J os:List Oper)(h:List Nat)(es:List Nat)(cs0:List COp):Nat->List COp->List Oper->Bool
 |i,c::r,o::ro=>ch1 os h es cs0 i c o&&ch2 J os h es cs0 (i+1) r ro
 |_,_,_=>true
def qQ:List Nat->Bool
 |[]=>true
 |x::r=>r.all (λy=> !(Zm x y))&&qQ r
def Fc (os:List Oper)(es:List Nat)(cs:List COp)(k n:Nat):Bool:=
 Zm cs.length k&&qQ es&&es.all (λe=>Qz e k&&Qz e os.length)&&qP (os.take k) n&&ch2 os (os.take k) (BQ os) es cs 0 cs os
def yo (l0:List (Nat×Value)):List COp->Prop
 |[]=>True
 |c::cs=>Sub l0 c.olds/\yo l0 cs
theorem xn:∀{es:List Nat},qQ es=true->∀(p q:Nat) (x:Nat),es[p]? =some x->es[q]? =some x->p=q
 |[],_,p,q,x,h,_=>by simp at h
 | y::r,h,p,q,x,hp,hq=>by
  unfold qQ at h;rw[Qg] at h
  have J:∀j,r[j]? =some y->False:=λj W=>by
   have:=Q7.1 h.1 y (Qo W);simp at this
  cases p with
  |zero=>
   simp at hp;subst hp;cases q with
   |zero=>rfl
   |succ q=>exact(J q (by simpa using hq)).elim
  |succ p=>
   cases q with
   |zero=>simp at hq;subst hq;exact(J p (by simpa using hp)).elim
   |succ q=>rw[xn h.2 p q x (by simpa using hp) (by simpa using hq)]
theorem IH {os:List Oper}{id k:Nat}{es:List Nat}{cs:List COp}{Φ:Nat->M->List Wit->Value->Prop}{Q:Nat->M->List Wit->List (Nat×List Value)->List (Nat×Value)->Prop}{N Rt:Act->World->Prop}{X:List (Nat×(Act->World->Prop))}
  (hm:P.follows .mixedOrders=true) (hE:am δ n a l) (hS:S W0 m w L TL) (hQ:Q 0 m [] L TL) (c1:kW os=true) (f6:lJ os k=true) (g0:yo l cs) (c7:Fc os es cs k n=true)
  (mono:∀i m m' J v,M.le m m'->Φ i m J v->Φ i m' J v) (g2:∀c m m' J L T,M.le m m'->Q c m J L T->Q c m' J L T)
  (step:yn δ P os Φ Q W0 m n cs 0 cs os)
  (j4:∀J L' a1 m' a w,J.length=es.length->M.le m m'->Q es.length m' J L' a1->S W0 m' w L' a1->a.defers=δ.map (λD=>{ target:= .collected D,args:= #[] })->a.tmps.size=n->(∀d v,lk l d=some v->(∀j,j<k->bW os.toArray j≠some d)->a.tmps.getD d undef=v)->
   (∀j,j<min k os.length->∀d,bW os.toArray j=some d->Φ j m' (J.take ((cs.map COp.lv).getD j 0)) (a.tmps.getD d undef))->wpL ro P os.toArray (mkQ N X Rt) (os.drop k) a w):K ro P (.region id os.toArray true) N X Rt a w:=by
 unfold Fc at c7;simp only[Qg] at c7;obtain⟨⟨⟨⟨hk,f3⟩,hes⟩,hd⟩,hch⟩:=c7;have hk:=Q3 hk;unfold qP at hd;rw[Qg] at hd
 have mem:∀(i:Nat) (o:Oper),os[i]? =some o->i<k->(o,i)∈(os.take k).zipIdx:=λi o hi a4=>by
  rw[Qt];simp[a4,hi]
 have k5:∀(i:Nat) (o:Oper),os[i]? =some o->i<k->∀d,o.dst=some d->d<n:=λi o hi a4 d a2=>by
  have:=Q7.1 hd.1 (o,i) (mem i o hi a4);simp only[a2] at this;exact zh this
 have i2:∀(i j:Nat) (o o':Oper),os[i]? =some o->os[j]? =some o'->i<k->j<k->i≠j->∀d e,o.dst=some d->o'.dst=some e->d≠e:=λi j o o' hi hj a4 a5 g4 d e a2 b3 j2=>by
  have W:=Q7.1 hd.2 _ (mem i o hi a4);have h2:=Q7.1 W _ (mem j o' hj a5);simp only[a2,b3,Z6,Qs] at h2;rcases h2 with h2|h2
  ·exact g4 (Q3 h2)
  ·subst j2;simp at h2
 have b4:∀(j d:Nat),bW os.toArray j=some d↔ ∃o,os[j]? =some o/\o.dst=some d:=λj d=>by
  unfold bW;cases ho:os[j]? with
  |none=>simp[ho]
  |some o=>simp[ho]
 have k3:∀(r:List COp) (ro:List Oper) (q:Nat),yn δ P os Φ Q W0 m n cs q r ro->yo l r->ch2 os (os.take k) (BQ os) es cs q r ro=true->∀(i:Nat) (o:Oper) (c:COp),ro[i]? =some o->r[i]? =some c->(∀e∈c.olds,lk l e.1=some e.2)/\ch1 (os.take k) (BQ os) es cs (q+i) c o=true/\
   (match c.tur with|true=>ChM δ P os Φ Q W0 m n cs (q+i) c o|false=>ChS δ P os Φ Q W0 m n cs (q+i) c o):=by
  intro r
  induction r with
  |nil=>intro ro q _ _ _ i o c _ h;simp at h
  | cons c0 r ih=>
   intro ro q hD e5 hC i o c hi hc;cases ro with
   |nil=>simp at hi
   | cons o0 ro=>
    unfold ch2 at hC;rw[Qg] at hC;cases i with
    |zero=>
     simp at hi hc;subst hi;subst hc;exact⟨e5.1.all,hC.1,hD.1⟩
    |succ i=>
     have:=ih ro (q+1) hD.2 e5.2 hC.2 i o c (by simpa using hi) (by simpa using hc);rw[show q+1+i=q+(i+1) by omega] at this;exact this
 have b6:∀q,q<es.length->∃e,es[q]? =some e/\es.getD q 0=e/\e<k/\∃o,os[e]? =some o:=λq hq=>by
  have W:=Q7.1 hes es[q] (Zk hq);rw[Qg] at W;have h2:es[q]<os.length:=zh W.2;exact⟨es[q],by simp[hq],by simp[List.getD,hq],zh W.1,os[es[q]],by simp[h2]⟩
 refine yL (k:=k) hm c1 f6 (λs a w=>∃J L' a1 m',J.length<=es.length/\(∀q e,es[q]? =some e->(s e=true↔q<J.length))/\M.le m m'/\Q J.length m' J L' a1/\S W0 m' w L' a1/\a.defers=δ.map (λD=>{ target:= .collected D,args:= #[] })/\a.tmps.size=n/\(∀d v,lk l d=some v->(∀j,j<k->bW os.toArray j=some d->s j=false)->a.tmps.getD d undef=v)/\
  (∀j,j<k->s j=true->(cs.map COp.lv).getD j 0<=J.length/\∀d,bW os.toArray j=some d->Φ j m' (J.take ((cs.map COp.lv).getD j 0)) (a.tmps.getD d undef))) ?_ ?_ ?_
 ·exact⟨[],L,TL,m,by simp,λq e _=>by simp,M.le.refl m,hQ,hS.drew,hE.defers,hE.size,λd v hv _=>hE.at_ d v hv,λj _ h=>(Bool.false_ne_true h).elim⟩
 ·intro i o ho a4 s a w ⟨J,L',a1,m',hwl,hst,hle,hq,hS',hdf,hsz,holdv,hphi⟩ hsi hpre hcl
  have i0:∃c,cs[i]? =some c:=⟨cs[i]'(by omega),by simp[show i<cs.length by omega]⟩
  obtain⟨c,hc⟩:=i0;obtain⟨f0,b7,a9⟩:=k3 cs os 0 step g0 hch i o c ho hc;rw[Zi] at b7 a9;unfold ch1 at b7;simp only[Qg] at b7;obtain⟨⟨⟨⟨f4,d0⟩,hpl⟩,hmt⟩,hold1⟩:=b7;have e7:(cs.map COp.lv).getD i 0=c.lv:=by simp[List.getD,hc]
  have i4:c.lo<=J.length:=by
   rcases Q9 c.lo with h0|h0
   ·omega
   ·have W:=Q7.1 f4 (c.lo - 1) (by simp;omega)
    rw[Qg] at W;have h2:c.lo - 1<es.length:=zh W.1;obtain⟨e,Z,b0,_,_⟩:=b6 _ h2;rw[b0] at W;have h3:=xk os s hcl i o ho hpre c1 e W.2;have:=(hst _ _ Z).1 h3;omega
  have e6:am δ n a c.olds:=by
   have e1:∀e∈c.olds,Dj (os.take k) i e.1=true:=λe Z=>Q7.1 hold1 e Z;clear a9 e7;generalize c.olds=li at*;refine⟨hdf,hsz,λj v hj=>?_⟩
   have:∃e∈li,e=(j,v):=by
    clear f0 e1 hold1
    induction li with
    |nil=>simp[lk] at hj
    | cons e r ih=>
     obtain⟨i',u⟩:=e;simp only[lk] at hj;split at hj
     ·rename_i hb
      have:=Q3 hb;subst this;injection hj with hj
      subst hj;exact⟨_,by simp,rfl⟩
     ·obtain⟨e,Z,rfl⟩:=ih hj
      exact⟨_,by simp[Z],rfl⟩
   obtain⟨e,Z,rfl⟩:=this;refine holdv j v (f0 _ Z) λq hq g1=>?_;obtain⟨o',a3,b1⟩:=(b4 q j).1 g1;have h3:=Q7.1 (e1 _ Z) (o',q) (mem q o' a3 hq);simp only[b1,Z6,Qs] at h3
   have h4:i∈aT o':=by
    rcases h3 with h3|h3
    ·simp at h3
    ·obtain⟨e,Z,hb⟩:=Zw.1 h3
     have:=Q3 hb;subst this;exact Z
   cases hs:s q with
   |false=>rfl
   |true=>have:=hcl q o' a3 hs i h4;rw[hsi] at this;cases this
  have hT:∀j∈aT o,∀d,bW os.toArray j=some d->Φ j m' ((J.take c.lo).take ((cs.map COp.lv).getD j 0)) (a.tmps.getD d undef):=λj hj d hd=>by
   have W:=(hphi j (by have:=iM c1 ho j hj;omega) (hpre j hj)).2 d hd;have h2:=zh (Q7.1 hpl j hj);rw[Qa,Q4 h2];exact W
  have e4:∀u:Value,(a.put o.dst u).tmps.size=n:=λu=>by cases a2:o.dst<;>simp[Act.put,hsz]
  have e8:∀u:Value,(a.put o.dst u).defers=δ.map (λD=>{ target:= .collected D,args:= #[] }):=λu=>by cases a2:o.dst<;>simp[Act.put,hdf]
  have e9:∀(u:Value),∀e v,lk l e=some v->(∀j,j<k->bW os.toArray j=some e->upd s i j=false)->(a.put o.dst u).tmps.getD e undef=v:=by
   intro u e v hv hj
   have h5:=holdv e v hv (λj a5 c3=>by
    have:=hj j a5 c3;unfold upd at this;split at this
    ·cases this
    ·exact this)
   cases a2:o.dst with
   |none=>simpa[Act.put] using h5
   | some d=>
    have c4:d≠e:=λx=>by
     subst x;have:=hj i a4 ((b4 i d).2 ⟨o,ho,a2⟩);simp[upd] at this
    simpa[Act.put,Array.getElem?_setIfInBounds_ne c4] using h5
  have e3:∀(u:Value) (a0:M) (b2:List Wit),Φ i a0 (b2.take c.lv) u->M.le m' a0->c.lv<=b2.length->(∃r,b2=J++r)->(∀j,j<k->upd s i j=true->(cs.map COp.lv).getD j 0<=b2.length/\∀e,bW os.toArray j=some e->Φ j a0 (b2.take ((cs.map COp.lv).getD j 0)) ((a.put o.dst u).tmps.getD e undef)):=by
   intro u a0 b2 hu k4 g3 ⟨rr,hrr⟩ j a5 hj
   by_cases hji:j=i
   ·subst hji
    rw[e7];refine⟨g3,λe Z=>?_⟩;obtain⟨o',a3,b1⟩:=(b4 j e).1 Z;rw[ho] at a3;injection a3 with a3;subst a3
    have h9:=k5 j o ho a5 e b1;rw[b1];have:(a.put (some e) u).tmps.getD e undef=u:=by simp[Act.put,hsz,h9]
    rw[this];exact hu
   ·unfold upd at hj
    rw[if_neg hji] at hj;obtain⟨h6,h7⟩:=hphi j a5 hj;refine⟨by rw[hrr,X9];omega,λe Z=>?_⟩;have h8:=mono j m' a0 _ _ k4 (h7 e Z);rw[hrr,Q2 h6];cases a2:o.dst with
    |none=>simpa[Act.put] using h8
    |some d=>
     obtain⟨o',a3,b1⟩:=(b4 j e).1 Z;have c4:=i2 i j o o' ho a3 a4 a5 (λx=>hji x.symm) d e a2 b1;have:(a.put (some d) u).tmps.getD e undef=a.tmps.getD e undef:=by simp[Act.put,Array.getElem?_setIfInBounds_ne c4]
     rw[this];exact h8
  cases hmu:c.tur with
  | true=>
   rw[hmu] at hmt a9;simp only[hmu,if_true] at d0;simp only[Qg] at hmt;have i1:c.lo<es.length:=zh hmt.1;have f5:=Q3 hmt.2;obtain⟨e,Z,b0,_,_⟩:=b6 _ i1;rw[f5] at b0;subst b0
   have c5:J.length=c.lo:=by
    rcases Zh c.lo J.length with h|h
    ·have:=(hst _ _ Z).2 h
     rw[hsi] at this;cases this
    ·omega
   have c2:c.lv=c.lo+1:=by simp[COp.lv,hmu]
   have i3:J.take c.lo=J:=Q1 (by omega);rw[c5] at hq;obtain⟨hw,i5⟩:=a9 J L' a1 m' a w c5 hle hq hS' e6 (by rw[i3] at hT;exact hT);rw[if_pos hw];refine i5.imp λv w' ⟨a0,c6,g5,k0,W,h2,h3,h4⟩=>?_;refine⟨J++[c6],g5,k0,a0,by simp;omega,λq e' a6=>?_,hle.trans W,by simp;rw[c5];exact h3,h2,e8 v,e4 v,e9 v,e3 v a0 (J++[c6]) ?_ W (by simp;omega) ⟨[c6],rfl⟩⟩
   ·unfold upd
    by_cases h5:e'=i
    ·subst h5
     have:=xn f3 q c.lo e' a6 Z;simp;omega
    ·rw[if_neg h5,hst q e' a6]
     have:q≠c.lo:=λx=>by subst x;rw[Z] at a6;injection a6 with a6;exact h5 a6.symm
     simp;omega
   ·rw[Q1 (by simp;omega)];exact h4
  | false=>
   rw[hmu] at hmt a9;simp only[hmu,Z8,if_false] at d0;have c2:c.lv=c.lo:=by simp[COp.lv,hmu]
   have k6:J.length<=c.hi:=by
    rcases Zh c.hi J.length with h|h
    ·exfalso
     have h0:c.hi<es.length:=by omega
     have W:=Q7.1 d0 c.hi (by simpa using h0);rw[Z6] at W;obtain⟨e,Z,b0,d2,oe,b3⟩:=b6 _ h0;rcases W with W|W
     ·have:=zh W;omega
     ·rw[b0] at W
      have h2:=(hst _ _ Z).2 h;have h3:=xk os s hcl e oe b3 (hcl e oe b3 h2) c1 i W;rw[hsi] at h3;cases h3
    ·exact h
   have d1:(J.drop c.lo).length=J.length - c.lo:=by simp
   have j1:Q (c.lo+(J.drop c.lo).length) m' (J.take c.lo++J.drop c.lo) L' a1:=by
    rw[Qh,d1,show c.lo+(J.length - c.lo)=J.length by omega];exact hq
   have b5:=a9 (J.take c.lo) (J.drop c.lo) L' a1 m' a w (by simp;omega) (by rw[d1];omega) hle j1 hS' e6 hT
   have next:∀(v:Value) (w':World) (a0:M),M.le m' a0->S W0 a0 w' L' a1->Φ i a0 (J.take c.lo) v->∃J L' a1 m',J.length<=es.length/\(∀q e,es[q]? =some e->(upd s i e=true↔q<J.length))/\M.le m m'/\Q J.length m' J L' a1/\S W0 m' w' L' a1/\(a.put o.dst v).defers=δ.map (λD=>{ target:= .collected D,args:= #[] })/\(a.put o.dst v).tmps.size=n/\(∀d u,lk l d=some u->(∀j,j<k->bW os.toArray j=some d->upd s i j=false)->(a.put o.dst v).tmps.getD d undef=u)/\
     (∀j,j<k->upd s i j=true->(cs.map COp.lv).getD j 0<=J.length/\∀d,bW os.toArray j=some d->Φ j m' (J.take ((cs.map COp.lv).getD j 0)) ((a.put o.dst v).tmps.getD d undef)):=by
    intro v w' a0 W h2 h3;refine⟨J,L',a1,a0,hwl,λq e Z=>?_,hle.trans W,g2 _ _ _ _ _ _ W hq,h2,e8 v,e4 v,e9 v,e3 v a0 J (by rw[c2];exact h3) W (by rw[c2];exact i4) ⟨[],by simp⟩⟩
    have h5:e≠i:=λx=>by
     subst x;have:=Q7.1 hmt e (Qo Z);simp at this
    unfold upd;rw[if_neg h5];exact hst q e Z
   split
   ·rename_i hw
    rw[if_pos hw] at b5;exact b5.imp λv w' ⟨a0,W,h2,h3⟩=>next v w' a0 W h2 h3
   ·rename_i hw
    rw[if_neg hw] at b5;exact next undef w m' (M.le.refl _) hS' b5
 ·intro s a w ⟨J,L',a1,m',hwl,hst,hle,hq,hS',hdf,hsz,holdv,hphi⟩ hall
  have e0:J.length=es.length:=by
   rcases Zh J.length es.length with h|h
   ·obtain⟨e,Z,_,d2,oe,b3⟩:=b6 _ h
    have:=(hst _ _ Z).1 (hall e d2 (zw.1 b3).1);omega
   ·omega
  rw[e0] at hq
  exact j4 J L' a1 m' a w e0 hle hq hS' hdf hsz (λd v hv g6=>holdv d v hv (λj hj c3=>absurd c3 (g6 j hj)))
   (λj hj d hd=>(hphi j (by omega) (hall j (by omega) (by omega))).2 d hd)
end
section
variable {δ:List Nat}{ro:Option Nat}{P:Program}{os:List Oper}{Φ:Nat->M->List Wit->Value->Prop}{Q:Nat->M->List Wit->List (Nat×List Value)->List (Nat×Value)->Prop}{W0:Bse}{m:M}{n:Nat}{cs:List COp}{i:Nat}{c:COp}{dst:Option Tmp}{op:Op}{ty:TypeId}{pos:String}{aft:Array Edge}
theorem Dk (h:∀J W L' Z m' a w,J.length=c.lo->c.lo+W.length<=c.hi->M.le m m'->Q (c.lo+W.length) m' (J++W) L' Z->S W0 m' w L' Z->am δ n a c.olds->
  (∀j∈aT ⟨dst,op,ty,pos,aft,none⟩,∀d,bW os.toArray j=some d->Φ j m' (J.take ((cs.map COp.lv).getD j 0)) (a.tmps.getD d undef))->
  aM P ⟨dst,op,ty,pos,aft,none⟩ a w (λv w'=>∃m'',M.le m' m''/\S W0 m'' w' L' Z/\Φ i m'' J v)):
  ChS δ P os Φ Q W0 m n cs i c ⟨dst,op,ty,pos,aft,none⟩:=λJ W L' Z m' a w h1 h2 h3 h4 h5 h6 h7=>by
 rw[if_pos (by rfl)];exact h J W L' Z m' a w h1 h2 h3 h4 h5 h6 h7
theorem yp (h:∀J Z W m' a w,J.length=c.lo->M.le m m'->Q c.lo m' J Z W->S W0 m' w Z W->am δ n a c.olds->
  (∀j∈aT ⟨dst,op,ty,pos,aft,none⟩,∀d,bW os.toArray j=some d->Φ j m' (J.take ((cs.map COp.lv).getD j 0)) (a.tmps.getD d undef))->
  aM P ⟨dst,op,ty,pos,aft,none⟩ a w (λv w'=>∃m'' wit L'' TL'',M.le m' m''/\S W0 m'' w' L'' TL''/\Q (c.lo+1) m'' (J++[wit]) L'' TL''/\Φ i m'' (J++[wit]) v)):
  ChM δ P os Φ Q W0 m n cs i c ⟨dst,op,ty,pos,aft,none⟩:=λJ Z W m' a w h1 h3 h4 h5 h6 h7=>⟨rfl,h J Z W m' a w h1 h3 h4 h5 h6 h7⟩
theorem II {g dg:Nat}{b:Bool}(hd:bW os.toArray g=some dg)(hn:Qz dg n=true)(hg:g∈aT ⟨dst,op,ty,pos,aft,some (g,b)⟩)(hq:∀m ws v,Φ g m ws v->v= .bool b)
  (h:∀J W L' Z m' a w,J.length=c.lo->c.lo+W.length<=c.hi->M.le m m'->Q (c.lo+W.length) m' (J++W) L' Z->S W0 m' w L' Z->am δ n a c.olds->
  (∀j∈aT ⟨dst,op,ty,pos,aft,some (g,b)⟩,∀d,bW os.toArray j=some d->Φ j m' (J.take ((cs.map COp.lv).getD j 0)) (a.tmps.getD d undef))->
  aM P ⟨dst,op,ty,pos,aft,some (g,b)⟩ a w (λv w'=>∃m'',M.le m' m''/\S W0 m'' w' L' Z/\Φ i m'' J v)):
  ChS δ P os Φ Q W0 m n cs i c ⟨dst,op,ty,pos,aft,some (g,b)⟩:=λJ W L' Z m' a w h1 h2 h3 h4 h5 h6 h7=>by
 have hy:=sV h6 hd hn (hq _ _ _ (h7 g hg dg hd));rw[if_pos (by simp[Region.wanted,hy])];exact h J W L' Z m' a w h1 h2 h3 h4 h5 h6 h7
theorem Mu {g J:Nat}{b b':Bool}(W:bW os.toArray g=some J)(hn:Qz J n=true)(hg:g∈aT ⟨dst,op,ty,pos,aft,some (g,b')⟩)(Z:∀m ws v,Φ g m ws v->v= .bool b)(hb:b≠b')(h:∀m ws,Φ i m ws undef):
  ChS δ P os Φ Q W0 m n cs i c ⟨dst,op,ty,pos,aft,some (g,b')⟩:=λa1 a0 L' a2 m' a w h1 h2 h3 h4 h5 h6 h7=>by
 have hy:=sV h6 W hn (Z _ _ _ (h7 g hg J W));rw[if_neg (by simp[Region.wanted,hy,hb])];exact h _ _
end
section
variable {δ:List Nat}{ro:Option Nat}{P:Program}{ops:Array Oper}{Q:Exit->Act->World->Prop}{rest:List Oper}{a:Act}{w:World}{n:Nat}{l:List (Nat×Value)}{d:Nat}{op:Op}{ty:TypeId}{pos:String}{aft:Array Edge}
theorem sxu {g:Nat}{b':Bool}{o:Oper}{h:Nat}(J:am δ n a l)(W:ops[g]? =some o)(Z:o.dst=some h)(hl:lk l h=some undef)
  (hd:Qz d n=true) (k:∀a',am δ n a' ((d,undef)::l)->wpL ro P ops Q rest a' w):
  wpL ro P ops Q (⟨some d,op,ty,pos,aft,some (g,b')⟩::rest) a w:=
 wpListIn_step λK hK=>by
  have hy:yielded ops a.tmps g=none:=l7 (by unfold bW;rw[W];exact Z) (J.at_ h _ hl);have:((none:Option Bool)==some b')=false:=rfl;simp only[Region.wanted,hy,this,Z8,if_false];exact⟨λ_ _=>trivial,hK _ _ (k _ (J.put hd undef))⟩
end
open Go.RowKit (Below)
def BR (P:Program)(h:Value)(vs:List Value)(w:World)(R:Value->World->Prop):Prop:=
 ∀(dst:Option Tmp) (ty:TypeId) (pos:String) (aft:Array Edge) (g:Option (Nat×Bool)) (x:Operand) (xs:Array Operand) (J:Array TypeId) (a:Act),a.eval x=h->xs.map a.eval=vs.toArray->aM P ⟨dst,.call ⟨.value x,xs,J⟩,ty,pos,aft,g⟩ a w R
theorem BR.of_func {P:Program}{f:FuncId}{first cap:Array Value}{vs:List Value}{w:World}{R:Value->World->Prop}(a0:∀vs w,(callFunc f vs).run P w= .ok (.enter f vs) w)(Z:Calls P f (first++vs.toArray++cap) w (Ret R)):BR P (.func (.func f) first cap) vs w R:=by
 intro dst ty pos aft g x xs a1 a hx J ro Kk Q hk
 have W:(execOp a.eval ⟨dst,.call ⟨.value x,xs,a1⟩,ty,pos,aft,g⟩).run P w= .ok (.enter f (first++vs.toArray++cap)) w:=by
  simp[execOp,resolve,hx,Deferred.ofValue,invoke,J,a0]
 refine pO W (Z.mono λe w' h=>?_);cases e with
 |returned v=>exact hk v w' h
 |panicked ch=>exact h.elim
 |outgrown=>exact h.elim
def Fn1 {O β:Type}(P:Program)(ka:Kd O)(kb:Kd β)(m0:M)(h:Value)(f:O->Option β):Prop:=
 ∃(g:FuncId) (cb:Array Value),h= .func (.func g) #[] cb/\(∀vs w,(callFunc g vs).run P w= .ok (.enter g vs) w)/\
  ∀(W0:Bse) (m:M) (w:World) (L:List (Nat×List Value)) (TL:List (Nat×Value)) (v:Value) (x:O) (r:β),M.le m0 m->S W0 m w L TL->RV ka m v x->f x=some r->Calls P g (#[v]++cb) w (Ret λv' w'=>∃m',M.le m m'/\S W0 m' w' L TL/\RV kb m' v' r)
def Fn2 {O α' β:Type}(P:Program)(ka:Kd O)(ka':Kd α')(kb:Kd β)(m0:M)(J:Value)(f:O->α'->Option β):Prop:=
 ∃(g:FuncId) (cb:Array Value),J= .func (.func g) #[] cb/\(∀vs w,(callFunc g vs).run P w= .ok (.enter g vs) w)/\
  ∀(W0:Bse) (m:M) (w:World) (L:List (Nat×List Value)) (TL:List (Nat×Value)) (v v':Value) (x:O) (h:α') (r:β),M.le m0 m->S W0 m w L TL->RV ka m v x->RV ka' m v' h->f x h=some r->Calls P g (#[v,v']++cb) w (Ret λu w'=>∃m',M.le m m'/\S W0 m' w' L TL/\RV kb m' u r)
theorem Fn1.mono {O β:Type}{P:Program}{ka:Kd O}{kb:Kd β}{m0 Z:M}{W:Value}{f:O->Option β}(h:Fn1 P ka kb m0 W f)(hm:M.le m0 Z):Fn1 P ka kb Z W f:=by
 obtain⟨g,cb,h0,J,h⟩:=h;exact⟨g,cb,h0,J,λW0 m w L TL v x r J h2 h3 h4=>h W0 m w L TL v x r (hm.trans J) h2 h3 h4⟩
theorem Fn2.mono {O α' β:Type}{P:Program}{ka:Kd O}{ka':Kd α'}{kb:Kd β}{m0 Z:M}{W:Value}{f:O->α'->Option β}(h:Fn2 P ka ka' kb m0 W f)(hm:M.le m0 Z):Fn2 P ka ka' kb Z W f:=by
 obtain⟨g,cb,h0,J,h⟩:=h;exact⟨g,cb,h0,J,λW0 m w L TL v v' x x' r J h2 h3 h4 h5=>h W0 m w L TL v v' x x' r (hm.trans J) h2 h3 h4 h5⟩
section
variable {δ:List Nat}{ro:Option Nat}{P:Program}{W0:Bse}{m:M}{L:List (Nat×List Value)}{TL:List (Nat×Value)}{n:Nat}{a:Act}{l:List (Nat×Value)}{w:World}{ty t t2 e:TypeId}{pos:String}{aft:Array Edge}{g:Option (Nat×Bool)}{x y:Operand}{d:Nat}{O α' β:Type}{k:Kd O}{ka:Kd O}{ka':Kd α'}{kb:Kd β}{b i:Nat}{cs:List Value}
theorem xp {xs:Array Operand}{a0:Array TypeId}{J v:Value}{f:O->Option β}{xx:O}{r:β}(W:am δ n a l)(hS:S W0 m w L TL)(hx:evl l x=some J)(ha:qt l xs=some [v])(hf:Fn1 P ka kb m J f)(hv:RV ka m v xx)(Z:f xx=some r):
  aM P ⟨some d,.call ⟨.value x,xs,a0⟩,ty,pos,aft,g⟩ a w (λv' w'=>∃m',M.le m m'/\S W0 m' w' L TL/\RV kb m' v' r):=by
 obtain⟨g,cb,rfl,h1,h⟩:=hf;exact BR.of_func h1 (by simpa using h W0 m w L TL v xx r (M.le.refl m) hS hv Z) _ _ _ _ _ _ _ _ _ (W.eval hx) (gW W ha)
theorem xq {xs:Array Operand}{a0:Array TypeId}{W v v':Value}{f:O->α'->Option β}{xx:O}{J:α'}{r:β}(Z:am δ n a l)(hS:S W0 m w L TL)(hx:evl l x=some W)(ha:qt l xs=some [v,v'])(hf:Fn2 P ka ka' kb m W f)(hv:RV ka m v xx)(a1:RV ka' m v' J)(hr:f xx J=some r):
  aM P ⟨some d,.call ⟨.value x,xs,a0⟩,ty,pos,aft,g⟩ a w (λu w'=>∃m',M.le m m'/\S W0 m' w' L TL/\RV kb m' u r):=by
 obtain⟨g,cb,rfl,h1,h⟩:=hf;exact BR.of_func h1 (by simpa using h W0 m w L TL v v' xx J r (M.le.refl m) hS hv a1 hr) _ _ _ _ _ _ _ _ _ (Z.eval hx) (gW Z ha)
theorem S.freezeL (h:S W0 m w ((b,cs)::L) TL){xx:O}(hR:k.R m cs xx):∃m',M.le m m'/\S W0 m' w L TL/\PR k m' (.pointer (some ⟨b,0,none⟩)) xx:=by
 have J:=h.dropL 1;simp only[Zj,Ql] at J;have hl:=k.len hR;have hp:=k.pos;have hc:cs≠[]:=λe=>by subst e;simp at hl;omega
 obtain⟨hB,hm,t,ht⟩:=h.own 0 (b,cs) rfl hc;have a0:M.le m (m.put b cs):=M.le_put _ hm;refine⟨m.put b cs,a0,⟨J.below,λb' r W=>?_,λi e Z hv=>?_,J.nodup,λi e Z=>?_,J.apart⟩,b,0,rfl,?_⟩
 ·by_cases hbb:b'=b
  ·subst hbb
   rw[M.put_same] at W;injection W with W;subst W
   exact⟨_,t,_,[],ht,by simp,λ_=> .inl rfl⟩
  ·rw[M.put_other _ _ hbb] at W;exact J.imm b' r W
 ·obtain⟨q1,q2,q3⟩:=J.own i e Z hv
  have a1:=h.nodup 0 (i+1) (b,cs) e rfl (by simpa using Z) (by omega) hc hv;exact⟨q1,by rw[M.put_other _ _ (λe=>a1 e.symm)];exact q2,q3⟩
 ·have hT:=J.tails i e Z
  obtain⟨sz,u⟩:=e;cases u<;>try exact hT
  rename_i ad a4 a3;cases ad with
  |none=>trivial
  |some ad=>
   obtain⟨a2,hT⟩:=hT;refine⟨a2,?_⟩;rcases hT with hf|⟨p0,p1,r,c,t',p2,p3,p4,p5⟩
   ·exact .inl hf
   ·exact .inr ⟨p0,p1,r,c,t',by rw[M.put_other _ _ (λe=>by rw[e,hm] at p2;cases p2)];exact p2,p3,p4,p5⟩
 ·have:(m.put b cs).row b 0 k.sz=cs:=by
   unfold M.row;rw[M.put_same];simp[←hl]
  rw[this];exact k.mono a0 hR
def qu (s u:List Int):Int:=if ltB s u then -1 else if ltB u s then 1 else 0
theorem uD:∀{s u:List Int},(∀n∈s,0<=n/\n<256)->(∀n∈u,0<=n/\n<256)->Lib.compareBytes (bts s).data.toList (bts u).data.toList=qu s u:=by
 intro s u J W;show Lib.compareBytes (s.map (λn=>UInt8.ofNat n.toNat)) (u.map (λn=>UInt8.ofNat n.toNat))=_
 induction s generalizing u with
 |nil=>cases u<;>simp[Lib.compareBytes,qu,ltB]
 | cons a x ih=>
  cases u with
  |nil=>simp[Lib.compareBytes,qu,ltB]
  | cons b y=>
   have ha:=J a (by simp);have Z:=W b (by simp);have a0:=ih (u:=y) (λn h=>J n (by simp[h])) (λn h=>W n (by simp[h]));have e1:=mu ha;have e2:=mu Z
   have h1:(UInt8.ofNat a.toNat<UInt8.ofNat b.toNat)↔a<b:=by
    rw[UInt8.lt_iff_toNat_lt];omega
   have h2:(UInt8.ofNat b.toNat<UInt8.ofNat a.toNat)↔b<a:=by
    rw[UInt8.lt_iff_toNat_lt];omega
   simp only[Qy,Lib.compareBytes,h1,h2,a0];unfold qu;simp only[ltB]
   by_cases c1:a<b
   ·simp[c1]
   ·by_cases c2:b<a
    ·simp[c1,c2,show ¬ a=b by omega]
    ·have:a=b:=by omega
     subst this;simp
theorem Dl {f:FuncId} {fn:Func} {xs:Array Operand} {tys:Array TypeId} {s u:List Int} (hE:am δ n a l) (hf:P.funcs[f]? =some fn) (hname:(fn.name== "runtime.NumGoroutine")=false) (hb:fn.body.isNone=true) (hn:Extern.findNext fn=none) (he:Extern.find fn=some Extern.BytealgCompare.compare)
  (ha:qt l xs=some [.string (bts s),.string (bts u)]) (hs:∀n∈s,0<=n/\n<256) (hu:∀n∈u,0<=n/\n<256):
  aw P ⟨some d,.call ⟨.value (.func f),xs,tys⟩,ty,pos,aft,g⟩ a w (.int .i64 (qu s u)) w:=by
 have h1:=run_callFunc_extern hf hname hb hn he #[.string (bts s),.string (bts u)] w;rw[Lib.run_compareString,uD hs hu] at h1;simp[aw,execOp,resolve,Act.eval,Deferred.ofValue,invoke,gW hE ha,h1]
theorem Fd (s u:List Int):inR .i64 (qu s u):=by
 unfold qu;split
 ·exact ax (by decide)
 ·split<;>exact ax (by decide)
theorem uE {v:Value}{xs:List O}(J:am δ n a l)(hx:evl l x=some v)(hy:evl l y=some (.slice none 0 0))(hv:RV (kSl k) m v xs)(Z:P.underlying t=some (.slice e)):
  aM P ⟨some d,.binOp .eql t x y t2,ty,pos,aft,g⟩ a w (λu w'=>w=w'/\∃c,u= .bool c/\(c=true->xs=[])):=by
 obtain⟨h,cap,rfl,h3,h4,h5⟩:=iL hv;have hg:(eqGuard .eql t x y (.slice h xs.length cap) (.slice none 0 0)).run P w= .ok () w:=by simp[eqGuard]
 have hr:aw P ⟨some d,.binOp .eql t x y t2,ty,pos,aft,g⟩ a w (.bool h.isNone) w:=by
  simp only[aw,execOp,J.eval hx,J.eval hy,Sem.run_bind,hg,Result.andThen_ok];simp[binOp,run_equal_slice_nil _ t e h xs.length cap Z]
 refine hr.step ⟨rfl,_,rfl,λW=>?_⟩;cases h with
 |none=>simp only at h5;exact Q0 (by omega)
 |some _=>simp at W
end
section
variable {δ:List Nat}{ro:Option Nat}{P:Program}{ops:Array Oper}{Q:Exit->Act->World->Prop}{rest:List Oper}{a:Act}{w:World}{n:Nat}{l:List (Nat×Value)}{d:Nat}{op:Op}{ty:TypeId}{pos:String}{aft:Array Edge}{v:Value}
theorem sp (Z:am δ n a l)(W:aw P ⟨some d,op,ty,pos,aft,none⟩ a w v w)(hd:Qz d n=true)(k:∀a',am δ n a' ((d,v)::l)->wpL ro P ops Q rest a' w):wpL ro P ops Q (⟨some d,op,ty,pos,aft,none⟩::rest) a w:=
 st Z W.pure hd λu a' w' h J=>by obtain⟨rfl,rfl⟩:=h;exact k a' J
theorem oi {O:Type}{x y:O}(h:some x=some y):x=y:=Option.some.inj h
theorem cb {b c:Bool}(h:b=c):Value.bool b=Value.bool c:=congrArg Value.bool h
theorem spg {W:Oper}{g J:Nat}{b c:Bool}(hE:am δ n a l)(hg:ops[g]? =some W)(ho:W.dst=some J)(a0:Qz J n=true)(hl:lk l J=some (.bool c))(hc:c=b)
  (hr:aw P ⟨some d,op,ty,pos,aft,some (g,b)⟩ a w v w) (hd:Qz d n=true) (k:∀a',am δ n a' ((d,v)::l)->wpL ro P ops Q rest a' w):wpL ro P ops Q (⟨some d,op,ty,pos,aft,some (g,b)⟩::rest) a w:=
 stg hE hg ho a0 hl hc hr.pure hd λu a' w' h Z=>by obtain⟨rfl,rfl⟩:=h;exact k a' Z
theorem ob {O β:Type}{x:Option O}{f:O->Option β}{r:β}(h:x.bind f=some r):∃y,x=some y/\f y=some r:=Option.bind_eq_some_iff.1 h
end
open Go.RowKit (Below)
open Go.Sort (grow ahead putRowK flatK HoldsK mapBlock onCells putCells)
open Go.Shelf Go.Lib
section
variable {P:Program}{W0:Bse}{m:M}{L:List (Nat×List Value)}{TL:List (Nat×Value)}{w:World}{O:Type}{k:Kd O}
theorem pc (w:World)(os:Array Obj)(b:Nat)(h:b<w.heap.size):(grow w os).heap[b]? =w.heap[b]? :=by
 show(w.heap++os)[b]? =_;rw[Array.getElem?_append_left h]
theorem S.more (h:S W0 m w L TL)(os:Array Obj):S W0 m (Go.Sort.grow w os) L TL:=by
 have hB:W0.heap.size<=w.heap.size:=h.below.size;refine⟨h.below.step ⟨⟨rfl,rfl,rfl,by simp[Go.Sort.grow],λj hj=>pc w os j (by omega)⟩,Q5 _⟩ (λk o Z _=>by rw[pc w os k (Array.getElem?_eq_some_iff.1 Z).1];exact Z),λb l J=>?_,λi e W hv=>?_,h.nodup,λi e W=>nV (λb J=>pc w os b J) (h.tails i e W),h.apart⟩
 ·rw[pc w os b (h.lt J)];exact h.imm b l J
 ·obtain⟨h1,h2,t,h3⟩:=h.own i e W hv
  exact⟨h1,h2,t,by rw[pc w os _ (Array.getElem?_eq_some_iff.1 h3).1];exact h3⟩
theorem S.aheadN (h:S W0 m w L TL)(n:Nat):S W0 m (Go.Sort.ahead w n) L TL:=
 ⟨⟨⟨⟨h.below.os,h.below.tape,h.below.output,h.below.size,h.below.block⟩,Nat.le_trans h.below.drawn (Nat.le_add_right _ _)⟩,h.below.kept⟩,h.imm,h.own,h.nodup,λi e J=>by
  have:=h.tails i e J;revert this
  cases e with|mk s v=>cases v<;>intro h<;>exact h,h.apart⟩
theorem yU {w w':World}(h:Bel w.heap.size w w'):∃q os',w'=grow (w.drewN q) os':=by
 refine⟨w'.drawn - w.drawn,w'.heap.extract w.heap.size w'.heap.size,?_⟩;have hd:=h.drawn;have hs:=h.size
 have J:w'.heap=w.heap++w'.heap.extract w.heap.size w'.heap.size:=by
  apply Array.ext_getElem?
  intro i
  by_cases hi:i<w.heap.size
  ·rw[Array.getElem?_append_left hi];exact h.block i hi
  ·rw[Array.getElem?_append_right (by omega),Array.getElem?_extract]
   by_cases hi':i<w'.heap.size
   ·rw[if_pos (by omega)];congr 1;omega
   ·rw[if_neg (by omega),Array.getElem?_eq_none (by omega)]
 have h1:=h.os;have Z:=h.tape;have W:=h.output;cases w;cases w';simp only[grow,World.drewN] at*;subst h1;subst Z;subst W;simp only[World.mk.injEq,true_and,and_true];exact⟨J,by omega⟩
end
abbrev El {O:Type}(k:Kd O)(m:M)(xs:List O):Type:={p:List Value×O//k.R m p.1 p.2/\p.2∈xs}
def Fe {O:Type}(h:O->O->Option Int)(xs:List O):Prop:=
 (∀x∈xs,∀y∈xs,∃c,h x y=some c/\inR .i64 c)/\(∀x∈xs,¬ (h x x).getD 0<0)/\
 (∀x∈xs,∀y∈xs,∀z∈xs,(h x y).getD 0<0->(h y z).getD 0<0->(h x z).getD 0<0)/\
 (∀x∈xs,∀y∈xs,∀z∈xs,¬ (h x y).getD 0<0-> ¬ (h y z).getD 0<0-> ¬ (h x z).getD 0<0)/\
 (∀x∈xs,∀y∈xs,¬ (h x y).getD 0<0-> ¬ (h y x).getD 0<0->x=y)
noncomputable section
open Classical in
def tY {O:Type}(h:O->O->Option Int)(xs:List O):Option (List O):=if Fe h xs then some ((xs.attach.mergeSort λx y=> !decide ((h y.1 x.1).getD 0<0)).map (·.1)) else none
end
theorem vi {O:Type}{J:O->O->Option Int}{xs r:List O}(h:tY J xs=some r):Fe J xs/\r.Perm xs/\r.Pairwise (λx y=> ¬ (J y x).getD 0<0):=by
 unfold tY at h;split at h
 ·rename_i W
  injection h with h
  subst h;refine⟨W,?_,?_⟩
  ·have:=(List.mergeSort_perm xs.attach λx y=> !decide ((J y.1 x.1).getD 0<0)).map (·.1)
   have e:xs.attach.map (λx=>x.val)=xs:=by simp
   rwa[e] at this
  ·rw[List.pairwise_map]
   have h1:=List.pairwise_mergeSort (le:=λ(x y:{x//x∈xs})=> !decide ((J y.1 x.1).getD 0<0)) (λa b c a0 a1=>by
    simp only[Qs,decide_eq_false_iff_not] at*
    exact W.2.2.2.1 c.1 c.2 b.1 b.2 a.1 a.2 a1 a0) (λa b=>by
    simp only[Z6,Qs,decide_eq_false_iff_not]
    by_cases h:(J b.1 a.1).getD 0<0
    ·right;intro Z
     exact W.2.1 a.1 a.2 (W.2.2.1 a.1 a.2 b.1 b.2 a.1 a.2 Z h)
    ·left;exact h) xs.attach
   exact h1.imp λh=>by simpa using h
 ·cases h
section
variable {P:Program}{W0:Bse}{m:M}{L:List (Nat×List Value)}{TL:List (Nat×Value)}{w:World}{O:Type}{k:Kd O}{b:Nat}{cs:List Value}{xs:List O}
theorem BS (h:Rl k m cs xs):∃d:List (El k m xs),d.map (λa=>a.1.2)=xs/\(d.flatMap λa=>a.1.1)=cs:=by
 have a1:∀(ys:List O) (cs:List Value),(∀y∈ys,y∈xs)->Rl k m cs ys->∃d:List (El k m xs),d.map (λa=>a.1.2)=ys/\(d.flatMap λa=>a.1.1)=cs:=by
  intro ys
  induction ys with
  |nil=>intro cs _ h;exact⟨[],rfl,by have:=h.1;simp at this;simp[this]⟩
  |cons y r ih=>
   intro cs J h;have W:=h.2 0 (by simp);simp only[Nat.zero_mul,Ql,Zn] at W;have Z:=h.drop 1;simp only[Nat.one_mul,Zj,Ql] at Z;obtain⟨d,a2,a0⟩:=ih _ (λz hz=>J z (by simp[hz])) Z;exact⟨⟨(cs.take k.sz,y),W,J y (by simp)⟩::d,by simp[a2],by simp[a0]⟩
 exact a1 xs cs (λ_ h=>h) h
theorem yV (d:Array (El k m xs)) [Inhabited (El k m xs)]:(flatK (λa:El k m xs=>a.1.1) k.sz d).toList=d.toList.flatMap λa=>a.1.1:=by
 have Z:=k.pos
 have a0:(d.toList.flatMap λa=>a.1.1).length=d.size*k.sz:=by
  have:∀l:List (El k m xs),(l.flatMap λa=>a.1.1).length=l.length*k.sz:=by
   intro l
   induction l with
   |nil=>simp
   |cons a r ih=>rw[Xb,X9,ih,k.len a.2.1,Qq,Q6];omega
  rw[this];simp
 have key:∀(l:List (El k m xs)) (t:Nat),t<l.length*k.sz->(l.flatMap λa=>a.1.1)[t]? =(l[t/k.sz]?).bind λa=>a.1.1[t%k.sz]? :=by
  intro l
  induction l with
  |nil=>intro t h;simp at h
  | cons a r ih=>
   intro t W;have hl:=k.len a.2.1;rw[Xb]
   by_cases h:t<k.sz
   ·rw[Qk (by omega),Nat.div_eq_of_lt h,Xd h];rfl
   ·rw[Qi (by omega),hl,ih _ (by simp[Q6] at W;omega)]
    have e1:t/k.sz=(t - k.sz)/k.sz+1:=by rw[←Nat.add_div_right _ Z];congr 1;omega
    have e2:t%k.sz=(t - k.sz)%k.sz:=by rw[←Nat.mod_eq_sub_mod (by omega)]
    rw[e1,e2,List.getElem?_cons_succ]
 apply Xj
 ·rw[a0];simp
 intro t h1 h2;have W:t<d.size*k.sz:=by simpa using h1
 have hq:t/k.sz<d.size:=by rw[Nat.div_lt_iff_lt_mul Z];exact W
 have J:=key d.toList t (by simpa using W);rw[Qf h2] at J;have hr:t%k.sz<d[t/k.sz].1.1.length:=by rw[k.len d[t/k.sz].2.1];exact Nat.mod_lt _ Z
 have h4:(d.toList[t/k.sz]?)=some d[t/k.sz]:=by simp[hq]
 rw[h4] at J;simp only[Z3] at J;rw[Qf hr] at J;injection J with J
 rw[J];simp only[Array.getElem_toList];simp only[flatK,Array.getElem_map,Array.getElem_range];rw[getElem!_pos d (t/k.sz) hq];exact getElem!_pos (d[t/k.sz].1.1) (t%k.sz) hr
theorem Dm {A:Type} [Inhabited A](enc:A->List Value)(sz:Nat)(w:World)(b:Nat)(cs:List Value)(t:TypeId)(d:Array A)(h:w.heap[b]? =some (.cells cs.toArray t (0,0)))(hl:d.size*sz<=cs.length):
  putRowK enc sz w b 0 d=w.setRow b ((flatK enc sz d).toList++cs.drop (d.size*sz)).toArray:=by
 have a0:=(Array.getElem?_eq_some_iff.1 h).1;have hv:=(Array.getElem?_eq_some_iff.1 h).2;unfold putRowK Go.Sort.putRow mapBlock World.setRow;congr 1;apply Array.ext_getElem?
 intro i;rw[Array.getElem?_modify,Array.getElem?_modify]
 by_cases hi:b=i
 ·subst hi
  simp only[if_true,h,Qn,onCells];congr 2;apply Array.ext
  ·simp[putCells];omega
  ·intro j Z h2
   simp only[putCells,Array.getElem_mapIdx];have hj:j<cs.length:=by simpa[putCells] using Z
   by_cases hjd:j<d.size*sz
   ·have W:j<(flatK enc sz d).size:=by simpa using hjd
    have J:0<=j/\j<0+(flatK enc sz d).size:=⟨Nat.zero_le _,by simpa using hjd⟩
    rw[if_pos J];simp only[Nat.sub_zero,id_eq,List.getElem_toArray];rw[Xa (by simpa using hjd),getElem!_pos _ j W];simp
   ·have J: ¬ (0<=j/\j<0+(flatK enc sz d).size):=by simp;omega
    rw[if_neg J];simp only[List.getElem_toArray];rw[X7 (by simp;omega),List.getElem_drop];congr 1;simp;omega
 ·simp[hi]
end
def m0 (w:World):M:=λb=>match w.heap[b]? with|some (.cells c _ _)=>some c.toList|_=>none
theorem Hj (w:World):S ⟨w,λ_=>none⟩ (m0 w) w [] []:=by
 refine⟨⟨Bel.refl _ _,λk o h=>by cases h⟩,λb l W=>?_,λi e J=>by simp at J,λi j e e' J=>by simp at J,λi e J=>by simp at J,λi j e e' J=>by simp at J⟩;unfold m0 at W;split at W
 ·rename_i c t fr Z
  injection W with W
  exact⟨c,t,fr,[],Z,by simp[W],λa0=>absurd (Array.getElem?_eq_some_iff.1 Z).1 (Nat.not_lt.2 a0)⟩
 ·cases W
structure BT (H:Type) where
 b:DataW H->Nat
 ba:List (DataW H)->Nat
 str:∀s,b (.lit (.string s))=s.length+1
 one:∀d,1<=b d
 slice:∀e s,b (.slice e s)=ba e+ba s+1
 agg:∀l,b (.agg l)=ba l+1
 nil:ba []=0
 cons:∀d r,ba (d::r)=b d+ba r
def Rd (P:Program)(t:TypeId){O:Type}(k:Kd O)(sz:O->Nat):Prop:=
 ∀{H:Type} (enc:TypeId×Value->H) (B:BT H) (w:World) (h:Nat) (cs:List Value) (d:DataW H) (ps:List MemPlace),DataW.trod enc P w 0 (λ_=>true) true h t cs=some (d,ps)->B.b d<=1099511627776->∃x,k.R (m0 w) cs x/\sz x<=B.b d
section
variable {P:Program}{t e:TypeId}{O β:Type}{k:Kd O}{sz:O->Nat}
theorem sY {W:IntKind}(hu:P.underlying t=some (.int W)):Rd P t (aj W) (λ_=>1):=by
 intro H enc B w J cs d ps h hb;cases J with
 |zero=>simp[DataW.trod] at h
 | succ J=>
  unfold DataW.trod at h;rw[hu] at h
  match cs,h with
  | [.int k' n],h=>
   simp only at h;split at h
   ·rename_i hk
    obtain⟨rfl,Z⟩:=hk;injection h with h;injection h with h1 h2
    refine⟨n,⟨rfl,?_⟩,B.one _⟩;rw[lI];simpa[Lit.wf] using Z
   ·cases h
theorem Hk (W:P.underlying t=some .bool):Rd P t cj (λ_=>1):=by
 intro H enc B w J cs d ps h Z;cases J with
 |zero=>simp[DataW.trod] at h
 |succ J=>
  unfold DataW.trod at h;rw[W] at h
  match cs,h with
  |[.bool b],h=>exact⟨b,rfl,B.one _⟩
theorem IJ (hu:P.underlying t=some .string):Rd P t oy (λs=>s.length+1):=by
 intro H enc B w W cs d ps h J;cases W with
 |zero=>simp[DataW.trod] at h
 | succ W=>
  unfold DataW.trod at h;rw[hu] at h
  match cs,h with
  | [.string s],h=>
   simp only at h;split at h
   ·injection h with h;injection h with h1 h2
    subst h1;rw[B.str] at J ⊢;refine⟨s.data.toList.map λc=>(c.toNat:Int),⟨?_,?_,?_⟩,by simp⟩
    ·congr 2
     unfold bts
     cases s with|mk data=>
     congr 1;apply Array.ext';have Z:∀c:UInt8,UInt8.ofNat ((c.toNat:Int)).toNat=c:=λc=>by simp
     simp only[Zz]
     conv=>lhs;rw[←List.map_id data.toList]
     exact Z5 λc _=>(Z c).symm
    ·intro n hn
     obtain⟨c,_,rfl⟩:=X3.1 hn;have:=c.toNat_lt;omega
    ·simp at J ⊢;unfold bU;omega
   ·cases h
theorem sC {O β:Type}(f:O->Option β):∀(l:List O) (r:List β),l.mapM f=some r->l.length=r.length/\∀i (h:i<l.length) (Z:i<r.length),f l[i]=some r[i]
 |[],r,h=>by simp at h;subst h;exact⟨rfl,λi h=>by simp at h⟩
 | a::l,r,h=>by
  simp only[Z1,Z2,Zs] at h;cases hx:f a with
  |none=>simp[hx] at h
  | some y=>
   cases hr:l.mapM f with
   |none=>simp[hx,hr] at h
   |some s=>
    simp[hx,hr] at h;subst h;obtain⟨W,J⟩:=sC f l s hr;refine⟨by simp[W],λi hi hi'=>?_⟩;cases i with
    |zero=>simpa using hx
    |succ i=>simpa using J i (by simpa using hi) (by simpa using hi')
theorem Oh (a:Addr)(i:Nat):(a.add i).block=a.block:=by
 unfold Addr.add;split<;>rfl
theorem Oi (a:Addr)(i:Nat):(a.add i).off=a.off+i:=by
 unfold Addr.add;split<;>simp_all
theorem xr {w:World}{a:Addr}{n:Nat}{cs:List Value}(h:w.cells? 0 a n=some cs)(hn:0<n):a.spot=none/\(m0 w).row a.block a.off n=cs:=by
 unfold World.cells? at h;rw[if_pos (Nat.zero_le _)] at h;obtain⟨h1,Z⟩:=sC _ _ _ h;simp only[List.length_range] at h1;have J:=Z 0 (by simpa using hn) (by omega);simp only[List.getElem_range] at J;obtain⟨b,o,sp⟩:=a;simp only[show(⟨b,o,sp⟩:Addr).add 0=⟨b,o,sp⟩ from rfl,World.cell?] at J;cases hb:w.heap[b]? with
 |none=>rw[hb] at J;simp at J
 | some ob=>
  rw[hb] at J;cases ob<;>try (simp at J;done)
  rename_i c t fr;simp only at J
  have W:sp=none:=by
   cases sp with
   |none=>rfl
   |some s=>simp at J
  refine⟨W,?_⟩;subst W;have hm:m0 w b=some c.toList:=by simp[m0,hb]
  unfold M.row;rw[hm];apply Xc;intro j;rw[Z9,Qu]
  by_cases hj:j<n
  ·have h4:=Z j (by simpa using hj) (by omega)
   simp only[List.getElem_range,ew,World.cell?,hb] at h4;rw[if_pos hj,Qf (show j<cs.length by omega),←h4];simp
  ·rw[if_neg hj,Zt (by omega)]
theorem uF (hu:P.underlying t=some (.slice e))(he:P.cellsOf e=k.sz)(hr:Rd P e k sz):Rd P t (kSl k) (λxs=>(xs.map sz).sum+1):=by
 intro H enc B w b4 cs d ps h hb;have hp:=k.pos;rcases Go.Deep.open_slice hu h with⟨rfl,hx⟩|⟨a,len,cap,mm,n,D,Pl,rfl,_,hl,hm,a5,hx,a2⟩
 ·injection hx with h1 h2;subst h1
  exact⟨[],⟨none,0,0,rfl,rfl,Q5 _,by simp,rfl⟩,by simpa using B.one _⟩
 ·injection hx with h1 h2;subst h1
  simp only[if_true] at a5;subst a5;rw[B.slice] at hb
  have b1:∀(q:Nat) (o:Nat),(∀j,j<q->B.b (D (o+j))<=1099511627776)->o+q<=mm->∃xs:List O,xs.length=q/\(∀j (J:j<xs.length),k.R (m0 w) ((m0 w).row a.block (a.off+(o+j)*k.sz) k.sz) xs[j])/\(xs.map sz).sum<=B.ba ((Qc q).map λj=>D (o+j)):=by
   intro q
   induction q with
   |zero=>intro o _ _;exact⟨[],rfl,λj J=>by simp at J,by simp⟩
   | succ q ih=>
    intro o a0 b2;obtain⟨xs,Z,a1,a4⟩:=ih (o+1) (λj J=>by have:=a0 (j+1) (by omega);rwa[show o+(j+1)=o+1+j by omega] at this) (by omega);obtain⟨cs',W,a9⟩:=a2 o (by omega);rw[he] at W;obtain⟨_,a3⟩:=xr W hp;obtain⟨x,b0,b3⟩:=hr enc B w n cs' _ _ a9 (by have:=a0 0 (by omega);simpa using this);refine⟨x::xs,by simp[Z],λj J=>?_,?_⟩
    ·cases j with
     |zero=>
      simp only[Zn,Qm];rw[Oh,Oi] at a3;rw[a3];exact b0
     |succ j=>
      have:=a1 j (by simpa using J);simp only[List.getElem_cons_succ];rw[show o+(j+1)=o+1+j by omega];exact this
    ·simp only[Zp,Qy,B.cons,Zz,List.sum_cons,Qm]
     have e1:(Qc q).map ((λj=>D (o+j))∘Nat.succ)=(Qc q).map λj=>D (o+1+j):=Z5 λj _=>by simp only[Function.comp];congr 1;omega
     rw[e1];omega
  have a6:∀(q:Nat) (f:Nat->DataW H) (j:Nat),j<q->B.b (f j)<=B.ba ((Qc q).map f):=by
   intro q
   induction q with
   |zero=>intro f j J;omega
   |succ q ih=>
    intro f j J;rw[Zp,Qy,B.cons,Zz];cases j with
    |zero=>omega
    |succ j=>have:=ih (f∘Nat.succ) j (by omega);simp only[Function.comp] at this;have h9:B.b (f (j+1))<=B.ba (List.map (f∘Nat.succ) (Qc q)):=this;omega
  have a0:∀j,j<len->B.b (D (0+j))<=1099511627776:=λj J=>by
   have:=a6 len D j J;rw[Zi];have h0:B.ba ((Qc len).map D)<=1099511627776:=by omega
   omega
  obtain⟨xs,Z,a1,a4⟩:=b1 len 0 a0 (by omega)
  have b5:xs.length<=B.ba ((Qc len).map D):=by
   have:∀(q:Nat) (f:Nat->DataW H),q<=B.ba ((Qc q).map f):=by
    intro q
    induction q with
    |zero=>intro f;omega
    |succ q ih=>
     intro f;rw[Zp,Qy,B.cons,Zz];have:=ih (f∘Nat.succ);have h1:=B.one (f 0);omega
   rw[Z];exact this len D
  refine⟨xs,⟨some a,len,mm,rfl,Z.symm,hl,by unfold bU;omega,λhc=>?_,λj J=>?_⟩,?_⟩
  ·obtain⟨cs',W,_⟩:=a2 0 hc
   rw[he] at W;have:=(xr W hp).1;have h0:a.add (0*k.sz)=a:=by unfold Addr.add;rw[if_pos (by simp)]
   rwa[h0] at this
  ·have:=a1 j J
   rwa[Zi] at this
  ·rw[B.slice]
   have e1:(Qc len).map (λj=>D (0+j))=(Qc len).map D:=Z5 λj _=>by rw[Zi]
   rw[e1] at a4;show(xs.map sz).sum+1<=_;omega
def RdF (P:Program)(J:List Field)(off:Nat){O:Type}(k:Kd O)(sz:O->Nat):Prop:=
 ∀{H:Type} (enc:TypeId×Value->H) (B:BT H) (w:World) (h:Nat) (cs:List Value) (ds:List (DataW H×List MemPlace)),
  J.mapM (λf=>DataW.trod enc P w 0 (λ_=>true) true h f.type ((cs.drop f.offset).take (P.cellsOf f.type)))=some ds->cs.length=off+k.sz->B.ba (ds.map (·.1))<=1099511627776->∃x,k.R (m0 w) (cs.drop off) x/\sz x<=B.ba (ds.map (·.1))
theorem wu {f:Field}{off:Nat}(hr:Rd P f.type k sz)(ho:f.offset=off)(hc:P.cellsOf f.type=k.sz):RdF P [f] off k sz:=by
 intro H enc B w W cs ds h hl J;simp only[Z1,List.mapM_nil,Z2,Zs] at h;cases hx:DataW.trod enc P w 0 (λ_=>true) true W f.type ((cs.drop f.offset).take (P.cellsOf f.type)) with
 |none=>rw[hx] at h;simp at h
 |some d=>
  rw[hx] at h;simp at h;subst h;obtain⟨d,ps⟩:=d;simp only[Qy,Xs,B.cons,B.nil,Qm] at J ⊢;obtain⟨x,Z,a0⟩:=hr enc B w W _ d ps hx J;rw[ho,hc,Q1 (by simp;omega)] at Z;exact⟨x,Z,a0⟩
theorem nh {γ:Type}{k':Kd γ}{sz':γ->Nat}{f:Field}{W:List Field}{off:Nat}(hr:Rd P f.type k sz)(ho:f.offset=off)(hc:P.cellsOf f.type=k.sz)(hs:RdF P W (off+k.sz) k' sz'):RdF P (f::W) off (ci k k') (λx=>sz x.1+sz' x.2):=by
 intro H enc B w J cs ds h hl hb;have a0:cs.length=off+k.sz+k'.sz:=by rw[hl];show off+(k.sz+k'.sz)=_;omega
 simp only[Z1,Z2,Zs] at h;cases hx:DataW.trod enc P w 0 (λ_=>true) true J f.type ((cs.drop f.offset).take (P.cellsOf f.type)) with
 |none=>rw[hx] at h;simp at h
 | some d=>
  rw[hx] at h;simp only[Z3] at h;cases hy:W.mapM (λf=>DataW.trod enc P w 0 (λ_=>true) true J f.type ((cs.drop f.offset).take (P.cellsOf f.type))) with
  |none=>rw[hy] at h;simp at h
  | some es=>
   rw[hy] at h;simp at h;subst h;obtain⟨d,ps⟩:=d;simp only[Qy,B.cons] at hb ⊢;obtain⟨x,Z,a2⟩:=hr enc B w J _ d ps hx (by omega);obtain⟨y,a1,a3⟩:=hs enc B w J cs es hy a0 (by omega);rw[ho,hc] at Z;refine⟨(x,y),⟨Z,?_⟩,?_⟩
   ·show k'.R (m0 w) ((cs.drop off).drop k.sz) y
    rw[Qe];exact a1
   ·show sz x+sz' y<=_
    omega
theorem sZ {γ:Type}{W:Array Field}{g:γ->O}{gi:O->γ}(hu:P.underlying t=some (.struct W))(hc:P.cellsOf t=k.sz)(hs:RdF P W.toList 0 k sz)(Z:∀x,g (gi x)=x):Rd P t (o8 g k) (λy=>sz (g y)+1):=by
 intro H enc B w J cs d ps h hb;cases J with
 |zero=>simp[DataW.trod] at h
 | succ J=>
  unfold DataW.trod at h;rw[hu] at h;simp only at h;split at h
  ·rename_i hl
   cases hx:W.toList.mapM (λf=>DataW.trod enc P w 0 (λ_=>true) true J f.type ((cs.drop f.offset).take (P.cellsOf f.type))) with
   |none=>rw[hx] at h;simp at h
   | some ds=>
    rw[hx] at h;simp at h;obtain⟨rfl,_⟩:=h;rw[B.agg] at hb ⊢;obtain⟨x,a0,a1⟩:=hs enc B w J cs ds hx (by rw[hl,hc];omega) (by omega);refine⟨gi x,?_,?_⟩
    ·show k.R (m0 w) cs (g (gi x))
     rw[Z];simpa using a0
    ·show sz (g (gi x))+1<=_
     rw[Z];omega
  ·cases h
end
open Go.RowKit
def Bse.put (W0:Bse)(b:Nat)(o:Obj):Bse:={ W0 with keep:=λk=>if k=b then some o else W0.keep k }
section
variable {W0:Bse}{m:M}{w:World}{L:List (Nat×List Value)}{TL:List (Nat×Value)}
theorem yW (w:World)(b:Nat)(o:Obj):(w.putObj b o).heap.size=w.heap.size:=by simp[World.putObj]
theorem Ff {B sz b:Nat}{v:Value}{o o':Obj}(W:w.heap[b]? =some o)(ho:o.isCells=false)(h:qs B m w sz v):qs B m (w.putObj b o') sz v:=by
 cases v<;>try exact h
 rename_i a len cap;cases a with
 |none=>trivial
 | some ad=>
  obtain⟨a0,h⟩:=h;refine⟨by rw[yW];exact a0,?_⟩;rcases h with h|⟨Z,h1,l,c,t,h2,h3,J,h5⟩
  ·exact .inl h
  ·refine .inr ⟨Z,h1,l,c,t,h2,h3,?_,h5⟩
   rw[World.putObj_heap_other]
   ·exact J
   ·intro e;rw[e,W] at J;injection J with J;subst J;cases ho
theorem S.putK (h:S W0 m w L TL){b:Nat}{o o':Obj}(hb:w.heap[b]? =some o)(ho:o.isCells=false)(a1:o'.isCells=false)(hB:W0.heap.size<=b):S (W0.put b o') m (w.putObj b o') L TL:=by
 have a2:=(Array.getElem?_eq_some_iff.1 hb).1
 have a0:∀{k:Nat} {c:Array Value} {t:TypeId} {fr:Nat×Nat},w.heap[k]? =some (.cells c t fr)->(w.putObj b o').heap[k]? =some (.cells c t fr):=λ{k c t fr} J=>by
  rw[World.putObj_heap_other]
  ·exact J
  ·intro e;subst e;rw[hb] at J;injection J with J;subst J;cases ho
 refine⟨⟨⟨⟨h.below.os,h.below.tape,h.below.output,by rw[yW];exact h.below.size,λk J=>?_⟩,h.below.drawn⟩,λk x W=>?_⟩,λc l hc=>?_,λi e he hv=>?_,h.nodup,λi e he=>Ff hb ho (h.tails i e he),h.apart⟩
 ·have a3:k<W0.heap.size:=J
  rw[World.putObj_heap_other (by omega)];exact h.below.block k J
 ·unfold Bse.put at W
  simp only at W;split at W
  ·rename_i e;subst e;injection W with W;subst W
   exact⟨World.putObj_heap_same a2,a1⟩
  ·rename_i e
   obtain⟨h1,Z⟩:=h.below.kept k x W;exact⟨by rw[World.putObj_heap_other e];exact h1,Z⟩
 ·obtain⟨c',t,fr,r,h1,Z⟩:=h.imm c l hc
  exact⟨c',t,fr,r,a0 h1,Z⟩
 ·obtain⟨h1,Z,t,h3⟩:=h.own i e he hv
  exact⟨h1,Z,t,a0 h3⟩
theorem S.newK (h:S W0 m w L TL){o:Obj}(ho:o.isCells=false):S (W0.put w.heap.size o) m (w.alloc o) L TL:=by
 have hB:W0.heap.size<=w.heap.size:=h.below.size;refine⟨⟨(h.below.alloc hB o).toBel,λk x J=>?_⟩,λc l hc=>?_,λi e Z hv=>?_,h.nodup,λi e Z=>nV (gp w _) (h.tails i e Z),h.apart⟩
 ·unfold Bse.put at J
  simp only at J;split at J
  ·rename_i e;subst e;injection J with J;subst J
   exact⟨nW w _,ho⟩
  ·obtain⟨W,h2⟩:=h.below.kept k x J
   exact⟨by rw[gp w o k (Array.getElem?_eq_some_iff.1 W).1];exact W,h2⟩
 ·rw[gp w _ c (h.lt hc)];exact h.imm c l hc
 ·obtain⟨W,h2,t,h3⟩:=h.own i e Z hv
  exact⟨W,h2,t,by rw[gp w _ _ (Array.getElem?_eq_some_iff.1 h3).1];exact h3⟩
theorem S.keepNone (h:S W0 m w L TL){k:Nat}(J:w.heap.size<=k):W0.keep k=none:=by
 cases hx:W0.keep k with
 |none=>rfl
 |some x=>have:=(Array.getElem?_eq_some_iff.1 (h.below.kept k x hx).1).1;omega
theorem S.unK {b:Nat}{o:Obj}(h:S (W0.put b o) m w L TL)(W:W0.keep b=none):S W0 m w L TL:=
 ⟨⟨h.below.toBel,λk x J=>h.below.kept k x (by
  unfold Bse.put;simp only
  rw[if_neg (λe=>by subst e;rw[W] at J;cases J)];exact J)⟩,h.imm,h.own,h.nodup,h.tails,h.apart⟩
theorem Bse.put_put (W0:Bse)(b:Nat)(o o':Obj):(W0.put b o).put b o'=W0.put b o':=by
 unfold Bse.put;simp only[Bse.mk.injEq,true_and];funext k
 by_cases e:k=b<;>simp[e]
theorem Bse.put_same (W0:Bse)(b:Nat)(o:Obj):(W0.put b o).keep b=some o:=by simp[Bse.put]
theorem Bse.put_other (W0:Bse){b k:Nat}(o:Obj)(h:k≠b):(W0.put b o).keep k=W0.keep k:=by simp[Bse.put,h]
end
def eK {σ O:Type}(step:σ->O->Option (σ×Bool)):σ->List O->Option (σ×Bool)
 |s,[]=>some (s,true)
 |s,x::xs=>(step s x).bind λr=>if r.2 then eK step r.1 xs else some (r.1,false)
abbrev Mem:=List (Nat×List Value)
abbrev Tls:=List (Nat×Value)
def yX {σ O:Type}(P:Program)(Rv:M->List Value->O->Prop)(B:σ->Bse)(y:Value)(I:M->σ->Mem->Tls->Prop)(step:σ->O->Option (σ×Bool)):Prop:=
 ∀(m:M) (w:World) (L:Mem) (TL:Tls) (s:σ) (Ls:Mem) (TLs:Tls) (vs:List Value) (x:O) (s':σ) (b:Bool),I m s Ls TLs->S (B s) m w (Ls++L) (TLs++TL)->Rv m vs x->step s x=some (s',b)->
  BR P y vs w (λr w'=>r= .bool b/\∃m' Ls' TLs',M.le m m'/\I m' s' Ls' TLs'/\S (B s') m' w' (Ls'++L) (TLs'++TL))
def yq {O:Type}(P:Program)(Rv:M->List Value->O->Prop)(J:FuncId)(W:Array Value)(h:M)(xs:List O):Prop:=
 ∀(σ:Type) (I:M->σ->Mem->Tls->Prop) (step:σ->O->Option (σ×Bool)) (B:σ->Bse) (y:Value) (m:M) (w:World) (L:Mem) (TL:Tls) (s:σ) (Ls:Mem) (TLs:Tls) (r:σ×Bool),
  (∀m m' s a b,M.le m m'->I m s a b->I m' s a b)->M.le h m->yX P Rv B y I step->I m s Ls TLs->S (B s) m w (Ls++L) (TLs++TL)->eK step s xs=some r->
  Calls P J (#[y]++W) w (Ret λ_ w'=>∃m' Ls' TLs',M.le m m'/\I m' r.1 Ls' TLs'/\S (B r.1) m' w' (Ls'++L) (TLs'++TL))
theorem xt {δ:List Nat}{n:Nat}{a:Act}{l:List (Nat×Value)}(Z:am δ n a l):∀(ps:List Tmp) (vs:List Value) (t:Array Value) (l:List (Nat×Value)),ps.length=vs.length->(∀p∈ps,p<n)->am [] n { tmps:=t,defers:=[] } l->
  am [] n { tmps:=(ps.zip vs).foldl (λt (p,v)=>t.setIfInBounds p v) t,defers:=[] } ((ps.zip vs).reverse++l)
 |[],[],t,l,_,_,h=>h
 |[],_::_,_,_,h,_,_=>by simp at h
 |_::_,[],_,_,h,_,_=>by simp at h
 | p::ps,v::vs,t,l,hl,hp,h=>by
  have W:am [] n { tmps:=t.setIfInBounds p v,defers:=[] } ((p,v)::l):=by
   have:=h.put (d:=p) (Nat.ble_eq_true_of_le (hp p (by simp))) v;exact this
  have:=xt Z ps vs (t.setIfInBounds p v) ((p,v)::l) (by simpa using hl) (λq J=>hp q (by simp[J])) W;simpa using this
section
variable {δ:List Nat}{P:Program}{W0:Bse}{m:M}{L:Mem}{TL:Tls}{n:Nat}{a:Act}{l:List (Nat×Value)}{w:World}{N Rt:Act->World->Prop}{X:List (Nat×(Act->World->Prop))}
abbrev pQ {σ:Type}(W2:Bse)(I:M->σ->Mem->Tls->Prop)(L':Mem)(TL':Tls)(m:M)(s':σ)(w':World):Prop:= ∃m' Ls' TLs',M.le m m'/\I m' s' Ls' TLs'/\S W2 m' w' (Ls'++L') (TLs'++TL')
theorem IK {σ O:Type}{Rv:M->List Value->O->Prop}{g:Operand}{ps:Array Tmp}{assign body:Code}{gf:FuncId}{lb:Array Value}{mi:M}{xs:List O}(step:σ->O->Option (σ×Bool))(W:σ->Code)(e7:List Nat)
  (I:M->σ->Mem->Tls->Prop) {s0:σ} {Ls:Mem} {TLs:Tls} {sf:σ} {bf:Bool}
  (hE:am δ n a l) (hS:S W0 m w (Ls++L) (TLs++TL)) (hg:evl l g=some (.func (.func gf) #[] lb)) (e1:∀vs w,(callFunc gf vs).run P w= .ok (.enter gf vs) w) (g6:yq P Rv gf lb mi xs) (e3:M.le mi m)
  (g4:∀p∈ps.toList,p<n) (c2:∀m vs x,Rv m vs x->vs.length=ps.size)
  (mono:∀m m' s a b,M.le m m'->I m s a b->I m' s a b) (h0:I m s0 Ls TLs) (e8:eK step s0 xs=some (sf,bf))
  (round:∀(J:Nat) (W1 W2:Bse) (m:M) (w:World) (L':Mem) (b2:Tls) (s:σ) (Ls:Mem) (TLs:Tls) (vs:List Value) (x:O) (s':σ) (b:Bool) (a0:Act) (b7 ob:Obj),I m s Ls TLs->S W1 m w (Ls++L') (TLs++b2)->Rv m vs x->step s x=some (s',b)->
   am [] n a0 ((ps.toList.zip vs).reverse++l)->(∀m w L TL,S W1 m w L TL->w.heap[J]? =some b7/\S W2 m (w.putObj J ob) L TL)->
   K (some J) P assign (λa1 w1=>w1.heap[J]? =some b7/\K (some J) P body (λ_ w'=>b=true/\pQ W2 I L' b2 m s' w') (e7.map λid=>(id,λ_ w'=>b=false/\W s'= .exit id/\pQ W2 I L' b2 m s' w')) (λ_ w'=>b=false/\W s'= .ret/\pQ W2 I L' b2 m s' w') a1 (w1.putObj J ob)) [] (λ_ _=>False) a0 w)
  (done:∀(D:Nat) (m':M) (w':World) (a':Act) (a9:Mem) (a6:Tls),M.le m m'->am (D::δ) n a' l->I m' sf a9 a6->S (W0.put D (.deferred (some []))) m' w' (a9++L) (a6++TL)->W0.keep D=none->W0.heap.size<=D->
   if bf=true then N a' w' else K none P (W sf) N X Rt a' w'):
  K none P (.rangeFunc g ps assign body) N X Rt a w:=by
 refine wpIn_rangeFunc ?_;intro fn _;obtain⟨D,hD⟩:∃D,D=w.heap.size:=⟨_,rfl⟩
 obtain⟨J,g0⟩:∃J,J=w.heap.size+1:=⟨_,rfl⟩
 obtain⟨rec,a5⟩:∃rec:LoopState->Option Code->Loop,rec=λst pe=>{ state:=st,pending:=pe,fn,tmps:=a.tmps,params:=ps,assign,body,defers:=D }:=⟨_,rfl⟩
 obtain⟨Z,b6⟩:∃Z:Bse,Z=W0.put D (.deferred (some [])):=⟨_,rfl⟩
 have f5:W0.keep D=none:=hS.keepNone (by omega);have c1:S Z m (w.alloc (.deferred (some []))) (Ls++L) (TLs++TL):=by rw[b6,hD];exact hS.newK rfl
 have f0:Z.keep J=none:=c1.keepNone (by simp[World.size_alloc];omega)
 have c7:S (Z.put J (.loop (rec .ready none))) m ((w.alloc (.deferred (some []))).alloc (.loop (rec .ready none))) (Ls++L) (TLs++TL):=by
  have:=c1.newK (o:= .loop (rec .ready none)) rfl;rwa[show(w.alloc (.deferred (some []))).heap.size=J by simp[World.size_alloc];omega] at this
 have e9:W0.heap.size<=J:=by have:W0.heap.size<=w.heap.size:=hS.below.size;omega
 have b4:∀o,(Z.put J o).heap.size<=J:=λo=>by rw[b6];exact e9
 obtain⟨wl,d0⟩:∃wl,wl=(w.alloc (.deferred (some []))).alloc (.loop (rec .ready none)):=⟨_,rfl⟩
 rw[←d0] at c7
 let B:σ×Option Code->Bse:=λs=>Z.put J (.loop (rec (if s.2.isNone then .ready else .done) s.2))
 let step':σ×Option Code->O->Option ((σ×Option Code)×Bool):=λs x=>if s.2.isNone then (step s.1 x).map λr=>((r.1,if r.2 then none else some (W r.1)),r.2) else none
 have h7:∀(xs:List O) (s:σ) r,eK step s xs=some r->eK step' (s,none) xs=some ((r.1,if r.2 then none else some (W r.1)),r.2):=by
  intro xs
  induction xs with
  |nil=>intro s r h;simp only[eK] at h ⊢;injection h with h;subst h;simp
  | cons x xs ih=>
   intro s r h;simp only[eK] at h ⊢;simp only[step',Option.isNone_none,if_true];cases hx:step s x with
   |none=>rw[hx] at h;simp at h
   |some q=>
    rw[hx] at h;obtain⟨s',b⟩:=q;simp only[Z3,Qn] at h ⊢;cases b with
    |true=>simp only[if_true] at h ⊢;exact ih s' r h
    |false=>simp only[Z8,if_false] at h ⊢;injection h with h;subst h;simp
 have f3:yX P Rv B (.func (.yield J) #[] #[]) (λm s=>I m s.1) step':=by
  intro m1 w1 L1 b3 s g1 e6 vs x s' b e4 c4 hx a3;obtain⟨s,p⟩:=s;simp only[step'] at a3;cases p with
  |some c=>simp at a3
  |none=>
  simp only[Option.isNone_none,if_true] at a3;cases hstep:step s x with
  |none=>rw[hstep] at a3;simp at a3
  |some q=>
  rw[hstep] at a3;obtain⟨s1,b1⟩:=q;simp only[Qn,Option.some.injEq,Prod.mk.injEq] at a3;obtain⟨rfl,rfl⟩:=a3;intro dst ty pos aft gd xo c3 c6 ac e5 d1 ro Kk Q hk;have hl:w1.heap[J]? =some (.loop (rec .ready none)):=(c4.below.kept J _ (Bse.put_same _ _ _)).1;have hy:=run_yield (P:=P) (args:=vs.toArray) hl (by rw[a5];simpa using c2 _ _ _ hx)
  have f6:(execOp ac.eval ⟨dst,.call ⟨.value xo,c3,c6⟩,ty,pos,aft,gd⟩).run P w1= .ok (.round J fn ((ps.zip vs.toArray).foldl (λtmps (t,a)=>tmps.setIfInBounds t a) a.tmps) assign body) w1:=by
   have h2:(execOp ac.eval ⟨dst,.call ⟨.value xo,c3,c6⟩,ty,pos,aft,gd⟩).run P w1=(Instr.yield J vs.toArray).run P w1:=by
    simp[execOp,resolve,e5,Deferred.ofValue,invoke,d1]
   rw[h2,hy,a5]
  refine⟨λ_ _=>trivial,?_⟩;show Oper.uponIn _ _ _ _ _ _ _ ((Oper.semAt ro ac.eval _).run P w1);rw[nJ f6 (λd=>by simp)];refine⟨λh=>(by cases h),roundIn_of_wpIn trivial ?_⟩
  have d2:(ps.zip vs.toArray).foldl (λtmps (t,a)=>tmps.setIfInBounds t a) a.tmps=(ps.toList.zip vs).foldl (λt (p,v)=>t.setIfInBounds p v) a.tmps:=by
   rw[←Array.foldl_toList,Array.toList_zip]
  rw[d2];have g5:am [] n { tmps:=a.tmps,defers:=[] } l:=⟨rfl,hE.size,hE.at_⟩
  have h8:=xt hE ps.toList vs a.tmps l (by have:=c2 _ _ _ hx;simpa using this.symm) g4 g5;obtain⟨bz,c5⟩:∃bz:Loop,bz={ rec .ready none with state:= .busy }:=⟨_,rfl⟩
  have e0:∀m w L TL,S (B (s,none)) m w L TL->w.heap[J]? =some (.loop (rec .ready none))/\S (Z.put J (.loop bz)) m (w.putObj J (.loop bz)) L TL:=λm w L TL h=>by
   have:=h.putK (o':= .loop bz) (h.below.kept J _ (Bse.put_same _ _ _)).1 rfl rfl (b4 _);rw[Bse.put_put] at this;exact⟨(h.below.kept J _ (Bse.put_same _ _ _)).1,this⟩
  have hr:=round J (B (s,none)) (Z.put J (.loop bz)) m1 w1 L1 b3 s g1 e6 vs x s1 b1 _ (.loop (rec .ready none)) (.loop bz) e4 c4 hx hstep h8 e0;have i0:rec .ready none={ rec .ready none with state:= .ready }:=by rw[a5]
  have b5:∀(a4:Option Code) (w3:World),a4.isNone=b1->(b1=false->a4=some (W s1))->pQ (Z.put J (.loop bz)) I L1 b3 m1 s1 w3->∃v w4,(Instr.endRound J a4).run P w3= .ok v w4/\Kk (ac.put dst v) w4:=by
   rintro a4 w3 hj g3 ⟨m',a9,a6,h1,h2,h3⟩;have b0:=(h3.below.kept J _ (Bse.put_same _ _ _)).1;refine⟨_,_,run_endRound a4 b0,hk _ _ ⟨by rw[hj],m',a9,a6,h1,h2,?_⟩⟩;have h4:=h3.putK (o':= .loop { bz with state:=if a4.isNone then .ready else .done,pending:=a4 }) b0 rfl rfl (b4 _);rw[Bse.put_put] at h4
   have e:(.loop { bz with state:=if a4.isNone then .ready else .done,pending:=a4 }:Obj)= .loop (rec (if (if b1 then (none:Option Code) else some (W s1)).isNone then .ready else .done) (if b1 then none else some (W s1))):=by
    rw[c5,a5];cases b1 with
    |true=>
     have:a4=none:=by simpa using hj
     subst this;rfl
    |false=>
     have:=g3 rfl;subst this;rfl
   revert h4;rw[e];exact λh4=>h4
  refine wpIn_mono hr λe a1 i1 q=>?_;cases e with
  | normal=>
   obtain⟨h6,g2⟩:=q;refine⟨_,run_beginRound h6 (by rw[a5]),?_⟩;rw[←c5];refine wpIn_mono g2 λe a2 w2 q2=>?_;cases e with
   |normal=>
    obtain⟨hb,hp⟩:=q2;exact b5 none w2 (by rw[hb];rfl) (λh=>by rw[hb] at h;cases h) hp
   |ret=>
    obtain⟨hb,hj,hp⟩:=q2;exact b5 (some .ret) w2 (by rw[hb];rfl) (λ_=>by rw[hj]) hp
   | exit id=>
    have key:b1=false/\W s1= .exit id/\pQ (Z.put J (.loop bz)) I L1 b3 m1 s1 w2:=by
     simp only[mkQ] at q2;split at q2
     ·rename_i e he
      have h1:=List.find?_some he;obtain⟨h9,_,rfl⟩:=X3.1 (List.mem_of_find?_eq_some he);have:=Q3 h1;subst this;exact q2
     ·exact q2.elim
    obtain⟨hb,hj,hp⟩:=key;exact b5 (some (.exit id)) w2 (by rw[hb];rfl) (λ_=>by rw[hj]) hp
   |goto t=>exact q2.elim
   |panic ch=>exact q2.elim
   |outgrown=>exact q2.elim
  |ret=>exact q.elim
  |exit id=>simp[mkQ] at q
  |goto t=>exact q.elim
  |panic ch=>exact q.elim
  |outgrown=>exact q.elim
 have hc:=g6 (σ×Option Code) (λm s=>I m s.1) step' B (.func (.yield J) #[] #[]) m wl L TL (s0,none) Ls TLs _ (λm m' s a b hm h=>mono m m' s.1 a b hm h) e3 f3 h0 c7 (h7 xs s0 _ e8);refine⟨J,[{ target:= .collected D,args:= #[] }],wl,{ target:= .fn (.func gf) lb,args:= #[.func (.yield J) #[] #[]] },wl,gf,#[.func (.yield J) #[] #[]]++lb,wl,?_,?_,λ_ _=>trivial,?_,λh=>(by cases h),?_⟩
 ·show(Instr.enterLoop fn a.tmps ps assign body none).run P w=_
  rw[run_enterLoop_outer,d0,g0,hD,a5,hD]
 ·simp only[resolve,hE.eval hg]
  simp[go_sem]
 ·simp[invoke,go_sem,e1]
 ·refine yD (hc.mono λe w' he=>?_)
  cases e with
  |panicked ch=>exact he.elim
  |outgrown=>exact he.elim
  | returned v=>
   obtain⟨m',a9,a6,h1,h2,h3⟩:=he;have b0:=(h3.below.kept J _ (Bse.put_same _ _ _)).1
   have a3:(rec (if (if bf then (none:Option Code) else some (W sf)).isNone then LoopState.ready else .done) (if bf then none else some (W sf))).state≠ .busy:=by
    rw[a5];cases bf<;>simp
   have c0:=run_endLoop (P:=P) b0 a3;refine⟨_,_,c0,?_⟩;have h4:=h3.putK (o':= .loop { (rec (if (if bf then (none:Option Code) else some (W sf)).isNone then LoopState.ready else .done) (if bf then none else some (W sf))) with state:= .exhausted }) b0 rfl rfl (b4 _);rw[Bse.put_put] at h4;have h5:=h4.unK f0;rw[b6] at h5;have f4:am (D::δ) n { a with defers:=[{ target:= .collected D,args:= #[] }]++a.defers } l:=⟨by simp[hE.defers],hE.size,hE.at_⟩
   have hd:=done D m' _ _ a9 a6 h1 f4 h2 h5 f5 (by have:W0.heap.size<=w.heap.size:=hS.below.size;omega);have hp:(rec (if (if bf then (none:Option Code) else some (W sf)).isNone then LoopState.ready else .done) (if bf then none else some (W sf))).pending=if bf then none else some (W sf):=by rw[a5]
   clear c0;generalize (w'.putObj J (.loop { (rec (if (if bf then (none:Option Code) else some (W sf)).isNone then LoopState.ready else .done) (if bf then none else some (W sf))) with state:= .exhausted }))=wx at hd ⊢;rw[hp];cases bf with
   |true=>simp only[if_true] at hd ⊢;exact hd
   |false=>simp only[Z8,if_false] at hd ⊢;exact hd
end
open Go.RowKit
def Fg:List Nat->World->World->Prop
 |[],w,w'=>w'=w
 |D::δ,w,w'=>w.heap[D]? =some (.deferred (some []))/\Fg δ (w.putObj D (.deferred none)) w'
def yY (P:Program)(fn:Func)(R:Value->World->Prop)(a:Act)(w:World):Prop:=
 ∃δ w',a.defers=(δ.map λD=>{ target:= .collected D,args:= #[] })/\Fg δ w w'/\Fin P fn R { a with defers:=[] } w'
section
variable {P:Program}{fn:Func}{R:Value->World->Prop}{a:Act}{w:World}{δ:List Nat}{n:Nat}{l:List (Nat×Value)}{W0:Bse}{m:M}{L:Mem}{TL:Tls}{D:Nat}
theorem yY.nil (J:Env n a l)(h:Fin P fn R a w):yY P fn R a w:=by
 refine⟨[],w,by simp[J.defers],rfl,?_⟩
 have:({ a with defers:=[] }:Act)=a:=by
  have:=J.defers;cases a;simp at this;simp[this]
 rw[this];exact h
theorem yY.shut (W:am (D::δ) n a l)(hS:S (W0.put D (.deferred (some []))) m w L TL)(hk:W0.keep D=none)(hB:W0.heap.size<=D)
  (k:∀a w,S W0 m w L TL->am δ n a l->yY P fn R a w):yY P fn R a w:=by
 have hD:=(hS.below.kept D _ (Bse.put_same _ _ _)).1
 have a0:S W0 m (w.putObj D (.deferred none)) L TL:=by
  have:=hS.putK (o':= .deferred none) hD rfl rfl hB;rw[Bse.put_put] at this;exact this.unK hk
 obtain⟨δ',w',h,J,Z⟩:=k { a with defers:=δ.map λD=>{ target:= .collected D,args:= #[] } } _ a0 ⟨rfl,W.size,W.at_⟩;refine⟨D::δ,w',W.defers,⟨hD,?_⟩,Z⟩
 have:δ'=δ:=by
  have h:δ.map (λD=>({ target:= .collected D,args:= #[] }:Deferred))=δ'.map λD=>{ target:= .collected D,args:= #[] }:=h;clear W k J Z
  induction δ generalizing δ' with
  |nil=>cases δ' with
   |nil=>rfl
   |cons=>simp at h
  | cons x δ ih=>
   cases δ' with
   |nil=>simp at h
   |cons y δ'=>
    simp only[Qy,List.cons.injEq,Deferred.mk.injEq,and_true] at h;obtain⟨h,J⟩:=h;injection h with h
    rw[h,ih _ (by assumption) J]
 rw[←this];exact J
theorem Dn {f:FuncId}{c:Code}{args:List Value}(hf:P.funcs[f]? =some fn)(hb:fn.body=some c)(hn:fn.ntmps=n)(a0:args.length<=n)
  (h:∀a,Env n a ((Qc args.length).zip args)->K none P c (yY P fn R) [] (yY P fn R) a w):
  Calls P f args.toArray w (Ret R):=by
 refine C8 (n:=0) (callsIn_of_wp_marks hf hb trivial (wpIn_mono (h _ ?_) λe a w q=>?_))
 ·exact yG hn a0
 ·have key:∀(δ:List Nat) (w w':World),Fg δ w w'->Fin P fn R { a with defers:=[] } w'->LeavesInM (Fr none) 0 P fn a.tmps (Ret R) (δ.map λD=>{ target:= .collected D,args:= #[] }) .returning w:=by
   intro δ
   induction δ with
   |nil=>
    intro w w' h J;obtain rfl:w'=w:=h;obtain⟨vs,Z,_,W⟩:=J;exact⟨vs,Z,W⟩
   |cons D δ ih=>
    intro w w' ⟨h,h'⟩ J;exact⟨by simp,.inl ⟨D,_,rfl,run_takeDeferred h,ih _ _ h' J⟩⟩
  cases e with
  |normal=>obtain⟨δ,w',Z,W,J⟩:=q;show LeavesInM _ _ _ _ _ _ a.defers _ _;rw[Z];exact key δ w w' W J
  |ret=>obtain⟨δ,w',Z,W,J⟩:=q;show LeavesInM _ _ _ _ _ _ a.defers _ _;rw[Z];exact key δ w w' W J
  |exit id=>simp[mkQ] at q
  |goto t=>exact q.elim
  |panic ch=>exact q.elim
  |outgrown=>exact q.elim
def ItV {O:Type}(P:Program)(Rv:M->List Value->O->Prop)(m:M)(v:Value)(xs:List O):Prop:=
 ∃gf lb,v= .func (.func gf) #[] lb/\(∀vs w,(callFunc gf vs).run P w= .ok (.enter gf vs) w)/\yq P Rv gf lb m xs
theorem ItV.mono {O:Type}{Rv:M->List Value->O->Prop}{m m':M}{v:Value}{xs:List O}(h:ItV P Rv m v xs)(J:M.le m m'):ItV P Rv m' v xs:=by
 obtain⟨gf,W,h1,h2,Z⟩:=h;exact⟨gf,W,h1,h2,λσ I step B y m w L TL s Ls TLs r mono hle=>Z σ I step B y m w L TL s Ls TLs r mono (J.trans hle)⟩
def Rv1 {O:Type}(k:Kd O):M->List Value->O->Prop:=λm vs x=>∃v,vs=[v]/\RV k m v x
end
theorem A5 {O:Type}{k:Kd O}{m:M}{vs:List Value}{x:O}(h:Rv1 k m vs x):vs.length=1:=by obtain⟨_,rfl,_⟩:=h;rfl
section
variable {δ:List Nat}{P:Program}{W0:Bse}{m:M}{L:Mem}{TL:Tls}{n:Nat}{a:Act}{l:List (Nat×Value)}{w:World}{N Rt:Act->World->Prop}{X:List (Nat×(Act->World->Prop))}
theorem A6 {σ O:Type}{Rv:M->List Value->O->Prop}{g:Operand}{ps:Array Tmp}{assign body:Code}{v:Value}{xs:List O}(step:σ->O->Option (σ×Bool))(W:σ->Code)(a3:List Nat)
  (I:M->σ->Mem->Tls->Prop) {s0:σ} {Ls:Mem} {TLs:Tls} {sf:σ} {bf:Bool}
  (hE:am δ n a l) (hS:S W0 m w (Ls++L) (TLs++TL)) (hg:evl l g=some v) (hv:ItV P Rv m v xs)
  (a9:∀p∈ps.toList,p<n) (b2:∀m vs x,Rv m vs x->vs.length=ps.size)
  (mono:∀m m' s a b,M.le m m'->I m s a b->I m' s a b) (h0:I m s0 Ls TLs) (b0:eK step s0 xs=some (sf,bf))
  (round:∀(h:Nat) (W1 J:Bse) (m:M) (w:World) (L':Mem) (Z:Tls) (s:σ) (Ls:Mem) (TLs:Tls) (vs:List Value) (x:O) (s':σ) (b:Bool) (a0:Act) (a2 ob:Obj),I m s Ls TLs->S W1 m w (Ls++L') (TLs++Z)->Rv m vs x->step s x=some (s',b)->
   am [] n a0 ((ps.toList.zip vs).reverse++l)->(∀m w L TL,S W1 m w L TL->w.heap[h]? =some a2/\S J m (w.putObj h ob) L TL)->
   K (some h) P assign (λa1 w1=>w1.heap[h]? =some a2/\K (some h) P body (λ_ w'=>b=true/\pQ J I L' Z m s' w') (a3.map λid=>(id,λ_ w'=>b=false/\W s'= .exit id/\pQ J I L' Z m s' w')) (λ_ w'=>b=false/\W s'= .ret/\pQ J I L' Z m s' w') a1 (w1.putObj h ob)) [] (λ_ _=>False) a0 w)
  (done:∀(D:Nat) (m':M) (w':World) (a':Act) (a4:Mem) (a5:Tls),M.le m m'->am (D::δ) n a' l->I m' sf a4 a5->S (W0.put D (.deferred (some []))) m' w' (a4++L) (a5++TL)->W0.keep D=none->W0.heap.size<=D->
   if bf=true then N a' w' else K none P (W sf) N X Rt a' w'):
  K none P (.rangeFunc g ps assign body) N X Rt a w:=by
 obtain⟨gf,lb,rfl,a6,b1⟩:=hv;exact IK step W a3 I hE hS hg a6 b1 (M.le.refl m) a9 b2 mono h0 b0 round done
end
def wv {σ O:Type}(step:σ->O->Option (σ×Bool))(xs:List O)(t:Int×σ):Option ((Int×σ)⊕(σ×Bool)):=
 if decide (t.1<(xs.length:Int)) then (idx xs t.1).bind λx=>(step t.2 x).bind λr=>if r.2 then some (.inl (X6.wrap (t.1+1),r.1)) else some (.inr (r.1,false)) else some (.inr (t.2,true))
theorem BU {σ O:Type}{step:σ->O->Option (σ×Bool)}{xs:List O}{s:σ}{r:σ×Bool}(hl:xs.length<=bU)(h:eK step s xs=some r):aq (wv step xs) (0,s)=some r:=by
 have key:∀(ys:List O) (i:Nat) (s:σ),xs.drop i=ys->eK step s ys=some r->aq (wv step xs) ((i:Int),s)=some r:=by
  intro ys
  induction ys with
  |nil=>
   intro i s W J;simp only[eK] at J;injection J with J
   have:xs.length<=i:=by simpa using W
   rw[aS (b:=r)];unfold wv;rw[if_neg (by simp;omega),J]
  | cons y ys ih=>
   intro i s W J;simp only[eK] at J
   have Z:i<xs.length:=by
    apply Classical.byContradiction;intro hc;rw[Q8 (by omega)] at W;cases W
   have hy:xs[i]? =some y:=by
    have:=congrArg (·[0]?) W;simpa using this
   have a0:idx xs (i:Int)=some y:=by
    have e:xs[i]=y:=by simpa[Z] using hy
    simp[idx,Z,e]
   have a1:xs.drop (i+1)=ys:=by
    rw[←Qe,W];rfl
   cases hs:step s y with
   |none=>rw[hs] at J;cases J
   | some q=>
    rw[hs] at J;simp only[Z3] at J
    have hw:X6.wrap ((i:Int)+1)=((i+1:Nat):Int):=by
     rw[show(i:Int)+1=((i+1:Nat):Int) from rfl];exact dR (n:=i+1) (by omega)
    by_cases hq:q.2=true
    ·rw[if_pos hq] at J
     rw[bK (s':=(((i+1:Nat):Int),q.1))]
     ·exact ih (i+1) _ a1 J
     ·unfold wv
      rw[if_pos (by simpa using Z)];simp only[a0,Z3,hs];rw[if_pos hq,hw]
    ·rw[if_neg hq] at J
     injection J with J
     refine aS ?_;unfold wv;rw[if_pos (by simpa using Z)];simp only[a0,Z3,hs];rw[if_neg hq,J]
 exact key xs 0 s (by simp) h
open Go.RowKit
theorem xu {O:Type}{k:Kd O}{m:M}{v:Value}{xs:List O}(h:RV (kSl k) m v xs):(kSl k).R m [v] xs:=by
 obtain⟨cs,J,rfl⟩:=h;have W:=J;obtain⟨a,len,cap,rfl,h⟩:=W;exact J
section
variable {δ:List Nat}{ro:Option Nat}{P:Program}{W0:Bse}{m:M}{L:List (Nat×List Value)}{TL:List (Nat×Value)}{n:Nat}{a:Act}{l:List (Nat×Value)}{w:World}{ty t t2 e:TypeId}{pos:String}{aft:Array Edge}{g:Option (Nat×Bool)}{x y:Operand}{d:Nat}{O:Type}{k:Kd O}
theorem xv {i b:Nat}{v:Value}{xx:List O}(hE:am δ n a l)(hS:S W0 m w L TL)(hT:cI P t (kSl k))(hx:evl l x=some (.pointer (some ⟨b,0,none⟩)))(Z:L[i]? =some (b,[v]))(hv:RV (kSl k) m v xx):
  aw P ⟨some d,.load t x,ty,pos,aft,g⟩ a w v w:=by
 have W:=xu hv;have J:At w b 0 (([v].drop 0).take (kSl k).sz):=hS.atL Z (by simp[kSl]) (by simp[kSl]);have e:(([v].drop 0).take (kSl k).sz)=[v]:=rfl;rw[e] at J;have:(kSl k).val [v]=v:=rfl;have h:=ib hT W J;rw[this] at h;simp[aw,execOp,Instr.loadAt,hE.eval hx,Instr.sureAddr,h]
theorem BV {i b:Nat}{v v0:Value}{yy:List O}(W:am δ n a l)(hS:S W0 m w L TL)(hT:cI P t (kSl k))(hx:evl l x=some (.pointer (some ⟨b,0,none⟩)))(hy:evl l y=some v)(hv:RV (kSl k) m v yy)(J:L[i]? =some (b,[v0])):
  aM P ⟨none,.store t x y,ty,pos,aft,g⟩ a w (λ_ w'=>S W0 m w' (L.set i (b,[v])) TL):=by
 have h:=xu hv;obtain⟨hB,hm,t',ht⟩:=hS.own i _ J (by simp);have Z:=dT (P:=P) [v] b 0 0 [v0] t' w ht (by simp) ((kSl k).one h)
 have hr:rC P ⟨none,.store t x y,ty,pos,aft,g⟩ a w (w.setRow b #[v]):=by
  have a0:=hT.size w;have hc:v.cells= #[v]:=by have:=k.pos;have:=(kSl k).val_cells h;exact this
  simp only[rC,execOp,W.eval hx,W.eval hy,Instr.storeAt,Instr.sureAddr,Sem.run_bind,Sem.run_pure,Result.andThen_ok,storeVar,hc,a0];have h2:(storeCells { block:=b,off:=0 } [v]).run P w= .ok () (w.setRow b #[v]):=by simpa using Z
  simp[kSl,h2]
 exact hr.step (hS.setL J (by simp) _)
end
set_option linter.unusedVariables false
set_option linter.unusedSimpArgs false
set_option maxRecDepth 100000
section
variable {P:Program}{W0:Bse}{m:M}{w:World}{L:List (Nat×List Value)}{TL:List (Nat×Value)}{O:Type}{k:Kd O}
end
section
variable {δ:List Nat}{P:Program}{W0:Bse}{m:M}{w:World}{L:List (Nat×List Value)}{TL:List (Nat×Value)}{O:Type}{k:Kd O}{n d:Nat}{a:Act}{l:List (Nat×Value)}{x y:Operand}{t t2 e ty:TypeId}{pos:String}{aft:Array Edge}{g:Option (Nat×Bool)}{by_:Nat}
theorem Do {v:Value}{xs:List O}{xh Z:Operand}{kh km:IntKind}(hE:am δ n a l)(hx:evl l x=some v)(hu:P.underlying t=some (.slice e))(hs:∀w,(sizeOf e).run P w= .ok k.sz w)(hv:RV (kSl k) m v xs)
  (hh:evl l xh=some (.int kh (xs.length:Int))) (hm:evl l Z=some (.int km (xs.length:Int))):
  aM P ⟨some d,.slice t x none (some xh) (some Z),ty,pos,aft,g⟩ a w (λv w'=>w=w'/\RV (kSl k) m v xs):=by
 obtain⟨J,cap,rfl,h3,h4,h5⟩:=iL hv
 have key:(Instr.sliceBounds true xs.length cap none (some (.int kh (xs.length:Int))) (some (.int km (xs.length:Int)))).run P w= .ok (0,xs.length,xs.length) w:=by
  simp[Instr.sliceBounds,Instr.sliceBound,asIntOf,h3]
 have hr:aw P ⟨some d,.slice t x none (some xh) (some Z),ty,pos,aft,g⟩ a w (.slice (if xs.length=0 then J else J.map (·.add (0*k.sz))) (xs.length - 0) (xs.length - 0)) w:=by
  simp[aw,execOp,Instr.sliceAt,run_underlying hu,Instr.slice,hE.eval hx,hE.eval hh,hE.eval hm,key,hs]
 refine hr.step ⟨rfl,?_⟩
 by_cases hc:xs.length=0
 ·rw[if_pos hc]
  refine dw (by simp) h4 ?_;cases J with
  |none=>simp[hc]
  |some J=>exact⟨λh=>by omega,λi hi=>by omega⟩
 ·rw[if_neg hc]
  refine dw (by simp) h4 ?_;cases J with
  |none=>simp only at h5;omega
  |some J=>
   obtain⟨b,o,sp⟩:=J;obtain⟨W,hR⟩:=h5;replace W:=W (by omega);simp only at W;subst W;simp only[Qn,ew];exact⟨λ_=>trivial,λi hi'=>by simpa using hR i hi'⟩
end
set_option linter.unusedVariables false
set_option linter.unusedSimpArgs false
def kPt {O:Type}(d:Kd O):Kd (Option O):={
 sz:=1
 agg:=false
 R:=λm cs x=>match x with|none=>cs=[.pointer none]|some y=>∃b o,cs=[.pointer (some ⟨b,o,none⟩)]/\d.R m (m.row b o d.sz) y
 mono:=λ{m m' cs x} hm h=>by
  cases x with
  |none=>exact h
  |some y=>
   obtain⟨b,o,J,W⟩:=h;refine⟨b,o,J,?_⟩;rw[M.row_mono hm (d.len W) d.pos];exact d.mono hm W
 len:=λ{m cs x} h=>by
  cases x with
  |none=>simp[show cs=_ from h]
  |some y=>obtain⟨b,o,J,W⟩:=h;simp[J]
 one:=λ{m cs x} h=>by
  cases x with
  |none=>simp[show cs=_ from h,Value.oneCell']
  |some y=>obtain⟨b,o,J,W⟩:=h;simp[J,Value.oneCell']
 pos:=by decide
 flat:=λ_=>rfl
 }
section
variable {δ:List Nat}{P:Program}{W0:Bse}{m:M}{w:World}{L:List (Nat×List Value)}{TL:List (Nat×Value)}{O:Type}{k:Kd O}{n d:Nat}{a:Act}{l:List (Nat×Value)}{x y:Operand}{t t2 e ty:TypeId}{pos:String}{aft:Array Edge}{g:Option (Nat×Bool)}
theorem pR {v:Value}{p:O}(h:PR k m v p):RV (kPt k) m v (some p):=by
 obtain⟨b,o,rfl,h⟩:=h;exact⟨[_],⟨b,o,rfl,h⟩,rfl⟩
theorem s4:RV (kPt k) m (.pointer none) none:=⟨[_],rfl,rfl⟩
theorem uG {v:Value}{p:Option O}(h:RV (kPt k) m v p):∃q:Option Addr,v= .pointer q/\q.isNone=p.isNone/\∀y,p=some y->PR k m v y:=by
 obtain⟨cs,J,rfl⟩:=h;cases p with
 |none=>obtain rfl:cs=_:=J;exact⟨none,rfl,rfl,λ_ h=>nomatch h⟩
 |some y=>
  obtain⟨b,o,rfl,Z⟩:=J;exact⟨some _,rfl,rfl,λz W=>by cases W;exact⟨b,o,rfl,Z⟩⟩
theorem oJ {v:Value}{p:Option O}{q:O}(W:RV (kPt k) m v p)(J:p=some q):PR k m v q:=by
 obtain⟨_,_,_,h⟩:=uG W;exact h q J
theorem nZ {v:Value}{p:Option O}{q:O}(Z:am δ n a l)(W:evl l x=some v)(J:RV (kPt k) m v p)(h:p=some q):aw P ⟨some d,.nilCheck x,ty,pos,aft,g⟩ a w v w:=by
 obtain⟨b,o,rfl,h2⟩:=oJ J h;exact bV Z W
theorem IL {v:Value}{p:Option O}(h:am δ n a l)(hx:evl l x=some v)(W:evl l y=some (.pointer none))(hu:P.underlying t=some (.pointer e))(Z:RV (kPt k) m v p):
  aw P ⟨some d,.binOp .eql t x y t2,ty,pos,aft,g⟩ a w (.bool p.isNone) w:=by
 obtain⟨o,rfl,h1,_⟩:=uG Z;have hp:P.underlying t=some (.pointer (P.pointee t)):=by simp[Program.pointee,hu]
 have J:(eqGuard .eql t x y (.pointer o) (.pointer none)).run P w= .ok () w:=by simp[eqGuard]
 rw[←h1];simp only[aw,execOp,h.eval hx,h.eval W,Sem.run_bind,J,Result.andThen_ok,run_eql_pointer_nil w t o hp,Sem.run_pure]
theorem IM {v:Value}{p:Option O}(h:am δ n a l)(hx:evl l x=some v)(W:evl l y=some (.pointer none))(hu:P.underlying t=some (.pointer e))(Z:RV (kPt k) m v p):
  aw P ⟨some d,.binOp .neq t x y t2,ty,pos,aft,g⟩ a w (.bool (!p.isNone)) w:=by
 obtain⟨o,rfl,h1,_⟩:=uG Z;have hp:P.underlying t=some (.pointer (P.pointee t)):=by simp[Program.pointee,hu]
 have J:(eqGuard .neq t x y (.pointer o) (.pointer none)).run P w= .ok () w:=by simp[eqGuard]
 rw[←h1];simp only[aw,execOp,h.eval hx,h.eval W,Sem.run_bind,J,Result.andThen_ok,run_neq_pointer_nil w t o hp,Sem.run_pure]
theorem BW {v:Value}{xs ys:List O}{xl xh xm:Operand}{kl kh km:IntKind}{lo hi:Int}(W:am δ n a l)(hx:evl l x=some v)(hu:P.underlying t=some (.slice e))(hs:∀w,(sizeOf e).run P w= .ok k.sz w)(hv:RV (kSl k) m v xs)
  (hl:evl l xl=some (.int kl lo)) (hh:evl l xh=some (.int kh hi)) (hm:evl l xm=some (.int km hi)) (a1:sub xs lo hi=some ys):
  aM P ⟨some d,.slice t x (some xl) (some xh) (some xm),ty,pos,aft,g⟩ a w (λv w'=>w=w'/\RV (kSl k) m v ys):=by
 obtain⟨h0,h1,h2,hy⟩:=rD a1;obtain⟨J,cap,rfl,h3,h4,h5⟩:=iL hv
 have key:(Instr.sliceBounds true xs.length cap (some (.int kl lo)) (some (.int kh hi)) (some (.int km hi))).run P w= .ok (lo.toNat,hi.toNat,hi.toNat) w:=by
  have q1:hi<=(cap:Int):=by omega
  have q2:lo<=((hi.toNat:Nat):Int):=by omega
  have q3:0<=hi:=by omega
  have q4: ¬ hi<0:=by omega
  have q5: ¬ lo<0:=by omega
  have q6:((hi.toNat:Nat):Int)=hi:=by omega
  simp[Instr.sliceBounds,Instr.sliceBound,asIntOf,h0,q1,q2,q3,q4,q5,q6,h1]
 have hr:aw P ⟨some d,.slice t x (some xl) (some xh) (some xm),ty,pos,aft,g⟩ a w (.slice (if hi.toNat=lo.toNat then J else J.map (·.add (lo.toNat*k.sz))) (hi.toNat - lo.toNat) (hi.toNat - lo.toNat)) w:=by
  simp[aw,execOp,Instr.sliceAt,run_underlying hu,Instr.slice,W.eval hx,W.eval hl,W.eval hh,W.eval hm,key,hs]
 refine hr.step ⟨rfl,?_⟩;have a2:ys.length=hi.toNat - lo.toNat:=by rw[hy];simp;omega
 rw[←a2]
 by_cases hc:hi.toNat=lo.toNat
 ·rw[if_pos hc]
  refine dw (Q5 _) (by omega) ?_;cases J with
  |none=>simp only;omega
  |some J=>exact⟨λh=>by omega,λi hi=>by omega⟩
 ·rw[if_neg hc]
  refine dw (Q5 _) (by omega) ?_;cases J with
  |none=>simp only at h5;omega
  |some J=>
   obtain⟨b,o,sp⟩:=J;obtain⟨Z,hR⟩:=h5;replace Z:=Z (by omega);simp only at Z;subst Z;simp only[Qn,ew];refine⟨λ_=>trivial,λi hi'=>?_⟩;have a0:=hR (lo.toNat+i) (by omega);have e1:ys[i]=xs[lo.toNat+i]'(by omega):=by subst hy;simp
   rw[e1,show o+lo.toNat*k.sz+i*k.sz=o+(lo.toNat+i)*k.sz by rw[Q6];omega];exact a0
def kA4:Kd (Int×Int×Int×Int):=ci (aj .u8) (ci (aj .u8) (ci (aj .u8) (aj .u8)))
def IN:List Int->Option (Int×Int×Int×Int)
 |a::b::c::d::_=>some (a,b,c,d)
 |_=>none
theorem yZ {cs:List Value}{p:Int×Int×Int×Int}(h:kA4.R m cs p):cs=[.int .u8 p.1,.int .u8 p.2.1,.int .u8 p.2.2.1,.int .u8 p.2.2.2]:=by
 obtain⟨h1,Z,J,W⟩:=h;rw[←Qh 1 cs,show cs.take 1=_ from h1.1,←Qh 1 (cs.drop 1),show(cs.drop 1).take 1=_ from Z.1,←Qh 1 ((cs.drop 1).drop 1),show((cs.drop 1).drop 1).take 1=_ from J.1,show((cs.drop 1).drop 1).drop 1=_ from W.1]
 rfl
theorem Hl {v:Value}{xs:List Int}{p:Int×Int×Int×Int}(hE:am δ n a l)(hx:evl l x=some v)(hu:P.underlying t=some (.array 4 e))(hv:RV (kSl (aj .u8)) m v xs)(J:IN xs=some p):
  aM P ⟨some d,.sliceToArrayPointer t x,ty,pos,aft,g⟩ a w (λv w'=>w=w'/\PR kA4 m v p):=by
 match xs,hv,J with
 | q0::q1::q2::q3::r,hv,J=>
  injection J with J
  subst J;obtain⟨ad,cap,rfl,h3,h4,h5⟩:=iL hv;simp only[Qq] at h3 h4 h5;cases ad with
  |none=>simp only at h5;omega
  | some ad=>
   obtain⟨b,o,sp⟩:=ad;obtain⟨Z,hR⟩:=h5;replace Z:=Z (by omega);simp only at Z;subst Z
   have hr:aw P ⟨some d,.sliceToArrayPointer t x,ty,pos,aft,g⟩ a w (.pointer (some ⟨b,o,none⟩)) w:=by
    have a2: ¬ (r.length+1+1+1+1<4):=by omega
    simp[aw,execOp,hE.eval hx,Instr.arrayAt,run_underlying hu,a2]
   have W:Rl (aj .u8) m (m.row b o (4*1)) [q0,q1,q2,q3]:=xg (d:=aj .u8) (xs:=[q0,q1,q2,q3]) (λi hi=>by
    have a0:=hR i (by simp only[Qq,Z4] at hi ⊢;omega)
    match i,hi,a0 with
    |0,_,h=>exact h
    |1,_,h=>exact h
    |2,_,h=>exact h
    |3,_,h=>exact h
    |i+4,hi,_=>simp only[Qq,Z4] at hi;omega)
   refine hr.step ⟨rfl,b,o,rfl,?_⟩;have e0:=W.2 0 (by simp);have e1:=W.2 1 (by simp);have e2:=W.2 2 (by simp);have e3:=W.2 3 (by simp);have a1:=W.1;show kA4.R m (m.row b o (4*1)) (q0,q1,q2,q3);generalize m.row b o (4*1)=cs at*
   match cs,a1,e0,e1,e2,e3 with
   |[c0,c1,c2,c3],_,e0,e1,e2,e3=>exact⟨e0,e1,e2,e3⟩
theorem Oj {i:TypeInfo}(hu:P.underlying t=some (.array 4 e))(hi:P.info? e=some i)(hc:P.cellsOf e=1)(he:P.underlying e=some (.int .u8))(ha:∀w,(isAgg e).run P w= .ok false w)(hG:P.eqGuardType P.depth t=false):uB P t kA4:=by
 refine⟨λm cs ds p q d w hx hy=>?_,λop o o' cs ds w=>?_⟩
 ·rw[yZ hx,yZ hy]
  show(Op.equalIn (d+20) t (.agg #[.int .u8 p.1,.int .u8 p.2.1,.int .u8 p.2.2.1,.int .u8 p.2.2.2]) (.agg #[.int .u8 q.1,.int .u8 q.2.1,.int .u8 q.2.2.1,.int .u8 q.2.2.2])).run _ _=_;rw[run_equalIn_array w (d+19) _ _ hu hi,hc]
  have ee:p=q↔p.1=q.1/\p.2.1=q.2.1/\p.2.2.1=q.2.2.1/\p.2.2.2=q.2.2.2:=by
   obtain⟨p1,p2,p3,p4⟩:=p;obtain⟨q1,q2,q3,q4⟩:=q;simp
  rw[show Qc 4=[0,1,2,3] from rfl]
  have J:∀(cs:Array Value) (j:Nat) (v:Value) (w:World),cs[j]? =some v->(part e cs (j*1)).run P w= .ok v w:=λcs j v w h=>by
   simp[part,ha,h]
  have Z:=λ(w:World) (a b:Int)=>run_equalIn_int w (d+18) e .u8 .u8 a b he;have hn:(Op.eqItems (d+19) e 1 #[.int .u8 p.1,.int .u8 p.2.1,.int .u8 p.2.2.1,.int .u8 p.2.2.2] #[.int .u8 q.1,.int .u8 q.2.1,.int .u8 q.2.2.1,.int .u8 q.2.2.2] []).run P w= .ok true w:=rfl
  have step:∀(j:Nat) (is:List Nat) (a b:Int) (r:Bool),(#[Value.int .u8 p.1,.int .u8 p.2.1,.int .u8 p.2.2.1,.int .u8 p.2.2.2]:Array Value)[j]? =some (.int .u8 a)->(#[Value.int .u8 q.1,.int .u8 q.2.1,.int .u8 q.2.2.1,.int .u8 q.2.2.2]:Array Value)[j]? =some (.int .u8 b)->
    (Op.eqItems (d+19) e 1 #[.int .u8 p.1,.int .u8 p.2.1,.int .u8 p.2.2.1,.int .u8 p.2.2.2] #[.int .u8 q.1,.int .u8 q.2.1,.int .u8 q.2.2.1,.int .u8 q.2.2.2] is).run P w= .ok r w->
    (Op.eqItems (d+19) e 1 #[.int .u8 p.1,.int .u8 p.2.1,.int .u8 p.2.2.1,.int .u8 p.2.2.2] #[.int .u8 q.1,.int .u8 q.2.1,.int .u8 q.2.2.1,.int .u8 q.2.2.2] (j::is)).run P w= .ok (a==b&&r) w:=by
   intro j is a b r h1 h2 W;simp only[Op.eqItems,Sem.run_bind,J _ _ _ _ h1,J _ _ _ _ h2,Result.andThen_ok,Z];cases hab:(a==b) with
   |true=>simpa using W
   |false=>simp
  rw[step 0 _ _ _ _ rfl rfl (step 1 _ _ _ _ rfl rfl (step 2 _ _ _ _ rfl rfl (step 3 _ _ _ _ rfl rfl hn)))];congr 1;rw[Xo];simp[ee]
 ·show(eqGuard op t o o' (.agg _) (.agg _)).run _ _=_
  cases op<;>simp[eqGuard,hG]
theorem Dp {ps:Array (Nat×Operand)}{W J h Z:Int}(hE:am δ n a l)(hp:prt l ps=some [(0,.int .u8 W),(1,.int .u8 J),(2,.int .u8 h),(3,.int .u8 Z)])(hu:P.underlying t=some (.array 4 e))(hs:∀w,(sizeOf e).run P w= .ok 1 w)
  (hz:∀w,(zeroValue t).run P w= .ok (.agg #[.int .u8 0,.int .u8 0,.int .u8 0,.int .u8 0]) w) (h0:inR .u8 W) (h1:inR .u8 J) (h2:inR .u8 h) (h3:inR .u8 Z):
  aM P ⟨some d,.build t ps,ty,pos,aft,g⟩ a w (λv w'=>w=w'/\RV kA4 m v (W,J,h,Z)):=by
 have a5:(ps.map λp=>(p.1,a.eval p.2)).toList=_:=nf hE hp
 have hr:aw P ⟨some d,.build t ps,ty,pos,aft,g⟩ a w (.agg #[.int .u8 W,.int .u8 J,.int .u8 h,.int .u8 Z]) w:=by
  have a4:(Instr.build t (ps.map λp=>(p.1,a.eval p.2))).run P w= .ok (.agg #[.int .u8 W,.int .u8 J,.int .u8 h,.int .u8 Z]) w:=by
   simp only[Instr.build,Sem.run_bind,hz,Result.andThen_ok,run_underlying hu,hs,a5]
   rfl
  simp only[aw,execOp,a4,Sem.run_bind,Sem.run_pure,Result.andThen_ok]
 exact hr.step ⟨rfl,_,⟨⟨rfl,h0⟩,⟨rfl,h1⟩,⟨rfl,h2⟩,⟨rfl,h3⟩⟩,rfl⟩
theorem pS (hE:am δ n a l)(hS:S W0 m w L TL)(hT:cI P t k){i b o:Nat}{cs:List Value}{v:Value}{xx:O}(hx:evl l x=some (.pointer (some ⟨b,o,none⟩)))(hy:evl l y=some v)(hv:RV k m v xx)(W:L[i]? =some (b,cs))(hb:o+k.sz<=cs.length):
  aM P ⟨none,.store t x y,ty,pos,aft,g⟩ a w (λ_ w'=>∃vs,k.R m vs xx/\v=k.val vs/\S W0 m w' (L.set i (b,cs.take o++vs++cs.drop (o+k.sz))) TL):=by
 obtain⟨vs,h,rfl⟩:=hv;have hl:=k.len h;have Z:cs≠[]:=λe=>by have:=k.pos;subst e;simp at hb;omega
 obtain⟨hB,hm,t',ht⟩:=hS.own i _ W Z;have J:=dT (P:=P) vs b o 0 cs t' w ht (by omega) (k.one h)
 have hr:rC P ⟨none,.store t x y,ty,pos,aft,g⟩ a w (w.setRow b (cs.take o++vs++cs.drop (o+k.sz)).toArray):=by
  simp only[Qm,hl] at J;have a0:=hT.size w;simp only[rC,execOp,hE.eval hx,hE.eval hy,Instr.storeAt,Instr.sureAddr,Sem.run_bind,Sem.run_pure,Result.andThen_ok,storeVar,k.val_cells h,a0];simp[hl,J]
 exact hr.step ⟨vs,h,rfl,hS.setL W Z _⟩
section
variable {β:Type}{kT:Kd O}{k':Kd β}{cs:List Value}{v:Value}
theorem yr {o:Nat}{xx:List O}(h:(kSl k).R m ((cs.drop o).take (kSl k).sz) xx)(J:cs[o]? =some v):RV (kSl k) m v xx:=by
 have e:(cs.drop o).take (kSl k).sz=[v]:=by
  show(cs.drop o).take 1=[v]
  rw[List.take_one,List.head?_drop,J];rfl
 rw[e] at h;exact⟨_,h,rfl⟩
theorem rH {i b o:Nat}{xx:List O}(hE:am δ n a l)(hS:S W0 m w L TL)(Z:cI P t (kSl k))(hx:evl l x=some (.pointer (some ⟨b,o,none⟩)))(W:L[i]? =some (b,cs))(h:(kSl k).R m ((cs.drop o).take (kSl k).sz) xx)(hc:cs[o]? =some v):
  aw P ⟨some d,.load t x,ty,pos,aft,g⟩ a w v w:=by
 have hA:At w b o ((cs.drop o).take (kSl k).sz):=hS.atL W (by rw[(kSl k).len h]) (by rw[(kSl k).len h];exact(kSl k).pos);have J:=ib Z h hA
 have e:(cs.drop o).take (kSl k).sz=[v]:=by
  show(cs.drop o).take 1=[v]
  rw[List.take_one,List.head?_drop,hc];rfl
 rw[e] at J;have hv:(kSl k).val [v]=v:=rfl;rw[hv] at J;simp[aw,execOp,Instr.loadAt,hE.eval hx,Instr.sureAddr,J]
theorem BX {off:Nat}{s:O->List β->O}{i b:Nat}{xx:O}{Z:List β}(hE:am δ n a l)(hS:S W0 m w L TL)(hT:cI P t (kSl k'))(hf:StF kT (kSl k') off s)(hx:evl l x=some (.pointer (some ⟨b,off,none⟩)))(hy:evl l y=some v)(hv:RV (kSl k') m v Z)(hL:L[i]? =some (b,cs))(W:kT.R m cs xx):
  aM P ⟨none,.store t x y,ty,pos,aft,g⟩ a w (λ_ w'=>∃cs',kT.R m cs' (s xx Z)/\cs'[off]? =some v/\S W0 m w' (L.set i (b,cs')) TL):=
 (pS hE hS hT hx hy hv hL (by rw[kT.len W];exact hf.1)).imp λ_ _ ⟨vs,h,J,h2⟩=>⟨_,hf.2 m cs vs xx Z W h,by
  have hl:=(kSl k').len h
  match vs,hl,J with
  |[c],_,J=>
   have J:v=c:=J;subst J;have h:=hf.1;rw[←kT.len W] at h;have h:off+1<=cs.length:=h;rw[Qb,Qi (by simp only[Qr];omega),show off - (cs.take off).length=0 by simp only[Qr];omega]
   rfl,h2⟩
theorem Dq {off:Nat}{s:O->β->O}{i b:Nat}{xx:O}{yy:β}(hE:am δ n a l)(hS:S W0 m w L TL)(hT:cI P t k')(hf:StF kT k' off s)(hx:evl l x=some (.pointer (some ⟨b,off,none⟩)))(hy:evl l y=some v)(hv:RV k' m v yy)(hL:L[i]? =some (b,cs))(Z:kT.R m cs xx):
  aM P ⟨none,.store t x y,ty,pos,aft,g⟩ a w (λ_ w'=>∃cs',kT.R m cs' (s xx yy)/\(∀q u,cs[q]? =some u->(q<off\/off+k'.sz<=q)->cs'[q]? =some u)/\S W0 m w' (L.set i (b,cs')) TL):=
 (pS hE hS hT hx hy hv hL (by rw[kT.len Z];exact hf.1)).imp λ_ _ ⟨vs,h,h0,h2⟩=>⟨_,hf.2 m cs vs xx yy Z h,λq u W J=>by
  have hl:=k'.len h;have h:=hf.1;rw[←kT.len Z] at h;have a0:=(zw.1 W).1;rcases J with J|J
  ·rw[Qb,Qk (by simp;omega),List.getElem?_take_of_lt J,W]
  ·rw[Qi (by simp;omega)]
   simp only[X9,Qr,Qu]
   rw[←W];congr 1;omega,h2⟩
end
theorem Fh {ps:Array (Nat×Operand)}{h:Array Field}{pl:List (Nat×Nat)}{z:Value}(hE:am δ n a l)(hp:prt l ps=some [])(hu:P.underlying t=some (.struct h))(Z:h.toList.mapM (λf=>(P.info? f.type).map λi=>(f.offset,i.size))=some pl)
  (J:∀w,(zeroValue t).run P w= .ok z w):aw P ⟨some d,.build t ps,ty,pos,aft,g⟩ a w (.agg z.cells) w:=by
 have a1:(ps.map λp=>(p.1,a.eval p.2)).toList=[]:=nf hE hp
 have a0:(h.mapM λf:Field=>(do pure (f.offset,←sizeOf f.type):Sem (Nat×Nat))).run P w= .ok pl.toArray w:=by
  rw[Array.mapM_eq_mapM_toList];have:=run_places (P:=P) w h.toList pl Z;simp only[Sem.run_map]
  have e1:(h.toList.mapM λf:Field=>(do pure (f.offset,←sizeOf f.type):Sem (Nat×Nat))).run P w= .ok pl w:=by
   have h2:(λf:Field=>(do pure (f.offset,←sizeOf f.type):Sem (Nat×Nat)))=(λf:Field=>Prod.mk f.offset<$>sizeOf f.type):=by
    funext f;rfl
   rw[h2];exact this
  rw[e1]
  rfl
 have W:(Instr.build t (ps.map λp=>(p.1,a.eval p.2))).run P w= .ok (.agg z.cells) w:=by
  simp only[Instr.build,Sem.run_bind,J,Result.andThen_ok,run_underlying hu,a0,a1,Instr.fill,Sem.run_pure]
 simp only[aw,execOp,W,Sem.run_bind,Sem.run_pure,Result.andThen_ok]
theorem Hm {ps:Array (Nat×Operand)}{vs:List Value}{xs:List O}{z:Value}(hE:am δ n a l)(hS:S W0 m w L TL)(hp:prt l ps=some (num 0 vs))(hu:P.underlying t=some (.slice e))(hs:∀w,(sizeOf e).run P w= .ok k.sz w)(hz:∀w,(zeroValue e).run P w= .ok z w)(hv:RVl k m vs xs)
  {len:Nat} (a6:vs.length=len) (b1:Zo (len*k.sz) 16777216=true):
  aM P ⟨some d,.buildSlice t len ps,ty,pos,aft,g⟩ a w (λv' w'=>∃m',M.le m m'/\S W0 m' w' L ((k.sz,v')::TL)/\RV (kSl k) m' v' xs/\∃b l',v'= .slice (some ⟨b,0,none⟩) len len/\W0.heap.size<=b/\m' b=some l'/\Rl k m' l' xs):=by
 intro ro Kk Q hk;have hB:W0.heap.size<=w.heap.size:=hS.below.size;have b2:=zh b1;subst a6
 have a5:aw P ⟨some d,.buildSlice t vs.length ps,ty,pos,aft,g⟩ a w (.slice (some ⟨w.heap.size,0,none⟩) vs.length vs.length) (w.alloc (.cells (gK vs).toArray e)):=by
  have a4:=λ(cs:Array Value) (a2:cs.size=vs.length*k.sz)=>by
   have:=rE (sz:=k.sz) vs 0 cs.toList hv.size (by simp[a2]);simpa[a2,Qx,Q8 (show cs.toList.length<=vs.length*k.sz by simp[a2])] using this
  have:(Instr.buildSlice t vs.length (ps.map λp=>(p.1,a.eval p.2))).run P w= .ok (.slice (some ⟨w.heap.size,0,none⟩) vs.length vs.length) (w.alloc (.cells (gK vs).toArray e)):=by
   simp only[Instr.buildSlice,Sem.run_bind,run_underlying hu,Result.andThen_ok,hs,nf hE hp];rw[if_neg (by omega)]
   by_cases h0:vs.length*k.sz=0
   ·simp only[h0,if_true,Sem.run_bind,Sem.run_pure,Result.andThen_ok]
    have:=a4 ((Array.range 0).map (λx=>(#[]:Array Value)[x%(#[]:Array Value).size]!)) (by simp[h0]);rw[this];simp[newRow]
   ·simp only[h0,if_false,Sem.run_bind,hz,Sem.run_pure,Result.andThen_ok]
    have:=a4 ((Array.range (vs.length*k.sz)).map (λx=>z.cells[x%z.cells.size]!)) (by simp);rw[this];simp[newRow]
  simp[aw,execOp,this]
 have h1:=hS.allocM (gK vs) e;refine a5.step (Post:=λv' w'=>∃m',M.le m m'/\S W0 m' w' L ((k.sz,v')::TL)/\RV (kSl k) m' v' xs/\∃b l',v'= .slice (some ⟨b,0,none⟩) vs.length vs.length/\W0.heap.size<=b/\m' b=some l'/\Rl k m' l' xs) ?_ ro Kk Q hk;refine⟨m.put w.heap.size (gK vs),h1.1,?_,?_,w.heap.size,gK vs,rfl,hB,M.put_same _ _ _,hv.cells.mono h1.1⟩
 ·have W:=h1.2
  refine⟨W.below,W.imm,W.own,W.nodup,λi e' J=>?_,λi j e1 e2 a1 a0 b3=>?_⟩
  ·cases i with
   |zero=>simp at J;subst J;exact⟨by simp,.inl rfl⟩
   |succ i=>exact W.tails i e' (by simpa using J)
  ·have a3:∀(i:Nat) (e':Nat×Value),TL[i]? =some e'->iz e'.2≠some w.heap.size:=λi e' J h=>by
    have:=tU (hS.tails i e' J) h;omega
   intro b h Z;cases i with
   |zero=>
    simp at a1;subst a1;cases j with
    |zero=>omega
    |succ j=>simp[iz] at h;subst h;exact a3 j e2 (by simpa using a0) Z
   |succ i=>
    cases j with
    |zero=>simp at a0;subst a0;simp[iz] at Z;subst Z;exact a3 i e1 (by simpa using a1) h
    |succ j=>exact hS.apart i j e1 e2 (by simpa using a1) (by simpa using a0) (by omega) b h Z
 ·have a9:=hv.length
  have b0:=k.pos;rw[a9];refine dw (Q5 _) (by unfold bU;have:=Zv vs.length b0;simp at this;omega) ⟨λ_=>rfl,?_⟩;exact nY (M.put_same _ _ _) (hv.cells.mono h1.1) (by simp)
theorem Hn {cs:List Value}{ys:List Int}(h:Rl (aj .u8) m cs ys):byt cs:=λc Z=>by
 obtain⟨j,W,rfl⟩:=X4 Z;have hl:cs.length=ys.length*1:=h.1;have J:(cs.drop (j*1)).take 1=[.int .u8 (ys[j]'(by omega))]:=(h.2 j (by omega)).1;rw[Nat.mul_one,Zg W,X5] at J;exact⟨_,(List.cons.inj J).1⟩
theorem Fi {v:Value}{b q i sz:Nat}{l':List Value}{ys:List Int}(hE:am δ n a l)(hS:S W0 m w L TL)(hx:evl l x=some v)(hu:P.underlying t=some (.slice e))(he:P.underlying e=some (.int .u8))(hv:v= .slice (some ⟨b,0,none⟩) q q)(hB:W0.heap.size<=b)(hm:m b=some l'/\Rl (aj .u8) m l' ys)(hT:TL[i]? =some (sz,v)):
  aM P ⟨some d,.convert t t x,ty,pos,aft,g⟩ a w (λu w'=>v=u/\S W0 m w' L TL):=by
 obtain⟨c,tt,fr,r,hb,hc,_⟩:=hS.imm b l' hm.1;subst hv;have a4:(w.freeze { block:=b,off:=c.size } 1)={ w with heap:=w.heap.modify b fun| .cells c' elem (lo,hi)=> .cells c' elem (if lo==hi then (c.size,c.size+1) else (min lo c.size,max hi (c.size+1)))|o=>o }:=rfl
 obtain⟨a2,a6⟩:∃a2,(w.freeze { block:=b,off:=c.size } 1).heap[b]? =some (.cells c tt a2):=by
  obtain⟨lo,hi⟩:=fr;refine⟨if lo==hi then (c.size,c.size+1) else (min lo c.size,max hi (c.size+1)),?_⟩;rw[a4];simp[Array.getElem?_modify,hb]
 have a0:∀k,k≠b->(w.freeze { block:=b,off:=c.size } 1).heap[k]? =w.heap[k]? :=λk W=>by
  rw[a4];simp[Array.getElem?_modify,Ne.symm W]
 have a3:(w.freeze { block:=b,off:=c.size } 1).heap.size=w.heap.size:=by rw[a4];simp
 have hr:aw P ⟨some d,.convert t t x,ty,pos,aft,g⟩ a w (.slice (some ⟨b,0,none⟩) q q) (w.freeze { block:=b,off:=c.size } 1):=by
  have b2:(shape b).run P w= .ok (some (tt,c.size)) w:=by
   simp[shape,Sem.run,World.shape?,hb]
  have a9:(markStringish ⟨b,0,none⟩).run P w= .ok () (w.freeze { block:=b,off:=c.size } 1):=by
   simp only[markStringish,Sem.run_bind,b2,Result.andThen_ok]
   rfl
  simp[aw,execOp,hE.eval hx,convert,run_underlying hu,run_underlying he,a9,Result.andThen]
 refine hr.step ⟨rfl,⟨⟨⟨⟨hS.below.os,hS.below.tape,hS.below.output,by rw[a3];exact hS.below.size,λk W=>?_⟩,hS.below.drawn⟩,λk o ho=>?_⟩,λk a5 W=>?_,λj e' hj a1=>?_,hS.nodup,λj e' hj=>?_,hS.apart⟩⟩
 ·have b4:k<W0.heap.size:=W
  rw[a0 k (by omega)];exact hS.below.block k W
 ·obtain⟨J,Z⟩:=hS.below.kept k o ho
  have a1:k≠b:=λe'=>by
   subst e';rw[hb] at J;injection J with J;subst J;cases Z
  exact⟨by rw[a0 k a1];exact J,Z⟩
 ·by_cases e':k=b
  ·subst e'
   rw[hm.1] at W;injection W with W;subst W
   exact⟨c,tt,a2,r,a6,hc,λ_=> .inr (Hn hm.2)⟩
  ·obtain⟨c',t',f',r',J,Z⟩:=hS.imm k a5 W
   exact⟨c',t',f',r',by rw[a0 k e'];exact J,Z⟩
 ·obtain⟨J,Z,t',h3⟩:=hS.own j e' hj a1
  have b3:e'.1≠b:=λe2=>by rw[e2,hm.1] at Z;cases Z
  exact⟨J,Z,t',by rw[a0 _ b3];exact h3⟩
 ·have ht:=hS.tails j e' hj
  by_cases hji:j=i
  ·subst hji
   rw[hT] at hj;injection hj with hj;subst hj
   exact⟨by rw[a3];exact(Array.getElem?_eq_some_iff.1 hb).1,.inl rfl⟩
  ·have b1:=hS.apart i j _ _ hT hj (λe2=>hji e2.symm) b rfl
   obtain⟨s',u⟩:=e';cases u<;>try exact ht
   rename_i ao len cap;cases ao with
   |none=>trivial
   |some ad=>
    have a1:ad.block≠b:=λe2=>b1 (by simp[iz,e2]);obtain⟨b0,h⟩:=ht;refine⟨by rw[a3];exact b0,?_⟩;rcases h with h|⟨h0,J,l2,c2,t2,Z,h3,h4,h5⟩
    ·exact .inl h
    ·exact .inr ⟨h0,J,l2,c2,t2,Z,h3,by rw[a0 _ a1];exact h4,h5⟩
end
set_option linter.unusedVariables false
set_option linter.unusedSimpArgs false
set_option maxRecDepth 100000
open Go.WideMaps (KeyLaw)
structure y5 (P:Program)(tk:TypeId){O:Type}(k:Kd O) where
 cv:O->Value
 of:∀{m v x},RV k m v x->v=cv x
 inj:∀{x y},cv x=cv y->x=y
 law:KeyLaw P tk
 key:∀{m v x},RV k m v x->∃l,keyOf P tk v=some l
def iA {O:Type} [DecidableEq O](seen:List O)(x:O):Int:=X6.wrap (seen.count x:Int)
theorem Dr {O:Type} [DecidableEq O](seen:List O)(x y:O):iA (x::seen) y=if x=y then X6.wrap (iA seen y+1) else iA seen y:=by
 unfold iA;rw[List.count_cons]
 by_cases e:x=y
 ·subst e
  simp only[beq_self_eq_true,if_true,Int.natCast_add]
  have:∀n:Int,X6.wrap (n+1)=X6.wrap (X6.wrap n+1):=λn=>by
   have key:∀n:Int,X6.wrap n=(n+9223372036854775808)%18446744073709551616 - 9223372036854775808:=by
    intro n;simp[IntKind.wrap,IntKind.bits,IntKind.signed];split<;>omega
   rw[key,key,key];omega
  exact this _
 ·simp[e]
structure ni {P:Program}{tk:TypeId}{O:Type}{k:Kd O} [DecidableEq O](K:y5 P tk k)(es:Array MapEntry)(ck:Nat)(seen:List O):Prop where
 keys:∀e∈es.toList,∃l,keyOf P tk e.key=some l
 cnt:∀e∈es.toList,∀x,e.key=K.cv x->e.val= .int .i64 (iA seen x)
 all:∀x∈seen,∃e∈es.toList,e.key=K.cv x
 nd:(es.toList.map (·.key)).Nodup
 born:(es.toList.map (·.born)).Nodup
 lt:∀e∈es.toList,e.born<ck
theorem GH {k:IntKind}{n:Int}(h:inR k n):(Lit.int k n).wf=true:=by
 rw[lI] at h;simpa[Lit.wf] using h
theorem Ds {P:Program} {t:TypeId} {f0 f1:Field} {k0 k1:IntKind} {n0 n1:Int} {d:Nat} (hu:P.underlying t=some (.struct #[f0,f1])) (hb:(f0.name != "_" &&f1.name != "_")=true) (h0:P.underlying f0.type=some (.int k0)) (h1:P.underlying f1.type=some (.int k1))
  (o0:f0.offset=0) (o1:f1.offset=1) (c0:P.cellsOf f0.type=1) (c1:P.cellsOf f1.type=1) (hc:P.cellsOf t=2) (hk:P.keyType t=true) (hs:P.types.size=d+1) (w0:(Lit.int k0 n0).wf=true) (w1:(Lit.int k1 n1).wf=true):
  ∃l,keyOf P t (.agg #[.int k0 n0,.int k1 n1])=some l:=by
 rw[Qg] at hb
 have e0:P.keyLits (d+1) f0.type (([Value.int k0 n0,.int k1 n1].drop f0.offset).take (P.cellsOf f0.type))=some [.int k0 n0]:=by
  rw[o0,c0];simp only[Ql,X5,Qx,Program.keyLits,h0];rw[if_pos ⟨trivial,w0⟩]
 have e1:P.keyLits (d+1) f1.type (([Value.int k0 n0,.int k1 n1].drop f1.offset).take (P.cellsOf f1.type))=some [.int k1 n1]:=by
  rw[o1,c1];simp only[Zj,Ql,X5,Qx,Program.keyLits,h1];rw[if_pos ⟨trivial,w1⟩]
 have e2:P.keyLits (d+2) t [Value.int k0 n0,.int k1 n1]=some [.int k0 n0,.int k1 n1]:=by
  unfold Program.keyLits;rw[hu];simp only[hc];rw[if_pos ⟨rfl,by simp[hb.1,hb.2]⟩];simp only[Z1,List.mapM_nil,e0,e1]
  rfl
 unfold keyOf;rw[hu];simp only[hk,Value.formed,hu,hc,hs];rw[if_pos (by rfl)];exact⟨_,by rw[show(Value.agg #[Value.int k0 n0,.int k1 n1]).cells.toList=[Value.int k0 n0,.int k1 n1] from rfl,e2];rfl⟩
section
variable {P:Program}{tk t e2:TypeId}{O:Type}{k:Kd O} [DecidableEq O]{K:y5 P tk k}{es:Array MapEntry}{ck b:Nat}{seen:List O}{m:M}{w:World}{v:Value}{x:O}
theorem ni.nil:ni K #[] 0 []:=⟨by simp,by simp,by simp,by simp,by simp,by simp⟩
theorem ni.find (h:ni K es ck seen)(Z:RV k m v x)(w:World):
  ((Instr.findKey tk v es.toList).run P w= .ok none w/\(∀e∈es.toList,e.key≠v)/\iA seen x=0)\/
  ∃j e,(Instr.findKey tk v es.toList).run P w= .ok (some (j,e.val)) w/\es.toList[j]? =some e/\e.key=v/\e.val= .int .i64 (iA seen x):=by
 obtain⟨l,hl⟩:=K.key Z;rcases K.law.find w hl es.toList h.keys with⟨W,J⟩|⟨j,e,W,J,h3⟩
 ·left
  refine⟨W,J,?_⟩
  have hn:x∉seen:=λhm=>by
   obtain⟨e,he,hk⟩:=h.all x hm;exact J e he (hk.trans (K.of Z).symm)
  unfold iA;rw[List.count_eq_zero.2 hn];decide
 ·exact .inr ⟨j,e,W,J,h3,h.cnt e (Qo J) x (h3.trans (K.of Z))⟩
theorem ni.look (h:ni K es ck seen)(hx:RV k m v x)(ht:P.underlying t=some (.map tk e2))(hz:∀w,(zeroValue e2).run P w= .ok (.int .i64 0) w)(W:w.heap[b]? =some (.map es ck)):
  (Instr.lookup t (.map (some b)) v false).run P w= .ok (.int .i64 (iA seen x)) w:=by
 obtain⟨l,hl⟩:=K.key hx;rcases h.find hx w with⟨J,h2,Z⟩|⟨j,e,J,h2,Z,h4⟩
 ·simp[Instr.lookup,run_underlying ht,MapKept.run_getObj_map W,K.law.check w _ hl,J,hz,Z,Result.andThen]
 ·simp[Instr.lookup,run_underlying ht,MapKept.run_getObj_map W,K.law.check w _ hl,J,h4,Result.andThen]
theorem Dt {l:List MapEntry}(h:(l.map (·.key)).Nodup){i j:Nat}{a c:MapEntry}(hi:l[i]? =some a)(W:l[j]? =some c)(hk:a.key=c.key):i=j:=by
 have J:(l.map (·.key))[i]? =some a.key:=by simp[hi]
 have Z:(l.map (·.key))[j]? =some a.key:=by simp[W,hk]
 exact(List.getElem?_inj (zw.1 J).1 h).1 (J.trans Z.symm)
theorem ni.entry (h:ni K es ck seen)(hx:RV k m v x)(ht:P.underlying t=some (.map tk e2))(Z:∀w,(zeroValue e2).run P w= .ok (.int .i64 0) w)(hb:w.heap[b]? =some (.map es ck)):
  ∃(a0:Array MapEntry) (a1 j:Nat) (e:MapEntry),(Instr.mapEntry t (.map (some b)) v).run P w= .ok (.tuple #[e.val,goInt e.born]) (w.putObj b (.map a0 a1))/\ni K a0 a1 seen/\a0.toList[j]? =some e/\e.key=v:=by
 obtain⟨l,hl⟩:=K.key hx;rcases h.find hx w with⟨h1,W,h3⟩|⟨j,e,h1,W,h3,h4⟩
 ·refine⟨es.push ⟨v,.int .i64 0,ck⟩,ck+1,es.size,⟨v,.int .i64 0,ck⟩,?_,⟨?_,?_,?_,?_,?_,?_⟩,by simp,rfl⟩
  ·simp[Instr.mapEntry,run_underlying ht,MapKept.run_getObj_map hb,K.law.check w false hl,h1,Z,MapKept.run_setObj_map _ hb,Result.andThen,World.putObj]
  ·intro e J
   simp only[Array.toList_push,Zf,Za] at J;rcases J with J|rfl
   ·exact h.keys e J
   ·exact⟨l,hl⟩
  ·intro e J y hy
   simp only[Array.toList_push,Zf,Za] at J;rcases J with J|rfl
   ·exact h.cnt e J y hy
   ·have:x=y:=K.inj ((K.of hx).symm.trans hy)
    subst this;rw[h3]
  ·intro y hy
   obtain⟨e,J,hk⟩:=h.all y hy;exact⟨e,by simp only[Array.toList_push,Zf];exact .inl J,hk⟩
  ·simp only[Array.toList_push,List.map_append,Qy,Xs]
   refine List.nodup_append.2 ⟨h.nd,by simp,λa ha c hc e=>?_⟩;simp only[Za] at hc;obtain⟨z,Z,rfl⟩:=X3.1 ha;exact W z Z (e.trans hc)
  ·simp only[Array.toList_push,List.map_append,Qy,Xs]
   refine List.nodup_append.2 ⟨h.born,by simp,λa ha c hc e=>?_⟩;simp only[Za] at hc;obtain⟨z,Z,rfl⟩:=X3.1 ha;have:=h.lt z Z;omega
  ·intro e J
   simp only[Array.toList_push,Zf,Za] at J;rcases J with J|rfl
   ·have:=h.lt e J;omega
   ·exact Nat.lt_succ_self _
 ·have hj:es[j]? =some e:=by simpa using W
  have a2:es.modify j (λe'=>{ e' with key:=v })=es:=by
   apply Array.ext';rw[Array.toList_modify,ChangeMaps.modify_eq_set _ _ _ _ W];have:({ e with key:=v }:MapEntry)=e:=by rw[←h3]
   rw[this];exact WideElems.set_self _ _ _ W
  refine⟨es,ck,j,e,?_,h,W,h3⟩;simp[Instr.mapEntry,run_underlying ht,MapKept.run_getObj_map hb,K.law.check w false hl,h1,hj,h3,K.law.stays w hl,a2,MapKept.run_setObj_map _ hb,Result.andThen,World.putObj]
theorem ni.store (h:ni K es ck seen)(hx:RV k m v x){j:Nat}{e:MapEntry}(W:es.toList[j]? =some e)(hk:e.key=v)(hb:w.heap[b]? =some (.map es ck)):
  ∃es1,(Instr.entryStore t (.map (some b)) (goInt e.born) (.int .i64 (X6.wrap (iA seen x+1)))).run P w= .ok () (w.putObj b (.map es1 ck))/\ni K es1 ck (x::seen):=by
 have a3:es.findIdx? (λe'=>((e'.born:Nat):Int)==((e.born:Nat):Int))=some j:=by
  rw[WideElems.findIdx_arr];exact WideElems.findIdx_born h.born W
 have hl:(es.modify j λe'=>{ e' with val:= .int .i64 (X6.wrap (iA seen x+1)) }).toList=es.toList.set j { e with val:= .int .i64 (X6.wrap (iA seen x+1)) }:=by
  rw[Array.toList_modify,ChangeMaps.modify_eq_set _ _ _ _ W]
 have a2:=(zw.1 W).1;refine⟨_,by simp[Instr.entryStore,MapKept.run_getObj_map hb,asInt,asIntOf,goInt,a3,MapKept.run_setObj_map _ hb,Result.andThen,World.putObj];rfl,⟨?_,?_,?_,?_,?_,?_⟩⟩
 ·rw[hl]
  intro a J;rcases X8 J with J|rfl
  ·exact h.keys a J
  ·exact h.keys e (Qo W)
 ·rw[hl]
  intro a J y Z;rw[Dr];obtain⟨i,hi,rfl⟩:=X4 J;rw[Xk] at Z ⊢;split
  ·rename_i a0
   rw[if_pos a0] at Z;have:x=y:=K.inj ((K.of hx).symm.trans (hk.symm.trans Z));rw[if_pos this,this]
  ·rename_i a0
   rw[if_neg a0] at Z;simp only[List.length_set] at hi
   have a4:x≠y:=λe'=>by
    subst e';have a5:es.toList[i]? =some es.toList[i]:=Qf hi;exact a0 (Dt h.nd W a5 (hk.trans ((K.of hx).trans Z.symm)))
   rw[if_neg a4];exact h.cnt _ (Zk hi) y Z
 ·rw[hl]
  intro y Z
  have:∃a∈es.toList,a.key=K.cv y:=by
   rcases Xq.1 Z with rfl|Z
   ·exact⟨e,Qo W,hk.trans (K.of hx)⟩
   ·exact h.all y Z
  obtain⟨a,J,a1⟩:=this;obtain⟨i,hi,rfl⟩:=X4 J
  by_cases a0:j=i
  ·subst a0
   have e1:es.toList[j]=e:=(zw.1 W).2;exact⟨_,List.mem_set a2 _,by rw[←a1,e1]⟩
  ·refine⟨es.toList[i],?_,a1⟩
   refine Qo (i:=i) ?_;rw[List.getElem?_set_ne a0,Qf hi]
 ·rw[hl,List.map_set]
  have:(es.toList.map (·.key)).set j e.key=es.toList.map (·.key):=WideElems.set_self _ _ _ (by simp[W]);rw[this];exact h.nd
 ·rw[hl,List.map_set]
  have:(es.toList.map (·.born)).set j e.born=es.toList.map (·.born):=WideElems.set_self _ _ _ (by simp[W]);rw[this];exact h.born
 ·rw[hl]
  intro a J;rcases X8 J with J|rfl
  ·exact h.lt a J
  ·exact h.lt e (Qo W)
end
section
variable {δ:List Nat}{ro:Option Nat}{P:Program}{W0:Bse}{m:M}{w:World}{L:List (Nat×List Value)}{TL:List (Nat×Value)}{tk e2:TypeId}{O:Type}{k:Kd O} [DecidableEq O]{K:y5 P tk k}{es:Array MapEntry}{ck b:Nat}{seen:List O}{n d:Nat}{a:Act}{l:List (Nat×Value)}{x y:Operand}{t ty:TypeId}{pos:String}{aft:Array Edge}{g:Option (Nat×Bool)}{v:Value}{xx:O}
theorem BY (hS:S W0 m w L TL):aM P ⟨some d,.makeMap t none,ty,pos,aft,g⟩ a w (λv w'=>∃b,v= .map (some b)/\S (W0.put b (.map #[] 0)) m w' L TL/\W0.keep b=none/\W0.heap.size<=b):=by
 have h:aw P ⟨some d,.makeMap t none,ty,pos,aft,g⟩ a w (.map (some w.heap.size)) (w.alloc (.map #[] 0)):=by
  simp[aw,execOp,show(Instr.makeMap t none).run P w= .ok (.map (some w.heap.size)) (w.alloc (.map #[] 0)) from rfl]
 exact h.step ⟨_,rfl,hS.newK rfl,hS.keepNone (Q5 _),hS.below.size⟩
theorem A7 (h:am δ n a l)(hS:S (W0.put b (.map es ck)) m w L TL)(Z:ni K es ck seen)(hx:evl l x=some (.map (some b)))(hy:evl l y=some v)(hv:RV k m v xx)(ht:P.underlying t=some (.map tk e2))(J:∀w,(zeroValue e2).run P w= .ok (.int .i64 0) w):
  aw P ⟨some d,.lookup t x y false,ty,pos,aft,g⟩ a w (.int .i64 (iA seen xx)) w:=by
 have W:=(hS.below.kept b _ (Bse.put_same _ _ _)).1;simp[aw,execOp,h.eval hx,h.eval hy,Z.look hv ht J W]
abbrev Mv (tm tv tk ti:TypeId)(p:String):List Oper:=[
 ⟨some 50,.move (.tmp 9),tm,p,#[],none⟩,
 ⟨some 51,.fieldAddr tv (.tmp 11) 0,0,p,#[],none⟩,
 ⟨some 52,.load tk (.tmp 51),tk,p,#[⟨1,.data⟩],none⟩,
 ⟨some 53,.lookup tm (.tmp 50) (.tmp 52) false,ti,p,#[⟨0,.data⟩,⟨2,.data⟩],none⟩,
 ⟨some 54,.binOp .add ti (.tmp 53) (.const (.int .i64 1)) ti,ti,p,#[⟨3,.data⟩],none⟩,
 ⟨some 55,.mapEntry tm (.tmp 50) (.tmp 52),0,p,#[⟨0,.data⟩,⟨2,.data⟩,⟨0,.phase⟩,⟨1,.phase⟩,⟨2,.phase⟩,⟨3,.textOnly .mapOpAssignEntry⟩,⟨4,.textOnly .mapOpAssignEntry⟩],none⟩,
 ⟨some 56,.extract (.tmp 55) 1,ti,p,#[⟨5,.data⟩],none⟩,
 ⟨none,.entryStore tm (.tmp 50) (.tmp 56) (.tmp 54),0,p,#[⟨0,.data⟩,⟨6,.data⟩,⟨4,.data⟩,⟨5,.chain⟩,⟨0,.phase⟩,⟨1,.phase⟩,⟨2,.phase⟩,⟨3,.phase⟩,⟨4,.phase⟩,⟨5,.phase⟩,⟨6,.phase⟩],none⟩]
def vj {P:Program}{tk:TypeId}{O:Type}{k:Kd O} [DecidableEq O](K:y5 P tk k)(m:M)(b h:Nat)(seen:List O)(x:O)(es:Array MapEntry):Nat->Value->Prop
 |0,v=>v= .map (some b)
 |1,v=>v= .pointer (some ⟨h,0,none⟩)
 |2,v=>RV k m v x
 |3,v=>v= .int .i64 (iA seen x)
 |4,v=>v= .int .i64 (X6.wrap (iA seen x+1))
 |5,v=>∃(j:Nat) (e:MapEntry),es.toList[j]? =some e/\e.key=K.cv x/\v= .tuple #[e.val,goInt e.born]
 |6,v=>∃(j:Nat) (e:MapEntry),es.toList[j]? =some e/\e.key=K.cv x/\v=goInt e.born
 |_,_=>True
theorem Ok {tm tv ti:TypeId}{p:String}{id bl i:Nat}{β:Type}{kv:Kd β}{f:β->O}{cs:List Value}{y0:β}{N Rt:Act->World->Prop}{X:List (Nat×(Act->World->Prop))}
  (hm:P.follows .mixedOrders=true) (hn:Zo 57 n=true) (W:am δ n a l) (hl:(Qc 7).all (λj=>(lk l (50+j)).isNone)=true) (hS:S (W0.put b (.map es ck)) m w L TL) (hB:W0.heap.size<=b) (hC:ni K es ck seen) (hx:lk l 9=some (.map (some b))) (hy:lk l 11=some (.pointer (some ⟨bl,0,none⟩)))
  (ht:P.underlying tm=some (.map tk e2)) (hz:∀w,(zeroValue e2).run P w= .ok (.int .i64 0) w) (hF:dS P tv 0 0) (hf:Fld kv k 0 f) (hT:cI P tk k) (hL:L[i]? =some (bl,cs)) (hR:kv.R m cs y0) (b3:P.underlying ti=some (.int .i64))
  (b2:∀a w es ck,am δ n a l->S (W0.put b (.map es ck)) m w L TL->ni K es ck (f y0::seen)->N a w):
  Hay.K ro P (.region id (Mv tm tv tk ti p).toArray true) N X Rt a w:=by
 have hn:=zh hn
 have b1:∀j,j<7->lk l (50+j)=none:=λj hj=>by
  have:=Q7.1 hl j (Xe.2 hj);simpa using this
 refine yL (k:=7) hm (by kernel_rfl) (by kernel_rfl) (λs a w=>∃es ck,S (W0.put b (.map es ck)) m w L TL/\ni K es ck seen/\am δ n a l/\∀j,j<7->s j=true->vj K m b bl seen (f y0) es j (a.tmps.getD (50+j) undef)) ?_ ?_ ?_
 ·exact⟨es,ck,hS.drew,hC,W,λj _ h=>(Bool.false_ne_true h).elim⟩
 ·intro q o J hq s a w ⟨es,ck,hS,hC,W,hp⟩ hsq hpre hcl
  have env:∀v,am δ n (a.put (some (50+q)) v) l:=λv=>⟨by simp[Act.put,W.defers],by simp[Act.put,W.size],λj u hj=>by
   have a3:50+q≠j:=λe=>by rw[←e,b1 q hq] at hj;cases hj
   have:=W.at_ j u hj
   simpa[Act.put,Array.getElem?_setIfInBounds_ne a3] using this⟩
  have Z:∀(v:Value) (a6:Array MapEntry),vj K m b bl seen (f y0) a6 q v->(∀j,j<7->j≠q->s j=true->vj K m b bl seen (f y0) a6 j (a.tmps.getD (50+j) undef))->
    ∀j,j<7->upd s q j=true->vj K m b bl seen (f y0) a6 j ((a.put (some (50+q)) v).tmps.getD (50+j) undef):=by
   intro v a6 h1 h2 j hj hs
   by_cases hjq:j=q
   ·subst hjq
    have:(a.put (some (50+j)) v).tmps.getD (50+j) undef=v:=by
     have:=W.size;simp[Act.put,show 50+j<a.tmps.size by omega]
    rw[this];exact h1
   ·have a5:s j=true:=by simpa[upd,hjq] using hs
    have:(a.put (some (50+q)) v).tmps.getD (50+j) undef=a.tmps.getD (50+j) undef:=by
     have a3:50+q≠50+j:=by omega
     simp[Act.put,Array.getElem?_setIfInBounds_ne a3]
    rw[this];exact h2 j hj hjq a5
  have a0:∀j,j<7->j≠q->s j=true->vj K m b bl seen (f y0) es j (a.tmps.getD (50+j) undef):=λj hj _ h=>hp j hj h;have hb:=(hS.below.kept b _ (Bse.put_same _ _ _)).1
  match q,hq,J,hpre,env,Z,a0 with
  |0,_,J,hpre,env,Z,a0=>
   injection J with J;subst J
   show aM P _ _ _ _;exact(iJ W (x:= .tmp 9) hx).step ⟨es,ck,hS,hC,env _,Z _ es rfl a0⟩
  |1,_,J,hpre,env,Z,a0=>
   injection J with J;subst J
   show aM P _ _ _ _;exact(aG W hF (x:= .tmp 11) hy).step ⟨es,ck,hS,hC,env _,Z _ es rfl a0⟩
  |2,_,J,hpre,env,Z,a0=>
   injection J with J;subst J
   show aM P _ _ _ _;have h1:a.tmps.getD 51 undef= .pointer (some ⟨bl,0,none⟩):=hp 1 (by decide) (hpre 1 (Zd.1 rfl));have a1:=W.add h1;refine(aB a1 hS hT (x:= .tmp 51) rfl hL (hf.R_drop (aJ hR))).imp λv w' ⟨e,hv⟩=>?_;subst e;exact⟨es,ck,hS,hC,env _,Z _ es hv a0⟩
  |3,_,J,hpre,env,Z,a0=>
   injection J with J;subst J
   show aM P _ _ _ _;have h0:a.tmps.getD 50 undef= .map (some b):=hp 0 (by decide) (hpre 0 (Zd.1 rfl));have h2:RV k m (a.tmps.getD 52 undef) (f y0):=hp 2 (by decide) (hpre 2 (Zd.1 rfl));have a1:=(W.add h0).add (i:=52) rfl;exact(A7 a1 hS hC (x:= .tmp 50) (y:= .tmp 52) rfl rfl h2 ht hz).step ⟨es,ck,hS,hC,env _,Z _ es rfl a0⟩
  |4,_,J,hpre,env,Z,a0=>
   injection J with J;subst J
   show aM P _ _ _ _;have h3:a.tmps.getD 53 undef= .int .i64 (iA seen (f y0)):=hp 3 (by decide) (hpre 3 (Zd.1 rfl));have a1:=W.add h3;exact(be a1 (x:= .tmp 53) (y:= .const (.int .i64 1)) rfl rfl (cy rfl)).step ⟨es,ck,hS,hC,env _,Z _ es rfl a0⟩
  | 5,_,J,hpre,env,Z,a0=>
   injection J with J;subst J
   show aM P _ _ _ _;have h0:a.tmps.getD 50 undef= .map (some b):=hp 0 (by decide) (hpre 0 (Zd.1 rfl));have h2:RV k m (a.tmps.getD 52 undef) (f y0):=hp 2 (by decide) (hpre 2 (Zd.1 rfl));have a1:=(W.add h0).add (i:=52) rfl;obtain⟨a2,a4,j,e,h1,h3,h4,h5⟩:=hC.entry h2 ht hz hb
   have hr:aw P ⟨some 55,.mapEntry tm (.tmp 50) (.tmp 52),0,p,#[⟨0,.data⟩,⟨2,.data⟩,⟨0,.phase⟩,⟨1,.phase⟩,⟨2,.phase⟩,⟨3,.textOnly .mapOpAssignEntry⟩,⟨4,.textOnly .mapOpAssignEntry⟩],none⟩ a w (.tuple #[e.val,goInt e.born]) (w.putObj b (.map a2 a4)):=by
    have e1:a.eval (.tmp 50)= .map (some b):=a1.eval rfl;have e2:a.eval (.tmp 52)=a.tmps.getD 52 undef:=rfl;simp only[aw,execOp,e1,e2,h1,Sem.run_bind,Sem.run_pure,Result.andThen_ok]
   have b0:S (W0.put b (.map a2 a4)) m (w.putObj b (.map a2 a4)) L TL:=by
    have:=hS.putK (o':= .map a2 a4) hb rfl rfl hB;rwa[Bse.put_put] at this
   refine hr.step ⟨a2,a4,b0,h3,env _,Z _ a2 ⟨j,e,h4,h5.trans (K.of h2),rfl⟩ λj' a9 a3 a5=>?_⟩;have:=a0 j' a9 a3 a5
   match j',a9,a3,this with
   |0,_,_,h=>exact h
   |1,_,_,h=>exact h
   |2,_,_,h=>exact h
   |3,_,_,h=>exact h
   |4,_,_,h=>exact h
   |5,_,a3,_=>exact(a3 rfl).elim
   |6,_,_,_=>
    have h6:=hcl 6 _ rfl a5 5 (Zd.1 rfl);rw[hsq] at h6;cases h6
   |j'+7,a9,_,_=>omega
  |6,_,J,hpre,env,Z,a0=>
   injection J with J;subst J
   show aM P _ _ _ _;obtain⟨j,e,h1,h2,h3⟩:∃(j:Nat) (e:MapEntry),es.toList[j]? =some e/\e.key=K.cv (f y0)/\a.tmps.getD 55 undef= .tuple #[e.val,goInt e.born]:=hp 5 (by decide) (hpre 5 (Zd.1 rfl));have a1:=W.add h3;exact(cl a1 (x:= .tmp 55) rfl rfl).step ⟨es,ck,hS,hC,env _,Z _ es ⟨j,e,h1,h2,rfl⟩ a0⟩
  |q+7,hq,_,_,_,_,_=>omega
 ·intro s a w ⟨es,ck,hS,hC,W,hp⟩ hs
  have h0:a.tmps.getD 50 undef= .map (some b):=hp 0 (by decide) (hs 0 (by decide) (zh rfl));have h2:RV k m (a.tmps.getD 52 undef) (f y0):=hp 2 (by decide) (hs 2 (by decide) (zh rfl));have h4:a.tmps.getD 54 undef= .int .i64 (X6.wrap (iA seen (f y0)+1)):=hp 4 (by decide) (hs 4 (by decide) (zh rfl));obtain⟨j,e,h5,h6,h7⟩:∃(j:Nat) (e:MapEntry),es.toList[j]? =some e/\e.key=K.cv (f y0)/\a.tmps.getD 56 undef=goInt e.born:=hp 6 (by decide) (hs 6 (by decide) (zh rfl));have a1:=((W.add h0).add h4).add h7;have hb:=(hS.below.kept b _ (Bse.put_same _ _ _)).1
  obtain⟨a2,h8,h9⟩:=hC.store (t:=tm) h2 h5 (h6.trans (K.of h2).symm) hb
  have b0:S (W0.put b (.map a2 ck)) m (w.putObj b (.map a2 ck)) L TL:=by
   have:=hS.putK (o':= .map a2 ck) hb rfl rfl hB;rwa[Bse.put_put] at this
  refine st0 W (Post:=λ_ w'=>w'=w.putObj b (.map a2 ck)) (rC.step ?_ rfl) ?_
  ·have e1:a.eval (.tmp 50)= .map (some b):=a1.eval rfl
   have e2:a.eval (.tmp 56)=goInt e.born:=a1.eval rfl;have e3:a.eval (.tmp 54)= .int .i64 (X6.wrap (iA seen (f y0)+1)):=a1.eval rfl;simp only[rC,execOp,e1,e2,e3,h8,Sem.run_bind,Sem.run_pure,Result.andThen_ok]
  ·rintro _ w' rfl W
   exact ag (b2 _ _ a2 ck W b0 h9)
end
end Go.Proofs.YthbonoagbeilkaaGreat.Hay
