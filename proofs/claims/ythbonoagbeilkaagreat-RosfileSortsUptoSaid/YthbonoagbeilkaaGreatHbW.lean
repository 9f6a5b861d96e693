import Derived.Test.YthbonoagbeilkaaGreatHbA
set_option linter.unusedVariables false
set_option linter.unusedSimpArgs false
namespace Go.Proofs.YthbonoagbeilkaaGreat.Hay
open Option renaming bind_some→Z2
open List renaming getElem?_eq_some_iff→zh,getElem?_append_right→zw,getElem?_append_left→Q1,append_assoc→Q3,mem_filter→Q5,mem_cons→Q6,any_eq_true→Q7,mem_zipIdx_iff_getElem?→Qb,getElem?_eq_getElem→Qd,all_eq_true→Qe,pairwise_iff_getElem→Qf,getElem?_take→Qg,filter_cons→Qh,pairwise_append→Qj,getElem?_map→Qk,mem_append→Ql,length_take→Qn,length_append→Qo,mem_singleton→Qp,map_cons→Qq,replicate→Qs,getElem?_take_of_lt→Qt,mem_map_of_mem→Qu,getElem?_drop→Qw,range→Qx,mem_map→Qy,getElem?_set→Qz,set_append_right→Z0,filterMap_cons→Z4,drop_eq_getElem_cons→Z5,drop_drop→Z7,getElem?_cons_succ→Z8,take_append_drop→Z9,getElem?_eq_none→Za,mem_range→Zd,map_nil→Ze
open Nat renaming eq_of_beq_eq_true→Jn,le_of_ble_eq_true→Q0,blt→Q2,beq→Q9,ble_eq_true_of_le→Qa,add_sub_cancel_left→Qi,lt_or_ge→Qr,ble→Z1,lt_or_gt_of_ne→Z3,beq_refl→Z6,zero_add→Zb,le_refl→Zc
open Bool renaming and_eq_true→Q4,not_eq_true'→Qc,or_eq_true→Qm,noConfusion→Qv
open M.le renaming refl→Q8
def GR {O:Type}(k:Kd O)(o:Nat)(m:M)(b:Nat)(cs:List Value)(v:Value)(xs:List O)(rows:List Value):Prop:=
 GS k m b cs v xs/\rows.length=xs.length/\∀i r,rows[i]? =some r->cs[i*k.sz+o]? =some r
def tls (sz:Nat)(rows:List Value):List (Nat×Value):=rows.map λv=>(sz,v)
section
variable {O:Type}{k:Kd O}{o:Nat}{m m':M}{b:Nat}{cs:List Value}{v:Value}{xs:List O}{rows:List Value}
theorem GR.mono (h:GR k o m b cs v xs rows)(J:M.le m m'):GR k o m' b cs v xs rows:=⟨h.1.mono J,h.2⟩
theorem GR.row (h:GR k o m b cs v xs rows){j:Nat}{x:O}(J:xs[j]? =some x):∃r,rows[j]? =some r/\cs[j*k.sz+o]? =some r:=by
 have W:=(zh.1 J).1;have:j<rows.length:=by rw[h.2.1];exact W
 exact⟨rows[j],Qd this,h.2.2 j _ (Qd this)⟩
theorem vk {O:Type}{l:List O}{i:Nat}(h:i<l.length):(l[i]::l.eraseIdx i).Perm l:=by
 have e:l=l.take i++l[i]::l.drop (i+1):=by rw[←Z5 h,Z9]
 rw[List.eraseIdx_eq_take_drop_succ]
 conv=>rhs;rw[e]
 exact List.perm_middle.symm
theorem Fj {sz j:Nat}{r:Value}(h:rows[j]? =some r)(TL:List (Nat×Value)):(tls sz rows++TL).Perm ((sz,r)::(tls sz (rows.eraseIdx j)++TL)):=by
 obtain⟨W,rfl⟩:=zh.1 h;have J:rows.Perm (rows[j]::rows.eraseIdx j):=(vk W).symm;exact(J.map λv=>(sz,v)).append_right TL
theorem Fk {sz j:Nat}{u:Value}(h:j<rows.length)(TL:List (Nat×Value)):((sz,u)::(tls sz (rows.eraseIdx j)++TL)).Perm (tls sz (rows.set j u)++TL):=by
 have W:j<(rows.set j u).length:=by simpa using h
 have J:((rows.set j u)[j]::(rows.set j u).eraseIdx j).Perm (rows.set j u):=vk W;rw[List.getElem_set_self,List.eraseIdx_set_eq] at J;exact(J.map λv=>(sz,v)).append_right TL
end
theorem tT.symm {v u:Value}(h:tT v u):tT u v:=λb W J=>h b J W
theorem S.permT {W0:Bse}{m:M}{w:World}{L:List (Nat×List Value)}{TL a0:List (Nat×Value)}(h:S W0 m w L TL)(hp:TL.Perm a0):S W0 m w L a0:=by
 have a3:TL.Pairwise λa b=>tT a.2 b.2:=by
  rw[Qf];intro i j hi J a1;exact h.apart i j _ _ (Qd hi) (Qd J) (by omega)
 have W:a0.Pairwise λa b=>tT a.2 b.2:=(hp.pairwise_iff λh=>h.symm).1 a3;rw[Qf] at W;refine⟨h.below,h.imm,h.own,h.nodup,λi e Z=>?_,λi j e e' Z a2 a1=>?_⟩
 ·have:e∈TL:=hp.mem_iff.2 (List.mem_of_getElem? Z)
  obtain⟨q,hq⟩:=List.getElem?_of_mem this;exact h.tails q e hq
 ·obtain⟨hi,rfl⟩:=zh.1 Z
  obtain⟨J,rfl⟩:=zh.1 a2;rcases Z3 a1 with hl|hl
  ·exact W i j hi J hl
  ·exact(W j i J hi hl).symm
section
variable {δ:List Nat}{P:Program}{W0:Bse}{m:M}{w:World}{L:List (Nat×List Value)}{TL:List (Nat×Value)}{O β:Type}{k:Kd O}{k':Kd β}{n d:Nat}{a:Act}{l:List (Nat×Value)}{x y:Operand}{t ty:TypeId}{pos:String}{aft:Array Edge}{g:Option (Nat×Bool)}{o b i:Nat}{cs:List Value}{v:Value}{xs:List O}{rows:List Value}
theorem vl {off j:Nat}{s:O->β->O}{u:Value}{xx:O}{h:β}(hE:am δ n a l)(hS:S W0 m w L TL)(hT:cI P t k')(W:StF k k' off s)(hg:GS k m b cs v xs)(hj:xs[j]? =some xx)(hx:evl l x=some (.pointer (some ⟨b,j*k.sz+off,none⟩)))(hy:evl l y=some u)(hv:RV k' m u h)(hL:L[i]? =some (b,cs)):
  aM P ⟨none,.store t x y,ty,pos,aft,g⟩ a w (λ_ w'=>∃vs,k'.R m vs h/\u=k'.val vs/\vs.length=k'.sz/\j*k.sz+off+k'.sz<=cs.length/\GS k m b (cs.take (j*k.sz+off)++vs++cs.drop (j*k.sz+off+k'.sz)) v (xs.set j (s xx h))/\S W0 m w' (L.set i (b,cs.take (j*k.sz+off)++vs++cs.drop (j*k.sz+off+k'.sz))) TL):=by
 have Z:=hg.elem hj;have hl:=k.len Z;have hb:j*k.sz+off+k'.sz<=cs.length:=by have:=W.1;simp at hl;have:=k.pos;omega
 refine(pS hE hS hT hx hy hv hL hb).imp λ_ w' ⟨vs,J,h0,h2⟩=>⟨vs,J,h0,k'.len J,hb,?_,h2⟩
 have h3:=W.2 m _ vs xx h Z J;have h4:=hg.set hj h3;have a1:=k'.len J
 have e2:cs.take (j*k.sz)++(((cs.drop (j*k.sz)).take k.sz).take off++vs++((cs.drop (j*k.sz)).take k.sz).drop (off+k'.sz))++cs.drop (j*k.sz+k.sz)=cs.take (j*k.sz+off)++vs++cs.drop (j*k.sz+off+k'.sz):=by
  have a0:=W.1;rw[List.take_take,Nat.min_eq_left (by omega),List.take_add (i:=j*k.sz) (j:=off) (l:=cs)]
  have e3:((cs.drop (j*k.sz)).take k.sz).drop (off+k'.sz)++cs.drop (j*k.sz+k.sz)=cs.drop (j*k.sz+off+k'.sz):=by
   rw[List.drop_take,Z7,show cs.drop (j*k.sz+k.sz)=(cs.drop (j*k.sz+(off+k'.sz))).drop (k.sz - (off+k'.sz)) by rw[Z7];congr 1;omega,Z9];congr 1;omega
  rw[Q3,Q3,Q3,e3];simp
 rw[e2] at h4;exact h4
theorem y6 {A B C:List Value}{q:Nat}(h:q<A.length):(A++B++C)[q]? =A[q]? :=by
 rw[Q3,Q1 h]
theorem s5 {off j:Nat}{s:O->β->O}{u:Value}{xx:O}{Z:β}(hE:am δ n a l)(hS:S W0 m w L TL)(hT:cI P t k')(hf:StF k k' off s)(W:GR k o m b cs v xs rows)(hj:xs[j]? =some xx)(hx:evl l x=some (.pointer (some ⟨b,j*k.sz+off,none⟩)))(hy:evl l y=some u)(hv:RV k' m u Z)(hL:L[i]? =some (b,cs))
  (ho:o<k.sz) (hd:o<off\/off+k'.sz<=o):
  aM P ⟨none,.store t x y,ty,pos,aft,g⟩ a w (λ_ w'=>∃cs',GR k o m b cs' v (xs.set j (s xx Z)) rows/\S W0 m w' (L.set i (b,cs')) TL):=by
 refine(vl hE hS hT hf W.1 hj hx hy hv hL).imp λ_ w' ⟨vs,h1,h0,a0,hb,h2,h3⟩=>⟨_,⟨h2,by simpa using W.2.1,λq r hq=>?_⟩,h3⟩
 have J:=W.2.2 q r hq;have a1:=hf.1;have a2:=(zh.1 J).1
 have h:q*k.sz+o<j*k.sz+off\/j*k.sz+off+k'.sz<=q*k.sz+o:=by
  rcases Nat.lt_trichotomy q j with hl|hl|hl
  ·have:=gq (sz:=k.sz) hl;omega
  ·subst hl;omega
  ·have:=gq (sz:=k.sz) hl;omega
 rcases h with h|h
 ·rw[y6 (by simp;omega),Qt h,J]
 ·rw[zw (by simp;omega)]
  simp only[Qo,Qn,Qw];rw[←J];congr 1;omega
theorem AM {γ:Type}{kc:Kd γ}{j:Nat}{s:O->List γ->O}{u:Value}{xx:O}{yy:List γ}(hE:am δ n a l)(hS:S W0 m w L TL)(hT:cI P t (kSl kc))(hf:StF k (kSl kc) o s)(Z:GR k o m b cs v xs rows)(hj:xs[j]? =some xx)(hx:evl l x=some (.pointer (some ⟨b,j*k.sz+o,none⟩)))(hy:evl l y=some u)(hv:RV (kSl kc) m u yy)(hL:L[i]? =some (b,cs)):
  aM P ⟨none,.store t x y,ty,pos,aft,g⟩ a w (λ_ w'=>∃cs',GR k o m b cs' v (xs.set j (s xx yy)) (rows.set j u)/\S W0 m w' (L.set i (b,cs')) TL):=by
 refine(vl hE hS hT hf Z.1 hj hx hy hv hL).imp λ_ w' ⟨vs,h1,h0,a0,hb,h2,h3⟩=>⟨_,⟨h2,by simpa using Z.2.1,λq r h=>?_⟩,h3⟩
 have a1:vs=[u]:=by
  match vs,a0,h0 with
  |[c],_,h0=>exact congrArg (λz=>[z]) (show c=u from h0.symm)
 subst a1;have hb:j*k.sz+o+1<=cs.length:=hb
 by_cases hqj:q=j
 ·subst hqj
  have:q<rows.length:=by
   have:=(zh.1 h).1;simpa using this
  rw[List.getElem?_set_self this] at h;injection h with h;subst h
  rw[Q3,zw (by simp only[Qn];omega),show q*k.sz+o - (cs.take (q*k.sz+o)).length=0 by simp only[Qn];omega]
  rfl
 ·rw[List.getElem?_set_ne (λe=>hqj e.symm)] at h
  have W:=Z.2.2 q r h;have a2:o+1<=k.sz:=hf.1;have a3:=(zh.1 W).1;show(cs.take (j*k.sz+o)++[u]++cs.drop (j*k.sz+o+1))[q*k.sz+o]? =some r
  have J:q*k.sz+o<j*k.sz+o\/j*k.sz+o+1<=q*k.sz+o:=by
   rcases Z3 hqj with hl|hl
   ·have:=gq (sz:=k.sz) hl;omega
   ·have:=gq (sz:=k.sz) hl;omega
  rcases J with J|J
  ·rw[y6 (by simp;omega),Qt J,W]
  ·rw[zw (by simp;omega)]
   simp only[Qo,Qn,Qw,List.length_singleton];rw[←W];congr 1;omega
def uH:Kd Unit:={
 sz:=1
 agg:=false
 R:=λ_ cs _=>∃c,cs=[c]/\c.oneCell'=true
 mono:=λ_ h=>h
 len:=λh=>by obtain⟨c,rfl,_⟩:=h;rfl
 one:=λh=>by obtain⟨c,rfl,J⟩:=h;simpa using J
 pos:=by decide
 flat:=λ_=>rfl
 }
theorem GS.one (h:GS k m b cs v xs):v.oneCell'=true:=by
 obtain⟨a,cap,rfl,_⟩:=h.val
 rfl
theorem Ho {c:Value}(hE:am δ n a l)(hS:S W0 m w L TL)(hT:cI P t uH)(hx:evl l x=some (.pointer (some ⟨b,o,none⟩)))(Z:L[i]? =some (b,cs))(J:cs[o]? =some c)(h1:c.oneCell'=true):aw P ⟨some d,.load t x,ty,pos,aft,g⟩ a w c w:=by
 have e:(cs.drop o).take 1=[c]:=by
  rw[List.take_one,List.head?_drop,J];rfl
 have a0:=(zh.1 J).1;have h:uH.R m ((cs.drop o).take uH.sz) ():=⟨c,e,h1⟩
 have hA:At w b o ((cs.drop o).take uH.sz):=hS.atL Z (by rw[uH.len h]) (by rw[uH.len h];exact uH.pos);have W:=ib hT h hA
 have hv:uH.val ((cs.drop o).take uH.sz)=c:=by
  show uH.val ((cs.drop o).take 1)=c;rw[e];rfl
 rw[hv] at W;simp[aw,execOp,Instr.loadAt,hE.eval hx,Instr.sureAddr,W]
theorem S.tailsN (h:S W0 m w L TL)(sz:Nat):∀q,S W0 m w L (tls sz (Qs q (.slice none 0 0))++TL)
 |0=>h
 |q+1=>(S.tailsN h sz q).tail0 sz
theorem S.dropR {sz:Nat}(h:S W0 m w L (tls sz rows++TL)):S W0 m w L TL:=by
 have:=h.dropT (tls sz rows).length;simpa using this
theorem Fl {e:TypeId}{by_ N sz:Nat}{kk kc:IntKind}{i:Int}{xs:List O}{x0:O}{h:TypeInfo}{z:Value}(hE:am δ n a l)(hS:S W0 m w L TL)(hx:evl l x=some (.int kk i))(hy:evl l y=some (.int kc i))(hu:P.underlying t=some (.slice e))(hi:P.info? e=some h)(hz:h.zero=some z)(b1:h.size=k.sz)(a6:h.bytes=by_)(a1:∀m,k.R m z.cells.toList x0)
  (J:mk N i x0=some xs) (hN:Z1 (N*by_) 281474976710656=true) (hM:Z1 N 281474976710656=true) (ho:z.cells.toList[o]? =some (.slice none 0 0)):
  aM P ⟨some d,.makeSlice t x y,ty,pos,aft,g⟩ a w (λv w'=>∃b cs rows,GR k o m b cs v xs rows/\S W0 m w' ((b,cs)::L) (tls sz rows++TL)):=by
 unfold mk at J;split at J
 ·rename_i h0
  injection J with J
  subst J;have hb:=Q0 hN;have b3:=Q0 hM
  have a5:=run_make (P:=P) w t e h z hu hi hz kk kc i i h0.1 (Int.le_refl _) (by
   rw[a6];have h1:(by_:Int)*i<=by_*N:=Int.mul_le_mul_of_nonneg_left h0.2 (by omega);have Z:((N*by_:Nat):Int)=by_*N:=by rw[Int.natCast_mul,Int.mul_comm]
   omega) (by omega)
  have hr:aw P ⟨some d,.makeSlice t x y,ty,pos,aft,g⟩ a w (.slice (some ⟨w.heap.size,0,none⟩) i.toNat i.toNat) (w.alloc (.cells (madeCells z.cells (i.toNat*h.size)) e)):=by
   simp[aw,execOp,hE.eval hx,hE.eval hy,a5]
  have a0:=k.len (a1 m);have b4:=k.pos
  have a4:∀q j:Nat,j<q->((madeCells z.cells (q*k.sz)).toList.drop (j*k.sz)).take k.sz=z.cells.toList:=λq j b5=>by
   apply List.ext_getElem?
   intro r;rw[Qg,Qw]
   have Z:j*k.sz+k.sz<=q*k.sz:=by
    have:=Nat.mul_le_mul_right k.sz (show j+1<=q by omega);rw[Nat.add_mul] at this;omega
   by_cases hr':r<k.sz
   ·rw[if_pos hr']
    have a3:z.cells.size=k.sz:=by simpa using a0
    have h3:(j*k.sz+r)%k.sz=r:=by rw[Nat.mul_comm,Nat.mul_add_mod];exact Nat.mod_eq_of_lt hr'
    have h4:j*k.sz+r<q*k.sz:=by omega
    have a2:r<z.cells.size:=by omega
    have h5:z.cells[r]! =z.cells[r]:=getElem!_pos z.cells r a2;simp[madeCells,h4,a3,h3,h5,Array.getElem?_eq_getElem a2]
   ·rw[if_neg hr']
    have a3:z.cells.toList.length=k.sz:=a0;rw[Za (by omega)]
  have a9:∀q:Nat,Rl k m (madeCells z.cells (q*k.sz)).toList (Qs q x0):=λq=>by
   refine⟨by simp[madeCells],λj hj=>?_⟩;simp only[List.getElem_replicate];rw[a4 q j (by simpa using hj)];exact a1 m
  refine hr.step ⟨w.heap.size,(madeCells z.cells (i.toNat*k.sz)).toList,Qs i.toNat (.slice none 0 0),⟨?_,by simp,λq r W=>?_⟩,?_⟩
  ·have:=GS.of_Rl (b:=w.heap.size) (a9 i.toNat) (by unfold bU;simp;omega)
   simpa using this
  ·rw[List.getElem?_replicate] at W
   split at W
   ·rename_i b0
    injection W with W;subst W
    have h1:=a4 i.toNat q b0
    have b2:o<k.sz:=by
     have:=(zh.1 ho).1;rw[←a0];exact this
    have Z:(((madeCells z.cells (i.toNat*k.sz)).toList.drop (q*k.sz)).take k.sz)[o]? =some (.slice none 0 0):=by rw[h1];exact ho
    rw[Qt b2,Qw] at Z;exact Z
   ·cases W
  ·have h1:=hS.allocL (madeCells z.cells (i.toNat*k.sz)).toList e
   rw[b1];refine S.tailsN (sz:=sz) ?_ i.toNat;simpa using h1
 ·cases J
theorem Hp {zc:List Value}(W:am δ n a l)(hS:S W0 m w L TL)(J:evl l x=some (.agg zc.toArray)):aM P ⟨some d,.box t x,ty,pos,aft,g⟩ a w (λv w'=>∃b,v= .pointer (some ⟨b,0,none⟩)/\S W0 m w' ((b,zc)::L) TL):=by
 have h:aw P ⟨some d,.box t x,ty,pos,aft,g⟩ a w (.pointer (some ⟨w.heap.size,0,none⟩)) (w.alloc (.cells zc.toArray t)):=by
  simp[aw,execOp,Instr.box,W.eval J,newVar,newRow,Value.cells]
 exact h.step ⟨_,rfl,hS.allocL zc t⟩
theorem Du {kT:Kd O}{u:Value}{xx:O}(hE:am δ n a l)(hS:S W0 m w L TL)(hT:cI P t uH)(Z:StF kT uH o (λx _=>x))(hx:evl l x=some (.pointer (some ⟨b,o,none⟩)))(hy:evl l y=some u)(h:u.oneCell'=true)(hL:L[i]? =some (b,cs))(W:kT.R m cs xx):
  aM P ⟨none,.store t x y,ty,pos,aft,g⟩ a w (λ_ w'=>∃cs',kT.R m cs' xx/\cs'[o]? =some u/\S W0 m w' (L.set i (b,cs')) TL):=
 (pS (k:=uH) (xx:=()) hE hS hT hx hy ⟨[u],⟨u,rfl,h⟩,rfl⟩ hL (by rw[kT.len W];exact Z.1)).imp λ_ _ ⟨vs,h,J,h2⟩=>⟨_,Z.2 m cs vs xx () W h,by
  have hl:=uH.len h
  match vs,hl,J with
  |[c],_,J=>
   have J:u=c:=J;subst J;have h:=Z.1;rw[←kT.len W] at h;have h:o+1<=cs.length:=h;rw[Q3,zw (by simp only[Qn];omega),show o - (cs.take o).length=0 by simp only[Qn];omega]
   rfl,h2⟩
end
abbrev ei (k:IntKind)(x:Int)(v:Value):Prop:=v= .int k x/\inR k x
theorem gz {x b:Bool}(h:x=b):∀(m:M) (W:List Wit) (v:Value),v= .bool x->v= .bool b:=λ_ _ _ J=>by rw[J,h]
section
variable {δ:List Nat}{ro:Option Nat}{P:Program}{os:List Oper}{Φ:Nat->M->List Wit->Value->Prop}{Q:Nat->M->List Wit->List (Nat×List Value)->List (Nat×Value)->Prop}{W0:Bse}{m:M}{n:Nat}{cs:List COp}{i:Nat}{c:COp}{dst:Option Tmp}{op:Op}{ty:TypeId}{pos:String}{aft:Array Edge}
theorem cp0 (h:∀J Z W m' a w,c.lo+J.length<=c.hi->M.le m m'->Q (c.lo+J.length) m' ([]++J) Z W->S W0 m' w Z W->am δ n a c.olds->
  (∀(j:Nat) (_:j∈aT ⟨dst,op,ty,pos,aft,none⟩:=by decide) {d:Nat} (_:bW os.toArray j=some d:=by exact rfl),Φ j m' (([]:List Wit).take ((cs.map COp.lv).getD j 0)) (a.tmps.getD d undef))->
  aM P ⟨dst,op,ty,pos,aft,none⟩ a w (λv w'=>∃m'',M.le m' m''/\S W0 m'' w' Z W/\Φ i m'' [] v)) (h0:c.lo=0:=by exact rfl):
  ChS δ P os Φ Q W0 m n cs i c ⟨dst,op,ty,pos,aft,none⟩:=Dk λa0 J Z W m' a w h1 h2 h3 h4 h5 h6 h7=>by
 obtain rfl:a0=[]:=gQ (by rw[h1,h0]);exact h J Z W m' a w h2 h3 h4 h5 h6 λj hj d hd=>h7 j hj d hd
theorem cp1 (h:∀W J m' a w,M.le m m'->Q 0 m' [] W J->S W0 m' w W J->am δ n a c.olds->
  (∀(j:Nat) (_:j∈aT ⟨dst,op,ty,pos,aft,none⟩:=by decide) {d:Nat} (_:bW os.toArray j=some d:=by exact rfl),Φ j m' (([]:List Wit).take ((cs.map COp.lv).getD j 0)) (a.tmps.getD d undef))->
  aM P ⟨dst,op,ty,pos,aft,none⟩ a w (λv w'=>∃m'',M.le m' m''/\S W0 m'' w' W J/\Φ i m'' [] v)) (Z:c.lo=0:=by exact rfl) (h1:c.hi=0:=by exact rfl):
  ChS δ P os Φ Q W0 m n cs i c ⟨dst,op,ty,pos,aft,none⟩:=cp0 (λa0 W J m' a w h2 h3 h4 h5 h6 h7=>by
 obtain rfl:a0=[]:=gQ (by rw[h1] at h2;omega);rw[Z] at h4
 exact h W J m' a w h3 h4 h5 h6 @h7) Z
theorem cmv {x:Operand}{v:Value}(Z:∀m',M.le m m'->Φ i m' [] v)(h:c.lo=0:=by exact rfl)(W:evl c.olds x=some v:=by exact rfl):ChS δ P os Φ Q W0 m n cs i c ⟨dst,.move x,ty,pos,aft,none⟩:=
 cp0 (λa0 L' a1 m' a w h2 J h4 h5 h6 h7=>aM.imp (aw.pure (iJ h6 W)) λ_ _ ⟨e1,e2⟩=>by subst e1 e2;exact⟨_,Q8 _,h5,Z _ J⟩) h
theorem cg0 {g dg:Nat}{b:Bool}(hq:∀m ws v,Φ g m ws v->v= .bool b)
  (h:∀J Z W m' a w,c.lo+J.length<=c.hi->M.le m m'->Q (c.lo+J.length) m' ([]++J) Z W->S W0 m' w Z W->am δ n a c.olds->
  (∀(j:Nat) (_:j∈aT ⟨dst,op,ty,pos,aft,some (g,b)⟩:=by decide) {d:Nat} (_:bW os.toArray j=some d:=by exact rfl),Φ j m' (([]:List Wit).take ((cs.map COp.lv).getD j 0)) (a.tmps.getD d undef))->
  aM P ⟨dst,op,ty,pos,aft,some (g,b)⟩ a w (λv w'=>∃m'',M.le m' m''/\S W0 m'' w' Z W/\Φ i m'' [] v)) (h0:c.lo=0:=by exact rfl)
  (hd:bW os.toArray g=some dg:=by exact rfl) (hn:Q2 dg n=true:=by exact rfl) (hg:g∈aT ⟨dst,op,ty,pos,aft,some (g,b)⟩:=by decide):
  ChS δ P os Φ Q W0 m n cs i c ⟨dst,op,ty,pos,aft,some (g,b)⟩:=II hd hn hg hq λa0 J Z W m' a w h1 h2 h3 h4 h5 h6 h7=>by
 obtain rfl:a0=[]:=gQ (by rw[h1,h0]);exact h J Z W m' a w h2 h3 h4 h5 h6 λj hj d hd=>h7 j hj d hd
theorem cg1 {g dg:Nat}{b:Bool}(hq:∀m ws v,Φ g m ws v->v= .bool b)
  (h:∀W J m' a w,M.le m m'->Q 0 m' [] W J->S W0 m' w W J->am δ n a c.olds->
  (∀(j:Nat) (_:j∈aT ⟨dst,op,ty,pos,aft,some (g,b)⟩:=by decide) {d:Nat} (_:bW os.toArray j=some d:=by exact rfl),Φ j m' (([]:List Wit).take ((cs.map COp.lv).getD j 0)) (a.tmps.getD d undef))->
  aM P ⟨dst,op,ty,pos,aft,some (g,b)⟩ a w (λv w'=>∃m'',M.le m' m''/\S W0 m'' w' W J/\Φ i m'' [] v)) (Z:c.lo=0:=by exact rfl) (h1:c.hi=0:=by exact rfl)
  (hd:bW os.toArray g=some dg:=by exact rfl) (hn:Q2 dg n=true:=by exact rfl) (hg:g∈aT ⟨dst,op,ty,pos,aft,some (g,b)⟩:=by decide):
  ChS δ P os Φ Q W0 m n cs i c ⟨dst,op,ty,pos,aft,some (g,b)⟩:=cg0 hq (λa0 W J m' a w h2 h3 h4 h5 h6 h7=>by
 obtain rfl:a0=[]:=gQ (by rw[h1] at h2;omega);rw[Z] at h4
 exact h W J m' a w h3 h4 h5 h6 @h7) Z hd hn hg
theorem cgm {g h:Nat}{b:Bool}{x:Operand}{v:Value}(J:∀m ws v,Φ g m ws v->v= .bool b)(hp:∀m',M.le m m'->Φ i m' [] v)(W:c.lo=0:=by exact rfl)(hx:evl c.olds x=some v:=by exact rfl)
  (hd:bW os.toArray g=some h:=by exact rfl) (hn:Q2 h n=true:=by exact rfl) (Z:g∈aT ⟨dst,.move x,ty,pos,aft,some (g,b)⟩:=by decide):ChS δ P os Φ Q W0 m n cs i c ⟨dst,.move x,ty,pos,aft,some (g,b)⟩:=
 cg0 J (λa0 L' a1 m' a w h2 h3 h4 h5 h6 h7=>aM.imp (aw.pure (iJ h6 hx)) λ_ _ ⟨e1,e2⟩=>by subst e1 e2;exact⟨_,Q8 _,h5,hp _ h3⟩) W hd hn Z
theorem csk {g J:Nat}{b b':Bool}(W:∀m ws v,Φ g m ws v->v= .bool b)(hd:bW os.toArray g=some J:=by exact rfl)(hn:Q2 J n=true:=by exact rfl)(hg:g∈aT ⟨dst,op,ty,pos,aft,some (g,b')⟩:=by decide)(Z:b≠b':=by decide)(h:∀m ws,Φ i m ws undef:=by exact λ_ _=>rfl):
  ChS δ P os Φ Q W0 m n cs i c ⟨dst,op,ty,pos,aft,some (g,b')⟩:=Mu hd hn hg W Z h
end
section
variable {P:Program}{o:Oper}{a:Act}{w:World}{W0:Bse}{m':M}{L:List (Nat×List Value)}{TL:List (Nat×Value)}{v:Value}{F:M->Value->Prop}{R:Value->Prop}
theorem cq (h:aw P o a w v w)(hS:S W0 m' w L TL)(W:F m' v):aM P o a w (λv w'=>∃m'',M.le m' m''/\S W0 m'' w' L TL/\F m'' v):=
 aM.imp (aw.pure h) λ_ _ ⟨J,e2⟩=>by subst J e2;exact⟨_,Q8 _,hS,W⟩
theorem cr (h:aM P o a w (λv w'=>w=w'/\R v))(hS:S W0 m' w L TL)(W:∀v,R v->F m' v):aM P o a w (λv w'=>∃m'',M.le m' m''/\S W0 m'' w' L TL/\F m'' v):=
 aM.imp h λ_ _ ⟨e,J⟩=>by subst e;exact⟨_,Q8 _,hS,W _ J⟩
end
section
variable {δ:List Nat}{ro:Option Nat}{P:Program}{ops:Array Oper}{Q:Exit->Act->World->Prop}{rest:List Oper}{a:Act}{w:World}{n:Nat}{l:List (Nat×Value)}{d:Nat}{op:Op}{ty t t':TypeId}{pos:String}{aft:Array Edge}{v:Value}
theorem qM {x:Operand}(h:am δ n a l)(J:evl l x=some v)(k:∀a',am δ n a' ((d,v)::l)->wpL ro P ops Q rest a' w)(W:Q2 d n=true:=by exact rfl):wpL ro P ops Q (⟨some d,.move x,ty,pos,aft,none⟩::rest) a w:=sp h (iJ h J) W k
theorem qA {x:Operand}(h:am δ n a l)(J:evl l x=some v)(k:∀a',am δ n a' ((d,v)::l)->wpL ro P ops Q rest a' w)(W:Q2 d n=true:=by exact rfl):wpL ro P ops Q (⟨some d,.assign x,ty,pos,aft,none⟩::rest) a w:=sp h (kH h J) W k
theorem qB {x y:Operand}{h:BinOp}{k k':IntKind}{p q:Int}(J:am δ n a l)(hx:evl l x=some (.int k p))(Z:evl l y=some (.int k' q))(W:∀w,(binOp h t (.int k p) (.int k' q)).run P w= .ok v w)
  (kk:∀a',am δ n a' ((d,v)::l)->wpL ro P ops Q rest a' w) (hd:Q2 d n=true:=by exact rfl):wpL ro P ops Q (⟨some d,.binOp h t x y t',ty,pos,aft,none⟩::rest) a w:=sp J (be J hx Z W) hd kk
theorem qX {g:Nat}{b b':Bool}{o:Oper}{h:Nat}(hE:am δ n a l)(J:b= !b')(k:∀a',am δ n a' ((d,undef)::l)->wpL ro P ops Q rest a' w)(W:ops[g]? =some o:=by exact rfl)(Z:o.dst=some h:=by exact rfl)(a0:Q2 h n=true:=by exact rfl)(hl:lk l h=some (.bool b):=by exact rfl)
  (hd:Q2 d n=true:=by exact rfl):wpL ro P ops Q (⟨some d,op,ty,pos,aft,some (g,b')⟩::rest) a w:=sx hE W Z a0 hl J hd k
theorem qG {J:Oper}{g h:Nat}{b c:Bool}{x:Operand}(W:am δ n a l)(Z:c=b)(hx:evl l x=some v)(k:∀a',am δ n a' ((d,v)::l)->wpL ro P ops Q rest a' w)(hg:ops[g]? =some J:=by exact rfl)(ho:J.dst=some h:=by exact rfl)(a0:Q2 h n=true:=by exact rfl)(hl:lk l h=some (.bool c):=by exact rfl)
  (hd:Q2 d n=true:=by exact rfl):wpL ro P ops Q (⟨some d,.move x,ty,pos,aft,some (g,b)⟩::rest) a w:=spg W hg ho a0 hl Z (iJ W hx) hd k
theorem qT {b:Bool}{x y z:Operand}(h:am δ n a l)(J:b=true)(W:evl l y=some v)(k:∀a',am δ n a' ((d,v)::l)->wpL ro P ops Q rest a' w)(Z:evl l x=some (.bool b):=by exact rfl)(hd:Q2 d n=true:=by exact rfl):wpL ro P ops Q (⟨some d,.pick x y z,ty,pos,aft,none⟩::rest) a w:=sp h (qL h Z J W) hd k
theorem qF {b:Bool}{x y z:Operand}(h:am δ n a l)(W:b=false)(J:evl l z=some v)(k:∀a',am δ n a' ((d,v)::l)->wpL ro P ops Q rest a' w)(Z:evl l x=some (.bool b):=by exact rfl)(hd:Q2 d n=true:=by exact rfl):wpL ro P ops Q (⟨some d,.pick x y z,ty,pos,aft,none⟩::rest) a w:=sp h (qN h Z W J) hd k
end
section
variable {P:Program}{f:FuncId}{fn:Func}{c:Code}{args:List Value}{n:Nat}{w:World}{R:Value->World->Prop}
theorem kc (W:P.funcs[f]? =some fn)(Z:fn.ntmps=n)(h:∀a,Env n a ((Qx args.length).zip args)->K none P c (Fin P fn R) [] (Fin P fn R) a w)(J:fn.body=some c:=by exact rfl)(a0:Z1 args.length n=true:=by exact rfl):Calls P f args.toArray w (Ret R):=
 vg W J Z (Q0 a0) h
theorem f1 {a:Act}{l:List (Nat×Value)}{t:Nat}{v:Value}(J:Env n a l)(W:R v w)(Z:fn.results.toList=[.tmp t]:=by exact rfl)(h:lk l t=some v:=by exact rfl):Fin P fn R a w:=Fin.mk J Z (o9.tmp J h o9.nil) W
theorem f2 {a:Act}{l:List (Nat×Value)}{t t':Nat}{v v':Value}(J:Env n a l)(Z:R (.tuple #[v,v']) w)(hr:fn.results.toList=[.tmp t,.tmp t']:=by exact rfl)(h:lk l t=some v:=by exact rfl)(W:lk l t'=some v':=by exact rfl):Fin P fn R a w:=Fin.mk J hr (o9.tmp J h (o9.tmp J W o9.nil)) Z
theorem rm {vs:Array Value}{Q W:Value->World->Prop}(h:Calls P f vs w (Ret Q))(k:∀v w',Q v w'->W v w'):Calls P f vs w (Ret W):=
 h.mono λe w' J=>by
  cases e with
  |returned v=>exact k v w' J
  |panicked ch=>exact J.elim
  |outgrown=>exact J.elim
end
section
variable {O β γ:Type}{r:γ}
theorem ob2 {x:Option O}{y:O->Option β}{f:O->β->Option γ}(h:(x.bind λa=>(y a).bind (f a))=some r):∃a,x=some a/\∃b,y a=some b/\f a b=some r:=by
 obtain⟨a,W,h⟩:=ob h;obtain⟨b,J,h⟩:=ob h;exact⟨a,W,b,J,h⟩
end
theorem kut {δ:List Nat}{n:Nat}{a:Act}{l J:List (Nat×Value)}(h:am δ n a l)(W:Sub l J:=by repeat' first|exact trivial|exact rfl|refine And.intro ?_ ?_):am δ n a J:=h.cut W
theorem eof {δ:List Nat}{n:Nat}{a:Act}{l:List (Nat×Value)}(k:Nat)(h:List (Nat×Value))(h1:a.defers=δ.map λD=>{ target:= .collected D,args:= #[] })(W:a.tmps.size=n){ops:Array Oper}(J:∀d v,lk l d=some v->(∀j,j<k->bW ops j≠some d)->a.tmps.getD d undef=v)(Z:Sub l h:=by repeat' first|exact trivial|exact rfl|refine And.intro ?_ ?_)
  (hk:(Qx k).all (λj=>match bW ops j with|some d=>h.all (λe=> !(Q9 e.1 d))|none=>true)=true:=by exact rfl):am δ n a h:=am.of h1 W J Z hk
abbrev pz (b:Nat):Value:= .pointer (some ⟨b,0,none⟩)
theorem adv {δ:List Nat}{n:Nat}{a:Act}{l:List (Nat×Value)}{O:Type}{k:Kd O}{m:M}{d:Nat}{x:O}(J:am δ n a l)(h:RV k m (a.tmps.getD d undef) x):∃v,am δ n a ((d,v)::l)/\RV k m v x:=⟨_,J.add rfl,h⟩
section
variable {δ:List Nat}{ro:Option Nat}{P:Program}{Φ:Nat->M->List Wit->Value->Prop}{Q:Nat->M->List Wit->List (Nat×List Value)->List (Nat×Value)->Prop}{W0:Bse}{m:M}{n:Nat}{a:Act}{l:List (Nat×Value)}{w:World}{L:List (Nat×List Value)}{TL:List (Nat×Value)}
theorem kch {os:List Oper}{id k:Nat}{es:List Nat}{cs:List COp}{N Rt:Act->World->Prop}{X:List (Nat×(Act->World->Prop))}
  (hm:P.follows .mixedOrders=true) (hE:am δ n a l) (hS:S W0 m w L TL) (Z:Q 0 m [] L TL) (a2:kW os=true) (a0:lJ os k=true) (a3:Fc os es cs k n=true)
  (mono:∀i m m' h v,M.le m m'->Φ i m h v->Φ i m' h v) (a5:∀c m m' h L T,M.le m m'->Q c m h L T->Q c m' h L T)
  (step:yn δ P os Φ Q W0 m n cs 0 cs os)
  (a4:∀h W J m' a w,h.length=es.length->M.le m m'->Q es.length m' h W J->S W0 m' w W J->a.defers=δ.map (λD=>{ target:= .collected D,args:= #[] })->a.tmps.size=n->(∀d v,lk l d=some v->(∀j,j<k->bW os.toArray j≠some d)->a.tmps.getD d undef=v)->
   (∀(j:Nat) (_:Q2 j (min k os.length)=true:=by exact rfl) {d:Nat} (_:bW os.toArray j=some d:=by exact rfl),Φ j m' (h.take ((cs.map COp.lv).getD j 0)) (a.tmps.getD d undef))->wpL ro P os.toArray (mkQ N X Rt) (os.drop k) a w) (a1:yo l cs:=by repeat' first|exact trivial|exact rfl|refine And.intro ?_ ?_):K ro P (.region id os.toArray true) N X Rt a w:=
 IH hm hE hS Z a2 a0 a1 a3 mono a5 step λh W J m' a w h1 h2 h3 h4 h5 h6 h7 h8=>a4 h W J m' a w h1 h2 h3 h4 h5 h6 h7 λj hj d hd=>h8 j (Q0 hj) d hd
end
section
variable {δ:List Nat}{P:Program}{W0:Bse}{m:M}{L:List (Nat×List Value)}{TL:List (Nat×Value)}{n:Nat}{a:Act}{l:List (Nat×Value)}{w:World}{ty t t2 e:TypeId}{pos:String}{aft:Array Edge}{g:Option (Nat×Bool)}{x y:Operand}{d:Nat}{O:Type}{k:Kd O}{by_ N:Nat}
end
open Go.RowKit
def IP {σ O:Type}(P:Program)(Rv:M->List Value->Mem->O->Prop)(B:σ->Bse)(y:Value)(I:M->σ->Mem->Tls->Prop)(step:σ->O->Option (σ×Bool)):Prop:=
 ∀(m:M) (w:World) (L:Mem) (TL:Tls) (s:σ) (Ls:Mem) (TLs:Tls) (vs:List Value) (h:Mem) (x:O) (s':σ) (b:Bool),I m s Ls TLs->S (B s) m w (h++(Ls++L)) (TLs++TL)->Rv m vs h x->step s x=some (s',b)->
  BR P y vs w (λr w'=>r= .bool b/\∃m' Ls' TLs',M.le m m'/\I m' s' Ls' TLs'/\S (B s') m' w' (Ls'++L) (TLs'++TL))
def Mw {O:Type}(P:Program)(Rv:M->List Value->Mem->O->Prop)(J:FuncId)(W:Array Value)(h:M)(xs:List O):Prop:=
 ∀(σ:Type) (I:M->σ->Mem->Tls->Prop) (step:σ->O->Option (σ×Bool)) (B:σ->Bse) (y:Value) (m:M) (w:World) (L:Mem) (TL:Tls) (s:σ) (Ls:Mem) (TLs:Tls) (r:σ×Bool),
  (∀m m' s a b,M.le m m'->I m s a b->I m' s a b)->M.le h m->IP P Rv B y I step->I m s Ls TLs->S (B s) m w (Ls++L) (TLs++TL)->eK step s xs=some r->
  Calls P J (#[y]++W) w (Ret λ_ w'=>∃m' Ls' TLs',M.le m m'/\I m' r.1 Ls' TLs'/\S (B r.1) m' w' (Ls'++L) (TLs'++TL))
def ItX {O:Type}(P:Program)(Rv:M->List Value->Mem->O->Prop)(m:M)(v:Value)(xs:List O):Prop:=
 ∃gf lb,v= .func (.func gf) #[] lb/\(∀vs w,(callFunc gf vs).run P w= .ok (.enter gf vs) w)/\Mw P Rv gf lb m xs
theorem ItX.mono {O:Type}{P:Program}{Rv:M->List Value->Mem->O->Prop}{m m':M}{v:Value}{xs:List O}(h:ItX P Rv m v xs)(J:M.le m m'):ItX P Rv m' v xs:=by
 obtain⟨gf,W,h1,h2,Z⟩:=h;exact⟨gf,W,h1,h2,λσ I step B y m w L TL s Ls TLs r mono hle=>Z σ I step B y m w L TL s Ls TLs r mono (J.trans hle)⟩
def ww:Kd Value:={
 sz:=1
 agg:=false
 R:=λ_ cs v=>cs=[v]/\v.oneCell'=true
 mono:=λ_ h=>h
 len:=λh=>by simp[h.1]
 one:=λh c J=>by rw[h.1] at J;simp at J;rw[J];exact h.2
 pos:=by decide
 flat:=λ_=>rfl
 }
theorem Dv {m:M}{v x:Value}(h:RV ww m v x):v=x/\x.oneCell'=true:=by
 obtain⟨cs,⟨rfl,h⟩,rfl⟩:=h;exact⟨rfl,h⟩
section
variable {δ:List Nat}{P:Program}{W0:Bse}{m:M}{L:Mem}{TL:Tls}{n:Nat}{a:Act}{l:List (Nat×Value)}{w:World}{N Rt:Act->World->Prop}{X:List (Nat×(Act->World->Prop))}
end
section
variable {W0:Bse}{m m':M}{w:World}{L:Mem}{TL:Tls}
theorem S.shrink (h:S W0 m' w L TL)(hm:M.le m m'):S W0 m w L []:=
  ⟨h.below,λb l Z=>(by
    obtain⟨s,W⟩:=hm b l Z;obtain⟨c,t,fr,r,h1,h2,h3⟩:=h.imm b _ W
    exact⟨c,t,fr,s++r,h1,by rw[h2,Q3],λZ=>(h3 Z).imp id λh4 c hc=>h4 c (List.mem_append_left _ hc)⟩),
   λi e J hv=>(by
    obtain⟨h1,h2,h3⟩:=h.own i e J hv;refine⟨h1,?_,h3⟩;cases hx:m e.1 with
    |none=>rfl
    |some l=>obtain⟨s,W⟩:=hm _ l hx;rw[h2] at W;cases W),h.nodup,λi e J=>by simp at J,λi j e e' J=>by simp at J⟩
def pd (w:World)(R:Nat->Bool):Mem:=((Qx w.heap.size).filter R).map λb=>(b,match w.heap[b]? with|some (.cells c _ _)=>c.toList|_=>[])
theorem A8 {R:Nat->Bool}{i:Nat}{e:Nat×List Value}(h:(pd w R)[i]? =some e):R e.1=true/\e.2=(match w.heap[e.1]? with|some (.cells c _ _)=>c.toList|_=>[]):=by
  unfold pd at h;rw[Qk] at h;cases hx:((Qx w.heap.size).filter R)[i]? with
  |none=>rw[hx] at h;cases h
  | some b=>
    rw[hx] at h;injection h with h
    subst h;exact⟨(Q5.1 (List.mem_of_getElem? hx)).2,rfl⟩
theorem Hq {R:Nat->Bool}{i j:Nat}{e e':Nat×List Value}(h:(pd w R)[i]? =some e)(J:(pd w R)[j]? =some e')(a0:i≠j):e.1≠e'.1:=by
  have hn:((Qx w.heap.size).filter R).Nodup:=List.nodup_range.filter _;unfold pd at h J;rw[Qk] at h J;cases Z:((Qx w.heap.size).filter R)[i]? with
  |none=>rw[Z] at h;cases h
  | some b=>
    cases W:((Qx w.heap.size).filter R)[j]? with
    |none=>rw[W] at J;cases J
    | some c=>
      rw[Z] at h;rw[W] at J;injection h with h;injection J with J
      subst h;subst J;intro e;obtain⟨hi,Z⟩:=zh.1 Z;obtain⟨hj,W⟩:=zh.1 W;dsimp only at e;rw[←Z,←W] at e;rcases Z3 a0 with h|h
      ·exact Qf.1 hn i j hi hj h e
      ·exact Qf.1 hn j i hj hi h e.symm
theorem S.release (h:S W0 m w L [])(R:Nat->Bool)(hR:∀b,R b=true->∃l,m b=some l/\W0.heap.size<=b/\ ¬ byt l):S W0 (λb=>if R b then none else m b) w (pd w R++L) []:=by
  have key:∀b,R b=true->W0.heap.size<=b/\∃c t,w.heap[b]? =some (.cells c t (0,0)):=λb hb=>by
    obtain⟨l,Z,W,h3⟩:=hR b hb;obtain⟨c,t,fr,r,h4,_,h5⟩:=h.imm b l Z;rcases h5 W with rfl|h6
    ·exact⟨W,c,t,h4⟩
    ·exact absurd h6 h3
  refine⟨h.below,λb l hb=>?_,λi e J hv=>?_,λi j e e' J a0 a3 hv a2=>?_,λi e J=>by simp at J,h.apart⟩
  · split at hb
    ·cases hb
    ·exact h.imm b l hb
  · rw[List.getElem?_append] at J
    split at J
    · obtain⟨Z,W⟩:=A8 J
      obtain⟨h3,c,t,h4⟩:=key _ Z;rw[h4] at W;refine⟨h3,by rw[if_pos Z],t,by rw[h4,W]⟩
    · obtain⟨Z,W,h3⟩:=h.own _ e J hv
      exact⟨Z,by split<;>simp[W],h3⟩
  · have a1:∀{i k:Nat} {e e':Nat×List Value},(pd w R)[i]? =some e->L[k]? =some e'->e'.2≠[]->e.1≠e'.1:=λ{i k e e'} Z W h3 hx=>by
      obtain⟨l,h4,_⟩:=hR _ (A8 Z).1;have:=(h.own k e' W h3).2.1;rw[←hx,h4] at this;cases this
    rw[List.getElem?_append] at J a0;split at J<;>split at a0
    ·exact Hq J a0 a3
    ·exact a1 J a0 a2
    ·exact λx=>a1 a0 J hv x.symm
    ·exact h.nodup _ _ e e' J a0 (by omega) hv a2
def shp (L:Mem):List (Nat×Nat):=L.map λe=>(e.1,e.2.length)
theorem Fm (h:S W0 m w L TL){R:Nat->Bool}{b:Nat}{l:List Value}(W:R b=true)(J:m b=some l):∃i q:Nat,(shp (pd w R))[i]? =some (b,q)/\l.length<=q:=by
  obtain⟨c,t,fr,r,h1,h2,_⟩:=h.imm b l J;have Z:b∈(Qx w.heap.size).filter R:=Q5.2 ⟨Zd.2 (h.lt J),W⟩;obtain⟨i,hi,hx⟩:=List.getElem_of_mem Z;refine⟨i,c.size,?_,by rw[←Array.length_toList,h2];simp⟩;unfold shp pd;rw[Qk,Qk,Qd hi,hx];simp[h1]
def GI (h:List (Nat×Nat))(sz:Nat)(v:Value):Prop:= ∃a n c,v= .slice a n c/\n<=bU/\(0<n->∃b o i q:Nat,a=some ⟨b,o,none⟩/\h[i]? =some (b,q)/\o+n*sz<=q)
theorem A9 {O:Type}{Q:Nat->O->Prop}:∀n:Nat,(∀i,i<n->∃y,Q i y)->∃ys:List O,ys.length=n/\∀i (h:i<ys.length),Q i ys[i]
  |0,_=>⟨[],rfl,λi h=>by simp at h⟩
  | n +1,h=>by
    obtain⟨ys,J,Z⟩:=A9 n λi hi=>h i (by omega);obtain⟨y,W⟩:=h n (by omega);refine⟨ys++[y],by simp[J],λi hi=>?_⟩
    by_cases e:i<ys.length
    ·rw[List.getElem_append_left e];exact Z i e
    · have:i=n:=by simp at hi;omega
      subst this;rw[List.getElem_append_right (by omega)];simp only[J,Nat.sub_self,List.getElem_cons_zero];exact W
end
section
variable {δ:List Nat}{P:Program}{W0:Bse}{m:M}{L Lr:Mem}{TL:Tls}{n:Nat}{a:Act}{l:List (Nat×Value)}{w:World}{d t t2 ty e sz:Nat}{pos:String}{aft:Array Edge}{g:Option (Nat×Bool)}{x y:Operand}{b o c k:Nat}
theorem M.none {m m':M}(W:M.le m m'){b:Nat}(h:m' b=none):m b=none:=by
  cases hx:m b with
  |none=>rfl
  |some l=>obtain⟨s,J⟩:=W _ l hx;rw[h] at J;cases J
theorem BZ {O:Type} {kd:Kd O} {v:Value} {xs:List O} {xh xm:Operand} {kh km:IntKind} (hE:am δ n a l) (hx:evl l x=some v) (hu:P.underlying t=some (.slice e)) (hs:∀w,(sizeOf e).run P w= .ok kd.sz w) (hv:RV (kSl kd) m v xs)
    (hh:evl l xh=some (.int kh (xs.length:Int))) (hm:evl l xm=some (.int km (xs.length:Int))):
    aM P ⟨some d,.slice t x none (some xh) (some xm),ty,pos,aft,g⟩ a w (λv' w'=>w=w'/\RV (kSl kd) m v' xs/\∀J n c,v'= .slice (some J) n c->0<n->∃Z c',v= .slice (some Z) n c'/\Z.block=J.block):=by
  obtain⟨J,cap,rfl,h3,h4,h5⟩:=iL hv
  have key:(Instr.sliceBounds true xs.length cap none (some (.int kh (xs.length:Int))) (some (.int km (xs.length:Int)))).run P w= .ok (0,xs.length,xs.length) w:=by
    simp[Instr.sliceBounds,Instr.sliceBound,asIntOf,h3]
  have hr:aw P ⟨some d,.slice t x none (some xh) (some xm),ty,pos,aft,g⟩ a w (.slice (if xs.length=0 then J else J.map (·.add (0*kd.sz))) (xs.length - 0) (xs.length - 0)) w:=by
    simp[aw,execOp,Instr.sliceAt,run_underlying hu,Instr.slice,hE.eval hx,hE.eval hh,hE.eval hm,key,hs]
  refine aM.imp (hr.step ⟨rfl,rfl⟩:aM P _ a w λv' w'=>w=w'/\v'= .slice (if xs.length=0 then J else J.map (·.add (0*kd.sz))) (xs.length - 0) (xs.length - 0)) ?_;rintro v' _ ⟨rfl,rfl⟩;refine⟨rfl,?_⟩
  by_cases hc:xs.length=0
  · rw[if_pos hc]
    refine⟨dw (by simp) h4 ?_,λZ n c W hn=>by injection W with _ e2 _;omega⟩;cases J with
    |none=>simp[hc]
    |some J=>exact⟨λh=>by omega,λi hi=>by omega⟩
  · rw[if_neg hc]
    cases J with
    |none=>simp only at h5;omega
    | some J=>
      obtain⟨b,o,sp⟩:=J;obtain⟨a0,hR⟩:=h5;replace a0:=a0 (by omega);simp only at a0;subst a0;have e0:(Option.map (λx:Addr=>x.add (0*kd.sz)) (some ⟨b,o,none⟩))=some ⟨b,o,none⟩:=by simp[ew]
      refine⟨?_,λZ n c W hn=>?_⟩
      · rw[e0]
        exact dw (by simp) h4 ⟨λ_=>rfl,hR⟩
      · rw[e0] at W
        injection W with W e2 e3
        injection W with W
        subst W;exact⟨_,cap,by rw[←e2,Nat.sub_zero],rfl⟩
theorem IQ {h:Array TypeId}{J:Option Addr}(hE:am δ n a l)(W:evl l x=some (.slice J k c))(Z:h[0]? =some t)(hu:P.underlying t=some (.slice e)):
    aw P ⟨some d,.call ⟨.builtin .len,#[x],h⟩,ty,pos,aft,g⟩ a w (.int .i64 (k:Int)) w:=by
  simp[aw,execOp,resolve,invoke,builtin,hE.eval W,Builtin.len_,Z,run_underlying hu,goInt]
theorem Fo {kk:IntKind}{j:Nat}(h:am δ n a l)(Z:evl l x=some (.slice (some ⟨b,o,none⟩) k c))(J:evl l y=some (.int kk (j:Int)))(hu:P.underlying t=some (.slice e))(W:∀w,(sizeOf e).run P w= .ok sz w)(hj:j<k):
    aw P ⟨some d,.indexAddr t x y,ty,pos,aft,g⟩ a w (.pointer (some ⟨b,o+j*sz,none⟩)) w:=by
  simp[aw,execOp,h.eval Z,h.eval J,Instr.indexAt,asIntOf,run_underlying hu,W,ew];omega
theorem Dw {O:Type}{kd:Kd O}{v:Value}{xx:O}{i q:Nat}(hE:am δ n a l)(hS:S W0 m w (Lr++L) TL)(Z:cI P t kd)(hx:evl l x=some (.pointer (some ⟨b,o,none⟩)))(hy:evl l y=some v)(hv:RV kd m v xx)(h:(shp Lr)[i]? =some (b,q))(W:o+kd.sz<=q):
    aM P ⟨none,.store t x y,ty,pos,aft,g⟩ a w (λ_ w'=>∃Lr',shp Lr'=shp Lr/\S W0 m w' (Lr'++L) TL):=by
  unfold shp at h;rw[Qk] at h;cases hc:Lr[i]? with
  |none=>rw[hc] at h;cases h
  | some en=>
    rw[hc] at h;obtain⟨b',cs⟩:=en;simp only[Option.map_some,Option.some.injEq,Prod.mk.injEq] at h;obtain⟨rfl,rfl⟩:=h;have hi:=(zh.1 hc).1;refine(uw hE hS Z hx hy hv (i:=i) (by rw[Q1 hi];exact hc) W).imp λ_ w' ⟨vs,h1,J⟩=>⟨Lr.set i (b',cs.take o++vs++cs.drop (o+kd.sz)),?_,by rw[List.set_append_left _ _ hi] at J;exact J⟩
    have hl:=kd.len h1;unfold shp;rw[List.map_set];refine List.ext_getElem? λj=>?_;rw[Qz];split
    · rename_i e1
      subst e1;rw[Qk,hc];simp[hi,hl];omega
    ·rfl
end
structure Swo {O:Type}(lt:O->O->Bool):Prop where
 irr:∀a,lt a a=false
 tr:∀a b c,lt a b=true->lt b c=true->lt a c=true
 inc:∀a b c,lt a b=false->lt b c=false->lt a c=false
section
variable {O:Type}{lt:O->O->Bool}
def eqv (lt:O->O->Bool)(a b:O):Bool:= !lt a b&& !lt b a
def Srt (lt:O->O->Bool)(l:List O):Prop:=l.Pairwise λa b=>lt b a=false
theorem jG (h:Swo lt)(a:O):eqv lt a a=true:=by simp[eqv,h.irr]
theorem B3 (h:Swo lt):∀{l J:List O},Srt lt l->Srt lt J->(∀a,l.filter (eqv lt a)=J.filter (eqv lt a))->l=J:=by
 intro l
 induction l with
 | nil=>
  intro J _ _ Z;cases J with
  |nil=>rfl
  |cons b t=>
   have:=Z b;rw[Qh,if_pos (jG h b)] at this;cases this
 | cons a t ih=>
  intro J hs a0 Z;cases J with
  |nil=>
   have:=Z a;rw[Qh,if_pos (jG h a)] at this;cases this
  | cons b t'=>
   unfold Srt at hs a0;rw[List.pairwise_cons] at hs a0
   have ha:a∈b::t':=by
    have W:a∈(a::t).filter (eqv lt a):=Q5.2 ⟨by simp,jG h a⟩;rw[Z a] at W;exact(Q5.1 W).1
   have hb:b∈a::t:=by
    have W:b∈(b::t').filter (eqv lt b):=Q5.2 ⟨by simp,jG h b⟩;rw[←Z b] at W;exact(Q5.1 W).1
   have W:lt a b=false:=by
    rcases Q6.1 ha with rfl|ha
    ·exact h.irr _
    ·exact a0.1 a ha
   have h2:lt b a=false:=by
    rcases Q6.1 hb with rfl|hb
    ·exact h.irr _
    ·exact hs.1 b hb
   have a1:a=b:=by
    have:=Z a;rw[Qh,if_pos (jG h a),Qh,if_pos (by simp[eqv,W,h2])] at this;exact(List.cons.inj this).1
   subst a1;congr 1;refine ih hs.2 a0.2 λc=>?_;have:=Z c;rw[Qh,Qh] at this;split at this
   ·exact(List.cons.inj this).2
   ·exact this
structure Stb (lt:O->O->Bool)(l l':List O):Prop where
 srt:Srt lt l'
 flt:∀a,l'.filter (eqv lt a)=l.filter (eqv lt a)
theorem Stb.unique (h:Swo lt){l Z J:List O}(h1:Stb lt l Z)(W:Stb lt l J):Z=J:=
 B3 h h1.srt W.srt λa=>(h1.flt a).trans (W.flt a).symm
theorem Stb.mem (h:Swo lt){l J:List O}(Z:Stb lt l J){x:O}:x∈J↔x∈l:=by
 constructor
 ·intro W
  have:x∈J.filter (eqv lt x):=Q5.2 ⟨W,jG h x⟩;rw[Z.flt x] at this;exact(Q5.1 this).1
 ·intro W
  have:x∈l.filter (eqv lt x):=Q5.2 ⟨W,jG h x⟩;rw[←Z.flt x] at this;exact(Q5.1 this).1
theorem Swo.asym (h:Swo lt){a b:O}(J:lt a b=true):lt b a=false:=by
 cases hb:lt b a with
 |false=>rfl
 |true=>have:=h.tr a b a J hb;rw[h.irr] at this;cases this
theorem Stb.cat (h:Swo lt){A1 A2 B1 B2 R1 R2:List O}(h1:Stb lt (A1++B1) R1)(h2:Stb lt (A2++B2) R2)(Z:Srt lt (A1++A2))(hB:Srt lt (B1++B2))(c1:∀b∈B1,∀a∈A2,lt b a=true)(c2:∀a∈A1,∀b∈B2,lt b a=false):
  Stb lt ((A1++A2)++(B1++B2)) (R1++R2):=by
 unfold Srt at Z hB;rw[Qj] at Z hB;refine⟨?_,λc=>?_⟩
 ·unfold Srt
  rw[Qj];refine⟨h1.srt,h2.srt,λx W y J=>?_⟩;have W:=(h1.mem h).1 W;have J:=(h2.mem h).1 J;rcases Ql.1 W with W|W<;>rcases Ql.1 J with J|J
  ·exact Z.2.2 x W y J
  ·exact c2 x W y J
  ·exact h.asym (c1 x W y J)
  ·exact hB.2.2 x W y J
 ·have key:A2.filter (eqv lt c)++B1.filter (eqv lt c)=B1.filter (eqv lt c)++A2.filter (eqv lt c):=by
   cases ha:A2.filter (eqv lt c) with
   |nil=>simp
   | cons a s=>
    cases hb:B1.filter (eqv lt c) with
    |nil=>simp
    |cons b s'=>
     exfalso;have a3:a∈A2.filter (eqv lt c):=by rw[ha];simp
     have a5:b∈B1.filter (eqv lt c):=by rw[hb];simp
     obtain⟨a2,a0⟩:=Q5.1 a3;obtain⟨a4,a1⟩:=Q5.1 a5;have hl:=c1 b a4 a a2;simp only[eqv,Q4,Qc] at a0 a1;rw[h.inc b c a a1.2 a0.1] at hl;cases hl
  simp only[List.filter_append,h1.flt,h2.flt,Q3];rw[←Q3 (B1.filter _),←key,Q3]
theorem Stb.refl {l:List O}(h:Srt lt l):Stb lt l l:=⟨h,λ_=>rfl⟩
theorem Stb.trans {l h J:List O}(Z:∀a,h.filter (eqv lt a)=l.filter (eqv lt a))(W:Stb lt h J):Stb lt l J:=⟨W.srt,λa=>(W.flt a).trans (Z a)⟩
theorem Stb.ins (h:Swo lt){S1 S2:List O}{v:O}(hS:Srt lt (S1++S2))(h2:∀s∈S2,lt v s=true)(h1:∀s∈S1,lt v s=false):Stb lt (S1++S2++[v]) (S1++v::S2):=by
 unfold Srt at hS;rw[Qj] at hS;refine⟨?_,λc=>?_⟩
 ·unfold Srt
  rw[Qj,List.pairwise_cons];refine⟨hS.1,⟨λs W=>h.asym (h2 s W),hS.2.1⟩,λx hx y J=>?_⟩;rcases Q6.1 J with rfl|J
  ·exact h1 x hx
  ·exact hS.2.2 x hx y J
 ·simp only[List.filter_append,Qh,List.filter_nil,Q3]
  split
  ·rename_i hv
   have hn:S2.filter (eqv lt c)=[]:=by
    rw[List.filter_eq_nil_iff];intro s W Z;have hl:=h2 s W;simp only[eqv,Q4,Qc] at hv Z;rw[h.inc v c s hv.2 Z.1] at hl;cases hl
   rw[hn];simp
  ·simp
theorem y7 (h:Swo lt){S:List O}{s v:O}(hS:Srt lt (S++[s]))(W:lt v s=false):∀x∈S++[s],lt v x=false:=by
 intro x J;unfold Srt at hS;rw[Qj] at hS;rcases Ql.1 J with J|J
 ·exact h.inc v s x W (hS.2.2 x J s (by simp))
 ·simp only[Qp] at J;subst J;exact W
end
inductive Ty where
 |int (k:IntKind)
 |bool
 |str
 |sl (t:Ty)
 |st (i:Nat)
 deriving DecidableEq
structure Sg where
 O:Nat->Type
 k:(i:Nat)->Kd (O i)
def Ty.den (G:Sg):Ty->Type
 | .int _=>Int
 | .bool=>Bool
 | .str=>List Int
 | .sl t=>List (t.den G)
 | .st i=>G.O i
def Ty.kd (G:Sg):(t:Ty)->Kd (t.den G)
 | .int k=>aj k
 | .bool=>cj
 | .str=>oy
 | .sl t=>kSl (t.kd G)
 | .st i=>G.k i
def cT (G:Sg)(a b:Ty)(x:a.den G):Option (b.den G):=if h:a=b then some (h ▸ x) else none
theorem bB {G:Sg}{a b:Ty}{x:a.den G}{y:b.den G}(h:cT G a b x=some y):∃e:a=b,e ▸ x=y:=by
 unfold cT at h;split at h
 ·rename_i e
  injection h with h
  exact⟨e,h⟩
 ·cases h
structure Acc (G:Sg)(a b:Ty) where
 off:Nat
 get:a.den G->b.den G
 set:a.den G->b.den G->a.den G
 fld:Fld (a.kd G) (b.kd G) off get
 stf:StF (a.kd G) (b.kd G) off set
def Acc.self (G:Sg)(a:Ty):Acc G a a:=⟨0,λx=>x,λ_ y=>y,kI,bO⟩
def Acc.comp {G:Sg}{a b c:Ty}(A:Acc G a b)(B:Acc G b c):Acc G a c:=⟨A.off+B.off,λx=>B.get (A.get x),λx y=>A.set x (B.set (A.get x) y),Df A.fld B.fld,yM A.fld A.stf B.stf⟩
inductive AV (G:Sg) where
 |li (k:IntKind) (n:Int)
 |dat (t:Ty) (x:t.den G) (o:Option Nat)
 |ptr (t:Ty) (x:t.den G)
 |loc (i:Nat) (a b:Ty) (A:Acc G a b)
 |elp (i j:Nat) (a b:Ty) (A:Acc G a b)
 |blk (i:Nat)
 |own (i:Nat)
 |nils
 |nilp
 |agc (cs:List Value)
 |fn1 (a b:Ty) (f:a.den G->Option (b.den G))
 |fn2 (a c b:Ty) (f:a.den G->c.den G->Option (b.den G))
 |und
inductive EV (G:Sg) where
 |one (v:AV G)
 |tup (vs:List (AV G))
inductive BC (G:Sg) where
 |dat (t:Ty) (x:t.den G)
 |arr (t:Ty) (n:Option Nat) (xs:List (t.den G))
 |gone
structure St (G:Sg) where
 env:List (Nat×Nat×EV G)
 c:Nat
 L:List (Nat×BC G)
 T:List Nat
def fb {O:Type}:List O->Nat->Option O
 |[],_=>none
 |x::l,i=>if Q9 i l.length then some x else fb l i
def sb {O:Type}:List O->Nat->O->List O
 |[],_,_=>[]
 |x::l,i,y=>if Q9 i l.length then y::l else x::sb l i y
def lke {O:Type}:List (Nat×O)->Nat->Option O
 |[],_=>none
 |(q,x)::l,j=>if Q9 q j then some x else lke l j
structure Cz where
 b:List (Nat×Value)
 t:List Value
def Tag (z:Cz)(o:Option Nat)(v:Value):Prop:=match o with|none=>True|some j=>fb z.t j=some v
def AV.Rel (G:Sg)(P:Program)(m:M)(z:Cz):AV G->Value->Prop
 | .li k n,v=>v= .int k n/\inR k n
 | .dat t x o,v=>RV (t.kd G) m v x/\Tag z o v
 | .ptr t x,v=>PR (t.kd G) m v x
 | .loc i _ _ A,v=>∃p,fb z.b i=some p/\v= .pointer (some ⟨p.1,A.off,none⟩)
 | .elp i j a _ A,v=>∃p,fb z.b i=some p/\v= .pointer (some ⟨p.1,j*(a.kd G).sz+A.off,none⟩)
 | .blk i,v=>∃p,fb z.b i=some p/\v= .pointer (some ⟨p.1,0,none⟩)
 | .own i,v=>∃p,fb z.b i=some p/\v=p.2
 | .nils,v=>v= .slice none 0 0
 | .nilp,v=>v= .pointer none
 | .agc cs,v=>v= .agg cs.toArray
 | .fn1 a b f,v=>Fn1 P (a.kd G) (b.kd G) m v f
 | .fn2 a c b f,v=>Fn2 P (a.kd G) (c.kd G) (b.kd G) m v f
 | .und,v=>v=undef
def nj (G:Sg)(P:Program)(m:M)(z:Cz):List (AV G)->List Value->Prop
 |[],[]=>True
 |a::asv,v::vs=>a.Rel G P m z v/\nj G P m z asv vs
 |_,_=>False
def EV.Rel (G:Sg)(P:Program)(m:M)(z:Cz):EV G->Value->Prop
 | .one a,v=>a.Rel G P m z v
 | .tup asv,v=>∃vs:List Value,v= .tuple vs.toArray/\nj G P m z asv vs
def BC.Rel (G:Sg)(m:M):BC G->Nat×Value->List Value->Prop
 | .dat t x,_,cs=>(t.kd G).R m cs x
 | .arr t n xs,p,cs=>GS (t.kd G) m p.1 cs p.2 xs/\(match n with|none=>True|some k=>xs.length=k)
 | .gone,_,cs=>cs=[]
def LR (G:Sg)(m:M):List (Nat×BC G)->List (Nat×Value)->List (Nat×List Value)->Prop
 |[],[],[]=>True
 |B::Bs,p::ps,e::es=>e.1=p.1/\B.2.Rel G m p e.2/\LR G m Bs ps es
 |_,_,_=>False
def TRl:List Nat->List Value->List (Nat×Value)->Prop
 |[],[],[]=>True
 |s::ss,v::vs,e::es=>e=(s,v)/\TRl ss vs es
 |_,_,_=>False
structure Rs where
 l:List (Nat×List Value)
 nm:List (Nat×Value)
def Sfx {O:Type}(l s:List O):Prop:= ∃p,l=p++s
theorem Sfx.cons {O:Type}{x:O}{l s:List O}(h:Sfx l s):Sfx (x::l) s:=by obtain⟨p,rfl⟩:=h;exact⟨x::p,rfl⟩
theorem Sfx.app {O:Type}{q l s:List O}(h:Sfx l s):Sfx (q++l) s:=by obtain⟨p,rfl⟩:=h;exact⟨q++p,by simp⟩
theorem Sfx.len {O:Type}{l s:List O}(h:Sfx l s):s.length<=l.length:=by obtain⟨p,rfl⟩:=h;simp
theorem Sfx.drop {O:Type}{l s:List O}(h:Sfx l s){k:Nat}(J:k+s.length<=l.length):Sfx (l.drop k) s:=by
 obtain⟨p,rfl⟩:=h;simp at J;exact⟨p.drop k,List.drop_append_of_le_length J⟩
def fk (G:Sg)(W0:Bse)(L0:Rs)(T0:List (Nat×Value))(Ls:List (Nat×BC G))(Ts:List Nat)(m:M)(z:Cz)(w:World):Prop:=
 ∃Lc Tc,LR G m Ls z.b Lc/\TRl Ts z.t Tc/\S W0 m w (Lc++L0.l) (Tc++T0)/\Sfx z.b L0.nm
section
variable {G:Sg}{P:Program}{m m':M}{z z':Cz}
theorem AV.Rel.mono {a:AV G}{v:Value}(h:a.Rel G P m z v)(J:M.le m m'):a.Rel G P m' z v:=by
 cases a with
 |dat t x o=>exact⟨RV.mono h.1 J,h.2⟩
 |ptr t x=>exact PR.mono h J
 |fn1 a b f=>exact Fn1.mono h J
 |fn2 a c b f=>exact Fn2.mono h J
 |_=>exact h
theorem nj.mono {J:List (AV G)}{vs:List Value}(h:nj G P m z J vs)(W:M.le m m'):nj G P m' z J vs:=by
 induction J generalizing vs with
 |nil=>cases vs<;>exact h
 |cons a J ih=>
  cases vs with
  |nil=>exact h
  |cons v vs=>exact⟨h.1.mono W,ih h.2⟩
theorem EV.Rel.mono {e:EV G}{v:Value}(h:e.Rel G P m z v)(J:M.le m m'):e.Rel G P m' z v:=by
 cases e with
 |one a=>exact AV.Rel.mono h J
 |tup asv=>obtain⟨vs,Z,W⟩:=h;exact⟨vs,Z,W.mono J⟩
theorem BC.Rel.mono {B:BC G}{p:Nat×Value}{cs:List Value}(h:B.Rel G m p cs)(J:M.le m m'):B.Rel G m' p cs:=by
 cases B with
 |dat t x=>exact(t.kd G).mono J h
 |arr t n xs=>exact⟨GS.mono h.1 J,h.2⟩
 |gone=>exact h
theorem LR.mono {J:List (Nat×BC G)}{ps:List (Nat×Value)}{es:List (Nat×List Value)}(h:LR G m J ps es)(W:M.le m m'):LR G m' J ps es:=by
 induction J generalizing ps es with
 |nil=>cases ps<;>cases es<;>exact h
 | cons B J ih=>
  cases ps with
  |nil=>cases es<;>exact h
  |cons p ps=>
   cases es with
   |nil=>exact h
   |cons e es=>exact⟨h.1,h.2.1.mono W,ih h.2.2⟩
theorem LR.len {J:List (Nat×BC G)}{ps:List (Nat×Value)}{es:List (Nat×List Value)}(h:LR G m J ps es):ps.length=J.length/\es.length=J.length:=by
 induction J generalizing ps es with
 |nil=>cases ps<;>cases es<;>first|exact⟨rfl,rfl⟩|exact h.elim
 | cons B J ih=>
  cases ps with
  |nil=>cases es<;>exact h.elim
  |cons p ps=>
   cases es with
   |nil=>exact h.elim
   |cons e es=>have:=ih h.2.2;simp[this.1,this.2]
theorem LR.get {W:List (Nat×BC G)}{ps:List (Nat×Value)}{es:List (Nat×List Value)}(h:LR G m W ps es){i:Nat}{B:Nat×BC G}(J:fb W i=some B):
  ∃p cs j,fb ps i=some p/\es[j]? =some (p.1,cs)/\B.2.Rel G m p cs/\
   ∀(Z:Nat×BC G) (sv:Value) (cs':List Value),Z.2.Rel G m (p.1,sv) cs'->LR G m (sb W i Z) (sb ps i (p.1,sv)) (es.set j (p.1,cs')):=by
 induction W generalizing ps es with
 |nil=>simp[fb] at J
 | cons B0 W ih=>
  cases ps with
  |nil=>cases es<;>exact h.elim
  | cons p ps=>
   cases es with
   |nil=>exact h.elim
   | cons e es=>
    obtain⟨h1,h2,h3⟩:=h;have hl:=h3.len;simp only[fb] at J;split at J
    ·rename_i hi
     injection J with J
     subst J;refine⟨p,e.2,0,by simp[fb,hl.1,hi],by simp[←h1],h2,λZ sv cs' hb=>?_⟩;simp only[sb,hi,hl.1,if_true,List.set_cons_zero];exact⟨rfl,hb,h3⟩
    ·rename_i hi
     obtain⟨p',cs,j,g1,g2,g3,g4⟩:=ih h3 J;refine⟨p',cs,j+1,by simp[fb,hl.1,hi,g1],by simpa using g2,g3,λZ sv cs' hb=>?_⟩;simp only[sb,hi,hl.1,List.set_cons_succ];exact⟨h1,h2,g4 Z sv cs' hb⟩
theorem tZ {O:Type}{x:O}{l:List O}{i:Nat}{y:O}(h:fb l i=some y):fb (x::l) i=some y:=by
 have:∀{l:List O} {i:Nat} {y:O},fb l i=some y->i<l.length:=by
  intro l
  induction l with
  |nil=>intro i y h;simp[fb] at h
  | cons a l ih=>
   intro i y h;simp only[fb] at h;split at h
   ·rename_i e
    have:=Jn e;simp;omega
   ·have:=ih h;simp;omega
 have hi:=this h;unfold fb
 have:Q9 i l.length=false:=by
  cases hb:Q9 i l.length with
  |false=>rfl
  |true=>have:=Jn hb;omega
 simp only[this];exact h
theorem jb {O:Type}{l:List O}{i j:Nat}{y:O}(h:i≠j):fb (sb l i y) j=fb l j:=by
 have len:∀l:List O,(sb l i y).length=l.length:=by
  intro l
  induction l with
  |nil=>rfl
  |cons a l ih=>simp only[sb];split<;>simp[ih]
 induction l with
 |nil=>rfl
 | cons a l ih=>
  simp only[sb];split
  ·rename_i e
   have e':=Jn e
   have:Q9 j l.length=false:=by
    cases hb:Q9 j l.length with
    |false=>rfl
    |true=>have:=Jn hb;omega
   simp[fb,this]
  ·simp only[fb,len,ih]
theorem mg {O:Type}{l:List O}{i:Nat}{x y:O}(h:fb l i=some x):fb (sb l i y) i=some y:=by
 induction l with
 |nil=>simp[fb] at h
 | cons a l ih=>
  simp only[fb] at h
  have len:(sb l i y).length=l.length:=by
   clear ih h
   induction l with
   |nil=>rfl
   |cons a l ih=>simp only[sb];split<;>simp[ih]
  simp only[sb];split
  ·rename_i e;simp[fb,e]
  ·rename_i e
   rw[if_neg e] at h;simp[fb,len,e,ih h]
theorem TRl.len {J:List Nat}{vs:List Value}{es:List (Nat×Value)}(h:TRl J vs es):vs.length=J.length/\es.length=J.length:=by
 induction J generalizing vs es with
 |nil=>cases vs<;>cases es<;>first|exact⟨rfl,rfl⟩|exact h.elim
 | cons a asv ih=>
  cases vs with
  |nil=>cases es<;>exact h.elim
  |cons b bs=>
   cases es with
   |nil=>exact h.elim
   |cons c cs=>have:=ih h.2;simp[this.1,this.2]
theorem TRl.get {Z:List Nat}{vs:List Value}{es:List (Nat×Value)}(h:TRl Z vs es){i s:Nat}{v:Value}(W:fb Z i=some s)(J:fb vs i=some v):
  ∃j,es[j]? =some (s,v)/\∀v',TRl Z (sb vs i v') (es.set j (s,v')):=by
 induction Z generalizing vs es with
 |nil=>simp[fb] at W
 | cons s0 Z ih=>
  cases vs with
  |nil=>cases es<;>exact h.elim
  | cons v0 vs=>
   cases es with
   |nil=>exact h.elim
   | cons e es=>
    obtain⟨h1,h2⟩:=h;have hl:vs.length=Z.length:=h2.len.1;simp only[fb] at W J;rw[hl] at J;split at W
    ·rename_i hi
     rw[if_pos hi] at J;injection W with W;injection J with J
     subst W;subst J;refine⟨0,by simp[h1],λv'=>?_⟩;simp only[sb,hl,hi,if_true,List.set_cons_zero];exact⟨rfl,h2⟩
    ·rename_i hi
     rw[if_neg hi] at J;obtain⟨j,g1,g2⟩:=ih h2 W J;refine⟨j+1,by simpa using g1,λv'=>?_⟩;simp only[sb,hl,hi,List.set_cons_succ];exact⟨h1,g2 v'⟩
end
structure SlI (P:Program)(G:Sg)(i:TypeId)(t:Ty) where
 e:TypeId
 by_:Nat
 z:t.den G
 zv:Value
 inf:TypeInfo
 hu:P.underlying i=some (.slice e)
 hs:∀w,(sizeOf e).run P w= .ok (t.kd G).sz w
 hel:mF P e (t.kd G).sz by_
 hz:∀w,(zeroValue e).run P w= .ok zv w
 hzR:∀m,(t.kd G).R m zv.cells.toList z
 hi:P.info? e=some inf
 hiz:inf.zero=some zv
 hsz:inf.size=(t.kd G).sz
 hby:inf.bytes=by_
def UI (P:Program)(G:Sg)(i:TypeId):Ty->Type
 | .int k=>PLift (P.underlying i=some (.int k))
 | .bool=>PLift (P.underlying i=some .bool)
 | .str=>PLift (P.underlying i=some .string)
 | .sl t=>SlI P G i t
 | .st _=>Unit
structure TI (P:Program)(G:Sg)(i:TypeId) where
 T:Ty
 ok:cI P i (T.kd G)
 u:UI P G i T
 z:T.den G
 zv:Value
 hz:∀w,(zeroValue i).run P w= .ok zv w
 hzR:∀m,(T.kd G).R m zv.cells.toList z
structure AI (P:Program)(G:Sg)(i:TypeId) where
 n:Nat
 t:Ty
 e:TypeId
 z:t.den G
 zv:Value
 c:List Value
 hu:P.underlying i=some (.array n e)
 hs:∀w,(sizeOf e).run P w= .ok (t.kd G).sz w
 hz:∀w,(zeroValue i).run P w= .ok zv w
 hzc:zv.cells=((Qs n c).flatten).toArray
 hzR:∀m,(t.kd G).R m c z
 hn:Z1 n bU=true
structure FI (P:Program)(G:Sg)(s f:Nat) where
 t:Ty
 A:Acc G (.st s) t
 ok:dS P s f A.off
structure EI (P:Program)(G:Sg)(s:Nat) where
 dec:DecidableEq (G.O s)
 ok:uB P s (G.k s)
 agg:(G.k s).agg=true
structure BI (P:Program)(G:Sg)(s:Nat) where
 fs:Array Field
 pl:List (Nat×Nat)
 z:G.O s
 zv:Value
 hu:P.underlying s=some (.struct fs)
 hpl:fs.toList.mapM (λf=>(P.info? f.type).map λi=>(f.offset,i.size))=some pl
 hz:∀w,(zeroValue s).run P w= .ok zv w
 hzR:∀m,(G.k s).R m zv.cells.toList z
 agg:(G.k s).agg=true
structure NI (P:Program)(G:Sg)(s:Nat) where
 q:Nat
 to:G.O s->Option (G.O q)
 e:TypeId
 hu:P.underlying s=some (.pointer e)
 hk:∀m v x,RV (G.k s) m v x->RV (kPt (G.k q)) m v (to x)
structure Tab (P:Program)(G:Sg) where
 ty:(i:TypeId)->Option (TI P G i)
 ar:(i:TypeId)->Option (AI P G i)
 fl:(s f:Nat)->Option (FI P G s f)
 eq:(s:Nat)->Option (EI P G s)
 bu:(s:Nat)->Option (BI P G s)
 nl:(s:Nat)->Option (NI P G s)
structure gr (G:Sg) where
 β:Type
 mv:Option β
 k:β->EV G
section
variable {G:Sg}{P:Program}
def pv (v:AV G):Option (gr G):=some ⟨Unit,some (),λ_=> .one v⟩
def pe (v:EV G):Option (gr G):=some ⟨Unit,some (),λ_=>v⟩
def pb {β:Type}(h:Option β)(k:β->AV G):Option (gr G):=some ⟨β,h,λb=> .one (k b)⟩
def AV.i?:AV G->Option (IntKind×Int)
 | .li k n=>some (k,n)
 | .dat (.int k) x _=>some (k,x)
 |_=>none
def AV.lit?:AV G->Option Int
 | .li _ n=>some n
 |_=>none
def AV.b?:AV G->Option Bool
 | .dat .bool x _=>some x
 |_=>none
def AV.s?:AV G->Option (List Int)
 | .dat .str x _=>some x
 |_=>none
def vEq:Value->Value->Bool
 | .int k n,.int k' n'=>decide (k=k')&&decide (n=n')
 | .bool b,.bool b'=>b==b'
 | .string s,.string s'=>decide (s.data.toList=s'.data.toList)
 | .slice none 0 0,.slice none 0 0=>true
 |_,_=>false
theorem IR {a b:Value}(h:vEq a b=true):a=b:=by
 unfold vEq at h;split at h
 ·simp only[Q4,decide_eq_true_eq] at h
  rw[h.1,h.2]
 ·simp only[beq_iff_eq] at h
  rw[h]
 ·rename_i s s'
  simp only[decide_eq_true_eq] at h;cases s;cases s';simp only at h;rw[Array.toList_inj.1 h]
 ·rfl
 ·cases h
def B4:List Value->List Value->Bool
 |[],[]=>true
 |a::asv,b::bs=>vEq a b&&B4 asv bs
 |_,_=>false
theorem Ba:∀{J W:List Value},B4 J W=true->J=W
 |[],[],_=>rfl
 |a::J,b::W,h=>by
  simp only[B4,Q4] at h;rw[IR h.1,Ba h.2]
 |[],_::_,h=>by cases h
 |_::_,[],h=>by cases h
def AV.as (Γ:Tab P G)(t:Ty):AV G->Option (t.den G)
 | .li k n=>cT G (.int k) t n
 | .dat t' x _=>cT G t' t x
 | .nils=>match t with| .sl _=>some []|_=>none
 | .agc cs=>match t with
  | .st i=>match Γ.bu i with
   |some B=>if B4 B.zv.cells.toList cs then some B.z else none
   |none=>none
  |_=>none
 |_=>none
def av?:Option (EV G)->Option (AV G)
 |some (.one v)=>some v
 |_=>none
def di (k:IntKind)(x:Int):AV G:= .dat (.int k) x none
def db (x:Bool):AV G:= .dat .bool x none
def B5 (op:BinOp)(k k':IntKind)(p q:Int)(lit:Option Int):Option (gr G):=
 match op with
 | .add=>if k=k' then pv (di k (k.wrap (p+q))) else none
 | .sub=>if k=k' then pv (di k (k.wrap (p - q))) else none
 | .mul=>if k=k' then pv (di k (k.wrap (p*q))) else none
 | .quo=>if k=k' then (match lit with|some n=>if n=q/\n≠0 then pv (di k (k.wrap (p.tdiv q))) else none|none=>pb (chk (q != 0)) λ_=>di k (k.wrap (p.tdiv q))) else none
 | .rem=>if k=k' then (match lit with|some n=>if n=q/\n≠0 then pv (di k (p.tmod q)) else none|none=>pb (chk (q != 0)) λ_=>di k (p.tmod q)) else none
 | .and=>if k=k' then pv (di k (dI k p q)) else none
 | .or=>if k=k' then pv (di k (bOr k p q)) else none
 | .xor=>if k=k' then pv (di k (fh k p q)) else none
 | .shl=>match lit with
  |some n=>if n=q/\0<=n then pv (di k (eu k p q)) else none
  |none=>if k'= .u8\/k'= .u32\/k'= .u64 then pv (di k (eu k p q)) else pb (chk (decide (0<=q))) λ_=>di k (eu k p q)
 | .shr=>match lit with
  |some n=>if n=q/\0<=n then pv (di k (aP k p q)) else none
  |none=>if k'= .u8\/k'= .u32\/k'= .u64 then pv (di k (aP k p q)) else pb (chk (decide (0<=q))) λ_=>di k (aP k p q)
 | .eql=>if k=k' then pv (db (p==q)) else none
 | .neq=>if k=k' then pv (db (p != q)) else none
 | .lss=>if k=k' then pv (db (decide (p<q))) else none
 | .leq=>if k=k' then pv (db (decide (p<=q))) else none
 | .gtr=>if k=k' then pv (db (decide (q<p))) else none
 | .geq=>if k=k' then pv (db (decide (q<=p))) else none
 |_=>none
def pT (G:Sg)(P:Program)(m:M)(z:Cz)(r:Option (gr G))(o:Oper)(a:Act):Prop:=
 ∀R b,r=some R->R.mv=some b->∀w,∃v,aw P o a w v w/\(R.k b).Rel G P m z v
theorem pT.pv {v:AV G}{m:M}{z:Cz}{o:Oper}{a:Act}(h:∀w,∃u,aw P o a w u w/\v.Rel G P m z u):pT G P m z (pv v) o a:=by
 intro R b J W w;injection J with J
 subst J;exact h w
theorem pT.none {m:M}{z:Cz}{o:Oper}{a:Act}:pT G P m z none o a:=by
 intro R b h;cases h
theorem pT.pb {β:Type}{W:Option β}{k:β->AV G}{m:M}{z:Cz}{o:Oper}{a:Act}(h:∀b,W=some b->∀w,∃u,aw P o a w u w/\(k b).Rel G P m z u):pT G P m z (pb W k) o a:=by
 intro R b J Z w;injection J with J
 subst J;exact h b Z w
theorem pT.ite {c:Prop} [Decidable c]{x y:Option (gr G)}{m:M}{z:Cz}{o:Oper}{a:Act}(h:c->pT G P m z x o a)(J: ¬ c->pT G P m z y o a):pT G P m z (if c then x else y) o a:=by
 split
 ·exact h ‹_›
 ·exact J ‹_›
theorem cE {m:M}{z:Cz}{k:IntKind}{x:Int}(h:inR k x):(di k x:AV G).Rel G P m z (.int k x):=⟨au h,trivial⟩
theorem dy {m:M}{z:Cz}{x:Bool}:(db x:AV G).Rel G P m z (.bool x):=⟨dA,trivial⟩
theorem AV.i_rel {a:AV G}{m:M}{z:Cz}{v:Value}{k:IntKind}{x:Int}(h:a.i?=some (k,x))(J:a.Rel G P m z v):v= .int k x/\inR k x:=by
 cases a with
 |li k' n=>
  simp only[AV.i?,Option.some.injEq,Prod.mk.injEq] at h;obtain⟨rfl,rfl⟩:=h;exact J
 |dat t y o=>
  cases t<;>simp only[AV.i?,reduceCtorEq] at h;obtain⟨rfl,rfl⟩:=Prod.mk.inj (Option.some.inj h);exact aK J.1
 |_=>simp[AV.i?] at h
theorem AV.b_rel {a:AV G}{m:M}{z:Cz}{v:Value}{x:Bool}(h:a.b?=some x)(J:a.Rel G P m z v):v= .bool x:=by
 cases a with
 |dat t y o=>
  cases t<;>simp only[AV.b?,reduceCtorEq] at h;obtain rfl:=Option.some.inj h;exact dU J.1
 |_=>simp[AV.b?] at h
theorem AV.s_rel {a:AV G}{m:M}{z:Cz}{v:Value}{x:List Int}(h:a.s?=some x)(J:a.Rel G P m z v):v= .string (bts x)/\(∀n∈x,0<=n/\n<256)/\x.length<=bU:=by
 cases a with
 |dat t y o=>
  cases t<;>simp only[AV.s?,reduceCtorEq] at h;obtain rfl:=Option.some.inj h;exact yK J.1
 |_=>simp[AV.s?] at h
theorem AV.as_rel {Γ:Tab P G}{a:AV G}{m:M}{z:Cz}{v:Value}{t:Ty}{x:t.den G}(h:a.as Γ t=some x)(J:a.Rel G P m z v):RV (t.kd G) m v x:=by
 cases a with
 |li k n=>
  obtain⟨e,h⟩:=bB h;subst e;subst h;obtain⟨rfl,Z⟩:=J;exact au Z
 |dat t' y o=>
  obtain⟨e,h⟩:=bB h;subst e;subst h;exact J.1
 | nils=>
  cases t with
  |sl t=>
   simp only[AV.as] at h;obtain rfl:=Option.some.inj h;have:v= .slice none 0 0:=J;subst this;exact c8
  |_=>simp[AV.as] at h
 | agc cs=>
  cases t with
  | st i=>
   simp only[AV.as] at h;split at h
   ·rename_i B _
    split at h
    ·rename_i W
     obtain rfl:=Option.some.inj h;have hv:v= .agg cs.toArray:=J;have:=Ba W;refine⟨cs,?_,?_⟩
     ·rw[←this];exact B.hzR m
     ·subst hv
      show _=(G.k i).val cs;simp[Kd.val,B.agg]
    ·cases h
   ·cases h
  |_=>simp[AV.as] at h
 |_=>simp[AV.as] at h
theorem B6 {op:BinOp}{k k':IntKind}{p q:Int}{lit:Option Int}{m:M}{z:Cz}{t t':TypeId}{x y:Operand}{dst:Option Tmp}{ty:TypeId}{pos:String}{aft:Array Edge}{g:Option (Nat×Bool)}{δ:List Nat}{n:Nat}{l:List (Nat×Value)}{a:Act}
  (Z:am δ n a l) (W:evl l x=some (.int k p)) (J:evl l y=some (.int k' q)) (hp:inR k p) (hq:inR k' q):pT G P m z (B5 op k k' p q lit) ⟨dst,.binOp op t x y t',ty,pos,aft,g⟩ a:=by
 have nn:k'= .u8\/k'= .u32\/k'= .u64->0<=q:=by
  rintro (rfl|rfl|rfl)
  ·exact AL hq
  ·exact yO hq
  ·exact yP hq
 cases op<;>simp only[B5]
 case add=>exact .ite (λe=>by subst e;exact .pv λw=>⟨_,be Z W J (cy rfl),cE (aI _ _)⟩) λ_=> .none
 case sub=>exact .ite (λe=>by subst e;exact .pv λw=>⟨_,be Z W J (ku rfl),cE (aI _ _)⟩) λ_=> .none
 case mul=>exact .ite (λe=>by subst e;exact .pv λw=>⟨_,be Z W J (GD rfl),cE (aI _ _)⟩) λ_=> .none
 case quo=>
  refine .ite (λe=>?_) λ_=> .none;subst e;split
  ·exact .ite (λh=> .pv λw=>⟨_,be Z W J (GE rfl (by rw[←h.1];exact h.2)),cE (aI _ _)⟩) λ_=> .none
  ·exact .pb λb hb w=>⟨_,be Z W J (GE rfl (bne_iff_ne.1 (ng hb))),cE (aI _ _)⟩
 case rem=>
  refine .ite (λe=>?_) λ_=> .none;subst e;split
  ·exact .ite (λh=> .pv λw=>⟨_,be Z W J (GF rfl (by rw[←h.1];exact h.2)),cE (AY hp)⟩) λ_=> .none
  ·exact .pb λb hb w=>⟨_,be Z W J (GF rfl (bne_iff_ne.1 (ng hb))),cE (AY hp)⟩
 case and=>exact .ite (λe=>by subst e;exact .pv λw=>⟨_,be Z W J (Mp rfl),cE (G8 _ _ _)⟩) λ_=> .none
 case or=>exact .ite (λe=>by subst e;exact .pv λw=>⟨_,be Z W J (Of rfl),cE (Iz _ _ _)⟩) λ_=> .none
 case xor=>exact .ite (λe=>by subst e;exact .pv λw=>⟨_,be Z W J (Mq rfl),cE (G9 _ _ _)⟩) λ_=> .none
 case shl=>
  split
  ·exact .ite (λh=> .pv λw=>⟨_,be Z W J (BP rfl (by rw[←h.1];exact h.2)),cE (wk _ _ _)⟩) λ_=> .none
  ·exact .ite (λh=> .pv λw=>⟨_,be Z W J (BP rfl (nn h)),cE (wk _ _ _)⟩) λ_=> .pb λb hb w=>⟨_,be Z W J (BP rfl (of_decide_eq_true (ng hb))),cE (wk _ _ _)⟩
 case shr=>
  split
  ·exact .ite (λh=> .pv λw=>⟨_,be Z W J (yk rfl (by rw[←h.1];exact h.2)),cE (wm hp _)⟩) λ_=> .none
  ·exact .ite (λh=> .pv λw=>⟨_,be Z W J (yk rfl (nn h)),cE (wm hp _)⟩) λ_=> .pb λb hb w=>⟨_,be Z W J (yk rfl (of_decide_eq_true (ng hb))),cE (wm hp _)⟩
 case andNot=>exact .none
 case eql=>exact .ite (λe=>by subst e;exact .pv λw=>⟨_,be Z W J iK,dy⟩) λ_=> .none
 case neq=>exact .ite (λe=>by subst e;exact .pv λw=>⟨_,be Z W J oI,dy⟩) λ_=> .none
 case lss=>exact .ite (λe=>by subst e;exact .pv λw=>⟨_,be Z W J cz,dy⟩) λ_=> .none
 case leq=>exact .ite (λe=>by subst e;exact .pv λw=>⟨_,be Z W J GG,dy⟩) λ_=> .none
 case gtr=>exact .ite (λe=>by subst e;exact .pv λw=>⟨_,be Z W J l6,dy⟩) λ_=> .none
 case geq=>exact .ite (λe=>by subst e;exact .pv λw=>⟨_,be Z W J yl,dy⟩) λ_=> .none
theorem dq {δ:List Nat}{n:Nat}{a:Act}(hd:a.defers=δ.map λD=>{ target:= .collected D,args:= #[] })(hs:a.tmps.size=n)(xs:List Operand):∃l,am δ n a l/\∀x∈xs,evl l x=some (a.eval x):=by
 refine⟨xs.filterMap λx=>match x with| .tmp t=>some (t,a.tmps.getD t undef)|_=>none,⟨hd,hs,λj v J=>?_⟩,λx hx=>?_⟩
 ·induction xs with
  |nil=>simp[lk] at J
  | cons x xs ih=>
   cases x with
   | tmp t=>
    simp only[Z4,lk] at J;split at J
    ·rename_i e
     have:=Jn e;subst this;injection J
    ·exact ih J
   |_=>exact ih (by simpa using J)
 ·cases x with
  | tmp t=>
   show lk _ t=some (a.tmps.getD t undef)
   induction xs with
   |nil=>cases hx
   | cons y xs ih=>
    by_cases hy:y= .tmp t
    ·subst hy;simp[lk]
    ·have Z:Operand.tmp t∈xs:=by
      rcases Q6.1 hx with h|h
      ·exact absurd h.symm hy
      ·exact h
     cases y with
     | tmp t'=>
      have:t'≠t:=λe=>hy (by rw[e])
      have W:Q9 t' t=false:=by
       cases W:Q9 t' t with
       |false=>rfl
       |true=>exact absurd (Jn W) this
      simp only[Z4,lk,W];exact ih Z
     |_=>simp only[Z4];exact ih Z
  |_=>rfl
end
section
variable {G:Sg}{P:Program}
def IS {O:Type}(xs:List O)(j:Nat):Option O:=xs[j]?
def TI.elem {i:TypeId}:TI P G i->Option TypeId
 |⟨.sl _,_,u,_,_,_,_⟩=>some u.e
 |_=>none
def y8 (Γ:Tab P G)(op:BinOp)(t:TypeId)(a b:AV G):Option (gr G):=
 match a.i?,b.i? with
 |some (k,p),some (k',q)=>B5 op k k' p q b.lit?
 | _, _=>
  match Γ.ty t with
  | some I=>(match I.T with
   | .bool=>(match a.b?,b.b? with
    |some p,some q=>(match op with| .eql=>pv (db (p==q))| .neq=>pv (db (!(p==q)))|_=>none)
    |_,_=>none)
   | .str=>(match a.s?,b.s? with
    |some p,some q=>(match op with| .eql=>pv (db (decide (p=q)))| .neq=>pv (db (!decide (p=q)))| .lss=>pv (db (ltB p q))|_=>none)
    |_,_=>none)
   | .st i=>(match b with
    | .nilp=>(match Γ.nl t with
     |some N=>if i=t then (match a.as Γ (.st t) with
      |some p=>(match op with| .eql=>pv (db (N.to p).isNone)| .neq=>pv (db (!(N.to p).isNone))|_=>none)
      |none=>none) else none
     |none=>none)
    |_=>(match Γ.eq t with
    |some E=>if i=t then (match a.as Γ (.st t),b.as Γ (.st t) with
     |some p,some q=>(match op with| .eql=>pv (db (@decide _ (E.dec p q)))| .neq=>pv (db (!(@decide _ (E.dec p q))))|_=>none)
     |_,_=>none) else none
    |none=>none))
   |_=>none)
  |none=>none
def unA (op:UnOp)(a:AV G):Option (gr G):=
 match op with
 | .not=>(match a.b? with|some p=>pv (db (!p))|none=>none)
 | .neg=>(match a.i? with|some (k,p)=>pv (di k (k.wrap (0 - p)))|none=>none)
 | .xor=>(match a.i? with|some (k,p)=>pv (di k (yH k p))|none=>none)
 |_=>none
def B7 (Γ:Tab P G)(t t2:TypeId)(a:AV G):Option (gr G):=
 match Γ.ty t,Γ.ty t2 with
 | some I,some I2=>(match I.T,I2.T with
  | .int _,.int k'=>(match a.i? with|some (_,p)=>pv (di k' (k'.wrap p))|none=>none)
  | .sl (.int k),.str=>(match I.elem with
   |some e=>(match Γ.ty e with
    |some J=>if k= .u8/\J.T= .int .u8 then (match a.as Γ (.sl (.int k)) with|some x=>pv (.dat .str x none)|none=>none) else none
    |none=>none)
   |none=>none)
  |_,_=>none)
 |_,_=>none
def B8 (Γ:Tab P G)(h:Nat->Option (BC G))(t:TypeId)(a:AV G):Option (gr G):=
 match Γ.ty t with
 | some I=>(match a with
  | .ptr b v=>if b=I.T then pv (.dat b v none) else none
  | .blk i=>(match h i with
   |some (.dat c x)=>if c=I.T then pv (.dat c x none) else none
   |_=>none)
  | .loc i c b A=>if b=I.T then (match h i with
   |some (.dat c' x)=>(match cT G c' c x with|some x=>pv (.dat b (A.get x) none)|none=>none)
   |_=>none) else none
  | .elp i j c b A=>if b=I.T then (match h i with
   |some (.arr c' _ xs)=>(match cT G (.sl c') (.sl c) xs with|some xs=>pb (IS (O:=c.den G) xs j) λx=> .dat b (A.get x) none|none=>none)
   |_=>none) else none
  |_=>none)
 |none=>none
def y9 (Γ:Tab P G)(J:Nat->Option (BC G))(s f:Nat)(a:AV G):Option (gr G):=
 match Γ.fl s f with
 |some F=>(match a with
  | .ptr t v=>(match cT G t (.st s) v with|some x=>pv (.ptr F.t (F.A.get x))|none=>none)
  | .blk i=>(match J i with|some (.dat c _)=>if c= .st s then pv (.loc i (.st s) F.t F.A) else none|_=>none)
  | .loc i c b A=>if h:b= .st s then pv (.loc i c F.t ((h ▸ A:Acc G c (.st s)).comp F.A)) else none
  | .elp i j c b A=>if h:b= .st s then pv (.elp i j c F.t ((h ▸ A:Acc G c (.st s)).comp F.A)) else none
  |_=>none)
 |none=>none
def za (Γ:Tab P G)(h:Nat->Option (BC G))(t:TypeId)(a b:AV G):Option (gr G):=
 match b.i? with
 | some (_,q)=>(match a with
  | .blk i=>(match Γ.ar t,h i with
   |some R,some (.arr c (some n) xs)=>if c=R.t/\n=R.n then pb (ix xs q) λj=> .elp i j c c (.self G c) else none
   |_,_=>none)
  | .own i=>(match Γ.ty t,h i with
   |some I,some (.arr c _ xs)=>if I.T= .sl c then pb (ix xs q) λj=> .elp i j c c (.self G c) else none
   |_,_=>none)
  | a=>(match Γ.ty t with
   |some I=>(match I.T with
    | .sl c=>(match a.as Γ (.sl c) with|some xs=>pb (idx (xs:List (c.den G)) q) λx=> .ptr c x|none=>none)
    |_=>none)
   |none=>none))
 |none=>none
def zb (Γ:Tab P G)(t:TypeId)(a b:AV G):Option (gr G):=
 match Γ.ty t,a.s?,b.i? with
 |some I,some s,some (_,q)=>(match I.T with| .str=>pb (idx s q) λc=>di .u8 c|_=>none)
 |_,_,_=>none
def bnd (h:Int):Option (Option (AV G))->Option Int
 |none=>some h
 |some (some v)=>v.i?.map (·.2)
 |some none=>none
def zd (Γ:Tab P G)(t:TypeId)(a:AV G)(lo hi:Option (Option (AV G))):Option (gr G):=
 match Γ.ty t with
 | some I=>(match I.T with
  | .sl c=>(match a.as Γ (.sl c) with
   |some xs=>(match bnd 0 lo,bnd ((xs:List (c.den G)).length:Int) hi with
    |some l,some h=>pb (sub (xs:List (c.den G)) l h) λy=> .dat (.sl c) y none
    |_,_=>none)
   |none=>none)
  |_=>none)
 |none=>none
def qS (Γ:Tab P G) (s:Nat) (pl:List (Nat×Nat)):List (Nat×Option (AV G))->G.O s->Option (G.O s)
 |[],x=>some x
 | (f,some a)::r,x=>match Γ.fl s f with
  | some F=>(match a.as Γ F.t with
   |some y=>(match pl[f]? with
    |some q=>if q.1=F.A.off/\q.2=(F.t.kd G).sz then qS Γ s pl r (F.A.set x y) else none
    |none=>none)
   |none=>none)
  |none=>none
 |_,_=>none
def ze (Γ:Tab P G)(t:TypeId)(ps:List (Nat×Option (AV G))):Option (gr G):=
 match Γ.bu t with
 |some B=>(match qS Γ t B.pl ps B.z with|some x=>pv (.dat (.st t) x none)|none=>none)
 |none=>none
def Fp (Γ:Tab P G)(h:Nat->Option (BC G))(t:TypeId)(a:AV G):Option (gr G):=
 match Γ.ty t with
 | some I=>(match I.T with
  | .str=>(match a.s? with|some s=>pv (di .i64 (s.length:Int))|none=>none)
  | .sl c=>(match a with
   | .nils=>pv (.li .i64 0)
   | .own i=>(match h i with|some (.arr c' _ xs)=>if c'=c then pv (di .i64 (xs.length:Int)) else none|_=>none)
   |a=>(match a.as Γ (.sl c) with|some xs=>pv (di .i64 ((xs:List (c.den G)).length:Int))|none=>none))
  |_=>none)
 |none=>none
def mmA (mx:Bool)(a b:AV G):Option (gr G):=
 match a.i?,b.i? with
 |some (k,p),some (k',q)=>if k=k' then pv (di k (match mx with|true=>(if p<q then q else p)|false=>(if q<p then q else p))) else none
 |_,_=>none
def oav (ρ:Operand->Option (EV G)):Option Operand->Option (Option (AV G))
 |none=>none
 |some x=>some (av? (ρ x))
def vm (Γ:Tab P G) (ρ:Operand->Option (EV G)) (h:Nat->Option (BC G)):Op->Option (gr G)
 | .move x=>(match ρ x with|some e=>pe e|none=>none)
 | .assign x=>(match ρ x with|some e=>pe e|none=>none)
 | .pick c x y=>(match av? (ρ c) with
  | some a=>(match a.b? with
   |some b=>(match b with
    |true=>(match ρ x with|some e=>pe e|none=>none)
    |false=>(match ρ y with|some e=>pe e|none=>none))
   |none=>none)
  |none=>none)
 | .nilCheck x=>(match av? (ρ x) with
  |some (.ptr t v)=>pv (.ptr t v)
  |some (.loc i a b A)=>pv (.loc i a b A)
  |some (.elp i j a b A)=>pv (.elp i j a b A)
  |some (.blk i)=>pv (.blk i)
  |some (.dat (.st i) x _)=>(match Γ.nl i with
   |some N=>pb (N.to x) λq=> .ptr (.st N.q) q
   |none=>none)
  |_=>none)
 | .binOp op t x y _=>(match av? (ρ x),av? (ρ y) with|some a,some b=>y8 Γ op t a b|_,_=>none)
 | .unOp op _ x=>(match av? (ρ x) with|some a=>unA op a|none=>none)
 | .convert t t2 x=>(match av? (ρ x) with|some a=>B7 Γ t t2 a|none=>none)
 | .extract x i=>(match ρ x with|some (.tup vs)=>(match vs[i]? with|some v=>pv v|none=>none)|_=>none)
 | .load t x=>(match av? (ρ x) with|some a=>B8 Γ h t a|none=>none)
 | .fieldAddr s x f=>(match av? (ρ x) with|some a=>y9 Γ h s f a|none=>none)
 | .indexAddr t x y=>(match av? (ρ x),av? (ρ y) with|some a,some b=>za Γ h t a b|_,_=>none)
 | .index t x y=>(match av? (ρ x),av? (ρ y) with|some a,some b=>zb Γ t a b|_,_=>none)
 | .slice t x lo hi none=>(match av? (ρ x) with|some a=>zd Γ t a (oav ρ lo) (oav ρ hi)|none=>none)
 | .build t ps=>ze Γ t (ps.toList.map λp=>(p.1,av? (ρ p.2)))
 | .call ⟨.builtin .len,⟨[x]⟩,⟨[t]⟩⟩=>(match av? (ρ x) with|some a=>Fp Γ h t a|none=>none)
 | .call ⟨.builtin .max,⟨[x,y]⟩,_⟩=>(match av? (ρ x),av? (ρ y) with|some a,some b=>mmA true a b|_,_=>none)
 | .call ⟨.builtin .min,⟨[x,y]⟩,_⟩=>(match av? (ρ x),av? (ρ y) with|some a,some b=>mmA false a b|_,_=>none)
 |_=>none
def fU (G:Sg)(P:Program)(m:M)(z:Cz)(r:Option (gr G))(o:Oper)(a:Act)(w:World):Prop:=
 ∀R b,r=some R->R.mv=some b->aM P o a w (λv w'=>w=w'/\(R.k b).Rel G P m z v)
section
variable {m:M}{z:Cz}{o:Oper}{a:Act}{w:World}
theorem pT.s {r:Option (gr G)}(h:pT G P m z r o a):fU G P m z r o a w:=λR b hr W=>by
 obtain⟨v,Z,J⟩:=h R b hr W w;exact Z.step ⟨rfl,J⟩
theorem fU.none:fU G P m z none o a w:=λR b h=>by cases h
theorem fU.pv {v:AV G}(h:aM P o a w (λu w'=>w=w'/\v.Rel G P m z u)):fU G P m z (pv v) o a w:=λR b J _=>by
 injection J with J;subst J;exact h
theorem fU.run {v:AV G}{u:Value}(h:aw P o a w u w)(J:v.Rel G P m z u):fU G P m z (Hay.pv v) o a w:= .pv (h.step ⟨rfl,J⟩)
theorem fU.pb {β:Type}{W:Option β}{k:β->AV G}(h:∀b,W=some b->aM P o a w (λu w'=>w=w'/\(k b).Rel G P m z u)):fU G P m z (pb W k) o a w:=λR b J Z=>by
 injection J with J;subst J;exact h b Z
theorem fU.pe {e:EV G}(h:aM P o a w (λu w'=>w=w'/\e.Rel G P m z u)):fU G P m z (pe e) o a w:=λR b J _=>by
 injection J with J;subst J;exact h
end
section
variable {δ:List Nat}{n:Nat}{l:List (Nat×Value)}{a:Act}{m:M}{z:Cz}{w:World}{t t2 ty:TypeId}{x y:Operand}{d:Nat}{pos:String}{aft:Array Edge}{g:Option (Nat×Bool)}{u v:Value}{p q:AV G}{Γ:Tab P G}
theorem TI.int {i:TypeId}{I:TI P G i}{k:IntKind}(h:I.T= .int k):P.underlying i=some (.int k):=by
 have:=I.u;rw[h] at this;exact this.down
theorem TI.bool {i:TypeId}{I:TI P G i}(h:I.T= .bool):P.underlying i=some .bool:=by
 have:=I.u;rw[h] at this;exact this.down
theorem TI.str {i:TypeId}{I:TI P G i}(h:I.T= .str):P.underlying i=some .string:=by
 have:=I.u;rw[h] at this;exact this.down
def TI.sl {i:TypeId}(I:TI P G i){c:Ty}(h:I.T= .sl c):SlI P G i c:=by
 have:=I.u;rw[h] at this;exact this
theorem Hr {i e:TypeId}{I:TI P G i}{c:Ty}(h:I.T= .sl c)(J:I.elem=some e):(I.sl h).e=e:=by
 obtain⟨T,W,u,a3,a4,a5,Z⟩:=I;simp only at h;subst h;simp only[TI.elem,Option.some.injEq] at J;exact J
theorem Hs {op:BinOp}(W:am δ n a l)(J:evl l x=some u)(h:evl l y=some v)(hp:p.Rel G P m z u)(hq:q.Rel G P m z v):fU G P m z (y8 Γ op t p q) ⟨some d,.binOp op t x y t2,ty,pos,aft,g⟩ a w:=by
 unfold y8;split
 ·rename_i k p' k' q' Z h2
  obtain⟨rfl,h3⟩:=AV.i_rel Z hp;obtain⟨rfl,h4⟩:=AV.i_rel h2 hq;exact(B6 W J h h3 h4).s
 ·split
  ·rename_i I _
   split
   ·rename_i hT
    split
    ·rename_i b c Z h2
     have e1:=AV.b_rel Z hp;have e2:=AV.b_rel h2 hq;subst e1;subst e2;split
     ·exact .run (IA W J h (TI.bool hT)) dy
     ·exact .run (IB W J h (TI.bool hT)) dy
     ·exact .none
    ·exact .none
   ·rename_i hT
    split
    ·rename_i b c Z h2
     obtain⟨rfl,h3,_⟩:=AV.s_rel Z hp;obtain⟨rfl,h4,_⟩:=AV.s_rel h2 hq;split
     ·exact .run (ID W J h h3 h4) dy
     ·exact .run (IE W J h h3 h4) dy
     ·exact .run (IF W J h h3 h4) dy
     ·exact .none
    ·exact .none
   ·split
    ·have hv:v= .pointer none:=hq
     subst hv;split
     ·rename_i N _
      split
      ·split
       ·rename_i c Z
        have e1:=N.hk _ _ _ (AV.as_rel Z hp);split
        ·exact .run (IL W J h N.hu e1) dy
        ·exact .run (IM W J h N.hu e1) dy
        ·exact .none
       ·exact .none
      ·exact .none
     ·exact .none
    split
    ·rename_i E _
     split
     ·split
      ·rename_i b c Z h2
       have e1:=AV.as_rel Z hp;have e2:=AV.as_rel h2 hq
       letI:=E.dec
       split
       ·exact .run (vh W E.ok J h e1 e2 E.agg) dy
       ·exact .run (sU W E.ok J h e1 e2 E.agg) dy
       ·exact .none
      ·exact .none
     ·exact .none
    ·exact .none
   ·exact .none
  ·exact .none
theorem IT {op:UnOp}(Z:am δ n a l)(J:evl l x=some u)(W:p.Rel G P m z u):fU G P m z (unA op p) ⟨some d,.unOp op t x,ty,pos,aft,g⟩ a w:=by
 unfold unA;split
 ·split
  ·rename_i h
   have e1:=AV.b_rel h W;subst e1;exact .run (kw Z J) dy
  ·exact .none
 ·split
  ·rename_i h
   obtain⟨rfl,h3⟩:=AV.i_rel h W;exact .run (Mr Z J rfl) (cE (aI _ _))
  ·exact .none
 ·split
  ·rename_i h
   obtain⟨rfl,h3⟩:=AV.i_rel h W;exact .run (Ms Z J rfl) (cE (Ha _ _))
  ·exact .none
 ·exact .none
theorem Fq {W0:Bse}{L:List (Nat×List Value)}{TL:List (Nat×Value)}(hE:am δ n a l)(hS:S W0 m w L TL)(hx:evl l x=some u)(hp:p.Rel G P m z u):fU G P m z (B7 Γ t t2 p) ⟨some d,.convert t t2 x,ty,pos,aft,g⟩ a w:=by
 unfold B7;split
 ·rename_i I I2 h1 h2
  split
  ·rename_i h W
   split
   ·rename_i Z
    obtain⟨rfl,_⟩:=AV.i_rel Z hp;exact .run (fj hE hx (TI.int h) (TI.int W) rfl) (cE (aI _ _))
   ·exact .none
  ·rename_i k h W
   split
   ·rename_i e he
    split
    ·rename_i J _
     split
     ·rename_i hk
      obtain⟨rfl,hJ⟩:=hk;split
      ·rename_i xs Z
       have hv:=AV.as_rel Z hp;exact .run (Hd hE hS hx (I.sl h).hu ((Hr h he).symm ▸ TI.int hJ) (TI.str W) hv) ⟨xi (E7 hv) (ic hv),trivial⟩
      ·exact .none
     ·exact .none
    ·exact .none
   ·exact .none
  ·exact .none
 ·exact .none
end
end
section
variable {G:Sg}{P:Program}{δ:List Nat}{n:Nat}{l:List (Nat×Value)}{a:Act}{m:M}{z:Cz}{w:World}{t t2 ty:TypeId}{x y:Operand}{d:Nat}{pos:String}{aft:Array Edge}{g:Option (Nat×Bool)}{u v:Value}{p q:AV G}{Γ:Tab P G}
 {W0:Bse} {L0:Rs} {T0:List (Nat×Value)} {Ls:List (Nat×BC G)} {Ts:List Nat}
def d7 (Ls:List (Nat×BC G))(i:Nat):Option (BC G):=(fb Ls i).map (·.2)
theorem gt {i:Nat}{B:BC G}(h:d7 Ls i=some B):∃s,fb Ls i=some (s,B):=by
 unfold d7 at h;cases hf:fb Ls i with
 |none=>simp[hf] at h
 |some e=>simp[hf] at h;exact⟨e.1,by rw[←h]⟩
theorem fk.get (Z:fk G W0 L0 T0 Ls Ts m z w){i:Nat}{B:BC G}(h:d7 Ls i=some B):∃(L:List (Nat×List Value)) (TL:List (Nat×Value)) (p:Nat×Value) (cs:List Value) (j:Nat),S W0 m w L TL/\fb z.b i=some p/\L[j]? =some (p.1,cs)/\B.Rel G m p cs:=by
 obtain⟨Lc,Tc,h1,h2,h3,_⟩:=Z;obtain⟨s,hs⟩:=gt h;obtain⟨p,cs,j,W,J,g3,_⟩:=h1.get hs;refine⟨_,_,p,cs,j,h3,W,?_,g3⟩;have:j<Lc.length:=(zh.1 J).1;rw[Q1 this];exact J
theorem fk.any (J:fk G W0 L0 T0 Ls Ts m z w):∃L TL,S W0 m w L TL:=let ⟨_,_,_,_,h,_⟩:=J;⟨_,_,h⟩
theorem zf {c b:Ty}(A:Acc G c b){cs:List Value}{o:Nat}{xx:c.den G}(h:(c.kd G).R m ((cs.drop o).take (c.kd G).sz) xx):(b.kd G).R m ((cs.drop (o+A.off)).take (b.kd G).sz) (A.get xx):=A.fld.R_drop h
theorem Fs (hE:am δ n a l)(hM:fk G W0 L0 T0 Ls Ts m z w)(hx:evl l x=some u)(hp:p.Rel G P m z u):fU G P m z (B8 Γ (d7 Ls) t p) ⟨some d,.load t x,ty,pos,aft,g⟩ a w:=by
 unfold B8;split
 ·rename_i I _
  split
  ·rename_i b xx
   split
   ·rename_i W
    subst W;obtain⟨L,TL,hS⟩:=hM.any;exact .pv ((bh hE hS I.ok hx hp).imp λ_ _ h=>⟨h.1,h.2,trivial⟩)
   ·exact .none
  ·rename_i i
   split
   ·rename_i c' x0 hB
    split
    ·rename_i W
     subst W;obtain⟨L,TL,p',cs,j,hS,g1,g2,g3⟩:=hM.get hB;obtain⟨a0,J,rfl⟩:=hp;rw[g1] at J;injection J with J;subst J
     exact .pv ((aB hE hS I.ok hx g2 (aJ g3)).imp λ_ _ h=>⟨h.1,h.2,trivial⟩)
    ·exact .none
   ·exact .none
  ·rename_i i c b A
   split
   ·rename_i W
    subst W;split
    ·rename_i c' x0 hB
     split
     ·rename_i x1 Z
      obtain⟨e,Z⟩:=bB Z;subst e;subst Z;obtain⟨L,TL,p',cs,j,hS,g1,g2,g3⟩:=hM.get hB;obtain⟨a0,J,rfl⟩:=hp;rw[g1] at J;injection J with J;subst J
      have:=zf A (o:=0) (aJ g3);rw[Zb] at this;exact .pv ((aB hE hS I.ok hx g2 this).imp λ_ _ h=>⟨h.1,h.2,trivial⟩)
     ·exact .none
    ·exact .none
   ·exact .none
  ·rename_i i j c b A
   split
   ·rename_i W
    subst W;split
    ·rename_i c' nn xs hB
     split
     ·rename_i ys Z
      obtain⟨e,Z⟩:=bB Z;injection e with e
      subst e;subst Z;refine .pb λxx a1=>?_;obtain⟨L,TL,p',cs,j',hS,g1,g2,g3⟩:=hM.get hB;obtain⟨a0,J,rfl⟩:=hp;rw[g1] at J;injection J with J;subst J
      exact(aB hE hS I.ok hx g2 (zf A (GS.elem g3.1 a1))).imp λ_ _ h=>⟨h.1,h.2,trivial⟩
     ·exact .none
    ·exact .none
   ·exact .none
  ·exact .none
 ·exact .none
theorem Dx {s f:Nat}(hE:am δ n a l)(W:evl l x=some u)(Z:p.Rel G P m z u):fU G P m z (y9 Γ (d7 Ls) s f p) ⟨some d,.fieldAddr s x f,ty,pos,aft,g⟩ a w:=by
 unfold y9;split
 ·rename_i F _
  split
  ·rename_i t0 v0
   split
   ·rename_i x1 hc
    obtain⟨e,hc⟩:=bB hc;subst e;subst hc;exact .pv (gX hE F.ok F.A.fld W Z)
   ·exact .none
  ·rename_i i
   split
   ·split
    ·obtain⟨J,h,rfl⟩:=Z
     exact .run (aG hE F.ok W) ⟨J,h,by rw[Zb]⟩
    ·exact .none
   ·exact .none
  ·rename_i i c b A
   split
   ·rename_i hb
    subst hb;obtain⟨J,h,rfl⟩:=Z;exact .run (aG hE F.ok W) ⟨J,h,rfl⟩
   ·exact .none
  ·rename_i i j c b A
   split
   ·rename_i hb
    subst hb;obtain⟨J,h,rfl⟩:=Z;exact .run (aG hE F.ok W) ⟨J,h,by show _=_;simp only[Acc.comp,Nat.add_assoc]⟩
   ·exact .none
  ·exact .none
 ·exact .none
theorem Dy (hE:am δ n a l)(hM:fk G W0 L0 T0 Ls Ts m z w)(hx:evl l x=some u)(hy:evl l y=some v)(Z:p.Rel G P m z u)(hq:q.Rel G P m z v):fU G P m z (za Γ (d7 Ls) t p q) ⟨some d,.indexAddr t x y,ty,pos,aft,g⟩ a w:=by
 unfold za;split
 ·rename_i k q' hi
  obtain⟨rfl,_⟩:=AV.i_rel hi hq;split
  ·rename_i i
   split
   ·rename_i R c nn xs _ hB
    split
    ·rename_i W
     obtain⟨rfl,rfl⟩:=W;refine .pb λj hj=>?_;obtain⟨L,TL,p',cs,j',hS,J,g2,g3⟩:=hM.get hB;obtain⟨a0,h,rfl⟩:=Z;rw[J] at h;injection h with h;subst h
     exact(yR (k:=R.t.kd G) hE hx hy R.hu R.hs g3.2 hj rfl).step ⟨rfl,p',J,rfl⟩
    ·exact .none
   ·exact .none
  ·rename_i i
   split
   ·rename_i I c nn xs _ hB
    split
    ·rename_i W
     refine .pb λj hj=>?_;obtain⟨L,TL,p',cs,j',hS,J,g2,g3⟩:=hM.get hB;obtain⟨a0,h,rfl⟩:=Z;rw[J] at h;injection h with h;subst h
     exact(kJ hE hx hy (I.sl W).hu (I.sl W).hs g3.1 hj rfl).step ⟨rfl,p',J,rfl⟩
    ·exact .none
   ·exact .none
  ·split
   ·rename_i I _
    split
    ·rename_i c hT
     split
     ·rename_i xs h3
      have hv:=AV.as_rel h3 Z;exact .pb λxx a1=>dx (k:=c.kd G) hE hx hy (I.sl hT).hu (I.sl hT).hs hv a1
     ·exact .none
    ·exact .none
   ·exact .none
 ·exact .none
theorem Dz (hE:am δ n a l)(hx:evl l x=some u)(hy:evl l y=some v)(hp:p.Rel G P m z u)(W:q.Rel G P m z v):fU G P m z (zb Γ t p q) ⟨some d,.index t x y,ty,pos,aft,g⟩ a w:=by
 unfold zb;split
 ·rename_i I s k q' _ h1 h2
  obtain⟨rfl,_⟩:=AV.i_rel h2 W;obtain⟨rfl,J,_⟩:=AV.s_rel h1 hp;split
  ·rename_i Z
   exact .pb λc h=>(Fa hE hx hy (TI.str Z) J h).step ⟨rfl,cE (Fb J h)⟩
  ·exact .none
 ·exact .none
def OkO (G:Sg)(P:Program)(l:List (Nat×Value))(m:M)(z:Cz):Option Operand->Option (Option (AV G))->Prop
 |none,none=>True
 |some o,some av=>∀b,av=some b->∃v,evl l o=some v/\b.Rel G P m z v
 |_,_=>False
theorem zg {o:Option Operand}{lv:Option (Option (AV G))}{W e:Int}:OkO G P l m z o lv->bnd W lv=some e->match o with|some o=>∃kk,evl l o=some (.int kk e)|none=>e=W:=by
 intro h J;cases o with
 |none=>
  cases lv with
  |none=>injection J with J;exact J.symm
  |some _=>exact h.elim
 | some o=>
  cases lv with
  |none=>exact h.elim
  | some av=>
   cases av with
   |none=>cases J
   | some b=>
    obtain⟨v,Z,g2⟩:=h b rfl;cases hb:b.i? with
    |none=>simp[bnd,hb] at J
    |some r=>
     simp[bnd,hb] at J;obtain⟨rfl,_⟩:=AV.i_rel (k:=r.1) (x:=r.2) hb g2;exact⟨r.1,by rw[Z,J]⟩
theorem DA {lo hi:Option Operand}{lv W:Option (Option (AV G))}(hE:am δ n a l)(hx:evl l x=some u)(hp:p.Rel G P m z u)
  (a1:OkO G P l m z lo lv)
  (Z:OkO G P l m z hi W):
  fU G P m z (zd Γ t p lv W) ⟨some d,.slice t x lo hi none,ty,pos,aft,g⟩ a w:=by
 unfold zd;split
 ·rename_i I _
  split
  ·rename_i c J
   split
   ·rename_i xs h3
    have hV:=AV.as_rel h3 hp;split
    ·rename_i lo' hi' e1 e2
     refine .pb λys a0=>?_;have k1:=zg a1 e1;have k2:=zg Z e2;exact(dJ (k:=c.kd G) hE hx (I.sl J).hu (I.sl J).hs hV k1 k2 a0).imp λ_ _ h=>⟨h.1,h.2,trivial⟩
    ·exact .none
   ·exact .none
  ·exact .none
 ·exact .none
theorem xw {s:Nat}{B:BI P G s}{l:List (Nat×Value)}:∀{ps:List (Nat×Operand)} {x0 xx:G.O s} {σ:Operand->Option (AV G)},(∀p∈ps,∀b,σ p.2=some b->∃v,evl l p.2=some v/\b.Rel G P m z v)->
  qS Γ s B.pl (ps.map λp=>(p.1,σ p.2)) x0=some xx->∃pv,ps.mapM (λp=>(evl l p.2).map λv=>(p.1,v))=some pv/\tV (B.pl.toArray[·]?) (G.k s) m pv x0 xx
 |[],x0,xx,σ,_,h=>by
  simp only[Ze,qS,Option.some.injEq] at h;subst h;exact⟨[],rfl,.nil⟩
 | (f, o)::ps,x0,xx,σ,hr,h=>by
  simp only[Qq] at h;cases hs:σ o with
  |none=>simp[hs,qS] at h
  | some b=>
   rw[hs] at h;unfold qS at h;split at h
   ·rename_i F _
    split at h
    ·rename_i y hy
     split at h
     ·rename_i q W
      split at h
      ·rename_i J
       obtain⟨v,Z,g2⟩:=hr (f,o) (by simp) b hs;obtain⟨pv,k1,k2⟩:=xw (λp hp=>hr p (by simp[hp])) h;refine⟨(f,v)::pv,by simp[Z,k1],?_⟩;refine .cons (off:=F.A.off) ?_ F.A.stf (AV.as_rel hy g2) k2;show B.pl.toArray[f]? =_;rw[List.getElem?_toArray,W,←J.1,←J.2]
      ·cases h
     ·cases h
    ·cases h
   ·cases h
theorem DB {ps:Array (Nat×Operand)}{σ:Operand->Option (AV G)}(J:am δ n a l)(W:∀p∈ps.toList,∀b,σ p.2=some b->∃v,evl l p.2=some v/\b.Rel G P m z v):
  fU G P m z (ze Γ t (ps.toList.map λp=>(p.1,σ p.2))) ⟨some d,.build t ps,ty,pos,aft,g⟩ a w:=by
 unfold ze;split
 ·rename_i B _
  split
  ·rename_i xx Z
   obtain⟨a0,k1,k2⟩:=xw W Z;exact .pv ((rF J k1 B.hu B.hpl B.hz B.hzR B.agg k2).imp λ_ _ h=>⟨h.1,h.2,trivial⟩)
  ·exact .none
 ·exact .none
theorem Ht (hE:am δ n a l)(hM:fk G W0 L0 T0 Ls Ts m z w)(Z:evl l x=some u)(J:p.Rel G P m z u):fU G P m z (Fp Γ (d7 Ls) t p) ⟨some d,.call ⟨.builtin .len,#[x],#[t]⟩,ty,pos,aft,g⟩ a w:=by
 unfold Fp;split
 ·rename_i I _
  split
  ·rename_i h
   split
   ·rename_i s hs
    obtain⟨rfl,h1,h2⟩:=AV.s_rel hs J;exact .run (E6 hE Z rfl (TI.str h)) (cE (dR h2))
   ·exact .none
  ·rename_i c h
   split
   ·have hv:u= .slice none 0 0:=J
    subst hv;exact .run (aV (k:=c.kd G) (m:=m) (xs:=[]) hE Z rfl (I.sl h).hu c8) ⟨rfl,ax (by decide)⟩
   ·rename_i i
    split
    ·rename_i c' nn xs hB
     split
     ·rename_i hc
      subst hc;obtain⟨L,TL,p',cs,j',hS,g1,g2,g3⟩:=hM.get hB;obtain⟨a0,W,rfl⟩:=J;rw[g1] at W;injection W with W;subst W
      exact .run (pa hE Z rfl (I.sl h).hu g3.1) (cE (dR (GS.len g3.1)))
     ·exact .none
    ·exact .none
   ·split
    ·rename_i xs h3
     have hV:=AV.as_rel h3 J;exact .run (aV (k:=c.kd G) hE Z rfl (I.sl h).hu hV) (cE (dR (ic hV)))
    ·exact .none
  ·exact .none
 ·exact .none
theorem DC {mx:Bool}{ts:Array TypeId}(hE:am δ n a l)(W:evl l x=some u)(J:evl l y=some v)(hp:p.Rel G P m z u)(hq:q.Rel G P m z v):fU G P m z (mmA mx p q) ⟨some d,.call ⟨.builtin (match mx with|true=> .max|false=> .min),#[x,y],ts⟩,ty,pos,aft,g⟩ a w:=by
 unfold mmA;split
 ·rename_i k p' k' q' h1 h2
  obtain⟨rfl,h⟩:=AV.i_rel h1 hp;obtain⟨rfl,Z⟩:=AV.i_rel h2 hq;split
  ·rename_i e
   subst e;cases mx with
   |true=>exact .run (Dd hE W J) (cE (A0 h Z))
   |false=>exact .run (yI hE W J) (cE (Hf h Z))
  ·exact .none
 ·exact .none
end
section
variable {G:Sg}{P:Program}{δ:List Nat}{n:Nat}{a:Act}{m:M}{z:Cz}{w:World}{ty:TypeId}{d:Nat}{pos:String}{aft:Array Edge}{g:Option (Nat×Bool)}{Γ:Tab P G}
 {W0:Bse} {L0:Rs} {T0:List (Nat×Value)} {Ls:List (Nat×BC G)} {Ts:List Nat} {ρ:Operand->Option (EV G)}
theorem aU (J:∀x e,ρ x=some e->e.Rel G P m z (a.eval x)){x:Operand}{b:AV G}(h:av? (ρ x)=some b):b.Rel G P m z (a.eval x):=by
 cases hx:ρ x with
 |none=>simp[hx,av?] at h
 | some e=>
  cases e with
  |one v=>
   simp only[hx,av?,Option.some.injEq] at h;subst h;exact J x _ hx
  |tup vs=>simp[hx,av?] at h
theorem Ft {W:List (AV G)}{vs:List Value}(h:nj G P m z W vs){i:Nat}{b:AV G}(J:W[i]? =some b):∃v,vs[i]? =some v/\b.Rel G P m z v:=by
 induction W generalizing vs i with
 |nil=>simp at J
 | cons x W ih=>
  cases vs with
  |nil=>exact h.elim
  |cons v vs=>
   cases i with
   |zero=>simp at J;subst J;exact⟨v,rfl,h.1⟩
   |succ i=>simp at J;obtain⟨v',Z,g2⟩:=ih h.2 J;exact⟨v',by simpa using Z,g2⟩
theorem Bb {o:Op}(hd:a.defers=δ.map λD=>{ target:= .collected D,args:= #[] })(hs:a.tmps.size=n)(hM:fk G W0 L0 T0 Ls Ts m z w)(Z:∀x e,ρ x=some e->e.Rel G P m z (a.eval x)):
  fU G P m z (vm Γ ρ (d7 Ls) o) ⟨some d,o,ty,pos,aft,g⟩ a w:=by
 unfold vm;split
 ·rename_i x
  obtain⟨l,J,h⟩:=dq hd hs [x];split
  ·rename_i e he;exact .pe ((iJ J (h x (by simp))).step ⟨rfl,Z _ _ he⟩)
  ·exact .none
 ·rename_i x
  obtain⟨l,J,h⟩:=dq hd hs [x];split
  ·rename_i e he;exact .pe ((kH J (h x (by simp))).step ⟨rfl,Z _ _ he⟩)
  ·exact .none
 ·rename_i c x y
  obtain⟨l,J,h⟩:=dq hd hs [c,x,y];split
  ·rename_i ca hc
   split
   ·rename_i b hb
    have hv:=AV.b_rel hb (aU Z hc);have a0:=h c (by simp);rw[hv] at a0;split
    ·split
     ·rename_i e he;exact .pe ((qL J a0 rfl (h x (by simp))).step ⟨rfl,Z _ _ he⟩)
     ·exact .none
    ·split
     ·rename_i e he;exact .pe ((qN J a0 rfl (h y (by simp))).step ⟨rfl,Z _ _ he⟩)
     ·exact .none
   ·exact .none
  ·exact .none
 ·rename_i x
  obtain⟨l,J,h⟩:=dq hd hs [x];have hx:=h x (by simp);split
  ·rename_i t v W
   have hr:=aU Z W;obtain⟨b,o,hv,hR⟩:=hr;rw[hv] at hx;exact .run (bV J hx) ⟨b,o,rfl,hR⟩
  ·rename_i W
   obtain⟨p,hp,hv⟩:=aU Z W;rw[hv] at hx;exact .run (bV J hx) ⟨p,hp,rfl⟩
  ·rename_i W
   obtain⟨p,hp,hv⟩:=aU Z W;rw[hv] at hx;exact .run (bV J hx) ⟨p,hp,rfl⟩
  ·rename_i W
   obtain⟨p,hp,hv⟩:=aU Z W;rw[hv] at hx;exact .run (bV J hx) ⟨p,hp,rfl⟩
  ·rename_i W
   obtain⟨hr,_⟩:=aU Z W;split
   ·rename_i N _
    have e1:=N.hk _ _ _ hr;exact .pb λq hq=>(nZ J hx e1 hq).step ⟨rfl,oJ e1 hq⟩
   ·exact .none
  ·exact .none
 ·rename_i x y _
  obtain⟨l,J,h⟩:=dq hd hs [x,y];split
  ·rename_i W h2
   exact Hs J (h x (by simp)) (h y (by simp)) (aU Z W) (aU Z h2)
  ·exact .none
 ·rename_i x
  obtain⟨l,J,h⟩:=dq hd hs [x];split
  ·rename_i W;exact IT J (h x (by simp)) (aU Z W)
  ·exact .none
 ·rename_i x
  obtain⟨l,J,h⟩:=dq hd hs [x];split
  ·rename_i W
   obtain⟨L,TL,hS⟩:=hM.any;exact Fq J hS (h x (by simp)) (aU Z W)
  ·exact .none
 ·rename_i x i
  obtain⟨l,J,h⟩:=dq hd hs [x];have hx:=h x (by simp);split
  ·rename_i vs W
   split
   ·rename_i v hv
    obtain⟨us,hu,hR⟩:=Z _ _ W;obtain⟨u,g1,g2⟩:=Ft hR hv;rw[hu] at hx;exact .run (cl J hx (by simpa using g1)) g2
   ·exact .none
  ·exact .none
 ·rename_i x
  obtain⟨l,J,h⟩:=dq hd hs [x];split
  ·rename_i W;exact Fs J hM (h x (by simp)) (aU Z W)
  ·exact .none
 ·rename_i x _
  obtain⟨l,J,h⟩:=dq hd hs [x];split
  ·rename_i W;exact Dx J (h x (by simp)) (aU Z W)
  ·exact .none
 ·rename_i x y
  obtain⟨l,J,h⟩:=dq hd hs [x,y];split
  ·rename_i W h2;exact Dy J hM (h x (by simp)) (h y (by simp)) (aU Z W) (aU Z h2)
  ·exact .none
 ·rename_i x y
  obtain⟨l,J,h⟩:=dq hd hs [x,y];split
  ·rename_i W h2;exact Dz J (h x (by simp)) (h y (by simp)) (aU Z W) (aU Z h2)
  ·exact .none
 ·rename_i x lo hi
  obtain⟨l,J,h⟩:=dq hd hs (x::(lo.toList++hi.toList));split
  ·rename_i W
   refine DA J (h x (by simp)) (aU Z W) ?_ ?_
   ·cases lo with
    |none=>trivial
    |some o=>exact λb hb=>⟨_,h o (by simp),aU Z hb⟩
   ·cases hi with
    |none=>trivial
    |some o=>exact λb hb=>⟨_,h o (by simp),aU Z hb⟩
  ·exact .none
 ·rename_i t ps
  obtain⟨l,J,h⟩:=dq hd hs (ps.toList.map (·.2));exact DB (σ:=λx=>av? (ρ x)) J λp hp b hb=>⟨_,h p.2 (Qu hp),aU Z hb⟩
 ·rename_i x t
  obtain⟨l,J,h⟩:=dq hd hs [x];split
  ·rename_i W;exact Ht J hM (h x (by simp)) (aU Z W)
  ·exact .none
 ·rename_i x y _
  obtain⟨l,J,h⟩:=dq hd hs [x,y];split
  ·rename_i W h2;exact DC (mx:=true) J (h x (by simp)) (h y (by simp)) (aU Z W) (aU Z h2)
  ·exact .none
 ·rename_i x y _
  obtain⟨l,J,h⟩:=dq hd hs [x,y];split
  ·rename_i W h2;exact DC (mx:=false) J (h x (by simp)) (h y (by simp)) (aU Z W) (aU Z h2)
  ·exact .none
 ·exact .none
end
section
variable {W0:Bse}{m:M}{w:World}{L:List (Nat×List Value)}{TL:List (Nat×Value)}
theorem S.takeL (h:S W0 m w L TL){i:Nat}{e:Nat×List Value}(hi:L[i]? =some e):S W0 m w (e::L.set i (e.1,[])) TL:=by
 have key:∀(j:Nat) (x:Nat×List Value),(e::L.set i (e.1,[]))[j]? =some x->x.2≠[]->∃k,L[k]? =some x/\(j=0/\k=i\/j=k+1/\k≠i):=by
  intro j x J W;cases j with
  |zero=>simp at J;subst J;exact⟨i,hi,.inl ⟨rfl,rfl⟩⟩
  | succ j=>
   simp only[Z8,Qz] at J;split at J
   ·split at J
    ·injection J with J;subst J;exact absurd rfl W
    ·cases J
   ·rename_i a1;exact⟨j,J,.inr ⟨rfl,λe=>a1 e.symm⟩⟩
 refine⟨h.below,h.imm,λj x J W=>?_,λj k x y J hy a2 W a0=>?_,h.tails,h.apart⟩
 ·obtain⟨k,Z,_⟩:=key j x J W;exact h.own k x Z W
 ·obtain⟨j',hj,h1⟩:=key j x J W
  obtain⟨k',Z,h2⟩:=key k y hy a0;exact h.nodup j' k' x y hj Z (by omega) W a0
theorem S.putL {e:Nat×List Value}(h:S W0 m w (e::L) TL){i b:Nat}(_hi:L[i]? =some (b,[])):S W0 m w (L.set i e) TL:=by
 have key:∀(j:Nat) (x:Nat×List Value),(L.set i e)[j]? =some x->x.2≠[]->∃k,(e::L)[k]? =some x/\(j=i/\k=0\/j≠i/\k=j+1):=by
  intro j x J W;rw[Qz] at J;split at J
  ·rename_i Z
   split at J
   ·injection J with J;subst J;exact⟨0,rfl,.inl ⟨Z.symm,rfl⟩⟩
   ·cases J
  ·rename_i Z;exact⟨j+1,by simpa using J,.inr ⟨λe=>Z e.symm,rfl⟩⟩
 refine⟨h.below,h.imm,λj x J W=>?_,λj k x y J hy a1 W a0=>?_,h.tails,h.apart⟩
 ·obtain⟨k,hk,_⟩:=key j x J W;exact h.own k x hk W
 ·obtain⟨j',hj,h1⟩:=key j x J W
  obtain⟨k',hk,h2⟩:=key k y hy a0;exact h.nodup j' k' x y hj hk (by omega) W a0
theorem S.takeT (h:S W0 m w L TL){i:Nat}{e:Nat×Value}(hi:TL[i]? =some e):S W0 m w L (e::TL.set i (e.1,.slice none 0 0)):=by
 have key:∀(j:Nat) (x:Nat×Value),(e::TL.set i (e.1,.slice none 0 0))[j]? =some x->x.2= .slice none 0 0\/ ∃k,TL[k]? =some x/\(j=0/\k=i\/j=k+1/\k≠i):=by
  intro j x J;cases j with
  |zero=>simp at J;subst J;exact .inr ⟨i,hi,.inl ⟨rfl,rfl⟩⟩
  | succ j=>
   simp only[Z8,Qz] at J;split at J
   ·split at J
    ·injection J with J;subst J;exact .inl rfl
    ·cases J
   ·rename_i a0;exact .inr ⟨j,J,.inr ⟨rfl,λe=>a0 e.symm⟩⟩
 refine⟨h.below,h.imm,h.own,h.nodup,λj x J=>?_,λj k x y J hy a1=>?_⟩
 ·rcases key j x J with J|⟨k,Z,_⟩
  ·obtain⟨s,v⟩:=x;simp only at J;subst J;trivial
  ·exact h.tails k x Z
 ·rcases key j x J with J|⟨j',hj,h1⟩
  ·intro b W;rw[J] at W;simp[iz] at W
  ·rcases key k y hy with hy|⟨k',Z,h2⟩
   ·intro b W;rw[hy];simp[iz]
   ·exact h.apart j' k' x y hj Z (by omega)
end
def aZ (G:Sg):List Ty->Type
 |[]=>Unit
 |[t]=>t.den G
 |t::t'::ts=>t.den G×aZ G (t'::ts)
def hdT (G:Sg)(t:Ty):(h:List Ty)->aZ G (t::h)->t.den G
 |[],x=>x
 |_::_,x=>x.1
def tlT (G:Sg)(t:Ty):(h:List Ty)->aZ G (t::h)->aZ G h
 |[],_=>()
 |_::_,x=>x.2
def mkT (G:Sg)(t:Ty):(h:List Ty)->t.den G->aZ G h->aZ G (t::h)
 |[],x,_=>x
 |_::_,x,y=>(x,y)
theorem vn {G:Sg}{t:Ty}:∀{h:List Ty} {x:t.den G} {y:aZ G h},hdT G t h (mkT G t h x y)=x
 |[],_,_=>rfl
 |_::_,_,_=>rfl
theorem vo {G:Sg}{t:Ty}:∀{h:List Ty} {x:t.den G} {y:aZ G h},tlT G t h (mkT G t h x y)=y
 |[],_,_=>rfl
 |_::_,_,_=>rfl
inductive Pm where
 |rd (u:Ty)
 |ap (u:Ty)
 |pt (u:Ty)
 |ow (u:Ty)
 |f1 (a b:Ty)
 |f2 (a c b:Ty)
inductive Rm where
 |rd (u:Ty)
 |ap (u:Ty)
 |ow (u:Ty)
def Pm.den (G:Sg):Pm->Type
 | .rd t=>t.den G
 | .ap t=>List (t.den G)
 | .pt t=>t.den G
 | .ow t=>List (t.den G)
 | .f1 a b=>a.den G->Option (b.den G)
 | .f2 a c b=>a.den G->c.den G->Option (b.den G)
def cU (G:Sg):List Pm->Type
 |[]=>Unit
 |p::ps=>p.den G×cU G ps
def Pm.out:Pm->Option Ty
 | .pt t=>some t
 | .ow t=>some (.sl t)
 |_=>none
def Rm.ty:Rm->Ty
 | .rd t=>t
 | .ap t=> .sl t
 | .ow t=> .sl t
def jH (G:Sg)(P:Program)(m:M):(ps:List Pm)->List Value->cU G ps->List (Nat×List Value)->List (Nat×Value)->Prop
 |[],[],_,[],[]=>True
 | .rd t::ps,v::vs,x,Lp,Tp=>RV (t.kd G) m v x.1/\jH G P m ps vs x.2 Lp Tp
 | .ap t::ps,v::vs,x,Lp,e::Tp=>RV (kSl (t.kd G)) m v x.1/\e=((t.kd G).sz,v)/\jH G P m ps vs x.2 Lp Tp
 | .pt t::ps,v::vs,x,e::Lp,Tp=>(t.kd G).R m e.2 x.1/\v= .pointer (some ⟨e.1,0,none⟩)/\jH G P m ps vs x.2 Lp Tp
 | .ow t::ps,v::vs,x,e::Lp,Tp=>GS (t.kd G) m e.1 e.2 v x.1/\jH G P m ps vs x.2 Lp Tp
 | .f1 a b::ps,v::vs,x,Lp,Tp=>Fn1 P (a.kd G) (b.kd G) m v x.1/\jH G P m ps vs x.2 Lp Tp
 | .f2 a c b::ps,v::vs,x,Lp,Tp=>Fn2 P (a.kd G) (c.kd G) (b.kd G) m v x.1/\jH G P m ps vs x.2 Lp Tp
 |_,_,_,_,_=>False
def gH (G:Sg)(m:M):(ps:List Pm)->List Value->aZ G (ps.filterMap Pm.out)->List (Nat×List Value)->List (Nat×List Value)->Prop
 |[],_,_,[],[]=>True
 | .pt t::ps,_::vs,x,e::Lp,e'::Lp'=>e'.1=e.1/\(t.kd G).R m e'.2 (hdT G t (ps.filterMap Pm.out) x)/\gH G m ps vs (tlT G t (ps.filterMap Pm.out) x) Lp Lp'
 | .ow t::ps,v::vs,x,e::Lp,e'::Lp'=>e'.1=e.1/\GS (t.kd G) m e'.1 e'.2 v (hdT G (.sl t) (ps.filterMap Pm.out) x)/\gH G m ps vs (tlT G (.sl t) (ps.filterMap Pm.out) x) Lp Lp'
 | .rd _::ps,_::vs,x,Lp,Lp'=>gH G m ps vs x Lp Lp'
 | .ap _::ps,_::vs,x,Lp,Lp'=>gH G m ps vs x Lp Lp'
 | .f1 _ _::ps,_::vs,x,Lp,Lp'=>gH G m ps vs x Lp Lp'
 | .f2 _ _ _::ps,_::vs,x,Lp,Lp'=>gH G m ps vs x Lp Lp'
 |_,_,_,_,_=>False
def lC (G:Sg)(m:M)(os:List Ty):(rs:List Rm)->List Value->aZ G (rs.map Rm.ty++os)->List (Nat×List Value)->List (Nat×Value)->Prop
 |[],[],_,[],[]=>True
 | .rd t::rs,v::vs,x,Lr,Tr=>RV (t.kd G) m v (hdT G t (rs.map Rm.ty++os) x)/\lC G m os rs vs (tlT G t (rs.map Rm.ty++os) x) Lr Tr
 | .ap t::rs,v::vs,x,Lr,e::Tr=>RV (kSl (t.kd G)) m v (hdT G (.sl t) (rs.map Rm.ty++os) x)/\e=((t.kd G).sz,v)/\lC G m os rs vs (tlT G (.sl t) (rs.map Rm.ty++os) x) Lr Tr
 | .ow t::rs,v::vs,x,e::Lr,Tr=>GS (t.kd G) m e.1 e.2 v (hdT G (.sl t) (rs.map Rm.ty++os) x)/\lC G m os rs vs (tlT G (.sl t) (rs.map Rm.ty++os) x) Lr Tr
 |_,_,_,_,_=>False
def rest (G:Sg)(os:List Ty):(rs:List Rm)->aZ G (rs.map Rm.ty++os)->aZ G os
 |[],x=>x
 |r::rs,x=>rest G os rs (tlT G r.ty (rs.map Rm.ty++os) x)
abbrev fm (ps:List Pm)(rs:List Rm):List Ty:=rs.map Rm.ty++ps.filterMap Pm.out
def Ctr (G:Sg)(P:Program)(f:FuncId)(ps:List Pm)(rs:List Rm)(g:cU G ps->Option (aZ G (fm ps rs))):Prop:=
 ∀(W0:Bse) (m:M) (w:World) (L:List (Nat×List Value)) (TL:List (Nat×Value)) (vs:List Value) (x:cU G ps) (r:aZ G (fm ps rs)) (Lp:List (Nat×List Value)) (Tp:List (Nat×Value)),
  S W0 m w (Lp++L) (Tp++TL)->jH G P m ps vs x Lp Tp->g x=some r->
  Calls P f vs.toArray w (Ret λv w'=>∃(m':M) (us:List Value) (Lr Lp':List (Nat×List Value)) (Tr:List (Nat×Value)),M.le m m'/\S W0 m' w' (Lr++(Lp'++L)) (Tr++TL)/\v=tup us/\lC G m' (ps.filterMap Pm.out) rs us r Lr Tr/\gH G m' ps vs (rest G (ps.filterMap Pm.out) rs r) Lp Lp')
structure CS (P:Program)(G:Sg) where
 f:FuncId
 ps:List Pm
 rs:List Rm
 g:cU G ps->Option (aZ G (fm ps rs))
 ok:Ctr G P f ps rs g
 hc:∀vs w,(callFunc f vs).run P w= .ok (.enter f vs) w
section
variable {G:Sg}{P:Program}
def rmk {O:Type}:List (Nat×O)->Nat->List (Nat×O)
  |[],_=>[]
  |(q,x)::l,d=>if Q9 q d then rmk l d else (q,x)::rmk l d
theorem kf {O:Type}{l:List (Nat×O)}{d:Nat}{e:Nat×O}(h:e∈rmk l d):e∈l/\e.1≠d:=by
  induction l with
  |nil=>cases h
  | cons x l ih=>
    obtain⟨q,x⟩:=x;simp only[rmk] at h;split at h
    ·have:=ih h;exact⟨by simp[this.1],this.2⟩
    · rename_i J
      rcases Q6.1 h with h|h
      · subst h
        exact⟨by simp,λe=>by subst e;simp at J⟩
      ·have:=ih h;exact⟨by simp[this.1],this.2⟩
def St.put (st:St G)(d:Nat)(e:EV G):St G:={ st with env:=(d,st.c,e)::rmk st.env d }
def St.push (st:St G)(B:BC G):St G:={ st with L:=(st.c,B)::st.L }
def St.setB (st:St G)(i:Nat)(B:BC G):St G:={ st with L:=sb st.L i (st.c,B) }
def wy (s:ByteArray):List Int:=s.data.toList.map λb=>(b.toNat:Int)
def cAV:Value->Option (AV G)
  | .int k n=>if k.wrap n=n then some (.li k n) else none
  | .bool b=>some (db b)
  | .string s=>if Z1 (wy s).length bU then some (.dat .str (wy s) none) else none
  | .slice none 0 0=>some .nils
  | .pointer none=>some .nilp
  | .agg cs=>some (.agc cs.toList)
  |_=>none
theorem Fu (s:ByteArray):bts (wy s)=s:=by
  cases s with
  | mk d=>
    unfold bts wy;congr 1;apply Array.ext';simp[List.map_map,Function.comp_def]
theorem Hu (s:ByteArray):∀n∈wy s,0<=n/\n<256:=by
  intro n h;unfold wy at h;obtain⟨b,_,rfl⟩:=Qy.1 h;have:=b.toNat_lt;omega
theorem t6 {v:Value}{b:AV G}{m:M}{z:Cz}(h:cAV v=some b):b.Rel G P m z v:=by
  unfold cAV at h;split at h
  · split at h
    ·rename_i J;injection h with h;subst h;exact⟨rfl,J⟩
    ·cases h
  ·injection h with h;subst h;exact dy
  · rename_i s
    split at h
    · rename_i J
      injection h with h;subst h
      refine⟨?_,trivial⟩;have:=xi (m:=m) (Hu s) (Q0 J);rw[Fu] at this;exact this
    ·cases h
  ·injection h with h;subst h;rfl
  ·injection h with h;subst h;rfl
  · rename_i cs
    injection h with h;subst h
    show _=_;simp
  ·cases h
def St.op (st:St G):Operand->Option (EV G)
  | .tmp t=>(match lke st.env t with|some e=>some e.2|none=>none)
  | .const v=>(match cAV v with|some b=>some (.one b)|none=>none)
  |_=>none
theorem gC {O:Type}{l:List (Nat×O)}{q:Nat}{x:O}(h:lke l q=some x):(q,x)∈l:=by
  induction l with
  |nil=>cases h
  | cons e l ih=>
    obtain⟨j,y⟩:=e;simp only[lke] at h;split at h
    · rename_i J
      have:=Jn J;injection h with h
      subst this;subst h;simp
    ·simp[ih h]
def jd (G:Sg)(P:Program)(m:M)(z:Cz)(env:List (Nat×Nat×EV G))(a:Act):Prop:= ∀e∈env,e.2.2.Rel G P m z (a.tmps.getD e.1 undef)
theorem ez {st:St G}{a:Act}{m:M}{z:Cz}(h:jd G P m z st.env a):∀x e,st.op x=some e->e.Rel G P m z (a.eval x):=by
  intro x e J;cases x with
  | tmp t=>
    simp only[St.op] at J;split at J
    · rename_i e' W
      injection J with J;subst J
      exact h _ (gC W)
    ·cases J
  | const v=>
    simp only[St.op] at J;split at J
    · rename_i b Z
      injection J with J;subst J
      exact t6 Z
    ·cases J
  |_=>simp[St.op] at J
structure Sat (G:Sg)(P:Program)(δ:List Nat)(n:Nat)(W0:Bse)(L0:Rs)(T0:List (Nat×Value))(m0:M)(st:St G)(a:Act)(w:World):Prop where
  ex:∃m z,M.le m0 m/\jd G P m z st.env a/\fk G W0 L0 T0 st.L st.T m z w
  df:a.defers=δ.map λD=>{ target:= .collected D,args:= #[] }
  sz:a.tmps.size=n
structure Ext (k0:Nat)(st st':St G):Prop where
  env:∀k,k<k0->∀e∈st'.env,e.2.1<=k->∃lv,lv<=k/\(e.1,lv,e.2.2)∈st.env
  blk:∀k,k<k0->∀i s B,fb st'.L i=some (s,B)->s<=k->∃s',s'<=k/\fb st.L i=some (s',B)
theorem Ext.refl (k0:Nat)(st:St G):Ext k0 st st:=⟨λk _ e J Z=>⟨e.2.1,Z,J⟩,λk _ i s B h W=>⟨s,W,h⟩⟩
theorem Ext.trans {Z:Nat}{a b c:St G}(h:Ext Z a b)(k:Ext Z b c):Ext Z a c:=
  ⟨λq J e he hl=>by
    obtain⟨lv,h1,W⟩:=k.env q J e he hl;exact h.env q J (e.1,lv,e.2.2) W h1,
   λq J i s B hb hs=>by
    obtain⟨s',h1,W⟩:=k.blk q J i s B hb hs
    exact h.blk q J i s' B W h1⟩
theorem Ext.le {J k1:Nat}{a b:St G}(h:Ext J a b)(Z:k1<=J):Ext k1 a b:=⟨λq W=>h.env q (by omega),λq W=>h.blk q (by omega)⟩
theorem Ext.put {st:St G}{d:Nat}{e:EV G}:Ext st.c st (st.put d e):=
  ⟨λk hk x J W=>by
    rcases Q6.1 J with rfl|J
    ·simp only at W;omega
    ·exact⟨x.2.1,W,(kf J).1⟩,λk hk i s B h Z=>⟨s,Z,h⟩⟩
theorem t7 {O:Type}{l:List O}{i:Nat}{y:O}(h:fb l i=some y):i<l.length:=by
  induction l with
  |nil=>simp[fb] at h
  | cons a l ih=>
    simp only[fb] at h;split at h
    · rename_i e
      have:=Jn e;simp;omega
    ·have:=ih h;simp;omega
theorem Hv {O:Type}{l:List O}{x y:O}{i:Nat}(h:fb (x::l) i=some y):(i=l.length/\x=y)\/fb l i=some y:=by
  simp only[fb] at h;split at h
  · rename_i e
    injection h with h
    exact .inl ⟨Jn e,h⟩
  ·exact .inr h
theorem GJ {O:Type}{l:List O}{i j:Nat}{x y:O}(h:fb (sb l i x) j=some y):(j=i/\x=y)\/(j≠i/\fb l j=some y):=by
  by_cases e:i=j
  · subst e
    cases hl:fb l i with
    | none=>
      exfalso
      have Z:(sb l i x).length=l.length:=by
        clear h hl
        induction l with
        |nil=>rfl
        |cons a l ih=>simp only[sb];split<;>simp[ih]
      have W:=t7 h;rw[Z] at W
      have: ∀{l:List O} {i:Nat},i<l.length->fb l i≠none:=by
        intro l
        induction l with
        |nil=>intro i h;simp at h
        | cons a l ih=>
          intro i h J;simp only[fb] at J;split at J
          ·cases J
          · rename_i hb
            have:i≠l.length:=λe=>by subst e;simp at hb
            simp at h;exact ih (by omega) J
      exact this W hl
    | some y'=>
      rw[mg hl] at h;injection h with h
      exact .inl ⟨rfl,h⟩
  · rw[jb e] at h
    exact .inr ⟨λx=>e x.symm,h⟩
theorem Ext.push {st:St G}{B:BC G}:Ext st.c st (st.push B):=
  ⟨λk hk x Z hl=>⟨x.2.1,hl,Z⟩,λk hk i s B' h W=>by
    rcases Hv h with⟨_,J⟩|h
    ·injection J with J _;omega
    ·exact⟨s,W,h⟩⟩
theorem Ext.setB {st:St G}{i:Nat}{B:BC G}:Ext st.c st (st.setB i B):=
  ⟨λk hk x Z hl=>⟨x.2.1,hl,Z⟩,λk hk j s B' h W=>by
    rcases GJ h with⟨_,J⟩|⟨_,h⟩
    ·injection J with J _;omega
    ·exact⟨s,W,h⟩⟩
structure Zle (z z':Cz):Prop where
  b:∀i p,fb z.b i=some p->fb z'.b i=some p
  t:∀j v,fb z.t j=some v->fb z'.t j=some v
theorem Zle.refl (z:Cz):Zle z z:=⟨λ_ _ h=>h,λ_ _ h=>h⟩
theorem AV.Rel.z {m:M}{z z':Cz}{b:AV G}{v:Value}(h:b.Rel G P m z v)(Z:Zle z z'):b.Rel G P m z' v:=by
  cases b with
  | dat t x o=>
    refine⟨h.1,?_⟩;cases o with
    |none=>trivial
    |some j=>exact Z.t j v h.2
  |loc i a b A=>obtain⟨p,W,J⟩:=h;exact⟨p,Z.b _ _ W,J⟩
  |elp i j a b A=>obtain⟨p,W,J⟩:=h;exact⟨p,Z.b _ _ W,J⟩
  |blk i=>obtain⟨p,W,J⟩:=h;exact⟨p,Z.b _ _ W,J⟩
  |own i=>obtain⟨p,W,J⟩:=h;exact⟨p,Z.b _ _ W,J⟩
  |_=>exact h
theorem EV.Rel.z {m:M}{z z':Cz}{e:EV G}{v:Value}(h:e.Rel G P m z v)(W:Zle z z'):e.Rel G P m z' v:=by
  cases e with
  |one b=>exact AV.Rel.z h W
  | tup asv=>
    obtain⟨vs,Z,J⟩:=h;refine⟨vs,Z,?_⟩;clear Z
    induction asv generalizing vs with
    |nil=>cases vs<;>exact J
    | cons a asv ih=>
      cases vs with
      |nil=>exact J
      |cons v vs=>exact⟨J.1.z W,ih vs J.2⟩
theorem jd.z {m m':M}{z z':Cz}{env:List (Nat×Nat×EV G)}{a:Act}(h:jd G P m z env a)(W:M.le m m')(J:Zle z z'):jd G P m' z' env a:=λe Z=>((h e Z).mono W).z J
theorem jd.put {m:M}{z:Cz}{env:List (Nat×Nat×EV G)}{a:Act}{n d lv:Nat}{e:EV G}{v:Value}(h:jd G P m z env a)(hs:a.tmps.size=n)(hd:Q2 d n=true)(hv:e.Rel G P m z v):jd G P m z ((d,lv,e)::rmk env d) (a.put (some d) v):=by
  have W:d<n:=Q0 hd;intro x J;rcases Q6.1 J with rfl|J
  ·simpa[Act.put,hs,W] using hv
  · obtain⟨h1,Z⟩:=kf J
    have:=h x h1;have a0:d≠x.1:=λe=>Z e.symm;simpa[Act.put,Array.getElem?_setIfInBounds_ne a0] using this
theorem jr {O:Type}{l:List O}{i:Nat}{x:O}(h:fb l i=some x):sb l i x=l:=by
  induction l with
  |nil=>simp[fb] at h
  | cons a l ih=>
    simp only[fb] at h;simp only[sb];split at h
    ·rename_i e;injection h with h;subst h;simp[e]
    ·rename_i e;simp[e,ih h]
end
structure lD (G:Sg) where
 β:Type
 mv:Option β
 k:β->St G
section
variable {G:Sg}{P:Program}
def AV.tagged (j:Nat):AV G->Bool
 | .dat _ _ (some i)=>Q9 i j
 |_=>false
def AV.er:AV G->AV G
 | .dat t x _=> .dat t x none
 |b=>b
def EV.tagged (j:Nat):EV G->Bool
 | .one b=>b.tagged j
 | .tup asv=>asv.any (AV.tagged j)
def EV.er:EV G->EV G
 | .one b=> .one b.er
 | .tup asv=> .tup (asv.map AV.er)
def l8 (j c:Nat)(env:List (Nat×Nat×EV G)):List (Nat×Nat×EV G):=env.map λe=>if e.2.2.tagged j then (e.1,c,e.2.2.er) else e
def nx (m:Nat)(by_:Nat):Nat:=m/(if by_=0 then 1 else by_)
theorem yt (m by_:Nat):nx m by_*by_<=m/\nx m by_<=m:=by
 unfold nx;split
 ·rename_i h;subst h;simp
 ·exact⟨Nat.div_mul_le_self _ _,Nat.div_le_self _ _⟩
def t8:Nat:=140737488355328
def B9:Nat:=281474976710656
def TI.sl? {i:TypeId}:TI P G i->Option (Sigma λc:Ty=>SlI P G i c)
 |⟨.sl c,_,u,_,_,_,_⟩=>some ⟨c,u⟩
 |_=>none
def AV.own?:AV G->Option Nat
 | .own i=>some i
 |_=>none
def IU (Γ:Tab P G)(h:Nat->Option (BC G))(c:Ty)(q:AV G):Option (List (c.den G)):=
 match q.own? with
 |some i=>(match h i with|some (.arr c' _ xs)=>cT G (.sl c') (.sl c) xs|_=>none)
 |none=>q.as Γ (.sl c)
def Fv (Γ:Tab P G)(J:Nat->Option (BC G))(c h:Ty)(q:AV G):Option (List (c.den G)):=
 match h with
 | .str=>(match q.s? with|some s=>cT G (.sl (.int .u8)) (.sl c) s|none=>none)
 | .sl _=>IU Γ J c q
 |_=>none
def wz (Γ:Tab P G)(c:Ty):List (Nat×Option (AV G))->Nat->Option (List (c.den G))
 |[],_=>some []
 |(i,some b)::r,k=>if i=k then (match b.as Γ c,wz Γ c r (k+1) with|some x,some xs=>some (x::xs)|_,_=>none) else none
 |_,_=>none
def Ca:Operand->Operand->Bool
 | .tmp i,.tmp j=>Q9 i j
 | .const (.int k i),.const (.int k' j)=>decide (i=j)
 |_,_=>false
def two {β:Type}(h:Option β)(k:β->St G):Option (lD G):=some ⟨β,h,k⟩
def s6 (s:St G):Option (lD G):=some ⟨Unit,some (),λ_=>s⟩
def allocT (Γ:Tab P G)(st:St G)(t:TypeId)(d:Nat):Option (lD G):=
 match Γ.ar t with
 |some R=>s6 ((st.push (.arr R.t (some R.n) (Qs R.n R.z))).put d (.one (.blk st.L.length)))
 |none=>(match Γ.ty t with
  |some I=>s6 ((st.push (.dat I.T I.z)).put d (.one (.blk st.L.length)))
  |none=>none)
def Fw (Γ:Tab P G)(st:St G)(t:TypeId)(x:Operand)(d:Nat):Option (lD G):=
 match Γ.ty t,av? (st.op x) with
 |some I,some b=>(match b.as Γ I.T with
  |some y=>s6 ((st.push (.dat I.T y)).put d (.one (.blk st.L.length)))
  |none=>none)
 |_,_=>none
def zi (Γ:Tab P G)(st:St G)(t:TypeId)(x y:Operand):Option (lD G):=
 match Γ.ty t,av? (st.op x),av? (st.op y) with
 | some I,some p,some q=>(match q.as Γ I.T with
  | some v=>(match p with
   | .blk i=>(match d7 st.L i with
    |some (.dat c x0)=>if c=I.T then s6 (st.setB i (.dat I.T v)) else none
    |_=>none)
   | .loc i c b A=>(match d7 st.L i with
    |some (.dat c' x0)=>(match cT G c' c x0,cT G I.T b v with
     |some h,some v=>s6 (st.setB i (.dat c (A.set h v)))
     |_,_=>none)
    |_=>none)
   | .elp i j c b A=>(match d7 st.L i with
    |some (.arr c' n xs)=>(match cT G (.sl c') (.sl c) xs,cT G I.T b v with
     |some ys,some v=>two (IS (O:=c.den G) ys j) λh=>st.setB i (.arr c n (List.set (α:=c.den G) ys j (A.set h v)))
     |_,_=>none)
    |_=>none)
   |_=>none)
  |none=>none)
 |_,_,_=>none
def Fy (Γ:Tab P G)(st:St G)(t:TypeId)(len:Nat)(ps:Array (Nat×Operand))(d:Nat):Option (lD G):=
 match Γ.ty t with
 | some I=>(match I.sl? with
  |some ⟨c,_⟩=>(match wz Γ c (ps.toList.map λp=>(p.1,av? (st.op p.2))) 0 with
   |some xs=>if ps.toList.length=len/\Z1 (len*(c.kd G).sz) 16777216=true then s6 ({ st with T:=(c.kd G).sz::st.T }.put d (.one (.dat (.sl c) xs (some st.T.length)))) else none
   |none=>none)
  |none=>none)
 |none=>none
def Fz (Γ:Tab P G)(st:St G)(t t2:TypeId)(x y:Operand)(d:Nat):Option (lD G):=
 match Γ.ty t,Γ.ty t2,av? (st.op x),av? (st.op y) with
 | some I,some I2,some p,some q=>(match I.sl? with
  | some ⟨c,B⟩=>(match Fv Γ (d7 st.L) c I2.T q with
   | some ys=>(match p with
    | .nils=>two (app (nx t8 B.by_) ([]:List (c.den G)) ys) λh=>{ st with T:=(c.kd G).sz::st.T }.put d (.one (.dat (.sl c) h (some st.T.length)))
    | .dat t' xs (some j)=>(match cT G t' (.sl c) xs with
     |some xs=>if fb st.T j=some (c.kd G).sz then two (app (O:=c.den G) (nx t8 B.by_) xs ys) λh=>{ st with env:=l8 j st.c st.env }.put d (.one (.dat (.sl c) h (some j))) else none
     |none=>none)
    |_=>none)
   |none=>none)
  |none=>none)
 |_,_,_,_=>none
def Cb (Γ:Tab P G)(st:St G)(t:TypeId)(x y:Operand)(d:Nat):Option (lD G):=
 match Γ.ty t,av? (st.op x),av? (st.op y) with
 |some I,some p,some q=>(match I.sl?,p.i?,q.i? with
  |some ⟨c,B⟩,some (_,i),some (_,_)=>if Ca x y=true then two (mk (nx B9 B.by_) i B.z) λh=>(st.push (.arr c none h)).put d (.one (.own st.L.length)) else none
  |_,_,_=>none)
 |_,_,_=>none
def Cc (Γ:Tab P G)(st:St G)(t:TypeId)(x y:Operand)(d:Nat):Option (lD G):=
 match Γ.ty t,av? (st.op x),av? (st.op y) with
 | some I,some (.own i),some q=>(match I.sl?,d7 st.L i with
  |some ⟨c,B⟩,some (.arr c' n xs)=>(match cT G (.sl c') (.sl c) xs,q.as Γ (.sl c) with
   |some xs,some ys=>s6 ((st.setB i (.arr c n (cpy (O:=c.den G) xs ys))).put d (.one (di .i64 ((min (List.length (α:=c.den G) ys) (List.length (α:=c.den G) xs):Nat):Int))))
   |_,_=>none)
  |_,_=>none)
 |_,_,_=>none
def zj (Γ:Tab P G)(st:St G):Op->Option Nat->Option (lD G)
 | .alloc t,some d=>allocT Γ st t d
 | .box t x,some d=>Fw Γ st t x d
 | .store t x y,none=>zi Γ st t x y
 | .buildSlice t len ps,some d=>Fy Γ st t len ps d
 | .call ⟨.builtin .append,⟨[x,y]⟩,⟨[t,t2]⟩⟩,some d=>Fz Γ st t t2 x y d
 | .call ⟨.builtin .copy,⟨[x,y]⟩,⟨[t,_]⟩⟩,some d=>Cc Γ st t x y d
 | .makeSlice t x y,some d=>Cb Γ st t x y d
 |_,_=>none
end
section
variable {G:Sg}{P:Program}{δ:List Nat}{n:Nat}{W0:Bse}{L0:Rs}{T0:List (Nat×Value)}{m0:M}{st:St G}{a:Act}{w:World}{Γ:Tab P G}{ty t t2:TypeId}{d:Nat}{pos:String}{aft:Array Edge}{g:Option (Nat×Bool)}{x y:Operand}{o:Oper}
def TG (G:Sg)(P:Program)(δ:List Nat)(n:Nat)(W0:Bse)(L0:Rs)(T0:List (Nat×Value))(m0:M)(st:St G)(r:Option (lD G))(o:Oper)(a:Act)(w:World):Prop:=
 ∀R b,r=some R->R.mv=some b->aM P o a w (λv w'=>Sat G P δ n W0 L0 T0 m0 (R.k b) (a.put o.dst v) w'/\Ext st.c st (R.k b)/\(R.k b).c=st.c)
theorem TG.none:TG G P δ n W0 L0 T0 m0 st none o a w:=λR b h=>by cases h
theorem TG.one {s:St G}(h:aM P o a w (λv w'=>Sat G P δ n W0 L0 T0 m0 s (a.put o.dst v) w'/\Ext st.c st s/\s.c=st.c)):TG G P δ n W0 L0 T0 m0 st (s6 s) o a w:=λR b J W=>by
 injection J with J;subst J;exact h
theorem TG.two {β:Type}{W:Option β}{k:β->St G}(h:∀b,W=some b->aM P o a w (λv w'=>Sat G P δ n W0 L0 T0 m0 (k b) (a.put o.dst v) w'/\Ext st.c st (k b)/\(k b).c=st.c)):TG G P δ n W0 L0 T0 m0 st (two W k) o a w:=λR b J Z=>by
 injection J with J;subst J;exact h b Z
theorem Sat.of {env:List (Nat×Nat×EV G)}{L:List (Nat×BC G)}{T:List Nat}{c:Nat}{m m':M}{z:Cz}{e:EV G}{v:Value}{w':World}(Z:M.le m0 m)(J:M.le m m')(hr:jd G P m' z env a)(hv:e.Rel G P m' z v)(hM:fk G W0 L0 T0 L T m' z w')
  (hd:Q2 d n=true) (W:a.defers=δ.map λD=>{ target:= .collected D,args:= #[] }) (h:a.tmps.size=n):Sat G P δ n W0 L0 T0 m0 (St.put ⟨env,c,L,T⟩ d e) (a.put (some d) v) w':=
 ⟨⟨m',z,Z.trans J,hr.put h hd hv,hM⟩,by simp[Act.put,W],by simp[Act.put,h]⟩
theorem Sat.of0 {env:List (Nat×Nat×EV G)}{L:List (Nat×BC G)}{T:List Nat}{c:Nat}{m m':M}{z:Cz}{v:Value}{w':World}(W:M.le m0 m)(h:M.le m m')(hr:jd G P m' z env a)(Z:fk G W0 L0 T0 L T m' z w')
  (J:a.defers=δ.map λD=>{ target:= .collected D,args:= #[] }) (hs:a.tmps.size=n):Sat G P δ n W0 L0 T0 m0 ⟨env,c,L,T⟩ (a.put none v) w':=
 ⟨⟨m',z,W.trans h,hr,Z⟩,J,hs⟩
theorem Zle.pushB (z:Cz)(p:Nat×Value):Zle z ⟨p::z.b,z.t⟩:=⟨λ_ _ h=>tZ h,λ_ _ h=>h⟩
theorem Zle.pushT (z:Cz)(v:Value):Zle z ⟨z.b,v::z.t⟩:=⟨λ_ _ h=>h,λ_ _ h=>tZ h⟩
theorem iN {O:Type}{x:O}{l:List O}:fb (x::l) l.length=some x:=by
 simp[fb]
theorem fk.len {Ls:List (Nat×BC G)}{Ts:List Nat}{m:M}{z:Cz}(h:fk G W0 L0 T0 Ls Ts m z w):z.b.length=Ls.length/\z.t.length=Ts.length:=by
 obtain⟨Lc,Z,W,J,_⟩:=h;exact⟨W.len.1,J.len.1⟩
theorem fk.push {Ls:List (Nat×BC G)}{Ts:List Nat}{m:M}{z:Cz}{w':World}{Lc:List (Nat×List Value)}{h:List (Nat×Value)}{b:Nat}{cs:List Value}{sv:Value}{s:Nat}{B:BC G}(W:LR G m Ls z.b Lc)(J:TRl Ts z.t h)
  (hS:S W0 m w' ((b,cs)::(Lc++L0.l)) (h++T0)) (a0:Sfx z.b L0.nm) (Z:B.Rel G m (b,sv) cs):fk G W0 L0 T0 ((s,B)::Ls) Ts m ⟨(b,sv)::z.b,z.t⟩ w':=
 ⟨(b,cs)::Lc,h,⟨rfl,Z,W⟩,J,hS,a0.cons⟩
theorem Ext.push_put {B:BC G}{e:EV G}:Ext st.c st ((st.push B).put d e):=Ext.push.trans (Ext.put (st:=st.push B))
theorem Ext.envL {st st':St G}(h1:st'.env=st.env)(W:st'.L=st.L):Ext st.c st st':=by
 refine⟨λk _ e J hl=>⟨e.2.1,hl,?_⟩,λk _ i s B h Z=>⟨s,Z,?_⟩⟩
 ·rw[h1] at J;exact J
 ·rw[W] at h;exact h
theorem DD (hs:Sat G P δ n W0 L0 T0 m0 st a w)(hd:Q2 d n=true):TG G P δ n W0 L0 T0 m0 st (allocT Γ st t d) ⟨some d,.alloc t,ty,pos,aft,g⟩ a w:=by
 obtain⟨⟨m,z,h0,hr,hM⟩,hdf,hsz⟩:=hs;have Z:=hM.len;obtain⟨Lc,Tc,h1,h2,hS,a0⟩:=hM;unfold allocT;split
 ·rename_i R _
  refine .one ((cP hS R.hz R.hzc).imp λv w' h=>?_);obtain⟨b,rfl,J⟩:=h;have W:(BC.arr R.t (some R.n) (Qs R.n R.z)).Rel G m (b,.slice (some ⟨b,0,none⟩) R.n R.n) (Qs R.n R.c).flatten:=⟨GS.zero R.hzR R.hn,by simp⟩
  exact⟨Sat.of h0 (Q8 m) (hr.z (Q8 m) (Zle.pushB z _)) ⟨_,by rw[←Z.1];exact iN,rfl⟩ (fk.push h1 h2 J a0 W) hd hdf hsz,Ext.push_put,rfl⟩
 ·split
  ·rename_i I _
   refine .one ((cP hS I.hz (cs:=I.zv.cells.toList) (by simp)).imp λv w' h=>?_);obtain⟨b,rfl,J⟩:=h;have W:(BC.dat I.T I.z).Rel G m (b,undef) I.zv.cells.toList:=I.hzR m;exact⟨Sat.of h0 (Q8 m) (hr.z (Q8 m) (Zle.pushB z _)) ⟨_,by rw[←Z.1];exact iN,rfl⟩ (fk.push h1 h2 J a0 W) hd hdf hsz,Ext.push_put,rfl⟩
  ·exact .none
theorem Hw (hs:Sat G P δ n W0 L0 T0 m0 st a w)(Z:Q2 d n=true):TG G P δ n W0 L0 T0 m0 st (Fw Γ st t x d) ⟨some d,.box t x,ty,pos,aft,g⟩ a w:=by
 obtain⟨⟨m,z,h0,J,h⟩,hdf,hsz⟩:=hs;have a0:=h.len;obtain⟨Lc,Tc,h1,h2,hS,a1⟩:=h;unfold Fw;split
 ·rename_i I b _ hx
  split
  ·rename_i y hy
   obtain⟨l,hE,W⟩:=dq hdf hsz [x];have hv:=AV.as_rel hy (aU (ez J) hx);refine .one ((j3 hE hS (W x (by simp)) hv).imp λv w' hq=>?_);obtain⟨b,cs,rfl,hc,a2⟩:=hq;have hB:(BC.dat I.T y).Rel G m (b,undef) cs:=hc;exact⟨Sat.of h0 (Q8 m) (J.z (Q8 m) (Zle.pushB z _)) ⟨_,by rw[←a0.1];exact iN,rfl⟩ (fk.push h1 h2 a2 a1 hB) Z hdf hsz,Ext.push_put,rfl⟩
  ·exact .none
 ·exact .none
theorem kg {O:Type}{l l0:List O}{j:Nat}{x y:O}(h:l[j]? =some y):(l++l0).set j x=l.set j x++l0:=by
 have:j<l.length:=(zh.1 h).1;rw[List.set_append_left _ _ this]
theorem jt {O:Type}{l l0:List O}{j:Nat}{y:O}(h:l[j]? =some y):(l++l0)[j]? =some y:=by
 have:j<l.length:=(zh.1 h).1;rw[Q1 this];exact h
theorem DE (hs:Sat G P δ n W0 L0 T0 m0 st a w):TG G P δ n W0 L0 T0 m0 st (zi Γ st t x y) ⟨none,.store t x y,ty,pos,aft,g⟩ a w:=by
 obtain⟨⟨m,z,h0,hr,hM⟩,hdf,hsz⟩:=hs;obtain⟨Lc,Tc,h1,h2,hS,a4⟩:=hM;unfold zi;split
 ·rename_i I p q _ hx hy
  obtain⟨l,hE,hl⟩:=dq hdf hsz [x,y];have a0:=hl x (by simp);have a3:=hl y (by simp);have hp:=aU (ez hr) hx;split
  ·rename_i vv hv
   have hV:=AV.as_rel hv (aU (ez hr) hy);split
   ·rename_i i
    split
    ·rename_i c x0 hB
     split
     ·rename_i hc
      subst hc;obtain⟨s,hs⟩:=gt hB;obtain⟨J,cs,j,W,Z,g3,g4⟩:=h1.get hs;obtain⟨a6,h,g6⟩:=hp;rw[W] at h;injection h with h;subst h
      rw[g6] at a0;refine .one ((cD hE hS I.ok bO a0 a3 hV (jt Z) g3).imp λv w' hq=>?_);obtain⟨cs',a1,a2⟩:=hq;have a5:(BC.dat I.T vv).Rel G m (J.1,J.2) cs':=a1;have:=g4 (st.c,BC.dat I.T vv) J.2 cs' a5;rw[jr W] at this;exact⟨Sat.of0 h0 (Q8 m) hr ⟨_,Tc,this,h2,by rw[←kg Z];exact a2,a4⟩ hdf hsz,Ext.setB,rfl⟩
     ·exact .none
    ·exact .none
   ·rename_i i c b A
    split
    ·rename_i c' x0 hB
     split
     ·rename_i x1 v1 e1 e2
      obtain⟨e,e1⟩:=bB e1;subst e;subst e1;obtain⟨e,e2⟩:=bB e2;subst e;subst e2;obtain⟨s,hs⟩:=gt hB;obtain⟨J,cs,j,W,Z,g3,g4⟩:=h1.get hs;obtain⟨a6,h,g6⟩:=hp;rw[W] at h;injection h with h;subst h
      rw[g6] at a0;refine .one ((cD hE hS I.ok A.stf a0 a3 hV (jt Z) g3).imp λv w' hq=>?_);obtain⟨cs',a1,a2⟩:=hq;have:=g4 (st.c,BC.dat c' _) J.2 cs' a1;rw[jr W] at this;exact⟨Sat.of0 h0 (Q8 m) hr ⟨_,Tc,this,h2,by rw[←kg Z];exact a2,a4⟩ hdf hsz,Ext.setB,rfl⟩
     ·exact .none
    ·exact .none
   ·rename_i i j c b A
    split
    ·rename_i c' nn xs hB
     split
     ·rename_i ys v1 e1 e2
      obtain⟨e,e1⟩:=bB e1;injection e with e
      subst e;subst e1;obtain⟨e,e2⟩:=bB e2;subst e;subst e2;refine .two λx1 a9=>?_;obtain⟨s,hs⟩:=gt hB;obtain⟨J,cs,j',W,Z,g3,g4⟩:=h1.get hs;obtain⟨a6,h,g6⟩:=hp;rw[W] at h;injection h with h;subst h
      rw[g6] at a0;refine(pP hE hS I.ok A.stf g3.1 a9 a0 a3 hV (jt Z)).imp λv w' hq=>?_;obtain⟨cs',a1,a2⟩:=hq
      have a5:(BC.arr c' nn (List.set (α:=c'.den G) _ j (A.set x1 _))).Rel G m (J.1,J.2) cs':=⟨a1,by
       have:=g3.2;cases nn with
       |none=>trivial
       |some k=>exact(List.length_set ..).trans this⟩
      have:=g4 (st.c,_) J.2 cs' a5;rw[jr W] at this;exact⟨Sat.of0 h0 (Q8 m) hr ⟨_,Tc,this,h2,by rw[←kg Z];exact a2,a4⟩ hdf hsz,Ext.setB,rfl⟩
     ·exact .none
    ·exact .none
   ·exact .none
  ·exact .none
 ·exact .none
theorem Bc {c:Ty}{l:List (Nat×Value)}{m:M}{z:Cz}:∀{ps:List (Nat×Operand)} {k:Nat} {xs:List (c.den G)} {σ:Operand->Option (AV G)},(∀p∈ps,∀b,σ p.2=some b->∃v,evl l p.2=some v/\b.Rel G P m z v)->
  wz Γ c (ps.map λp=>(p.1,σ p.2)) k=some xs->∃vs,ps.mapM (λp=>(evl l p.2).map λv=>(p.1,v))=some (num k vs)/\RVl (c.kd G) m vs xs/\vs.length=ps.length
 |[],k,xs,σ,_,h=>by
  simp only[Ze,wz,Option.some.injEq] at h;subst h;exact⟨[],rfl,trivial,rfl⟩
 | (i,o)::ps,k,xs,σ,hr,h=>by
  simp only[Qq] at h;cases hs:σ o with
  |none=>simp[hs,wz] at h
  | some b=>
   rw[hs] at h;unfold wz at h;split at h
   ·rename_i a0
    subst a0;split at h
    ·rename_i x a1 hx W
     injection h with h
     subst h;obtain⟨v,J,g2⟩:=hr (i,o) (by simp) b hs;obtain⟨vs,k1,k2,Z⟩:=Bc (λp hp=>hr p (by simp[hp])) W;exact⟨v::vs,by simp[J,k1,num],⟨AV.as_rel hx g2,k2⟩,by simp[Z]⟩
    ·cases h
   ·cases h
theorem Hx {len:Nat}{ps:Array (Nat×Operand)}(hs:Sat G P δ n W0 L0 T0 m0 st a w)(hd:Q2 d n=true):TG G P δ n W0 L0 T0 m0 st (Fy Γ st t len ps d) ⟨some d,.buildSlice t len ps,ty,pos,aft,g⟩ a w:=by
 obtain⟨⟨m,z,h0,Z,W⟩,hdf,hsz⟩:=hs;have a1:=W.len;obtain⟨Lc,Tc,h1,h2,hS,a2⟩:=W;unfold Fy;split
 ·split
  ·rename_i c B _
   split
   ·rename_i xs a0
    split
    ·rename_i J
     obtain⟨l,hE,hl⟩:=dq hdf hsz (ps.toList.map (·.2));obtain⟨vs,k1,k2,k3⟩:=Bc (σ:=λx=>av? (st.op x)) (λp hp b hb=>⟨_,hl p.2 (Qu hp),aU (ez Z) hb⟩) a0;refine .one ((jq hE hS k1 B.hu B.hs B.hz k2 (len:=len) (by rw[k3];exact J.1) J.2).imp λv w' hq=>?_);obtain⟨m',h,a3,hv⟩:=hq;refine⟨Sat.of (z:=⟨z.b,v::z.t⟩) h0 h (Z.z h (Zle.pushT z v)) ⟨hv,?_⟩ ⟨Lc,((c.kd G).sz,v)::Tc,h1.mono h,⟨rfl,h2⟩,a3,a2⟩ hd hdf hsz,(Ext.envL (st:=st) (st':={ st with T:=(c.kd G).sz::st.T }) rfl rfl).trans (Ext.put (st:={ st with T:=(c.kd G).sz::st.T })),rfl⟩;show fb (v::z.t) st.T.length=some v
     rw[←a1.2];exact iN
    ·exact .none
   ·exact .none
  ·exact .none
 ·exact .none
theorem AV.rel_app {b:AV G}{v u:Value}{j:Nat}{m:M}{z:Cz}(h:b.Rel G P m z v):(b.tagged j=false->b.Rel G P m ⟨z.b,sb z.t j u⟩ v)/\b.er.Rel G P m ⟨z.b,sb z.t j u⟩ v:=by
 cases b with
 | dat t x o=>
  refine⟨λJ=>⟨h.1,?_⟩,⟨h.1,trivial⟩⟩;cases o with
  |none=>trivial
  |some i=>
   have W:j≠i:=λe=>by subst e;simp[AV.tagged] at J
   show fb (sb z.t j u) i=some v;rw[jb W];exact h.2
 |_=>exact⟨λ_=>h,h⟩
theorem zk {J:List (AV G)}{vs:List Value}{u:Value}{j:Nat}{m:M}{z:Cz}(h:nj G P m z J vs):(J.any (AV.tagged j)=false->nj G P m ⟨z.b,sb z.t j u⟩ J vs)/\nj G P m ⟨z.b,sb z.t j u⟩ (J.map AV.er) vs:=by
 induction J generalizing vs with
 |nil=>cases vs<;>exact⟨λ_=>h,h⟩
 | cons b J ih=>
  cases vs with
  |nil=>exact h.elim
  |cons v vs=>
   have h1:=AV.rel_app (u:=u) (j:=j) h.1;have Z:=ih h.2;refine⟨λW=>?_,⟨h1.2,Z.2⟩⟩;simp only[List.any_cons,Bool.or_eq_false_iff] at W;exact⟨h1.1 W.1,Z.1 W.2⟩
theorem pU {env:List (Nat×Nat×EV G)}{u:Value}{j c:Nat}{m:M}{z:Cz}(h:jd G P m z env a):jd G P m ⟨z.b,sb z.t j u⟩ (l8 j c env) a:=by
 intro e he;obtain⟨W,h0,rfl⟩:=Qy.1 he;have J:=h W h0;split
 ·show(EV.er W.2.2).Rel G P m _ (a.tmps.getD W.1 undef)
  cases hb:W.2.2 with
  |one b=>rw[hb] at J;exact(AV.rel_app J).2
  |tup asv=>rw[hb] at J;obtain⟨vs,k1,k2⟩:=J;exact⟨vs,k1,(zk k2).2⟩
 ·rename_i Z
  simp only[Bool.not_eq_true] at Z;cases hb:W.2.2 with
  |one b=>rw[hb] at J Z;exact(AV.rel_app J).1 Z
  |tup asv=>rw[hb] at J Z;obtain⟨vs,k1,k2⟩:=J;exact⟨vs,k1,(zk k2).1 Z⟩
theorem Ext.er {j:Nat}:Ext st.c st { st with env:=l8 j st.c st.env }:=
 ⟨λk hk e he h=>by
  obtain⟨Z,W,rfl⟩:=Qy.1 he;split at h
  ·simp only at h;omega
  ·rename_i ht
   rw[if_neg ht]
   exact⟨Z.2.1,h,W⟩,λk _ i s B J hs=>⟨s,hs,J⟩⟩
theorem AV.own_eq {q:AV G}{i:Nat}(h:q.own?=some i):q= .own i:=by
 cases q<;>simp[AV.own?] at h;rw[h]
theorem Bd {c:Ty}{q:AV G}{ys:List (c.den G)}{m:M}{z:Cz}{v:Value}{Lc:List (Nat×List Value)}{TL:List (Nat×Value)}(h1:LR G m st.L z.b Lc)(hS:S W0 m w (Lc++L0.l) TL){I2:TI P G t2}
  (J:q.Rel G P m z v) (h:Fv Γ (d7 st.L) c I2.T q=some ys):tW P (c.kd G) m w t2 v ys:=by
 unfold Fv at h;split at h
 ·rename_i W
  split at h
  ·rename_i s hs
   obtain⟨e,h⟩:=bB h;injection e with e
   subst e;subst h;obtain⟨rfl,k1,_⟩:=AV.s_rel hs J;exact Hg (TI.str W) k1
  ·cases h
 ·rename_i c0 W
  unfold IU at h;split at h
  ·rename_i i hi
   rw[AV.own_eq hi] at J;cases hB:d7 st.L i with
   |none=>simp[hB] at h
   | some B=>
    cases B with
    |arr c' nn xs=>
     simp only[hB] at h;obtain⟨e,h⟩:=bB h;injection e with e
     subst e;subst h;obtain⟨s,hs⟩:=gt hB;obtain⟨p',cs,j,g1,g2,g3,g4⟩:=h1.get hs;obtain⟨a0,Z,rfl⟩:=J;rw[g1] at Z;injection Z with Z;subst Z
     exact A4 hS (I2.sl W).hu (jt g2) g3.1
    |_=>simp[hB] at h
  ·exact sX hS (I2.sl W).hu (AV.as_rel h J)
 ·cases h
theorem Hy (hs:Sat G P δ n W0 L0 T0 m0 st a w)(hd:Q2 d n=true):TG G P δ n W0 L0 T0 m0 st (Fz Γ st t t2 x y d) ⟨some d,.call ⟨.builtin .append,#[x,y],#[t,t2]⟩,ty,pos,aft,g⟩ a w:=by
 obtain⟨⟨m,z,h0,hr,Z⟩,hdf,hsz⟩:=hs;have a9:=Z.len;obtain⟨Lc,Tc,h1,h2,hS,a5⟩:=Z;unfold Fz;split
 ·rename_i I I2 p q _ _ hx hy
  obtain⟨l,hE,hl⟩:=dq hdf hsz [x,y];have a1:=hl x (by simp);have a3:=hl y (by simp);have hp:=aU (ez hr) hx;have J:=aU (ez hr) hy;split
  ·rename_i c B _
   have hN:Z1 (nx t8 B.by_*B.by_) 140737488355328=true:=Qa (yt t8 B.by_).1;have Z:Z1 (nx t8 B.by_) 281474976710656=true:=Qa (Nat.le_trans (yt t8 B.by_).2 (by decide));split
   ·rename_i ys a4
    split
    ·refine .two λzs a2=>?_
     have W:a.eval x= .slice none 0 0:=hp;rw[W] at a1;have a6:=hS.tail0 (c.kd G).sz;refine(wt hE a6 a1 a3 B.hu B.hel (i:=0) rfl c8 (Bd h1 hS J a4) a2 hN Z).imp λv w' J=>?_;obtain⟨m',h,a0,W⟩:=J;refine⟨Sat.of (z:=⟨z.b,v::z.t⟩) h0 h (hr.z h (Zle.pushT z v)) ⟨W,?_⟩ ⟨Lc,((c.kd G).sz,v)::Tc,h1.mono h,⟨rfl,h2⟩,a0,a5⟩ hd hdf hsz,(Ext.envL (st:=st) (st':={ st with T:=(c.kd G).sz::st.T }) rfl rfl).trans (Ext.put (st:={ st with T:=(c.kd G).sz::st.T })),rfl⟩;show fb (v::z.t) st.T.length=some v;rw[←a9.2];exact iN
    ·rename_i t' b1 j
     split
     ·rename_i xs hc
      obtain⟨e,hc⟩:=bB hc;subst e;subst hc;split
      ·rename_i hj
       refine .two λzs a2=>?_;obtain⟨i,k1,k2⟩:=h2.get hj hp.2;refine(wt hE hS a1 a3 B.hu B.hel (jt k1) hp.1 (Bd h1 hS J a4) a2 hN Z).imp λv w' J=>?_;obtain⟨m',h,a0,W⟩:=J;rw[kg k1] at a0;have b0:=pU (u:=v) (j:=j) (c:=st.c) hr;refine⟨Sat.of (z:=⟨z.b,sb z.t j v⟩) h0 h (λe he=>(b0 e he).mono h) ⟨W,mg hp.2⟩ ⟨Lc,_,h1.mono h,k2 v,a0,a5⟩ hd hdf hsz,Ext.er.trans (Ext.put (st:={ st with env:=l8 j st.c st.env })),rfl⟩
      ·exact .none
     ·exact .none
    ·exact .none
   ·exact .none
  ·exact .none
 ·exact .none
theorem FA {x y:Operand}{l:List (Nat×Value)}{p q:AV G}{k k':IntKind}{i W:Int}{m:M}{z:Cz}(h:Ca x y=true)(Z:evl l x=some (.int k i))(J:evl l y=some (.int k' W)):i=W:=by
 unfold Ca at h;split at h
 ·have:=Jn h
  subst this;rw[Z] at J;injection J with J;injection J
 ·have h:=of_decide_eq_true h
  subst h;simp only[evl,Option.some.injEq,Value.int.injEq] at Z J;omega
 ·cases h
theorem FB (hs:Sat G P δ n W0 L0 T0 m0 st a w)(hd:Q2 d n=true):TG G P δ n W0 L0 T0 m0 st (Cb Γ st t x y d) ⟨some d,.makeSlice t x y,ty,pos,aft,g⟩ a w:=by
 obtain⟨⟨m,z,h0,Z,hM⟩,hdf,hsz⟩:=hs;have a1:=hM.len;obtain⟨Lc,Tc,h1,h2,hS,a2⟩:=hM;unfold Cb;split
 ·rename_i I p q _ hx hy
  obtain⟨l,hE,hl⟩:=dq hdf hsz [x,y];have J:=hl x (by simp);have h:=hl y (by simp);have hp:=aU (ez Z) hx;have W:=aU (ez Z) hy;split
  ·rename_i c B k i k' i' _ e1 e2
   split
   ·rename_i a0
    refine .two λzs a3=>?_;rw[(AV.i_rel e1 hp).1] at J;rw[(AV.i_rel e2 W).1] at h;have:=FA (p:=p) (q:=q) (m:=m) (z:=z) a0 J h;subst this;refine(yQ (m:=m) hE hS J h B.hu B.hi B.hiz B.hsz B.hby B.hzR a3 (Qa (yt B9 B.by_).1) (Qa (yt B9 B.by_).2)).imp λv w' W=>?_;obtain⟨b,cs,hg,a4⟩:=W;have hB:(BC.arr c none zs).Rel G m (b,v) cs:=⟨hg,trivial⟩
    exact⟨Sat.of h0 (Q8 m) (Z.z (Q8 m) (Zle.pushB z _)) ⟨_,by rw[←a1.1];exact iN,rfl⟩ (fk.push h1 h2 a4 a2 hB) hd hdf hsz,Ext.push_put,rfl⟩
   ·exact .none
  ·exact .none
 ·exact .none
theorem FC (hs:Sat G P δ n W0 L0 T0 m0 st a w)(hd:Q2 d n=true):TG G P δ n W0 L0 T0 m0 st (Cc Γ st t x y d) ⟨some d,.call ⟨.builtin .copy,#[x,y],#[t,t2]⟩,ty,pos,aft,g⟩ a w:=by
 obtain⟨⟨m,z,h0,hr,hM⟩,hdf,hsz⟩:=hs;obtain⟨Lc,Tc,h1,h2,hS,a3⟩:=hM;unfold Cc;split
 ·rename_i I i q _ hx hy
  obtain⟨l,hE,hl⟩:=dq hdf hsz [x,y];have a0:=hl x (by simp);have a2:=hl y (by simp);have hp:=aU (ez hr) hx;have hq:=aU (ez hr) hy;split
  ·rename_i c B c' nn a6 _ hB
   split
   ·rename_i xs ys W e2
    obtain⟨e,W⟩:=bB W;injection e with e
    subst e;subst W;obtain⟨s,hs⟩:=gt hB;obtain⟨Z,cs,j,g1,g2,J,g4⟩:=h1.get hs;obtain⟨a9,h,g6⟩:=hp;rw[g1] at h;injection h with h;subst h
    rw[g6] at a0;refine .one ((yS hE hS a0 a2 B.hu B.hs (jt g2) J.1 (AV.as_rel e2 hq)).imp λv w' hq=>?_);obtain⟨rfl,cs',a1,a5⟩:=hq
    have a4:(BC.arr c' nn (cpy (O:=c'.den G) _ ys)).Rel G m (Z.1,Z.2) cs':=⟨a1,by
     have:=J.2;cases nn with
     |none=>trivial
     |some k=>
      have hh:=GS.len_eq J.1 a1
      exact hh.trans this⟩
    have:=g4 (st.c,_) Z.2 cs' a4;rw[jr g1] at this;exact⟨Sat.of h0 (Q8 m) hr (cE (P:=P) (dR (Nat.le_trans (Nat.min_le_right _ _) (GS.len J.1)))) ⟨_,Tc,this,h2,by rw[←kg g2];exact a5,a3⟩ hd hdf hsz,Ext.setB.trans (Ext.put (st:=st.setB i _)),rfl⟩
   ·exact .none
  ·exact .none
 ·exact .none
theorem Hz {o:Op}{dst:Option Nat}(h:Sat G P δ n W0 L0 T0 m0 st a w)(J:∀d,dst=some d->Q2 d n=true):TG G P δ n W0 L0 T0 m0 st (zj Γ st o dst) ⟨dst,o,ty,pos,aft,g⟩ a w:=by
 unfold zj;split
 ·exact DD h (J _ rfl)
 ·exact Hw h (J _ rfl)
 ·exact DE h
 ·exact Hx h (J _ rfl)
 ·exact Hy h (J _ rfl)
 ·exact FC h (J _ rfl)
 ·exact FB h (J _ rfl)
 ·exact .none
end
section
variable {G:Sg}{P:Program}
def EV.isOwn (i:Nat):EV G->Bool
 | .one (.own j)=>Q9 i j
 |_=>false
def frz (st:St G)(i:Nat):St G:=
 match d7 st.L i with
 |some (.arr c none xs)=>{ st with env:=st.env.map λe=>if e.2.2.isOwn i then (e.1,st.c,.one (.dat (.sl c) xs none)) else e,L:=sb st.L i (st.c,.gone) }
 |_=>st
def rK (st:St G)(x:Operand):St G:=
 match av? (st.op x) with
 |some (.own i)=>frz st i
 |_=>st
def rL:List Pm->List Operand->St G->St G
 | .rd _::ps,x::xs,st=>rL ps xs (rK st x)
 |_::ps,_::xs,st=>rL ps xs st
 |_,_,st=>st
def gD (Γ:Tab P G):(ps:List Pm)->List Operand->St G->Option (cU G ps×St G×List (Nat×Option Nat))
 |[],[],st=>some ((),st,[])
 | .rd t::ps,x::xs,st=>(match gD Γ ps xs st with
  |some (y,st',bk)=>(match av? (st'.op x) with
   |some b=>(match b.as Γ t with|some u=>some ((u,y),st',bk)|none=>none)
   |none=>none)
  |none=>none)
 | .ap t::ps,x::xs,st=>(match gD Γ ps xs st with
  | some (y,st',bk)=>(match av? (st'.op x) with
   |some .nils=>some (([],y),st',bk)
   |some (.dat t' u (some j))=>(match cT G t' (.sl t) u with
    |some u=>if fb st'.T j=some (t.kd G).sz then some ((u,y),{ st' with env:=l8 j st'.c st'.env },bk) else none
    |none=>none)
   |_=>none)
  |none=>none)
 | .pt t::ps,x::xs,st=>(match gD Γ ps xs st with
  | some (y,st',bk)=>(match av? (st'.op x) with
   |some (.blk i)=>(match d7 st'.L i with
    |some (.dat c u)=>(match cT G c t u with|some u=>some ((u,y),st'.setB i .gone,(i,none)::bk)|none=>none)
    |_=>none)
   |_=>none)
  |none=>none)
 | .ow t::ps,x::xs,st=>(match gD Γ ps xs st with
  | some (y,st',bk)=>(match av? (st'.op x) with
   |some (.own i)=>(match d7 st'.L i with
    |some (.arr c n u)=>(match cT G (.sl c) (.sl t) u with|some u=>some ((u,y),st'.setB i .gone,(i,n)::bk)|none=>none)
    |_=>none)
   |_=>none)
  |none=>none)
 | .f1 a b::ps,x::xs,st=>(match gD Γ ps xs st with
  |some (y,st',bk)=>(match av? (st'.op x) with
   |some (.fn1 a' b' f)=>if h:a'=a/\b'=b then some ((h.1 ▸ h.2 ▸ f,y),st',bk) else none
   |_=>none)
  |none=>none)
 | .f2 a c b::ps,x::xs,st=>(match gD Γ ps xs st with
  |some (y,st',bk)=>(match av? (st'.op x) with
   |some (.fn2 a' c' b' f)=>if h:a'=a/\c'=c/\b'=b then some ((h.1 ▸ h.2.1 ▸ h.2.2 ▸ f,y),st',bk) else none
   |_=>none)
  |none=>none)
 |_,_,_=>none
def ir (G:Sg):(ps:List Pm)->List (Nat×Option Nat)->aZ G (ps.filterMap Pm.out)->St G->St G
 | .pt t::ps,(i,_)::bk,x,st=>ir G ps bk (tlT G t (ps.filterMap Pm.out) x) (st.setB i (.dat t (hdT G t (ps.filterMap Pm.out) x)))
 | .ow t::ps,(i,n)::bk,x,st=>ir G ps bk (tlT G (.sl t) (ps.filterMap Pm.out) x) (st.setB i (.arr t n (hdT G (.sl t) (ps.filterMap Pm.out) x)))
 | .rd _::ps,bk,x,st=>ir G ps bk x st
 | .ap _::ps,bk,x,st=>ir G ps bk x st
 | .f1 _ _::ps,bk,x,st=>ir G ps bk x st
 | .f2 _ _ _::ps,bk,x,st=>ir G ps bk x st
 |_,_,_,st=>st
def lE (G:Sg)(os:List Ty):(rs:List Rm)->aZ G (rs.map Rm.ty++os)->St G->List (AV G)×St G
 |[],_,st=>([],st)
 | .rd t::rs,x,st=>match lE G os rs (tlT G t (rs.map Rm.ty++os) x) st with|(asv,st')=>(.dat t (hdT G t (rs.map Rm.ty++os) x) none::asv,st')
 | .ap t::rs,x,st=>match lE G os rs (tlT G (.sl t) (rs.map Rm.ty++os) x) st with|(asv,st')=>(.dat (.sl t) (hdT G (.sl t) (rs.map Rm.ty++os) x) (some st'.T.length)::asv,{ st' with T:=(t.kd G).sz::st'.T })
 | .ow t::rs,x,st=>match lE G os rs (tlT G (.sl t) (rs.map Rm.ty++os) x) st with|(asv,st')=>(.own st'.L.length::asv,st'.push (.arr t none (hdT G (.sl t) (rs.map Rm.ty++os) x)))
def evs:List (AV G)->EV G
 |[b]=> .one b
 |asv=> .tup asv
def vp:List (CS P G)->FuncId->Option (CS P G)
 |[],_=>none
 |c::D,f=>if Q9 c.f f then some c else vp D f
def s7 (C:CS P G)(st':St G)(h:List (Nat×Option Nat))(d:Option Nat)(r:aZ G (fm C.ps C.rs)):St G:=
 match lE G (C.ps.filterMap Pm.out) C.rs r (ir G C.ps h (rest G (C.ps.filterMap Pm.out) C.rs r) st') with
 |(asv,st2)=>match d with|some d=>st2.put d (evs asv)|none=>st2
def Cd (Γ:Tab P G)(D:List (CS P G))(st:St G)(f:FuncId)(xs:List Operand)(d:Option Nat):Option (lD G):=
 match vp D f with
 |some C=>(match gD Γ C.ps xs (rL C.ps xs st) with
  |some (x,st',bk)=>two (C.g x) (s7 C st' bk d)
  |none=>none)
 |none=>none
def Ce (Γ:Tab P G)(st:St G)(x:Operand)(xs:List Operand)(d:Nat):Option (lD G):=
 match av? (st.op x),xs with
 |some (.fn1 a b f),[y]=>(match av? (st.op y) with
  |some p=>(match p.as Γ a with|some u=>two (f u) λr=>st.put d (.one (.dat b r none))|none=>none)
  |none=>none)
 |some (.fn2 a c b f),[y,y']=>(match av? (st.op y),av? (st.op y') with
  |some p,some p'=>(match p.as Γ a,p'.as Γ c with|some u,some u'=>two (f u u') λr=>st.put d (.one (.dat b r none))|_,_=>none)
  |_,_=>none)
 |_,_=>none
end
section
variable {G:Sg}{P:Program}{δ:List Nat}{n:Nat}{W0:Bse}{L0:Rs}{T0:List (Nat×Value)}{m0:M}{st:St G}{a:Act}{w:World}{Γ:Tab P G}{ty t t2:TypeId}{pos:String}{aft:Array Edge}{g:Option (Nat×Bool)}
theorem qU {O:Type}{A B C:List O}{j:Nat}{x y:O}(h:B[j]? =some y):(A++(B++C)).set (A.length+j) x=A++(B.set j x++C):=by
 rw[Z0 _ _ (by omega),Qi,kg h]
theorem qV {O:Type}{A B C:List O}{j:Nat}{y:O}(h:B[j]? =some y):(A++(B++C))[A.length+j]? =some y:=by
 rw[zw (by omega),Qi];exact jt h
structure MF (G:Sg)(P:Program)(W0:Bse)(L0:Rs)(T0:List (Nat×Value))(a:Act)(w:World)(m:M)(z:Cz)(st:St G)(Lp:List (Nat×List Value))(Tp:List (Nat×Value)):Prop where
 env:jd G P m z st.env a
 mem:∃Lc Tc,LR G m st.L z.b Lc/\TRl st.T z.t Tc/\S W0 m w (Lp++(Lc++L0.l)) (Tp++(Tc++T0))/\Sfx z.b L0.nm
theorem FE {m m':M}{z:Cz}{i:Nat}{c:Ty}{xs:List (c.den G)}{p:Nat×Value}{env:List (Nat×Nat×EV G)}{s:Nat}(hz:fb z.b i=some p)(hm:M.le m m')(hv:RV (kSl (c.kd G)) m' p.2 xs)(h:jd G P m z env a):
  jd G P m' z (env.map λe=>if e.2.2.isOwn i then (e.1,s,.one (.dat (.sl c) xs none)) else e) a:=by
 intro e he;obtain⟨Z,h0,rfl⟩:=Qy.1 he;have hr:=h Z h0;split
 ·rename_i J
  show(RV (kSl (c.kd G)) m' (a.tmps.getD Z.1 undef) xs)/\True;cases hb:Z.2.2 with
  |tup asv=>rw[hb] at J;simp[EV.isOwn] at J
  |one b=>
   rw[hb] at J hr;cases b<;>simp[EV.isOwn] at J;subst J;obtain⟨p',W,h2⟩:=hr;rw[hz] at W;injection W with W;subst W
   rw[h2];exact⟨hv,trivial⟩
 ·exact hr.mono hm
theorem IV {m:M}{z:Cz}{i:Nat}(h:MF G P W0 L0 T0 a w m z st [] []):∃m',M.le m m'/\MF G P W0 L0 T0 a w m' z (frz st i) [] []/\Ext st.c st (frz st i)/\(frz st i).c=st.c:=by
 unfold frz;split
 ·rename_i c xs hB
  obtain⟨hr,Lc,Tc,J,h2,hS,a3⟩:=h;obtain⟨s,hs⟩:=gt hB;obtain⟨p',cs,j,g1,g2,g3,g4⟩:=J.get hs;have a1:S W0 m w (Lc++L0.l) (Tc++T0):=hS;have a0:=S.takeL a1 (jt g2);rw[kg g2] at a0;obtain⟨m',Z,a2,hv⟩:=S.freeze a0 g3.1;refine⟨m',Z,⟨FE g1 Z hv hr,_,Tc,?_,h2,a2,a3⟩,?_,rfl⟩
  ·have:=(g4 (st.c,BC.gone) p'.2 [] rfl).mono Z
   rw[jr g1] at this;exact this
  ·refine⟨λk hk e he W=>?_,λk hk i s B hb hs=>?_⟩
   ·obtain⟨e0,h0,rfl⟩:=Qy.1 he
    split at W
    ·simp only at W;omega
    ·rename_i ho
     rw[if_neg ho];exact⟨e0.2.1,W,h0⟩
   ·rcases GJ hb with⟨_,J⟩|⟨_,h⟩
    ·injection J with J _;omega
    ·exact⟨s,hs,h⟩
 ·exact⟨m,Q8 m,h,Ext.refl _ _,rfl⟩
theorem Be {m:M}{z:Cz}{x:Operand}(h:MF G P W0 L0 T0 a w m z st [] []):∃m',M.le m m'/\MF G P W0 L0 T0 a w m' z (rK st x) [] []/\Ext st.c st (rK st x)/\(rK st x).c=st.c:=by
 unfold rK;split
 ·exact IV h
 ·exact⟨m,Q8 m,h,Ext.refl _ _,rfl⟩
theorem uI {m:M}{z:Cz}:∀{ps:List Pm} {xs:List Operand} {st:St G} {m:M},MF G P W0 L0 T0 a w m z st [] []->∃m',M.le m m'/\MF G P W0 L0 T0 a w m' z (rL ps xs st) [] []/\Ext st.c st (rL ps xs st)/\(rL ps xs st).c=st.c:=by
 intro ps
 induction ps with
 |nil=>intro xs st m h;cases xs<;>exact⟨m,Q8 m,h,Ext.refl _ _,rfl⟩
 | cons p ps ih=>
  intro xs st m h;cases xs with
  |nil=>cases p<;>exact⟨m,Q8 m,h,Ext.refl _ _,rfl⟩
  | cons x xs=>
   cases p with
   |rd t=>
    obtain⟨m1,h1,h2,h3,h4⟩:=Be (x:=x) h;obtain⟨Z,k1,k2,J,W⟩:=ih (xs:=xs) h2;rw[h4] at J W;exact⟨Z,h1.trans k1,k2,h3.trans J,W⟩
   |_=>exact ih h
def BK (G:Sg)(z:Cz)(Ls:List (Nat×BC G)):List Pm->List (Nat×Option Nat)->List Value->List (Nat×List Value)->Prop
 |[],[],_,[]=>True
 | .pt t::ps,(i,_)::bk,v::vs,e::Lp=>(∃sv s,fb z.b i=some (e.1,sv)/\fb Ls i=some (s,.gone))/\(∀q∈bk,q.1≠i)/\BK G z Ls ps bk vs Lp
 | .ow t::ps,(i,n)::bk,v::vs,e::Lp=>(∃s,fb z.b i=some (e.1,v)/\fb Ls i=some (s,.gone))/\(∀q∈bk,q.1≠i)/\(∃m cs,∃xs:List (t.den G),GS (t.kd G) m e.1 cs v xs/\(match n with|none=>True|some k=>xs.length=k))/\BK G z Ls ps bk vs Lp
 | .rd _::ps,bk,_::vs,Lp=>BK G z Ls ps bk vs Lp
 | .ap _::ps,bk,_::vs,Lp=>BK G z Ls ps bk vs Lp
 | .f1 _ _::ps,bk,_::vs,Lp=>BK G z Ls ps bk vs Lp
 | .f2 _ _ _::ps,bk,_::vs,Lp=>BK G z Ls ps bk vs Lp
 |_,_,_,_=>False
theorem BK.gone {z:Cz}{Ls:List (Nat×BC G)}:∀{ps:List Pm} {W:List (Nat×Option Nat)} {vs:List Value} {Lp:List (Nat×List Value)},BK G z Ls ps W vs Lp->∀q∈W,∃s,fb Ls q.1=some (s,.gone):=by
 intro ps
 induction ps with
 |nil=>intro W vs Lp h q J;cases W with|nil=>cases J|cons b W=>exact h.elim
 | cons p ps ih=>
  intro W vs Lp h q J;cases p with
  | pt t=>
   cases W with
   |nil=>cases J
   | cons b W=>
    cases vs with
    |nil=>exact h.elim
    | cons v vs=>
     cases Lp with
     |nil=>exact h.elim
     |cons e Lp=>
      obtain⟨⟨sv,s,_,Z⟩,_,h2⟩:=h;rcases Q6.1 J with rfl|J
      ·exact⟨s,Z⟩
      ·exact ih h2 q J
  | ow t=>
   cases W with
   |nil=>cases J
   | cons b W=>
    cases vs with
    |nil=>exact h.elim
    | cons v vs=>
     cases Lp with
     |nil=>exact h.elim
     |cons e Lp=>
      obtain⟨⟨s,_,Z⟩,_,_,h2⟩:=h;rcases Q6.1 J with rfl|J
      ·exact⟨s,Z⟩
      ·exact ih h2 q J
  |_=>
   cases vs with
   |nil=>cases W<;>exact h.elim
   |cons v vs=>exact ih h q J
theorem BK.other {z:Cz}{Ls:List (Nat×BC G)}{i:Nat}{B:Nat×BC G}:∀{ps:List Pm} {J:List (Nat×Option Nat)} {vs:List Value} {Lp:List (Nat×List Value)},BK G z Ls ps J vs Lp->(∀q∈J,q.1≠i)->BK G z (sb Ls i B) ps J vs Lp:=by
 intro ps
 induction ps with
 |nil=>intro J vs Lp h _;cases J<;>cases Lp<;>first|exact h|exact h.elim
 | cons p ps ih=>
  intro J vs Lp h W;cases p with
  | pt t=>
   cases J with
   |nil=>cases vs<;>cases Lp<;>exact h.elim
   | cons b J=>
    cases vs with
    |nil=>exact h.elim
    | cons v vs=>
     cases Lp with
     |nil=>exact h.elim
     |cons e Lp=>
      obtain⟨⟨sv,s,h0,h1⟩,h2,h3⟩:=h;exact⟨⟨sv,s,h0,by rw[jb (λx=>W b (by simp) x.symm)];exact h1⟩,h2,ih h3 λq Z=>W q (by simp[Z])⟩
  | ow t=>
   cases J with
   |nil=>cases vs<;>cases Lp<;>exact h.elim
   | cons b J=>
    cases vs with
    |nil=>exact h.elim
    | cons v vs=>
     cases Lp with
     |nil=>exact h.elim
     |cons e Lp=>
      obtain⟨⟨s,h0,h1⟩,h2,h4,h3⟩:=h;exact⟨⟨s,h0,by rw[jb (λx=>W b (by simp) x.symm)];exact h1⟩,h2,h4,ih h3 λq Z=>W q (by simp[Z])⟩
  |_=>
   cases vs with
   |nil=>cases J<;>exact h.elim
   |cons v vs=>exact ih h W
theorem uJ {m:M} {z:Cz} (h:MF G P W0 L0 T0 a w m z st [] []):∀{ps:List Pm} {xs:List Operand} {y:cU G ps} {st':St G} {Z:List (Nat×Option Nat)},gD Γ ps xs st=some (y,st',Z)->
  ∃z' Lp Tp,z'.b=z.b/\MF G P W0 L0 T0 a w m z' st' Lp Tp/\jH G P m ps (xs.map a.eval) y Lp Tp/\BK G z' st'.L ps Z (xs.map a.eval) Lp/\Ext st.c st st'/\st'.c=st.c:=by
 intro ps
 induction ps with
 | nil=>
  intro xs y st' Z J;cases xs with
  |cons x xs=>simp[gD] at J
  |nil=>
   simp only[gD,Option.some.injEq,Prod.mk.injEq] at J;obtain⟨_,rfl,rfl⟩:=J;exact⟨z,[],[],rfl,h,trivial,trivial,Ext.refl _ _,rfl⟩
 | cons p ps ih=>
  intro xs y st' Z J;cases xs with
  |nil=>cases p<;>simp[gD] at J
  | cons x xs=>
   cases hr:gD Γ ps xs st with
   |none=>cases p<;>simp[gD,hr] at J
   | some q =>
    obtain⟨y1,a0,a6⟩:=q;obtain⟨z1,Lp,Tp,hz,hM,hP,hK,hx,hc⟩:=ih hr;obtain⟨hE,Lc,Tc,h1,h2,hS,a3⟩:=hM;have a2:∀b,av? (a0.op x)=some b->b.Rel G P m z1 (a.eval x):=λb W=>aU (ez hE) W;cases p with
    | rd t=>
     simp only[gD,hr] at J;split at J
     ·rename_i b W
      split at J
      ·rename_i u hu
       simp only[Option.some.injEq,Prod.mk.injEq] at J;obtain⟨rfl,rfl,rfl⟩:=J;exact⟨z1,Lp,Tp,hz,⟨hE,Lc,Tc,h1,h2,hS,a3⟩,⟨AV.as_rel hu (a2 b W),hP⟩,hK,hx,hc⟩
      ·cases J
     ·cases J
    | ap t =>
     simp only[gD,hr] at J;split at J
     ·rename_i W
      simp only[Option.some.injEq,Prod.mk.injEq] at J;obtain⟨rfl,rfl,rfl⟩:=J;have hv:a.eval x= .slice none 0 0:=a2 _ W;refine⟨z1,Lp,((t.kd G).sz,.slice none 0 0)::Tp,hz,⟨hE,Lc,Tc,h1,h2,hS.tail0 _,a3⟩,?_,hK,hx,hc⟩;show RV _ m (a.eval x) _/\_/\_;rw[hv];exact⟨c8,rfl,hP⟩
     ·rename_i t' u j W
      split at J
      ·rename_i u' hu
       obtain⟨e,hu⟩:=bB hu;subst e;subst hu;split at J
       ·rename_i hj
        simp only[Option.some.injEq,Prod.mk.injEq] at J;obtain⟨rfl,rfl,rfl⟩:=J;have hv:=a2 _ W;obtain⟨i,k1,k2⟩:=h2.get hj hv.2;have a1:=S.takeT hS (qV k1);rw[qU k1] at a1;refine⟨⟨z1.b,sb z1.t j (.slice none 0 0)⟩,Lp,((t.kd G).sz,a.eval x)::Tp,hz,⟨pU hE,Lc,_,h1,k2 _,a1,a3⟩,⟨hv.1,rfl,hP⟩,?_,hx.trans ?_,hc⟩
        ·show BK G _ a0.L ps _ _ Lp
         clear hP hr;revert hK
         have:∀{ps:List Pm} {Z:List (Nat×Option Nat)} {vs:List Value} {Lp:List (Nat×List Value)},BK G z1 a0.L ps Z vs Lp->BK G ⟨z1.b,sb z1.t j (.slice none 0 0)⟩ a0.L ps Z vs Lp:=by
          intro ps
          induction ps with
          |nil=>intro Z vs Lp h;cases Z<;>cases Lp<;>first|exact h|exact h.elim
          | cons p ps ih=>
           intro Z vs Lp h;cases p with
           |pt t=>
            cases Z<;>cases vs<;>cases Lp<;>first|exact h.elim|exact⟨h.1,h.2.1,ih h.2.2⟩
           |ow t=>
            cases Z<;>cases vs<;>cases Lp<;>first|exact h.elim|exact⟨h.1,h.2.1,h.2.2.1,ih h.2.2.2⟩
           |_=>
            cases vs with
            |nil=>cases Z<;>exact h.elim
            |cons v vs=>exact ih h
         exact this
        ·have:=Ext.er (st:=a0) (j:=j)
         rw[hc] at this ⊢;exact this
       ·cases J
      ·cases J
     ·cases J
    | pt t=>
     simp only[gD,hr] at J;split at J
     ·rename_i i W
      split at J
      ·rename_i c u hB
       split at J
       ·rename_i u' hu
        obtain⟨e,hu⟩:=bB hu;subst e;subst hu;simp only[Option.some.injEq,Prod.mk.injEq] at J;obtain⟨rfl,rfl,rfl⟩:=J;obtain⟨p,g5,g6⟩:=a2 _ W;obtain⟨s,hs⟩:=gt hB;obtain⟨p',cs,j,g1,g2,g3,g4⟩:=h1.get hs;rw[g1] at g5;injection g5 with g5;subst g5
        have a1:=S.takeL hS (qV g2);rw[qU g2] at a1;have hL:=g4 (a0.c,BC.gone) p'.2 [] rfl;rw[jr g1] at hL
        have a4:∀q∈a6,q.1≠i:=λq hq e=>by
         obtain⟨s',hg⟩:=hK.gone q hq;rw[e,hs] at hg;injection hg with hg;injection hg with _ hg;cases hg
        refine⟨z1,(p'.1,cs)::Lp,Tp,hz,⟨hE,_,Tc,hL,h2,a1,a3⟩,⟨g3,g6,hP⟩,⟨⟨p'.2,a0.c,g1,mg hs⟩,a4,hK.other a4⟩,hx.trans ?_,hc⟩;have:=Ext.setB (st:=a0) (i:=i) (B:= .gone);rw[hc] at this;exact this
       ·cases J
      ·cases J
     ·cases J
    | ow t=>
     simp only[gD,hr] at J;split at J
     ·rename_i i W
      split at J
      ·rename_i c nn u hB
       split at J
       ·rename_i u' hu
        obtain⟨e,hu⟩:=bB hu;injection e with e
        subst e;subst hu;simp only[Option.some.injEq,Prod.mk.injEq] at J;obtain⟨rfl,rfl,rfl⟩:=J;obtain⟨p,g5,g6⟩:=a2 _ W;obtain⟨s,hs⟩:=gt hB;obtain⟨p',cs,j,g1,g2,g3,g4⟩:=h1.get hs;rw[g1] at g5;injection g5 with g5;subst g5
        have a1:=S.takeL hS (qV g2);rw[qU g2] at a1;have hL:=g4 (a0.c,BC.gone) p'.2 [] rfl;rw[jr g1] at hL
        have a4:∀q∈a6,q.1≠i:=λq hq e=>by
         obtain⟨s',hg⟩:=hK.gone q hq;rw[e,hs] at hg;injection hg with hg;injection hg with _ hg;cases hg
        have a5:=g3.1;rw[←g6] at a5;refine⟨z1,(p'.1,cs)::Lp,Tp,hz,⟨hE,_,Tc,hL,h2,a1,a3⟩,⟨a5,hP⟩,⟨⟨a0.c,by rw[g1,g6],mg hs⟩,a4,⟨m,cs,_,a5,g3.2⟩,hK.other a4⟩,hx.trans ?_,hc⟩;have:=Ext.setB (st:=a0) (i:=i) (B:= .gone);rw[hc] at this;exact this
       ·cases J
      ·cases J
     ·cases J
    | f1 b c=>
     simp only[gD,hr] at J;split at J
     ·rename_i a' b' f W
      split at J
      ·rename_i hh
       obtain⟨rfl,rfl⟩:=hh;simp only[Option.some.injEq,Prod.mk.injEq] at J;obtain⟨rfl,rfl,rfl⟩:=J;exact⟨z1,Lp,Tp,hz,⟨hE,Lc,Tc,h1,h2,hS,a3⟩,⟨a2 _ W,hP⟩,hK,hx,hc⟩
      ·cases J
     ·cases J
    | f2 b c d=>
     simp only[gD,hr] at J;split at J
     ·rename_i a' c' b' f W
      split at J
      ·rename_i hh
       obtain⟨rfl,rfl,rfl⟩:=hh;simp only[Option.some.injEq,Prod.mk.injEq] at J;obtain⟨rfl,rfl,rfl⟩:=J;exact⟨z1,Lp,Tp,hz,⟨hE,Lc,Tc,h1,h2,hS,a3⟩,⟨a2 _ W,hP⟩,hK,hx,hc⟩
      ·cases J
     ·cases J
end
section
variable {G:Sg}{P:Program}{δ:List Nat}{n:Nat}{W0:Bse}{L0:Rs}{T0:List (Nat×Value)}{m0:M}{st:St G}{a:Act}{w:World}{Γ:Tab P G}{ty t t2:TypeId}{pos:String}{aft:Array Edge}{g:Option (Nat×Bool)}
theorem HA {L0:List (Nat×List Value)} {m:M} {z:Cz} {TL:List (Nat×Value)}:∀{ps:List Pm} {J:List (Nat×Option Nat)} {vs:List Value} {Lp Lp' Lc:List (Nat×List Value)} {x:aZ G (ps.filterMap Pm.out)} {st:St G},BK G z st.L ps J vs Lp->gH G m ps vs x Lp Lp'->LR G m st.L z.b Lc->S W0 m w (Lp'++(Lc++L0)) TL->
  ∃a0,LR G m (ir G ps J x st).L z.b a0/\S W0 m w (a0++L0) TL/\(ir G ps J x st).env=st.env/\(ir G ps J x st).T=st.T/\(ir G ps J x st).c=st.c/\Ext st.c st (ir G ps J x st):=by
 intro ps
 induction ps with
 |nil=>
  intro J vs Lp Lp' Lc x st h W hL hS;cases J<;>cases Lp<;>cases Lp'<;>first|exact h.elim|exact W.elim|exact⟨Lc,hL,hS,rfl,rfl,rfl,Ext.refl _ _⟩
 | cons p ps ih=>
  intro J vs Lp Lp' Lc x st h W hL hS;cases p with
  | pt t=>
   cases J with
   |nil=>cases vs<;>cases Lp<;>exact h.elim
   | cons b J=>
    cases vs with
    |nil=>exact h.elim
    | cons v vs=>
     cases Lp with
     |nil=>exact h.elim
     | cons e Lp=>
      cases Lp' with
      |nil=>exact W.elim
      |cons e' Lp'=>
       obtain⟨⟨sv,s,k1,k2⟩,hne,h⟩:=h;obtain⟨o1,o2,W⟩:=W;obtain⟨p',cs,j,Z,g2,g3,g4⟩:=hL.get k2;rw[k1] at Z;injection Z with Z;subst Z
       have a3:cs=[]:=g3;subst a3;have hB:(BC.dat t (hdT G t (ps.filterMap Pm.out) x)).Rel G m (e.1,sv) e'.2:=o2;have a1:=g4 (st.c,_) sv e'.2 hB;rw[jr k1] at a1;have a4:S W0 m w (e'::(Lp'++(Lc++L0))) TL:=hS;have a2:=S.putL a4 (qV g2);rw[qU g2,show e'=(e.1,e'.2) from by rw[←o1]] at a2;obtain⟨a0,r1,r2,r3,r4,r5,r6⟩:=ih (st:=st.setB b.1 (.dat t (hdT G t (ps.filterMap Pm.out) x))) (h.other hne) W a1 a2;exact⟨a0,r1,r2,r3,r4,r5,Ext.setB.trans r6⟩
  | ow t=>
   cases J with
   |nil=>cases vs<;>cases Lp<;>exact h.elim
   | cons b J=>
    cases vs with
    |nil=>exact h.elim
    | cons v vs=>
     cases Lp with
     |nil=>exact h.elim
     | cons e Lp=>
      cases Lp' with
      |nil=>exact W.elim
      | cons e' Lp'=>
       obtain⟨⟨s,k1,k2⟩,hne,⟨mm,a5,xs,k3,k4⟩,h⟩:=h;obtain⟨o1,o2,W⟩:=W;obtain⟨p',cs,j,Z,g2,g3,g4⟩:=hL.get k2;rw[k1] at Z;injection Z with Z;subst Z
       have a3:cs=[]:=g3;subst a3;rw[o1] at o2
       have hB:(BC.arr t b.2 (hdT G (.sl t) (ps.filterMap Pm.out) x)).Rel G m (e.1,v) e'.2:=⟨o2,by
        revert k4;cases b.2 with
        |none=>intro _;trivial
        |some k=>intro k4;exact(GS.len_eq k3 o2).trans k4⟩
       have a1:=g4 (st.c,_) v e'.2 hB;rw[jr k1] at a1;have a4:S W0 m w (e'::(Lp'++(Lc++L0))) TL:=hS;have a2:=S.putL a4 (qV g2);rw[qU g2,show e'=(e.1,e'.2) from by rw[←o1]] at a2;obtain⟨a0,r1,r2,r3,r4,r5,r6⟩:=ih (st:=st.setB b.1 (.arr t b.2 (hdT G (.sl t) (ps.filterMap Pm.out) x))) (h.other hne) W a1 a2;exact⟨a0,r1,r2,r3,r4,r5,Ext.setB.trans r6⟩
  |_=>
   cases vs with
   |nil=>cases J<;>exact h.elim
   |cons v vs=>exact ih h W hL hS
theorem Zle.trans {J z2 W:Cz}(h:Zle J z2)(k:Zle z2 W):Zle J W:=⟨λi p hp=>k.b i p (h.b i p hp),λj v Z=>k.t j v (h.t j v Z)⟩
theorem nj.z {m:M}{z z':Cz}{J:List (AV G)}{vs:List Value}(h:nj G P m z J vs)(W:Zle z z'):nj G P m z' J vs:=by
 induction J generalizing vs with
 |nil=>cases vs<;>exact h
 |cons b J ih=>
  cases vs with
  |nil=>exact h
  |cons v vs=>exact⟨h.1.z W,ih h.2⟩
theorem IW {os:List Ty}{m:M}:∀{rs:List Rm} {us:List Value} {x:aZ G (rs.map Rm.ty++os)} {Lr:List (Nat×List Value)} {Tr:List (Nat×Value)} {st:St G} {z:Cz} {Lc:List (Nat×List Value)} {Tc:List (Nat×Value)},lC G m os rs us x Lr Tr->LR G m st.L z.b Lc->TRl st.T z.t Tc->
  ∃z',Zle z z'/\LR G m (lE G os rs x st).2.L z'.b (Lr++Lc)/\TRl (lE G os rs x st).2.T z'.t (Tr++Tc)/\nj G P m z' (lE G os rs x st).1 us/\(lE G os rs x st).2.env=st.env/\(lE G os rs x st).2.c=st.c/\Ext st.c st (lE G os rs x st).2/\∀{s:List (Nat×Value)},Sfx z.b s->Sfx z'.b s:=by
 intro rs
 induction rs with
 |nil=>
  intro us x Lr Tr st z Lc Tc h h1 h2;cases us<;>cases Lr<;>cases Tr<;>first|exact h.elim|exact⟨z,Zle.refl z,h1,h2,trivial,rfl,rfl,Ext.refl _ _,λh=>h⟩
 | cons r rs ih=>
  intro us x Lr Tr st z Lc Tc h h1 h2;cases us with
  |nil=>cases r<;>exact h.elim
  | cons u us=>
   cases r with
   |rd t=>
    obtain⟨k1,k2⟩:=h;obtain⟨z',r1,r2,Z,r4,r5,W,J,r8⟩:=ih k2 h1 h2;exact⟨z',r1,r2,Z,⟨⟨k1,trivial⟩,r4⟩,r5,W,J,r8⟩
   | ap t=>
    cases Tr with
    |nil=>exact h.elim
    | cons e Tr=>
     obtain⟨k1,rfl,k2⟩:=h;obtain⟨z',r1,r2,Z,r4,r5,W,J,r8⟩:=ih k2 h1 h2;have hz:=Zle.pushT z' u;refine⟨⟨z'.b,u::z'.t⟩,r1.trans hz,r2,⟨rfl,Z⟩,⟨⟨k1,?_⟩,r4.z hz⟩,r5,W,?_,r8⟩
     ·show fb (u::z'.t) _=some u
      rw[←Z.len.1];exact iN
     ·rw[←W] at J ⊢
      exact J.trans (Ext.envL (st:=(lE G os rs _ st).2) rfl rfl)
   | ow t=>
    cases Lr with
    |nil=>exact h.elim
    | cons e Lr=>
     obtain⟨k1,k2⟩:=h;obtain⟨z',r1,r2,Z,r4,r5,W,J,r8⟩:=ih k2 h1 h2;have hz:=Zle.pushB z' (e.1,u);refine⟨⟨(e.1,u)::z'.b,z'.t⟩,r1.trans hz,⟨rfl,⟨k1,trivial⟩,r2⟩,Z,⟨⟨(e.1,u),?_,rfl⟩,r4.z hz⟩,r5,W,?_,λh=>(r8 h).cons⟩
     ·rw[←r2.len.1];exact iN
     ·rw[←W] at J ⊢
      exact J.trans Ext.push
theorem Bf {m:M}{z:Cz}{J:List (AV G)}{us:List Value}(h:nj G P m z J us):(evs J).Rel G P m z (tup us):=by
 match J,us,h with
 |[],[],_=>exact⟨[],rfl,trivial⟩
 |[b],[u],h=>exact h.1
 |b::b'::J,u::u'::us,h=>exact⟨_,rfl,h⟩
 |[b],[],h=>exact h.elim
 |[b],_::_::_,h=>exact h.2.elim
 |[],_::_,h=>exact h.elim
 |_::_::_,[],h=>exact h.elim
 |_::_::_,[_],h=>exact h.2.elim
theorem Bg {D:List (CS P G)}{f:FuncId}{C:CS P G}(h:vp D f=some C):C.f=f:=by
 induction D with
 |nil=>cases h
 | cons c D ih=>
  simp only[vp] at h;split at h
  ·rename_i J
   injection h with h;subst h
   exact Jn J
  ·exact ih h
theorem rM {l:List (Nat×Value)}{a:Act}{xs:List Operand}(h:∀x∈xs,evl l x=some (a.eval x)):qt l xs.toArray=some (xs.map a.eval):=by
 unfold qt;simp only
 induction xs with
 |nil=>rfl
 |cons x xs ih=>simp[h x (by simp),ih λy J=>h y (by simp[J])]
theorem FF {D:List (CS P G)}{f:FuncId}{xs:List Operand}{a4:Array TypeId}{d:Option Nat}(hs:Sat G P δ n W0 L0 T0 m0 st a w)(hd:∀e,d=some e->Q2 e n=true):
  TG G P δ n W0 L0 T0 m0 st (Cd Γ D st f xs d) ⟨d,.call ⟨.value (.func f),xs.toArray,a4⟩,ty,pos,aft,g⟩ a w:=by
 obtain⟨⟨m,z,h0,hr,hM⟩,hdf,hsz⟩:=hs;obtain⟨Lc,Tc,h1,h2,hS,c3⟩:=hM;unfold Cd;split
 ·rename_i C hC
  have hf:=Bg hC;subst hf;obtain⟨m1,a9,hF,b5,b2⟩:=uI (G:=G) (P:=P) (L0:=L0) (T0:=T0) (ps:=C.ps) (xs:=xs) (st:=st) (m:=m) (z:=z) ⟨hr,Lc,Tc,h1,h2,hS,c3⟩;split
  ·rename_i y st' W h
   obtain⟨z',Lp,Tp,hz,c2,hP,hK,hx,hc⟩:=uJ hF h;obtain⟨b4,J,a1,k1,k2,c6,c7⟩:=c2;refine .two λr c0=>?_;have b6:=C.ok W0 m1 w (J++L0.l) (a1++T0) (xs.map a.eval) y r Lp Tp c6 hP c0;obtain⟨l,hE,hl⟩:=dq hdf hsz xs
   have b7:∀v w',(∃(m':M) (us:List Value) (Lr Lp':List (Nat×List Value)) (Tr:List (Nat×Value)),M.le m1 m'/\S W0 m' w' (Lr++(Lp'++(J++L0.l))) (Tr++(a1++T0))/\v=tup us/\lC G m' (C.ps.filterMap Pm.out) C.rs us r Lr Tr/\gH G m' C.ps (xs.map a.eval) (rest G (C.ps.filterMap Pm.out) C.rs r) Lp Lp')->
     Sat G P δ n W0 L0 T0 m0 (s7 C st' W d r) (a.put d v) w'/\Ext st.c st (s7 C st' W d r)/\(s7 C st' W d r).c=st.c:=by
    rintro v w' ⟨m',us,Lr,Lp',Tr,a2,b3,rfl,hR,hO⟩
    have d0:S W0 m' w' (Lp'++(J++(L0.l))) (Tr++(a1++T0)):=by
     have:=b3.dropL Lr.length;rw[List.drop_left] at this;exact this
    have c1:S W0 m' w' (Lp'++(J++(L0.l++Lr))) (Tr++(a1++T0)):=by
     refine b3.selL _ (λi=>if i<Lp'.length+J.length+L0.l.length then Lr.length+i else if i<Lp'.length+J.length+L0.l.length+Lr.length then i - (Lp'.length+J.length+L0.l.length) else i) (λi e h=>?_) (λi j Z=>?_)
     ·by_cases hi:i<Lp'.length+J.length+L0.l.length
      ·rw[if_pos hi,zw (by omega),Qi]
       rw[show Lp'++(J++(L0.l++Lr))=(Lp'++(J++L0.l))++Lr by simp,Q1 (by simp;omega)] at h;exact h
      ·rw[if_neg hi]
       rw[show Lp'++(J++(L0.l++Lr))=(Lp'++(J++L0.l))++Lr by simp,zw (by simp;omega)] at h;simp only[Qo] at h;have b1:i - (Lp'.length+(J.length+L0.l.length))<Lr.length:=(zh.1 h).1;rw[if_pos (by omega),Q1 (by omega),←Nat.add_assoc] at*;exact h
     ·split at Z<;>split at Z<;>(try split at Z)<;>(try split at Z)<;>omega
    obtain⟨a0,q1,q2,q3,q4,q5,q6⟩:=HA (L0:=L0.l++Lr) hK hO (k1.mono a2) c1;have c5:TRl (ir G C.ps W (rest G (C.ps.filterMap Pm.out) C.rs r) st').T z'.t a1:=by rw[q4];exact k2
    obtain⟨z2,p1,p2,p3,p4,p5,p6,p7,p8⟩:=IW (P:=P) hR q1 c5
    have c4:S W0 m' w' ((Lr++a0)++L0.l) ((Tr++a1)++T0):=by
     rw[Q3 Tr];refine q2.selL _ (λi=>if i<Lr.length then a0.length+L0.l.length+i else if i<Lr.length+a0.length+L0.l.length then i - Lr.length else i) (λi e h=>?_) (λi j Z=>?_)
     ·by_cases hi:i<Lr.length
      ·rw[if_pos hi]
       rw[Q3,Q1 hi] at h;rw[show a0++(L0.l++Lr)=(a0++L0.l)++Lr by simp,zw (by simp),Qo,Qi];exact h
      ·rw[if_neg hi]
       rw[Q3,zw (by omega)] at h;have b1:i - Lr.length<(a0++L0.l).length:=(zh.1 h).1;simp only[Qo] at b1;rw[if_pos (by omega),show a0++(L0.l++Lr)=(a0++L0.l)++Lr by simp,Q1 (by simp;omega)];exact h
     ·split at Z<;>split at Z<;>(try split at Z)<;>(try split at Z)<;>omega
    have a6:jd G P m' z2 (lE G (C.ps.filterMap Pm.out) C.rs r (ir G C.ps W (rest G (C.ps.filterMap Pm.out) C.rs r) st')).2.env a:=by
     rw[p5,q3];exact b4.z a2 p1
    have hX:Ext st.c st (lE G (C.ps.filterMap Pm.out) C.rs r (ir G C.ps W (rest G (C.ps.filterMap Pm.out) C.rs r) st')).2:=by
     rw[b2] at hx hc;rw[hc] at q5 q6;rw[q5] at p7;exact b5.trans (hx.trans (q6.trans p7))
    have a5:(lE G (C.ps.filterMap Pm.out) C.rs r (ir G C.ps W (rest G (C.ps.filterMap Pm.out) C.rs r) st')).2.c=st.c:=by rw[p6,q5,hc,b2]
    have b0:fk G W0 L0 T0 (lE G (C.ps.filterMap Pm.out) C.rs r (ir G C.ps W (rest G (C.ps.filterMap Pm.out) C.rs r) st')).2.L (lE G (C.ps.filterMap Pm.out) C.rs r (ir G C.ps W (rest G (C.ps.filterMap Pm.out) C.rs r) st')).2.T m' z2 w':=⟨_,_,p2,p3,c4,p8 c7⟩
    unfold s7;cases d with
    |none=>exact⟨Sat.of0 h0 (a9.trans a2) a6 b0 hdf hsz,hX,a5⟩
    |some d=>
     refine⟨Sat.of h0 (a9.trans a2) a6 (Bf p4) b0 (hd d rfl) hdf hsz,hX.trans ?_,a5⟩;rw[←a5];exact Ext.put
   have a3:aM P ⟨d,.call ⟨.value (.func C.f),xs.toArray,a4⟩,ty,pos,aft,g⟩ a w (λv w'=>∃(m':M) (us:List Value) (Lr Lp':List (Nat×List Value)) (Tr:List (Nat×Value)),M.le m1 m'/\S W0 m' w' (Lr++(Lp'++(J++L0.l))) (Tr++(a1++T0))/\v=tup us/\lC G m' (C.ps.filterMap Pm.out) C.rs us r Lr Tr/\gH G m' C.ps (xs.map a.eval) (rest G (C.ps.filterMap Pm.out) C.rs r) Lp Lp'):=by
    intro ro Kk Q hk
    have a3:(execOp a.eval ⟨d,.call ⟨.value (.func C.f),xs.toArray,a4⟩,ty,pos,aft,g⟩).run P w= .ok (.enter C.f (xs.map a.eval).toArray) w:=by
     simp[execOp,resolve,Act.eval,Deferred.ofValue,invoke,gW hE (rM hl),C.hc]
    refine pO a3 (b6.mono λe w' h=>?_);cases e with
    |returned v=>exact hk v w' h
    |panicked ch=>exact h.elim
    |outgrown=>exact h.elim
   exact a3.imp b7
  ·exact .none
 ·exact .none
end
section
variable {G:Sg}{P:Program}
def ua (n:Nat):Option Nat->Bool
 |some d=>Q2 d n
 |none=>true
def Cf (n:Nat)(Γ:Tab P G)(st:St G)(op:Op)(dst:Option Nat):Option (lD G):=
 match dst with
 |some d=>(match vm Γ st.op (d7 st.L) op with
  |some R=>some ⟨R.β,R.mv,λb=>st.put d (R.k b)⟩
  |none=>none)
 |none=>none
def vq (n:Nat)(Γ:Tab P G)(st:St G)(op:Op)(dst:Option Nat):Option (lD G):=
 match Cf n Γ st op dst with
 |some R=>some R
 |none=>zj Γ st op dst
def zl:List Operand->St G->St G
 |[],st=>st
 |x::xs,st=>zl xs (rK st x)
def zm (n:Nat)(Γ:Tab P G)(D:List (CS P G))(st:St G)(op:Op)(dst:Option Nat):Option (lD G):=
 match op with
 | .call ⟨.value (.func f),⟨xs⟩,_⟩=>Cd Γ D st f xs dst
 | .call ⟨.value x,⟨xs⟩,_⟩=>(match dst with|some d=>Ce Γ st x xs d|none=>none)
 |op=>(match vq n Γ st op dst with
  |some R=>some R
  |none=>vq n Γ (zl op.operands.toList st) op dst)
def vr {ρ:Type}(n:Nat)(Γ:Tab P G)(D:List (CS P G))(o:Oper)(st:St G)(K:St G->Option ρ):Option ρ:=
 match ua n o.dst with
 |true=>(match zm n Γ D st o.op o.dst with
  |some R=>R.mv.bind λb=>K (R.k b)
  |none=>none)
 |false=>none
def s8 {ρ:Type}(n:Nat)(o:Oper)(st:St G)(K:St G->Option ρ):Option ρ:=
 match o.dst with
 |some d=>(match Q2 d n with|true=>K (st.put d (.one .und))|false=>none)
 |none=>K st
def AV.g?:AV G->Option (Option Bool)
 | .dat .bool x none=>some (some x)
 | .und=>some none
 |_=>none
def gd (e:Option (EV G)):Option (Option Bool):=match av? e with|some b=>b.g?|none=>none
def gc {ρ:Type} (n:Nat) (Γ:Tab P G) (D:List (CS P G)) (all:List Oper):List Oper->St G->(St G->Option ρ)->Option ρ
 |[],st,K=>K st
 | o ::r,st,K=>(match o.guard with
  |none=>vr n Γ D o st λst'=>gc n Γ D all r st' K
  | some (g,b)=>(match bW all.toArray g with
   | some dg=>(match Q2 dg n,gd (st.op (.tmp dg)) with
    | true,some (some x)=>if x=true then
      (match b with
       |true=>vr n Γ D o (st.put dg (.one (db true))) λst'=>gc n Γ D all r st' K
       |false=>s8 n o (st.put dg (.one (db true))) λst'=>gc n Γ D all r st' K)
     else
      (match b with
       |false=>vr n Γ D o (st.put dg (.one (db false))) λst'=>gc n Γ D all r st' K
       |true=>s8 n o (st.put dg (.one (db false))) λst'=>gc n Γ D all r st' K)
    |true,some none=>s8 n o st λst'=>gc n Γ D all r st' K
    |_,_=>none)
   |none=>none))
end
section
variable {G:Sg}{P:Program}{δ:List Nat}{n:Nat}{W0:Bse}{L0:Rs}{T0:List (Nat×Value)}{m0:M}{st:St G}{a:Act}{w:World}{Γ:Tab P G}{D:List (CS P G)}{ty t t2:TypeId}{pos:String}{aft:Array Edge}{g:Option (Nat×Bool)}
theorem FG {x:Operand}{xs:List Operand}{a5:Array TypeId}{d:Nat}(hs:Sat G P δ n W0 L0 T0 m0 st a w)(hd:Q2 d n=true):
  TG G P δ n W0 L0 T0 m0 st (Ce Γ st x xs d) ⟨some d,.call ⟨.value x,xs.toArray,a5⟩,ty,pos,aft,g⟩ a w:=by
 obtain⟨⟨m,z,h0,J,hM⟩,hdf,hsz⟩:=hs;obtain⟨Lc,Tc,h1,h2,hS,a4⟩:=hM;obtain⟨l,hE,hl⟩:=dq hdf hsz (x::xs);have a2:=hl x (by simp);have a3:=rM (xs:=xs) (a:=a) (l:=l) λy W=>hl y (by simp[W]);unfold Ce;split
 ·rename_i a' b f y hx
  have Z:=aU (ez J) hx;split
  ·rename_i p W
   split
   ·rename_i u hu
    refine .two λr a0=>?_;refine(xp hE hS a2 a3 Z (AV.as_rel hu (aU (ez J) W)) a0).imp λv w' hq=>?_;obtain⟨m',h,a1,hv⟩:=hq;exact⟨Sat.of h0 h (J.z h (Zle.refl z)) ⟨hv,trivial⟩ ⟨Lc,Tc,h1.mono h,h2,a1,a4⟩ hd hdf hsz,Ext.put,rfl⟩
   ·exact .none
  ·exact .none
 ·rename_i a' c b f y y' hx
  have Z:=aU (ez J) hx;split
  ·rename_i p p' W a6
   split
   ·rename_i u u' hu a9
    refine .two λr a0=>?_;refine(xq hE hS a2 a3 Z (AV.as_rel hu (aU (ez J) W)) (AV.as_rel a9 (aU (ez J) a6)) a0).imp λv w' hq=>?_;obtain⟨m',h,a1,hv⟩:=hq;exact⟨Sat.of h0 h (J.z h (Zle.refl z)) ⟨hv,trivial⟩ ⟨Lc,Tc,h1.mono h,h2,a1,a4⟩ hd hdf hsz,Ext.put,rfl⟩
   ·exact .none
  ·exact .none
 ·exact .none
theorem FH {op:Op}{dst:Option Nat}(hs:Sat G P δ n W0 L0 T0 m0 st a w)(hd:ua n dst=true):TG G P δ n W0 L0 T0 m0 st (Cf n Γ st op dst) ⟨dst,op,ty,pos,aft,g⟩ a w:=by
 obtain⟨⟨m,z,h0,W,J⟩,hdf,hsz⟩:=hs;unfold Cf;split
 ·rename_i d
  split
  ·rename_i R hR
   intro R' b h hb;injection h with h
   subst h;refine(Bb (d:=d) hdf hsz J (ez W) R b hR hb).imp λv w' Z=>?_;obtain⟨rfl,hv⟩:=Z;exact⟨Sat.of h0 (Q8 m) W hv J hd hdf hsz,Ext.put,rfl⟩
  ·exact .none
 ·exact .none
theorem xy {op:Op}{dst:Option Nat}(h:Sat G P δ n W0 L0 T0 m0 st a w)(J:ua n dst=true):TG G P δ n W0 L0 T0 m0 st (vq n Γ st op dst) ⟨dst,op,ty,pos,aft,g⟩ a w:=by
 unfold vq;split
 ·rename_i R Z
  rw[←Z];exact FH h J
 ·exact Hz h λd W=>by subst W;exact J
theorem FJ {x:Operand}(hs:Sat G P δ n W0 L0 T0 m0 st a w):Sat G P δ n W0 L0 T0 m0 (rK st x) a w/\Ext st.c st (rK st x)/\(rK st x).c=st.c:=by
 obtain⟨⟨m,z,J,Z,W⟩,hdf,hsz⟩:=hs;obtain⟨Lc,Tc,h1,h2,hS,a4⟩:=W;obtain⟨m',h,⟨a5,a0,a2,k1,k2,a1,a3⟩,hx,hc⟩:=Be (G:=G) (P:=P) (L0:=L0) (T0:=T0) (x:=x) (st:=st) (m:=m) (z:=z) ⟨Z,Lc,Tc,h1,h2,hS,a4⟩;exact⟨⟨⟨m',z,J.trans h,a5,a0,a2,k1,k2,a1,a3⟩,hdf,hsz⟩,hx,hc⟩
theorem FK {xs:List Operand}(J:Sat G P δ n W0 L0 T0 m0 st a w):Sat G P δ n W0 L0 T0 m0 (zl xs st) a w/\Ext st.c st (zl xs st)/\(zl xs st).c=st.c:=by
 induction xs generalizing st with
 |nil=>exact⟨J,Ext.refl _ _,rfl⟩
 |cons x xs ih=>
  obtain⟨h1,Z,W⟩:=FJ (x:=x) J;obtain⟨k1,k2,h⟩:=ih h1;rw[W] at k2 h;exact⟨k1,Z.trans k2,h⟩
theorem DF {op:Op}{dst:Option Nat}(h:Sat G P δ n W0 L0 T0 m0 st a w)(J:ua n dst=true):TG G P δ n W0 L0 T0 m0 st (zm n Γ D st op dst) ⟨dst,op,ty,pos,aft,g⟩ a w:=by
 unfold zm;split
 ·exact FF h λe he=>by subst he;exact J
 ·split
  ·exact FG h J
  ·exact .none
 ·split
  ·rename_i R W
   rw[←W];exact xy h J
  ·obtain⟨h1,h2,h3⟩:=FK (xs:=op.operands.toList) h
   intro R b W hb;refine(xy h1 J R b W hb).imp λv w' hq=>?_;obtain⟨q1,Z,q3⟩:=hq;rw[h3] at Z q3;exact⟨q1,h2.trans Z,q3⟩
variable {ρ:Type}{ro:Option Nat}{Q:Exit->Act->World->Prop}{K:St G->Option ρ}{res:ρ}{all:List Oper}
def Nxt (G:Sg)(P:Program)(δ:List Nat)(n:Nat)(W0:Bse)(L0:Rs)(T0:List (Nat×Value))(m0:M){ρ:Type}(K:St G->Option ρ)(res:ρ)(st0:St G)(N:Act->World->Prop):Prop:=
 ∀st' a' w',K st'=some res->Sat G P δ n W0 L0 T0 m0 st' a' w'->Ext st0.c st0 st'->st'.c=st0.c->N a' w'
theorem Nxt.later {st0 J:St G}{N:Act->World->Prop}(h:Nxt G P δ n W0 L0 T0 m0 K res st0 N)(hx:Ext st0.c st0 J)(W:J.c=st0.c):Nxt G P δ n W0 L0 T0 m0 K res J N:=
 λst' a' w' h1 h2 Z h4=>h st' a' w' h1 h2 (hx.trans (by rw[W] at Z;exact Z)) (by rw[h4,W])
theorem rN {o:Oper}(Z:Sat G P δ n W0 L0 T0 m0 st a w)(h:vr n Γ D o st K=some res){N:Act->World->Prop}(k:Nxt G P δ n W0 L0 T0 m0 K res st N):
  aM P o a w (λv w'=>N (a.put o.dst v) w'):=by
 unfold vr at h;split at h
 ·rename_i hd
  split at h
  ·rename_i R W
   cases hb:R.mv with
   |none=>simp[hb] at h
   |some b=>
    simp only[hb,Z2] at h;obtain⟨dst,op,ty,pos,aft,g⟩:=o;refine(DF Z hd R b W hb).imp λv w' J=>?_;exact k _ _ _ h J.1 J.2.1 J.2.2
  ·cases h
 ·cases h
theorem Sat.lit {J:Nat}{x:Bool}(hs:Sat G P δ n W0 L0 T0 m0 st a w)(hd:Q2 J n=true)(h:gd (st.op (.tmp J))=some (some x)):Sat G P δ n W0 L0 T0 m0 (st.put J (.one (db x))) a w/\a.tmps.getD J undef= .bool x:=by
 obtain⟨⟨m,z,h0,Z,hM⟩,hdf,hsz⟩:=hs
 have hv:a.tmps.getD J undef= .bool x:=by
  unfold gd at h;split at h
  ·rename_i b hb
   have a0:=aU (ez Z) hb;cases b with
   |dat t y oo=>
    cases t<;>cases oo<;>simp only[AV.g?,reduceCtorEq] at h;obtain rfl:=Option.some.inj (Option.some.inj h);exact dU a0.1
   |_=>simp[AV.g?] at h
  ·cases h
 refine⟨⟨⟨m,z,h0,λe W=>?_,hM⟩,hdf,hsz⟩,hv⟩;rcases Q6.1 W with rfl|W
 ·show AV.Rel G P m z (db x) (a.tmps.getD J undef)
  rw[hv];exact dy
 ·exact Z e (kf W).1
theorem pf {g h:Nat}{x:Bool}(hs:a.tmps.size=n)(W:bW all.toArray g=some h)(hd:Q2 h n=true)(J:a.tmps.getD h undef= .bool x):yielded all.toArray a.tmps g=some x:=by
 have a0:h<n:=Q0 hd;unfold bW at W;unfold yielded;rw[W];rw[Array.getD_eq_getD_getElem?] at J;have Z:h<a.tmps.size:=by omega
 simp only[Z2];rw[Array.getElem?_eq_getElem Z] at J ⊢;simp at J;simp[J]
theorem wA {o:Oper}{r:List Oper}{g:Nat}{b:Bool}(W:Sat G P δ n W0 L0 T0 m0 st a w)(hg:o.guard=some (g,b))(hy:yielded all.toArray a.tmps g≠some b)(h:s8 n o st K=some res)
  (k:Nxt G P δ n W0 L0 T0 m0 K res st (λa w=>wpL ro P all.toArray Q r a w)):wpL ro P all.toArray Q (o::r) a w:=by
 refine wpListIn_step λKk hK=>?_
 have hw:Region.wanted o (yielded all.toArray a.tmps)=false:=by
  simp only[Region.wanted,hg];simpa using hy
 rw[hw];simp only[Bool.false_eq_true,if_false];refine⟨λ_ _=>trivial,hK _ _ ?_⟩;unfold s8 at h;split at h
 ·rename_i d J
  split at h
  ·rename_i a0
   obtain⟨⟨m,z,Z,hr,hM⟩,hdf,hsz⟩:=W;rw[J];exact k _ _ _ h (Sat.of Z (Q8 m) hr (show EV.Rel G P m z (.one .und) undef from rfl) hM a0 hdf hsz) Ext.put rfl
  ·cases h
 ·rename_i J
  rw[J];exact k _ _ _ h W (Ext.refl _ _) rfl
theorem uK:∀{os:List Oper} {st:St G} {a:Act} {w:World},gc n Γ D all os st K=some res->Sat G P δ n W0 L0 T0 m0 st a w->Nxt G P δ n W0 L0 T0 m0 K res st (λa w=>wpL ro P all.toArray Q [] a w)->wpL ro P all.toArray Q os a w:=by
 intro os
 induction os with
 |nil=>intro st a w h Z k;exact k st a w h Z (Ext.refl _ _) rfl
 | cons o r ih=>
  intro st a w h Z k;unfold gc at h
  have a2:∀{a3:St G},Ext st.c st a3->a3.c=st.c->Nxt G P δ n W0 L0 T0 m0 (λst'=>gc n Γ D all r st' K) res a3 (λa w=>wpL ro P all.toArray Q r a w):=by
   intro a3 J hc st' a' w' h1 h2 h3 h4;exact ih h1 h2 ((k.later J hc).later h3 h4)
  split at h
  ·rename_i W
   exact wpListIn_plain W λKk hK=>rN Z h (a2 (Ext.refl _ _) rfl) _ _ _ λv w' hp=>hK _ _ hp
  ·rename_i g b W
   split at h
   ·rename_i dg a4
    split at h
    ·rename_i x hd J
     obtain⟨a1,hv⟩:=Sat.lit Z hd J;have hy:=pf (all:=all) Z.sz a4 hd hv;have a0:Ext st.c st (st.put dg (.one (db x))):=Ext.put;split at h
     ·rename_i a5
      rw[a5] at hy a1 a0;split at h
      ·exact wpListIn_step λKk hK=>by
        simp only[Region.wanted,W,hy,beq_self_eq_true,if_true];exact rN a1 h (a2 a0 rfl) _ _ _ λv w' hp=>hK _ _ hp
      ·exact wA a1 W (by rw[hy];simp) h (a2 a0 rfl)
     ·rename_i b0
      have a9:x=false:=by simpa using b0
      rw[a9] at hy a1 a0;split at h
      ·exact wpListIn_step λKk hK=>by
        simp only[Region.wanted,W,hy,beq_self_eq_true,if_true];exact rN a1 h (a2 a0 rfl) _ _ _ λv w' hp=>hK _ _ hp
      ·exact wA a1 W (by rw[hy];simp) h (a2 a0 rfl)
    ·rename_i hd J
     refine wA Z W ?_ h (a2 (Ext.refl _ _) rfl);obtain⟨⟨m,z,h0,hr,hM⟩,hdf,hsz⟩:=Z
     have hu:a.tmps.getD dg undef=undef:=by
      unfold gd at J;split at J
      ·rename_i b hb
       have a6:=aU (ez hr) hb;cases b with
       |und=>exact a6
       |dat t y oo=>cases t<;>cases oo<;>simp[AV.g?] at J
       |_=>simp[AV.g?] at J
      ·cases J
     rw[l7 a4 hu];simp
    ·cases h
   ·cases h
end
section
variable {G:Sg}{P:Program}
def kK (Γ:Tab P G)(ρ:Operand->Option (EV G)):(ps:List Pm)->List Operand->Option (cU G ps)
 |[],[]=>some ()
 | .rd t::ps,x::xs=>(match av? (ρ x),kK Γ ρ ps xs with
  |some b,some y=>(match b.as Γ t with|some u=>some (u,y)|none=>none)
  |_,_=>none)
 | .f1 a b::ps,x::xs=>(match av? (ρ x),kK Γ ρ ps xs with
  |some (.fn1 a' b' f),some y=>if h:a'=a/\b'=b then some (h.1 ▸ h.2 ▸ f,y) else none
  |_,_=>none)
 | .f2 a c b::ps,x::xs=>(match av? (ρ x),kK Γ ρ ps xs with
  |some (.fn2 a' c' b' f),some y=>if h:a'=a/\c'=c/\b'=b then some (h.1 ▸ h.2.1 ▸ h.2.2 ▸ f,y) else none
  |_,_=>none)
 |_,_=>none
def vt:List Rm->Bool
 |[]=>true
 | .rd _::rs=>vt rs
 | .ap _::rs=>vt rs
 | .ow _::_=>false
def FL (G:Sg)(os:List Ty):(rs:List Rm)->aZ G (rs.map Rm.ty++os)->List (AV G)
 |[],_=>[]
 |r::rs,x=> .dat r.ty (hdT G r.ty (rs.map Rm.ty++os) x) none::FL G os rs (tlT G r.ty (rs.map Rm.ty++os) x)
def GK (Γ:Tab P G)(D:List (CS P G))(ρ:Operand->Option (EV G))(f:FuncId)(xs:List Operand):Option (gr G):=
 match vp D f with
 |some C=>(match kK Γ ρ C.ps xs,vt C.rs with
  |some y,true=>some ⟨aZ G (fm C.ps C.rs),C.g y,λr=>evs (FL G (C.ps.filterMap Pm.out) C.rs r)⟩
  |_,_=>none)
 |none=>none
def DG (Γ:Tab P G)(ρ:Operand->Option (EV G))(x:Operand)(xs:List Operand):Option (gr G):=
 match av? (ρ x),xs with
 |some (.fn1 a b f),[y]=>(match av? (ρ y) with
  |some p=>(match p.as Γ a with|some u=>pb (f u) λr=> .dat b r none|none=>none)
  |none=>none)
 |some (.fn2 a c b f),[y,y']=>(match av? (ρ y),av? (ρ y') with
  |some p,some p'=>(match p.as Γ a,p'.as Γ c with|some u,some u'=>pb (f u u') λr=> .dat b r none|_,_=>none)
  |_,_=>none)
 |_,_=>none
def pg (Γ:Tab P G)(D:List (CS P G))(ρ:Operand->Option (EV G))(h:Nat->Option (BC G))(op:Op):Option (gr G):=
 match op with
 | .call ⟨.value (.func f),⟨xs⟩,_⟩=>GK Γ D ρ f xs
 | .call ⟨.value x,⟨xs⟩,_⟩=>DG Γ ρ x xs
 |op=>vm Γ ρ h op
def vis (all:List Oper)(k i:Nat)(h:List Nat)(t:Nat):Bool:=
 (all.take k).zipIdx.all λp=>match p.1.dst with
  |some d=> !(Q9 d t)||h.any (Q9 p.2)||(aT p.1).any (Q9 i)
  |none=>true
def visρ (all:List Oper)(k i:Nat)(o:Oper)(st:St G):Operand->Option (EV G)
 | .tmp t=>(match vis all k i (aT o) t with|true=>st.op (.tmp t)|false=>none)
 |x=>st.op x
def iO {ρ:Type} (n:Nat) (Γ:Tab P G) (D:List (CS P G)) (all:List Oper) (k:Nat):Nat->List Oper->St G->(St G->Option ρ)->Option ρ
 |_,[],st,K=>K st
 | i, o ::r,st,K=>(match o.dst with
  | some d=>(match Q2 d n,o.guard with
   |true,none=>(match pg Γ D (visρ all k i o st) (d7 st.L) o.op with
    |some R=>R.mv.bind λb=>iO n Γ D all k (i+1) r (st.put d (R.k b)) K
    |none=>none)
   | true,some (g,b)=>(match (aT o).any (Q9 g),bW (all.take k).toArray g with
    | true,some dg=>(match Q2 dg n,gd (st.op (.tmp dg)) with
     | true,some (some x)=>if x=true then
       (match b with
        |true=>(match pg Γ D (visρ all k i o (st.put dg (.one (db true)))) (d7 st.L) o.op with
         |some R=>R.mv.bind λb=>iO n Γ D all k (i+1) r ((st.put dg (.one (db true))).put d (R.k b)) K
         |none=>none)
        |false=>iO n Γ D all k (i+1) r ((st.put dg (.one (db true))).put d (.one .und)) K)
      else
       (match b with
        |false=>(match pg Γ D (visρ all k i o (st.put dg (.one (db false)))) (d7 st.L) o.op with
         |some R=>R.mv.bind λb=>iO n Γ D all k (i+1) r ((st.put dg (.one (db false))).put d (R.k b)) K
         |none=>none)
        |true=>iO n Γ D all k (i+1) r ((st.put dg (.one (db false))).put d (.one .und)) K)
     |true,some none=>iO n Γ D all k (i+1) r (st.put d (.one .und)) K
     |_,_=>none)
    |_,_=>none)
   |_,_=>none)
  |none=>none)
def ie (o:Oper):Bool:=match o.op with
 | .alloc _=>true
 | .store _ _ _=>true
 |_=>false
inductive Sp (G:Sg) where
 |al (d:Nat) (t:Ty) (x:t.den G)
 |so (i:Nat) (t:Ty) (x:t.den G)
def Sp.blk:Sp G->Option Nat
 | .al _ _ _=>none
 | .so i _ _=>some i
def Cg (Γ:Tab P G)(ρ:Operand->Option (EV G))(h:Nat->Option (BC G))(o:Oper):Option (Sp G):=
 match o.guard,o.dst,o.op with
 |none,some d,.alloc t=>(match Γ.ar t,Γ.ty t with|none,some I=>some (.al d I.T I.z)|_,_=>none)
 | none,none,.store t x y=>(match Γ.ty t,av? (ρ x),av? (ρ y) with
  |some I,some (.blk i),some b=>(match h i with
   |some (.dat c _)=>if c=I.T then (match b.as Γ I.T with|some u=>some (.so i I.T u)|none=>none) else none
   |_=>none)
  |_,_,_=>none)
 |_,_,_=>none
def stG (st:St G):List Oper->List (Option Nat)
 |[]=>[]
 |o::r=>(match o.op with
  | .alloc _=>none::stG st r
  | .store _ x _=>(match av? (st.op x) with|some (.blk i)=>some i::stG st r|_=>none::stG st r)
  |_=>stG st r)
def eY (c:Nat):List (Option Nat)->List (Nat×BC G)->List (Nat×BC G)
 |[],L=>L
 |none::r,L=>eY c r L
 |some i::r,L=>sb (eY c r L) i (c,.gone)
def gOK (h:Nat->Option (BC G)):List (Option Nat)->Bool
 |[]=>true
 |none::r=>gOK h r
 |some i::r=>(match h i with|some (.dat _ _)=>true|_=>false)&& !(r.any λj=>decide (j=some i))&&gOK h r
def ki:List (Nat×Sp G)->St G->St G
 |[],st=>st
 |(_,.al d t x)::r,st=>ki r ((st.push (.dat t x)).put d (.one (.blk st.L.length)))
 |(_,.so i t x)::r,st=>ki r (st.setB i (.dat t x))
def o4 {ρ:Type}(n:Nat)(Γ:Tab P G)(D:List (CS P G))(all:List Oper)(k:Nat)(h:Nat->Option (BC G)):Nat->List Oper->St G->List (Nat×Sp G)->(St G->List (Nat×Sp G)->Option ρ)->Option ρ
 |_,[],st,acc,K=>K st acc
 | i,o::r,st,acc,K=>(match ie o with
  |true=>(match ua n o.dst,Cg Γ (visρ all k i o st) h o with
   |true,some sp=>o4 n Γ D all k h (i+1) r (match o.dst with|some d=>{ st with env:=rmk st.env d }|none=>st) (acc++[(i,sp)]) K
   |_,_=>none)
  |false=>iO n Γ D all k i [o] st λst'=>o4 n Γ D all k h (i+1) r st' acc K)
def yu (all:List Oper):Nat:=all.zipIdx.foldl (λh p=>if Q9 p.2 0||(aT p.1).any (λe=>Q9 (e+1) p.2) then h else p.2) 0
def GL (all:List Oper):Nat->Nat->Nat
 |0,_=>all.length
 |f+1,k=>match lJ all k with|true=>k|false=>GL all f (k+1)
def kOf (all:List Oper):Nat:=GL all (all.length - yu all) (yu all)
def cV:Op->List Operand
 | .move x=>[x]
 | .assign x=>[x]
 | .load _ x=>[x]
 | .store _ x y=>[x,y]
 | .indexAddr _ x y=>[x,y]
 | .fieldAddr _ x _=>[x]
 | .binOp _ _ x y _=>[x,y]
 | .convert _ _ x=>[x]
 | .buildSlice _ _ ps=>ps.toList.map (·.2)
 | .call c=>c.args.toList
 |_=>[]
def okT:Op->Bool
 | .move _=>true
 | .assign _=>true
 | .load _ _=>true
 | .store _ _ _=>true
 | .indexAddr _ _ _=>true
 | .fieldAddr _ _ _=>true
 | .binOp _ _ _ _ _=>true
 | .convert _ _ _=>true
 | .buildSlice _ _ _=>true
 | .call ⟨.builtin .append,_,_⟩=>true
 |_=>false
def opT (t:Nat):Operand->Bool
 | .tmp q=>Q9 q t
 |_=>false
def inN (l:List Nat)(j:Nat):Bool:=l.any (Q9 j)
def FM:Op->Bool
 | .move _=>true
 | .binOp .add _ _ _ _=>true
 | .binOp .sub _ _ _ _=>true
 |_=>false
def dc (all:List Oper)(k:Nat):List Nat:=match all[k]? with
 |some o=>(let c:=cov all 12 (aT o);(Qx k).filter λj=> !(c.any λe=>Q9 j e))
 |none=>[]
def FN (o h:Oper)(j:Nat):Bool:=
 inN (aT o) j||(match h.dst with
  |some d=> !((cV o.op).any (opT d))&&(match o.dst with|some e=> !(Q9 e d)&& !((cV h.op).any (opT e))|none=>true)
  |none=>false)
def ub (all:List Oper)(k:Nat):Bool:=
 Q2 k all.length&&
 (dc all k).all (λj=>match all[j]? with
  |some oj=>oj.guard.isNone&&FM oj.op&&(aT oj).all (λe=>inN (dc all k) e&&Q2 e j)&&
   (dc all k).all (λi=>match all[i]? with|some oi=>(match oi.dst with|some d=>inN (aT oj) i|| !((cV oj.op).any (opT d))|none=>false)|none=>false)
  |none=>false)&&
 all.zipIdx.all (λp=>Q2 p.2 k||(p.1.guard.isNone&&okT p.1.op&&(Q9 p.2 k||(aT p.1).any λe=>Q9 (e+1) p.2)&&
  (dc all k).all λj=>match all[j]? with|some oj=>FN p.1 oj j|none=>false))
def yv (all:List Oper):Nat->Nat->Option Nat
 |0,_=>none
 |f+1,k=>match ub all k with|true=>some k|false=>yv all f (k+1)
def IX (o:Oper):Bool:=match o.op with
 | .store _ _ _=>true
 | .buildSlice _ _ _=>true
 | .call ⟨.builtin .append,_,_⟩=>true
 |_=>false
def fK (all:List Oper):Option Nat:=match (all.take (kOf all)).any IX with
 |true=>(match yv all (all.length - yu all) (yu all) with
  |some k=>(match (all.take k).any λo=>IX o||ie o with|true=>none|false=>some k)
  |none=>none)
 |false=>none
def uL {ρ:Type}(n:Nat)(Γ:Tab P G)(D:List (CS P G))(all:List Oper)(J:Bool)(st:St G)(K:St G->Option ρ):Option ρ:=
 match J with
 |false=>gc n Γ D all all st K
 | true=>(match fK all with
  | some k=>(match kW all&&qP (all.take k) n with
   |true=>(match (all.take k).any ie with
    |false=>iO n Γ D all k 0 (all.take k) st λst'=>gc n Γ D all (all.drop k) st' K
    |true=>none)
   |false=>none)
  |none=>(match kW all&&lJ all (kOf all)&&qP (all.take (kOf all)) n with
  | true=>(match (all.take (kOf all)).any ie with
   |false=>iO n Γ D all (kOf all) 0 (all.take (kOf all)) st λst'=>gc n Γ D all (all.drop (kOf all)) st' K
   |true=>(match gOK (d7 st.L) (stG st (all.take (kOf all))) with
    | true=>o4 n Γ D all (kOf all) (d7 st.L) 0 (all.take (kOf all)) { st with L:=eY st.c (stG st (all.take (kOf all))) st.L } [] λst' h=>
      if h.map (λq=>q.2.blk)=stG st (all.take (kOf all)) then gc n Γ D all (all.drop (kOf all)) (ki h st') K else none
    |false=>none))
  |false=>none))
end
section
variable {G:Sg}{P:Program}{δ:List Nat}{n:Nat}{W0:Bse}{L0:Rs}{T0:List (Nat×Value)}{m m0:M}{z:Cz}{st:St G}{a:Act}{w:World}{Γ:Tab P G}{D:List (CS P G)}{ty t t2:TypeId}{pos:String}{aft:Array Edge}{g:Option (Nat×Bool)}{Ls:List (Nat×BC G)}{Ts:List Nat}{ρ:Operand->Option (EV G)}{d:Nat}
theorem DH (hρ:∀x e,ρ x=some e->e.Rel G P m z (a.eval x)):∀{ps:List Pm} {xs:List Operand} {y:cU G ps},kK Γ ρ ps xs=some y->jH G P m ps (xs.map a.eval) y [] []/\ps.filterMap Pm.out=[]:=by
 intro ps
 induction ps with
 |nil=>
  intro xs y h;cases xs with
  |nil=>exact⟨trivial,rfl⟩
  |cons x xs=>simp[kK] at h
 | cons p ps ih=>
  intro xs y h;cases xs with
  |nil=>cases p<;>simp[kK] at h
  | cons x xs=>
   cases p with
   | rd t=>
    simp only[kK] at h;split at h
    ·rename_i b y' J W
     split at h
     ·rename_i u hu
      injection h with h
      subst h;obtain⟨h1,Z⟩:=ih W;exact⟨⟨AV.as_rel hu (aU hρ J),h1⟩,Z⟩
     ·cases h
    ·cases h
   | f1 b c=>
    simp only[kK] at h;split at h
    ·rename_i a' b' f y' J W
     split at h
     ·rename_i hh
      obtain⟨rfl,rfl⟩:=hh;injection h with h
      subst h;obtain⟨h1,Z⟩:=ih W;exact⟨⟨aU hρ J,h1⟩,Z⟩
     ·cases h
    ·cases h
   | f2 b c e=>
    simp only[kK] at h;split at h
    ·rename_i a' c' b' f y' J W
     split at h
     ·rename_i hh
      obtain⟨rfl,rfl,rfl⟩:=hh;injection h with h
      subst h;obtain⟨h1,Z⟩:=ih W;exact⟨⟨aU hρ J,h1⟩,Z⟩
     ·cases h
    ·cases h
   |_=>simp[kK] at h
theorem HB {os:List Ty}:∀{rs:List Rm} {us:List Value} {x:aZ G (rs.map Rm.ty++os)} {Lr:List (Nat×List Value)} {Tr:List (Nat×Value)},vt rs=true->lC G m os rs us x Lr Tr->Lr=[]/\nj G P m z (FL G os rs x) us:=by
 intro rs
 induction rs with
 |nil=>
  intro us x Lr Tr _ h;cases us<;>cases Lr<;>cases Tr<;>first|exact h.elim|exact⟨rfl,trivial⟩
 | cons r rs ih=>
  intro us x Lr Tr Z h;cases r with
  | rd t=>
   cases us with
   |nil=>exact h.elim
   |cons u us=>
    obtain⟨k1,k2⟩:=h;obtain⟨W,J⟩:=ih Z k2;exact⟨W,⟨k1,trivial⟩,J⟩
  | ap t=>
   cases us with
   |nil=>cases Lr<;>cases Tr<;>exact h.elim
   | cons u us=>
    cases Tr with
    |nil=>cases Lr<;>exact h.elim
    |cons e Tr=>
     obtain⟨k1,_,k2⟩:=h;obtain⟨W,J⟩:=ih Z k2;exact⟨W,⟨k1,trivial⟩,J⟩
  |_=>simp[vt] at Z
def GM (G:Sg)(P:Program)(W0:Bse)(L0:Rs)(T0:List (Nat×Value))(Ls:List (Nat×BC G))(Ts:List Nat)(m:M)(z:Cz)(r:Option (gr G))(o:Oper)(a:Act)(w:World):Prop:=
 ∀R b,r=some R->R.mv=some b->aM P o a w (λv w'=>∃m',M.le m m'/\fk G W0 L0 T0 Ls Ts m' z w'/\(R.k b).Rel G P m' z v)
theorem GM.none {o:Oper}:GM G P W0 L0 T0 Ls Ts m z none o a w:=λR b h=>by cases h
theorem FO {vs:List Value}{Lp':List (Nat×List Value)}:∀{ps:List Pm} {vs:List Value} {x:aZ G (ps.filterMap Pm.out)},ps.filterMap Pm.out=[]->gH G m ps vs x [] Lp'->Lp'=[]:=by
 intro ps
 induction ps with
 |nil=>intro vs x _ h;cases Lp' with|nil=>rfl|cons e l=>exact h.elim
 | cons p ps ih=>
  intro vs x J h;cases p with
  |pt t=>simp[Pm.out] at J
  |ow t=>simp[Pm.out] at J
  |_=>
   cases vs with
   |nil=>exact h.elim
   |cons v vs=>exact ih (by simpa[Pm.out] using J) h
theorem xz {op:Op}(hd:a.defers=δ.map λD=>{ target:= .collected D,args:= #[] })(hs:a.tmps.size=n)(hM:fk G W0 L0 T0 Ls Ts m z w)(W:∀x e,ρ x=some e->e.Rel G P m z (a.eval x)):
  GM G P W0 L0 T0 Ls Ts m z (pg Γ D ρ (d7 Ls) op) ⟨some d,op,ty,pos,aft,g⟩ a w:=by
 unfold pg;split
 ·rename_i f xs a2
  obtain⟨l,hE,hl⟩:=dq hd hs xs;unfold GK;split
  ·rename_i C hC
   have hf:=Bg hC;subst hf;split
   ·rename_i y Z ha
    intro R r h hr;injection h with h
    subst h;obtain⟨hP,hO⟩:=DH W Z;obtain⟨Lc,Tc,h1,h2,hS,a1⟩:=hM;have a9:=C.ok W0 m w (Lc++L0.l) (Tc++T0) (xs.map a.eval) y r [] [] hS hP hr;intro ro Kk Q hk
    have a6:(execOp a.eval ⟨some d,.call ⟨.value (.func C.f),xs.toArray,a2⟩,ty,pos,aft,g⟩).run P w= .ok (.enter C.f (xs.map a.eval).toArray) w:=by
     simp[execOp,resolve,Act.eval,Deferred.ofValue,invoke,gW hE (rM hl),C.hc]
    refine pO a6 (a9.mono λe w' he=>?_);cases e with
    |returned v=>
     obtain⟨m',us,Lr,Lp',Tr,J,a0,rfl,h,b0⟩:=he;obtain⟨rfl,r3⟩:=HB (P:=P) (z:=z) ha h;have:=FO (vs:=[]) hO b0;subst this;have a5:=a0.dropT Tr.length;rw[List.drop_left] at a5;exact hk _ _ ⟨m',J,⟨Lc,Tc,h1.mono J,h2,a5,a1⟩,Bf r3⟩
    |panicked ch=>exact he.elim
    |outgrown=>exact he.elim
   ·exact .none
  ·exact .none
 ·rename_i x xs a2 _
  obtain⟨Lc,Tc,h1,h2,hS,a1⟩:=hM;obtain⟨l,hE,hl⟩:=dq hd hs (x::xs);have a3:=hl x (by simp);have a4:=rM (xs:=xs) (a:=a) (l:=l) λy Z=>hl y (by simp[Z]);unfold DG;split
  ·rename_i a' b f y hx
   have hf:=aU W hx;split
   ·rename_i p Z
    split
    ·rename_i u hu
     intro R r h hr;injection h with h
     subst h;refine(xp hE hS a3 a4 hf (AV.as_rel hu (aU W Z)) hr).imp λv w' hq=>?_;obtain⟨m',J,a0,hv⟩:=hq;exact⟨m',J,⟨Lc,Tc,h1.mono J,h2,a0,a1⟩,hv,trivial⟩
    ·exact .none
   ·exact .none
  ·rename_i a' c b f y y' hx
   have hf:=aU W hx;split
   ·rename_i p p' Z b1
    split
    ·rename_i u u' hu b2
     intro R r h hr;injection h with h
     subst h;refine(xq hE hS a3 a4 hf (AV.as_rel hu (aU W Z)) (AV.as_rel b2 (aU W b1)) hr).imp λv w' hq=>?_;obtain⟨m',J,a0,hv⟩:=hq;exact⟨m',J,⟨Lc,Tc,h1.mono J,h2,a0,a1⟩,hv,trivial⟩
    ·exact .none
   ·exact .none
  ·exact .none
 ·intro R b h hb
  refine(Bb hd hs hM W R b h hb).imp λv w' hq=>?_;obtain⟨rfl,hv⟩:=hq;exact⟨m,Q8 m,hM,hv⟩
end
section
variable {G:Sg}{P:Program}{δ:List Nat}{n:Nat}{W0:Bse}{L0:Rs}{T0:List (Nat×Value)}{m m0:M}{z:Cz}{st:St G}{a:Act}{w:World}{Γ:Tab P G}{D:List (CS P G)}{g:Option (Nat×Bool)}{res:Type}{all:List Oper}{k:Nat}
abbrev dj (os:List Oper)(j:Nat):Option Nat:=bW os.toArray j
def nsp (all:List Oper)(k q:Nat):Prop:= ∀oq,(all.take k)[q]? =some oq->ie oq=false
def oK (G:Sg)(all:List Oper)(k:Nat)(st0:St G)(ev:Nat->EV G)(j:Nat)(o:Oper)(ρ:Operand->Option (EV G)):Prop:=
 ∀x e,ρ x=some e->match x with
  | .tmp t=>(∃q,q∈aT o/\q<j/\dj (all.take k) q=some t/\ev q=e/\nsp all k q)\/((∃lv,(t,lv,e)∈st0.env)/\∀(q:Nat) (h:Oper),(all.take k)[q]? =some h->h.dst=some t->j∈aT h)
  | .const v=>∃b,cAV v=some b/\e= .one b
  |_=>False
def uM (G:Sg)(P:Program)(Γ:Tab P G)(D:List (CS P G))(all:List Oper)(k:Nat)(st0:St G)(ev:Nat->EV G)(j:Nat)(o:Oper):Prop:=
 ∃(R:gr G) (b:R.β) (ρ:Operand->Option (EV G)),pg Γ D ρ (d7 st0.L) o.op=some R/\R.mv=some b/\ev j=R.k b/\oK G all k st0 ev j o ρ
def OpF (G:Sg)(P:Program)(Γ:Tab P G)(D:List (CS P G))(n:Nat)(all:List Oper)(k:Nat)(st0:St G)(ev:Nat->EV G)(j:Nat)(o:Oper):Prop:=
 ∃d,o.dst=some d/\Q2 d n=true/\match o.guard with
  |none=>uM G P Γ D all k st0 ev j o
  |some (g,b)=>g∈aT o/\nsp all k g/\∃dg,dj (all.take k) g=some dg/\Q2 dg n=true/\((∃x,ev g= .one (db x)/\(x=b->uM G P Γ D all k st0 ev j o)/\(x≠b->ev j= .one .und))\/(ev g= .one .und/\ev j= .one .und))
structure lF (G:Sg)(all:List Oper)(k:Nat)(st0:St G)(ev:Nat->EV G)(i:Nat)(st:St G):Prop where
 L:st.L=st0.L
 T:st.T=st0.T
 c:st.c=st0.c
 env:∀e∈st.env,(∃j,j<i/\dj (all.take k) j=some e.1/\ev j=e.2.2/\e.2.1=st0.c/\nsp all k j)\/((∀j,j<i->dj (all.take k) j≠some e.1)/\e∈st0.env)
structure Dis (all:List Oper)(k n:Nat):Prop where
 ed:kW all=true
 ne:∀(i j:Nat) (d:Nat),dj (all.take k) i=some d->dj (all.take k) j=some d->i=j
theorem Pd {os:List Oper}{j d:Nat}:dj os j=some d↔ ∃o,os[j]? =some o/\o.dst=some d:=by
 unfold dj bW;cases ho:os[j]? with
 |none=>simp[ho]
 |some o=>simp[ho]
theorem zn (he:kW all=true)(J:qP (all.take k) n=true):Dis all k n:=by
 refine⟨he,λi j d hi hj=>?_⟩;obtain⟨o,Z,a0⟩:=Pd.1 hi;obtain⟨o',W,a1⟩:=Pd.1 hj;unfold qP at J;rw[Q4] at J;have h1:=Qe.1 J.2 (o,i) (by rw[Qb];exact Z);have h:=Qe.1 h1 (o',j) (by rw[Qb];exact W);simp only[a0,a1,Qm,Qc] at h;rcases h with h|h
 ·exact Jn h
 ·simp at h
theorem xA {ev:Nat->EV G}{st0:St G}{i:Nat}{o:Oper}(hD:Dis all k n)(ho:all[i]? =some o)(hc:lF G all k st0 ev i st):oK G all k st0 ev i o (visρ all k i o st):=by
 intro x e J;cases x with
 | tmp t=>
  simp only[visρ] at J;split at J
  ·rename_i hv
   simp only[St.op] at J;split at J
   ·rename_i e' he
    injection J with J;subst J
    have hm:=gC he
    have a2:∀q W,(all.take k)[q]? =some W->W.dst=some t->q∈aT o\/i∈aT W:=by
     intro q W hq a1;have:=Qe.1 hv (W,q) (by rw[Qb];exact hq);simp only[a1,Qm,Qc] at this;rcases this with(h|h)|h
     ·simp at h
     ·obtain⟨p,hp,Z⟩:=Q7.1 h
      have:=Jn Z;subst this;exact .inl hp
     ·obtain⟨p,hp,Z⟩:=Q7.1 h
      have:=Jn Z;subst this;exact .inr hp
    rcases hc.env _ hm with⟨j,hj,a3,a4,_,a6⟩|⟨a9,h0⟩
    ·obtain⟨oj,a0,a5⟩:=Pd.1 a3
     rcases a2 j oj a0 a5 with h|h
     ·exact .inl ⟨j,h,hj,a3,a4,a6⟩
     ·exfalso
      have b0:all[j]? =some oj:=by
       rw[Qg] at a0;split at a0
       ·exact a0
       ·cases a0
      have:=iM hD.ed b0 i h;omega
    ·refine .inr ⟨⟨e'.1,h0⟩,λq W hq a1=>?_⟩
     rcases a2 q W hq a1 with h|h
     ·exfalso
      have:=iM hD.ed ho q h;exact a9 q this (Pd.2 ⟨W,hq,a1⟩)
     ·exact h
   ·cases J
  ·cases J
 | const v=>
  simp only[visρ,St.op] at J;split at J
  ·rename_i b Z
   injection J with J;subst J
   exact⟨b,Z,rfl⟩
  ·cases J
 |_=>simp[visρ,St.op] at J
theorem lF.step {ev ev':Nat->EV G}{st0:St G}{i d:Nat}{e:EV G}(a0:nsp all k i)(W:lF G all k st0 ev i st)(hd:dj (all.take k) i=some d)(he:ev' i=e)(a1:∀j,j<i->ev' j=ev j):lF G all k st0 ev' (i+1) (st.put d e):=by
 refine⟨W.L,W.T,W.c,λx hx=>?_⟩;rcases Q6.1 hx with rfl|hx
 ·exact .inl ⟨i,by omega,hd,he,W.c,a0⟩
 ·obtain⟨h1,h2⟩:=kf hx
  rcases W.env x h1 with⟨j,hj,Z,h4,h5⟩|⟨Z,h4⟩
  ·exact .inl ⟨j,by omega,Z,by rw[a1 j hj];exact h4,h5⟩
  ·refine .inr ⟨λj hj J=>?_,h4⟩
   rcases Qr j i with h|h
   ·exact Z j h J
   ·have:j=i:=by omega
    subst this;rw[hd] at J;injection J with J
    exact h2 J.symm
theorem lF.lit {ev:Nat->EV G}{st0:St G}{i gi dg:Nat}{x:Bool}(hD:Dis all k n)(J:lF G all k st0 ev i st)(hg:dj (all.take k) gi=some dg)(a0:gi<i)(W:gd (st.op (.tmp dg))=some (some x)):
  ev gi= .one (db x)/\nsp all k gi/\lF G all k st0 ev i (st.put dg (.one (db x))):=by
 have key:ev gi= .one (db x)/\nsp all k gi:=by
  unfold gd at W;split at W
  ·rename_i b Z
   have:b=db x:=by
    cases b with
    |dat t y oo=>
     cases t<;>cases oo<;>simp only[AV.g?,reduceCtorEq] at W;obtain rfl:=Option.some.inj (Option.some.inj W)
     rfl
    |_=>simp[AV.g?] at W
   subst this;cases h:lke st.env dg with
   |none=>simp[St.op,h,av?] at Z
   | some e=>
    simp only[St.op,h] at Z;have hm:=gC h
    have a2:e.2= .one (db x):=by
     cases h2:e.2 with
     |one v=>simp only[h2,av?,Option.some.injEq] at Z;rw[Z]
     |tup vs=>simp[h2,av?] at Z
    rcases J.env _ hm with⟨j,hj,h3,h4,_,a1⟩|⟨h3,_⟩
    ·have:=hD.ne gi j dg hg h3
     subst this;rw[h4];exact⟨a2,a1⟩
    ·exact absurd hg (h3 gi a0)
  ·cases W
 refine⟨key.1,key.2,J.L,J.T,J.c,λe h=>?_⟩;rcases Q6.1 h with rfl|h
 ·exact .inl ⟨gi,a0,hg,key.1,J.c,key.2⟩
 ·exact J.env e (kf h).1
theorem lF.und {ev:Nat->EV G}{st0:St G}{i gi W:Nat}(hD:Dis all k n)(hc:lF G all k st0 ev i st)(hg:dj (all.take k) gi=some W)(a2:gi<i)(J:gd (st.op (.tmp W))=some none):ev gi= .one .und/\nsp all k gi:=by
 unfold gd at J;split at J
 ·rename_i b h
  have:b= .und:=by
   cases b with
   |und=>rfl
   |dat t y oo=>cases t<;>cases oo<;>simp[AV.g?] at J
   |_=>simp[AV.g?] at J
  subst this;cases he:lke st.env W with
  |none=>simp[St.op,he,av?] at h
  | some e=>
   simp only[St.op,he] at h;have hm:=gC he
   have a1:e.2= .one .und:=by
    cases h2:e.2 with
    |one v=>simp only[h2,av?,Option.some.injEq] at h;rw[h]
    |tup vs=>simp[h2,av?] at h
   rcases hc.env _ hm with⟨j,hj,Z,h4,_,a0⟩|⟨Z,_⟩
   ·have:=hD.ne gi j W hg Z
    subst this;rw[h4];exact⟨a1,a0⟩
   ·exact absurd hg (Z gi a2)
 ·cases J
theorem s9 {ρ:Type} {K:St G->Option ρ} {r:ρ} {st0:St G} (hD:Dis all k n):∀{os rest:List Oper} {i:Nat} {st:St G} {ev:Nat->EV G},(all.take k).drop i=os++rest->(∀o∈os,ie o=false)->lF G all k st0 ev i st->iO n Γ D all k i os st K=some r->
  ∃ev' a6,(∀j,j<i->ev' j=ev j)/\(∀j o,i<=j->j<i+os.length->(all.take k)[j]? =some o->OpF G P Γ D n all k st0 ev' j o)/\K a6=some r/\lF G all k st0 ev' (i+os.length) a6:=by
 intro os
 induction os with
 |nil=>
  intro rest i st ev b4 _ hc h;exact⟨ev,st,λ_ _=>rfl,λj o hj b6 ho=>by simp at b6;omega,h,hc⟩
 | cons o os ih=>
  intro rest i st ev b4 b7 hc h
  have ho:(all.take k)[i]? =some o:=by
   have:=congrArg (·[0]?) b4;simpa using this
  have c0:all[i]? =some o:=by
   rw[Qg] at ho;split at ho
   ·exact ho
   ·cases ho
  have c7:(all.take k).drop (i+1)=os++rest:=by rw[←Z7,b4];rfl
  have c3:∀o∈os,ie o=false:=λo' d1=>b7 o' (List.mem_cons_of_mem _ d1);have c4:nsp all k i:=λoq b3=>by rw[ho] at b3;injection b3 with b3;subst b3;exact b7 o (by simp)
  have go:∀{a2:St G} {e:EV G} {d:Nat},o.dst=some d->Q2 d n=true->lF G all k st0 ev i a2->iO n Γ D all k (i+1) os (a2.put d e) K=some r->
    (∀ev':Nat->EV G,(∀j,j<i->ev' j=ev j)->ev' i=e->OpF G P Γ D n all k st0 ev' i o)->
    ∃ev' a6,(∀j,j<i->ev' j=ev j)/\(∀j o',i<=j->j<i+(o::os).length->(all.take k)[j]? =some o'->OpF G P Γ D n all k st0 ev' j o')/\K a6=some r/\lF G all k st0 ev' (i+(o::os).length) a6:=by
   intro a2 e d Z a0 a1 h1 hf;have c5:=lF.step c4 a1 (ev':=λj=>if j=i then e else ev j) (Pd.2 ⟨o,ho,Z⟩) (if_pos rfl) (λj hj=>if_neg (by omega));obtain⟨ev',a6,q1,q2,q3,q4⟩:=ih c7 c3 c5 h1;have e1:∀j,j<i->ev' j=ev j:=λj hj=>by rw[q1 j (by omega)];exact if_neg (by omega)
   have e2:ev' i=e:=by rw[q1 i (by omega)];exact if_pos rfl
   refine⟨ev',a6,e1,λj oj hj b6 b2=>?_,q3,by rw[List.length_cons,show i+(os.length+1)=i+1+os.length by omega];exact q4⟩;rw[List.length_cons] at b6;rcases Qr i j with hij|hij
   ·exact q2 j oj (by omega) (by omega) b2
   ·have:j=i:=by omega
    subst this;rw[ho] at b2;injection b2 with b2;subst b2
    exact hf ev' e1 e2
  have reads:∀{a2:St G},lF G all k st0 ev i a2->∀ev':Nat->EV G,(∀j,j<i->ev' j=ev j)->oK G all k st0 ev' i o (visρ all k i o a2):=by
   intro a2 a1 ev' J x e hx;have:=xA hD c0 a1 x e hx;cases x with
   |tmp t=>
    rcases this with⟨q,h1,h2,h3,h4,h5⟩|h
    ·exact .inl ⟨q,h1,h2,h3,by rw[J q h2];exact h4,h5⟩
    ·exact .inr h
   |_=>exact this
  have b5:∀{a2:St G} {R:gr G} {b:R.β},lF G all k st0 ev i a2->pg Γ D (visρ all k i o a2) (d7 st.L) o.op=some R->R.mv=some b->∀ev':Nat->EV G,(∀j,j<i->ev' j=ev j)->ev' i=R.k b->uM G P Γ D all k st0 ev' i o:=by
   intro a2 R b a1 hR W ev' J hi;exact⟨R,b,_,by rw[hc.L] at hR;exact hR,W,hi,reads a1 ev' J⟩
  unfold iO at h;split at h
  ·rename_i d Z
   split at h
   ·rename_i a0 a9
    split at h
    ·rename_i R hR
     cases W:R.mv with
     |none=>simp[W] at h
     |some b=>
      simp only[W,Z2] at h;refine go Z a0 hc h λev' J hi=>⟨d,Z,a0,?_⟩
      rw[a9];exact b5 hc hR W ev' J hi
    ·cases h
   ·rename_i g b a0 a9
    split at h
    ·rename_i dg c6 a3
     have b1:g∈aT o:=by
      obtain⟨e,J,W⟩:=Q7.1 c6;have:=Jn W;subst this;exact J
     have a5:=iM hD.ed c0 g b1;split at h
     ·rename_i x b0 hx
      obtain⟨k1,kn,a1⟩:=lF.lit hD hc a3 a5 hx;split at h
      ·rename_i c1
       rw[c1] at k1 a1;split at h
       ·split at h
        ·rename_i R hR
         cases W:R.mv with
         |none=>simp[W] at h
         |some b=>
          simp only[W,Z2] at h;refine go Z a0 a1 h λev' J hi=>⟨d,Z,a0,?_⟩
          rw[a9];exact⟨b1,kn,dg,a3,b0,.inl ⟨true,by rw[J g a5];exact k1,λ_=>b5 a1 hR W ev' J hi,λa4=>absurd rfl a4⟩⟩
        ·cases h
       ·refine go Z a0 a1 h λev' J hi=>⟨d,Z,a0,?_⟩
        rw[a9];exact⟨b1,kn,dg,a3,b0,.inl ⟨true,by rw[J g a5];exact k1,(λa4=>Qv a4),λ_=>hi⟩⟩
      ·rename_i d0
       have c2:x=false:=by simpa using d0
       rw[c2] at k1 a1;split at h
       ·split at h
        ·rename_i R hR
         cases W:R.mv with
         |none=>simp[W] at h
         |some b=>
          simp only[W,Z2] at h;refine go Z a0 a1 h λev' J hi=>⟨d,Z,a0,?_⟩
          rw[a9];exact⟨b1,kn,dg,a3,b0,.inl ⟨false,by rw[J g a5];exact k1,λ_=>b5 a1 hR W ev' J hi,λa4=>absurd rfl a4⟩⟩
        ·cases h
       ·refine go Z a0 a1 h λev' J hi=>⟨d,Z,a0,?_⟩
        rw[a9];exact⟨b1,kn,dg,a3,b0,.inl ⟨false,by rw[J g a5];exact k1,(λa4=>Qv a4),λ_=>hi⟩⟩
     ·rename_i b0 hx
      obtain⟨k1,kn⟩:=lF.und hD hc a3 a5 hx;refine go Z a0 hc h λev' J hi=>⟨d,Z,a0,?_⟩
      rw[a9];exact⟨b1,kn,dg,a3,b0,.inr ⟨by rw[J g a5];exact k1,hi⟩⟩
     ·cases h
    ·cases h
   ·cases h
  ·cases h
theorem vu {g W:Nat}(h:dj (all.take k) g=some W):bW all.toArray g=some W:=by
 obtain⟨o,J,Z⟩:=Pd.1 h;rw[Qg] at J;split at J
 ·exact Pd.2 ⟨o,J,Z⟩
 ·cases J
theorem ju {j:Nat}{o:Oper}(h:(all.take k)[j]? =some o):all[j]? =some o/\j<k:=by
 rw[Qg] at h;split at h
 ·exact⟨h, ‹_›⟩
 ·cases h
theorem ph {j:Nat}{o:Oper}(h:all[j]? =some o)(J:j<k):(all.take k)[j]? =some o:=by
 rw[Qg,if_pos J];exact h
theorem fk.drew {Ls:List (Nat×BC G)}{Ts:List Nat}(h:fk G W0 L0 T0 Ls Ts m z w):fk G W0 L0 T0 Ls Ts m z w.drew:=by
 obtain⟨Lc,J,h1,Z,W,h4⟩:=h;exact⟨Lc,J,h1,Z,W.drew,h4⟩
def OJ (G:Sg)(P:Program)(δ:List Nat)(n:Nat)(W0:Bse)(L0:Rs)(T0:List (Nat×Value))(all:List Oper)(k:Nat)(st:St G)(ev:Nat->EV G)(m:M)(z:Cz)(s:Nat->Bool)(a:Act)(w:World):Prop:=
 ∃ m',M.le m m'/\fk G W0 L0 T0 st.L st.T m' z w/\(a.defers=δ.map λD=>{ target:= .collected D,args:= #[] })/\a.tmps.size=n/\
   (∀(j:Nat) (o:Oper),(all.take k)[j]? =some o->s j=true->∀d,o.dst=some d->(ev j).Rel G P m' z (a.tmps.getD d undef))/\
   (∀e∈st.env,(∀(j:Nat) (o:Oper),(all.take k)[j]? =some o->o.dst=some e.1->s j=false)->e.2.2.Rel G P m' z (a.tmps.getD e.1 undef))
theorem OJ.reads {ev:Nat->EV G}{s:Nat->Bool}(hJ:OJ G P δ n W0 L0 T0 all k st ev m z s a w){i:Nat}{o:Oper}(a2:s i=false)(a3:∀e∈aT o,s e=true)(a1:∀(j:Nat)(o':Oper),all[j]? =some o'->s j=true->∀e∈aT o',s e=true)
  {ρ:Operand->Option (EV G)} (hR:oK G all k st ev i o ρ):∃m',∀x e,ρ x=some e->e.Rel G P m' z (a.eval x):=by
 obtain⟨m',hm,a6,a5,a9,a4,a0⟩:=hJ;refine⟨m',λx e hx=>?_⟩;have:=hR x e hx;cases x with
 | tmp t=>
  rcases this with⟨q,h,h2,h3,h4,_⟩|⟨⟨lv,h⟩,h2⟩
  ·obtain⟨W,J,Z⟩:=Pd.1 h3
   rw[←h4];exact a4 q W J (a3 q h) t Z
  ·refine a0 _ h λq W J Z=>?_
   cases hsq:s q with
   |false=>rfl
   |true=>
    have:=a1 q W (ju J).1 hsq i (h2 q W J Z);rw[a2] at this;cases this
 |const v=>
  obtain⟨b,h,rfl⟩:=this;exact t6 h
 |_=>exact this.elim
theorem td {ev:Nat->EV G}(hD:Dis all k n)(c4:∀j o,(all.take k)[j]? =some o->OpF G P Γ D n all k st ev j o)(i:Nat)(o:Oper)(c7:all[i]? =some o)(e4:i<k)(s:Nat->Bool)(a:Act)(w:World)(hJ:OJ G P δ n W0 L0 T0 all k st ev m z s a w)(d2:s i=false)
  (c1:∀e∈aT o,s e=true) (c6:∀(j:Nat) (o':Oper),all[j]? =some o'->s j=true->∀e∈aT o',s e=true):
  if Region.wanted o (yielded all.toArray a.tmps)=true then aM P o a w (λv w'=>OJ G P δ n W0 L0 T0 all k st ev m z (upd s i) (a.put o.dst v) w') else OJ G P δ n W0 L0 T0 all k st ev m z (upd s i) (a.put o.dst undef) w:=by
 obtain⟨m',hm,b6,b4,a9,b3,b5⟩:=hJ;have a6:=ph c7 e4;obtain⟨d,hd,d1,a5⟩:=c4 i o a6;have c5:d<n:=Q0 d1
 have reads:∀{ρ:Operand->Option (EV G)},oK G all k st ev i o ρ->∀x e,ρ x=some e->e.Rel G P m' z (a.eval x):=by
  intro ρ hR x e hx;have:=hR x e hx;cases x with
  | tmp t=>
   rcases this with⟨q,h,J,h3,h4,_⟩|⟨⟨lv,h⟩,J⟩
   ·obtain⟨oq,a4,a2⟩:=Pd.1 h3
    rw[←h4];exact b3 q oq a4 (c1 q h) t a2
   ·refine b5 _ h λq oq a4 a2=>?_
    cases hsq:s q with
    |false=>rfl
    |true=>
     have:=c6 q oq (ju a4).1 hsq i (J q oq a4 a2);rw[d2] at this;cases this
  |const v=>
   obtain⟨b,h,rfl⟩:=this;exact t6 h
  |_=>exact this.elim
 have next:∀(v:Value) (w':World) (a0:M),M.le m' a0->fk G W0 L0 T0 st.L st.T a0 z w'->(ev i).Rel G P a0 z v->
   ∃m',M.le m m'/\fk G W0 L0 T0 st.L st.T m' z w'/\((a.put o.dst v).defers=δ.map λD=>{ target:= .collected D,args:= #[] })/\(a.put o.dst v).tmps.size=n/\
    (∀(j:Nat) (o':Oper),(all.take k)[j]? =some o'->upd s i j=true->∀d,o'.dst=some d->(ev j).Rel G P m' z ((a.put o.dst v).tmps.getD d undef))/\
    (∀e∈st.env,(∀(j:Nat) (o:Oper),(all.take k)[j]? =some o->o.dst=some e.1->upd s i j=false)->e.2.2.Rel G P m' z ((a.put o.dst v).tmps.getD e.1 undef)):=by
  intro v w' a0 b2 e1 hv;rw[hd];refine⟨a0,hm.trans b2,e1,by simp[Act.put,b4],by simp[Act.put,a9],λj oj W hu e a1=>?_,λe he c0=>?_⟩
  ·by_cases hji:j=i
   ·subst hji
    rw[a6] at W;injection W with W;subst W
    rw[hd] at a1;injection a1 with a1;subst a1
    simpa[Act.put,a9,c5] using hv
   ·unfold upd at hu
    rw[if_neg hji] at hu;have h:=(b3 j oj W hu e a1).mono b2
    have b1:d≠e:=λx=>by
     subst x;exact hji (hD.ne j i d (Pd.2 ⟨oj,W,a1⟩) (Pd.2 ⟨o,a6,hd⟩))
    simpa[Act.put,Array.getElem?_setIfInBounds_ne b1] using h
  ·have b1:d≠e.1:=λx=>by
    have:=c0 i o a6 (by rw[hd,x]);simp[upd] at this
   have h:=(b5 e he λj oj W a2=>by
    have:=c0 j oj W a2;unfold upd at this;split at this
    ·cases this
    ·exact this).mono b2
   simpa[Act.put,Array.getElem?_setIfInBounds_ne b1] using h
 have run:uM G P Γ D all k st ev i o->aM P o a w (λv w'=>∃m',M.le m m'/\fk G W0 L0 T0 st.L st.T m' z w'/\((a.put o.dst v).defers=δ.map λD=>{ target:= .collected D,args:= #[] })/\(a.put o.dst v).tmps.size=n/\
    (∀(j:Nat) (o':Oper),(all.take k)[j]? =some o'->upd s i j=true->∀d,o'.dst=some d->(ev j).Rel G P m' z ((a.put o.dst v).tmps.getD d undef))/\
    (∀e∈st.env,(∀(j:Nat) (o:Oper),(all.take k)[j]? =some o->o.dst=some e.1->upd s i j=false)->e.2.2.Rel G P m' z ((a.put o.dst v).tmps.getD e.1 undef))):=by
  rintro ⟨R,b,ρ,hR,hb,he,e0⟩;obtain⟨dst,op,ty,pos,aft,g⟩:=o;simp only at hd;subst hd;refine(xz (d:=d) b4 a9 b6 (reads e0) R b hR hb).imp λv w' hq=>?_;obtain⟨a0,h,J,h3⟩:=hq;exact next v w' a0 h J (by rw[he];exact h3)
 have b7:ev i= .one .und->∃m',M.le m m'/\fk G W0 L0 T0 st.L st.T m' z w/\((a.put o.dst undef).defers=δ.map λD=>{ target:= .collected D,args:= #[] })/\(a.put o.dst undef).tmps.size=n/\
    (∀(j:Nat) (o':Oper),(all.take k)[j]? =some o'->upd s i j=true->∀d,o'.dst=some d->(ev j).Rel G P m' z ((a.put o.dst undef).tmps.getD d undef))/\
    (∀e∈st.env,(∀(j:Nat) (o:Oper),(all.take k)[j]? =some o->o.dst=some e.1->upd s i j=false)->e.2.2.Rel G P m' z ((a.put o.dst undef).tmps.getD e.1 undef)):=
  λhe=>next undef w m' (Q8 m') b6 (by rw[he];rfl)
 cases hg:o.guard with
 |none=>
  rw[hg] at a5;have Z:Region.wanted o (yielded all.toArray a.tmps)=true:=by simp[Region.wanted,hg]
  rw[if_pos Z];exact run a5
 | some gb=>
  obtain⟨g,b⟩:=gb;rw[hg] at a5;obtain⟨d0,_,dg,b0,c2,hx⟩:=a5;obtain⟨og,c3,e3⟩:=Pd.1 b0;have a3:=b3 g og c3 (c1 g d0) dg e3;rcases hx with⟨x,h,J,h3⟩|⟨h,J⟩
  ·rw[h] at a3
   have hv:a.tmps.getD dg undef= .bool x:=dU a3.1;have hy:=pf (all:=all) a9 (vu b0) c2 hv
   by_cases hxb:x=b
   ·have Z:Region.wanted o (yielded all.toArray a.tmps)=true:=by simp[Region.wanted,hg,hy,hxb]
    rw[if_pos Z];exact run (J hxb)
   ·have Z: ¬ Region.wanted o (yielded all.toArray a.tmps)=true:=by simp[Region.wanted,hg,hy,hxb]
    rw[if_neg Z];exact b7 (h3 hxb)
  ·rw[h] at a3
   have hv:a.tmps.getD dg undef=undef:=a3;have hy:=l7 (vu b0) hv;have Z: ¬ Region.wanted o (yielded all.toArray a.tmps)=true:=by simp[Region.wanted,hg,hy]
   rw[if_neg Z];exact b7 J
theorem zo {ρ:Type}{ev:Nat->EV G}{h:St G}(W:lF G all k st ev (all.take k).length h)(h0:M.le m0 m)(a:Act)(w:World){s:Nat->Bool}(hJ:OJ G P δ n W0 L0 T0 all k st ev m z s a w)(a1:∀j,j<k->j<all.length->s j=true):
  Sat G P δ n W0 L0 T0 m0 h a w/\Ext st.c st h:=by
 obtain⟨m',hm,a4,a2,a6,a9,a3⟩:=hJ
 have a5:jd G P m' z h.env a:=by
  intro e he;rcases W.env e he with⟨j,hj,h3,Z,_⟩|⟨h3,Z⟩
  ·obtain⟨o,J,a0⟩:=Pd.1 h3
   rw[←Z];exact a9 j o J (a1 j (ju J).2 (zh.1 (ju J).1).1) e.1 a0
  ·refine a3 e Z λj o J a0=>?_
   exact absurd (Pd.2 ⟨o,J,a0⟩) (h3 j (zh.1 J).1)
 have b0:Sat G P δ n W0 L0 T0 m0 h a w:=⟨⟨m',z,h0.trans hm,a5,by rw[W.L,W.T];exact a4⟩,a2,a6⟩
 have hX:Ext st.c st h:=by
  refine⟨λq hq e he hl=>?_,λq hq i s B hb hs=>⟨s,hs,by rw[W.L] at hb;exact hb⟩⟩;rcases W.env e he with⟨j,_,_,_,h5,_⟩|⟨_,Z⟩
  ·omega
  ·exact⟨e.2.1,hl,Z⟩
 exact⟨b0,hX⟩
theorem HC {ρ:Type}{ro:Option Nat}{id:Nat}{K':St G->Option ρ}{r:ρ}{N Rt:Act->World->Prop}{X:List (Nat×(Act->World->Prop))}(a0:(all.take k).any ie=false)(a2:P.follows .mixedOrders=true)(hs:Sat G P δ n W0 L0 T0 m0 st a w)(hD:Dis all k n)(a4:lJ all k=true)
  (h:iO n Γ D all k 0 (all.take k) st (λst'=>gc n Γ D all (all.drop k) st' K')=some r) (hN:Nxt G P δ n W0 L0 T0 m0 K' r st N):K ro P (.region id all.toArray true) N X Rt a w:=by
 obtain⟨⟨m,z,h0,hr,hM⟩,hdf,hsz⟩:=hs
 have a5:∀o∈all.take k,ie o=false:=λo W=>by
  cases hq:ie o with
  |false=>rfl
  |true=>rw[Q7.2 ⟨o,W,hq⟩] at a0;cases a0
 obtain⟨ev,a9,_,hF,hK,J⟩:=s9 (G:=G) (P:=P) (st0:=st) (ev:=λ_=> .one .und) hD (i:=0) (rest:=[]) (by simp) a5 ⟨rfl,rfl,rfl,λe Z=> .inr ⟨λj hj=>by omega,Z⟩⟩ h;rw[Zb] at J;have a3:∀j o,(all.take k)[j]? =some o->OpF G P Γ D n all k st ev j o:=λj o W=>hF j o (Nat.zero_le _) (by have:=(zh.1 W).1;omega) W;refine yL (k:=k) a2 hD.ed a4 (OJ G P δ n W0 L0 T0 all k st ev m z) ?_ (td hD a3) ?_
 ·exact⟨m,Q8 m,hM.drew,hdf,hsz,(λj o _ h=>Qv h),λe Z _=>hr e Z⟩
 ·intro s a w hJ a1
  obtain⟨a6,hX⟩:=zo (ρ:=ρ) J h0 a w hJ a1;exact uK hK a6 λst' a' w' q1 q2 q3 q4=>ag (hN st' a' w' q1 q2 (hX.trans (by rw[J.c] at q3;exact q3)) (by rw[q4,J.c]))
end
section
variable {G:Sg}{P:Program}{δ:List Nat}{n:Nat}{W0:Bse}{L0:Rs}{T0:List (Nat×Value)}{m m0:M}{z:Cz}{st:St G}{a:Act}{w:World}{Γ:Tab P G}{D:List (CS P G)}{g:Option (Nat×Bool)}{all:List Oper}{k:Nat}
theorem S.comm {A B C:List (Nat×List Value)}{TL:List (Nat×Value)}(h:S W0 m w (A++(B++C)) TL):S W0 m w (B++(A++C)) TL:=by
 refine h.selL _ (λi=>if i<B.length then i+A.length else if i<B.length+A.length then i - B.length else i) (λi e J=>?_) (λi j W=>?_)
 ·by_cases h1:i<B.length
  ·rw[if_pos h1]
   rw[Q1 h1] at J;rw[zw (by omega),Q1 (by omega),show i+A.length - A.length=i by omega];exact J
  ·rw[if_neg h1]
   rw[zw (by omega)] at J
   by_cases h2:i<B.length+A.length
   ·rw[if_pos h2]
    rw[Q1 (by omega)] at J;rw[Q1 (by omega)];exact J
   ·rw[if_neg h2]
    rw[zw (by omega)] at J;rw[zw (by omega),zw (by omega),show i - A.length - B.length=i - B.length - A.length by omega];exact J
 ·split at W<;>split at W<;>(try split at W)<;>(try split at W)<;>omega
def zp (G:Sg)(m:M)(z:Cz)(done:Bool)(a:Act):Sp G->Nat×List Value->Prop
 | .al d t x,e=>match done with
  |true=>a.tmps.getD d undef= .pointer (some ⟨e.1,0,none⟩)/\(t.kd G).R m e.2 x
  |false=>e.2=[]
 | .so i t x,e=>∃p,fb z.b i=some p/\e.1=p.1/\match done with
  |true=>(t.kd G).R m e.2 x
  |false=>∃y,(t.kd G).R m e.2 y
def FrR (G:Sg)(m:M)(z:Cz)(s:Nat->Bool)(a:Act):List (Nat×Sp G)->List (Nat×List Value)->Prop
 |[],[]=>True
 |q::r,e::Fr=>zp G m z (s q.1) a q.2 e/\FrR G m z s a r Fr
 |_,_=>False
theorem zp.step {m':M}{b:Bool}{sp:Sp G}{e:Nat×List Value}{a':Act}(h:zp G m z b a sp e)(hm:M.le m m')(ha:∀d t x,sp= .al d t x->a'.tmps.getD d undef=a.tmps.getD d undef):zp G m' z b a' sp e:=by
 cases sp with
 |al d t x=>
  cases b with
  |true=>obtain⟨Z,W⟩:=h;exact⟨by rw[ha d t x rfl];exact Z,(t.kd G).mono hm W⟩
  |false=>exact h
 |so i t x=>
  obtain⟨p,Z,W,J⟩:=h;cases b with
  |true=>exact⟨p,Z,W,(t.kd G).mono hm J⟩
  |false=>obtain⟨y,J⟩:=J;exact⟨p,Z,W,y,(t.kd G).mono hm J⟩
theorem FrR.step {m':M}{s s':Nat->Bool}{a':Act}:∀{J:List (Nat×Sp G)} {Fr:List (Nat×List Value)},FrR G m z s a J Fr->M.le m m'->(∀q∈J,s' q.1=s q.1/\∀d t x,q.2= .al d t x->a'.tmps.getD d undef=a.tmps.getD d undef)->FrR G m' z s' a' J Fr:=by
 intro J
 induction J with
 |nil=>intro Fr h _ _;cases Fr with|nil=>trivial|cons e Fr=>exact h.elim
 | cons q r ih=>
  intro Fr h Z W;cases Fr with
  |nil=>exact h.elim
  |cons e Fr=>
   obtain⟨h1,h2⟩:=h;obtain⟨q1,q2⟩:=W q (by simp);exact⟨by rw[q1];exact h1.step Z q2,ih h2 Z λx hx=>W x (by simp[hx])⟩
theorem FrR.zz {z':Cz}{s:Nat->Bool}(Z:∀i p,fb z.b i=some p->fb z'.b i=some p):∀{J:List (Nat×Sp G)} {Fr:List (Nat×List Value)},FrR G m z s a J Fr->FrR G m z' s a J Fr:=by
 intro J
 induction J with
 |nil=>intro Fr h;cases Fr with|nil=>trivial|cons e Fr=>exact h.elim
 | cons q r ih=>
  intro Fr h;cases Fr with
  |nil=>exact h.elim
  |cons e Fr=>
   obtain⟨W,h2⟩:=h;refine⟨?_,ih h2⟩;obtain⟨j,sp⟩:=q;cases sp with
   |al d t x=>exact W
   |so i t x=>obtain⟨p,k1,k2⟩:=W;exact⟨p,Z i p k1,k2⟩
theorem FrR.set {s:Nat->Bool}:∀{J:List (Nat×Sp G)} {Fr:List (Nat×List Value)} {i:Nat} {sp:Sp G},FrR G m z s a J Fr->(i,sp)∈J->(J.map Prod.fst).Nodup->
  ∃p e,Fr[p]? =some e/\zp G m z (s i) a sp e/\∀(m':M) (a':Act) (e':Nat×List Value),M.le m m'->zp G m' z true a' sp e'->(∀q∈J,q.1≠i->∀d t x,q.2= .al d t x->a'.tmps.getD d undef=a.tmps.getD d undef)->FrR G m' z (upd s i) a' J (Fr.set p e'):=by
 intro J
 induction J with
 |nil=>intro Fr i sp _ hi;cases hi
 | cons q r ih=>
  intro Fr i sp h hi hn;cases Fr with
  |nil=>exact h.elim
  | cons e Fr=>
   obtain⟨h1,h2⟩:=h;simp only[Qq,List.nodup_cons] at hn;obtain⟨a0,a1⟩:=hn;rcases Q6.1 hi with hq|hi
   ·subst hq
    refine⟨0,e,rfl,h1,λm' a' e' Z he ha=>⟨?_,?_⟩⟩
    ·rw[show upd s i i=true from if_pos rfl];exact he
    ·refine h2.step Z λx hx=>?_
     have W:x.1≠i:=λe=>by
      have h5:=Qu (f:=Prod.fst) hx;rw[e] at h5;exact a0 h5
     exact⟨if_neg W,ha x (by simp[hx]) W⟩
   ·obtain⟨p,e1,k1,k2,k3⟩:=ih h2 hi a1
    have W:q.1≠i:=λe=>a0 (by rw[e];exact Qu (f:=Prod.fst) hi);refine⟨p+1,e1,k1,k2,λm' a' e' Z he ha=>⟨?_,k3 m' a' e' Z he λx hx=>ha x (by simp[hx])⟩⟩;rw[show upd s i q.1=s q.1 from if_neg W];exact h1.step Z (ha q (by simp) W)
theorem DI {c:Nat}{X:List (Nat×List Value)}{TL:List (Nat×Value)}{Ls:List (Nat×BC G)}{Lc:List (Nat×List Value)}(h1:LR G m Ls z.b Lc)(hS:S W0 m w (Lc++X) TL):∀{gs:List (Option Nat)},gOK (d7 Ls) gs=true->
  ∃(W Fr:List (Nat×List Value)),LR G m (eY c gs Ls) z.b W/\S W0 m w (Fr++(W++X)) TL/\(∀j,(∀o∈gs,o≠some j)->fb (eY c gs Ls) j=fb Ls j)/\
   (∀h:List (Nat×Sp G),h.map (λq=>q.2.blk)=gs->(∀q∈h,∀i t x,q.2= .so i t x->∃y,d7 Ls i=some (.dat t y))->FrR G m z (λ_=>false) a h Fr):=by
 intro gs
 induction gs with
 |nil=>
  intro _;refine⟨Lc,[],h1,hS,λ_ _=>rfl,λh J _=>?_⟩;cases h with
  |nil=>trivial
  |cons q r=>simp at J
 | cons o gs ih=>
  intro hg;cases o with
  | none=>
   obtain⟨W,Fr,k1,k2,k3,k4⟩:=ih hg;refine⟨W,(0,[])::Fr,k1,k2.void 0,λj hj=>k3 j λo ho=>hj o (by simp[ho]),λh J Z=>?_⟩;cases h with
   |nil=>simp at J
   |cons q r=>
    simp only[Qq,List.cons.injEq] at J;obtain⟨a0,a2⟩:=J;refine⟨?_,k4 r a2 λx hx=>Z x (by simp[hx])⟩;obtain⟨j,sp⟩:=q;cases sp with
    |al d t x=>exact rfl
    |so i t x=>simp[Sp.blk] at a0
  | some i=>
   simp only[gOK,Q4] at hg;obtain⟨⟨a3,a5⟩,hg3⟩:=hg;obtain⟨W,Fr,k1,k2,k3,k4⟩:=ih hg3
   have b0:∀o∈gs,o≠some i:=λo ho e=>by
    subst e;have:gs.any (λj=>decide (j=some i))=true:=Q7.2 ⟨some i,ho,by simp⟩;rw[this] at a5;cases a5
   split at a3
   ·rename_i t y hB
    obtain⟨lv,a6⟩:=gt hB;have a9:fb (eY c gs Ls) i=some (lv,.dat t y):=by rw[k3 i b0];exact a6
    obtain⟨p,cs,j,g1,g2,g3,g4⟩:=k1.get a9;have g5:=g4 (c,.gone) p.2 [] rfl;rw[jr g1] at g5
    have e0:(Fr++(W++X))[Fr.length+j]? =some (p.1,cs):=by
     rw[zw (by omega),show Fr.length+j - Fr.length=j by omega];exact jt g2
    have a4:=k2.takeL e0
    have e1:(Fr++(W++X)).set (Fr.length+j) (p.1,[])=Fr++(W.set j (p.1,[])++X):=by
     rw[Z0 _ _ (by omega),show Fr.length+j - Fr.length=j by omega,kg g2]
    rw[e1] at a4;refine⟨_,(p.1,cs)::Fr,g5,a4,λq Z=>?_,λh J Z=>?_⟩
    ·show fb (sb (eY c gs Ls) i (c,.gone)) q=_
     rw[jb (λe=>Z (some i) (by simp) (by rw[e]))];exact k3 q λo ho=>Z o (by simp[ho])
    ·cases h with
     |nil=>simp at J
     | cons q r=>
      simp only[Qq,List.cons.injEq] at J;obtain⟨a0,a2⟩:=J;refine⟨?_,k4 r a2 λx hx=>Z x (by simp[hx])⟩;obtain⟨j',sp⟩:=q;cases sp with
      |al d t x=>simp[Sp.blk] at a0
      |so i' t' x=>
       simp only[Sp.blk,Option.some.injEq] at a0;subst a0;obtain⟨y',a1⟩:=Z (j',.so i' t' x) (by simp) i' t' x rfl;rw[hB] at a1;injection a1 with a1
       injection a1 with e2 e3
       subst e2;exact⟨p,g1,rfl,y,g3⟩
   ·cases a3
def gND:List (Option Nat)->Prop
 |[]=>True
 |none::r=>gND r
 |some i::r=>(∀o∈r,o≠some i)/\gND r
theorem IY {Z:Nat->Option (BC G)}:∀{gs:List (Option Nat)},gOK Z gs=true->gND gs:=by
 intro gs
 induction gs with
 |nil=>intro _;trivial
 | cons o gs ih=>
  intro h;cases o with
  |none=>exact ih h
  |some i=>
   simp only[gOK,Q4] at h;obtain⟨⟨_,J⟩,hg3⟩:=h;refine⟨λo W e=>?_,ih hg3⟩;subst e;have:gs.any (λj=>decide (j=some i))=true:=Q7.2 ⟨some i,W,by simp⟩;rw[this] at J;cases J
theorem HD {c:Nat}{Ls:List (Nat×BC G)}:∀{gs:List (Option Nat)},gOK (d7 Ls) gs=true->∀i,some i∈gs->∃lv,fb (eY c gs Ls) i=some (lv,.gone):=by
 intro gs
 induction gs with
 |nil=>intro _ i hi;cases hi
 | cons o gs ih=>
  intro W i hi;cases o with
  |none=>exact ih W i (by simpa using hi)
  | some q=>
   simp only[gOK,Q4] at W;obtain⟨⟨Z,_⟩,hg3⟩:=W;show∃lv,fb (sb (eY c gs Ls) q (c,.gone)) i=some (lv,.gone)
   by_cases hq:q=i
   ·subst hq
    have key:∀{gs:List (Option Nat)} {q:Nat} {e:Nat×BC G},fb Ls q=some e->∃e',fb (eY c gs Ls) q=some e':=by
     intro gs
     induction gs with
     |nil=>intro q e h;exact⟨e,h⟩
     | cons o gs ih2=>
      intro q e h;cases o with
      |none=>exact ih2 h
      |some j=>
       obtain⟨e',J⟩:=ih2 h;show∃e',fb (sb (eY c gs Ls) j (c,.gone)) q=some e'
       by_cases hj:j=q
       ·subst hj;exact⟨_,mg J⟩
       ·exact⟨e',by rw[jb hj];exact J⟩
    split at Z
    ·rename_i t y hB
     obtain⟨lv,a0⟩:=gt hB;obtain⟨e',J⟩:=key a0 (gs:=gs);exact⟨c,mg J⟩
    ·cases Z
   ·rw[jb hq]
    rcases Q6.1 hi with h|h
    ·injection h with h;exact absurd h.symm hq
    ·exact ih hg3 i h
theorem Ext.gone {gs:List (Option Nat)}:Ext st.c st { st with L:=eY st.c gs st.L }:=by
 induction gs with
 |nil=>exact Ext.refl _ _
 |cons o gs ih=>
  cases o with
  |none=>exact ih
  |some i=>exact ih.trans (Ext.setB (st:={ st with L:=eY st.c gs st.L }) (i:=i) (B:= .gone))
theorem IZ {X:List (Nat×List Value)}{TL:List (Nat×Value)}{nm:List (Nat×Value)}{s:Nat->Bool}:∀{J:List (Nat×Sp G)} {Fr Lc:List (Nat×List Value)} {st:St G} {z:Cz},FrR G m z s a J Fr->(∀q∈J,s q.1=true)->gND (J.map λq=>q.2.blk)->(∀i,some i∈J.map (λq=>q.2.blk)->∃lv,fb st.L i=some (lv,.gone))->
  jd G P m z st.env a->LR G m st.L z.b Lc->S W0 m w (Lc++(Fr++X)) TL->Sfx z.b nm->
  ∃(z':Cz) (W:List (Nat×List Value)),z'.t=z.t/\jd G P m z' (ki J st).env a/\LR G m (ki J st).L z'.b W/\S W0 m w (W++X) TL/\Sfx z'.b nm/\Ext st.c st (ki J st)/\(ki J st).c=st.c/\(ki J st).T=st.T:=by
 intro J
 induction J with
 |nil=>
  intro Fr Lc st z hF _ _ _ hr h1 hS a0;cases Fr with
  |nil=>exact⟨z,Lc,rfl,hr,h1,hS,a0,Ext.refl _ _,rfl,rfl⟩
  |cons e Fr=>exact hF.elim
 | cons q r ih=>
  intro Fr Lc st z hF hs a3 hg hr h1 hS a0;cases Fr with
  |nil=>exact hF.elim
  | cons e Fr=>
   obtain⟨a2,a9⟩:=hF;have Z:=hs q (by simp);have a4:∀q∈r,s q.1=true:=λx hx=>hs x (by simp[hx]);obtain⟨j,sp⟩:=q;simp only at Z;rw[Z] at a2;have a1:S W0 m w (e::(Lc++(Fr++X))) TL:=S.comm (A:=Lc) (B:=[e]) (C:=Fr++X) hS;cases sp with
   | al d t x=>
    obtain⟨f1,f2⟩:=a2;have b4:=h1.len.1
    have b1:jd G P m ⟨(e.1,undef)::z.b,z.t⟩ ((st.push (.dat t x)).put d (.one (.blk st.L.length))).env a:=by
     intro y hy;rcases Q6.1 hy with rfl|hy
     ·exact⟨_,by rw[←b4];exact iN,f1⟩
     ·exact(hr y (kf hy).1).z (Zle.pushB z _)
    have b5:gND (r.map λq=>q.2.blk):=a3
    obtain⟨z',W,k0,k1,k2,k3,k4,k5,k6,k7⟩:=ih (z:=⟨(e.1,undef)::z.b,z.t⟩) (Lc:=e::Lc) (st:=(st.push (.dat t x)).put d (.one (.blk st.L.length))) (a9.zz λi p h=>tZ h) a4 b5 (λi hi=>by
     obtain⟨lv,h⟩:=hg i (by simp only[Qq,Q6];exact .inr hi)
     exact⟨lv,tZ h⟩) b1 ⟨rfl,f2,h1⟩ a1 a0.cons
    exact⟨z',W,k0,k1,k2,k3,k4,Ext.push_put.trans k5,k6,k7⟩
   | so i t x=>
    obtain⟨p,f1,f2,f3⟩:=a2;have a6:(∀o∈r.map (λq=>q.2.blk),o≠some i)/\gND (r.map λq=>q.2.blk):=a3;obtain⟨lv,b2⟩:=hg i (by simp[Sp.blk]);obtain⟨p',cs,j',g1,g2,g3,g4⟩:=h1.get b2;rw[f1] at g1;injection g1 with g1;subst g1
    have b0:cs=[]:=g3;subst b0;have g5:=g4 (st.c,.dat t x) p.2 e.2 f3;rw[jr f1] at g5;have ee:e=(p.1,e.2):=by rw[←f2]
    rw[ee] at a1;have a5:=a1.putL (jt (l0:=Fr++X) g2);rw[kg g2] at a5
    obtain⟨z',W,k0,k1,k2,k3,k4,k5,k6,k7⟩:=ih (z:=z) (st:=st.setB i (.dat t x)) a9 a4 a6.2 (λq Z=>by
     obtain⟨b3,h⟩:=hg q (by simp only[Qq,Q6];exact .inr Z)
     exact⟨b3,by
      show fb (sb st.L i _) q=_
      rw[jb (λe=>a6.1 (some q) Z (by rw[e]))];exact h⟩) hr g5 a5 a0
    exact⟨z',W,k0,k1,k2,k3,k4,Ext.setB.trans k5,k6,k7⟩
def SpF (G:Sg)(P:Program)(Γ:Tab P G)(n:Nat)(all:List Oper)(k:Nat)(h:Nat->Option (BC G))(st0:St G)(ev:Nat->EV G)(j:Nat)(sp:Sp G):Prop:=
 ∃o ρ,(all.take k)[j]? =some o/\ie o=true/\ua n o.dst=true/\Cg Γ ρ h o=some sp/\oK G all k st0 ev j o ρ
theorem oK.congr {st0:St G}{ev ev':Nat->EV G}{j:Nat}{o:Oper}{ρ:Operand->Option (EV G)}(h:oK G all k st0 ev j o ρ)(Z:∀q,q<j->ev' q=ev q):oK G all k st0 ev' j o ρ:=by
 intro x e hx;have:=h x e hx;cases x with
 |tmp t=>
  rcases this with⟨q,h1,J,W,h4,h5⟩|h
  ·exact .inl ⟨q,h1,J,W,by rw[Z q J];exact h4,h5⟩
  ·exact .inr h
 |_=>exact this
theorem OpF.congr {st0:St G}{ev ev':Nat->EV G}{j:Nat}{o:Oper}(h:OpF G P Γ D n all k st0 ev j o)(hD:Dis all k n)(ho:all[j]? =some o)(W:∀q,q<j+1->ev' q=ev q):OpF G P Γ D n all k st0 ev' j o:=by
 have hx:uM G P Γ D all k st0 ev j o->uM G P Γ D all k st0 ev' j o:=by
  rintro ⟨R,b,ρ,h1,Z,J,h4⟩;exact⟨R,b,ρ,h1,Z,by rw[W j (by omega)];exact J,h4.congr λq hq=>W q (by omega)⟩
 obtain⟨d,h1,Z,J⟩:=h;refine⟨d,h1,Z,?_⟩;cases hg:o.guard with
 |none=>rw[hg] at J;exact hx J
 |some gb=>
  obtain⟨g,b⟩:=gb;rw[hg] at J;obtain⟨k1,k2,dg,k3,k4,k5⟩:=J;have a0:=iM hD.ed ho g k1;refine⟨k1,k2,dg,k3,k4,?_⟩;rw[W g (by omega),W j (by omega)];rcases k5 with⟨x,q1,q2,q3⟩|q
  ·exact .inl ⟨x,q1,λhb=>hx (q2 hb),q3⟩
  ·exact .inr q
structure uc (G:Sg)(P:Program)(Γ:Tab P G)(n:Nat)(all:List Oper)(k:Nat)(Lv:Nat->Option (BC G))(st0:St G)(ev:Nat->EV G)(i:Nat)(acc:List (Nat×Sp G)):Prop where
 lt:∀q∈acc,q.1<i
 f:∀q∈acc,SpF G P Γ n all k Lv st0 ev q.1 q.2
 nd:(acc.map Prod.fst).Nodup
 al:∀j o,j<i->(all.take k)[j]? =some o->ie o=true->∃sp,(j,sp)∈acc
theorem uc.congr {W:Nat->Option (BC G)}{st0:St G}{ev ev':Nat->EV G}{i:Nat}{Z:List (Nat×Sp G)}(h:uc G P Γ n all k W st0 ev i Z)(he:∀q,q<i->ev' q=ev q):uc G P Γ n all k W st0 ev' i Z:=
 ⟨h.lt,λq J=>by
  obtain⟨o,ρ,h1,h2,h3,h4,h5⟩:=h.f q J
  exact⟨o,ρ,h1,h2,h3,h4,h5.congr λx hx=>he x (by have:=h.lt q J;omega)⟩,h.nd,h.al⟩
theorem Ch {ρ:Type} {K:St G->List (Nat×Sp G)->Option ρ} {r:ρ} {st0:St G} {Lv:Nat->Option (BC G)} (hD:Dis all k n):∀{os:List Oper} {i:Nat} {st:St G} {a1:List (Nat×Sp G)} {ev:Nat->EV G},(all.take k).drop i=os->lF G all k st0 ev i st->uc G P Γ n all k Lv st0 ev i a1->
  o4 n Γ D all k Lv i os st a1 K=some r->
  ∃ev' a3 a4,(∀j,j<i->ev' j=ev j)/\(∀j o,i<=j->(all.take k)[j]? =some o->ie o=false->OpF G P Γ D n all k st0 ev' j o)/\uc G P Γ n all k Lv st0 ev' (all.take k).length a3/\K a4 a3=some r/\lF G all k st0 ev' (all.take k).length a4:=by
 intro os
 induction os with
 | nil=>
  intro i st a1 ev a5 Z ha h
  have c3:(all.take k).length<=i:=by
   have:=congrArg List.length a5;simp only[List.length_drop,List.length_nil] at this;omega
  refine⟨ev,a1,st,λ_ _=>rfl,λj o hj ho=>?_,⟨λq W=>?_,ha.f,ha.nd,λj o hj ho=>ha.al j o (by omega) ho⟩,h,⟨Z.L,Z.T,Z.c,λe he=>?_⟩⟩
  ·have:=(zh.1 ho).1;omega
  ·obtain⟨o,_,h1,_⟩:=ha.f q W
   exact(zh.1 h1).1
  ·rcases Z.env e he with⟨j,hj,h3,h4⟩|⟨h3,h4⟩
   ·obtain⟨o,ho,_⟩:=Pd.1 h3
    exact .inl ⟨j,(zh.1 ho).1,h3,h4⟩
   ·refine .inr ⟨λj hj=>h3 j (by omega),h4⟩
 | cons o os ih=>
  intro i st a1 ev a5 Z ha h
  have ho:(all.take k)[i]? =some o:=by
   have:=congrArg (·[0]?) a5;simpa using this
  have c1:all[i]? =some o:=(ju ho).1;have b0:(all.take k).drop (i+1)=os:=by rw[←Z7,a5];rfl
  unfold o4 at h;split at h
  ·rename_i a9
   split at h
   ·rename_i sp b6 hs
    have hR:=xA hD c1 Z
    have b3:lF G all k st0 ev (i+1) (match o.dst with|some d=>{ st with env:=rmk st.env d }|none=>st):=by
     cases hd:o.dst with
     | none=>
      refine⟨Z.L,Z.T,Z.c,λe he=>?_⟩;rcases Z.env e he with⟨j,hj,h3⟩|⟨h3,h4⟩
      ·exact .inl ⟨j,by omega,h3⟩
      ·refine .inr ⟨λj hj a6=>?_,h4⟩
       rcases Qr j i with hji|hji
       ·exact h3 j hji a6
       ·have:j=i:=by omega
        subst this;obtain⟨o',J,a2⟩:=Pd.1 a6;rw[ho] at J;injection J with J;subst J
        rw[hd] at a2;cases a2
     | some d=>
      refine⟨Z.L,Z.T,Z.c,λe he=>?_⟩;obtain⟨b5,b1⟩:=kf he;rcases Z.env e b5 with⟨j,hj,h3⟩|⟨h3,h4⟩
      ·exact .inl ⟨j,by omega,h3⟩
      ·refine .inr ⟨λj hj a6=>?_,h4⟩
       rcases Qr j i with hji|hji
       ·exact h3 j hji a6
       ·have:j=i:=by omega
        subst this;obtain⟨o',J,a2⟩:=Pd.1 a6;rw[ho] at J;injection J with J;subst J
        rw[hd] at a2;injection a2 with a2
        exact b1 a2.symm
    have b4:uc G P Γ n all k Lv st0 ev (i+1) (a1++[(i,sp)]):=by
     refine⟨λq W=>?_,λq W=>?_,?_,λj o' hj J a0=>?_⟩
     ·rcases Ql.1 W with W|W
      ·have:=ha.lt q W;omega
      ·simp only[Qp] at W;subst W;simp
     ·rcases Ql.1 W with W|W
      ·exact ha.f q W
      ·simp only[Qp] at W;subst W
       exact⟨o,_,ho,a9,b6,hs,hR⟩
     ·rw[List.map_append,List.nodup_append]
      refine⟨ha.nd,by simp,λx hx y hy=>?_⟩;simp only[Qq,Ze,Qp] at hy;subst hy;obtain⟨q,W,rfl⟩:=Qy.1 hx;have:=ha.lt q W;omega
     ·rcases Qr j i with hji|hji
      ·obtain⟨c2,h1⟩:=ha.al j o' hji J a0
       exact⟨c2,Ql.2 (.inl h1)⟩
      ·have:j=i:=by omega
       subst this;exact⟨sp,by simp⟩
    obtain⟨ev',a3,a4,q1,q2,q3,q4,q5⟩:=ih b0 b3 b4 h;refine⟨ev',a3,a4,λj hj=>q1 j (by omega),λj o' hj J a0=>?_,q3,q4,q5⟩;rcases Qr i j with hij|hij
    ·exact q2 j o' (by omega) J a0
    ·have:j=i:=by omega
     subst this;rw[ho] at J;injection J with J;subst J
     rw[a9] at a0;cases a0
   ·cases h
  ·rename_i a9
   obtain⟨b7,c4,p1,p2,p3,p4⟩:=s9 (os:=[o]) (rest:=os) hD a5 (λo' J=>by simp only[Qp] at J;subst J;exact a9) Z h
   have c0:uc G P Γ n all k Lv st0 b7 (i+1) a1:=by
    have:=ha.congr p1;refine⟨λq W=>by have:=ha.lt q W;omega,this.f,this.nd,λj o' hj J a0=>?_⟩;rcases Qr j i with hji|hji
    ·exact ha.al j o' hji J a0
    ·have:j=i:=by omega
     subst this;rw[ho] at J;injection J with J;subst J
     rw[a9] at a0;cases a0
   obtain⟨ev',a3,a4,q1,q2,q3,q4,q5⟩:=ih b0 p4 c0 p3;refine⟨ev',a3,a4,λj hj=>by rw[q1 j (by omega)];exact p1 j hj,λj o' hj J a0=>?_,q3,q4,q5⟩;rcases Qr i j with hij|hij
   ·exact q2 j o' (by omega) J a0
   ·have:j=i:=by omega
    subst this;have b2:=p2 j o' (by omega) (by simp) J;exact b2.congr hD (ju J).1 (λq W=>q1 q (by omega))
theorem uN {Lv:Nat->Option (BC G)}{ρ:Operand->Option (EV G)}{o:Oper}{sp:Sp G}(h:Cg Γ ρ Lv o=some sp):
  (∃(d:Nat) (t:TypeId) (I:TI P G t),o.guard=none/\o.dst=some d/\o.op= .alloc t/\sp= .al d I.T I.z)\/
  (∃(t:TypeId) (x y:Operand) (I:TI P G t) (i:Nat) (b:AV G) (u:I.T.den G) (J:I.T.den G),o.guard=none/\o.dst=none/\o.op= .store t x y/\av? (ρ x)=some (.blk i)/\av? (ρ y)=some b/\Lv i=some (.dat I.T J)/\b.as Γ I.T=some u/\sp= .so i I.T u):=by
 unfold Cg at h;split at h
 ·rename_i d t W hd Z
  split at h
  ·rename_i I _ _
   injection h with h
   exact .inl ⟨d,t,I,W,hd,Z,h.symm⟩
  ·cases h
 ·rename_i t x y W hd Z
  split at h
  ·rename_i I i b hI hx hy
   split at h
   ·rename_i c J hL
    split at h
    ·rename_i hc
     subst hc;split at h
     ·rename_i u hu
      injection h with h
      exact .inr ⟨t,x,y,I,i,b,u,J,W,hd,Z,hx,hy,hL,hu,h.symm⟩
     ·cases h
    ·cases h
   ·cases h
  ·cases h
 ·cases h
theorem FP {ρ:Type}{ro:Option Nat}{id:Nat}{K':St G->Option ρ}{r:ρ}{N Rt:Act->World->Prop}{X:List (Nat×(Act->World->Prop))}(m8:P.follows .mixedOrders=true)(hs:Sat G P δ n W0 L0 T0 m0 st a w)(hD:Dis all k n)(k5:lJ all k=true)
  (h8:gOK (d7 st.L) (stG st (all.take k))=true) (h:o4 n Γ D all k (d7 st.L) 0 (all.take k) { st with L:=eY st.c (stG st (all.take k)) st.L } [] (λst' a3=>if a3.map (λq=>q.2.blk)=stG st (all.take k) then gc n Γ D all (all.drop k) (ki a3 st') K' else none)=some r) (hN:Nxt G P δ n W0 L0 T0 m0 K' r st N):K ro P (.region id all.toArray true) N X Rt a w:=by
 obtain⟨⟨m,z,h0,hr,hM⟩,b1,a5⟩:=hs;obtain⟨ev,a3,e6,_,k0,hA,h7,hC⟩:=Ch (G:=G) (P:=P) (st0:={ st with L:=eY st.c (stG st (all.take k)) st.L }) (ev:=λ_=> .one .und) hD (i:=0) rfl ⟨rfl,rfl,rfl,λe W=> .inr ⟨λj hj=>by omega,W⟩⟩ ⟨λq J=>(by cases J),λq J=>(by cases J),by simp,λj o hj=>(by omega)⟩ h;have k3:∀j o,(all.take k)[j]? =some o->ie o=false->OpF G P Γ D n all k { st with L:=eY st.c (stG st (all.take k)) st.L } ev j o:=λj o ho=>k0 j o (Nat.zero_le _) ho;split at h7
 rotate_left
 ·cases h7
 rename_i g6;have hK:=h7;obtain⟨Lc,Tc,Z,h2,hS,b6⟩:=hM;obtain⟨n2,i1,k1,k2,_,k4⟩:=DI (a:=a) (c:=st.c) Z hS h8
 have l4:=k4 a3 g6 (λq J i t x W=>by
  obtain⟨o,ρ,_,_,_,hs,_⟩:=hA.f q J;rcases uN hs with⟨d,t',I,_,_,_,e⟩|⟨t',x',y',I,i',b,u,y0,_,_,_,_,_,e5,_,e7⟩
  ·rw[W] at e;cases e
  ·rw[W] at e7;injection e7 with e1 e2 e3;subst e1;subst e2;exact⟨y0,e5⟩)
 have hM:fk G W0 ⟨i1++L0.l,L0.nm⟩ T0 (eY st.c (stG st (all.take k)) st.L) st.T m z w:=⟨n2,Tc,k1,h2,k2.comm,b6⟩
 have i2:∀q∈a3,∀d t x,q.2= .al d t x->dj (all.take k) q.1=some d:=by
  intro q J d t x W;obtain⟨o,ρ,ho,_,_,hs,_⟩:=hA.f q J;rcases uN hs with⟨d',t',I,_,hd,_,e⟩|⟨t',x',y',I,i',b,u,y0,_,_,_,_,_,_,_,e7⟩
  ·rw[W] at e;injection e with e1;subst e1;exact Pd.2 ⟨o,ho,hd⟩
  ·rw[W] at e7;cases e7
 refine yL (k:=k) m8 hD.ed k5 (λs a w=>∃m' Fr,M.le m m'/\FrR G m' z s a a3 Fr/\fk G W0 ⟨Fr++L0.l,L0.nm⟩ T0 (eY st.c (stG st (all.take k)) st.L) st.T m' z w/\(a.defers=δ.map λD=>{ target:= .collected D,args:= #[] })/\a.tmps.size=n/\
   (∀(j:Nat) (o:Oper),(all.take k)[j]? =some o->ie o=false->s j=true->∀d,o.dst=some d->(ev j).Rel G P m' z (a.tmps.getD d undef))/\
   (∀e∈st.env,(∀(j:Nat) (o:Oper),(all.take k)[j]? =some o->o.dst=some e.1->s j=false)->e.2.2.Rel G P m' z (a.tmps.getD e.1 undef))) ?_ ?_ ?_
 ·exact⟨m,i1,Q8 m,l4,hM.drew,b1,a5,(λj o _ _ h=>Qv h),λe W _=>hr e W⟩
 ·rintro i o m9 l1 s a w ⟨m',Fr,hm,f0,f6,b1,a5,b5,b7⟩ hsi hpre hcl
  have a2:=ph m9 l1
  have reads:∀{ρ:Operand->Option (EV G)},oK G all k { st with L:=eY st.c (stG st (all.take k)) st.L } ev i o ρ->∀x e,ρ x=some e->e.Rel G P m' z (a.eval x):=by
   intro ρ hR x e hx;have:=hR x e hx;cases x with
   | tmp t=>
    rcases this with⟨q,Z,h2,h3,h4,m1⟩|⟨⟨lv,Z⟩,h2⟩
    ·obtain⟨oq,e4,a1⟩:=Pd.1 h3
     rw[←h4];exact b5 q oq e4 (m1 oq e4) (hpre q Z) t a1
    ·refine b7 _ Z λq oq e4 a1=>?_
     cases hsq:s q with
     |false=>rfl
     |true=>
      have:=hcl q oq (ju e4).1 hsq i (h2 q oq e4 a1);rw[hsi] at this;cases this
   |const v=>
    obtain⟨b,Z,rfl⟩:=this;exact t6 Z
   |_=>exact this.elim
  cases hsp:ie o with
  | true=>
   obtain⟨sp,j1⟩:=hA.al i o (zh.1 a2).1 a2 hsp;obtain⟨o',ρ,b0,_,i0,hs,hR⟩:=hA.f _ j1;simp only at b0;rw[a2] at b0;injection b0 with b0;subst b0
   obtain⟨p,e,g1,g2,g3⟩:=f0.set j1 hA.nd;rw[hsi] at g2
   have e9:∀(j:Nat) (oj:Oper),(all.take k)[j]? =some oj->ie oj=false->j≠i:=λj oj hj a6 e=>by
    subst e;rw[a2] at hj;injection hj with hj;subst hj
    rw[hsp] at a6;cases a6
   obtain⟨Lc,Tc,Z,h2,hS,b6⟩:=f6
   have e0:(Lc++(Fr++L0.l))[Lc.length+p]? =some e:=by
    rw[zw (by omega),show Lc.length+p - Lc.length=p by omega];exact jt g1
   have e1:∀e',(Lc++(Fr++L0.l)).set (Lc.length+p) e'=Lc++(Fr.set p e'++L0.l):=λe'=>by
    rw[Z0 _ _ (by omega),show Lc.length+p - Lc.length=p by omega,kg g1]
   rcases uN hs with⟨d,t,I,hg,hd,a9,rfl⟩|⟨t,x,y,I,bi,b,u,y0,hg,hd,a9,hx,hy,n4,hu,rfl⟩
   ·have hw:Region.wanted o (yielded all.toArray a.tmps)=true:=by simp[Region.wanted,hg]
    rw[if_pos hw];obtain⟨dst,op,ty,pos,aft,g⟩:=o;simp only at hd a9 hg;subst hd;subst a9;subst hg;have h9:d<n:=Q0 i0;refine(cP hS I.hz (cs:=I.zv.cells.toList) (by simp)).imp λv w' J=>?_;obtain⟨b,rfl,f5⟩:=J
    have g5:e=(e.1,[]):=by
     have g2:e.2=[]:=g2;rw[←g2]
    rw[g5] at e0;have j4:=f5.putL e0;rw[e1] at j4
    have g4:∀q,q≠d->(a.put (some d) (.pointer (some ⟨b,0,none⟩))).tmps.getD q undef=a.tmps.getD q undef:=λq J=>by
     simp[Act.put,Array.getElem?_setIfInBounds_ne (Ne.symm J)]
    refine⟨m',Fr.set p (b,I.zv.cells.toList),hm,g3 m' _ _ (Q8 m') ⟨by simp[Act.put,a5,h9],I.hzR m'⟩ (λq J d1 d' t' x' W=>g4 d' λe=>d1 ?_),⟨Lc,Tc,Z,h2,j4,b6⟩,by simp[Act.put,b1],by simp[Act.put,a5],λj oj a0 a6 b3 dd f4=>?_,λe' g0 b4=>?_⟩
    ·subst e
     exact hD.ne q.1 i _ (i2 q J _ t' x' W) (Pd.2 ⟨_,a2,rfl⟩)
    ·have b2:=e9 j oj a0 a6
     unfold upd at b3;rw[if_neg b2] at b3;rw[g4 dd λe=>b2 (hD.ne j i dd (Pd.2 ⟨oj,a0,f4⟩) (Pd.2 ⟨_,a2,by rw[e]⟩))];exact b5 j oj a0 a6 b3 dd f4
    ·have d2:e'.1≠d:=λe=>by
      have:=b4 i _ a2 (by rw[e]);simp[upd] at this
     rw[g4 _ d2]
     exact b7 e' g0 λj oj a0 a1=>by
      have:=b4 j oj a0 a1;unfold upd at this;split at this
      ·cases this
      ·exact this
   ·have hw:Region.wanted o (yielded all.toArray a.tmps)=true:=by simp[Region.wanted,hg]
    rw[if_pos hw];obtain⟨dst,op,ty,pos,aft,g⟩:=o;simp only at hd a9 hg;subst hd;subst a9;subst hg;obtain⟨l,hE,hl⟩:=dq b1 a5 [x,y];obtain⟨p1,q1,q2⟩:=aU (reads hR) hx;obtain⟨p2,q3,q4,yy,q5⟩:=g2;rw[q1] at q3;injection q3 with q3;subst q3
    have g5:e=(p1.1,e.2):=by rw[←q4]
    rw[g5] at e0;have i3:=hl x (by simp);rw[q2] at i3;refine(cD hE hS I.ok bO i3 (hl y (by simp)) (AV.as_rel hu (aU (reads hR) hy)) e0 q5).imp λv w' J=>?_;obtain⟨cs',m2,f5⟩:=J;rw[e1] at f5;refine⟨m',Fr.set p (p1.1,cs'),hm,g3 m' _ _ (Q8 m') ⟨p1,q1,rfl,m2⟩ (λq J d1 d' t' x' W=>rfl),⟨Lc,Tc,Z,h2,f5,b6⟩,b1,a5,λj oj a0 a6 b3 dd f4=>?_,λe' g0 b4=>?_⟩
    ·have b2:=e9 j oj a0 a6
     unfold upd at b3;rw[if_neg b2] at b3;exact b5 j oj a0 a6 b3 dd f4
    ·exact b7 e' g0 λj oj a0 a1=>by
      have:=b4 j oj a0 a1;unfold upd at this;split at this
      ·cases this
      ·exact this
  |false=>
  obtain⟨d,hd,i0,a9⟩:=k3 i o a2 hsp;have h9:d<n:=Q0 i0
  have l2:∀q∈a3,q.1≠i/\∀d' t x,q.2= .al d' t x->d'≠d:=λq J=>by
   have d1:q.1≠i:=λe=>by
    obtain⟨o',_,b0,j2,_⟩:=hA.f q J;rw[e,a2] at b0;injection b0 with b0;subst b0
    rw[hsp] at j2;cases j2
   exact⟨d1,λd' t x W e=>by
    subst e
    exact d1 (hD.ne q.1 i _ (i2 q J _ t x W) (Pd.2 ⟨o,a2,hd⟩))⟩
  have fr:∀(v:Value) (a4:M),M.le m' a4->FrR G a4 z (upd s i) (a.put o.dst v) a3 Fr:=λv a4 n3=>f0.step n3 λq J=>by
   obtain⟨c1,c2⟩:=l2 q J;refine⟨if_neg c1,λd' t x W=>?_⟩;rw[hd];simp[Act.put,Array.getElem?_setIfInBounds_ne (Ne.symm (c2 d' t x W))]
  have next:∀(v:Value) (w':World) (a4:M),M.le m' a4->fk G W0 ⟨Fr++L0.l,L0.nm⟩ T0 (eY st.c (stG st (all.take k)) st.L) st.T a4 z w'->(ev i).Rel G P a4 z v->
    ∃m' Fr',M.le m m'/\FrR G m' z (upd s i) (a.put o.dst v) a3 Fr'/\fk G W0 ⟨Fr'++L0.l,L0.nm⟩ T0 (eY st.c (stG st (all.take k)) st.L) st.T m' z w'/\((a.put o.dst v).defers=δ.map λD=>{ target:= .collected D,args:= #[] })/\(a.put o.dst v).tmps.size=n/\
     (∀(j:Nat) (o':Oper),(all.take k)[j]? =some o'->ie o'=false->upd s i j=true->∀d,o'.dst=some d->(ev j).Rel G P m' z ((a.put o.dst v).tmps.getD d undef))/\
     (∀e∈st.env,(∀(j:Nat) (o:Oper),(all.take k)[j]? =some o->o.dst=some e.1->upd s i j=false)->e.2.2.Rel G P m' z ((a.put o.dst v).tmps.getD e.1 undef)):=by
   intro v w' a4 f3 k7 hv;refine⟨a4,Fr,hm.trans f3,fr v a4 f3,k7,by rw[hd];simp[Act.put,b1],by rw[hd];simp[Act.put,a5],λj oj a0 a6 hu e d0=>?_,λe W b4=>?_⟩<;>rw[hd]
   ·by_cases b2:j=i
    ·subst b2
     rw[a2] at a0;injection a0 with a0;subst a0
     rw[hd] at d0;injection d0 with d0;subst d0
     simpa[Act.put,a5,h9] using hv
    ·unfold upd at hu
     rw[if_neg b2] at hu;have Z:=(b5 j oj a0 a6 hu e d0).mono f3
     have d2:d≠e:=λx=>by
      subst x;exact b2 (hD.ne j i d (Pd.2 ⟨oj,a0,d0⟩) (Pd.2 ⟨o,a2,hd⟩))
     simpa[Act.put,Array.getElem?_setIfInBounds_ne d2] using Z
   ·have d2:d≠e.1:=λx=>by
     have:=b4 i o a2 (by rw[hd,x]);simp[upd] at this
    have Z:=(b7 e W λj oj a0 a1=>by
     have:=b4 j oj a0 a1;unfold upd at this;split at this
     ·cases this
     ·exact this).mono f3
    simpa[Act.put,Array.getElem?_setIfInBounds_ne d2] using Z
  have run:uM G P Γ D all k { st with L:=eY st.c (stG st (all.take k)) st.L } ev i o->aM P o a w (λv w'=>∃m' Fr',M.le m m'/\FrR G m' z (upd s i) (a.put o.dst v) a3 Fr'/\fk G W0 ⟨Fr'++L0.l,L0.nm⟩ T0 (eY st.c (stG st (all.take k)) st.L) st.T m' z w'/\((a.put o.dst v).defers=δ.map λD=>{ target:= .collected D,args:= #[] })/\(a.put o.dst v).tmps.size=n/\
     (∀(j:Nat) (o':Oper),(all.take k)[j]? =some o'->ie o'=false->upd s i j=true->∀d,o'.dst=some d->(ev j).Rel G P m' z ((a.put o.dst v).tmps.getD d undef))/\
     (∀e∈st.env,(∀(j:Nat) (o:Oper),(all.take k)[j]? =some o->o.dst=some e.1->upd s i j=false)->e.2.2.Rel G P m' z ((a.put o.dst v).tmps.getD e.1 undef))):=by
   rintro ⟨R,b,ρ,hR,hb,W,n0⟩;obtain⟨dst,op,ty,pos,aft,g⟩:=o;simp only at hd;subst hd;refine(xz (d:=d) b1 a5 f6 (reads n0) R b hR hb).imp λv w' J=>?_;obtain⟨a4,Z,h2,h3⟩:=J;exact next v w' a4 Z h2 (by rw[W];exact h3)
  have i5:ev i= .one .und->∃m' Fr',M.le m m'/\FrR G m' z (upd s i) (a.put o.dst undef) a3 Fr'/\fk G W0 ⟨Fr'++L0.l,L0.nm⟩ T0 (eY st.c (stG st (all.take k)) st.L) st.T m' z w/\((a.put o.dst undef).defers=δ.map λD=>{ target:= .collected D,args:= #[] })/\(a.put o.dst undef).tmps.size=n/\
     (∀(j:Nat) (o':Oper),(all.take k)[j]? =some o'->ie o'=false->upd s i j=true->∀d,o'.dst=some d->(ev j).Rel G P m' z ((a.put o.dst undef).tmps.getD d undef))/\
     (∀e∈st.env,(∀(j:Nat) (o:Oper),(all.take k)[j]? =some o->o.dst=some e.1->upd s i j=false)->e.2.2.Rel G P m' z ((a.put o.dst undef).tmps.getD e.1 undef)):=
   λW=>next undef w m' (Q8 m') f6 (by rw[W];rfl)
  cases hg:o.guard with
  |none=>
   rw[hg] at a9;have hw:Region.wanted o (yielded all.toArray a.tmps)=true:=by simp[Region.wanted,hg]
   rw[if_pos hw];exact run a9
  | some gb=>
   obtain⟨g,b⟩:=gb;rw[hg] at a9;obtain⟨m4,m3,dg,h6,l3,hx⟩:=a9;obtain⟨og,i4,m6⟩:=Pd.1 h6;have e8:=b5 g og i4 (m3 og i4) (hpre g m4) dg m6;rcases hx with⟨x,Z,h2,h3⟩|⟨Z,h2⟩
   ·rw[Z] at e8
    have hv:a.tmps.getD dg undef= .bool x:=dU e8.1;have hy:=pf (all:=all) a5 (vu h6) l3 hv
    by_cases hxb:x=b
    ·have hw:Region.wanted o (yielded all.toArray a.tmps)=true:=by simp[Region.wanted,hg,hy,hxb]
     rw[if_pos hw];exact run (h2 hxb)
    ·have hw: ¬ Region.wanted o (yielded all.toArray a.tmps)=true:=by simp[Region.wanted,hg,hy,hxb]
     rw[if_neg hw];exact i5 (h3 hxb)
   ·rw[Z] at e8
    have hv:a.tmps.getD dg undef=undef:=e8;have hy:=l7 (vu h6) hv;have hw: ¬ Region.wanted o (yielded all.toArray a.tmps)=true:=by simp[Region.wanted,hg,hy]
    rw[if_neg hw];exact i5 h2
 ·rintro s a w ⟨m',Fr,hm,f0,⟨Lc,Tc,Z,h2,hS,b6⟩,b1,a5,b5,b7⟩ hall
  have k6:jd G P m' z e6.env a:=by
   intro e W;rcases hC.env e W with⟨j,hj,h3,h4,_,e9⟩|⟨h3,h4⟩
   ·obtain⟨o,ho,a1⟩:=Pd.1 h3
    rw[←h4];exact b5 j o ho (e9 o ho) (hall j (ju ho).2 (zh.1 (ju ho).1).1) e.1 a1
   ·refine b7 e h4 λj o ho a1=>?_
    exact absurd (Pd.2 ⟨o,ho,a1⟩) (h3 j (zh.1 ho).1)
  obtain⟨z',m5,c0,c1,c2,c3,c4,c5,c6,c7⟩:=IZ (st:=e6) f0 (λq J=>by
   obtain⟨o,_,ho,_⟩:=hA.f q J
   exact hall q.1 (ju ho).2 (zh.1 (ju ho).1).1) (by rw[g6];exact IY h8) (λi hi=>by rw[g6] at hi;rw[hC.L];exact HD h8 i hi) k6 (by rw[hC.L];exact Z) hS b6
  have n1:Sat G P δ n W0 L0 T0 m0 (ki a3 e6) a w:=⟨⟨m',z',h0.trans hm,c1,m5,Tc,c2,by rw[c7,c0,hC.T];exact h2,c3,c4⟩,b1,a5⟩
  have hX:Ext st.c st e6:=by
   refine(Ext.gone (st:=st) (gs:=stG st (all.take k))).trans ⟨λq J e W hl=>?_,λq J i s B hb hs=>⟨s,hs,by rw[hC.L] at hb;exact hb⟩⟩;rcases hC.env e W with⟨j,_,_,_,h5,_⟩|⟨_,h4⟩
   ·have h5:e.2.1=st.c:=h5
    omega
   ·exact⟨e.2.1,hl,h4⟩
  have m7:e6.c=st.c:=hC.c;rw[m7] at c5 c6;exact uK hK n1 λst' a' w' q1 q2 q3 q4=>ag (hN st' a' w' q1 q2 ((hX.trans c5).trans (by rw[c6] at q3;exact q3)) (by rw[q4,c6]))
end
theorem Ci {o:Oper}{ρ ρ':Operand->Value}(W:okT o.op=true)(h:∀x∈cV o.op,ρ x=ρ' x):execOp ρ o=execOp ρ' o:=by
  obtain⟨dst,op,ty,pos,aft,g⟩:=o;cases op with
  | call c=>
    obtain⟨Z,args,a0⟩:=c;cases Z with
    | builtin b=>
      cases b<;>try cases W
      have:args.map ρ=args.map ρ':=Array.map_congr_left λx J=>h x (by simpa[cV] using J);simp only[execOp,resolve,this]
    |_=>cases W
  | buildSlice t len ps=>
    have:(ps.map λ(i,x)=>(i,ρ x))=(ps.map λ(i,x)=>(i,ρ' x)):=Array.map_congr_left λx J=>by
      have:=h x.2 (by simp only[cV,Qy];exact⟨x,by simpa using J,rfl⟩);simp[this]
    simp only[execOp,this]
  |move x=>simp only[execOp,h x (by simp[cV])]
  |assign x=>simp only[execOp,h x (by simp[cV])]
  |load t x=>simp only[execOp,h x (by simp[cV])]
  |store t x y=>simp only[execOp,h x (by simp[cV]),h y (by simp[cV])]
  |indexAddr t x y=>simp only[execOp,h x (by simp[cV]),h y (by simp[cV])]
  |fieldAddr t x f=>simp only[execOp,h x (by simp[cV])]
  |binOp b t x y t2=>simp only[execOp,h x (by simp[cV]),h y (by simp[cV])]
  |convert t t2 x=>simp only[execOp,h x (by simp[cV])]
  |_=>cases W
def zq (r:Result Next):Prop:=match r with
  | .ok (.value _) _=>True
  | .ok .skip _=>True
  | .halt _ _=>True
  |_=>False
theorem qW {P:Program}{w:World}(s:Sem Value):zq ((do pure (.value (←s)):Sem Next).run P w):=by
  simp only[Sem.run_bind];cases s.run P w with
  |ok v w'=>simp[zq]
  |halt h w'=>trivial
theorem I0 {P:Program}{w:World}(s:Sem Unit):zq ((do s;pure .skip:Sem Next).run P w):=by
  simp only[Sem.run_bind];cases s.run P w with
  |ok v w'=>simp[zq]
  |halt h w'=>trivial
theorem DJ {P:Program}{w:World}{o:Oper}{ρ:Operand->Value}(J:okT o.op=true):zq ((execOp ρ o).run P w):=by
  obtain⟨dst,op,ty,pos,aft,g⟩:=o;cases op with
  | call c=>
    obtain⟨Z,args,W⟩:=c;cases Z with
    | builtin b=>
      cases b<;>try cases J
      simp only[execOp,resolve,Sem.run_bind,Sem.run_pure,Result.andThen_ok,invoke,builtin];cases (Builtin.append_ W ty (args.map ρ)).run P w with
      |ok v w'=>trivial
      |halt h w'=>trivial
    |_=>cases J
  |buildSlice t len ps=>exact qW _
  |move x=>trivial
  |assign x=>trivial
  |load t x=>exact qW _
  |store t x y=>exact I0 _
  |indexAddr t x y=>exact qW _
  |fieldAddr t x f=>exact qW _
  |binOp b t x y t2=>exact qW _
  |convert t t2 x=>exact qW _
  |_=>cases J
section
variable {P:Program}{a b:Act}{w:World}{o:Oper}
theorem Bh {d:Option Nat}{u v:Value}(hs:a.tmps.size=b.tmps.size)(h:b.put d u=b.put d v):a.put d u=a.put d v:=by
  cases d with
  |none=>rfl
  | some d=>
    by_cases hd:d<b.tmps.size
    · have J:=congrArg (λx=>x.tmps.getD d undef) h
      have W:u=v:=by simpa[Act.put,hd] using J
      rw[W]
    · have J:∀x:Value,a.put (some d) x=a:=λx=>by
        have Z:a.tmps.size<=d:=by omega
        show { a with tmps:=a.tmps.setIfInBounds d x }=a;rw[Array.setIfInBounds_eq_of_size_le Z]
      rw[J,J]
theorem aM.congr {Post:Value->World->Prop}(W:okT o.op=true)(h:∀x∈cV o.op,a.eval x=b.eval x)(a1:a.tmps.size=b.tmps.size)(hs:aM P o b w Post):aM P o a w Post:=by
  intro ro Kk Q hK;obtain⟨_,J⟩:=hs ro (λc w'=>∃v,c=b.put o.dst v/\Post v w') (λ_ _ _=>False) (λv w' hp=>⟨v,rfl,hp⟩);refine⟨λf _=>trivial,?_⟩;have a0:∀c,o.op≠ .defer c:=λc e=>by rw[e] at W;cases W
  rw[Oper.semAt_eq _ a.eval o a0,Ci W h];rw[Oper.semAt_eq _ b.eval o a0] at J;have hv:=DJ (P:=P) (w:=w) (ρ:=b.eval) W;cases hr:(execOp b.eval o).run P w with
  | ok x w'=>
    rw[hr] at J hv;cases x with
    | value v=>
      obtain⟨u,Z,h4⟩:=J;show Kk (a.put o.dst v) w';rw[Bh a1 Z];exact hK u w' h4
    | skip=>
      obtain⟨u,Z,h4⟩:=J;show Kk (a.put o.dst undef) w';rw[Bh a1 Z];exact hK u w' h4
    |_=>exact hv.elim
  | halt e w'=>
    rw[hr] at J;cases e with
    |panic v=>exact J.elim
    |_=>exact J.elim
theorem aM.value {Post:Value->World->Prop}{d:Nat}(hd:o.dst=some d)(hn:d<a.tmps.size){v:Value}(J:aw P o a w v w)(Z:∀c,o.op≠ .defer c)(hs:aM P o a w Post):Post v w:=by
  obtain⟨_,h⟩:=hs none (λc w'=>∃v,c=a.put o.dst v/\Post v w') (λ_ _ _=>False) (λv w' hp=>⟨v,rfl,hp⟩);rw[Oper.semAt_eq _ a.eval o Z] at h;unfold aw at J;rw[J] at h;obtain⟨u,W,h4⟩:=h;rw[hd] at W;have h1:=congrArg (λx=>x.tmps.getD d undef) W;have:v=u:=by simpa[Act.put,hn] using h1
  rw[this];exact h4
end
theorem O7 {l:List Nat}{j:Nat}:inN l j=true↔j∈l:=by
  unfold inN;rw[Q7];exact⟨λ⟨x,W,J⟩=>by rw[Jn J];exact W,λh=>⟨j,h,Z6 j⟩⟩
structure TF (all:List Oper)(k:Nat):Prop where
  lt:k<all.length
  tl:∀(p:Nat) (o:Oper),all[p]? =some o->k<=p->o.guard=none/\okT o.op=true/\(p=k\/p - 1∈aT o/\k<p)/\∀j∈dc all k,∃oj,all[j]? =some oj/\FN o oj j=true
  fr:∀j∈dc all k,∃oj,all[j]? =some oj/\oj.guard=none/\FM oj.op=true/\(∀e∈aT oj,e∈dc all k/\e<j)/\∀i∈dc all k,∃oi d,all[i]? =some oi/\oi.dst=some d/\(i∈aT oj\/ ∀x∈cV oj.op,opT d x=false)
  cv:∀o,all[k]? =some o->∀j,j<k->j∉dc all k->j∈cov all 12 (aT o)
  ltF:∀j∈dc all k,j<k
theorem Mx {all:List Oper}{k:Nat}(h:ub all k=true):TF all k:=by
  unfold ub at h;simp only[Q4] at h;obtain⟨⟨h1,h3⟩,h2⟩:=h;have h1:k<all.length:=Q0 h1;refine⟨h1,λp o ho hp=>?_,λj Z=>?_,λo ho j Z hn=>?_,λj Z=>?_⟩
  · have J  :=Qe.1 h2 (o,p) (Qb.2 (by simpa using ho))
    simp only[Qm,Q4,Q7,Qe] at J;rcases J with J|⟨⟨⟨J,h5⟩,h6⟩,h7⟩
    · have:p<k:=Q0 J
      omega
    · refine⟨by simpa using J,h5,?_,λj Z=>?_⟩
      · rcases h6 with h6|⟨e,h6,h8⟩
        ·exact .inl (Jn h6)
        · have h8:=Jn h8
          by_cases hpk:p=k
          ·exact .inl hpk
          · refine .inr ⟨?_,by omega⟩
            rw[show p - 1=e by omega];exact h6
      · have:=h7 j Z
        split at this
        ·rename_i oj a0;exact⟨oj,a0,this⟩
        ·cases this
  · have J:=Qe.1 h3 j Z
    split at J
    · rename_i oj a0
      simp only[Q4,Qe] at J;obtain⟨⟨⟨h5,h6⟩,h7⟩,h8⟩:=J;refine⟨oj,a0,by simpa using h5,h6,λe he=>⟨O7.1 (h7 e he).1,Q0 (h7 e he).2⟩,λi hi=>?_⟩;have W:=h8 i hi;split at W
      · rename_i oi a1
        split at W
        · rename_i d hd
          refine⟨oi,d,a1,hd,?_⟩;simp only[Qm,Qc] at W;rcases W with W|W
          ·exact .inl (O7.1 W)
          · exact .inr λx hx=>by
              cases hxx:opT d x with
              |false=>rfl
              |true=>rw[Q7.2 ⟨x,hx,hxx⟩] at W;cases W
        ·cases W
      ·cases W
    ·cases J
  · unfold dc at hn
    rw[ho] at hn;simp only[Q5,Zd,Qc,not_and,Bool.not_eq_false] at hn;have:=hn Z;obtain⟨e,J,h5⟩:=Q7.1 this;rw[Jn h5];exact J
  · unfold dc at Z
    split at Z
    ·exact Zd.1 (Q5.1 Z).1
    ·cases Z
theorem Cj (os:List Oper):lJ os os.length=true:=by
  unfold lJ;rw[Za (Zc _),Bool.true_and,Qe];intro p h;have:=(zh.1 (Qb.1 h)).1;rw[Qm];exact .inl (Qa (by omega))
theorem zr {all:List Oper}{k:Nat}:∀{f p:Nat},yv all f p=some k->ub all k=true
  |0,p,h=>by cases h
  | f+1,p,h=>by
    unfold yv at h;split at h
    ·injection h with h;subst h;assumption
    ·exact zr h
theorem My {all:List Oper}{k:Nat}(h:fK all=some k):ub all k=true:=by
  unfold fK at h;split at h
  · split at h
    · rename_i k' J
      split at h
      ·cases h
      ·injection h with h;subst h;exact zr J
    ·cases h
  ·cases h
section
variable {G:Sg}{P:Program}{δ:List Nat}{n:Nat}{W0:Bse}{L0:Rs}{T0:List (Nat×Value)}{m m0:M}{z:Cz}{st:St G}{a:Act}{w:World}{Γ:Tab P G}{D:List (CS P G)}{all:List Oper}{k:Nat}
theorem mh {a:Act}{d q:Nat}{v:Value}:(a.put (some d) v).tmps.getD q undef=if d=q/\q<a.tmps.size then v else a.tmps.getD q undef:=by
  show(a.tmps.setIfInBounds d v).getD q undef=_
  by_cases h:d=q
  · subst h
    by_cases hd:d<a.tmps.size
    ·rw[if_pos ⟨rfl,hd⟩];simp[hd]
    ·rw[if_neg (λx=>hd x.2),Array.setIfInBounds_eq_of_size_le (by omega)]
  · rw[if_neg (λx=>h x.1)]
    simp[Array.getElem?_setIfInBounds_ne h]
theorem zu {a:Act}{d:Nat}{v:Value}{x:Operand}(h:opT d x=false):(a.put (some d) v).eval x=a.eval x:=by
  cases x with
  | tmp q=>
    have J: ¬ (d=q/\q<a.tmps.size):=λe=>by
      have:opT d (.tmp q)=true:=by rw[e.1];exact Z6 q
      rw[this] at h;cases h
    show(a.put (some d) v).tmps.getD q undef=a.tmps.getD q undef;rw[mh,if_neg J]
  |_=>rfl
theorem Bi {a b:Act}{x:Operand}(h:∀q,x= .tmp q->a.tmps.getD q undef=b.tmps.getD q undef):a.eval x=b.eval x:=by
  cases x with
  |tmp q=>exact h q rfl
  |_=>rfl
theorem FQ {s:Nat->Bool}(hc:∀(j:Nat)(o':Oper),all[j]? =some o'->s j=true->∀e∈aT o',s e=true):∀f W,(∀e∈W,s e=true)->∀e∈cov all f W,s e=true:=by
  intro f
  induction f with
  |zero=>exact λW h=>h
  | succ f ih=>
    intro W h e J;rcases Ql.1 J with J|J
    ·exact h e J
    · refine ih _ (λe' a0=>?_) e J
      obtain⟨j,hj,Z⟩:=List.mem_flatMap.1 a0;cases ho:all[j]? with
      |none=>rw[ho] at Z;cases Z
      |some o=>rw[ho] at Z;exact hc j o ho (h j hj) e' Z
theorem I1 {ev:Nat->EV G} (hD:Dis all k n) (a3:∀j o,(all.take k)[j]? =some o->OpF G P Γ D n all k st ev j o) {i:Nat} {o:Oper} (a5:all[i]? =some o) (b5:i<k) (hg:o.guard=none) (hf:FM o.op=true) {s:Nat->Bool} (hJ:OJ G P δ n W0 L0 T0 all k st ev m z s a w) (b2:s i=false)
    (b4:∀e∈aT o,s e=true) (a6:∀(j:Nat) (o':Oper),all[j]? =some o'->s j=true->∀e∈aT o',s e=true):
    ∃d v,o.dst=some d/\d<n/\OJ G P δ n W0 L0 T0 all k st ev m z (upd s i) (a.put (some d) v) w/\∀a' w',(∀x∈cV o.op,a'.eval x=a.eval x)->aw P o a' w' v w':=by
  obtain⟨d,hd,c0,a9⟩:=a3 i o (ph a5 b5);have a4:d<n:=Q0 c0;have b3:=td hD a3 i o a5 b5 s a w hJ b2 b4 a6;have hw:Region.wanted o (yielded all.toArray a.tmps)=true:=by simp[Region.wanted,hg]
  rw[if_pos hw] at b3;have c2:a.tmps.size=n:=by obtain⟨_,_,_,_,h,_⟩:=hJ;exact h
  rw[hg] at a9;obtain⟨R,bb,ρ,hR,hb,he,c1⟩:=a9;obtain⟨m',a0⟩:=OJ.reads hJ b2 b4 a6 c1;obtain⟨dst,op,ty,pos,aft,g⟩:=o
  have out:∀v,(∀a' w',(∀x∈cV op,a'.eval x=a.eval x)->aw P ⟨dst,op,ty,pos,aft,g⟩ a' w' v w')->(∀c,op≠ .defer c)->∃d v,dst=some d/\d<n/\OJ G P δ n W0 L0 T0 all k st ev m z (upd s i) (a.put (some d) v) w/\∀a' w',(∀x∈cV op,a'.eval x=a.eval x)->aw P ⟨dst,op,ty,pos,aft,g⟩ a' w' v w':=by
    intro v hv b6;have Z:=aM.value (d:=d) hd (by rw[c2];exact a4) (hv a w λ_ _=>rfl) b6 b3;have c3:dst=some d:=hd;refine⟨d,v,hd,a4,?_,hv⟩;simp only[c3] at Z;exact Z
  cases op with
  | move x=>
    refine out (a.eval x) (λa' w' h=>?_) (λc e=>by cases e);have:=h x (by simp[cV]);simp[aw,execOp,this]
  | binOp bo t x y t2=>
    have a2:(bo= .add\/bo= .sub)->∃J p q,a.eval x= .int J p/\a.eval y= .int J q:=by
      intro b0;have W:(match av? (ρ x),av? (ρ y) with|some a,some b=>y8 Γ bo t a b|_,_=>none)=some R:=hR;split at W
      · rename_i a1 b1 e1 e2
        unfold y8 at W;split at W
        · rename_i J p b7 q e3 e4
          have r1:=AV.i_rel e3 (aU a0 e1);have r2:=AV.i_rel e4 (aU a0 e2)
          have c4:J=b7:=by
            rcases b0 with rfl|rfl<;>simp only[B5] at W<;>split at W<;>first|assumption|cases W
          subst c4;exact⟨J,p,q,r1.1,r2.1⟩
        · exfalso
          rcases b0 with rfl|rfl<;>(repeat' split at W)<;>simp_all
      ·cases W
    cases bo with
    | add=>
      obtain⟨J,p,q,e1,e2⟩:=a2 (.inl rfl);refine out (.int J (J.wrap (p+q))) (λa' w' h=>?_) (λc e=>by cases e);have Z:=h x (by simp[cV]);have h2:=h y (by simp[cV]);rw[e1] at Z;rw[e2] at h2;simp[aw,execOp,Z,h2,eqGuard_at_int,cy (t:=t) (P:=P) (rfl:J.wrap (p+q)=_)]
    | sub=>
      obtain⟨J,p,q,e1,e2⟩:=a2 (.inr rfl);refine out (.int J (J.wrap (p - q))) (λa' w' h=>?_) (λc e=>by cases e);have Z:=h x (by simp[cV]);have h2:=h y (by simp[cV]);rw[e1] at Z;rw[e2] at h2;simp[aw,execOp,Z,h2,eqGuard_at_int,ku (t:=t) (P:=P) (rfl:J.wrap (p - q)=_)]
    |_=>cases hf
  |_=>cases hf
def FD (P:Program)(all:List Oper)(j:Nat)(b:Act):Prop:=
  ∀o d,all[j]? =some o->o.dst=some d->∀a' w',(∀x∈cV o.op,a'.eval x=b.eval x)->aw P o a' w' (b.tmps.getD d undef) w'
theorem FD.put {j e:Nat}{b:Act}{v:Value}(h:FD P all j b)(h1:∀o d,all[j]? =some o->o.dst=some d->d≠e/\∀x∈cV o.op,opT e x=false):FD P all j (b.put (some e) v):=by
  intro o d W Z a' w' hx;obtain⟨h2,h3⟩:=h1 o d W Z;rw[mh,if_neg (λx=>h2 x.1.symm)];exact h o d W Z a' w' λx J=>by rw[hx x J,zu (h3 x J)]
theorem FR {ev:Nat->EV G} (hD:Dis all k n) (hT:TF all k) (c1:∀j o,(all.take k)[j]? =some o->OpF G P Γ D n all k st ev j o) {s:Nat->Bool} (hJ:OJ G P δ n W0 L0 T0 all k st ev m z s a w) (d1:∀p,k<=p->s p=false) (c3:∀(j:Nat) (o':Oper),all[j]? =some o'->s j=true->∀e∈aT o',s e=true):
    ∀ t,t<=k->∃b,OJ G P δ n W0 L0 T0 all k st ev m z (λj=>s j||(inN (dc all k) j&&Q2 j t)) b w/\
      (∀q,(∀j∈dc all k,s j=false->∀o,all[j]? =some o->o.dst≠some q)->b.tmps.getD q undef=a.tmps.getD q undef)/\∀j∈dc all k,j<t->s j=false->FD P all j b:=by
  intro t
  induction t with
  | zero=>
    intro _;refine⟨a,?_,λ_ _=>rfl,λj _ h=>by omega⟩
    have:(λj=>s j||(inN (dc all k) j&&Q2 j 0))=s:=by
      funext j;have:Q2 j 0=false:=by cases h:Q2 j 0 with|false=>rfl|true=>exact absurd (Q0 h) (by omega)
      rw[this,Bool.and_false,Bool.or_false]
    rw[this];exact hJ
  | succ t ih =>
    intro ht;obtain⟨b,b0,b2,b3⟩:=ih (by omega);have a3:∀i j:Nat,Q2 i j=true↔i<j:=λi j=>⟨λh=>Q0 h,λh=>Qa h⟩
    by_cases a0:t∈dc all k/\s t=false
    · obtain⟨a0,b6⟩:=a0
      obtain⟨o,ho,hg,hf,a9,c4⟩:=hT.fr t a0
      have c2:(λj=>s j||(inN (dc all k) j&&Q2 j t)) t=false:=by
        show(s t||(inN (dc all k) t&&Q2 t t))=false;have:Q2 t t=false:=by cases h:Q2 t t with|false=>rfl|true=>exact absurd ((a3 _ _).1 h) (by omega)
        rw[b6,this];simp
      have b4:∀e,e∈dc all k->e<t->(s e||(inN (dc all k) e&&Q2 e t))=true:=λe h1 h2=>by
        rw[O7.2 h1,(a3 _ _).2 h2];simp
      obtain⟨d,v,hd,c5,b5,c0⟩:=I1 hD c1 ho (by omega) hg hf b0 c2 (λe he=>b4 e (a9 e he).1 (a9 e he).2) (λj o' J Z e he=>by
        simp only[Qm,Q4] at Z;rcases Z with Z|⟨h1,h2⟩
        · show(s e||_)=true
          rw[c3 j o' J Z e he];rfl
        · obtain⟨oj,b1,_,_,a5,_⟩:=hT.fr j (O7.1 h1)
          rw[b1] at J;injection J with J;subst J
          exact b4 e (a5 e he).1 (by have:=(a5 e he).2;have:=(a3 _ _).1 h2;omega))
      have c6:upd (λj=>s j||(inN (dc all k) j&&Q2 j t)) t=λj=>s j||(inN (dc all k) j&&Q2 j (t+1)):=by
        funext j;unfold upd
        by_cases W:j=t
        ·rw[if_pos W,W,O7.2 a0,(a3 t (t+1)).2 (by omega)];simp
        · rw[if_neg W]
          have:Q2 j t=Q2 j (t+1):=by
            rw[Bool.eq_iff_iff,a3,a3];omega
          show(s j||(inN (dc all k) j&&Q2 j t))=_;rw[this]
      rw[c6] at b5
      have dn:∀j o' d',all[j]? =some o'->j<k->o'.dst=some d'->j≠t->d'≠d:=λj o' d' J W a4 a6 e=>by
        subst e;exact a6 (hD.ne j t d' (Pd.2 ⟨o',ph J W,a4⟩) (Pd.2 ⟨o,ph ho (by omega),hd⟩))
      refine⟨b.put (some d) v,b5,λq hq=>?_,λj W d0 Z=>?_⟩
      · have a6:d≠q:=λe=>hq t a0 b6 o ho (by rw[hd,e])
        rw[mh,if_neg (λx=>a6 x.1)];exact b2 q hq
      · by_cases hjt':j=t
        · subst hjt'
          intro o' d' J a4 a' w' hx;rw[ho] at J;injection J with J;subst J
          rw[hd] at a4;injection a4 with a4;subst a4
          have c7:b.tmps.size=n:=by obtain⟨_,_,_,_,h,_⟩:=b0;exact h
          rw[mh,if_pos ⟨rfl,by rw[c7];exact c5⟩];refine c0 a' w' λx hm=>?_;rw[hx x hm];obtain⟨oi,di,a1,a2,h4⟩:=c4 j a0;rw[ho] at a1;injection a1 with a1;subst a1
          rw[hd] at a2;injection a2 with a2;subst a2
          rcases h4 with h4|h4
          ·have:=(a9 j h4).2;omega
          ·exact zu (h4 x hm)
        · refine(b3 j W (by omega) Z).put λo' d' J a4=>⟨dn j o' d' J (hT.ltF j W) a4 hjt',?_⟩
          obtain⟨oj,b1,_,_,a5,b7⟩:=hT.fr j W;rw[b1] at J;injection J with J;subst J
          obtain⟨oi,di,a1,a2,h4⟩:=b7 t a0;rw[ho] at a1;injection a1 with a1;subst a1
          rw[hd] at a2;injection a2 with a2;subst a2
          rcases h4 with h4|h4
          ·have:=(a5 t h4).2;omega
          ·exact h4
    · refine⟨b,?_,b2,λj W d0 Z=>?_⟩
      · have:(λj=>s j||(inN (dc all k) j&&Q2 j (t+1)))=λj=>s j||(inN (dc all k) j&&Q2 j t):=by
          funext j
          by_cases W:j=t
          · subst W
            cases Z:s j with
            |true=>rfl
            | false=>
              have:inN (dc all k) j=false:=by
                cases h:inN (dc all k) j with
                |false=>rfl
                |true=>exact absurd ⟨O7.1 h,Z⟩ a0
              rw[this];rfl
          · have:Q2 j (t+1)=Q2 j t:=by
              rw[Bool.eq_iff_iff,a3,a3];omega
            rw[this]
        rw[this];exact b0
      · have:j≠t:=λe=>a0 ⟨by rw[←e];exact W,by rw[←e];exact Z⟩
        exact b3 j W (by omega) Z
theorem DK {a b:Act}{d:Option Nat}{v:Value}{q:Nat}(J:a.tmps.size=b.tmps.size)(h:d≠some q->a.tmps.getD q undef=b.tmps.getD q undef)(W: ¬ q<b.tmps.size->a.tmps.getD q undef=b.tmps.getD q undef):(a.put d v).tmps.getD q undef=(b.put d v).tmps.getD q undef:=by
  cases d with
  |none=>exact h (by simp)
  | some d=>
    rw[mh,mh,J]
    by_cases hq:d=q/\q<b.tmps.size
    ·rw[if_pos hq,if_pos hq]
    · rw[if_neg hq,if_neg hq]
      by_cases hd:d=q
      ·exact W λx=>hq ⟨hd,x⟩
      ·exact h λe=>hd (by injection e)
theorem DL {a b:Act}{q:Nat}(J: ¬ q<a.tmps.size)(h: ¬ q<b.tmps.size):a.tmps.getD q undef=b.tmps.getD q undef:=by
  simp[J,h]
def J2 (G:Sg)(P:Program)(δ:List Nat)(n:Nat)(W0:Bse)(L0:Rs)(T0:List (Nat×Value))(m0:M)(Γ:Tab P G)(D:List (CS P G))(all:List Oper)(k:Nat)(st:St G){ρ:Type}(h:St G->Option ρ)(r:ρ)(s:Nat->Bool)(a:Act)(w:World):Prop:=
  ∃ c b st',k<c/\c<=all.length/\(∀p,k<=p->p<all.length->(s p=true↔p<c))/\(∀j,j<k->j∉dc all k->s j=true)/\a.defers=b.defers/\a.tmps.size=n/\
    (∀q,(∀j∈dc all k,s j=false->∀o,all[j]? =some o->o.dst≠some q)->a.tmps.getD q undef=b.tmps.getD q undef)/\(∀j∈dc all k,s j=false->FD P all j b)/\
    Sat G P δ n W0 L0 T0 m0 st' b w/\Ext st.c st st'/\st'.c=st.c/\gc n Γ D all (all.drop c) st' h=some r
theorem xB {ρ:Type} {K':St G->Option ρ} {r:ρ} {st':St G} {s:Nat->Bool} {b:Act} {c:Nat} {o:Oper} (hT:TF all k) (ho:all[c]? =some o) (b7:k<=c) (c5:∀e∈aT o,s e=true) (c2:∀p,k<=p->p<all.length->(s p=true↔p<c)) (c7:∀j,j<k->j∉dc all k->s j=true) (c4:a.defers=b.defers) (a3:a.tmps.size=n)
    (a9:∀q,(∀j∈dc all k,s j=false->∀o,all[j]? =some o->o.dst≠some q)->a.tmps.getD q undef=b.tmps.getD q undef) (b6:∀j∈dc all k,s j=false->FD P all j b)
    (hS:Sat G P δ n W0 L0 T0 m0 st' b w) (hX:Ext st.c st st') (hc:st'.c=st.c) (hK:gc n Γ D all (all.drop c) st' K'=some r):
    aM P o a w (λv w'=>J2 G P δ n W0 L0 T0 m0 Γ D all k st K' r (upd s c) (a.put o.dst v) w'):=by
  have c1:c<all.length:=(zh.1 ho).1;obtain⟨hg,hk,_,c0⟩:=hT.tl c o ho b7
  have hd:all.drop c=o::all.drop (c+1):=by
    rw[Z5 c1];have:=(zh.1 ho).2;rw[this]
  rw[hd] at hK;unfold gc at hK;rw[hg] at hK;have a5:=hS.sz
  have c3:aM P o b w (λv w'=>∃W,Sat G P δ n W0 L0 T0 m0 W (b.put o.dst v) w'/\Ext st.c st W/\W.c=st.c/\gc n Γ D all (all.drop (c+1)) W K'=some r):=
    rN (N:=λa w=>∃W,Sat G P δ n W0 L0 T0 m0 W a w/\Ext st.c st W/\W.c=st.c/\gc n Γ D all (all.drop (c+1)) W K'=some r) hS hK λW a' w' q1 q2 q3 q4=>⟨W,q2,hX.trans (by rw[hc] at q3;exact q3),by rw[q4,hc],q1⟩
  have b3:∀j∈dc all k,s j=false->∀oj d,all[j]? =some oj->oj.dst=some d->(∀x∈cV o.op,opT d x=false)/\∀e,o.dst=some e->d≠e/\∀x∈cV oj.op,opT e x=false:=by
    intro j Z a0 oj d a2 a1;obtain⟨d1,a4,J⟩:=c0 j Z;rw[a2] at a4;injection a4 with a4;subst a4
    unfold FN at J;rw[Qm] at J;rcases J with J|J
    · have:=c5 j (O7.1 J)
      rw[a0] at this;cases this
    · rw[a1] at J
      simp only[Q4,Qc] at J
      have b1:∀(xs:List Operand) (t:Nat),xs.any (opT t)=false->∀x∈xs,opT t x=false:=λxs t h x hx=>by
        cases hxx:opT t x with
        |false=>rfl
        |true=>rw[Q7.2 ⟨x,hx,hxx⟩] at h;cases h
      refine⟨b1 _ _ J.1,λe he=>?_⟩;rw[he] at J;simp only[Q4,Qc] at J;refine⟨λx=>?_,b1 _ _ J.2.2⟩;subst x;rw[Z6] at J;cases J.2.1
  have b4:∀x∈cV o.op,a.eval x=b.eval x:=λx hx=>Bi λq hq=>a9 q λj Z a0 oj a2 a1=>by
    have:=(b3 j Z a0 oj q a2 a1).1 x hx;rw[hq] at this;have h2:opT q (.tmp q)=true:=Z6 q;rw[h2] at this;cases this
  have c6:∀j,upd s c j=false->s j=false/\j≠c:=λj h=>by
    unfold upd at h;split at h
    ·cases h
    ·exact⟨h, ‹_›⟩
  refine(aM.congr hk b4 (by rw[a3];exact a5.symm) c3).imp λv w' ⟨W,q1,q2,q3,q4⟩=>?_;refine⟨c+1,b.put o.dst v,W,by omega,by omega,λp hp b5=>?_,λj Z hn=>?_,?_,?_,λq hq=>?_,λj Z a0=>?_,q1,q2,q3,q4⟩
  · unfold upd
    by_cases hpc:p=c
    ·rw[if_pos hpc];simp;omega
    ·rw[if_neg hpc,c2 p hp b5];omega
  · unfold upd
    split
    ·rfl
    ·exact c7 j Z hn
  ·cases hdd:o.dst<;>simp[Act.put,c4]
  ·cases hdd:o.dst<;>simp[Act.put,a3]
  · refine DK (by rw[a3];exact a5.symm) (λd0=>a9 q λj Z a0 oj a2 a1=>?_) (λb0=>DL (by rw[a3,←a5];exact b0) b0)
    by_cases a6:j=c
    ·have:=hT.ltF j Z;omega
    ·exact hq j Z (by unfold upd;rw[if_neg a6];exact a0) oj a2 a1
  · obtain⟨b2,a6⟩:=c6 j a0
    have J:=b6 j Z b2;cases hdd:o.dst with
    |none=>exact J
    |some e=>exact J.put λoj d a2 a1=>(b3 j Z b2 oj d a2 a1).2 e hdd
theorem FS {ρ : Type} {ro:Option Nat} {id:Nat} {K':St G->Option ρ} {r:ρ} {N Rt:Act->World->Prop} {X:List (Nat×(Act->World->Prop))} (c4:(all.take k).any ie=false) (e1:P.follows .mixedOrders=true) (hs:Sat G P δ n W0 L0 T0 m0 st a w) (hD:Dis all k n) (e8:ub all k=true)
    (h:iO n Γ D all k 0 (all.take k) st (λst'=>gc n Γ D all (all.drop k) st' K')=some r) (hN:Nxt G P δ n W0 L0 T0 m0 K' r st N):K ro P (.region id all.toArray true) N X Rt a w:=by
  obtain⟨⟨m,z,h0,hr,hM⟩,hdf,hsz⟩:=hs
  have f0:∀o∈all.take k,ie o=false:=λo ho=>by
    cases hq:ie o with
    |false=>rfl
    |true=>rw[Q7.2 ⟨o,ho,hq⟩] at c4;cases c4
  obtain⟨ev,f5,_,hF,hK,hC⟩:=s9 (G:=G) (P:=P) (st0:=st) (ev:=λ_=> .one .und) hD (i:=0) (rest:=[]) (by simp) f0 ⟨rfl,rfl,rfl,λe he=> .inr ⟨λj W=>by omega,he⟩⟩ h;rw[Zb] at hC;have c5:∀j o,(all.take k)[j]? =some o->OpF G P Γ D n all k st ev j o:=λj o ho=>hF j o (Nat.zero_le _) (by have:=(zh.1 ho).1;omega) ho;have hT:=Mx e8;refine yL (k:=all.length) e1 hD.ed (Cj all) (λs a w=>((∀p,k<=p->s p=false)/\OJ G P δ n W0 L0 T0 all k st ev m z s a w)\/J2 G P δ n W0 L0 T0 m0 Γ D all k st K' r s a w) ?_ ?_ ?_
  ·exact .inl ⟨λ_ _=>rfl,m,Q8 m,hM.drew,hdf,hsz,(λj o _ h=>Qv h),λe he _=>hr e he⟩
  · intro i o a1 f3 s a w hJ b0 a4 c2
    rcases hJ with⟨a9,hJ⟩|⟨c,b,st',c6,d0,b1,a5,b3,b4,a2,a6,hS,hX,hc,b5⟩
    · by_cases hik:i<k
      · have J:=td hD c5 i o a1 hik s a w hJ b0 a4 c2
        have h2:∀p,k<=p->upd s i p=false:=λp hp=>by unfold upd;rw[if_neg (by omega)];exact a9 p hp
        by_cases hw:Region.wanted o (yielded all.toArray a.tmps)=true
        · rw[if_pos hw] at J ⊢
          exact J.imp λv w' h3=> .inl ⟨h2,h3⟩
        · rw[if_neg hw] at J ⊢
          exact .inl ⟨h2,J⟩
      · obtain⟨hg,hk,c1,_⟩:=hT.tl i o a1 (by omega)
        have e9:i=k:=by
          rcases c1 with J|⟨J,h2⟩
          ·exact J
          · have:=a4 _ J
            rw[a9 (i - 1) (by omega)] at this;cases this
        subst e9;have hw:Region.wanted o (yielded all.toArray a.tmps)=true:=by simp[Region.wanted,hg]
        rw[if_pos hw];have a5:∀j,j<i->j∉dc all i->s j=true:=λj W hn=>FQ c2 12 (aT o) a4 j (hT.cv o a1 j W hn);obtain⟨b,d1,a2,a6⟩:=FR hD hT c5 hJ a9 c2 i (Zc _)
        have b2:∀j,j<i->j<all.length->(s j||(inN (dc all i) j&&Q2 j i))=true:=λj W _=>by
          by_cases hjF:j∈dc all i
          · have:Q2 j i=true:=Qa W
            rw[O7.2 hjF,this];simp
          ·rw[a5 j W hjF];rfl
        obtain⟨f6,e4⟩:=zo (ρ:=ρ) hC h0 b w d1 b2;have e5:a.tmps.size=n:=by obtain⟨_,_,_,_,h,_⟩:=hJ;exact h
        have e0:a.defers=b.defers:=by
          obtain⟨_,_,_,J,_⟩:=hJ;obtain⟨_,_,_,h2,_⟩:=d1;rw[J,h2]
        refine(xB (st':=f5) (b:=b) hT a1 (Zc _) a4 (λp hp _=>?_) a5 e0 e5 (λq hq=>(a2 q hq).symm) (λj W Z=>a6 j W (hT.ltF j W) Z) f6 e4 hC.c hK).imp λv w' J=> .inr J;rw[a9 p hp];simp;omega
    · by_cases hik:i<k
      · have c3:i∈dc all k:=by
          refine Classical.byContradiction λhn=>?_;rw[a5 i hik hn] at b0;cases b0
        obtain⟨oj,a0,hg,_,_,c7⟩:=hT.fr i c3;rw[a1] at a0;injection a0 with a0;subst a0
        obtain⟨oi,d,c0,hd,_⟩:=c7 i c3;rw[a1] at c0;injection c0 with c0;subst c0
        have hw:Region.wanted o (yielded all.toArray a.tmps)=true:=by simp[Region.wanted,hg]
        rw[if_pos hw]
        have e6:=a6 i c3 b0 o d a1 hd a w λx hx=>Bi λq hq=>a2 q λj W Z oj a0 a3=>by
          obtain⟨g1,di,b6,b7,h4⟩:=c7 j W;rw[a0] at b6;injection b6 with b6;subst b6
          rw[a3] at b7;injection b7 with b7;subst b7
          rcases h4 with h4|h4
          ·rw[a4 j h4] at Z;cases Z
          · have:=h4 x hx
            rw[hq] at this;have h2:opT q (.tmp q)=true:=Z6 q;rw[h2] at this;cases this
        refine e6.step (.inr ⟨c,b,st',c6,d0,λp hp e7=>?_,λj W hn=>?_,?_,?_,λq hq=>?_,λj W Z=>?_,hS,hX,hc,b5⟩)
        ·unfold upd;rw[if_neg (by omega)];exact b1 p hp e7
        · unfold upd
          split
          ·rfl
          ·exact a5 j W hn
        ·rw[hd];simp[Act.put,b3]
        ·rw[hd];simp[Act.put,b4]
        · rw[hd,mh]
          by_cases hq':d=q/\q<a.tmps.size
          ·rw[if_pos hq',hq'.1]
          · rw[if_neg hq']
            by_cases hdq:d=q
            ·exact DL (λx=>hq' ⟨hdq,x⟩) (λx=>hq' ⟨hdq,by rw[b4,←hS.sz];exact x⟩)
            · refine a2 q λj W Z oj a0 a3=>?_
              by_cases hji:j=i
              · subst hji
                rw[a1] at a0;injection a0 with a0;subst a0
                rw[hd] at a3;injection a3 with a3
                exact hdq a3
              ·exact hq j W (by unfold upd;rw[if_neg hji];exact Z) oj a0 a3
        · refine a6 j W ?_
          unfold upd at Z;split at Z
          ·cases Z
          ·exact Z
      · obtain⟨hg,_,c1,_⟩:=hT.tl i o a1 (by omega)
        have d2:i=c:=by
          have J: ¬ i<c:=λx=>by
            rw[(b1 i (by omega) f3).2 x] at b0;cases b0
          rcases c1 with h2|⟨h2,h3⟩
          ·omega
          · have h4:=a4 _ h2
            have:=(b1 (i - 1) (by omega) (by omega)).1 h4;omega
        subst d2;have hw:Region.wanted o (yielded all.toArray a.tmps)=true:=by simp[Region.wanted,hg]
        rw[if_pos hw];exact(xB hT a1 (by omega) a4 b1 a5 b3 b4 a2 a6 hS hX hc b5).imp λv w' J=> .inr J
  · intro s a w hJ b2
    rcases hJ with⟨a9,_⟩|⟨c,b,st',c6,d0,b1,a5,b3,b4,a2,a6,hS,hX,hc,b5⟩
    · have:=b2 k hT.lt hT.lt
      rw[a9 k (Zc _)] at this;cases this
    · have f4:c=all.length:=by
        refine Classical.byContradiction λg0=>?_;have J:c<all.length:=by omega
        have:=(b1 c (by omega) J).1 (b2 c J J);omega
      have e3:a=b:=by
        have ht:a.tmps=b.tmps:=by
          apply Array.ext
          ·rw[b4,hS.sz]
          · intro q J h2
            have:=a2 q λj W Z=>by
              rw[b2 j (by have:=hT.ltF j W;have:=hT.lt;omega) (by have:=hT.ltF j W;have:=hT.lt;omega)] at Z;cases Z
            simpa[J,h2] using this
        cases a;cases b;simp only at ht b3;rw[ht,b3]
      subst e3;rw[f4,List.drop_length] at b5;rw[List.drop_length];exact ag (hN st' a w b5 hS hX hc)
end
inductive Sh where
 |dat (t:Ty) (o:Option Nat)
 |ptr (t:Ty)
 |fn1 (a b:Ty)
 |fn2 (a c b:Ty)
def Sh.den (G:Sg):Sh->Type
 | .dat t _=>t.den G
 | .ptr t=>t.den G
 | .fn1 a b=>a.den G->Option (b.den G)
 | .fn2 a c b=>a.den G->c.den G->Option (b.den G)
inductive It where
 |v (q lv:Nat) (s:Sh)
 |b (i lv:Nat) (t:Ty)
 |a (i lv:Nat) (t:Ty) (n:Option Nat)
def It.den (G:Sg):It->Type
 | .v _ _ s=>s.den G
 | .b _ _ t=>t.den G
 | .a _ _ t _=>List (t.den G)
def eC (G:Sg):List It->Type
 |[]=>Unit
 |[i]=>i.den G
 |i::i'::r=>i.den G×eC G (i'::r)
def hdI (G:Sg)(i:It):(r:List It)->eC G (i::r)->i.den G
 |[],x=>x
 |_::_,x=>x.1
def tlI (G:Sg)(i:It):(r:List It)->eC G (i::r)->eC G r
 |[],_=>()
 |_::_,x=>x.2
def mkI (G:Sg)(i:It):(r:List It)->i.den G->eC G r->eC G (i::r)
 |[],x,_=>x
 |_::_,x,y=>(x,y)
inductive Fx where
 |blk (i:Nat)
 |own (i:Nat)
 |nils
 |und
section
variable {G:Sg}{P:Program}
def Sh.mk (G:Sg):(s:Sh)->s.den G->AV G
 | .dat t o,x=> .dat t x o
 | .ptr t,x=> .ptr t x
 | .fn1 a b,f=> .fn1 a b f
 | .fn2 a c b,f=> .fn2 a c b f
def Fx.mk (G:Sg):Fx->AV G
 | .blk i=> .blk i
 | .own i=> .own i
 | .nils=> .nils
 | .und=> .und
def Fx.is:Fx->AV G->Bool
 | .blk i,.blk j=>Q9 i j
 | .own i,.own j=>Q9 i j
 | .nils,.nils=>true
 | .und,.und=>true
 |_,_=>false
def BC.of (G:Sg):(i:It)->i.den G->BC G
 | .v _ _ _,_=> .gone
 | .b _ _ t,x=> .dat t x
 | .a _ _ t n,x=> .arr t n x
def kx (G:Sg):(its:List It)->eC G its->List (Nat×Nat×EV G)
 |[],_=>[]
 | .v q lv s::r,x=>(q,lv,.one (s.mk G (hdI G (.v q lv s) r x)))::kx G r (tlI G (.v q lv s) r x)
 | .b i lv t::r,x=>kx G r (tlI G (.b i lv t) r x)
 | .a i lv t n::r,x=>kx G r (tlI G (.a i lv t n) r x)
def dB (G:Sg):(its:List It)->eC G its->Nat->Option (Nat×BC G)
 |[],_,_=>none
 | .v q lv s::r,x,k=>dB G r (tlI G (.v q lv s) r x) k
 | .b i lv t::r,x,k=>if Q9 i k then some (lv,.dat t (hdI G (.b i lv t) r x)) else dB G r (tlI G (.b i lv t) r x) k
 | .a i lv t n::r,x,k=>if Q9 i k then some (lv,.arr t n (hdI G (.a i lv t n) r x)) else dB G r (tlI G (.a i lv t n) r x) k
def lK {O:Type}(f:Nat->O):Nat->List O
 |0=>[]
 |n+1=>f n::lK f n
def AV.dt?:AV G->Option ((t:Ty)×(t.den G)×Option Nat)
 | .dat t x o=>some ⟨t,x,o⟩
 |_=>none
def AV.pt?:AV G->Option ((t:Ty)×t.den G)
 | .ptr t x=>some ⟨t,x⟩
 |_=>none
def AV.f1?:AV G->Option ((a:Ty)×(b:Ty)×(a.den G->Option (b.den G)))
 | .fn1 a b f=>some ⟨a,b,f⟩
 |_=>none
def AV.f2?:AV G->Option ((a:Ty)×(c:Ty)×(b:Ty)×(a.den G->c.den G->Option (b.den G)))
 | .fn2 a c b f=>some ⟨a,c,b,f⟩
 |_=>none
theorem AV.dt_eq {b:AV G}{q:(t:Ty)×(t.den G)×Option Nat}(h:b.dt?=some q):b= .dat q.1 q.2.1 q.2.2:=by
 cases b<;>simp[AV.dt?] at h;subst h;rfl
theorem AV.pt_eq {b:AV G}{q:(t:Ty)×t.den G}(h:b.pt?=some q):b= .ptr q.1 q.2:=by
 cases b<;>simp[AV.pt?] at h;subst h;rfl
theorem AV.f1_eq {p:AV G}{q:(a:Ty)×(b:Ty)×(a.den G->Option (b.den G))}(h:p.f1?=some q):p= .fn1 q.1 q.2.1 q.2.2:=by
 cases p<;>simp[AV.f1?] at h;subst h;rfl
theorem AV.f2_eq {p:AV G}{q:(a:Ty)×(c:Ty)×(b:Ty)×(a.den G->c.den G->Option (b.den G))}(h:p.f2?=some q):p= .fn2 q.1 q.2.1 q.2.2.1 q.2.2.2:=by
 cases p<;>simp[AV.f2?] at h;subst h;rfl
def I3 (h:Nat):Option Nat->Bool
 |some j=>Q2 j h
 |none=>true
def shX (G:Sg)(J:Nat)(s:Sh)(b:AV G):Option (s.den G):=
 match s with
 | .dat t o=>(match b.dt? with
  |some q=>if q.2.2=o/\I3 J o=true then cT G q.1 t q.2.1 else none
  |none=>none)
 | .ptr t=>(match b.pt? with|some q=>cT G q.1 t q.2|none=>none)
 | .fn1 a b'=>(match b.f1? with|some q=>if h:q.1=a/\q.2.1=b' then some (h.1 ▸ h.2 ▸ q.2.2) else none|none=>none)
 | .fn2 a c b'=>(match b.f2? with|some q=>if h:q.1=a/\q.2.1=c/\q.2.2.1=b' then some (h.1 ▸ h.2.1 ▸ h.2.2 ▸ q.2.2.2) else none|none=>none)
def shA (Γ:Tab P G)(h:Nat)(s:Sh)(b:AV G):Option (s.den G):=
 match s with
 | .dat t none=>b.as Γ t
 |s=>shX G h s b
def lG (Γ:Tab P G)(h:Nat)(st:St G):(its:List It)->Option (eC G its)
 |[]=>some ()
 | .v q lv s::r=>(match lke st.env q,lG Γ h st r with
  |some (lv',.one b),some y=>if st.c<=lv\/lv'<=lv then (match (if st.c<=lv then shA Γ h s b else shX G h s b) with|some x=>some (mkI G (.v q lv s) r x y)|none=>none) else none
  |_,_=>none)
 | .b i lv t::r=>(match fb st.L i,lG Γ h st r with
  |some (lv',.dat t' x),some y=>if st.c<=lv\/lv'<=lv then (match cT G t' t x with|some x=>some (mkI G (.b i lv t) r x y)|none=>none) else none
  |_,_=>none)
 | .a i lv t n::r=>(match fb st.L i,lG Γ h st r with
  |some (lv',.arr t' n' x),some y=>if (st.c<=lv\/lv'<=lv)/\n'=n then (match cT G (.sl t') (.sl t) x with|some x=>some (mkI G (.a i lv t n) r x y)|none=>none) else none
  |_,_=>none)
def nilT (G:Sg)(q:Nat)(c:Ty)(st:St G):St G:=
 match lke st.env q with
 |some (_,.one .nils)=>{ st with T:=(c.kd G).sz::st.T }.put q (.one (.dat (.sl c) [] (some st.T.length)))
 |_=>st
def zx (G:Sg)(q j:Nat)(st:St G):St G:=
 match lke st.env q with
 |some (_,.one (.dat t x (some j')))=>
  if j'=j then st else
  (match fb st.T j,fb st.T j' with
  |some s,some s'=>if s=s' then { st with env:=(q,st.c,.one (.dat t x (some j)))::rmk (l8 j' st.c (l8 j st.c st.env)) q } else st
  |_,_=>st)
 |_=>st
def l9 (G:Sg):List It->St G->St G
 |[],st=>st
 | .v q _ (.dat (.sl c) (some j))::r,st=>l9 G r (zx G q j (nilT G q c st))
 |_::r,st=>l9 G r st
structure Tm where
 fx:List (Nat×Nat×Fx)
 its:List It
 nb:Nat
 T:List Nat
def Tm.st (G:Sg)(T:Tm)(c:Nat)(x:eC G T.its):St G:=
 { env:=T.fx.map (λe=>(e.1,e.2.1,.one (e.2.2.mk G)))++kx G T.its x,c:=c,L:=lK (λi=>match dB G T.its x i with|some e=>e|none=>(c,.gone)) T.nb,T:=T.T }
def Ck (st:St G)(nb:Nat):List (Nat×Nat×Fx)->Bool
 |[]=>true
 |(q,lv,f)::r=>(match lke st.env q with
  |some (lv',.one b)=>(Z1 st.c lv||Z1 lv' lv)&&f.is b&&(match f with| .blk i=>Q2 i nb| .own i=>Q2 i nb|_=>true)
  |_=>false)&&Ck st nb r
def Tm.fit (Γ:Tab P G)(T:Tm)(st0:St G):Option (eC G T.its):=
 let st:=l9 G T.its st0
 match Ck st T.nb T.fx&&Z1 T.nb st.L.length&&decide (st.T.drop (st.T.length - T.T.length)=T.T) with
 |true=>lG Γ T.T.length st T.its
 |false=>none
structure Lt where
 its:List It
 keep:List Nat
 nb:Nat
 T:List Nat
def o5 (env:List (Nat×Nat×EV G))(d:Nat):List Nat->List (Nat×Nat×EV G)
 |[]=>[]
 |q::r=>(match lke env q with|some (lv,e)=>(q,min lv d,e)::o5 env d r|none=>o5 env d r)
def Lt.st (G:Sg)(T:Lt)(st:St G)(x:eC G T.its):St G:=
 { env:=kx G T.its x++o5 st.env st.c T.keep,c:=st.c+1,L:=lK (λi=>match dB G T.its x i with|some e=>e|none=>(match fb st.L i with|some e=>(min e.1 st.c,e.2)|none=>(0,.gone))) T.nb,T:=T.T }
def nk (d:Nat):List It->Bool
 |[]=>true
 | .v _ lv _::r=>Q9 lv (d+1)&&nk d r
 | .b _ lv _::r=>Q9 lv (d+1)&&nk d r
 | .a _ lv _ _::r=>Q9 lv (d+1)&&nk d r
def Lt.fit (Γ:Tab P G)(T:Lt)(st0:St G):Option (St G×eC G T.its):=
 let st:=l9 G T.its st0
 match Q9 st.L.length T.nb&&decide (st.T=T.T)&&qQ T.keep&&nk st.c T.its&&T.keep.all (λq=>(lke st.env q).isSome) with
 |true=>(match lG Γ T.T.length st T.its with|some x=>some (st,x)|none=>none)
 |false=>none
def pV (k:Nat):List It->Bool
 |[]=>false
 | .v _ _ _::r=>pV k r
 | .b i _ _::r=>Q9 i k||pV k r
 | .a i _ _ _::r=>Q9 i k||pV k r
def DM (T:Lt)(d:Nat)(st:St G):Bool:=
 T.keep.all (λq=>match lke st.env q with|some (lv,_)=>Z1 lv d|none=>false)&&Z1 T.nb st.L.length&&decide (st.T.drop (st.T.length - T.T.length)=T.T)&&
  (Qx T.nb).all λi=>pV i T.its||(match fb st.L i with|some (lv,_)=>Z1 lv d|none=>false)
def Lt.back (Γ:Tab P G)(T:Lt)(d:Nat)(st0:St G):Option (eC G T.its):=
 let st:=l9 G T.its st0
 match DM T d st with
 |true=>lG Γ T.T.length st T.its
 |false=>none
end
inductive An (G:Sg):Type->Type 1 where
 |o {ρ:Type}:An G ρ
 |s {ρ:Type} (l r:An G ρ):An G ρ
 |c {ρ:Type} (l:An G ρ) (T:Tm) (J:eC G T.its->Option ρ) (r:An G ρ):An G ρ
 |l {ρ:Type} (T:Lt) (b:An G (eC G T.its⊕ρ)):An G ρ
 |b {ρ:Type} (x:An G ρ):An G ρ
 |i {ρ:Type} (x y:An G ρ):An G ρ
noncomputable section
variable {G:Sg}{P:Program}
def low (d:Nat)(st:St G):St G:={ st with c:=d }
def ex (n:Nat) (Γ:Tab P G) (D:List (CS P G)):Code->{ρ:Type}->An G ρ->St G->(St G->Option ρ)->(Nat->St G->Option ρ)->(St G->Option ρ)->Option ρ
 | .skip,_,_,st,N,_,_=>N st
 | .label _,_,_,st,N,_,_=>N st
 | .region _ ops dr,_,_,st,N,_,_=>uL n Γ D ops.toList dr st N
 | .seq x y,_,A,st,N,X,R=>(match A with
  | .s l r=>ex n Γ D x l st (λst'=>ex n Γ D y r st' N X R) X R
  | .c l T J r=>ex n Γ D x l st (λst'=>match T.fit Γ st' with|some v=>J v|none=>none) X R
  |_=>ex n Γ D x .o st (λst'=>ex n Γ D y .o st' N X R) X R)
 | .cond c x y,_,A,st,N,X,R=>(match av? (st.op c) with
  | some v=>(match v.b? with
   |some b=>(match A with
    | .i l r=>if b=true then ex n Γ D x l st N X R else ex n Γ D y r st N X R
    |_=>if b=true then ex n Γ D x .o st N X R else ex n Γ D y .o st N X R)
   |none=>none)
  |none=>none)
 | .block id c,_,A,st,N,X,R=>(match A with
  | .b a=>ex n Γ D c a st N (λj st'=>match Q9 j id with|true=>N st'|false=>X j st') R
  |_=>ex n Γ D c .o st N (λj st'=>match Q9 j id with|true=>N st'|false=>X j st') R)
 | .scope c,_,A,st,N,X,R=>(match A with
  | .b a=>ex n Γ D c a st N X R
  |_=>ex n Γ D c .o st N X R)
 | .loop c,_,A,st,N,X,R=>(match A with
  | .l T b=>(match T.fit Γ st with
   |some (st1,x)=>aq (λs=>ex n Γ D c b (T.st G st1 s) (λst'=>match T.back Γ st.c st' with|some s'=>some (.inl s')|none=>none) (λj st'=>(X j (low st.c st')).map .inr) (λst'=>(R (low st.c st')).map .inr)) x
   |none=>none)
  |_=>none)
 | .exit id,_,_,st,_,X,_=>X id st
 | .ret,_,_,st,_,_,R=>R st
 |_,_,_,_,_,_,_=>none
def Obl (np n:Nat)(Γ:Tab P G)(D:List (CS P G)):Code->{ρ:Type}->An G ρ->Nat->(St G->Option ρ)->(Nat->St G->Option ρ)->(St G->Option ρ)->Prop
 | .seq x y,_,A,d,N,X,R=>(match A with
  | .s l r=>Obl np n Γ D x l d (λst'=>ex n Γ D y r st' N X R) X R/\Obl np n Γ D y r d N X R
  | .c l T J r=>Obl np n Γ D x l d (λst'=>match T.fit Γ st' with|some v=>J v|none=>none) X R/\Z1 np T.nb=true/\(∀v,ex n Γ D y r (T.st G d v) N X R=J v)/\Obl np n Γ D y r d N X R
  |_=>True)
 | .cond _ x y,_,A,d,N,X,R=>(match A with
  | .i l r=>Obl np n Γ D x l d N X R/\Obl np n Γ D y r d N X R
  |_=>True)
 | .block id c,_,A,d,N,X,R=>(match A with
  | .b a=>Obl np n Γ D c a d N (λj st'=>match Q9 j id with|true=>N st'|false=>X j st') R
  |_=>True)
 | .scope c,_,A,d,N,X,R=>(match A with
  | .b a=>Obl np n Γ D c a d N X R
  |_=>True)
 | .loop c,_,A,d,N,X,R=>(match A with
  | .l T b=>Obl np n Γ D c b (d+1) (λst'=>match T.back Γ d st' with|some s'=>some (.inl s')|none=>none) (λj st'=>(X j (low d st')).map .inr) (λst'=>(R (low d st')).map .inr)
  |_=>True)
 |_,_,_,_,_,_,_=>True
theorem Obl.o (np n:Nat)(Γ:Tab P G)(D:List (CS P G))(c:Code){ρ:Type}(d:Nat)(N:St G->Option ρ)(X:Nat->St G->Option ρ)(R:St G->Option ρ):Obl np n Γ D c .o d N X R:=by
 cases c<;>exact trivial
end
end Go.Proofs.YthbonoagbeilkaaGreat.Hay
