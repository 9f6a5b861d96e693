import Derived.Test.YthbonoagbeilkaaGreatHbA
set_option linter.unusedVariables false
set_option linter.unusedSimpArgs false
namespace Go.Proofs.YthbonoagbeilkaaGreat.Hay
open Option renaming bind_some→X4
open List renaming getElem?_eq_some_iff→Z0,getElem?_append_right→Z1,getElem?_append_left→Z4,append_assoc→Z6,mem_cons→Z8,any_eq_true→Z9,mem_filter→Zc,mem_zipIdx_iff_getElem?→Ze,all_eq_true→Zg,getElem?_take→Zh,filter_cons→Zi,getElem?_eq_getElem→Zj,pairwise_append→Zl,mem_append→Zm,length_take→Zo,length_append→Zp,mem_singleton→Zq,map_cons→Zr,replicate→Zt,getElem?_take_of_lt→Zu,mem_map_of_mem→Zv,getElem?_drop→Zx,mem_map→Zy,set_append_right→Zz,filterMap_cons→X5,drop_eq_getElem_cons→X6,pairwise_iff_getElem→X7,drop_drop→X9,getElem?_cons_succ→Xa,getElem?_set→Xb,take_append_drop→Xc,getElem?_eq_none→Xd,map_nil→Xg,range→Xh
open Nat renaming eq_of_beq_eq_true→Z2,le_of_ble_eq_true→Z3,blt→Z5,beq→Zb,ble_eq_true_of_le→Zd,add_sub_cancel_left→Zk,lt_or_ge→Zs,ble→X3,beq_refl→X8,zero_add→Xe,le_refl→Xf
open Bool renaming and_eq_true→Z7,not_eq_true'→Zf,or_eq_true→Zn,noConfusion→Zw
open M.le renaming refl→Za
def GR {O:Type}(k:Kd O)(o:Nat)(m:M)(b:Nat)(cs:List Value)(v:Value)(xs:List O)(rows:List Value):Prop:=
 GS k m b cs v xs/\rows.length=xs.length/\∀i r,rows[i]? =some r->cs[i*k.sz+o]? =some r
def tls (sz:Nat)(rows:List Value):List (Nat×Value):=rows.map λv=>(sz,v)
section
variable {O:Type}{k:Kd O}{o:Nat}{m m':M}{b:Nat}{cs:List Value}{v:Value}{xs:List O}{rows:List Value}
theorem GR.mono (h:GR k o m b cs v xs rows)(J:M.le m m'):GR k o m' b cs v xs rows:=⟨h.1.mono J,h.2⟩
theorem GR.row (h:GR k o m b cs v xs rows){j:Nat}{x:O}(W:xs[j]? =some x):∃r,rows[j]? =some r/\cs[j*k.sz+o]? =some r:=by
 have J:=(Z0.1 W).1;have:j<rows.length:=by rw[h.2.1];exact J
 exact⟨rows[j],Zj this,h.2.2 j _ (Zj this)⟩
theorem Ab {O:Type}{l:List O}{i:Nat}(h:i<l.length):(l[i]::l.eraseIdx i).Perm l:=by
 have e:l=l.take i++l[i]::l.drop (i+1):=by rw[←X6 h,Xc]
 rw[List.eraseIdx_eq_take_drop_succ]
 conv=>rhs;rw[e]
 exact List.perm_middle.symm
theorem JW {sz j:Nat}{r:Value}(h:rows[j]? =some r)(TL:List (Nat×Value)):(tls sz rows++TL).Perm ((sz,r)::(tls sz (rows.eraseIdx j)++TL)):=by
 obtain⟨J,rfl⟩:=Z0.1 h;have W:rows.Perm (rows[j]::rows.eraseIdx j):=(Ab J).symm;exact(W.map λv=>(sz,v)).append_right TL
theorem JX {sz j:Nat}{u:Value}(h:j<rows.length)(TL:List (Nat×Value)):((sz,u)::(tls sz (rows.eraseIdx j)++TL)).Perm (tls sz (rows.set j u)++TL):=by
 have W:j<(rows.set j u).length:=by simpa using h
 have J:((rows.set j u)[j]::(rows.set j u).eraseIdx j).Perm (rows.set j u):=Ab W;rw[List.getElem_set_self,List.eraseIdx_set_eq] at J;exact(J.map λv=>(sz,v)).append_right TL
end
theorem yi.symm {v u:Value}(h:yi v u):yi u v:=λb J W=>h b W J
theorem S.permT {W0:Bse}{m:M}{w:World}{L:List (Nat×List Value)}{TL Z:List (Nat×Value)}(h:S W0 m w L TL)(hp:TL.Perm Z):S W0 m w L Z:=by
 have a2:TL.Pairwise λa b=>yi a.2 b.2:=by
  rw[X7];intro i j hi J a1;exact h.apart i j _ _ (Zj hi) (Zj J) (by omega)
 have a0:Z.Pairwise λa b=>yi a.2 b.2:=(hp.pairwise_iff λh=>h.symm).1 a2;rw[X7] at a0;refine⟨h.below,h.imm,h.own,h.nodup,λi e W=>?_,λi j e e' W a3 a1=>?_⟩
 ·have:e∈TL:=hp.mem_iff.2 (List.mem_of_getElem? W)
  obtain⟨q,hq⟩:=List.getElem?_of_mem this;exact h.tails q e hq
 ·obtain⟨hi,rfl⟩:=Z0.1 W
  obtain⟨J,rfl⟩:=Z0.1 a3;rcases Nat.lt_or_gt_of_ne a1 with hl|hl
  ·exact a0 i j hi J hl
  ·exact(a0 j i J hi hl).symm
section
variable {δ:List Nat}{P:Program}{W0:Bse}{m:M}{w:World}{L:List (Nat×List Value)}{TL:List (Nat×Value)}{O β:Type}{k:Kd O}{k':Kd β}{n d:Nat}{a:Act}{l:List (Nat×Value)}{x y:Operand}{t ty:TypeId}{pos:String}{aft:Array Edge}{g:Option (Nat×Bool)}{o b i:Nat}{cs:List Value}{v:Value}{xs:List O}{rows:List Value}
theorem Ad {off j:Nat}{s:O->β->O}{u:Value}{xx:O}{J:β}(hE:ax δ n a l)(hS:S W0 m w L TL)(hT:du P t k')(W:StF k k' off s)(hg:GS k m b cs v xs)(hj:xs[j]? =some xx)(hx:evl l x=some (.pointer (some ⟨b,j*k.sz+off,none⟩)))(hy:evl l y=some u)(hv:RV k' m u J)(hL:L[i]? =some (b,cs)):
  be P ⟨none,.store t x y,ty,pos,aft,g⟩ a w (λ_ w'=>∃vs,k'.R m vs J/\u=k'.val vs/\vs.length=k'.sz/\j*k.sz+off+k'.sz<=cs.length/\GS k m b (cs.take (j*k.sz+off)++vs++cs.drop (j*k.sz+off+k'.sz)) v (xs.set j (s xx J))/\S W0 m w' (L.set i (b,cs.take (j*k.sz+off)++vs++cs.drop (j*k.sz+off+k'.sz))) TL):=by
 have hR:=hg.elem hj;have hl:=k.len hR;have hb:j*k.sz+off+k'.sz<=cs.length:=by have:=W.1;simp at hl;have:=k.pos;omega
 refine(rt hE hS hT hx hy hv hL hb).imp λ_ w' ⟨vs,h,h0,h2⟩=>⟨vs,h,h0,k'.len h,hb,?_,h2⟩
 have h3:=W.2 m _ vs xx J hR h;have Z:=hg.set hj h3;have a0:=k'.len h
 have e2:cs.take (j*k.sz)++(((cs.drop (j*k.sz)).take k.sz).take off++vs++((cs.drop (j*k.sz)).take k.sz).drop (off+k'.sz))++cs.drop (j*k.sz+k.sz)=cs.take (j*k.sz+off)++vs++cs.drop (j*k.sz+off+k'.sz):=by
  have a1:=W.1;rw[List.take_take,Nat.min_eq_left (by omega),List.take_add (i:=j*k.sz) (j:=off) (l:=cs)]
  have e3:((cs.drop (j*k.sz)).take k.sz).drop (off+k'.sz)++cs.drop (j*k.sz+k.sz)=cs.drop (j*k.sz+off+k'.sz):=by
   rw[List.drop_take,X9,show cs.drop (j*k.sz+k.sz)=(cs.drop (j*k.sz+(off+k'.sz))).drop (k.sz - (off+k'.sz)) by rw[X9];congr 1;omega,Xc];congr 1;omega
  rw[Z6,Z6,Z6,e3];simp
 rw[e2] at Z;exact Z
theorem DW {A B C:List Value}{q:Nat}(h:q<A.length):(A++B++C)[q]? =A[q]? :=by
 rw[Z6,Z4 h]
theorem xe {off j:Nat}{s:O->β->O}{u:Value}{xx:O}{yy:β}(hE:ax δ n a l)(hS:S W0 m w L TL)(hT:du P t k')(Z:StF k k' off s)(W:GR k o m b cs v xs rows)(hj:xs[j]? =some xx)(hx:evl l x=some (.pointer (some ⟨b,j*k.sz+off,none⟩)))(hy:evl l y=some u)(hv:RV k' m u yy)(hL:L[i]? =some (b,cs))
  (ho:o<k.sz) (hd:o<off\/off+k'.sz<=o):
  be P ⟨none,.store t x y,ty,pos,aft,g⟩ a w (λ_ w'=>∃cs',GR k o m b cs' v (xs.set j (s xx yy)) rows/\S W0 m w' (L.set i (b,cs')) TL):=by
 refine(Ad hE hS hT Z W.1 hj hx hy hv hL).imp λ_ w' ⟨vs,h1,h0,a2,hb,h2,h3⟩=>⟨_,⟨h2,by simpa using W.2.1,λq r hq=>?_⟩,h3⟩
 have J:=W.2.2 q r hq;have a1:=Z.1;have a0:=(Z0.1 J).1
 have h:q*k.sz+o<j*k.sz+off\/j*k.sz+off+k'.sz<=q*k.sz+o:=by
  rcases Nat.lt_trichotomy q j with hl|hl|hl
  ·have:=iv (sz:=k.sz) hl;omega
  ·subst hl;omega
  ·have:=iv (sz:=k.sz) hl;omega
 rcases h with h|h
 ·rw[DW (by simp;omega),Zu h,J]
 ·rw[Z1 (by simp;omega)]
  simp only[Zp,Zo,Zx];rw[←J];congr 1;omega
theorem Fy {γ:Type}{kc:Kd γ}{j:Nat}{s:O->List γ->O}{u:Value}{xx:O}{yy:List γ}(hE:ax δ n a l)(hS:S W0 m w L TL)(hT:du P t (kSl kc))(hf:StF k (kSl kc) o s)(Z:GR k o m b cs v xs rows)(hj:xs[j]? =some xx)(hx:evl l x=some (.pointer (some ⟨b,j*k.sz+o,none⟩)))(hy:evl l y=some u)(hv:RV (kSl kc) m u yy)(hL:L[i]? =some (b,cs)):
  be P ⟨none,.store t x y,ty,pos,aft,g⟩ a w (λ_ w'=>∃cs',GR k o m b cs' v (xs.set j (s xx yy)) (rows.set j u)/\S W0 m w' (L.set i (b,cs')) TL):=by
 refine(Ad hE hS hT hf Z.1 hj hx hy hv hL).imp λ_ w' ⟨vs,h1,h0,a1,hb,h2,h3⟩=>⟨_,⟨h2,by simpa using Z.2.1,λq r h=>?_⟩,h3⟩
 have a0:vs=[u]:=by
  match vs,a1,h0 with
  |[c],_,h0=>exact congrArg (λz=>[z]) (show c=u from h0.symm)
 subst a0;have hb:j*k.sz+o+1<=cs.length:=hb
 by_cases hqj:q=j
 ·subst hqj
  have:q<rows.length:=by
   have:=(Z0.1 h).1;simpa using this
  rw[List.getElem?_set_self this] at h;injection h with h;subst h
  rw[Z6,Z1 (by simp only[Zo];omega),show q*k.sz+o - (cs.take (q*k.sz+o)).length=0 by simp only[Zo];omega]
  rfl
 ·rw[List.getElem?_set_ne (λe=>hqj e.symm)] at h
  have W:=Z.2.2 q r h;have a3:o+1<=k.sz:=hf.1;have a2:=(Z0.1 W).1;show(cs.take (j*k.sz+o)++[u]++cs.drop (j*k.sz+o+1))[q*k.sz+o]? =some r
  have J:q*k.sz+o<j*k.sz+o\/j*k.sz+o+1<=q*k.sz+o:=by
   rcases Nat.lt_or_gt_of_ne hqj with hl|hl
   ·have:=iv (sz:=k.sz) hl;omega
   ·have:=iv (sz:=k.sz) hl;omega
  rcases J with J|J
  ·rw[DW (by simp;omega),Zu J,W]
  ·rw[Z1 (by simp;omega)]
   simp only[Zp,Zo,Zx,List.length_singleton];rw[←W];congr 1;omega
def zn:Kd Unit:={
 sz:=1
 agg:=false
 R:=λ_ cs _=>∃c,cs=[c]/\c.oneCell'=true
 mono:=λ_ h=>h
 len:=λh=>by obtain⟨c,rfl,_⟩:=h;rfl
 one:=λh=>by obtain⟨c,rfl,J⟩:=h;simpa using J
 pos:=by decide
 flat:=λ_=>rfl
 }
theorem GS.one (h:GS k m b cs v xs):v.oneCell'=true:=by
 obtain⟨a,cap,rfl,_⟩:=h.val
 rfl
theorem Mr {c:Value}(Z:ax δ n a l)(hS:S W0 m w L TL)(hT:du P t zn)(hx:evl l x=some (.pointer (some ⟨b,o,none⟩)))(hL:L[i]? =some (b,cs))(J:cs[o]? =some c)(h1:c.oneCell'=true):ay P ⟨some d,.load t x,ty,pos,aft,g⟩ a w c w:=by
 have e:(cs.drop o).take 1=[c]:=by
  rw[List.take_one,List.head?_drop,J];rfl
 have a0:=(Z0.1 J).1;have h:zn.R m ((cs.drop o).take zn.sz) ():=⟨c,e,h1⟩
 have hA:At w b o ((cs.drop o).take zn.sz):=hS.atL hL (by rw[zn.len h]) (by rw[zn.len h];exact zn.pos);have W:=jn hT h hA
 have hv:zn.val ((cs.drop o).take zn.sz)=c:=by
  show zn.val ((cs.drop o).take 1)=c;rw[e];rfl
 rw[hv] at W;simp[ay,execOp,Instr.loadAt,Z.eval hx,Instr.sureAddr,W]
theorem S.tailsN (h:S W0 m w L TL)(sz:Nat):∀q,S W0 m w L (tls sz (Zt q (.slice none 0 0))++TL)
 |0=>h
 |q+1=>(S.tailsN h sz q).tail0 sz
theorem S.dropR {sz:Nat}(h:S W0 m w L (tls sz rows++TL)):S W0 m w L TL:=by
 have:=h.dropT (tls sz rows).length;simpa using this
theorem JY {e:TypeId}{by_ N sz:Nat}{kk kc:IntKind}{i:Int}{xs:List O}{x0:O}{J:TypeInfo}{z:Value}(hE:ax δ n a l)(hS:S W0 m w L TL)(hx:evl l x=some (.int kk i))(hy:evl l y=some (.int kc i))(hu:P.underlying t=some (.slice e))(hi:P.info? e=some J)(hz:J.zero=some z)(b2:J.size=k.sz)(a5:J.bytes=by_)(a3:∀m,k.R m z.cells.toList x0)
  (h:mk N i x0=some xs) (hN:X3 (N*by_) 281474976710656=true) (hM:X3 N 281474976710656=true) (ho:z.cells.toList[o]? =some (.slice none 0 0)):
  be P ⟨some d,.makeSlice t x y,ty,pos,aft,g⟩ a w (λv w'=>∃b cs rows,GR k o m b cs v xs rows/\S W0 m w' ((b,cs)::L) (tls sz rows++TL)):=by
 unfold mk at h;split at h
 ·rename_i h0
  injection h with h
  subst h;have hb:=Z3 hN;have b5:=Z3 hM
  have a6:=run_make (P:=P) w t e J z hu hi hz kk kc i i h0.1 (Int.le_refl _) (by
   rw[a5];have h1:(by_:Int)*i<=by_*N:=Int.mul_le_mul_of_nonneg_left h0.2 (by omega);have Z:((N*by_:Nat):Int)=by_*N:=by rw[Int.natCast_mul,Int.mul_comm]
   omega) (by omega)
  have hr:ay P ⟨some d,.makeSlice t x y,ty,pos,aft,g⟩ a w (.slice (some ⟨w.heap.size,0,none⟩) i.toNat i.toNat) (w.alloc (.cells (madeCells z.cells (i.toNat*J.size)) e)):=by
   simp[ay,execOp,hE.eval hx,hE.eval hy,a6]
  have a0:=k.len (a3 m);have b3:=k.pos
  have a4:∀q j:Nat,j<q->((madeCells z.cells (q*k.sz)).toList.drop (j*k.sz)).take k.sz=z.cells.toList:=λq j b4=>by
   apply List.ext_getElem?
   intro r;rw[Zh,Zx]
   have Z:j*k.sz+k.sz<=q*k.sz:=by
    have:=Nat.mul_le_mul_right k.sz (show j+1<=q by omega);rw[Nat.add_mul] at this;omega
   by_cases hr':r<k.sz
   ·rw[if_pos hr']
    have a2:z.cells.size=k.sz:=by simpa using a0
    have h3:(j*k.sz+r)%k.sz=r:=by rw[Nat.mul_comm,Nat.mul_add_mod];exact Nat.mod_eq_of_lt hr'
    have h4:j*k.sz+r<q*k.sz:=by omega
    have a1:r<z.cells.size:=by omega
    have h5:z.cells[r]! =z.cells[r]:=getElem!_pos z.cells r a1;simp[madeCells,h4,a2,h3,h5,Array.getElem?_eq_getElem a1]
   ·rw[if_neg hr']
    have a2:z.cells.toList.length=k.sz:=a0;rw[Xd (by omega)]
  have b1:∀q:Nat,Rl k m (madeCells z.cells (q*k.sz)).toList (Zt q x0):=λq=>by
   refine⟨by simp[madeCells],λj hj=>?_⟩;simp only[List.getElem_replicate];rw[a4 q j (by simpa using hj)];exact a3 m
  refine hr.step ⟨w.heap.size,(madeCells z.cells (i.toNat*k.sz)).toList,Zt i.toNat (.slice none 0 0),⟨?_,by simp,λq r W=>?_⟩,?_⟩
  ·have:=GS.of_Rl (b:=w.heap.size) (b1 i.toNat) (by unfold cR;simp;omega)
   simpa using this
  ·rw[List.getElem?_replicate] at W
   split at W
   ·rename_i b0
    injection W with W;subst W
    have h1:=a4 i.toNat q b0
    have a9:o<k.sz:=by
     have:=(Z0.1 ho).1;rw[←a0];exact this
    have Z:(((madeCells z.cells (i.toNat*k.sz)).toList.drop (q*k.sz)).take k.sz)[o]? =some (.slice none 0 0):=by rw[h1];exact ho
    rw[Zu a9,Zx] at Z;exact Z
   ·cases W
  ·have h1:=hS.allocL (madeCells z.cells (i.toNat*k.sz)).toList e
   rw[b2];refine S.tailsN (sz:=sz) ?_ i.toNat;simpa using h1
 ·cases h
theorem Ms {zc:List Value}(W:ax δ n a l)(hS:S W0 m w L TL)(h:evl l x=some (.agg zc.toArray)):be P ⟨some d,.box t x,ty,pos,aft,g⟩ a w (λv w'=>∃b,v= .pointer (some ⟨b,0,none⟩)/\S W0 m w' ((b,zc)::L) TL):=by
 have J:ay P ⟨some d,.box t x,ty,pos,aft,g⟩ a w (.pointer (some ⟨w.heap.size,0,none⟩)) (w.alloc (.cells zc.toArray t)):=by
  simp[ay,execOp,Instr.box,W.eval h,newVar,newRow,Value.cells]
 exact J.step ⟨_,rfl,hS.allocL zc t⟩
theorem H0 {kT:Kd O}{u:Value}{xx:O}(hE:ax δ n a l)(hS:S W0 m w L TL)(hT:du P t zn)(W:StF kT zn o (λx _=>x))(hx:evl l x=some (.pointer (some ⟨b,o,none⟩)))(hy:evl l y=some u)(h:u.oneCell'=true)(hL:L[i]? =some (b,cs))(Z:kT.R m cs xx):
  be P ⟨none,.store t x y,ty,pos,aft,g⟩ a w (λ_ w'=>∃cs',kT.R m cs' xx/\cs'[o]? =some u/\S W0 m w' (L.set i (b,cs')) TL):=
 (rt (k:=zn) (xx:=()) hE hS hT hx hy ⟨[u],⟨u,rfl,h⟩,rfl⟩ hL (by rw[kT.len Z];exact W.1)).imp λ_ _ ⟨vs,h,J,h2⟩=>⟨_,W.2 m cs vs xx () Z h,by
  have hl:=zn.len h
  match vs,hl,J with
  |[c],_,J=>
   have J:u=c:=J;subst J;have h:=W.1;rw[←kT.len Z] at h;have h:o+1<=cs.length:=h;rw[Z6,Z1 (by simp only[Zo];omega),show o - (cs.take o).length=0 by simp only[Zo];omega]
   rfl,h2⟩
end
abbrev ei (k:IntKind)(x:Int)(v:Value):Prop:=v= .int k x/\inR k x
theorem gz {x b:Bool}(h:x=b):∀(m:M) (W:List Wit) (v:Value),v= .bool x->v= .bool b:=λ_ _ _ J=>by rw[J,h]
section
variable {δ:List Nat}{ro:Option Nat}{P:Program}{os:List Oper}{Φ:Nat->M->List Wit->Value->Prop}{Q:Nat->M->List Wit->List (Nat×List Value)->List (Nat×Value)->Prop}{W0:Bse}{m:M}{n:Nat}{cs:List COp}{i:Nat}{c:COp}{dst:Option Tmp}{op:Op}{ty:TypeId}{pos:String}{aft:Array Edge}
theorem cp0 (h:∀Z J W m' a w,c.lo+Z.length<=c.hi->M.le m m'->Q (c.lo+Z.length) m' ([]++Z) J W->S W0 m' w J W->ax δ n a c.olds->
  (∀(j:Nat) (_:j∈bj ⟨dst,op,ty,pos,aft,none⟩:=by decide) {d:Nat} (_:cB os.toArray j=some d:=by exact rfl),Φ j m' (([]:List Wit).take ((cs.map COp.lv).getD j 0)) (a.tmps.getD d undef))->
  be P ⟨dst,op,ty,pos,aft,none⟩ a w (λv w'=>∃m'',M.le m' m''/\S W0 m'' w' J W/\Φ i m'' [] v)) (h0:c.lo=0:=by exact rfl):
  ChS δ P os Φ Q W0 m n cs i c ⟨dst,op,ty,pos,aft,none⟩:=HR λpre Z J W m' a w h1 h2 h3 h4 h5 h6 h7=>by
 obtain rfl:pre=[]:=eH (by rw[h1,h0]);exact h Z J W m' a w h2 h3 h4 h5 h6 λj hj d hd=>h7 j hj d hd
theorem cp1 (h:∀J W m' a w,M.le m m'->Q 0 m' [] J W->S W0 m' w J W->ax δ n a c.olds->
  (∀(j:Nat) (_:j∈bj ⟨dst,op,ty,pos,aft,none⟩:=by decide) {d:Nat} (_:cB os.toArray j=some d:=by exact rfl),Φ j m' (([]:List Wit).take ((cs.map COp.lv).getD j 0)) (a.tmps.getD d undef))->
  be P ⟨dst,op,ty,pos,aft,none⟩ a w (λv w'=>∃m'',M.le m' m''/\S W0 m'' w' J W/\Φ i m'' [] v)) (Z:c.lo=0:=by exact rfl) (h1:c.hi=0:=by exact rfl):
  ChS δ P os Φ Q W0 m n cs i c ⟨dst,op,ty,pos,aft,none⟩:=cp0 (λa0 J W m' a w h2 h3 h4 h5 h6 h7=>by
 obtain rfl:a0=[]:=eH (by rw[h1] at h2;omega);rw[Z] at h4
 exact h J W m' a w h3 h4 h5 h6 @h7) Z
theorem cmv {x:Operand}{v:Value}(Z:∀m',M.le m m'->Φ i m' [] v)(h:c.lo=0:=by exact rfl)(hx:evl c.olds x=some v:=by exact rfl):ChS δ P os Φ Q W0 m n cs i c ⟨dst,.move x,ty,pos,aft,none⟩:=
 cp0 (λa1 L' a0 m' a w h2 h3 h4 W J h7=>be.imp (ay.pure (iQ J hx)) λ_ _ ⟨e1,e2⟩=>by subst e1 e2;exact⟨_,Za _,W,Z _ h3⟩) h
theorem cg0 {g dg:Nat}{b:Bool}(hq:∀m ws v,Φ g m ws v->v= .bool b)
  (h:∀Z J W m' a w,c.lo+Z.length<=c.hi->M.le m m'->Q (c.lo+Z.length) m' ([]++Z) J W->S W0 m' w J W->ax δ n a c.olds->
  (∀(j:Nat) (_:j∈bj ⟨dst,op,ty,pos,aft,some (g,b)⟩:=by decide) {d:Nat} (_:cB os.toArray j=some d:=by exact rfl),Φ j m' (([]:List Wit).take ((cs.map COp.lv).getD j 0)) (a.tmps.getD d undef))->
  be P ⟨dst,op,ty,pos,aft,some (g,b)⟩ a w (λv w'=>∃m'',M.le m' m''/\S W0 m'' w' J W/\Φ i m'' [] v)) (h0:c.lo=0:=by exact rfl)
  (hd:cB os.toArray g=some dg:=by exact rfl) (hn:Z5 dg n=true:=by exact rfl) (hg:g∈bj ⟨dst,op,ty,pos,aft,some (g,b)⟩:=by decide):
  ChS δ P os Φ Q W0 m n cs i c ⟨dst,op,ty,pos,aft,some (g,b)⟩:=NV hd hn hg hq λpre Z J W m' a w h1 h2 h3 h4 h5 h6 h7=>by
 obtain rfl:pre=[]:=eH (by rw[h1,h0]);exact h Z J W m' a w h2 h3 h4 h5 h6 λj hj d hd=>h7 j hj d hd
theorem cg1 {g dg:Nat}{b:Bool}(hq:∀m ws v,Φ g m ws v->v= .bool b)
  (h:∀J W m' a w,M.le m m'->Q 0 m' [] J W->S W0 m' w J W->ax δ n a c.olds->
  (∀(j:Nat) (_:j∈bj ⟨dst,op,ty,pos,aft,some (g,b)⟩:=by decide) {d:Nat} (_:cB os.toArray j=some d:=by exact rfl),Φ j m' (([]:List Wit).take ((cs.map COp.lv).getD j 0)) (a.tmps.getD d undef))->
  be P ⟨dst,op,ty,pos,aft,some (g,b)⟩ a w (λv w'=>∃m'',M.le m' m''/\S W0 m'' w' J W/\Φ i m'' [] v)) (Z:c.lo=0:=by exact rfl) (h1:c.hi=0:=by exact rfl)
  (hd:cB os.toArray g=some dg:=by exact rfl) (hn:Z5 dg n=true:=by exact rfl) (hg:g∈bj ⟨dst,op,ty,pos,aft,some (g,b)⟩:=by decide):
  ChS δ P os Φ Q W0 m n cs i c ⟨dst,op,ty,pos,aft,some (g,b)⟩:=cg0 hq (λa0 J W m' a w h2 h3 h4 h5 h6 h7=>by
 obtain rfl:a0=[]:=eH (by rw[h1] at h2;omega);rw[Z] at h4
 exact h J W m' a w h3 h4 h5 h6 @h7) Z hd hn hg
theorem cgm {g h:Nat}{b:Bool}{x:Operand}{v:Value}(hq:∀m ws v,Φ g m ws v->v= .bool b)(hp:∀m',M.le m m'->Φ i m' [] v)(W:c.lo=0:=by exact rfl)(hx:evl c.olds x=some v:=by exact rfl)
  (Z:cB os.toArray g=some h:=by exact rfl) (hn:Z5 h n=true:=by exact rfl) (J:g∈bj ⟨dst,.move x,ty,pos,aft,some (g,b)⟩:=by decide):ChS δ P os Φ Q W0 m n cs i c ⟨dst,.move x,ty,pos,aft,some (g,b)⟩:=
 cg0 hq (λa1 L' a0 m' a w h2 h3 h4 h5 h6 h7=>be.imp (ay.pure (iQ h6 hx)) λ_ _ ⟨e1,e2⟩=>by subst e1 e2;exact⟨_,Za _,h5,hp _ h3⟩) W Z hn J
theorem csk {g J:Nat}{b b':Bool}(hq:∀m ws v,Φ g m ws v->v= .bool b)(Z:cB os.toArray g=some J:=by exact rfl)(hn:Z5 J n=true:=by exact rfl)(W:g∈bj ⟨dst,op,ty,pos,aft,some (g,b')⟩:=by decide)(hb:b≠b':=by decide)(h:∀m ws,Φ i m ws undef:=by exact λ_ _=>rfl):
  ChS δ P os Φ Q W0 m n cs i c ⟨dst,op,ty,pos,aft,some (g,b')⟩:=SM Z hn W hq hb h
end
section
variable {P:Program}{o:Oper}{a:Act}{w:World}{W0:Bse}{m':M}{L:List (Nat×List Value)}{TL:List (Nat×Value)}{v:Value}{F:M->Value->Prop}{R:Value->Prop}
theorem cq (h:ay P o a w v w)(hS:S W0 m' w L TL)(J:F m' v):be P o a w (λv w'=>∃m'',M.le m' m''/\S W0 m'' w' L TL/\F m'' v):=
 be.imp (ay.pure h) λ_ _ ⟨W,e2⟩=>by subst W e2;exact⟨_,Za _,hS,J⟩
theorem cr (h:be P o a w (λv w'=>w=w'/\R v))(hS:S W0 m' w L TL)(W:∀v,R v->F m' v):be P o a w (λv w'=>∃m'',M.le m' m''/\S W0 m'' w' L TL/\F m'' v):=
 be.imp h λ_ _ ⟨e,J⟩=>by subst e;exact⟨_,Za _,hS,W _ J⟩
end
section
variable {δ:List Nat}{ro:Option Nat}{P:Program}{ops:Array Oper}{Q:Exit->Act->World->Prop}{rest:List Oper}{a:Act}{w:World}{n:Nat}{l:List (Nat×Value)}{d:Nat}{op:Op}{ty t t':TypeId}{pos:String}{aft:Array Edge}{v:Value}
theorem qM {x:Operand}(h:ax δ n a l)(W:evl l x=some v)(k:∀a',ax δ n a' ((d,v)::l)->wpL ro P ops Q rest a' w)(J:Z5 d n=true:=by exact rfl):wpL ro P ops Q (⟨some d,.move x,ty,pos,aft,none⟩::rest) a w:=sp h (iQ h W) J k
theorem qA {x:Operand}(h:ax δ n a l)(W:evl l x=some v)(k:∀a',ax δ n a' ((d,v)::l)->wpL ro P ops Q rest a' w)(J:Z5 d n=true:=by exact rfl):wpL ro P ops Q (⟨some d,.assign x,ty,pos,aft,none⟩::rest) a w:=sp h (mM h W) J k
theorem qB {x y:Operand}{J:BinOp}{k k':IntKind}{p q:Int}(h:ax δ n a l)(hx:evl l x=some (.int k p))(Z:evl l y=some (.int k' q))(hr:∀w,(binOp J t (.int k p) (.int k' q)).run P w= .ok v w)
  (kk:∀a',ax δ n a' ((d,v)::l)->wpL ro P ops Q rest a' w) (W:Z5 d n=true:=by exact rfl):wpL ro P ops Q (⟨some d,.binOp J t x y t',ty,pos,aft,none⟩::rest) a w:=sp h (a7 h hx Z hr) W kk
theorem qX {g:Nat}{b b':Bool}{o:Oper}{h:Nat}(hE:ax δ n a l)(Z:b= !b')(k:∀a',ax δ n a' ((d,undef)::l)->wpL ro P ops Q rest a' w)(J:ops[g]? =some o:=by exact rfl)(ho:o.dst=some h:=by exact rfl)(a0:Z5 h n=true:=by exact rfl)(hl:lk l h=some (.bool b):=by exact rfl)
  (W:Z5 d n=true:=by exact rfl):wpL ro P ops Q (⟨some d,op,ty,pos,aft,some (g,b')⟩::rest) a w:=sx hE J ho a0 hl Z W k
theorem qG {W:Oper}{g h:Nat}{b c:Bool}{x:Operand}(J:ax δ n a l)(hc:c=b)(hx:evl l x=some v)(k:∀a',ax δ n a' ((d,v)::l)->wpL ro P ops Q rest a' w)(Z:ops[g]? =some W:=by exact rfl)(ho:W.dst=some h:=by exact rfl)(a0:Z5 h n=true:=by exact rfl)(hl:lk l h=some (.bool c):=by exact rfl)
  (hd:Z5 d n=true:=by exact rfl):wpL ro P ops Q (⟨some d,.move x,ty,pos,aft,some (g,b)⟩::rest) a w:=spg J Z ho a0 hl hc (iQ J hx) hd k
theorem qT {b:Bool}{x y z:Operand}(h:ax δ n a l)(W:b=true)(Z:evl l y=some v)(k:∀a',ax δ n a' ((d,v)::l)->wpL ro P ops Q rest a' w)(hx:evl l x=some (.bool b):=by exact rfl)(J:Z5 d n=true:=by exact rfl):wpL ro P ops Q (⟨some d,.pick x y z,ty,pos,aft,none⟩::rest) a w:=sp h (uV h hx W Z) J k
theorem qF {b:Bool}{x y z:Operand}(h:ax δ n a l)(W:b=false)(Z:evl l z=some v)(k:∀a',ax δ n a' ((d,v)::l)->wpL ro P ops Q rest a' w)(hx:evl l x=some (.bool b):=by exact rfl)(J:Z5 d n=true:=by exact rfl):wpL ro P ops Q (⟨some d,.pick x y z,ty,pos,aft,none⟩::rest) a w:=sp h (uW h hx W Z) J k
end
section
variable {P:Program}{f:FuncId}{fn:Func}{c:Code}{args:List Value}{n:Nat}{w:World}{R:Value->World->Prop}
theorem kc (hf:P.funcs[f]? =some fn)(Z:fn.ntmps=n)(h:∀a,Env n a ((Xh args.length).zip args)->K none P c (Fin P fn R) [] (Fin P fn R) a w)(W:fn.body=some c:=by exact rfl)(J:X3 args.length n=true:=by exact rfl):Calls P f args.toArray w (Ret R):=
 zZ hf W Z (Z3 J) h
theorem f1 {a:Act}{l:List (Nat×Value)}{t:Nat}{v:Value}(J:Env n a l)(W:R v w)(Z:fn.results.toList=[.tmp t]:=by exact rfl)(h:lk l t=some v:=by exact rfl):Fin P fn R a w:=Fin.mk J Z (sD.tmp J h sD.nil) W
theorem f2 {a:Act}{l:List (Nat×Value)}{t t':Nat}{v v':Value}(J:Env n a l)(Z:R (.tuple #[v,v']) w)(hr:fn.results.toList=[.tmp t,.tmp t']:=by exact rfl)(h:lk l t=some v:=by exact rfl)(W:lk l t'=some v':=by exact rfl):Fin P fn R a w:=Fin.mk J hr (sD.tmp J h (sD.tmp J W sD.nil)) Z
theorem rm {vs:Array Value}{Q W:Value->World->Prop}(h:Calls P f vs w (Ret Q))(k:∀v w',Q v w'->W v w'):Calls P f vs w (Ret W):=
 h.mono λe w' J=>by
  cases e with
  |returned v=>exact k v w' J
  |panicked ch=>exact J.elim
  |outgrown=>exact J.elim
end
section
variable {O β γ:Type}{r:γ}
theorem ob2 {x:Option O}{y:O->Option β}{f:O->β->Option γ}(h:(x.bind λa=>(y a).bind (f a))=some r):∃a,x=some a/\∃b,y a=some b/\f a b=some r:=by
 obtain⟨a,J,h⟩:=ob h;obtain⟨b,W,h⟩:=ob h;exact⟨a,J,b,W,h⟩
end
theorem kut {δ:List Nat}{n:Nat}{a:Act}{l J:List (Nat×Value)}(h:ax δ n a l)(W:Sub l J:=by repeat' first|exact trivial|exact rfl|refine And.intro ?_ ?_):ax δ n a J:=h.cut W
theorem eof {δ:List Nat}{n:Nat}{a:Act}{l:List (Nat×Value)}(k:Nat)(h:List (Nat×Value))(W:a.defers=δ.map λD=>{ target:= .collected D,args:= #[] })(Z:a.tmps.size=n){ops:Array Oper}(h3:∀d v,lk l d=some v->(∀j,j<k->cB ops j≠some d)->a.tmps.getD d undef=v)(hs:Sub l h:=by repeat' first|exact trivial|exact rfl|refine And.intro ?_ ?_)
  (J:(Xh k).all (λj=>match cB ops j with|some d=>h.all (λe=> !(Zb e.1 d))|none=>true)=true:=by exact rfl):ax δ n a h:=ax.of W Z h3 hs J
abbrev pz (b:Nat):Value:= .pointer (some ⟨b,0,none⟩)
theorem adv {δ:List Nat}{n:Nat}{a:Act}{l:List (Nat×Value)}{O:Type}{k:Kd O}{m:M}{d:Nat}{x:O}(J:ax δ n a l)(h:RV k m (a.tmps.getD d undef) x):∃v,ax δ n a ((d,v)::l)/\RV k m v x:=⟨_,J.add rfl,h⟩
section
variable {δ:List Nat}{ro:Option Nat}{P:Program}{Φ:Nat->M->List Wit->Value->Prop}{Q:Nat->M->List Wit->List (Nat×List Value)->List (Nat×Value)->Prop}{W0:Bse}{m:M}{n:Nat}{a:Act}{l:List (Nat×Value)}{w:World}{L:List (Nat×List Value)}{TL:List (Nat×Value)}
theorem kch {os:List Oper}{id k:Nat}{es:List Nat}{cs:List COp}{N Rt:Act->World->Prop}{X:List (Nat×(Act->World->Prop))}
  (hm:P.follows .mixedOrders=true) (hE:ax δ n a l) (hS:S W0 m w L TL) (hQ:Q 0 m [] L TL) (a5:ny os=true) (a1:oy os k=true) (a2:JQ os es cs k n=true)
  (mono:∀i m m' h v,M.le m m'->Φ i m h v->Φ i m' h v) (a4:∀c m m' h L T,M.le m m'->Q c m h L T->Q c m' h L T)
  (step:Di δ P os Φ Q W0 m n cs 0 cs os)
  (a0:∀h W J m' a w,h.length=es.length->M.le m m'->Q es.length m' h W J->S W0 m' w W J->a.defers=δ.map (λD=>{ target:= .collected D,args:= #[] })->a.tmps.size=n->(∀d v,lk l d=some v->(∀j,j<k->cB os.toArray j≠some d)->a.tmps.getD d undef=v)->
   (∀(j:Nat) (_:Z5 j (min k os.length)=true:=by exact rfl) {d:Nat} (_:cB os.toArray j=some d:=by exact rfl),Φ j m' (h.take ((cs.map COp.lv).getD j 0)) (a.tmps.getD d undef))->wpL ro P os.toArray (mkQ N X Rt) (os.drop k) a w) (a3:Dj l cs:=by repeat' first|exact trivial|exact rfl|refine And.intro ?_ ?_):K ro P (.region id os.toArray true) N X Rt a w:=
 NU hm hE hS hQ a5 a1 a3 a2 mono a4 step λh W J m' a w h1 h2 h3 h4 h5 Z h7 h8=>a0 h W J m' a w h1 h2 h3 h4 h5 Z h7 λj hj d hd=>h8 j (Z3 hj) d hd
end
section
variable {δ:List Nat}{P:Program}{W0:Bse}{m:M}{L:List (Nat×List Value)}{TL:List (Nat×Value)}{n:Nat}{a:Act}{l:List (Nat×Value)}{w:World}{ty t t2 e:TypeId}{pos:String}{aft:Array Edge}{g:Option (Nat×Bool)}{x y:Operand}{d:Nat}{O:Type}{k:Kd O}{by_ N:Nat}
theorem JZ {ps:Array (Nat×Operand)}{pv:List (Nat×Value)}{h:Array Field}{pl:List (Nat×Nat)}{z:Value}{cs:List Value}(Z:ax δ n a l)(hp:prt l ps=some pv)(J:P.underlying t=some (.struct h))(a0:h.toList.mapM (λf=>(P.info? f.type).map λi=>(f.offset,i.size))=some pl)
  (hz:∀w,(zeroValue t).run P w= .ok z w) (hf:Instr.fill (λx=>pl.toArray[x]?) z.cells pv=some cs.toArray):ay P ⟨some d,.build t ps,ty,pos,aft,g⟩ a w (.agg cs.toArray) w:=by
 have W:(ps.map λp=>(p.1,a.eval p.2)).toList=pv:=pj Z hp
 have a1:(h.mapM λf:Field=>(do pure (f.offset,←sizeOf f.type):Sem (Nat×Nat))).run P w= .ok pl.toArray w:=by
  rw[Array.mapM_eq_mapM_toList];have:=run_places (P:=P) w h.toList pl a0;simp only[Sem.run_map]
  have e1:(h.toList.mapM λf:Field=>(do pure (f.offset,←sizeOf f.type):Sem (Nat×Nat))).run P w= .ok pl w:=by
   have h2:(λf:Field=>(do pure (f.offset,←sizeOf f.type):Sem (Nat×Nat)))=(λf:Field=>Prod.mk f.offset<$>sizeOf f.type):=by
    funext f;rfl
   rw[h2];exact this
  rw[e1]
  rfl
 have a2:(Instr.build t (ps.map λp=>(p.1,a.eval p.2))).run P w= .ok (.agg cs.toArray) w:=by
  simp only[Instr.build,Sem.run_bind,hz,Result.andThen_ok,run_underlying J,a1,W];rw[hf]
  rfl
 simp only[ay,execOp,a2,Sem.run_bind,Sem.run_pure,Result.andThen_ok]
theorem DX {pl:List (Nat×Nat)}{pv:List (Nat×Value)}{z:Value}{x0 xx:O}{cs:List Value}(J:∀m,k.R m z.cells.toList x0)(hP:vA (pl.toArray[·]?) k m pv x0 xx)(W:Instr.fill (λx=>pl.toArray[x]?) z.cells pv=some cs.toArray):k.R m cs xx:=by
 obtain⟨cs',Z,h2⟩:=hP.fill _ (J m)
 have h:some cs'.toArray=some cs.toArray:=by
  rw[←Z,←W]
 injection h with h
 have:cs'=cs:=by simpa using congrArg Array.toList h
 rw[←this];exact h2
end
structure Swo {O:Type}(lt:O->O->Bool):Prop where
 irr:∀a,lt a a=false
 tr:∀a b c,lt a b=true->lt b c=true->lt a c=true
 inc:∀a b c,lt a b=false->lt b c=false->lt a c=false
section
variable {O:Type}{lt:O->O->Bool}
def eqv (lt:O->O->Bool)(a b:O):Bool:= !lt a b&& !lt b a
def Srt (lt:O->O->Bool)(l:List O):Prop:=l.Pairwise λa b=>lt b a=false
theorem lr (h:Swo lt)(a:O):eqv lt a a=true:=by simp[eqv,h.irr]
theorem GK (h:Swo lt):∀{l Z:List O},Srt lt l->Srt lt Z->(∀a,l.filter (eqv lt a)=Z.filter (eqv lt a))->l=Z:=by
 intro l
 induction l with
 | nil=>
  intro Z _ _ J;cases Z with
  |nil=>rfl
  |cons b t=>
   have:=J b;rw[Zi,if_pos (lr h b)] at this;cases this
 | cons a t ih=>
  intro Z hs a0 J;cases Z with
  |nil=>
   have:=J a;rw[Zi,if_pos (lr h a)] at this;cases this
  | cons b t'=>
   unfold Srt at hs a0;rw[List.pairwise_cons] at hs a0
   have ha:a∈b::t':=by
    have W:a∈(a::t).filter (eqv lt a):=Zc.2 ⟨by simp,lr h a⟩;rw[J a] at W;exact(Zc.1 W).1
   have hb:b∈a::t:=by
    have W:b∈(b::t').filter (eqv lt b):=Zc.2 ⟨by simp,lr h b⟩;rw[←J b] at W;exact(Zc.1 W).1
   have W:lt a b=false:=by
    rcases Z8.1 ha with rfl|ha
    ·exact h.irr _
    ·exact a0.1 a ha
   have h2:lt b a=false:=by
    rcases Z8.1 hb with rfl|hb
    ·exact h.irr _
    ·exact hs.1 b hb
   have a1:a=b:=by
    have:=J a;rw[Zi,if_pos (lr h a),Zi,if_pos (by simp[eqv,W,h2])] at this;exact(List.cons.inj this).1
   subst a1;congr 1;refine ih hs.2 a0.2 λc=>?_;have:=J c;rw[Zi,Zi] at this;split at this
   ·exact(List.cons.inj this).2
   ·exact this
structure Stb (lt:O->O->Bool)(l l':List O):Prop where
 srt:Srt lt l'
 flt:∀a,l'.filter (eqv lt a)=l.filter (eqv lt a)
theorem Stb.unique (h:Swo lt){l l1 W:List O}(J:Stb lt l l1)(Z:Stb lt l W):l1=W:=
 GK h J.srt Z.srt λa=>(J.flt a).trans (Z.flt a).symm
theorem Stb.mem (h:Swo lt){l W:List O}(Z:Stb lt l W){x:O}:x∈W↔x∈l:=by
 constructor
 ·intro J
  have:x∈W.filter (eqv lt x):=Zc.2 ⟨J,lr h x⟩;rw[Z.flt x] at this;exact(Zc.1 this).1
 ·intro J
  have:x∈l.filter (eqv lt x):=Zc.2 ⟨J,lr h x⟩;rw[←Z.flt x] at this;exact(Zc.1 this).1
theorem Swo.asym (h:Swo lt){a b:O}(J:lt a b=true):lt b a=false:=by
 cases hb:lt b a with
 |false=>rfl
 |true=>have:=h.tr a b a J hb;rw[h.irr] at this;cases this
theorem Stb.cat (h:Swo lt){A1 A2 B1 B2 R1 R2:List O}(Z:Stb lt (A1++B1) R1)(h2:Stb lt (A2++B2) R2)(hA:Srt lt (A1++A2))(hB:Srt lt (B1++B2))(c1:∀b∈B1,∀a∈A2,lt b a=true)(c2:∀a∈A1,∀b∈B2,lt b a=false):
  Stb lt ((A1++A2)++(B1++B2)) (R1++R2):=by
 unfold Srt at hA hB;rw[Zl] at hA hB;refine⟨?_,λc=>?_⟩
 ·unfold Srt
  rw[Zl];refine⟨Z.srt,h2.srt,λx W y J=>?_⟩;have W:=(Z.mem h).1 W;have J:=(h2.mem h).1 J;rcases Zm.1 W with W|W<;>rcases Zm.1 J with J|J
  ·exact hA.2.2 x W y J
  ·exact c2 x W y J
  ·exact h.asym (c1 x W y J)
  ·exact hB.2.2 x W y J
 ·have key:A2.filter (eqv lt c)++B1.filter (eqv lt c)=B1.filter (eqv lt c)++A2.filter (eqv lt c):=by
   cases ha:A2.filter (eqv lt c) with
   |nil=>simp
   | cons a s=>
    cases hb:B1.filter (eqv lt c) with
    |nil=>simp
    |cons b s'=>
     exfalso;have a3:a∈A2.filter (eqv lt c):=by rw[ha];simp
     have a4:b∈B1.filter (eqv lt c):=by rw[hb];simp
     obtain⟨a2,a0⟩:=Zc.1 a3;obtain⟨a5,a1⟩:=Zc.1 a4;have hl:=c1 b a5 a a2;simp only[eqv,Z7,Zf] at a0 a1;rw[h.inc b c a a1.2 a0.1] at hl;cases hl
  simp only[List.filter_append,Z.flt,h2.flt,Z6];rw[←Z6 (B1.filter _),←key,Z6]
theorem Stb.refl {l:List O}(h:Srt lt l):Stb lt l l:=⟨h,λ_=>rfl⟩
theorem Stb.trans {l J h:List O}(Z:∀a,J.filter (eqv lt a)=l.filter (eqv lt a))(W:Stb lt J h):Stb lt l h:=⟨W.srt,λa=>(W.flt a).trans (Z a)⟩
theorem Stb.ins (h:Swo lt){S1 J:List O}{v:O}(hS:Srt lt (S1++J))(h2:∀s∈J,lt v s=true)(h1:∀s∈S1,lt v s=false):Stb lt (S1++J++[v]) (S1++v::J):=by
 unfold Srt at hS;rw[Zl] at hS;refine⟨?_,λc=>?_⟩
 ·unfold Srt
  rw[Zl,List.pairwise_cons];refine⟨hS.1,⟨λs Z=>h.asym (h2 s Z),hS.2.1⟩,λx hx y W=>?_⟩;rcases Z8.1 W with rfl|W
  ·exact h1 x hx
  ·exact hS.2.2 x hx y W
 ·simp only[List.filter_append,Zi,List.filter_nil,Z6]
  split
  ·rename_i hv
   have hn:J.filter (eqv lt c)=[]:=by
    rw[List.filter_eq_nil_iff];intro s Z hc;have hl:=h2 s Z;simp only[eqv,Z7,Zf] at hv hc;rw[h.inc v c s hv.2 hc.1] at hl;cases hl
   rw[hn];simp
  ·simp
theorem J0 (h:Swo lt){S:List O}{s v:O}(hS:Srt lt (S++[s]))(W:lt v s=false):∀x∈S++[s],lt v x=false:=by
 intro x J;unfold Srt at hS;rw[Zl] at hS;rcases Zm.1 J with J|J
 ·exact h.inc v s x W (hS.2.2 x J s (by simp))
 ·simp only[Zq] at J;subst J;exact W
end
inductive Ty where
 |int (k:IntKind)
 |bool
 |str
 |sl (t:Ty)
 |st (i:Nat)
 deriving DecidableEq
structure Sg where
 O:Nat->Type
 k:(i:Nat)->Kd (O i)
def Ty.den (G:Sg):Ty->Type
 | .int _=>Int
 | .bool=>Bool
 | .str=>List Int
 | .sl t=>List (t.den G)
 | .st i=>G.O i
def Ty.kd (G:Sg):(t:Ty)->Kd (t.den G)
 | .int k=>ag k
 | .bool=>cL
 | .str=>rF
 | .sl t=>kSl (t.kd G)
 | .st i=>G.k i
def dF (G:Sg)(a b:Ty)(x:a.den G):Option (b.den G):=if h:a=b then some (h ▸ x) else none
theorem b8 {G:Sg}{a b:Ty}{x:a.den G}{y:b.den G}(h:dF G a b x=some y):∃e:a=b,e ▸ x=y:=by
 unfold dF at h;split at h
 ·rename_i e
  injection h with h
  exact⟨e,h⟩
 ·cases h
structure Acc (G:Sg)(a b:Ty) where
 off:Nat
 get:a.den G->b.den G
 set:a.den G->b.den G->a.den G
 fld:Fld (a.kd G) (b.kd G) off get
 stf:StF (a.kd G) (b.kd G) off set
def Acc.self (G:Sg)(a:Ty):Acc G a a:=⟨0,λx=>x,λ_ y=>y,iN,bW⟩
def Acc.comp {G:Sg}{a b c:Ty}(A:Acc G a b)(B:Acc G b c):Acc G a c:=⟨A.off+B.off,λx=>B.get (A.get x),λx y=>A.set x (B.set (A.get x) y),HM A.fld B.fld,DI A.fld A.stf B.stf⟩
inductive AV (G:Sg) where
 |li (k:IntKind) (n:Int)
 |dat (t:Ty) (x:t.den G) (o:Option Nat)
 |ptr (t:Ty) (x:t.den G)
 |loc (i:Nat) (a b:Ty) (A:Acc G a b)
 |elp (i j:Nat) (a b:Ty) (A:Acc G a b)
 |blk (i:Nat)
 |own (i:Nat)
 |nils
 |nilp
 |agc (cs:List Value)
 |fn1 (a b:Ty) (f:a.den G->Option (b.den G))
 |fn2 (a c b:Ty) (f:a.den G->c.den G->Option (b.den G))
 |und
inductive EV (G:Sg) where
 |one (v:AV G)
 |tup (vs:List (AV G))
inductive BC (G:Sg) where
 |dat (t:Ty) (x:t.den G)
 |arr (t:Ty) (n:Option Nat) (xs:List (t.den G))
 |gone
structure St (G:Sg) where
 env:List (Nat×Nat×EV G)
 c:Nat
 L:List (Nat×BC G)
 T:List Nat
def fb {O:Type}:List O->Nat->Option O
 |[],_=>none
 |x::l,i=>if Zb i l.length then some x else fb l i
def sb {O:Type}:List O->Nat->O->List O
 |[],_,_=>[]
 |x::l,i,y=>if Zb i l.length then y::l else x::sb l i y
def lke {O:Type}:List (Nat×O)->Nat->Option O
 |[],_=>none
 |(q,x)::l,j=>if Zb q j then some x else lke l j
structure Cz where
 b:List (Nat×Value)
 t:List Value
def Tag (z:Cz)(o:Option Nat)(v:Value):Prop:=match o with|none=>True|some j=>fb z.t j=some v
def AV.Rel (G:Sg)(P:Program)(m:M)(z:Cz):AV G->Value->Prop
 | .li k n,v=>v= .int k n/\inR k n
 | .dat t x o,v=>RV (t.kd G) m v x/\Tag z o v
 | .ptr t x,v=>PR (t.kd G) m v x
 | .loc i _ _ A,v=>∃p,fb z.b i=some p/\v= .pointer (some ⟨p.1,A.off,none⟩)
 | .elp i j a _ A,v=>∃p,fb z.b i=some p/\v= .pointer (some ⟨p.1,j*(a.kd G).sz+A.off,none⟩)
 | .blk i,v=>∃p,fb z.b i=some p/\v= .pointer (some ⟨p.1,0,none⟩)
 | .own i,v=>∃p,fb z.b i=some p/\v=p.2
 | .nils,v=>v= .slice none 0 0
 | .nilp,v=>v= .pointer none
 | .agc cs,v=>v= .agg cs.toArray
 | .fn1 a b f,v=>Fn1 P (a.kd G) (b.kd G) m v f
 | .fn2 a c b f,v=>Fn2 P (a.kd G) (c.kd G) (b.kd G) m v f
 | .und,v=>v=undef
def qn (G:Sg)(P:Program)(m:M)(z:Cz):List (AV G)->List Value->Prop
 |[],[]=>True
 |a::asv,v::vs=>a.Rel G P m z v/\qn G P m z asv vs
 |_,_=>False
def EV.Rel (G:Sg)(P:Program)(m:M)(z:Cz):EV G->Value->Prop
 | .one a,v=>a.Rel G P m z v
 | .tup asv,v=>∃vs:List Value,v= .tuple vs.toArray/\qn G P m z asv vs
def BC.Rel (G:Sg)(m:M):BC G->Nat×Value->List Value->Prop
 | .dat t x,_,cs=>(t.kd G).R m cs x
 | .arr t n xs,p,cs=>GS (t.kd G) m p.1 cs p.2 xs/\(match n with|none=>True|some k=>xs.length=k)
 | .gone,_,cs=>cs=[]
def LR (G:Sg)(m:M):List (Nat×BC G)->List (Nat×Value)->List (Nat×List Value)->Prop
 |[],[],[]=>True
 |B::Bs,p::ps,e::es=>e.1=p.1/\B.2.Rel G m p e.2/\LR G m Bs ps es
 |_,_,_=>False
def TRl:List Nat->List Value->List (Nat×Value)->Prop
 |[],[],[]=>True
 |s::ss,v::vs,e::es=>e=(s,v)/\TRl ss vs es
 |_,_,_=>False
structure Rs where
 l:List (Nat×List Value)
 nm:List (Nat×Value)
def Sfx {O:Type}(l s:List O):Prop:= ∃p,l=p++s
theorem Sfx.cons {O:Type}{x:O}{l s:List O}(h:Sfx l s):Sfx (x::l) s:=by obtain⟨p,rfl⟩:=h;exact⟨x::p,rfl⟩
theorem Sfx.app {O:Type}{q l s:List O}(h:Sfx l s):Sfx (q++l) s:=by obtain⟨p,rfl⟩:=h;exact⟨q++p,by simp⟩
theorem Sfx.len {O:Type}{l s:List O}(h:Sfx l s):s.length<=l.length:=by obtain⟨p,rfl⟩:=h;simp
theorem Sfx.drop {O:Type}{l s:List O}(h:Sfx l s){k:Nat}(J:k+s.length<=l.length):Sfx (l.drop k) s:=by
 obtain⟨p,rfl⟩:=h;simp at J;exact⟨p.drop k,List.drop_append_of_le_length J⟩
def ga (G:Sg)(W0:Bse)(L0:Rs)(T0:List (Nat×Value))(Ls:List (Nat×BC G))(Ts:List Nat)(m:M)(z:Cz)(w:World):Prop:=
 ∃Lc Tc,LR G m Ls z.b Lc/\TRl Ts z.t Tc/\S W0 m w (Lc++L0.l) (Tc++T0)/\Sfx z.b L0.nm
section
variable {G:Sg}{P:Program}{m m':M}{z z':Cz}
theorem AV.Rel.mono {a:AV G}{v:Value}(h:a.Rel G P m z v)(J:M.le m m'):a.Rel G P m' z v:=by
 cases a with
 |dat t x o=>exact⟨RV.mono h.1 J,h.2⟩
 |ptr t x=>exact PR.mono h J
 |fn1 a b f=>exact Fn1.mono h J
 |fn2 a c b f=>exact Fn2.mono h J
 |_=>exact h
theorem qn.mono {J:List (AV G)}{vs:List Value}(h:qn G P m z J vs)(W:M.le m m'):qn G P m' z J vs:=by
 induction J generalizing vs with
 |nil=>cases vs<;>exact h
 |cons a J ih=>
  cases vs with
  |nil=>exact h
  |cons v vs=>exact⟨h.1.mono W,ih h.2⟩
theorem EV.Rel.mono {e:EV G}{v:Value}(h:e.Rel G P m z v)(J:M.le m m'):e.Rel G P m' z v:=by
 cases e with
 |one a=>exact AV.Rel.mono h J
 |tup asv=>obtain⟨vs,W,Z⟩:=h;exact⟨vs,W,Z.mono J⟩
theorem BC.Rel.mono {B:BC G}{p:Nat×Value}{cs:List Value}(h:B.Rel G m p cs)(J:M.le m m'):B.Rel G m' p cs:=by
 cases B with
 |dat t x=>exact(t.kd G).mono J h
 |arr t n xs=>exact⟨GS.mono h.1 J,h.2⟩
 |gone=>exact h
theorem LR.mono {J:List (Nat×BC G)}{ps:List (Nat×Value)}{es:List (Nat×List Value)}(h:LR G m J ps es)(W:M.le m m'):LR G m' J ps es:=by
 induction J generalizing ps es with
 |nil=>cases ps<;>cases es<;>exact h
 | cons B J ih=>
  cases ps with
  |nil=>cases es<;>exact h
  |cons p ps=>
   cases es with
   |nil=>exact h
   |cons e es=>exact⟨h.1,h.2.1.mono W,ih h.2.2⟩
theorem LR.len {J:List (Nat×BC G)}{ps:List (Nat×Value)}{es:List (Nat×List Value)}(h:LR G m J ps es):ps.length=J.length/\es.length=J.length:=by
 induction J generalizing ps es with
 |nil=>cases ps<;>cases es<;>first|exact⟨rfl,rfl⟩|exact h.elim
 | cons B J ih=>
  cases ps with
  |nil=>cases es<;>exact h.elim
  |cons p ps=>
   cases es with
   |nil=>exact h.elim
   |cons e es=>have:=ih h.2.2;simp[this.1,this.2]
theorem LR.get {W:List (Nat×BC G)}{ps:List (Nat×Value)}{es:List (Nat×List Value)}(h:LR G m W ps es){i:Nat}{B:Nat×BC G}(J:fb W i=some B):
  ∃p cs j,fb ps i=some p/\es[j]? =some (p.1,cs)/\B.2.Rel G m p cs/\
   ∀(Z:Nat×BC G) (sv:Value) (cs':List Value),Z.2.Rel G m (p.1,sv) cs'->LR G m (sb W i Z) (sb ps i (p.1,sv)) (es.set j (p.1,cs')):=by
 induction W generalizing ps es with
 |nil=>simp[fb] at J
 | cons B0 W ih=>
  cases ps with
  |nil=>cases es<;>exact h.elim
  | cons p ps=>
   cases es with
   |nil=>exact h.elim
   | cons e es=>
    obtain⟨h1,h2,h3⟩:=h;have hl:=h3.len;simp only[fb] at J;split at J
    ·rename_i hi
     injection J with J
     subst J;refine⟨p,e.2,0,by simp[fb,hl.1,hi],by simp[←h1],h2,λZ sv cs' hb=>?_⟩;simp only[sb,hi,hl.1,if_true,List.set_cons_zero];exact⟨rfl,hb,h3⟩
    ·rename_i hi
     obtain⟨p',cs,j,g1,g2,g3,g4⟩:=ih h3 J;refine⟨p',cs,j+1,by simp[fb,hl.1,hi,g1],by simpa using g2,g3,λZ sv cs' hb=>?_⟩;simp only[sb,hi,hl.1,List.set_cons_succ];exact⟨h1,h2,g4 Z sv cs' hb⟩
theorem yp {O:Type}{x:O}{l:List O}{i:Nat}{y:O}(h:fb l i=some y):fb (x::l) i=some y:=by
 have:∀{l:List O} {i:Nat} {y:O},fb l i=some y->i<l.length:=by
  intro l
  induction l with
  |nil=>intro i y h;simp[fb] at h
  | cons a l ih=>
   intro i y h;simp only[fb] at h;split at h
   ·rename_i e
    have:=Z2 e;simp;omega
   ·have:=ih h;simp;omega
 have hi:=this h;unfold fb
 have:Zb i l.length=false:=by
  cases hb:Zb i l.length with
  |false=>rfl
  |true=>have:=Z2 hb;omega
 simp only[this];exact h
theorem ky {O:Type}{l:List O}{i j:Nat}{y:O}(h:i≠j):fb (sb l i y) j=fb l j:=by
 have len:∀l:List O,(sb l i y).length=l.length:=by
  intro l
  induction l with
  |nil=>rfl
  |cons a l ih=>simp only[sb];split<;>simp[ih]
 induction l with
 |nil=>rfl
 | cons a l ih=>
  simp only[sb];split
  ·rename_i e
   have e':=Z2 e
   have:Zb j l.length=false:=by
    cases hb:Zb j l.length with
    |false=>rfl
    |true=>have:=Z2 hb;omega
   simp[fb,this]
  ·simp only[fb,len,ih]
theorem pk {O:Type}{l:List O}{i:Nat}{x y:O}(h:fb l i=some x):fb (sb l i y) i=some y:=by
 induction l with
 |nil=>simp[fb] at h
 | cons a l ih=>
  simp only[fb] at h
  have len:(sb l i y).length=l.length:=by
   clear ih h
   induction l with
   |nil=>rfl
   |cons a l ih=>simp only[sb];split<;>simp[ih]
  simp only[sb];split
  ·rename_i e;simp[fb,e]
  ·rename_i e
   rw[if_neg e] at h;simp[fb,len,e,ih h]
theorem TRl.len {J:List Nat}{vs:List Value}{es:List (Nat×Value)}(h:TRl J vs es):vs.length=J.length/\es.length=J.length:=by
 induction J generalizing vs es with
 |nil=>cases vs<;>cases es<;>first|exact⟨rfl,rfl⟩|exact h.elim
 | cons a asv ih=>
  cases vs with
  |nil=>cases es<;>exact h.elim
  |cons b bs=>
   cases es with
   |nil=>exact h.elim
   |cons c cs=>have:=ih h.2;simp[this.1,this.2]
theorem TRl.get {Z:List Nat}{vs:List Value}{es:List (Nat×Value)}(h:TRl Z vs es){i s:Nat}{v:Value}(W:fb Z i=some s)(J:fb vs i=some v):
  ∃j,es[j]? =some (s,v)/\∀v',TRl Z (sb vs i v') (es.set j (s,v')):=by
 induction Z generalizing vs es with
 |nil=>simp[fb] at W
 | cons s0 Z ih=>
  cases vs with
  |nil=>cases es<;>exact h.elim
  | cons v0 vs=>
   cases es with
   |nil=>exact h.elim
   | cons e es=>
    obtain⟨h1,h2⟩:=h;have hl:vs.length=Z.length:=h2.len.1;simp only[fb] at W J;rw[hl] at J;split at W
    ·rename_i hi
     rw[if_pos hi] at J;injection W with W;injection J with J
     subst W;subst J;refine⟨0,by simp[h1],λv'=>?_⟩;simp only[sb,hl,hi,if_true,List.set_cons_zero];exact⟨rfl,h2⟩
    ·rename_i hi
     rw[if_neg hi] at J;obtain⟨j,g1,g2⟩:=ih h2 W J;refine⟨j+1,by simpa using g1,λv'=>?_⟩;simp only[sb,hl,hi,List.set_cons_succ];exact⟨h1,g2 v'⟩
end
structure SlI (P:Program)(G:Sg)(i:TypeId)(t:Ty) where
 e:TypeId
 by_:Nat
 z:t.den G
 zv:Value
 inf:TypeInfo
 hu:P.underlying i=some (.slice e)
 hs:∀w,(sizeOf e).run P w= .ok (t.kd G).sz w
 hel:pi P e (t.kd G).sz by_
 hz:∀w,(zeroValue e).run P w= .ok zv w
 hzR:∀m,(t.kd G).R m zv.cells.toList z
 hi:P.info? e=some inf
 hiz:inf.zero=some zv
 hsz:inf.size=(t.kd G).sz
 hby:inf.bytes=by_
def UI (P:Program)(G:Sg)(i:TypeId):Ty->Type
 | .int k=>PLift (P.underlying i=some (.int k))
 | .bool=>PLift (P.underlying i=some .bool)
 | .str=>PLift (P.underlying i=some .string)
 | .sl t=>SlI P G i t
 | .st _=>Unit
structure TI (P:Program)(G:Sg)(i:TypeId) where
 T:Ty
 ok:du P i (T.kd G)
 u:UI P G i T
 z:T.den G
 zv:Value
 hz:∀w,(zeroValue i).run P w= .ok zv w
 hzR:∀m,(T.kd G).R m zv.cells.toList z
structure AI (P:Program)(G:Sg)(i:TypeId) where
 n:Nat
 t:Ty
 e:TypeId
 z:t.den G
 zv:Value
 c:List Value
 hu:P.underlying i=some (.array n e)
 hs:∀w,(sizeOf e).run P w= .ok (t.kd G).sz w
 hz:∀w,(zeroValue i).run P w= .ok zv w
 hzc:zv.cells=((Zt n c).flatten).toArray
 hzR:∀m,(t.kd G).R m c z
 hn:X3 n cR=true
structure FI (P:Program)(G:Sg)(s f:Nat) where
 t:Ty
 A:Acc G (.st s) t
 ok:cI P s f A.off
structure EI (P:Program)(G:Sg)(s:Nat) where
 dec:DecidableEq (G.O s)
 ok:w7 P s (G.k s)
 agg:(G.k s).agg=true
structure BI (P:Program)(G:Sg)(s:Nat) where
 fs:Array Field
 pl:List (Nat×Nat)
 z:G.O s
 zv:Value
 hu:P.underlying s=some (.struct fs)
 hpl:fs.toList.mapM (λf=>(P.info? f.type).map λi=>(f.offset,i.size))=some pl
 hz:∀w,(zeroValue s).run P w= .ok zv w
 hzR:∀m,(G.k s).R m zv.cells.toList z
 agg:(G.k s).agg=true
structure NI (P:Program)(G:Sg)(s:Nat) where
 q:Nat
 to:G.O s->Option (G.O q)
 e:TypeId
 hu:P.underlying s=some (.pointer e)
 hk:∀m v x,RV (G.k s) m v x->RV (kPt (G.k q)) m v (to x)
structure Tab (P:Program)(G:Sg) where
 ty:(i:TypeId)->Option (TI P G i)
 ar:(i:TypeId)->Option (AI P G i)
 fl:(s f:Nat)->Option (FI P G s f)
 eq:(s:Nat)->Option (EI P G s)
 bu:(s:Nat)->Option (BI P G s)
 nl:(s:Nat)->Option (NI P G s)
structure iw (G:Sg) where
 β:Type
 mv:Option β
 k:β->EV G
section
variable {G:Sg}{P:Program}
def pv (v:AV G):Option (iw G):=some ⟨Unit,some (),λ_=> .one v⟩
def pe (v:EV G):Option (iw G):=some ⟨Unit,some (),λ_=>v⟩
def pb {β:Type}(h:Option β)(k:β->AV G):Option (iw G):=some ⟨β,h,λb=> .one (k b)⟩
def AV.i?:AV G->Option (IntKind×Int)
 | .li k n=>some (k,n)
 | .dat (.int k) x _=>some (k,x)
 |_=>none
def AV.lit?:AV G->Option Int
 | .li _ n=>some n
 |_=>none
def AV.b?:AV G->Option Bool
 | .dat .bool x _=>some x
 |_=>none
def AV.s?:AV G->Option (List Int)
 | .dat .str x _=>some x
 |_=>none
def vEq:Value->Value->Bool
 | .int k n,.int k' n'=>decide (k=k')&&decide (n=n')
 | .bool b,.bool b'=>b==b'
 | .string s,.string s'=>decide (s.data.toList=s'.data.toList)
 | .slice none 0 0,.slice none 0 0=>true
 |_,_=>false
theorem N1 {a b:Value}(h:vEq a b=true):a=b:=by
 unfold vEq at h;split at h
 ·simp only[Z7,decide_eq_true_eq] at h
  rw[h.1,h.2]
 ·simp only[beq_iff_eq] at h
  rw[h]
 ·rename_i s s'
  simp only[decide_eq_true_eq] at h;cases s;cases s';simp only at h;rw[Array.toList_inj.1 h]
 ·rfl
 ·cases h
def GL:List Value->List Value->Bool
 |[],[]=>true
 |a::asv,b::bs=>vEq a b&&GL asv bs
 |_,_=>false
theorem FY:∀{W J:List Value},GL W J=true->W=J
 |[],[],_=>rfl
 |a::W,b::J,h=>by
  simp only[GL,Z7] at h;rw[N1 h.1,FY h.2]
 |[],_::_,h=>by cases h
 |_::_,[],h=>by cases h
def AV.as (Γ:Tab P G)(t:Ty):AV G->Option (t.den G)
 | .li k n=>dF G (.int k) t n
 | .dat t' x _=>dF G t' t x
 | .nils=>match t with| .sl _=>some []|_=>none
 | .agc cs=>match t with
  | .st i=>match Γ.bu i with
   |some B=>if GL B.zv.cells.toList cs then some B.z else none
   |none=>none
  |_=>none
 |_=>none
def av?:Option (EV G)->Option (AV G)
 |some (.one v)=>some v
 |_=>none
def di (k:IntKind)(x:Int):AV G:= .dat (.int k) x none
def db (x:Bool):AV G:= .dat .bool x none
def GM (op:BinOp)(k k':IntKind)(p q:Int)(lit:Option Int):Option (iw G):=
 match op with
 | .add=>if k=k' then pv (di k (k.wrap (p+q))) else none
 | .sub=>if k=k' then pv (di k (k.wrap (p - q))) else none
 | .mul=>if k=k' then pv (di k (k.wrap (p*q))) else none
 | .quo=>if k=k' then (match lit with|some n=>if n=q/\n≠0 then pv (di k (k.wrap (p.tdiv q))) else none|none=>pb (chk (q != 0)) λ_=>di k (k.wrap (p.tdiv q))) else none
 | .rem=>if k=k' then (match lit with|some n=>if n=q/\n≠0 then pv (di k (p.tmod q)) else none|none=>pb (chk (q != 0)) λ_=>di k (p.tmod q)) else none
 | .and=>if k=k' then pv (di k (dP k p q)) else none
 | .or=>if k=k' then pv (di k (bOr k p q)) else none
 | .xor=>if k=k' then pv (di k (dS k p q)) else none
 | .shl=>match lit with
  |some n=>if n=q/\0<=n then pv (di k (dZ k p q)) else none
  |none=>if k'= .u8\/k'= .u32\/k'= .u64 then pv (di k (dZ k p q)) else pb (chk (decide (0<=q))) λ_=>di k (dZ k p q)
 | .shr=>match lit with
  |some n=>if n=q/\0<=n then pv (di k (aX k p q)) else none
  |none=>if k'= .u8\/k'= .u32\/k'= .u64 then pv (di k (aX k p q)) else pb (chk (decide (0<=q))) λ_=>di k (aX k p q)
 | .eql=>if k=k' then pv (db (p==q)) else none
 | .neq=>if k=k' then pv (db (p != q)) else none
 | .lss=>if k=k' then pv (db (decide (p<q))) else none
 | .leq=>if k=k' then pv (db (decide (p<=q))) else none
 | .gtr=>if k=k' then pv (db (decide (q<p))) else none
 | .geq=>if k=k' then pv (db (decide (q<=p))) else none
 |_=>none
def tO (G:Sg)(P:Program)(m:M)(z:Cz)(r:Option (iw G))(o:Oper)(a:Act):Prop:=
 ∀R b,r=some R->R.mv=some b->∀w,∃v,ay P o a w v w/\(R.k b).Rel G P m z v
theorem tO.pv {v:AV G}{m:M}{z:Cz}{o:Oper}{a:Act}(h:∀w,∃u,ay P o a w u w/\v.Rel G P m z u):tO G P m z (pv v) o a:=by
 intro R b J W w;injection J with J
 subst J;exact h w
theorem tO.none {m:M}{z:Cz}{o:Oper}{a:Act}:tO G P m z none o a:=by
 intro R b h;cases h
theorem tO.pb {β:Type}{W:Option β}{k:β->AV G}{m:M}{z:Cz}{o:Oper}{a:Act}(h:∀b,W=some b->∀w,∃u,ay P o a w u w/\(k b).Rel G P m z u):tO G P m z (pb W k) o a:=by
 intro R b J Z w;injection J with J
 subst J;exact h b Z w
theorem tO.ite {c:Prop} [Decidable c]{x y:Option (iw G)}{m:M}{z:Cz}{o:Oper}{a:Act}(h:c->tO G P m z x o a)(J: ¬ c->tO G P m z y o a):tO G P m z (if c then x else y) o a:=by
 split
 ·exact h ‹_›
 ·exact J ‹_›
theorem dm {m:M}{z:Cz}{k:IntKind}{x:Int}(h:inR k x):(di k x:AV G).Rel G P m z (.int k x):=⟨aq h,trivial⟩
theorem ef {m:M}{z:Cz}{x:Bool}:(db x:AV G).Rel G P m z (.bool x):=⟨dT,trivial⟩
theorem AV.i_rel {a:AV G}{m:M}{z:Cz}{v:Value}{k:IntKind}{x:Int}(h:a.i?=some (k,x))(J:a.Rel G P m z v):v= .int k x/\inR k x:=by
 cases a with
 |li k' n=>
  simp only[AV.i?,Option.some.injEq,Prod.mk.injEq] at h;obtain⟨rfl,rfl⟩:=h;exact J
 |dat t y o=>
  cases t<;>simp only[AV.i?,reduceCtorEq] at h;obtain⟨rfl,rfl⟩:=Prod.mk.inj (Option.some.inj h);exact aJ J.1
 |_=>simp[AV.i?] at h
theorem AV.b_rel {a:AV G}{m:M}{z:Cz}{v:Value}{x:Bool}(h:a.b?=some x)(J:a.Rel G P m z v):v= .bool x:=by
 cases a with
 |dat t y o=>
  cases t<;>simp only[AV.b?,reduceCtorEq] at h;obtain rfl:=Option.some.inj h;exact eS J.1
 |_=>simp[AV.b?] at h
theorem AV.s_rel {a:AV G}{m:M}{z:Cz}{v:Value}{x:List Int}(h:a.s?=some x)(J:a.Rel G P m z v):v= .string (bts x)/\(∀n∈x,0<=n/\n<256)/\x.length<=cR:=by
 cases a with
 |dat t y o=>
  cases t<;>simp only[AV.s?,reduceCtorEq] at h;obtain rfl:=Option.some.inj h;exact DG J.1
 |_=>simp[AV.s?] at h
theorem AV.as_rel {Γ:Tab P G}{a:AV G}{m:M}{z:Cz}{v:Value}{t:Ty}{x:t.den G}(h:a.as Γ t=some x)(J:a.Rel G P m z v):RV (t.kd G) m v x:=by
 cases a with
 |li k n=>
  obtain⟨e,h⟩:=b8 h;subst e;subst h;obtain⟨rfl,h2⟩:=J;exact aq h2
 |dat t' y o=>
  obtain⟨e,h⟩:=b8 h;subst e;subst h;exact J.1
 | nils=>
  cases t with
  |sl t=>
   simp only[AV.as] at h;obtain rfl:=Option.some.inj h;have:v= .slice none 0 0:=J;subst this;exact cT
  |_=>simp[AV.as] at h
 | agc cs=>
  cases t with
  | st i=>
   simp only[AV.as] at h;split at h
   ·rename_i B _
    split at h
    ·rename_i Z
     obtain rfl:=Option.some.inj h;have W:v= .agg cs.toArray:=J;have:=FY Z;refine⟨cs,?_,?_⟩
     ·rw[←this];exact B.hzR m
     ·subst W
      show _=(G.k i).val cs;simp[Kd.val,B.agg]
    ·cases h
   ·cases h
  |_=>simp[AV.as] at h
 |_=>simp[AV.as] at h
theorem GN {op:BinOp}{k k':IntKind}{p q:Int}{lit:Option Int}{m:M}{z:Cz}{t t':TypeId}{x y:Operand}{dst:Option Tmp}{ty:TypeId}{pos:String}{aft:Array Edge}{g:Option (Nat×Bool)}{δ:List Nat}{n:Nat}{l:List (Nat×Value)}{a:Act}
  (J:ax δ n a l) (Z:evl l x=some (.int k p)) (W:evl l y=some (.int k' q)) (hp:inR k p) (hq:inR k' q):tO G P m z (GM op k k' p q lit) ⟨dst,.binOp op t x y t',ty,pos,aft,g⟩ a:=by
 have nn:k'= .u8\/k'= .u32\/k'= .u64->0<=q:=by
  rintro (rfl|rfl|rfl)
  ·exact Fw hq
  ·exact DK hq
  ·exact DL hq
 cases op<;>simp only[GM]
 case add=>exact .ite (λe=>by subst e;exact .pv λw=>⟨_,a7 J Z W (br rfl),dm (aA _ _)⟩) λ_=> .none
 case sub=>exact .ite (λe=>by subst e;exact .pv λw=>⟨_,a7 J Z W (iV rfl),dm (aA _ _)⟩) λ_=> .none
 case mul=>exact .ite (λe=>by subst e;exact .pv λw=>⟨_,a7 J Z W (Lw rfl),dm (aA _ _)⟩) λ_=> .none
 case quo=>
  refine .ite (λe=>?_) λ_=> .none;subst e;split
  ·exact .ite (λh=> .pv λw=>⟨_,a7 J Z W (Lx rfl (by rw[←h.1];exact h.2)),dm (aA _ _)⟩) λ_=> .none
  ·exact .pb λb hb w=>⟨_,a7 J Z W (Lx rfl (bne_iff_ne.1 (ql hb))),dm (aA _ _)⟩
 case rem=>
  refine .ite (λe=>?_) λ_=> .none;subst e;split
  ·exact .ite (λh=> .pv λw=>⟨_,a7 J Z W (Lz rfl (by rw[←h.1];exact h.2)),dm (FQ hp)⟩) λ_=> .none
  ·exact .pb λb hb w=>⟨_,a7 J Z W (Lz rfl (bne_iff_ne.1 (ql hb))),dm (FQ hp)⟩
 case and=>exact .ite (λe=>by subst e;exact .pv λw=>⟨_,a7 J Z W (SI rfl),dm (Mc _ _ _)⟩) λ_=> .none
 case or=>exact .ite (λe=>by subst e;exact .pv λw=>⟨_,a7 J Z W (UM rfl),dm (NK _ _ _)⟩) λ_=> .none
 case xor=>exact .ite (λe=>by subst e;exact .pv λw=>⟨_,a7 J Z W (SJ rfl),dm (Md _ _ _)⟩) λ_=> .none
 case shl=>
  split
  ·exact .ite (λh=> .pv λw=>⟨_,a7 J Z W (GB rfl (by rw[←h.1];exact h.2)),dm (Bk _ _ _)⟩) λ_=> .none
  ·exact .ite (λh=> .pv λw=>⟨_,a7 J Z W (GB rfl (nn h)),dm (Bk _ _ _)⟩) λ_=> .pb λb hb w=>⟨_,a7 J Z W (GB rfl (of_decide_eq_true (ql hb))),dm (Bk _ _ _)⟩
 case shr=>
  split
  ·exact .ite (λh=> .pv λw=>⟨_,a7 J Z W (Df rfl (by rw[←h.1];exact h.2)),dm (Bl hp _)⟩) λ_=> .none
  ·exact .ite (λh=> .pv λw=>⟨_,a7 J Z W (Df rfl (nn h)),dm (Bl hp _)⟩) λ_=> .pb λb hb w=>⟨_,a7 J Z W (Df rfl (of_decide_eq_true (ql hb))),dm (Bl hp _)⟩
 case andNot=>exact .none
 case eql=>exact .ite (λe=>by subst e;exact .pv λw=>⟨_,a7 J Z W jW,ef⟩) λ_=> .none
 case neq=>exact .ite (λe=>by subst e;exact .pv λw=>⟨_,a7 J Z W jF,ef⟩) λ_=> .none
 case lss=>exact .ite (λe=>by subst e;exact .pv λw=>⟨_,a7 J Z W cl,ef⟩) λ_=> .none
 case leq=>exact .ite (λe=>by subst e;exact .pv λw=>⟨_,a7 J Z W LA,ef⟩) λ_=> .none
 case gtr=>exact .ite (λe=>by subst e;exact .pv λw=>⟨_,a7 J Z W kL,ef⟩) λ_=> .none
 case geq=>exact .ite (λe=>by subst e;exact .pv λw=>⟨_,a7 J Z W Dg,ef⟩) λ_=> .none
theorem d5 {δ:List Nat}{n:Nat}{a:Act}(hd:a.defers=δ.map λD=>{ target:= .collected D,args:= #[] })(hs:a.tmps.size=n)(xs:List Operand):∃l,ax δ n a l/\∀x∈xs,evl l x=some (a.eval x):=by
 refine⟨xs.filterMap λx=>match x with| .tmp t=>some (t,a.tmps.getD t undef)|_=>none,⟨hd,hs,λj v J=>?_⟩,λx hx=>?_⟩
 ·induction xs with
  |nil=>simp[lk] at J
  | cons x xs ih=>
   cases x with
   | tmp t=>
    simp only[X5,lk] at J;split at J
    ·rename_i e
     have:=Z2 e;subst this;injection J
    ·exact ih J
   |_=>exact ih (by simpa using J)
 ·cases x with
  | tmp t=>
   show lk _ t=some (a.tmps.getD t undef)
   induction xs with
   |nil=>cases hx
   | cons y xs ih=>
    by_cases hy:y= .tmp t
    ·subst hy;simp[lk]
    ·have Z:Operand.tmp t∈xs:=by
      rcases Z8.1 hx with h|h
      ·exact absurd h.symm hy
      ·exact h
     cases y with
     | tmp t'=>
      have:t'≠t:=λe=>hy (by rw[e])
      have W:Zb t' t=false:=by
       cases W:Zb t' t with
       |false=>rfl
       |true=>exact absurd (Z2 W) this
      simp only[X5,lk,W];exact ih Z
     |_=>simp only[X5];exact ih Z
  |_=>rfl
end
section
variable {G:Sg}{P:Program}
def N2 {O:Type}(xs:List O)(j:Nat):Option O:=xs[j]?
def TI.elem {i:TypeId}:TI P G i->Option TypeId
 |⟨.sl _,_,u,_,_,_,_⟩=>some u.e
 |_=>none
def DY (Γ:Tab P G)(op:BinOp)(t:TypeId)(a b:AV G):Option (iw G):=
 match a.i?,b.i? with
 |some (k,p),some (k',q)=>GM op k k' p q b.lit?
 | _, _=>
  match Γ.ty t with
  | some I=>(match I.T with
   | .bool=>(match a.b?,b.b? with
    |some p,some q=>(match op with| .eql=>pv (db (p==q))| .neq=>pv (db (!(p==q)))|_=>none)
    |_,_=>none)
   | .str=>(match a.s?,b.s? with
    |some p,some q=>(match op with| .eql=>pv (db (decide (p=q)))| .neq=>pv (db (!decide (p=q)))| .lss=>pv (db (ltB p q))|_=>none)
    |_,_=>none)
   | .st i=>(match b with
    | .nilp=>(match Γ.nl t with
     |some N=>if i=t then (match a.as Γ (.st t) with
      |some p=>(match op with| .eql=>pv (db (N.to p).isNone)| .neq=>pv (db (!(N.to p).isNone))|_=>none)
      |none=>none) else none
     |none=>none)
    |_=>(match Γ.eq t with
    |some E=>if i=t then (match a.as Γ (.st t),b.as Γ (.st t) with
     |some p,some q=>(match op with| .eql=>pv (db (@decide _ (E.dec p q)))| .neq=>pv (db (!(@decide _ (E.dec p q))))|_=>none)
     |_,_=>none) else none
    |none=>none))
   |_=>none)
  |none=>none
def unA (op:UnOp)(a:AV G):Option (iw G):=
 match op with
 | .not=>(match a.b? with|some p=>pv (db (!p))|none=>none)
 | .neg=>(match a.i? with|some (k,p)=>pv (di k (k.wrap (0 - p)))|none=>none)
 | .xor=>(match a.i? with|some (k,p)=>pv (di k (Bj k p))|none=>none)
 |_=>none
def GO (Γ:Tab P G)(t t2:TypeId)(a:AV G):Option (iw G):=
 match Γ.ty t,Γ.ty t2 with
 | some I,some I2=>(match I.T,I2.T with
  | .int _,.int k'=>(match a.i? with|some (_,p)=>pv (di k' (k'.wrap p))|none=>none)
  | .sl (.int k),.str=>(match I.elem with
   |some e=>(match Γ.ty e with
    |some J=>if k= .u8/\J.T= .int .u8 then (match a.as Γ (.sl (.int k)) with|some x=>pv (.dat .str x none)|none=>none) else none
    |none=>none)
   |none=>none)
  |_,_=>none)
 |_,_=>none
def GP (Γ:Tab P G)(h:Nat->Option (BC G))(t:TypeId)(a:AV G):Option (iw G):=
 match Γ.ty t with
 | some I=>(match a with
  | .ptr b v=>if b=I.T then pv (.dat b v none) else none
  | .blk i=>(match h i with
   |some (.dat c x)=>if c=I.T then pv (.dat c x none) else none
   |_=>none)
  | .loc i c b A=>if b=I.T then (match h i with
   |some (.dat c' x)=>(match dF G c' c x with|some x=>pv (.dat b (A.get x) none)|none=>none)
   |_=>none) else none
  | .elp i j c b A=>if b=I.T then (match h i with
   |some (.arr c' _ xs)=>(match dF G (.sl c') (.sl c) xs with|some xs=>pb (N2 (O:=c.den G) xs j) λx=> .dat b (A.get x) none|none=>none)
   |_=>none) else none
  |_=>none)
 |none=>none
def DZ (Γ:Tab P G)(J:Nat->Option (BC G))(s f:Nat)(a:AV G):Option (iw G):=
 match Γ.fl s f with
 |some F=>(match a with
  | .ptr t v=>(match dF G t (.st s) v with|some x=>pv (.ptr F.t (F.A.get x))|none=>none)
  | .blk i=>(match J i with|some (.dat c _)=>if c= .st s then pv (.loc i (.st s) F.t F.A) else none|_=>none)
  | .loc i c b A=>if h:b= .st s then pv (.loc i c F.t ((h ▸ A:Acc G c (.st s)).comp F.A)) else none
  | .elp i j c b A=>if h:b= .st s then pv (.elp i j c F.t ((h ▸ A:Acc G c (.st s)).comp F.A)) else none
  |_=>none)
 |none=>none
def D0 (Γ:Tab P G)(h:Nat->Option (BC G))(t:TypeId)(a b:AV G):Option (iw G):=
 match b.i? with
 | some (_,q)=>(match a with
  | .blk i=>(match Γ.ar t,h i with
   |some R,some (.arr c (some n) xs)=>if c=R.t/\n=R.n then pb (ix xs q) λj=> .elp i j c c (.self G c) else none
   |_,_=>none)
  | .own i=>(match Γ.ty t,h i with
   |some I,some (.arr c _ xs)=>if I.T= .sl c then pb (ix xs q) λj=> .elp i j c c (.self G c) else none
   |_,_=>none)
  | a=>(match Γ.ty t with
   |some I=>(match I.T with
    | .sl c=>(match a.as Γ (.sl c) with|some xs=>pb (idx (xs:List (c.den G)) q) λx=> .ptr c x|none=>none)
    |_=>none)
   |none=>none))
 |none=>none
def D1 (Γ:Tab P G)(t:TypeId)(a b:AV G):Option (iw G):=
 match Γ.ty t,a.s?,b.i? with
 |some I,some s,some (_,q)=>(match I.T with| .str=>pb (idx s q) λc=>di .u8 c|_=>none)
 |_,_,_=>none
def bnd (h:Int):Option (Option (AV G))->Option Int
 |none=>some h
 |some (some v)=>v.i?.map (·.2)
 |some none=>none
def D2 (Γ:Tab P G)(t:TypeId)(a:AV G)(lo hi:Option (Option (AV G))):Option (iw G):=
 match Γ.ty t with
 | some I=>(match I.T with
  | .sl c=>(match a.as Γ (.sl c) with
   |some xs=>(match bnd 0 lo,bnd ((xs:List (c.den G)).length:Int) hi with
    |some l,some h=>pb (sub (xs:List (c.den G)) l h) λy=> .dat (.sl c) y none
    |_,_=>none)
   |none=>none)
  |_=>none)
 |none=>none
def u3 (Γ:Tab P G) (s:Nat) (pl:List (Nat×Nat)):List (Nat×Option (AV G))->G.O s->Option (G.O s)
 |[],x=>some x
 | (f,some a)::r,x=>match Γ.fl s f with
  | some F=>(match a.as Γ F.t with
   |some y=>(match pl[f]? with
    |some q=>if q.1=F.A.off/\q.2=(F.t.kd G).sz then u3 Γ s pl r (F.A.set x y) else none
    |none=>none)
   |none=>none)
  |none=>none
 |_,_=>none
def D3 (Γ:Tab P G)(t:TypeId)(ps:List (Nat×Option (AV G))):Option (iw G):=
 match Γ.bu t with
 |some B=>(match u3 Γ t B.pl ps B.z with|some x=>pv (.dat (.st t) x none)|none=>none)
 |none=>none
def J1 (Γ:Tab P G)(h:Nat->Option (BC G))(t:TypeId)(a:AV G):Option (iw G):=
 match Γ.ty t with
 | some I=>(match I.T with
  | .str=>(match a.s? with|some s=>pv (di .i64 (s.length:Int))|none=>none)
  | .sl c=>(match a with
   | .nils=>pv (.li .i64 0)
   | .own i=>(match h i with|some (.arr c' _ xs)=>if c'=c then pv (di .i64 (xs.length:Int)) else none|_=>none)
   |a=>(match a.as Γ (.sl c) with|some xs=>pv (di .i64 ((xs:List (c.den G)).length:Int))|none=>none))
  |_=>none)
 |none=>none
def mmA (mx:Bool)(a b:AV G):Option (iw G):=
 match a.i?,b.i? with
 |some (k,p),some (k',q)=>if k=k' then pv (di k (match mx with|true=>(if p<q then q else p)|false=>(if q<p then q else p))) else none
 |_,_=>none
def oav (ρ:Operand->Option (EV G)):Option Operand->Option (Option (AV G))
 |none=>none
 |some x=>some (av? (ρ x))
def Ae (Γ:Tab P G) (ρ:Operand->Option (EV G)) (h:Nat->Option (BC G)):Op->Option (iw G)
 | .move x=>(match ρ x with|some e=>pe e|none=>none)
 | .assign x=>(match ρ x with|some e=>pe e|none=>none)
 | .pick c x y=>(match av? (ρ c) with
  | some a=>(match a.b? with
   |some b=>(match b with
    |true=>(match ρ x with|some e=>pe e|none=>none)
    |false=>(match ρ y with|some e=>pe e|none=>none))
   |none=>none)
  |none=>none)
 | .nilCheck x=>(match av? (ρ x) with
  |some (.ptr t v)=>pv (.ptr t v)
  |some (.loc i a b A)=>pv (.loc i a b A)
  |some (.elp i j a b A)=>pv (.elp i j a b A)
  |some (.blk i)=>pv (.blk i)
  |some (.dat (.st i) x _)=>(match Γ.nl i with
   |some N=>pb (N.to x) λq=> .ptr (.st N.q) q
   |none=>none)
  |_=>none)
 | .binOp op t x y _=>(match av? (ρ x),av? (ρ y) with|some a,some b=>DY Γ op t a b|_,_=>none)
 | .unOp op _ x=>(match av? (ρ x) with|some a=>unA op a|none=>none)
 | .convert t t2 x=>(match av? (ρ x) with|some a=>GO Γ t t2 a|none=>none)
 | .extract x i=>(match ρ x with|some (.tup vs)=>(match vs[i]? with|some v=>pv v|none=>none)|_=>none)
 | .load t x=>(match av? (ρ x) with|some a=>GP Γ h t a|none=>none)
 | .fieldAddr s x f=>(match av? (ρ x) with|some a=>DZ Γ h s f a|none=>none)
 | .indexAddr t x y=>(match av? (ρ x),av? (ρ y) with|some a,some b=>D0 Γ h t a b|_,_=>none)
 | .index t x y=>(match av? (ρ x),av? (ρ y) with|some a,some b=>D1 Γ t a b|_,_=>none)
 | .slice t x lo hi none=>(match av? (ρ x) with|some a=>D2 Γ t a (oav ρ lo) (oav ρ hi)|none=>none)
 | .build t ps=>D3 Γ t (ps.toList.map λp=>(p.1,av? (ρ p.2)))
 | .call ⟨.builtin .len,⟨[x]⟩,⟨[t]⟩⟩=>(match av? (ρ x) with|some a=>J1 Γ h t a|none=>none)
 | .call ⟨.builtin .max,⟨[x,y]⟩,_⟩=>(match av? (ρ x),av? (ρ y) with|some a,some b=>mmA true a b|_,_=>none)
 | .call ⟨.builtin .min,⟨[x,y]⟩,_⟩=>(match av? (ρ x),av? (ρ y) with|some a,some b=>mmA false a b|_,_=>none)
 |_=>none
def gN (G:Sg)(P:Program)(m:M)(z:Cz)(r:Option (iw G))(o:Oper)(a:Act)(w:World):Prop:=
 ∀R b,r=some R->R.mv=some b->be P o a w (λv w'=>w=w'/\(R.k b).Rel G P m z v)
section
variable {m:M}{z:Cz}{o:Oper}{a:Act}{w:World}
theorem tO.s {r:Option (iw G)}(h:tO G P m z r o a):gN G P m z r o a w:=λR b Z W=>by
 obtain⟨v,J,h2⟩:=h R b Z W w;exact J.step ⟨rfl,h2⟩
theorem gN.none:gN G P m z none o a w:=λR b h=>by cases h
theorem gN.pv {v:AV G}(h:be P o a w (λu w'=>w=w'/\v.Rel G P m z u)):gN G P m z (pv v) o a w:=λR b J _=>by
 injection J with J;subst J;exact h
theorem gN.run {v:AV G}{u:Value}(h:ay P o a w u w)(J:v.Rel G P m z u):gN G P m z (Hay.pv v) o a w:= .pv (h.step ⟨rfl,J⟩)
theorem gN.pb {β:Type}{W:Option β}{k:β->AV G}(h:∀b,W=some b->be P o a w (λu w'=>w=w'/\(k b).Rel G P m z u)):gN G P m z (pb W k) o a w:=λR b J Z=>by
 injection J with J;subst J;exact h b Z
theorem gN.pe {e:EV G}(h:be P o a w (λu w'=>w=w'/\e.Rel G P m z u)):gN G P m z (pe e) o a w:=λR b J _=>by
 injection J with J;subst J;exact h
end
section
variable {δ:List Nat}{n:Nat}{l:List (Nat×Value)}{a:Act}{m:M}{z:Cz}{w:World}{t t2 ty:TypeId}{x y:Operand}{d:Nat}{pos:String}{aft:Array Edge}{g:Option (Nat×Bool)}{u v:Value}{p q:AV G}{Γ:Tab P G}
theorem TI.int {i:TypeId}{I:TI P G i}{k:IntKind}(h:I.T= .int k):P.underlying i=some (.int k):=by
 have:=I.u;rw[h] at this;exact this.down
theorem TI.bool {i:TypeId}{I:TI P G i}(h:I.T= .bool):P.underlying i=some .bool:=by
 have:=I.u;rw[h] at this;exact this.down
theorem TI.str {i:TypeId}{I:TI P G i}(h:I.T= .str):P.underlying i=some .string:=by
 have:=I.u;rw[h] at this;exact this.down
def TI.sl {i:TypeId}(I:TI P G i){c:Ty}(h:I.T= .sl c):SlI P G i c:=by
 have:=I.u;rw[h] at this;exact this
theorem Mt {i e:TypeId}{I:TI P G i}{c:Ty}(h:I.T= .sl c)(J:I.elem=some e):(I.sl h).e=e:=by
 obtain⟨T,a1,u,W,a4,Z,a6⟩:=I;simp only at h;subst h;simp only[TI.elem,Option.some.injEq] at J;exact J
theorem Mu {op:BinOp}(h:ax δ n a l)(W:evl l x=some u)(J:evl l y=some v)(hp:p.Rel G P m z u)(hq:q.Rel G P m z v):gN G P m z (DY Γ op t p q) ⟨some d,.binOp op t x y t2,ty,pos,aft,g⟩ a w:=by
 unfold DY;split
 ·rename_i k p' k' q' Z h2
  obtain⟨rfl,h3⟩:=AV.i_rel Z hp;obtain⟨rfl,h4⟩:=AV.i_rel h2 hq;exact(GN h W J h3 h4).s
 ·split
  ·rename_i I _
   split
   ·rename_i hT
    split
    ·rename_i b c Z h2
     have e1:=AV.b_rel Z hp;have e2:=AV.b_rel h2 hq;subst e1;subst e2;split
     ·exact .run (NL h W J (TI.bool hT)) ef
     ·exact .run (NM h W J (TI.bool hT)) ef
     ·exact .none
    ·exact .none
   ·rename_i hT
    split
    ·rename_i b c Z h2
     obtain⟨rfl,h3,_⟩:=AV.s_rel Z hp;obtain⟨rfl,h4,_⟩:=AV.s_rel h2 hq;split
     ·exact .run (NO h W J h3 h4) ef
     ·exact .run (NQ h W J h3 h4) ef
     ·exact .run (NR h W J h3 h4) ef
     ·exact .none
    ·exact .none
   ·split
    ·have hv:v= .pointer none:=hq
     subst hv;split
     ·rename_i N _
      split
      ·split
       ·rename_i c Z
        have e1:=N.hk _ _ _ (AV.as_rel Z hp);split
        ·exact .run (NY h W J N.hu e1) ef
        ·exact .run (NZ h W J N.hu e1) ef
        ·exact .none
       ·exact .none
      ·exact .none
     ·exact .none
    split
    ·rename_i E _
     split
     ·split
      ·rename_i b c Z h2
       have e1:=AV.as_rel Z hp;have e2:=AV.as_rel h2 hq
       letI:=E.dec
       split
       ·exact .run (w8 h E.ok W J e1 e2 E.agg) ef
       ·exact .run (w9 h E.ok W J e1 e2 E.agg) ef
       ·exact .none
      ·exact .none
     ·exact .none
    ·exact .none
   ·exact .none
  ·exact .none
theorem N3 {op:UnOp}(J:ax δ n a l)(Z:evl l x=some u)(W:p.Rel G P m z u):gN G P m z (unA op p) ⟨some d,.unOp op t x,ty,pos,aft,g⟩ a w:=by
 unfold unA;split
 ·split
  ·rename_i h
   have e1:=AV.b_rel h W;subst e1;exact .run (ln J Z) ef
  ·exact .none
 ·split
  ·rename_i h
   obtain⟨rfl,h3⟩:=AV.i_rel h W;exact .run (SK J Z rfl) (dm (aA _ _))
  ·exact .none
 ·split
  ·rename_i h
   obtain⟨rfl,h3⟩:=AV.i_rel h W;exact .run (SL J Z rfl) (dm (Me _ _))
  ·exact .none
 ·exact .none
theorem J3 {W0:Bse}{L:List (Nat×List Value)}{TL:List (Nat×Value)}(hE:ax δ n a l)(hS:S W0 m w L TL)(hx:evl l x=some u)(hp:p.Rel G P m z u):gN G P m z (GO Γ t t2 p) ⟨some d,.convert t t2 x,ty,pos,aft,g⟩ a w:=by
 unfold GO;split
 ·rename_i I I2 h1 h2
  split
  ·rename_i h Z
   split
   ·rename_i h3
    obtain⟨rfl,_⟩:=AV.i_rel h3 hp;exact .run (dw hE hx (TI.int h) (TI.int Z) rfl) (dm (aA _ _))
   ·exact .none
  ·rename_i k h Z
   split
   ·rename_i e he
    split
    ·rename_i J _
     split
     ·rename_i hk
      obtain⟨rfl,hJ⟩:=hk;split
      ·rename_i xs h3
       have W:=AV.as_rel h3 hp;exact .run (Mh hE hS hx (I.sl h).hu ((Mt h he).symm ▸ TI.int hJ) (TI.str Z) W) ⟨Cd (JL W) (jX W),trivial⟩
      ·exact .none
     ·exact .none
    ·exact .none
   ·exact .none
  ·exact .none
 ·exact .none
end
end
section
variable {G:Sg}{P:Program}{δ:List Nat}{n:Nat}{l:List (Nat×Value)}{a:Act}{m:M}{z:Cz}{w:World}{t t2 ty:TypeId}{x y:Operand}{d:Nat}{pos:String}{aft:Array Edge}{g:Option (Nat×Bool)}{u v:Value}{p q:AV G}{Γ:Tab P G}
 {W0:Bse} {L0:Rs} {T0:List (Nat×Value)} {Ls:List (Nat×BC G)} {Ts:List Nat}
def eX (Ls:List (Nat×BC G))(i:Nat):Option (BC G):=(fb Ls i).map (·.2)
theorem iy {i:Nat}{B:BC G}(h:eX Ls i=some B):∃s,fb Ls i=some (s,B):=by
 unfold eX at h;cases hf:fb Ls i with
 |none=>simp[hf] at h
 |some e=>simp[hf] at h;exact⟨e.1,by rw[←h]⟩
theorem ga.get (Z:ga G W0 L0 T0 Ls Ts m z w){i:Nat}{B:BC G}(h:eX Ls i=some B):∃(L:List (Nat×List Value)) (TL:List (Nat×Value)) (p:Nat×Value) (cs:List Value) (j:Nat),S W0 m w L TL/\fb z.b i=some p/\L[j]? =some (p.1,cs)/\B.Rel G m p cs:=by
 obtain⟨Lc,Tc,W,h2,h3,_⟩:=Z;obtain⟨s,hs⟩:=iy h;obtain⟨p,cs,j,g1,J,g3,_⟩:=W.get hs;refine⟨_,_,p,cs,j,h3,g1,?_,g3⟩;have:j<Lc.length:=(Z0.1 J).1;rw[Z4 this];exact J
theorem ga.any (J:ga G W0 L0 T0 Ls Ts m z w):∃L TL,S W0 m w L TL:=let ⟨_,_,_,_,h,_⟩:=J;⟨_,_,h⟩
theorem D4 {c b:Ty}(A:Acc G c b){cs:List Value}{o:Nat}{xx:c.den G}(h:(c.kd G).R m ((cs.drop o).take (c.kd G).sz) xx):(b.kd G).R m ((cs.drop (o+A.off)).take (b.kd G).sz) (A.get xx):=A.fld.R_drop h
theorem J4 (hE:ax δ n a l)(hM:ga G W0 L0 T0 Ls Ts m z w)(hx:evl l x=some u)(hp:p.Rel G P m z u):gN G P m z (GP Γ (eX Ls) t p) ⟨some d,.load t x,ty,pos,aft,g⟩ a w:=by
 unfold GP;split
 ·rename_i I _
  split
  ·rename_i b xx
   split
   ·rename_i W
    subst W;obtain⟨L,TL,hS⟩:=hM.any;exact .pv ((aO hE hS I.ok hx hp).imp λ_ _ h=>⟨h.1,h.2,trivial⟩)
   ·exact .none
  ·rename_i i
   split
   ·rename_i c' x0 hB
    split
    ·rename_i W
     subst W;obtain⟨L,TL,p',cs,j,hS,g1,g2,g3⟩:=hM.get hB;obtain⟨a0,J,rfl⟩:=hp;rw[g1] at J;injection J with J;subst J
     exact .pv ((aK hE hS I.ok hx g2 (az g3)).imp λ_ _ h=>⟨h.1,h.2,trivial⟩)
    ·exact .none
   ·exact .none
  ·rename_i i c b A
   split
   ·rename_i W
    subst W;split
    ·rename_i c' x0 hB
     split
     ·rename_i x1 Z
      obtain⟨e,Z⟩:=b8 Z;subst e;subst Z;obtain⟨L,TL,p',cs,j,hS,g1,g2,g3⟩:=hM.get hB;obtain⟨a0,J,rfl⟩:=hp;rw[g1] at J;injection J with J;subst J
      have:=D4 A (o:=0) (az g3);rw[Xe] at this;exact .pv ((aK hE hS I.ok hx g2 this).imp λ_ _ h=>⟨h.1,h.2,trivial⟩)
     ·exact .none
    ·exact .none
   ·exact .none
  ·rename_i i j c b A
   split
   ·rename_i W
    subst W;split
    ·rename_i c' nn xs hB
     split
     ·rename_i ys Z
      obtain⟨e,Z⟩:=b8 Z;injection e with e
      subst e;subst Z;refine .pb λxx a1=>?_;obtain⟨L,TL,p',cs,j',hS,g1,g2,g3⟩:=hM.get hB;obtain⟨a0,J,rfl⟩:=hp;rw[g1] at J;injection J with J;subst J
      exact(aK hE hS I.ok hx g2 (D4 A (GS.elem g3.1 a1))).imp λ_ _ h=>⟨h.1,h.2,trivial⟩
     ·exact .none
    ·exact .none
   ·exact .none
  ·exact .none
 ·exact .none
theorem H1 {s f:Nat}(W:ax δ n a l)(hx:evl l x=some u)(Z:p.Rel G P m z u):gN G P m z (DZ Γ (eX Ls) s f p) ⟨some d,.fieldAddr s x f,ty,pos,aft,g⟩ a w:=by
 unfold DZ;split
 ·rename_i F _
  split
  ·rename_i t0 v0
   split
   ·rename_i x1 hc
    obtain⟨e,hc⟩:=b8 hc;subst e;subst hc;exact .pv (fc W F.ok F.A.fld hx Z)
   ·exact .none
  ·rename_i i
   split
   ·split
    ·obtain⟨h,J,rfl⟩:=Z
     exact .run (aH W F.ok hx) ⟨h,J,by rw[Xe]⟩
    ·exact .none
   ·exact .none
  ·rename_i i c b A
   split
   ·rename_i hb
    subst hb;obtain⟨h,J,rfl⟩:=Z;exact .run (aH W F.ok hx) ⟨h,J,rfl⟩
   ·exact .none
  ·rename_i i j c b A
   split
   ·rename_i hb
    subst hb;obtain⟨h,J,rfl⟩:=Z;exact .run (aH W F.ok hx) ⟨h,J,by show _=_;simp only[Acc.comp,Nat.add_assoc]⟩
   ·exact .none
  ·exact .none
 ·exact .none
theorem H2 (hE:ax δ n a l)(hM:ga G W0 L0 T0 Ls Ts m z w)(hx:evl l x=some u)(Z:evl l y=some v)(hp:p.Rel G P m z u)(hq:q.Rel G P m z v):gN G P m z (D0 Γ (eX Ls) t p q) ⟨some d,.indexAddr t x y,ty,pos,aft,g⟩ a w:=by
 unfold D0;split
 ·rename_i k q' hi
  obtain⟨rfl,_⟩:=AV.i_rel hi hq;split
  ·rename_i i
   split
   ·rename_i R c nn xs _ hB
    split
    ·rename_i W
     obtain⟨rfl,rfl⟩:=W;refine .pb λj hj=>?_;obtain⟨L,TL,p',cs,j',hS,J,g2,g3⟩:=hM.get hB;obtain⟨a0,h,rfl⟩:=hp;rw[J] at h;injection h with h;subst h
     exact(DN (k:=R.t.kd G) hE hx Z R.hu R.hs g3.2 hj rfl).step ⟨rfl,p',J,rfl⟩
    ·exact .none
   ·exact .none
  ·rename_i i
   split
   ·rename_i I c nn xs _ hB
    split
    ·rename_i W
     refine .pb λj hj=>?_;obtain⟨L,TL,p',cs,j',hS,J,g2,g3⟩:=hM.get hB;obtain⟨a0,h,rfl⟩:=hp;rw[J] at h;injection h with h;subst h
     exact(mO hE hx Z (I.sl W).hu (I.sl W).hs g3.1 hj rfl).step ⟨rfl,p',J,rfl⟩
    ·exact .none
   ·exact .none
  ·split
   ·rename_i I _
    split
    ·rename_i c hT
     split
     ·rename_i xs h3
      have hv:=AV.as_rel h3 hp;exact .pb λxx a1=>bn (k:=c.kd G) hE hx Z (I.sl hT).hu (I.sl hT).hs hv a1
     ·exact .none
    ·exact .none
   ·exact .none
 ·exact .none
theorem H3 (W:ax δ n a l)(hx:evl l x=some u)(Z:evl l y=some v)(hp:p.Rel G P m z u)(hq:q.Rel G P m z v):gN G P m z (D1 Γ t p q) ⟨some d,.index t x y,ty,pos,aft,g⟩ a w:=by
 unfold D1;split
 ·rename_i I s k q' _ h1 h2
  obtain⟨rfl,_⟩:=AV.i_rel h2 hq;obtain⟨rfl,h,_⟩:=AV.s_rel h1 hp;split
  ·rename_i hT
   exact .pb λc J=>(JO W hx Z (TI.str hT) h J).step ⟨rfl,dm (JP h J)⟩
  ·exact .none
 ·exact .none
def OkO (G:Sg)(P:Program)(l:List (Nat×Value))(m:M)(z:Cz):Option Operand->Option (Option (AV G))->Prop
 |none,none=>True
 |some o,some av=>∀b,av=some b->∃v,evl l o=some v/\b.Rel G P m z v
 |_,_=>False
theorem D5 {o:Option Operand}{lv:Option (Option (AV G))}{W e:Int}:OkO G P l m z o lv->bnd W lv=some e->match o with|some o=>∃kk,evl l o=some (.int kk e)|none=>e=W:=by
 intro h J;cases o with
 |none=>
  cases lv with
  |none=>injection J with J;exact J.symm
  |some _=>exact h.elim
 | some o=>
  cases lv with
  |none=>exact h.elim
  | some av=>
   cases av with
   |none=>cases J
   | some b=>
    obtain⟨v,Z,g2⟩:=h b rfl;cases hb:b.i? with
    |none=>simp[bnd,hb] at J
    |some r=>
     simp[bnd,hb] at J;obtain⟨rfl,_⟩:=AV.i_rel (k:=r.1) (x:=r.2) hb g2;exact⟨r.1,by rw[Z,J]⟩
theorem H4 {lo hi:Option Operand}{lv J:Option (Option (AV G))}(Z:ax δ n a l)(hx:evl l x=some u)(hp:p.Rel G P m z u)
  (a2:OkO G P l m z lo lv)
  (a1:OkO G P l m z hi J):
  gN G P m z (D2 Γ t p lv J) ⟨some d,.slice t x lo hi none,ty,pos,aft,g⟩ a w:=by
 unfold D2;split
 ·rename_i I _
  split
  ·rename_i c W
   split
   ·rename_i xs h3
    have hV:=AV.as_rel h3 hp;split
    ·rename_i lo' hi' e1 e2
     refine .pb λys a0=>?_;have k1:=D5 a2 e1;have k2:=D5 a1 e2;exact(cS (k:=c.kd G) Z hx (I.sl W).hu (I.sl W).hs hV k1 k2 a0).imp λ_ _ h=>⟨h.1,h.2,trivial⟩
    ·exact .none
   ·exact .none
  ·exact .none
 ·exact .none
theorem Cn {s:Nat}{B:BI P G s}{l:List (Nat×Value)}:∀{ps:List (Nat×Operand)} {x0 xx:G.O s} {σ:Operand->Option (AV G)},(∀p∈ps,∀b,σ p.2=some b->∃v,evl l p.2=some v/\b.Rel G P m z v)->
  u3 Γ s B.pl (ps.map λp=>(p.1,σ p.2)) x0=some xx->∃pv,ps.mapM (λp=>(evl l p.2).map λv=>(p.1,v))=some pv/\vA (B.pl.toArray[·]?) (G.k s) m pv x0 xx
 |[],x0,xx,σ,_,h=>by
  simp only[Xg,u3,Option.some.injEq] at h;subst h;exact⟨[],rfl,.nil⟩
 | (f, o)::ps,x0,xx,σ,hr,h=>by
  simp only[Zr] at h;cases hs:σ o with
  |none=>simp[hs,u3] at h
  | some b=>
   rw[hs] at h;unfold u3 at h;split at h
   ·rename_i F _
    split at h
    ·rename_i y W
     split at h
     ·rename_i q hq
      split at h
      ·rename_i J
       obtain⟨v,g1,Z⟩:=hr (f,o) (by simp) b hs;obtain⟨pv,k1,k2⟩:=Cn (λp hp=>hr p (by simp[hp])) h;refine⟨(f,v)::pv,by simp[g1,k1],?_⟩;refine .cons (off:=F.A.off) ?_ F.A.stf (AV.as_rel W Z) k2;show B.pl.toArray[f]? =_;rw[List.getElem?_toArray,hq,←J.1,←J.2]
      ·cases h
     ·cases h
    ·cases h
   ·cases h
theorem H5 {ps:Array (Nat×Operand)}{σ:Operand->Option (AV G)}(W:ax δ n a l)(J:∀p∈ps.toList,∀b,σ p.2=some b->∃v,evl l p.2=some v/\b.Rel G P m z v):
  gN G P m z (D3 Γ t (ps.toList.map λp=>(p.1,σ p.2))) ⟨some d,.build t ps,ty,pos,aft,g⟩ a w:=by
 unfold D3;split
 ·rename_i B _
  split
  ·rename_i xx Z
   obtain⟨a0,k1,k2⟩:=Cn J Z;exact .pv ((sE W k1 B.hu B.hpl B.hz B.hzR B.agg k2).imp λ_ _ h=>⟨h.1,h.2,trivial⟩)
  ·exact .none
 ·exact .none
theorem Mv (Z:ax δ n a l)(hM:ga G W0 L0 T0 Ls Ts m z w)(W:evl l x=some u)(J:p.Rel G P m z u):gN G P m z (J1 Γ (eX Ls) t p) ⟨some d,.call ⟨.builtin .len,#[x],#[t]⟩,ty,pos,aft,g⟩ a w:=by
 unfold J1;split
 ·rename_i I _
  split
  ·rename_i h
   split
   ·rename_i s hs
    obtain⟨rfl,h1,h2⟩:=AV.s_rel hs J;exact .run (JK Z W rfl (TI.str h)) (dm (eE h2))
   ·exact .none
  ·rename_i c h
   split
   ·have hv:u= .slice none 0 0:=J
    subst hv;exact .run (bh (k:=c.kd G) (m:=m) (xs:=[]) Z W rfl (I.sl h).hu cT) ⟨rfl,au (by decide)⟩
   ·rename_i i
    split
    ·rename_i c' nn xs hB
     split
     ·rename_i hc
      subst hc;obtain⟨L,TL,p',cs,j',hS,g1,g2,g3⟩:=hM.get hB;obtain⟨a0,g4,rfl⟩:=J;rw[g1] at g4;injection g4 with g4;subst g4
      exact .run (sF Z W rfl (I.sl h).hu g3.1) (dm (eE (GS.len g3.1)))
     ·exact .none
    ·exact .none
   ·split
    ·rename_i xs h3
     have hV:=AV.as_rel h3 J;exact .run (bh (k:=c.kd G) Z W rfl (I.sl h).hu hV) (dm (eE (jX hV)))
    ·exact .none
  ·exact .none
 ·exact .none
theorem H6 {mx:Bool}{ts:Array TypeId}(h:ax δ n a l)(Z:evl l x=some u)(J:evl l y=some v)(hp:p.Rel G P m z u)(hq:q.Rel G P m z v):gN G P m z (mmA mx p q) ⟨some d,.call ⟨.builtin (match mx with|true=> .max|false=> .min),#[x,y],ts⟩,ty,pos,aft,g⟩ a w:=by
 unfold mmA;split
 ·rename_i k p' k' q' h1 h2
  obtain⟨rfl,h3⟩:=AV.i_rel h1 hp;obtain⟨rfl,W⟩:=AV.i_rel h2 hq;split
  ·rename_i e
   subst e;cases mx with
   |true=>exact .run (HK h Z J) (dm (FS h3 W))
   |false=>exact .run (DD h Z J) (dm (Mj h3 W))
  ·exact .none
 ·exact .none
end
section
variable {G:Sg}{P:Program}{δ:List Nat}{n:Nat}{a:Act}{m:M}{z:Cz}{w:World}{ty:TypeId}{d:Nat}{pos:String}{aft:Array Edge}{g:Option (Nat×Bool)}{Γ:Tab P G}
 {W0:Bse} {L0:Rs} {T0:List (Nat×Value)} {Ls:List (Nat×BC G)} {Ts:List Nat} {ρ:Operand->Option (EV G)}
theorem bm (J:∀x e,ρ x=some e->e.Rel G P m z (a.eval x)){x:Operand}{b:AV G}(h:av? (ρ x)=some b):b.Rel G P m z (a.eval x):=by
 cases hx:ρ x with
 |none=>simp[hx,av?] at h
 | some e=>
  cases e with
  |one v=>
   simp only[hx,av?,Option.some.injEq] at h;subst h;exact J x _ hx
  |tup vs=>simp[hx,av?] at h
theorem J5 {W:List (AV G)}{vs:List Value}(h:qn G P m z W vs){i:Nat}{b:AV G}(J:W[i]? =some b):∃v,vs[i]? =some v/\b.Rel G P m z v:=by
 induction W generalizing vs i with
 |nil=>simp at J
 | cons x W ih=>
  cases vs with
  |nil=>exact h.elim
  |cons v vs=>
   cases i with
   |zero=>simp at J;subst J;exact⟨v,rfl,h.1⟩
   |succ i=>simp at J;obtain⟨v',Z,g2⟩:=ih h.2 J;exact⟨v',by simpa using Z,g2⟩
theorem FZ {o:Op}(hd:a.defers=δ.map λD=>{ target:= .collected D,args:= #[] })(hs:a.tmps.size=n)(hM:ga G W0 L0 T0 Ls Ts m z w)(Z:∀x e,ρ x=some e->e.Rel G P m z (a.eval x)):
  gN G P m z (Ae Γ ρ (eX Ls) o) ⟨some d,o,ty,pos,aft,g⟩ a w:=by
 unfold Ae;split
 ·rename_i x
  obtain⟨l,J,h⟩:=d5 hd hs [x];split
  ·rename_i e he;exact .pe ((iQ J (h x (by simp))).step ⟨rfl,Z _ _ he⟩)
  ·exact .none
 ·rename_i x
  obtain⟨l,J,h⟩:=d5 hd hs [x];split
  ·rename_i e he;exact .pe ((mM J (h x (by simp))).step ⟨rfl,Z _ _ he⟩)
  ·exact .none
 ·rename_i c x y
  obtain⟨l,J,h⟩:=d5 hd hs [c,x,y];split
  ·rename_i ca hc
   split
   ·rename_i b hb
    have hv:=AV.b_rel hb (bm Z hc);have a0:=h c (by simp);rw[hv] at a0;split
    ·split
     ·rename_i e he;exact .pe ((uV J a0 rfl (h x (by simp))).step ⟨rfl,Z _ _ he⟩)
     ·exact .none
    ·split
     ·rename_i e he;exact .pe ((uW J a0 rfl (h y (by simp))).step ⟨rfl,Z _ _ he⟩)
     ·exact .none
   ·exact .none
  ·exact .none
 ·rename_i x
  obtain⟨l,J,h⟩:=d5 hd hs [x];have hx:=h x (by simp);split
  ·rename_i t v W
   have hr:=bm Z W;obtain⟨b,o,hv,hR⟩:=hr;rw[hv] at hx;exact .run (cz J hx) ⟨b,o,rfl,hR⟩
  ·rename_i W
   obtain⟨p,hp,hv⟩:=bm Z W;rw[hv] at hx;exact .run (cz J hx) ⟨p,hp,rfl⟩
  ·rename_i W
   obtain⟨p,hp,hv⟩:=bm Z W;rw[hv] at hx;exact .run (cz J hx) ⟨p,hp,rfl⟩
  ·rename_i W
   obtain⟨p,hp,hv⟩:=bm Z W;rw[hv] at hx;exact .run (cz J hx) ⟨p,hp,rfl⟩
  ·rename_i W
   obtain⟨hr,_⟩:=bm Z W;split
   ·rename_i N _
    have e1:=N.hk _ _ _ hr;exact .pb λq hq=>(rq J hx e1 hq).step ⟨rfl,rP e1 hq⟩
   ·exact .none
  ·exact .none
 ·rename_i x y _
  obtain⟨l,J,h⟩:=d5 hd hs [x,y];split
  ·rename_i W h2
   exact Mu J (h x (by simp)) (h y (by simp)) (bm Z W) (bm Z h2)
  ·exact .none
 ·rename_i x
  obtain⟨l,J,h⟩:=d5 hd hs [x];split
  ·rename_i W;exact N3 J (h x (by simp)) (bm Z W)
  ·exact .none
 ·rename_i x
  obtain⟨l,J,h⟩:=d5 hd hs [x];split
  ·rename_i W
   obtain⟨L,TL,hS⟩:=hM.any;exact J3 J hS (h x (by simp)) (bm Z W)
  ·exact .none
 ·rename_i x i
  obtain⟨l,J,h⟩:=d5 hd hs [x];have hx:=h x (by simp);split
  ·rename_i vs W
   split
   ·rename_i v hv
    obtain⟨us,hu,hR⟩:=Z _ _ W;obtain⟨u,g1,g2⟩:=J5 hR hv;rw[hu] at hx;exact .run (ct J hx (by simpa using g1)) g2
   ·exact .none
  ·exact .none
 ·rename_i x
  obtain⟨l,J,h⟩:=d5 hd hs [x];split
  ·rename_i W;exact J4 J hM (h x (by simp)) (bm Z W)
  ·exact .none
 ·rename_i x _
  obtain⟨l,J,h⟩:=d5 hd hs [x];split
  ·rename_i W;exact H1 J (h x (by simp)) (bm Z W)
  ·exact .none
 ·rename_i x y
  obtain⟨l,J,h⟩:=d5 hd hs [x,y];split
  ·rename_i W h2;exact H2 J hM (h x (by simp)) (h y (by simp)) (bm Z W) (bm Z h2)
  ·exact .none
 ·rename_i x y
  obtain⟨l,J,h⟩:=d5 hd hs [x,y];split
  ·rename_i W h2;exact H3 J (h x (by simp)) (h y (by simp)) (bm Z W) (bm Z h2)
  ·exact .none
 ·rename_i x lo hi
  obtain⟨l,J,h⟩:=d5 hd hs (x::(lo.toList++hi.toList));split
  ·rename_i W
   refine H4 J (h x (by simp)) (bm Z W) ?_ ?_
   ·cases lo with
    |none=>trivial
    |some o=>exact λb hb=>⟨_,h o (by simp),bm Z hb⟩
   ·cases hi with
    |none=>trivial
    |some o=>exact λb hb=>⟨_,h o (by simp),bm Z hb⟩
  ·exact .none
 ·rename_i t ps
  obtain⟨l,J,h⟩:=d5 hd hs (ps.toList.map (·.2));exact H5 (σ:=λx=>av? (ρ x)) J λp hp b hb=>⟨_,h p.2 (Zv hp),bm Z hb⟩
 ·rename_i x t
  obtain⟨l,J,h⟩:=d5 hd hs [x];split
  ·rename_i W;exact Mv J hM (h x (by simp)) (bm Z W)
  ·exact .none
 ·rename_i x y _
  obtain⟨l,J,h⟩:=d5 hd hs [x,y];split
  ·rename_i W h2;exact H6 (mx:=true) J (h x (by simp)) (h y (by simp)) (bm Z W) (bm Z h2)
  ·exact .none
 ·rename_i x y _
  obtain⟨l,J,h⟩:=d5 hd hs [x,y];split
  ·rename_i W h2;exact H6 (mx:=false) J (h x (by simp)) (h y (by simp)) (bm Z W) (bm Z h2)
  ·exact .none
 ·exact .none
end
section
variable {W0:Bse}{m:M}{w:World}{L:List (Nat×List Value)}{TL:List (Nat×Value)}
theorem S.takeL (h:S W0 m w L TL){i:Nat}{e:Nat×List Value}(hi:L[i]? =some e):S W0 m w (e::L.set i (e.1,[])) TL:=by
 have key:∀(j:Nat) (x:Nat×List Value),(e::L.set i (e.1,[]))[j]? =some x->x.2≠[]->∃k,L[k]? =some x/\(j=0/\k=i\/j=k+1/\k≠i):=by
  intro j x J W;cases j with
  |zero=>simp at J;subst J;exact⟨i,hi,.inl ⟨rfl,rfl⟩⟩
  | succ j=>
   simp only[Xa,Xb] at J;split at J
   ·split at J
    ·injection J with J;subst J;exact absurd rfl W
    ·cases J
   ·rename_i a1;exact⟨j,J,.inr ⟨rfl,λe=>a1 e.symm⟩⟩
 refine⟨h.below,h.imm,λj x J W=>?_,λj k x y J hy a2 W a0=>?_,h.tails,h.apart⟩
 ·obtain⟨k,Z,_⟩:=key j x J W;exact h.own k x Z W
 ·obtain⟨j',hj,h1⟩:=key j x J W
  obtain⟨k',Z,h2⟩:=key k y hy a0;exact h.nodup j' k' x y hj Z (by omega) W a0
theorem S.putL {e:Nat×List Value}(h:S W0 m w (e::L) TL){i b:Nat}(_hi:L[i]? =some (b,[])):S W0 m w (L.set i e) TL:=by
 have key:∀(j:Nat) (x:Nat×List Value),(L.set i e)[j]? =some x->x.2≠[]->∃k,(e::L)[k]? =some x/\(j=i/\k=0\/j≠i/\k=j+1):=by
  intro j x J W;rw[Xb] at J;split at J
  ·rename_i a0
   split at J
   ·injection J with J;subst J;exact⟨0,rfl,.inl ⟨a0.symm,rfl⟩⟩
   ·cases J
  ·rename_i a0;exact⟨j+1,by simpa using J,.inr ⟨λe=>a0 e.symm,rfl⟩⟩
 refine⟨h.below,h.imm,λj x J W=>?_,λj k x y J hy a2 W a1=>?_,h.tails,h.apart⟩
 ·obtain⟨k,Z,_⟩:=key j x J W;exact h.own k x Z W
 ·obtain⟨j',hj,h1⟩:=key j x J W
  obtain⟨k',Z,h2⟩:=key k y hy a1;exact h.nodup j' k' x y hj Z (by omega) W a1
theorem S.takeT (h:S W0 m w L TL){i:Nat}{e:Nat×Value}(hi:TL[i]? =some e):S W0 m w L (e::TL.set i (e.1,.slice none 0 0)):=by
 have key:∀(j:Nat) (x:Nat×Value),(e::TL.set i (e.1,.slice none 0 0))[j]? =some x->x.2= .slice none 0 0\/ ∃k,TL[k]? =some x/\(j=0/\k=i\/j=k+1/\k≠i):=by
  intro j x J;cases j with
  |zero=>simp at J;subst J;exact .inr ⟨i,hi,.inl ⟨rfl,rfl⟩⟩
  | succ j=>
   simp only[Xa,Xb] at J;split at J
   ·split at J
    ·injection J with J;subst J;exact .inl rfl
    ·cases J
   ·rename_i a0;exact .inr ⟨j,J,.inr ⟨rfl,λe=>a0 e.symm⟩⟩
 refine⟨h.below,h.imm,h.own,h.nodup,λj x J=>?_,λj k x y J hy a1=>?_⟩
 ·rcases key j x J with J|⟨k,Z,_⟩
  ·obtain⟨s,v⟩:=x;simp only at J;subst J;trivial
  ·exact h.tails k x Z
 ·rcases key j x J with J|⟨j',hj,h1⟩
  ·intro b W;rw[J] at W;simp[jL] at W
  ·rcases key k y hy with hy|⟨k',Z,h2⟩
   ·intro b W;rw[hy];simp[jL]
   ·exact h.apart j' k' x y hj Z (by omega)
end
def bC (G:Sg):List Ty->Type
 |[]=>Unit
 |[t]=>t.den G
 |t::t'::ts=>t.den G×bC G (t'::ts)
def hdT (G:Sg)(t:Ty):(h:List Ty)->bC G (t::h)->t.den G
 |[],x=>x
 |_::_,x=>x.1
def tlT (G:Sg)(t:Ty):(h:List Ty)->bC G (t::h)->bC G h
 |[],_=>()
 |_::_,x=>x.2
def mkT (G:Sg)(t:Ty):(h:List Ty)->t.den G->bC G h->bC G (t::h)
 |[],x,_=>x
 |_::_,x,y=>(x,y)
theorem Af {G:Sg}{t:Ty}:∀{h:List Ty} {x:t.den G} {y:bC G h},hdT G t h (mkT G t h x y)=x
 |[],_,_=>rfl
 |_::_,_,_=>rfl
theorem Ag {G:Sg}{t:Ty}:∀{h:List Ty} {x:t.den G} {y:bC G h},tlT G t h (mkT G t h x y)=y
 |[],_,_=>rfl
 |_::_,_,_=>rfl
inductive Pm where
 |rd (u:Ty)
 |ap (u:Ty)
 |pt (u:Ty)
 |ow (u:Ty)
 |f1 (a b:Ty)
 |f2 (a c b:Ty)
inductive Rm where
 |rd (u:Ty)
 |ap (u:Ty)
 |ow (u:Ty)
def Pm.den (G:Sg):Pm->Type
 | .rd t=>t.den G
 | .ap t=>List (t.den G)
 | .pt t=>t.den G
 | .ow t=>List (t.den G)
 | .f1 a b=>a.den G->Option (b.den G)
 | .f2 a c b=>a.den G->c.den G->Option (b.den G)
def d6 (G:Sg):List Pm->Type
 |[]=>Unit
 |p::ps=>p.den G×d6 G ps
def Pm.out:Pm->Option Ty
 | .pt t=>some t
 | .ow t=>some (.sl t)
 |_=>none
def Rm.ty:Rm->Ty
 | .rd t=>t
 | .ap t=> .sl t
 | .ow t=> .sl t
def lu (G:Sg)(P:Program)(m:M):(ps:List Pm)->List Value->d6 G ps->List (Nat×List Value)->List (Nat×Value)->Prop
 |[],[],_,[],[]=>True
 | .rd t::ps,v::vs,x,Lp,Tp=>RV (t.kd G) m v x.1/\lu G P m ps vs x.2 Lp Tp
 | .ap t::ps,v::vs,x,Lp,e::Tp=>RV (kSl (t.kd G)) m v x.1/\e=((t.kd G).sz,v)/\lu G P m ps vs x.2 Lp Tp
 | .pt t::ps,v::vs,x,e::Lp,Tp=>(t.kd G).R m e.2 x.1/\v= .pointer (some ⟨e.1,0,none⟩)/\lu G P m ps vs x.2 Lp Tp
 | .ow t::ps,v::vs,x,e::Lp,Tp=>GS (t.kd G) m e.1 e.2 v x.1/\lu G P m ps vs x.2 Lp Tp
 | .f1 a b::ps,v::vs,x,Lp,Tp=>Fn1 P (a.kd G) (b.kd G) m v x.1/\lu G P m ps vs x.2 Lp Tp
 | .f2 a c b::ps,v::vs,x,Lp,Tp=>Fn2 P (a.kd G) (c.kd G) (b.kd G) m v x.1/\lu G P m ps vs x.2 Lp Tp
 |_,_,_,_,_=>False
def iO (G:Sg)(m:M):(ps:List Pm)->List Value->bC G (ps.filterMap Pm.out)->List (Nat×List Value)->List (Nat×List Value)->Prop
 |[],_,_,[],[]=>True
 | .pt t::ps,_::vs,x,e::Lp,e'::Lp'=>e'.1=e.1/\(t.kd G).R m e'.2 (hdT G t (ps.filterMap Pm.out) x)/\iO G m ps vs (tlT G t (ps.filterMap Pm.out) x) Lp Lp'
 | .ow t::ps,v::vs,x,e::Lp,e'::Lp'=>e'.1=e.1/\GS (t.kd G) m e'.1 e'.2 v (hdT G (.sl t) (ps.filterMap Pm.out) x)/\iO G m ps vs (tlT G (.sl t) (ps.filterMap Pm.out) x) Lp Lp'
 | .rd _::ps,_::vs,x,Lp,Lp'=>iO G m ps vs x Lp Lp'
 | .ap _::ps,_::vs,x,Lp,Lp'=>iO G m ps vs x Lp Lp'
 | .f1 _ _::ps,_::vs,x,Lp,Lp'=>iO G m ps vs x Lp Lp'
 | .f2 _ _ _::ps,_::vs,x,Lp,Lp'=>iO G m ps vs x Lp Lp'
 |_,_,_,_,_=>False
def oa (G:Sg)(m:M)(os:List Ty):(rs:List Rm)->List Value->bC G (rs.map Rm.ty++os)->List (Nat×List Value)->List (Nat×Value)->Prop
 |[],[],_,[],[]=>True
 | .rd t::rs,v::vs,x,Lr,Tr=>RV (t.kd G) m v (hdT G t (rs.map Rm.ty++os) x)/\oa G m os rs vs (tlT G t (rs.map Rm.ty++os) x) Lr Tr
 | .ap t::rs,v::vs,x,Lr,e::Tr=>RV (kSl (t.kd G)) m v (hdT G (.sl t) (rs.map Rm.ty++os) x)/\e=((t.kd G).sz,v)/\oa G m os rs vs (tlT G (.sl t) (rs.map Rm.ty++os) x) Lr Tr
 | .ow t::rs,v::vs,x,e::Lr,Tr=>GS (t.kd G) m e.1 e.2 v (hdT G (.sl t) (rs.map Rm.ty++os) x)/\oa G m os rs vs (tlT G (.sl t) (rs.map Rm.ty++os) x) Lr Tr
 |_,_,_,_,_=>False
def rest (G:Sg)(os:List Ty):(rs:List Rm)->bC G (rs.map Rm.ty++os)->bC G os
 |[],x=>x
 |r::rs,x=>rest G os rs (tlT G r.ty (rs.map Rm.ty++os) x)
abbrev gT (ps:List Pm)(rs:List Rm):List Ty:=rs.map Rm.ty++ps.filterMap Pm.out
def Ctr (G:Sg)(P:Program)(f:FuncId)(ps:List Pm)(rs:List Rm)(g:d6 G ps->Option (bC G (gT ps rs))):Prop:=
 ∀(W0:Bse) (m:M) (w:World) (L:List (Nat×List Value)) (TL:List (Nat×Value)) (vs:List Value) (x:d6 G ps) (r:bC G (gT ps rs)) (Lp:List (Nat×List Value)) (Tp:List (Nat×Value)),
  S W0 m w (Lp++L) (Tp++TL)->lu G P m ps vs x Lp Tp->g x=some r->
  Calls P f vs.toArray w (Ret λv w'=>∃(m':M) (us:List Value) (Lr Lp':List (Nat×List Value)) (Tr:List (Nat×Value)),M.le m m'/\S W0 m' w' (Lr++(Lp'++L)) (Tr++TL)/\v=tup us/\oa G m' (ps.filterMap Pm.out) rs us r Lr Tr/\iO G m' ps vs (rest G (ps.filterMap Pm.out) rs r) Lp Lp')
structure CS (P:Program)(G:Sg) where
 f:FuncId
 ps:List Pm
 rs:List Rm
 g:d6 G ps->Option (bC G (gT ps rs))
 ok:Ctr G P f ps rs g
 hc:∀vs w,(callFunc f vs).run P w= .ok (.enter f vs) w
section
variable {G:Sg}{P:Program}
def rmk {O:Type}:List (Nat×O)->Nat->List (Nat×O)
  |[],_=>[]
  |(q,x)::l,d=>if Zb q d then rmk l d else (q,x)::rmk l d
theorem me {O:Type}{l:List (Nat×O)}{d:Nat}{e:Nat×O}(h:e∈rmk l d):e∈l/\e.1≠d:=by
  induction l with
  |nil=>cases h
  | cons x l ih=>
    obtain⟨q,x⟩:=x;simp only[rmk] at h;split at h
    ·have:=ih h;exact⟨by simp[this.1],this.2⟩
    · rename_i J
      rcases Z8.1 h with h|h
      · subst h
        exact⟨by simp,λe=>by subst e;simp at J⟩
      ·have:=ih h;exact⟨by simp[this.1],this.2⟩
def St.put (st:St G)(d:Nat)(e:EV G):St G:={ st with env:=(d,st.c,e)::rmk st.env d }
def St.push (st:St G)(B:BC G):St G:={ st with L:=(st.c,B)::st.L }
def St.setB (st:St G)(i:Nat)(B:BC G):St G:={ st with L:=sb st.L i (st.c,B) }
def Bq (s:ByteArray):List Int:=s.data.toList.map λb=>(b.toNat:Int)
def cAV:Value->Option (AV G)
  | .int k n=>if k.wrap n=n then some (.li k n) else none
  | .bool b=>some (db b)
  | .string s=>if X3 (Bq s).length cR then some (.dat .str (Bq s) none) else none
  | .slice none 0 0=>some .nils
  | .pointer none=>some .nilp
  | .agg cs=>some (.agc cs.toList)
  |_=>none
theorem J6 (s:ByteArray):bts (Bq s)=s:=by
  cases s with
  | mk d=>
    unfold bts Bq;congr 1;apply Array.ext';simp[List.map_map,Function.comp_def]
theorem Mw (s:ByteArray):∀n∈Bq s,0<=n/\n<256:=by
  intro n h;unfold Bq at h;obtain⟨b,_,rfl⟩:=Zy.1 h;have:=b.toNat_lt;omega
theorem yq {v:Value}{b:AV G}{m:M}{z:Cz}(h:cAV v=some b):b.Rel G P m z v:=by
  unfold cAV at h;split at h
  · split at h
    ·rename_i J;injection h with h;subst h;exact⟨rfl,J⟩
    ·cases h
  ·injection h with h;subst h;exact ef
  · rename_i s
    split at h
    · rename_i J
      injection h with h;subst h
      refine⟨?_,trivial⟩;have:=Cd (m:=m) (Mw s) (Z3 J);rw[J6] at this;exact this
    ·cases h
  ·injection h with h;subst h;rfl
  ·injection h with h;subst h;rfl
  · rename_i cs
    injection h with h;subst h
    show _=_;simp
  ·cases h
def St.op (st:St G):Operand->Option (EV G)
  | .tmp t=>(match lke st.env t with|some e=>some e.2|none=>none)
  | .const v=>(match cAV v with|some b=>some (.one b)|none=>none)
  |_=>none
theorem iH {O:Type}{l:List (Nat×O)}{q:Nat}{x:O}(h:lke l q=some x):(q,x)∈l:=by
  induction l with
  |nil=>cases h
  | cons e l ih=>
    obtain⟨j,y⟩:=e;simp only[lke] at h;split at h
    · rename_i J
      have:=Z2 J;injection h with h
      subst this;subst h;simp
    ·simp[ih h]
def kA (G:Sg)(P:Program)(m:M)(z:Cz)(env:List (Nat×Nat×EV G))(a:Act):Prop:= ∀e∈env,e.2.2.Rel G P m z (a.tmps.getD e.1 undef)
theorem fi {st:St G}{a:Act}{m:M}{z:Cz}(h:kA G P m z st.env a):∀x e,st.op x=some e->e.Rel G P m z (a.eval x):=by
  intro x e J;cases x with
  | tmp t=>
    simp only[St.op] at J;split at J
    · rename_i e' W
      injection J with J;subst J
      exact h _ (iH W)
    ·cases J
  | const v=>
    simp only[St.op] at J;split at J
    · rename_i b Z
      injection J with J;subst J
      exact yq Z
    ·cases J
  |_=>simp[St.op] at J
structure Sat (G:Sg)(P:Program)(δ:List Nat)(n:Nat)(W0:Bse)(L0:Rs)(T0:List (Nat×Value))(m0:M)(st:St G)(a:Act)(w:World):Prop where
  ex:∃m z,M.le m0 m/\kA G P m z st.env a/\ga G W0 L0 T0 st.L st.T m z w
  df:a.defers=δ.map λD=>{ target:= .collected D,args:= #[] }
  sz:a.tmps.size=n
structure Ext (k0:Nat)(st st':St G):Prop where
  env:∀k,k<k0->∀e∈st'.env,e.2.1<=k->∃lv,lv<=k/\(e.1,lv,e.2.2)∈st.env
  blk:∀k,k<k0->∀i s B,fb st'.L i=some (s,B)->s<=k->∃s',s'<=k/\fb st.L i=some (s',B)
theorem Ext.refl (k0:Nat)(st:St G):Ext k0 st st:=⟨λk _ e Z J=>⟨e.2.1,J,Z⟩,λk _ i s B h W=>⟨s,W,h⟩⟩
theorem Ext.trans {Z:Nat}{a b c:St G}(h:Ext Z a b)(k:Ext Z b c):Ext Z a c:=
  ⟨λq J e he hl=>by
    obtain⟨lv,W,h2⟩:=k.env q J e he hl;exact h.env q J (e.1,lv,e.2.2) h2 W,
   λq J i s B hb hs=>by
    obtain⟨s',W,h2⟩:=k.blk q J i s B hb hs
    exact h.blk q J i s' B h2 W⟩
theorem Ext.le {J k1:Nat}{a b:St G}(h:Ext J a b)(Z:k1<=J):Ext k1 a b:=⟨λq W=>h.env q (by omega),λq W=>h.blk q (by omega)⟩
theorem Ext.put {st:St G}{d:Nat}{e:EV G}:Ext st.c st (st.put d e):=
  ⟨λk hk x J W=>by
    rcases Z8.1 J with rfl|J
    ·simp only at W;omega
    ·exact⟨x.2.1,W,(me J).1⟩,λk hk i s B h Z=>⟨s,Z,h⟩⟩
theorem yr {O:Type}{l:List O}{i:Nat}{y:O}(h:fb l i=some y):i<l.length:=by
  induction l with
  |nil=>simp[fb] at h
  | cons a l ih=>
    simp only[fb] at h;split at h
    · rename_i e
      have:=Z2 e;simp;omega
    ·have:=ih h;simp;omega
theorem Mx {O:Type}{l:List O}{x y:O}{i:Nat}(h:fb (x::l) i=some y):(i=l.length/\x=y)\/fb l i=some y:=by
  simp only[fb] at h;split at h
  · rename_i e
    injection h with h
    exact .inl ⟨Z2 e,h⟩
  ·exact .inr h
theorem LD {O:Type}{l:List O}{i j:Nat}{x y:O}(h:fb (sb l i x) j=some y):(j=i/\x=y)\/(j≠i/\fb l j=some y):=by
  by_cases e:i=j
  · subst e
    cases hl:fb l i with
    | none=>
      exfalso
      have a0:(sb l i x).length=l.length:=by
        clear h hl
        induction l with
        |nil=>rfl
        |cons a l ih=>simp only[sb];split<;>simp[ih]
      have W:=yr h;rw[a0] at W
      have: ∀{l:List O} {i:Nat},i<l.length->fb l i≠none:=by
        intro l
        induction l with
        |nil=>intro i h;simp at h
        | cons a l ih=>
          intro i h J;simp only[fb] at J;split at J
          ·cases J
          · rename_i Z
            have:i≠l.length:=λe=>by subst e;simp at Z
            simp at h;exact ih (by omega) J
      exact this W hl
    | some y'=>
      rw[pk hl] at h;injection h with h
      exact .inl ⟨rfl,h⟩
  · rw[ky e] at h
    exact .inr ⟨λx=>e x.symm,h⟩
theorem Ext.push {st:St G}{B:BC G}:Ext st.c st (st.push B):=
  ⟨λk W x hx Z=>⟨x.2.1,Z,hx⟩,λk W i s B' h hs=>by
    rcases Mx h with⟨_,J⟩|h
    ·injection J with J _;omega
    ·exact⟨s,hs,h⟩⟩
theorem Ext.setB {st:St G}{i:Nat}{B:BC G}:Ext st.c st (st.setB i B):=
  ⟨λk W x hx Z=>⟨x.2.1,Z,hx⟩,λk W j s B' h hs=>by
    rcases LD h with⟨_,J⟩|⟨_,h⟩
    ·injection J with J _;omega
    ·exact⟨s,hs,h⟩⟩
structure Zle (z z':Cz):Prop where
  b:∀i p,fb z.b i=some p->fb z'.b i=some p
  t:∀j v,fb z.t j=some v->fb z'.t j=some v
theorem Zle.refl (z:Cz):Zle z z:=⟨λ_ _ h=>h,λ_ _ h=>h⟩
theorem AV.Rel.z {m:M}{z z':Cz}{b:AV G}{v:Value}(h:b.Rel G P m z v)(Z:Zle z z'):b.Rel G P m z' v:=by
  cases b with
  | dat t x o=>
    refine⟨h.1,?_⟩;cases o with
    |none=>trivial
    |some j=>exact Z.t j v h.2
  |loc i a b A=>obtain⟨p,J,W⟩:=h;exact⟨p,Z.b _ _ J,W⟩
  |elp i j a b A=>obtain⟨p,J,W⟩:=h;exact⟨p,Z.b _ _ J,W⟩
  |blk i=>obtain⟨p,J,W⟩:=h;exact⟨p,Z.b _ _ J,W⟩
  |own i=>obtain⟨p,J,W⟩:=h;exact⟨p,Z.b _ _ J,W⟩
  |_=>exact h
theorem EV.Rel.z {m:M}{z z':Cz}{e:EV G}{v:Value}(h:e.Rel G P m z v)(W:Zle z z'):e.Rel G P m z' v:=by
  cases e with
  |one b=>exact AV.Rel.z h W
  | tup asv=>
    obtain⟨vs,Z,J⟩:=h;refine⟨vs,Z,?_⟩;clear Z
    induction asv generalizing vs with
    |nil=>cases vs<;>exact J
    | cons a asv ih=>
      cases vs with
      |nil=>exact J
      |cons v vs=>exact⟨J.1.z W,ih vs J.2⟩
theorem kA.z {m m':M}{z z':Cz}{env:List (Nat×Nat×EV G)}{a:Act}(h:kA G P m z env a)(W:M.le m m')(J:Zle z z'):kA G P m' z' env a:=λe Z=>((h e Z).mono W).z J
theorem kA.put {m:M}{z:Cz}{env:List (Nat×Nat×EV G)}{a:Act}{n d lv:Nat}{e:EV G}{v:Value}(h:kA G P m z env a)(hs:a.tmps.size=n)(W:Z5 d n=true)(hv:e.Rel G P m z v):kA G P m z ((d,lv,e)::rmk env d) (a.put (some d) v):=by
  have a0:d<n:=Z3 W;intro x J;rcases Z8.1 J with rfl|J
  ·simpa[Act.put,hs,a0] using hv
  · obtain⟨h1,h2⟩:=me J
    have:=h x h1;have Z:d≠x.1:=λe=>h2 e.symm;simpa[Act.put,Array.getElem?_setIfInBounds_ne Z] using this
theorem kR {O:Type}{l:List O}{i:Nat}{x:O}(h:fb l i=some x):sb l i x=l:=by
  induction l with
  |nil=>simp[fb] at h
  | cons a l ih=>
    simp only[fb] at h;simp only[sb];split at h
    ·rename_i e;injection h with h;subst h;simp[e]
    ·rename_i e;simp[e,ih h]
end
structure oc (G:Sg) where
 β:Type
 mv:Option β
 k:β->St G
section
variable {G:Sg}{P:Program}
def AV.tagged (j:Nat):AV G->Bool
 | .dat _ _ (some i)=>Zb i j
 |_=>false
def AV.er:AV G->AV G
 | .dat t x _=> .dat t x none
 |b=>b
def EV.tagged (j:Nat):EV G->Bool
 | .one b=>b.tagged j
 | .tup asv=>asv.any (AV.tagged j)
def EV.er:EV G->EV G
 | .one b=> .one b.er
 | .tup asv=> .tup (asv.map AV.er)
def oT (j c:Nat)(env:List (Nat×Nat×EV G)):List (Nat×Nat×EV G):=env.map λe=>if e.2.2.tagged j then (e.1,c,e.2.2.er) else e
def nx (m:Nat)(by_:Nat):Nat:=m/(if by_=0 then 1 else by_)
theorem Dl (m by_:Nat):nx m by_*by_<=m/\nx m by_<=m:=by
 unfold nx;split
 ·rename_i h;subst h;simp
 ·exact⟨Nat.div_mul_le_self _ _,Nat.div_le_self _ _⟩
def yt:Nat:=140737488355328
def GQ:Nat:=281474976710656
def TI.sl? {i:TypeId}:TI P G i->Option (Sigma λc:Ty=>SlI P G i c)
 |⟨.sl c,_,u,_,_,_,_⟩=>some ⟨c,u⟩
 |_=>none
def AV.own?:AV G->Option Nat
 | .own i=>some i
 |_=>none
def N4 (Γ:Tab P G)(h:Nat->Option (BC G))(c:Ty)(q:AV G):Option (List (c.den G)):=
 match q.own? with
 |some i=>(match h i with|some (.arr c' _ xs)=>dF G (.sl c') (.sl c) xs|_=>none)
 |none=>q.as Γ (.sl c)
def J7 (Γ:Tab P G)(h:Nat->Option (BC G))(c J:Ty)(q:AV G):Option (List (c.den G)):=
 match J with
 | .str=>(match q.s? with|some s=>dF G (.sl (.int .u8)) (.sl c) s|none=>none)
 | .sl _=>N4 Γ h c q
 |_=>none
def Br (Γ:Tab P G)(c:Ty):List (Nat×Option (AV G))->Nat->Option (List (c.den G))
 |[],_=>some []
 |(i,some b)::r,k=>if i=k then (match b.as Γ c,Br Γ c r (k+1) with|some x,some xs=>some (x::xs)|_,_=>none) else none
 |_,_=>none
def GT:Operand->Operand->Bool
 | .tmp i,.tmp j=>Zb i j
 | .const (.int k i),.const (.int k' j)=>decide (i=j)
 |_,_=>false
def two {β:Type}(h:Option β)(k:β->St G):Option (oc G):=some ⟨β,h,k⟩
def xf (s:St G):Option (oc G):=some ⟨Unit,some (),λ_=>s⟩
def allocT (Γ:Tab P G)(st:St G)(t:TypeId)(d:Nat):Option (oc G):=
 match Γ.ar t with
 |some R=>xf ((st.push (.arr R.t (some R.n) (Zt R.n R.z))).put d (.one (.blk st.L.length)))
 |none=>(match Γ.ty t with
  |some I=>xf ((st.push (.dat I.T I.z)).put d (.one (.blk st.L.length)))
  |none=>none)
def J8 (Γ:Tab P G)(st:St G)(t:TypeId)(x:Operand)(d:Nat):Option (oc G):=
 match Γ.ty t,av? (st.op x) with
 |some I,some b=>(match b.as Γ I.T with
  |some y=>xf ((st.push (.dat I.T y)).put d (.one (.blk st.L.length)))
  |none=>none)
 |_,_=>none
def D7 (Γ:Tab P G)(st:St G)(t:TypeId)(x y:Operand):Option (oc G):=
 match Γ.ty t,av? (st.op x),av? (st.op y) with
 | some I,some p,some q=>(match q.as Γ I.T with
  | some v=>(match p with
   | .blk i=>(match eX st.L i with
    |some (.dat c x0)=>if c=I.T then xf (st.setB i (.dat I.T v)) else none
    |_=>none)
   | .loc i c b A=>(match eX st.L i with
    |some (.dat c' x0)=>(match dF G c' c x0,dF G I.T b v with
     |some h,some v=>xf (st.setB i (.dat c (A.set h v)))
     |_,_=>none)
    |_=>none)
   | .elp i j c b A=>(match eX st.L i with
    |some (.arr c' n xs)=>(match dF G (.sl c') (.sl c) xs,dF G I.T b v with
     |some ys,some v=>two (N2 (O:=c.den G) ys j) λh=>st.setB i (.arr c n (List.set (α:=c.den G) ys j (A.set h v)))
     |_,_=>none)
    |_=>none)
   |_=>none)
  |none=>none)
 |_,_,_=>none
def J9 (Γ:Tab P G)(st:St G)(t:TypeId)(len:Nat)(ps:Array (Nat×Operand))(d:Nat):Option (oc G):=
 match Γ.ty t with
 | some I=>(match I.sl? with
  |some ⟨c,_⟩=>(match Br Γ c (ps.toList.map λp=>(p.1,av? (st.op p.2))) 0 with
   |some xs=>if ps.toList.length=len/\X3 (len*(c.kd G).sz) 16777216=true then xf ({ st with T:=(c.kd G).sz::st.T }.put d (.one (.dat (.sl c) xs (some st.T.length)))) else none
   |none=>none)
  |none=>none)
 |none=>none
def Ka (Γ:Tab P G)(st:St G)(t t2:TypeId)(x y:Operand)(d:Nat):Option (oc G):=
 match Γ.ty t,Γ.ty t2,av? (st.op x),av? (st.op y) with
 | some I,some I2,some p,some q=>(match I.sl? with
  | some ⟨c,B⟩=>(match J7 Γ (eX st.L) c I2.T q with
   | some ys=>(match p with
    | .nils=>two (app (nx yt B.by_) ([]:List (c.den G)) ys) λh=>{ st with T:=(c.kd G).sz::st.T }.put d (.one (.dat (.sl c) h (some st.T.length)))
    | .dat t' xs (some j)=>(match dF G t' (.sl c) xs with
     |some xs=>if fb st.T j=some (c.kd G).sz then two (app (O:=c.den G) (nx yt B.by_) xs ys) λh=>{ st with env:=oT j st.c st.env }.put d (.one (.dat (.sl c) h (some j))) else none
     |none=>none)
    |_=>none)
   |none=>none)
  |none=>none)
 |_,_,_,_=>none
def GU (Γ:Tab P G)(st:St G)(t:TypeId)(x y:Operand)(d:Nat):Option (oc G):=
 match Γ.ty t,av? (st.op x),av? (st.op y) with
 |some I,some p,some q=>(match I.sl?,p.i?,q.i? with
  |some ⟨c,B⟩,some (_,i),some (_,_)=>if GT x y=true then two (mk (nx GQ B.by_) i B.z) λh=>(st.push (.arr c none h)).put d (.one (.own st.L.length)) else none
  |_,_,_=>none)
 |_,_,_=>none
def GV (Γ:Tab P G)(st:St G)(t:TypeId)(x y:Operand)(d:Nat):Option (oc G):=
 match Γ.ty t,av? (st.op x),av? (st.op y) with
 | some I,some (.own i),some q=>(match I.sl?,eX st.L i with
  |some ⟨c,B⟩,some (.arr c' n xs)=>(match dF G (.sl c') (.sl c) xs,q.as Γ (.sl c) with
   |some xs,some ys=>xf ((st.setB i (.arr c n (cpy (O:=c.den G) xs ys))).put d (.one (di .i64 ((min (List.length (α:=c.den G) ys) (List.length (α:=c.den G) xs):Nat):Int))))
   |_,_=>none)
  |_,_=>none)
 |_,_,_=>none
def D8 (Γ:Tab P G)(st:St G):Op->Option Nat->Option (oc G)
 | .alloc t,some d=>allocT Γ st t d
 | .box t x,some d=>J8 Γ st t x d
 | .store t x y,none=>D7 Γ st t x y
 | .buildSlice t len ps,some d=>J9 Γ st t len ps d
 | .call ⟨.builtin .append,⟨[x,y]⟩,⟨[t,t2]⟩⟩,some d=>Ka Γ st t t2 x y d
 | .call ⟨.builtin .copy,⟨[x,y]⟩,⟨[t,_]⟩⟩,some d=>GV Γ st t x y d
 | .makeSlice t x y,some d=>GU Γ st t x y d
 |_,_=>none
end
section
variable {G:Sg}{P:Program}{δ:List Nat}{n:Nat}{W0:Bse}{L0:Rs}{T0:List (Nat×Value)}{m0:M}{st:St G}{a:Act}{w:World}{Γ:Tab P G}{ty t t2:TypeId}{d:Nat}{pos:String}{aft:Array Edge}{g:Option (Nat×Bool)}{x y:Operand}{o:Oper}
def TG (G:Sg)(P:Program)(δ:List Nat)(n:Nat)(W0:Bse)(L0:Rs)(T0:List (Nat×Value))(m0:M)(st:St G)(r:Option (oc G))(o:Oper)(a:Act)(w:World):Prop:=
 ∀R b,r=some R->R.mv=some b->be P o a w (λv w'=>Sat G P δ n W0 L0 T0 m0 (R.k b) (a.put o.dst v) w'/\Ext st.c st (R.k b)/\(R.k b).c=st.c)
theorem TG.none:TG G P δ n W0 L0 T0 m0 st none o a w:=λR b h=>by cases h
theorem TG.one {s:St G}(h:be P o a w (λv w'=>Sat G P δ n W0 L0 T0 m0 s (a.put o.dst v) w'/\Ext st.c st s/\s.c=st.c)):TG G P δ n W0 L0 T0 m0 st (xf s) o a w:=λR b J W=>by
 injection J with J;subst J;exact h
theorem TG.two {β:Type}{W:Option β}{k:β->St G}(h:∀b,W=some b->be P o a w (λv w'=>Sat G P δ n W0 L0 T0 m0 (k b) (a.put o.dst v) w'/\Ext st.c st (k b)/\(k b).c=st.c)):TG G P δ n W0 L0 T0 m0 st (two W k) o a w:=λR b J Z=>by
 injection J with J;subst J;exact h b Z
theorem Sat.of {env:List (Nat×Nat×EV G)}{L:List (Nat×BC G)}{T:List Nat}{c:Nat}{m m':M}{z:Cz}{e:EV G}{v:Value}{w':World}(J:M.le m0 m)(hm:M.le m m')(hr:kA G P m' z env a)(hv:e.Rel G P m' z v)(hM:ga G W0 L0 T0 L T m' z w')
  (W:Z5 d n=true) (Z:a.defers=δ.map λD=>{ target:= .collected D,args:= #[] }) (h:a.tmps.size=n):Sat G P δ n W0 L0 T0 m0 (St.put ⟨env,c,L,T⟩ d e) (a.put (some d) v) w':=
 ⟨⟨m',z,J.trans hm,hr.put h W hv,hM⟩,by simp[Act.put,Z],by simp[Act.put,h]⟩
theorem Sat.of0 {env:List (Nat×Nat×EV G)}{L:List (Nat×BC G)}{T:List Nat}{c:Nat}{m m':M}{z:Cz}{v:Value}{w':World}(h:M.le m0 m)(W:M.le m m')(hr:kA G P m' z env a)(Z:ga G W0 L0 T0 L T m' z w')
  (J:a.defers=δ.map λD=>{ target:= .collected D,args:= #[] }) (hs:a.tmps.size=n):Sat G P δ n W0 L0 T0 m0 ⟨env,c,L,T⟩ (a.put none v) w':=
 ⟨⟨m',z,h.trans W,hr,Z⟩,J,hs⟩
theorem Zle.pushB (z:Cz)(p:Nat×Value):Zle z ⟨p::z.b,z.t⟩:=⟨λ_ _ h=>yp h,λ_ _ h=>h⟩
theorem Zle.pushT (z:Cz)(v:Value):Zle z ⟨z.b,v::z.t⟩:=⟨λ_ _ h=>h,λ_ _ h=>yp h⟩
theorem jZ {O:Type}{x:O}{l:List O}:fb (x::l) l.length=some x:=by
 simp[fb]
theorem ga.len {Ls:List (Nat×BC G)}{Ts:List Nat}{m:M}{z:Cz}(h:ga G W0 L0 T0 Ls Ts m z w):z.b.length=Ls.length/\z.t.length=Ts.length:=by
 obtain⟨Lc,Z,J,W,_⟩:=h;exact⟨J.len.1,W.len.1⟩
theorem ga.push {Ls:List (Nat×BC G)}{Ts:List Nat}{m:M}{z:Cz}{w':World}{Lc:List (Nat×List Value)}{h:List (Nat×Value)}{b:Nat}{cs:List Value}{sv:Value}{s:Nat}{B:BC G}(J:LR G m Ls z.b Lc)(Z:TRl Ts z.t h)
  (hS:S W0 m w' ((b,cs)::(Lc++L0.l)) (h++T0)) (W:Sfx z.b L0.nm) (hB:B.Rel G m (b,sv) cs):ga G W0 L0 T0 ((s,B)::Ls) Ts m ⟨(b,sv)::z.b,z.t⟩ w':=
 ⟨(b,cs)::Lc,h,⟨rfl,hB,J⟩,Z,hS,W.cons⟩
theorem Ext.push_put {B:BC G}{e:EV G}:Ext st.c st ((st.push B).put d e):=Ext.push.trans (Ext.put (st:=st.push B))
theorem Ext.envL {st st':St G}(W:st'.env=st.env)(h2:st'.L=st.L):Ext st.c st st':=by
 refine⟨λk _ e J Z=>⟨e.2.1,Z,?_⟩,λk _ i s B h hs=>⟨s,hs,?_⟩⟩
 ·rw[W] at J;exact J
 ·rw[h2] at h;exact h
theorem H7 (hs:Sat G P δ n W0 L0 T0 m0 st a w)(hd:Z5 d n=true):TG G P δ n W0 L0 T0 m0 st (allocT Γ st t d) ⟨some d,.alloc t,ty,pos,aft,g⟩ a w:=by
 obtain⟨⟨m,z,Z,hr,hM⟩,hdf,hsz⟩:=hs;have a1:=hM.len;obtain⟨Lc,Tc,h1,h2,hS,a0⟩:=hM;unfold allocT;split
 ·rename_i R _
  refine .one ((dv hS R.hz R.hzc).imp λv w' h=>?_);obtain⟨b,rfl,W⟩:=h;have J:(BC.arr R.t (some R.n) (Zt R.n R.z)).Rel G m (b,.slice (some ⟨b,0,none⟩) R.n R.n) (Zt R.n R.c).flatten:=⟨GS.zero R.hzR R.hn,by simp⟩
  exact⟨Sat.of Z (Za m) (hr.z (Za m) (Zle.pushB z _)) ⟨_,by rw[←a1.1];exact jZ,rfl⟩ (ga.push h1 h2 W a0 J) hd hdf hsz,Ext.push_put,rfl⟩
 ·split
  ·rename_i I _
   refine .one ((dv hS I.hz (cs:=I.zv.cells.toList) (by simp)).imp λv w' h=>?_);obtain⟨b,rfl,W⟩:=h;have J:(BC.dat I.T I.z).Rel G m (b,undef) I.zv.cells.toList:=I.hzR m;exact⟨Sat.of Z (Za m) (hr.z (Za m) (Zle.pushB z _)) ⟨_,by rw[←a1.1];exact jZ,rfl⟩ (ga.push h1 h2 W a0 J) hd hdf hsz,Ext.push_put,rfl⟩
  ·exact .none
theorem My (hs:Sat G P δ n W0 L0 T0 m0 st a w)(hd:Z5 d n=true):TG G P δ n W0 L0 T0 m0 st (J8 Γ st t x d) ⟨some d,.box t x,ty,pos,aft,g⟩ a w:=by
 obtain⟨⟨m,z,h0,h,J⟩,hdf,hsz⟩:=hs;have a1:=J.len;obtain⟨Lc,Tc,h1,h2,hS,a0⟩:=J;unfold J8;split
 ·rename_i I b _ hx
  split
  ·rename_i y Z
   obtain⟨l,hE,hl⟩:=d5 hdf hsz [x];have hv:=AV.as_rel Z (bm (fi h) hx);refine .one ((ox hE hS (hl x (by simp)) hv).imp λv w' hq=>?_);obtain⟨b,cs,rfl,W,a2⟩:=hq;have hB:(BC.dat I.T y).Rel G m (b,undef) cs:=W;exact⟨Sat.of h0 (Za m) (h.z (Za m) (Zle.pushB z _)) ⟨_,by rw[←a1.1];exact jZ,rfl⟩ (ga.push h1 h2 a2 a0 hB) hd hdf hsz,Ext.push_put,rfl⟩
  ·exact .none
 ·exact .none
theorem mf {O:Type}{l l0:List O}{j:Nat}{x y:O}(h:l[j]? =some y):(l++l0).set j x=l.set j x++l0:=by
 have:j<l.length:=(Z0.1 h).1;rw[List.set_append_left _ _ this]
theorem kS {O:Type}{l l0:List O}{j:Nat}{y:O}(h:l[j]? =some y):(l++l0)[j]? =some y:=by
 have:j<l.length:=(Z0.1 h).1;rw[Z4 this];exact h
theorem H8 (hs:Sat G P δ n W0 L0 T0 m0 st a w):TG G P δ n W0 L0 T0 m0 st (D7 Γ st t x y) ⟨none,.store t x y,ty,pos,aft,g⟩ a w:=by
 obtain⟨⟨m,z,h0,hr,hM⟩,hdf,hsz⟩:=hs;obtain⟨Lc,Tc,h1,h2,hS,a3⟩:=hM;unfold D7;split
 ·rename_i I p q _ hx hy
  obtain⟨l,hE,hl⟩:=d5 hdf hsz [x,y];have a0:=hl x (by simp);have a5:=hl y (by simp);have hp:=bm (fi hr) hx;split
  ·rename_i vv hv
   have hV:=AV.as_rel hv (bm (fi hr) hy);split
   ·rename_i i
    split
    ·rename_i c x0 hB
     split
     ·rename_i hc
      subst hc;obtain⟨s,hs⟩:=iy hB;obtain⟨J,cs,j,Z,W,g3,g4⟩:=h1.get hs;obtain⟨a6,h,g6⟩:=hp;rw[Z] at h;injection h with h;subst h
      rw[g6] at a0;refine .one ((dh hE hS I.ok bW a0 a5 hV (kS W) g3).imp λv w' hq=>?_);obtain⟨cs',a1,a2⟩:=hq;have a4:(BC.dat I.T vv).Rel G m (J.1,J.2) cs':=a1;have:=g4 (st.c,BC.dat I.T vv) J.2 cs' a4;rw[kR Z] at this;exact⟨Sat.of0 h0 (Za m) hr ⟨_,Tc,this,h2,by rw[←mf W];exact a2,a3⟩ hdf hsz,Ext.setB,rfl⟩
     ·exact .none
    ·exact .none
   ·rename_i i c b A
    split
    ·rename_i c' x0 hB
     split
     ·rename_i x1 v1 e1 e2
      obtain⟨e,e1⟩:=b8 e1;subst e;subst e1;obtain⟨e,e2⟩:=b8 e2;subst e;subst e2;obtain⟨s,hs⟩:=iy hB;obtain⟨J,cs,j,Z,W,g3,g4⟩:=h1.get hs;obtain⟨a6,h,g6⟩:=hp;rw[Z] at h;injection h with h;subst h
      rw[g6] at a0;refine .one ((dh hE hS I.ok A.stf a0 a5 hV (kS W) g3).imp λv w' hq=>?_);obtain⟨cs',a1,a2⟩:=hq;have:=g4 (st.c,BC.dat c' _) J.2 cs' a1;rw[kR Z] at this;exact⟨Sat.of0 h0 (Za m) hr ⟨_,Tc,this,h2,by rw[←mf W];exact a2,a3⟩ hdf hsz,Ext.setB,rfl⟩
     ·exact .none
    ·exact .none
   ·rename_i i j c b A
    split
    ·rename_i c' nn xs hB
     split
     ·rename_i ys v1 e1 e2
      obtain⟨e,e1⟩:=b8 e1;injection e with e
      subst e;subst e1;obtain⟨e,e2⟩:=b8 e2;subst e;subst e2;refine .two λx1 a9=>?_;obtain⟨s,hs⟩:=iy hB;obtain⟨J,cs,j',Z,W,g3,g4⟩:=h1.get hs;obtain⟨a6,h,g6⟩:=hp;rw[Z] at h;injection h with h;subst h
      rw[g6] at a0;refine(tJ hE hS I.ok A.stf g3.1 a9 a0 a5 hV (kS W)).imp λv w' hq=>?_;obtain⟨cs',a1,a2⟩:=hq
      have a4:(BC.arr c' nn (List.set (α:=c'.den G) _ j (A.set x1 _))).Rel G m (J.1,J.2) cs':=⟨a1,by
       have:=g3.2;cases nn with
       |none=>trivial
       |some k=>exact(List.length_set ..).trans this⟩
      have:=g4 (st.c,_) J.2 cs' a4;rw[kR Z] at this;exact⟨Sat.of0 h0 (Za m) hr ⟨_,Tc,this,h2,by rw[←mf W];exact a2,a3⟩ hdf hsz,Ext.setB,rfl⟩
     ·exact .none
    ·exact .none
   ·exact .none
  ·exact .none
 ·exact .none
theorem F0 {c:Ty}{l:List (Nat×Value)}{m:M}{z:Cz}:∀{ps:List (Nat×Operand)} {k:Nat} {xs:List (c.den G)} {σ:Operand->Option (AV G)},(∀p∈ps,∀b,σ p.2=some b->∃v,evl l p.2=some v/\b.Rel G P m z v)->
  Br Γ c (ps.map λp=>(p.1,σ p.2)) k=some xs->∃vs,ps.mapM (λp=>(evl l p.2).map λv=>(p.1,v))=some (num k vs)/\RVl (c.kd G) m vs xs/\vs.length=ps.length
 |[],k,xs,σ,_,h=>by
  simp only[Xg,Br,Option.some.injEq] at h;subst h;exact⟨[],rfl,trivial,rfl⟩
 | (i,o)::ps,k,xs,σ,hr,h=>by
  simp only[Zr] at h;cases hs:σ o with
  |none=>simp[hs,Br] at h
  | some b=>
   rw[hs] at h;unfold Br at h;split at h
   ·rename_i a1
    subst a1;split at h
    ·rename_i x a2 hx a0
     injection h with h
     subst h;obtain⟨v,Z,W⟩:=hr (i,o) (by simp) b hs;obtain⟨vs,k1,k2,J⟩:=F0 (λp hp=>hr p (by simp[hp])) a0;exact⟨v::vs,by simp[Z,k1,num],⟨AV.as_rel hx W,k2⟩,by simp[J]⟩
    ·cases h
   ·cases h
theorem Mz {len:Nat}{ps:Array (Nat×Operand)}(hs:Sat G P δ n W0 L0 T0 m0 st a w)(hd:Z5 d n=true):TG G P δ n W0 L0 T0 m0 st (J9 Γ st t len ps d) ⟨some d,.buildSlice t len ps,ty,pos,aft,g⟩ a w:=by
 obtain⟨⟨m,z,h0,W,Z⟩,hdf,hsz⟩:=hs;have a1:=Z.len;obtain⟨Lc,Tc,h1,h2,hS,a0⟩:=Z;unfold J9;split
 ·split
  ·rename_i c B _
   split
   ·rename_i xs a2
    split
    ·rename_i J
     obtain⟨l,hE,hl⟩:=d5 hdf hsz (ps.toList.map (·.2));obtain⟨vs,k1,k2,k3⟩:=F0 (σ:=λx=>av? (st.op x)) (λp hp b hb=>⟨_,hl p.2 (Zv hp),bm (fi W) hb⟩) a2;refine .one ((f8 hE hS k1 B.hu B.hs B.hz k2 (len:=len) (by rw[k3];exact J.1) J.2).imp λv w' hq=>?_);obtain⟨m',h,a3,hv⟩:=hq;refine⟨Sat.of (z:=⟨z.b,v::z.t⟩) h0 h (W.z h (Zle.pushT z v)) ⟨hv,?_⟩ ⟨Lc,((c.kd G).sz,v)::Tc,h1.mono h,⟨rfl,h2⟩,a3,a0⟩ hd hdf hsz,(Ext.envL (st:=st) (st':={ st with T:=(c.kd G).sz::st.T }) rfl rfl).trans (Ext.put (st:={ st with T:=(c.kd G).sz::st.T })),rfl⟩;show fb (v::z.t) st.T.length=some v
     rw[←a1.2];exact jZ
    ·exact .none
   ·exact .none
  ·exact .none
 ·exact .none
theorem AV.rel_app {b:AV G}{v u:Value}{j:Nat}{m:M}{z:Cz}(h:b.Rel G P m z v):(b.tagged j=false->b.Rel G P m ⟨z.b,sb z.t j u⟩ v)/\b.er.Rel G P m ⟨z.b,sb z.t j u⟩ v:=by
 cases b with
 | dat t x o=>
  refine⟨λW=>⟨h.1,?_⟩,⟨h.1,trivial⟩⟩;cases o with
  |none=>trivial
  |some i=>
   have J:j≠i:=λe=>by subst e;simp[AV.tagged] at W
   show fb (sb z.t j u) i=some v;rw[ky J];exact h.2
 |_=>exact⟨λ_=>h,h⟩
theorem D9 {J:List (AV G)}{vs:List Value}{u:Value}{j:Nat}{m:M}{z:Cz}(h:qn G P m z J vs):(J.any (AV.tagged j)=false->qn G P m ⟨z.b,sb z.t j u⟩ J vs)/\qn G P m ⟨z.b,sb z.t j u⟩ (J.map AV.er) vs:=by
 induction J generalizing vs with
 |nil=>cases vs<;>exact⟨λ_=>h,h⟩
 | cons b J ih=>
  cases vs with
  |nil=>exact h.elim
  |cons v vs=>
   have Z:=AV.rel_app (u:=u) (j:=j) h.1;have h2:=ih h.2;refine⟨λW=>?_,⟨Z.2,h2.2⟩⟩;simp only[List.any_cons,Bool.or_eq_false_iff] at W;exact⟨Z.1 W.1,h2.1 W.2⟩
theorem tP {env:List (Nat×Nat×EV G)}{u:Value}{j c:Nat}{m:M}{z:Cz}(h:kA G P m z env a):kA G P m ⟨z.b,sb z.t j u⟩ (oT j c env) a:=by
 intro e he;obtain⟨W,h0,rfl⟩:=Zy.1 he;have J:=h W h0;split
 ·show(EV.er W.2.2).Rel G P m _ (a.tmps.getD W.1 undef)
  cases hb:W.2.2 with
  |one b=>rw[hb] at J;exact(AV.rel_app J).2
  |tup asv=>rw[hb] at J;obtain⟨vs,k1,k2⟩:=J;exact⟨vs,k1,(D9 k2).2⟩
 ·rename_i Z
  simp only[Bool.not_eq_true] at Z;cases hb:W.2.2 with
  |one b=>rw[hb] at J Z;exact(AV.rel_app J).1 Z
  |tup asv=>rw[hb] at J Z;obtain⟨vs,k1,k2⟩:=J;exact⟨vs,k1,(D9 k2).1 Z⟩
theorem Ext.er {j:Nat}:Ext st.c st { st with env:=oT j st.c st.env }:=
 ⟨λk hk e Z h=>by
  obtain⟨e0,J,rfl⟩:=Zy.1 Z;split at h
  ·simp only at h;omega
  ·rename_i ht
   rw[if_neg ht]
   exact⟨e0.2.1,h,J⟩,λk _ i s B W hs=>⟨s,hs,W⟩⟩
theorem AV.own_eq {q:AV G}{i:Nat}(h:q.own?=some i):q= .own i:=by
 cases q<;>simp[AV.own?] at h;rw[h]
theorem F1 {c:Ty}{q:AV G}{ys:List (c.den G)}{m:M}{z:Cz}{v:Value}{Lc:List (Nat×List Value)}{TL:List (Nat×Value)}(h1:LR G m st.L z.b Lc)(hS:S W0 m w (Lc++L0.l) TL){I2:TI P G t2}
  (Z:q.Rel G P m z v) (h:J7 Γ (eX st.L) c I2.T q=some ys):yl P (c.kd G) m w t2 v ys:=by
 unfold J7 at h;split at h
 ·rename_i W
  split at h
  ·rename_i s hs
   obtain⟨e,h⟩:=b8 h;injection e with e
   subst e;subst h;obtain⟨rfl,k1,_⟩:=AV.s_rel hs Z;exact Mk (TI.str W) k1
  ·cases h
 ·rename_i c0 W
  unfold N4 at h;split at h
  ·rename_i i hi
   rw[AV.own_eq hi] at Z;cases hB:eX st.L i with
   |none=>simp[hB] at h
   | some B=>
    cases B with
    |arr c' nn xs=>
     simp only[hB] at h;obtain⟨e,h⟩:=b8 h;injection e with e
     subst e;subst h;obtain⟨s,hs⟩:=iy hB;obtain⟨p',cs,j,g1,g2,g3,g4⟩:=h1.get hs;obtain⟨a0,J,rfl⟩:=Z;rw[g1] at J;injection J with J;subst J
     exact FU hS (I2.sl W).hu (kS g2) g3.1
    |_=>simp[hB] at h
  ·exact z6 hS (I2.sl W).hu (AV.as_rel h Z)
 ·cases h
theorem MA (hs:Sat G P δ n W0 L0 T0 m0 st a w)(hd:Z5 d n=true):TG G P δ n W0 L0 T0 m0 st (Ka Γ st t t2 x y d) ⟨some d,.call ⟨.builtin .append,#[x,y],#[t,t2]⟩,ty,pos,aft,g⟩ a w:=by
 obtain⟨⟨m,z,h0,hr,Z⟩,hdf,hsz⟩:=hs;have a6:=Z.len;obtain⟨Lc,Tc,h1,h2,hS,a3⟩:=Z;unfold Ka;split
 ·rename_i I I2 p q _ _ hx hy
  obtain⟨l,hE,hl⟩:=d5 hdf hsz [x,y];have a2:=hl x (by simp);have a5:=hl y (by simp);have hp:=bm (fi hr) hx;have J:=bm (fi hr) hy;split
  ·rename_i c B _
   have hN:X3 (nx yt B.by_*B.by_) 140737488355328=true:=Zd (Dl yt B.by_).1;have Z:X3 (nx yt B.by_) 281474976710656=true:=Zd (Nat.le_trans (Dl yt B.by_).2 (by decide));split
   ·rename_i ys a4
    split
    ·refine .two λzs a1=>?_
     have W:a.eval x= .slice none 0 0:=hp;rw[W] at a2;have b0:=hS.tail0 (c.kd G).sz;refine(Bm hE b0 a2 a5 B.hu B.hel (i:=0) rfl cT (F1 h1 hS J a4) a1 hN Z).imp λv w' J=>?_;obtain⟨m',h,a0,W⟩:=J;refine⟨Sat.of (z:=⟨z.b,v::z.t⟩) h0 h (hr.z h (Zle.pushT z v)) ⟨W,?_⟩ ⟨Lc,((c.kd G).sz,v)::Tc,h1.mono h,⟨rfl,h2⟩,a0,a3⟩ hd hdf hsz,(Ext.envL (st:=st) (st':={ st with T:=(c.kd G).sz::st.T }) rfl rfl).trans (Ext.put (st:={ st with T:=(c.kd G).sz::st.T })),rfl⟩;show fb (v::z.t) st.T.length=some v;rw[←a6.2];exact jZ
    ·rename_i t' b1 j
     split
     ·rename_i xs hc
      obtain⟨e,hc⟩:=b8 hc;subst e;subst hc;split
      ·rename_i hj
       refine .two λzs a1=>?_;obtain⟨i,k1,k2⟩:=h2.get hj hp.2;refine(Bm hE hS a2 a5 B.hu B.hel (kS k1) hp.1 (F1 h1 hS J a4) a1 hN Z).imp λv w' J=>?_;obtain⟨m',h,a0,W⟩:=J;rw[mf k1] at a0;have a9:=tP (u:=v) (j:=j) (c:=st.c) hr;refine⟨Sat.of (z:=⟨z.b,sb z.t j v⟩) h0 h (λe he=>(a9 e he).mono h) ⟨W,pk hp.2⟩ ⟨Lc,_,h1.mono h,k2 v,a0,a3⟩ hd hdf hsz,Ext.er.trans (Ext.put (st:={ st with env:=oT j st.c st.env })),rfl⟩
      ·exact .none
     ·exact .none
    ·exact .none
   ·exact .none
  ·exact .none
 ·exact .none
theorem Kb {x y:Operand}{l:List (Nat×Value)}{p q:AV G}{k k':IntKind}{i W:Int}{m:M}{z:Cz}(h:GT x y=true)(Z:evl l x=some (.int k i))(J:evl l y=some (.int k' W)):i=W:=by
 unfold GT at h;split at h
 ·have:=Z2 h
  subst this;rw[Z] at J;injection J with J;injection J
 ·have h:=of_decide_eq_true h
  subst h;simp only[evl,Option.some.injEq,Value.int.injEq] at Z J;omega
 ·cases h
theorem Kc (hs:Sat G P δ n W0 L0 T0 m0 st a w)(hd:Z5 d n=true):TG G P δ n W0 L0 T0 m0 st (GU Γ st t x y d) ⟨some d,.makeSlice t x y,ty,pos,aft,g⟩ a w:=by
 obtain⟨⟨m,z,h0,h,hM⟩,hdf,hsz⟩:=hs;have a1:=hM.len;obtain⟨Lc,Tc,h1,h2,hS,a0⟩:=hM;unfold GU;split
 ·rename_i I p q _ hx hy
  obtain⟨l,hE,hl⟩:=d5 hdf hsz [x,y];have Z:=hl x (by simp);have W:=hl y (by simp);have hp:=bm (fi h) hx;have J:=bm (fi h) hy;split
  ·rename_i c B k i k' i' _ e1 e2
   split
   ·rename_i a3
    refine .two λzs a2=>?_;rw[(AV.i_rel e1 hp).1] at Z;rw[(AV.i_rel e2 J).1] at W;have:=Kb (p:=p) (q:=q) (m:=m) (z:=z) a3 Z W;subst this;refine(DM (m:=m) hE hS Z W B.hu B.hi B.hiz B.hsz B.hby B.hzR a2 (Zd (Dl GQ B.by_).1) (Zd (Dl GQ B.by_).2)).imp λv w' J=>?_;obtain⟨b,cs,hg,a4⟩:=J;have hB:(BC.arr c none zs).Rel G m (b,v) cs:=⟨hg,trivial⟩
    exact⟨Sat.of h0 (Za m) (h.z (Za m) (Zle.pushB z _)) ⟨_,by rw[←a1.1];exact jZ,rfl⟩ (ga.push h1 h2 a4 a0 hB) hd hdf hsz,Ext.push_put,rfl⟩
   ·exact .none
  ·exact .none
 ·exact .none
theorem Ke (W:Sat G P δ n W0 L0 T0 m0 st a w)(hd:Z5 d n=true):TG G P δ n W0 L0 T0 m0 st (GV Γ st t x y d) ⟨some d,.call ⟨.builtin .copy,#[x,y],#[t,t2]⟩,ty,pos,aft,g⟩ a w:=by
 obtain⟨⟨m,z,h0,hr,hM⟩,hdf,hsz⟩:=W;obtain⟨Lc,Tc,h1,h2,hS,a2⟩:=hM;unfold GV;split
 ·rename_i I i q _ hx hy
  obtain⟨l,hE,hl⟩:=d5 hdf hsz [x,y];have a1:=hl x (by simp);have a5:=hl y (by simp);have hp:=bm (fi hr) hx;have hq:=bm (fi hr) hy;split
  ·rename_i c B c' nn a6 _ hB
   split
   ·rename_i xs ys e1 e2
    obtain⟨e,e1⟩:=b8 e1;injection e with e
    subst e;subst e1;obtain⟨s,W⟩:=iy hB;obtain⟨Z,cs,j,g1,g2,h,g4⟩:=h1.get W;obtain⟨a9,J,g6⟩:=hp;rw[g1] at J;injection J with J;subst J
    rw[g6] at a1;refine .one ((DO hE hS a1 a5 B.hu B.hs (kS g2) h.1 (AV.as_rel e2 hq)).imp λv w' hq=>?_);obtain⟨rfl,cs',a0,a4⟩:=hq
    have a3:(BC.arr c' nn (cpy (O:=c'.den G) _ ys)).Rel G m (Z.1,Z.2) cs':=⟨a0,by
     have:=h.2;cases nn with
     |none=>trivial
     |some k=>
      have hh:=GS.len_eq h.1 a0
      exact hh.trans this⟩
    have:=g4 (st.c,_) Z.2 cs' a3;rw[kR g1] at this;exact⟨Sat.of h0 (Za m) hr (dm (P:=P) (eE (Nat.le_trans (Nat.min_le_right _ _) (GS.len h.1)))) ⟨_,Tc,this,h2,by rw[←mf g2];exact a4,a2⟩ hd hdf hsz,Ext.setB.trans (Ext.put (st:=st.setB i _)),rfl⟩
   ·exact .none
  ·exact .none
 ·exact .none
theorem MB {o:Op}{dst:Option Nat}(h:Sat G P δ n W0 L0 T0 m0 st a w)(J:∀d,dst=some d->Z5 d n=true):TG G P δ n W0 L0 T0 m0 st (D8 Γ st o dst) ⟨dst,o,ty,pos,aft,g⟩ a w:=by
 unfold D8;split
 ·exact H7 h (J _ rfl)
 ·exact My h (J _ rfl)
 ·exact H8 h
 ·exact Mz h (J _ rfl)
 ·exact MA h (J _ rfl)
 ·exact Ke h (J _ rfl)
 ·exact Kc h (J _ rfl)
 ·exact .none
end
section
variable {G:Sg}{P:Program}
def EV.isOwn (i:Nat):EV G->Bool
 | .one (.own j)=>Zb i j
 |_=>false
def frz (st:St G)(i:Nat):St G:=
 match eX st.L i with
 |some (.arr c none xs)=>{ st with env:=st.env.map λe=>if e.2.2.isOwn i then (e.1,st.c,.one (.dat (.sl c) xs none)) else e,L:=sb st.L i (st.c,.gone) }
 |_=>st
def vD (st:St G)(x:Operand):St G:=
 match av? (st.op x) with
 |some (.own i)=>frz st i
 |_=>st
def vE:List Pm->List Operand->St G->St G
 | .rd _::ps,x::xs,st=>vE ps xs (vD st x)
 |_::ps,_::xs,st=>vE ps xs st
 |_,_,st=>st
def iI (Γ:Tab P G):(ps:List Pm)->List Operand->St G->Option (d6 G ps×St G×List (Nat×Option Nat))
 |[],[],st=>some ((),st,[])
 | .rd t::ps,x::xs,st=>(match iI Γ ps xs st with
  |some (y,st',bk)=>(match av? (st'.op x) with
   |some b=>(match b.as Γ t with|some u=>some ((u,y),st',bk)|none=>none)
   |none=>none)
  |none=>none)
 | .ap t::ps,x::xs,st=>(match iI Γ ps xs st with
  | some (y,st',bk)=>(match av? (st'.op x) with
   |some .nils=>some (([],y),st',bk)
   |some (.dat t' u (some j))=>(match dF G t' (.sl t) u with
    |some u=>if fb st'.T j=some (t.kd G).sz then some ((u,y),{ st' with env:=oT j st'.c st'.env },bk) else none
    |none=>none)
   |_=>none)
  |none=>none)
 | .pt t::ps,x::xs,st=>(match iI Γ ps xs st with
  | some (y,st',bk)=>(match av? (st'.op x) with
   |some (.blk i)=>(match eX st'.L i with
    |some (.dat c u)=>(match dF G c t u with|some u=>some ((u,y),st'.setB i .gone,(i,none)::bk)|none=>none)
    |_=>none)
   |_=>none)
  |none=>none)
 | .ow t::ps,x::xs,st=>(match iI Γ ps xs st with
  | some (y,st',bk)=>(match av? (st'.op x) with
   |some (.own i)=>(match eX st'.L i with
    |some (.arr c n u)=>(match dF G (.sl c) (.sl t) u with|some u=>some ((u,y),st'.setB i .gone,(i,n)::bk)|none=>none)
    |_=>none)
   |_=>none)
  |none=>none)
 | .f1 a b::ps,x::xs,st=>(match iI Γ ps xs st with
  |some (y,st',bk)=>(match av? (st'.op x) with
   |some (.fn1 a' b' f)=>if h:a'=a/\b'=b then some ((h.1 ▸ h.2 ▸ f,y),st',bk) else none
   |_=>none)
  |none=>none)
 | .f2 a c b::ps,x::xs,st=>(match iI Γ ps xs st with
  |some (y,st',bk)=>(match av? (st'.op x) with
   |some (.fn2 a' c' b' f)=>if h:a'=a/\c'=c/\b'=b then some ((h.1 ▸ h.2.1 ▸ h.2.2 ▸ f,y),st',bk) else none
   |_=>none)
  |none=>none)
 |_,_,_=>none
def jG (G:Sg):(ps:List Pm)->List (Nat×Option Nat)->bC G (ps.filterMap Pm.out)->St G->St G
 | .pt t::ps,(i,_)::bk,x,st=>jG G ps bk (tlT G t (ps.filterMap Pm.out) x) (st.setB i (.dat t (hdT G t (ps.filterMap Pm.out) x)))
 | .ow t::ps,(i,n)::bk,x,st=>jG G ps bk (tlT G (.sl t) (ps.filterMap Pm.out) x) (st.setB i (.arr t n (hdT G (.sl t) (ps.filterMap Pm.out) x)))
 | .rd _::ps,bk,x,st=>jG G ps bk x st
 | .ap _::ps,bk,x,st=>jG G ps bk x st
 | .f1 _ _::ps,bk,x,st=>jG G ps bk x st
 | .f2 _ _ _::ps,bk,x,st=>jG G ps bk x st
 |_,_,_,st=>st
def od (G:Sg)(os:List Ty):(rs:List Rm)->bC G (rs.map Rm.ty++os)->St G->List (AV G)×St G
 |[],_,st=>([],st)
 | .rd t::rs,x,st=>match od G os rs (tlT G t (rs.map Rm.ty++os) x) st with|(asv,st')=>(.dat t (hdT G t (rs.map Rm.ty++os) x) none::asv,st')
 | .ap t::rs,x,st=>match od G os rs (tlT G (.sl t) (rs.map Rm.ty++os) x) st with|(asv,st')=>(.dat (.sl t) (hdT G (.sl t) (rs.map Rm.ty++os) x) (some st'.T.length)::asv,{ st' with T:=(t.kd G).sz::st'.T })
 | .ow t::rs,x,st=>match od G os rs (tlT G (.sl t) (rs.map Rm.ty++os) x) st with|(asv,st')=>(.own st'.L.length::asv,st'.push (.arr t none (hdT G (.sl t) (rs.map Rm.ty++os) x)))
def evs:List (AV G)->EV G
 |[b]=> .one b
 |asv=> .tup asv
def Ah:List (CS P G)->FuncId->Option (CS P G)
 |[],_=>none
 |c::D,f=>if Zb c.f f then some c else Ah D f
def xg (C:CS P G)(st':St G)(h:List (Nat×Option Nat))(d:Option Nat)(r:bC G (gT C.ps C.rs)):St G:=
 match od G (C.ps.filterMap Pm.out) C.rs r (jG G C.ps h (rest G (C.ps.filterMap Pm.out) C.rs r) st') with
 |(asv,st2)=>match d with|some d=>st2.put d (evs asv)|none=>st2
def GW (Γ:Tab P G)(D:List (CS P G))(st:St G)(f:FuncId)(xs:List Operand)(d:Option Nat):Option (oc G):=
 match Ah D f with
 |some C=>(match iI Γ C.ps xs (vE C.ps xs st) with
  |some (x,st',bk)=>two (C.g x) (xg C st' bk d)
  |none=>none)
 |none=>none
def GX (Γ:Tab P G)(st:St G)(x:Operand)(xs:List Operand)(d:Nat):Option (oc G):=
 match av? (st.op x),xs with
 |some (.fn1 a b f),[y]=>(match av? (st.op y) with
  |some p=>(match p.as Γ a with|some u=>two (f u) λr=>st.put d (.one (.dat b r none))|none=>none)
  |none=>none)
 |some (.fn2 a c b f),[y,y']=>(match av? (st.op y),av? (st.op y') with
  |some p,some p'=>(match p.as Γ a,p'.as Γ c with|some u,some u'=>two (f u u') λr=>st.put d (.one (.dat b r none))|_,_=>none)
  |_,_=>none)
 |_,_=>none
end
section
variable {G:Sg}{P:Program}{δ:List Nat}{n:Nat}{W0:Bse}{L0:Rs}{T0:List (Nat×Value)}{m0:M}{st:St G}{a:Act}{w:World}{Γ:Tab P G}{ty t t2:TypeId}{pos:String}{aft:Array Edge}{g:Option (Nat×Bool)}
theorem u4 {O:Type}{A B C:List O}{j:Nat}{x y:O}(h:B[j]? =some y):(A++(B++C)).set (A.length+j) x=A++(B.set j x++C):=by
 rw[Zz _ _ (by omega),Zk,mf h]
theorem u5 {O:Type}{A B C:List O}{j:Nat}{y:O}(h:B[j]? =some y):(A++(B++C))[A.length+j]? =some y:=by
 rw[Z1 (by omega),Zk];exact kS h
structure MF (G:Sg)(P:Program)(W0:Bse)(L0:Rs)(T0:List (Nat×Value))(a:Act)(w:World)(m:M)(z:Cz)(st:St G)(Lp:List (Nat×List Value))(Tp:List (Nat×Value)):Prop where
 env:kA G P m z st.env a
 mem:∃Lc Tc,LR G m st.L z.b Lc/\TRl st.T z.t Tc/\S W0 m w (Lp++(Lc++L0.l)) (Tp++(Tc++T0))/\Sfx z.b L0.nm
theorem Kf {m m':M}{z:Cz}{i:Nat}{c:Ty}{xs:List (c.den G)}{p:Nat×Value}{env:List (Nat×Nat×EV G)}{s:Nat}(hz:fb z.b i=some p)(hm:M.le m m')(hv:RV (kSl (c.kd G)) m' p.2 xs)(h:kA G P m z env a):
  kA G P m' z (env.map λe=>if e.2.2.isOwn i then (e.1,s,.one (.dat (.sl c) xs none)) else e) a:=by
 intro e he;obtain⟨Z,h0,rfl⟩:=Zy.1 he;have hr:=h Z h0;split
 ·rename_i J
  show(RV (kSl (c.kd G)) m' (a.tmps.getD Z.1 undef) xs)/\True;cases hb:Z.2.2 with
  |tup asv=>rw[hb] at J;simp[EV.isOwn] at J
  |one b=>
   rw[hb] at J hr;cases b<;>simp[EV.isOwn] at J;subst J;obtain⟨p',W,h2⟩:=hr;rw[hz] at W;injection W with W;subst W
   rw[h2];exact⟨hv,trivial⟩
 ·exact hr.mono hm
theorem N5 {m:M}{z:Cz}{i:Nat}(h:MF G P W0 L0 T0 a w m z st [] []):∃m',M.le m m'/\MF G P W0 L0 T0 a w m' z (frz st i) [] []/\Ext st.c st (frz st i)/\(frz st i).c=st.c:=by
 unfold frz;split
 ·rename_i c xs hB
  obtain⟨hr,Lc,Tc,J,h2,hS,a1⟩:=h;obtain⟨s,Z⟩:=iy hB;obtain⟨p',cs,j,g1,g2,g3,g4⟩:=J.get Z;have a3:S W0 m w (Lc++L0.l) (Tc++T0):=hS;have a0:=S.takeL a3 (kS g2);rw[mf g2] at a0;obtain⟨m',W,a2,hv⟩:=S.freeze a0 g3.1;refine⟨m',W,⟨Kf g1 W hv hr,_,Tc,?_,h2,a2,a1⟩,?_,rfl⟩
  ·have:=(g4 (st.c,BC.gone) p'.2 [] rfl).mono W
   rw[kR g1] at this;exact this
  ·refine⟨λk hk e he hl=>?_,λk hk i s B hb Z=>?_⟩
   ·obtain⟨e0,h0,rfl⟩:=Zy.1 he
    split at hl
    ·simp only at hl;omega
    ·rename_i ho
     rw[if_neg ho];exact⟨e0.2.1,hl,h0⟩
   ·rcases LD hb with⟨_,J⟩|⟨_,h⟩
    ·injection J with J _;omega
    ·exact⟨s,Z,h⟩
 ·exact⟨m,Za m,h,Ext.refl _ _,rfl⟩
theorem F2 {m:M}{z:Cz}{x:Operand}(h:MF G P W0 L0 T0 a w m z st [] []):∃m',M.le m m'/\MF G P W0 L0 T0 a w m' z (vD st x) [] []/\Ext st.c st (vD st x)/\(vD st x).c=st.c:=by
 unfold vD;split
 ·exact N5 h
 ·exact⟨m,Za m,h,Ext.refl _ _,rfl⟩
theorem zo {m:M}{z:Cz}:∀{ps:List Pm} {xs:List Operand} {st:St G} {m:M},MF G P W0 L0 T0 a w m z st [] []->∃m',M.le m m'/\MF G P W0 L0 T0 a w m' z (vE ps xs st) [] []/\Ext st.c st (vE ps xs st)/\(vE ps xs st).c=st.c:=by
 intro ps
 induction ps with
 |nil=>intro xs st m h;cases xs<;>exact⟨m,Za m,h,Ext.refl _ _,rfl⟩
 | cons p ps ih=>
  intro xs st m h;cases xs with
  |nil=>cases p<;>exact⟨m,Za m,h,Ext.refl _ _,rfl⟩
  | cons x xs=>
   cases p with
   |rd t=>
    obtain⟨m1,h1,h2,h3,h4⟩:=F2 (x:=x) h;obtain⟨Z,k1,k2,W,J⟩:=ih (xs:=xs) h2;rw[h4] at W J;exact⟨Z,h1.trans k1,k2,h3.trans W,J⟩
   |_=>exact ih h
def BK (G:Sg)(z:Cz)(Ls:List (Nat×BC G)):List Pm->List (Nat×Option Nat)->List Value->List (Nat×List Value)->Prop
 |[],[],_,[]=>True
 | .pt t::ps,(i,_)::bk,v::vs,e::Lp=>(∃sv s,fb z.b i=some (e.1,sv)/\fb Ls i=some (s,.gone))/\(∀q∈bk,q.1≠i)/\BK G z Ls ps bk vs Lp
 | .ow t::ps,(i,n)::bk,v::vs,e::Lp=>(∃s,fb z.b i=some (e.1,v)/\fb Ls i=some (s,.gone))/\(∀q∈bk,q.1≠i)/\(∃m cs,∃xs:List (t.den G),GS (t.kd G) m e.1 cs v xs/\(match n with|none=>True|some k=>xs.length=k))/\BK G z Ls ps bk vs Lp
 | .rd _::ps,bk,_::vs,Lp=>BK G z Ls ps bk vs Lp
 | .ap _::ps,bk,_::vs,Lp=>BK G z Ls ps bk vs Lp
 | .f1 _ _::ps,bk,_::vs,Lp=>BK G z Ls ps bk vs Lp
 | .f2 _ _ _::ps,bk,_::vs,Lp=>BK G z Ls ps bk vs Lp
 |_,_,_,_=>False
theorem BK.gone {z:Cz}{Ls:List (Nat×BC G)}:∀{ps:List Pm} {W:List (Nat×Option Nat)} {vs:List Value} {Lp:List (Nat×List Value)},BK G z Ls ps W vs Lp->∀q∈W,∃s,fb Ls q.1=some (s,.gone):=by
 intro ps
 induction ps with
 |nil=>intro W vs Lp h q J;cases W with|nil=>cases J|cons b W=>exact h.elim
 | cons p ps ih=>
  intro W vs Lp h q J;cases p with
  | pt t=>
   cases W with
   |nil=>cases J
   | cons b W=>
    cases vs with
    |nil=>exact h.elim
    | cons v vs=>
     cases Lp with
     |nil=>exact h.elim
     |cons e Lp=>
      obtain⟨⟨sv,s,_,Z⟩,_,h2⟩:=h;rcases Z8.1 J with rfl|J
      ·exact⟨s,Z⟩
      ·exact ih h2 q J
  | ow t=>
   cases W with
   |nil=>cases J
   | cons b W=>
    cases vs with
    |nil=>exact h.elim
    | cons v vs=>
     cases Lp with
     |nil=>exact h.elim
     |cons e Lp=>
      obtain⟨⟨s,_,Z⟩,_,_,h2⟩:=h;rcases Z8.1 J with rfl|J
      ·exact⟨s,Z⟩
      ·exact ih h2 q J
  |_=>
   cases vs with
   |nil=>cases W<;>exact h.elim
   |cons v vs=>exact ih h q J
theorem BK.other {z:Cz}{Ls:List (Nat×BC G)}{i:Nat}{B:Nat×BC G}:∀{ps:List Pm} {J:List (Nat×Option Nat)} {vs:List Value} {Lp:List (Nat×List Value)},BK G z Ls ps J vs Lp->(∀q∈J,q.1≠i)->BK G z (sb Ls i B) ps J vs Lp:=by
 intro ps
 induction ps with
 |nil=>intro J vs Lp h _;cases J<;>cases Lp<;>first|exact h|exact h.elim
 | cons p ps ih=>
  intro J vs Lp h W;cases p with
  | pt t=>
   cases J with
   |nil=>cases vs<;>cases Lp<;>exact h.elim
   | cons b J=>
    cases vs with
    |nil=>exact h.elim
    | cons v vs=>
     cases Lp with
     |nil=>exact h.elim
     |cons e Lp=>
      obtain⟨⟨sv,s,Z,h1⟩,h2,h3⟩:=h;exact⟨⟨sv,s,Z,by rw[ky (λx=>W b (by simp) x.symm)];exact h1⟩,h2,ih h3 λq hq=>W q (by simp[hq])⟩
  | ow t=>
   cases J with
   |nil=>cases vs<;>cases Lp<;>exact h.elim
   | cons b J=>
    cases vs with
    |nil=>exact h.elim
    | cons v vs=>
     cases Lp with
     |nil=>exact h.elim
     |cons e Lp=>
      obtain⟨⟨s,Z,h1⟩,h2,h4,h3⟩:=h;exact⟨⟨s,Z,by rw[ky (λx=>W b (by simp) x.symm)];exact h1⟩,h2,h4,ih h3 λq hq=>W q (by simp[hq])⟩
  |_=>
   cases vs with
   |nil=>cases J<;>exact h.elim
   |cons v vs=>exact ih h W
theorem zp {m:M} {z:Cz} (h:MF G P W0 L0 T0 a w m z st [] []):∀{ps:List Pm} {xs:List Operand} {y:d6 G ps} {st':St G} {bk:List (Nat×Option Nat)},iI Γ ps xs st=some (y,st',bk)->
  ∃z' Lp Tp,z'.b=z.b/\MF G P W0 L0 T0 a w m z' st' Lp Tp/\lu G P m ps (xs.map a.eval) y Lp Tp/\BK G z' st'.L ps bk (xs.map a.eval) Lp/\Ext st.c st st'/\st'.c=st.c:=by
 intro ps
 induction ps with
 | nil=>
  intro xs y st' bk J;cases xs with
  |cons x xs=>simp[iI] at J
  |nil=>
   simp only[iI,Option.some.injEq,Prod.mk.injEq] at J;obtain⟨_,rfl,rfl⟩:=J;exact⟨z,[],[],rfl,h,trivial,trivial,Ext.refl _ _,rfl⟩
 | cons p ps ih=>
  intro xs y st' bk J;cases xs with
  |nil=>cases p<;>simp[iI] at J
  | cons x xs=>
   cases hr:iI Γ ps xs st with
   |none=>cases p<;>simp[iI,hr] at J
   | some q =>
    obtain⟨y1,a0,a6⟩:=q;obtain⟨z1,Lp,Tp,hz,hM,hP,hK,hx,hc⟩:=ih hr;obtain⟨hE,Lc,Tc,h1,h2,hS,a2⟩:=hM;have a3:∀b,av? (a0.op x)=some b->b.Rel G P m z1 (a.eval x):=λb W=>bm (fi hE) W;cases p with
    | rd t=>
     simp only[iI,hr] at J;split at J
     ·rename_i b W
      split at J
      ·rename_i u Z
       simp only[Option.some.injEq,Prod.mk.injEq] at J;obtain⟨rfl,rfl,rfl⟩:=J;exact⟨z1,Lp,Tp,hz,⟨hE,Lc,Tc,h1,h2,hS,a2⟩,⟨AV.as_rel Z (a3 b W),hP⟩,hK,hx,hc⟩
      ·cases J
     ·cases J
    | ap t =>
     simp only[iI,hr] at J;split at J
     ·rename_i W
      simp only[Option.some.injEq,Prod.mk.injEq] at J;obtain⟨rfl,rfl,rfl⟩:=J;have hv:a.eval x= .slice none 0 0:=a3 _ W;refine⟨z1,Lp,((t.kd G).sz,.slice none 0 0)::Tp,hz,⟨hE,Lc,Tc,h1,h2,hS.tail0 _,a2⟩,?_,hK,hx,hc⟩;show RV _ m (a.eval x) _/\_/\_;rw[hv];exact⟨cT,rfl,hP⟩
     ·rename_i t' u j W
      split at J
      ·rename_i u' Z
       obtain⟨e,Z⟩:=b8 Z;subst e;subst Z;split at J
       ·rename_i hj
        simp only[Option.some.injEq,Prod.mk.injEq] at J;obtain⟨rfl,rfl,rfl⟩:=J;have hv:=a3 _ W;obtain⟨i,k1,k2⟩:=h2.get hj hv.2;have a1:=S.takeT hS (u5 k1);rw[u4 k1] at a1;refine⟨⟨z1.b,sb z1.t j (.slice none 0 0)⟩,Lp,((t.kd G).sz,a.eval x)::Tp,hz,⟨tP hE,Lc,_,h1,k2 _,a1,a2⟩,⟨hv.1,rfl,hP⟩,?_,hx.trans ?_,hc⟩
        ·show BK G _ a0.L ps _ _ Lp
         clear hP hr;revert hK
         have:∀{ps:List Pm} {bk:List (Nat×Option Nat)} {vs:List Value} {Lp:List (Nat×List Value)},BK G z1 a0.L ps bk vs Lp->BK G ⟨z1.b,sb z1.t j (.slice none 0 0)⟩ a0.L ps bk vs Lp:=by
          intro ps
          induction ps with
          |nil=>intro bk vs Lp h;cases bk<;>cases Lp<;>first|exact h|exact h.elim
          | cons p ps ih=>
           intro bk vs Lp h;cases p with
           |pt t=>
            cases bk<;>cases vs<;>cases Lp<;>first|exact h.elim|exact⟨h.1,h.2.1,ih h.2.2⟩
           |ow t=>
            cases bk<;>cases vs<;>cases Lp<;>first|exact h.elim|exact⟨h.1,h.2.1,h.2.2.1,ih h.2.2.2⟩
           |_=>
            cases vs with
            |nil=>cases bk<;>exact h.elim
            |cons v vs=>exact ih h
         exact this
        ·have:=Ext.er (st:=a0) (j:=j)
         rw[hc] at this ⊢;exact this
       ·cases J
      ·cases J
     ·cases J
    | pt t=>
     simp only[iI,hr] at J;split at J
     ·rename_i i W
      split at J
      ·rename_i c u hB
       split at J
       ·rename_i u' Z
        obtain⟨e,Z⟩:=b8 Z;subst e;subst Z;simp only[Option.some.injEq,Prod.mk.injEq] at J;obtain⟨rfl,rfl,rfl⟩:=J;obtain⟨p,g5,g6⟩:=a3 _ W;obtain⟨s,hs⟩:=iy hB;obtain⟨p',cs,j,g1,g2,g3,g4⟩:=h1.get hs;rw[g1] at g5;injection g5 with g5;subst g5
        have a1:=S.takeL hS (u5 g2);rw[u4 g2] at a1;have hL:=g4 (a0.c,BC.gone) p'.2 [] rfl;rw[kR g1] at hL
        have a4:∀q∈a6,q.1≠i:=λq hq e=>by
         obtain⟨s',hg⟩:=hK.gone q hq;rw[e,hs] at hg;injection hg with hg;injection hg with _ hg;cases hg
        refine⟨z1,(p'.1,cs)::Lp,Tp,hz,⟨hE,_,Tc,hL,h2,a1,a2⟩,⟨g3,g6,hP⟩,⟨⟨p'.2,a0.c,g1,pk hs⟩,a4,hK.other a4⟩,hx.trans ?_,hc⟩;have:=Ext.setB (st:=a0) (i:=i) (B:= .gone);rw[hc] at this;exact this
       ·cases J
      ·cases J
     ·cases J
    | ow t=>
     simp only[iI,hr] at J;split at J
     ·rename_i i W
      split at J
      ·rename_i c nn u hB
       split at J
       ·rename_i u' Z
        obtain⟨e,Z⟩:=b8 Z;injection e with e
        subst e;subst Z;simp only[Option.some.injEq,Prod.mk.injEq] at J;obtain⟨rfl,rfl,rfl⟩:=J;obtain⟨p,g5,g6⟩:=a3 _ W;obtain⟨s,hs⟩:=iy hB;obtain⟨p',cs,j,g1,g2,g3,g4⟩:=h1.get hs;rw[g1] at g5;injection g5 with g5;subst g5
        have a1:=S.takeL hS (u5 g2);rw[u4 g2] at a1;have hL:=g4 (a0.c,BC.gone) p'.2 [] rfl;rw[kR g1] at hL
        have a4:∀q∈a6,q.1≠i:=λq hq e=>by
         obtain⟨s',hg⟩:=hK.gone q hq;rw[e,hs] at hg;injection hg with hg;injection hg with _ hg;cases hg
        have a5:=g3.1;rw[←g6] at a5;refine⟨z1,(p'.1,cs)::Lp,Tp,hz,⟨hE,_,Tc,hL,h2,a1,a2⟩,⟨a5,hP⟩,⟨⟨a0.c,by rw[g1,g6],pk hs⟩,a4,⟨m,cs,_,a5,g3.2⟩,hK.other a4⟩,hx.trans ?_,hc⟩;have:=Ext.setB (st:=a0) (i:=i) (B:= .gone);rw[hc] at this;exact this
       ·cases J
      ·cases J
     ·cases J
    | f1 b c=>
     simp only[iI,hr] at J;split at J
     ·rename_i a' b' f W
      split at J
      ·rename_i hh
       obtain⟨rfl,rfl⟩:=hh;simp only[Option.some.injEq,Prod.mk.injEq] at J;obtain⟨rfl,rfl,rfl⟩:=J;exact⟨z1,Lp,Tp,hz,⟨hE,Lc,Tc,h1,h2,hS,a2⟩,⟨a3 _ W,hP⟩,hK,hx,hc⟩
      ·cases J
     ·cases J
    | f2 b c d=>
     simp only[iI,hr] at J;split at J
     ·rename_i a' c' b' f W
      split at J
      ·rename_i hh
       obtain⟨rfl,rfl,rfl⟩:=hh;simp only[Option.some.injEq,Prod.mk.injEq] at J;obtain⟨rfl,rfl,rfl⟩:=J;exact⟨z1,Lp,Tp,hz,⟨hE,Lc,Tc,h1,h2,hS,a2⟩,⟨a3 _ W,hP⟩,hK,hx,hc⟩
      ·cases J
     ·cases J
end
section
variable {G:Sg}{P:Program}{δ:List Nat}{n:Nat}{W0:Bse}{L0:Rs}{T0:List (Nat×Value)}{m0:M}{st:St G}{a:Act}{w:World}{Γ:Tab P G}{ty t t2:TypeId}{pos:String}{aft:Array Edge}{g:Option (Nat×Bool)}
theorem MC {L0:List (Nat×List Value)} {m:M} {z:Cz} {TL:List (Nat×Value)}:∀{ps:List Pm} {J:List (Nat×Option Nat)} {vs:List Value} {Lp Lp' Lc:List (Nat×List Value)} {x:bC G (ps.filterMap Pm.out)} {st:St G},BK G z st.L ps J vs Lp->iO G m ps vs x Lp Lp'->LR G m st.L z.b Lc->S W0 m w (Lp'++(Lc++L0)) TL->
  ∃a0,LR G m (jG G ps J x st).L z.b a0/\S W0 m w (a0++L0) TL/\(jG G ps J x st).env=st.env/\(jG G ps J x st).T=st.T/\(jG G ps J x st).c=st.c/\Ext st.c st (jG G ps J x st):=by
 intro ps
 induction ps with
 |nil=>
  intro J vs Lp Lp' Lc x st h W hL hS;cases J<;>cases Lp<;>cases Lp'<;>first|exact h.elim|exact W.elim|exact⟨Lc,hL,hS,rfl,rfl,rfl,Ext.refl _ _⟩
 | cons p ps ih=>
  intro J vs Lp Lp' Lc x st h W hL hS;cases p with
  | pt t=>
   cases J with
   |nil=>cases vs<;>cases Lp<;>exact h.elim
   | cons b J=>
    cases vs with
    |nil=>exact h.elim
    | cons v vs=>
     cases Lp with
     |nil=>exact h.elim
     | cons e Lp=>
      cases Lp' with
      |nil=>exact W.elim
      |cons e' Lp'=>
       obtain⟨⟨sv,s,k1,k2⟩,hne,h⟩:=h;obtain⟨o1,o2,W⟩:=W;obtain⟨p',cs,j,Z,g2,g3,g4⟩:=hL.get k2;rw[k1] at Z;injection Z with Z;subst Z
       have a4:cs=[]:=g3;subst a4;have hB:(BC.dat t (hdT G t (ps.filterMap Pm.out) x)).Rel G m (e.1,sv) e'.2:=o2;have a2:=g4 (st.c,_) sv e'.2 hB;rw[kR k1] at a2;have a3:S W0 m w (e'::(Lp'++(Lc++L0))) TL:=hS;have a1:=S.putL a3 (u5 g2);rw[u4 g2,show e'=(e.1,e'.2) from by rw[←o1]] at a1;obtain⟨a0,r1,r2,r3,r4,r5,r6⟩:=ih (st:=st.setB b.1 (.dat t (hdT G t (ps.filterMap Pm.out) x))) (h.other hne) W a2 a1;exact⟨a0,r1,r2,r3,r4,r5,Ext.setB.trans r6⟩
  | ow t=>
   cases J with
   |nil=>cases vs<;>cases Lp<;>exact h.elim
   | cons b J=>
    cases vs with
    |nil=>exact h.elim
    | cons v vs=>
     cases Lp with
     |nil=>exact h.elim
     | cons e Lp=>
      cases Lp' with
      |nil=>exact W.elim
      | cons e' Lp'=>
       obtain⟨⟨s,k1,k2⟩,hne,⟨mm,a5,xs,k3,k4⟩,h⟩:=h;obtain⟨o1,o2,W⟩:=W;obtain⟨p',cs,j,Z,g2,g3,g4⟩:=hL.get k2;rw[k1] at Z;injection Z with Z;subst Z
       have a4:cs=[]:=g3;subst a4;rw[o1] at o2
       have hB:(BC.arr t b.2 (hdT G (.sl t) (ps.filterMap Pm.out) x)).Rel G m (e.1,v) e'.2:=⟨o2,by
        revert k4;cases b.2 with
        |none=>intro _;trivial
        |some k=>intro k4;exact(GS.len_eq k3 o2).trans k4⟩
       have a2:=g4 (st.c,_) v e'.2 hB;rw[kR k1] at a2;have a3:S W0 m w (e'::(Lp'++(Lc++L0))) TL:=hS;have a1:=S.putL a3 (u5 g2);rw[u4 g2,show e'=(e.1,e'.2) from by rw[←o1]] at a1;obtain⟨a0,r1,r2,r3,r4,r5,r6⟩:=ih (st:=st.setB b.1 (.arr t b.2 (hdT G (.sl t) (ps.filterMap Pm.out) x))) (h.other hne) W a2 a1;exact⟨a0,r1,r2,r3,r4,r5,Ext.setB.trans r6⟩
  |_=>
   cases vs with
   |nil=>cases J<;>exact h.elim
   |cons v vs=>exact ih h W hL hS
theorem Zle.trans {J z2 W:Cz}(h:Zle J z2)(k:Zle z2 W):Zle J W:=⟨λi p hp=>k.b i p (h.b i p hp),λj v Z=>k.t j v (h.t j v Z)⟩
theorem qn.z {m:M}{z z':Cz}{J:List (AV G)}{vs:List Value}(h:qn G P m z J vs)(W:Zle z z'):qn G P m z' J vs:=by
 induction J generalizing vs with
 |nil=>cases vs<;>exact h
 |cons b J ih=>
  cases vs with
  |nil=>exact h
  |cons v vs=>exact⟨h.1.z W,ih h.2⟩
theorem N6 {os:List Ty}{m:M}:∀{rs:List Rm} {us:List Value} {x:bC G (rs.map Rm.ty++os)} {Lr:List (Nat×List Value)} {Tr:List (Nat×Value)} {st:St G} {z:Cz} {Lc:List (Nat×List Value)} {Tc:List (Nat×Value)},oa G m os rs us x Lr Tr->LR G m st.L z.b Lc->TRl st.T z.t Tc->
  ∃z',Zle z z'/\LR G m (od G os rs x st).2.L z'.b (Lr++Lc)/\TRl (od G os rs x st).2.T z'.t (Tr++Tc)/\qn G P m z' (od G os rs x st).1 us/\(od G os rs x st).2.env=st.env/\(od G os rs x st).2.c=st.c/\Ext st.c st (od G os rs x st).2/\∀{s:List (Nat×Value)},Sfx z.b s->Sfx z'.b s:=by
 intro rs
 induction rs with
 |nil=>
  intro us x Lr Tr st z Lc Tc h h1 h2;cases us<;>cases Lr<;>cases Tr<;>first|exact h.elim|exact⟨z,Zle.refl z,h1,h2,trivial,rfl,rfl,Ext.refl _ _,λh=>h⟩
 | cons r rs ih=>
  intro us x Lr Tr st z Lc Tc h h1 h2;cases us with
  |nil=>cases r<;>exact h.elim
  | cons u us=>
   cases r with
   |rd t=>
    obtain⟨k1,k2⟩:=h;obtain⟨z',r1,Z,r3,r4,r5,W,J,r8⟩:=ih k2 h1 h2;exact⟨z',r1,Z,r3,⟨⟨k1,trivial⟩,r4⟩,r5,W,J,r8⟩
   | ap t=>
    cases Tr with
    |nil=>exact h.elim
    | cons e Tr=>
     obtain⟨k1,rfl,k2⟩:=h;obtain⟨z',r1,Z,r3,r4,r5,W,J,r8⟩:=ih k2 h1 h2;have hz:=Zle.pushT z' u;refine⟨⟨z'.b,u::z'.t⟩,r1.trans hz,Z,⟨rfl,r3⟩,⟨⟨k1,?_⟩,r4.z hz⟩,r5,W,?_,r8⟩
     ·show fb (u::z'.t) _=some u
      rw[←r3.len.1];exact jZ
     ·rw[←W] at J ⊢
      exact J.trans (Ext.envL (st:=(od G os rs _ st).2) rfl rfl)
   | ow t=>
    cases Lr with
    |nil=>exact h.elim
    | cons e Lr=>
     obtain⟨k1,k2⟩:=h;obtain⟨z',r1,Z,r3,r4,r5,W,J,r8⟩:=ih k2 h1 h2;have hz:=Zle.pushB z' (e.1,u);refine⟨⟨(e.1,u)::z'.b,z'.t⟩,r1.trans hz,⟨rfl,⟨k1,trivial⟩,Z⟩,r3,⟨⟨(e.1,u),?_,rfl⟩,r4.z hz⟩,r5,W,?_,λh=>(r8 h).cons⟩
     ·rw[←Z.len.1];exact jZ
     ·rw[←W] at J ⊢
      exact J.trans Ext.push
theorem F3 {m:M}{z:Cz}{J:List (AV G)}{us:List Value}(h:qn G P m z J us):(evs J).Rel G P m z (tup us):=by
 match J,us,h with
 |[],[],_=>exact⟨[],rfl,trivial⟩
 |[b],[u],h=>exact h.1
 |b::b'::J,u::u'::us,h=>exact⟨_,rfl,h⟩
 |[b],[],h=>exact h.elim
 |[b],_::_::_,h=>exact h.2.elim
 |[],_::_,h=>exact h.elim
 |_::_::_,[],h=>exact h.elim
 |_::_::_,[_],h=>exact h.2.elim
theorem F4 {D:List (CS P G)}{f:FuncId}{C:CS P G}(h:Ah D f=some C):C.f=f:=by
 induction D with
 |nil=>cases h
 | cons c D ih=>
  simp only[Ah] at h;split at h
  ·rename_i J
   injection h with h;subst h
   exact Z2 J
  ·exact ih h
theorem vF {l:List (Nat×Value)}{a:Act}{xs:List Operand}(h:∀x∈xs,evl l x=some (a.eval x)):ur l xs.toArray=some (xs.map a.eval):=by
 unfold ur;simp only
 induction xs with
 |nil=>rfl
 |cons x xs ih=>simp[h x (by simp),ih λy J=>h y (by simp[J])]
theorem Kg {D:List (CS P G)}{f:FuncId}{xs:List Operand}{a5:Array TypeId}{d:Option Nat}(hs:Sat G P δ n W0 L0 T0 m0 st a w)(hd:∀e,d=some e->Z5 e n=true):
  TG G P δ n W0 L0 T0 m0 st (GW Γ D st f xs d) ⟨d,.call ⟨.value (.func f),xs.toArray,a5⟩,ty,pos,aft,g⟩ a w:=by
 obtain⟨⟨m,z,h0,hr,hM⟩,hdf,hsz⟩:=hs;obtain⟨Lc,Tc,h1,h2,hS,b5⟩:=hM;unfold GW;split
 ·rename_i C hC
  have hf:=F4 hC;subst hf;obtain⟨m1,a9,hF,b7,b2⟩:=zo (G:=G) (P:=P) (L0:=L0) (T0:=T0) (ps:=C.ps) (xs:=xs) (st:=st) (m:=m) (z:=z) ⟨hr,Lc,Tc,h1,h2,hS,b5⟩;split
  ·rename_i y st' W h
   obtain⟨z',Lp,Tp,hz,c5,hP,hK,hx,hc⟩:=zp hF h;obtain⟨b4,J,a1,k1,k2,c3,c4⟩:=c5;refine .two λr c0=>?_;have c2:=C.ok W0 m1 w (J++L0.l) (a1++T0) (xs.map a.eval) y r Lp Tp c3 hP c0;obtain⟨l,hE,hl⟩:=d5 hdf hsz xs
   have c1:∀v w',(∃(m':M) (us:List Value) (Lr Lp':List (Nat×List Value)) (Tr:List (Nat×Value)),M.le m1 m'/\S W0 m' w' (Lr++(Lp'++(J++L0.l))) (Tr++(a1++T0))/\v=tup us/\oa G m' (C.ps.filterMap Pm.out) C.rs us r Lr Tr/\iO G m' C.ps (xs.map a.eval) (rest G (C.ps.filterMap Pm.out) C.rs r) Lp Lp')->
     Sat G P δ n W0 L0 T0 m0 (xg C st' W d r) (a.put d v) w'/\Ext st.c st (xg C st' W d r)/\(xg C st' W d r).c=st.c:=by
    rintro v w' ⟨m',us,Lr,Lp',Tr,a2,b3,rfl,hR,hO⟩
    have d0:S W0 m' w' (Lp'++(J++(L0.l))) (Tr++(a1++T0)):=by
     have:=b3.dropL Lr.length;rw[List.drop_left] at this;exact this
    have c6:S W0 m' w' (Lp'++(J++(L0.l++Lr))) (Tr++(a1++T0)):=by
     refine b3.selL _ (λi=>if i<Lp'.length+J.length+L0.l.length then Lr.length+i else if i<Lp'.length+J.length+L0.l.length+Lr.length then i - (Lp'.length+J.length+L0.l.length) else i) (λi e h=>?_) (λi j Z=>?_)
     ·by_cases hi:i<Lp'.length+J.length+L0.l.length
      ·rw[if_pos hi,Z1 (by omega),Zk]
       rw[show Lp'++(J++(L0.l++Lr))=(Lp'++(J++L0.l))++Lr by simp,Z4 (by simp;omega)] at h;exact h
      ·rw[if_neg hi]
       rw[show Lp'++(J++(L0.l++Lr))=(Lp'++(J++L0.l))++Lr by simp,Z1 (by simp;omega)] at h;simp only[Zp] at h;have b1:i - (Lp'.length+(J.length+L0.l.length))<Lr.length:=(Z0.1 h).1;rw[if_pos (by omega),Z4 (by omega),←Nat.add_assoc] at*;exact h
     ·split at Z<;>split at Z<;>(try split at Z)<;>(try split at Z)<;>omega
    obtain⟨a0,q1,q2,q3,q4,q5,q6⟩:=MC (L0:=L0.l++Lr) hK hO (k1.mono a2) c6;have c7:TRl (jG G C.ps W (rest G (C.ps.filterMap Pm.out) C.rs r) st').T z'.t a1:=by rw[q4];exact k2
    obtain⟨z2,p1,p2,p3,p4,p5,p6,p7,p8⟩:=N6 (P:=P) hR q1 c7
    have b6:S W0 m' w' ((Lr++a0)++L0.l) ((Tr++a1)++T0):=by
     rw[Z6 Tr];refine q2.selL _ (λi=>if i<Lr.length then a0.length+L0.l.length+i else if i<Lr.length+a0.length+L0.l.length then i - Lr.length else i) (λi e h=>?_) (λi j Z=>?_)
     ·by_cases hi:i<Lr.length
      ·rw[if_pos hi]
       rw[Z6,Z4 hi] at h;rw[show a0++(L0.l++Lr)=(a0++L0.l)++Lr by simp,Z1 (by simp),Zp,Zk];exact h
      ·rw[if_neg hi]
       rw[Z6,Z1 (by omega)] at h;have b1:i - Lr.length<(a0++L0.l).length:=(Z0.1 h).1;simp only[Zp] at b1;rw[if_pos (by omega),show a0++(L0.l++Lr)=(a0++L0.l)++Lr by simp,Z4 (by simp;omega)];exact h
     ·split at Z<;>split at Z<;>(try split at Z)<;>(try split at Z)<;>omega
    have a6:kA G P m' z2 (od G (C.ps.filterMap Pm.out) C.rs r (jG G C.ps W (rest G (C.ps.filterMap Pm.out) C.rs r) st')).2.env a:=by
     rw[p5,q3];exact b4.z a2 p1
    have hX:Ext st.c st (od G (C.ps.filterMap Pm.out) C.rs r (jG G C.ps W (rest G (C.ps.filterMap Pm.out) C.rs r) st')).2:=by
     rw[b2] at hx hc;rw[hc] at q5 q6;rw[q5] at p7;exact b7.trans (hx.trans (q6.trans p7))
    have a4:(od G (C.ps.filterMap Pm.out) C.rs r (jG G C.ps W (rest G (C.ps.filterMap Pm.out) C.rs r) st')).2.c=st.c:=by rw[p6,q5,hc,b2]
    have b0:ga G W0 L0 T0 (od G (C.ps.filterMap Pm.out) C.rs r (jG G C.ps W (rest G (C.ps.filterMap Pm.out) C.rs r) st')).2.L (od G (C.ps.filterMap Pm.out) C.rs r (jG G C.ps W (rest G (C.ps.filterMap Pm.out) C.rs r) st')).2.T m' z2 w':=⟨_,_,p2,p3,b6,p8 c4⟩
    unfold xg;cases d with
    |none=>exact⟨Sat.of0 h0 (a9.trans a2) a6 b0 hdf hsz,hX,a4⟩
    |some d=>
     refine⟨Sat.of h0 (a9.trans a2) a6 (F3 p4) b0 (hd d rfl) hdf hsz,hX.trans ?_,a4⟩;rw[←a4];exact Ext.put
   have a3:be P ⟨d,.call ⟨.value (.func C.f),xs.toArray,a5⟩,ty,pos,aft,g⟩ a w (λv w'=>∃(m':M) (us:List Value) (Lr Lp':List (Nat×List Value)) (Tr:List (Nat×Value)),M.le m1 m'/\S W0 m' w' (Lr++(Lp'++(J++L0.l))) (Tr++(a1++T0))/\v=tup us/\oa G m' (C.ps.filterMap Pm.out) C.rs us r Lr Tr/\iO G m' C.ps (xs.map a.eval) (rest G (C.ps.filterMap Pm.out) C.rs r) Lp Lp'):=by
    intro ro Kk Q hk
    have a3:(execOp a.eval ⟨d,.call ⟨.value (.func C.f),xs.toArray,a5⟩,ty,pos,aft,g⟩).run P w= .ok (.enter C.f (xs.map a.eval).toArray) w:=by
     simp[execOp,resolve,Act.eval,Deferred.ofValue,invoke,jb hE (vF hl),C.hc]
    refine tI a3 (c2.mono λe w' h=>?_);cases e with
    |returned v=>exact hk v w' h
    |panicked ch=>exact h.elim
    |outgrown=>exact h.elim
   exact a3.imp c1
  ·exact .none
 ·exact .none
end
section
variable {G:Sg}{P:Program}
def yu (n:Nat):Option Nat->Bool
 |some d=>Z5 d n
 |none=>true
def GY (n:Nat)(Γ:Tab P G)(st:St G)(op:Op)(dst:Option Nat):Option (oc G):=
 match dst with
 |some d=>(match Ae Γ st.op (eX st.L) op with
  |some R=>some ⟨R.β,R.mv,λb=>st.put d (R.k b)⟩
  |none=>none)
 |none=>none
def Ai (n:Nat)(Γ:Tab P G)(st:St G)(op:Op)(dst:Option Nat):Option (oc G):=
 match GY n Γ st op dst with
 |some R=>some R
 |none=>D8 Γ st op dst
def Ea:List Operand->St G->St G
 |[],st=>st
 |x::xs,st=>Ea xs (vD st x)
def Eb (n:Nat)(Γ:Tab P G)(D:List (CS P G))(st:St G)(op:Op)(dst:Option Nat):Option (oc G):=
 match op with
 | .call ⟨.value (.func f),⟨xs⟩,_⟩=>GW Γ D st f xs dst
 | .call ⟨.value x,⟨xs⟩,_⟩=>(match dst with|some d=>GX Γ st x xs d|none=>none)
 |op=>(match Ai n Γ st op dst with
  |some R=>some R
  |none=>Ai n Γ (Ea op.operands.toList st) op dst)
def Aj {ρ:Type}(n:Nat)(Γ:Tab P G)(D:List (CS P G))(o:Oper)(st:St G)(K:St G->Option ρ):Option ρ:=
 match yu n o.dst with
 |true=>(match Eb n Γ D st o.op o.dst with
  |some R=>R.mv.bind λb=>K (R.k b)
  |none=>none)
 |false=>none
def xi {ρ:Type}(n:Nat)(o:Oper)(st:St G)(K:St G->Option ρ):Option ρ:=
 match o.dst with
 |some d=>(match Z5 d n with|true=>K (st.put d (.one .und))|false=>none)
 |none=>K st
def AV.g?:AV G->Option (Option Bool)
 | .dat .bool x none=>some (some x)
 | .und=>some none
 |_=>none
def gd (e:Option (EV G)):Option (Option Bool):=match av? e with|some b=>b.g?|none=>none
def ic {ρ:Type} (n:Nat) (Γ:Tab P G) (D:List (CS P G)) (all:List Oper):List Oper->St G->(St G->Option ρ)->Option ρ
 |[],st,K=>K st
 | o ::r,st,K=>(match o.guard with
  |none=>Aj n Γ D o st λst'=>ic n Γ D all r st' K
  | some (g,b)=>(match cB all.toArray g with
   | some dg=>(match Z5 dg n,gd (st.op (.tmp dg)) with
    | true,some (some x)=>if x=true then
      (match b with
       |true=>Aj n Γ D o (st.put dg (.one (db true))) λst'=>ic n Γ D all r st' K
       |false=>xi n o (st.put dg (.one (db true))) λst'=>ic n Γ D all r st' K)
     else
      (match b with
       |false=>Aj n Γ D o (st.put dg (.one (db false))) λst'=>ic n Γ D all r st' K
       |true=>xi n o (st.put dg (.one (db false))) λst'=>ic n Γ D all r st' K)
    |true,some none=>xi n o st λst'=>ic n Γ D all r st' K
    |_,_=>none)
   |none=>none))
end
section
variable {G:Sg}{P:Program}{δ:List Nat}{n:Nat}{W0:Bse}{L0:Rs}{T0:List (Nat×Value)}{m0:M}{st:St G}{a:Act}{w:World}{Γ:Tab P G}{D:List (CS P G)}{ty t t2:TypeId}{pos:String}{aft:Array Edge}{g:Option (Nat×Bool)}
theorem Kh {x:Operand}{xs:List Operand}{a6:Array TypeId}{d:Nat}(hs:Sat G P δ n W0 L0 T0 m0 st a w)(hd:Z5 d n=true):
  TG G P δ n W0 L0 T0 m0 st (GX Γ st x xs d) ⟨some d,.call ⟨.value x,xs.toArray,a6⟩,ty,pos,aft,g⟩ a w:=by
 obtain⟨⟨m,z,h0,J,hM⟩,hdf,hsz⟩:=hs;obtain⟨Lc,Tc,h1,h2,hS,a2⟩:=hM;obtain⟨l,hE,hl⟩:=d5 hdf hsz (x::xs);have a4:=hl x (by simp);have a3:=vF (xs:=xs) (a:=a) (l:=l) λy W=>hl y (by simp[W]);unfold GX;split
 ·rename_i a' b f y hx
  have hf:=bm (fi J) hx;split
  ·rename_i p W
   split
   ·rename_i u Z
    refine .two λr a0=>?_;refine(Ch hE hS a4 a3 hf (AV.as_rel Z (bm (fi J) W)) a0).imp λv w' hq=>?_;obtain⟨m',h,a1,hv⟩:=hq;exact⟨Sat.of h0 h (J.z h (Zle.refl z)) ⟨hv,trivial⟩ ⟨Lc,Tc,h1.mono h,h2,a1,a2⟩ hd hdf hsz,Ext.put,rfl⟩
   ·exact .none
  ·exact .none
 ·rename_i a' c b f y y' hx
  have hf:=bm (fi J) hx;split
  ·rename_i p p' W a5
   split
   ·rename_i u u' Z a9
    refine .two λr a0=>?_;refine(Ci hE hS a4 a3 hf (AV.as_rel Z (bm (fi J) W)) (AV.as_rel a9 (bm (fi J) a5)) a0).imp λv w' hq=>?_;obtain⟨m',h,a1,hv⟩:=hq;exact⟨Sat.of h0 h (J.z h (Zle.refl z)) ⟨hv,trivial⟩ ⟨Lc,Tc,h1.mono h,h2,a1,a2⟩ hd hdf hsz,Ext.put,rfl⟩
   ·exact .none
  ·exact .none
 ·exact .none
theorem Ki {op:Op}{dst:Option Nat}(hs:Sat G P δ n W0 L0 T0 m0 st a w)(hd:yu n dst=true):TG G P δ n W0 L0 T0 m0 st (GY n Γ st op dst) ⟨dst,op,ty,pos,aft,g⟩ a w:=by
 obtain⟨⟨m,z,Z,W,J⟩,hdf,hsz⟩:=hs;unfold GY;split
 ·rename_i d
  split
  ·rename_i R hR
   intro R' b h hb;injection h with h
   subst h;refine(FZ (d:=d) hdf hsz J (fi W) R b hR hb).imp λv w' hq=>?_;obtain⟨rfl,hv⟩:=hq;exact⟨Sat.of Z (Za m) W hv J hd hdf hsz,Ext.put,rfl⟩
  ·exact .none
 ·exact .none
theorem Co {op:Op}{dst:Option Nat}(J:Sat G P δ n W0 L0 T0 m0 st a w)(h:yu n dst=true):TG G P δ n W0 L0 T0 m0 st (Ai n Γ st op dst) ⟨dst,op,ty,pos,aft,g⟩ a w:=by
 unfold Ai;split
 ·rename_i R Z
  rw[←Z];exact Ki J h
 ·exact MB J λd W=>by subst W;exact h
theorem Kj {x:Operand}(hs:Sat G P δ n W0 L0 T0 m0 st a w):Sat G P δ n W0 L0 T0 m0 (vD st x) a w/\Ext st.c st (vD st x)/\(vD st x).c=st.c:=by
 obtain⟨⟨m,z,W,hr,hM⟩,hdf,hsz⟩:=hs;obtain⟨Lc,Tc,h1,h2,hS,a0⟩:=hM;obtain⟨m',hm,⟨h,Z,a1,k1,k2,a2,J⟩,hx,hc⟩:=F2 (G:=G) (P:=P) (L0:=L0) (T0:=T0) (x:=x) (st:=st) (m:=m) (z:=z) ⟨hr,Lc,Tc,h1,h2,hS,a0⟩;exact⟨⟨⟨m',z,W.trans hm,h,Z,a1,k1,k2,a2,J⟩,hdf,hsz⟩,hx,hc⟩
theorem Kl {xs:List Operand}(J:Sat G P δ n W0 L0 T0 m0 st a w):Sat G P δ n W0 L0 T0 m0 (Ea xs st) a w/\Ext st.c st (Ea xs st)/\(Ea xs st).c=st.c:=by
 induction xs generalizing st with
 |nil=>exact⟨J,Ext.refl _ _,rfl⟩
 |cons x xs ih=>
  obtain⟨W,Z,h3⟩:=Kj (x:=x) J;obtain⟨k1,k2,h⟩:=ih W;rw[h3] at k2 h;exact⟨k1,Z.trans k2,h⟩
theorem H9 {op:Op}{dst:Option Nat}(J:Sat G P δ n W0 L0 T0 m0 st a w)(h:yu n dst=true):TG G P δ n W0 L0 T0 m0 st (Eb n Γ D st op dst) ⟨dst,op,ty,pos,aft,g⟩ a w:=by
 unfold Eb;split
 ·exact Kg J λe he=>by subst he;exact h
 ·split
  ·exact Kh J h
  ·exact .none
 ·split
  ·rename_i R W
   rw[←W];exact Co J h
  ·obtain⟨h1,h2,h3⟩:=Kl (xs:=op.operands.toList) J
   intro R b W hb;refine(Co h1 h R b W hb).imp λv w' hq=>?_;obtain⟨q1,Z,q3⟩:=hq;rw[h3] at Z q3;exact⟨q1,h2.trans Z,q3⟩
variable {ρ:Type}{ro:Option Nat}{Q:Exit->Act->World->Prop}{K:St G->Option ρ}{res:ρ}{all:List Oper}
def Nxt (G:Sg)(P:Program)(δ:List Nat)(n:Nat)(W0:Bse)(L0:Rs)(T0:List (Nat×Value))(m0:M){ρ:Type}(K:St G->Option ρ)(res:ρ)(st0:St G)(N:Act->World->Prop):Prop:=
 ∀st' a' w',K st'=some res->Sat G P δ n W0 L0 T0 m0 st' a' w'->Ext st0.c st0 st'->st'.c=st0.c->N a' w'
theorem Nxt.later {st0 J:St G}{N:Act->World->Prop}(h:Nxt G P δ n W0 L0 T0 m0 K res st0 N)(hx:Ext st0.c st0 J)(W:J.c=st0.c):Nxt G P δ n W0 L0 T0 m0 K res J N:=
 λst' a' w' h1 h2 Z h4=>h st' a' w' h1 h2 (hx.trans (by rw[W] at Z;exact Z)) (by rw[h4,W])
theorem vG {o:Oper}(Z:Sat G P δ n W0 L0 T0 m0 st a w)(h:Aj n Γ D o st K=some res){N:Act->World->Prop}(k:Nxt G P δ n W0 L0 T0 m0 K res st N):
  be P o a w (λv w'=>N (a.put o.dst v) w'):=by
 unfold Aj at h;split at h
 ·rename_i W
  split at h
  ·rename_i R hR
   cases hb:R.mv with
   |none=>simp[hb] at h
   |some b=>
    simp only[hb,X4] at h;obtain⟨dst,op,ty,pos,aft,g⟩:=o;refine(H9 Z W R b hR hb).imp λv w' J=>?_;exact k _ _ _ h J.1 J.2.1 J.2.2
  ·cases h
 ·cases h
theorem Sat.lit {J:Nat}{x:Bool}(hs:Sat G P δ n W0 L0 T0 m0 st a w)(hd:Z5 J n=true)(h:gd (st.op (.tmp J))=some (some x)):Sat G P δ n W0 L0 T0 m0 (st.put J (.one (db x))) a w/\a.tmps.getD J undef= .bool x:=by
 obtain⟨⟨m,z,h0,hr,hM⟩,hdf,hsz⟩:=hs
 have Z:a.tmps.getD J undef= .bool x:=by
  unfold gd at h;split at h
  ·rename_i b hb
   have a0:=bm (fi hr) hb;cases b with
   |dat t y oo=>
    cases t<;>cases oo<;>simp only[AV.g?,reduceCtorEq] at h;obtain rfl:=Option.some.inj (Option.some.inj h);exact eS a0.1
   |_=>simp[AV.g?] at h
  ·cases h
 refine⟨⟨⟨m,z,h0,λe W=>?_,hM⟩,hdf,hsz⟩,Z⟩;rcases Z8.1 W with rfl|W
 ·show AV.Rel G P m z (db x) (a.tmps.getD J undef)
  rw[Z];exact ef
 ·exact hr e (me W).1
theorem sH {g h:Nat}{x:Bool}(hs:a.tmps.size=n)(W:cB all.toArray g=some h)(Z:Z5 h n=true)(J:a.tmps.getD h undef= .bool x):yielded all.toArray a.tmps g=some x:=by
 have a1:h<n:=Z3 Z;unfold cB at W;unfold yielded;rw[W];rw[Array.getD_eq_getD_getElem?] at J;have a0:h<a.tmps.size:=by omega
 simp only[X4];rw[Array.getElem?_eq_getElem a0] at J ⊢;simp at J;simp[J]
theorem Bt {o:Oper}{r:List Oper}{g:Nat}{b:Bool}(W:Sat G P δ n W0 L0 T0 m0 st a w)(Z:o.guard=some (g,b))(hy:yielded all.toArray a.tmps g≠some b)(h:xi n o st K=some res)
  (k:Nxt G P δ n W0 L0 T0 m0 K res st (λa w=>wpL ro P all.toArray Q r a w)):wpL ro P all.toArray Q (o::r) a w:=by
 refine wpListIn_step λKk hK=>?_
 have hw:Region.wanted o (yielded all.toArray a.tmps)=false:=by
  simp only[Region.wanted,Z];simpa using hy
 rw[hw];simp only[Bool.false_eq_true,if_false];refine⟨λ_ _=>trivial,hK _ _ ?_⟩;unfold xi at h;split at h
 ·rename_i d J
  split at h
  ·rename_i a0
   obtain⟨⟨m,z,h0,hr,hM⟩,hdf,hsz⟩:=W;rw[J];exact k _ _ _ h (Sat.of h0 (Za m) hr (show EV.Rel G P m z (.one .und) undef from rfl) hM a0 hdf hsz) Ext.put rfl
  ·cases h
 ·rename_i J
  rw[J];exact k _ _ _ h W (Ext.refl _ _) rfl
theorem zq:∀{os:List Oper} {st:St G} {a:Act} {w:World},ic n Γ D all os st K=some res->Sat G P δ n W0 L0 T0 m0 st a w->Nxt G P δ n W0 L0 T0 m0 K res st (λa w=>wpL ro P all.toArray Q [] a w)->wpL ro P all.toArray Q os a w:=by
 intro os
 induction os with
 |nil=>intro st a w h W k;exact k st a w h W (Ext.refl _ _) rfl
 | cons o r ih=>
  intro st a w h W k;unfold ic at h
  have a2:∀{a3:St G},Ext st.c st a3->a3.c=st.c->Nxt G P δ n W0 L0 T0 m0 (λst'=>ic n Γ D all r st' K) res a3 (λa w=>wpL ro P all.toArray Q r a w):=by
   intro a3 J hc st' a' w' h1 h2 h3 h4;exact ih h1 h2 ((k.later J hc).later h3 h4)
  split at h
  ·rename_i Z
   exact wpListIn_plain Z λKk hK=>vG W h (a2 (Ext.refl _ _) rfl) _ _ _ λv w' hp=>hK _ _ hp
  ·rename_i g b Z
   split at h
   ·rename_i dg a4
    split at h
    ·rename_i x hd J
     obtain⟨a0,hv⟩:=Sat.lit W hd J;have hy:=sH (all:=all) W.sz a4 hd hv;have a1:Ext st.c st (st.put dg (.one (db x))):=Ext.put;split at h
     ·rename_i b0
      rw[b0] at hy a0 a1;split at h
      ·exact wpListIn_step λKk hK=>by
        simp only[Region.wanted,Z,hy,beq_self_eq_true,if_true];exact vG a0 h (a2 a1 rfl) _ _ _ λv w' hp=>hK _ _ hp
      ·exact Bt a0 Z (by rw[hy];simp) h (a2 a1 rfl)
     ·rename_i a6
      have a5:x=false:=by simpa using a6
      rw[a5] at hy a0 a1;split at h
      ·exact wpListIn_step λKk hK=>by
        simp only[Region.wanted,Z,hy,beq_self_eq_true,if_true];exact vG a0 h (a2 a1 rfl) _ _ _ λv w' hp=>hK _ _ hp
      ·exact Bt a0 Z (by rw[hy];simp) h (a2 a1 rfl)
    ·rename_i hd J
     refine Bt W Z ?_ h (a2 (Ext.refl _ _) rfl);obtain⟨⟨m,z,h0,hr,hM⟩,hdf,hsz⟩:=W
     have hu:a.tmps.getD dg undef=undef:=by
      unfold gd at J;split at J
      ·rename_i b hb
       have a9:=bm (fi hr) hb;cases b with
       |und=>exact a9
       |dat t y oo=>cases t<;>cases oo<;>simp[AV.g?] at J
       |_=>simp[AV.g?] at J
      ·cases J
     rw[oS a4 hu];simp
    ·cases h
   ·cases h
end
section
variable {G:Sg}{P:Program}
def mP (Γ:Tab P G)(ρ:Operand->Option (EV G)):(ps:List Pm)->List Operand->Option (d6 G ps)
 |[],[]=>some ()
 | .rd t::ps,x::xs=>(match av? (ρ x),mP Γ ρ ps xs with
  |some b,some y=>(match b.as Γ t with|some u=>some (u,y)|none=>none)
  |_,_=>none)
 | .f1 a b::ps,x::xs=>(match av? (ρ x),mP Γ ρ ps xs with
  |some (.fn1 a' b' f),some y=>if h:a'=a/\b'=b then some (h.1 ▸ h.2 ▸ f,y) else none
  |_,_=>none)
 | .f2 a c b::ps,x::xs=>(match av? (ρ x),mP Γ ρ ps xs with
  |some (.fn2 a' c' b' f),some y=>if h:a'=a/\c'=c/\b'=b then some (h.1 ▸ h.2.1 ▸ h.2.2 ▸ f,y) else none
  |_,_=>none)
 |_,_=>none
def Ak:List Rm->Bool
 |[]=>true
 | .rd _::rs=>Ak rs
 | .ap _::rs=>Ak rs
 | .ow _::_=>false
def Km (G:Sg)(os:List Ty):(rs:List Rm)->bC G (rs.map Rm.ty++os)->List (AV G)
 |[],_=>[]
 |r::rs,x=> .dat r.ty (hdT G r.ty (rs.map Rm.ty++os) x) none::Km G os rs (tlT G r.ty (rs.map Rm.ty++os) x)
def LE (Γ:Tab P G)(D:List (CS P G))(ρ:Operand->Option (EV G))(f:FuncId)(xs:List Operand):Option (iw G):=
 match Ah D f with
 |some C=>(match mP Γ ρ C.ps xs,Ak C.rs with
  |some y,true=>some ⟨bC G (gT C.ps C.rs),C.g y,λr=>evs (Km G (C.ps.filterMap Pm.out) C.rs r)⟩
  |_,_=>none)
 |none=>none
def Ia (Γ:Tab P G)(ρ:Operand->Option (EV G))(x:Operand)(xs:List Operand):Option (iw G):=
 match av? (ρ x),xs with
 |some (.fn1 a b f),[y]=>(match av? (ρ y) with
  |some p=>(match p.as Γ a with|some u=>pb (f u) λr=> .dat b r none|none=>none)
  |none=>none)
 |some (.fn2 a c b f),[y,y']=>(match av? (ρ y),av? (ρ y') with
  |some p,some p'=>(match p.as Γ a,p'.as Γ c with|some u,some u'=>pb (f u u') λr=> .dat b r none|_,_=>none)
  |_,_=>none)
 |_,_=>none
def sI (Γ:Tab P G)(D:List (CS P G))(ρ:Operand->Option (EV G))(h:Nat->Option (BC G))(op:Op):Option (iw G):=
 match op with
 | .call ⟨.value (.func f),⟨xs⟩,_⟩=>LE Γ D ρ f xs
 | .call ⟨.value x,⟨xs⟩,_⟩=>Ia Γ ρ x xs
 |op=>Ae Γ ρ h op
def vis (all:List Oper)(k i:Nat)(pre:List Nat)(t:Nat):Bool:=
 (all.take k).zipIdx.all λp=>match p.1.dst with
  |some d=> !(Zb d t)||pre.any (Zb p.2)||(bj p.1).any (Zb i)
  |none=>true
def visρ (all:List Oper)(k i:Nat)(o:Oper)(st:St G):Operand->Option (EV G)
 | .tmp t=>(match vis all k i (bj o) t with|true=>st.op (.tmp t)|false=>none)
 |x=>st.op x
def j6 {ρ:Type} (n:Nat) (Γ:Tab P G) (D:List (CS P G)) (all:List Oper) (k:Nat):Nat->List Oper->St G->(St G->Option ρ)->Option ρ
 |_,[],st,K=>K st
 | i, o ::r,st,K=>(match o.dst with
  | some d=>(match Z5 d n,o.guard with
   |true,none=>(match sI Γ D (visρ all k i o st) (eX st.L) o.op with
    |some R=>R.mv.bind λb=>j6 n Γ D all k (i+1) r (st.put d (R.k b)) K
    |none=>none)
   | true,some (g,b)=>(match (bj o).any (Zb g),cB (all.take k).toArray g with
    | true,some dg=>(match Z5 dg n,gd (st.op (.tmp dg)) with
     | true,some (some x)=>if x=true then
       (match b with
        |true=>(match sI Γ D (visρ all k i o (st.put dg (.one (db true)))) (eX st.L) o.op with
         |some R=>R.mv.bind λb=>j6 n Γ D all k (i+1) r ((st.put dg (.one (db true))).put d (R.k b)) K
         |none=>none)
        |false=>j6 n Γ D all k (i+1) r ((st.put dg (.one (db true))).put d (.one .und)) K)
      else
       (match b with
        |false=>(match sI Γ D (visρ all k i o (st.put dg (.one (db false)))) (eX st.L) o.op with
         |some R=>R.mv.bind λb=>j6 n Γ D all k (i+1) r ((st.put dg (.one (db false))).put d (R.k b)) K
         |none=>none)
        |true=>j6 n Γ D all k (i+1) r ((st.put dg (.one (db false))).put d (.one .und)) K)
     |true,some none=>j6 n Γ D all k (i+1) r (st.put d (.one .und)) K
     |_,_=>none)
    |_,_=>none)
   |_,_=>none)
  |none=>none)
def jo (o:Oper):Bool:=match o.op with
 | .alloc _=>true
 | .store _ _ _=>true
 |_=>false
inductive Sp (G:Sg) where
 |al (d:Nat) (t:Ty) (x:t.den G)
 |so (i:Nat) (t:Ty) (x:t.den G)
def Sp.blk:Sp G->Option Nat
 | .al _ _ _=>none
 | .so i _ _=>some i
def GZ (Γ:Tab P G)(ρ:Operand->Option (EV G))(h:Nat->Option (BC G))(o:Oper):Option (Sp G):=
 match o.guard,o.dst,o.op with
 |none,some d,.alloc t=>(match Γ.ar t,Γ.ty t with|none,some I=>some (.al d I.T I.z)|_,_=>none)
 | none,none,.store t x y=>(match Γ.ty t,av? (ρ x),av? (ρ y) with
  |some I,some (.blk i),some b=>(match h i with
   |some (.dat c _)=>if c=I.T then (match b.as Γ I.T with|some u=>some (.so i I.T u)|none=>none) else none
   |_=>none)
  |_,_,_=>none)
 |_,_,_=>none
def stG (st:St G):List Oper->List (Option Nat)
 |[]=>[]
 |o::r=>(match o.op with
  | .alloc _=>none::stG st r
  | .store _ x _=>(match av? (st.op x) with|some (.blk i)=>some i::stG st r|_=>none::stG st r)
  |_=>stG st r)
def fQ (c:Nat):List (Option Nat)->List (Nat×BC G)->List (Nat×BC G)
 |[],L=>L
 |none::r,L=>fQ c r L
 |some i::r,L=>sb (fQ c r L) i (c,.gone)
def gOK (h:Nat->Option (BC G)):List (Option Nat)->Bool
 |[]=>true
 |none::r=>gOK h r
 |some i::r=>(match h i with|some (.dat _ _)=>true|_=>false)&& !(r.any λj=>decide (j=some i))&&gOK h r
def mg:List (Nat×Sp G)->St G->St G
 |[],st=>st
 |(_,.al d t x)::r,st=>mg r ((st.push (.dat t x)).put d (.one (.blk st.L.length)))
 |(_,.so i t x)::r,st=>mg r (st.setB i (.dat t x))
def sw {ρ:Type}(n:Nat)(Γ:Tab P G)(D:List (CS P G))(all:List Oper)(k:Nat)(h:Nat->Option (BC G)):Nat->List Oper->St G->List (Nat×Sp G)->(St G->List (Nat×Sp G)->Option ρ)->Option ρ
 |_,[],st,acc,K=>K st acc
 | i,o::r,st,acc,K=>(match jo o with
  |true=>(match yu n o.dst,GZ Γ (visρ all k i o st) h o with
   |true,some sp=>sw n Γ D all k h (i+1) r (match o.dst with|some d=>{ st with env:=rmk st.env d }|none=>st) (acc++[(i,sp)]) K
   |_,_=>none)
  |false=>j6 n Γ D all k i [o] st λst'=>sw n Γ D all k h (i+1) r st' acc K)
def Dm (all:List Oper):Nat:=all.zipIdx.foldl (λh p=>if Zb p.2 0||(bj p.1).any (λe=>Zb (e+1) p.2) then h else p.2) 0
def LG (all:List Oper):Nat->Nat->Nat
 |0,_=>all.length
 |f+1,k=>match oy all k with|true=>k|false=>LG all f (k+1)
def kOf (all:List Oper):Nat:=LG all (all.length - Dm all) (Dm all)
def dJ:Op->List Operand
 | .move x=>[x]
 | .assign x=>[x]
 | .load _ x=>[x]
 | .store _ x y=>[x,y]
 | .indexAddr _ x y=>[x,y]
 | .fieldAddr _ x _=>[x]
 | .binOp _ _ x y _=>[x,y]
 | .convert _ _ x=>[x]
 | .buildSlice _ _ ps=>ps.toList.map (·.2)
 | .call c=>c.args.toList
 |_=>[]
def okT:Op->Bool
 | .move _=>true
 | .assign _=>true
 | .load _ _=>true
 | .store _ _ _=>true
 | .indexAddr _ _ _=>true
 | .fieldAddr _ _ _=>true
 | .binOp _ _ _ _ _=>true
 | .convert _ _ _=>true
 | .buildSlice _ _ _=>true
 | .call ⟨.builtin .append,_,_⟩=>true
 |_=>false
def opT (t:Nat):Operand->Bool
 | .tmp q=>Zb q t
 |_=>false
def inN (l:List Nat)(j:Nat):Bool:=l.any (Zb j)
def Kn:Op->Bool
 | .move _=>true
 | .binOp .add _ _ _ _=>true
 | .binOp .sub _ _ _ _=>true
 |_=>false
def dU (all:List Oper)(k:Nat):List Nat:=match all[k]? with
 |some o=>(let c:=cov all 12 (bj o);(Xh k).filter λj=> !(c.any λe=>Zb j e))
 |none=>[]
def Ko (o h:Oper)(j:Nat):Bool:=
 inN (bj o) j||(match h.dst with
  |some d=> !((dJ o.op).any (opT d))&&(match o.dst with|some e=> !(Zb e d)&& !((dJ h.op).any (opT e))|none=>true)
  |none=>false)
def yv (all:List Oper)(k:Nat):Bool:=
 Z5 k all.length&&
 (dU all k).all (λj=>match all[j]? with
  |some oj=>oj.guard.isNone&&Kn oj.op&&(bj oj).all (λe=>inN (dU all k) e&&Z5 e j)&&
   (dU all k).all (λi=>match all[i]? with|some oi=>(match oi.dst with|some d=>inN (bj oj) i|| !((dJ oj.op).any (opT d))|none=>false)|none=>false)
  |none=>false)&&
 all.zipIdx.all (λp=>Z5 p.2 k||(p.1.guard.isNone&&okT p.1.op&&(Zb p.2 k||(bj p.1).any λe=>Zb (e+1) p.2)&&
  (dU all k).all λj=>match all[j]? with|some oj=>Ko p.1 oj j|none=>false))
def Dn (all:List Oper):Nat->Nat->Option Nat
 |0,_=>none
 |f+1,k=>match yv all k with|true=>some k|false=>Dn all f (k+1)
def N7 (o:Oper):Bool:=match o.op with
 | .store _ _ _=>true
 | .buildSlice _ _ _=>true
 | .call ⟨.builtin .append,_,_⟩=>true
 |_=>false
def fK (all:List Oper):Option Nat:=match (all.take (kOf all)).any N7 with
 |true=>(match Dn all (all.length - Dm all) (Dm all) with
  |some k=>(match (all.take k).any λo=>N7 o||jo o with|true=>none|false=>some k)
  |none=>none)
 |false=>none
def zr {ρ:Type}(n:Nat)(Γ:Tab P G)(D:List (CS P G))(all:List Oper)(J:Bool)(st:St G)(K:St G->Option ρ):Option ρ:=
 match J with
 |false=>ic n Γ D all all st K
 | true=>(match fK all with
  | some k=>(match ny all&&uY (all.take k) n with
   |true=>(match (all.take k).any jo with
    |false=>j6 n Γ D all k 0 (all.take k) st λst'=>ic n Γ D all (all.drop k) st' K
    |true=>none)
   |false=>none)
  |none=>(match ny all&&oy all (kOf all)&&uY (all.take (kOf all)) n with
  | true=>(match (all.take (kOf all)).any jo with
   |false=>j6 n Γ D all (kOf all) 0 (all.take (kOf all)) st λst'=>ic n Γ D all (all.drop (kOf all)) st' K
   |true=>(match gOK (eX st.L) (stG st (all.take (kOf all))) with
    | true=>sw n Γ D all (kOf all) (eX st.L) 0 (all.take (kOf all)) { st with L:=fQ st.c (stG st (all.take (kOf all))) st.L } [] λst' h=>
      if h.map (λq=>q.2.blk)=stG st (all.take (kOf all)) then ic n Γ D all (all.drop (kOf all)) (mg h st') K else none
    |false=>none))
  |false=>none))
end
section
variable {G:Sg}{P:Program}{δ:List Nat}{n:Nat}{W0:Bse}{L0:Rs}{T0:List (Nat×Value)}{m m0:M}{z:Cz}{st:St G}{a:Act}{w:World}{Γ:Tab P G}{D:List (CS P G)}{ty t t2:TypeId}{pos:String}{aft:Array Edge}{g:Option (Nat×Bool)}{Ls:List (Nat×BC G)}{Ts:List Nat}{ρ:Operand->Option (EV G)}{d:Nat}
theorem Ib (hρ:∀x e,ρ x=some e->e.Rel G P m z (a.eval x)):∀{ps:List Pm} {xs:List Operand} {y:d6 G ps},mP Γ ρ ps xs=some y->lu G P m ps (xs.map a.eval) y [] []/\ps.filterMap Pm.out=[]:=by
 intro ps
 induction ps with
 |nil=>
  intro xs y h;cases xs with
  |nil=>exact⟨trivial,rfl⟩
  |cons x xs=>simp[mP] at h
 | cons p ps ih=>
  intro xs y h;cases xs with
  |nil=>cases p<;>simp[mP] at h
  | cons x xs=>
   cases p with
   | rd t=>
    simp only[mP] at h;split at h
    ·rename_i b y' J W
     split at h
     ·rename_i u hu
      injection h with h
      subst h;obtain⟨Z,h2⟩:=ih W;exact⟨⟨AV.as_rel hu (bm hρ J),Z⟩,h2⟩
     ·cases h
    ·cases h
   | f1 b c=>
    simp only[mP] at h;split at h
    ·rename_i a' b' f y' J W
     split at h
     ·rename_i hh
      obtain⟨rfl,rfl⟩:=hh;injection h with h
      subst h;obtain⟨Z,h2⟩:=ih W;exact⟨⟨bm hρ J,Z⟩,h2⟩
     ·cases h
    ·cases h
   | f2 b c e=>
    simp only[mP] at h;split at h
    ·rename_i a' c' b' f y' J W
     split at h
     ·rename_i hh
      obtain⟨rfl,rfl,rfl⟩:=hh;injection h with h
      subst h;obtain⟨Z,h2⟩:=ih W;exact⟨⟨bm hρ J,Z⟩,h2⟩
     ·cases h
    ·cases h
   |_=>simp[mP] at h
theorem MD {os:List Ty}:∀{rs:List Rm} {us:List Value} {x:bC G (rs.map Rm.ty++os)} {Lr:List (Nat×List Value)} {Tr:List (Nat×Value)},Ak rs=true->oa G m os rs us x Lr Tr->Lr=[]/\qn G P m z (Km G os rs x) us:=by
 intro rs
 induction rs with
 |nil=>
  intro us x Lr Tr _ h;cases us<;>cases Lr<;>cases Tr<;>first|exact h.elim|exact⟨rfl,trivial⟩
 | cons r rs ih=>
  intro us x Lr Tr Z h;cases r with
  | rd t=>
   cases us with
   |nil=>exact h.elim
   |cons u us=>
    obtain⟨k1,k2⟩:=h;obtain⟨W,J⟩:=ih Z k2;exact⟨W,⟨k1,trivial⟩,J⟩
  | ap t=>
   cases us with
   |nil=>cases Lr<;>cases Tr<;>exact h.elim
   | cons u us=>
    cases Tr with
    |nil=>cases Lr<;>exact h.elim
    |cons e Tr=>
     obtain⟨k1,_,k2⟩:=h;obtain⟨W,J⟩:=ih Z k2;exact⟨W,⟨k1,trivial⟩,J⟩
  |_=>simp[Ak] at Z
def LH (G:Sg)(P:Program)(W0:Bse)(L0:Rs)(T0:List (Nat×Value))(Ls:List (Nat×BC G))(Ts:List Nat)(m:M)(z:Cz)(r:Option (iw G))(o:Oper)(a:Act)(w:World):Prop:=
 ∀R b,r=some R->R.mv=some b->be P o a w (λv w'=>∃m',M.le m m'/\ga G W0 L0 T0 Ls Ts m' z w'/\(R.k b).Rel G P m' z v)
theorem LH.none {o:Oper}:LH G P W0 L0 T0 Ls Ts m z none o a w:=λR b h=>by cases h
theorem Kp {vs:List Value}{Lp':List (Nat×List Value)}:∀{ps:List Pm} {vs:List Value} {x:bC G (ps.filterMap Pm.out)},ps.filterMap Pm.out=[]->iO G m ps vs x [] Lp'->Lp'=[]:=by
 intro ps
 induction ps with
 |nil=>intro vs x _ h;cases Lp' with|nil=>rfl|cons e l=>exact h.elim
 | cons p ps ih=>
  intro vs x J h;cases p with
  |pt t=>simp[Pm.out] at J
  |ow t=>simp[Pm.out] at J
  |_=>
   cases vs with
   |nil=>exact h.elim
   |cons v vs=>exact ih (by simpa[Pm.out] using J) h
theorem Cp {op:Op}(hd:a.defers=δ.map λD=>{ target:= .collected D,args:= #[] })(hs:a.tmps.size=n)(hM:ga G W0 L0 T0 Ls Ts m z w)(W:∀x e,ρ x=some e->e.Rel G P m z (a.eval x)):
  LH G P W0 L0 T0 Ls Ts m z (sI Γ D ρ (eX Ls) op) ⟨some d,op,ty,pos,aft,g⟩ a w:=by
 unfold sI;split
 ·rename_i f xs a4
  obtain⟨l,hE,hl⟩:=d5 hd hs xs;unfold LE;split
  ·rename_i C hC
   have hf:=F4 hC;subst hf;split
   ·rename_i y Z ha
    intro R r h hr;injection h with h
    subst h;obtain⟨hP,hO⟩:=Ib W Z;obtain⟨Lc,Tc,h1,h2,hS,a1⟩:=hM;have b0:=C.ok W0 m w (Lc++L0.l) (Tc++T0) (xs.map a.eval) y r [] [] hS hP hr;intro ro Kk Q hk
    have a9:(execOp a.eval ⟨some d,.call ⟨.value (.func C.f),xs.toArray,a4⟩,ty,pos,aft,g⟩).run P w= .ok (.enter C.f (xs.map a.eval).toArray) w:=by
     simp[execOp,resolve,Act.eval,Deferred.ofValue,invoke,jb hE (vF hl),C.hc]
    refine tI a9 (b0.mono λe w' he=>?_);cases e with
    |returned v=>
     obtain⟨m',us,Lr,Lp',Tr,J,a0,rfl,h,b2⟩:=he;obtain⟨rfl,r3⟩:=MD (P:=P) (z:=z) ha h;have:=Kp (vs:=[]) hO b2;subst this;have a5:=a0.dropT Tr.length;rw[List.drop_left] at a5;exact hk _ _ ⟨m',J,⟨Lc,Tc,h1.mono J,h2,a5,a1⟩,F3 r3⟩
    |panicked ch=>exact he.elim
    |outgrown=>exact he.elim
   ·exact .none
  ·exact .none
 ·rename_i x xs a4 _
  obtain⟨Lc,Tc,h1,h2,hS,a1⟩:=hM;obtain⟨l,hE,hl⟩:=d5 hd hs (x::xs);have a2:=hl x (by simp);have a3:=vF (xs:=xs) (a:=a) (l:=l) λy Z=>hl y (by simp[Z]);unfold Ia;split
  ·rename_i a' b f y hx
   have hf:=bm W hx;split
   ·rename_i p Z
    split
    ·rename_i u hu
     intro R r h hr;injection h with h
     subst h;refine(Ch hE hS a2 a3 hf (AV.as_rel hu (bm W Z)) hr).imp λv w' hq=>?_;obtain⟨m',J,a0,hv⟩:=hq;exact⟨m',J,⟨Lc,Tc,h1.mono J,h2,a0,a1⟩,hv,trivial⟩
    ·exact .none
   ·exact .none
  ·rename_i a' c b f y y' hx
   have hf:=bm W hx;split
   ·rename_i p p' Z a6
    split
    ·rename_i u u' hu b1
     intro R r h hr;injection h with h
     subst h;refine(Ci hE hS a2 a3 hf (AV.as_rel hu (bm W Z)) (AV.as_rel b1 (bm W a6)) hr).imp λv w' hq=>?_;obtain⟨m',J,a0,hv⟩:=hq;exact⟨m',J,⟨Lc,Tc,h1.mono J,h2,a0,a1⟩,hv,trivial⟩
    ·exact .none
   ·exact .none
  ·exact .none
 ·intro R b h hb
  refine(FZ hd hs hM W R b h hb).imp λv w' hq=>?_;obtain⟨rfl,hv⟩:=hq;exact⟨m,Za m,hM,hv⟩
end
section
variable {G:Sg}{P:Program}{δ:List Nat}{n:Nat}{W0:Bse}{L0:Rs}{T0:List (Nat×Value)}{m m0:M}{z:Cz}{st:St G}{a:Act}{w:World}{Γ:Tab P G}{D:List (CS P G)}{g:Option (Nat×Bool)}{res:Type}{all:List Oper}{k:Nat}
abbrev dj (os:List Oper)(j:Nat):Option Nat:=cB os.toArray j
def nsp (all:List Oper)(k q:Nat):Prop:= ∀oq,(all.take k)[q]? =some oq->jo oq=false
def rR (G:Sg)(all:List Oper)(k:Nat)(st0:St G)(ev:Nat->EV G)(j:Nat)(o:Oper)(ρ:Operand->Option (EV G)):Prop:=
 ∀x e,ρ x=some e->match x with
  | .tmp t=>(∃q,q∈bj o/\q<j/\dj (all.take k) q=some t/\ev q=e/\nsp all k q)\/((∃lv,(t,lv,e)∈st0.env)/\∀(q:Nat) (h:Oper),(all.take k)[q]? =some h->h.dst=some t->j∈bj h)
  | .const v=>∃b,cAV v=some b/\e= .one b
  |_=>False
def zu (G:Sg)(P:Program)(Γ:Tab P G)(D:List (CS P G))(all:List Oper)(k:Nat)(st0:St G)(ev:Nat->EV G)(j:Nat)(o:Oper):Prop:=
 ∃(R:iw G) (b:R.β) (ρ:Operand->Option (EV G)),sI Γ D ρ (eX st0.L) o.op=some R/\R.mv=some b/\ev j=R.k b/\rR G all k st0 ev j o ρ
def OpF (G:Sg)(P:Program)(Γ:Tab P G)(D:List (CS P G))(n:Nat)(all:List Oper)(k:Nat)(st0:St G)(ev:Nat->EV G)(j:Nat)(o:Oper):Prop:=
 ∃d,o.dst=some d/\Z5 d n=true/\match o.guard with
  |none=>zu G P Γ D all k st0 ev j o
  |some (g,b)=>g∈bj o/\nsp all k g/\∃dg,dj (all.take k) g=some dg/\Z5 dg n=true/\((∃x,ev g= .one (db x)/\(x=b->zu G P Γ D all k st0 ev j o)/\(x≠b->ev j= .one .und))\/(ev g= .one .und/\ev j= .one .und))
structure oh (G:Sg)(all:List Oper)(k:Nat)(st0:St G)(ev:Nat->EV G)(i:Nat)(st:St G):Prop where
 L:st.L=st0.L
 T:st.T=st0.T
 c:st.c=st0.c
 env:∀e∈st.env,(∃j,j<i/\dj (all.take k) j=some e.1/\ev j=e.2.2/\e.2.1=st0.c/\nsp all k j)\/((∀j,j<i->dj (all.take k) j≠some e.1)/\e∈st0.env)
structure Dis (all:List Oper)(k n:Nat):Prop where
 ed:ny all=true
 ne:∀(i j:Nat) (d:Nat),dj (all.take k) i=some d->dj (all.take k) j=some d->i=j
theorem VO {os:List Oper}{j d:Nat}:dj os j=some d↔ ∃o,os[j]? =some o/\o.dst=some d:=by
 unfold dj cB;cases ho:os[j]? with
 |none=>simp[ho]
 |some o=>simp[ho]
theorem Ec (he:ny all=true)(J:uY (all.take k) n=true):Dis all k n:=by
 refine⟨he,λi j d hi hj=>?_⟩;obtain⟨o,ho,Z⟩:=VO.1 hi;obtain⟨o',W,a0⟩:=VO.1 hj;unfold uY at J;rw[Z7] at J;have h1:=Zg.1 J.2 (o,i) (by rw[Ze];exact ho);have h:=Zg.1 h1 (o',j) (by rw[Ze];exact W);simp only[Z,a0,Zn,Zf] at h;rcases h with h|h
 ·exact Z2 h
 ·simp at h
theorem Cq {ev:Nat->EV G}{st0:St G}{i:Nat}{o:Oper}(hD:Dis all k n)(ho:all[i]? =some o)(hc:oh G all k st0 ev i st):rR G all k st0 ev i o (visρ all k i o st):=by
 intro x e J;cases x with
 | tmp t=>
  simp only[visρ] at J;split at J
  ·rename_i hv
   simp only[St.op] at J;split at J
   ·rename_i e' he
    injection J with J;subst J
    have hm:=iH he
    have a2:∀q W,(all.take k)[q]? =some W->W.dst=some t->q∈bj o\/i∈bj W:=by
     intro q W hq a1;have:=Zg.1 hv (W,q) (by rw[Ze];exact hq);simp only[a1,Zn,Zf] at this;rcases this with(h|h)|h
     ·simp at h
     ·obtain⟨p,hp,Z⟩:=Z9.1 h
      have:=Z2 Z;subst this;exact .inl hp
     ·obtain⟨p,hp,Z⟩:=Z9.1 h
      have:=Z2 Z;subst this;exact .inr hp
    rcases hc.env _ hm with⟨j,hj,a3,b0,_,a9⟩|⟨a5,h0⟩
    ·obtain⟨oj,a0,a4⟩:=VO.1 a3
     rcases a2 j oj a0 a4 with h|h
     ·exact .inl ⟨j,h,hj,a3,b0,a9⟩
     ·exfalso
      have a6:all[j]? =some oj:=by
       rw[Zh] at a0;split at a0
       ·exact a0
       ·cases a0
      have:=jY hD.ed a6 i h;omega
    ·refine .inr ⟨⟨e'.1,h0⟩,λq W hq a1=>?_⟩
     rcases a2 q W hq a1 with h|h
     ·exfalso
      have:=jY hD.ed ho q h;exact a5 q this (VO.2 ⟨W,hq,a1⟩)
     ·exact h
   ·cases J
  ·cases J
 | const v=>
  simp only[visρ,St.op] at J;split at J
  ·rename_i b Z
   injection J with J;subst J
   exact⟨b,Z,rfl⟩
  ·cases J
 |_=>simp[visρ,St.op] at J
theorem oh.step {ev ev':Nat->EV G}{st0:St G}{i d:Nat}{e:EV G}(a0:nsp all k i)(W:oh G all k st0 ev i st)(hd:dj (all.take k) i=some d)(he:ev' i=e)(a1:∀j,j<i->ev' j=ev j):oh G all k st0 ev' (i+1) (st.put d e):=by
 refine⟨W.L,W.T,W.c,λx hx=>?_⟩;rcases Z8.1 hx with rfl|hx
 ·exact .inl ⟨i,by omega,hd,he,W.c,a0⟩
 ·obtain⟨h1,h2⟩:=me hx
  rcases W.env x h1 with⟨j,hj,h3,Z,h5⟩|⟨h3,Z⟩
  ·exact .inl ⟨j,by omega,h3,by rw[a1 j hj];exact Z,h5⟩
  ·refine .inr ⟨λj hj J=>?_,Z⟩
   rcases Zs j i with h|h
   ·exact h3 j h J
   ·have:j=i:=by omega
    subst this;rw[hd] at J;injection J with J
    exact h2 J.symm
theorem oh.lit {ev:Nat->EV G}{st0:St G}{i gi dg:Nat}{x:Bool}(hD:Dis all k n)(J:oh G all k st0 ev i st)(hg:dj (all.take k) gi=some dg)(a0:gi<i)(W:gd (st.op (.tmp dg))=some (some x)):
  ev gi= .one (db x)/\nsp all k gi/\oh G all k st0 ev i (st.put dg (.one (db x))):=by
 have key:ev gi= .one (db x)/\nsp all k gi:=by
  unfold gd at W;split at W
  ·rename_i b Z
   have:b=db x:=by
    cases b with
    |dat t y oo=>
     cases t<;>cases oo<;>simp only[AV.g?,reduceCtorEq] at W;obtain rfl:=Option.some.inj (Option.some.inj W)
     rfl
    |_=>simp[AV.g?] at W
   subst this;cases h:lke st.env dg with
   |none=>simp[St.op,h,av?] at Z
   | some e=>
    simp only[St.op,h] at Z;have hm:=iH h
    have a2:e.2= .one (db x):=by
     cases h2:e.2 with
     |one v=>simp only[h2,av?,Option.some.injEq] at Z;rw[Z]
     |tup vs=>simp[h2,av?] at Z
    rcases J.env _ hm with⟨j,hj,h3,h4,_,a1⟩|⟨h3,_⟩
    ·have:=hD.ne gi j dg hg h3
     subst this;rw[h4];exact⟨a2,a1⟩
    ·exact absurd hg (h3 gi a0)
  ·cases W
 refine⟨key.1,key.2,J.L,J.T,J.c,λe h=>?_⟩;rcases Z8.1 h with rfl|h
 ·exact .inl ⟨gi,a0,hg,key.1,J.c,key.2⟩
 ·exact J.env e (me h).1
theorem oh.und {ev:Nat->EV G}{st0:St G}{i gi W:Nat}(hD:Dis all k n)(hc:oh G all k st0 ev i st)(hg:dj (all.take k) gi=some W)(a1:gi<i)(J:gd (st.op (.tmp W))=some none):ev gi= .one .und/\nsp all k gi:=by
 unfold gd at J;split at J
 ·rename_i b h
  have:b= .und:=by
   cases b with
   |und=>rfl
   |dat t y oo=>cases t<;>cases oo<;>simp[AV.g?] at J
   |_=>simp[AV.g?] at J
  subst this;cases he:lke st.env W with
  |none=>simp[St.op,he,av?] at h
  | some e=>
   simp only[St.op,he] at h;have hm:=iH he
   have a2:e.2= .one .und:=by
    cases h2:e.2 with
    |one v=>simp only[h2,av?,Option.some.injEq] at h;rw[h]
    |tup vs=>simp[h2,av?] at h
   rcases hc.env _ hm with⟨j,hj,Z,h4,_,a0⟩|⟨Z,_⟩
   ·have:=hD.ne gi j W hg Z
    subst this;rw[h4];exact⟨a2,a0⟩
   ·exact absurd hg (Z gi a1)
 ·cases J
theorem xj {ρ:Type} {K:St G->Option ρ} {r:ρ} {st0:St G} (hD:Dis all k n):∀{os rest:List Oper} {i:Nat} {st:St G} {ev:Nat->EV G},(all.take k).drop i=os++rest->(∀o∈os,jo o=false)->oh G all k st0 ev i st->j6 n Γ D all k i os st K=some r->
  ∃ev' a5,(∀j,j<i->ev' j=ev j)/\(∀j o,i<=j->j<i+os.length->(all.take k)[j]? =some o->OpF G P Γ D n all k st0 ev' j o)/\K a5=some r/\oh G all k st0 ev' (i+os.length) a5:=by
 intro os
 induction os with
 |nil=>
  intro rest i st ev b5 _ hc h;exact⟨ev,st,λ_ _=>rfl,λj o hj b4 ho=>by simp at b4;omega,h,hc⟩
 | cons o os ih=>
  intro rest i st ev b5 b6 hc h
  have ho:(all.take k)[i]? =some o:=by
   have:=congrArg (·[0]?) b5;simpa using this
  have b7:all[i]? =some o:=by
   rw[Zh] at ho;split at ho
   ·exact ho
   ·cases ho
  have c1:(all.take k).drop (i+1)=os++rest:=by rw[←X9,b5];rfl
  have c4:∀o∈os,jo o=false:=λo' c2=>b6 o' (List.mem_cons_of_mem _ c2);have c7:nsp all k i:=λoq b2=>by rw[ho] at b2;injection b2 with b2;subst b2;exact b6 o (by simp)
  have go:∀{a1:St G} {e:EV G} {d:Nat},o.dst=some d->Z5 d n=true->oh G all k st0 ev i a1->j6 n Γ D all k (i+1) os (a1.put d e) K=some r->
    (∀ev':Nat->EV G,(∀j,j<i->ev' j=ev j)->ev' i=e->OpF G P Γ D n all k st0 ev' i o)->
    ∃ev' a5,(∀j,j<i->ev' j=ev j)/\(∀j o',i<=j->j<i+(o::os).length->(all.take k)[j]? =some o'->OpF G P Γ D n all k st0 ev' j o')/\K a5=some r/\oh G all k st0 ev' (i+(o::os).length) a5:=by
   intro a1 e d hd Z a0 h1 hf;have d0:=oh.step c7 a0 (ev':=λj=>if j=i then e else ev j) (VO.2 ⟨o,ho,hd⟩) (if_pos rfl) (λj hj=>if_neg (by omega));obtain⟨ev',a5,q1,q2,q3,q4⟩:=ih c1 c4 d0 h1;have e1:∀j,j<i->ev' j=ev j:=λj hj=>by rw[q1 j (by omega)];exact if_neg (by omega)
   have e2:ev' i=e:=by rw[q1 i (by omega)];exact if_pos rfl
   refine⟨ev',a5,e1,λj oj hj b4 b1=>?_,q3,by rw[List.length_cons,show i+(os.length+1)=i+1+os.length by omega];exact q4⟩;rw[List.length_cons] at b4;rcases Zs i j with hij|hij
   ·exact q2 j oj (by omega) (by omega) b1
   ·have:j=i:=by omega
    subst this;rw[ho] at b1;injection b1 with b1;subst b1
    exact hf ev' e1 e2
  have reads:∀{a1:St G},oh G all k st0 ev i a1->∀ev':Nat->EV G,(∀j,j<i->ev' j=ev j)->rR G all k st0 ev' i o (visρ all k i o a1):=by
   intro a1 a0 ev' J x e hx;have:=Cq hD b7 a0 x e hx;cases x with
   |tmp t=>
    rcases this with⟨q,h1,h2,h3,h4,h5⟩|h
    ·exact .inl ⟨q,h1,h2,h3,by rw[J q h2];exact h4,h5⟩
    ·exact .inr h
   |_=>exact this
  have b3:∀{a1:St G} {R:iw G} {b:R.β},oh G all k st0 ev i a1->sI Γ D (visρ all k i o a1) (eX st.L) o.op=some R->R.mv=some b->∀ev':Nat->EV G,(∀j,j<i->ev' j=ev j)->ev' i=R.k b->zu G P Γ D all k st0 ev' i o:=by
   intro a1 R b a0 hR W ev' J hi;exact⟨R,b,_,by rw[hc.L] at hR;exact hR,W,hi,reads a0 ev' J⟩
  unfold j6 at h;split at h
  ·rename_i d hd
   split at h
   ·rename_i Z a2
    split at h
    ·rename_i R hR
     cases W:R.mv with
     |none=>simp[W] at h
     |some b=>
      simp only[W,X4] at h;refine go hd Z hc h λev' J hi=>⟨d,hd,Z,?_⟩
      rw[a2];exact b3 hc hR W ev' J hi
    ·cases h
   ·rename_i g b Z a2
    split at h
    ·rename_i dg c6 a3
     have b0:g∈bj o:=by
      obtain⟨e,J,W⟩:=Z9.1 c6;have:=Z2 W;subst this;exact J
     have a6:=jY hD.ed b7 g b0;split at h
     ·rename_i x a9 hx
      obtain⟨k1,kn,a0⟩:=oh.lit hD hc a3 a6 hx;split at h
      ·rename_i c5
       rw[c5] at k1 a0;split at h
       ·split at h
        ·rename_i R hR
         cases W:R.mv with
         |none=>simp[W] at h
         |some b=>
          simp only[W,X4] at h;refine go hd Z a0 h λev' J hi=>⟨d,hd,Z,?_⟩
          rw[a2];exact⟨b0,kn,dg,a3,a9,.inl ⟨true,by rw[J g a6];exact k1,λ_=>b3 a0 hR W ev' J hi,λa4=>absurd rfl a4⟩⟩
        ·cases h
       ·refine go hd Z a0 h λev' J hi=>⟨d,hd,Z,?_⟩
        rw[a2];exact⟨b0,kn,dg,a3,a9,.inl ⟨true,by rw[J g a6];exact k1,(λa4=>Zw a4),λ_=>hi⟩⟩
      ·rename_i c3
       have c0:x=false:=by simpa using c3
       rw[c0] at k1 a0;split at h
       ·split at h
        ·rename_i R hR
         cases W:R.mv with
         |none=>simp[W] at h
         |some b=>
          simp only[W,X4] at h;refine go hd Z a0 h λev' J hi=>⟨d,hd,Z,?_⟩
          rw[a2];exact⟨b0,kn,dg,a3,a9,.inl ⟨false,by rw[J g a6];exact k1,λ_=>b3 a0 hR W ev' J hi,λa4=>absurd rfl a4⟩⟩
        ·cases h
       ·refine go hd Z a0 h λev' J hi=>⟨d,hd,Z,?_⟩
        rw[a2];exact⟨b0,kn,dg,a3,a9,.inl ⟨false,by rw[J g a6];exact k1,(λa4=>Zw a4),λ_=>hi⟩⟩
     ·rename_i a9 hx
      obtain⟨k1,kn⟩:=oh.und hD hc a3 a6 hx;refine go hd Z hc h λev' J hi=>⟨d,hd,Z,?_⟩
      rw[a2];exact⟨b0,kn,dg,a3,a9,.inr ⟨by rw[J g a6];exact k1,hi⟩⟩
     ·cases h
    ·cases h
   ·cases h
  ·cases h
theorem Al {g W:Nat}(h:dj (all.take k) g=some W):cB all.toArray g=some W:=by
 obtain⟨o,J,Z⟩:=VO.1 h;rw[Zh] at J;split at J
 ·exact VO.2 ⟨o,J,Z⟩
 ·cases J
theorem kU {j:Nat}{o:Oper}(h:(all.take k)[j]? =some o):all[j]? =some o/\j<k:=by
 rw[Zh] at h;split at h
 ·exact⟨h, ‹_›⟩
 ·cases h
theorem sJ {j:Nat}{o:Oper}(h:all[j]? =some o)(J:j<k):(all.take k)[j]? =some o:=by
 rw[Zh,if_pos J];exact h
theorem ga.drew {Ls:List (Nat×BC G)}{Ts:List Nat}(h:ga G W0 L0 T0 Ls Ts m z w):ga G W0 L0 T0 Ls Ts m z w.drew:=by
 obtain⟨Lc,Tc,J,Z,h3,W⟩:=h;exact⟨Lc,Tc,J,Z,h3.drew,W⟩
def OJ (G:Sg)(P:Program)(δ:List Nat)(n:Nat)(W0:Bse)(L0:Rs)(T0:List (Nat×Value))(all:List Oper)(k:Nat)(st:St G)(ev:Nat->EV G)(m:M)(z:Cz)(s:Nat->Bool)(a:Act)(w:World):Prop:=
 ∃ m',M.le m m'/\ga G W0 L0 T0 st.L st.T m' z w/\(a.defers=δ.map λD=>{ target:= .collected D,args:= #[] })/\a.tmps.size=n/\
   (∀(j:Nat) (o:Oper),(all.take k)[j]? =some o->s j=true->∀d,o.dst=some d->(ev j).Rel G P m' z (a.tmps.getD d undef))/\
   (∀e∈st.env,(∀(j:Nat) (o:Oper),(all.take k)[j]? =some o->o.dst=some e.1->s j=false)->e.2.2.Rel G P m' z (a.tmps.getD e.1 undef))
theorem OJ.reads {ev:Nat->EV G}{s:Nat->Bool}(hJ:OJ G P δ n W0 L0 T0 all k st ev m z s a w){i:Nat}{o:Oper}(a4:s i=false)(a2:∀e∈bj o,s e=true)(a0:∀(j:Nat)(o':Oper),all[j]? =some o'->s j=true->∀e∈bj o',s e=true)
  {ρ:Operand->Option (EV G)} (hR:rR G all k st ev i o ρ):∃m',∀x e,ρ x=some e->e.Rel G P m' z (a.eval x):=by
 obtain⟨m',hm,a6,a5,a9,a3,a1⟩:=hJ;refine⟨m',λx e hx=>?_⟩;have:=hR x e hx;cases x with
 | tmp t=>
  rcases this with⟨q,h,h2,h3,h4,_⟩|⟨⟨lv,h⟩,h2⟩
  ·obtain⟨W,J,Z⟩:=VO.1 h3
   rw[←h4];exact a3 q W J (a2 q h) t Z
  ·refine a1 _ h λq W J Z=>?_
   cases hsq:s q with
   |false=>rfl
   |true=>
    have:=a0 q W (kU J).1 hsq i (h2 q W J Z);rw[a4] at this;cases this
 |const v=>
  obtain⟨b,h,rfl⟩:=this;exact yq h
 |_=>exact this.elim
theorem xk {ev:Nat->EV G}(hD:Dis all k n)(e1:∀j o,(all.take k)[j]? =some o->OpF G P Γ D n all k st ev j o)(i:Nat)(o:Oper)(c2:all[i]? =some o)(d0:i<k)(s:Nat->Bool)(a:Act)(w:World)(hJ:OJ G P δ n W0 L0 T0 all k st ev m z s a w)(e0:s i=false)
  (b5:∀e∈bj o,s e=true) (c6:∀(j:Nat) (o':Oper),all[j]? =some o'->s j=true->∀e∈bj o',s e=true):
  if Region.wanted o (yielded all.toArray a.tmps)=true then be P o a w (λv w'=>OJ G P δ n W0 L0 T0 all k st ev m z (upd s i) (a.put o.dst v) w') else OJ G P δ n W0 L0 T0 all k st ev m z (upd s i) (a.put o.dst undef) w:=by
 obtain⟨m',hm,c0,b7,a5,b2,b4⟩:=hJ;have a6:=sJ c2 d0;obtain⟨d,hd,c3,a2⟩:=e1 i o a6;have e3:d<n:=Z3 c3
 have reads:∀{ρ:Operand->Option (EV G)},rR G all k st ev i o ρ->∀x e,ρ x=some e->e.Rel G P m' z (a.eval x):=by
  intro ρ hR x e hx;have:=hR x e hx;cases x with
  | tmp t=>
   rcases this with⟨q,h,W,h3,h4,_⟩|⟨⟨lv,h⟩,W⟩
   ·obtain⟨oq,a4,a1⟩:=VO.1 h3
    rw[←h4];exact b2 q oq a4 (b5 q h) t a1
   ·refine b4 _ h λq oq a4 a1=>?_
    cases hsq:s q with
    |false=>rfl
    |true=>
     have:=c6 q oq (kU a4).1 hsq i (W q oq a4 a1);rw[e0] at this;cases this
  |const v=>
   obtain⟨b,h,rfl⟩:=this;exact yq h
  |_=>exact this.elim
 have next:∀(v:Value) (w':World) (Z:M),M.le m' Z->ga G W0 L0 T0 st.L st.T Z z w'->(ev i).Rel G P Z z v->
   ∃m',M.le m m'/\ga G W0 L0 T0 st.L st.T m' z w'/\((a.put o.dst v).defers=δ.map λD=>{ target:= .collected D,args:= #[] })/\(a.put o.dst v).tmps.size=n/\
    (∀(j:Nat) (o':Oper),(all.take k)[j]? =some o'->upd s i j=true->∀d,o'.dst=some d->(ev j).Rel G P m' z ((a.put o.dst v).tmps.getD d undef))/\
    (∀e∈st.env,(∀(j:Nat) (o:Oper),(all.take k)[j]? =some o->o.dst=some e.1->upd s i j=false)->e.2.2.Rel G P m' z ((a.put o.dst v).tmps.getD e.1 undef)):=by
  intro v w' Z a9 d2 hv;rw[hd];refine⟨Z,hm.trans a9,d2,by simp[Act.put,b7],by simp[Act.put,a5],λj oj J hu e a0=>?_,λe he b3=>?_⟩
  ·by_cases hji:j=i
   ·subst hji
    rw[a6] at J;injection J with J;subst J
    rw[hd] at a0;injection a0 with a0;subst a0
    simpa[Act.put,a5,e3] using hv
   ·unfold upd at hu
    rw[if_neg hji] at hu;have h:=(b2 j oj J hu e a0).mono a9
    have b1:d≠e:=λx=>by
     subst x;exact hji (hD.ne j i d (VO.2 ⟨oj,J,a0⟩) (VO.2 ⟨o,a6,hd⟩))
    simpa[Act.put,Array.getElem?_setIfInBounds_ne b1] using h
  ·have b1:d≠e.1:=λx=>by
    have:=b3 i o a6 (by rw[hd,x]);simp[upd] at this
   have h:=(b4 e he λj oj J a1=>by
    have:=b3 j oj J a1;unfold upd at this;split at this
    ·cases this
    ·exact this).mono a9
   simpa[Act.put,Array.getElem?_setIfInBounds_ne b1] using h
 have run:zu G P Γ D all k st ev i o->be P o a w (λv w'=>∃m',M.le m m'/\ga G W0 L0 T0 st.L st.T m' z w'/\((a.put o.dst v).defers=δ.map λD=>{ target:= .collected D,args:= #[] })/\(a.put o.dst v).tmps.size=n/\
    (∀(j:Nat) (o':Oper),(all.take k)[j]? =some o'->upd s i j=true->∀d,o'.dst=some d->(ev j).Rel G P m' z ((a.put o.dst v).tmps.getD d undef))/\
    (∀e∈st.env,(∀(j:Nat) (o:Oper),(all.take k)[j]? =some o->o.dst=some e.1->upd s i j=false)->e.2.2.Rel G P m' z ((a.put o.dst v).tmps.getD e.1 undef))):=by
  rintro ⟨R,b,ρ,hR,hb,he,c5⟩;obtain⟨dst,op,ty,pos,aft,g⟩:=o;simp only at hd;subst hd;refine(Cp (d:=d) b7 a5 c0 (reads c5) R b hR hb).imp λv w' hq=>?_;obtain⟨Z,h,W,h3⟩:=hq;exact next v w' Z h W (by rw[he];exact h3)
 have b6:ev i= .one .und->∃m',M.le m m'/\ga G W0 L0 T0 st.L st.T m' z w/\((a.put o.dst undef).defers=δ.map λD=>{ target:= .collected D,args:= #[] })/\(a.put o.dst undef).tmps.size=n/\
    (∀(j:Nat) (o':Oper),(all.take k)[j]? =some o'->upd s i j=true->∀d,o'.dst=some d->(ev j).Rel G P m' z ((a.put o.dst undef).tmps.getD d undef))/\
    (∀e∈st.env,(∀(j:Nat) (o:Oper),(all.take k)[j]? =some o->o.dst=some e.1->upd s i j=false)->e.2.2.Rel G P m' z ((a.put o.dst undef).tmps.getD e.1 undef)):=
  λhe=>next undef w m' (Za m') c0 (by rw[he];rfl)
 cases hg:o.guard with
 |none=>
  rw[hg] at a2;have hw:Region.wanted o (yielded all.toArray a.tmps)=true:=by simp[Region.wanted,hg]
  rw[if_pos hw];exact run a2
 | some gb=>
  obtain⟨g,b⟩:=gb;rw[hg] at a2;obtain⟨d1,_,dg,b0,c7,hx⟩:=a2;obtain⟨og,c4,c1⟩:=VO.1 b0;have a3:=b2 g og c4 (b5 g d1) dg c1;rcases hx with⟨x,h,W,h3⟩|⟨h,W⟩
  ·rw[h] at a3
   have hv:a.tmps.getD dg undef= .bool x:=eS a3.1;have hy:=sH (all:=all) a5 (Al b0) c7 hv
   by_cases hxb:x=b
   ·have hw:Region.wanted o (yielded all.toArray a.tmps)=true:=by simp[Region.wanted,hg,hy,hxb]
    rw[if_pos hw];exact run (W hxb)
   ·have hw: ¬ Region.wanted o (yielded all.toArray a.tmps)=true:=by simp[Region.wanted,hg,hy,hxb]
    rw[if_neg hw];exact b6 (h3 hxb)
  ·rw[h] at a3
   have hv:a.tmps.getD dg undef=undef:=a3;have hy:=oS (Al b0) hv;have hw: ¬ Region.wanted o (yielded all.toArray a.tmps)=true:=by simp[Region.wanted,hg,hy]
   rw[if_neg hw];exact b6 W
theorem Ed {ρ:Type}{ev:Nat->EV G}{h:St G}(Z:oh G all k st ev (all.take k).length h)(h0:M.le m0 m)(a:Act)(w:World){s:Nat->Bool}(hJ:OJ G P δ n W0 L0 T0 all k st ev m z s a w)(b0:∀j,j<k->j<all.length->s j=true):
  Sat G P δ n W0 L0 T0 m0 h a w/\Ext st.c st h:=by
 obtain⟨m',hm,a6,a5,a9,a4,a3⟩:=hJ
 have a2:kA G P m' z h.env a:=by
  intro e he;rcases Z.env e he with⟨j,hj,h3,W,_⟩|⟨h3,W⟩
  ·obtain⟨o,J,a0⟩:=VO.1 h3
   rw[←W];exact a4 j o J (b0 j (kU J).2 (Z0.1 (kU J).1).1) e.1 a0
  ·refine a3 e W λj o J a0=>?_
   exact absurd (VO.2 ⟨o,J,a0⟩) (h3 j (Z0.1 J).1)
 have a1:Sat G P δ n W0 L0 T0 m0 h a w:=⟨⟨m',z,h0.trans hm,a2,by rw[Z.L,Z.T];exact a6⟩,a5,a9⟩
 have hX:Ext st.c st h:=by
  refine⟨λq hq e he hl=>?_,λq hq i s B hb hs=>⟨s,hs,by rw[Z.L] at hb;exact hb⟩⟩;rcases Z.env e he with⟨j,_,_,_,h5,_⟩|⟨_,W⟩
  ·omega
  ·exact⟨e.2.1,hl,W⟩
 exact⟨a1,hX⟩
theorem ME {ρ:Type}{ro:Option Nat}{id:Nat}{K':St G->Option ρ}{r:ρ}{N Rt:Act->World->Prop}{X:List (Nat×(Act->World->Prop))}(a0:(all.take k).any jo=false)(a1:P.follows .mixedOrders=true)(hs:Sat G P δ n W0 L0 T0 m0 st a w)(hD:Dis all k n)(a3:oy all k=true)
  (h:j6 n Γ D all k 0 (all.take k) st (λst'=>ic n Γ D all (all.drop k) st' K')=some r) (hN:Nxt G P δ n W0 L0 T0 m0 K' r st N):K ro P (.region id all.toArray true) N X Rt a w:=by
 obtain⟨⟨m,z,h0,hr,hM⟩,hdf,hsz⟩:=hs
 have a4:∀o∈all.take k,jo o=false:=λo W=>by
  cases hq:jo o with
  |false=>rfl
  |true=>rw[Z9.2 ⟨o,W,hq⟩] at a0;cases a0
 obtain⟨ev,a9,_,hF,hK,J⟩:=xj (G:=G) (P:=P) (st0:=st) (ev:=λ_=> .one .und) hD (i:=0) (rest:=[]) (by simp) a4 ⟨rfl,rfl,rfl,λe Z=> .inr ⟨λj hj=>by omega,Z⟩⟩ h;rw[Xe] at J;have a5:∀j o,(all.take k)[j]? =some o->OpF G P Γ D n all k st ev j o:=λj o W=>hF j o (Nat.zero_le _) (by have:=(Z0.1 W).1;omega) W;refine DH (k:=k) a1 hD.ed a3 (OJ G P δ n W0 L0 T0 all k st ev m z) ?_ (xk hD a5) ?_
 ·exact⟨m,Za m,hM.drew,hdf,hsz,(λj o _ h=>Zw h),λe Z _=>hr e Z⟩
 ·intro s a w hJ a6
  obtain⟨a2,hX⟩:=Ed (ρ:=ρ) J h0 a w hJ a6;exact zq hK a2 λst' a' w' q1 q2 q3 q4=>ae (hN st' a' w' q1 q2 (hX.trans (by rw[J.c] at q3;exact q3)) (by rw[q4,J.c]))
end
section
variable {G:Sg}{P:Program}{δ:List Nat}{n:Nat}{W0:Bse}{L0:Rs}{T0:List (Nat×Value)}{m m0:M}{z:Cz}{st:St G}{a:Act}{w:World}{Γ:Tab P G}{D:List (CS P G)}{g:Option (Nat×Bool)}{all:List Oper}{k:Nat}
theorem S.comm {A B C:List (Nat×List Value)}{TL:List (Nat×Value)}(h:S W0 m w (A++(B++C)) TL):S W0 m w (B++(A++C)) TL:=by
 refine h.selL _ (λi=>if i<B.length then i+A.length else if i<B.length+A.length then i - B.length else i) (λi e J=>?_) (λi j W=>?_)
 ·by_cases h1:i<B.length
  ·rw[if_pos h1]
   rw[Z4 h1] at J;rw[Z1 (by omega),Z4 (by omega),show i+A.length - A.length=i by omega];exact J
  ·rw[if_neg h1]
   rw[Z1 (by omega)] at J
   by_cases h2:i<B.length+A.length
   ·rw[if_pos h2]
    rw[Z4 (by omega)] at J;rw[Z4 (by omega)];exact J
   ·rw[if_neg h2]
    rw[Z1 (by omega)] at J;rw[Z1 (by omega),Z1 (by omega),show i - A.length - B.length=i - B.length - A.length by omega];exact J
 ·split at W<;>split at W<;>(try split at W)<;>(try split at W)<;>omega
def Ee (G:Sg)(m:M)(z:Cz)(done:Bool)(a:Act):Sp G->Nat×List Value->Prop
 | .al d t x,e=>match done with
  |true=>a.tmps.getD d undef= .pointer (some ⟨e.1,0,none⟩)/\(t.kd G).R m e.2 x
  |false=>e.2=[]
 | .so i t x,e=>∃p,fb z.b i=some p/\e.1=p.1/\match done with
  |true=>(t.kd G).R m e.2 x
  |false=>∃y,(t.kd G).R m e.2 y
def FrR (G:Sg)(m:M)(z:Cz)(s:Nat->Bool)(a:Act):List (Nat×Sp G)->List (Nat×List Value)->Prop
 |[],[]=>True
 |q::r,e::Fr=>Ee G m z (s q.1) a q.2 e/\FrR G m z s a r Fr
 |_,_=>False
theorem Ee.step {m':M}{b:Bool}{sp:Sp G}{e:Nat×List Value}{a':Act}(h:Ee G m z b a sp e)(hm:M.le m m')(ha:∀d t x,sp= .al d t x->a'.tmps.getD d undef=a.tmps.getD d undef):Ee G m' z b a' sp e:=by
 cases sp with
 |al d t x=>
  cases b with
  |true=>obtain⟨J,W⟩:=h;exact⟨by rw[ha d t x rfl];exact J,(t.kd G).mono hm W⟩
  |false=>exact h
 |so i t x=>
  obtain⟨p,J,W,Z⟩:=h;cases b with
  |true=>exact⟨p,J,W,(t.kd G).mono hm Z⟩
  |false=>obtain⟨y,Z⟩:=Z;exact⟨p,J,W,y,(t.kd G).mono hm Z⟩
theorem FrR.step {m':M}{s s':Nat->Bool}{a':Act}:∀{J:List (Nat×Sp G)} {Fr:List (Nat×List Value)},FrR G m z s a J Fr->M.le m m'->(∀q∈J,s' q.1=s q.1/\∀d t x,q.2= .al d t x->a'.tmps.getD d undef=a.tmps.getD d undef)->FrR G m' z s' a' J Fr:=by
 intro J
 induction J with
 |nil=>intro Fr h _ _;cases Fr with|nil=>trivial|cons e Fr=>exact h.elim
 | cons q r ih=>
  intro Fr h W Z;cases Fr with
  |nil=>exact h.elim
  |cons e Fr=>
   obtain⟨h1,h2⟩:=h;obtain⟨q1,q2⟩:=Z q (by simp);exact⟨by rw[q1];exact h1.step W q2,ih h2 W λx hx=>Z x (by simp[hx])⟩
theorem FrR.zz {z':Cz}{s:Nat->Bool}(Z:∀i p,fb z.b i=some p->fb z'.b i=some p):∀{J:List (Nat×Sp G)} {Fr:List (Nat×List Value)},FrR G m z s a J Fr->FrR G m z' s a J Fr:=by
 intro J
 induction J with
 |nil=>intro Fr h;cases Fr with|nil=>trivial|cons e Fr=>exact h.elim
 | cons q r ih=>
  intro Fr h;cases Fr with
  |nil=>exact h.elim
  |cons e Fr=>
   obtain⟨W,h2⟩:=h;refine⟨?_,ih h2⟩;obtain⟨j,sp⟩:=q;cases sp with
   |al d t x=>exact W
   |so i t x=>obtain⟨p,k1,k2⟩:=W;exact⟨p,Z i p k1,k2⟩
theorem FrR.set {s:Nat->Bool}:∀{J:List (Nat×Sp G)} {Fr:List (Nat×List Value)} {i:Nat} {sp:Sp G},FrR G m z s a J Fr->(i,sp)∈J->(J.map Prod.fst).Nodup->
  ∃p e,Fr[p]? =some e/\Ee G m z (s i) a sp e/\∀(m':M) (a':Act) (e':Nat×List Value),M.le m m'->Ee G m' z true a' sp e'->(∀q∈J,q.1≠i->∀d t x,q.2= .al d t x->a'.tmps.getD d undef=a.tmps.getD d undef)->FrR G m' z (upd s i) a' J (Fr.set p e'):=by
 intro J
 induction J with
 |nil=>intro Fr i sp _ hi;cases hi
 | cons q r ih=>
  intro Fr i sp h hi hn;cases Fr with
  |nil=>exact h.elim
  | cons e Fr=>
   obtain⟨h1,h2⟩:=h;simp only[Zr,List.nodup_cons] at hn;obtain⟨a0,a1⟩:=hn;rcases Z8.1 hi with hq|hi
   ·subst hq
    refine⟨0,e,rfl,h1,λm' a' e' hm he Z=>⟨?_,?_⟩⟩
    ·rw[show upd s i i=true from if_pos rfl];exact he
    ·refine h2.step hm λx hx=>?_
     have W:x.1≠i:=λe=>by
      have h5:=Zv (f:=Prod.fst) hx;rw[e] at h5;exact a0 h5
     exact⟨if_neg W,Z x (by simp[hx]) W⟩
   ·obtain⟨p,e1,k1,k2,k3⟩:=ih h2 hi a1
    have W:q.1≠i:=λe=>a0 (by rw[e];exact Zv (f:=Prod.fst) hi);refine⟨p+1,e1,k1,k2,λm' a' e' hm he Z=>⟨?_,k3 m' a' e' hm he λx hx=>Z x (by simp[hx])⟩⟩;rw[show upd s i q.1=s q.1 from if_neg W];exact h1.step hm (Z q (by simp) W)
theorem Ic {c:Nat}{X:List (Nat×List Value)}{TL:List (Nat×Value)}{Ls:List (Nat×BC G)}{Lc:List (Nat×List Value)}(h1:LR G m Ls z.b Lc)(hS:S W0 m w (Lc++X) TL):∀{gs:List (Option Nat)},gOK (eX Ls) gs=true->
  ∃(W Fr:List (Nat×List Value)),LR G m (fQ c gs Ls) z.b W/\S W0 m w (Fr++(W++X)) TL/\(∀j,(∀o∈gs,o≠some j)->fb (fQ c gs Ls) j=fb Ls j)/\
   (∀J:List (Nat×Sp G),J.map (λq=>q.2.blk)=gs->(∀q∈J,∀i t x,q.2= .so i t x->∃y,eX Ls i=some (.dat t y))->FrR G m z (λ_=>false) a J Fr):=by
 intro gs
 induction gs with
 |nil=>
  intro _;refine⟨Lc,[],h1,hS,λ_ _=>rfl,λJ h _=>?_⟩;cases J with
  |nil=>trivial
  |cons q r=>simp at h
 | cons o gs ih=>
  intro hg;cases o with
  | none=>
   obtain⟨W,Fr,k1,k2,k3,k4⟩:=ih hg;refine⟨W,(0,[])::Fr,k1,k2.void 0,λj hj=>k3 j λo ho=>hj o (by simp[ho]),λJ h Z=>?_⟩;cases J with
   |nil=>simp at h
   |cons q r=>
    simp only[Zr,List.cons.injEq] at h;obtain⟨a0,a2⟩:=h;refine⟨?_,k4 r a2 λx hx=>Z x (by simp[hx])⟩;obtain⟨j,sp⟩:=q;cases sp with
    |al d t x=>exact rfl
    |so i t x=>simp[Sp.blk] at a0
  | some i=>
   simp only[gOK,Z7] at hg;obtain⟨⟨a3,a5⟩,hg3⟩:=hg;obtain⟨W,Fr,k1,k2,k3,k4⟩:=ih hg3
   have a6:∀o∈gs,o≠some i:=λo ho e=>by
    subst e;have:gs.any (λj=>decide (j=some i))=true:=Z9.2 ⟨some i,ho,by simp⟩;rw[this] at a5;cases a5
   split at a3
   ·rename_i t y hB
    obtain⟨lv,a9⟩:=iy hB;have b0:fb (fQ c gs Ls) i=some (lv,.dat t y):=by rw[k3 i a6];exact a9
    obtain⟨p,cs,j,g1,g2,g3,g4⟩:=k1.get b0;have g5:=g4 (c,.gone) p.2 [] rfl;rw[kR g1] at g5
    have e0:(Fr++(W++X))[Fr.length+j]? =some (p.1,cs):=by
     rw[Z1 (by omega),show Fr.length+j - Fr.length=j by omega];exact kS g2
    have a4:=k2.takeL e0
    have e1:(Fr++(W++X)).set (Fr.length+j) (p.1,[])=Fr++(W.set j (p.1,[])++X):=by
     rw[Zz _ _ (by omega),show Fr.length+j - Fr.length=j by omega,mf g2]
    rw[e1] at a4;refine⟨_,(p.1,cs)::Fr,g5,a4,λq Z=>?_,λJ h Z=>?_⟩
    ·show fb (sb (fQ c gs Ls) i (c,.gone)) q=_
     rw[ky (λe=>Z (some i) (by simp) (by rw[e]))];exact k3 q λo ho=>Z o (by simp[ho])
    ·cases J with
     |nil=>simp at h
     | cons q r=>
      simp only[Zr,List.cons.injEq] at h;obtain⟨a0,a2⟩:=h;refine⟨?_,k4 r a2 λx hx=>Z x (by simp[hx])⟩;obtain⟨j',sp⟩:=q;cases sp with
      |al d t x=>simp[Sp.blk] at a0
      |so i' t' x=>
       simp only[Sp.blk,Option.some.injEq] at a0;subst a0;obtain⟨y',a1⟩:=Z (j',.so i' t' x) (by simp) i' t' x rfl;rw[hB] at a1;injection a1 with a1
       injection a1 with e2 e3
       subst e2;exact⟨p,g1,rfl,y,g3⟩
   ·cases a3
def gND:List (Option Nat)->Prop
 |[]=>True
 |none::r=>gND r
 |some i::r=>(∀o∈r,o≠some i)/\gND r
theorem N8 {W:Nat->Option (BC G)}:∀{gs:List (Option Nat)},gOK W gs=true->gND gs:=by
 intro gs
 induction gs with
 |nil=>intro _;trivial
 | cons o gs ih=>
  intro h;cases o with
  |none=>exact ih h
  |some i=>
   simp only[gOK,Z7] at h;obtain⟨⟨_,J⟩,hg3⟩:=h;refine⟨λo Z e=>?_,ih hg3⟩;subst e;have:gs.any (λj=>decide (j=some i))=true:=Z9.2 ⟨some i,Z,by simp⟩;rw[this] at J;cases J
theorem MG {c:Nat}{Ls:List (Nat×BC G)}:∀{gs:List (Option Nat)},gOK (eX Ls) gs=true->∀i,some i∈gs->∃lv,fb (fQ c gs Ls) i=some (lv,.gone):=by
 intro gs
 induction gs with
 |nil=>intro _ i hi;cases hi
 | cons o gs ih=>
  intro W i hi;cases o with
  |none=>exact ih W i (by simpa using hi)
  | some q=>
   simp only[gOK,Z7] at W;obtain⟨⟨Z,_⟩,hg3⟩:=W;show∃lv,fb (sb (fQ c gs Ls) q (c,.gone)) i=some (lv,.gone)
   by_cases hq:q=i
   ·subst hq
    have key:∀{gs:List (Option Nat)} {q:Nat} {e:Nat×BC G},fb Ls q=some e->∃e',fb (fQ c gs Ls) q=some e':=by
     intro gs
     induction gs with
     |nil=>intro q e h;exact⟨e,h⟩
     | cons o gs ih2=>
      intro q e h;cases o with
      |none=>exact ih2 h
      |some j=>
       obtain⟨e',J⟩:=ih2 h;show∃e',fb (sb (fQ c gs Ls) j (c,.gone)) q=some e'
       by_cases hj:j=q
       ·subst hj;exact⟨_,pk J⟩
       ·exact⟨e',by rw[ky hj];exact J⟩
    split at Z
    ·rename_i t y hB
     obtain⟨lv,a0⟩:=iy hB;obtain⟨e',J⟩:=key a0 (gs:=gs);exact⟨c,pk J⟩
    ·cases Z
   ·rw[ky hq]
    rcases Z8.1 hi with h|h
    ·injection h with h;exact absurd h.symm hq
    ·exact ih hg3 i h
theorem Ext.gone {gs:List (Option Nat)}:Ext st.c st { st with L:=fQ st.c gs st.L }:=by
 induction gs with
 |nil=>exact Ext.refl _ _
 |cons o gs ih=>
  cases o with
  |none=>exact ih
  |some i=>exact ih.trans (Ext.setB (st:={ st with L:=fQ st.c gs st.L }) (i:=i) (B:= .gone))
theorem N9 {X:List (Nat×List Value)}{TL:List (Nat×Value)}{nm:List (Nat×Value)}{s:Nat->Bool}:∀{J:List (Nat×Sp G)} {Fr Lc:List (Nat×List Value)} {st:St G} {z:Cz},FrR G m z s a J Fr->(∀q∈J,s q.1=true)->gND (J.map λq=>q.2.blk)->(∀i,some i∈J.map (λq=>q.2.blk)->∃lv,fb st.L i=some (lv,.gone))->
  kA G P m z st.env a->LR G m st.L z.b Lc->S W0 m w (Lc++(Fr++X)) TL->Sfx z.b nm->
  ∃(z':Cz) (W:List (Nat×List Value)),z'.t=z.t/\kA G P m z' (mg J st).env a/\LR G m (mg J st).L z'.b W/\S W0 m w (W++X) TL/\Sfx z'.b nm/\Ext st.c st (mg J st)/\(mg J st).c=st.c/\(mg J st).T=st.T:=by
 intro J
 induction J with
 |nil=>
  intro Fr Lc st z hF _ _ _ hr Z hS a0;cases Fr with
  |nil=>exact⟨z,Lc,rfl,hr,Z,hS,a0,Ext.refl _ _,rfl,rfl⟩
  |cons e Fr=>exact hF.elim
 | cons q r ih=>
  intro Fr Lc st z hF hs a6 hg hr Z hS a0;cases Fr with
  |nil=>exact hF.elim
  | cons e Fr=>
   obtain⟨a2,a4⟩:=hF;have hq:=hs q (by simp);have a3:∀q∈r,s q.1=true:=λx hx=>hs x (by simp[hx]);obtain⟨j,sp⟩:=q;simp only at hq;rw[hq] at a2;have a1:S W0 m w (e::(Lc++(Fr++X))) TL:=S.comm (A:=Lc) (B:=[e]) (C:=Fr++X) hS;cases sp with
   | al d t x=>
    obtain⟨f1,f2⟩:=a2;have b0:=Z.len.1
    have b2:kA G P m ⟨(e.1,undef)::z.b,z.t⟩ ((st.push (.dat t x)).put d (.one (.blk st.L.length))).env a:=by
     intro y hy;rcases Z8.1 hy with rfl|hy
     ·exact⟨_,by rw[←b0];exact jZ,f1⟩
     ·exact(hr y (me hy).1).z (Zle.pushB z _)
    have b3:gND (r.map λq=>q.2.blk):=a6
    obtain⟨z',W,k0,k1,k2,k3,k4,k5,k6,k7⟩:=ih (z:=⟨(e.1,undef)::z.b,z.t⟩) (Lc:=e::Lc) (st:=(st.push (.dat t x)).put d (.one (.blk st.L.length))) (a4.zz λi p h=>yp h) a3 b3 (λi hi=>by
     obtain⟨lv,h⟩:=hg i (by simp only[Zr,Z8];exact .inr hi)
     exact⟨lv,yp h⟩) b2 ⟨rfl,f2,Z⟩ a1 a0.cons
    exact⟨z',W,k0,k1,k2,k3,k4,Ext.push_put.trans k5,k6,k7⟩
   | so i t x=>
    obtain⟨p,f1,f2,f3⟩:=a2;have a5:(∀o∈r.map (λq=>q.2.blk),o≠some i)/\gND (r.map λq=>q.2.blk):=a6;obtain⟨lv,b4⟩:=hg i (by simp[Sp.blk]);obtain⟨p',cs,j',g1,g2,g3,g4⟩:=Z.get b4;rw[f1] at g1;injection g1 with g1;subst g1
    have b5:cs=[]:=g3;subst b5;have g5:=g4 (st.c,.dat t x) p.2 e.2 f3;rw[kR f1] at g5;have ee:e=(p.1,e.2):=by rw[←f2]
    rw[ee] at a1;have a9:=a1.putL (kS (l0:=Fr++X) g2);rw[mf g2] at a9
    obtain⟨z',W,k0,k1,k2,k3,k4,k5,k6,k7⟩:=ih (z:=z) (st:=st.setB i (.dat t x)) a4 a3 a5.2 (λq hq=>by
     obtain⟨b1,h⟩:=hg q (by simp only[Zr,Z8];exact .inr hq)
     exact⟨b1,by
      show fb (sb st.L i _) q=_
      rw[ky (λe=>a5.1 (some q) hq (by rw[e]))];exact h⟩) hr g5 a9 a0
    exact⟨z',W,k0,k1,k2,k3,k4,Ext.setB.trans k5,k6,k7⟩
def SpF (G:Sg)(P:Program)(Γ:Tab P G)(n:Nat)(all:List Oper)(k:Nat)(h:Nat->Option (BC G))(st0:St G)(ev:Nat->EV G)(j:Nat)(sp:Sp G):Prop:=
 ∃o ρ,(all.take k)[j]? =some o/\jo o=true/\yu n o.dst=true/\GZ Γ ρ h o=some sp/\rR G all k st0 ev j o ρ
theorem rR.congr {st0:St G}{ev ev':Nat->EV G}{j:Nat}{o:Oper}{ρ:Operand->Option (EV G)}(h:rR G all k st0 ev j o ρ)(W:∀q,q<j->ev' q=ev q):rR G all k st0 ev' j o ρ:=by
 intro x e hx;have:=h x e hx;cases x with
 |tmp t=>
  rcases this with⟨q,h1,J,h3,h4,Z⟩|h
  ·exact .inl ⟨q,h1,J,h3,by rw[W q J];exact h4,Z⟩
  ·exact .inr h
 |_=>exact this
theorem OpF.congr {st0:St G}{ev ev':Nat->EV G}{j:Nat}{o:Oper}(h:OpF G P Γ D n all k st0 ev j o)(hD:Dis all k n)(ho:all[j]? =some o)(W:∀q,q<j+1->ev' q=ev q):OpF G P Γ D n all k st0 ev' j o:=by
 have hx:zu G P Γ D all k st0 ev j o->zu G P Γ D all k st0 ev' j o:=by
  rintro ⟨R,b,ρ,Z,h2,J,h4⟩;exact⟨R,b,ρ,Z,h2,by rw[W j (by omega)];exact J,h4.congr λq hq=>W q (by omega)⟩
 obtain⟨d,Z,h2,J⟩:=h;refine⟨d,Z,h2,?_⟩;cases hg:o.guard with
 |none=>rw[hg] at J;exact hx J
 |some gb=>
  obtain⟨g,b⟩:=gb;rw[hg] at J;obtain⟨k1,k2,dg,k3,k4,k5⟩:=J;have a0:=jY hD.ed ho g k1;refine⟨k1,k2,dg,k3,k4,?_⟩;rw[W g (by omega),W j (by omega)];rcases k5 with⟨x,q1,q2,q3⟩|q
  ·exact .inl ⟨x,q1,λhb=>hx (q2 hb),q3⟩
  ·exact .inr q
structure yw (G:Sg)(P:Program)(Γ:Tab P G)(n:Nat)(all:List Oper)(k:Nat)(Lv:Nat->Option (BC G))(st0:St G)(ev:Nat->EV G)(i:Nat)(acc:List (Nat×Sp G)):Prop where
 lt:∀q∈acc,q.1<i
 f:∀q∈acc,SpF G P Γ n all k Lv st0 ev q.1 q.2
 nd:(acc.map Prod.fst).Nodup
 al:∀j o,j<i->(all.take k)[j]? =some o->jo o=true->∃sp,(j,sp)∈acc
theorem yw.congr {W:Nat->Option (BC G)}{st0:St G}{ev ev':Nat->EV G}{i:Nat}{J:List (Nat×Sp G)}(h:yw G P Γ n all k W st0 ev i J)(he:∀q,q<i->ev' q=ev q):yw G P Γ n all k W st0 ev' i J:=
 ⟨h.lt,λq Z=>by
  obtain⟨o,ρ,h1,h2,h3,h4,h5⟩:=h.f q Z
  exact⟨o,ρ,h1,h2,h3,h4,h5.congr λx hx=>he x (by have:=h.lt q Z;omega)⟩,h.nd,h.al⟩
theorem G0 {ρ:Type} {K:St G->List (Nat×Sp G)->Option ρ} {r:ρ} {st0:St G} {Lv:Nat->Option (BC G)} (hD:Dis all k n):∀{os:List Oper} {i:Nat} {st:St G} {a2:List (Nat×Sp G)} {ev:Nat->EV G},(all.take k).drop i=os->oh G all k st0 ev i st->yw G P Γ n all k Lv st0 ev i a2->
  sw n Γ D all k Lv i os st a2 K=some r->
  ∃ev' a4 a3,(∀j,j<i->ev' j=ev j)/\(∀j o,i<=j->(all.take k)[j]? =some o->jo o=false->OpF G P Γ D n all k st0 ev' j o)/\yw G P Γ n all k Lv st0 ev' (all.take k).length a4/\K a3 a4=some r/\oh G all k st0 ev' (all.take k).length a3:=by
 intro os
 induction os with
 | nil=>
  intro i st a2 ev a9 Z ha h
  have c3:(all.take k).length<=i:=by
   have:=congrArg List.length a9;simp only[List.length_drop,List.length_nil] at this;omega
  refine⟨ev,a2,st,λ_ _=>rfl,λj o hj ho=>?_,⟨λq W=>?_,ha.f,ha.nd,λj o hj ho=>ha.al j o (by omega) ho⟩,h,⟨Z.L,Z.T,Z.c,λe he=>?_⟩⟩
  ·have:=(Z0.1 ho).1;omega
  ·obtain⟨o,_,h1,_⟩:=ha.f q W
   exact(Z0.1 h1).1
  ·rcases Z.env e he with⟨j,hj,h3,h4⟩|⟨h3,h4⟩
   ·obtain⟨o,ho,_⟩:=VO.1 h3
    exact .inl ⟨j,(Z0.1 ho).1,h3,h4⟩
   ·refine .inr ⟨λj hj=>h3 j (by omega),h4⟩
 | cons o os ih=>
  intro i st a2 ev a9 Z ha h
  have ho:(all.take k)[i]? =some o:=by
   have:=congrArg (·[0]?) a9;simpa using this
  have c2:all[i]? =some o:=(kU ho).1;have b0:(all.take k).drop (i+1)=os:=by rw[←X9,a9];rfl
  unfold sw at h;split at h
  ·rename_i a5
   split at h
   ·rename_i sp b1 hs
    have hR:=Cq hD c2 Z
    have b2:oh G all k st0 ev (i+1) (match o.dst with|some d=>{ st with env:=rmk st.env d }|none=>st):=by
     cases hd:o.dst with
     | none=>
      refine⟨Z.L,Z.T,Z.c,λe he=>?_⟩;rcases Z.env e he with⟨j,hj,h3⟩|⟨h3,h4⟩
      ·exact .inl ⟨j,by omega,h3⟩
      ·refine .inr ⟨λj hj a6=>?_,h4⟩
       rcases Zs j i with hji|hji
       ·exact h3 j hji a6
       ·have:j=i:=by omega
        subst this;obtain⟨o',J,a1⟩:=VO.1 a6;rw[ho] at J;injection J with J;subst J
        rw[hd] at a1;cases a1
     | some d=>
      refine⟨Z.L,Z.T,Z.c,λe he=>?_⟩;obtain⟨b6,b5⟩:=me he;rcases Z.env e b6 with⟨j,hj,h3⟩|⟨h3,h4⟩
      ·exact .inl ⟨j,by omega,h3⟩
      ·refine .inr ⟨λj hj a6=>?_,h4⟩
       rcases Zs j i with hji|hji
       ·exact h3 j hji a6
       ·have:j=i:=by omega
        subst this;obtain⟨o',J,a1⟩:=VO.1 a6;rw[ho] at J;injection J with J;subst J
        rw[hd] at a1;injection a1 with a1
        exact b5 a1.symm
    have b4:yw G P Γ n all k Lv st0 ev (i+1) (a2++[(i,sp)]):=by
     refine⟨λq W=>?_,λq W=>?_,?_,λj o' hj J a0=>?_⟩
     ·rcases Zm.1 W with W|W
      ·have:=ha.lt q W;omega
      ·simp only[Zq] at W;subst W;simp
     ·rcases Zm.1 W with W|W
      ·exact ha.f q W
      ·simp only[Zq] at W;subst W
       exact⟨o,_,ho,a5,b1,hs,hR⟩
     ·rw[List.map_append,List.nodup_append]
      refine⟨ha.nd,by simp,λx hx y hy=>?_⟩;simp only[Zr,Xg,Zq] at hy;subst hy;obtain⟨q,W,rfl⟩:=Zy.1 hx;have:=ha.lt q W;omega
     ·rcases Zs j i with hji|hji
      ·obtain⟨c1,h1⟩:=ha.al j o' hji J a0
       exact⟨c1,Zm.2 (.inl h1)⟩
      ·have:j=i:=by omega
       subst this;exact⟨sp,by simp⟩
    obtain⟨ev',a4,a3,q1,q2,q3,q4,q5⟩:=ih b0 b2 b4 h;refine⟨ev',a4,a3,λj hj=>q1 j (by omega),λj o' hj J a0=>?_,q3,q4,q5⟩;rcases Zs i j with hij|hij
    ·exact q2 j o' (by omega) J a0
    ·have:j=i:=by omega
     subst this;rw[ho] at J;injection J with J;subst J
     rw[a5] at a0;cases a0
   ·cases h
  ·rename_i a5
   obtain⟨c0,c4,p1,p2,p3,p4⟩:=xj (os:=[o]) (rest:=os) hD a9 (λo' J=>by simp only[Zq] at J;subst J;exact a5) Z h
   have b7:yw G P Γ n all k Lv st0 c0 (i+1) a2:=by
    have:=ha.congr p1;refine⟨λq W=>by have:=ha.lt q W;omega,this.f,this.nd,λj o' hj J a0=>?_⟩;rcases Zs j i with hji|hji
    ·exact ha.al j o' hji J a0
    ·have:j=i:=by omega
     subst this;rw[ho] at J;injection J with J;subst J
     rw[a5] at a0;cases a0
   obtain⟨ev',a4,a3,q1,q2,q3,q4,q5⟩:=ih b0 p4 b7 p3;refine⟨ev',a4,a3,λj hj=>by rw[q1 j (by omega)];exact p1 j hj,λj o' hj J a0=>?_,q3,q4,q5⟩;rcases Zs i j with hij|hij
   ·exact q2 j o' (by omega) J a0
   ·have:j=i:=by omega
    subst this;have b3:=p2 j o' (by omega) (by simp) J;exact b3.congr hD (kU J).1 (λq W=>q1 q (by omega))
theorem zw {Lv:Nat->Option (BC G)}{ρ:Operand->Option (EV G)}{o:Oper}{sp:Sp G}(h:GZ Γ ρ Lv o=some sp):
  (∃(d:Nat) (t:TypeId) (I:TI P G t),o.guard=none/\o.dst=some d/\o.op= .alloc t/\sp= .al d I.T I.z)\/
  (∃(t:TypeId) (x y:Operand) (I:TI P G t) (i:Nat) (b:AV G) (u:I.T.den G) (Z:I.T.den G),o.guard=none/\o.dst=none/\o.op= .store t x y/\av? (ρ x)=some (.blk i)/\av? (ρ y)=some b/\Lv i=some (.dat I.T Z)/\b.as Γ I.T=some u/\sp= .so i I.T u):=by
 unfold GZ at h;split at h
 ·rename_i d t J W ho
  split at h
  ·rename_i I _ _
   injection h with h
   exact .inl ⟨d,t,I,J,W,ho,h.symm⟩
  ·cases h
 ·rename_i t x y J W ho
  split at h
  ·rename_i I i b hI hx hy
   split at h
   ·rename_i c Z hL
    split at h
    ·rename_i hc
     subst hc;split at h
     ·rename_i u hu
      injection h with h
      exact .inr ⟨t,x,y,I,i,b,u,Z,J,W,ho,hx,hy,hL,hu,h.symm⟩
     ·cases h
    ·cases h
   ·cases h
  ·cases h
 ·cases h
theorem Kq {ρ:Type}{ro:Option Nat}{id:Nat}{K':St G->Option ρ}{r:ρ}{N Rt:Act->World->Prop}{X:List (Nat×(Act->World->Prop))}(l2:P.follows .mixedOrders=true)(hs:Sat G P δ n W0 L0 T0 m0 st a w)(hD:Dis all k n)(m3:oy all k=true)
  (g0:gOK (eX st.L) (stG st (all.take k))=true) (h:sw n Γ D all k (eX st.L) 0 (all.take k) { st with L:=fQ st.c (stG st (all.take k)) st.L } [] (λst' a4=>if a4.map (λq=>q.2.blk)=stG st (all.take k) then ic n Γ D all (all.drop k) (mg a4 st') K' else none)=some r) (hN:Nxt G P δ n W0 L0 T0 m0 K' r st N):K ro P (.region id all.toArray true) N X Rt a w:=by
 obtain⟨⟨m,z,h0,hr,hM⟩,b1,a5⟩:=hs;obtain⟨ev,a4,d1,_,j1,hA,g7,hC⟩:=G0 (G:=G) (P:=P) (st0:={ st with L:=fQ st.c (stG st (all.take k)) st.L }) (ev:=λ_=> .one .und) hD (i:=0) rfl ⟨rfl,rfl,rfl,λe W=> .inr ⟨λj hj=>by omega,W⟩⟩ ⟨λq J=>(by cases J),λq J=>(by cases J),by simp,λj o hj=>(by omega)⟩ h;have k7:∀j o,(all.take k)[j]? =some o->jo o=false->OpF G P Γ D n all k { st with L:=fQ st.c (stG st (all.take k)) st.L } ev j o:=λj o ho=>j1 j o (Nat.zero_le _) ho;split at g7
 rotate_left
 ·cases g7
 rename_i g6;have hK:=g7;obtain⟨Lc,Tc,Z,h2,hS,b7⟩:=hM;obtain⟨k6,h9,k1,k2,_,k4⟩:=Ic (a:=a) (c:=st.c) Z hS g0
 have j3:=k4 a4 g6 (λq J i t x W=>by
  obtain⟨o,ρ,_,_,_,hs,_⟩:=hA.f q J;rcases zw hs with⟨d,t',I,_,_,_,e⟩|⟨t',x',y',I,i',b,u,y0,_,_,_,_,_,e5,_,e7⟩
  ·rw[W] at e;cases e
  ·rw[W] at e7;injection e7 with e1 e2 e3;subst e1;subst e2;exact⟨y0,e5⟩)
 have hM:ga G W0 ⟨h9++L0.l,L0.nm⟩ T0 (fQ st.c (stG st (all.take k)) st.L) st.T m z w:=⟨k6,Tc,k1,h2,k2.comm,b7⟩
 have i3:∀q∈a4,∀d t x,q.2= .al d t x->dj (all.take k) q.1=some d:=by
  intro q J d t x W;obtain⟨o,ρ,ho,_,_,hs,_⟩:=hA.f q J;rcases zw hs with⟨d',t',I,_,hd,_,e⟩|⟨t',x',y',I,i',b,u,y0,_,_,_,_,_,_,_,e7⟩
  ·rw[W] at e;injection e with e1;subst e1;exact VO.2 ⟨o,ho,hd⟩
  ·rw[W] at e7;cases e7
 refine DH (k:=k) l2 hD.ed m3 (λs a w=>∃m' Fr,M.le m m'/\FrR G m' z s a a4 Fr/\ga G W0 ⟨Fr++L0.l,L0.nm⟩ T0 (fQ st.c (stG st (all.take k)) st.L) st.T m' z w/\(a.defers=δ.map λD=>{ target:= .collected D,args:= #[] })/\a.tmps.size=n/\
   (∀(j:Nat) (o:Oper),(all.take k)[j]? =some o->jo o=false->s j=true->∀d,o.dst=some d->(ev j).Rel G P m' z (a.tmps.getD d undef))/\
   (∀e∈st.env,(∀(j:Nat) (o:Oper),(all.take k)[j]? =some o->o.dst=some e.1->s j=false)->e.2.2.Rel G P m' z (a.tmps.getD e.1 undef))) ?_ ?_ ?_
 ·exact⟨m,h9,Za m,j3,hM.drew,b1,a5,(λj o _ _ h=>Zw h),λe W _=>hr e W⟩
 ·rintro i o m1 k0 s a w ⟨m',Fr,hm,e9,g9,b1,a5,b5,d0⟩ hsi hpre hcl
  have a2:=sJ m1 k0
  have reads:∀{ρ:Operand->Option (EV G)},rR G all k { st with L:=fQ st.c (stG st (all.take k)) st.L } ev i o ρ->∀x e,ρ x=some e->e.Rel G P m' z (a.eval x):=by
   intro ρ hR x e hx;have:=hR x e hx;cases x with
   | tmp t=>
    rcases this with⟨q,Z,h2,h3,h4,m5⟩|⟨⟨lv,Z⟩,h2⟩
    ·obtain⟨oq,e6,a1⟩:=VO.1 h3
     rw[←h4];exact b5 q oq e6 (m5 oq e6) (hpre q Z) t a1
    ·refine d0 _ Z λq oq e6 a1=>?_
     cases hsq:s q with
     |false=>rfl
     |true=>
      have:=hcl q oq (kU e6).1 hsq i (h2 q oq e6 a1);rw[hsi] at this;cases this
   |const v=>
    obtain⟨b,Z,rfl⟩:=this;exact yq Z
   |_=>exact this.elim
  cases hsp:jo o with
  | true=>
   obtain⟨sp,i4⟩:=hA.al i o (Z0.1 a2).1 a2 hsp;obtain⟨o',ρ,a6,_,f6,hs,hR⟩:=hA.f _ i4;simp only at a6;rw[a2] at a6;injection a6 with a6;subst a6
   obtain⟨p,e,g1,g2,g3⟩:=e9.set i4 hA.nd;rw[hsi] at g2
   have f0:∀(j:Nat) (oj:Oper),(all.take k)[j]? =some oj->jo oj=false->j≠i:=λj oj hj a9 e=>by
    subst e;rw[a2] at hj;injection hj with hj;subst hj
    rw[hsp] at a9;cases a9
   obtain⟨Lc,Tc,Z,h2,hS,b7⟩:=g9
   have e0:(Lc++(Fr++L0.l))[Lc.length+p]? =some e:=by
    rw[Z1 (by omega),show Lc.length+p - Lc.length=p by omega];exact kS g1
   have e1:∀e',(Lc++(Fr++L0.l)).set (Lc.length+p) e'=Lc++(Fr.set p e'++L0.l):=λe'=>by
    rw[Zz _ _ (by omega),show Lc.length+p - Lc.length=p by omega,mf g1]
   rcases zw hs with⟨d,t,I,hg,hd,b0,rfl⟩|⟨t,x,y,I,bi,b,u,y0,hg,hd,b0,hx,hy,m6,hu,rfl⟩
   ·have hw:Region.wanted o (yielded all.toArray a.tmps)=true:=by simp[Region.wanted,hg]
    rw[if_pos hw];obtain⟨dst,op,ty,pos,aft,g⟩:=o;simp only at hd b0 hg;subst hd;subst b0;subst hg;have h6:d<n:=Z3 f6;refine(dv hS I.hz (cs:=I.zv.cells.toList) (by simp)).imp λv w' J=>?_;obtain⟨b,rfl,f4⟩:=J
    have g5:e=(e.1,[]):=by
     have g2:e.2=[]:=g2;rw[←g2]
    rw[g5] at e0;have i0:=f4.putL e0;rw[e1] at i0
    have g4:∀q,q≠d->(a.put (some d) (.pointer (some ⟨b,0,none⟩))).tmps.getD q undef=a.tmps.getD q undef:=λq J=>by
     simp[Act.put,Array.getElem?_setIfInBounds_ne (Ne.symm J)]
    refine⟨m',Fr.set p (b,I.zv.cells.toList),hm,g3 m' _ _ (Za m') ⟨by simp[Act.put,a5,h6],I.hzR m'⟩ (λq J d2 d' t' x' W=>g4 d' λe=>d2 ?_),⟨Lc,Tc,Z,h2,i0,b7⟩,by simp[Act.put,b1],by simp[Act.put,a5],λj oj a0 a9 b4 dd f3=>?_,λe' g8 b3=>?_⟩
    ·subst e
     exact hD.ne q.1 i _ (i3 q J _ t' x' W) (VO.2 ⟨_,a2,rfl⟩)
    ·have b2:=f0 j oj a0 a9
     unfold upd at b4;rw[if_neg b2] at b4;rw[g4 dd λe=>b2 (hD.ne j i dd (VO.2 ⟨oj,a0,f3⟩) (VO.2 ⟨_,a2,by rw[e]⟩))];exact b5 j oj a0 a9 b4 dd f3
    ·have e4:e'.1≠d:=λe=>by
      have:=b3 i _ a2 (by rw[e]);simp[upd] at this
     rw[g4 _ e4]
     exact d0 e' g8 λj oj a0 a1=>by
      have:=b3 j oj a0 a1;unfold upd at this;split at this
      ·cases this
      ·exact this
   ·have hw:Region.wanted o (yielded all.toArray a.tmps)=true:=by simp[Region.wanted,hg]
    rw[if_pos hw];obtain⟨dst,op,ty,pos,aft,g⟩:=o;simp only at hd b0 hg;subst hd;subst b0;subst hg;obtain⟨l,hE,hl⟩:=d5 b1 a5 [x,y];obtain⟨p1,q1,q2⟩:=bm (reads hR) hx;obtain⟨p2,q3,q4,yy,q5⟩:=g2;rw[q1] at q3;injection q3 with q3;subst q3
    have g5:e=(p1.1,e.2):=by rw[←q4]
    rw[g5] at e0;have h8:=hl x (by simp);rw[q2] at h8;refine(dh hE hS I.ok bW h8 (hl y (by simp)) (AV.as_rel hu (bm (reads hR) hy)) e0 q5).imp λv w' J=>?_;obtain⟨cs',j5,f4⟩:=J;rw[e1] at f4;refine⟨m',Fr.set p (p1.1,cs'),hm,g3 m' _ _ (Za m') ⟨p1,q1,rfl,j5⟩ (λq J d2 d' t' x' W=>rfl),⟨Lc,Tc,Z,h2,f4,b7⟩,b1,a5,λj oj a0 a9 b4 dd f3=>?_,λe' g8 b3=>?_⟩
    ·have b2:=f0 j oj a0 a9
     unfold upd at b4;rw[if_neg b2] at b4;exact b5 j oj a0 a9 b4 dd f3
    ·exact d0 e' g8 λj oj a0 a1=>by
      have:=b3 j oj a0 a1;unfold upd at this;split at this
      ·cases this
      ·exact this
  |false=>
  obtain⟨d,hd,f6,b0⟩:=k7 i o a2 hsp;have h6:d<n:=Z3 f6
  have m4:∀q∈a4,q.1≠i/\∀d' t x,q.2= .al d' t x->d'≠d:=λq J=>by
   have d2:q.1≠i:=λe=>by
    obtain⟨o',_,a6,i2,_⟩:=hA.f q J;rw[e,a2] at a6;injection a6 with a6;subst a6
    rw[hsp] at i2;cases i2
   exact⟨d2,λd' t x W e=>by
    subst e
    exact d2 (hD.ne q.1 i _ (i3 q J _ t x W) (VO.2 ⟨o,a2,hd⟩))⟩
  have fr:∀(v:Value) (a3:M),M.le m' a3->FrR G a3 z (upd s i) (a.put o.dst v) a4 Fr:=λv a3 l1=>e9.step l1 λq J=>by
   obtain⟨c1,c2⟩:=m4 q J;refine⟨if_neg c1,λd' t x W=>?_⟩;rw[hd];simp[Act.put,Array.getElem?_setIfInBounds_ne (Ne.symm (c2 d' t x W))]
  have next:∀(v:Value) (w':World) (a3:M),M.le m' a3->ga G W0 ⟨Fr++L0.l,L0.nm⟩ T0 (fQ st.c (stG st (all.take k)) st.L) st.T a3 z w'->(ev i).Rel G P a3 z v->
    ∃m' Fr',M.le m m'/\FrR G m' z (upd s i) (a.put o.dst v) a4 Fr'/\ga G W0 ⟨Fr'++L0.l,L0.nm⟩ T0 (fQ st.c (stG st (all.take k)) st.L) st.T m' z w'/\((a.put o.dst v).defers=δ.map λD=>{ target:= .collected D,args:= #[] })/\(a.put o.dst v).tmps.size=n/\
     (∀(j:Nat) (o':Oper),(all.take k)[j]? =some o'->jo o'=false->upd s i j=true->∀d,o'.dst=some d->(ev j).Rel G P m' z ((a.put o.dst v).tmps.getD d undef))/\
     (∀e∈st.env,(∀(j:Nat) (o:Oper),(all.take k)[j]? =some o->o.dst=some e.1->upd s i j=false)->e.2.2.Rel G P m' z ((a.put o.dst v).tmps.getD e.1 undef)):=by
   intro v w' a3 e8 j2 hv;refine⟨a3,Fr,hm.trans e8,fr v a3 e8,j2,by rw[hd];simp[Act.put,b1],by rw[hd];simp[Act.put,a5],λj oj a0 a9 hu e b6=>?_,λe W b3=>?_⟩<;>rw[hd]
   ·by_cases b2:j=i
    ·subst b2
     rw[a2] at a0;injection a0 with a0;subst a0
     rw[hd] at b6;injection b6 with b6;subst b6
     simpa[Act.put,a5,h6] using hv
    ·unfold upd at hu
     rw[if_neg b2] at hu;have Z:=(b5 j oj a0 a9 hu e b6).mono e8
     have e4:d≠e:=λx=>by
      subst x;exact b2 (hD.ne j i d (VO.2 ⟨oj,a0,b6⟩) (VO.2 ⟨o,a2,hd⟩))
     simpa[Act.put,Array.getElem?_setIfInBounds_ne e4] using Z
   ·have e4:d≠e.1:=λx=>by
     have:=b3 i o a2 (by rw[hd,x]);simp[upd] at this
    have Z:=(d0 e W λj oj a0 a1=>by
     have:=b3 j oj a0 a1;unfold upd at this;split at this
     ·cases this
     ·exact this).mono e8
    simpa[Act.put,Array.getElem?_setIfInBounds_ne e4] using Z
  have run:zu G P Γ D all k { st with L:=fQ st.c (stG st (all.take k)) st.L } ev i o->be P o a w (λv w'=>∃m' Fr',M.le m m'/\FrR G m' z (upd s i) (a.put o.dst v) a4 Fr'/\ga G W0 ⟨Fr'++L0.l,L0.nm⟩ T0 (fQ st.c (stG st (all.take k)) st.L) st.T m' z w'/\((a.put o.dst v).defers=δ.map λD=>{ target:= .collected D,args:= #[] })/\(a.put o.dst v).tmps.size=n/\
     (∀(j:Nat) (o':Oper),(all.take k)[j]? =some o'->jo o'=false->upd s i j=true->∀d,o'.dst=some d->(ev j).Rel G P m' z ((a.put o.dst v).tmps.getD d undef))/\
     (∀e∈st.env,(∀(j:Nat) (o:Oper),(all.take k)[j]? =some o->o.dst=some e.1->upd s i j=false)->e.2.2.Rel G P m' z ((a.put o.dst v).tmps.getD e.1 undef))):=by
   rintro ⟨R,b,ρ,hR,hb,W,m2⟩;obtain⟨dst,op,ty,pos,aft,g⟩:=o;simp only at hd;subst hd;refine(Cp (d:=d) b1 a5 g9 (reads m2) R b hR hb).imp λv w' J=>?_;obtain⟨a3,Z,h2,h3⟩:=J;exact next v w' a3 Z h2 (by rw[W];exact h3)
  have i1:ev i= .one .und->∃m' Fr',M.le m m'/\FrR G m' z (upd s i) (a.put o.dst undef) a4 Fr'/\ga G W0 ⟨Fr'++L0.l,L0.nm⟩ T0 (fQ st.c (stG st (all.take k)) st.L) st.T m' z w/\((a.put o.dst undef).defers=δ.map λD=>{ target:= .collected D,args:= #[] })/\(a.put o.dst undef).tmps.size=n/\
     (∀(j:Nat) (o':Oper),(all.take k)[j]? =some o'->jo o'=false->upd s i j=true->∀d,o'.dst=some d->(ev j).Rel G P m' z ((a.put o.dst undef).tmps.getD d undef))/\
     (∀e∈st.env,(∀(j:Nat) (o:Oper),(all.take k)[j]? =some o->o.dst=some e.1->upd s i j=false)->e.2.2.Rel G P m' z ((a.put o.dst undef).tmps.getD e.1 undef)):=
   λW=>next undef w m' (Za m') g9 (by rw[W];rfl)
  cases hg:o.guard with
  |none=>
   rw[hg] at b0;have hw:Region.wanted o (yielded all.toArray a.tmps)=true:=by simp[Region.wanted,hg]
   rw[if_pos hw];exact run b0
  | some gb=>
   obtain⟨g,b⟩:=gb;rw[hg] at b0;obtain⟨k3,k5,dg,f9,i8,hx⟩:=b0;obtain⟨og,h7,j4⟩:=VO.1 f9;have f5:=b5 g og h7 (k5 og h7) (hpre g k3) dg j4;rcases hx with⟨x,Z,h2,h3⟩|⟨Z,h2⟩
   ·rw[Z] at f5
    have hv:a.tmps.getD dg undef= .bool x:=eS f5.1;have hy:=sH (all:=all) a5 (Al f9) i8 hv
    by_cases hxb:x=b
    ·have hw:Region.wanted o (yielded all.toArray a.tmps)=true:=by simp[Region.wanted,hg,hy,hxb]
     rw[if_pos hw];exact run (h2 hxb)
    ·have hw: ¬ Region.wanted o (yielded all.toArray a.tmps)=true:=by simp[Region.wanted,hg,hy,hxb]
     rw[if_neg hw];exact i1 (h3 hxb)
   ·rw[Z] at f5
    have hv:a.tmps.getD dg undef=undef:=f5;have hy:=oS (Al f9) hv;have hw: ¬ Region.wanted o (yielded all.toArray a.tmps)=true:=by simp[Region.wanted,hg,hy]
    rw[if_neg hw];exact i1 h2
 ·rintro s a w ⟨m',Fr,hm,e9,⟨Lc,Tc,Z,h2,hS,b7⟩,b1,a5,b5,d0⟩ hall
  have i5:kA G P m' z d1.env a:=by
   intro e W;rcases hC.env e W with⟨j,hj,h3,h4,_,f0⟩|⟨h3,h4⟩
   ·obtain⟨o,ho,a1⟩:=VO.1 h3
    rw[←h4];exact b5 j o ho (f0 o ho) (hall j (kU ho).2 (Z0.1 (kU ho).1).1) e.1 a1
   ·refine d0 e h4 λj o ho a1=>?_
    exact absurd (VO.2 ⟨o,ho,a1⟩) (h3 j (Z0.1 ho).1)
  obtain⟨z',j0,c0,c1,c2,c3,c4,c5,c6,c7⟩:=N9 (st:=d1) e9 (λq J=>by
   obtain⟨o,_,ho,_⟩:=hA.f q J
   exact hall q.1 (kU ho).2 (Z0.1 (kU ho).1).1) (by rw[g6];exact N8 g0) (λi hi=>by rw[g6] at hi;rw[hC.L];exact MG g0 i hi) i5 (by rw[hC.L];exact Z) hS b7
  have l3:Sat G P δ n W0 L0 T0 m0 (mg a4 d1) a w:=⟨⟨m',z',h0.trans hm,c1,j0,Tc,c2,by rw[c7,c0,hC.T];exact h2,c3,c4⟩,b1,a5⟩
  have hX:Ext st.c st d1:=by
   refine(Ext.gone (st:=st) (gs:=stG st (all.take k))).trans ⟨λq J e W hl=>?_,λq J i s B hb hs=>⟨s,hs,by rw[hC.L] at hb;exact hb⟩⟩;rcases hC.env e W with⟨j,_,_,_,h5,_⟩|⟨_,h4⟩
   ·have h5:e.2.1=st.c:=h5
    omega
   ·exact⟨e.2.1,hl,h4⟩
  have l4:d1.c=st.c:=hC.c;rw[l4] at c5 c6;exact zq hK l3 λst' a' w' q1 q2 q3 q4=>ae (hN st' a' w' q1 q2 ((hX.trans c5).trans (by rw[c6] at q3;exact q3)) (by rw[q4,c6]))
end
theorem G1 {o:Oper}{ρ ρ':Operand->Value}(W:okT o.op=true)(h:∀x∈dJ o.op,ρ x=ρ' x):execOp ρ o=execOp ρ' o:=by
  obtain⟨dst,op,ty,pos,aft,g⟩:=o;cases op with
  | call c=>
    obtain⟨Z,args,a0⟩:=c;cases Z with
    | builtin b=>
      cases b<;>try cases W
      have:args.map ρ=args.map ρ':=Array.map_congr_left λx J=>h x (by simpa[dJ] using J);simp only[execOp,resolve,this]
    |_=>cases W
  | buildSlice t len ps=>
    have:(ps.map λ(i,x)=>(i,ρ x))=(ps.map λ(i,x)=>(i,ρ' x)):=Array.map_congr_left λx J=>by
      have:=h x.2 (by simp only[dJ,Zy];exact⟨x,by simpa using J,rfl⟩);simp[this]
    simp only[execOp,this]
  |move x=>simp only[execOp,h x (by simp[dJ])]
  |assign x=>simp only[execOp,h x (by simp[dJ])]
  |load t x=>simp only[execOp,h x (by simp[dJ])]
  |store t x y=>simp only[execOp,h x (by simp[dJ]),h y (by simp[dJ])]
  |indexAddr t x y=>simp only[execOp,h x (by simp[dJ]),h y (by simp[dJ])]
  |fieldAddr t x f=>simp only[execOp,h x (by simp[dJ])]
  |binOp b t x y t2=>simp only[execOp,h x (by simp[dJ]),h y (by simp[dJ])]
  |convert t t2 x=>simp only[execOp,h x (by simp[dJ])]
  |_=>cases W
def Ef (r:Result Next):Prop:=match r with
  | .ok (.value _) _=>True
  | .ok .skip _=>True
  | .halt _ _=>True
  |_=>False
theorem u6 {P:Program}{w:World}(s:Sem Value):Ef ((do pure (.value (←s)):Sem Next).run P w):=by
  simp only[Sem.run_bind];cases s.run P w with
  |ok v w'=>simp[Ef]
  |halt h w'=>trivial
theorem Oa {P:Program}{w:World}(s:Sem Unit):Ef ((do s;pure .skip:Sem Next).run P w):=by
  simp only[Sem.run_bind];cases s.run P w with
  |ok v w'=>simp[Ef]
  |halt h w'=>trivial
theorem Id {P:Program}{w:World}{o:Oper}{ρ:Operand->Value}(J:okT o.op=true):Ef ((execOp ρ o).run P w):=by
  obtain⟨dst,op,ty,pos,aft,g⟩:=o;cases op with
  | call c=>
    obtain⟨Z,args,W⟩:=c;cases Z with
    | builtin b=>
      cases b<;>try cases J
      simp only[execOp,resolve,Sem.run_bind,Sem.run_pure,Result.andThen_ok,invoke,builtin];cases (Builtin.append_ W ty (args.map ρ)).run P w with
      |ok v w'=>trivial
      |halt h w'=>trivial
    |_=>cases J
  |buildSlice t len ps=>exact u6 _
  |move x=>trivial
  |assign x=>trivial
  |load t x=>exact u6 _
  |store t x y=>exact Oa _
  |indexAddr t x y=>exact u6 _
  |fieldAddr t x f=>exact u6 _
  |binOp b t x y t2=>exact u6 _
  |convert t t2 x=>exact u6 _
  |_=>cases J
section
variable {P:Program}{a b:Act}{w:World}{o:Oper}
theorem F5 {d:Option Nat}{u v:Value}(hs:a.tmps.size=b.tmps.size)(h:b.put d u=b.put d v):a.put d u=a.put d v:=by
  cases d with
  |none=>rfl
  | some d=>
    by_cases hd:d<b.tmps.size
    · have J:=congrArg (λx=>x.tmps.getD d undef) h
      have Z:u=v:=by simpa[Act.put,hd] using J
      rw[Z]
    · have J:∀x:Value,a.put (some d) x=a:=λx=>by
        have W:a.tmps.size<=d:=by omega
        show { a with tmps:=a.tmps.setIfInBounds d x }=a;rw[Array.setIfInBounds_eq_of_size_le W]
      rw[J,J]
theorem be.congr {Post:Value->World->Prop}(W:okT o.op=true)(h:∀x∈dJ o.op,a.eval x=b.eval x)(a1:a.tmps.size=b.tmps.size)(hs:be P o b w Post):be P o a w Post:=by
  intro ro Kk Q hK;obtain⟨_,J⟩:=hs ro (λc w'=>∃v,c=b.put o.dst v/\Post v w') (λ_ _ _=>False) (λv w' hp=>⟨v,rfl,hp⟩);refine⟨λf _=>trivial,?_⟩;have a0:∀c,o.op≠ .defer c:=λc e=>by rw[e] at W;cases W
  rw[Oper.semAt_eq _ a.eval o a0,G1 W h];rw[Oper.semAt_eq _ b.eval o a0] at J;have hv:=Id (P:=P) (w:=w) (ρ:=b.eval) W;cases hr:(execOp b.eval o).run P w with
  | ok x w'=>
    rw[hr] at J hv;cases x with
    | value v=>
      obtain⟨u,h3,Z⟩:=J;show Kk (a.put o.dst v) w';rw[F5 a1 h3];exact hK u w' Z
    | skip=>
      obtain⟨u,h3,Z⟩:=J;show Kk (a.put o.dst undef) w';rw[F5 a1 h3];exact hK u w' Z
    |_=>exact hv.elim
  | halt e w'=>
    rw[hr] at J;cases e with
    |panic v=>exact J.elim
    |_=>exact J.elim
theorem be.value {Post:Value->World->Prop}{d:Nat}(Z:o.dst=some d)(hn:d<a.tmps.size){v:Value}(J:ay P o a w v w)(a0:∀c,o.op≠ .defer c)(hs:be P o a w Post):Post v w:=by
  obtain⟨_,h⟩:=hs none (λc w'=>∃v,c=a.put o.dst v/\Post v w') (λ_ _ _=>False) (λv w' hp=>⟨v,rfl,hp⟩);rw[Oper.semAt_eq _ a.eval o a0] at h;unfold ay at J;rw[J] at h;obtain⟨u,W,h4⟩:=h;rw[Z] at W;have h1:=congrArg (λx=>x.tmps.getD d undef) W;have:v=u:=by simpa[Act.put,hn] using h1
  rw[this];exact h4
end
theorem VI {l:List Nat}{j:Nat}:inN l j=true↔j∈l:=by
  unfold inN;rw[Z9];exact⟨λ⟨x,J,W⟩=>by rw[Z2 W];exact J,λh=>⟨j,h,X8 j⟩⟩
structure TF (all:List Oper)(k:Nat):Prop where
  lt:k<all.length
  tl:∀(p:Nat) (o:Oper),all[p]? =some o->k<=p->o.guard=none/\okT o.op=true/\(p=k\/p - 1∈bj o/\k<p)/\∀j∈dU all k,∃oj,all[j]? =some oj/\Ko o oj j=true
  fr:∀j∈dU all k,∃oj,all[j]? =some oj/\oj.guard=none/\Kn oj.op=true/\(∀e∈bj oj,e∈dU all k/\e<j)/\∀i∈dU all k,∃oi d,all[i]? =some oi/\oi.dst=some d/\(i∈bj oj\/ ∀x∈dJ oj.op,opT d x=false)
  cv:∀o,all[k]? =some o->∀j,j<k->j∉dU all k->j∈cov all 12 (bj o)
  ltF:∀j∈dU all k,j<k
theorem SO {all:List Oper}{k:Nat}(h:yv all k=true):TF all k:=by
  unfold yv at h;simp only[Z7] at h;obtain⟨⟨h1,h3⟩,h2⟩:=h;have h1:k<all.length:=Z3 h1;refine⟨h1,λp o ho hp=>?_,λj Z=>?_,λo ho j Z hn=>?_,λj Z=>?_⟩
  · have J  :=Zg.1 h2 (o,p) (Ze.2 (by simpa using ho))
    simp only[Zn,Z7,Z9,Zg] at J;rcases J with J|⟨⟨⟨J,h5⟩,h6⟩,h7⟩
    · have:p<k:=Z3 J
      omega
    · refine⟨by simpa using J,h5,?_,λj Z=>?_⟩
      · rcases h6 with h6|⟨e,h6,h8⟩
        ·exact .inl (Z2 h6)
        · have h8:=Z2 h8
          by_cases hpk:p=k
          ·exact .inl hpk
          · refine .inr ⟨?_,by omega⟩
            rw[show p - 1=e by omega];exact h6
      · have:=h7 j Z
        split at this
        ·rename_i oj a0;exact⟨oj,a0,this⟩
        ·cases this
  · have J:=Zg.1 h3 j Z
    split at J
    · rename_i oj a0
      simp only[Z7,Zg] at J;obtain⟨⟨⟨h5,h6⟩,h7⟩,h8⟩:=J;refine⟨oj,a0,by simpa using h5,h6,λe he=>⟨VI.1 (h7 e he).1,Z3 (h7 e he).2⟩,λi hi=>?_⟩;have W:=h8 i hi;split at W
      · rename_i oi a1
        split at W
        · rename_i d hd
          refine⟨oi,d,a1,hd,?_⟩;simp only[Zn,Zf] at W;rcases W with W|W
          ·exact .inl (VI.1 W)
          · exact .inr λx hx=>by
              cases hxx:opT d x with
              |false=>rfl
              |true=>rw[Z9.2 ⟨x,hx,hxx⟩] at W;cases W
        ·cases W
      ·cases W
    ·cases J
  · unfold dU at hn
    rw[ho] at hn;simp only[Zc,List.mem_range,Zf,not_and,Bool.not_eq_false] at hn;have:=hn Z;obtain⟨e,J,h5⟩:=Z9.1 this;rw[Z2 h5];exact J
  · unfold dU at Z
    split at Z
    ·exact List.mem_range.1 (Zc.1 Z).1
    ·cases Z
theorem G2 (os:List Oper):oy os os.length=true:=by
  unfold oy;rw[Xd (Xf _),Bool.true_and,Zg];intro p h;have:=(Z0.1 (Ze.1 h)).1;rw[Zn];exact .inl (Zd (by omega))
theorem Eg {all:List Oper}{k:Nat}:∀{f p:Nat},Dn all f p=some k->yv all k=true
  |0,p,h=>by cases h
  | f+1,p,h=>by
    unfold Dn at h;split at h
    ·injection h with h;subst h;assumption
    ·exact Eg h
theorem SP {all:List Oper}{k:Nat}(h:fK all=some k):yv all k=true:=by
  unfold fK at h;split at h
  · split at h
    · rename_i k' J
      split at h
      ·cases h
      ·injection h with h;subst h;exact Eg J
    ·cases h
  ·cases h
section
variable {G:Sg}{P:Program}{δ:List Nat}{n:Nat}{W0:Bse}{L0:Rs}{T0:List (Nat×Value)}{m m0:M}{z:Cz}{st:St G}{a:Act}{w:World}{Γ:Tab P G}{D:List (CS P G)}{all:List Oper}{k:Nat}
theorem pn {a:Act}{d q:Nat}{v:Value}:(a.put (some d) v).tmps.getD q undef=if d=q/\q<a.tmps.size then v else a.tmps.getD q undef:=by
  show(a.tmps.setIfInBounds d v).getD q undef=_
  by_cases h:d=q
  · subst h
    by_cases hd:d<a.tmps.size
    ·rw[if_pos ⟨rfl,hd⟩];simp[hd]
    ·rw[if_neg (λx=>hd x.2),Array.setIfInBounds_eq_of_size_le (by omega)]
  · rw[if_neg (λx=>h x.1)]
    simp[Array.getElem?_setIfInBounds_ne h]
theorem Eh {a:Act}{d:Nat}{v:Value}{x:Operand}(h:opT d x=false):(a.put (some d) v).eval x=a.eval x:=by
  cases x with
  | tmp q=>
    have J: ¬ (d=q/\q<a.tmps.size):=λe=>by
      have:opT d (.tmp q)=true:=by rw[e.1];exact X8 q
      rw[this] at h;cases h
    show(a.put (some d) v).tmps.getD q undef=a.tmps.getD q undef;rw[pn,if_neg J]
  |_=>rfl
theorem F6 {a b:Act}{x:Operand}(h:∀q,x= .tmp q->a.tmps.getD q undef=b.tmps.getD q undef):a.eval x=b.eval x:=by
  cases x with
  |tmp q=>exact h q rfl
  |_=>rfl
theorem Kr {s:Nat->Bool}(hc:∀(j:Nat)(o':Oper),all[j]? =some o'->s j=true->∀e∈bj o',s e=true):∀f W,(∀e∈W,s e=true)->∀e∈cov all f W,s e=true:=by
  intro f
  induction f with
  |zero=>exact λW h=>h
  | succ f ih=>
    intro W h e J;rcases Zm.1 J with J|J
    ·exact h e J
    · refine ih _ (λe' a0=>?_) e J
      obtain⟨j,hj,Z⟩:=List.mem_flatMap.1 a0;cases ho:all[j]? with
      |none=>rw[ho] at Z;cases Z
      |some o=>rw[ho] at Z;exact hc j o ho (h j hj) e' Z
theorem Ob {ev:Nat->EV G} (hD:Dis all k n) (b4:∀j o,(all.take k)[j]? =some o->OpF G P Γ D n all k st ev j o) {i:Nat} {o:Oper} (a2:all[i]? =some o) (b0:i<k) (hg:o.guard=none) (hf:Kn o.op=true) {s:Nat->Bool} (hJ:OJ G P δ n W0 L0 T0 all k st ev m z s a w) (b3:s i=false)
    (a6:∀e∈bj o,s e=true) (a5:∀(j:Nat) (o':Oper),all[j]? =some o'->s j=true->∀e∈bj o',s e=true):
    ∃d v,o.dst=some d/\d<n/\OJ G P δ n W0 L0 T0 all k st ev m z (upd s i) (a.put (some d) v) w/\∀a' w',(∀x∈dJ o.op,a'.eval x=a.eval x)->ay P o a' w' v w':=by
  obtain⟨d,hd,b7,a3⟩:=b4 i o (sJ a2 b0);have b5:d<n:=Z3 b7;have b2:=xk hD b4 i o a2 b0 s a w hJ b3 a6 a5;have hw:Region.wanted o (yielded all.toArray a.tmps)=true:=by simp[Region.wanted,hg]
  rw[if_pos hw] at b2;have c4:a.tmps.size=n:=by obtain⟨_,_,_,_,h,_⟩:=hJ;exact h
  rw[hg] at a3;obtain⟨R,bb,ρ,hR,hb,he,c0⟩:=a3;obtain⟨m',a9⟩:=OJ.reads hJ b3 a6 a5 c0;obtain⟨dst,op,ty,pos,aft,g⟩:=o
  have out:∀v,(∀a' w',(∀x∈dJ op,a'.eval x=a.eval x)->ay P ⟨dst,op,ty,pos,aft,g⟩ a' w' v w')->(∀c,op≠ .defer c)->∃d v,dst=some d/\d<n/\OJ G P δ n W0 L0 T0 all k st ev m z (upd s i) (a.put (some d) v) w/\∀a' w',(∀x∈dJ op,a'.eval x=a.eval x)->ay P ⟨dst,op,ty,pos,aft,g⟩ a' w' v w':=by
    intro v hv c2;have Z:=be.value (d:=d) hd (by rw[c4];exact b5) (hv a w λ_ _=>rfl) c2 b2;have b6:dst=some d:=hd;refine⟨d,v,hd,b5,?_,hv⟩;simp only[b6] at Z;exact Z
  cases op with
  | move x=>
    refine out (a.eval x) (λa' w' h=>?_) (λc e=>by cases e);have:=h x (by simp[dJ]);simp[ay,execOp,this]
  | binOp bo t x y t2=>
    have a0:(bo= .add\/bo= .sub)->∃J p q,a.eval x= .int J p/\a.eval y= .int J q:=by
      intro a4;have W:(match av? (ρ x),av? (ρ y) with|some a,some b=>DY Γ bo t a b|_,_=>none)=some R:=hR;split at W
      · rename_i a1 b1 e1 e2
        unfold DY at W;split at W
        · rename_i J p c1 q e3 e4
          have r1:=AV.i_rel e3 (bm a9 e1);have r2:=AV.i_rel e4 (bm a9 e2)
          have c3:J=c1:=by
            rcases a4 with rfl|rfl<;>simp only[GM] at W<;>split at W<;>first|assumption|cases W
          subst c3;exact⟨J,p,q,r1.1,r2.1⟩
        · exfalso
          rcases a4 with rfl|rfl<;>(repeat' split at W)<;>simp_all
      ·cases W
    cases bo with
    | add=>
      obtain⟨J,p,q,e1,e2⟩:=a0 (.inl rfl);refine out (.int J (J.wrap (p+q))) (λa' w' h=>?_) (λc e=>by cases e);have Z:=h x (by simp[dJ]);have h2:=h y (by simp[dJ]);rw[e1] at Z;rw[e2] at h2;simp[ay,execOp,Z,h2,eqGuard_at_int,br (t:=t) (P:=P) (rfl:J.wrap (p+q)=_)]
    | sub=>
      obtain⟨J,p,q,e1,e2⟩:=a0 (.inr rfl);refine out (.int J (J.wrap (p - q))) (λa' w' h=>?_) (λc e=>by cases e);have Z:=h x (by simp[dJ]);have h2:=h y (by simp[dJ]);rw[e1] at Z;rw[e2] at h2;simp[ay,execOp,Z,h2,eqGuard_at_int,iV (t:=t) (P:=P) (rfl:J.wrap (p - q)=_)]
    |_=>cases hf
  |_=>cases hf
def FD (P:Program)(all:List Oper)(j:Nat)(b:Act):Prop:=
  ∀o d,all[j]? =some o->o.dst=some d->∀a' w',(∀x∈dJ o.op,a'.eval x=b.eval x)->ay P o a' w' (b.tmps.getD d undef) w'
theorem FD.put {j e:Nat}{b:Act}{v:Value}(h:FD P all j b)(h1:∀o d,all[j]? =some o->o.dst=some d->d≠e/\∀x∈dJ o.op,opT e x=false):FD P all j (b.put (some e) v):=by
  intro o d Z J a' w' hx;obtain⟨h2,h3⟩:=h1 o d Z J;rw[pn,if_neg (λx=>h2 x.1.symm)];exact h o d Z J a' w' λx W=>by rw[hx x W,Eh (h3 x W)]
theorem Ks {ev:Nat->EV G} (hD:Dis all k n) (hT:TF all k) (d1:∀j o,(all.take k)[j]? =some o->OpF G P Γ D n all k st ev j o) {s:Nat->Bool} (hJ:OJ G P δ n W0 L0 T0 all k st ev m z s a w) (d2:∀p,k<=p->s p=false) (c7:∀(j:Nat) (o':Oper),all[j]? =some o'->s j=true->∀e∈bj o',s e=true):
    ∀ t,t<=k->∃b,OJ G P δ n W0 L0 T0 all k st ev m z (λj=>s j||(inN (dU all k) j&&Z5 j t)) b w/\
      (∀q,(∀j∈dU all k,s j=false->∀o,all[j]? =some o->o.dst≠some q)->b.tmps.getD q undef=a.tmps.getD q undef)/\∀j∈dU all k,j<t->s j=false->FD P all j b:=by
  intro t
  induction t with
  | zero=>
    intro _;refine⟨a,?_,λ_ _=>rfl,λj _ h=>by omega⟩
    have:(λj=>s j||(inN (dU all k) j&&Z5 j 0))=s:=by
      funext j;have:Z5 j 0=false:=by cases h:Z5 j 0 with|false=>rfl|true=>exact absurd (Z3 h) (by omega)
      rw[this,Bool.and_false,Bool.or_false]
    rw[this];exact hJ
  | succ t ih =>
    intro ht;obtain⟨b,b1,b4,b6⟩:=ih (by omega);have a5:∀i j:Nat,Z5 i j=true↔i<j:=λi j=>⟨λh=>Z3 h,λh=>Zd h⟩
    by_cases a1:t∈dU all k/\s t=false
    · obtain⟨a1,b7⟩:=a1
      obtain⟨o,ho,hg,hf,b2,c6⟩:=hT.fr t a1
      have c0:(λj=>s j||(inN (dU all k) j&&Z5 j t)) t=false:=by
        show(s t||(inN (dU all k) t&&Z5 t t))=false;have:Z5 t t=false:=by cases h:Z5 t t with|false=>rfl|true=>exact absurd ((a5 _ _).1 h) (by omega)
        rw[b7,this];simp
      have b3:∀e,e∈dU all k->e<t->(s e||(inN (dU all k) e&&Z5 e t))=true:=λe h1 h2=>by
        rw[VI.2 h1,(a5 _ _).2 h2];simp
      obtain⟨d,v,hd,c2,b5,c4⟩:=Ob hD d1 ho (by omega) hg hf b1 c0 (λe he=>b3 e (b2 e he).1 (b2 e he).2) (λj o' J a0 e he=>by
        simp only[Zn,Z7] at a0;rcases a0 with a0|⟨h1,h2⟩
        · show(s e||_)=true
          rw[c7 j o' J a0 e he];rfl
        · obtain⟨oj,b0,_,_,a6,_⟩:=hT.fr j (VI.1 h1)
          rw[b0] at J;injection J with J;subst J
          exact b3 e (a6 e he).1 (by have:=(a6 e he).2;have:=(a5 _ _).1 h2;omega))
      have c1:upd (λj=>s j||(inN (dU all k) j&&Z5 j t)) t=λj=>s j||(inN (dU all k) j&&Z5 j (t+1)):=by
        funext j;unfold upd
        by_cases W:j=t
        ·rw[if_pos W,W,VI.2 a1,(a5 t (t+1)).2 (by omega)];simp
        · rw[if_neg W]
          have:Z5 j t=Z5 j (t+1):=by
            rw[Bool.eq_iff_iff,a5,a5];omega
          show(s j||(inN (dU all k) j&&Z5 j t))=_;rw[this]
      rw[c1] at b5
      have dn:∀j o' d',all[j]? =some o'->j<k->o'.dst=some d'->j≠t->d'≠d:=λj o' d' J W a4 a9 e=>by
        subst e;exact a9 (hD.ne j t d' (VO.2 ⟨o',sJ J W,a4⟩) (VO.2 ⟨o,sJ ho (by omega),hd⟩))
      refine⟨b.put (some d) v,b5,λq hq=>?_,λj W c5 a0=>?_⟩
      · have a9:d≠q:=λe=>hq t a1 b7 o ho (by rw[hd,e])
        rw[pn,if_neg (λx=>a9 x.1)];exact b4 q hq
      · by_cases hjt':j=t
        · subst hjt'
          intro o' d' J a4 a' w' hx;rw[ho] at J;injection J with J;subst J
          rw[hd] at a4;injection a4 with a4;subst a4
          have d0:b.tmps.size=n:=by obtain⟨_,_,_,_,h,_⟩:=b1;exact h
          rw[pn,if_pos ⟨rfl,by rw[d0];exact c2⟩];refine c4 a' w' λx hm=>?_;rw[hx x hm];obtain⟨oi,di,a2,a3,Z⟩:=c6 j a1;rw[ho] at a2;injection a2 with a2;subst a2
          rw[hd] at a3;injection a3 with a3;subst a3
          rcases Z with Z|Z
          ·have:=(b2 j Z).2;omega
          ·exact Eh (Z x hm)
        · refine(b6 j W (by omega) a0).put λo' d' J a4=>⟨dn j o' d' J (hT.ltF j W) a4 hjt',?_⟩
          obtain⟨oj,b0,_,_,a6,c3⟩:=hT.fr j W;rw[b0] at J;injection J with J;subst J
          obtain⟨oi,di,a2,a3,Z⟩:=c3 t a1;rw[ho] at a2;injection a2 with a2;subst a2
          rw[hd] at a3;injection a3 with a3;subst a3
          rcases Z with Z|Z
          ·have:=(a6 t Z).2;omega
          ·exact Z
    · refine⟨b,?_,b4,λj W c5 a0=>?_⟩
      · have:(λj=>s j||(inN (dU all k) j&&Z5 j (t+1)))=λj=>s j||(inN (dU all k) j&&Z5 j t):=by
          funext j
          by_cases W:j=t
          · subst W
            cases a0:s j with
            |true=>rfl
            | false=>
              have:inN (dU all k) j=false:=by
                cases h:inN (dU all k) j with
                |false=>rfl
                |true=>exact absurd ⟨VI.1 h,a0⟩ a1
              rw[this];rfl
          · have:Z5 j (t+1)=Z5 j t:=by
              rw[Bool.eq_iff_iff,a5,a5];omega
            rw[this]
        rw[this];exact b1
      · have:j≠t:=λe=>a1 ⟨by rw[←e];exact W,by rw[←e];exact a0⟩
        exact b6 j W (by omega) a0
theorem Ie {a b:Act}{d:Option Nat}{v:Value}{q:Nat}(W:a.tmps.size=b.tmps.size)(h:d≠some q->a.tmps.getD q undef=b.tmps.getD q undef)(J: ¬ q<b.tmps.size->a.tmps.getD q undef=b.tmps.getD q undef):(a.put d v).tmps.getD q undef=(b.put d v).tmps.getD q undef:=by
  cases d with
  |none=>exact h (by simp)
  | some d=>
    rw[pn,pn,W]
    by_cases hq:d=q/\q<b.tmps.size
    ·rw[if_pos hq,if_pos hq]
    · rw[if_neg hq,if_neg hq]
      by_cases hd:d=q
      ·exact J λx=>hq ⟨hd,x⟩
      ·exact h λe=>hd (by injection e)
theorem If {a b:Act}{q:Nat}(h: ¬ q<a.tmps.size)(J: ¬ q<b.tmps.size):a.tmps.getD q undef=b.tmps.getD q undef:=by
  simp[h,J]
def J2 (G:Sg)(P:Program)(δ:List Nat)(n:Nat)(W0:Bse)(L0:Rs)(T0:List (Nat×Value))(m0:M)(Γ:Tab P G)(D:List (CS P G))(all:List Oper)(k:Nat)(st:St G){ρ:Type}(h:St G->Option ρ)(r:ρ)(s:Nat->Bool)(a:Act)(w:World):Prop:=
  ∃ c b st',k<c/\c<=all.length/\(∀p,k<=p->p<all.length->(s p=true↔p<c))/\(∀j,j<k->j∉dU all k->s j=true)/\a.defers=b.defers/\a.tmps.size=n/\
    (∀q,(∀j∈dU all k,s j=false->∀o,all[j]? =some o->o.dst≠some q)->a.tmps.getD q undef=b.tmps.getD q undef)/\(∀j∈dU all k,s j=false->FD P all j b)/\
    Sat G P δ n W0 L0 T0 m0 st' b w/\Ext st.c st st'/\st'.c=st.c/\ic n Γ D all (all.drop c) st' h=some r
theorem Cr {ρ:Type} {K':St G->Option ρ} {r:ρ} {st':St G} {s:Nat->Bool} {b:Act} {c:Nat} {o:Oper} (hT:TF all k) (ho:all[c]? =some o) (c1:k<=c) (c3:∀e∈bj o,s e=true) (b5:∀p,k<=p->p<all.length->(s p=true↔p<c)) (b4:∀j,j<k->j∉dU all k->s j=true) (b6:a.defers=b.defers) (a4:a.tmps.size=n)
    (a9:∀q,(∀j∈dU all k,s j=false->∀o,all[j]? =some o->o.dst≠some q)->a.tmps.getD q undef=b.tmps.getD q undef) (c4:∀j∈dU all k,s j=false->FD P all j b)
    (hS:Sat G P δ n W0 L0 T0 m0 st' b w) (hX:Ext st.c st st') (hc:st'.c=st.c) (hK:ic n Γ D all (all.drop c) st' K'=some r):
    be P o a w (λv w'=>J2 G P δ n W0 L0 T0 m0 Γ D all k st K' r (upd s c) (a.put o.dst v) w'):=by
  have c5:c<all.length:=(Z0.1 ho).1;obtain⟨hg,hk,_,c2⟩:=hT.tl c o ho c1
  have hd:all.drop c=o::all.drop (c+1):=by
    rw[X6 c5];have:=(Z0.1 ho).2;rw[this]
  rw[hd] at hK;unfold ic at hK;rw[hg] at hK;have a5:=hS.sz
  have c6:be P o b w (λv w'=>∃W,Sat G P δ n W0 L0 T0 m0 W (b.put o.dst v) w'/\Ext st.c st W/\W.c=st.c/\ic n Γ D all (all.drop (c+1)) W K'=some r):=
    vG (N:=λa w=>∃W,Sat G P δ n W0 L0 T0 m0 W a w/\Ext st.c st W/\W.c=st.c/\ic n Γ D all (all.drop (c+1)) W K'=some r) hS hK λW a' w' q1 q2 q3 q4=>⟨W,q2,hX.trans (by rw[hc] at q3;exact q3),by rw[q4,hc],q1⟩
  have b2:∀j∈dU all k,s j=false->∀oj d,all[j]? =some oj->oj.dst=some d->(∀x∈dJ o.op,opT d x=false)/\∀e,o.dst=some e->d≠e/\∀x∈dJ oj.op,opT e x=false:=by
    intro j Z a2 oj d a0 a1;obtain⟨d1,a3,J⟩:=c2 j Z;rw[a0] at a3;injection a3 with a3;subst a3
    unfold Ko at J;rw[Zn] at J;rcases J with J|J
    · have:=c3 j (VI.1 J)
      rw[a2] at this;cases this
    · rw[a1] at J
      simp only[Z7,Zf] at J
      have b1:∀(xs:List Operand) (t:Nat),xs.any (opT t)=false->∀x∈xs,opT t x=false:=λxs t h x hx=>by
        cases hxx:opT t x with
        |false=>rfl
        |true=>rw[Z9.2 ⟨x,hx,hxx⟩] at h;cases h
      refine⟨b1 _ _ J.1,λe he=>?_⟩;rw[he] at J;simp only[Z7,Zf] at J;refine⟨λx=>?_,b1 _ _ J.2.2⟩;subst x;rw[X8] at J;cases J.2.1
  have c7:∀x∈dJ o.op,a.eval x=b.eval x:=λx hx=>F6 λq hq=>a9 q λj Z a2 oj a0 a1=>by
    have:=(b2 j Z a2 oj q a0 a1).1 x hx;rw[hq] at this;have h2:opT q (.tmp q)=true:=X8 q;rw[h2] at this;cases this
  have b7:∀j,upd s c j=false->s j=false/\j≠c:=λj h=>by
    unfold upd at h;split at h
    ·cases h
    ·exact⟨h, ‹_›⟩
  refine(be.congr hk c7 (by rw[a4];exact a5.symm) c6).imp λv w' ⟨W,q1,q2,q3,q4⟩=>?_;refine⟨c+1,b.put o.dst v,W,by omega,by omega,λp hp c0=>?_,λj Z hn=>?_,?_,?_,λq hq=>?_,λj Z a2=>?_,q1,q2,q3,q4⟩
  · unfold upd
    by_cases hpc:p=c
    ·rw[if_pos hpc];simp;omega
    ·rw[if_neg hpc,b5 p hp c0];omega
  · unfold upd
    split
    ·rfl
    ·exact b4 j Z hn
  ·cases hdd:o.dst<;>simp[Act.put,b6]
  ·cases hdd:o.dst<;>simp[Act.put,a4]
  · refine Ie (by rw[a4];exact a5.symm) (λd0=>a9 q λj Z a2 oj a0 a1=>?_) (λa6=>If (by rw[a4,←a5];exact a6) a6)
    by_cases b3:j=c
    ·have:=hT.ltF j Z;omega
    ·exact hq j Z (by unfold upd;rw[if_neg b3];exact a2) oj a0 a1
  · obtain⟨b0,b3⟩:=b7 j a2
    have J:=c4 j Z b0;cases hdd:o.dst with
    |none=>exact J
    |some e=>exact J.put λoj d a0 a1=>(b2 j Z b0 oj d a0 a1).2 e hdd
theorem Kt {ρ : Type} {ro:Option Nat} {id:Nat} {K':St G->Option ρ} {r:ρ} {N Rt:Act->World->Prop} {X:List (Nat×(Act->World->Prop))} (c5:(all.take k).any jo=false) (e1:P.follows .mixedOrders=true) (hs:Sat G P δ n W0 L0 T0 m0 st a w) (hD:Dis all k n) (e9:yv all k=true)
    (h:j6 n Γ D all k 0 (all.take k) st (λst'=>ic n Γ D all (all.drop k) st' K')=some r) (hN:Nxt G P δ n W0 L0 T0 m0 K' r st N):K ro P (.region id all.toArray true) N X Rt a w:=by
  obtain⟨⟨m,z,h0,hr,hM⟩,hdf,hsz⟩:=hs
  have f0:∀o∈all.take k,jo o=false:=λo ho=>by
    cases hq:jo o with
    |false=>rfl
    |true=>rw[Z9.2 ⟨o,ho,hq⟩] at c5;cases c5
  obtain⟨ev,f3,_,hF,hK,hC⟩:=xj (G:=G) (P:=P) (st0:=st) (ev:=λ_=> .one .und) hD (i:=0) (rest:=[]) (by simp) f0 ⟨rfl,rfl,rfl,λe he=> .inr ⟨λj W=>by omega,he⟩⟩ h;rw[Xe] at hC;have d2:∀j o,(all.take k)[j]? =some o->OpF G P Γ D n all k st ev j o:=λj o ho=>hF j o (Nat.zero_le _) (by have:=(Z0.1 ho).1;omega) ho;have Z:=SO e9;refine DH (k:=all.length) e1 hD.ed (G2 all) (λs a w=>((∀p,k<=p->s p=false)/\OJ G P δ n W0 L0 T0 all k st ev m z s a w)\/J2 G P δ n W0 L0 T0 m0 Γ D all k st K' r s a w) ?_ ?_ ?_
  ·exact .inl ⟨λ_ _=>rfl,m,Za m,hM.drew,hdf,hsz,(λj o _ h=>Zw h),λe he _=>hr e he⟩
  · intro i o a2 f5 s a w hJ b2 a5 c2
    rcases hJ with⟨b0,hJ⟩|⟨c,b,st',c6,d1,a9,a3,b4,b6,a4,b1,hS,hX,hc,b5⟩
    · by_cases hik:i<k
      · have J:=xk hD d2 i o a2 hik s a w hJ b2 a5 c2
        have h2:∀p,k<=p->upd s i p=false:=λp hp=>by unfold upd;rw[if_neg (by omega)];exact b0 p hp
        by_cases hw:Region.wanted o (yielded all.toArray a.tmps)=true
        · rw[if_pos hw] at J ⊢
          exact J.imp λv w' h3=> .inl ⟨h2,h3⟩
        · rw[if_neg hw] at J ⊢
          exact .inl ⟨h2,J⟩
      · obtain⟨hg,hk,c4,_⟩:=Z.tl i o a2 (by omega)
        have f9:i=k:=by
          rcases c4 with J|⟨J,h2⟩
          ·exact J
          · have:=a5 _ J
            rw[b0 (i - 1) (by omega)] at this;cases this
        subst f9;have hw:Region.wanted o (yielded all.toArray a.tmps)=true:=by simp[Region.wanted,hg]
        rw[if_pos hw];have a3:∀j,j<i->j∉dU all i->s j=true:=λj W hn=>Kr c2 12 (bj o) a5 j (Z.cv o a2 j W hn);obtain⟨b,d0,a4,b1⟩:=Ks hD Z d2 hJ b0 c2 i (Xf _)
        have b3:∀j,j<i->j<all.length->(s j||(inN (dU all i) j&&Z5 j i))=true:=λj W _=>by
          by_cases hjF:j∈dU all i
          · have:Z5 j i=true:=Zd W
            rw[VI.2 hjF,this];simp
          ·rw[a3 j W hjF];rfl
        obtain⟨f4,e7⟩:=Ed (ρ:=ρ) hC h0 b w d0 b3;have e6:a.tmps.size=n:=by obtain⟨_,_,_,_,h,_⟩:=hJ;exact h
        have e3:a.defers=b.defers:=by
          obtain⟨_,_,_,J,_⟩:=hJ;obtain⟨_,_,_,h2,_⟩:=d0;rw[J,h2]
        refine(Cr (st':=f3) (b:=b) Z a2 (Xf _) a5 (λp hp _=>?_) a3 e3 e6 (λq hq=>(a4 q hq).symm) (λj W a0=>b1 j W (Z.ltF j W) a0) f4 e7 hC.c hK).imp λv w' J=> .inr J;rw[b0 p hp];simp;omega
    · by_cases hik:i<k
      · have c3:i∈dU all k:=by
          refine Classical.byContradiction λhn=>?_;rw[a3 i hik hn] at b2;cases b2
        obtain⟨oj,a1,hg,_,_,c7⟩:=Z.fr i c3;rw[a2] at a1;injection a1 with a1;subst a1
        obtain⟨oi,d,c0,hd,_⟩:=c7 i c3;rw[a2] at c0;injection c0 with c0;subst c0
        have hw:Region.wanted o (yielded all.toArray a.tmps)=true:=by simp[Region.wanted,hg]
        rw[if_pos hw]
        have e8:=b1 i c3 b2 o d a2 hd a w λx hx=>F6 λq hq=>a4 q λj W a0 oj a1 a6=>by
          obtain⟨g1,di,b7,c1,h4⟩:=c7 j W;rw[a1] at b7;injection b7 with b7;subst b7
          rw[a6] at c1;injection c1 with c1;subst c1
          rcases h4 with h4|h4
          ·rw[a5 j h4] at a0;cases a0
          · have:=h4 x hx
            rw[hq] at this;have h2:opT q (.tmp q)=true:=X8 q;rw[h2] at this;cases this
        refine e8.step (.inr ⟨c,b,st',c6,d1,λp hp e5=>?_,λj W hn=>?_,?_,?_,λq hq=>?_,λj W a0=>?_,hS,hX,hc,b5⟩)
        ·unfold upd;rw[if_neg (by omega)];exact a9 p hp e5
        · unfold upd
          split
          ·rfl
          ·exact a3 j W hn
        ·rw[hd];simp[Act.put,b4]
        ·rw[hd];simp[Act.put,b6]
        · rw[hd,pn]
          by_cases hq':d=q/\q<a.tmps.size
          ·rw[if_pos hq',hq'.1]
          · rw[if_neg hq']
            by_cases hdq:d=q
            ·exact If (λx=>hq' ⟨hdq,x⟩) (λx=>hq' ⟨hdq,by rw[b6,←hS.sz];exact x⟩)
            · refine a4 q λj W a0 oj a1 a6=>?_
              by_cases hji:j=i
              · subst hji
                rw[a2] at a1;injection a1 with a1;subst a1
                rw[hd] at a6;injection a6 with a6
                exact hdq a6
              ·exact hq j W (by unfold upd;rw[if_neg hji];exact a0) oj a1 a6
        · refine b1 j W ?_
          unfold upd at a0;split at a0
          ·cases a0
          ·exact a0
      · obtain⟨hg,_,c4,_⟩:=Z.tl i o a2 (by omega)
        have e4:i=c:=by
          have J: ¬ i<c:=λx=>by
            rw[(a9 i (by omega) f5).2 x] at b2;cases b2
          rcases c4 with h2|⟨h2,h3⟩
          ·omega
          · have h4:=a5 _ h2
            have:=(a9 (i - 1) (by omega) (by omega)).1 h4;omega
        subst e4;have hw:Region.wanted o (yielded all.toArray a.tmps)=true:=by simp[Region.wanted,hg]
        rw[if_pos hw];exact(Cr Z a2 (by omega) a5 a9 a3 b4 b6 a4 b1 hS hX hc b5).imp λv w' J=> .inr J
  · intro s a w hJ b3
    rcases hJ with⟨b0,_⟩|⟨c,b,st',c6,d1,a9,a3,b4,b6,a4,b1,hS,hX,hc,b5⟩
    · have:=b3 k Z.lt Z.lt
      rw[b0 k (Xf _)] at this;cases this
    · have e0:c=all.length:=by
        refine Classical.byContradiction λg0=>?_;have J:c<all.length:=by omega
        have:=(a9 c (by omega) J).1 (b3 c J J);omega
      have f6:a=b:=by
        have ht:a.tmps=b.tmps:=by
          apply Array.ext
          ·rw[b6,hS.sz]
          · intro q J h2
            have:=a4 q λj W a0=>by
              rw[b3 j (by have:=Z.ltF j W;have:=Z.lt;omega) (by have:=Z.ltF j W;have:=Z.lt;omega)] at a0;cases a0
            simpa[J,h2] using this
        cases a;cases b;simp only at ht b4;rw[ht,b4]
      subst f6;rw[e0,List.drop_length] at b5;rw[List.drop_length];exact ae (hN st' a w b5 hS hX hc)
end
inductive Sh where
 |dat (t:Ty) (o:Option Nat)
 |ptr (t:Ty)
 |fn1 (a b:Ty)
 |fn2 (a c b:Ty)
def Sh.den (G:Sg):Sh->Type
 | .dat t _=>t.den G
 | .ptr t=>t.den G
 | .fn1 a b=>a.den G->Option (b.den G)
 | .fn2 a c b=>a.den G->c.den G->Option (b.den G)
inductive It where
 |v (q lv:Nat) (s:Sh)
 |b (i lv:Nat) (t:Ty)
 |a (i lv:Nat) (t:Ty) (n:Option Nat)
def It.den (G:Sg):It->Type
 | .v _ _ s=>s.den G
 | .b _ _ t=>t.den G
 | .a _ _ t _=>List (t.den G)
def fj (G:Sg):List It->Type
 |[]=>Unit
 |[i]=>i.den G
 |i::i'::r=>i.den G×fj G (i'::r)
def hdI (G:Sg)(i:It):(r:List It)->fj G (i::r)->i.den G
 |[],x=>x
 |_::_,x=>x.1
def tlI (G:Sg)(i:It):(r:List It)->fj G (i::r)->fj G r
 |[],_=>()
 |_::_,x=>x.2
def mkI (G:Sg)(i:It):(r:List It)->i.den G->fj G r->fj G (i::r)
 |[],x,_=>x
 |_::_,x,y=>(x,y)
inductive Fx where
 |blk (i:Nat)
 |own (i:Nat)
 |nils
 |und
section
variable {G:Sg}{P:Program}
def Sh.mk (G:Sg):(s:Sh)->s.den G->AV G
 | .dat t o,x=> .dat t x o
 | .ptr t,x=> .ptr t x
 | .fn1 a b,f=> .fn1 a b f
 | .fn2 a c b,f=> .fn2 a c b f
def Fx.mk (G:Sg):Fx->AV G
 | .blk i=> .blk i
 | .own i=> .own i
 | .nils=> .nils
 | .und=> .und
def Fx.is:Fx->AV G->Bool
 | .blk i,.blk j=>Zb i j
 | .own i,.own j=>Zb i j
 | .nils,.nils=>true
 | .und,.und=>true
 |_,_=>false
def BC.of (G:Sg):(i:It)->i.den G->BC G
 | .v _ _ _,_=> .gone
 | .b _ _ t,x=> .dat t x
 | .a _ _ t n,x=> .arr t n x
def mB (G:Sg):(its:List It)->fj G its->List (Nat×Nat×EV G)
 |[],_=>[]
 | .v q lv s::r,x=>(q,lv,.one (s.mk G (hdI G (.v q lv s) r x)))::mB G r (tlI G (.v q lv s) r x)
 | .b i lv t::r,x=>mB G r (tlI G (.b i lv t) r x)
 | .a i lv t n::r,x=>mB G r (tlI G (.a i lv t n) r x)
def en (G:Sg):(its:List It)->fj G its->Nat->Option (Nat×BC G)
 |[],_,_=>none
 | .v q lv s::r,x,k=>en G r (tlI G (.v q lv s) r x) k
 | .b i lv t::r,x,k=>if Zb i k then some (lv,.dat t (hdI G (.b i lv t) r x)) else en G r (tlI G (.b i lv t) r x) k
 | .a i lv t n::r,x,k=>if Zb i k then some (lv,.arr t n (hdI G (.a i lv t n) r x)) else en G r (tlI G (.a i lv t n) r x) k
def oz {O:Type}(f:Nat->O):Nat->List O
 |0=>[]
 |n+1=>f n::oz f n
def AV.dt?:AV G->Option ((t:Ty)×(t.den G)×Option Nat)
 | .dat t x o=>some ⟨t,x,o⟩
 |_=>none
def AV.pt?:AV G->Option ((t:Ty)×t.den G)
 | .ptr t x=>some ⟨t,x⟩
 |_=>none
def AV.f1?:AV G->Option ((a:Ty)×(b:Ty)×(a.den G->Option (b.den G)))
 | .fn1 a b f=>some ⟨a,b,f⟩
 |_=>none
def AV.f2?:AV G->Option ((a:Ty)×(c:Ty)×(b:Ty)×(a.den G->c.den G->Option (b.den G)))
 | .fn2 a c b f=>some ⟨a,c,b,f⟩
 |_=>none
theorem AV.dt_eq {b:AV G}{q:(t:Ty)×(t.den G)×Option Nat}(h:b.dt?=some q):b= .dat q.1 q.2.1 q.2.2:=by
 cases b<;>simp[AV.dt?] at h;subst h;rfl
theorem AV.pt_eq {b:AV G}{q:(t:Ty)×t.den G}(h:b.pt?=some q):b= .ptr q.1 q.2:=by
 cases b<;>simp[AV.pt?] at h;subst h;rfl
theorem AV.f1_eq {p:AV G}{q:(a:Ty)×(b:Ty)×(a.den G->Option (b.den G))}(h:p.f1?=some q):p= .fn1 q.1 q.2.1 q.2.2:=by
 cases p<;>simp[AV.f1?] at h;subst h;rfl
theorem AV.f2_eq {p:AV G}{q:(a:Ty)×(c:Ty)×(b:Ty)×(a.den G->c.den G->Option (b.den G))}(h:p.f2?=some q):p= .fn2 q.1 q.2.1 q.2.2.1 q.2.2.2:=by
 cases p<;>simp[AV.f2?] at h;subst h;rfl
def Oc (h:Nat):Option Nat->Bool
 |some j=>Z5 j h
 |none=>true
def shX (G:Sg)(J:Nat)(s:Sh)(b:AV G):Option (s.den G):=
 match s with
 | .dat t o=>(match b.dt? with
  |some q=>if q.2.2=o/\Oc J o=true then dF G q.1 t q.2.1 else none
  |none=>none)
 | .ptr t=>(match b.pt? with|some q=>dF G q.1 t q.2|none=>none)
 | .fn1 a b'=>(match b.f1? with|some q=>if h:q.1=a/\q.2.1=b' then some (h.1 ▸ h.2 ▸ q.2.2) else none|none=>none)
 | .fn2 a c b'=>(match b.f2? with|some q=>if h:q.1=a/\q.2.1=c/\q.2.2.1=b' then some (h.1 ▸ h.2.1 ▸ h.2.2 ▸ q.2.2.2) else none|none=>none)
def shA (Γ:Tab P G)(h:Nat)(s:Sh)(b:AV G):Option (s.den G):=
 match s with
 | .dat t none=>b.as Γ t
 |s=>shX G h s b
def ol (Γ:Tab P G)(h:Nat)(st:St G):(its:List It)->Option (fj G its)
 |[]=>some ()
 | .v q lv s::r=>(match lke st.env q,ol Γ h st r with
  |some (lv',.one b),some y=>if st.c<=lv\/lv'<=lv then (match (if st.c<=lv then shA Γ h s b else shX G h s b) with|some x=>some (mkI G (.v q lv s) r x y)|none=>none) else none
  |_,_=>none)
 | .b i lv t::r=>(match fb st.L i,ol Γ h st r with
  |some (lv',.dat t' x),some y=>if st.c<=lv\/lv'<=lv then (match dF G t' t x with|some x=>some (mkI G (.b i lv t) r x y)|none=>none) else none
  |_,_=>none)
 | .a i lv t n::r=>(match fb st.L i,ol Γ h st r with
  |some (lv',.arr t' n' x),some y=>if (st.c<=lv\/lv'<=lv)/\n'=n then (match dF G (.sl t') (.sl t) x with|some x=>some (mkI G (.a i lv t n) r x y)|none=>none) else none
  |_,_=>none)
def nilT (G:Sg)(q:Nat)(c:Ty)(st:St G):St G:=
 match lke st.env q with
 |some (_,.one .nils)=>{ st with T:=(c.kd G).sz::st.T }.put q (.one (.dat (.sl c) [] (some st.T.length)))
 |_=>st
def Ej (G:Sg)(q j:Nat)(st:St G):St G:=
 match lke st.env q with
 |some (_,.one (.dat t x (some j')))=>
  if j'=j then st else
  (match fb st.T j,fb st.T j' with
  |some s,some s'=>if s=s' then { st with env:=(q,st.c,.one (.dat t x (some j)))::rmk (oT j' st.c (oT j st.c st.env)) q } else st
  |_,_=>st)
 |_=>st
def oU (G:Sg):List It->St G->St G
 |[],st=>st
 | .v q _ (.dat (.sl c) (some j))::r,st=>oU G r (Ej G q j (nilT G q c st))
 |_::r,st=>oU G r st
structure Tm where
 fx:List (Nat×Nat×Fx)
 its:List It
 nb:Nat
 T:List Nat
def Tm.st (G:Sg)(T:Tm)(c:Nat)(x:fj G T.its):St G:=
 { env:=T.fx.map (λe=>(e.1,e.2.1,.one (e.2.2.mk G)))++mB G T.its x,c:=c,L:=oz (λi=>match en G T.its x i with|some e=>e|none=>(c,.gone)) T.nb,T:=T.T }
def G3 (st:St G)(nb:Nat):List (Nat×Nat×Fx)->Bool
 |[]=>true
 |(q,lv,f)::r=>(match lke st.env q with
  |some (lv',.one b)=>(X3 st.c lv||X3 lv' lv)&&f.is b&&(match f with| .blk i=>Z5 i nb| .own i=>Z5 i nb|_=>true)
  |_=>false)&&G3 st nb r
def Tm.fit (Γ:Tab P G)(T:Tm)(st0:St G):Option (fj G T.its):=
 let st:=oU G T.its st0
 match G3 st T.nb T.fx&&X3 T.nb st.L.length&&decide (st.T.drop (st.T.length - T.T.length)=T.T) with
 |true=>ol Γ T.T.length st T.its
 |false=>none
structure Lt where
 its:List It
 keep:List Nat
 nb:Nat
 T:List Nat
def sy (env:List (Nat×Nat×EV G))(d:Nat):List Nat->List (Nat×Nat×EV G)
 |[]=>[]
 |q::r=>(match lke env q with|some (lv,e)=>(q,min lv d,e)::sy env d r|none=>sy env d r)
def Lt.st (G:Sg)(T:Lt)(st:St G)(x:fj G T.its):St G:=
 { env:=mB G T.its x++sy st.env st.c T.keep,c:=st.c+1,L:=oz (λi=>match en G T.its x i with|some e=>e|none=>(match fb st.L i with|some e=>(min e.1 st.c,e.2)|none=>(0,.gone))) T.nb,T:=T.T }
def qo (d:Nat):List It->Bool
 |[]=>true
 | .v _ lv _::r=>Zb lv (d+1)&&qo d r
 | .b _ lv _::r=>Zb lv (d+1)&&qo d r
 | .a _ lv _ _::r=>Zb lv (d+1)&&qo d r
def Lt.fit (Γ:Tab P G)(T:Lt)(st0:St G):Option (St G×fj G T.its):=
 let st:=oU G T.its st0
 match Zb st.L.length T.nb&&decide (st.T=T.T)&&uZ T.keep&&qo st.c T.its&&T.keep.all (λq=>(lke st.env q).isSome) with
 |true=>(match ol Γ T.T.length st T.its with|some x=>some (st,x)|none=>none)
 |false=>none
def tQ (k:Nat):List It->Bool
 |[]=>false
 | .v _ _ _::r=>tQ k r
 | .b i _ _::r=>Zb i k||tQ k r
 | .a i _ _ _::r=>Zb i k||tQ k r
def Ig (T:Lt)(d:Nat)(st:St G):Bool:=
 T.keep.all (λq=>match lke st.env q with|some (lv,_)=>X3 lv d|none=>false)&&X3 T.nb st.L.length&&decide (st.T.drop (st.T.length - T.T.length)=T.T)&&
  (Xh T.nb).all λi=>tQ i T.its||(match fb st.L i with|some (lv,_)=>X3 lv d|none=>false)
def Lt.back (Γ:Tab P G)(T:Lt)(d:Nat)(st0:St G):Option (fj G T.its):=
 let st:=oU G T.its st0
 match Ig T d st with
 |true=>ol Γ T.T.length st T.its
 |false=>none
end
inductive An (G:Sg):Type->Type 1 where
 |o {ρ:Type}:An G ρ
 |s {ρ:Type} (l r:An G ρ):An G ρ
 |c {ρ:Type} (l:An G ρ) (T:Tm) (J:fj G T.its->Option ρ) (r:An G ρ):An G ρ
 |l {ρ:Type} (T:Lt) (b:An G (fj G T.its⊕ρ)):An G ρ
 |b {ρ:Type} (x:An G ρ):An G ρ
 |i {ρ:Type} (x y:An G ρ):An G ρ
noncomputable section
variable {G:Sg}{P:Program}
def low (d:Nat)(st:St G):St G:={ st with c:=d }
def ex (n:Nat) (Γ:Tab P G) (D:List (CS P G)):Code->{ρ:Type}->An G ρ->St G->(St G->Option ρ)->(Nat->St G->Option ρ)->(St G->Option ρ)->Option ρ
 | .skip,_,_,st,N,_,_=>N st
 | .label _,_,_,st,N,_,_=>N st
 | .region _ ops dr,_,_,st,N,_,_=>zr n Γ D ops.toList dr st N
 | .seq x y,_,A,st,N,X,R=>(match A with
  | .s l r=>ex n Γ D x l st (λst'=>ex n Γ D y r st' N X R) X R
  | .c l T J r=>ex n Γ D x l st (λst'=>match T.fit Γ st' with|some v=>J v|none=>none) X R
  |_=>ex n Γ D x .o st (λst'=>ex n Γ D y .o st' N X R) X R)
 | .cond c x y,_,A,st,N,X,R=>(match av? (st.op c) with
  | some v=>(match v.b? with
   |some b=>(match A with
    | .i l r=>if b=true then ex n Γ D x l st N X R else ex n Γ D y r st N X R
    |_=>if b=true then ex n Γ D x .o st N X R else ex n Γ D y .o st N X R)
   |none=>none)
  |none=>none)
 | .block id c,_,A,st,N,X,R=>(match A with
  | .b a=>ex n Γ D c a st N (λj st'=>match Zb j id with|true=>N st'|false=>X j st') R
  |_=>ex n Γ D c .o st N (λj st'=>match Zb j id with|true=>N st'|false=>X j st') R)
 | .scope c,_,A,st,N,X,R=>(match A with
  | .b a=>ex n Γ D c a st N X R
  |_=>ex n Γ D c .o st N X R)
 | .loop c,_,A,st,N,X,R=>(match A with
  | .l T b=>(match T.fit Γ st with
   |some (st1,x)=>am (λs=>ex n Γ D c b (T.st G st1 s) (λst'=>match T.back Γ st.c st' with|some s'=>some (.inl s')|none=>none) (λj st'=>(X j (low st.c st')).map .inr) (λst'=>(R (low st.c st')).map .inr)) x
   |none=>none)
  |_=>none)
 | .exit id,_,_,st,_,X,_=>X id st
 | .ret,_,_,st,_,_,R=>R st
 |_,_,_,_,_,_,_=>none
def Obl (np n:Nat)(Γ:Tab P G)(D:List (CS P G)):Code->{ρ:Type}->An G ρ->Nat->(St G->Option ρ)->(Nat->St G->Option ρ)->(St G->Option ρ)->Prop
 | .seq x y,_,A,d,N,X,R=>(match A with
  | .s l r=>Obl np n Γ D x l d (λst'=>ex n Γ D y r st' N X R) X R/\Obl np n Γ D y r d N X R
  | .c l T J r=>Obl np n Γ D x l d (λst'=>match T.fit Γ st' with|some v=>J v|none=>none) X R/\X3 np T.nb=true/\(∀v,ex n Γ D y r (T.st G d v) N X R=J v)/\Obl np n Γ D y r d N X R
  |_=>True)
 | .cond _ x y,_,A,d,N,X,R=>(match A with
  | .i l r=>Obl np n Γ D x l d N X R/\Obl np n Γ D y r d N X R
  |_=>True)
 | .block id c,_,A,d,N,X,R=>(match A with
  | .b a=>Obl np n Γ D c a d N (λj st'=>match Zb j id with|true=>N st'|false=>X j st') R
  |_=>True)
 | .scope c,_,A,d,N,X,R=>(match A with
  | .b a=>Obl np n Γ D c a d N X R
  |_=>True)
 | .loop c,_,A,d,N,X,R=>(match A with
  | .l T b=>Obl np n Γ D c b (d+1) (λst'=>match T.back Γ d st' with|some s'=>some (.inl s')|none=>none) (λj st'=>(X j (low d st')).map .inr) (λst'=>(R (low d st')).map .inr)
  |_=>True)
 |_,_,_,_,_,_,_=>True
theorem Obl.o (np n:Nat)(Γ:Tab P G)(D:List (CS P G))(c:Code){ρ:Type}(d:Nat)(N:St G->Option ρ)(X:Nat->St G->Option ρ)(R:St G->Option ρ):Obl np n Γ D c .o d N X R:=by
 cases c<;>exact trivial
end
end Go.Proofs.YthbonoagbeilkaaGreat.Hay
