import Derived.Test.YthbonoagbeilkaaGreatHbkC1
set_option maxRecDepth 100000
set_option maxHeartbeats 4000000
set_option linter.unusedVariables false
namespace Go.Proofs.YthbonoagbeilkaaGreat.Hay
open Nat renaming le_of_ble_eq_true→Z4
open Bool renaming eq_false_or_eq_true→Z2
open M.le renaming trans→Z0,refl→Z3
open IntKind renaming i64→Z1,u8→Z5,u64→Z6
open Go.Proofs Tryz
noncomputable section
variable {W0:Bse} {m:M} {w:World} {L:List (Nat×List Value)} {TL:List (Nat×Value)} {v0 v1 v2 v3 v4 v5 v6 v7 v8 v9:Value}
theorem Dv  (hS:S W0 m w L ((1,v0)::TL)) {p0} (ha0:RV (kSl (aj .u8)) m v0 p0) {p1} (ha1:inR .u64 p1) {r} (h:l7 p0 p1=some r):
    Calls prog 182 [v0,(.int .u64 p1)].toArray w (Ret fun v w'=> ∃m',M.le m m'∧S W0 m' w' L ((1,v)::TL)∧RV (kSl (aj .u8)) m' v r):=by
 refine kc func182 ntmps182 fun a E=> ?_;have E:Env 22 a [(0,v0),(1,.int .u64 p1)]:=E;unfold l7 at h;refine ae (ah (qA E rfl fun a E=>ag (ae (ah ?_))));refine st E (dP hS zeroValue224 rfl (cs:=FK)) rfl ?_;rintro _ a w ⟨b2,rfl,hS⟩ E;refine ag (ae (ae (ah (qM E rfl fun a E=>ag ?_))));refine bJ (fun a w=> ∃x7:(List Int),nt p0 x7=some r∧ ∃m',M.le m m'∧ ∃(cs8:List Value),GS (aj .u8) m' b2 cs8 (.slice (some ⟨b2,0,none⟩) 8 8) x7∧S W0 m' w ((b2,cs8)::L) ((1,v0)::TL)∧Env 22 a [(0,v0),(5,pz b2)]) ?_ ?_
 {
 refine aO ?_;refine cU h (fun (s:Int×List Int) a w=> ∃m',M.le m m'∧ ∃(cs25:List Value),inR .i64 s.1∧GS (aj .u8) m' b2 cs25 (.slice (some ⟨b2,0,none⟩) 8 8) s.2∧S W0 m' w ((b2,cs25)::L) ((1,v0)::TL)∧Env 22 a [(0,v0),(1,.int .u64 p1),(5,pz b2),(7,.int .i64 s.1)]) ?_ ?_
 {exact ⟨_,(Z3 _),FK,(show inR .i64 0 from aw (by decide)),(PU _ _),hS,kut E⟩}
 {
 rintro ⟨x22,x24⟩ a w ⟨m20,hm21,cs25,hr23,hc26,hS,E⟩ r27 h hb28;have h:kQ p0 p1 x22 x24=some r27:=h;unfold kQ at h;refine ae (ah (qB E rfl rfl bG fun a E=>ag (ae (kif E rfl (fun hd30=> ?_) (fun hd30=> ?_)))))
 {
 have h:=aB hd30 h;refine aR (ae (aO (ae (ah (qM E rfl fun a E=>qA E rfl fun a E=>ag (ah (qM E rfl fun a E=> ?_)))))));refine qM E rfl fun a E=>qM E rfl fun a E=>qB E rfl rfl (qx rfl) fun a E=>qB E rfl rfl (cV rfl) fun a E=> ?_;obtain ⟨u38,hu39,h⟩:=ob h;refine qB E rfl rfl (pG rfl (of_decide_eq_true (jC hu39))) fun a E=>sp E (dA E rfl underlying54 underlying5 rfl) rfl fun a E=> ?_;obtain ⟨j42,hj43,h⟩:=ob h;refine sp E (B6 (k:=(aj .u8)) E rfl rfl underlying224 sizeOf5 (GS.arr_len hc26) hj43 rfl) rfl fun a E=> ?_;obtain ⟨x47,hx48,h⟩:=ob h
 refine st0 E (eO (k:=(aj .u8)) E hS ty5 bn hc26 hx48 rfl rfl (au (am _ _)) (i:=0) rfl) ?_;rintro _ w ⟨cs45,hc46,hS⟩ E;refine ag (ah (qB E rfl rfl (bj rfl) fun a E=>qM E rfl fun a E=>ag ?_));exact ⟨(Z1.wrap (x22+1),(x24.set j42 (Z5.wrap (aA .u64 p1 (Z1.wrap (56 - (Z1.wrap (8*x22)))))))),(Option.some.inj h).symm,_,hm21,cs45,(am _ _),hc46,hS,kut E⟩}
 {have h:=aC hd30 h;refine cG rfl rfl ?_;have h:=bM h hb28;exact ⟨x24,h,_,hm21,cs25,hc26,hS,kut E⟩}}}
 {
 rintro a w ⟨x7,h,m5,hm6,cs8,hc9,hS,E⟩;unfold nt at h;refine ae (ah (qM E rfl fun a E=>sp E (HT (k:=(aj .u8)) E rfl underlying224 sizeOf5) rfl fun a E=> ?_));obtain ⟨z13,hz14,h⟩:=ob h;refine st E (zA (k:=(aj .u8)) (N:=140737488355328) E hS rfl rfl underlying24 el5 (i:=0) rfl (ha0.mono hm6) (DX hS underlying24 (i:=0) rfl hc9) hz14 rfl rfl) rfl ?_;rintro v18 a w ⟨m16,hm17,hS,hv15⟩ E;refine qA E rfl fun a E=>ag (bH ?_);obtain rfl:=oi h
 try dsimp only
 refine f1 E ?_;exact ⟨_,(Z0 hm6 hm17),((hS.dropL 1).pickT 1 [0] rfl rfl rfl),hv15⟩}
theorem Od:Ctr Sz prog 182 [.ap (.int .u8),.rd (.int .u64)] [.ap (.int .u8)] (fun x=>l7 x.1 x.2.1):=by
 intro W0 m w L TL vs x r Lp Tp hS hP h;obtain ⟨v0,vs,Tp,rfl,rfl,a0,hP0⟩:=PC hP;obtain ⟨v1,vs,rfl,a1,hP1⟩:=hU hP0;obtain ⟨rfl,n1⟩:=aI a1;obtain ⟨rfl,rfl,rfl⟩:=kP hP1;refine rm (Dv (hS:=hS) a0 n1 h) fun v w' he=> ?_;obtain ⟨m',hm,Z',r0⟩:=he;exact ⟨m',[v],[],[],[(1,v)],hm,Z',rfl,⟨r0,rfl,trivial⟩,trivial⟩
def Oe:=mC Od call182
theorem Of:Ctr Sz prog 159 [.ap (.int .u8),.rd (.st 32)] [.ap (.int .u8)] (fun x=>ur x.1 x.2.1):=
 ncR [Oe] [4] func159 ntmps159 .o fun x=>by kernel_rfl
def Og:=mC Of call159
theorem Oh:Ctr Sz prog 112 [.rd (.sl (.st 32))] [.rd (.sl (.int .u8)),.rd (.int .i64)] (fun x=>mJ x.1):=
 ncR [Oc,Og] [2,3] func112 ntmps112 (.s .o (.s .o (.s .o (.s (.s .o (.b (.l ⟨[.v 4 1 (.dat (.sl (.int .u8)) (some 0)),.v 16 1 (.dat (.int .i64) none)],[14,15],0,[1]⟩ .o))) .o)))) fun x=>by kernel_rfl
def Hy:=mC Oh call112
theorem Hz:Ctr Sz prog 107 [.rd (.st 32)] [.rd (.sl (.int .u8))] (fun x=>kq x.1):=
 ncR [Hy] [2] func107 ntmps107 .o fun x=>by kernel_rfl
def Oi:=mC Hz call107
theorem wL  (hS:S W0 m w L TL) {p0} (ha0:RV kAp m v0 p0) {r} (h:kq p0=some r):
    Calls prog 107 [v0].toArray w (Ret fun v w'=> ∃m',M.le m m'∧S W0 m' w' L TL∧RV (kSl (aj .u8)) m' v r):=by
 refine rm (Hz W0 m w L TL [v0] (p0,()) r [] [] hS ⟨ha0,trivial⟩ h) fun v w' he=> ?_;obtain ⟨m',us,Lr,Lq,Tr,hm,Z',rfl,hR,hO⟩:=he;obtain ⟨u0,us,rfl,r0,hR0⟩:=dn hR;obtain ⟨rfl,rfl,rfl⟩:=cz hR0;have hO0:=bQ hO;obtain rfl:=cA hO0;exact ⟨m',hm,Z',r0⟩
theorem Oj:Ctr Sz prog 103 [.rd (.sl (.st 32))] [.ap (.int .u8)] (fun x=>mK x.1):=
 ncR [Oi,Oa] [2] func103 ntmps103 (.s .o (.s .o (.s (.s .o (.b (.l ⟨[.v 3 1 (.dat (.sl (.int .u8)) (some 0)),.v 9 1 (.dat (.int .i64) none)],[7,8],0,[1]⟩ .o))) .o))) fun x=>by kernel_rfl
theorem Bt  (hS:S W0 m w L TL) {p0} (ha0:RV (kSl kAp) m v0 p0) {r} (h:mK p0=some r):
    Calls prog 103 [v0].toArray w (Ret fun v w'=> ∃m',M.le m m'∧S W0 m' w' L ((1,v)::TL)∧RV (kSl (aj .u8)) m' v r):=by
 refine rm (Oj W0 m w L TL [v0] (p0,()) r [] [] hS ⟨ha0,trivial⟩ h) fun v w' he=> ?_;obtain ⟨m',us,Lr,Lq,Tr,hm,Z',rfl,hR,hO⟩:=he;obtain ⟨u0,us,Tr,rfl,rfl,r0,hR0⟩:=uq hR;obtain ⟨rfl,rfl,rfl⟩:=cz hR0;have hO0:=bQ hO;obtain rfl:=cA hO0;exact ⟨m',hm,Z',r0⟩
theorem Ok:Ctr Sz prog 147 [.rd (.int .u64)] [.ap (.int .u8)] (fun x=>lL x.1):=
 ncR [] [2] func147 ntmps147 (.s .o (.s .o (.s (.s .o (.b (.l ⟨[.v 3 1 (.dat (.sl (.int .u8)) (some 0)),.v 5 1 (.dat (.int .i64) none)],[0],0,[1]⟩ .o))) .o))) fun x=>by kernel_rfl
def HA:=mC Ok call147
theorem Ol:Ctr Sz prog 104 [.rd (.sl (.int .i64))] [.ap (.int .u8)] (fun x=>lM x.1):=
 ncR [HA] [2] func104 ntmps104 (.s .o (.s .o (.s (.s .o (.b (.l ⟨[.v 3 1 (.dat (.sl (.int .u8)) (some 0)),.v 16 1 (.dat (.int .i64) none)],[0,14,15],0,[1]⟩ (.s .o (.s .o (.s (.b (.s .o (.s .o (.s .o (.s (.b (.l ⟨[.v 3 2 (.dat (.sl (.int .u8)) (some 0)),.v 7 2 (.dat (.int .u64) none)],[0,14,15,16],0,[1]⟩ .o)) .o))))) .o)))))) .o))) fun x=>by kernel_rfl
theorem Au  (hS:S W0 m w L TL) {p0} (ha0:RV (kSl (aj .i64)) m v0 p0) {r} (h:lM p0=some r):
    Calls prog 104 [v0].toArray w (Ret fun v w'=> ∃m',M.le m m'∧S W0 m' w' L ((1,v)::TL)∧RV (kSl (aj .u8)) m' v r):=by
 refine rm (Ol W0 m w L TL [v0] (p0,()) r [] [] hS ⟨ha0,trivial⟩ h) fun v w' he=> ?_;obtain ⟨m',us,Lr,Lq,Tr,hm,Z',rfl,hR,hO⟩:=he;obtain ⟨u0,us,Tr,rfl,rfl,r0,hR0⟩:=uq hR;obtain ⟨rfl,rfl,rfl⟩:=cz hR0;have hO0:=bQ hO;obtain rfl:=cA hO0;exact ⟨m',hm,Z',r0⟩
theorem rZ {b0_:Nat} {c0_:List Value} (hS:S W0 m w ((b0_,c0_)::L) (TL)) {p0} (ha0:GS kAp m b0_ c0_ v0 p0) {p1} (ha1:Fn2 prog kAp kAp (aj .i64) m v1 p1) {r} (h:jV p0 p1=some r):
    Calls prog 148 [v0,v1].toArray w (Ret fun v w'=> ∃m',M.le m m'∧ ∃q0_:List Value,S W0 m' w' ((b0_,q0_)::L) (TL)∧GS kAp m' b0_ q0_ v0 r):=
  FM (ρ:=xI) KX isAgg32 sizeOf32 rfl hS ha0 ha1 h
theorem Om:Ctr Sz prog 150 [.rd (.sl (.st 32)),.rd (.st 32)] [.rd (.int .i64)] (fun x=>gQ x.1 x.2.1):=
 ncR [] [4] func150 ntmps150 (.s .o (.s (.s .o (.b (.l ⟨[.v 8 1 (.dat (.int .i64) none)],[0,3,7],1,[]⟩ .o))) .o)) fun x=>by kernel_rfl
theorem u3  (hS:S W0 m w L TL) {p0} (ha0:RV (kSl kAp) m v0 p0) {p1} (ha1:RV kAp m v1 p1) {r} (h:gQ p0 p1=some r):
    Calls prog 150 [v0,v1].toArray w (Ret fun v w'=> ∃m',M.le m m'∧S W0 m' w' L TL∧RV (aj .i64) m' v r):=by
 refine rm (Om W0 m w L TL [v0,v1] (p0,p1,()) r [] [] hS ⟨ha0,⟨ha1,trivial⟩⟩ h) fun v w' he=> ?_;obtain ⟨m',us,Lr,Lq,Tr,hm,Z',rfl,hR,hO⟩:=he;obtain ⟨u0,us,rfl,r0,hR0⟩:=dn hR;obtain ⟨rfl,rfl,rfl⟩:=cz hR0;have hO0:=bQ hO;have hO1:=bQ hO0;obtain rfl:=cA hO1;exact ⟨m',hm,Z',r0⟩
theorem On:Ctr Sz prog 179 [.rd (.int .u32)] [.rd (.int .i64)] (fun x=>E9 x.1):=
 ncR [] [2] func179 ntmps179 .o fun x=>by kernel_rfl
def Oo:=mC On call179
theorem Oq:Ctr Sz prog 154 [.rd (.int .u64)] [.rd (.int .i64)] (fun x=>oB x.1):=
 ncR [] [2] func154 ntmps154 .o fun x=>by kernel_rfl
def HB:=mC Oq call154
theorem HC:Ctr Sz prog 152 [.rd (.int .u64)] [.rd (.int .i64)] (fun x=>pd x.1):=
 ncR [HB,Oo] [2] func152 ntmps152 .o fun x=>by kernel_rfl
def Ot:=mC HC call152
theorem FN  (hS:S W0 m w L TL) {p0} (ha0:inR .u64 p0) {r} (h:pd p0=some r):
    Calls prog 152 [(.int .u64 p0)].toArray w (Ret fun v w'=> ∃m',M.le m m'∧S W0 m' w' L TL∧RV (aj .i64) m' v r):=by
 refine rm (HC W0 m w L TL [(.int .u64 p0)] (p0,()) r [] [] hS ⟨au ha0,trivial⟩ h) fun v w' he=> ?_;obtain ⟨m',us,Lr,Lq,Tr,hm,Z',rfl,hR,hO⟩:=he;obtain ⟨u0,us,rfl,r0,hR0⟩:=dn hR;obtain ⟨rfl,rfl,rfl⟩:=cz hR0;have hO0:=bQ hO;obtain rfl:=cA hO0;exact ⟨m',hm,Z',r0⟩
theorem sS  (hS:S W0 m w L TL) {p0} (ha0:RV (kSl (aj .u64)) m v0 p0) {p1} (ha1:inR .i64 p1) {r} (h:ii p0 p1=some r):
    Calls prog 151 [v0,(.int .i64 p1)].toArray w (Ret fun v w'=> ∃m',M.le m m'∧S W0 m' w' L TL∧RV (kSl (aj .u8)) m' v r):=by
 refine kc func151 ntmps151 fun a E=> ?_;have E:Env 51 a [(0,v0),(1,.int .i64 p1)]:=E;unfold ii at h;refine ae (ah (qA E rfl fun a E=>ag (ae (ah (qM E rfl fun a E=>sp E (bd (k:=(aj .u64)) E rfl rfl underlying189 ha0) rfl fun a E=>qM E rfl fun a E=>qB E rfl rfl (qx rfl) fun a E=> ?_)))));refine qB E rfl rfl (bj rfl) fun a E=>qB E rfl rfl (wT rfl (by decide)) fun a E=> ?_;obtain ⟨z8,hz9,h⟩:=ob h;refine st E (rf (k:=(aj .u8)) (m:=m) E hS rfl rfl underlying24 type5 rfl rfl rfl (fun m=>zr5 m) hz9 rfl rfl) rfl ?_;rintro v13 a w ⟨b10,cs11,hc12,hS⟩ E
 refine qA E rfl fun a E=>ag (ae (ae (ah (qM E rfl fun a E=>sp E (bd (k:=(aj .u64)) E rfl rfl underlying189 ha0) rfl fun a E=>qM E rfl fun a E=>ag ?_))));refine bJ (fun a w=> ∃x20:(List Int),kr x20=some r∧ ∃m',M.le m m'∧ ∃(v21:Value),RV (kSl (aj .u8)) m' v21 x20∧S W0 m' w L TL∧Env 51 a [(5,v21)]) ?_ ?_
 {
 refine aO ?_;refine cU h (fun (s:Int×List Int) a w=> ∃m',M.le m m'∧ ∃(cs31:List Value),inR .i64 s.1∧GS (aj .u8) m' b10 cs31 v13 s.2∧S W0 m' w ((b10,cs31)::L) (TL)∧Env 51 a [(1,.int .i64 p1),(5,v13),(17,v0),(18,.int .i64 (p0.length:Int)),(19,.int .i64 s.1)]) ?_ ?_
 {exact ⟨_,(Z3 _),cs11,(show inR .i64 0 from aw (by decide)),hc12,hS,kut E⟩}
 {
 rintro ⟨x28,x30⟩ a w ⟨m26,hm27,cs31,hr29,hc32,hS,E⟩ r33 h hb34;have h:iR p0 p1 x28 x30=some r33:=h;unfold iR at h;refine ae (ah (qB E rfl rfl bG fun a E=>ag (ae (kif E rfl (fun hd36=> ?_) (fun hd36=> ?_)))))
 {
 have h:=aB hd36 h;refine aR (ae ?_);refine bJ (fun a w=> ∃x39:(List Int),kt x28 x39=some r33∧ ∃m',M.le m26 m'∧ ∃(cs40:List Value),GS (aj .u8) m' b10 cs40 v13 x39∧S W0 m' w ((b10,cs40)::L) (TL)∧Env 51 a [(1,.int .i64 p1),(5,v13),(17,v0),(18,.int .i64 (p0.length:Int)),(19,.int .i64 x28)]) ?_ ?_
 {
 refine aO (ae (ah (qM E rfl fun a E=> ?_)));obtain ⟨x46,hx47,h⟩:=ob h;refine st E (dv (k:=(aj .u64)) E rfl rfl underlying189 sizeOf54 (ha0.mono hm27) hx47) rfl ?_;rintro v49 a _ ⟨rfl,hp48⟩ E;refine st E (bq E hS yp rfl hp48) rfl ?_;rintro v51 a _ ⟨rfl,hv50⟩ E;obtain ⟨rfl,hr52⟩:=aI hv50;refine qA E rfl fun a E=>qA E rfl fun a E=>ag (ae (ah (qM E rfl fun a E=>qM E rfl fun a E=>ag (aO ?_))))
 refine cU h (fun (s:Int×List Int) a w=> ∃m',M.le m26 m'∧ ∃(cs62:List Value),inR .i64 s.1∧GS (aj .u8) m' b10 cs62 v13 s.2∧S W0 m' w ((b10,cs62)::L) (TL)∧Env 51 a [(1,.int .i64 p1),(5,v13),(6,.int .i64 x28),(7,.int .u64 x46),(17,v0),(18,.int .i64 (p0.length:Int)),(19,.int .i64 x28),(24,.int .i64 p1),(25,.int .i64 s.1)]) ?_ ?_
 {exact ⟨_,(Z3 _),cs31,(show inR .i64 0 from aw (by decide)),hc32,hS,kut E⟩}
 {
 rintro ⟨x59,x61⟩ a w ⟨m57,hm58,cs62,hr60,hc63,hS,E⟩ r64 h hb65;have h:iQ p1 x28 x46 x59 x61=some r64:=h;unfold iQ at h;refine ae (ah (qB E rfl rfl bG fun a E=>ag (ae (kif E rfl (fun hd67=> ?_) (fun hd67=> ?_)))))
 {
 have h:=aB hd67 h;refine aR (ae (aO (ae (ah (qM E rfl fun a E=>qA E rfl fun a E=>ag (ae (ah ?_)))))));refine qM E rfl fun a E=>qM E rfl fun a E=> ?_;obtain ⟨u72,hu73,h⟩:=ob h;refine qB E rfl rfl (pG rfl (of_decide_eq_true (jC hu73))) fun a E=>qB E rfl rfl (EE rfl) fun a E=>qB E rfl rfl gh fun a E=>ag ?_
 refine bJ (fun a w=> ∃x79:(List Int),iP x59 x79=some r64∧ ∃m',M.le m57 m'∧ ∃(cs80:List Value),GS (aj .u8) m' b10 cs80 v13 x79∧S W0 m' w ((b10,cs80)::L) (TL)∧Env 51 a [(1,.int .i64 p1),(5,v13),(6,.int .i64 x28),(7,.int .u64 x46),(17,v0),(18,.int .i64 (p0.length:Int)),(19,.int .i64 x28),(24,.int .i64 p1),(25,.int .i64 x59)]) ?_ ?_
 {
 refine kif E rfl (fun hd85=> ?_) (fun hd85=> ?_)
 {
 have h:=aB hd85 h;refine ae (ah (qM E rfl fun a E=>qM E rfl fun a E=>qB E rfl rfl (qx rfl) fun a E=>qM E rfl fun a E=>qB E rfl rfl (bj rfl) fun a E=>qA E rfl fun a E=>ag ?_));obtain ⟨j92,hj93,x95,hx96,h⟩:=ob2 h;obtain ⟨u98,hu99,h⟩:=ob h
 refine kch (k:=8) (m:=m57) (es:=[]) (Φ:=(fun i m ws v=>match i with|0=>v=v13|1=>ei .i64 (Z1.wrap ((Z1.wrap (x28*p1))+x59)) v|2=>ei .i64 (Z1.wrap ((Z1.wrap ((Z1.wrap (x28*p1))+x59)).tdiv 8)) v|3=>v=(.pointer (some ⟨b10,j92*1,none⟩))|4=>ei .u8 x95 v|5=>ei .i64 (Z1.wrap ((Z1.wrap (x28*p1))+x59)) v|6=>ei .i64 ((Z1.wrap ((Z1.wrap (x28*p1))+x59)).tmod 8) v|7=>ei .u8 (eh .u8 1 ((Z1.wrap ((Z1.wrap (x28*p1))+x59)).tmod 8)) v|_=>True)) (Q:=(fun c m ws L' TL'=>match c with|0=>(b10,cs62)::L=L'∧TL=TL'|_=>False)) (cs:=[⟨0,0,false,[(5,v13)]⟩,⟨0,0,false,[(9,.int .i64 (Z1.wrap ((Z1.wrap (x28*p1))+x59)))]⟩,⟨0,0,false,[]⟩,⟨0,0,false,[]⟩,⟨0,0,false,[]⟩,⟨0,0,false,[(9,.int .i64 (Z1.wrap ((Z1.wrap (x28*p1))+x59)))]⟩,⟨0,0,false,[]⟩,⟨0,0,false,[]⟩]) mixed E hS ⟨rfl,rfl⟩ rfl rfl (by kernel_rfl) ?_ ?_ ?_ ?_
 {
 intro i m_ m2_ ws v n_ q_
 iterate 8 (rcases i with _|i;exact q_)
 exact trivial}
 {
 intro c m_ m2_ ws L_ T_ n_ hq_
 match c,hq_ with
 |0,⟨e1_,e2_⟩=>exact ⟨e1_,e2_⟩
 |_+1,hq_=>exact hq_.elim}
 {
 refine ⟨?_,?_,?_,?_,?_,?_,?_,?_,trivial⟩
 {exact cmv fun _ _=>rfl}
 {exact cmv fun _ _=>⟨rfl,(am _ _)⟩}
 {refine cp0 fun _ _ _ _ _ _ _ _ _ Z' E' T'=> ?_;have E:=E'.add (T' 1).1;exact cq (aQ E rfl rfl (wT rfl (by decide))) Z' ⟨rfl,(am _ _)⟩}
 {refine cp1 fun _ _ _ _ _ M' Q' Z' E' T'=> ?_;obtain ⟨rfl,rfl⟩:=Q';have E:=(E'.add (T' 0)).add (T' 2).1;exact cq (bF (k:=(aj .u8)) E rfl rfl underlying24 sizeOf5 (hc63.mono M') hj93 rfl) Z' rfl}
 {refine cp1 fun _ _ _ _ _ M' Q' Z' E' T'=> ?_;obtain ⟨rfl,rfl⟩:=Q';have E:=E'.add (T' 3);exact cr (az E Z' ty5 rfl (i:=0) rfl (GS.elem (hc63.mono M') hx96)) Z' fun _ h=>aI h}
 {exact cmv fun _ _=>⟨rfl,(am _ _)⟩}
 {refine cp0 fun _ _ _ _ _ _ _ _ _ Z' E' T'=> ?_;obtain ⟨q123,hr124⟩:=T' 5;have E:=E'.add q123;exact cq (aQ E rfl rfl (Bw rfl (by decide))) Z' ⟨rfl,(wS hr124)⟩}
 {refine cp0 fun _ _ _ _ _ _ _ _ _ Z' E' T'=> ?_;have E:=E'.add (T' 6).1;exact cq (aQ E rfl rfl (yC rfl (of_decide_eq_true (jC hu99)))) Z' ⟨rfl,(tI _ _ _)⟩}}
 {
 intro ws_ L_ T_ m131 a w hl132 hm133 hq134 hS hd135 hn136 ho137 hT138;obtain rfl:=dD hl132;obtain ⟨rfl,rfl⟩:=hq134
 have E:=eof 8 [(1,.int .i64 p1),(5,v13),(6,.int .i64 x28),(7,.int .u64 x46),(8,.int .i64 x59),(9,.int .i64 (Z1.wrap ((Z1.wrap (x28*p1))+x59))),(17,v0),(18,.int .i64 (p0.length:Int)),(19,.int .i64 x28),(24,.int .i64 p1),(25,.int .i64 x59),(26,.bool (decide (x59<p1))),(27,.int .i64 x59),(28,.int .u64 x46),(29,.int .i64 x59),(30,.int .u64 (aA .u64 x46 x59)),(31,.int .u64 (c9 .u64 (aA .u64 x46 x59) 1)),(32,.bool ((c9 .u64 (aA .u64 x46 x59) 1)==1)),(33,.int .i64 x28),(34,.int .i64 p1),(35,.int .i64 (Z1.wrap (x28*p1))),(36,.int .i64 x59),(37,.int .i64 (Z1.wrap ((Z1.wrap (x28*p1))+x59)))] hd135 hn136 ho137
 have E:=(((E.add (hT138 0)).add (hT138 2).1).add (hT138 4).1).add (hT138 7).1;refine qB E rfl rfl (HQ rfl) fun a E=> ?_;obtain ⟨j155,hj156,h⟩:=ob h;refine sp E (bF (k:=(aj .u8)) E rfl rfl underlying24 sizeOf5 (hc63.mono hm133) hj156 rfl) rfl fun a E=> ?_;obtain ⟨x160,hx161,h⟩:=ob h;refine st0 E (eO (k:=(aj .u8)) E hS ty5 bn (hc63.mono hm133) hx161 rfl rfl (au (BU _ _ _)) (i:=0) rfl) ?_;rintro _ w ⟨cs158,hc159,hS⟩ E;refine ag ?_;exact ⟨(x61.set j155 (bOr .u8 x95 (eh .u8 1 ((Z1.wrap ((Z1.wrap (x28*p1))+x59)).tmod 8)))),h,_,hm133,cs158,hc159,hS,kut E⟩}}
 {have h:=aC hd85 h;refine aR ?_;exact ⟨x61,h,_,(Z3 _),cs62,hc63,hS,kut E⟩}}
 {rintro a w ⟨x79,h,m77,hm78,cs80,hc81,hS,E⟩;unfold iP at h;refine ah (qB E rfl rfl (bj rfl) fun a E=>qM E rfl fun a E=>ag ?_);exact ⟨(Z1.wrap (x59+1),x79),(Option.some.inj h).symm,_,(Z0 hm58 hm78),cs80,(am _ _),hc81,hS,kut E⟩}}
 {have h:=aC hd67 h;refine cG rfl rfl ?_;have h:=bM h hb65;exact ⟨x61,h,_,hm58,cs62,hc63,hS,kut E⟩}}}
 {rintro a w ⟨x39,h,m37,hm38,cs40,hc41,hS,E⟩;unfold kt at h;refine ah (qB E rfl rfl (bj rfl) fun a E=>qM E rfl fun a E=>ag ?_);exact ⟨(Z1.wrap (x28+1),x39),(Option.some.inj h).symm,_,(Z0 hm27 hm38),cs40,(am _ _),hc41,hS,kut E⟩}}
 {have h:=aC hd36 h;obtain ⟨m163,hm164,hS,hv165⟩:=S.freeze hS hc32;refine cG rfl rfl ?_;have h:=bM h hb34;exact ⟨x30,h,_,(Z0 hm27 hm164),v13,hv165,hS,kut E⟩}}}
 {
 rintro a w ⟨x20,h,m18,hm19,v21,hv22,hS,E⟩;unfold kr at h;refine ae (ah (qM E rfl fun a E=>qA E rfl fun a E=>ag (bH ?_)));obtain rfl:=oi h
 try dsimp only
 refine f1 E ?_;exact ⟨_,hm19,hS,hv22⟩}
theorem Ou:Ctr Sz prog 151 [.rd (.sl (.int .u64)),.rd (.int .i64)] [.rd (.sl (.int .u8))] (fun x=>ii x.1 x.2.1):=by
 intro W0 m w L TL vs x r Lp Tp hS hP h;obtain ⟨v0,vs,rfl,a0,hP0⟩:=hU hP;obtain ⟨v1,vs,rfl,a1,hP1⟩:=hU hP0;obtain ⟨rfl,n1⟩:=aI a1;obtain ⟨rfl,rfl,rfl⟩:=kP hP1;refine rm (sS (hS:=hS) a0 n1 h) fun v w' he=> ?_;obtain ⟨m',hm,Z',r0⟩:=he;exact ⟨m',[v],[],[],[],hm,Z',rfl,⟨r0,trivial⟩,trivial⟩
def Ov:=mC Ou call151
theorem rV  {b0_:Nat} {c0_:List Value} (hS:S W0 m w ((b0_,c0_)::L) (TL)) {p0} (ha0:GS kAp m b0_ c0_ v0 p0) {r} (h:dZ p0=some r):
    Calls prog 149 [v0].toArray w (Ret fun v w'=> ∃m',M.le m m'∧ ∃bq_:Nat,∃cq_:List Value,S W0 m' w' ((bq_,cq_)::L) (TL)∧GS kAp m' bq_ cq_ v r):=by
 refine kc func149 ntmps149 fun a E=> ?_;have E:Env 61 a [(0,v0)]:=E;unfold dZ at h;refine ae (ah (qA E rfl fun a E=>ag (ae (ae (ah (qM E rfl fun a E=>sp E (ov (k:=kAp) E rfl rfl underlying22 ha0) rfl fun a E=>qB E rfl rfl bG fun a E=> ?_))))));refine ag (kif E rfl (fun hd5=> ?_) (fun hd5=> ?_))
 {
 have h:=aB hd5 h;refine ae (ah (qM E rfl fun a E=>qA E rfl fun a E=>ag (bH ?_)));obtain rfl:=oi h
 try dsimp only
 refine f1 E ?_;exact ⟨_,(Z3 _),b0_,c0_,((hS.void 0).pickL 2 [1] rfl rfl rfl),ha0⟩}
 {
 have h:=aC hd5 h;refine aR (ae (ae (ah (qA E rfl fun a E=>ag ?_))));refine bJ (fun a w=>fA p0=some r∧ ∃m',M.le m m'∧S W0 m' w ((0,[])::(b0_,c0_)::L) (TL)∧Env 61 a [(0,v0)]) ?_ ?_
 {
 refine aO ?_;refine cU h (fun (s:Int) a w=> ∃m',M.le m m'∧inR .i64 s∧S W0 m' w ((0,[])::(b0_,c0_)::L) (TL)∧Env 61 a [(0,v0),(3,.int .i64 s)]) ?_ ?_
 {exact ⟨_,(Z3 _),(show inR .i64 1 from aw (by decide)),(hS.void 0),kut E⟩}
 {
 rintro x16 a w ⟨m14,hm15,hr17,hS,E⟩ r18 h hb19;have h:fF p0 x16=some r18:=h;unfold fF at h;refine ae (ae (ah (qM E rfl fun a E=>qM E rfl fun a E=>sp E (ov (k:=kAp) E rfl rfl underlying22 (ha0.mono hm15)) rfl fun a E=>qB E rfl rfl bG fun a E=>ag (kif E rfl (fun hd24=> ?_) (fun hd24=> ?_)))))
 {
 have h:=aB hd24 h;refine aR (ae ?_);refine bJ (fun a w=>fC x16=some r18∧ ∃m',M.le m14 m'∧S W0 m' w ((0,[])::(b0_,c0_)::L) (TL)∧Env 61 a [(0,v0),(3,.int .i64 x16)]) ?_ ?_
 {
 refine aO (ae ?_);obtain ⟨j31,hj32,x34,hx35,h⟩:=ob2 h;obtain ⟨j36,hj37,x39,hx40,h⟩:=ob2 h
 refine kch (k:=9) (m:=m14) (es:=[]) (Φ:=(fun i m ws v=>match i with|0=>v=v0|1=>ei .i64 x16 v|2=>v=(.pointer (some ⟨b0_,j31*4,none⟩))|3=>RV kAp m v x34|4=>v=v0|5=>ei .i64 x16 v|6=>ei .i64 (Z1.wrap (x16 - 1)) v|7=>v=(.pointer (some ⟨b0_,j36*4,none⟩))|8=>RV kAp m v x39|_=>True)) (Q:=(fun c m ws L' TL'=>match c with|0=>(0,[])::(b0_,c0_)::L=L'∧TL=TL'|_=>False)) (cs:=[⟨0,0,false,[(0,v0)]⟩,⟨0,0,false,[(3,.int .i64 x16)]⟩,⟨0,0,false,[]⟩,⟨0,0,false,[]⟩,⟨0,0,false,[(0,v0)]⟩,⟨0,0,false,[(3,.int .i64 x16)]⟩,⟨0,0,false,[]⟩,⟨0,0,false,[]⟩,⟨0,0,false,[]⟩]) mixed E hS ⟨rfl,rfl⟩ rfl rfl (by kernel_rfl) ?_ ?_ ?_ ?_
 {
 intro i m_ m2_ ws v n_ q_
 iterate 9 (rcases i with _|i;first|exact q_|exact RV.mono q_ n_)
 exact trivial}
 {
 intro c m_ m2_ ws L_ T_ n_ hq_
 match c,hq_ with
 |0,⟨e1_,e2_⟩=>exact ⟨e1_,e2_⟩
 |_+1,hq_=>exact hq_.elim}
 {
 refine ⟨?_,?_,?_,?_,?_,?_,?_,?_,?_,trivial⟩
 {exact cmv fun _ _=>rfl}
 {exact cmv fun _ _=>⟨rfl,hr17⟩}
 {refine cp1 fun _ _ _ _ _ M' Q' Z' E' T'=> ?_;obtain ⟨rfl,rfl⟩:=Q';have E:=(E'.add (T' 0)).add (T' 1).1;exact cq (bF (k:=kAp) E rfl rfl underlying22 sizeOf32 (ha0.mono (Z0 hm15 M')) hj32 rfl) Z' rfl}
 {refine cp1 fun _ _ _ _ _ M' Q' Z' E' T'=> ?_;obtain ⟨rfl,rfl⟩:=Q';have E:=E'.add (T' 2);exact cr (az E Z' eG rfl (i:=1) rfl (GS.elem (ha0.mono (Z0 hm15 M')) hx35)) Z' fun _ h=>h}
 {exact cmv fun _ _=>rfl}
 {exact cmv fun _ _=>⟨rfl,hr17⟩}
 {refine cp0 fun _ _ _ _ _ _ _ _ _ Z' E' T'=> ?_;have E:=E'.add (T' 5).1;exact cq (aQ E rfl rfl (cV rfl)) Z' ⟨rfl,(am _ _)⟩}
 {refine cp1 fun _ _ _ _ _ M' Q' Z' E' T'=> ?_;obtain ⟨rfl,rfl⟩:=Q';have E:=(E'.add (T' 4)).add (T' 6).1;exact cq (bF (k:=kAp) E rfl rfl underlying22 sizeOf32 (ha0.mono (Z0 hm15 M')) hj37 rfl) Z' rfl}
 {refine cp1 fun _ _ _ _ _ M' Q' Z' E' T'=> ?_;obtain ⟨rfl,rfl⟩:=Q';have E:=E'.add (T' 7);exact cr (az E Z' eG rfl (i:=1) rfl (GS.elem (ha0.mono (Z0 hm15 M')) hx40)) Z' fun _ h=>h}}
 {
 intro ws_ L_ T_ m74 a w hl75 hm76 hq77 hS hd78 hn79 ho80 hT81;obtain rfl:=dD hl75;obtain ⟨rfl,rfl⟩:=hq77;have E:=eof 9 [(0,v0),(3,.int .i64 x16),(10,.int .i64 x16),(11,v0),(12,.int .i64 (p0.length:Int)),(13,.bool (decide (x16<(p0.length:Int))))] hd78 hn79 ho80;obtain ⟨v82,E,q84⟩:=adv E (hT81 3);obtain ⟨v85,E,q87⟩:=adv E (hT81 8);refine sp E (vu E yo rfl rfl q84 q87 rfl) rfl fun a E=>ag (kif E rfl (fun hd89=> ?_) (fun hd89=> ?_))
 {
 have h:=aB hd89 h;refine ae (ah (qM E rfl fun a E=>qM E rfl fun a E=> ?_));obtain ⟨q93,hq94,h⟩:=ob h;refine st E (ui (k:=kAp) E rfl underlying22 sizeOf32 (ha0.mono (Z0 hm15 hm76)) ⟨_,rfl⟩ rfl hq94 (sz:=4) rfl (xl:=(some (.tmp 27))) (xh:=none)) rfl ?_;rintro v95 a _ ⟨rfl,hc92⟩ E;refine qA E rfl fun a E=>ag (ae (ae (ah (qA E rfl fun a E=>ag ?_))));refine bJ (fun a w=> ∃x100:Int,∃x102:(List Ap),fD x100 x102=some r18∧ ∃m',M.le m74 m'∧ ∃(cs103:List Value),inR .i64 x100∧GS kAp m' b0_ cs103 v0 x102∧S W0 m' w ((0,[])::(b0_,cs103)::L) (TL)∧Env 61 a [(0,v0),(3,.int .i64 x100)]) ?_ ?_
 {
 refine aO ?_;refine cU h (fun (s:Int×Int×List Ap) a w=> ∃m',M.le m74 m'∧ ∃(cs131:List Value),inR .i64 s.1∧inR .i64 s.2.1∧GS kAp m' b0_ cs131 v0 s.2.2∧S W0 m' w ((0,[])::(b0_,cs131)::L) (TL)∧Env 61 a [(0,v0),(3,.int .i64 s.1),(4,v95),(5,.int .i64 s.2.1)]) ?_ ?_
 {exact ⟨_,(Z3 _),c0_,hr17,(show inR .i64 1 from aw (by decide)),(ha0.mono (Z0 hm15 hm76)),hS,kut E⟩}
 {
 rintro ⟨x126,x128,x130⟩ a w ⟨m124,hm125,cs131,hr127,hr129,hc132,hS,E⟩ r133 h hb134;have h:fE q93 x126 x128 x130=some r133:=h;unfold fE at h;refine ae (ae (ah (qM E rfl fun a E=>qM E rfl fun a E=> ?_)));obtain ⟨u137,hu138,h⟩:=ob h;refine sp E (Lj (sz:=4) E rfl rfl underlying22 hc92) rfl fun a E=>qB E rfl rfl bG fun a E=>ag (kif E rfl (fun hd141=> ?_) (fun hd141=> ?_))
 {
 have h:=aB hd141 h;refine aR (ae (aO (ae ?_)));obtain ⟨j142,hj143,x145,hx146,h⟩:=ob2 h;obtain ⟨j147,hj148,x150,hx151,h⟩:=ob2 h
 refine kch (k:=9) (m:=m124) (es:=[]) (Φ:=(fun i m ws v=>match i with|0=>v=v95|1=>ei .i64 x128 v|2=>v=(.pointer (some ⟨b0_,j142*4,none⟩))|3=>RV kAp m v x145|4=>v=v95|5=>ei .i64 x128 v|6=>ei .i64 (Z1.wrap (x128 - 1)) v|7=>v=(.pointer (some ⟨b0_,j147*4,none⟩))|8=>RV kAp m v x150|_=>True)) (Q:=(fun c m ws L' TL'=>match c with|0=>(0,[])::(b0_,cs131)::L=L'∧TL=TL'|_=>False)) (cs:=[⟨0,0,false,[(4,v95)]⟩,⟨0,0,false,[(5,.int .i64 x128)]⟩,⟨0,0,false,[]⟩,⟨0,0,false,[]⟩,⟨0,0,false,[(4,v95)]⟩,⟨0,0,false,[(5,.int .i64 x128)]⟩,⟨0,0,false,[]⟩,⟨0,0,false,[]⟩,⟨0,0,false,[]⟩]) mixed E hS ⟨rfl,rfl⟩ rfl rfl (by kernel_rfl) ?_ ?_ ?_ ?_
 {
 intro i m_ m2_ ws v n_ q_
 iterate 9 (rcases i with _|i;first|exact q_|exact RV.mono q_ n_)
 exact trivial}
 {
 intro c m_ m2_ ws L_ T_ n_ hq_
 match c,hq_ with
 |0,⟨e1_,e2_⟩=>exact ⟨e1_,e2_⟩
 |_+1,hq_=>exact hq_.elim}
 {
 refine ⟨?_,?_,?_,?_,?_,?_,?_,?_,?_,trivial⟩
 {exact cmv fun _ _=>rfl}
 {exact cmv fun _ _=>⟨rfl,hr129⟩}
 {refine cp0 fun _ _ _ _ _ _ _ _ _ Z' E' T'=> ?_;have E:=(E'.add (T' 0)).add (T' 1).1;exact cq (xO (sz:=4) E rfl rfl underlying22 sizeOf32 hc92 hj143) Z' rfl}
 {refine cp1 fun _ _ _ _ _ M' Q' Z' E' T'=> ?_;obtain ⟨rfl,rfl⟩:=Q';have E:=E'.add (T' 2);exact cr (az E Z' eG rfl (i:=1) rfl (GS.elem (hc132.mono M') hx146)) Z' fun _ h=>h}
 {exact cmv fun _ _=>rfl}
 {exact cmv fun _ _=>⟨rfl,hr129⟩}
 {refine cp0 fun _ _ _ _ _ _ _ _ _ Z' E' T'=> ?_;have E:=E'.add (T' 5).1;exact cq (aQ E rfl rfl (cV rfl)) Z' ⟨rfl,(am _ _)⟩}
 {refine cp0 fun _ _ _ _ _ _ _ _ _ Z' E' T'=> ?_;have E:=(E'.add (T' 4)).add (T' 6).1;exact cq (xO (sz:=4) E rfl rfl underlying22 sizeOf32 hc92 hj148) Z' rfl}
 {refine cp1 fun _ _ _ _ _ M' Q' Z' E' T'=> ?_;obtain ⟨rfl,rfl⟩:=Q';have E:=E'.add (T' 7);exact cr (az E Z' eG rfl (i:=1) rfl (GS.elem (hc132.mono M') hx151)) Z' fun _ h=>h}}
 {
 intro ws_ L_ T_ m185 a w hl186 hm187 hq188 hS hd189 hn190 ho191 hT192;obtain rfl:=dD hl186;obtain ⟨rfl,rfl⟩:=hq188;have E:=eof 9 [(0,v0),(3,.int .i64 x126),(4,v95),(5,.int .i64 x128),(29,.int .i64 x128),(30,v95),(31,.int .i64 (q93.2:Int)),(32,.bool (decide (x128<(q93.2:Int))))] hd189 hn190 ho191;obtain ⟨v193,E,q195⟩:=adv E (hT192 3);obtain ⟨v196,E,q198⟩:=adv E (hT192 8);refine sp E (vx E yo rfl rfl q195 q198 rfl) rfl fun a E=>ag ?_
 refine bJ (fun a w=> ∃x202:Int,∃x204:(List Ap),dy x128 x202 x204=some r133∧ ∃m',M.le m185 m'∧ ∃(cs205:List Value),inR .i64 x202∧GS kAp m' b0_ cs205 v0 x204∧S W0 m' w ((0,[])::(b0_,cs205)::L) (TL)∧Env 61 a [(0,v0),(3,.int .i64 x202),(4,v95),(5,.int .i64 x128)]) ?_ ?_
 {
 refine kif E rfl (fun hd211=> ?_) (fun hd211=> ?_)
 {
 have h:=aB hd211 h;refine ae (ah (qM E rfl fun a E=>qM E rfl fun a E=>qM E rfl fun a E=>qM E rfl fun a E=> ?_));obtain ⟨j216,hj217,h⟩:=ob h;refine sp E (xO (sz:=4) E rfl rfl underlying22 sizeOf32 hc92 hj217) rfl fun a E=> ?_;obtain ⟨x220,hx221,h⟩:=ob h;refine st E (az E hS eG rfl (i:=1) rfl (GS.elem (hc132.mono hm187) hx221)) rfl ?_;rintro v222 a _ ⟨rfl,hv219⟩ E;obtain ⟨j223,hj224,h⟩:=ob h;refine sp E (bF (k:=kAp) E rfl rfl underlying22 sizeOf32 (hc132.mono hm187) hj224 rfl) rfl fun a E=> ?_;obtain ⟨x228,hx229,h⟩:=ob h
 refine st0 E (eO (k:=kAp) E hS eG bn (hc132.mono hm187) hx229 rfl rfl hv219 (i:=1) rfl) ?_;rintro _ w ⟨cs226,hc227,hS⟩ E;refine ag (ah (qM E rfl fun a E=>qB E rfl rfl (bj rfl) fun a E=>qA E rfl fun a E=>ag ?_));exact ⟨(Z1.wrap (x126+1)),(x130.set j223 x220),h,_,(Z3 _),cs226,(am _ _),hc227,hS,kut E⟩}
 {have h:=aC hd211 h;refine aR ?_;exact ⟨x126,x130,h,_,(Z3 _),cs131,hr127,(hc132.mono hm187),hS,kut E⟩}}
 {rintro a w ⟨x202,x204,h,m200,hm201,cs205,hr203,hc206,hS,E⟩;unfold dy at h;refine ah (qM E rfl fun a E=>qB E rfl rfl (bj rfl) fun a E=>qA E rfl fun a E=>ag ?_);exact ⟨(x202,Z1.wrap (x128+1),x204),(Option.some.inj h).symm,_,(Z0 hm125 (Z0 hm187 hm201)),cs205,hr203,(am _ _),hc206,hS,kut E⟩}}}
 {have h:=aC hd141 h;refine cG rfl rfl ?_;have h:=bM h hb134;exact ⟨x126,x130,h,_,hm125,cs131,hr127,hc132,hS,kut E⟩}}}
 {
 rintro a w ⟨x100,x102,h,m98,hm99,cs103,hr101,hc104,hS,E⟩;unfold fD at h;refine ae (ah (qM E rfl fun a E=>qM E rfl fun a E=> ?_));obtain ⟨q109,hq110,h⟩:=ob h;refine st E (ui (k:=kAp) E rfl underlying22 sizeOf32 hc104 ⟨_,rfl⟩ rfl hq110 (sz:=4) rfl (xl:=(some (.tmp 55))) (xh:=none)) rfl ?_;rintro v111 a _ ⟨rfl,hc108⟩ E;obtain ⟨z114,hz115,h⟩:=ob h;refine st0 E (F4 (k:=kAp) E hS rfl rfl underlying22 zeroValue32 (fun m=>pC m) (i:=1) rfl hc104 hc108 hz115) ?_;rintro _ w ⟨cs112,hc113,hS⟩ E;refine ag (ae (ah (qM E rfl fun a E=>qM E rfl fun a E=> ?_)));obtain ⟨x120,hx121,h⟩:=ob h
 refine st E (F3 (k:=kAp) E rfl underlying22 sizeOf32 hc113 rfl hx121) rfl ?_;rintro v122 a _ ⟨rfl,hc119⟩ E;refine qA E rfl fun a E=>ag (bH ?_);have h:=bM h hb19;obtain rfl:=oi h
 try dsimp only
 refine f1 E ?_;exact ⟨_,(Z0 hm15 (Z0 hm76 hm99)),b0_,cs112,(hS.pickL 2 [1] rfl rfl rfl),hc119⟩}}
 {have h:=aC hd89 h;refine aR ?_;exact ⟨h,_,hm76,hS,kut E⟩}}}
 {rintro a w ⟨h,m25,hm26,hS,E⟩;unfold fC at h;refine ah (qM E rfl fun a E=>qB E rfl rfl (bj rfl) fun a E=>qA E rfl fun a E=>ag ?_);exact ⟨Z1.wrap (x16+1),(Option.some.inj h).symm,_,(Z0 hm15 hm26),(am _ _),hS,kut E⟩}}
 {have h:=aC hd24 h;refine cG rfl rfl ?_;have h:=bM h hb19;exact ⟨h,_,hm15,hS,kut E⟩}}}
 {
 rintro a w ⟨h,m9,hm10,hS,E⟩;unfold fA at h;refine ae (ah (qM E rfl fun a E=>qA E rfl fun a E=>ag (bH ?_)));obtain rfl:=oi h
 try dsimp only
 refine f1 E ?_;exact ⟨_,hm10,b0_,c0_,(hS.pickL 2 [1] rfl rfl rfl),(ha0.mono hm10)⟩}}
theorem tD  (hS:S W0 m w L TL) {p0} (ha0:RV (kSl kAp) m v0 p0) {r} (h:iv p0=some r):
    Calls prog 92 [v0].toArray w (Ret fun v w'=> ∃m',M.le m m'∧ ∃bq_:Nat,∃cq_:List Value,S W0 m' w' ((bq_,cq_)::L) (TL)∧GS kAp m' bq_ cq_ v r):=by
 refine kc func92 ntmps92 fun a E=> ?_;have E:Env 8 a [(0,v0)]:=E;unfold iv at h;refine ae (ah (qA E rfl fun a E=>ag (ae (ae (ah (qM E rfl fun a E=> ?_))))));refine st E (xQ (k:=kAp) E rfl rfl ha0 underlying22) rfl ?_;rintro v5 a _ ⟨rfl,bn3,rfl,hb4⟩ E;refine ag (kif E rfl (fun hd6=> ?_) (fun hd6=> ?_))
 {
 have hx_:=hb4 hd6;have h:some ([]:List Ap)=some r:=by rw [hx_] at h;exact h
 refine ae (ah (qA E rfl fun a E=>ag (bH ?_)));obtain rfl:=oi h
 try dsimp only
 refine f1 E ?_;exact ⟨_,(Z3 _),0,[],(((hS.void 0).void 0).pickL 2 [0] rfl rfl rfl),GS.void⟩}
 {
 refine aR (ae (ah ?_));refine st E (JV (k:=kAp) (m:=m) (xs:=[]) (vs:=[]) E (hS.void 0) rfl underlying22 sizeOf32 zeroValue32 trivial rfl (by decide)) rfl ?_;rintro v14 a w ⟨b11,cs12,hc13,hS⟩ E;refine qM E rfl fun a E=> ?_;obtain ⟨z16,hz17,h⟩:=ob h;refine st E (zB (k:=kAp) (N:=3518437208883) E hS rfl rfl underlying22 Dk (i:=0) rfl hc13 (yD hS underlying22 ha0) hz17 rfl rfl) rfl ?_;rintro v24 a w ⟨b21,cs22,hc23,hS⟩ E;refine qA E rfl fun a E=>ag (bH ?_);obtain rfl:=oi h
 try dsimp only
 refine f1 E ?_;exact ⟨_,(Z3 _),b21,cs22,(hS.pickL 2 [0] rfl rfl rfl),hc23⟩}
theorem Dw {m0:M}:Fn2 prog kAp kAp (aj .i64) m0 (.func (.func 109) [].toArray [].toArray) cB:=by
  refine ⟨109,_,rfl,call109,?_⟩;intro W0 m w L TL v0 v1 x0 x1 r hm hS h0 h1 hr;refine (zr (hS:=hS) h0 h1 hr).mono ?_;intro e w' he;cases e with
  |returned v=>obtain ⟨m',h1,h2,h3⟩:=he;exact ⟨m',h1,h2,h3⟩
  |panicked ch=>exact he.elim
  |outgrown=>exact he.elim
theorem Bu  (hS:S W0 m w L TL) {p0} (ha0:RV (kSl kAp) m v0 p0) {r} (h:mL p0=some r):
    Calls prog 105 [v0].toArray w (Ret fun v w'=> ∃m',M.le m m'∧S W0 m' w' L ((1,v)::TL)∧RV (kSl (aj .u8)) m' v r):=by
 refine kc func105 ntmps105 fun a E=> ?_;have E:Env 54 a [(0,v0)]:=E;unfold mL at h;refine ae (ah (qA E rfl fun a E=>ag (ae (ah (qM E rfl fun a E=> ?_)))));obtain ⟨r3,hr4,h⟩:=ob h;refine st E (aG (vs:=[v0]) E rfl call92 (tD (hS:=hS) ha0 hr4)) rfl ?_;rintro v11 a w ⟨m5,hm6,b7,cs8,hS,hc9⟩ E;refine qA E rfl fun a E=>ag (ae (ah (qM E rfl fun a E=> ?_)));obtain ⟨r14,hr15,h⟩:=ob h;refine st E (aG (vs:=[v11,(.func (.func 109) #[] #[])]) E rfl call148 (rZ (hS:=hS) hc9 (Dw (m0:=m5)) hr15)) rfl ?_;rintro v20 a w ⟨m16,hm17,c0_18,hS,hc0_19⟩ E;refine ag (ae (ah (qM E rfl fun a E=> ?_)))
 obtain ⟨r22,hr23,h⟩:=ob h;refine st E (aG (vs:=[v11]) E rfl call149 (rV (hS:=hS) hc0_19 hr23)) rfl ?_;rintro v30 a w ⟨m24,hm25,b26,cs27,hS,hc28⟩ E;refine qA E rfl fun a E=>ag (ae ?_);obtain ⟨m32,hm33,hS,hv34⟩:=S.freeze hS hc28;refine ah (qM E rfl fun a E=>sp E (bd (k:=kAp) E rfl rfl underlying22 hv34) rfl fun a E=>sp E (dA E rfl underlying3 underlying5 rfl) rfl fun a E=> ?_);refine st E (fm (k:=(aj .u8)) (xs:=[Z5.wrap (r22.length:Int)]) (vs:=[(.int .u8 (Z5.wrap (r22.length:Int)))]) E hS rfl underlying24 sizeOf5 zeroValue5 ⟨(au (am _ _)),trivial⟩ rfl (by decide)) rfl ?_
 rintro v41 a w ⟨m39,hm40,hS,hv38⟩ E;refine qA E rfl fun a E=>ag (ae (ae (ah (qM E rfl fun a E=>sp E (bd (k:=kAp) E rfl rfl underlying22 (hv34.mono hm40)) rfl fun a E=>qM E rfl fun a E=>ag ?_))));refine bJ (fun a w=> ∃x48:(List Int),l9 p0 r22 x48=some r∧ ∃m',M.le m39 m'∧ ∃(v49:Value),RV (kSl (aj .u8)) m' v49 x48∧S W0 m' w L ((1,v49)::TL)∧Env 54 a [(0,v0),(3,v30),(4,v49)]) ?_ ?_
 {
 refine aO ?_;refine cU h (fun (s:List Int×Int) a w=> ∃m',M.le m39 m'∧ ∃(v138:Value),RV (kSl (aj .u8)) m' v138 s.1∧inR .i64 s.2∧S W0 m' w L ((1,v138)::TL)∧Env 54 a [(0,v0),(3,v30),(4,v138),(20,v30),(21,.int .i64 (r22.length:Int)),(22,.int .i64 s.2)]) ?_ ?_
 {exact ⟨_,(Z3 _),v41,hv38,(show inR .i64 0 from aw (by decide)),hS,kut E⟩}
 {
 rintro ⟨x137,x140⟩ a w ⟨m135,hm136,v138,hv139,hr141,hS,E⟩ r142 h hb143;have h:jW p0 r22 x137 x140=some r142:=h;unfold jW at h;refine ae (ah (qB E rfl rfl bG fun a E=>ag (ae (kif E rfl (fun hd145=> ?_) (fun hd145=> ?_)))))
 {
 have h:=aB hd145 h;refine aR (ae (aO (ae (ah ?_))));obtain ⟨x146,hx147,h⟩:=ob h;refine st E (dv (k:=kAp) E rfl rfl underlying22 sizeOf32 (hv34.mono (Z0 hm40 hm136)) hx147) rfl ?_;rintro v149 a _ ⟨rfl,hp148⟩ E;refine st E (bq E hS eG rfl hp148) rfl ?_;rintro v151 a _ ⟨rfl,hv150⟩ E;refine st E (dP hS zeroValue32 rfl (cs:=wE)) rfl ?_;rintro _ a w ⟨b152,rfl,hS⟩ E;refine st0 E (cZ E hS eG bn rfl rfl hv150 (i:=0) rfl (pC _)) ?_;rintro _ w ⟨cs154,hc155,hS⟩ E;refine ag (ah (qM E rfl fun a E=> ?_));refine st E (az E hS eG rfl (i:=0) rfl (aP hc155)) rfl ?_;rintro v159 a _ ⟨rfl,hv158⟩ E
 obtain ⟨r160,hr161,h⟩:=ob h;refine st E (aG (vs:=[v159]) E rfl call107 (wL (hS:=hS) hv158 hr161)) rfl ?_;rintro v165 a w ⟨m162,hm163,hS,hv164⟩ E;obtain ⟨z166,hz167,h⟩:=ob h;refine st E (ik (k:=(aj .u8)) (N:=140737488355328) E hS rfl rfl underlying24 underlying24 el5 (i:=0) rfl (hv139.mono hm163) hv164 hz167 rfl rfl) rfl ?_;rintro v171 a w ⟨m169,hm170,hS,hv168⟩ E;refine qA E rfl fun a E=>ag (ah (qB E rfl rfl (bj rfl) fun a E=>qM E rfl fun a E=>ag ?_));exact ⟨(z166,Z1.wrap (x140+1)),(Option.some.inj h).symm,_,(Z0 hm136 (Z0 hm163 hm170)),v171,hv168,(am _ _),(hS.pickL 1 [] rfl rfl rfl),kut E⟩}
 {have h:=aC hd145 h;refine cG rfl rfl ?_;have h:=bM h hb143;exact ⟨x137,h,_,hm136,v138,hv139,hS,kut E⟩}}}
 {
 rintro a w ⟨x48,h,m46,hm47,v49,hv50,hS,E⟩;unfold l9 at h;refine ae (ah (qA E rfl fun a E=>ag (ae (ae (ah (qM E rfl fun a E=>sp E (bd (k:=kAp) E rfl rfl underlying22 (ha0.mono (Z0 hm6 (Z0 hm17 (Z0 hm25 (Z0 hm33 (Z0 hm40 hm47))))))) rfl fun a E=>qM E rfl fun a E=> ?_))))));refine ag ?_;refine bJ (fun a w=> ∃x58:(List Int),l8 r22 x48 x58=some r∧ ∃m',M.le m46 m'∧ ∃(v59:Value),RV (kSl (aj .u64)) m' v59 x58∧S W0 m' w L ((1,v59)::(1,v49)::TL)∧Env 54 a [(3,v30),(4,v49),(7,v59)]) ?_ ?_
 {
 refine aO ?_;refine cU h (fun (s:List Int×Int) a w=> ∃m',M.le m46 m'∧ ∃(v91:Value),RV (kSl (aj .u64)) m' v91 s.1∧inR .i64 s.2∧S W0 m' w L ((1,v91)::(1,v49)::TL)∧Env 54 a [(3,v30),(4,v49),(7,v91),(31,v0),(32,.int .i64 (p0.length:Int)),(33,.int .i64 s.2)]) ?_ ?_
 {exact ⟨_,(Z3 _),(.slice none 0 0),dB,(show inR .i64 0 from aw (by decide)),(hS.tail0 1),kut E⟩}
 {
 rintro ⟨x90,x93⟩ a w ⟨m88,hm89,v91,hv92,hr94,hS,E⟩ r95 h hb96;have h:iG p0 r22 x48 x90 x93=some r95:=h;unfold iG at h;refine ae (ah (qB E rfl rfl bG fun a E=>ag (ae (kif E rfl (fun hd98=> ?_) (fun hd98=> ?_)))))
 {
 have h:=aB hd98 h;refine aR (ae (aO (ae (ah ?_))));obtain ⟨x99,hx100,h⟩:=ob h;refine st E (dv (k:=kAp) E rfl rfl underlying22 sizeOf32 (ha0.mono (Z0 hm6 (Z0 hm17 (Z0 hm25 (Z0 hm33 (Z0 hm40 (Z0 hm47 hm89))))))) hx100) rfl ?_;rintro v102 a _ ⟨rfl,hp101⟩ E;refine st E (bq E hS eG rfl hp101) rfl ?_;rintro v104 a _ ⟨rfl,hv103⟩ E;refine st E (dP hS zeroValue32 rfl (cs:=wE)) rfl ?_;rintro _ a w ⟨b105,rfl,hS⟩ E;refine st0 E (cZ E hS eG bn rfl rfl hv103 (i:=0) rfl (pC _)) ?_;rintro _ w ⟨cs107,hc108,hS⟩ E;refine ag (ah (qM E rfl fun a E=>qM E rfl fun a E=> ?_))
 refine st E (az E hS eG rfl (i:=0) rfl (aP hc108)) rfl ?_;rintro v113 a _ ⟨rfl,hv112⟩ E;obtain ⟨r114,hr115,h⟩:=ob h;refine st E (aG (vs:=[v30,v113]) E rfl call150 (u3 (hS:=hS) (hv34.mono (Z0 hm40 (Z0 hm47 hm89))) hv112 hr115)) rfl ?_;rintro v119 a w ⟨m116,hm117,hS,hv118⟩ E;obtain ⟨rfl,hr120⟩:=aI hv118;refine sp E (dA E rfl underlying3 underlying54 rfl) rfl fun a E=> ?_;refine st E (fm (k:=(aj .u64)) (xs:=[Z6.wrap r114]) (vs:=[(.int .u64 (Z6.wrap r114))]) E hS rfl underlying189 sizeOf54 zeroValue54 ⟨(au (am _ _)),trivial⟩ rfl (by decide)) rfl ?_;rintro v125 a w ⟨m123,hm124,hS,hv122⟩ E
 obtain ⟨z126,hz127,h⟩:=ob h;refine st E (ik (k:=(aj .u64)) (N:=17592186044416) E hS rfl rfl underlying189 underlying189 MM (i:=1) rfl (hv92.mono (Z0 hm117 hm124)) hv122 hz127 rfl rfl) rfl ?_;rintro v131 a w ⟨m129,hm130,hS,hv128⟩ E;refine qA E rfl fun a E=>ag (ah (qB E rfl rfl (bj rfl) fun a E=>qM E rfl fun a E=>ag ?_));exact ⟨(z126,Z1.wrap (x93+1)),(Option.some.inj h).symm,_,(Z0 hm89 (Z0 hm117 (Z0 hm124 hm130))),v131,hv128,(am _ _),((hS.pickL 1 [] rfl rfl rfl).pickT 3 [1,2] rfl rfl rfl),kut E⟩}
 {have h:=aC hd98 h;refine cG rfl rfl ?_;have h:=bM h hb96;exact ⟨x90,h,_,hm89,v91,hv92,hS,kut E⟩}}}
 {
 rintro a w ⟨x58,h,m56,hm57,v59,hv60,hS,E⟩;unfold l8 at h;refine ae (ah (qM E rfl fun a E=>qM E rfl fun a E=>qM E rfl fun a E=>sp E (bd (k:=kAp) E rfl rfl underlying22 (hv34.mono (Z0 hm40 (Z0 hm47 hm57)))) rfl fun a E=>qB E rfl rfl (cV rfl) fun a E=>sp E (dA E rfl underlying3 underlying94 rfl) rfl fun a E=> ?_));obtain ⟨r68,hr69,h⟩:=ob h;refine st E (aG (vs:=[(.int .u64 (Z6.wrap (Z1.wrap ((r22.length:Int) - 1))))]) E rfl call152 (FN (hS:=hS) (am _ _) hr69)) rfl ?_;rintro v73 a w ⟨m70,hm71,hS,hv72⟩ E;obtain ⟨rfl,hr74⟩:=aI hv72;obtain ⟨r75,hr76,h⟩:=ob h
 refine st E (aG (vs:=[v59,(.int .i64 r68)]) E rfl call151 (sS (hS:=hS) (hv60.mono hm71) hr74 hr76)) rfl ?_;rintro v80 a w ⟨m77,hm78,hS,hv79⟩ E;obtain ⟨z81,hz82,h⟩:=ob h;refine st E (ik (k:=(aj .u8)) (N:=140737488355328) E hS rfl rfl underlying24 underlying24 el5 (i:=1) rfl (hv50.mono (Z0 hm57 (Z0 hm71 hm78))) hv79 hz82 rfl rfl) rfl ?_;rintro v86 a w ⟨m84,hm85,hS,hv83⟩ E;refine qA E rfl fun a E=>ag (bH ?_);obtain rfl:=oi h
 try dsimp only
 refine f1 E ?_;exact ⟨_,(Z0 hm6 (Z0 hm17 (Z0 hm25 (Z0 hm33 (Z0 hm40 (Z0 hm47 (Z0 hm57 (Z0 hm71 (Z0 hm78 hm85))))))))),(hS.pickT 2 [1] rfl rfl rfl),hv83⟩}}
theorem Ow:Ctr Sz prog 153 [.rd (.sl (.int .i64))] [.rd (.int .i64)] (fun x=>ku x.1):=
 ncR [] [2] func153 ntmps153 (.s .o (.s .o (.s .o (.s (.s .o (.b (.l ⟨[.v 3 1 (.dat (.int .i64) none),.v 4 1 (.dat (.int .i64) none)],[0],0,[]⟩ .o))) .o)))) fun x=>by kernel_rfl
def Ox:=mC Ow call153
theorem Oy:Ctr Sz prog 106 [.rd (.sl (.int .i64))] [.ap (.int .u8)] (fun x=>lN x.1):=
 ncR [HA,Ov,Ox,HB] [2] func106 ntmps106 (.s .o (.s .o (.s .o (.s .o (.s (.s .o (.b (.l ⟨[.v 4 1 (.dat (.sl (.int .u64)) (some 0)),.v 5 1 (.dat (.int .i64) none),.v 13 1 (.dat (.int .i64) none)],[3,11,12],0,[1]⟩ .o))) .o))))) fun x=>by kernel_rfl
theorem Av  (hS:S W0 m w L TL) {p0} (ha0:RV (kSl (aj .i64)) m v0 p0) {r} (h:lN p0=some r):
    Calls prog 106 [v0].toArray w (Ret fun v w'=> ∃m',M.le m m'∧S W0 m' w' L ((1,v)::TL)∧RV (kSl (aj .u8)) m' v r):=by
 refine rm (Oy W0 m w L TL [v0] (p0,()) r [] [] hS ⟨ha0,trivial⟩ h) fun v w' he=> ?_;obtain ⟨m',us,Lr,Lq,Tr,hm,Z',rfl,hR,hO⟩:=he;obtain ⟨u0,us,Tr,rfl,rfl,r0,hR0⟩:=uq hR;obtain ⟨rfl,rfl,rfl⟩:=cz hR0;have hO0:=bQ hO;obtain rfl:=cA hO0;exact ⟨m',hm,Z',r0⟩
theorem Oz {m0:M}:Fn1 prog kAp cK m0 (.func (.func 100) [].toArray [].toArray) eP:=by
  refine ⟨100,_,rfl,call100,?_⟩;intro W0 m w L TL v0 x0 r hm hS h0 hr;refine (xt (hS:=hS) h0 hr).mono ?_;intro e w' he;cases e with
  |returned v=>obtain ⟨m',h1,h2,h3⟩:=he;exact ⟨m',h1,h2,h3⟩
  |panicked ch=>exact he.elim
  |outgrown=>exact he.elim
theorem zw  (hS:S W0 m w L TL) {p0} (ha0:inR .i64 p0) {p1} (ha1:RV (kSl kAp) m v1 p1) {r} (h:eW p0 p1=some r):
    Calls prog 47 [(.int .i64 p0),v1].toArray w (Ret fun v w'=> ∃m',M.le m m'∧S W0 m' w' L TL∧ ∃v0_ v1_:Value,v= .tuple #[v0_,v1_]∧RV (kSl (aj .u8)) m' v0_ r.1∧RV (aj .i64) m' v1_ r.2):=by
 refine kc func47 ntmps47 fun a E=> ?_;have E:Env 69 a [(0,.int .i64 p0),(1,v1)]:=E;unfold eW at h;refine ae (ah (qA E rfl fun a E=>qA E rfl fun a E=>ag (ae (ae ?_))));refine bJ (fun a w=> ∃x5:Bool,gw p0 p1 x5=some r∧ ∃m',M.le m m'∧S W0 m' w L TL∧Env 69 a [(0,.int .i64 p0),(1,v1),(16,.bool x5)]) ?_ ?_
 {
 refine ah (qM E rfl fun a E=>qB E rfl rfl bG fun a E=>qM E rfl fun a E=> ?_);rcases Z2 (decide (p0<0)) with hd174|hd174
 {have h:=aB hd174 h;refine qX E hd174 fun a E=>qX E hd174 fun a E=>qT E hd174 rfl fun a E=>ag ?_;exact ⟨true,h,_,(Z3 _),hS,kut E⟩}
 {have h:=aC hd174 h;refine qG E hd174 rfl fun a E=>spg E rfl rfl rfl rfl hd174 (aQ E rfl rfl g7) rfl fun a E=>qF E hd174 rfl fun a E=>ag ?_;exact ⟨(decide (4<p0)),h,_,(Z3 _),hS,kut E⟩}}
 {
 rintro a w ⟨x5,h,m3,hm4,hS,E⟩;unfold gw at h;refine kif E rfl (fun hd7=> ?_) (fun hd7=> ?_)
 {
 have h:=aB hd7 h;refine ae (ah (qA E rfl fun a E=>qA E rfl fun a E=>ag (bH ?_)));obtain rfl:=oi h
 try dsimp only
 refine f2 E ?_;exact ⟨_,hm4,hS,_,_,rfl,dB,(au (show inR .i64 62 from aw (by decide)))⟩}
 {
 have h:=aC hd7 h;refine aR (ae (ae (ah (qM E rfl fun a E=>sp E (bd (k:=kAp) E rfl rfl underlying22 (ha1.mono hm4)) rfl fun a E=>qB E rfl rfl g7 fun a E=>ag (kif E rfl (fun hd13=> ?_) (fun hd13=> ?_))))))
 {
 have h:=aB hd13 h;refine ae (ah (qA E rfl fun a E=>qA E rfl fun a E=>ag (bH ?_)));obtain rfl:=oi h
 try dsimp only
 refine f2 E ?_;exact ⟨_,hm4,hS,_,_,rfl,dB,(au (show inR .i64 61 from aw (by decide)))⟩}
 {
 have h:=aC hd13 h;refine aR (ae (ae (ah (qM E rfl fun a E=> ?_))));obtain ⟨r17,hr18,h⟩:=ob h;refine st E (aG (vs:=[v1,(.func (.func 100) #[] #[])]) E rfl call99 (ql (hS:=hS) (ha1.mono hm4) (Oz (m0:=m3)) hr18)) rfl ?_;rintro v22 a w ⟨m19,hm20,hS,hv21⟩ E;obtain rfl:=fo hv21;refine ag (kif E rfl (fun hd23=> ?_) (fun hd23=> ?_))
 {
 have h:=aB hd23 h;refine ae (ah (qA E rfl fun a E=>qA E rfl fun a E=>ag (bH ?_)));obtain rfl:=oi h
 try dsimp only
 refine f2 E ?_;exact ⟨_,(Z0 hm4 hm20),hS,_,_,rfl,dB,(au (show inR .i64 60 from aw (by decide)))⟩}
 {
 have h:=aC hd23 h;refine aR (ae (ah (qM E rfl fun a E=> ?_)));obtain ⟨r27,hr28,h⟩:=ob h;refine st E (aG (vs:=[v1]) E rfl call102 (Bq (hS:=hS) (ha1.mono (Z0 hm4 hm20)) hr28)) rfl ?_;rintro _ a w ⟨m29,hm30,hS,v0_31,v1_32,rfl,hv0_33,hv1_34⟩ E;obtain rfl:=fo hv1_34;refine qM E rfl fun a E=>sp E (bX E rfl rfl) rfl fun a E=>sp E (bX E rfl rfl) rfl fun a E=>qA E rfl fun a E=>qA E rfl fun a E=>ag (ae (ae ?_));refine bJ (fun a w=> ∃x43:Bool,et p0 p1 r27 x43=some r∧ ∃m',M.le m29 m'∧S W0 m' w L TL∧Env 69 a [(0,.int .i64 p0),(1,v1),(6,v0_31),(36,.bool x43)]) ?_ ?_
 {
 refine ah (qM E rfl fun a E=>sp E (ly E rfl) rfl fun a E=>qM E rfl fun a E=> ?_);rcases Z2 (!r27.2) with hd159|hd159
 {
 have h:=aB hd159 h;refine qG E hd159 rfl fun a E=>spg E rfl rfl rfl rfl hd159 (aQ E rfl rfl gh) rfl fun a E=>qG E hd159 rfl fun a E=> ?_;rcases Z2 (p0==2) with hd163|hd163
 {have h:=aB hd163 h;refine qX E hd163 fun a E=>qX E hd163 fun a E=>spg E rfl rfl rfl rfl hd159 (tJ E rfl hd163 rfl) rfl fun a E=>qT E hd159 rfl fun a E=>ag ?_;exact ⟨true,h,_,(Z3 _),hS,kut E⟩}
 {have h:=aC hd163 h;refine qG E hd163 rfl fun a E=>spg E rfl rfl rfl rfl hd163 (aQ E rfl rfl gh) rfl fun a E=>spg E rfl rfl rfl rfl hd159 (tK E rfl hd163 rfl) rfl fun a E=>qT E hd159 rfl fun a E=>ag ?_;exact ⟨(p0==4),h,_,(Z3 _),hS,kut E⟩}}
 {have h:=aC hd159 h;refine qX E hd159 fun a E=>qX E hd159 fun a E=>qX E hd159 fun a E=>sxu E rfl rfl rfl rfl fun a E=>sxu E rfl rfl rfl rfl fun a E=>qX E hd159 fun a E=>qF E hd159 rfl fun a E=>ag ?_;exact ⟨false,h,_,(Z3 _),hS,kut E⟩}}
 {
 rintro a w ⟨x43,h,m41,hm42,hS,E⟩;unfold et at h;refine kif E rfl (fun hd45=> ?_) (fun hd45=> ?_)
 {
 have h:=aB hd45 h;refine ae (ah (qA E rfl fun a E=>qA E rfl fun a E=>ag (bH ?_)));obtain rfl:=oi h
 try dsimp only
 refine f2 E ?_;exact ⟨_,(Z0 hm4 (Z0 hm20 (Z0 hm30 hm42))),hS,_,_,rfl,dB,(au (show inR .i64 62 from aw (by decide)))⟩}
 {
 have h:=aC hd45 h;refine aR (ae (ae (ah (qM E rfl fun a E=>sp E (bd (k:=kAp) E rfl rfl underlying22 (ha1.mono (Z0 hm4 (Z0 hm20 (Z0 hm30 hm42))))) rfl fun a E=>qB E rfl rfl gh fun a E=>ag (kif E rfl (fun hd51=> ?_) (fun hd51=> ?_))))))
 {
 have h:=aB hd51 h;refine ae (ah (qA E rfl fun a E=>qA E rfl fun a E=>ag (bH ?_)));obtain rfl:=oi h
 try dsimp only
 refine f2 E ?_;exact ⟨_,(Z0 hm4 (Z0 hm20 (Z0 hm30 hm42))),hS,_,_,rfl,dB,(au (show inR .i64 0 from aw (by decide)))⟩}
 {
 have h:=aC hd51 h;refine aR (ae (ae (ah (qM E rfl fun a E=>ag (aO (ae (ah (qB E rfl rfl gh fun a E=> ?_))))))));refine qA E rfl fun a E=>ag (kif E rfl (fun hd57=> ?_) (fun hd57=> ?_))
 {
 have h:=aB hd57 h;refine ae (ah (qM E rfl fun a E=> ?_));obtain ⟨r59,hr60,h⟩:=ob h;refine st E (aG (vs:=[v1]) E rfl call103 (Bt (hS:=hS) (ha1.mono (Z0 hm4 (Z0 hm20 (Z0 hm30 hm42)))) hr60)) rfl ?_;rintro v64 a w ⟨m61,hm62,hS,hv63⟩ E;refine qA E rfl fun a E=>qA E rfl fun a E=>ag (bH ?_);obtain rfl:=oi h
 try dsimp only
 refine f2 E ?_;exact ⟨_,(Z0 hm4 (Z0 hm20 (Z0 hm30 (Z0 hm42 hm62)))),(hS.dropT 1),_,_,rfl,hv63,(au (show inR .i64 0 from aw (by decide)))⟩}
 {
 have h:=aC hd57 h;refine ae (ah (qB E rfl rfl gh fun a E=>qA E rfl fun a E=>ag (kif E rfl (fun hd69=> ?_) (fun hd69=> ?_))))
 {
 have h:=aB hd69 h;refine ae (ah (qM E rfl fun a E=> ?_));obtain ⟨r71,hr72,h⟩:=ob h;refine st E (aG (vs:=[v0_31]) E rfl call104 (Au (hS:=hS) (hv0_33.mono hm42) hr72)) rfl ?_;rintro v76 a w ⟨m73,hm74,hS,hv75⟩ E;refine qA E rfl fun a E=>qA E rfl fun a E=>ag (bH ?_);obtain rfl:=oi h
 try dsimp only
 refine f2 E ?_;exact ⟨_,(Z0 hm4 (Z0 hm20 (Z0 hm30 (Z0 hm42 hm74)))),(hS.dropT 1),_,_,rfl,hv75,(au (show inR .i64 0 from aw (by decide)))⟩}
 {
 have h:=aC hd69 h;refine ae (ah (qB E rfl rfl gh fun a E=>qA E rfl fun a E=>ag (kif E rfl (fun hd81=> ?_) (fun hd81=> ?_))))
 {
 have h:=aB hd81 h;refine ae (ah (qM E rfl fun a E=> ?_));obtain ⟨r83,hr84,h⟩:=ob h;refine st E (aG (vs:=[v1]) E rfl call105 (Bu (hS:=hS) (ha1.mono (Z0 hm4 (Z0 hm20 (Z0 hm30 hm42)))) hr84)) rfl ?_;rintro v88 a w ⟨m85,hm86,hS,hv87⟩ E;refine qA E rfl fun a E=>qA E rfl fun a E=>ag (bH ?_);obtain rfl:=oi h
 try dsimp only
 refine f2 E ?_;exact ⟨_,(Z0 hm4 (Z0 hm20 (Z0 hm30 (Z0 hm42 hm86)))),(hS.dropT 1),_,_,rfl,hv87,(au (show inR .i64 0 from aw (by decide)))⟩}
 {
 have h:=aC hd81 h;refine ae (ah (qB E rfl rfl gh fun a E=>qA E rfl fun a E=>ag (kif E rfl (fun hd93=> ?_) (fun hd93=> ?_))))
 {
 have h:=aB hd93 h;refine ae (ah (qM E rfl fun a E=> ?_));obtain ⟨r95,hr96,h⟩:=ob h;refine st E (aG (vs:=[v0_31]) E rfl call106 (Av (hS:=hS) (hv0_33.mono hm42) hr96)) rfl ?_;rintro v100 a w ⟨m97,hm98,hS,hv99⟩ E;refine qA E rfl fun a E=>qA E rfl fun a E=>ag (bH ?_);obtain rfl:=oi h
 try dsimp only
 refine f2 E ?_;exact ⟨_,(Z0 hm4 (Z0 hm20 (Z0 hm30 (Z0 hm42 hm98)))),(hS.dropT 1),_,_,rfl,hv99,(au (show inR .i64 0 from aw (by decide)))⟩}
 {
 have h:=aC hd93 h;refine aR (ae (ah (qA E rfl fun a E=>ag (ae (ae (ah (qM E rfl fun a E=>sp E (bd (k:=kAp) E rfl rfl underlying22 (ha1.mono (Z0 hm4 (Z0 hm20 (Z0 hm30 hm42))))) rfl fun a E=> ?_)))))));refine qM E rfl fun a E=>ag ?_;refine bJ (fun a w=> ∃x109:(List Int),kw x109=some r∧ ∃m',M.le m41 m'∧ ∃(v110:Value),RV (kSl (aj .u8)) m' v110 x109∧S W0 m' w L ((1,v110)::TL)∧Env 69 a [(8,v110)]) ?_ ?_
 {
 refine aO ?_;refine cU h (fun (s:List Int×Int) a w=> ∃m',M.le m41 m'∧ ∃(v119:Value),RV (kSl (aj .u8)) m' v119 s.1∧inR .i64 s.2∧S W0 m' w L ((1,v119)::TL)∧Env 69 a [(8,v119),(57,v1),(58,.int .i64 (p1.length:Int)),(59,.int .i64 s.2)]) ?_ ?_
 {exact ⟨_,(Z3 _),(.slice none 0 0),dB,(show inR .i64 0 from aw (by decide)),(hS.tail0 1),kut E⟩}
 {
 rintro ⟨x118,x121⟩ a w ⟨m116,hm117,v119,hv120,hr122,hS,E⟩ r123 h hb124;have h:iS p1 x118 x121=some r123:=h;unfold iS at h;refine ae (ah (qB E rfl rfl bG fun a E=>ag (ae (kif E rfl (fun hd126=> ?_) (fun hd126=> ?_)))))
 {
 have h:=aB hd126 h;refine aR (ae (aO (ae (ah ?_))));obtain ⟨x127,hx128,h⟩:=ob h;refine st E (dv (k:=kAp) E rfl rfl underlying22 sizeOf32 (ha1.mono (Z0 hm4 (Z0 hm20 (Z0 hm30 (Z0 hm42 hm117))))) hx128) rfl ?_;rintro v130 a _ ⟨rfl,hp129⟩ E;refine st E (bq E hS eG rfl hp129) rfl ?_;rintro v132 a _ ⟨rfl,hv131⟩ E;refine st E (dP hS zeroValue32 rfl (cs:=wE)) rfl ?_;rintro _ a w ⟨b133,rfl,hS⟩ E;refine st0 E (cZ E hS eG bn rfl rfl hv131 (i:=0) rfl (pC _)) ?_;rintro _ w ⟨cs135,hc136,hS⟩ E;refine ag (ah (qM E rfl fun a E=> ?_));refine st E (az E hS eG rfl (i:=0) rfl (aP hc136)) rfl ?_
 rintro v140 a _ ⟨rfl,hv139⟩ E;obtain ⟨r141,hr142,h⟩:=ob h;refine st E (aG (vs:=[v140]) E rfl call107 (wL (hS:=hS) hv139 hr142)) rfl ?_;rintro v146 a w ⟨m143,hm144,hS,hv145⟩ E;obtain ⟨z147,hz148,h⟩:=ob h;refine st E (ik (k:=(aj .u8)) (N:=140737488355328) E hS rfl rfl underlying24 underlying24 el5 (i:=0) rfl (hv120.mono hm144) hv145 hz148 rfl rfl) rfl ?_;rintro v152 a w ⟨m150,hm151,hS,hv149⟩ E;refine qA E rfl fun a E=>ag (ah (qB E rfl rfl (bj rfl) fun a E=>qM E rfl fun a E=>ag ?_))
 exact ⟨(z147,Z1.wrap (x121+1)),(Option.some.inj h).symm,_,(Z0 hm117 (Z0 hm144 hm151)),v152,hv149,(am _ _),(hS.pickL 1 [] rfl rfl rfl),kut E⟩}
 {have h:=aC hd126 h;refine cG rfl rfl ?_;have h:=bM h hb124;exact ⟨x118,h,_,hm117,v119,hv120,hS,kut E⟩}}}
 {
 rintro a w ⟨x109,h,m107,hm108,v110,hv111,hS,E⟩;unfold kw at h;refine ae (ah (qM E rfl fun a E=>qA E rfl fun a E=>qA E rfl fun a E=>ag (bH ?_)));obtain rfl:=oi h
 try dsimp only
 refine f2 E ?_;exact ⟨_,(Z0 hm4 (Z0 hm20 (Z0 hm30 (Z0 hm42 hm108)))),(hS.dropT 1),_,_,rfl,hv111,(au (show inR .i64 0 from aw (by decide)))⟩}}}}}}}}}}}}
theorem Qv:Ctr Sz prog 47 [.rd (.int .i64),.rd (.sl (.st 32))] [.rd (.sl (.int .u8)),.rd (.int .i64)] (fun x=>eW x.1 x.2.1):=by
 intro W0 m w L TL vs x r Lp Tp hS hP h;obtain ⟨v0,vs,rfl,a0,hP0⟩:=hU hP;obtain ⟨rfl,n0⟩:=aI a0;obtain ⟨v1,vs,rfl,a1,hP1⟩:=hU hP0;obtain ⟨rfl,rfl,rfl⟩:=kP hP1;refine rm (zw (hS:=hS) n0 a1 h) fun v w' he=> ?_;obtain ⟨m',hm,Z',u0,u1,rfl,r0,r1⟩:=he;exact ⟨m',[u0,u1],[],[],[],hm,Z',rfl,⟨r0,⟨r1,trivial⟩⟩,trivial⟩
def BO:=mC Qv call47
theorem OA:Ctr Sz prog 135 [.rd (.int .i64),.rd (.sl (.st 32))] [.rd .bool] (fun x=>qK x.1 x.2.1):=
 ncR [BO] [4] func135 ntmps135 .o fun x=>by kernel_rfl
theorem Dx  (hS:S W0 m w L TL) {p0} (ha0:inR .i64 p0) {p1} (ha1:RV (kSl kAp) m v1 p1) {r} (h:qK p0 p1=some r):
    Calls prog 135 [(.int .i64 p0),v1].toArray w (Ret fun v w'=> ∃m',M.le m m'∧S W0 m' w' L TL∧RV cK m' v r):=by
 refine rm (OA W0 m w L TL [(.int .i64 p0),v1] (p0,p1,()) r [] [] hS ⟨au ha0,⟨ha1,trivial⟩⟩ h) fun v w' he=> ?_;obtain ⟨m',us,Lr,Lq,Tr,hm,Z',rfl,hR,hO⟩:=he;obtain ⟨u0,us,rfl,r0,hR0⟩:=dn hR;obtain ⟨rfl,rfl,rfl⟩:=cz hR0;have hO0:=bQ hO;have hO1:=bQ hO0;obtain rfl:=cA hO1;exact ⟨m',hm,Z',r0⟩
theorem Qw:Ctr Sz prog 46 [.rd (.sl (.st 32))] [.rd (.int .i64)] (fun x=>pL x.1):=
 ncR [BO] [2] func46 ntmps46 (.s .o (.s .o (.s (.s .o (.b (.l ⟨[.v 3 1 (.dat (.int .i64) none),.v 4 1 (.dat (.int .i64) none),.v 5 1 (.dat (.int .i64) none)],[0],0,[]⟩ .o))) .o))) fun x=>by kernel_rfl
def Qx:=mC Qw call46
theorem OB:Ctr Sz prog 108 [.rd (.sl (.st 32)),.f2 (.st 32) (.st 32) (.int .i64)] [.rd (.st 32)] (fun x=>fP x.1 x.2.1):=
 nxR [] [.cell 4 32] func108 ntmps108 (.s .o (.s .o (.s .o (.s (.s .o (.b (.l ⟨[.v 6 1 (.dat (.int .i64) none),.b 1 1 (.st 32)],[0,1,4,5],2,[]⟩ .o))) .o)))) fun x=>by kernel_rfl
theorem tE  (hS:S W0 m w L TL) {p0} (ha0:RV (kSl kAp) m v0 p0) {p1} (ha1:Fn2 prog kAp kAp (aj .i64) m v1 p1) {r} (h:fP p0 p1=some r):
    Calls prog 108 [v0,v1].toArray w (Ret fun v w'=> ∃m',M.le m m'∧S W0 m' w' L TL∧RV kAp m' v r):=by
 refine rm (OB W0 m w L TL [v0,v1] (p0,p1,()) r [] [] hS ⟨ha0,⟨ha1,trivial⟩⟩ h) fun v w' he=> ?_;obtain ⟨m',us,Lr,Lq,Tr,hm,Z',rfl,hR,hO⟩:=he;obtain ⟨u0,us,rfl,r0,hR0⟩:=dn hR;obtain ⟨rfl,rfl,rfl⟩:=cz hR0;have hO0:=bQ hO;have hO1:=E8 hO0;obtain rfl:=cA hO1;exact ⟨m',hm,Z',r0⟩
theorem OC:Ctr Sz prog 110 [.rd (.sl (.st 32)),.f2 (.st 32) (.st 32) (.int .i64)] [.rd (.st 32)] (fun x=>fQ x.1 x.2.1):=
 nxR [] [.cell 4 32] func110 ntmps110 (.s .o (.s .o (.s .o (.s (.s .o (.b (.l ⟨[.v 6 1 (.dat (.int .i64) none),.b 1 1 (.st 32)],[0,1,4,5],2,[]⟩ .o))) .o)))) fun x=>by kernel_rfl
theorem tF  (hS:S W0 m w L TL) {p0} (ha0:RV (kSl kAp) m v0 p0) {p1} (ha1:Fn2 prog kAp kAp (aj .i64) m v1 p1) {r} (h:fQ p0 p1=some r):
    Calls prog 110 [v0,v1].toArray w (Ret fun v w'=> ∃m',M.le m m'∧S W0 m' w' L TL∧RV kAp m' v r):=by
 refine rm (OC W0 m w L TL [v0,v1] (p0,p1,()) r [] [] hS ⟨ha0,⟨ha1,trivial⟩⟩ h) fun v w' he=> ?_;obtain ⟨m',us,Lr,Lq,Tr,hm,Z',rfl,hR,hO⟩:=he;obtain ⟨u0,us,rfl,r0,hR0⟩:=dn hR;obtain ⟨rfl,rfl,rfl⟩:=cz hR0;have hO0:=bQ hO;have hO1:=E8 hO0;obtain rfl:=cA hO1;exact ⟨m',hm,Z',r0⟩
theorem tG {m:M} {v:Value} {p0:List Ap} (ha:PR (kSl kAp) m v p0):BD prog (Rv1 kAp) 157 [v].toArray m p0:=by
 intro σ I step B y m1 w L TL s Ls TLs r mono hle hy hI hS hf;refine yB (args:=[y,v]) func157 rfl ntmps157 (Z4 rfl) fun a E=> ?_;have E:Env 16 a [(0,y),(1,v)]:=E;refine ae (ah ?_);refine st E (bq E hS wF rfl (ha.mono hle)) rfl ?_;rintro v5 a _ ⟨rfl,hv5⟩ E;refine sp E (bd (k:=kAp) E rfl rfl underlying22 hv5) rfl fun a E=>qM E rfl fun a E=>ag ?_;have h:=EL (iM hv5) hf;refine aO ?_;refine cU h (fun (t:Int×σ) a w=> ∃m' Ls' TLs',M.le m1 m'∧inR .i64 t.1∧I m' t.2 Ls' TLs'∧S (B t.2) m' w (Ls'++L) (TLs'++TL)∧Env 16 a [(0,y),(5,v5),(6,.int .i64 (p0.length:Int)),(7,.int .i64 t.1)]) ?_ ?_
 {exact ⟨m1,Ls,TLs,Z3 _,(show inR .i64 0 from aw (by decide)),hI,hS,kut E⟩}
 {
 rintro ⟨i,s⟩ a w ⟨m2,Ls2,TLs2,hm2,hi,hI,hS,E⟩ r9 h hb;unfold zC at h;refine ae (ah (qB E rfl rfl bG fun a E=>ag (ae (kif E rfl (fun hd=> ?_) (fun hd=> ?_)))))
 {
 have h:=aB hd h;refine aR (ae (aO (ae (ah ?_))));obtain ⟨x,hx,h⟩:=ob h;refine st E (dv (k:=kAp) E rfl rfl underlying22 sizeOf32 (hv5.mono hm2) hx) rfl ?_;rintro v9 a _ ⟨rfl,hp⟩ E;refine st E (bq E hS eG rfl hp) rfl ?_;rintro v10 a _ ⟨rfl,hv10⟩ E;refine st E (dP hS zeroValue32 rfl (cs:=wE)) rfl ?_;rintro _ a w ⟨b4,rfl,hS⟩ E;refine st0 E (cZ E hS eG bn rfl rfl hv10 (i:=0) rfl (pC _)) ?_;rintro _ w ⟨cs,hc,hS⟩ E;refine ag (ae (ah (qM E rfl fun a E=> ?_)));refine st E (az E hS eG rfl (i:=0) rfl (aP hc)) rfl ?_;rintro v12 a _ ⟨rfl,hv12⟩ E;obtain ⟨q,hq,h⟩:=ob h
 refine st E (hy m2 _ L TL s Ls2 TLs2 [v12] x q.1 q.2 hI (hS.dropL 1) ⟨_,rfl,hv12⟩ hq _ _ _ _ _ _ _ _ _ (E.eval rfl) (iD E rfl)) rfl ?_;rintro _ a w ⟨rfl,m3,Ls3,TLs3,hm3,hI,hS⟩ E;refine sp E (ly E rfl) rfl fun a E=>ag (kif E rfl (fun hd=> ?_) (fun hd=> ?_))
 {have h:=aC (by simpa using hd) h;obtain rfl:=oi h;refine bH ?_;have h:=hb _ rfl;subst h;refine Fin.mk E (rs:=[]) rfl re.nil ?_;exact ⟨m3,Ls3,TLs3,hm2.trans hm3,hI,hS⟩}
 {have h:=aB (by simpa using hd) h;obtain rfl:=oi h;refine aR (ah (qB E rfl rfl (bj rfl) fun a E=>qM E rfl fun a E=>ag ?_));exact ⟨_,rfl,m3,Ls3,TLs3,hm2.trans hm3,(am _ _),hI,hS,kut E⟩}}
 {have h:=aC hd h;obtain rfl:=oi h;have h:=hb _ rfl;subst h;refine cG rfl rfl ?_;dsimp only;refine Fin.mk E (rs:=[]) rfl re.nil ?_;exact ⟨m2,Ls2,TLs2,hm2,hI,hS⟩}}
theorem ub (hS:S W0 m w L TL) {p0} (ha0:RV (kSl kAp) m v0 p0) {r} (h:jd p0=some r):
    Calls prog 111 [v0].toArray w (Ret fun v w'=> ∃m',M.le m m'∧S W0 m' w' L TL∧ItV prog (Rv1 kAp) m' v r):=by
 refine kc func111 ntmps111 fun a E=> ?_;have E:Env 4 a [(0,v0)]:=E;unfold jd at h;obtain rfl:=oi h;refine ae (ah ?_);refine st E (kN E hS rfl ha0) rfl ?_;rintro _ a w ⟨b,cs,rfl,hc,hS⟩ E;refine qA E rfl fun a E=>ag (ae (ah ?_));obtain ⟨m1,hm,hS,hp⟩:=S.freezeL (k:=(kSl kAp)) hS hc;refine sp E (qy E rfl rfl) rfl fun a E=>qA E rfl fun a E=>ag (bH ?_);refine f1 E ?_;exact ⟨_,hm,hS,157,_,rfl,call157,tG hp⟩
theorem wM  (hS:S W0 m w L TL) {p0} (ha0:inR .i64 p0) {p1} (ha1:RV (kSl kAp) m v1 p1) {r} (h:kx p0 p1=some r):
    Calls prog 48 [(.int .i64 p0),v1].toArray w (Ret fun v w'=> ∃m',M.le m m'∧S W0 m' w' L TL∧RV cS m' v r):=by
 refine Ga func48 rfl ntmps48 (Z4 rfl) fun a E=> ?_;have E:Env 26 a [(0,.int .i64 p0),(1,v1)]:=E;unfold kx at h;refine ae (ah ?_);refine st E (dP hS zeroValue34 rfl (cs:=uV)) rfl ?_;rintro _ a w ⟨b1,rfl,hS⟩ E;refine ag (ae (ah (qM E rfl fun a E=>qM E rfl fun a E=>sp E (bd (k:=kAp) E rfl rfl underlying22 ha1) rfl fun a E=>qM E rfl fun a E=> ?_)));obtain ⟨r7,hr8,h⟩:=ob h;refine st E (aG (vs:=[v1,(.func (.func 109) #[] #[])]) E rfl call108 (tE (hS:=hS) ha1 (Dw (m0:=m)) hr8)) rfl ?_;rintro v12 a w ⟨m9,hm10,hS,hv11⟩ E;refine qM E rfl fun a E=> ?_;obtain ⟨r14,hr15,h⟩:=ob h
 refine st E (aG (vs:=[v1,(.func (.func 109) #[] #[])]) E rfl call110 (tF (hS:=hS) (ha1.mono hm10) (Dw (m0:=m9)) hr15)) rfl ?_;rintro v19 a w ⟨m16,hm17,hS,hv18⟩ E;refine st E (iO (m:=m16) (k:=cS) (x0:=bI.zero) (xx:=(⟨p0,(p1.length:Int),r7,r14,0,0⟩:bI)) (pl:=[(0,1),(1,1),(2,4),(6,4),(10,1),(11,1)]) (pv:=[(0,.int .i64 p0),(1,.int .i64 (p1.length:Int)),(2,v12),(3,v19)]) E rfl underlying34 rfl zeroValue34 yq rfl (.cons rfl Hl (au ha0) (.cons rfl Hm (au (dM (iM ha1))) (.cons rfl Hn (hv11.mono hm17) (.cons rfl Ho hv18 .nil))))) rfl ?_;rintro v21 a _ ⟨rfl,hv20⟩ E
 refine st E (dP hS zeroValue34 rfl (cs:=uV)) rfl ?_;rintro _ a w ⟨b22,rfl,hS⟩ E;refine st0 E (cZ E hS yr bn rfl rfl hv20 (i:=0) rfl (yq _)) ?_;rintro _ w ⟨cs24,hc25,hS⟩ E;refine ag (ae (ae (ah (qM E rfl fun a E=> ?_))));obtain ⟨r28,hr29,h⟩:=ob h;refine st E (aG (vs:=[v1]) E rfl call111 (ub (hS:=hS) (ha1.mono (Z0 hm10 hm17)) hr29)) rfl ?_;rintro v33 a w ⟨m30,hm31,hS,hv32⟩ E;refine ag (aO ?_);obtain ⟨y67,hy68,h⟩:=ob h
 refine DZ (Rv:=(Rv1 kAp)) (fun (s:bI) (x:Ap)=>eX s x) (fun _=> .ret) [] (fun (m':M) (s:bI) (Ls_:Mem) (TLs_:Tls)=> ∃(cs37:List Value),M.le m30 m'∧cS.R m' cs37 s∧Ls_=[(b22,cs37),(b1,uV)]∧TLs_=[]) (Ls:=[(b22,cs24),(b1,uV)]) (TLs:=[]) (s0:=(⟨p0,(p1.length:Int),r7,r14,0,0⟩:bI)) (sf:=y67.1) (bf:=y67.2) E hS rfl hv32 (by decide) (fun _ _ _ h=>DY h) (by rintro m1_ m2_ s_ a_ b_ n_ ⟨cs37,hl_,hf0_,e1_,e2_⟩;exact ⟨cs37,hl_.trans n_,cS.mono n_ hf0_,e1_,e2_⟩) ⟨cs24,Z3 _,(cS.mono hm31 hc25),rfl,rfl⟩ hy68 ?_ ?_
 {
 intro lid_ W1_ W0 m34 w L TL s_ Ls_ TLs_ vs_ x39 s40 b41 a or_ ob_ hI42 hS hR43 h E hT44;obtain ⟨x36,rfl⟩: ∃x,x=s_:=⟨_,rfl⟩
 obtain ⟨cs37,hm35,hc38,rfl,rfl⟩:=hI42;have h:eX x36 x39=some (s40,b41):=h;unfold eX at h;obtain ⟨v45,rfl,hv46⟩:=hR43;refine ah ?_;refine st E (dP hS zeroValue32 rfl (cs:=wE)) rfl ?_;rintro _ a w ⟨b47,rfl,hS⟩ E;refine st0 E (cZ E hS eG bn rfl rfl hv46 (i:=0) rfl (pC _)) ?_;rintro _ w ⟨cs49,hc50,hS⟩ E;refine ag ?_;obtain ⟨hb_,hS⟩:=hT44 _ _ _ _ hS;refine ⟨hb_,?_⟩;refine aO (ae (ah (sp E (aM E Dl rfl) rfl fun a E=> ?_)));refine st E (az E hS ty3 rfl (i:=0) rfl (L8.R_drop (aP hc50))) rfl ?_;rintro v54 a _ ⟨rfl,hv53⟩ E;obtain ⟨rfl,hr55⟩:=aI hv53
 refine qB E rfl rfl gh fun a E=>ag (kif E rfl (fun hd57=> ?_) (fun hd57=> ?_))
 {
 have h:=aB hd57 h;refine ah (sp E (aM E wG rfl) rfl fun a E=> ?_);refine st E (az E hS ty3 rfl (i:=1) rfl (Mi.R_drop (aP hc38))) rfl ?_;rintro v60 a _ ⟨rfl,hv59⟩ E;obtain ⟨rfl,hr61⟩:=aI hv59;refine qB E rfl rfl (bj rfl) fun a E=>sp E (aM E wG rfl) rfl fun a E=> ?_;refine st0 E (cZ E hS ty3 Hp rfl rfl (au (am _ _)) (i:=1) rfl hc38) ?_;rintro _ w ⟨cs64,hc65,hS⟩ E;refine ag ?_;cases h
 try dsimp only
 exact ⟨rfl,_,[(b22,cs64),(b1,uV)],[],(Z3 _),⟨cs64,hm35,hc65,rfl,rfl⟩,(hS.pickL 3 [1,2] rfl rfl rfl)⟩}
 {
 have h:=aC hd57 h;refine aR ?_;cases h
 try dsimp only
 exact ⟨rfl,_,[(b22,cs37),(b1,uV)],[],(Z3 _),⟨cs37,hm35,hc38,rfl,rfl⟩,(hS.pickL 3 [1,2] rfl rfl rfl)⟩}}
 {
 intro D69 m73 w a Ls_ TLs_ hm74 E hI42 hS hk71 hB72;obtain ⟨cs76,_,hc77,rfl,rfl⟩:=hI42;obtain ⟨W0,hW70⟩: ∃W9,W9=W0.put D69 (.deferred (some [])):=⟨_,rfl⟩
 rw [←hW70] at hS;rcases Z2 y67.2 with hb75|hb75
 {
 have h:=aB hb75 h;rw [if_pos hb75];refine ae (ah ?_);refine st E (az E hS yr rfl (i:=0) rfl (aP hc77)) rfl ?_;rintro v79 a _ ⟨rfl,hv78⟩ E;refine st0 E (cZ E hS yr bn rfl rfl hv78 (i:=1) rfl (yq _)) ?_;rintro _ w ⟨cs80,hc81,hS⟩ E;refine ag (bH ?_);obtain rfl:=oi h
 try dsimp only
 have hS:=hS;rw [hW70] at hS;refine Cc.shut E hS hk71 hB72 fun a w hS E=> ?_;refine Cc.nil E ?_;refine Fin.mk E (rs:=[.cell 4 34]) rfl (re.cell E hS yr rfl (i:=1) rfl (aP hc81) re.nil) ?_;exact ⟨_,(Z0 hm10 (Z0 hm17 (Z0 hm31 hm74))),(hS.dropL 2),(DU (aP hc81))⟩}
 {have h:=aC hb75 h;cases h}}
theorem Qy:Ctr Sz prog 48 [.rd (.int .i64),.rd (.sl (.st 32))] [.rd (.st 34)] (fun x=>kx x.1 x.2.1):=by
 intro W0 m w L TL vs x r Lp Tp hS hP h;obtain ⟨v0,vs,rfl,a0,hP0⟩:=hU hP;obtain ⟨rfl,n0⟩:=aI a0;obtain ⟨v1,vs,rfl,a1,hP1⟩:=hU hP0;obtain ⟨rfl,rfl,rfl⟩:=kP hP1;refine rm (wM (hS:=hS) n0 a1 h) fun v w' he=> ?_;obtain ⟨m',hm,Z',r0⟩:=he;exact ⟨m',[v],[],[],[],hm,Z',rfl,⟨r0,trivial⟩,trivial⟩
def Qz:=mC Qy call48
theorem QA:Ctr Sz prog 49 [.rd (.st 32)] [.rd (.sl (.int .u8))] (fun x=>qa x.1):=
 ncR [Hy] [2] func49 ntmps49 .o fun x=>by kernel_rfl
def QB:=mC QA call49
theorem JF:Ctr Sz prog 78 [.rd (.sl (.int .u8))] [.rd (.int .u32)] (fun x=>gR x.1):=
 ncR [] [2] func78 ntmps78 (.s .o (.s .o (.s (.s .o (.b (.l ⟨[.v 9 1 (.dat (.int .i64) none),.a 0 1 (.int .u32) (some 16)],[0,3],1,[]⟩ (.s .o (.s .o (.s (.b (.s .o (.s .o (.s (.s .o (.b (.l ⟨[.v 5 2 (.dat (.int .u32) none),.v 14 2 (.dat (.int .i64) none)],[0,3,4,9],1,[]⟩ .o))) .o)))) .o)))))) (.s .o (.s (.s .o (.b (.l ⟨[.v 6 1 (.dat (.int .u32) none),.v 29 1 (.dat (.int .i64) none)],[3,27,28],1,[]⟩ .o))) .o))))) fun x=>by kernel_rfl
def QC:=mC JF call78
theorem xJ  (hS:S W0 m w L TL) {p0} (ha0:RV (kSl (aj .u8)) m v0 p0) {r} (h:gR p0=some r):
    Calls prog 78 [v0].toArray w (Ret fun v w'=> ∃m',M.le m m'∧S W0 m' w' L TL∧RV (aj .u32) m' v r):=by
 refine rm (JF W0 m w L TL [v0] (p0,()) r [] [] hS ⟨ha0,trivial⟩ h) fun v w' he=> ?_;obtain ⟨m',us,Lr,Lq,Tr,hm,Z',rfl,hR,hO⟩:=he;obtain ⟨u0,us,rfl,r0,hR0⟩:=dn hR;obtain ⟨rfl,rfl,rfl⟩:=cz hR0;have hO0:=bQ hO;obtain rfl:=cA hO0;exact ⟨m',hm,Z',r0⟩
theorem JG:Ctr Sz prog 50 [.ap (.int .u8)] [.ap (.int .u8)] (fun x=>jX x.1):=
 ncR [QC] [2] func50 ntmps50 .o fun x=>by kernel_rfl
def QD:=mC JG call50
theorem Aw  (hS:S W0 m w L ((1,v0)::TL)) {p0} (ha0:RV (kSl (aj .u8)) m v0 p0) {r} (h:jX p0=some r):
    Calls prog 50 [v0].toArray w (Ret fun v w'=> ∃m',M.le m m'∧S W0 m' w' L ((1,v)::TL)∧RV (kSl (aj .u8)) m' v r):=by
 refine rm (JG W0 m w L TL [v0] (p0,()) r [] [(1,v0)] hS ⟨ha0,rfl,trivial⟩ h) fun v w' he=> ?_;obtain ⟨m',us,Lr,Lq,Tr,hm,Z',rfl,hR,hO⟩:=he;obtain ⟨u0,us,Tr,rfl,rfl,r0,hR0⟩:=uq hR;obtain ⟨rfl,rfl,rfl⟩:=cz hR0;have hO0:=Jr hO;obtain rfl:=cA hO0;exact ⟨m',hm,Z',r0⟩
theorem QE:Ctr Sz prog 15 [.rd (.int .i64),.rd (.sl (.st 32))] [.rd (.sl (.int .u8)),.rd (.int .i64)] (fun x=>mM x.1 x.2.1):=
 ncR [Qx,BO,Qz,QB,QD] [4,5] func15 ntmps15 .o fun x=>by kernel_rfl
theorem Bv  (hS:S W0 m w L TL) {p0} (ha0:inR .i64 p0) {p1} (ha1:RV (kSl kAp) m v1 p1) {r} (h:mM p0 p1=some r):
    Calls prog 15 [(.int .i64 p0),v1].toArray w (Ret fun v w'=> ∃m',M.le m m'∧S W0 m' w' L TL∧ ∃v0_ v1_:Value,v= .tuple #[v0_,v1_]∧RV (kSl (aj .u8)) m' v0_ r.1∧RV (aj .i64) m' v1_ r.2):=by
 refine rm (QE W0 m w L TL [(.int .i64 p0),v1] (p0,p1,()) r [] [] hS ⟨au ha0,⟨ha1,trivial⟩⟩ h) fun v w' he=> ?_;obtain ⟨m',us,Lr,Lq,Tr,hm,Z',rfl,hR,hO⟩:=he;obtain ⟨u0,us,rfl,r0,hR0⟩:=dn hR;obtain ⟨u1,us,rfl,r1,hR1⟩:=dn hR0;obtain ⟨rfl,rfl,rfl⟩:=cz hR1;have hO0:=bQ hO;have hO1:=bQ hO0;obtain rfl:=cA hO1;exact ⟨m',hm,Z',u0,u1,rfl,r0,r1⟩
theorem yw  (hS:S W0 m w L TL) {p0} (ha0:inR .i64 p0) {p1} (ha1:RV (kSl kAp) m v1 p1) {r} (h:j7 p0 p1=some r):
    Calls prog 76 [(.int .i64 p0),v1].toArray w (Ret fun v w'=> ∃m',M.le m m'∧S W0 m' w' L ((1,v)::TL)∧RV (kSl (aj .u8)) m' v r):=by
 refine Ga func76 rfl ntmps76 (Z4 rfl) fun a E=> ?_;have E:Env 28 a [(0,.int .i64 p0),(1,v1)]:=E;unfold j7 at h;refine ae (ah ?_);refine st E (kN (k:=(aj .i64)) E hS rfl (au ha0)) rfl ?_;rintro _ a w ⟨b1,cs2,rfl,hc3,hS⟩ E;refine qA E rfl fun a E=>ag (ae (ah ?_));refine st E (dP hS zeroValue24 rfl (cs:=[(.slice none 0 0)])) rfl ?_;rintro _ a w ⟨b6,rfl,hS⟩ E;refine ag (ae (ae (ah (qM E rfl fun a E=> ?_))));obtain ⟨r9,hr10,h⟩:=ob h;refine st E (aG (vs:=[v1,(.int .i64 64)]) E rfl call134 (uZ (hS:=hS) ha1 (show inR .i64 64 from aw (by decide)) hr10)) rfl ?_;rintro v14 a w ⟨m11,hm12,hS,hv13⟩ E
 refine ag (aO ?_);obtain ⟨y78,hy79,h⟩:=ob h;refine DZ (Rv:=(Rv1 (kSl kAp))) (fun (s:List Int) (x:List Ap)=>eN p0 s x) (fun _=> .ret) [] (fun (m':M) (s:List Int) (Ls_:Mem) (TLs_:Tls)=> ∃(v18:Value),M.le m11 m'∧RV (kSl (aj .u8)) m' v18 s∧Ls_=[(b6,[v18]),(b1,cs2)]∧TLs_=[(1,v18)]) (Ls:=[(b6,[(.slice none 0 0)]),(b1,cs2)]) (TLs:=[(1,.slice none 0 0)]) (s0:=([]:(List Int))) (sf:=y78.1) (bf:=y78.2) E (hS.tail0 1) rfl hv13 (by decide) (fun _ _ _ h=>DY h) (by rintro m1_ m2_ s_ a_ b_ n_ ⟨v18,hl_,hf0_,e1_,e2_⟩;exact ⟨v18,hl_.trans n_,hf0_.mono n_,e1_,e2_⟩) ⟨(.slice none 0 0),Z3 _,dB,rfl,rfl⟩ hy79 ?_ ?_
 {
 intro lid_ W1_ W0 m15 w L TL s_ Ls_ TLs_ vs_ x20 s21 b22 a or_ ob_ hI23 hS hR24 h E hT25;obtain ⟨x17,rfl⟩: ∃x,x=s_:=⟨_,rfl⟩
 obtain ⟨v18,hm16,hc19,rfl,rfl⟩:=hI23;have h:eN p0 x17 x20=some (s21,b22):=h;unfold eN at h;obtain ⟨v26,rfl,hv27⟩:=hR24;refine ah (qA E rfl fun a E=>ag ?_);obtain ⟨hb_,hS⟩:=hT25 _ _ _ _ hS;refine ⟨hb_,?_⟩;refine aO (ae (ah ?_));refine st E (az E hS ty3 rfl (i:=1) rfl (aP ((aj .i64).mono (Z0 hm12 hm16) hc3))) rfl ?_;rintro v30 a _ ⟨rfl,hv29⟩ E;obtain ⟨rfl,hr31⟩:=aI hv29;refine qA E rfl fun a E=>ag (ae (ae (ah (qM E rfl fun a E=>qM E rfl fun a E=> ?_))));obtain ⟨r35,hr36,h⟩:=ob h;refine st E (aG (vs:=[(.int .i64 p0),v26]) E rfl call135 (Dx (hS:=hS) hr31 hv27 hr36)) rfl ?_
 rintro v40 a w ⟨m37,hm38,hS,hv39⟩ E;obtain rfl:=fo hv39;refine sp E (ly E rfl) rfl fun a E=>ag ?_;refine bJ (fun a w=> ∃x44:Int,f9 x17 x20 x44=some (s21,b22)∧ ∃m',M.le m37 m'∧inR .i64 x44∧S W0 m' w ((b6,[v18])::(b1,cs2)::L) ((1,v18)::TL)∧Env 28 a [(2,pz b1),(5,pz b6),(6,v26),(7,.int .i64 x44),(11,v14)]) ?_ ?_
 {
 refine kif E rfl (fun hd76=> ?_) (fun hd76=> ?_)
 {have h:=aB hd76 h;refine ah (qA E rfl fun a E=>ag ?_);exact ⟨(-1),h,_,(Z3 _),(show inR .i64 (-1) from aw (by decide)),hS,kut E⟩}
 {have h:=aC hd76 h;refine aR ?_;exact ⟨p0,h,_,(Z3 _),hr31,hS,kut E⟩}}
 {
 rintro a w ⟨x44,h,m42,hm43,hr45,hS,E⟩;unfold f9 at h;refine ae (ah (qM E rfl fun a E=>qM E rfl fun a E=> ?_));obtain ⟨r49,hr50,h⟩:=ob h;refine st E (aG (vs:=[(.int .i64 x44),v26]) E rfl call15 (Bv (hS:=hS) hr45 (hv27.mono (Z0 hm38 hm43)) hr50)) rfl ?_;rintro _ a w ⟨m51,hm52,hS,v0_53,v1_54,rfl,hv0_55,hv1_56⟩ E;obtain ⟨rfl,hr58⟩:=aI hv1_56;refine qM E rfl fun a E=>sp E (bX E rfl rfl) rfl fun a E=>sp E (bX E rfl rfl) rfl fun a E=>qA E rfl fun a E=>qA E rfl fun a E=>ag (ah (sp E (AK (k:=(aj .u8)) E hS Jf rfl (i:=0) rfl (hc19.mono (Z0 hm38 (Z0 hm43 hm52)))) rfl fun a E=>qM E rfl fun a E=> ?_))
 obtain ⟨z67,hz68,h⟩:=ob h;refine st E (ik (k:=(aj .u8)) (N:=140737488355328) E hS rfl rfl underlying24 underlying24 el5 (i:=0) rfl (hc19.mono (Z0 hm38 (Z0 hm43 hm52))) hv0_55 hz68 rfl rfl) rfl ?_;rintro v72 a w ⟨m70,hm71,hS,hv69⟩ E;refine st0 E (EM (k:=(aj .u8)) E hS Jf rfl rfl hv69 (i:=0) rfl) ?_;rintro _ w hS E;refine ag ?_;cases h
 try dsimp only
 exact ⟨rfl,_,[(b6,[v72]),(b1,cs2)],[(1,v72)],(Z0 hm38 (Z0 hm43 (Z0 hm52 hm71))),⟨v72,(Z0 hm16 (Z0 hm38 (Z0 hm43 (Z0 hm52 hm71)))),hv69,rfl,rfl⟩,hS⟩}}
 {
 intro D80 m84 w a Ls_ TLs_ hm85 E hI23 hS hk82 hB83;obtain ⟨cs87,_,hc88,rfl,rfl⟩:=hI23;obtain ⟨W0,hW81⟩: ∃W9,W9=W0.put D80 (.deferred (some [])):=⟨_,rfl⟩
 rw [←hW81] at hS;rcases Z2 y78.2 with hb86|hb86
 {
 have h:=aB hb86 h;rw [if_pos hb86];refine ae (ah (sp E (AK (k:=(aj .u8)) E hS Jf rfl (i:=0) rfl hc88) rfl fun a E=>qA E rfl fun a E=>ag (bH ?_)));obtain rfl:=oi h
 try dsimp only
 have hS:=hS;rw [hW81] at hS;refine Cc.shut E hS hk82 hB83 fun a w hS E=> ?_;refine Cc.nil E ?_;refine f1 E ?_;exact ⟨_,(Z0 hm12 hm85),((hS.dropL 2).pickT 1 [0] rfl rfl rfl),hc88⟩}
 {have h:=aC hb86 h;cases h}}
theorem sT  (hS:S W0 m w L TL) {p0} (ha0:inR .i64 p0) {p1} (ha1:RV (kSl (aj .i64)) m v1 p1) {p2} (ha2:RV (kSl (aj .i64)) m v2 p2) {p3} (ha3:RV (kSl ab) m v3 p3) {r} (h:eY p0 p1 p2 p3=some r):
    Calls prog 31 [(.int .i64 p0),v1,v2,v3].toArray w (Ret fun v w'=> ∃m',M.le m m'∧S W0 m' w' L TL∧ ∃v0_ v1_:Value,v= .tuple #[v0_,v1_]∧RV (kSl (aj .u8)) m' v0_ r.1∧RV (aj .i64) m' v1_ r.2):=by
 refine kc func31 ntmps31 fun a E=> ?_;have E:Env 88 a [(0,.int .i64 p0),(1,v1),(2,v2),(3,v3)]:=E;unfold eY at h;refine ae (ah (qA E rfl fun a E=>qA E rfl fun a E=>ag (ae (ah (qM E rfl fun a E=>qM E rfl fun a E=>qM E rfl fun a E=> ?_)))));obtain ⟨r6,hr7,h⟩:=ob h;refine st E (aG (vs:=[(.int .i64 p0),v1,v3]) E rfl call74 (jR (hS:=hS) ha0 ha1 ha3 hr7)) rfl ?_;rintro v11 a w ⟨m8,hm9,hS,hv10⟩ E;obtain ⟨rfl,hr12⟩:=aI hv10;refine qA E rfl fun a E=>ag (ae (ae (ah (qM E rfl fun a E=>qB E rfl rfl nk fun a E=>ag (kif E rfl (fun hd16=> ?_) (fun hd16=> ?_))))))
 {
 have h:=aB hd16 h;refine ae (ah (qM E rfl fun a E=>qA E rfl fun a E=>qA E rfl fun a E=>ag (bH ?_)));obtain rfl:=oi h
 try dsimp only
 refine f2 E ?_;exact ⟨_,hm9,hS,_,_,rfl,dB,(au hr12)⟩}
 {
 have h:=aC hd16 h;refine aR (ae (ah (qM E rfl fun a E=>qM E rfl fun a E=> ?_)));obtain ⟨r22,hr23,h⟩:=ob h;refine st E (aG (vs:=[v1,v3]) E rfl call27 (rU (hS:=hS) (ha1.mono hm9) (ha3.mono hm9) hr23)) rfl ?_;rintro v27 a w ⟨m24,hm25,hS,hv26⟩ E;refine qA E rfl fun a E=>ag (ae (ah ?_))
 refine st E (JZ (k:=(aj .u8)) (xs:=[72,65,89,49]) (vs:=[(.int .u8 72),(.int .u8 65),(.int .u8 89),(.int .u8 49)]) E hS rfl underlying24 sizeOf5 zeroValue5 ⟨(au (show inR .u8 72 from aw (by decide))),(au (show inR .u8 65 from aw (by decide))),(au (show inR .u8 89 from aw (by decide))),(au (show inR .u8 49 from aw (by decide))),trivial⟩ rfl (by decide)) rfl ?_;rintro v36 a w ⟨m30,hm31,hS,hv29,b32,_,he33,hB34,hm35⟩ E;refine st E (H3 E hS rfl underlying24 underlying5 he33 hB34 hm35 (i:=0) rfl) rfl ?_;rintro v37 a _ ⟨rfl,hS⟩ E
 refine qM E rfl fun a E=>sp E (dA E rfl underlying3 underlying5 rfl) rfl fun a E=>qM E rfl fun a E=>sp E (bd (k:=(aj .i64)) E rfl rfl underlying49 (ha1.mono (Z0 hm9 (Z0 hm25 hm31)))) rfl fun a E=>sp E (dA E rfl underlying3 underlying5 rfl) rfl fun a E=> ?_;refine st E (fm (k:=(aj .u8)) (xs:=[Z5.wrap p0,Z5.wrap (p1.length:Int)]) (vs:=[(.int .u8 (Z5.wrap p0)),(.int .u8 (Z5.wrap (p1.length:Int)))]) E hS rfl underlying24 sizeOf5 zeroValue5 ⟨(au (am _ _)),(au (am _ _)),trivial⟩ rfl (by decide)) rfl ?_;rintro v46 a w ⟨m44,hm45,hS,hv43⟩ E;obtain ⟨z47,hz48,h⟩:=ob h
 refine st E (ik (k:=(aj .u8)) (N:=140737488355328) E hS rfl rfl underlying24 underlying24 el5 (i:=1) rfl (hv29.mono hm45) hv43 hz48 rfl rfl) rfl ?_;rintro v52 a w ⟨m50,hm51,hS,hv49⟩ E;refine qA E rfl fun a E=>ag (ae (ae (ah (qM E rfl fun a E=>sp E (bd (k:=(aj .i64)) E rfl rfl underlying49 (ha1.mono (Z0 hm9 (Z0 hm25 (Z0 hm31 (Z0 hm45 hm51)))))) rfl fun a E=>qM E rfl fun a E=>ag ?_))));refine bJ (fun a w=> ∃x59:(List Int),iZ p0 p2 r22 x59=some r∧ ∃m',M.le m50 m'∧ ∃(v60:Value),RV (kSl (aj .u8)) m' v60 x59∧S W0 m' w L ((1,v60)::TL)∧Env 88 a [(0,.int .i64 p0),(2,v2),(3,v27),(11,v60)]) ?_ ?_
 {
 refine aO ?_;refine cU h (fun (s:List Int×Int) a w=> ∃m',M.le m50 m'∧ ∃(v184:Value),RV (kSl (aj .u8)) m' v184 s.1∧inR .i64 s.2∧S W0 m' w L ((1,v184)::TL)∧Env 88 a [(0,.int .i64 p0),(2,v2),(3,v27),(11,v184),(36,v1),(37,.int .i64 (p1.length:Int)),(38,.int .i64 s.2)]) ?_ ?_
 {exact ⟨_,(Z3 _),v52,hv49,(show inR .i64 0 from aw (by decide)),(hS.pickT 2 [1] rfl rfl rfl),kut E⟩}
 {
 rintro ⟨x183,x186⟩ a w ⟨m181,hm182,v184,hv185,hr187,hS,E⟩ r188 h hb189;have h:i6 p0 p1 p2 r22 x183 x186=some r188:=h;unfold i6 at h;refine ae (ah (qB E rfl rfl bG fun a E=>ag (ae (kif E rfl (fun hd191=> ?_) (fun hd191=> ?_)))))
 {
 have h:=aB hd191 h;refine aR (ae (aO (ae (ah ?_))));obtain ⟨x192,hx193,h⟩:=ob h;refine st E (dv (k:=(aj .i64)) E rfl rfl underlying49 sizeOf3 (ha1.mono (Z0 hm9 (Z0 hm25 (Z0 hm31 (Z0 hm45 (Z0 hm51 hm182)))))) hx193) rfl ?_;rintro v195 a _ ⟨rfl,hp194⟩ E;refine st E (bq E hS ty3 rfl hp194) rfl ?_;rintro v197 a _ ⟨rfl,hv196⟩ E;obtain ⟨rfl,hr198⟩:=aI hv196;refine qA E rfl fun a E=>ag (ah (qM E rfl fun a E=>qM E rfl fun a E=>sp E (dA E rfl underlying3 underlying5 rfl) rfl fun a E=> ?_))
 refine st E (fm (k:=(aj .u8)) (xs:=[Z5.wrap x192]) (vs:=[(.int .u8 (Z5.wrap x192))]) E hS rfl underlying24 sizeOf5 zeroValue5 ⟨(au (am _ _)),trivial⟩ rfl (by decide)) rfl ?_;rintro v206 a w ⟨m204,hm205,hS,hv203⟩ E;obtain ⟨z207,hz208,h⟩:=ob h;refine st E (ik (k:=(aj .u8)) (N:=140737488355328) E hS rfl rfl underlying24 underlying24 el5 (i:=1) rfl (hv185.mono hm205) hv203 hz208 rfl rfl) rfl ?_;rintro v212 a w ⟨m210,hm211,hS,hv209⟩ E;refine qA E rfl fun a E=>ag (ah (qB E rfl rfl (bj rfl) fun a E=>qM E rfl fun a E=>ag ?_))
 exact ⟨(z207,Z1.wrap (x186+1)),(Option.some.inj h).symm,_,(Z0 hm182 (Z0 hm205 hm211)),v212,hv209,(am _ _),(hS.pickT 2 [1] rfl rfl rfl),kut E⟩}
 {have h:=aC hd191 h;refine cG rfl rfl ?_;have h:=bM h hb189;exact ⟨x183,h,_,hm182,v184,hv185,hS,kut E⟩}}}
 {
 rintro a w ⟨x59,h,m57,hm58,v60,hv61,hS,E⟩;unfold iZ at h;refine ae (ah (qM E rfl fun a E=>qM E rfl fun a E=>sp E (bd (k:=ab) E rfl rfl underlying50 (hv26.mono (Z0 hm31 (Z0 hm45 (Z0 hm51 hm58))))) rfl fun a E=> ?_));obtain ⟨r66,hr67,h⟩:=ob h;refine st E (aG (vs:=[v60,(.int .i64 (r22.length:Int))]) E rfl call75 (pE (hS:=hS) hv61 (dM (iM (hv26.mono (Z0 hm31 (Z0 hm45 (Z0 hm51 hm58)))))) hr67)) rfl ?_;rintro v71 a w ⟨m68,hm69,hS,hv70⟩ E;refine qA E rfl fun a E=>ag (ae (ae (ah (qM E rfl fun a E=>qB E rfl rfl (bj rfl) fun a E=>qM E rfl fun a E=>ag ?_))))
 refine bJ (fun a w=> ∃x78:(List Int),iY x78=some r∧ ∃m',M.le m68 m'∧ ∃(v79:Value),RV (kSl (aj .u8)) m' v79 x78∧S W0 m' w L ((1,v79)::TL)∧Env 88 a [(11,v79)]) ?_ ?_
 {
 refine aO ?_;refine cU h (fun (s:List Int×Int) a w=> ∃m',M.le m68 m'∧ ∃(v103:Value),RV (kSl (aj .u8)) m' v103 s.1∧inR .i64 s.2∧S W0 m' w L ((1,v103)::TL)∧Env 88 a [(0,.int .i64 p0),(2,v2),(3,v27),(11,v103),(53,.int .i64 (Z1.wrap (p0+3))),(54,.int .i64 s.2)]) ?_ ?_
 {exact ⟨_,(Z3 _),v71,hv70,(show inR .i64 0 from aw (by decide)),hS,kut E⟩}
 {
 rintro ⟨x102,x105⟩ a w ⟨m100,hm101,v103,hv104,hr106,hS,E⟩ r107 h hb108;have h:gA p0 p2 r22 x102 x105=some r107:=h;unfold gA at h;refine ae (ah (qB E rfl rfl bG fun a E=>ag (ae (kif E rfl (fun hd110=> ?_) (fun hd110=> ?_)))))
 {
 have h:=aB hd110 h;refine aR (ae (aO (ae (ah (qM E rfl fun a E=>qA E rfl fun a E=>ag (ae (ah ?_)))))));refine qA E rfl fun a E=>ag (ae (ae ?_));refine bJ (fun a w=> ∃x116:Bool,fg p0 p2 r22 x102 x105 x116=some r107∧ ∃m',M.le m100 m'∧S W0 m' w L ((1,v103)::TL)∧Env 88 a [(0,.int .i64 p0),(2,v2),(3,v27),(11,v103),(14,.int .i64 x105),(15,.int .i64 (-1)),(53,.int .i64 (Z1.wrap (p0+3))),(54,.int .i64 x105),(65,.bool x116)]) ?_ ?_
 {
 refine ah (qM E rfl fun a E=>qM E rfl fun a E=>qB E rfl rfl bG fun a E=>qM E rfl fun a E=> ?_);rcases Z2 (decide (x105<p0)) with hd174|hd174
 {have h:=aB hd174 h;refine qG E hd174 rfl fun a E=>qG E hd174 rfl fun a E=>spg E rfl rfl rfl rfl hd174 (bd (k:=(aj .i64)) E rfl rfl underlying49 (ha2.mono (Z0 hm9 (Z0 hm25 (Z0 hm31 (Z0 hm45 (Z0 hm51 (Z0 hm58 (Z0 hm69 hm101))))))))) rfl fun a E=>spg E rfl rfl rfl rfl hd174 (aQ E rfl rfl bG) rfl fun a E=>qT E hd174 rfl fun a E=>ag ?_;exact ⟨(decide (x105<(p2.length:Int))),h,_,(Z3 _),hS,kut E⟩}
 {have h:=aC hd174 h;refine qX E hd174 fun a E=>qX E hd174 fun a E=>qX E hd174 fun a E=>qX E hd174 fun a E=>qF E hd174 rfl fun a E=>ag ?_;exact ⟨false,h,_,(Z3 _),hS,kut E⟩}}
 {
 rintro a w ⟨x116,h,m114,hm115,hS,E⟩;unfold fg at h;refine bJ (fun a w=> ∃x120:Int,gy p0 r22 x102 x105 x120=some r107∧ ∃m',M.le m114 m'∧inR .i64 x120∧S W0 m' w L ((1,v103)::TL)∧Env 88 a [(0,.int .i64 p0),(2,v2),(3,v27),(11,v103),(14,.int .i64 x105),(15,.int .i64 x120),(53,.int .i64 (Z1.wrap (p0+3))),(54,.int .i64 x105)]) ?_ ?_
 {
 refine kif E rfl (fun hd159=> ?_) (fun hd159=> ?_)
 {have h:=aB hd159 h;refine ah (qM E rfl fun a E=>qM E rfl fun a E=> ?_);obtain ⟨x162,hx163,h⟩:=ob h;refine st E (dv (k:=(aj .i64)) E rfl rfl underlying49 sizeOf3 (ha2.mono (Z0 hm9 (Z0 hm25 (Z0 hm31 (Z0 hm45 (Z0 hm51 (Z0 hm58 (Z0 hm69 (Z0 hm101 hm115))))))))) hx163) rfl ?_;rintro v165 a _ ⟨rfl,hp164⟩ E;refine st E (bq E hS ty3 rfl hp164) rfl ?_;rintro v167 a _ ⟨rfl,hv166⟩ E;obtain ⟨rfl,hr168⟩:=aI hv166;refine qA E rfl fun a E=>ag ?_;exact ⟨x162,h,_,(Z3 _),hr168,hS,kut E⟩}
 {have h:=aC hd159 h;refine aR ?_;exact ⟨(-1),h,_,(Z3 _),(show inR .i64 (-1) from aw (by decide)),hS,kut E⟩}}
 {
 rintro a w ⟨x120,h,m118,hm119,hr121,hS,E⟩;unfold gy at h;refine ae (ah (qM E rfl fun a E=>qM E rfl fun a E=>qM E rfl fun a E=>qM E rfl fun a E=> ?_));obtain ⟨r127,hr128,h⟩:=ob h;refine st E (aG (vs:=[(.int .i64 p0),(.int .i64 x105),v27]) E rfl call77 (yv (hS:=hS) ha0 hr106 (hv26.mono (Z0 hm31 (Z0 hm45 (Z0 hm51 (Z0 hm58 (Z0 hm69 (Z0 hm101 (Z0 hm115 hm119)))))))) hr128)) rfl ?_;rintro v132 a w ⟨m129,hm130,hS,hv131⟩ E;obtain ⟨r133,hr134,h⟩:=ob h;refine st E (aG (vs:=[(.int .i64 x120),v132]) E rfl call76 (yw (hS:=hS) hr121 hv131 hr134)) rfl ?_;rintro v138 a w ⟨m135,hm136,hS,hv137⟩ E
 refine qA E rfl fun a E=>ag (ah (qM E rfl fun a E=>qM E rfl fun a E=>sp E (bd (k:=(aj .u8)) E rfl rfl underlying24 hv137) rfl fun a E=> ?_));obtain ⟨r143,hr144,h⟩:=ob h;refine st E (aG (vs:=[v103,(.int .i64 (r133.length:Int))]) E rfl call75 (pE (hS:=(hS.pickT 3 [2,0,1] rfl rfl rfl)) (hv104.mono (Z0 hm115 (Z0 hm119 (Z0 hm130 hm136)))) (dM (iM hv137)) hr144)) rfl ?_;rintro v148 a w ⟨m145,hm146,hS,hv147⟩ E;refine qM E rfl fun a E=> ?_;obtain ⟨z150,hz151,h⟩:=ob h
 refine st E (ik (k:=(aj .u8)) (N:=140737488355328) E hS rfl rfl underlying24 underlying24 el5 (i:=0) rfl hv147 (hv137.mono hm146) hz151 rfl rfl) rfl ?_;rintro v155 a w ⟨m153,hm154,hS,hv152⟩ E;refine qA E rfl fun a E=>ag (ah (qB E rfl rfl (bj rfl) fun a E=>qM E rfl fun a E=>ag ?_));exact ⟨(z150,Z1.wrap (x105+1)),(Option.some.inj h).symm,_,(Z0 hm101 (Z0 hm115 (Z0 hm119 (Z0 hm130 (Z0 hm136 (Z0 hm146 hm154)))))),v155,hv152,(am _ _),(hS.pickT 3 [0] rfl rfl rfl),kut E⟩}}}
 {have h:=aC hd110 h;refine cG rfl rfl ?_;have h:=bM h hb108;exact ⟨x102,h,_,hm101,v103,hv104,hS,kut E⟩}}}
 {
 rintro a w ⟨x78,h,m76,hm77,v79,hv80,hS,E⟩;unfold iY at h;refine ae (ah (qM E rfl fun a E=>qM E rfl fun a E=> ?_));obtain ⟨r84,hr85,h⟩:=ob h;refine st E (aG (vs:=[v79]) E rfl call78 (xJ (hS:=hS) hv80 hr85)) rfl ?_;rintro v89 a w ⟨m86,hm87,hS,hv88⟩ E;obtain ⟨rfl,hr90⟩:=aI hv88;refine sp E (dA E rfl underlying55 underlying3 rfl) rfl fun a E=> ?_;obtain ⟨r92,hr93,h⟩:=ob h;refine st E (aG (vs:=[v79,(.int .i64 (Z1.wrap r84))]) E rfl call75 (pE (hS:=hS) (hv80.mono hm87) (am _ _) hr93)) rfl ?_;rintro v97 a w ⟨m94,hm95,hS,hv96⟩ E;refine qA E rfl fun a E=>qA E rfl fun a E=>ag (bH ?_);obtain rfl:=oi h
 try dsimp only
 refine f2 E ?_;exact ⟨_,(Z0 hm9 (Z0 hm25 (Z0 hm31 (Z0 hm45 (Z0 hm51 (Z0 hm58 (Z0 hm69 (Z0 hm77 (Z0 hm87 hm95))))))))),(hS.dropT 1),_,_,rfl,hv96,(au (show inR .i64 0 from aw (by decide)))⟩}}}
theorem QF:Ctr Sz prog 31 [.rd (.int .i64),.rd (.sl (.int .i64)),.rd (.sl (.int .i64)),.rd (.sl (.st 59))] [.rd (.sl (.int .u8)),.rd (.int .i64)] (fun x=>eY x.1 x.2.1 x.2.2.1 x.2.2.2.1):=by
 intro W0 m w L TL vs x r Lp Tp hS hP h;obtain ⟨v0,vs,rfl,a0,hP0⟩:=hU hP;obtain ⟨rfl,n0⟩:=aI a0;obtain ⟨v1,vs,rfl,a1,hP1⟩:=hU hP0;obtain ⟨v2,vs,rfl,a2,hP2⟩:=hU hP1;obtain ⟨v3,vs,rfl,a3,hP3⟩:=hU hP2;obtain ⟨rfl,rfl,rfl⟩:=kP hP3;refine rm (sT (hS:=hS) n0 a1 a2 a3 h) fun v w' he=> ?_;obtain ⟨m',hm,Z',u0,u1,rfl,r0,r1⟩:=he;exact ⟨m',[u0,u1],[],[],[],hm,Z',rfl,⟨r0,⟨r1,trivial⟩⟩,trivial⟩
def QG:=mC QF call31
theorem OD:Ctr Sz prog 137 [.rd (.st 32)] [.rd .bool] (fun x=>rq x.1):=
 ncR [] [2] func137 ntmps137 .o fun x=>by kernel_rfl
def HD:=mC OD call137
theorem QH:Ctr Sz prog 79 [.rd (.int .i64),.rd (.sl (.int .i64)),.rd (.sl (.st 59))] [.rd (.int .i64)] (fun x=>qL x.1 x.2.1 x.2.2.1):=
 ncR [HD] [6] func79 ntmps79 (.s .o (.s .o (.s (.s .o (.b (.l ⟨[.v 7 1 (.dat (.int .i64) none)],[0,1,2],0,[]⟩ (.s .o (.s (.b (.s .o (.s .o (.b (.l ⟨[.v 8 2 (.dat (.int .i64) none)],[0,1,2,7],0,[]⟩ .o))))) .o))))) (.s .o (.s (.s .o (.b (.l ⟨[.v 9 1 (.dat (.int .i64) none)],[0,2],0,[]⟩ (.s .o (.s (.b (.s .o (.s .o (.s (.s .o (.b (.l ⟨[.v 11 2 (.dat (.int .i64) none)],[0,2,9,10],1,[]⟩ .o))) (.s .o (.b (.l ⟨[.v 13 2 (.dat (.int .i64) none)],[0,2,9,10],1,[]⟩ .o))))))) .o))))) .o))))) fun x=>by kernel_rfl
def QI:=mC QH call79
theorem QJ:Ctr Sz prog 41 [.rd (.sl (.int .i64)),.rd (.sl (.st 32))] [.ap (.st 32)] (fun x=>vY x.1 x.2.1):=
 ncR [] [4] func41 ntmps41 (.s .o (.s .o (.s (.s .o (.b (.l ⟨[.v 5 1 (.dat (.sl (.st 32)) (some 0)),.v 6 1 (.dat (.int .i64) none)],[0,1],0,[4]⟩ .o))) .o))) fun x=>by kernel_rfl
def QK:=mC QJ call41
theorem OE:Ctr Sz prog 141 [.rd (.st 32),.rd (.st 32)] [.rd .bool] (fun x=>pg x.1 x.2.1):=
 ncR [] [4] func141 ntmps141 .o fun x=>by kernel_rfl
def OF:=mC OE call141
theorem QL:Ctr Sz prog 95 [.rd (.st 32),.rd (.st 32)] [.rd (.int .i64)] (fun x=>iw x.1 x.2.1):=
 ncR [OF] [4] func95 ntmps95 .o fun x=>by kernel_rfl
def FO:=mC QL call95
theorem QM:Ctr Sz prog 40 [.rd (.sl (.st 32)),.rd (.sl (.st 32))] [.rd (.int .i64)] (fun x=>xc x.1 x.2.1):=
 ncR [FO] [4] func40 ntmps40 (.s .o (.s (.s .o (.b (.l ⟨[.v 5 1 (.dat (.int .i64) none)],[0,1],0,[]⟩ .o))) .o)) fun x=>by kernel_rfl
def QN:=mC QM call40
theorem OG:Ctr Sz prog 131 [.rd (.st 57),.rd (.st 57)] [.rd .bool] (fun x=>sC x.1 x.2.1):=
 ncR [] [4] func131 ntmps131 .o fun x=>by kernel_rfl
def OH:=mC OG call131
theorem QO:Ctr Sz prog 72 [.rd (.sl (.int .i64)),.rd (.st 59),.rd (.st 59)] [.rd .bool] (fun x=>sD x.1 x.2.1 x.2.2.1):=
 ncR [QN,QK,OH] [6] func72 ntmps72 .o fun x=>by kernel_rfl
def QP:=mC QO call72
theorem QQ:Ctr Sz prog 28 [.rd (.sl (.int .i64)),.rd (.sl (.st 59))] [.rd (.sl (.st 59))] (fun x=>sE x.1 x.2.1):=
 ncR [QP] [4] func28 ntmps28 (.s .o (.s .o (.s (.s .o (.b (.l ⟨[.v 5 1 (.dat (.sl (.st 59)) none),.v 6 1 (.dat (.int .i64) none)],[0,1],0,[]⟩ (.s .o (.s (.b (.s .o (.s (.b (.l ⟨[.v 7 2 (.dat (.int .i64) none)],[0,1,5,6],0,[]⟩ .o)) .o))) .o))))) .o))) fun x=>by kernel_rfl
def QR:=mC QQ call28
theorem QS:Ctr Sz prog 55 [.rd (.int .u64),.rd (.int .i64)] [.ap (.int .u8)] (fun x=>lQ x.1 x.2.1):=
 ncR [] [4] func55 ntmps55 (.s .o (.s .o (.s (.s .o (.b (.l ⟨[.v 5 1 (.dat (.sl (.int .u8)) (some 0)),.v 6 1 (.dat (.int .i64) none)],[0],0,[1]⟩ (.s .o (.s (.b (.s .o (.s (.s .o (.b (.l ⟨[.v 7 2 (.dat (.int .u64) none),.v 8 2 (.dat (.int .i64) none)],[0,5,6],0,[1]⟩ .o))) .o))) .o))))) .o))) fun x=>by kernel_rfl
def JH:=mC QS call55
theorem QT:Ctr Sz prog 81 [.rd (.int .i64),.rd (.int .i64),.rd (.sl (.st 59))] [.ap (.st 32)] (fun x=>sF x.1 x.2.1 x.2.2.1):=
 ncR [] [6] func81 ntmps81 (.s .o (.s .o (.s (.s .o (.b (.l ⟨[.v 7 1 (.dat (.sl (.st 32)) (some 0)),.v 8 1 (.dat (.int .i64) none)],[0,1,2],0,[4]⟩ .o))) .o))) fun x=>by kernel_rfl
def QU:=mC QT call81
theorem OI:Ctr Sz prog 113 [.rd (.int .i64),.rd (.sl (.st 32))] [.rd (.int .i64)] (fun x=>qC x.1 x.2.1):=
 ncR [HD] [4] func113 ntmps113 (.s .o (.s .o (.s .o (.s (.s .o (.b (.l ⟨[.v 5 1 (.dat (.int .i64) none)],[0,1],0,[]⟩ .o))) (.s (.s .o (.b (.l ⟨[.v 7 1 (.dat (.int .i64) none)],[0,1],0,[]⟩ .o))) .o))))) fun x=>by kernel_rfl
def OJ:=mC OI call113
theorem HE  (hS:S W0 m w L TL) {p0} (ha0:RV (kSl kAp) m v0 p0) {r} (h:q8 p0=some r):
    Calls prog 114 [v0].toArray w (Ret fun v w'=> ∃m',M.le m m'∧S W0 m' w' L ((5,v)::TL)∧RV (kSl cJ) m' v r):=by
 refine kc func114 ntmps114 fun a E=> ?_;have E:Env 55 a [(0,v0)]:=E;unfold q8 at h;refine ae (ah (qA E rfl fun a E=>ag (ae (ah (qA E rfl fun a E=>ag (ae (ae ?_)))))));refine ah (qA E rfl fun a E=>ag ?_);refine bJ (fun a w=> ∃x6:(List dT),qD x6=some r∧ ∃m',M.le m m'∧ ∃(v7:Value),RV (kSl cJ) m' v7 x6∧S W0 m' w L ((5,v7)::TL)∧Env 55 a [(3,v7)]) ?_ ?_
 {
 refine aO ?_;refine cU h (fun (s:List dT×Int) a w=> ∃m',M.le m m'∧ ∃(v15:Value),RV (kSl cJ) m' v15 s.1∧inR .i64 s.2∧S W0 m' w L ((5,v15)::TL)∧Env 55 a [(0,v0),(3,v15),(4,.int .i64 s.2)]) ?_ ?_
 {exact ⟨_,(Z3 _),(.slice none 0 0),dB,(show inR .i64 0 from aw (by decide)),(hS.tail0 5),kut E⟩}
 {
 rintro ⟨x14,x17⟩ a w ⟨m12,hm13,v15,hv16,hr18,hS,E⟩ r19 h hb20;have h:oF p0 x14 x17=some r19:=h;unfold oF at h;refine ae (ae (ah (qM E rfl fun a E=>qM E rfl fun a E=>sp E (bd (k:=kAp) E rfl rfl underlying22 (ha0.mono hm13)) rfl fun a E=>qB E rfl rfl bG fun a E=>ag (kif E rfl (fun hd25=> ?_) (fun hd25=> ?_)))))
 {
 have h:=aB hd25 h;refine aR (ae ?_);refine bJ (fun a w=> ∃x28:(List dT),mc x17 x28=some r19∧ ∃m',M.le m12 m'∧ ∃(v29:Value),RV (kSl cJ) m' v29 x28∧S W0 m' w L ((5,v29)::TL)∧Env 55 a [(0,v0),(3,v29),(4,.int .i64 x17)]) ?_ ?_
 {
 refine aO (ae (ae ?_));refine bJ (fun a w=> ∃x37:Bool,ky p0 x14 x17 x37=some r19∧ ∃m',M.le m12 m'∧S W0 m' w L ((5,v15)::TL)∧Env 55 a [(0,v0),(3,v15),(4,.int .i64 x17),(25,.bool x37)]) ?_ ?_
 {
 rcases Z2 (decide (0<x17)) with hd158|hd158
 {
 have h:=aB hd158 h;obtain ⟨x159,hx160,x163,hx164,h⟩:=ob2 h
 refine kch (k:=12) (m:=m12) (es:=[]) (Φ:=(fun i m ws v=>match i with|0=>ei .i64 x17 v|1=>v=(.bool (decide (0<x17)))|2=>v=(.bool (decide (0<x17)))|3=>v=v0|4=>ei .i64 x17 v|5=>PR kAp m v x159|6=>RV kAp m v x159|7=>v=v0|8=>ei .i64 x17 v|9=>ei .i64 (Z1.wrap (x17 - 1)) v|10=>PR kAp m v x163|11=>RV kAp m v x163|_=>True)) (Q:=(fun c m ws L' TL'=>match c with|0=>L=L'∧(5,v15)::TL=TL'|_=>False)) (cs:=[⟨0,0,false,[(4,.int .i64 x17)]⟩,⟨0,0,false,[]⟩,⟨0,0,false,[]⟩,⟨0,0,false,[(0,v0)]⟩,⟨0,0,false,[(4,.int .i64 x17)]⟩,⟨0,0,false,[]⟩,⟨0,0,false,[]⟩,⟨0,0,false,[(0,v0)]⟩,⟨0,0,false,[(4,.int .i64 x17)]⟩,⟨0,0,false,[]⟩,⟨0,0,false,[]⟩,⟨0,0,false,[]⟩]) mixed E hS ⟨rfl,rfl⟩ rfl rfl (by kernel_rfl) ?_ ?_ ?_ ?_
 {
 intro i m_ m2_ ws v n_ q_
 iterate 12 (rcases i with _|i;first|exact q_|exact PR.mono q_ n_|exact RV.mono q_ n_)
 exact trivial}
 {
 intro c m_ m2_ ws L_ T_ n_ hq_
 match c,hq_ with
 |0,⟨e1_,e2_⟩=>exact ⟨e1_,e2_⟩
 |_+1,hq_=>exact hq_.elim}
 {
 refine ⟨?_,?_,?_,?_,?_,?_,?_,?_,?_,?_,?_,?_,trivial⟩
 {exact cmv fun _ _=>⟨rfl,hr18⟩}
 {refine cp0 fun _ _ _ _ _ _ _ _ _ Z' E' T'=> ?_;have E:=E'.add (T' 0).1;exact cq (aQ E rfl rfl g7) Z' rfl}
 {refine cp0 fun _ _ _ _ _ _ _ _ _ Z' E' T'=> ?_;have E:=E'.add (T' 1);exact cq (gm E rfl) Z' rfl}
 {exact cgm (gz hd158) (fun _ _=>rfl)}
 {exact cgm (gz hd158) (fun _ _=>⟨rfl,hr18⟩)}
 {refine cg0 (gz hd158) fun _ _ _ _ _ _ _ M' _ Z' E' T'=> ?_;have E:=(E'.add (T' 3)).add (T' 4).1;exact cr (dv (k:=kAp) E rfl rfl underlying22 sizeOf32 (ha0.mono (Z0 hm13 M')) hx160) Z' fun _ h=>h}
 {
 refine cg0 (gz hd158) fun _ _ _ m' a' _ _ _ _ Z' E' T'=> ?_;obtain ⟨v187,e188,q189⟩: ∃v,a'.tmps.getD 17 undef=v∧(PR kAp m' v x159):=⟨_,rfl,T' 5⟩
 have E:=E'.add (e188);exact cr (bq E Z' eG rfl q189) Z' fun _ h=>h}
 {exact cgm (gz hd158) (fun _ _=>rfl)}
 {exact cgm (gz hd158) (fun _ _=>⟨rfl,hr18⟩)}
 {refine cg0 (gz hd158) fun _ _ _ _ _ _ _ _ _ Z' E' T'=> ?_;have E:=E'.add (T' 8).1;exact cq (aQ E rfl rfl (cV rfl)) Z' ⟨rfl,(am _ _)⟩}
 {refine cg0 (gz hd158) fun _ _ _ _ _ _ _ M' _ Z' E' T'=> ?_;have E:=(E'.add (T' 7)).add (T' 9).1;exact cr (dv (k:=kAp) E rfl rfl underlying22 sizeOf32 (ha0.mono (Z0 hm13 M')) hx164) Z' fun _ h=>h}
 {
 refine cg0 (gz hd158) fun _ _ _ m' a' _ _ _ _ Z' E' T'=> ?_;obtain ⟨v206,e207,q208⟩: ∃v,a'.tmps.getD 22 undef=v∧(PR kAp m' v x163):=⟨_,rfl,T' 10⟩
 have E:=E'.add (e207);exact cr (bq E Z' eG rfl q208) Z' fun _ h=>h}}
 {
 intro ws_ L_ T_ m210 a w hl211 hm212 hq213 hS hd214 hn215 ho216 hT217;obtain rfl:=dD hl211;obtain ⟨rfl,rfl⟩:=hq213;have E:=eof 12 [(0,v0),(3,v15),(4,.int .i64 x17),(6,.int .i64 x17),(7,v0),(8,.int .i64 (p0.length:Int)),(9,.bool (decide (x17<(p0.length:Int))))] hd214 hn215 ho216;have E:=((E.add (hT217 2)).add (hT217 3)).add (hT217 4).1;obtain ⟨v228,e229,q230⟩: ∃v,a.tmps.getD 17 undef=v∧(PR kAp m210 v x159):=⟨_,rfl,hT217 5⟩
 have E:=E.add (e229);obtain ⟨v231,e232,q233⟩: ∃v,a.tmps.getD 18 undef=v∧(RV kAp m210 v x159):=⟨_,rfl,hT217 6⟩
 have E:=(((E.add (e232)).add (hT217 7)).add (hT217 8).1).add (hT217 9).1;obtain ⟨v245,e246,q247⟩: ∃v,a.tmps.getD 22 undef=v∧(PR kAp m210 v x163):=⟨_,rfl,hT217 10⟩
 have E:=E.add (e246);obtain ⟨v248,E,q250⟩:=adv E (hT217 11);refine spg E rfl rfl rfl rfl hd158 (vu E yo rfl rfl q233 q250 rfl) rfl fun a E=>qT E hd158 rfl fun a E=>ag ?_;exact ⟨(decide (x159=x163)),h,_,hm212,hS,kut E⟩}}
 {
 have h:=aC hd158 h
 refine kch (k:=12) (m:=m12) (es:=[]) (Φ:=(fun i m ws v=>match i with|0=>ei .i64 x17 v|1=>v=(.bool (decide (0<x17)))|2=>v=(.bool (decide (0<x17)))|3=>v=undef|4=>v=undef|5=>v=undef|6=>v=undef|7=>v=undef|8=>v=undef|9=>v=undef|10=>v=undef|11=>v=undef|_=>True)) (Q:=(fun c m ws L' TL'=>match c with|0=>L=L'∧(5,v15)::TL=TL'|_=>False)) (cs:=[⟨0,0,false,[(4,.int .i64 x17)]⟩,⟨0,0,false,[]⟩,⟨0,0,false,[]⟩,⟨0,0,false,[(0,v0)]⟩,⟨0,0,false,[(4,.int .i64 x17)]⟩,⟨0,0,false,[]⟩,⟨0,0,false,[]⟩,⟨0,0,false,[(0,v0)]⟩,⟨0,0,false,[(4,.int .i64 x17)]⟩,⟨0,0,false,[]⟩,⟨0,0,false,[]⟩,⟨0,0,false,[]⟩]) mixed E hS ⟨rfl,rfl⟩ rfl rfl (by kernel_rfl) ?_ ?_ ?_ ?_
 {
 intro i m_ m2_ ws v n_ q_
 iterate 12 (rcases i with _|i;exact q_)
 exact trivial}
 {
 intro c m_ m2_ ws L_ T_ n_ hq_
 match c,hq_ with
 |0,⟨e1_,e2_⟩=>exact ⟨e1_,e2_⟩
 |_+1,hq_=>exact hq_.elim}
 {
 refine ⟨?_,?_,?_,?_,?_,?_,?_,?_,?_,?_,?_,?_,trivial⟩
 {exact cmv fun _ _=>⟨rfl,hr18⟩}
 {refine cp0 fun _ _ _ _ _ _ _ _ _ Z' E' T'=> ?_;have E:=E'.add (T' 0).1;exact cq (aQ E rfl rfl g7) Z' rfl}
 {refine cp0 fun _ _ _ _ _ _ _ _ _ Z' E' T'=> ?_;have E:=E'.add (T' 1);exact cq (gm E rfl) Z' rfl}
 {exact csk (gz hd158)}
 {exact csk (gz hd158)}
 {exact csk (gz hd158)}
 {exact csk (gz hd158)}
 {exact csk (gz hd158)}
 {exact csk (gz hd158)}
 {exact csk (gz hd158)}
 {exact csk (gz hd158)}
 {exact csk (gz hd158)}}
 {intro ws_ L_ T_ m263 a w hl264 hm265 hq266 hS hd267 hn268 ho269 hT270;obtain rfl:=dD hl264;obtain ⟨rfl,rfl⟩:=hq266;have E:=eof 12 [(0,v0),(3,v15),(4,.int .i64 x17),(6,.int .i64 x17),(7,v0),(8,.int .i64 (p0.length:Int)),(9,.bool (decide (x17<(p0.length:Int))))] hd267 hn268 ho269;have E:=(((((((((E.add (hT270 2)).add (hT270 3)).add (hT270 4)).add (hT270 5)).add (hT270 6)).add (hT270 7)).add (hT270 8)).add (hT270 9)).add (hT270 10)).add (hT270 11);refine qX E hd158 fun a E=>qF E hd158 rfl fun a E=>ag ?_;exact ⟨false,h,_,hm265,hS,kut E⟩}}}
 {
 rintro a w ⟨x37,h,m35,hm36,hS,E⟩;unfold ky at h;refine kif E rfl (fun hd39=> ?_) (fun hd39=> ?_)
 {
 have h:=aB hd39 h;refine ae (ah (qM E rfl fun a E=>qM E rfl fun a E=>sp E (bd (k:=cJ) E rfl rfl underlying152 (hv16.mono hm36)) rfl fun a E=>qB E rfl rfl (cV rfl) fun a E=> ?_));obtain ⟨x44,hx45,h⟩:=ob h;refine st E (dv (k:=cJ) E rfl rfl underlying152 sizeOf155 (hv16.mono hm36) hx45) rfl ?_;rintro v47 a _ ⟨rfl,hp46⟩ E;refine st E (bq E hS xp rfl hp46) rfl ?_;rintro v49 a _ ⟨rfl,hv48⟩ E;refine st E (dP hS zeroValue155 rfl (cs:=JA)) rfl ?_;rintro _ a w ⟨b50,rfl,hS⟩ E;refine st0 E (cZ E hS xp bn rfl rfl hv48 (i:=0) rfl (BL _)) ?_;rintro _ w ⟨cs52,hc53,hS⟩ E
 refine ag (ae (ah (sp E (aM E Ar rfl) rfl fun a E=> ?_)));refine st E (az E hS ty3 rfl (i:=0) rfl (KP.R_drop (aP hc53))) rfl ?_;rintro v57 a _ ⟨rfl,hv56⟩ E;obtain ⟨rfl,hr58⟩:=aI hv56;refine qB E rfl rfl (bj rfl) fun a E=>sp E (aM E Ar rfl) rfl fun a E=> ?_;refine st0 E (cZ E hS ty3 Al rfl rfl (au (am _ _)) (i:=0) rfl hc53) ?_;rintro _ w ⟨cs61,hc62,hS⟩ E;refine ag (ae ?_);obtain ⟨x68,hx69,z71,hz72,h⟩:=ob2 h
 refine kch (k:=9) (m:=m35) (es:=[0,6]) (Φ:=(fun i m ws v=>match i with|0=>v=(wi ws 0).v∧RV (kSl cJ) m v ([])|1=>v=v15|2=>v=v15|3=>ei .i64 (x14.length:Int) v|4=>ei .i64 (Z1.wrap ((x14.length:Int) - 1)) v|5=>RV (kSl cJ) m v x68|6=>v=(wi ws 1).v∧RV (kSl cJ) m v z71|7=>RV cJ m v ({ x44 with fMany:=Z1.wrap (x44.fMany+1) })|8=>RV (kSl cJ) m v ([{ x44 with fMany:=Z1.wrap (x44.fMany+1) }])|_=>True)) (Q:=(fun c m ws L' TL'=>match c with|0=>(b50,cs61)::L=L'∧(5,v15)::TL=TL'|1=>(b50,cs61)::L=L'∧(5,(wi ws 0).v)::(5,v15)::TL=TL'|2=>(b50,cs61)::L=L'∧(5,(wi ws 1).v)::(5,v15)::TL=TL'|_=>False)) (cs:=[⟨0,0,true,[]⟩,⟨0,1,false,[(3,v15)]⟩,⟨0,1,false,[(3,v15)]⟩,⟨0,1,false,[]⟩,⟨0,1,false,[]⟩,⟨0,1,false,[]⟩,⟨1,1,true,[]⟩,⟨0,2,false,[(5,pz b50)]⟩,⟨0,2,false,[]⟩]) mixed E hS ⟨rfl,rfl⟩ rfl rfl (by kernel_rfl) ?_ ?_ ?_ ?_
 {
 intro i m_ m2_ ws v n_ q_
 iterate 9 (rcases i with _|i;first|exact q_|exact RV.mono q_ n_|exact ⟨q_.1,RV.mono q_.2 n_⟩)
 exact trivial}
 {
 intro c m_ m2_ ws L_ T_ n_ hq_
 match c,hq_ with
 |0,⟨e1_,e2_⟩=>exact ⟨e1_,e2_⟩
 |1,⟨e1_,e2_⟩=>exact ⟨e1_,e2_⟩
 |2,⟨e1_,e2_⟩=>exact ⟨e1_,e2_⟩
 |_+3,hq_=>exact hq_.elim}
 {
 refine ⟨?_,?_,?_,?_,?_,?_,?_,?_,?_,trivial⟩
 {refine pI fun pre_ L_ T_ m' a' w' hl' M' Q' Z' E' T'=> ?_;obtain rfl:=dD hl';obtain ⟨rfl,rfl⟩:=Q';refine be.imp (fm (k:=cJ) (xs:=[]) (vs:=[]) E' Z' rfl underlying152 sizeOf155 zeroValue155 trivial rfl (by decide)) ?_;rintro vv67 w ⟨m65,hm66,hS,hv64⟩;exact ⟨_,⟨0,vv67,[],[],[]⟩,_,_,hm66,hS,⟨rfl,rfl⟩,⟨rfl,hv64⟩⟩}
 {exact cmv fun _ _=>rfl}
 {exact cmv fun _ _=>rfl}
 {refine cp0 fun _ _ _ _ _ _ _ M' _ Z' E' T'=> ?_;have E:=E'.add (T' 2);exact cq (bd (k:=cJ) E rfl rfl underlying152 (hv16.mono (Z0 hm36 M'))) Z' ⟨rfl,(dM (iM (hv16.mono (Z0 hm36 M'))))⟩}
 {refine cp0 fun _ _ _ _ _ _ _ _ _ Z' E' T'=> ?_;have E:=E'.add (T' 3).1;exact cq (aQ E rfl rfl (cV rfl)) Z' ⟨rfl,(am _ _)⟩}
 {refine cp0 fun _ _ _ _ _ _ _ M' _ Z' E' T'=> ?_;have E:=(E'.add (T' 1)).add (T' 4).1;exact cr (d4 (k:=cJ) E rfl underlying152 sizeOf155 (hv16.mono (Z0 hm36 M')) rfl ⟨_,rfl⟩ hx69 (xl:=none) (xh:=(some (.tmp 40)))) Z' fun _ h=>h}
 {
 refine pI fun pre_ L_ T_ m' a' w' hl' M' Q' Z' E' T'=> ?_;obtain ⟨⟨_,vv67,_,_,_⟩,rfl⟩:=sW hl';obtain ⟨rfl,rfl⟩:=Q';obtain ⟨v100,e101,q102⟩: ∃v,a'.tmps.getD 36 undef=v∧(v=vv67∧RV (kSl cJ) m' v ([])):=⟨_,rfl,T' 0 (by decide) 36 rfl⟩
 obtain ⟨q103,q102⟩:=q102;rw [q103] at q102;have E:=E'.add (e101.trans q103);obtain ⟨v104,E,q106⟩:=adv E (T' 5 (by decide) 41 rfl);refine be.imp (ik (k:=cJ) (N:=2932031007402) E Z' rfl rfl underlying152 underlying152 BM (i:=0) rfl q102 q106 hz72 rfl rfl) ?_;rintro vv76 w ⟨m74,hm75,hS,hv73⟩;exact ⟨_,⟨0,vv76,[],[],[]⟩,_,_,hm75,hS,⟨rfl,rfl⟩,⟨rfl,hv73⟩⟩}
 {
 refine cp0 fun _ _ _ _ _ _ P' M' Q' Z' E' _=> ?_;rcases EG (a:=0) (n:=1) P' with h0_|h0_
 {obtain rfl:=dD h0_;obtain ⟨rfl,rfl⟩:=Q';exact cr (az E' Z' xp rfl (i:=0) rfl (aP (cJ.mono M' hc62))) Z' fun _ h=>h}
 {
 obtain ⟨⟨_,vv67,_,_,_⟩,post_',rfl,hp1_⟩:=h0_;rcases EG (a:=0) (n:=0) hp1_ with h0_|h0_
 {obtain rfl:=dD h0_;obtain ⟨rfl,rfl⟩:=Q';exact cr (az E' Z' xp rfl (i:=0) rfl (aP (cJ.mono M' hc62))) Z' fun _ h=>h}
 {obtain ⟨⟨_,vv76,_,_,_⟩,post_'',rfl,hp2_⟩:=h0_;obtain rfl:=dD (Lk (a:=0) hp2_);obtain ⟨rfl,rfl⟩:=Q';exact cr (az E' Z' xp rfl (i:=0) rfl (aP (cJ.mono M' hc62))) Z' fun _ h=>h}}}
 {refine cp0 fun _ _ _ m' a' _ _ _ _ Z' E' T'=> ?_;obtain ⟨v110,E,q112⟩:=adv E' (T' 7);refine be.imp (fm (k:=cJ) (xs:=[{ x44 with fMany:=Z1.wrap (x44.fMany+1) }]) (vs:=[v110]) E Z' rfl underlying152 sizeOf155 zeroValue155 ⟨q112,trivial⟩ rfl (by decide)) ?_;rintro v113 w ⟨m79,hm80,hS,hv78⟩;exact ⟨_,hm80,(hS.dropT 1),hv78⟩}}
 {
 intro ws_ L_ T_ m114 a w hl115 hm116 hq117 hS hd118 hn119 ho120 hT121;obtain ⟨⟨_,vv67,_,_,_⟩,⟨_,vv76,_,_,_⟩,rfl⟩:=Rx hl115;obtain ⟨rfl,rfl⟩:=hq117;have E:=eof 9 [(0,v0),(3,v15),(4,.int .i64 x17),(5,pz b50),(25,.bool x37),(26,v15),(27,v15),(28,.int .i64 (x14.length:Int)),(29,.int .i64 (Z1.wrap ((x14.length:Int) - 1))),(30,v47),(31,v49),(32,pz b50),(33,.int .i64 x44.fMany),(34,.int .i64 (Z1.wrap (x44.fMany+1))),(35,pz b50)] hd118 hn119 ho120;obtain ⟨v122,e123,q124⟩: ∃v,a.tmps.getD 42 undef=v∧(v=vv76∧RV (kSl cJ) m114 v z71):=⟨_,rfl,hT121 6⟩
 obtain ⟨q125,q124⟩:=q124;rw [q125] at q124;have E:=E.add (e123.trans q125);obtain ⟨v126,E,q128⟩:=adv E (hT121 8);obtain ⟨z129,hz130,h⟩:=ob h;refine st E (ik (k:=cJ) (N:=2932031007402) E hS rfl rfl underlying152 underlying152 BM (i:=0) rfl q124 q128 hz130 rfl rfl) rfl ?_;rintro v134 a w ⟨m132,hm133,hS,hv131⟩ E;refine qA E rfl fun a E=>ag ?_;refine cG rfl rfl ?_;exact ⟨z129,h,_,(Z0 hm36 (Z0 hm116 hm133)),v134,hv131,((hS.pickL 1 [] rfl rfl rfl).pickT 2 [0] rfl rfl rfl),kut E⟩}}
 {
 have h:=aC hd39 h;refine aR (ah (qM E rfl fun a E=>qM E rfl fun a E=>qM E rfl fun a E=> ?_));obtain ⟨x139,hx140,h⟩:=ob h;refine st E (dv (k:=kAp) E rfl rfl underlying22 sizeOf32 (ha0.mono (Z0 hm13 hm36)) hx140) rfl ?_;rintro v142 a _ ⟨rfl,hp141⟩ E;refine st E (bq E hS eG rfl hp141) rfl ?_;rintro v144 a _ ⟨rfl,hv143⟩ E;refine st E (iO (m:=m35) (k:=cJ) (x0:=dT.zero) (xx:=(⟨1,x139⟩:dT)) (pl:=[(0,1),(1,4)]) (pv:=[(0,.int .i64 1),(1,v144)]) E rfl underlying155 rfl zeroValue155 BL rfl (.cons rfl Al (au (show inR .i64 1 from aw (by decide))) (.cons rfl Ev hv143 .nil))) rfl ?_
 rintro v146 a _ ⟨rfl,hv145⟩ E;refine st E (fm (k:=cJ) (xs:=[(⟨1,x139⟩:dT)]) (vs:=[v146]) E hS rfl underlying152 sizeOf155 zeroValue155 ⟨hv145,trivial⟩ rfl (by decide)) rfl ?_;rintro v150 a w ⟨m148,hm149,hS,hv147⟩ E;obtain ⟨z151,hz152,h⟩:=ob h;refine st E (ik (k:=cJ) (N:=2932031007402) E hS rfl rfl underlying152 underlying152 BM (i:=1) rfl (hv16.mono (Z0 hm36 hm149)) hv147 hz152 rfl rfl) rfl ?_;rintro v156 a w ⟨m154,hm155,hS,hv153⟩ E;refine qA E rfl fun a E=>ag ?_;exact ⟨z151,h,_,(Z0 hm36 (Z0 hm149 hm155)),v156,hv153,(hS.pickT 2 [1] rfl rfl rfl),kut E⟩}}}
 {rintro a w ⟨x28,h,m26,hm27,v29,hv30,hS,E⟩;unfold mc at h;refine ah (qM E rfl fun a E=>qB E rfl rfl (bj rfl) fun a E=>qA E rfl fun a E=>ag ?_);exact ⟨(x28,Z1.wrap (x17+1)),(Option.some.inj h).symm,_,(Z0 hm13 hm27),v29,hv30,(am _ _),hS,kut E⟩}}
 {have h:=aC hd25 h;refine cG rfl rfl ?_;have h:=bM h hb20;exact ⟨x14,h,_,hm13,v15,hv16,hS,kut E⟩}}}
 {
 rintro a w ⟨x6,h,m4,hm5,v7,hv8,hS,E⟩;unfold qD at h;refine ae (ah (qM E rfl fun a E=>qA E rfl fun a E=>ag (bH ?_)));obtain rfl:=oi h
 try dsimp only
 refine f1 E ?_;exact ⟨_,hm5,(hS.pickT 1 [0] rfl rfl rfl),hv8⟩}
theorem OK:Ctr Sz prog 114 [.rd (.sl (.st 32))] [.ap (.st 155)] (fun x=>q8 x.1):=by
 intro W0 m w L TL vs x r Lp Tp hS hP h;obtain ⟨v0,vs,rfl,a0,hP0⟩:=hU hP;obtain ⟨rfl,rfl,rfl⟩:=kP hP0;refine rm (HE (hS:=hS) a0 h) fun v w' he=> ?_;obtain ⟨m',hm,Z',r0⟩:=he;exact ⟨m',[v],[],[],[(5,v)],hm,Z',rfl,⟨r0,rfl,trivial⟩,trivial⟩
def OL:=mC OK call114
theorem OM:Ctr Sz prog 118 [.rd (.int .u64)] [.ap (.int .u8)] (fun x=>n5 x.1):=
 ncR [] [2] func118 ntmps118 (.s .o (.s .o (.s (.s .o (.b (.l ⟨[.v 3 1 (.dat (.sl (.int .u8)) (some 0)),.v 4 1 (.dat (.int .i64) none)],[0],0,[1]⟩ .o))) .o))) fun x=>by kernel_rfl
def Dy:=mC OM call118
theorem QV:Ctr Sz prog 54 [.rd (.st 32)] [.ap (.int .u8)] (fun x=>qb x.1):=
 ncR [Dy] [2] func54 ntmps54 .o fun x=>by kernel_rfl
def FP:=mC QV call54
theorem ON:Ctr Sz prog 115 [.rd (.sl (.st 32))] [.ap (.int .u8)] (fun x=>ut x.1):=
 ncR [Dy] [2] func115 ntmps115 (.s .o (.s .o (.s (.s .o (.b (.l ⟨[.v 3 1 (.dat (.sl (.int .u8)) (some 0)),.v 4 1 (.dat (.int .i64) none)],[0],0,[1]⟩ (.s .o (.s (.b (.s .o (.s .o (.s .o (.s (.b (.l ⟨[.v 3 2 (.dat (.sl (.int .u8)) (some 0)),.v 6 2 (.dat (.int .u64) none)],[0,4],0,[1]⟩ .o)) .o))))) .o))))) .o))) fun x=>by kernel_rfl
def OO:=mC ON call115
theorem OP:Ctr Sz prog 160 [.rd (.sl (.st 32))] [.rd (.sl (.st 32))] (fun x=>uu x.1):=
 ncR [FO] [2] func160 ntmps160 (.s .o (.s .o (.s (.s .o (.b (.l ⟨[.v 3 1 (.dat (.sl (.st 32)) none),.v 4 1 (.dat (.int .i64) none)],[0],0,[]⟩ (.s .o (.s (.b (.s .o (.s .o (.s (.s .o (.b (.l ⟨[.v 5 2 (.dat (.sl (.st 32)) (some 0)),.v 6 2 (.dat .bool none),.v 7 2 (.dat (.int .i64) none)],[0,3,4],0,[4]⟩ .o))) .o)))) .o))))) .o))) fun x=>by kernel_rfl
def OQ:=mC OP call160
theorem OR:Ctr Sz prog 162 [.rd (.int .u64)] [.rd (.int .i64)] (fun x=>rt x.1):=
 ncR [] [2] func162 ntmps162 (.s .o (.s .o (.s (.b (.l ⟨[.v 0 1 (.dat (.int .u64) none),.v 3 1 (.dat (.int .i64) none)],[],0,[]⟩ .o)) .o))) fun x=>by kernel_rfl
def HF:=mC OR call162
theorem OS:Ctr Sz prog 161 [.rd (.sl (.int .u64)),.rd (.int .i64)] [.ap (.int .u8)] (fun x=>qc x.1 x.2.1):=
 ncR [] [4] func161 ntmps161 (.s .o (.s .o (.s (.s .o (.b (.l ⟨[.v 5 1 (.dat (.sl (.int .u8)) (some 0)),.v 6 1 (.dat (.int .i64) none)],[0,1],0,[1]⟩ (.s .o (.s (.b (.s .o (.s .o (.b (.l ⟨[.v 5 2 (.dat (.sl (.int .u8)) (some 0)),.v 7 2 (.dat (.int .u64) none),.v 8 2 (.dat (.int .i64) none)],[0,1,6],0,[1]⟩ .o))))) .o))))) (.s .o (.s (.s .o (.b (.l ⟨[.v 9 1 (.dat (.sl (.int .u8)) (some 1)),.v 10 1 (.dat (.int .i64) none)],[5],0,[1,1]⟩ (.s .o (.s (.b (.s .o (.s (.s .o (.b (.l ⟨[.v 11 2 (.dat (.int .u8) none),.v 12 2 (.dat (.int .i64) none)],[5,9,10],0,[1,1]⟩ .o))) .o))) .o))))) .o))))) fun x=>by kernel_rfl
def HG:=mC OS call161
theorem OT:Ctr Sz prog 116 [.rd (.sl (.st 32))] [.ap (.int .u8)] (fun x=>xa x.1):=
 ncR [FP,OQ,HG,HF] [2] func116 ntmps116 (.s .o (.s .o (.s .o (.s (.s .o (.b (.l ⟨[.v 4 1 (.dat (.sl (.int .u8)) (some 0)),.v 5 1 (.dat (.int .i64) none)],[0,3],0,[1]⟩ .o))) (.s .o (.s (.s .o (.b (.l ⟨[.v 6 1 (.dat (.sl (.int .u64)) (some 1)),.v 7 1 (.dat (.int .i64) none)],[0,3,4],0,[1,1]⟩ (.s .o (.s (.b (.s .o (.b (.l ⟨[.v 6 2 (.dat (.sl (.int .u64)) (some 1)),.v 8 2 (.dat (.int .i64) none)],[0,3,4,7],0,[1,1]⟩ .o)))) .o))))) .o)))))) fun x=>by kernel_rfl
def OU:=mC OT call116
theorem OV:Ctr Sz prog 117 [.rd (.sl (.st 32))] [.ap (.int .u8)] (fun x=>uy x.1):=
 ncR [Dy,HG,HF] [2] func117 ntmps117 (.s .o (.s .o (.s (.s .o (.b (.l ⟨[.v 3 1 (.dat (.int .i64) none),.v 4 1 (.dat (.int .i64) none)],[0],0,[]⟩ .o))) (.s .o (.s .o (.s (.s .o (.b (.l ⟨[.v 5 1 (.dat (.sl (.int .u64)) (some 0)),.v 6 1 (.dat (.int .i64) none),.v 7 1 (.dat (.int .i64) none)],[0,3],0,[1]⟩ .o))) .o)))))) fun x=>by kernel_rfl
def OW:=mC OV call117
theorem QW:Ctr Sz prog 52 [.rd (.int .i64),.rd (.sl (.st 32))] [.rd (.sl (.int .u8)),.rd (.int .i64)] (fun x=>n7 x.1 x.2.1):=
 ncR [FP,OJ,OL,OO,OU,OW] [4,5] func52 ntmps52 (.s .o (.s .o (.s .o (.s .o (.s (.s .o (.b (.s .o (.i (.s .o (.s .o (.b (.l ⟨[.v 7 1 (.dat (.sl (.int .u8)) (some 1)),.v 9 1 (.dat (.int .i64) none)],[8],0,[1,5]⟩ .o)))) (.s .o (.i .o (.s .o (.i .o (.s .o (.i .o (.s .o (.b (.l ⟨[.v 7 1 (.dat (.sl (.int .u8)) (some 0)),.v 10 1 (.dat (.int .i64) none)],[1],0,[1]⟩ .o))))))))))))) .o))))) fun x=>by kernel_rfl
def FQ:=mC QW call52
theorem QX:Ctr Sz prog 51 [.rd (.sl (.st 32))] [.rd (.int .i64)] (fun x=>xb x.1):=
 ncR [FQ] [2] func51 ntmps51 (.s .o (.s .o (.s .o (.s (.s .o (.b (.l ⟨[.v 3 1 (.dat (.int .i64) none),.v 4 1 (.dat (.int .i64) none),.v 5 1 (.dat (.int .i64) none)],[0],0,[]⟩ .o))) .o)))) fun x=>by kernel_rfl
def QY:=mC QX call51
theorem QZ:Ctr Sz prog 53 [.rd (.int .i64),.rd (.sl (.st 32))] [.rd (.st 37)] (fun x=>uA x.1 x.2.1):=
 nxR [FO] [.cell 4 37] func53 ntmps53 (.s .o (.s .o (.s (.s .o (.b (.l ⟨[.v 6 1 (.dat (.int .i64) none),.b 1 1 (.st 37)],[1,4,5],2,[]⟩ .o))) .o))) fun x=>by kernel_rfl
def Q0:=mC QZ call53
theorem Q1:Ctr Sz prog 56 [.rd (.sl (.int .u8))] [.rd (.int .u32)] (fun x=>vT x.1):=
 ncR [] [2] func56 ntmps56 (.s .o (.s .o (.s (.s .o (.b (.l ⟨[.v 3 1 (.dat (.int .u32) none),.v 4 1 (.dat (.int .i64) none)],[0],0,[]⟩ (.s .o (.s (.b (.s .o (.s .o (.b (.l ⟨[.v 3 2 (.dat (.int .u32) none),.v 5 2 (.dat (.int .i64) none)],[0,4],0,[]⟩ .o))))) .o))))) .o))) fun x=>by kernel_rfl
def JI:=mC Q1 call56
theorem Q2:Ctr Sz prog 16 [.rd (.int .i64),.rd (.sl (.st 32))] [.rd (.sl (.int .u8)),.rd (.int .i64)] (fun x=>uB x.1 x.2.1):=
 ncR [QY,FQ,Q0,FP,JH,JI] [4,5] func16 ntmps16 .o fun x=>by kernel_rfl
def Q3:=mC Q2 call16
theorem Q4:Ctr Sz prog 80 [.rd (.int .i64),.rd (.sl (.st 32))] [.ap (.int .u8)] (fun x=>sG x.1 x.2.1):=
 ncR [Q3,FQ] [4] func80 ntmps80 (.s .o (.s .o (.s (.s .o (.b (.l ⟨[.v 5 1 (.dat (.sl (.int .u8)) (some 0)),.v 6 1 (.dat (.int .i64) none)],[0,1],0,[1]⟩ .o))) .o))) fun x=>by kernel_rfl
def Q5:=mC Q4 call80
theorem Q6:Ctr Sz prog 32 [.rd (.int .i64),.rd (.sl (.int .i64)),.rd (.sl (.int .i64)),.rd (.sl (.st 59))] [.rd (.sl (.int .u8)),.rd (.int .i64)] (fun x=>pn x.1 x.2.1 x.2.2.1 x.2.2.2.1):=
 ncR [QR,JH,JI,QI,Q5,QU] [8,9] func32 ntmps32 (.s .o (.s .o (.s .o (.s .o (.s .o (.s (.s .o (.b (.l ⟨[.v 12 1 (.dat (.sl (.int .u8)) (some 0)),.v 13 1 (.dat (.int .i64) none)],[0,1,2,3,11],0,[1]⟩ .o))) (.s .o (.s (.s .o (.b (.l ⟨[.v 12 1 (.dat (.sl (.int .u8)) (some 0)),.v 14 1 (.dat (.int .i64) none)],[0,2,11],0,[1,1]⟩ .o))) .o)))))))) fun x=>by kernel_rfl
def Q7:=mC Q6 call32
theorem Q8:Ctr Sz prog 82 [.rd (.sl (.int .u8))] [.rd (.int .i64)] (fun x=>d3 x.1):=
 ncR [] [2] func82 ntmps82 .o fun x=>by kernel_rfl
theorem kM  (hS:S W0 m w L TL) {p0} (ha0:RV (kSl (aj .u8)) m v0 p0) {r} (h:d3 p0=some r):
    Calls prog 82 [v0].toArray w (Ret fun v w'=> ∃m',M.le m m'∧S W0 m' w' L TL∧RV (aj .i64) m' v r):=by
 refine rm (Q8 W0 m w L TL [v0] (p0,()) r [] [] hS ⟨ha0,trivial⟩ h) fun v w' he=> ?_;obtain ⟨m',us,Lr,Lq,Tr,hm,Z',rfl,hR,hO⟩:=he;obtain ⟨u0,us,rfl,r0,hR0⟩:=dn hR;obtain ⟨rfl,rfl,rfl⟩:=cz hR0;have hO0:=bQ hO;obtain rfl:=cA hO0;exact ⟨m',hm,Z',r0⟩
theorem vl  {b0_:Nat} (hS:S W0 m w ((b0_,sR)::L) (TL)) {p1} (ha1:RV (kSl (aj .u8)) m v1 p1) {r} (h:ip p1=some r):
    Calls prog 83 [(pz b0_),v1].toArray w (Ret fun v w'=> ∃m',M.le m m'∧ ∃q0_:List Value,S W0 m' w' ((b0_,q0_)::L) (TL)∧cd.R m' q0_ r.2.2.2∧ ∃v0_ v1_ v2_:Value,v= .tuple #[v0_,v1_,v2_]∧RV (aj .i64) m' v0_ r.1∧RV (kSl (aj .u8)) m' v1_ r.2.1∧RV cK m' v2_ r.2.2.1):=by
 refine kc func83 ntmps83 fun a E=> ?_;have E:Env 83 a [(0,pz b0_),(1,v1)]:=E;unfold ip at h;refine ae (ah (qA E rfl fun a E=>qA E rfl fun a E=>qA E rfl fun a E=>ag (ae (ae ?_))));refine bJ (fun a w=> ∃x6:Bool,eK p1 x6=some r∧ ∃m',M.le m m'∧S W0 m' w ((b0_,sR)::L) (TL)∧Env 83 a [(0,pz b0_),(1,v1),(21,.bool x6)]) ?_ ?_
 {
 refine ah (qM E rfl fun a E=>sp E (bd (k:=(aj .u8)) E rfl rfl underlying24 ha1) rfl fun a E=>qB E rfl rfl bG fun a E=>qM E rfl fun a E=> ?_);rcases Z2 (decide ((p1.length:Int)<6)) with hd354|hd354
 {have h:=aB hd354 h;refine qX E hd354 fun a E=>qX E hd354 fun a E=>qX E hd354 fun a E=>qX E hd354 fun a E=>qX E hd354 fun a E=>qX E hd354 fun a E=>qT E hd354 rfl fun a E=>ag ?_;exact ⟨true,h,_,(Z3 _),hS,kut E⟩}
 {
 have h:=aC hd354 h;refine qG E hd354 rfl fun a E=> ?_;obtain ⟨x357,hx358,h⟩:=ob h;refine stg E rfl rfl rfl rfl hd354 (d4 (k:=(aj .u8)) E rfl underlying24 sizeOf5 ha1 rfl ⟨_,rfl⟩ hx358 (xl:=none) (xh:=(some (.const (.int .i64 4))))) rfl ?_;rintro v360 a _ ⟨rfl,hv359⟩ E;obtain ⟨x361,hx362,h⟩:=ob h;refine stg E rfl rfl rfl rfl hd354 (JY E rfl underlying178 hv359 hx362) rfl ?_;rintro v364 a _ ⟨rfl,hp363⟩ E;refine stg E rfl rfl rfl rfl hd354 (bq E hS PY rfl hp363) rfl ?_;rintro v366 a _ ⟨rfl,hv365⟩ E
 refine stg E rfl rfl rfl rfl hd354 (Gc (m:=m) E rfl underlying178 sizeOf5 zeroValue178 (show inR .u8 72 from aw (by decide)) (show inR .u8 65 from aw (by decide)) (show inR .u8 89 from aw (by decide)) (show inR .u8 49 from aw (by decide))) rfl ?_;rintro v368 a _ ⟨rfl,hv367⟩ E;refine spg E rfl rfl rfl rfl hd354 (vx E PZ rfl rfl hv365 hv367 rfl) rfl fun a E=>qF E hd354 rfl fun a E=>ag ?_;exact ⟨(!decide (x361=(72,65,89,49))),h,_,(Z3 _),hS,kut E⟩}}
 {
 rintro a w ⟨x6,h,m4,hm5,hS,E⟩;unfold eK at h;refine kif E rfl (fun hd8=> ?_) (fun hd8=> ?_)
 {
 have h:=aB hd8 h;refine ae (ah (qA E rfl fun a E=>qA E rfl fun a E=>qA E rfl fun a E=>ag (bH ?_)));obtain rfl:=oi h
 try dsimp only
 refine Fin.mk E (rs:=[.tmp 4,.tmp 5,.tmp 6]) rfl (re.tmp E rfl (re.tmp E rfl (re.tmp E rfl re.nil))) ?_;exact ⟨_,hm5,sR,hS,(BN _),_,_,_,rfl,(au (show inR .i64 0 from aw (by decide))),dB,dQ⟩}
 {
 have h:=aC hd8 h;refine aR (ae (ah (qM E rfl fun a E=>qM E rfl fun a E=> ?_)));obtain ⟨x14,hx15,h⟩:=ob h;refine st E (dv (k:=(aj .u8)) E rfl rfl underlying24 sizeOf5 (ha1.mono hm5) hx15) rfl ?_;rintro v17 a _ ⟨rfl,hp16⟩ E;refine st E (bq E hS ty5 rfl hp16) rfl ?_;rintro v19 a _ ⟨rfl,hv18⟩ E;obtain ⟨rfl,hr20⟩:=aI hv18;refine sp E (dA E rfl underlying5 underlying3 rfl) rfl fun a E=>sp E (ci E rfl) rfl fun a E=>sp E (aM E oh rfl) rfl fun a E=> ?_;refine st0 E (Gd E hS ty3 Ey rfl rfl (au (am _ _)) (i:=0) rfl (BN _)) ?_;rintro _ w ⟨cs24,hc25,hk26,hS⟩ E;refine ag (ae (ah (qM E rfl fun a E=> ?_)))
 obtain ⟨x29,hx30,h⟩:=ob h;refine st E (dv (k:=(aj .u8)) E rfl rfl underlying24 sizeOf5 (ha1.mono hm5) hx30) rfl ?_;rintro v32 a _ ⟨rfl,hp31⟩ E;refine st E (bq E hS ty5 rfl hp31) rfl ?_;rintro v34 a _ ⟨rfl,hv33⟩ E;obtain ⟨rfl,hr35⟩:=aI hv33;refine sp E (dA E rfl underlying5 underlying3 rfl) rfl fun a E=>qA E rfl fun a E=>ag (ae (ah (qM E rfl fun a E=> ?_)));obtain ⟨x39,hx40,h⟩:=ob h;refine st E (d4 (k:=(aj .u8)) E rfl underlying24 sizeOf5 (ha1.mono hm5) ⟨_,rfl⟩ rfl hx40 (xl:=(some (.const (.int .i64 6)))) (xh:=none)) rfl ?_;rintro v42 a _ ⟨rfl,hv41⟩ E
 refine qA E rfl fun a E=>ag (ae (ae (ah (qM E rfl fun a E=>sp E (bd (k:=(aj .u8)) E rfl rfl underlying24 hv41) rfl fun a E=>qM E rfl fun a E=>qB E rfl rfl (bj rfl) fun a E=>qB E rfl rfl bG fun a E=> ?_))));refine ag (kif E rfl (fun hd49=> ?_) (fun hd49=> ?_))
 {
 have h:=aB hd49 h;refine ae (ah (qA E rfl fun a E=>qA E rfl fun a E=>qA E rfl fun a E=>ag (bH ?_)));obtain rfl:=oi h
 try dsimp only
 refine Fin.mk E (rs:=[.tmp 4,.tmp 5,.tmp 6]) rfl (re.tmp E rfl (re.tmp E rfl (re.tmp E rfl re.nil))) ?_;exact ⟨_,hm5,cs24,hS,hc25,_,_,_,rfl,(au (show inR .i64 0 from aw (by decide))),dB,dQ⟩}
 {
 have h:=aC hd49 h;refine aR (ae (ae (ah (qM E rfl fun a E=>qM E rfl fun a E=> ?_))));obtain ⟨x55,hx56,h⟩:=ob h;refine st E (d4 (k:=(aj .u8)) E rfl underlying24 sizeOf5 hv41 rfl ⟨_,rfl⟩ hx56 (xl:=none) (xh:=(some (.tmp 41)))) rfl ?_;rintro v58 a _ ⟨rfl,hv57⟩ E;refine sp E (bd (k:=(aj .u8)) E rfl rfl underlying24 hv57) rfl fun a E=>qM E rfl fun a E=>ag ?_;refine bJ (fun a w=> ∃x63:aH,iy x29 x39 x63=some r∧ ∃m',M.le m4 m'∧ ∃(cs64:List Value),∃(v66:Value),cd.R m' cs64 x63∧cs64[1]? =some v66∧S W0 m' w ((b0_,cs64)::L) ((1,v66)::TL)∧Env 83 a [(0,pz b0_),(1,v42),(7,.int .i64 (Z1.wrap x29))]) ?_ ?_
 {
 refine aO ?_;refine cU h (fun (s:Int×aH) a w=> ∃m',M.le m4 m'∧ ∃(cs308:List Value),∃(v310:Value),inR .i64 s.1∧cd.R m' cs308 s.2∧cs308[1]? =some v310∧S W0 m' w ((b0_,cs308)::L) ((1,v310)::TL)∧Env 83 a [(0,pz b0_),(1,v42),(7,.int .i64 (Z1.wrap x29)),(42,v58),(43,.int .i64 (x55.length:Int)),(44,.int .i64 s.1)]) ?_ ?_
 {exact ⟨_,(Z3 _),cs24,(.slice none 0 0),(show inR .i64 0 from aw (by decide)),hc25,(hk26 1 _ rfl (by decide)),(hS.tail0 1),kut E⟩}
 {
 rintro ⟨x305,x307⟩ a w ⟨m303,hm304,cs308,v310,hr306,hc309,hq311,hS,E⟩ r312 h hb313;have h:fW x29 x39 x55 x305 x307=some r312:=h;unfold fW at h;refine ae (ah (qB E rfl rfl bG fun a E=>ag (ae (kif E rfl (fun hd315=> ?_) (fun hd315=> ?_)))))
 {
 have h:=aB hd315 h;refine aR (ae (aO (ae (ah ?_))));obtain ⟨x316,hx317,h⟩:=ob h;refine st E (dv (k:=(aj .u8)) E rfl rfl underlying24 sizeOf5 (hv57.mono hm304) hx317) rfl ?_;rintro v319 a _ ⟨rfl,hp318⟩ E;refine st E (bq E hS ty5 rfl hp318) rfl ?_;rintro v321 a _ ⟨rfl,hv320⟩ E;obtain ⟨rfl,hr322⟩:=aI hv320
 refine qA E rfl fun a E=>ag (ah (qM E rfl fun a E=>qM E rfl fun a E=>sp E (ci E rfl) rfl fun a E=>sp E (aM E pD rfl) rfl fun a E=>sp E (uj (k:=(aj .i64)) (xx:=x307.fSort) (v:=v310) E hS wI rfl (i:=0) rfl (Am.R_drop (aP hc309)) hq311) rfl fun a E=>qM E rfl fun a E=>sp E (dA E rfl underlying5 underlying3 rfl) rfl fun a E=> ?_));refine st E (fm (k:=(aj .i64)) (xs:=[Z1.wrap x316]) (vs:=[(.int .i64 (Z1.wrap x316))]) E hS rfl underlying49 sizeOf3 zeroValue3 ⟨(au (am _ _)),trivial⟩ rfl (by decide)) rfl ?_;rintro v335 a w ⟨m333,hm334,hS,hv332⟩ E;obtain ⟨z336,hz337,h⟩:=ob h
 refine st E (ik (k:=(aj .i64)) (N:=17592186044416) E hS rfl rfl underlying49 underlying49 el3 (i:=1) rfl ((BE (k:=(aj .i64)) (Am.R_drop (aP hc309)) hq311).mono hm334) hv332 hz337 rfl rfl) rfl ?_;rintro v341 a w ⟨m339,hm340,hS,hv338⟩ E;refine sp E (ci E rfl) rfl fun a E=>sp E (aM E pD rfl) rfl fun a E=> ?_;refine st0 E (EO E hS wI Ez rfl rfl hv338 (i:=0) rfl (cd.mono (Z0 hm334 hm340) hc309)) ?_;rintro _ w ⟨cs344,hc345,hq346,hS⟩ E;refine ag (ah (qB E rfl rfl (bj rfl) fun a E=>qM E rfl fun a E=>ag ?_))
 exact ⟨(Z1.wrap (x305+1),{ x307 with fSort:=z336 }),(Option.some.inj h).symm,_,(Z0 hm304 (Z0 hm334 hm340)),cs344,v341,(am _ _),hc345,hq346,(hS.pickT 2 [1] rfl rfl rfl),kut E⟩}
 {have h:=aC hd315 h;refine cG rfl rfl ?_;have h:=bM h hb313;exact ⟨x307,h,_,hm304,cs308,v310,hc309,hq311,hS,kut E⟩}}}
 {
 rintro a w ⟨x63,h,m61,hm62,cs64,v66,hc65,hq67,hS,E⟩;unfold iy at h;refine ae (ah (qM E rfl fun a E=>qM E rfl fun a E=> ?_));obtain ⟨x71,hx72,h⟩:=ob h;refine st E (d4 (k:=(aj .u8)) E rfl underlying24 sizeOf5 (hv41.mono hm62) ⟨_,rfl⟩ rfl hx72 (xl:=(some (.tmp 61))) (xh:=none)) rfl ?_;rintro v74 a _ ⟨rfl,hv73⟩ E;obtain ⟨r75,hr76,h⟩:=ob h;refine st E (aG (vs:=[v74]) E rfl call82 (kM (hS:=hS) hv73 hr76)) rfl ?_;rintro v80 a w ⟨m77,hm78,hS,hv79⟩ E;obtain ⟨rfl,hr81⟩:=aI hv79;refine qA E rfl fun a E=>ag (ae ?_)
 refine bJ (fun a w=> ∃x85:Int,∃x87:(List Int),∃x90:Bool,fV x63 x85 x87 x90=some r∧ ∃m',M.le m77 m'∧ ∃(v88:Value),inR .i64 x85∧RV (kSl (aj .u8)) m' v88 x87∧S W0 m' w ((b0_,cs64)::L) ((1,v66)::TL)∧Env 83 a [(4,.int .i64 x85),(5,v88),(6,.bool x90)]) ?_ ?_
 {
 obtain ⟨x92,hx93,r98,hr99,h⟩:=ob2 h;rcases Z2 (r98==0) with hd104|hd104
 {
 have h:=aB hd104 h
 refine kch (k:=21) (m:=m77) (es:=[]) (Φ:=(fun i m ws v=>match i with|0=>ei .i64 r75 v|1=>v=v42|2=>ei .i64 (Z1.wrap x29) v|3=>ei .i64 (Z1.wrap ((Z1.wrap x29)+4)) v|4=>RV (kSl (aj .u8)) m v x92|5=>v=(pz b0_)|6=>v=(pz b0_)|7=>v=(pz b0_)|8=>ei .i64 x63.fColumns v|9=>v=(pz b0_)|10=>v=(pz b0_)|11=>v=(.pointer (some ⟨b0_,1,none⟩))|12=>v=v66|13=>ei .i64 r98 v|14=>v=(.bool (r98==0))|15=>v=(.bool (r98==0))|16=>ei .i64 r75 v|17=>v=(.bool (decide (r75≤4096)))|18=>v=(.bool (decide (r75≤4096)))|19=>ei .i64 r75 v|20=>RV (kSl (aj .u8)) m v x92|_=>True)) (Q:=(fun c m ws L' TL'=>match c with|0=>(b0_,cs64)::L=L'∧(1,v66)::TL=TL'|_=>False)) (cs:=[⟨0,0,false,[(10,.int .i64 r75)]⟩,⟨0,0,false,[(1,v42)]⟩,⟨0,0,false,[(7,.int .i64 (Z1.wrap x29))]⟩,⟨0,0,false,[]⟩,⟨0,0,false,[]⟩,⟨0,0,false,[(0,pz b0_)]⟩,⟨0,0,false,[]⟩,⟨0,0,false,[]⟩,⟨0,0,false,[]⟩,⟨0,0,false,[(0,pz b0_)]⟩,⟨0,0,false,[]⟩,⟨0,0,false,[]⟩,⟨0,0,false,[]⟩,⟨0,0,false,[]⟩,⟨0,0,false,[]⟩,⟨0,0,false,[]⟩,⟨0,0,false,[(10,.int .i64 r75)]⟩,⟨0,0,false,[]⟩,⟨0,0,false,[]⟩,⟨0,0,false,[]⟩,⟨0,0,false,[]⟩]) mixed E hS ⟨rfl,rfl⟩ rfl rfl (by kernel_rfl) ?_ ?_ ?_ ?_
 {
 intro i m_ m2_ ws v n_ q_
 iterate 21 (rcases i with _|i;first|exact q_|exact RV.mono q_ n_)
 exact trivial}
 {
 intro c m_ m2_ ws L_ T_ n_ hq_
 match c,hq_ with
 |0,⟨e1_,e2_⟩=>exact ⟨e1_,e2_⟩
 |_+1,hq_=>exact hq_.elim}
 {
 refine ⟨?_,?_,?_,?_,?_,?_,?_,?_,?_,?_,?_,?_,?_,?_,?_,?_,?_,?_,?_,?_,?_,trivial⟩
 {exact cmv fun _ _=>⟨rfl,hr81⟩}
 {exact cmv fun _ _=>rfl}
 {exact cmv fun _ _=>⟨rfl,(am _ _)⟩}
 {refine cp0 fun _ _ _ _ _ _ _ _ _ Z' E' T'=> ?_;have E:=E'.add (T' 2).1;exact cq (aQ E rfl rfl (bj rfl)) Z' ⟨rfl,(am _ _)⟩}
 {refine cp0 fun _ _ _ _ _ _ _ M' _ Z' E' T'=> ?_;have E:=(E'.add (T' 1)).add (T' 3).1;exact cr (d4 (k:=(aj .u8)) E rfl underlying24 sizeOf5 (hv41.mono (Z0 hm62 (Z0 hm78 M'))) ⟨_,rfl⟩ rfl hx93 (xl:=(some (.tmp 67))) (xh:=none)) Z' fun _ h=>h}
 {exact cmv fun _ _=>rfl}
 {refine cp0 fun _ _ _ _ _ _ _ _ _ Z' E' T'=> ?_;have E:=E'.add (T' 5);exact cq (ci E rfl) Z' rfl}
 {refine cp0 fun _ _ _ _ _ _ _ _ _ Z' E' T'=> ?_;have E:=E'.add (T' 6);exact cq (aM E oh rfl) Z' rfl}
 {refine cp1 fun _ _ _ _ _ M' Q' Z' E' T'=> ?_;obtain ⟨rfl,rfl⟩:=Q';have E:=E'.add (T' 7);exact cr (az E Z' ty3 rfl (i:=0) rfl (Ex.R_drop (aP (cd.mono (Z0 hm78 M') hc65)))) Z' fun _ h=>aI h}
 {exact cmv fun _ _=>rfl}
 {refine cp0 fun _ _ _ _ _ _ _ _ _ Z' E' T'=> ?_;have E:=E'.add (T' 9);exact cq (ci E rfl) Z' rfl}
 {refine cp0 fun _ _ _ _ _ _ _ _ _ Z' E' T'=> ?_;have E:=E'.add (T' 10);exact cq (aM E pD rfl) Z' rfl}
 {refine cp1 fun _ _ _ _ _ M' Q' Z' E' T'=> ?_;obtain ⟨rfl,rfl⟩:=Q';have E:=E'.add (T' 11);exact cq (uj (k:=(aj .i64)) (xx:=x63.fSort) (v:=v66) E Z' wI rfl (i:=0) rfl (Am.R_drop (aP (cd.mono (Z0 hm78 M') hc65))) hq67) Z' rfl}
 {refine cp0 fun _ _ _ _ _ _ _ M' _ Z' E' T'=> ?_;obtain ⟨q150,hr151⟩:=T' 8;have E:=(E'.add q150).add (T' 12);refine be.imp (aG (vs:=[(.int .i64 x63.fColumns),v66,(.slice none 0 0)]) E rfl call74 (jR (hS:=Z') hr151 ((BE (k:=(aj .i64)) (Am.R_drop (aP (cd.mono hm78 hc65))) hq67).mono M') dB hr99)) ?_;rintro v155 w ⟨m100,hm101,hS,hv102⟩;obtain ⟨rfl,hr156⟩:=aI hv102;exact ⟨_,hm101,hS,⟨rfl,hr156⟩⟩}
 {refine cp0 fun _ _ _ _ _ _ _ _ _ Z' E' T'=> ?_;have E:=E'.add (T' 13).1;exact cq (aQ E rfl rfl gh) Z' rfl}
 {refine cp0 fun _ _ _ _ _ _ _ _ _ Z' E' T'=> ?_;have E:=E'.add (T' 14);exact cq (gm E rfl) Z' rfl}
 {exact cgm (gz hd104) (fun _ _=>⟨rfl,hr81⟩)}
 {refine cg0 (gz hd104) fun _ _ _ _ _ _ _ _ _ Z' E' T'=> ?_;have E:=E'.add (T' 16).1;exact cq (aQ E rfl rfl Bx) Z' rfl}
 {refine cp0 fun _ _ _ _ _ _ _ _ _ Z' E' T'=> ?_;have E:=(E'.add (T' 15)).add (T' 17);exact cq (tJ E rfl hd104 rfl) Z' rfl}
 {refine cp0 fun _ _ _ _ _ _ _ _ _ Z' E' T'=> ?_;obtain ⟨q181,hr182⟩:=T' 0;have E:=E'.add q181;exact cq (lJ E rfl) Z' ⟨rfl,hr182⟩}
 {refine cp0 fun _ _ _ m' a' _ _ _ _ Z' E' T'=> ?_;obtain ⟨v184,E,q186⟩:=adv E' (T' 4);exact cq (lJ E rfl) Z' q186}}
 {intro ws_ L_ T_ m188 a w hl189 hm190 hq191 hS hd192 hn193 ho194 hT195;obtain rfl:=dD hl189;obtain ⟨rfl,rfl⟩:=hq191;have E:=eof 21 [(0,pz b0_),(1,v42),(7,.int .i64 (Z1.wrap x29)),(10,.int .i64 r75),(60,v42),(61,.int .i64 (Z1.wrap x29)),(62,v74),(63,.int .i64 r75)] hd192 hn193 ho194;have E:=E.add (hT195 18);obtain ⟨q201,hr202⟩:=hT195 19;have E:=E.add q201;obtain ⟨v203,E,q205⟩:=adv E (hT195 20);refine qA E rfl fun a E=>ag ?_;exact ⟨r75,x92,(decide (r75≤4096)),h,_,hm190,v203,hr202,q205,hS,kut E⟩}}
 {
 have h:=aC hd104 h
 refine kch (k:=21) (m:=m77) (es:=[]) (Φ:=(fun i m ws v=>match i with|0=>ei .i64 r75 v|1=>v=v42|2=>ei .i64 (Z1.wrap x29) v|3=>ei .i64 (Z1.wrap ((Z1.wrap x29)+4)) v|4=>RV (kSl (aj .u8)) m v x92|5=>v=(pz b0_)|6=>v=(pz b0_)|7=>v=(pz b0_)|8=>ei .i64 x63.fColumns v|9=>v=(pz b0_)|10=>v=(pz b0_)|11=>v=(.pointer (some ⟨b0_,1,none⟩))|12=>v=v66|13=>ei .i64 r98 v|14=>v=(.bool (r98==0))|15=>v=(.bool (r98==0))|16=>v=undef|17=>v=undef|18=>v=(.bool false)|19=>ei .i64 r75 v|20=>RV (kSl (aj .u8)) m v x92|_=>True)) (Q:=(fun c m ws L' TL'=>match c with|0=>(b0_,cs64)::L=L'∧(1,v66)::TL=TL'|_=>False)) (cs:=[⟨0,0,false,[(10,.int .i64 r75)]⟩,⟨0,0,false,[(1,v42)]⟩,⟨0,0,false,[(7,.int .i64 (Z1.wrap x29))]⟩,⟨0,0,false,[]⟩,⟨0,0,false,[]⟩,⟨0,0,false,[(0,pz b0_)]⟩,⟨0,0,false,[]⟩,⟨0,0,false,[]⟩,⟨0,0,false,[]⟩,⟨0,0,false,[(0,pz b0_)]⟩,⟨0,0,false,[]⟩,⟨0,0,false,[]⟩,⟨0,0,false,[]⟩,⟨0,0,false,[]⟩,⟨0,0,false,[]⟩,⟨0,0,false,[]⟩,⟨0,0,false,[(10,.int .i64 r75)]⟩,⟨0,0,false,[]⟩,⟨0,0,false,[]⟩,⟨0,0,false,[]⟩,⟨0,0,false,[]⟩]) mixed E hS ⟨rfl,rfl⟩ rfl rfl (by kernel_rfl) ?_ ?_ ?_ ?_
 {
 intro i m_ m2_ ws v n_ q_
 iterate 21 (rcases i with _|i;first|exact q_|exact RV.mono q_ n_)
 exact trivial}
 {
 intro c m_ m2_ ws L_ T_ n_ hq_
 match c,hq_ with
 |0,⟨e1_,e2_⟩=>exact ⟨e1_,e2_⟩
 |_+1,hq_=>exact hq_.elim}
 {
 refine ⟨?_,?_,?_,?_,?_,?_,?_,?_,?_,?_,?_,?_,?_,?_,?_,?_,?_,?_,?_,?_,?_,trivial⟩
 {exact cmv fun _ _=>⟨rfl,hr81⟩}
 {exact cmv fun _ _=>rfl}
 {exact cmv fun _ _=>⟨rfl,(am _ _)⟩}
 {refine cp0 fun _ _ _ _ _ _ _ _ _ Z' E' T'=> ?_;have E:=E'.add (T' 2).1;exact cq (aQ E rfl rfl (bj rfl)) Z' ⟨rfl,(am _ _)⟩}
 {refine cp0 fun _ _ _ _ _ _ _ M' _ Z' E' T'=> ?_;have E:=(E'.add (T' 1)).add (T' 3).1;exact cr (d4 (k:=(aj .u8)) E rfl underlying24 sizeOf5 (hv41.mono (Z0 hm62 (Z0 hm78 M'))) ⟨_,rfl⟩ rfl hx93 (xl:=(some (.tmp 67))) (xh:=none)) Z' fun _ h=>h}
 {exact cmv fun _ _=>rfl}
 {refine cp0 fun _ _ _ _ _ _ _ _ _ Z' E' T'=> ?_;have E:=E'.add (T' 5);exact cq (ci E rfl) Z' rfl}
 {refine cp0 fun _ _ _ _ _ _ _ _ _ Z' E' T'=> ?_;have E:=E'.add (T' 6);exact cq (aM E oh rfl) Z' rfl}
 {refine cp1 fun _ _ _ _ _ M' Q' Z' E' T'=> ?_;obtain ⟨rfl,rfl⟩:=Q';have E:=E'.add (T' 7);exact cr (az E Z' ty3 rfl (i:=0) rfl (Ex.R_drop (aP (cd.mono (Z0 hm78 M') hc65)))) Z' fun _ h=>aI h}
 {exact cmv fun _ _=>rfl}
 {refine cp0 fun _ _ _ _ _ _ _ _ _ Z' E' T'=> ?_;have E:=E'.add (T' 9);exact cq (ci E rfl) Z' rfl}
 {refine cp0 fun _ _ _ _ _ _ _ _ _ Z' E' T'=> ?_;have E:=E'.add (T' 10);exact cq (aM E pD rfl) Z' rfl}
 {refine cp1 fun _ _ _ _ _ M' Q' Z' E' T'=> ?_;obtain ⟨rfl,rfl⟩:=Q';have E:=E'.add (T' 11);exact cq (uj (k:=(aj .i64)) (xx:=x63.fSort) (v:=v66) E Z' wI rfl (i:=0) rfl (Am.R_drop (aP (cd.mono (Z0 hm78 M') hc65))) hq67) Z' rfl}
 {refine cp0 fun _ _ _ _ _ _ _ M' _ Z' E' T'=> ?_;obtain ⟨q252,hr253⟩:=T' 8;have E:=(E'.add q252).add (T' 12);refine be.imp (aG (vs:=[(.int .i64 x63.fColumns),v66,(.slice none 0 0)]) E rfl call74 (jR (hS:=Z') hr253 ((BE (k:=(aj .i64)) (Am.R_drop (aP (cd.mono hm78 hc65))) hq67).mono M') dB hr99)) ?_;rintro v257 w ⟨m100,hm101,hS,hv102⟩;obtain ⟨rfl,hr258⟩:=aI hv102;exact ⟨_,hm101,hS,⟨rfl,hr258⟩⟩}
 {refine cp0 fun _ _ _ _ _ _ _ _ _ Z' E' T'=> ?_;have E:=E'.add (T' 13).1;exact cq (aQ E rfl rfl gh) Z' rfl}
 {refine cp0 fun _ _ _ _ _ _ _ _ _ Z' E' T'=> ?_;have E:=E'.add (T' 14);exact cq (gm E rfl) Z' rfl}
 {exact csk (gz hd104)}
 {exact csk (gz hd104)}
 {refine cp0 fun _ _ _ _ _ _ _ _ _ Z' E' T'=> ?_;have E:=(E'.add (T' 15)).add (T' 17);exact cq (tK E rfl hd104 rfl) Z' rfl}
 {refine cp0 fun _ _ _ _ _ _ _ _ _ Z' E' T'=> ?_;obtain ⟨q277,hr278⟩:=T' 0;have E:=E'.add q277;exact cq (lJ E rfl) Z' ⟨rfl,hr278⟩}
 {refine cp0 fun _ _ _ m' a' _ _ _ _ Z' E' T'=> ?_;obtain ⟨v280,E,q282⟩:=adv E' (T' 4);exact cq (lJ E rfl) Z' q282}}
 {intro ws_ L_ T_ m284 a w hl285 hm286 hq287 hS hd288 hn289 ho290 hT291;obtain rfl:=dD hl285;obtain ⟨rfl,rfl⟩:=hq287;have E:=eof 21 [(0,pz b0_),(1,v42),(7,.int .i64 (Z1.wrap x29)),(10,.int .i64 r75),(60,v42),(61,.int .i64 (Z1.wrap x29)),(62,v74),(63,.int .i64 r75)] hd288 hn289 ho290;have E:=E.add (hT291 18);obtain ⟨q297,hr298⟩:=hT291 19;have E:=E.add q297;obtain ⟨v299,E,q301⟩:=adv E (hT291 20);refine qA E rfl fun a E=>ag ?_;exact ⟨r75,x92,false,h,_,hm286,v299,hr298,q301,hS,kut E⟩}}}
 {
 rintro a w ⟨x85,x87,x90,h,m83,hm84,v88,hr86,hv89,hS,E⟩;unfold fV at h;refine bH ?_;obtain rfl:=oi h
 try dsimp only
 refine Fin.mk E (rs:=[.tmp 4,.tmp 5,.tmp 6]) rfl (re.tmp E rfl (re.tmp E rfl (re.tmp E rfl re.nil))) ?_;exact ⟨_,(Z0 hm5 (Z0 hm62 (Z0 hm78 hm84))),cs64,(hS.dropT 1),(cd.mono (Z0 hm78 hm84) hc65),_,_,_,rfl,(au hr86),hv89,dQ⟩}}}}}
theorem OX:Ctr Sz prog 195 [.rd (.sl (.int .u8))] [.rd (.int .u64)] (fun x=>pQ x.1):=
 ncR [] [2] func195 ntmps195 (.s .o (.s .o (.s (.s .o (.b (.l ⟨[.v 3 1 (.dat (.int .u64) none),.v 5 1 (.dat (.int .i64) none)],[0],0,[]⟩ .o))) .o))) fun x=>by kernel_rfl
def OY:=mC OX call195
theorem OZ:Ctr Sz prog 183 [.rd (.sl (.int .u8))] [.rd (.st 32),.rd (.sl (.int .u8)),.rd .bool] (fun x=>sw x.1):=
 nxR [Ds,zp,Hu,Hv,OY] [.cell 2 32,.tmp 3,.tmp 4] func183 ntmps183 .o fun x=>by kernel_rfl
def O0:=mC OZ call183
theorem O1:Ctr Sz prog 163 [.rd (.sl (.int .u8))] [.rd (.sl (.st 32)),.rd (.int .i64)] (fun x=>lh x.1):=
 ncR [O0] [2,3] func163 ntmps163 (.s .o (.s .o (.s .o (.s .o (.s (.s .o (.b (.l ⟨[.v 0 1 (.dat (.sl (.int .u8)) none),.v 4 1 (.dat (.sl (.st 32)) (some 0)),.v 25 1 (.dat (.int .i64) none)],[24],0,[4]⟩ .o))) .o))))) fun x=>by kernel_rfl
def HH:=mC O1 call163
theorem O2:Ctr Sz prog 119 [.rd (.sl (.int .u8))] [.rd (.st 32),.rd (.sl (.int .u8)),.rd .bool] (fun x=>lj x.1):=
 nxR [HH] [.cell 2 32,.tmp 3,.tmp 4] func119 ntmps119 (.s .o (.s (.s .o (.b (.l ⟨[.v 5 1 (.dat (.int .i64) none)],[0,2],1,[]⟩ .o))) .o)) fun x=>by kernel_rfl
def O3:=mC O2 call119
theorem Q9:Ctr Sz prog 57 [.rd (.sl (.int .u8))] [.rd (.st 34),.rd (.sl (.int .u8)),.rd .bool] (fun x=>jt x.1):=
 nxR [O3] [.cell 2 34,.tmp 3,.tmp 4] func57 ntmps57 .o fun x=>by kernel_rfl
theorem Dz  (hS:S W0 m w L TL) {p0} (ha0:RV (kSl (aj .u8)) m v0 p0) {r} (h:jt p0=some r):
    Calls prog 57 [v0].toArray w (Ret fun v w'=> ∃m',M.le m m'∧S W0 m' w' L TL∧ ∃v0_ v1_ v2_:Value,v= .tuple #[v0_,v1_,v2_]∧RV cS m' v0_ r.1∧RV (kSl (aj .u8)) m' v1_ r.2.1∧RV cK m' v2_ r.2.2):=by
 refine rm (Q9 W0 m w L TL [v0] (p0,()) r [] [] hS ⟨ha0,trivial⟩ h) fun v w' he=> ?_;obtain ⟨m',us,Lr,Lq,Tr,hm,Z',rfl,hR,hO⟩:=he;obtain ⟨u0,us,rfl,r0,hR0⟩:=dn hR;obtain ⟨u1,us,rfl,r1,hR1⟩:=dn hR0;obtain ⟨u2,us,rfl,r2,hR2⟩:=dn hR1;obtain ⟨rfl,rfl,rfl⟩:=cz hR2;have hO0:=bQ hO;obtain rfl:=cA hO0;exact ⟨m',hm,Z',u0,u1,u2,rfl,r0,r1,r2⟩
theorem vm  (hS:S W0 m w L TL) {p0} (ha0:RV (kSl (aj .u8)) m v0 p0) {r} (h:jN p0=some r):
    Calls prog 60 [v0].toArray w (Ret fun v w'=> ∃m',M.le m m'∧S W0 m' w' L ((1,v)::TL)∧RV (kSl (aj .u8)) m' v r):=by
 refine kc func60 ntmps60 fun a E=> ?_;have E:Env 8 a [(0,v0)]:=E;unfold jN at h;refine ae (ah (qA E rfl fun a E=>ag (ae (ae (ah (qM E rfl fun a E=> ?_))))));refine st E (xQ (k:=(aj .u8)) E rfl rfl ha0 underlying24) rfl ?_;rintro v5 a _ ⟨rfl,bn3,rfl,hb4⟩ E;refine ag (kif E rfl (fun hd6=> ?_) (fun hd6=> ?_))
 {
 have hx_:=hb4 hd6;have h:some ([])=some r:=by rw [hx_] at h;exact h
 refine ae (ah (qA E rfl fun a E=>ag (bH ?_)));obtain rfl:=oi h
 try dsimp only
 refine f1 E ?_;exact ⟨_,(Z3 _),((hS.dropT 0).tail0 1),dB⟩}
 {
 refine aR (ae (ah ?_));refine st E (fm (k:=(aj .u8)) (xs:=[]) (vs:=[]) E hS rfl underlying24 sizeOf5 zeroValue5 trivial rfl (by decide)) rfl ?_;rintro v11 a w ⟨m9,hm10,hS,hv8⟩ E;refine qM E rfl fun a E=> ?_;obtain ⟨z13,hz14,h⟩:=ob h;refine st E (ik (k:=(aj .u8)) (N:=140737488355328) E hS rfl rfl underlying24 underlying24 el5 (i:=0) rfl hv8 (ha0.mono hm10) hz14 rfl rfl) rfl ?_;rintro v18 a w ⟨m16,hm17,hS,hv15⟩ E;refine qA E rfl fun a E=>ag (bH ?_);obtain rfl:=oi h
 try dsimp only
 refine f1 E ?_;exact ⟨_,(Z0 hm10 hm17),(hS.pickT 1 [0] rfl rfl rfl),hv15⟩}
theorem JJ:Ctr Sz prog 61 [.rd (.sl (.int .u8)),.rd (.sl (.int .u8))] [.rd .bool] (fun x=>fZ x.1 x.2.1):=
 ncR [] [4] func61 ntmps61 (.s .o (.s .o (.s (.s .o (.b (.l ⟨[.v 13 1 (.dat (.int .i64) none)],[0,1,12],0,[]⟩ .o))) .o))) fun x=>by kernel_rfl
def Ra:=mC JJ call61
theorem vn  (hS:S W0 m w L TL) {p0} (ha0:RV (kSl (aj .u8)) m v0 p0) {p1} (ha1:RV (kSl (aj .u8)) m v1 p1) {r} (h:fZ p0 p1=some r):
    Calls prog 61 [v0,v1].toArray w (Ret fun v w'=> ∃m',M.le m m'∧S W0 m' w' L TL∧RV cK m' v r):=by
 refine rm (JJ W0 m w L TL [v0,v1] (p0,p1,()) r [] [] hS ⟨ha0,⟨ha1,trivial⟩⟩ h) fun v w' he=> ?_;obtain ⟨m',us,Lr,Lq,Tr,hm,Z',rfl,hR,hO⟩:=he;obtain ⟨u0,us,rfl,r0,hR0⟩:=dn hR;obtain ⟨rfl,rfl,rfl⟩:=cz hR0;have hO0:=bQ hO;have hO1:=bQ hO0;obtain rfl:=cA hO1;exact ⟨m',hm,Z',r0⟩
theorem O4:Ctr Sz prog 164 [.pt (.st 161)] [.rd (.st 32)] (fun x=>dE x.1):=
 nxR [HH] [.cell 2 32] func164 ntmps164 (.s .o (.s (.s .o (.b (.l ⟨[.v 3 1 (.dat (.int .i64) none)],[0,2],2,[]⟩ .o))) .o)) fun x=>by kernel_rfl
def O5:=mC O4 call164
theorem HI:Ctr Sz prog 165 [.pt (.st 161),.rd (.int .i64)] [.rd (.sl (.int .u8))] (fun x=>cD x.1 x.2.1):=
 ncR [] [4] func165 ntmps165 .o fun x=>by kernel_rfl
def DA:=mC HI call165
theorem u4  {b0_:Nat} {c0_:List Value} (hS:S W0 m w ((b0_,c0_)::L) (TL)) {p0} (ha0:iK.R m c0_ p0) {p1} (ha1:inR .i64 p1) {r} (h:cD p0 p1=some r):
    Calls prog 165 [(pz b0_),(.int .i64 p1)].toArray w (Ret fun v w'=> ∃m',M.le m m'∧ ∃q0_:List Value,S W0 m' w' ((b0_,q0_)::L) (TL)∧iK.R m' q0_ r.2∧RV (kSl (aj .u8)) m' v r.1):=by
 refine rm (HI W0 m w L TL [(pz b0_),(.int .i64 p1)] (p0,p1,()) r [(b0_,c0_)] [] hS ⟨ha0,rfl,⟨au ha1,trivial⟩⟩ h) fun v w' he=> ?_;obtain ⟨m',us,Lr,Lq,Tr,hm,Z',rfl,hR,hO⟩:=he;obtain ⟨u0,us,rfl,r0,hR0⟩:=dn hR;obtain ⟨rfl,rfl,rfl⟩:=cz hR0;obtain ⟨q0_,Lq,rfl,o0,hO0⟩:=PE hO;have hO1:=bQ hO0;obtain rfl:=cA hO1;exact ⟨m',hm,q0_,Z',o0,r0⟩
theorem O6:Ctr Sz prog 196 [.rd (.int .u32),.rd (.int .u32)] [.rd (.int .u32),.rd (.int .u32)] (fun x=>Fb x.1 x.2.1):=
 ncR [] [4,5] func196 ntmps196 .o fun x=>by kernel_rfl
def O7:=mC O6 call196
theorem O8:Ctr Sz prog 197 [.rd (.int .u64),.rd (.int .u64)] [.rd (.int .u64),.rd (.int .u64)] (fun x=>qI x.1 x.2.1):=
 ncR [] [4,5] func197 ntmps197 .o fun x=>by kernel_rfl
def O9:=mC O8 call197
theorem Pa:Ctr Sz prog 184 [.rd (.int .u64),.rd (.int .u64)] [.rd (.int .u64),.rd (.int .u64)] (fun x=>uC x.1 x.2.1):=
 ncR [O7,O9] [4,5] func184 ntmps184 .o fun x=>by kernel_rfl
theorem FR  (hS:S W0 m w L TL) {p0} (ha0:inR .u64 p0) {p1} (ha1:inR .u64 p1) {r} (h:uC p0 p1=some r):
    Calls prog 184 [(.int .u64 p0),(.int .u64 p1)].toArray w (Ret fun v w'=> ∃m',M.le m m'∧S W0 m' w' L TL∧ ∃v0_ v1_:Value,v= .tuple #[v0_,v1_]∧RV (aj .u64) m' v0_ r.1∧RV (aj .u64) m' v1_ r.2):=by
 refine rm (Pa W0 m w L TL [(.int .u64 p0),(.int .u64 p1)] (p0,p1,()) r [] [] hS ⟨au ha0,⟨au ha1,trivial⟩⟩ h) fun v w' he=> ?_;obtain ⟨m',us,Lr,Lq,Tr,hm,Z',rfl,hR,hO⟩:=he;obtain ⟨u0,us,rfl,r0,hR0⟩:=dn hR;obtain ⟨u1,us,rfl,r1,hR1⟩:=dn hR0;obtain ⟨rfl,rfl,rfl⟩:=cz hR1;have hO0:=bQ hO;have hO1:=bQ hO0;obtain rfl:=cA hO1;exact ⟨m',hm,Z',u0,u1,rfl,r0,r1⟩
theorem uc  (hS:S W0 m w L TL) {p0} (ha0:RV (kSl kAp) m v0 p0) {p1} (ha1:inR .i64 p1) {r} (h:eQ p0 p1=some r):
    Calls prog 166 [v0,(.int .i64 p1)].toArray w (Ret fun v w'=> ∃m',M.le m m'∧S W0 m' w' L TL∧RV (kSl kAp) m' v r):=by
 refine kc func166 ntmps166 fun a E=> ?_;have E:Env 48 a [(0,v0),(1,.int .i64 p1)]:=E;unfold eQ at h;refine ae (ah (qA E rfl fun a E=>ag (ae (ae (ah (qM E rfl fun a E=>qB E rfl rfl bG fun a E=>ag ?_))))));refine bJ (fun a w=>gI p0 p1=some r∧ ∃m',M.le m m'∧S W0 m' w L TL∧Env 48 a [(0,v0),(1,.int .i64 p1)]) ?_ ?_
 {
 refine kif E rfl (fun hd143=> ?_) (fun hd143=> ?_)
 {have h:=aB hd143 h;cases h}
 {have h:=aC hd143 h;refine aR ?_;exact ⟨h,_,(Z3 _),hS,kut E⟩}}
 {
 rintro a w ⟨h,m4,hm5,hS,E⟩;unfold gI at h;refine ae (ah (qM E rfl fun a E=>sp E (bd (k:=kAp) E rfl rfl underlying22 (ha0.mono hm5)) rfl fun a E=>sp E (dA E rfl underlying3 underlying94 rfl) rfl fun a E=>qM E rfl fun a E=>sp E (dA E rfl underlying3 underlying94 rfl) rfl fun a E=> ?_));obtain ⟨r12,hr13,h⟩:=ob h;refine st E (aG (vs:=[(.int .u64 (Z6.wrap (p0.length:Int))),(.int .u64 (Z6.wrap p1))]) E rfl call184 (FR (hS:=hS) (am _ _) (am _ _) hr13)) rfl ?_;rintro _ a w ⟨m14,hm15,hS,v0_16,v1_17,rfl,hv0_18,hv1_19⟩ E;obtain ⟨rfl,hr21⟩:=aI hv0_18;obtain ⟨rfl,hr22⟩:=aI hv1_19
 refine qM E rfl fun a E=>sp E (bX E rfl rfl) rfl fun a E=>sp E (bX E rfl rfl) rfl fun a E=>qA E rfl fun a E=>qA E rfl fun a E=>ag (ae (ae ?_));refine bJ (fun a w=> ∃x30:Bool,eU p0 r12 x30=some r∧ ∃m',M.le m14 m'∧S W0 m' w L TL∧Env 48 a [(0,v0),(6,.int .u64 r12.2),(26,.bool x30)]) ?_ ?_
 {
 refine ah (qM E rfl fun a E=>qB E rfl rfl g7 fun a E=>qM E rfl fun a E=> ?_);rcases Z2 (decide (0<r12.1)) with hd138|hd138
 {have h:=aB hd138 h;refine qX E hd138 fun a E=>qX E hd138 fun a E=>qT E hd138 rfl fun a E=>ag ?_;exact ⟨true,h,_,(Z3 _),hS,kut E⟩}
 {have h:=aC hd138 h;refine qG E hd138 rfl fun a E=>spg E rfl rfl rfl rfl hd138 (aQ E rfl rfl g7) rfl fun a E=>qF E hd138 rfl fun a E=>ag ?_;exact ⟨(decide (9223372036854775807<r12.2)),h,_,(Z3 _),hS,kut E⟩}}
 {
 rintro a w ⟨x30,h,m28,hm29,hS,E⟩;unfold eU at h;refine bJ (fun a w=>gH p0 r12=some r∧ ∃m',M.le m28 m'∧S W0 m' w L TL∧Env 48 a [(0,v0),(6,.int .u64 r12.2)]) ?_ ?_
 {
 refine kif E rfl (fun hd134=> ?_) (fun hd134=> ?_)
 {have h:=aB hd134 h;cases h}
 {have h:=aC hd134 h;refine aR ?_;exact ⟨h,_,(Z3 _),hS,kut E⟩}}
 {
 rintro a w ⟨h,m32,hm33,hS,E⟩;unfold gH at h;refine ae (ah (qM E rfl fun a E=>sp E (dA E rfl underlying94 underlying3 rfl) rfl fun a E=> ?_));obtain ⟨z37,hz38,h⟩:=ob h;refine st E (rf (k:=kAp) (m:=m32) E hS rfl rfl underlying22 type32 rfl rfl rfl (fun m=>pC m) hz38 rfl rfl) rfl ?_;rintro v42 a w ⟨b39,cs40,hc41,hS⟩ E;refine qA E rfl fun a E=>ag (ae (ah (qM E rfl fun a E=>qM E rfl fun a E=> ?_)));refine st E (B7 (k:=kAp) E hS rfl rfl underlying22 sizeOf32 (i:=0) rfl hc41 (ha0.mono (Z0 hm5 (Z0 hm15 (Z0 hm29 hm33))))) rfl ?_;rintro v48 a _ ⟨rfl,cs46,hc47,hS⟩ E;refine qA E rfl fun a E=>ag (ae ?_)
 refine bJ (fun a w=> ∃x52:(List Ap),gF x52=some r∧ ∃m',M.le m32 m'∧ ∃(v53:Value),RV (kSl kAp) m' v53 x52∧S W0 m' w L TL∧Env 48 a [(7,v53)]) ?_ ?_
 {
 refine aO ?_;refine cU h (fun (s:Int×List Ap) a w=> ∃m',M.le m32 m'∧ ∃(cs63:List Value),inR .i64 s.1∧GS kAp m' b39 cs63 v42 s.2∧S W0 m' w ((b39,cs63)::L) (TL)∧Env 48 a [(7,v42),(8,.int .i64 s.1)]) ?_ ?_
 {exact ⟨_,(Z3 _),cs46,(dM (Nat.le_trans (Nat.min_le_right _ _) (GS.len hc41))),hc47,hS,kut E⟩}
 {
 rintro ⟨x60,x62⟩ a w ⟨m58,hm59,cs63,hr61,hc64,hS,E⟩ r65 h hb66;have h:gG x60 x62=some r65:=h;unfold gG at h;refine ae (ae (ah (qM E rfl fun a E=>qM E rfl fun a E=>sp E (ov (k:=kAp) E rfl rfl underlying22 hc64) rfl fun a E=>qB E rfl rfl bG fun a E=>ag (kif E rfl (fun hd71=> ?_) (fun hd71=> ?_)))))
 {
 have h:=aB hd71 h;refine aR (aO ?_);obtain ⟨q73,hq74,q76,hq77,h⟩:=ob2 h;obtain ⟨u82,hu83,z80,hz81,h⟩:=ob2 h
 refine kch (k:=8) (m:=m58) (es:=[7]) (Φ:=(fun i m ws v=>match i with|0=>ei .i64 x60 v|1=>v=v42|2=>ei .i64 x60 v|3=>VS b39 4 v q73.1 q73.2|4=>v=v42|5=>ei .i64 x60 v|6=>VS b39 4 v q76.1 q76.2|7=>ei .i64 ((min q76.2 q73.2:Nat):Int) v|_=>True)) (Q:=(fun c m ws L' TL'=>match c with|0=>(b39,cs63)::L=L'∧TL=TL'|1=>(b39,(wi ws 0).c)::L=L'∧TL=TL'∧GS kAp m b39 (wi ws 0).c v42 z80|_=>False)) (cs:=[⟨0,1,false,[(8,.int .i64 x60)]⟩,⟨0,0,false,[(7,v42)]⟩,⟨0,0,false,[(8,.int .i64 x60)]⟩,⟨0,0,false,[]⟩,⟨0,0,false,[(7,v42)]⟩,⟨0,0,false,[(8,.int .i64 x60)]⟩,⟨0,0,false,[]⟩,⟨0,0,true,[]⟩]) mixed E hS ⟨rfl,rfl⟩ rfl rfl (by kernel_rfl) ?_ ?_ ?_ ?_
 {
 intro i m_ m2_ ws v n_ q_
 iterate 8 (rcases i with _|i;exact q_)
 exact trivial}
 {
 intro c m_ m2_ ws L_ T_ n_ hq_
 match c,hq_ with
 |0,⟨e1_,e2_⟩=>exact ⟨e1_,e2_⟩
 |1,⟨e1_,e2_,f0_⟩=>exact ⟨e1_,e2_,(GS.mono f0_ n_)⟩
 |_+2,hq_=>exact hq_.elim}
 {
 refine ⟨?_,?_,?_,?_,?_,?_,?_,?_,trivial⟩
 {exact cmv fun _ _=>⟨rfl,hr61⟩}
 {exact cmv fun _ _=>rfl}
 {exact cmv fun _ _=>⟨rfl,hr61⟩}
 {refine cp1 fun _ _ _ _ _ M' Q' Z' E' T'=> ?_;obtain ⟨rfl,rfl⟩:=Q';have E:=(E'.add (T' 1)).add (T' 2).1;exact cr (ui (k:=kAp) E rfl underlying22 sizeOf32 (hc64.mono M') ⟨_,rfl⟩ rfl hq74 (sz:=4) rfl (xl:=(some (.tmp 40))) (xh:=none)) Z' fun _ h=>h}
 {exact cmv fun _ _=>rfl}
 {exact cmv fun _ _=>⟨rfl,hr61⟩}
 {refine cp1 fun _ _ _ _ _ M' Q' Z' E' T'=> ?_;obtain ⟨rfl,rfl⟩:=Q';have E:=(E'.add (T' 4)).add (T' 5).1;exact cr (ui (k:=kAp) E rfl underlying22 sizeOf32 (hc64.mono M') rfl ⟨_,rfl⟩ hq77 (sz:=4) rfl (xl:=none) (xh:=(some (.tmp 43)))) Z' fun _ h=>h}
 {
 refine pI fun pre_ L_ T_ m' a' w' hl' M' Q' Z' E' T'=> ?_;obtain rfl:=dD hl';obtain ⟨rfl,rfl⟩:=Q';obtain ⟨v106,e107,q108⟩: ∃v,a'.tmps.getD 41 undef=v∧(VS b39 4 v q73.1 q73.2):=⟨_,rfl,T' 3 (by decide) 41 rfl⟩
 have E:=E'.add (e107);obtain ⟨v109,e110,q111⟩: ∃v,a'.tmps.getD 44 undef=v∧(VS b39 4 v q76.1 q76.2):=⟨_,rfl,T' 6 (by decide) 44 rfl⟩
 have E:=E.add (e110);refine be.imp (F5 (k:=kAp) E Z' rfl rfl underlying22 sizeOf32 (i:=0) rfl (hc64.mono M') q108 q111 hz81) ?_;rintro _ w ⟨rfl,cs78,hc79,hS⟩;exact ⟨_,⟨0,undef,cs78,[],[]⟩,_,_,Z3 _,hS,⟨rfl,rfl,hc79⟩,⟨rfl,(dM (Z4 (jC hu83)))⟩⟩}}
 {intro ws_ L_ T_ m112 a w hl113 hm114 hq115 hS hd116 hn117 ho118 hT119;obtain ⟨⟨_,_,cs78,_,_⟩,rfl⟩:=sW hl113;obtain ⟨rfl,rfl,hc120⟩:=hq115;have E:=eof 8 [(7,v42),(8,.int .i64 x60),(34,.int .i64 x60),(35,v42),(36,.int .i64 (x62.length:Int)),(37,.bool (decide (x60<(x62.length:Int))))] hd116 hn117 ho118;have E:=(E.add (hT119 0).1).add (hT119 7).1;refine qB E rfl rfl (bj rfl) fun a E=>qA E rfl fun a E=>ag ?_;exact ⟨(Z1.wrap (x60+((min q76.2 q73.2:Nat):Int)),z80),(Option.some.inj h).symm,_,(Z0 hm59 hm114),cs78,(am _ _),hc120,hS,kut E⟩}}
 {have h:=aC hd71 h;obtain ⟨m131,hm132,hS,hv133⟩:=S.freeze hS hc64;refine cG rfl rfl ?_;have h:=bM h hb66;exact ⟨x62,h,_,(Z0 hm59 hm132),v42,hv133,hS,kut E⟩}}}
 {
 rintro a w ⟨x52,h,m50,hm51,v53,hv54,hS,E⟩;unfold gF at h;refine ae (ah (qM E rfl fun a E=>qA E rfl fun a E=>ag (bH ?_)));obtain rfl:=oi h
 try dsimp only
 refine f1 E ?_;exact ⟨_,(Z0 hm5 (Z0 hm15 (Z0 hm29 (Z0 hm33 hm51)))),hS,hv54⟩}}}}
theorem Pb:Ctr Sz prog 166 [.rd (.sl (.st 32)),.rd (.int .i64)] [.rd (.sl (.st 32))] (fun x=>eQ x.1 x.2.1):=by
 intro W0 m w L TL vs x r Lp Tp hS hP h;obtain ⟨v0,vs,rfl,a0,hP0⟩:=hU hP;obtain ⟨v1,vs,rfl,a1,hP1⟩:=hU hP0;obtain ⟨rfl,n1⟩:=aI a1;obtain ⟨rfl,rfl,rfl⟩:=kP hP1;refine rm (uc (hS:=hS) a0 n1 h) fun v w' he=> ?_;obtain ⟨m',hm,Z',r0⟩:=he;exact ⟨m',[v],[],[],[],hm,Z',rfl,⟨r0,trivial⟩,trivial⟩
def Pc:=mC Pb call166
theorem Pd:Ctr Sz prog 167 [.pt (.st 161)] [.rd (.int .u64)] (fun x=>fS x.1):=
 ncR [DA] [2] func167 ntmps167 (.s .o (.s .o (.s (.s .o (.b (.l ⟨[.v 3 1 (.dat (.int .u64) none),.v 9 1 (.dat (.int .i64) none)],[7,8],1,[]⟩ .o))) .o))) fun x=>by kernel_rfl
def Pe:=mC Pd call167
theorem Pf:Ctr Sz prog 168 [.pt (.st 161)] [.rd (.int .u64)] (fun x=>eR x.1):=
 ncR [DA] [2] func168 ntmps168 (.s .o (.s .o (.s (.s .o (.b (.l ⟨[.v 3 1 (.dat (.int .u64) none),.v 4 1 (.dat (.int .i64) none),.b 0 1 (.st 161)],[0],1,[]⟩ .o))) .o))) fun x=>by kernel_rfl
def Pg:=mC Pf call168
end
end Go.Proofs.YthbonoagbeilkaaGreat.Hay
