import Derived.Test.YthbonoagbeilkaaGreatHbkC1
set_option maxRecDepth 100000
set_option maxHeartbeats 4000000
set_option linter.unusedVariables false
namespace Go.Proofs.YthbonoagbeilkaaGreat.Hay
open Nat renaming le_of_ble_eq_true→Z4
open Bool renaming eq_false_or_eq_true→Z2
open M.le renaming trans→Z0,refl→Z3
open IntKind renaming i64→Z1,u8→Z5,u64→Z6
open Go.Proofs Tryz
noncomputable section
variable {W0:Bse}{m:M}{w:World}{L:List (Nat×List Value)}{TL:List (Nat×Value)}{v0 v1 v2 v3 v4 v5 v6 v7 v8 v9:Value}
theorem DN  (hS:S W0 m w L ((1,v0)::TL)) {p0} (ha0:RV (kSl (ai .u8)) m v0 p0) {p1} (ha1:inR .u64 p1) {r} (h:mr p0 p1=some r):
    Calls prog 182 [v0,(.int .u64 p1)].toArray w (Ret λv w'=>∃m',M.le m m'∧S W0 m' w' L ((1,v)::TL)∧RV (kSl (ai .u8)) m' v r):=by
 refine kc func182 ntmps182 λa E=>?_;have E:Env 22 a [(0,v0),(1,.int .u64 p1)]:=E;unfold mr at h;refine ae (ah (qA E rfl λa E=>ag (ae (ah ?_))));refine st E (dS hS zeroValue224 rfl (cs:=F3)) rfl ?_;rintro _ a w ⟨b2,rfl,hS⟩ E;refine ag (ae (ae (ah (qM E rfl λa E=>ag ?_))));refine bw (λa w=>∃x7:(List Int),nL p0 x7=some r∧∃m',M.le m m'∧∃(cs8:List Value),GS (ai .u8) m' b2 cs8 (.slice (some ⟨b2,0,none⟩) 8 8) x7∧S W0 m' w ((b2,cs8)::L) ((1,v0)::TL)∧Env 22 a [(0,v0),(5,pz b2)]) ?_ ?_
 {
 refine aJ ?_;refine cH h (λ(s:Int×List Int) a w=>∃m',M.le m m'∧∃(cs25:List Value),inR .i64 s.1∧GS (ai .u8) m' b2 cs25 (.slice (some ⟨b2,0,none⟩) 8 8) s.2∧S W0 m' w ((b2,cs25)::L) ((1,v0)::TL)∧Env 22 a [(0,v0),(1,.int .u64 p1),(5,pz b2),(7,.int .i64 s.1)]) ?_ ?_
 {exact⟨_,(Z3 _),F3,(show inR .i64 0 from aw (by decide)),(PO _ _),hS,kut E⟩}
 {
 rintro ⟨x22,x24⟩ a w ⟨m20,hm21,cs25,hr23,hc26,hS,E⟩ r27 h hb28;have h:lp p0 p1 x22 x24=some r27:=h;unfold lp at h;refine ae (ah (qB E rfl rfl bn λa E=>ag (ae (kif E rfl (λhd30=>?_) (λhd30=>?_)))))
 {
 have h:=aA hd30 h;refine aQ (ae (aJ (ae (ah (qM E rfl λa E=>qA E rfl λa E=>ag (ah (qM E rfl λa E=>?_)))))));refine qM E rfl λa E=>qM E rfl λa E=>qB E rfl rfl (oI rfl) λa E=>qB E rfl rfl (dq rfl) λa E=>?_;obtain⟨u38,hu39,h⟩:=ob h;refine qB E rfl rfl (kg rfl (of_decide_eq_true (jd hu39))) λa E=>sp E (cl E rfl underlying54 underlying5 rfl) rfl λa E=>?_;obtain⟨j42,hj43,h⟩:=ob h;refine sp E (rz (k:=(ai .u8)) E rfl rfl underlying224 sizeOf5 (GS.arr_len hc26) hj43 rfl) rfl λa E=>?_;obtain⟨x47,hx48,h⟩:=ob h
 refine st0 E (ef (k:=(ai .u8)) E hS ty5 bm hc26 hx48 rfl rfl (aq (ak _ _)) (i:=0) rfl) ?_;rintro _ w ⟨cs45,hc46,hS⟩ E;refine ag (ah (qB E rfl rfl (be rfl) λa E=>qM E rfl λa E=>ag ?_));exact⟨(Z1.wrap (x22+1),(x24.set j42 (Z5.wrap (ay .u64 p1 (Z1.wrap (56 - (Z1.wrap (8*x22)))))))),(Option.some.inj h).symm,_,hm21,cs45,(ak _ _),hc46,hS,kut E⟩}
 {have h:=aB hd30 h;refine cC rfl rfl ?_;have h:=bE h hb28;exact⟨x24,h,_,hm21,cs25,hc26,hS,kut E⟩}}}
 {
 rintro a w ⟨x7,h,m5,hm6,cs8,hc9,hS,E⟩;unfold nL at h;refine ae (ah (qM E rfl λa E=>sp E (H9 (k:=(ai .u8)) E rfl underlying224 sizeOf5) rfl λa E=>?_));obtain⟨z13,hz14,h⟩:=ob h;refine st E (zX (k:=(ai .u8)) (N:=140737488355328) E hS rfl rfl underlying24 el5 (i:=0) rfl (ha0.mono hm6) (Eh hS underlying24 (i:=0) rfl hc9) hz14 rfl rfl) rfl ?_;rintro v18 a w ⟨m16,hm17,hS,hv15⟩ E;refine qA E rfl λa E=>ag (bA ?_);obtain rfl:=oi h
 try dsimp only
 refine f1 E ?_;exact⟨_,(Z0 hm6 hm17),((hS.dropL 1).pickT 1 [0] rfl rfl rfl),hv15⟩}
theorem Oo:Ctr Sz prog 182 [.ap (.int .u8),.rd (.int .u64)] [.ap (.int .u8)] (λx=>mr x.1 x.2.1):=by
 intro W0 m w L TL vs x r Lp Tp hS hP h;obtain⟨v0,vs,Tp,rfl,rfl,a0,hP0⟩:=Pr hP;obtain⟨v1,vs,rfl,a1,hP1⟩:=kN hP0;obtain⟨rfl,n1⟩:=aG a1;obtain⟨rfl,rfl,rfl⟩:=oL hP1;refine rm (DN (hS:=hS) a0 n1 h) λv w' he=>?_;obtain⟨m',hm,Z',r0⟩:=he;exact⟨m',[v],[],[],[(1,v)],hm,Z',rfl,⟨r0,rfl,trivial⟩,trivial⟩
def Oq:=mC Oo call182
theorem Ot:Ctr Sz prog 159 [.ap (.int .u8),.rd (.st 32)] [.ap (.int .u8)] (fun x=>uG x.1 x.2.1):=
 ncR [Oq] [4] func159 ntmps159 .o λx=>by kernel_rfl
def Ou:=mC Ot call159
theorem Ov:Ctr Sz prog 112 [.rd (.sl (.st 32))] [.rd (.sl (.int .u8)),.rd (.int .i64)] (fun x=>nf x.1):=
 ncR [On,Ou] [2,3] func112 ntmps112 (.s .o (.s .o (.s .o (.s (.s .o (.b (.l ⟨[.v 4 1 (.dat (.sl (.int .u8)) (some 0)),.v 16 1 (.dat (.int .i64) none)],[14,15],0,[1]⟩ .o))) .o)))) λx=>by kernel_rfl
def HR:=mC Ov call112
theorem HS:Ctr Sz prog 107 [.rd (.st 32)] [.rd (.sl (.int .u8))] (fun x=>kP x.1):=
 ncR [HR] [2] func107 ntmps107 .o λx=>by kernel_rfl
def Ow:=mC HS call107
theorem wY  (hS:S W0 m w L TL) {p0} (ha0:RV kAp m v0 p0) {r} (h:kP p0=some r):
    Calls prog 107 [v0].toArray w (Ret λv w'=>∃m',M.le m m'∧S W0 m' w' L TL∧RV (kSl (ai .u8)) m' v r):=by
 refine rm (HS W0 m w L TL [v0] (p0,()) r [] [] hS ⟨ha0,trivial⟩ h) λv w' he=>?_;obtain⟨m',us,Lr,Lq,Tr,hm,Z',rfl,hR,hO⟩:=he;obtain⟨u0,us,rfl,r0,hR0⟩:=dC hR;obtain⟨rfl,rfl,rfl⟩:=cE hR0;have hO0:=bT hO;obtain rfl:=cF hO0;exact⟨m',hm,Z',r0⟩
theorem Ox:Ctr Sz prog 103 [.rd (.sl (.st 32))] [.ap (.int .u8)] (fun x=>ng x.1):=
 ncR [Ow,Ol] [2] func103 ntmps103 (.s .o (.s .o (.s (.s .o (.b (.l ⟨[.v 3 1 (.dat (.sl (.int .u8)) (some 0)),.v 9 1 (.dat (.int .i64) none)],[7,8],0,[1]⟩ .o))) .o))) λx=>by kernel_rfl
theorem BU  (hS:S W0 m w L TL) {p0} (ha0:RV (kSl kAp) m v0 p0) {r} (h:ng p0=some r):
    Calls prog 103 [v0].toArray w (Ret λv w'=>∃m',M.le m m'∧S W0 m' w' L ((1,v)::TL)∧RV (kSl (ai .u8)) m' v r):=by
 refine rm (Ox W0 m w L TL [v0] (p0,()) r [] [] hS ⟨ha0,trivial⟩ h) λv w' he=>?_;obtain⟨m',us,Lr,Lq,Tr,hm,Z',rfl,hR,hO⟩:=he;obtain⟨u0,us,Tr,rfl,rfl,r0,hR0⟩:=uF hR;obtain⟨rfl,rfl,rfl⟩:=cE hR0;have hO0:=bT hO;obtain rfl:=cF hO0;exact⟨m',hm,Z',r0⟩
theorem Oy:Ctr Sz prog 147 [.rd (.int .u64)] [.ap (.int .u8)] (fun x=>md x.1):=
 ncR [] [2] func147 ntmps147 (.s .o (.s .o (.s (.s .o (.b (.l ⟨[.v 3 1 (.dat (.sl (.int .u8)) (some 0)),.v 5 1 (.dat (.int .i64) none)],[0],0,[1]⟩ .o))) .o))) λx=>by kernel_rfl
def HT:=mC Oy call147
theorem Oz:Ctr Sz prog 104 [.rd (.sl (.int .i64))] [.ap (.int .u8)] (fun x=>me x.1):=
 ncR [HT] [2] func104 ntmps104 (.s .o (.s .o (.s (.s .o (.b (.l ⟨[.v 3 1 (.dat (.sl (.int .u8)) (some 0)),.v 16 1 (.dat (.int .i64) none)],[0,14,15],0,[1]⟩ (.s .o (.s .o (.s (.b (.s .o (.s .o (.s .o (.s (.b (.l ⟨[.v 3 2 (.dat (.sl (.int .u8)) (some 0)),.v 7 2 (.dat (.int .u64) none)],[0,14,15,16],0,[1]⟩ .o)) .o))))) .o)))))) .o))) λx=>by kernel_rfl
theorem AW  (hS:S W0 m w L TL) {p0} (ha0:RV (kSl (ai .i64)) m v0 p0) {r} (h:me p0=some r):
    Calls prog 104 [v0].toArray w (Ret λv w'=>∃m',M.le m m'∧S W0 m' w' L ((1,v)::TL)∧RV (kSl (ai .u8)) m' v r):=by
 refine rm (Oz W0 m w L TL [v0] (p0,()) r [] [] hS ⟨ha0,trivial⟩ h) λv w' he=>?_;obtain⟨m',us,Lr,Lq,Tr,hm,Z',rfl,hR,hO⟩:=he;obtain⟨u0,us,Tr,rfl,rfl,r0,hR0⟩:=uF hR;obtain⟨rfl,rfl,rfl⟩:=cE hR0;have hO0:=bT hO;obtain rfl:=cF hO0;exact⟨m',hm,Z',r0⟩
theorem sr {b0_:Nat} {c0_:List Value} (hS:S W0 m w ((b0_,c0_)::L) (TL)) {p0} (ha0:GS kAp m b0_ c0_ v0 p0) {p1} (ha1:Fn2 prog kAp kAp (ai .i64) m v1 p1) {r} (h:ky p0 p1=some r):
    Calls prog 148 [v0,v1].toArray w (Ret λv w'=>∃m',M.le m m'∧∃q0_:List Value,S W0 m' w' ((b0_,q0_)::L) (TL)∧GS kAp m' b0_ q0_ v0 r):=
  F6 (ρ:=xT) Lb isAgg32 sizeOf32 rfl hS ha0 ha1 h
theorem OA:Ctr Sz prog 150 [.rd (.sl (.st 32)),.rd (.st 32)] [.rd (.int .i64)] (fun x=>ie x.1 x.2.1):=
 ncR [] [4] func150 ntmps150 (.s .o (.s (.s .o (.b (.l ⟨[.v 8 1 (.dat (.int .i64) none)],[0,3,7],1,[]⟩ .o))) .o)) λx=>by kernel_rfl
theorem vi  (hS:S W0 m w L TL) {p0} (ha0:RV (kSl kAp) m v0 p0) {p1} (ha1:RV kAp m v1 p1) {r} (h:ie p0 p1=some r):
    Calls prog 150 [v0,v1].toArray w (Ret λv w'=>∃m',M.le m m'∧S W0 m' w' L TL∧RV (ai .i64) m' v r):=by
 refine rm (OA W0 m w L TL [v0,v1] (p0,p1,()) r [] [] hS ⟨ha0,⟨ha1,trivial⟩⟩ h) λv w' he=>?_;obtain⟨m',us,Lr,Lq,Tr,hm,Z',rfl,hR,hO⟩:=he;obtain⟨u0,us,rfl,r0,hR0⟩:=dC hR;obtain⟨rfl,rfl,rfl⟩:=cE hR0;have hO0:=bT hO;have hO1:=bT hO0;obtain rfl:=cF hO1;exact⟨m',hm,Z',r0⟩
theorem OB:Ctr Sz prog 179 [.rd (.int .u32)] [.rd (.int .i64)] (fun x=>Fv x.1):=
 ncR [] [2] func179 ntmps179 .o λx=>by kernel_rfl
def OC:=mC OB call179
theorem OD:Ctr Sz prog 154 [.rd (.int .u64)] [.rd (.int .i64)] (fun x=>oP x.1):=
 ncR [] [2] func154 ntmps154 .o λx=>by kernel_rfl
def HU:=mC OD call154
theorem HV:Ctr Sz prog 152 [.rd (.int .u64)] [.rd (.int .i64)] (fun x=>pD x.1):=
 ncR [HU,OC] [2] func152 ntmps152 .o λx=>by kernel_rfl
def OE:=mC HV call152
theorem F7  (hS:S W0 m w L TL) {p0} (ha0:inR .u64 p0) {r} (h:pD p0=some r):
    Calls prog 152 [(.int .u64 p0)].toArray w (Ret λv w'=>∃m',M.le m m'∧S W0 m' w' L TL∧RV (ai .i64) m' v r):=by
 refine rm (HV W0 m w L TL [(.int .u64 p0)] (p0,()) r [] [] hS ⟨aq ha0,trivial⟩ h) λv w' he=>?_;obtain⟨m',us,Lr,Lq,Tr,hm,Z',rfl,hR,hO⟩:=he;obtain⟨u0,us,rfl,r0,hR0⟩:=dC hR;obtain⟨rfl,rfl,rfl⟩:=cE hR0;have hO0:=bT hO;obtain rfl:=cF hO0;exact⟨m',hm,Z',r0⟩
theorem s7  (hS:S W0 m w L TL) {p0} (ha0:RV (kSl (ai .u64)) m v0 p0) {p1} (ha1:inR .i64 p1) {r} (h:iD p0 p1=some r):
    Calls prog 151 [v0,(.int .i64 p1)].toArray w (Ret λv w'=>∃m',M.le m m'∧S W0 m' w' L TL∧RV (kSl (ai .u8)) m' v r):=by
 refine kc func151 ntmps151 λa E=>?_;have E:Env 51 a [(0,v0),(1,.int .i64 p1)]:=E;unfold iD at h;refine ae (ah (qA E rfl λa E=>ag (ae (ah (qM E rfl λa E=>sp E (bd (k:=(ai .u64)) E rfl rfl underlying189 ha0) rfl λa E=>qM E rfl λa E=>qB E rfl rfl (oI rfl) λa E=>?_)))));refine qB E rfl rfl (be rfl) λa E=>qB E rfl rfl (sy rfl (by decide)) λa E=>?_;obtain⟨z8,hz9,h⟩:=ob h;refine st E (ry (k:=(ai .u8)) (m:=m) E hS rfl rfl underlying24 type5 rfl rfl rfl (λm=>zr5 m) hz9 rfl rfl) rfl ?_;rintro v13 a w ⟨b10,cs11,hc12,hS⟩ E
 refine qA E rfl λa E=>ag (ae (ae (ah (qM E rfl λa E=>sp E (bd (k:=(ai .u64)) E rfl rfl underlying189 ha0) rfl λa E=>qM E rfl λa E=>ag ?_))));refine bw (λa w=>∃x20:(List Int),kQ x20=some r∧∃m',M.le m m'∧∃(v21:Value),RV (kSl (ai .u8)) m' v21 x20∧S W0 m' w L TL∧Env 51 a [(5,v21)]) ?_ ?_
 {
 refine aJ ?_;refine cH h (λ(s:Int×List Int) a w=>∃m',M.le m m'∧∃(cs31:List Value),inR .i64 s.1∧GS (ai .u8) m' b10 cs31 v13 s.2∧S W0 m' w ((b10,cs31)::L) (TL)∧Env 51 a [(1,.int .i64 p1),(5,v13),(17,v0),(18,.int .i64 (p0.length:Int)),(19,.int .i64 s.1)]) ?_ ?_
 {exact⟨_,(Z3 _),cs11,(show inR .i64 0 from aw (by decide)),hc12,hS,kut E⟩}
 {
 rintro ⟨x28,x30⟩ a w ⟨m26,hm27,cs31,hr29,hc32,hS,E⟩ r33 h hb34;have h:jg p0 p1 x28 x30=some r33:=h;unfold jg at h;refine ae (ah (qB E rfl rfl bn λa E=>ag (ae (kif E rfl (λhd36=>?_) (λhd36=>?_)))))
 {
 have h:=aA hd36 h;refine aQ (ae ?_);refine bw (λa w=>∃x39:(List Int),kR x28 x39=some r33∧∃m',M.le m26 m'∧∃(cs40:List Value),GS (ai .u8) m' b10 cs40 v13 x39∧S W0 m' w ((b10,cs40)::L) (TL)∧Env 51 a [(1,.int .i64 p1),(5,v13),(17,v0),(18,.int .i64 (p0.length:Int)),(19,.int .i64 x28)]) ?_ ?_
 {
 refine aJ (ae (ah (qM E rfl λa E=>?_)));obtain⟨x46,hx47,h⟩:=ob h;refine st E (dT (k:=(ai .u64)) E rfl rfl underlying189 sizeOf54 (ha0.mono hm27) hx47) rfl ?_;rintro v49 a _ ⟨rfl,hp48⟩ E;refine st E (bG E hS yJ rfl hp48) rfl ?_;rintro v51 a _ ⟨rfl,hv50⟩ E;obtain⟨rfl,hr52⟩:=aG hv50;refine qA E rfl λa E=>qA E rfl λa E=>ag (ae (ah (qM E rfl λa E=>qM E rfl λa E=>ag (aJ ?_))))
 refine cH h (λ(s:Int×List Int) a w=>∃m',M.le m26 m'∧∃(cs62:List Value),inR .i64 s.1∧GS (ai .u8) m' b10 cs62 v13 s.2∧S W0 m' w ((b10,cs62)::L) (TL)∧Env 51 a [(1,.int .i64 p1),(5,v13),(6,.int .i64 x28),(7,.int .u64 x46),(17,v0),(18,.int .i64 (p0.length:Int)),(19,.int .i64 x28),(24,.int .i64 p1),(25,.int .i64 s.1)]) ?_ ?_
 {exact⟨_,(Z3 _),cs31,(show inR .i64 0 from aw (by decide)),hc32,hS,kut E⟩}
 {
 rintro ⟨x59,x61⟩ a w ⟨m57,hm58,cs62,hr60,hc63,hS,E⟩ r64 h hb65;have h:jf p1 x28 x46 x59 x61=some r64:=h;unfold jf at h;refine ae (ah (qB E rfl rfl bn λa E=>ag (ae (kif E rfl (λhd67=>?_) (λhd67=>?_)))))
 {
 have h:=aA hd67 h;refine aQ (ae (aJ (ae (ah (qM E rfl λa E=>qA E rfl λa E=>ag (ae (ah ?_)))))));refine qM E rfl λa E=>qM E rfl λa E=>?_;obtain⟨u72,hu73,h⟩:=ob h;refine qB E rfl rfl (kg rfl (of_decide_eq_true (jd hu73))) λa E=>qB E rfl rfl (xb rfl) λa E=>qB E rfl rfl gg λa E=>ag ?_
 refine bw (λa w=>∃x79:(List Int),je x59 x79=some r64∧∃m',M.le m57 m'∧∃(cs80:List Value),GS (ai .u8) m' b10 cs80 v13 x79∧S W0 m' w ((b10,cs80)::L) (TL)∧Env 51 a [(1,.int .i64 p1),(5,v13),(6,.int .i64 x28),(7,.int .u64 x46),(17,v0),(18,.int .i64 (p0.length:Int)),(19,.int .i64 x28),(24,.int .i64 p1),(25,.int .i64 x59)]) ?_ ?_
 {
 refine kif E rfl (λhd85=>?_) (λhd85=>?_)
 {
 have h:=aA hd85 h;refine ae (ah (qM E rfl λa E=>qM E rfl λa E=>qB E rfl rfl (oI rfl) λa E=>qM E rfl λa E=>qB E rfl rfl (be rfl) λa E=>qA E rfl λa E=>ag ?_));obtain⟨j92,hj93,x95,hx96,h⟩:=ob2 h;obtain⟨u98,hu99,h⟩:=ob h
 refine kch (k:=8) (m:=m57) (es:=[]) (Φ:=(λi m ws v=>match i with|0=>v=v13|1=>ei .i64 (Z1.wrap ((Z1.wrap (x28*p1))+x59)) v|2=>ei .i64 (Z1.wrap ((Z1.wrap ((Z1.wrap (x28*p1))+x59)).tdiv 8)) v|3=>v=(.pointer (some ⟨b10,j92*1,none⟩))|4=>ei .u8 x95 v|5=>ei .i64 (Z1.wrap ((Z1.wrap (x28*p1))+x59)) v|6=>ei .i64 ((Z1.wrap ((Z1.wrap (x28*p1))+x59)).tmod 8) v|7=>ei .u8 (dx .u8 1 ((Z1.wrap ((Z1.wrap (x28*p1))+x59)).tmod 8)) v|_=>True)) (Q:=(λc m ws L' TL'=>match c with|0=>(b10,cs62)::L=L'∧TL=TL'|_=>False)) (cs:=[⟨0,0,false,[(5,v13)]⟩,⟨0,0,false,[(9,.int .i64 (Z1.wrap ((Z1.wrap (x28*p1))+x59)))]⟩,⟨0,0,false,[]⟩,⟨0,0,false,[]⟩,⟨0,0,false,[]⟩,⟨0,0,false,[(9,.int .i64 (Z1.wrap ((Z1.wrap (x28*p1))+x59)))]⟩,⟨0,0,false,[]⟩,⟨0,0,false,[]⟩]) mixed E hS ⟨rfl,rfl⟩ rfl rfl (by kernel_rfl) ?_ ?_ ?_ ?_
 {
 intro i m_ m2_ ws v n_ q_
 iterate 8 (rcases i with _|i;exact q_)
 exact trivial}
 {
 intro c m_ m2_ ws L_ T_ n_ hq_
 match c,hq_ with
 |0,⟨e1_,e2_⟩=>exact⟨e1_,e2_⟩
 |_+1,hq_=>exact hq_.elim}
 {
 refine⟨?_,?_,?_,?_,?_,?_,?_,?_,trivial⟩
 {exact cmv λ_ _=>rfl}
 {exact cmv λ_ _=>⟨rfl,(ak _ _)⟩}
 {refine cp0 λ_ _ _ _ _ _ _ _ _ Z' E' T'=>?_;have E:=E'.add (T' 1).1;exact cq (aP E rfl rfl (sy rfl (by decide))) Z' ⟨rfl,(ak _ _)⟩}
 {refine cp1 λ_ _ _ _ _ M' Q' Z' E' T'=>?_;obtain⟨rfl,rfl⟩:=Q';have E:=(E'.add (T' 0)).add (T' 2).1;exact cq (br (k:=(ai .u8)) E rfl rfl underlying24 sizeOf5 (hc63.mono M') hj93 rfl) Z' rfl}
 {refine cp1 λ_ _ _ _ _ M' Q' Z' E' T'=>?_;obtain⟨rfl,rfl⟩:=Q';have E:=E'.add (T' 3);exact cr (aC E Z' ty5 rfl (i:=0) rfl (GS.elem (hc63.mono M') hx96)) Z' λ_ h=>aG h}
 {exact cmv λ_ _=>⟨rfl,(ak _ _)⟩}
 {refine cp0 λ_ _ _ _ _ _ _ _ _ Z' E' T'=>?_;obtain⟨q123,hr124⟩:=T' 5;have E:=E'.add q123;exact cq (aP E rfl rfl (yS rfl (by decide))) Z' ⟨rfl,(tS hr124)⟩}
 {refine cp0 λ_ _ _ _ _ _ _ _ _ Z' E' T'=>?_;have E:=E'.add (T' 6).1;exact cq (aP E rfl rfl (xd rfl (of_decide_eq_true (jd hu99)))) Z' ⟨rfl,(ri _ _ _)⟩}}
 {
 intro ws_ L_ T_ m131 a w hl132 hm133 hq134 hS hd135 hn136 ho137 hT138;obtain rfl:=eh hl132;obtain⟨rfl,rfl⟩:=hq134
 have E:=eof 8 [(1,.int .i64 p1),(5,v13),(6,.int .i64 x28),(7,.int .u64 x46),(8,.int .i64 x59),(9,.int .i64 (Z1.wrap ((Z1.wrap (x28*p1))+x59))),(17,v0),(18,.int .i64 (p0.length:Int)),(19,.int .i64 x28),(24,.int .i64 p1),(25,.int .i64 x59),(26,.bool (decide (x59<p1))),(27,.int .i64 x59),(28,.int .u64 x46),(29,.int .i64 x59),(30,.int .u64 (ay .u64 x46 x59)),(31,.int .u64 (cL .u64 (ay .u64 x46 x59) 1)),(32,.bool ((cL .u64 (ay .u64 x46 x59) 1)==1)),(33,.int .i64 x28),(34,.int .i64 p1),(35,.int .i64 (Z1.wrap (x28*p1))),(36,.int .i64 x59),(37,.int .i64 (Z1.wrap ((Z1.wrap (x28*p1))+x59)))] hd135 hn136 ho137
 have E:=(((E.add (hT138 0)).add (hT138 2).1).add (hT138 4).1).add (hT138 7).1;refine qB E rfl rfl (H6 rfl) λa E=>?_;obtain⟨j155,hj156,h⟩:=ob h;refine sp E (br (k:=(ai .u8)) E rfl rfl underlying24 sizeOf5 (hc63.mono hm133) hj156 rfl) rfl λa E=>?_;obtain⟨x160,hx161,h⟩:=ob h;refine st0 E (ef (k:=(ai .u8)) E hS ty5 bm (hc63.mono hm133) hx161 rfl rfl (aq (Ch _ _ _)) (i:=0) rfl) ?_;rintro _ w ⟨cs158,hc159,hS⟩ E;refine ag ?_;exact⟨(x61.set j155 (bOr .u8 x95 (dx .u8 1 ((Z1.wrap ((Z1.wrap (x28*p1))+x59)).tmod 8)))),h,_,hm133,cs158,hc159,hS,kut E⟩}}
 {have h:=aB hd85 h;refine aQ ?_;exact⟨x61,h,_,(Z3 _),cs62,hc63,hS,kut E⟩}}
 {rintro a w ⟨x79,h,m77,hm78,cs80,hc81,hS,E⟩;unfold je at h;refine ah (qB E rfl rfl (be rfl) λa E=>qM E rfl λa E=>ag ?_);exact⟨(Z1.wrap (x59+1),x79),(Option.some.inj h).symm,_,(Z0 hm58 hm78),cs80,(ak _ _),hc81,hS,kut E⟩}}
 {have h:=aB hd67 h;refine cC rfl rfl ?_;have h:=bE h hb65;exact⟨x61,h,_,hm58,cs62,hc63,hS,kut E⟩}}}
 {rintro a w ⟨x39,h,m37,hm38,cs40,hc41,hS,E⟩;unfold kR at h;refine ah (qB E rfl rfl (be rfl) λa E=>qM E rfl λa E=>ag ?_);exact⟨(Z1.wrap (x28+1),x39),(Option.some.inj h).symm,_,(Z0 hm27 hm38),cs40,(ak _ _),hc41,hS,kut E⟩}}
 {have h:=aB hd36 h;obtain⟨m163,hm164,hS,hv165⟩:=S.freeze hS hc32;refine cC rfl rfl ?_;have h:=bE h hb34;exact⟨x30,h,_,(Z0 hm27 hm164),v13,hv165,hS,kut E⟩}}}
 {
 rintro a w ⟨x20,h,m18,hm19,v21,hv22,hS,E⟩;unfold kQ at h;refine ae (ah (qM E rfl λa E=>qA E rfl λa E=>ag (bA ?_)));obtain rfl:=oi h
 try dsimp only
 refine f1 E ?_;exact⟨_,hm19,hS,hv22⟩}
theorem OF:Ctr Sz prog 151 [.rd (.sl (.int .u64)),.rd (.int .i64)] [.rd (.sl (.int .u8))] (λx=>iD x.1 x.2.1):=by
 intro W0 m w L TL vs x r Lp Tp hS hP h;obtain⟨v0,vs,rfl,a0,hP0⟩:=kN hP;obtain⟨v1,vs,rfl,a1,hP1⟩:=kN hP0;obtain⟨rfl,n1⟩:=aG a1;obtain⟨rfl,rfl,rfl⟩:=oL hP1;refine rm (s7 (hS:=hS) a0 n1 h) λv w' he=>?_;obtain⟨m',hm,Z',r0⟩:=he;exact⟨m',[v],[],[],[],hm,Z',rfl,⟨r0,trivial⟩,trivial⟩
def OG:=mC OF call151
theorem sj  {b0_:Nat} {c0_:List Value} (hS:S W0 m w ((b0_,c0_)::L) (TL)) {p0} (ha0:GS kAp m b0_ c0_ v0 p0) {r} (h:d9 p0=some r):
    Calls prog 149 [v0].toArray w (Ret λv w'=>∃m',M.le m m'∧∃bq_:Nat,∃cq_:List Value,S W0 m' w' ((bq_,cq_)::L) (TL)∧GS kAp m' bq_ cq_ v r):=by
 refine kc func149 ntmps149 λa E=>?_;have E:Env 61 a [(0,v0)]:=E;unfold d9 at h;refine ae (ah (qA E rfl λa E=>ag (ae (ae (ah (qM E rfl λa E=>sp E (mb (k:=kAp) E rfl rfl underlying22 ha0) rfl λa E=>qB E rfl rfl bn λa E=>?_))))));refine ag (kif E rfl (λhd5=>?_) (λhd5=>?_))
 {
 have h:=aA hd5 h;refine ae (ah (qM E rfl λa E=>qA E rfl λa E=>ag (bA ?_)));obtain rfl:=oi h
 try dsimp only
 refine f1 E ?_;exact⟨_,(Z3 _),b0_,c0_,((hS.void 0).pickL 2 [1] rfl rfl rfl),ha0⟩}
 {
 have h:=aB hd5 h;refine aQ (ae (ae (ah (qA E rfl λa E=>ag ?_))));refine bw (λa w=>fV p0=some r∧∃m',M.le m m'∧S W0 m' w ((0,[])::(b0_,c0_)::L) (TL)∧Env 61 a [(0,v0)]) ?_ ?_
 {
 refine aJ ?_;refine cH h (λ(s:Int) a w=>∃m',M.le m m'∧inR .i64 s∧S W0 m' w ((0,[])::(b0_,c0_)::L) (TL)∧Env 61 a [(0,v0),(3,.int .i64 s)]) ?_ ?_
 {exact⟨_,(Z3 _),(show inR .i64 1 from aw (by decide)),(hS.void 0),kut E⟩}
 {
 rintro x16 a w ⟨m14,hm15,hr17,hS,E⟩ r18 h hb19;have h:fZ p0 x16=some r18:=h;unfold fZ at h;refine ae (ae (ah (qM E rfl λa E=>qM E rfl λa E=>sp E (mb (k:=kAp) E rfl rfl underlying22 (ha0.mono hm15)) rfl λa E=>qB E rfl rfl bn λa E=>ag (kif E rfl (λhd24=>?_) (λhd24=>?_)))))
 {
 have h:=aA hd24 h;refine aQ (ae ?_);refine bw (λa w=>fW x16=some r18∧∃m',M.le m14 m'∧S W0 m' w ((0,[])::(b0_,c0_)::L) (TL)∧Env 61 a [(0,v0),(3,.int .i64 x16)]) ?_ ?_
 {
 refine aJ (ae ?_);obtain⟨j31,hj32,x34,hx35,h⟩:=ob2 h;obtain⟨j36,hj37,x39,hx40,h⟩:=ob2 h
 refine kch (k:=9) (m:=m14) (es:=[]) (Φ:=(λi m ws v=>match i with|0=>v=v0|1=>ei .i64 x16 v|2=>v=(.pointer (some ⟨b0_,j31*4,none⟩))|3=>RV kAp m v x34|4=>v=v0|5=>ei .i64 x16 v|6=>ei .i64 (Z1.wrap (x16 - 1)) v|7=>v=(.pointer (some ⟨b0_,j36*4,none⟩))|8=>RV kAp m v x39|_=>True)) (Q:=(λc m ws L' TL'=>match c with|0=>(0,[])::(b0_,c0_)::L=L'∧TL=TL'|_=>False)) (cs:=[⟨0,0,false,[(0,v0)]⟩,⟨0,0,false,[(3,.int .i64 x16)]⟩,⟨0,0,false,[]⟩,⟨0,0,false,[]⟩,⟨0,0,false,[(0,v0)]⟩,⟨0,0,false,[(3,.int .i64 x16)]⟩,⟨0,0,false,[]⟩,⟨0,0,false,[]⟩,⟨0,0,false,[]⟩]) mixed E hS ⟨rfl,rfl⟩ rfl rfl (by kernel_rfl) ?_ ?_ ?_ ?_
 {
 intro i m_ m2_ ws v n_ q_
 iterate 9 (rcases i with _|i;first|exact q_|exact RV.mono q_ n_)
 exact trivial}
 {
 intro c m_ m2_ ws L_ T_ n_ hq_
 match c,hq_ with
 |0,⟨e1_,e2_⟩=>exact⟨e1_,e2_⟩
 |_+1,hq_=>exact hq_.elim}
 {
 refine⟨?_,?_,?_,?_,?_,?_,?_,?_,?_,trivial⟩
 {exact cmv λ_ _=>rfl}
 {exact cmv λ_ _=>⟨rfl,hr17⟩}
 {refine cp1 λ_ _ _ _ _ M' Q' Z' E' T'=>?_;obtain⟨rfl,rfl⟩:=Q';have E:=(E'.add (T' 0)).add (T' 1).1;exact cq (br (k:=kAp) E rfl rfl underlying22 sizeOf32 (ha0.mono (Z0 hm15 M')) hj32 rfl) Z' rfl}
 {refine cp1 λ_ _ _ _ _ M' Q' Z' E' T'=>?_;obtain⟨rfl,rfl⟩:=Q';have E:=E'.add (T' 2);exact cr (aC E Z' fh rfl (i:=1) rfl (GS.elem (ha0.mono (Z0 hm15 M')) hx35)) Z' λ_ h=>h}
 {exact cmv λ_ _=>rfl}
 {exact cmv λ_ _=>⟨rfl,hr17⟩}
 {refine cp0 λ_ _ _ _ _ _ _ _ _ Z' E' T'=>?_;have E:=E'.add (T' 5).1;exact cq (aP E rfl rfl (dq rfl)) Z' ⟨rfl,(ak _ _)⟩}
 {refine cp1 λ_ _ _ _ _ M' Q' Z' E' T'=>?_;obtain⟨rfl,rfl⟩:=Q';have E:=(E'.add (T' 4)).add (T' 6).1;exact cq (br (k:=kAp) E rfl rfl underlying22 sizeOf32 (ha0.mono (Z0 hm15 M')) hj37 rfl) Z' rfl}
 {refine cp1 λ_ _ _ _ _ M' Q' Z' E' T'=>?_;obtain⟨rfl,rfl⟩:=Q';have E:=E'.add (T' 7);exact cr (aC E Z' fh rfl (i:=1) rfl (GS.elem (ha0.mono (Z0 hm15 M')) hx40)) Z' λ_ h=>h}}
 {
 intro ws_ L_ T_ m74 a w hl75 hm76 hq77 hS hd78 hn79 ho80 hT81;obtain rfl:=eh hl75;obtain⟨rfl,rfl⟩:=hq77;have E:=eof 9 [(0,v0),(3,.int .i64 x16),(10,.int .i64 x16),(11,v0),(12,.int .i64 (p0.length:Int)),(13,.bool (decide (x16<(p0.length:Int))))] hd78 hn79 ho80;obtain⟨v82,E,q84⟩:=adv E (hT81 3);obtain⟨v85,E,q87⟩:=adv E (hT81 8);refine sp E (yU E AR rfl rfl q84 q87 rfl) rfl λa E=>ag (kif E rfl (λhd89=>?_) (λhd89=>?_))
 {
 have h:=aA hd89 h;refine ae (ah (qM E rfl λa E=>qM E rfl λa E=>?_));obtain⟨q93,hq94,h⟩:=ob h;refine st E (uw (k:=kAp) E rfl underlying22 sizeOf32 (ha0.mono (Z0 hm15 hm76)) ⟨_,rfl⟩ rfl hq94 (sz:=4) rfl (xl:=(some (.tmp 27))) (xh:=none)) rfl ?_;rintro v95 a _ ⟨rfl,hc92⟩ E;refine qA E rfl λa E=>ag (ae (ae (ah (qA E rfl λa E=>ag ?_))));refine bw (λa w=>∃x100:Int,∃x102:(List Ap),fX x100 x102=some r18∧∃m',M.le m74 m'∧∃(cs103:List Value),inR .i64 x100∧GS kAp m' b0_ cs103 v0 x102∧S W0 m' w ((0,[])::(b0_,cs103)::L) (TL)∧Env 61 a [(0,v0),(3,.int .i64 x100)]) ?_ ?_
 {
 refine aJ ?_;refine cH h (λ(s:Int×Int×List Ap) a w=>∃m',M.le m74 m'∧∃(cs131:List Value),inR .i64 s.1∧inR .i64 s.2.1∧GS kAp m' b0_ cs131 v0 s.2.2∧S W0 m' w ((0,[])::(b0_,cs131)::L) (TL)∧Env 61 a [(0,v0),(3,.int .i64 s.1),(4,v95),(5,.int .i64 s.2.1)]) ?_ ?_
 {exact⟨_,(Z3 _),c0_,hr17,(show inR .i64 1 from aw (by decide)),(ha0.mono (Z0 hm15 hm76)),hS,kut E⟩}
 {
 rintro ⟨x126,x128,x130⟩ a w ⟨m124,hm125,cs131,hr127,hr129,hc132,hS,E⟩ r133 h hb134;have h:fY q93 x126 x128 x130=some r133:=h;unfold fY at h;refine ae (ae (ah (qM E rfl λa E=>qM E rfl λa E=>?_)));obtain⟨u137,hu138,h⟩:=ob h;refine sp E (LG (sz:=4) E rfl rfl underlying22 hc92) rfl λa E=>qB E rfl rfl bn λa E=>ag (kif E rfl (λhd141=>?_) (λhd141=>?_))
 {
 have h:=aA hd141 h;refine aQ (ae (aJ (ae ?_)));obtain⟨j142,hj143,x145,hx146,h⟩:=ob2 h;obtain⟨j147,hj148,x150,hx151,h⟩:=ob2 h
 refine kch (k:=9) (m:=m124) (es:=[]) (Φ:=(λi m ws v=>match i with|0=>v=v95|1=>ei .i64 x128 v|2=>v=(.pointer (some ⟨b0_,j142*4,none⟩))|3=>RV kAp m v x145|4=>v=v95|5=>ei .i64 x128 v|6=>ei .i64 (Z1.wrap (x128 - 1)) v|7=>v=(.pointer (some ⟨b0_,j147*4,none⟩))|8=>RV kAp m v x150|_=>True)) (Q:=(λc m ws L' TL'=>match c with|0=>(0,[])::(b0_,cs131)::L=L'∧TL=TL'|_=>False)) (cs:=[⟨0,0,false,[(4,v95)]⟩,⟨0,0,false,[(5,.int .i64 x128)]⟩,⟨0,0,false,[]⟩,⟨0,0,false,[]⟩,⟨0,0,false,[(4,v95)]⟩,⟨0,0,false,[(5,.int .i64 x128)]⟩,⟨0,0,false,[]⟩,⟨0,0,false,[]⟩,⟨0,0,false,[]⟩]) mixed E hS ⟨rfl,rfl⟩ rfl rfl (by kernel_rfl) ?_ ?_ ?_ ?_
 {
 intro i m_ m2_ ws v n_ q_
 iterate 9 (rcases i with _|i;first|exact q_|exact RV.mono q_ n_)
 exact trivial}
 {
 intro c m_ m2_ ws L_ T_ n_ hq_
 match c,hq_ with
 |0,⟨e1_,e2_⟩=>exact⟨e1_,e2_⟩
 |_+1,hq_=>exact hq_.elim}
 {
 refine⟨?_,?_,?_,?_,?_,?_,?_,?_,?_,trivial⟩
 {exact cmv λ_ _=>rfl}
 {exact cmv λ_ _=>⟨rfl,hr129⟩}
 {refine cp0 λ_ _ _ _ _ _ _ _ _ Z' E' T'=>?_;have E:=(E'.add (T' 0)).add (T' 1).1;exact cq (xZ (sz:=4) E rfl rfl underlying22 sizeOf32 hc92 hj143) Z' rfl}
 {refine cp1 λ_ _ _ _ _ M' Q' Z' E' T'=>?_;obtain⟨rfl,rfl⟩:=Q';have E:=E'.add (T' 2);exact cr (aC E Z' fh rfl (i:=1) rfl (GS.elem (hc132.mono M') hx146)) Z' λ_ h=>h}
 {exact cmv λ_ _=>rfl}
 {exact cmv λ_ _=>⟨rfl,hr129⟩}
 {refine cp0 λ_ _ _ _ _ _ _ _ _ Z' E' T'=>?_;have E:=E'.add (T' 5).1;exact cq (aP E rfl rfl (dq rfl)) Z' ⟨rfl,(ak _ _)⟩}
 {refine cp0 λ_ _ _ _ _ _ _ _ _ Z' E' T'=>?_;have E:=(E'.add (T' 4)).add (T' 6).1;exact cq (xZ (sz:=4) E rfl rfl underlying22 sizeOf32 hc92 hj148) Z' rfl}
 {refine cp1 λ_ _ _ _ _ M' Q' Z' E' T'=>?_;obtain⟨rfl,rfl⟩:=Q';have E:=E'.add (T' 7);exact cr (aC E Z' fh rfl (i:=1) rfl (GS.elem (hc132.mono M') hx151)) Z' λ_ h=>h}}
 {
 intro ws_ L_ T_ m185 a w hl186 hm187 hq188 hS hd189 hn190 ho191 hT192;obtain rfl:=eh hl186;obtain⟨rfl,rfl⟩:=hq188;have E:=eof 9 [(0,v0),(3,.int .i64 x126),(4,v95),(5,.int .i64 x128),(29,.int .i64 x128),(30,v95),(31,.int .i64 (q93.2:Int)),(32,.bool (decide (x128<(q93.2:Int))))] hd189 hn190 ho191;obtain⟨v193,E,q195⟩:=adv E (hT192 3);obtain⟨v196,E,q198⟩:=adv E (hT192 8);refine sp E (vK E AR rfl rfl q195 q198 rfl) rfl λa E=>ag ?_
 refine bw (λa w=>∃x202:Int,∃x204:(List Ap),dD x128 x202 x204=some r133∧∃m',M.le m185 m'∧∃(cs205:List Value),inR .i64 x202∧GS kAp m' b0_ cs205 v0 x204∧S W0 m' w ((0,[])::(b0_,cs205)::L) (TL)∧Env 61 a [(0,v0),(3,.int .i64 x202),(4,v95),(5,.int .i64 x128)]) ?_ ?_
 {
 refine kif E rfl (λhd211=>?_) (λhd211=>?_)
 {
 have h:=aA hd211 h;refine ae (ah (qM E rfl λa E=>qM E rfl λa E=>qM E rfl λa E=>qM E rfl λa E=>?_));obtain⟨j216,hj217,h⟩:=ob h;refine sp E (xZ (sz:=4) E rfl rfl underlying22 sizeOf32 hc92 hj217) rfl λa E=>?_;obtain⟨x220,hx221,h⟩:=ob h;refine st E (aC E hS fh rfl (i:=1) rfl (GS.elem (hc132.mono hm187) hx221)) rfl ?_;rintro v222 a _ ⟨rfl,hv219⟩ E;obtain⟨j223,hj224,h⟩:=ob h;refine sp E (br (k:=kAp) E rfl rfl underlying22 sizeOf32 (hc132.mono hm187) hj224 rfl) rfl λa E=>?_;obtain⟨x228,hx229,h⟩:=ob h
 refine st0 E (ef (k:=kAp) E hS fh bm (hc132.mono hm187) hx229 rfl rfl hv219 (i:=1) rfl) ?_;rintro _ w ⟨cs226,hc227,hS⟩ E;refine ag (ah (qM E rfl λa E=>qB E rfl rfl (be rfl) λa E=>qA E rfl λa E=>ag ?_));exact⟨(Z1.wrap (x126+1)),(x130.set j223 x220),h,_,(Z3 _),cs226,(ak _ _),hc227,hS,kut E⟩}
 {have h:=aB hd211 h;refine aQ ?_;exact⟨x126,x130,h,_,(Z3 _),cs131,hr127,(hc132.mono hm187),hS,kut E⟩}}
 {rintro a w ⟨x202,x204,h,m200,hm201,cs205,hr203,hc206,hS,E⟩;unfold dD at h;refine ah (qM E rfl λa E=>qB E rfl rfl (be rfl) λa E=>qA E rfl λa E=>ag ?_);exact⟨(x202,Z1.wrap (x128+1),x204),(Option.some.inj h).symm,_,(Z0 hm125 (Z0 hm187 hm201)),cs205,hr203,(ak _ _),hc206,hS,kut E⟩}}}
 {have h:=aB hd141 h;refine cC rfl rfl ?_;have h:=bE h hb134;exact⟨x126,x130,h,_,hm125,cs131,hr127,hc132,hS,kut E⟩}}}
 {
 rintro a w ⟨x100,x102,h,m98,hm99,cs103,hr101,hc104,hS,E⟩;unfold fX at h;refine ae (ah (qM E rfl λa E=>qM E rfl λa E=>?_));obtain⟨q109,hq110,h⟩:=ob h;refine st E (uw (k:=kAp) E rfl underlying22 sizeOf32 hc104 ⟨_,rfl⟩ rfl hq110 (sz:=4) rfl (xl:=(some (.tmp 55))) (xh:=none)) rfl ?_;rintro v111 a _ ⟨rfl,hc108⟩ E;obtain⟨z114,hz115,h⟩:=ob h;refine st0 E (Gj (k:=kAp) E hS rfl rfl underlying22 zeroValue32 (λm=>pR m) (i:=1) rfl hc104 hc108 hz115) ?_;rintro _ w ⟨cs112,hc113,hS⟩ E;refine ag (ae (ah (qM E rfl λa E=>qM E rfl λa E=>?_)));obtain⟨x120,hx121,h⟩:=ob h
 refine st E (Gi (k:=kAp) E rfl underlying22 sizeOf32 hc113 rfl hx121) rfl ?_;rintro v122 a _ ⟨rfl,hc119⟩ E;refine qA E rfl λa E=>ag (bA ?_);have h:=bE h hb19;obtain rfl:=oi h
 try dsimp only
 refine f1 E ?_;exact⟨_,(Z0 hm15 (Z0 hm76 hm99)),b0_,cs112,(hS.pickL 2 [1] rfl rfl rfl),hc119⟩}}
 {have h:=aB hd89 h;refine aQ ?_;exact⟨h,_,hm76,hS,kut E⟩}}}
 {rintro a w ⟨h,m25,hm26,hS,E⟩;unfold fW at h;refine ah (qM E rfl λa E=>qB E rfl rfl (be rfl) λa E=>qA E rfl λa E=>ag ?_);exact⟨Z1.wrap (x16+1),(Option.some.inj h).symm,_,(Z0 hm15 hm26),(ak _ _),hS,kut E⟩}}
 {have h:=aB hd24 h;refine cC rfl rfl ?_;have h:=bE h hb19;exact⟨h,_,hm15,hS,kut E⟩}}}
 {
 rintro a w ⟨h,m9,hm10,hS,E⟩;unfold fV at h;refine ae (ah (qM E rfl λa E=>qA E rfl λa E=>ag (bA ?_)));obtain rfl:=oi h
 try dsimp only
 refine f1 E ?_;exact⟨_,hm10,b0_,c0_,(hS.pickL 2 [1] rfl rfl rfl),(ha0.mono hm10)⟩}}
theorem tN  (hS:S W0 m w L TL) {p0} (ha0:RV (kSl kAp) m v0 p0) {r} (h:iR p0=some r):
    Calls prog 92 [v0].toArray w (Ret λv w'=>∃m',M.le m m'∧∃bq_:Nat,∃cq_:List Value,S W0 m' w' ((bq_,cq_)::L) (TL)∧GS kAp m' bq_ cq_ v r):=by
 refine kc func92 ntmps92 λa E=>?_;have E:Env 8 a [(0,v0)]:=E;unfold iR at h;refine ae (ah (qA E rfl λa E=>ag (ae (ae (ah (qM E rfl λa E=>?_))))));refine st E (yb (k:=kAp) E rfl rfl ha0 underlying22) rfl ?_;rintro v5 a _ ⟨rfl,bn3,rfl,hb4⟩ E;refine ag (kif E rfl (λhd6=>?_) (λhd6=>?_))
 {
 have hx_:=hb4 hd6;have h:some ([]:List Ap)=some r:=by rw[hx_] at h;exact h
 refine ae (ah (qA E rfl λa E=>ag (bA ?_)));obtain rfl:=oi h
 try dsimp only
 refine f1 E ?_;exact⟨_,(Z3 _),0,[],(((hS.void 0).void 0).pickL 2 [0] rfl rfl rfl),GS.void⟩}
 {
 refine aQ (ae (ah ?_));refine st E (J7 (k:=kAp) (m:=m) (xs:=[]) (vs:=[]) E (hS.void 0) rfl underlying22 sizeOf32 zeroValue32 trivial rfl (by decide)) rfl ?_;rintro v14 a w ⟨b11,cs12,hc13,hS⟩ E;refine qM E rfl λa E=>?_;obtain⟨z16,hz17,h⟩:=ob h;refine st E (rj (k:=kAp) (N:=3518437208883) E hS rfl rfl underlying22 DD (i:=0) rfl hc13 (ql hS underlying22 ha0) hz17 rfl rfl) rfl ?_;rintro v24 a w ⟨b21,cs22,hc23,hS⟩ E;refine qA E rfl λa E=>ag (bA ?_);obtain rfl:=oi h
 try dsimp only
 refine f1 E ?_;exact⟨_,(Z3 _),b21,cs22,(hS.pickL 2 [0] rfl rfl rfl),hc23⟩}
theorem DO {m0:M}:Fn2 prog kAp kAp (ai .i64) m0 (.func (.func 109) [].toArray [].toArray) cB:=by
  refine⟨109,_,rfl,call109,?_⟩;intro W0 m w L TL v0 v1 x0 x1 r hm hS h0 h1 hr;refine(zR (hS:=hS) h0 h1 hr).mono ?_;intro e w' he;cases e with
  |returned v=>obtain⟨m',h1,h2,h3⟩:=he;exact⟨m',h1,h2,h3⟩
  |panicked ch=>exact he.elim
  |outgrown=>exact he.elim
theorem BV  (hS:S W0 m w L TL) {p0} (ha0:RV (kSl kAp) m v0 p0) {r} (h:nh p0=some r):
    Calls prog 105 [v0].toArray w (Ret λv w'=>∃m',M.le m m'∧S W0 m' w' L ((1,v)::TL)∧RV (kSl (ai .u8)) m' v r):=by
 refine kc func105 ntmps105 λa E=>?_;have E:Env 54 a [(0,v0)]:=E;unfold nh at h;refine ae (ah (qA E rfl λa E=>ag (ae (ah (qM E rfl λa E=>?_)))));obtain⟨r3,hr4,h⟩:=ob h;refine st E (aF (vs:=[v0]) E rfl call92 (tN (hS:=hS) ha0 hr4)) rfl ?_;rintro v11 a w ⟨m5,hm6,b7,cs8,hS,hc9⟩ E;refine qA E rfl λa E=>ag (ae (ah (qM E rfl λa E=>?_)));obtain⟨r14,hr15,h⟩:=ob h;refine st E (aF (vs:=[v11,(.func (.func 109) #[] #[])]) E rfl call148 (sr (hS:=hS) hc9 (DO (m0:=m5)) hr15)) rfl ?_;rintro v20 a w ⟨m16,hm17,c0_18,hS,hc0_19⟩ E;refine ag (ae (ah (qM E rfl λa E=>?_)))
 obtain⟨r22,hr23,h⟩:=ob h;refine st E (aF (vs:=[v11]) E rfl call149 (sj (hS:=hS) hc0_19 hr23)) rfl ?_;rintro v30 a w ⟨m24,hm25,b26,cs27,hS,hc28⟩ E;refine qA E rfl λa E=>ag (ae ?_);obtain⟨m32,hm33,hS,hv34⟩:=S.freeze hS hc28;refine ah (qM E rfl λa E=>sp E (bd (k:=kAp) E rfl rfl underlying22 hv34) rfl λa E=>sp E (cl E rfl underlying3 underlying5 rfl) rfl λa E=>?_);refine st E (fC (k:=(ai .u8)) (xs:=[Z5.wrap (r22.length:Int)]) (vs:=[(.int .u8 (Z5.wrap (r22.length:Int)))]) E hS rfl underlying24 sizeOf5 zeroValue5 ⟨(aq (ak _ _)),trivial⟩ rfl (by decide)) rfl ?_
 rintro v41 a w ⟨m39,hm40,hS,hv38⟩ E;refine qA E rfl λa E=>ag (ae (ae (ah (qM E rfl λa E=>sp E (bd (k:=kAp) E rfl rfl underlying22 (hv34.mono hm40)) rfl λa E=>qM E rfl λa E=>ag ?_))));refine bw (λa w=>∃x48:(List Int),mu p0 r22 x48=some r∧∃m',M.le m39 m'∧∃(v49:Value),RV (kSl (ai .u8)) m' v49 x48∧S W0 m' w L ((1,v49)::TL)∧Env 54 a [(0,v0),(3,v30),(4,v49)]) ?_ ?_
 {
 refine aJ ?_;refine cH h (λ(s:List Int×Int) a w=>∃m',M.le m39 m'∧∃(v138:Value),RV (kSl (ai .u8)) m' v138 s.1∧inR .i64 s.2∧S W0 m' w L ((1,v138)::TL)∧Env 54 a [(0,v0),(3,v30),(4,v138),(20,v30),(21,.int .i64 (r22.length:Int)),(22,.int .i64 s.2)]) ?_ ?_
 {exact⟨_,(Z3 _),v41,hv38,(show inR .i64 0 from aw (by decide)),hS,kut E⟩}
 {
 rintro ⟨x137,x140⟩ a w ⟨m135,hm136,v138,hv139,hr141,hS,E⟩ r142 h hb143;have h:kz p0 r22 x137 x140=some r142:=h;unfold kz at h;refine ae (ah (qB E rfl rfl bn λa E=>ag (ae (kif E rfl (λhd145=>?_) (λhd145=>?_)))))
 {
 have h:=aA hd145 h;refine aQ (ae (aJ (ae (ah ?_))));obtain⟨x146,hx147,h⟩:=ob h;refine st E (dT (k:=kAp) E rfl rfl underlying22 sizeOf32 (hv34.mono (Z0 hm40 hm136)) hx147) rfl ?_;rintro v149 a _ ⟨rfl,hp148⟩ E;refine st E (bG E hS fh rfl hp148) rfl ?_;rintro v151 a _ ⟨rfl,hv150⟩ E;refine st E (dS hS zeroValue32 rfl (cs:=wS)) rfl ?_;rintro _ a w ⟨b152,rfl,hS⟩ E;refine st0 E (dG E hS fh bm rfl rfl hv150 (i:=0) rfl (pR _)) ?_;rintro _ w ⟨cs154,hc155,hS⟩ E;refine ag (ah (qM E rfl λa E=>?_));refine st E (aC E hS fh rfl (i:=0) rfl (aR hc155)) rfl ?_;rintro v159 a _ ⟨rfl,hv158⟩ E
 obtain⟨r160,hr161,h⟩:=ob h;refine st E (aF (vs:=[v159]) E rfl call107 (wY (hS:=hS) hv158 hr161)) rfl ?_;rintro v165 a w ⟨m162,hm163,hS,hv164⟩ E;obtain⟨z166,hz167,h⟩:=ob h;refine st E (kt (k:=(ai .u8)) (N:=140737488355328) E hS rfl rfl underlying24 underlying24 el5 (i:=0) rfl (hv139.mono hm163) hv164 hz167 rfl rfl) rfl ?_;rintro v171 a w ⟨m169,hm170,hS,hv168⟩ E;refine qA E rfl λa E=>ag (ah (qB E rfl rfl (be rfl) λa E=>qM E rfl λa E=>ag ?_));exact⟨(z166,Z1.wrap (x140+1)),(Option.some.inj h).symm,_,(Z0 hm136 (Z0 hm163 hm170)),v171,hv168,(ak _ _),(hS.pickL 1 [] rfl rfl rfl),kut E⟩}
 {have h:=aB hd145 h;refine cC rfl rfl ?_;have h:=bE h hb143;exact⟨x137,h,_,hm136,v138,hv139,hS,kut E⟩}}}
 {
 rintro a w ⟨x48,h,m46,hm47,v49,hv50,hS,E⟩;unfold mu at h;refine ae (ah (qA E rfl λa E=>ag (ae (ae (ah (qM E rfl λa E=>sp E (bd (k:=kAp) E rfl rfl underlying22 (ha0.mono (Z0 hm6 (Z0 hm17 (Z0 hm25 (Z0 hm33 (Z0 hm40 hm47))))))) rfl λa E=>qM E rfl λa E=>?_))))));refine ag ?_;refine bw (λa w=>∃x58:(List Int),mt r22 x48 x58=some r∧∃m',M.le m46 m'∧∃(v59:Value),RV (kSl (ai .u64)) m' v59 x58∧S W0 m' w L ((1,v59)::(1,v49)::TL)∧Env 54 a [(3,v30),(4,v49),(7,v59)]) ?_ ?_
 {
 refine aJ ?_;refine cH h (λ(s:List Int×Int) a w=>∃m',M.le m46 m'∧∃(v91:Value),RV (kSl (ai .u64)) m' v91 s.1∧inR .i64 s.2∧S W0 m' w L ((1,v91)::(1,v49)::TL)∧Env 54 a [(3,v30),(4,v49),(7,v91),(31,v0),(32,.int .i64 (p0.length:Int)),(33,.int .i64 s.2)]) ?_ ?_
 {exact⟨_,(Z3 _),(.slice none 0 0),dL,(show inR .i64 0 from aw (by decide)),(hS.tail0 1),kut E⟩}
 {
 rintro ⟨x90,x93⟩ a w ⟨m88,hm89,v91,hv92,hr94,hS,E⟩ r95 h hb96;have h:iZ p0 r22 x48 x90 x93=some r95:=h;unfold iZ at h;refine ae (ah (qB E rfl rfl bn λa E=>ag (ae (kif E rfl (λhd98=>?_) (λhd98=>?_)))))
 {
 have h:=aA hd98 h;refine aQ (ae (aJ (ae (ah ?_))));obtain⟨x99,hx100,h⟩:=ob h;refine st E (dT (k:=kAp) E rfl rfl underlying22 sizeOf32 (ha0.mono (Z0 hm6 (Z0 hm17 (Z0 hm25 (Z0 hm33 (Z0 hm40 (Z0 hm47 hm89))))))) hx100) rfl ?_;rintro v102 a _ ⟨rfl,hp101⟩ E;refine st E (bG E hS fh rfl hp101) rfl ?_;rintro v104 a _ ⟨rfl,hv103⟩ E;refine st E (dS hS zeroValue32 rfl (cs:=wS)) rfl ?_;rintro _ a w ⟨b105,rfl,hS⟩ E;refine st0 E (dG E hS fh bm rfl rfl hv103 (i:=0) rfl (pR _)) ?_;rintro _ w ⟨cs107,hc108,hS⟩ E;refine ag (ah (qM E rfl λa E=>qM E rfl λa E=>?_))
 refine st E (aC E hS fh rfl (i:=0) rfl (aR hc108)) rfl ?_;rintro v113 a _ ⟨rfl,hv112⟩ E;obtain⟨r114,hr115,h⟩:=ob h;refine st E (aF (vs:=[v30,v113]) E rfl call150 (vi (hS:=hS) (hv34.mono (Z0 hm40 (Z0 hm47 hm89))) hv112 hr115)) rfl ?_;rintro v119 a w ⟨m116,hm117,hS,hv118⟩ E;obtain⟨rfl,hr120⟩:=aG hv118;refine sp E (cl E rfl underlying3 underlying54 rfl) rfl λa E=>?_;refine st E (fC (k:=(ai .u64)) (xs:=[Z6.wrap r114]) (vs:=[(.int .u64 (Z6.wrap r114))]) E hS rfl underlying189 sizeOf54 zeroValue54 ⟨(aq (ak _ _)),trivial⟩ rfl (by decide)) rfl ?_;rintro v125 a w ⟨m123,hm124,hS,hv122⟩ E
 obtain⟨z126,hz127,h⟩:=ob h;refine st E (kt (k:=(ai .u64)) (N:=17592186044416) E hS rfl rfl underlying189 underlying189 M0 (i:=1) rfl (hv92.mono (Z0 hm117 hm124)) hv122 hz127 rfl rfl) rfl ?_;rintro v131 a w ⟨m129,hm130,hS,hv128⟩ E;refine qA E rfl λa E=>ag (ah (qB E rfl rfl (be rfl) λa E=>qM E rfl λa E=>ag ?_));exact⟨(z126,Z1.wrap (x93+1)),(Option.some.inj h).symm,_,(Z0 hm89 (Z0 hm117 (Z0 hm124 hm130))),v131,hv128,(ak _ _),((hS.pickL 1 [] rfl rfl rfl).pickT 3 [1,2] rfl rfl rfl),kut E⟩}
 {have h:=aB hd98 h;refine cC rfl rfl ?_;have h:=bE h hb96;exact⟨x90,h,_,hm89,v91,hv92,hS,kut E⟩}}}
 {
 rintro a w ⟨x58,h,m56,hm57,v59,hv60,hS,E⟩;unfold mt at h;refine ae (ah (qM E rfl λa E=>qM E rfl λa E=>qM E rfl λa E=>sp E (bd (k:=kAp) E rfl rfl underlying22 (hv34.mono (Z0 hm40 (Z0 hm47 hm57)))) rfl λa E=>qB E rfl rfl (dq rfl) λa E=>sp E (cl E rfl underlying3 underlying94 rfl) rfl λa E=>?_));obtain⟨r68,hr69,h⟩:=ob h;refine st E (aF (vs:=[(.int .u64 (Z6.wrap (Z1.wrap ((r22.length:Int) - 1))))]) E rfl call152 (F7 (hS:=hS) (ak _ _) hr69)) rfl ?_;rintro v73 a w ⟨m70,hm71,hS,hv72⟩ E;obtain⟨rfl,hr74⟩:=aG hv72;obtain⟨r75,hr76,h⟩:=ob h
 refine st E (aF (vs:=[v59,(.int .i64 r68)]) E rfl call151 (s7 (hS:=hS) (hv60.mono hm71) hr74 hr76)) rfl ?_;rintro v80 a w ⟨m77,hm78,hS,hv79⟩ E;obtain⟨z81,hz82,h⟩:=ob h;refine st E (kt (k:=(ai .u8)) (N:=140737488355328) E hS rfl rfl underlying24 underlying24 el5 (i:=1) rfl (hv50.mono (Z0 hm57 (Z0 hm71 hm78))) hv79 hz82 rfl rfl) rfl ?_;rintro v86 a w ⟨m84,hm85,hS,hv83⟩ E;refine qA E rfl λa E=>ag (bA ?_);obtain rfl:=oi h
 try dsimp only
 refine f1 E ?_;exact⟨_,(Z0 hm6 (Z0 hm17 (Z0 hm25 (Z0 hm33 (Z0 hm40 (Z0 hm47 (Z0 hm57 (Z0 hm71 (Z0 hm78 hm85))))))))),(hS.pickT 2 [1] rfl rfl rfl),hv83⟩}}
theorem OH:Ctr Sz prog 153 [.rd (.sl (.int .i64))] [.rd (.int .i64)] (fun x=>kS x.1):=
 ncR [] [2] func153 ntmps153 (.s .o (.s .o (.s .o (.s (.s .o (.b (.l ⟨[.v 3 1 (.dat (.int .i64) none),.v 4 1 (.dat (.int .i64) none)],[0],0,[]⟩ .o))) .o)))) λx=>by kernel_rfl
def OI:=mC OH call153
theorem OJ:Ctr Sz prog 106 [.rd (.sl (.int .i64))] [.ap (.int .u8)] (fun x=>mf x.1):=
 ncR [HT,OG,OI,HU] [2] func106 ntmps106 (.s .o (.s .o (.s .o (.s .o (.s (.s .o (.b (.l ⟨[.v 4 1 (.dat (.sl (.int .u64)) (some 0)),.v 5 1 (.dat (.int .i64) none),.v 13 1 (.dat (.int .i64) none)],[3,11,12],0,[1]⟩ .o))) .o))))) λx=>by kernel_rfl
theorem AX  (hS:S W0 m w L TL) {p0} (ha0:RV (kSl (ai .i64)) m v0 p0) {r} (h:mf p0=some r):
    Calls prog 106 [v0].toArray w (Ret λv w'=>∃m',M.le m m'∧S W0 m' w' L ((1,v)::TL)∧RV (kSl (ai .u8)) m' v r):=by
 refine rm (OJ W0 m w L TL [v0] (p0,()) r [] [] hS ⟨ha0,trivial⟩ h) λv w' he=>?_;obtain⟨m',us,Lr,Lq,Tr,hm,Z',rfl,hR,hO⟩:=he;obtain⟨u0,us,Tr,rfl,rfl,r0,hR0⟩:=uF hR;obtain⟨rfl,rfl,rfl⟩:=cE hR0;have hO0:=bT hO;obtain rfl:=cF hO0;exact⟨m',hm,Z',r0⟩
theorem OK {m0:M}:Fn1 prog kAp cO m0 (.func (.func 100) [].toArray [].toArray) eY:=by
  refine⟨100,_,rfl,call100,?_⟩;intro W0 m w L TL v0 x0 r hm hS h0 hr;refine(xE (hS:=hS) h0 hr).mono ?_;intro e w' he;cases e with
  |returned v=>obtain⟨m',h1,h2,h3⟩:=he;exact⟨m',h1,h2,h3⟩
  |panicked ch=>exact he.elim
  |outgrown=>exact he.elim
theorem zT  (hS:S W0 m w L TL) {p0} (ha0:inR .i64 p0) {p1} (ha1:RV (kSl kAp) m v1 p1) {r} (h:fj p0 p1=some r):
    Calls prog 47 [(.int .i64 p0),v1].toArray w (Ret λv w'=>∃m',M.le m m'∧S W0 m' w' L TL∧∃v0_ v1_:Value,v= .tuple #[v0_,v1_]∧RV (kSl (ai .u8)) m' v0_ r.1∧RV (ai .i64) m' v1_ r.2):=by
 refine kc func47 ntmps47 λa E=>?_;have E:Env 69 a [(0,.int .i64 p0),(1,v1)]:=E;unfold fj at h;refine ae (ah (qA E rfl λa E=>qA E rfl λa E=>ag (ae (ae ?_))));refine bw (λa w=>∃x5:Bool,gR p0 p1 x5=some r∧∃m',M.le m m'∧S W0 m' w L TL∧Env 69 a [(0,.int .i64 p0),(1,v1),(16,.bool x5)]) ?_ ?_
 {
 refine ah (qM E rfl λa E=>qB E rfl rfl bn λa E=>qM E rfl λa E=>?_);rcases Z2 (decide (p0<0)) with hd174|hd174
 {have h:=aA hd174 h;refine qX E hd174 λa E=>qX E hd174 λa E=>qT E hd174 rfl λa E=>ag ?_;exact⟨true,h,_,(Z3 _),hS,kut E⟩}
 {have h:=aB hd174 h;refine qG E hd174 rfl λa E=>spg E rfl rfl rfl rfl hd174 (aP E rfl rfl ju) rfl λa E=>qF E hd174 rfl λa E=>ag ?_;exact⟨(decide (4<p0)),h,_,(Z3 _),hS,kut E⟩}}
 {
 rintro a w ⟨x5,h,m3,hm4,hS,E⟩;unfold gR at h;refine kif E rfl (λhd7=>?_) (λhd7=>?_)
 {
 have h:=aA hd7 h;refine ae (ah (qA E rfl λa E=>qA E rfl λa E=>ag (bA ?_)));obtain rfl:=oi h
 try dsimp only
 refine f2 E ?_;exact⟨_,hm4,hS,_,_,rfl,dL,(aq (show inR .i64 62 from aw (by decide)))⟩}
 {
 have h:=aB hd7 h;refine aQ (ae (ae (ah (qM E rfl λa E=>sp E (bd (k:=kAp) E rfl rfl underlying22 (ha1.mono hm4)) rfl λa E=>qB E rfl rfl ju λa E=>ag (kif E rfl (λhd13=>?_) (λhd13=>?_))))))
 {
 have h:=aA hd13 h;refine ae (ah (qA E rfl λa E=>qA E rfl λa E=>ag (bA ?_)));obtain rfl:=oi h
 try dsimp only
 refine f2 E ?_;exact⟨_,hm4,hS,_,_,rfl,dL,(aq (show inR .i64 61 from aw (by decide)))⟩}
 {
 have h:=aB hd13 h;refine aQ (ae (ae (ah (qM E rfl λa E=>?_))));obtain⟨r17,hr18,h⟩:=ob h;refine st E (aF (vs:=[v1,(.func (.func 100) #[] #[])]) E rfl call99 (qz (hS:=hS) (ha1.mono hm4) (OK (m0:=m3)) hr18)) rfl ?_;rintro v22 a w ⟨m19,hm20,hS,hv21⟩ E;obtain rfl:=eQ hv21;refine ag (kif E rfl (λhd23=>?_) (λhd23=>?_))
 {
 have h:=aA hd23 h;refine ae (ah (qA E rfl λa E=>qA E rfl λa E=>ag (bA ?_)));obtain rfl:=oi h
 try dsimp only
 refine f2 E ?_;exact⟨_,(Z0 hm4 hm20),hS,_,_,rfl,dL,(aq (show inR .i64 60 from aw (by decide)))⟩}
 {
 have h:=aB hd23 h;refine aQ (ae (ah (qM E rfl λa E=>?_)));obtain⟨r27,hr28,h⟩:=ob h;refine st E (aF (vs:=[v1]) E rfl call102 (BS (hS:=hS) (ha1.mono (Z0 hm4 hm20)) hr28)) rfl ?_;rintro _ a w ⟨m29,hm30,hS,v0_31,v1_32,rfl,hv0_33,hv1_34⟩ E;obtain rfl:=eQ hv1_34;refine qM E rfl λa E=>sp E (bM E rfl rfl) rfl λa E=>sp E (bM E rfl rfl) rfl λa E=>qA E rfl λa E=>qA E rfl λa E=>ag (ae (ae ?_));refine bw (λa w=>∃x43:Bool,eF p0 p1 r27 x43=some r∧∃m',M.le m29 m'∧S W0 m' w L TL∧Env 69 a [(0,.int .i64 p0),(1,v1),(6,v0_31),(36,.bool x43)]) ?_ ?_
 {
 refine ah (qM E rfl λa E=>sp E (lT E rfl) rfl λa E=>qM E rfl λa E=>?_);rcases Z2 (!r27.2) with hd159|hd159
 {
 have h:=aA hd159 h;refine qG E hd159 rfl λa E=>spg E rfl rfl rfl rfl hd159 (aP E rfl rfl gg) rfl λa E=>qG E hd159 rfl λa E=>?_;rcases Z2 (p0==2) with hd163|hd163
 {have h:=aA hd163 h;refine qX E hd163 λa E=>qX E hd163 λa E=>spg E rfl rfl rfl rfl hd159 (tT E rfl hd163 rfl) rfl λa E=>qT E hd159 rfl λa E=>ag ?_;exact⟨true,h,_,(Z3 _),hS,kut E⟩}
 {have h:=aB hd163 h;refine qG E hd163 rfl λa E=>spg E rfl rfl rfl rfl hd163 (aP E rfl rfl gg) rfl λa E=>spg E rfl rfl rfl rfl hd159 (tU E rfl hd163 rfl) rfl λa E=>qT E hd159 rfl λa E=>ag ?_;exact⟨(p0==4),h,_,(Z3 _),hS,kut E⟩}}
 {have h:=aB hd159 h;refine qX E hd159 λa E=>qX E hd159 λa E=>qX E hd159 λa E=>sxu E rfl rfl rfl rfl λa E=>sxu E rfl rfl rfl rfl λa E=>qX E hd159 λa E=>qF E hd159 rfl λa E=>ag ?_;exact⟨false,h,_,(Z3 _),hS,kut E⟩}}
 {
 rintro a w ⟨x43,h,m41,hm42,hS,E⟩;unfold eF at h;refine kif E rfl (λhd45=>?_) (λhd45=>?_)
 {
 have h:=aA hd45 h;refine ae (ah (qA E rfl λa E=>qA E rfl λa E=>ag (bA ?_)));obtain rfl:=oi h
 try dsimp only
 refine f2 E ?_;exact⟨_,(Z0 hm4 (Z0 hm20 (Z0 hm30 hm42))),hS,_,_,rfl,dL,(aq (show inR .i64 62 from aw (by decide)))⟩}
 {
 have h:=aB hd45 h;refine aQ (ae (ae (ah (qM E rfl λa E=>sp E (bd (k:=kAp) E rfl rfl underlying22 (ha1.mono (Z0 hm4 (Z0 hm20 (Z0 hm30 hm42))))) rfl λa E=>qB E rfl rfl gg λa E=>ag (kif E rfl (λhd51=>?_) (λhd51=>?_))))))
 {
 have h:=aA hd51 h;refine ae (ah (qA E rfl λa E=>qA E rfl λa E=>ag (bA ?_)));obtain rfl:=oi h
 try dsimp only
 refine f2 E ?_;exact⟨_,(Z0 hm4 (Z0 hm20 (Z0 hm30 hm42))),hS,_,_,rfl,dL,(aq (show inR .i64 0 from aw (by decide)))⟩}
 {
 have h:=aB hd51 h;refine aQ (ae (ae (ah (qM E rfl λa E=>ag (aJ (ae (ah (qB E rfl rfl gg λa E=>?_))))))));refine qA E rfl λa E=>ag (kif E rfl (λhd57=>?_) (λhd57=>?_))
 {
 have h:=aA hd57 h;refine ae (ah (qM E rfl λa E=>?_));obtain⟨r59,hr60,h⟩:=ob h;refine st E (aF (vs:=[v1]) E rfl call103 (BU (hS:=hS) (ha1.mono (Z0 hm4 (Z0 hm20 (Z0 hm30 hm42)))) hr60)) rfl ?_;rintro v64 a w ⟨m61,hm62,hS,hv63⟩ E;refine qA E rfl λa E=>qA E rfl λa E=>ag (bA ?_);obtain rfl:=oi h
 try dsimp only
 refine f2 E ?_;exact⟨_,(Z0 hm4 (Z0 hm20 (Z0 hm30 (Z0 hm42 hm62)))),(hS.dropT 1),_,_,rfl,hv63,(aq (show inR .i64 0 from aw (by decide)))⟩}
 {
 have h:=aB hd57 h;refine ae (ah (qB E rfl rfl gg λa E=>qA E rfl λa E=>ag (kif E rfl (λhd69=>?_) (λhd69=>?_))))
 {
 have h:=aA hd69 h;refine ae (ah (qM E rfl λa E=>?_));obtain⟨r71,hr72,h⟩:=ob h;refine st E (aF (vs:=[v0_31]) E rfl call104 (AW (hS:=hS) (hv0_33.mono hm42) hr72)) rfl ?_;rintro v76 a w ⟨m73,hm74,hS,hv75⟩ E;refine qA E rfl λa E=>qA E rfl λa E=>ag (bA ?_);obtain rfl:=oi h
 try dsimp only
 refine f2 E ?_;exact⟨_,(Z0 hm4 (Z0 hm20 (Z0 hm30 (Z0 hm42 hm74)))),(hS.dropT 1),_,_,rfl,hv75,(aq (show inR .i64 0 from aw (by decide)))⟩}
 {
 have h:=aB hd69 h;refine ae (ah (qB E rfl rfl gg λa E=>qA E rfl λa E=>ag (kif E rfl (λhd81=>?_) (λhd81=>?_))))
 {
 have h:=aA hd81 h;refine ae (ah (qM E rfl λa E=>?_));obtain⟨r83,hr84,h⟩:=ob h;refine st E (aF (vs:=[v1]) E rfl call105 (BV (hS:=hS) (ha1.mono (Z0 hm4 (Z0 hm20 (Z0 hm30 hm42)))) hr84)) rfl ?_;rintro v88 a w ⟨m85,hm86,hS,hv87⟩ E;refine qA E rfl λa E=>qA E rfl λa E=>ag (bA ?_);obtain rfl:=oi h
 try dsimp only
 refine f2 E ?_;exact⟨_,(Z0 hm4 (Z0 hm20 (Z0 hm30 (Z0 hm42 hm86)))),(hS.dropT 1),_,_,rfl,hv87,(aq (show inR .i64 0 from aw (by decide)))⟩}
 {
 have h:=aB hd81 h;refine ae (ah (qB E rfl rfl gg λa E=>qA E rfl λa E=>ag (kif E rfl (λhd93=>?_) (λhd93=>?_))))
 {
 have h:=aA hd93 h;refine ae (ah (qM E rfl λa E=>?_));obtain⟨r95,hr96,h⟩:=ob h;refine st E (aF (vs:=[v0_31]) E rfl call106 (AX (hS:=hS) (hv0_33.mono hm42) hr96)) rfl ?_;rintro v100 a w ⟨m97,hm98,hS,hv99⟩ E;refine qA E rfl λa E=>qA E rfl λa E=>ag (bA ?_);obtain rfl:=oi h
 try dsimp only
 refine f2 E ?_;exact⟨_,(Z0 hm4 (Z0 hm20 (Z0 hm30 (Z0 hm42 hm98)))),(hS.dropT 1),_,_,rfl,hv99,(aq (show inR .i64 0 from aw (by decide)))⟩}
 {
 have h:=aB hd93 h;refine aQ (ae (ah (qA E rfl λa E=>ag (ae (ae (ah (qM E rfl λa E=>sp E (bd (k:=kAp) E rfl rfl underlying22 (ha1.mono (Z0 hm4 (Z0 hm20 (Z0 hm30 hm42))))) rfl λa E=>?_)))))));refine qM E rfl λa E=>ag ?_;refine bw (λa w=>∃x109:(List Int),kU x109=some r∧∃m',M.le m41 m'∧∃(v110:Value),RV (kSl (ai .u8)) m' v110 x109∧S W0 m' w L ((1,v110)::TL)∧Env 69 a [(8,v110)]) ?_ ?_
 {
 refine aJ ?_;refine cH h (λ(s:List Int×Int) a w=>∃m',M.le m41 m'∧∃(v119:Value),RV (kSl (ai .u8)) m' v119 s.1∧inR .i64 s.2∧S W0 m' w L ((1,v119)::TL)∧Env 69 a [(8,v119),(57,v1),(58,.int .i64 (p1.length:Int)),(59,.int .i64 s.2)]) ?_ ?_
 {exact⟨_,(Z3 _),(.slice none 0 0),dL,(show inR .i64 0 from aw (by decide)),(hS.tail0 1),kut E⟩}
 {
 rintro ⟨x118,x121⟩ a w ⟨m116,hm117,v119,hv120,hr122,hS,E⟩ r123 h hb124;have h:jh p1 x118 x121=some r123:=h;unfold jh at h;refine ae (ah (qB E rfl rfl bn λa E=>ag (ae (kif E rfl (λhd126=>?_) (λhd126=>?_)))))
 {
 have h:=aA hd126 h;refine aQ (ae (aJ (ae (ah ?_))));obtain⟨x127,hx128,h⟩:=ob h;refine st E (dT (k:=kAp) E rfl rfl underlying22 sizeOf32 (ha1.mono (Z0 hm4 (Z0 hm20 (Z0 hm30 (Z0 hm42 hm117))))) hx128) rfl ?_;rintro v130 a _ ⟨rfl,hp129⟩ E;refine st E (bG E hS fh rfl hp129) rfl ?_;rintro v132 a _ ⟨rfl,hv131⟩ E;refine st E (dS hS zeroValue32 rfl (cs:=wS)) rfl ?_;rintro _ a w ⟨b133,rfl,hS⟩ E;refine st0 E (dG E hS fh bm rfl rfl hv131 (i:=0) rfl (pR _)) ?_;rintro _ w ⟨cs135,hc136,hS⟩ E;refine ag (ah (qM E rfl λa E=>?_));refine st E (aC E hS fh rfl (i:=0) rfl (aR hc136)) rfl ?_
 rintro v140 a _ ⟨rfl,hv139⟩ E;obtain⟨r141,hr142,h⟩:=ob h;refine st E (aF (vs:=[v140]) E rfl call107 (wY (hS:=hS) hv139 hr142)) rfl ?_;rintro v146 a w ⟨m143,hm144,hS,hv145⟩ E;obtain⟨z147,hz148,h⟩:=ob h;refine st E (kt (k:=(ai .u8)) (N:=140737488355328) E hS rfl rfl underlying24 underlying24 el5 (i:=0) rfl (hv120.mono hm144) hv145 hz148 rfl rfl) rfl ?_;rintro v152 a w ⟨m150,hm151,hS,hv149⟩ E;refine qA E rfl λa E=>ag (ah (qB E rfl rfl (be rfl) λa E=>qM E rfl λa E=>ag ?_))
 exact⟨(z147,Z1.wrap (x121+1)),(Option.some.inj h).symm,_,(Z0 hm117 (Z0 hm144 hm151)),v152,hv149,(ak _ _),(hS.pickL 1 [] rfl rfl rfl),kut E⟩}
 {have h:=aB hd126 h;refine cC rfl rfl ?_;have h:=bE h hb124;exact⟨x118,h,_,hm117,v119,hv120,hS,kut E⟩}}}
 {
 rintro a w ⟨x109,h,m107,hm108,v110,hv111,hS,E⟩;unfold kU at h;refine ae (ah (qM E rfl λa E=>qA E rfl λa E=>qA E rfl λa E=>ag (bA ?_)));obtain rfl:=oi h
 try dsimp only
 refine f2 E ?_;exact⟨_,(Z0 hm4 (Z0 hm20 (Z0 hm30 (Z0 hm42 hm108)))),(hS.dropT 1),_,_,rfl,hv111,(aq (show inR .i64 0 from aw (by decide)))⟩}}}}}}}}}}}}
theorem Qq:Ctr Sz prog 47 [.rd (.int .i64),.rd (.sl (.st 32))] [.rd (.sl (.int .u8)),.rd (.int .i64)] (λx=>fj x.1 x.2.1):=by
 intro W0 m w L TL vs x r Lp Tp hS hP h;obtain⟨v0,vs,rfl,a0,hP0⟩:=kN hP;obtain⟨rfl,n0⟩:=aG a0;obtain⟨v1,vs,rfl,a1,hP1⟩:=kN hP0;obtain⟨rfl,rfl,rfl⟩:=oL hP1;refine rm (zT (hS:=hS) n0 a1 h) λv w' he=>?_;obtain⟨m',hm,Z',u0,u1,rfl,r0,r1⟩:=he;exact⟨m',[u0,u1],[],[],[],hm,Z',rfl,⟨r0,⟨r1,trivial⟩⟩,trivial⟩
def Cb:=mC Qq call47
theorem OL:Ctr Sz prog 135 [.rd (.int .i64),.rd (.sl (.st 32))] [.rd .bool] (fun x=>qY x.1 x.2.1):=
 ncR [Cb] [4] func135 ntmps135 .o λx=>by kernel_rfl
theorem DP  (hS:S W0 m w L TL) {p0} (ha0:inR .i64 p0) {p1} (ha1:RV (kSl kAp) m v1 p1) {r} (h:qY p0 p1=some r):
    Calls prog 135 [(.int .i64 p0),v1].toArray w (Ret λv w'=>∃m',M.le m m'∧S W0 m' w' L TL∧RV cO m' v r):=by
 refine rm (OL W0 m w L TL [(.int .i64 p0),v1] (p0,p1,()) r [] [] hS ⟨aq ha0,⟨ha1,trivial⟩⟩ h) λv w' he=>?_;obtain⟨m',us,Lr,Lq,Tr,hm,Z',rfl,hR,hO⟩:=he;obtain⟨u0,us,rfl,r0,hR0⟩:=dC hR;obtain⟨rfl,rfl,rfl⟩:=cE hR0;have hO0:=bT hO;have hO1:=bT hO0;obtain rfl:=cF hO1;exact⟨m',hm,Z',r0⟩
theorem Qr:Ctr Sz prog 46 [.rd (.sl (.st 32))] [.rd (.int .i64)] (fun x=>pY x.1):=
 ncR [Cb] [2] func46 ntmps46 (.s .o (.s .o (.s (.s .o (.b (.l ⟨[.v 3 1 (.dat (.int .i64) none),.v 4 1 (.dat (.int .i64) none),.v 5 1 (.dat (.int .i64) none)],[0],0,[]⟩ .o))) .o))) λx=>by kernel_rfl
def Qs:=mC Qr call46
theorem OM:Ctr Sz prog 108 [.rd (.sl (.st 32)),.f2 (.st 32) (.st 32) (.int .i64)] [.rd (.st 32)] (fun x=>gm x.1 x.2.1):=
 nxR [] [.cell 4 32] func108 ntmps108 (.s .o (.s .o (.s .o (.s (.s .o (.b (.l ⟨[.v 6 1 (.dat (.int .i64) none),.b 1 1 (.st 32)],[0,1,4,5],2,[]⟩ .o))) .o)))) λx=>by kernel_rfl
theorem tO  (hS:S W0 m w L TL) {p0} (ha0:RV (kSl kAp) m v0 p0) {p1} (ha1:Fn2 prog kAp kAp (ai .i64) m v1 p1) {r} (h:gm p0 p1=some r):
    Calls prog 108 [v0,v1].toArray w (Ret λv w'=>∃m',M.le m m'∧S W0 m' w' L TL∧RV kAp m' v r):=by
 refine rm (OM W0 m w L TL [v0,v1] (p0,p1,()) r [] [] hS ⟨ha0,⟨ha1,trivial⟩⟩ h) λv w' he=>?_;obtain⟨m',us,Lr,Lq,Tr,hm,Z',rfl,hR,hO⟩:=he;obtain⟨u0,us,rfl,r0,hR0⟩:=dC hR;obtain⟨rfl,rfl,rfl⟩:=cE hR0;have hO0:=bT hO;have hO1:=Fu hO0;obtain rfl:=cF hO1;exact⟨m',hm,Z',r0⟩
theorem ON:Ctr Sz prog 110 [.rd (.sl (.st 32)),.f2 (.st 32) (.st 32) (.int .i64)] [.rd (.st 32)] (fun x=>gn x.1 x.2.1):=
 nxR [] [.cell 4 32] func110 ntmps110 (.s .o (.s .o (.s .o (.s (.s .o (.b (.l ⟨[.v 6 1 (.dat (.int .i64) none),.b 1 1 (.st 32)],[0,1,4,5],2,[]⟩ .o))) .o)))) λx=>by kernel_rfl
theorem tP  (hS:S W0 m w L TL) {p0} (ha0:RV (kSl kAp) m v0 p0) {p1} (ha1:Fn2 prog kAp kAp (ai .i64) m v1 p1) {r} (h:gn p0 p1=some r):
    Calls prog 110 [v0,v1].toArray w (Ret λv w'=>∃m',M.le m m'∧S W0 m' w' L TL∧RV kAp m' v r):=by
 refine rm (ON W0 m w L TL [v0,v1] (p0,p1,()) r [] [] hS ⟨ha0,⟨ha1,trivial⟩⟩ h) λv w' he=>?_;obtain⟨m',us,Lr,Lq,Tr,hm,Z',rfl,hR,hO⟩:=he;obtain⟨u0,us,rfl,r0,hR0⟩:=dC hR;obtain⟨rfl,rfl,rfl⟩:=cE hR0;have hO0:=bT hO;have hO1:=Fu hO0;obtain rfl:=cF hO1;exact⟨m',hm,Z',r0⟩
theorem tQ {m:M}{v:Value}{p0:List Ap}(ha:PR (kSl kAp) m v p0):B4 prog (Rv1 kAp) 157 [v].toArray m p0:=by
 intro σ I step B y m1 w L TL s Ls TLs r mono hle hy hI hS hf;refine yR (args:=[y,v]) func157 rfl ntmps157 (Z4 rfl) λa E=>?_;have E:Env 16 a [(0,y),(1,v)]:=E;refine ae (ah ?_);refine st E (bG E hS wT rfl (ha.mono hle)) rfl ?_;rintro v5 a _ ⟨rfl,hv5⟩ E;refine sp E (bd (k:=kAp) E rfl rfl underlying22 hv5) rfl λa E=>qM E rfl λa E=>ag ?_;have h:=E6 (iH hv5) hf;refine aJ ?_;refine cH h (λ(t:Int×σ) a w=>∃m' Ls' TLs',M.le m1 m'∧inR .i64 t.1∧I m' t.2 Ls' TLs'∧S (B t.2) m' w (Ls'++L) (TLs'++TL)∧Env 16 a [(0,y),(5,v5),(6,.int .i64 (p0.length:Int)),(7,.int .i64 t.1)]) ?_ ?_
 {exact⟨m1,Ls,TLs,Z3 _,(show inR .i64 0 from aw (by decide)),hI,hS,kut E⟩}
 {
 rintro ⟨i,s⟩ a w ⟨m2,Ls2,TLs2,hm2,hi,hI,hS,E⟩ r9 h hb;unfold zY at h;refine ae (ah (qB E rfl rfl bn λa E=>ag (ae (kif E rfl (λhd=>?_) (λhd=>?_)))))
 {
 have h:=aA hd h;refine aQ (ae (aJ (ae (ah ?_))));obtain⟨x,hx,h⟩:=ob h;refine st E (dT (k:=kAp) E rfl rfl underlying22 sizeOf32 (hv5.mono hm2) hx) rfl ?_;rintro v9 a _ ⟨rfl,hp⟩ E;refine st E (bG E hS fh rfl hp) rfl ?_;rintro v10 a _ ⟨rfl,hv10⟩ E;refine st E (dS hS zeroValue32 rfl (cs:=wS)) rfl ?_;rintro _ a w ⟨b4,rfl,hS⟩ E;refine st0 E (dG E hS fh bm rfl rfl hv10 (i:=0) rfl (pR _)) ?_;rintro _ w ⟨cs,hc,hS⟩ E;refine ag (ae (ah (qM E rfl λa E=>?_)));refine st E (aC E hS fh rfl (i:=0) rfl (aR hc)) rfl ?_;rintro v12 a _ ⟨rfl,hv12⟩ E;obtain⟨q,hq,h⟩:=ob h
 refine st E (hy m2 _ L TL s Ls2 TLs2 [v12] x q.1 q.2 hI (hS.dropL 1) ⟨_,rfl,hv12⟩ hq _ _ _ _ _ _ _ _ _ (E.eval rfl) (iX E rfl)) rfl ?_;rintro _ a w ⟨rfl,m3,Ls3,TLs3,hm3,hI,hS⟩ E;refine sp E (lT E rfl) rfl λa E=>ag (kif E rfl (λhd=>?_) (λhd=>?_))
 {have h:=aB (by simpa using hd) h;obtain rfl:=oi h;refine bA ?_;have h:=hb _ rfl;subst h;refine Fin.mk E (rs:=[]) rfl rx.nil ?_;exact⟨m3,Ls3,TLs3,hm2.trans hm3,hI,hS⟩}
 {have h:=aA (by simpa using hd) h;obtain rfl:=oi h;refine aQ (ah (qB E rfl rfl (be rfl) λa E=>qM E rfl λa E=>ag ?_));exact⟨_,rfl,m3,Ls3,TLs3,hm2.trans hm3,(ak _ _),hI,hS,kut E⟩}}
 {have h:=aB hd h;obtain rfl:=oi h;have h:=hb _ rfl;subst h;refine cC rfl rfl ?_;dsimp only;refine Fin.mk E (rs:=[]) rfl rx.nil ?_;exact⟨m2,Ls2,TLs2,hm2,hI,hS⟩}}
theorem ul (hS:S W0 m w L TL) {p0} (ha0:RV (kSl kAp) m v0 p0) {r} (h:jw p0=some r):
    Calls prog 111 [v0].toArray w (Ret λv w'=>∃m',M.le m m'∧S W0 m' w' L TL∧ItV prog (Rv1 kAp) m' v r):=by
 refine kc func111 ntmps111 λa E=>?_;have E:Env 4 a [(0,v0)]:=E;unfold jw at h;obtain rfl:=oi h;refine ae (ah ?_);refine st E (kq E hS rfl ha0) rfl ?_;rintro _ a w ⟨b,cs,rfl,hc,hS⟩ E;refine qA E rfl λa E=>ag (ae (ah ?_));obtain⟨m1,hm,hS,hp⟩:=S.freezeL (k:=(kSl kAp)) hS hc;refine sp E (qQ E rfl rfl) rfl λa E=>qA E rfl λa E=>ag (bA ?_);refine f1 E ?_;exact⟨_,hm,hS,157,_,rfl,call157,tQ hp⟩
theorem wZ  (hS:S W0 m w L TL) {p0} (ha0:inR .i64 p0) {p1} (ha1:RV (kSl kAp) m v1 p1) {r} (h:kV p0 p1=some r):
    Calls prog 48 [(.int .i64 p0),v1].toArray w (Ret λv w'=>∃m',M.le m m'∧S W0 m' w' L TL∧RV cV m' v r):=by
 refine Gq func48 rfl ntmps48 (Z4 rfl) λa E=>?_;have E:Env 26 a [(0,.int .i64 p0),(1,v1)]:=E;unfold kV at h;refine ae (ah ?_);refine st E (dS hS zeroValue34 rfl (cs:=vd)) rfl ?_;rintro _ a w ⟨b1,rfl,hS⟩ E;refine ag (ae (ah (qM E rfl λa E=>qM E rfl λa E=>sp E (bd (k:=kAp) E rfl rfl underlying22 ha1) rfl λa E=>qM E rfl λa E=>?_)));obtain⟨r7,hr8,h⟩:=ob h;refine st E (aF (vs:=[v1,(.func (.func 109) #[] #[])]) E rfl call108 (tO (hS:=hS) ha1 (DO (m0:=m)) hr8)) rfl ?_;rintro v12 a w ⟨m9,hm10,hS,hv11⟩ E;refine qM E rfl λa E=>?_;obtain⟨r14,hr15,h⟩:=ob h
 refine st E (aF (vs:=[v1,(.func (.func 109) #[] #[])]) E rfl call110 (tP (hS:=hS) (ha1.mono hm10) (DO (m0:=m9)) hr15)) rfl ?_;rintro v19 a w ⟨m16,hm17,hS,hv18⟩ E;refine st E (jX (m:=m16) (k:=cV) (x0:=bK.zero) (xx:=(⟨p0,(p1.length:Int),r7,r14,0,0⟩:bK)) (pl:=[(0,1),(1,1),(2,4),(6,4),(10,1),(11,1)]) (pv:=[(0,.int .i64 p0),(1,.int .i64 (p1.length:Int)),(2,v12),(3,v19)]) E rfl underlying34 rfl zeroValue34 yK rfl (.cons rfl HA (aq ha0) (.cons rfl HB (aq (dK (iH ha1))) (.cons rfl HC (hv11.mono hm17) (.cons rfl HD hv18 .nil))))) rfl ?_;rintro v21 a _ ⟨rfl,hv20⟩ E
 refine st E (dS hS zeroValue34 rfl (cs:=vd)) rfl ?_;rintro _ a w ⟨b22,rfl,hS⟩ E;refine st0 E (dG E hS yL bm rfl rfl hv20 (i:=0) rfl (yK _)) ?_;rintro _ w ⟨cs24,hc25,hS⟩ E;refine ag (ae (ae (ah (qM E rfl λa E=>?_))));obtain⟨r28,hr29,h⟩:=ob h;refine st E (aF (vs:=[v1]) E rfl call111 (ul (hS:=hS) (ha1.mono (Z0 hm10 hm17)) hr29)) rfl ?_;rintro v33 a w ⟨m30,hm31,hS,hv32⟩ E;refine ag (aJ ?_);obtain⟨y67,hy68,h⟩:=ob h
 refine Ej (Rv:=(Rv1 kAp)) (λ(s:bK) (x:Ap)=>fk s x) (λ_=> .ret) [] (λ(m':M) (s:bK) (Ls_:Mem) (TLs_:Tls)=>∃(cs37:List Value),M.le m30 m'∧cV.R m' cs37 s∧Ls_=[(b22,cs37),(b1,vd)]∧TLs_=[]) (Ls:=[(b22,cs24),(b1,vd)]) (TLs:=[]) (s0:=(⟨p0,(p1.length:Int),r7,r14,0,0⟩:bK)) (sf:=y67.1) (bf:=y67.2) E hS rfl hv32 (by decide) (λ_ _ _ h=>Ei h) (by rintro m1_ m2_ s_ a_ b_ n_ ⟨cs37,hl_,hf0_,e1_,e2_⟩;exact⟨cs37,hl_.trans n_,cV.mono n_ hf0_,e1_,e2_⟩) ⟨cs24,Z3 _,(cV.mono hm31 hc25),rfl,rfl⟩ hy68 ?_ ?_
 {
 intro lid_ W1_ W0 m34 w L TL s_ Ls_ TLs_ vs_ x39 s40 b41 a or_ ob_ hI42 hS hR43 h E hT44;obtain⟨x36,rfl⟩:∃x,x=s_:=⟨_,rfl⟩
 obtain⟨cs37,hm35,hc38,rfl,rfl⟩:=hI42;have h:fk x36 x39=some (s40,b41):=h;unfold fk at h;obtain⟨v45,rfl,hv46⟩:=hR43;refine ah ?_;refine st E (dS hS zeroValue32 rfl (cs:=wS)) rfl ?_;rintro _ a w ⟨b47,rfl,hS⟩ E;refine st0 E (dG E hS fh bm rfl rfl hv46 (i:=0) rfl (pR _)) ?_;rintro _ w ⟨cs49,hc50,hS⟩ E;refine ag ?_;obtain⟨hb_,hS⟩:=hT44 _ _ _ _ hS;refine⟨hb_,?_⟩;refine aJ (ae (ah (sp E (aM E DE rfl) rfl λa E=>?_)));refine st E (aC E hS ty3 rfl (i:=0) rfl (Mm.R_drop (aR hc50))) rfl ?_;rintro v54 a _ ⟨rfl,hv53⟩ E;obtain⟨rfl,hr55⟩:=aG hv53
 refine qB E rfl rfl gg λa E=>ag (kif E rfl (λhd57=>?_) (λhd57=>?_))
 {
 have h:=aA hd57 h;refine ah (sp E (aM E wU rfl) rfl λa E=>?_);refine st E (aC E hS ty3 rfl (i:=1) rfl (Mw.R_drop (aR hc38))) rfl ?_;rintro v60 a _ ⟨rfl,hv59⟩ E;obtain⟨rfl,hr61⟩:=aG hv59;refine qB E rfl rfl (be rfl) λa E=>sp E (aM E wU rfl) rfl λa E=>?_;refine st0 E (dG E hS ty3 HE rfl rfl (aq (ak _ _)) (i:=1) rfl hc38) ?_;rintro _ w ⟨cs64,hc65,hS⟩ E;refine ag ?_;cases h
 try dsimp only
 exact⟨rfl,_,[(b22,cs64),(b1,vd)],[],(Z3 _),⟨cs64,hm35,hc65,rfl,rfl⟩,(hS.pickL 3 [1,2] rfl rfl rfl)⟩}
 {
 have h:=aB hd57 h;refine aQ ?_;cases h
 try dsimp only
 exact⟨rfl,_,[(b22,cs37),(b1,vd)],[],(Z3 _),⟨cs37,hm35,hc38,rfl,rfl⟩,(hS.pickL 3 [1,2] rfl rfl rfl)⟩}}
 {
 intro D69 m73 w a Ls_ TLs_ hm74 E hI42 hS hk71 hB72;obtain⟨cs76,_,hc77,rfl,rfl⟩:=hI42;obtain⟨W0,hW70⟩:∃W9,W9=W0.put D69 (.deferred (some [])):=⟨_,rfl⟩
 rw[←hW70] at hS;rcases Z2 y67.2 with hb75|hb75
 {
 have h:=aA hb75 h;rw[if_pos hb75];refine ae (ah ?_);refine st E (aC E hS yL rfl (i:=0) rfl (aR hc77)) rfl ?_;rintro v79 a _ ⟨rfl,hv78⟩ E;refine st0 E (dG E hS yL bm rfl rfl hv78 (i:=1) rfl (yK _)) ?_;rintro _ w ⟨cs80,hc81,hS⟩ E;refine ag (bA ?_);obtain rfl:=oi h
 try dsimp only
 have hS:=hS;rw[hW70] at hS;refine Cv.shut E hS hk71 hB72 λa w hS E=>?_;refine Cv.nil E ?_;refine Fin.mk E (rs:=[.cell 4 34]) rfl (rx.cell E hS yL rfl (i:=1) rfl (aR hc81) rx.nil) ?_;exact⟨_,(Z0 hm10 (Z0 hm17 (Z0 hm31 hm74))),(hS.dropL 2),(Ee (aR hc81))⟩}
 {have h:=aB hb75 h;cases h}}
theorem Qt:Ctr Sz prog 48 [.rd (.int .i64),.rd (.sl (.st 32))] [.rd (.st 34)] (λx=>kV x.1 x.2.1):=by
 intro W0 m w L TL vs x r Lp Tp hS hP h;obtain⟨v0,vs,rfl,a0,hP0⟩:=kN hP;obtain⟨rfl,n0⟩:=aG a0;obtain⟨v1,vs,rfl,a1,hP1⟩:=kN hP0;obtain⟨rfl,rfl,rfl⟩:=oL hP1;refine rm (wZ (hS:=hS) n0 a1 h) λv w' he=>?_;obtain⟨m',hm,Z',r0⟩:=he;exact⟨m',[v],[],[],[],hm,Z',rfl,⟨r0,trivial⟩,trivial⟩
def Qu:=mC Qt call48
theorem Qv:Ctr Sz prog 49 [.rd (.st 32)] [.rd (.sl (.int .u8))] (fun x=>qo x.1):=
 ncR [HR] [2] func49 ntmps49 .o λx=>by kernel_rfl
def Qw:=mC Qv call49
theorem JV:Ctr Sz prog 78 [.rd (.sl (.int .u8))] [.rd (.int .u32)] (fun x=>fF x.1):=
 ncR [] [2] func78 ntmps78 (.s .o (.s .o (.s (.s .o (.b (.l ⟨[.v 9 1 (.dat (.int .i64) none),.a 0 1 (.int .u32) (some 16)],[0,3],1,[]⟩ (.s .o (.s .o (.s (.b (.s .o (.s .o (.s (.s .o (.b (.l ⟨[.v 5 2 (.dat (.int .u32) none),.v 14 2 (.dat (.int .i64) none)],[0,3,4,9],1,[]⟩ .o))) .o)))) .o)))))) (.s .o (.s (.s .o (.b (.l ⟨[.v 6 1 (.dat (.int .u32) none),.v 29 1 (.dat (.int .i64) none)],[3,27,28],1,[]⟩ .o))) .o))))) λx=>by kernel_rfl
def Qx:=mC JV call78
theorem xU  (hS:S W0 m w L TL) {p0} (ha0:RV (kSl (ai .u8)) m v0 p0) {r} (h:fF p0=some r):
    Calls prog 78 [v0].toArray w (Ret λv w'=>∃m',M.le m m'∧S W0 m' w' L TL∧RV (ai .u32) m' v r):=by
 refine rm (JV W0 m w L TL [v0] (p0,()) r [] [] hS ⟨ha0,trivial⟩ h) λv w' he=>?_;obtain⟨m',us,Lr,Lq,Tr,hm,Z',rfl,hR,hO⟩:=he;obtain⟨u0,us,rfl,r0,hR0⟩:=dC hR;obtain⟨rfl,rfl,rfl⟩:=cE hR0;have hO0:=bT hO;obtain rfl:=cF hO0;exact⟨m',hm,Z',r0⟩
theorem JW:Ctr Sz prog 50 [.ap (.int .u8)] [.ap (.int .u8)] (fun x=>kA x.1):=
 ncR [Qx] [2] func50 ntmps50 .o λx=>by kernel_rfl
def Qy:=mC JW call50
theorem AY  (hS:S W0 m w L ((1,v0)::TL)) {p0} (ha0:RV (kSl (ai .u8)) m v0 p0) {r} (h:kA p0=some r):
    Calls prog 50 [v0].toArray w (Ret λv w'=>∃m',M.le m m'∧S W0 m' w' L ((1,v)::TL)∧RV (kSl (ai .u8)) m' v r):=by
 refine rm (JW W0 m w L TL [v0] (p0,()) r [] [(1,v0)] hS ⟨ha0,rfl,trivial⟩ h) λv w' he=>?_;obtain⟨m',us,Lr,Lq,Tr,hm,Z',rfl,hR,hO⟩:=he;obtain⟨u0,us,Tr,rfl,rfl,r0,hR0⟩:=uF hR;obtain⟨rfl,rfl,rfl⟩:=cE hR0;have hO0:=JH hO;obtain rfl:=cF hO0;exact⟨m',hm,Z',r0⟩
theorem Qz:Ctr Sz prog 15 [.rd (.int .i64),.rd (.sl (.st 32))] [.rd (.sl (.int .u8)),.rd (.int .i64)] (fun x=>ni x.1 x.2.1):=
 ncR [Qs,Cb,Qu,Qw,Qy] [4,5] func15 ntmps15 .o λx=>by kernel_rfl
theorem BW  (hS:S W0 m w L TL) {p0} (ha0:inR .i64 p0) {p1} (ha1:RV (kSl kAp) m v1 p1) {r} (h:ni p0 p1=some r):
    Calls prog 15 [(.int .i64 p0),v1].toArray w (Ret λv w'=>∃m',M.le m m'∧S W0 m' w' L TL∧∃v0_ v1_:Value,v= .tuple #[v0_,v1_]∧RV (kSl (ai .u8)) m' v0_ r.1∧RV (ai .i64) m' v1_ r.2):=by
 refine rm (Qz W0 m w L TL [(.int .i64 p0),v1] (p0,p1,()) r [] [] hS ⟨aq ha0,⟨ha1,trivial⟩⟩ h) λv w' he=>?_;obtain⟨m',us,Lr,Lq,Tr,hm,Z',rfl,hR,hO⟩:=he;obtain⟨u0,us,rfl,r0,hR0⟩:=dC hR;obtain⟨u1,us,rfl,r1,hR1⟩:=dC hR0;obtain⟨rfl,rfl,rfl⟩:=cE hR1;have hO0:=bT hO;have hO1:=bT hO0;obtain rfl:=cF hO1;exact⟨m',hm,Z',u0,u1,rfl,r0,r1⟩
theorem sk  (hS:S W0 m w L TL) {p0} (ha0:inR .i64 p0) {p1} (ha1:RV (kSl kAp) m v1 p1) {r} (h:gT p0 p1=some r):
    Calls prog 76 [(.int .i64 p0),v1].toArray w (Ret λv w'=>∃m',M.le m m'∧S W0 m' w' L ((1,v)::TL)∧RV (kSl (ai .u8)) m' v r):=by
 refine Gq func76 rfl ntmps76 (Z4 rfl) λa E=>?_;have E:Env 28 a [(0,.int .i64 p0),(1,v1)]:=E;unfold gT at h;refine ae (ah ?_);refine st E (kq (k:=(ai .i64)) E hS rfl (aq ha0)) rfl ?_;rintro _ a w ⟨b1,cs2,rfl,hc3,hS⟩ E;refine qA E rfl λa E=>ag (ae (ah ?_));refine st E (dS hS zeroValue24 rfl (cs:=[(.slice none 0 0)])) rfl ?_;rintro _ a w ⟨b6,rfl,hS⟩ E;refine ag (ae (ae (ah (qM E rfl λa E=>?_))));obtain⟨r9,hr10,h⟩:=ob h;refine st E (aF (vs:=[v1,(.int .i64 64)]) E rfl call134 (vh (hS:=hS) ha1 (show inR .i64 64 from aw (by decide)) hr10)) rfl ?_;rintro v14 a w ⟨m11,hm12,hS,hv13⟩ E
 refine ag (aJ ?_);obtain⟨y78,hy79,h⟩:=ob h;refine Ej (Rv:=(Rv1 (kSl kAp))) (λ(s:List Int) (x:List Ap)=>eX p0 s x) (λ_=> .ret) [] (λ(m':M) (s:List Int) (Ls_:Mem) (TLs_:Tls)=>∃(v18:Value),M.le m11 m'∧RV (kSl (ai .u8)) m' v18 s∧Ls_=[(b6,[v18]),(b1,cs2)]∧TLs_=[(1,v18)]) (Ls:=[(b6,[(.slice none 0 0)]),(b1,cs2)]) (TLs:=[(1,.slice none 0 0)]) (s0:=([]:(List Int))) (sf:=y78.1) (bf:=y78.2) E (hS.tail0 1) rfl hv13 (by decide) (λ_ _ _ h=>Ei h) (by rintro m1_ m2_ s_ a_ b_ n_ ⟨v18,hl_,hf0_,e1_,e2_⟩;exact⟨v18,hl_.trans n_,hf0_.mono n_,e1_,e2_⟩) ⟨(.slice none 0 0),Z3 _,dL,rfl,rfl⟩ hy79 ?_ ?_
 {
 intro lid_ W1_ W0 m15 w L TL s_ Ls_ TLs_ vs_ x20 s21 b22 a or_ ob_ hI23 hS hR24 h E hT25;obtain⟨x17,rfl⟩:∃x,x=s_:=⟨_,rfl⟩
 obtain⟨v18,hm16,hc19,rfl,rfl⟩:=hI23;have h:eX p0 x17 x20=some (s21,b22):=h;unfold eX at h;obtain⟨v26,rfl,hv27⟩:=hR24;refine ah (qA E rfl λa E=>ag ?_);obtain⟨hb_,hS⟩:=hT25 _ _ _ _ hS;refine⟨hb_,?_⟩;refine aJ (ae (ah ?_));refine st E (aC E hS ty3 rfl (i:=1) rfl (aR ((ai .i64).mono (Z0 hm12 hm16) hc3))) rfl ?_;rintro v30 a _ ⟨rfl,hv29⟩ E;obtain⟨rfl,hr31⟩:=aG hv29;refine qA E rfl λa E=>ag (ae (ae (ah (qM E rfl λa E=>qM E rfl λa E=>?_))));obtain⟨r35,hr36,h⟩:=ob h;refine st E (aF (vs:=[(.int .i64 p0),v26]) E rfl call135 (DP (hS:=hS) hr31 hv27 hr36)) rfl ?_
 rintro v40 a w ⟨m37,hm38,hS,hv39⟩ E;obtain rfl:=eQ hv39;refine sp E (lT E rfl) rfl λa E=>ag ?_;refine bw (λa w=>∃x44:Int,gC x17 x20 x44=some (s21,b22)∧∃m',M.le m37 m'∧inR .i64 x44∧S W0 m' w ((b6,[v18])::(b1,cs2)::L) ((1,v18)::TL)∧Env 28 a [(2,pz b1),(5,pz b6),(6,v26),(7,.int .i64 x44),(11,v14)]) ?_ ?_
 {
 refine kif E rfl (λhd76=>?_) (λhd76=>?_)
 {have h:=aA hd76 h;refine ah (qA E rfl λa E=>ag ?_);exact⟨(-1),h,_,(Z3 _),(show inR .i64 (-1) from aw (by decide)),hS,kut E⟩}
 {have h:=aB hd76 h;refine aQ ?_;exact⟨p0,h,_,(Z3 _),hr31,hS,kut E⟩}}
 {
 rintro a w ⟨x44,h,m42,hm43,hr45,hS,E⟩;unfold gC at h;refine ae (ah (qM E rfl λa E=>qM E rfl λa E=>?_));obtain⟨r49,hr50,h⟩:=ob h;refine st E (aF (vs:=[(.int .i64 x44),v26]) E rfl call15 (BW (hS:=hS) hr45 (hv27.mono (Z0 hm38 hm43)) hr50)) rfl ?_;rintro _ a w ⟨m51,hm52,hS,v0_53,v1_54,rfl,hv0_55,hv1_56⟩ E;obtain⟨rfl,hr58⟩:=aG hv1_56;refine qM E rfl λa E=>sp E (bM E rfl rfl) rfl λa E=>sp E (bM E rfl rfl) rfl λa E=>qA E rfl λa E=>qA E rfl λa E=>ag (ah (sp E (Bc (k:=(ai .u8)) E hS Ju rfl (i:=0) rfl (hc19.mono (Z0 hm38 (Z0 hm43 hm52)))) rfl λa E=>qM E rfl λa E=>?_))
 obtain⟨z67,hz68,h⟩:=ob h;refine st E (kt (k:=(ai .u8)) (N:=140737488355328) E hS rfl rfl underlying24 underlying24 el5 (i:=0) rfl (hc19.mono (Z0 hm38 (Z0 hm43 hm52))) hv0_55 hz68 rfl rfl) rfl ?_;rintro v72 a w ⟨m70,hm71,hS,hv69⟩ E;refine st0 E (E7 (k:=(ai .u8)) E hS Ju rfl rfl hv69 (i:=0) rfl) ?_;rintro _ w hS E;refine ag ?_;cases h
 try dsimp only
 exact⟨rfl,_,[(b6,[v72]),(b1,cs2)],[(1,v72)],(Z0 hm38 (Z0 hm43 (Z0 hm52 hm71))),⟨v72,(Z0 hm16 (Z0 hm38 (Z0 hm43 (Z0 hm52 hm71)))),hv69,rfl,rfl⟩,hS⟩}}
 {
 intro D80 m84 w a Ls_ TLs_ hm85 E hI23 hS hk82 hB83;obtain⟨cs87,_,hc88,rfl,rfl⟩:=hI23;obtain⟨W0,hW81⟩:∃W9,W9=W0.put D80 (.deferred (some [])):=⟨_,rfl⟩
 rw[←hW81] at hS;rcases Z2 y78.2 with hb86|hb86
 {
 have h:=aA hb86 h;rw[if_pos hb86];refine ae (ah (sp E (Bc (k:=(ai .u8)) E hS Ju rfl (i:=0) rfl hc88) rfl λa E=>qA E rfl λa E=>ag (bA ?_)));obtain rfl:=oi h
 try dsimp only
 have hS:=hS;rw[hW81] at hS;refine Cv.shut E hS hk82 hB83 λa w hS E=>?_;refine Cv.nil E ?_;refine f1 E ?_;exact⟨_,(Z0 hm12 hm85),((hS.dropL 2).pickT 1 [0] rfl rfl rfl),hc88⟩}
 {have h:=aB hb86 h;cases h}}
theorem zU  (hS:S W0 m w L TL) {p0} (ha0:inR .i64 p0) {p1} (ha1:RV (kSl (ai .i64)) m v1 p1) {p2} (ha2:RV (kSl (ai .i64)) m v2 p2) {p3} (ha3:RV (kSl ab) m v3 p3) {r} (h:gF p0 p1 p2 p3=some r):
    Calls prog 31 [(.int .i64 p0),v1,v2,v3].toArray w (Ret λv w'=>∃m',M.le m m'∧S W0 m' w' L TL∧∃v0_ v1_:Value,v= .tuple #[v0_,v1_]∧RV (kSl (ai .u8)) m' v0_ r.1∧RV (ai .i64) m' v1_ r.2):=by
 refine kc func31 ntmps31 λa E=>?_;have E:Env 88 a [(0,.int .i64 p0),(1,v1),(2,v2),(3,v3)]:=E;unfold gF at h;refine ae (ah (qA E rfl λa E=>qA E rfl λa E=>ag (ae (ah (qM E rfl λa E=>qM E rfl λa E=>qM E rfl λa E=>?_)))));obtain⟨r6,hr7,h⟩:=ob h;refine st E (aF (vs:=[(.int .i64 p0),v1,v3]) E rfl call74 (iQ (hS:=hS) ha0 ha1 ha3 hr7)) rfl ?_;rintro v11 a w ⟨m8,hm9,hS,hv10⟩ E;obtain⟨rfl,hr12⟩:=aG hv10;refine qA E rfl λa E=>ag (ae (ae (ah (qM E rfl λa E=>qB E rfl rfl lS λa E=>ag (kif E rfl (λhd16=>?_) (λhd16=>?_))))))
 {
 have h:=aA hd16 h;refine ae (ah (qM E rfl λa E=>qA E rfl λa E=>qA E rfl λa E=>ag (bA ?_)));obtain rfl:=oi h
 try dsimp only
 refine f2 E ?_;exact⟨_,hm9,hS,_,_,rfl,dL,(aq hr12)⟩}
 {
 have h:=aB hd16 h;refine aQ (ae (ah (qM E rfl λa E=>qM E rfl λa E=>?_)));obtain⟨r22,hr23,h⟩:=ob h;refine st E (aF (vs:=[v1,v3]) E rfl call27 (ol (hS:=hS) (ha1.mono hm9) (ha3.mono hm9) hr23)) rfl ?_;rintro v27 a w ⟨m24,hm25,hS,hv26⟩ E;refine qA E rfl λa E=>ag (ae (ah ?_))
 refine st E (Ek (k:=(ai .u8)) (xs:=[72,65,89,49]) (vs:=[(.int .u8 72),(.int .u8 65),(.int .u8 89),(.int .u8 49)]) E hS rfl underlying24 sizeOf5 zeroValue5 ⟨(aq (show inR .u8 72 from aw (by decide))),(aq (show inR .u8 65 from aw (by decide))),(aq (show inR .u8 89 from aw (by decide))),(aq (show inR .u8 49 from aw (by decide))),trivial⟩ rfl (by decide)) rfl ?_;rintro v36 a w ⟨m30,hm31,hS,hv29,b32,_,he33,hB34,hm35⟩ E;refine st E (Cy E hS rfl underlying24 underlying5 he33 hB34 hm35 (i:=0) rfl) rfl ?_;rintro v37 a _ ⟨rfl,hS⟩ E
 refine qM E rfl λa E=>sp E (cl E rfl underlying3 underlying5 rfl) rfl λa E=>qM E rfl λa E=>sp E (bd (k:=(ai .i64)) E rfl rfl underlying49 (ha1.mono (Z0 hm9 (Z0 hm25 hm31)))) rfl λa E=>sp E (cl E rfl underlying3 underlying5 rfl) rfl λa E=>?_;refine st E (fC (k:=(ai .u8)) (xs:=[Z5.wrap p0,Z5.wrap (p1.length:Int)]) (vs:=[(.int .u8 (Z5.wrap p0)),(.int .u8 (Z5.wrap (p1.length:Int)))]) E hS rfl underlying24 sizeOf5 zeroValue5 ⟨(aq (ak _ _)),(aq (ak _ _)),trivial⟩ rfl (by decide)) rfl ?_;rintro v46 a w ⟨m44,hm45,hS,hv43⟩ E;obtain⟨z47,hz48,h⟩:=ob h
 refine st E (kt (k:=(ai .u8)) (N:=140737488355328) E hS rfl rfl underlying24 underlying24 el5 (i:=1) rfl (hv29.mono hm45) hv43 hz48 rfl rfl) rfl ?_;rintro v52 a w ⟨m50,hm51,hS,hv49⟩ E;refine qA E rfl λa E=>ag (ae (ae (ah (qM E rfl λa E=>sp E (bd (k:=(ai .i64)) E rfl rfl underlying49 (ha1.mono (Z0 hm9 (Z0 hm25 (Z0 hm31 (Z0 hm45 hm51)))))) rfl λa E=>qM E rfl λa E=>ag ?_))));refine bw (λa w=>∃x59:(List Int),dX p0 p2 r22 x59=some r∧∃m',M.le m50 m'∧∃(v60:Value),RV (kSl (ai .u8)) m' v60 x59∧S W0 m' w L ((1,v60)::TL)∧Env 88 a [(0,.int .i64 p0),(2,v2),(3,v27),(11,v60)]) ?_ ?_
 {
 refine aJ ?_;refine cH h (λ(s:List Int×Int) a w=>∃m',M.le m50 m'∧∃(v184:Value),RV (kSl (ai .u8)) m' v184 s.1∧inR .i64 s.2∧S W0 m' w L ((1,v184)::TL)∧Env 88 a [(0,.int .i64 p0),(2,v2),(3,v27),(11,v184),(36,v1),(37,.int .i64 (p1.length:Int)),(38,.int .i64 s.2)]) ?_ ?_
 {exact⟨_,(Z3 _),v52,hv49,(show inR .i64 0 from aw (by decide)),(hS.pickT 2 [1] rfl rfl rfl),kut E⟩}
 {
 rintro ⟨x183,x186⟩ a w ⟨m181,hm182,v184,hv185,hr187,hS,E⟩ r188 h hb189;have h:eK p0 p1 p2 r22 x183 x186=some r188:=h;unfold eK at h;refine ae (ah (qB E rfl rfl bn λa E=>ag (ae (kif E rfl (λhd191=>?_) (λhd191=>?_)))))
 {
 have h:=aA hd191 h;refine aQ (ae (aJ (ae (ah ?_))));obtain⟨x192,hx193,h⟩:=ob h;refine st E (dT (k:=(ai .i64)) E rfl rfl underlying49 sizeOf3 (ha1.mono (Z0 hm9 (Z0 hm25 (Z0 hm31 (Z0 hm45 (Z0 hm51 hm182)))))) hx193) rfl ?_;rintro v195 a _ ⟨rfl,hp194⟩ E;refine st E (bG E hS ty3 rfl hp194) rfl ?_;rintro v197 a _ ⟨rfl,hv196⟩ E;obtain⟨rfl,hr198⟩:=aG hv196;refine qA E rfl λa E=>ag (ah (qM E rfl λa E=>qM E rfl λa E=>sp E (cl E rfl underlying3 underlying5 rfl) rfl λa E=>?_))
 refine st E (fC (k:=(ai .u8)) (xs:=[Z5.wrap x192]) (vs:=[(.int .u8 (Z5.wrap x192))]) E hS rfl underlying24 sizeOf5 zeroValue5 ⟨(aq (ak _ _)),trivial⟩ rfl (by decide)) rfl ?_;rintro v206 a w ⟨m204,hm205,hS,hv203⟩ E;obtain⟨z207,hz208,h⟩:=ob h;refine st E (kt (k:=(ai .u8)) (N:=140737488355328) E hS rfl rfl underlying24 underlying24 el5 (i:=1) rfl (hv185.mono hm205) hv203 hz208 rfl rfl) rfl ?_;rintro v212 a w ⟨m210,hm211,hS,hv209⟩ E;refine qA E rfl λa E=>ag (ah (qB E rfl rfl (be rfl) λa E=>qM E rfl λa E=>ag ?_))
 exact⟨(z207,Z1.wrap (x186+1)),(Option.some.inj h).symm,_,(Z0 hm182 (Z0 hm205 hm211)),v212,hv209,(ak _ _),(hS.pickT 2 [1] rfl rfl rfl),kut E⟩}
 {have h:=aB hd191 h;refine cC rfl rfl ?_;have h:=bE h hb189;exact⟨x183,h,_,hm182,v184,hv185,hS,kut E⟩}}}
 {
 rintro a w ⟨x59,h,m57,hm58,v60,hv61,hS,E⟩;unfold dX at h;refine ae (ah (qM E rfl λa E=>qM E rfl λa E=>sp E (bd (k:=ab) E rfl rfl underlying50 (hv26.mono (Z0 hm31 (Z0 hm45 (Z0 hm51 hm58))))) rfl λa E=>?_));obtain⟨r66,hr67,h⟩:=ob h;refine st E (aF (vs:=[v60,(.int .i64 (r22.length:Int))]) E rfl call75 (pT (hS:=hS) hv61 (dK (iH (hv26.mono (Z0 hm31 (Z0 hm45 (Z0 hm51 hm58)))))) hr67)) rfl ?_;rintro v71 a w ⟨m68,hm69,hS,hv70⟩ E;refine qA E rfl λa E=>ag (ae (ae (ah (qM E rfl λa E=>qB E rfl rfl (be rfl) λa E=>qM E rfl λa E=>ag ?_))))
 refine bw (λa w=>∃x78:(List Int),dU x78=some r∧∃m',M.le m68 m'∧∃(v79:Value),RV (kSl (ai .u8)) m' v79 x78∧S W0 m' w L ((1,v79)::TL)∧Env 88 a [(11,v79)]) ?_ ?_
 {
 refine aJ ?_;refine cH h (λ(s:List Int×Int) a w=>∃m',M.le m68 m'∧∃(v103:Value),RV (kSl (ai .u8)) m' v103 s.1∧inR .i64 s.2∧S W0 m' w L ((1,v103)::TL)∧Env 88 a [(0,.int .i64 p0),(2,v2),(3,v27),(11,v103),(53,.int .i64 (Z1.wrap (p0+3))),(54,.int .i64 s.2)]) ?_ ?_
 {exact⟨_,(Z3 _),v71,hv70,(show inR .i64 0 from aw (by decide)),hS,kut E⟩}
 {
 rintro ⟨x102,x105⟩ a w ⟨m100,hm101,v103,hv104,hr106,hS,E⟩ r107 h hb108;have h:dW p0 p2 r22 x102 x105=some r107:=h;unfold dW at h;refine ae (ah (qB E rfl rfl bn λa E=>ag (ae (kif E rfl (λhd110=>?_) (λhd110=>?_)))))
 {
 have h:=aA hd110 h;refine aQ (ae (aJ (ae (ah (qM E rfl λa E=>qA E rfl λa E=>ag (ae (ah ?_)))))));refine qA E rfl λa E=>ag (ae (ae ?_));refine bw (λa w=>∃x116:Bool,dV p0 p2 r22 x102 x105 x116=some r107∧∃m',M.le m100 m'∧S W0 m' w L ((1,v103)::TL)∧Env 88 a [(0,.int .i64 p0),(2,v2),(3,v27),(11,v103),(14,.int .i64 x105),(15,.int .i64 (-1)),(53,.int .i64 (Z1.wrap (p0+3))),(54,.int .i64 x105),(65,.bool x116)]) ?_ ?_
 {
 refine ah (qM E rfl λa E=>qM E rfl λa E=>qB E rfl rfl bn λa E=>qM E rfl λa E=>?_);rcases Z2 (decide (x105<p0)) with hd174|hd174
 {have h:=aA hd174 h;refine qG E hd174 rfl λa E=>qG E hd174 rfl λa E=>spg E rfl rfl rfl rfl hd174 (bd (k:=(ai .i64)) E rfl rfl underlying49 (ha2.mono (Z0 hm9 (Z0 hm25 (Z0 hm31 (Z0 hm45 (Z0 hm51 (Z0 hm58 (Z0 hm69 hm101))))))))) rfl λa E=>spg E rfl rfl rfl rfl hd174 (aP E rfl rfl bn) rfl λa E=>qT E hd174 rfl λa E=>ag ?_;exact⟨(decide (x105<(p2.length:Int))),h,_,(Z3 _),hS,kut E⟩}
 {have h:=aB hd174 h;refine qX E hd174 λa E=>qX E hd174 λa E=>qX E hd174 λa E=>qX E hd174 λa E=>qF E hd174 rfl λa E=>ag ?_;exact⟨false,h,_,(Z3 _),hS,kut E⟩}}
 {
 rintro a w ⟨x116,h,m114,hm115,hS,E⟩;unfold dV at h;refine bw (λa w=>∃x120:Int,eJ p0 r22 x102 x105 x120=some r107∧∃m',M.le m114 m'∧inR .i64 x120∧S W0 m' w L ((1,v103)::TL)∧Env 88 a [(0,.int .i64 p0),(2,v2),(3,v27),(11,v103),(14,.int .i64 x105),(15,.int .i64 x120),(53,.int .i64 (Z1.wrap (p0+3))),(54,.int .i64 x105)]) ?_ ?_
 {
 refine kif E rfl (λhd159=>?_) (λhd159=>?_)
 {have h:=aA hd159 h;refine ah (qM E rfl λa E=>qM E rfl λa E=>?_);obtain⟨x162,hx163,h⟩:=ob h;refine st E (dT (k:=(ai .i64)) E rfl rfl underlying49 sizeOf3 (ha2.mono (Z0 hm9 (Z0 hm25 (Z0 hm31 (Z0 hm45 (Z0 hm51 (Z0 hm58 (Z0 hm69 (Z0 hm101 hm115))))))))) hx163) rfl ?_;rintro v165 a _ ⟨rfl,hp164⟩ E;refine st E (bG E hS ty3 rfl hp164) rfl ?_;rintro v167 a _ ⟨rfl,hv166⟩ E;obtain⟨rfl,hr168⟩:=aG hv166;refine qA E rfl λa E=>ag ?_;exact⟨x162,h,_,(Z3 _),hr168,hS,kut E⟩}
 {have h:=aB hd159 h;refine aQ ?_;exact⟨(-1),h,_,(Z3 _),(show inR .i64 (-1) from aw (by decide)),hS,kut E⟩}}
 {
 rintro a w ⟨x120,h,m118,hm119,hr121,hS,E⟩;unfold eJ at h;refine ae (ah (qM E rfl λa E=>qM E rfl λa E=>qM E rfl λa E=>qM E rfl λa E=>?_));obtain⟨r127,hr128,h⟩:=ob h;refine st E (aF (vs:=[(.int .i64 p0),(.int .i64 x105),v27]) E rfl call77 (si (hS:=hS) ha0 hr106 (hv26.mono (Z0 hm31 (Z0 hm45 (Z0 hm51 (Z0 hm58 (Z0 hm69 (Z0 hm101 (Z0 hm115 hm119)))))))) hr128)) rfl ?_;rintro v132 a w ⟨m129,hm130,hS,hv131⟩ E;obtain⟨r133,hr134,h⟩:=ob h;refine st E (aF (vs:=[(.int .i64 x120),v132]) E rfl call76 (sk (hS:=hS) hr121 hv131 hr134)) rfl ?_;rintro v138 a w ⟨m135,hm136,hS,hv137⟩ E
 refine qA E rfl λa E=>ag (ah (qM E rfl λa E=>qM E rfl λa E=>sp E (bd (k:=(ai .u8)) E rfl rfl underlying24 hv137) rfl λa E=>?_));obtain⟨r143,hr144,h⟩:=ob h;refine st E (aF (vs:=[v103,(.int .i64 (r133.length:Int))]) E rfl call75 (pT (hS:=(hS.pickT 3 [2,0,1] rfl rfl rfl)) (hv104.mono (Z0 hm115 (Z0 hm119 (Z0 hm130 hm136)))) (dK (iH hv137)) hr144)) rfl ?_;rintro v148 a w ⟨m145,hm146,hS,hv147⟩ E;refine qM E rfl λa E=>?_;obtain⟨z150,hz151,h⟩:=ob h
 refine st E (kt (k:=(ai .u8)) (N:=140737488355328) E hS rfl rfl underlying24 underlying24 el5 (i:=0) rfl hv147 (hv137.mono hm146) hz151 rfl rfl) rfl ?_;rintro v155 a w ⟨m153,hm154,hS,hv152⟩ E;refine qA E rfl λa E=>ag (ah (qB E rfl rfl (be rfl) λa E=>qM E rfl λa E=>ag ?_));exact⟨(z150,Z1.wrap (x105+1)),(Option.some.inj h).symm,_,(Z0 hm101 (Z0 hm115 (Z0 hm119 (Z0 hm130 (Z0 hm136 (Z0 hm146 hm154)))))),v155,hv152,(ak _ _),(hS.pickT 3 [0] rfl rfl rfl),kut E⟩}}}
 {have h:=aB hd110 h;refine cC rfl rfl ?_;have h:=bE h hb108;exact⟨x102,h,_,hm101,v103,hv104,hS,kut E⟩}}}
 {
 rintro a w ⟨x78,h,m76,hm77,v79,hv80,hS,E⟩;unfold dU at h;refine ae (ah (qM E rfl λa E=>qM E rfl λa E=>?_));obtain⟨r84,hr85,h⟩:=ob h;refine st E (aF (vs:=[v79]) E rfl call78 (xU (hS:=hS) hv80 hr85)) rfl ?_;rintro v89 a w ⟨m86,hm87,hS,hv88⟩ E;obtain⟨rfl,hr90⟩:=aG hv88;refine sp E (cl E rfl underlying55 underlying3 rfl) rfl λa E=>?_;obtain⟨r92,hr93,h⟩:=ob h;refine st E (aF (vs:=[v79,(.int .i64 (Z1.wrap r84))]) E rfl call75 (pT (hS:=hS) (hv80.mono hm87) (ak _ _) hr93)) rfl ?_;rintro v97 a w ⟨m94,hm95,hS,hv96⟩ E;refine qA E rfl λa E=>qA E rfl λa E=>ag (bA ?_);obtain rfl:=oi h
 try dsimp only
 refine f2 E ?_;exact⟨_,(Z0 hm9 (Z0 hm25 (Z0 hm31 (Z0 hm45 (Z0 hm51 (Z0 hm58 (Z0 hm69 (Z0 hm77 (Z0 hm87 hm95))))))))),(hS.dropT 1),_,_,rfl,hv96,(aq (show inR .i64 0 from aw (by decide)))⟩}}}
theorem QA:Ctr Sz prog 82 [.rd (.sl (.int .u8))] [.rd (.int .i64)] (fun x=>dp x.1):=
 ncR [] [2] func82 ntmps82 .o λx=>by kernel_rfl
theorem lm  (hS:S W0 m w L TL) {p0} (ha0:RV (kSl (ai .u8)) m v0 p0) {r} (h:dp p0=some r):
    Calls prog 82 [v0].toArray w (Ret λv w'=>∃m',M.le m m'∧S W0 m' w' L TL∧RV (ai .i64) m' v r):=by
 refine rm (QA W0 m w L TL [v0] (p0,()) r [] [] hS ⟨ha0,trivial⟩ h) λv w' he=>?_;obtain⟨m',us,Lr,Lq,Tr,hm,Z',rfl,hR,hO⟩:=he;obtain⟨u0,us,rfl,r0,hR0⟩:=dC hR;obtain⟨rfl,rfl,rfl⟩:=cE hR0;have hO0:=bT hO;obtain rfl:=cF hO0;exact⟨m',hm,Z',r0⟩
theorem vC  {b0_:Nat} (hS:S W0 m w ((b0_,s6)::L) (TL)) {p1} (ha1:RV (kSl (ai .u8)) m v1 p1) {r} (h:iL p1=some r):
    Calls prog 83 [(pz b0_),v1].toArray w (Ret λv w'=>∃m',M.le m m'∧∃q0_:List Value,S W0 m' w' ((b0_,q0_)::L) (TL)∧cd.R m' q0_ r.2.2.2∧∃v0_ v1_ v2_:Value,v= .tuple #[v0_,v1_,v2_]∧RV (ai .i64) m' v0_ r.1∧RV (kSl (ai .u8)) m' v1_ r.2.1∧RV cO m' v2_ r.2.2.1):=by
 refine kc func83 ntmps83 λa E=>?_;have E:Env 83 a [(0,pz b0_),(1,v1)]:=E;unfold iL at h;refine ae (ah (qA E rfl λa E=>qA E rfl λa E=>qA E rfl λa E=>ag (ae (ae ?_))));refine bw (λa w=>∃x6:Bool,eT p1 x6=some r∧∃m',M.le m m'∧S W0 m' w ((b0_,s6)::L) (TL)∧Env 83 a [(0,pz b0_),(1,v1),(21,.bool x6)]) ?_ ?_
 {
 refine ah (qM E rfl λa E=>sp E (bd (k:=(ai .u8)) E rfl rfl underlying24 ha1) rfl λa E=>qB E rfl rfl bn λa E=>qM E rfl λa E=>?_);rcases Z2 (decide ((p1.length:Int)<6)) with hd354|hd354
 {have h:=aA hd354 h;refine qX E hd354 λa E=>qX E hd354 λa E=>qX E hd354 λa E=>qX E hd354 λa E=>qX E hd354 λa E=>qX E hd354 λa E=>qT E hd354 rfl λa E=>ag ?_;exact⟨true,h,_,(Z3 _),hS,kut E⟩}
 {
 have h:=aB hd354 h;refine qG E hd354 rfl λa E=>?_;obtain⟨x357,hx358,h⟩:=ob h;refine stg E rfl rfl rfl rfl hd354 (eD (k:=(ai .u8)) E rfl underlying24 sizeOf5 ha1 rfl ⟨_,rfl⟩ hx358 (xl:=none) (xh:=(some (.const (.int .i64 4))))) rfl ?_;rintro v360 a _ ⟨rfl,hv359⟩ E;obtain⟨x361,hx362,h⟩:=ob h;refine stg E rfl rfl rfl rfl hd354 (Ka E rfl underlying178 hv359 hx362) rfl ?_;rintro v364 a _ ⟨rfl,hp363⟩ E;refine stg E rfl rfl rfl rfl hd354 (bG E hS PX rfl hp363) rfl ?_;rintro v366 a _ ⟨rfl,hv365⟩ E
 refine stg E rfl rfl rfl rfl hd354 (Gt (m:=m) E rfl underlying178 sizeOf5 zeroValue178 (show inR .u8 72 from aw (by decide)) (show inR .u8 65 from aw (by decide)) (show inR .u8 89 from aw (by decide)) (show inR .u8 49 from aw (by decide))) rfl ?_;rintro v368 a _ ⟨rfl,hv367⟩ E;refine spg E rfl rfl rfl rfl hd354 (vK E PY rfl rfl hv365 hv367 rfl) rfl λa E=>qF E hd354 rfl λa E=>ag ?_;exact⟨(!decide (x361=(72,65,89,49))),h,_,(Z3 _),hS,kut E⟩}}
 {
 rintro a w ⟨x6,h,m4,hm5,hS,E⟩;unfold eT at h;refine kif E rfl (λhd8=>?_) (λhd8=>?_)
 {
 have h:=aA hd8 h;refine ae (ah (qA E rfl λa E=>qA E rfl λa E=>qA E rfl λa E=>ag (bA ?_)));obtain rfl:=oi h
 try dsimp only
 refine Fin.mk E (rs:=[.tmp 4,.tmp 5,.tmp 6]) rfl (rx.tmp E rfl (rx.tmp E rfl (rx.tmp E rfl rx.nil))) ?_;exact⟨_,hm5,s6,hS,(Ca _),_,_,_,rfl,(aq (show inR .i64 0 from aw (by decide))),dL,dt⟩}
 {
 have h:=aB hd8 h;refine aQ (ae (ah (qM E rfl λa E=>qM E rfl λa E=>?_)));obtain⟨x14,hx15,h⟩:=ob h;refine st E (dT (k:=(ai .u8)) E rfl rfl underlying24 sizeOf5 (ha1.mono hm5) hx15) rfl ?_;rintro v17 a _ ⟨rfl,hp16⟩ E;refine st E (bG E hS ty5 rfl hp16) rfl ?_;rintro v19 a _ ⟨rfl,hv18⟩ E;obtain⟨rfl,hr20⟩:=aG hv18;refine sp E (cl E rfl underlying5 underlying3 rfl) rfl λa E=>sp E (ci E rfl) rfl λa E=>sp E (aM E oE rfl) rfl λa E=>?_;refine st0 E (Gu E hS ty3 EW rfl rfl (aq (ak _ _)) (i:=0) rfl (Ca _)) ?_;rintro _ w ⟨cs24,hc25,hk26,hS⟩ E;refine ag (ae (ah (qM E rfl λa E=>?_)))
 obtain⟨x29,hx30,h⟩:=ob h;refine st E (dT (k:=(ai .u8)) E rfl rfl underlying24 sizeOf5 (ha1.mono hm5) hx30) rfl ?_;rintro v32 a _ ⟨rfl,hp31⟩ E;refine st E (bG E hS ty5 rfl hp31) rfl ?_;rintro v34 a _ ⟨rfl,hv33⟩ E;obtain⟨rfl,hr35⟩:=aG hv33;refine sp E (cl E rfl underlying5 underlying3 rfl) rfl λa E=>qA E rfl λa E=>ag (ae (ah (qM E rfl λa E=>?_)));obtain⟨x39,hx40,h⟩:=ob h;refine st E (eD (k:=(ai .u8)) E rfl underlying24 sizeOf5 (ha1.mono hm5) ⟨_,rfl⟩ rfl hx40 (xl:=(some (.const (.int .i64 6)))) (xh:=none)) rfl ?_;rintro v42 a _ ⟨rfl,hv41⟩ E
 refine qA E rfl λa E=>ag (ae (ae (ah (qM E rfl λa E=>sp E (bd (k:=(ai .u8)) E rfl rfl underlying24 hv41) rfl λa E=>qM E rfl λa E=>qB E rfl rfl (be rfl) λa E=>qB E rfl rfl bn λa E=>?_))));refine ag (kif E rfl (λhd49=>?_) (λhd49=>?_))
 {
 have h:=aA hd49 h;refine ae (ah (qA E rfl λa E=>qA E rfl λa E=>qA E rfl λa E=>ag (bA ?_)));obtain rfl:=oi h
 try dsimp only
 refine Fin.mk E (rs:=[.tmp 4,.tmp 5,.tmp 6]) rfl (rx.tmp E rfl (rx.tmp E rfl (rx.tmp E rfl rx.nil))) ?_;exact⟨_,hm5,cs24,hS,hc25,_,_,_,rfl,(aq (show inR .i64 0 from aw (by decide))),dL,dt⟩}
 {
 have h:=aB hd49 h;refine aQ (ae (ae (ah (qM E rfl λa E=>qM E rfl λa E=>?_))));obtain⟨x55,hx56,h⟩:=ob h;refine st E (eD (k:=(ai .u8)) E rfl underlying24 sizeOf5 hv41 rfl ⟨_,rfl⟩ hx56 (xl:=none) (xh:=(some (.tmp 41)))) rfl ?_;rintro v58 a _ ⟨rfl,hv57⟩ E;refine sp E (bd (k:=(ai .u8)) E rfl rfl underlying24 hv57) rfl λa E=>qM E rfl λa E=>ag ?_;refine bw (λa w=>∃x63:aI,iS x29 x39 x63=some r∧∃m',M.le m4 m'∧∃(cs64:List Value),∃(v66:Value),cd.R m' cs64 x63∧cs64[1]? =some v66∧S W0 m' w ((b0_,cs64)::L) ((1,v66)::TL)∧Env 83 a [(0,pz b0_),(1,v42),(7,.int .i64 (Z1.wrap x29))]) ?_ ?_
 {
 refine aJ ?_;refine cH h (λ(s:Int×aI) a w=>∃m',M.le m4 m'∧∃(cs308:List Value),∃(v310:Value),inR .i64 s.1∧cd.R m' cs308 s.2∧cs308[1]? =some v310∧S W0 m' w ((b0_,cs308)::L) ((1,v310)::TL)∧Env 83 a [(0,pz b0_),(1,v42),(7,.int .i64 (Z1.wrap x29)),(42,v58),(43,.int .i64 (x55.length:Int)),(44,.int .i64 s.1)]) ?_ ?_
 {exact⟨_,(Z3 _),cs24,(.slice none 0 0),(show inR .i64 0 from aw (by decide)),hc25,(hk26 1 _ rfl (by decide)),(hS.tail0 1),kut E⟩}
 {
 rintro ⟨x305,x307⟩ a w ⟨m303,hm304,cs308,v310,hr306,hc309,hq311,hS,E⟩ r312 h hb313;have h:gu x29 x39 x55 x305 x307=some r312:=h;unfold gu at h;refine ae (ah (qB E rfl rfl bn λa E=>ag (ae (kif E rfl (λhd315=>?_) (λhd315=>?_)))))
 {
 have h:=aA hd315 h;refine aQ (ae (aJ (ae (ah ?_))));obtain⟨x316,hx317,h⟩:=ob h;refine st E (dT (k:=(ai .u8)) E rfl rfl underlying24 sizeOf5 (hv57.mono hm304) hx317) rfl ?_;rintro v319 a _ ⟨rfl,hp318⟩ E;refine st E (bG E hS ty5 rfl hp318) rfl ?_;rintro v321 a _ ⟨rfl,hv320⟩ E;obtain⟨rfl,hr322⟩:=aG hv320
 refine qA E rfl λa E=>ag (ah (qM E rfl λa E=>qM E rfl λa E=>sp E (ci E rfl) rfl λa E=>sp E (aM E pS rfl) rfl λa E=>sp E (uy (k:=(ai .i64)) (xx:=x307.fSort) (v:=v310) E hS tL rfl (i:=0) rfl (AP.R_drop (aR hc309)) hq311) rfl λa E=>qM E rfl λa E=>sp E (cl E rfl underlying5 underlying3 rfl) rfl λa E=>?_));refine st E (fC (k:=(ai .i64)) (xs:=[Z1.wrap x316]) (vs:=[(.int .i64 (Z1.wrap x316))]) E hS rfl underlying49 sizeOf3 zeroValue3 ⟨(aq (ak _ _)),trivial⟩ rfl (by decide)) rfl ?_;rintro v335 a w ⟨m333,hm334,hS,hv332⟩ E;obtain⟨z336,hz337,h⟩:=ob h
 refine st E (kt (k:=(ai .i64)) (N:=17592186044416) E hS rfl rfl underlying49 underlying49 el3 (i:=1) rfl ((B5 (k:=(ai .i64)) (AP.R_drop (aR hc309)) hq311).mono hm334) hv332 hz337 rfl rfl) rfl ?_;rintro v341 a w ⟨m339,hm340,hS,hv338⟩ E;refine sp E (ci E rfl) rfl λa E=>sp E (aM E pS rfl) rfl λa E=>?_;refine st0 E (E9 E hS tL EX rfl rfl hv338 (i:=0) rfl (cd.mono (Z0 hm334 hm340) hc309)) ?_;rintro _ w ⟨cs344,hc345,hq346,hS⟩ E;refine ag (ah (qB E rfl rfl (be rfl) λa E=>qM E rfl λa E=>ag ?_))
 exact⟨(Z1.wrap (x305+1),{ x307 with fSort:=z336 }),(Option.some.inj h).symm,_,(Z0 hm304 (Z0 hm334 hm340)),cs344,v341,(ak _ _),hc345,hq346,(hS.pickT 2 [1] rfl rfl rfl),kut E⟩}
 {have h:=aB hd315 h;refine cC rfl rfl ?_;have h:=bE h hb313;exact⟨x307,h,_,hm304,cs308,v310,hc309,hq311,hS,kut E⟩}}}
 {
 rintro a w ⟨x63,h,m61,hm62,cs64,v66,hc65,hq67,hS,E⟩;unfold iS at h;refine ae (ah (qM E rfl λa E=>qM E rfl λa E=>?_));obtain⟨x71,hx72,h⟩:=ob h;refine st E (eD (k:=(ai .u8)) E rfl underlying24 sizeOf5 (hv41.mono hm62) ⟨_,rfl⟩ rfl hx72 (xl:=(some (.tmp 61))) (xh:=none)) rfl ?_;rintro v74 a _ ⟨rfl,hv73⟩ E;obtain⟨r75,hr76,h⟩:=ob h;refine st E (aF (vs:=[v74]) E rfl call82 (lm (hS:=hS) hv73 hr76)) rfl ?_;rintro v80 a w ⟨m77,hm78,hS,hv79⟩ E;obtain⟨rfl,hr81⟩:=aG hv79;refine qA E rfl λa E=>ag (ae ?_)
 refine bw (λa w=>∃x85:Int,∃x87:(List Int),∃x90:Bool,gt x63 x85 x87 x90=some r∧∃m',M.le m77 m'∧∃(v88:Value),inR .i64 x85∧RV (kSl (ai .u8)) m' v88 x87∧S W0 m' w ((b0_,cs64)::L) ((1,v66)::TL)∧Env 83 a [(4,.int .i64 x85),(5,v88),(6,.bool x90)]) ?_ ?_
 {
 obtain⟨x92,hx93,r98,hr99,h⟩:=ob2 h;rcases Z2 (r98==0) with hd104|hd104
 {
 have h:=aA hd104 h
 refine kch (k:=21) (m:=m77) (es:=[]) (Φ:=(λi m ws v=>match i with|0=>ei .i64 r75 v|1=>v=v42|2=>ei .i64 (Z1.wrap x29) v|3=>ei .i64 (Z1.wrap ((Z1.wrap x29)+4)) v|4=>RV (kSl (ai .u8)) m v x92|5=>v=(pz b0_)|6=>v=(pz b0_)|7=>v=(pz b0_)|8=>ei .i64 x63.fColumns v|9=>v=(pz b0_)|10=>v=(pz b0_)|11=>v=(.pointer (some ⟨b0_,1,none⟩))|12=>v=v66|13=>ei .i64 r98 v|14=>v=(.bool (r98==0))|15=>v=(.bool (r98==0))|16=>ei .i64 r75 v|17=>v=(.bool (decide (r75≤4096)))|18=>v=(.bool (decide (r75≤4096)))|19=>ei .i64 r75 v|20=>RV (kSl (ai .u8)) m v x92|_=>True)) (Q:=(λc m ws L' TL'=>match c with|0=>(b0_,cs64)::L=L'∧(1,v66)::TL=TL'|_=>False)) (cs:=[⟨0,0,false,[(10,.int .i64 r75)]⟩,⟨0,0,false,[(1,v42)]⟩,⟨0,0,false,[(7,.int .i64 (Z1.wrap x29))]⟩,⟨0,0,false,[]⟩,⟨0,0,false,[]⟩,⟨0,0,false,[(0,pz b0_)]⟩,⟨0,0,false,[]⟩,⟨0,0,false,[]⟩,⟨0,0,false,[]⟩,⟨0,0,false,[(0,pz b0_)]⟩,⟨0,0,false,[]⟩,⟨0,0,false,[]⟩,⟨0,0,false,[]⟩,⟨0,0,false,[]⟩,⟨0,0,false,[]⟩,⟨0,0,false,[]⟩,⟨0,0,false,[(10,.int .i64 r75)]⟩,⟨0,0,false,[]⟩,⟨0,0,false,[]⟩,⟨0,0,false,[]⟩,⟨0,0,false,[]⟩]) mixed E hS ⟨rfl,rfl⟩ rfl rfl (by kernel_rfl) ?_ ?_ ?_ ?_
 {
 intro i m_ m2_ ws v n_ q_
 iterate 21 (rcases i with _|i;first|exact q_|exact RV.mono q_ n_)
 exact trivial}
 {
 intro c m_ m2_ ws L_ T_ n_ hq_
 match c,hq_ with
 |0,⟨e1_,e2_⟩=>exact⟨e1_,e2_⟩
 |_+1,hq_=>exact hq_.elim}
 {
 refine⟨?_,?_,?_,?_,?_,?_,?_,?_,?_,?_,?_,?_,?_,?_,?_,?_,?_,?_,?_,?_,?_,trivial⟩
 {exact cmv λ_ _=>⟨rfl,hr81⟩}
 {exact cmv λ_ _=>rfl}
 {exact cmv λ_ _=>⟨rfl,(ak _ _)⟩}
 {refine cp0 λ_ _ _ _ _ _ _ _ _ Z' E' T'=>?_;have E:=E'.add (T' 2).1;exact cq (aP E rfl rfl (be rfl)) Z' ⟨rfl,(ak _ _)⟩}
 {refine cp0 λ_ _ _ _ _ _ _ M' _ Z' E' T'=>?_;have E:=(E'.add (T' 1)).add (T' 3).1;exact cr (eD (k:=(ai .u8)) E rfl underlying24 sizeOf5 (hv41.mono (Z0 hm62 (Z0 hm78 M'))) ⟨_,rfl⟩ rfl hx93 (xl:=(some (.tmp 67))) (xh:=none)) Z' λ_ h=>h}
 {exact cmv λ_ _=>rfl}
 {refine cp0 λ_ _ _ _ _ _ _ _ _ Z' E' T'=>?_;have E:=E'.add (T' 5);exact cq (ci E rfl) Z' rfl}
 {refine cp0 λ_ _ _ _ _ _ _ _ _ Z' E' T'=>?_;have E:=E'.add (T' 6);exact cq (aM E oE rfl) Z' rfl}
 {refine cp1 λ_ _ _ _ _ M' Q' Z' E' T'=>?_;obtain⟨rfl,rfl⟩:=Q';have E:=E'.add (T' 7);exact cr (aC E Z' ty3 rfl (i:=0) rfl (EU.R_drop (aR (cd.mono (Z0 hm78 M') hc65)))) Z' λ_ h=>aG h}
 {exact cmv λ_ _=>rfl}
 {refine cp0 λ_ _ _ _ _ _ _ _ _ Z' E' T'=>?_;have E:=E'.add (T' 9);exact cq (ci E rfl) Z' rfl}
 {refine cp0 λ_ _ _ _ _ _ _ _ _ Z' E' T'=>?_;have E:=E'.add (T' 10);exact cq (aM E pS rfl) Z' rfl}
 {refine cp1 λ_ _ _ _ _ M' Q' Z' E' T'=>?_;obtain⟨rfl,rfl⟩:=Q';have E:=E'.add (T' 11);exact cq (uy (k:=(ai .i64)) (xx:=x63.fSort) (v:=v66) E Z' tL rfl (i:=0) rfl (AP.R_drop (aR (cd.mono (Z0 hm78 M') hc65))) hq67) Z' rfl}
 {refine cp0 λ_ _ _ _ _ _ _ M' _ Z' E' T'=>?_;obtain⟨q150,hr151⟩:=T' 8;have E:=(E'.add q150).add (T' 12);refine bg.imp (aF (vs:=[(.int .i64 x63.fColumns),v66,(.slice none 0 0)]) E rfl call74 (iQ (hS:=Z') hr151 ((B5 (k:=(ai .i64)) (AP.R_drop (aR (cd.mono hm78 hc65))) hq67).mono M') dL hr99)) ?_;rintro v155 w ⟨m100,hm101,hS,hv102⟩;obtain⟨rfl,hr156⟩:=aG hv102;exact⟨_,hm101,hS,⟨rfl,hr156⟩⟩}
 {refine cp0 λ_ _ _ _ _ _ _ _ _ Z' E' T'=>?_;have E:=E'.add (T' 13).1;exact cq (aP E rfl rfl gg) Z' rfl}
 {refine cp0 λ_ _ _ _ _ _ _ _ _ Z' E' T'=>?_;have E:=E'.add (T' 14);exact cq (iF E rfl) Z' rfl}
 {exact cgm (gz hd104) (λ_ _=>⟨rfl,hr81⟩)}
 {refine cg0 (gz hd104) λ_ _ _ _ _ _ _ _ _ Z' E' T'=>?_;have E:=E'.add (T' 16).1;exact cq (aP E rfl rfl BX) Z' rfl}
 {refine cp0 λ_ _ _ _ _ _ _ _ _ Z' E' T'=>?_;have E:=(E'.add (T' 15)).add (T' 17);exact cq (tT E rfl hd104 rfl) Z' rfl}
 {refine cp0 λ_ _ _ _ _ _ _ _ _ Z' E' T'=>?_;obtain⟨q181,hr182⟩:=T' 0;have E:=E'.add q181;exact cq (ma E rfl) Z' ⟨rfl,hr182⟩}
 {refine cp0 λ_ _ _ m' a' _ _ _ _ Z' E' T'=>?_;obtain⟨v184,E,q186⟩:=adv E' (T' 4);exact cq (ma E rfl) Z' q186}}
 {intro ws_ L_ T_ m188 a w hl189 hm190 hq191 hS hd192 hn193 ho194 hT195;obtain rfl:=eh hl189;obtain⟨rfl,rfl⟩:=hq191;have E:=eof 21 [(0,pz b0_),(1,v42),(7,.int .i64 (Z1.wrap x29)),(10,.int .i64 r75),(60,v42),(61,.int .i64 (Z1.wrap x29)),(62,v74),(63,.int .i64 r75)] hd192 hn193 ho194;have E:=E.add (hT195 18);obtain⟨q201,hr202⟩:=hT195 19;have E:=E.add q201;obtain⟨v203,E,q205⟩:=adv E (hT195 20);refine qA E rfl λa E=>ag ?_;exact⟨r75,x92,(decide (r75≤4096)),h,_,hm190,v203,hr202,q205,hS,kut E⟩}}
 {
 have h:=aB hd104 h
 refine kch (k:=21) (m:=m77) (es:=[]) (Φ:=(λi m ws v=>match i with|0=>ei .i64 r75 v|1=>v=v42|2=>ei .i64 (Z1.wrap x29) v|3=>ei .i64 (Z1.wrap ((Z1.wrap x29)+4)) v|4=>RV (kSl (ai .u8)) m v x92|5=>v=(pz b0_)|6=>v=(pz b0_)|7=>v=(pz b0_)|8=>ei .i64 x63.fColumns v|9=>v=(pz b0_)|10=>v=(pz b0_)|11=>v=(.pointer (some ⟨b0_,1,none⟩))|12=>v=v66|13=>ei .i64 r98 v|14=>v=(.bool (r98==0))|15=>v=(.bool (r98==0))|16=>v=undef|17=>v=undef|18=>v=(.bool false)|19=>ei .i64 r75 v|20=>RV (kSl (ai .u8)) m v x92|_=>True)) (Q:=(λc m ws L' TL'=>match c with|0=>(b0_,cs64)::L=L'∧(1,v66)::TL=TL'|_=>False)) (cs:=[⟨0,0,false,[(10,.int .i64 r75)]⟩,⟨0,0,false,[(1,v42)]⟩,⟨0,0,false,[(7,.int .i64 (Z1.wrap x29))]⟩,⟨0,0,false,[]⟩,⟨0,0,false,[]⟩,⟨0,0,false,[(0,pz b0_)]⟩,⟨0,0,false,[]⟩,⟨0,0,false,[]⟩,⟨0,0,false,[]⟩,⟨0,0,false,[(0,pz b0_)]⟩,⟨0,0,false,[]⟩,⟨0,0,false,[]⟩,⟨0,0,false,[]⟩,⟨0,0,false,[]⟩,⟨0,0,false,[]⟩,⟨0,0,false,[]⟩,⟨0,0,false,[(10,.int .i64 r75)]⟩,⟨0,0,false,[]⟩,⟨0,0,false,[]⟩,⟨0,0,false,[]⟩,⟨0,0,false,[]⟩]) mixed E hS ⟨rfl,rfl⟩ rfl rfl (by kernel_rfl) ?_ ?_ ?_ ?_
 {
 intro i m_ m2_ ws v n_ q_
 iterate 21 (rcases i with _|i;first|exact q_|exact RV.mono q_ n_)
 exact trivial}
 {
 intro c m_ m2_ ws L_ T_ n_ hq_
 match c,hq_ with
 |0,⟨e1_,e2_⟩=>exact⟨e1_,e2_⟩
 |_+1,hq_=>exact hq_.elim}
 {
 refine⟨?_,?_,?_,?_,?_,?_,?_,?_,?_,?_,?_,?_,?_,?_,?_,?_,?_,?_,?_,?_,?_,trivial⟩
 {exact cmv λ_ _=>⟨rfl,hr81⟩}
 {exact cmv λ_ _=>rfl}
 {exact cmv λ_ _=>⟨rfl,(ak _ _)⟩}
 {refine cp0 λ_ _ _ _ _ _ _ _ _ Z' E' T'=>?_;have E:=E'.add (T' 2).1;exact cq (aP E rfl rfl (be rfl)) Z' ⟨rfl,(ak _ _)⟩}
 {refine cp0 λ_ _ _ _ _ _ _ M' _ Z' E' T'=>?_;have E:=(E'.add (T' 1)).add (T' 3).1;exact cr (eD (k:=(ai .u8)) E rfl underlying24 sizeOf5 (hv41.mono (Z0 hm62 (Z0 hm78 M'))) ⟨_,rfl⟩ rfl hx93 (xl:=(some (.tmp 67))) (xh:=none)) Z' λ_ h=>h}
 {exact cmv λ_ _=>rfl}
 {refine cp0 λ_ _ _ _ _ _ _ _ _ Z' E' T'=>?_;have E:=E'.add (T' 5);exact cq (ci E rfl) Z' rfl}
 {refine cp0 λ_ _ _ _ _ _ _ _ _ Z' E' T'=>?_;have E:=E'.add (T' 6);exact cq (aM E oE rfl) Z' rfl}
 {refine cp1 λ_ _ _ _ _ M' Q' Z' E' T'=>?_;obtain⟨rfl,rfl⟩:=Q';have E:=E'.add (T' 7);exact cr (aC E Z' ty3 rfl (i:=0) rfl (EU.R_drop (aR (cd.mono (Z0 hm78 M') hc65)))) Z' λ_ h=>aG h}
 {exact cmv λ_ _=>rfl}
 {refine cp0 λ_ _ _ _ _ _ _ _ _ Z' E' T'=>?_;have E:=E'.add (T' 9);exact cq (ci E rfl) Z' rfl}
 {refine cp0 λ_ _ _ _ _ _ _ _ _ Z' E' T'=>?_;have E:=E'.add (T' 10);exact cq (aM E pS rfl) Z' rfl}
 {refine cp1 λ_ _ _ _ _ M' Q' Z' E' T'=>?_;obtain⟨rfl,rfl⟩:=Q';have E:=E'.add (T' 11);exact cq (uy (k:=(ai .i64)) (xx:=x63.fSort) (v:=v66) E Z' tL rfl (i:=0) rfl (AP.R_drop (aR (cd.mono (Z0 hm78 M') hc65))) hq67) Z' rfl}
 {refine cp0 λ_ _ _ _ _ _ _ M' _ Z' E' T'=>?_;obtain⟨q252,hr253⟩:=T' 8;have E:=(E'.add q252).add (T' 12);refine bg.imp (aF (vs:=[(.int .i64 x63.fColumns),v66,(.slice none 0 0)]) E rfl call74 (iQ (hS:=Z') hr253 ((B5 (k:=(ai .i64)) (AP.R_drop (aR (cd.mono hm78 hc65))) hq67).mono M') dL hr99)) ?_;rintro v257 w ⟨m100,hm101,hS,hv102⟩;obtain⟨rfl,hr258⟩:=aG hv102;exact⟨_,hm101,hS,⟨rfl,hr258⟩⟩}
 {refine cp0 λ_ _ _ _ _ _ _ _ _ Z' E' T'=>?_;have E:=E'.add (T' 13).1;exact cq (aP E rfl rfl gg) Z' rfl}
 {refine cp0 λ_ _ _ _ _ _ _ _ _ Z' E' T'=>?_;have E:=E'.add (T' 14);exact cq (iF E rfl) Z' rfl}
 {exact csk (gz hd104)}
 {exact csk (gz hd104)}
 {refine cp0 λ_ _ _ _ _ _ _ _ _ Z' E' T'=>?_;have E:=(E'.add (T' 15)).add (T' 17);exact cq (tU E rfl hd104 rfl) Z' rfl}
 {refine cp0 λ_ _ _ _ _ _ _ _ _ Z' E' T'=>?_;obtain⟨q277,hr278⟩:=T' 0;have E:=E'.add q277;exact cq (ma E rfl) Z' ⟨rfl,hr278⟩}
 {refine cp0 λ_ _ _ m' a' _ _ _ _ Z' E' T'=>?_;obtain⟨v280,E,q282⟩:=adv E' (T' 4);exact cq (ma E rfl) Z' q282}}
 {intro ws_ L_ T_ m284 a w hl285 hm286 hq287 hS hd288 hn289 ho290 hT291;obtain rfl:=eh hl285;obtain⟨rfl,rfl⟩:=hq287;have E:=eof 21 [(0,pz b0_),(1,v42),(7,.int .i64 (Z1.wrap x29)),(10,.int .i64 r75),(60,v42),(61,.int .i64 (Z1.wrap x29)),(62,v74),(63,.int .i64 r75)] hd288 hn289 ho290;have E:=E.add (hT291 18);obtain⟨q297,hr298⟩:=hT291 19;have E:=E.add q297;obtain⟨v299,E,q301⟩:=adv E (hT291 20);refine qA E rfl λa E=>ag ?_;exact⟨r75,x92,false,h,_,hm286,v299,hr298,q301,hS,kut E⟩}}}
 {
 rintro a w ⟨x85,x87,x90,h,m83,hm84,v88,hr86,hv89,hS,E⟩;unfold gt at h;refine bA ?_;obtain rfl:=oi h
 try dsimp only
 refine Fin.mk E (rs:=[.tmp 4,.tmp 5,.tmp 6]) rfl (rx.tmp E rfl (rx.tmp E rfl (rx.tmp E rfl rx.nil))) ?_;exact⟨_,(Z0 hm5 (Z0 hm62 (Z0 hm78 hm84))),cs64,(hS.dropT 1),(cd.mono (Z0 hm78 hm84) hc65),_,_,_,rfl,(aq hr86),hv89,dt⟩}}}}}
theorem OO:Ctr Sz prog 195 [.rd (.sl (.int .u8))] [.rd (.int .u64)] (fun x=>qc x.1):=
 ncR [] [2] func195 ntmps195 (.s .o (.s .o (.s (.s .o (.b (.l ⟨[.v 3 1 (.dat (.int .u64) none),.v 5 1 (.dat (.int .i64) none)],[0],0,[]⟩ .o))) .o))) λx=>by kernel_rfl
def OP:=mC OO call195
theorem OQ:Ctr Sz prog 183 [.rd (.sl (.int .u8))] [.rd (.st 32),.rd (.sl (.int .u8)),.rd .bool] (fun x=>sO x.1):=
 nxR [DK,zP,HN,HO,OP] [.cell 2 32,.tmp 3,.tmp 4] func183 ntmps183 .o λx=>by kernel_rfl
def OR:=mC OQ call183
theorem OS:Ctr Sz prog 163 [.rd (.sl (.int .u8))] [.rd (.sl (.st 32)),.rd (.int .i64)] (fun x=>lI x.1):=
 ncR [OR] [2,3] func163 ntmps163 (.s .o (.s .o (.s .o (.s .o (.s (.s .o (.b (.l ⟨[.v 0 1 (.dat (.sl (.int .u8)) none),.v 4 1 (.dat (.sl (.st 32)) (some 0)),.v 25 1 (.dat (.int .i64) none)],[24],0,[4]⟩ .o))) .o))))) λx=>by kernel_rfl
def HW:=mC OS call163
theorem OT:Ctr Sz prog 119 [.rd (.sl (.int .u8))] [.rd (.st 32),.rd (.sl (.int .u8)),.rd .bool] (fun x=>lJ x.1):=
 nxR [HW] [.cell 2 32,.tmp 3,.tmp 4] func119 ntmps119 (.s .o (.s (.s .o (.b (.l ⟨[.v 5 1 (.dat (.int .i64) none)],[0,2],1,[]⟩ .o))) .o)) λx=>by kernel_rfl
def OU:=mC OT call119
theorem QB:Ctr Sz prog 57 [.rd (.sl (.int .u8))] [.rd (.st 34),.rd (.sl (.int .u8)),.rd .bool] (fun x=>jL x.1):=
 nxR [OU] [.cell 2 34,.tmp 3,.tmp 4] func57 ntmps57 .o λx=>by kernel_rfl
theorem DQ  (hS:S W0 m w L TL) {p0} (ha0:RV (kSl (ai .u8)) m v0 p0) {r} (h:jL p0=some r):
    Calls prog 57 [v0].toArray w (Ret λv w'=>∃m',M.le m m'∧S W0 m' w' L TL∧∃v0_ v1_ v2_:Value,v= .tuple #[v0_,v1_,v2_]∧RV cV m' v0_ r.1∧RV (kSl (ai .u8)) m' v1_ r.2.1∧RV cO m' v2_ r.2.2):=by
 refine rm (QB W0 m w L TL [v0] (p0,()) r [] [] hS ⟨ha0,trivial⟩ h) λv w' he=>?_;obtain⟨m',us,Lr,Lq,Tr,hm,Z',rfl,hR,hO⟩:=he;obtain⟨u0,us,rfl,r0,hR0⟩:=dC hR;obtain⟨u1,us,rfl,r1,hR1⟩:=dC hR0;obtain⟨u2,us,rfl,r2,hR2⟩:=dC hR1;obtain⟨rfl,rfl,rfl⟩:=cE hR2;have hO0:=bT hO;obtain rfl:=cF hO0;exact⟨m',hm,Z',u0,u1,u2,rfl,r0,r1,r2⟩
theorem vD  (hS:S W0 m w L TL) {p0} (ha0:RV (kSl (ai .u8)) m v0 p0) {r} (h:kj p0=some r):
    Calls prog 60 [v0].toArray w (Ret λv w'=>∃m',M.le m m'∧S W0 m' w' L ((1,v)::TL)∧RV (kSl (ai .u8)) m' v r):=by
 refine kc func60 ntmps60 λa E=>?_;have E:Env 8 a [(0,v0)]:=E;unfold kj at h;refine ae (ah (qA E rfl λa E=>ag (ae (ae (ah (qM E rfl λa E=>?_))))));refine st E (yb (k:=(ai .u8)) E rfl rfl ha0 underlying24) rfl ?_;rintro v5 a _ ⟨rfl,bn3,rfl,hb4⟩ E;refine ag (kif E rfl (λhd6=>?_) (λhd6=>?_))
 {
 have hx_:=hb4 hd6;have h:some ([])=some r:=by rw[hx_] at h;exact h
 refine ae (ah (qA E rfl λa E=>ag (bA ?_)));obtain rfl:=oi h
 try dsimp only
 refine f1 E ?_;exact⟨_,(Z3 _),((hS.dropT 0).tail0 1),dL⟩}
 {
 refine aQ (ae (ah ?_));refine st E (fC (k:=(ai .u8)) (xs:=[]) (vs:=[]) E hS rfl underlying24 sizeOf5 zeroValue5 trivial rfl (by decide)) rfl ?_;rintro v11 a w ⟨m9,hm10,hS,hv8⟩ E;refine qM E rfl λa E=>?_;obtain⟨z13,hz14,h⟩:=ob h;refine st E (kt (k:=(ai .u8)) (N:=140737488355328) E hS rfl rfl underlying24 underlying24 el5 (i:=0) rfl hv8 (ha0.mono hm10) hz14 rfl rfl) rfl ?_;rintro v18 a w ⟨m16,hm17,hS,hv15⟩ E;refine qA E rfl λa E=>ag (bA ?_);obtain rfl:=oi h
 try dsimp only
 refine f1 E ?_;exact⟨_,(Z0 hm10 hm17),(hS.pickT 1 [0] rfl rfl rfl),hv15⟩}
theorem JX:Ctr Sz prog 61 [.rd (.sl (.int .u8)),.rd (.sl (.int .u8))] [.rd .bool] (fun x=>gA x.1 x.2.1):=
 ncR [] [4] func61 ntmps61 (.s .o (.s .o (.s (.s .o (.b (.l ⟨[.v 13 1 (.dat (.int .i64) none)],[0,1,12],0,[]⟩ .o))) .o))) λx=>by kernel_rfl
def QC:=mC JX call61
theorem vE  (hS:S W0 m w L TL) {p0} (ha0:RV (kSl (ai .u8)) m v0 p0) {p1} (ha1:RV (kSl (ai .u8)) m v1 p1) {r} (h:gA p0 p1=some r):
    Calls prog 61 [v0,v1].toArray w (Ret λv w'=>∃m',M.le m m'∧S W0 m' w' L TL∧RV cO m' v r):=by
 refine rm (JX W0 m w L TL [v0,v1] (p0,p1,()) r [] [] hS ⟨ha0,⟨ha1,trivial⟩⟩ h) λv w' he=>?_;obtain⟨m',us,Lr,Lq,Tr,hm,Z',rfl,hR,hO⟩:=he;obtain⟨u0,us,rfl,r0,hR0⟩:=dC hR;obtain⟨rfl,rfl,rfl⟩:=cE hR0;have hO0:=bT hO;have hO1:=bT hO0;obtain rfl:=cF hO1;exact⟨m',hm,Z',r0⟩
theorem OV:Ctr Sz prog 164 [.pt (.st 161)] [.rd (.st 32)] (fun x=>dH x.1):=
 nxR [HW] [.cell 2 32] func164 ntmps164 (.s .o (.s (.s .o (.b (.l ⟨[.v 3 1 (.dat (.int .i64) none)],[0,2],2,[]⟩ .o))) .o)) λx=>by kernel_rfl
def OW:=mC OV call164
theorem HX:Ctr Sz prog 165 [.pt (.st 161),.rd (.int .i64)] [.rd (.sl (.int .u8))] (fun x=>cG x.1 x.2.1):=
 ncR [] [4] func165 ntmps165 .o λx=>by kernel_rfl
def DR:=mC HX call165
theorem vj  {b0_:Nat} {c0_:List Value} (hS:S W0 m w ((b0_,c0_)::L) (TL)) {p0} (ha0:i9.R m c0_ p0) {p1} (ha1:inR .i64 p1) {r} (h:cG p0 p1=some r):
    Calls prog 165 [(pz b0_),(.int .i64 p1)].toArray w (Ret λv w'=>∃m',M.le m m'∧∃q0_:List Value,S W0 m' w' ((b0_,q0_)::L) (TL)∧i9.R m' q0_ r.2∧RV (kSl (ai .u8)) m' v r.1):=by
 refine rm (HX W0 m w L TL [(pz b0_),(.int .i64 p1)] (p0,p1,()) r [(b0_,c0_)] [] hS ⟨ha0,rfl,⟨aq ha1,trivial⟩⟩ h) λv w' he=>?_;obtain⟨m',us,Lr,Lq,Tr,hm,Z',rfl,hR,hO⟩:=he;obtain⟨u0,us,rfl,r0,hR0⟩:=dC hR;obtain⟨rfl,rfl,rfl⟩:=cE hR0;obtain⟨q0_,Lq,rfl,o0,hO0⟩:=Pt hO;have hO1:=bT hO0;obtain rfl:=cF hO1;exact⟨m',hm,q0_,Z',o0,r0⟩
theorem OX:Ctr Sz prog 196 [.rd (.int .u32),.rd (.int .u32)] [.rd (.int .u32),.rd (.int .u32)] (fun x=>Fy x.1 x.2.1):=
 ncR [] [4,5] func196 ntmps196 .o λx=>by kernel_rfl
def OY:=mC OX call196
theorem OZ:Ctr Sz prog 197 [.rd (.int .u64),.rd (.int .u64)] [.rd (.int .u64),.rd (.int .u64)] (fun x=>qW x.1 x.2.1):=
 ncR [] [4,5] func197 ntmps197 .o λx=>by kernel_rfl
def O0:=mC OZ call197
theorem O1:Ctr Sz prog 184 [.rd (.int .u64),.rd (.int .u64)] [.rd (.int .u64),.rd (.int .u64)] (fun x=>uP x.1 x.2.1):=
 ncR [OY,O0] [4,5] func184 ntmps184 .o λx=>by kernel_rfl
theorem F8  (hS:S W0 m w L TL) {p0} (ha0:inR .u64 p0) {p1} (ha1:inR .u64 p1) {r} (h:uP p0 p1=some r):
    Calls prog 184 [(.int .u64 p0),(.int .u64 p1)].toArray w (Ret λv w'=>∃m',M.le m m'∧S W0 m' w' L TL∧∃v0_ v1_:Value,v= .tuple #[v0_,v1_]∧RV (ai .u64) m' v0_ r.1∧RV (ai .u64) m' v1_ r.2):=by
 refine rm (O1 W0 m w L TL [(.int .u64 p0),(.int .u64 p1)] (p0,p1,()) r [] [] hS ⟨aq ha0,⟨aq ha1,trivial⟩⟩ h) λv w' he=>?_;obtain⟨m',us,Lr,Lq,Tr,hm,Z',rfl,hR,hO⟩:=he;obtain⟨u0,us,rfl,r0,hR0⟩:=dC hR;obtain⟨u1,us,rfl,r1,hR1⟩:=dC hR0;obtain⟨rfl,rfl,rfl⟩:=cE hR1;have hO0:=bT hO;have hO1:=bT hO0;obtain rfl:=cF hO1;exact⟨m',hm,Z',u0,u1,rfl,r0,r1⟩
theorem um  (hS:S W0 m w L TL) {p0} (ha0:RV (kSl kAp) m v0 p0) {p1} (ha1:inR .i64 p1) {r} (h:eZ p0 p1=some r):
    Calls prog 166 [v0,(.int .i64 p1)].toArray w (Ret λv w'=>∃m',M.le m m'∧S W0 m' w' L TL∧RV (kSl kAp) m' v r):=by
 refine kc func166 ntmps166 λa E=>?_;have E:Env 48 a [(0,v0),(1,.int .i64 p1)]:=E;unfold eZ at h;refine ae (ah (qA E rfl λa E=>ag (ae (ae (ah (qM E rfl λa E=>qB E rfl rfl bn λa E=>ag ?_))))));refine bw (λa w=>g7 p0 p1=some r∧∃m',M.le m m'∧S W0 m' w L TL∧Env 48 a [(0,v0),(1,.int .i64 p1)]) ?_ ?_
 {
 refine kif E rfl (λhd143=>?_) (λhd143=>?_)
 {have h:=aA hd143 h;cases h}
 {have h:=aB hd143 h;refine aQ ?_;exact⟨h,_,(Z3 _),hS,kut E⟩}}
 {
 rintro a w ⟨h,m4,hm5,hS,E⟩;unfold g7 at h;refine ae (ah (qM E rfl λa E=>sp E (bd (k:=kAp) E rfl rfl underlying22 (ha0.mono hm5)) rfl λa E=>sp E (cl E rfl underlying3 underlying94 rfl) rfl λa E=>qM E rfl λa E=>sp E (cl E rfl underlying3 underlying94 rfl) rfl λa E=>?_));obtain⟨r12,hr13,h⟩:=ob h;refine st E (aF (vs:=[(.int .u64 (Z6.wrap (p0.length:Int))),(.int .u64 (Z6.wrap p1))]) E rfl call184 (F8 (hS:=hS) (ak _ _) (ak _ _) hr13)) rfl ?_;rintro _ a w ⟨m14,hm15,hS,v0_16,v1_17,rfl,hv0_18,hv1_19⟩ E;obtain⟨rfl,hr21⟩:=aG hv0_18;obtain⟨rfl,hr22⟩:=aG hv1_19
 refine qM E rfl λa E=>sp E (bM E rfl rfl) rfl λa E=>sp E (bM E rfl rfl) rfl λa E=>qA E rfl λa E=>qA E rfl λa E=>ag (ae (ae ?_));refine bw (λa w=>∃x30:Bool,fe p0 r12 x30=some r∧∃m',M.le m14 m'∧S W0 m' w L TL∧Env 48 a [(0,v0),(6,.int .u64 r12.2),(26,.bool x30)]) ?_ ?_
 {
 refine ah (qM E rfl λa E=>qB E rfl rfl ju λa E=>qM E rfl λa E=>?_);rcases Z2 (decide (0<r12.1)) with hd138|hd138
 {have h:=aA hd138 h;refine qX E hd138 λa E=>qX E hd138 λa E=>qT E hd138 rfl λa E=>ag ?_;exact⟨true,h,_,(Z3 _),hS,kut E⟩}
 {have h:=aB hd138 h;refine qG E hd138 rfl λa E=>spg E rfl rfl rfl rfl hd138 (aP E rfl rfl ju) rfl λa E=>qF E hd138 rfl λa E=>ag ?_;exact⟨(decide (9223372036854775807<r12.2)),h,_,(Z3 _),hS,kut E⟩}}
 {
 rintro a w ⟨x30,h,m28,hm29,hS,E⟩;unfold fe at h;refine bw (λa w=>gZ p0 r12=some r∧∃m',M.le m28 m'∧S W0 m' w L TL∧Env 48 a [(0,v0),(6,.int .u64 r12.2)]) ?_ ?_
 {
 refine kif E rfl (λhd134=>?_) (λhd134=>?_)
 {have h:=aA hd134 h;cases h}
 {have h:=aB hd134 h;refine aQ ?_;exact⟨h,_,(Z3 _),hS,kut E⟩}}
 {
 rintro a w ⟨h,m32,hm33,hS,E⟩;unfold gZ at h;refine ae (ah (qM E rfl λa E=>sp E (cl E rfl underlying94 underlying3 rfl) rfl λa E=>?_));obtain⟨z37,hz38,h⟩:=ob h;refine st E (ry (k:=kAp) (m:=m32) E hS rfl rfl underlying22 type32 rfl rfl rfl (λm=>pR m) hz38 rfl rfl) rfl ?_;rintro v42 a w ⟨b39,cs40,hc41,hS⟩ E;refine qA E rfl λa E=>ag (ae (ah (qM E rfl λa E=>qM E rfl λa E=>?_)));refine st E (Cq (k:=kAp) E hS rfl rfl underlying22 sizeOf32 (i:=0) rfl hc41 (ha0.mono (Z0 hm5 (Z0 hm15 (Z0 hm29 hm33))))) rfl ?_;rintro v48 a _ ⟨rfl,cs46,hc47,hS⟩ E;refine qA E rfl λa E=>ag (ae ?_)
 refine bw (λa w=>∃x52:(List Ap),gX x52=some r∧∃m',M.le m32 m'∧∃(v53:Value),RV (kSl kAp) m' v53 x52∧S W0 m' w L TL∧Env 48 a [(7,v53)]) ?_ ?_
 {
 refine aJ ?_;refine cH h (λ(s:Int×List Ap) a w=>∃m',M.le m32 m'∧∃(cs63:List Value),inR .i64 s.1∧GS kAp m' b39 cs63 v42 s.2∧S W0 m' w ((b39,cs63)::L) (TL)∧Env 48 a [(7,v42),(8,.int .i64 s.1)]) ?_ ?_
 {exact⟨_,(Z3 _),cs46,(dK (Nat.le_trans (Nat.min_le_right _ _) (GS.len hc41))),hc47,hS,kut E⟩}
 {
 rintro ⟨x60,x62⟩ a w ⟨m58,hm59,cs63,hr61,hc64,hS,E⟩ r65 h hb66;have h:gY x60 x62=some r65:=h;unfold gY at h;refine ae (ae (ah (qM E rfl λa E=>qM E rfl λa E=>sp E (mb (k:=kAp) E rfl rfl underlying22 hc64) rfl λa E=>qB E rfl rfl bn λa E=>ag (kif E rfl (λhd71=>?_) (λhd71=>?_)))))
 {
 have h:=aA hd71 h;refine aQ (aJ ?_);obtain⟨q73,hq74,q76,hq77,h⟩:=ob2 h;obtain⟨u82,hu83,z80,hz81,h⟩:=ob2 h
 refine kch (k:=8) (m:=m58) (es:=[7]) (Φ:=(λi m ws v=>match i with|0=>ei .i64 x60 v|1=>v=v42|2=>ei .i64 x60 v|3=>VS b39 4 v q73.1 q73.2|4=>v=v42|5=>ei .i64 x60 v|6=>VS b39 4 v q76.1 q76.2|7=>ei .i64 ((min q76.2 q73.2:Nat):Int) v|_=>True)) (Q:=(λc m ws L' TL'=>match c with|0=>(b39,cs63)::L=L'∧TL=TL'|1=>(b39,(wi ws 0).c)::L=L'∧TL=TL'∧GS kAp m b39 (wi ws 0).c v42 z80|_=>False)) (cs:=[⟨0,1,false,[(8,.int .i64 x60)]⟩,⟨0,0,false,[(7,v42)]⟩,⟨0,0,false,[(8,.int .i64 x60)]⟩,⟨0,0,false,[]⟩,⟨0,0,false,[(7,v42)]⟩,⟨0,0,false,[(8,.int .i64 x60)]⟩,⟨0,0,false,[]⟩,⟨0,0,true,[]⟩]) mixed E hS ⟨rfl,rfl⟩ rfl rfl (by kernel_rfl) ?_ ?_ ?_ ?_
 {
 intro i m_ m2_ ws v n_ q_
 iterate 8 (rcases i with _|i;exact q_)
 exact trivial}
 {
 intro c m_ m2_ ws L_ T_ n_ hq_
 match c,hq_ with
 |0,⟨e1_,e2_⟩=>exact⟨e1_,e2_⟩
 |1,⟨e1_,e2_,f0_⟩=>exact⟨e1_,e2_,(GS.mono f0_ n_)⟩
 |_+2,hq_=>exact hq_.elim}
 {
 refine⟨?_,?_,?_,?_,?_,?_,?_,?_,trivial⟩
 {exact cmv λ_ _=>⟨rfl,hr61⟩}
 {exact cmv λ_ _=>rfl}
 {exact cmv λ_ _=>⟨rfl,hr61⟩}
 {refine cp1 λ_ _ _ _ _ M' Q' Z' E' T'=>?_;obtain⟨rfl,rfl⟩:=Q';have E:=(E'.add (T' 1)).add (T' 2).1;exact cr (uw (k:=kAp) E rfl underlying22 sizeOf32 (hc64.mono M') ⟨_,rfl⟩ rfl hq74 (sz:=4) rfl (xl:=(some (.tmp 40))) (xh:=none)) Z' λ_ h=>h}
 {exact cmv λ_ _=>rfl}
 {exact cmv λ_ _=>⟨rfl,hr61⟩}
 {refine cp1 λ_ _ _ _ _ M' Q' Z' E' T'=>?_;obtain⟨rfl,rfl⟩:=Q';have E:=(E'.add (T' 4)).add (T' 5).1;exact cr (uw (k:=kAp) E rfl underlying22 sizeOf32 (hc64.mono M') rfl ⟨_,rfl⟩ hq77 (sz:=4) rfl (xl:=none) (xh:=(some (.tmp 43)))) Z' λ_ h=>h}
 {
 refine sA λpre_ L_ T_ m' a' w' hl' M' Q' Z' E' T'=>?_;obtain rfl:=eh hl';obtain⟨rfl,rfl⟩:=Q';obtain⟨v106,e107,q108⟩:∃v,a'.tmps.getD 41 undef=v∧(VS b39 4 v q73.1 q73.2):=⟨_,rfl,T' 3 (by decide) 41 rfl⟩
 have E:=E'.add (e107);obtain⟨v109,e110,q111⟩:∃v,a'.tmps.getD 44 undef=v∧(VS b39 4 v q76.1 q76.2):=⟨_,rfl,T' 6 (by decide) 44 rfl⟩
 have E:=E.add (e110);refine bg.imp (Gk (k:=kAp) E Z' rfl rfl underlying22 sizeOf32 (i:=0) rfl (hc64.mono M') q108 q111 hz81) ?_;rintro _ w ⟨rfl,cs78,hc79,hS⟩;exact⟨_,⟨0,undef,cs78,[],[]⟩,_,_,Z3 _,hS,⟨rfl,rfl,hc79⟩,⟨rfl,(dK (Z4 (jd hu83)))⟩⟩}}
 {intro ws_ L_ T_ m112 a w hl113 hm114 hq115 hS hd116 hn117 ho118 hT119;obtain⟨⟨_,_,cs78,_,_⟩,rfl⟩:=ux hl113;obtain⟨rfl,rfl,hc120⟩:=hq115;have E:=eof 8 [(7,v42),(8,.int .i64 x60),(34,.int .i64 x60),(35,v42),(36,.int .i64 (x62.length:Int)),(37,.bool (decide (x60<(x62.length:Int))))] hd116 hn117 ho118;have E:=(E.add (hT119 0).1).add (hT119 7).1;refine qB E rfl rfl (be rfl) λa E=>qA E rfl λa E=>ag ?_;exact⟨(Z1.wrap (x60+((min q76.2 q73.2:Nat):Int)),z80),(Option.some.inj h).symm,_,(Z0 hm59 hm114),cs78,(ak _ _),hc120,hS,kut E⟩}}
 {have h:=aB hd71 h;obtain⟨m131,hm132,hS,hv133⟩:=S.freeze hS hc64;refine cC rfl rfl ?_;have h:=bE h hb66;exact⟨x62,h,_,(Z0 hm59 hm132),v42,hv133,hS,kut E⟩}}}
 {
 rintro a w ⟨x52,h,m50,hm51,v53,hv54,hS,E⟩;unfold gX at h;refine ae (ah (qM E rfl λa E=>qA E rfl λa E=>ag (bA ?_)));obtain rfl:=oi h
 try dsimp only
 refine f1 E ?_;exact⟨_,(Z0 hm5 (Z0 hm15 (Z0 hm29 (Z0 hm33 hm51)))),hS,hv54⟩}}}}
theorem O2:Ctr Sz prog 166 [.rd (.sl (.st 32)),.rd (.int .i64)] [.rd (.sl (.st 32))] (λx=>eZ x.1 x.2.1):=by
 intro W0 m w L TL vs x r Lp Tp hS hP h;obtain⟨v0,vs,rfl,a0,hP0⟩:=kN hP;obtain⟨v1,vs,rfl,a1,hP1⟩:=kN hP0;obtain⟨rfl,n1⟩:=aG a1;obtain⟨rfl,rfl,rfl⟩:=oL hP1;refine rm (um (hS:=hS) a0 n1 h) λv w' he=>?_;obtain⟨m',hm,Z',r0⟩:=he;exact⟨m',[v],[],[],[],hm,Z',rfl,⟨r0,trivial⟩,trivial⟩
def O3:=mC O2 call166
theorem O4:Ctr Sz prog 167 [.pt (.st 161)] [.rd (.int .u64)] (fun x=>gq x.1):=
 ncR [DR] [2] func167 ntmps167 (.s .o (.s .o (.s (.s .o (.b (.l ⟨[.v 3 1 (.dat (.int .u64) none),.v 9 1 (.dat (.int .i64) none)],[7,8],1,[]⟩ .o))) .o))) λx=>by kernel_rfl
def O5:=mC O4 call167
theorem O6:Ctr Sz prog 168 [.pt (.st 161)] [.rd (.int .u64)] (fun x=>fa x.1):=
 ncR [DR] [2] func168 ntmps168 (.s .o (.s .o (.s (.s .o (.b (.l ⟨[.v 3 1 (.dat (.int .u64) none),.v 4 1 (.dat (.int .i64) none),.b 0 1 (.st 161)],[0],1,[]⟩ .o))) .o))) λx=>by kernel_rfl
def O7:=mC O6 call168
end
end Go.Proofs.YthbonoagbeilkaaGreat.Hay
