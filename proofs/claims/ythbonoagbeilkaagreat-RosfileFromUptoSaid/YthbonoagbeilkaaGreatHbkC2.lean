import Derived.Test.YthbonoagbeilkaaGreatHbkC1
set_option maxRecDepth 100000
set_option maxHeartbeats 4000000
set_option linter.unusedVariables false
namespace Go.Proofs.YthbonoagbeilkaaGreat.Hay
open Nat renaming le_of_ble_eq_true→Z3
open Bool renaming eq_false_or_eq_true→Z1
open M.le renaming trans→Jj,refl→Z2
open IntKind renaming i64→Z0,u8→Z4,u64→Z5
open Go.Proofs Tryz
noncomputable section
variable {W0:Bse}{m:M}{w:World}{L:List (Nat×List Value)}{TL:List (Nat×Value)}{v0 v1 v2 v3 v4 v5 v6 v7 v8 v9:Value}
theorem Ea  (hS:S W0 m w L ((1,v0)::TL)) {p0} (ha0:RV (kSl (ai .u8)) m v0 p0) {p1} (ha1:inR .u64 p1) {r} (h:mz p0 p1=some r):
    Calls prog 182 [v0,(.int .u64 p1)].toArray w (Ret λv w'=>∃m',M.le m m'∧S W0 m' w' L ((1,v)::TL)∧RV (kSl (ai .u8)) m' v r):=by
 refine kc func182 ntmps182 λa E=>?_;have E:Env 22 a [(0,v0),(1,.int .u64 p1)]:=E;unfold mz at h;refine ae (ah (qA E rfl λa E=>ag (ae (ah ?_))));refine st E (dp hS zeroValue224 rfl (cs:=Gj)) rfl ?_;rintro _ a w ⟨b2,rfl,hS⟩ E;refine ag (ae (ae (ah (qM E rfl λa E=>ag ?_))));refine bL (λa w=>∃x7:(List Int),nQ p0 x7=some r∧∃m',M.le m m'∧∃(cs8:List Value),GS (ai .u8) m' b2 cs8 (.slice (some ⟨b2,0,none⟩) 8 8) x7∧S W0 m' w ((b2,cs8)::L) ((1,v0)::TL)∧Env 22 a [(0,v0),(5,pz b2)]) ?_ ?_
 {
 refine aL ?_;refine cP h (λ(s:Int×List Int) a w=>∃m',M.le m m'∧∃(cs25:List Value),inR .i64 s.1∧GS (ai .u8) m' b2 cs25 (.slice (some ⟨b2,0,none⟩) 8 8) s.2∧S W0 m' w ((b2,cs25)::L) ((1,v0)::TL)∧Env 22 a [(0,v0),(1,.int .u64 p1),(5,pz b2),(7,.int .i64 s.1)]) ?_ ?_
 {exact⟨_,(Z2 _),Gj,(show inR .i64 0 from aw (by decide)),(P2 _ _),hS,kut E⟩}
 {
 rintro ⟨x22,x24⟩ a w ⟨m20,hm21,cs25,hr23,hc26,hS,E⟩ r27 h hb28;have h:lm p0 p1 x22 x24=some r27:=h;unfold lm at h;refine ae (ah (qB E rfl rfl bw λa E=>ag (ae (kif E rfl (λhd30=>?_) (λhd30=>?_)))))
 {
 have h:=aB hd30 h;refine aP (ae (aL (ae (ah (qM E rfl λa E=>qA E rfl λa E=>ag (ah (qM E rfl λa E=>?_)))))));refine qM E rfl λa E=>qM E rfl λa E=>qB E rfl rfl (q8 rfl) λa E=>qB E rfl rfl (cY rfl) λa E=>?_;obtain⟨u38,hu39,h⟩:=ob h;refine qB E rfl rfl (qa rfl (of_decide_eq_true (jS hu39))) λa E=>sp E (dE E rfl underlying54 underlying5 rfl) rfl λa E=>?_;obtain⟨j42,hj43,h⟩:=ob h;refine sp E (CH (k:=(ai .u8)) E rfl rfl underlying224 sizeOf5 (GS.arr_len hc26) hj43 rfl) rfl λa E=>?_;obtain⟨x47,hx48,h⟩:=ob h
 refine st0 E (eX (k:=(ai .u8)) E hS ty5 bq hc26 hx48 rfl rfl (au (aq _ _)) (i:=0) rfl) ?_;rintro _ w ⟨cs45,hc46,hS⟩ E;refine ag (ah (qB E rfl rfl (bn rfl) λa E=>qM E rfl λa E=>ag ?_));exact⟨(Z0.wrap (x22+1),(x24.set j42 (Z4.wrap (aF .u64 p1 (Z0.wrap (56 - (Z0.wrap (8*x22)))))))),(Option.some.inj h).symm,_,hm21,cs45,(aq _ _),hc46,hS,kut E⟩}
 {have h:=aC hd30 h;refine cL rfl rfl ?_;have h:=bH h hb28;exact⟨x24,h,_,hm21,cs25,hc26,hS,kut E⟩}}}
 {
 rintro a w ⟨x7,h,m5,hm6,cs8,hc9,hS,E⟩;unfold nQ at h;refine ae (ah (qM E rfl λa E=>sp E (Iq (k:=(ai .u8)) E rfl underlying224 sizeOf5) rfl λa E=>?_));obtain⟨z13,hz14,h⟩:=ob h;refine st E (Av (k:=(ai .u8)) (N:=140737488355328) E hS rfl rfl underlying24 el5 (i:=0) rfl (ha0.mono hm6) (EF hS underlying24 (i:=0) rfl hc9) hz14 rfl rfl) rfl ?_;rintro v18 a w ⟨m16,hm17,hS,hv15⟩ E;refine qA E rfl λa E=>ag (bp ?_);obtain rfl:=oi h
 try dsimp only
 refine f1 E ?_;exact⟨_,(Jj hm6 hm17),((hS.dropL 1).pickT 1 [0] rfl rfl rfl),hv15⟩}
theorem OD:Ctr Sz prog 182 [.ap (.int .u8),.rd (.int .u64)] [.ap (.int .u8)] (λx=>mz x.1 x.2.1):=by
 intro W0 m w L TL vs x r Lp Tp hS hP h;obtain⟨v0,vs,Tp,rfl,rfl,a0,hP0⟩:=PJ hP;obtain⟨v1,vs,rfl,a1,hP1⟩:=kL hP0;obtain⟨rfl,n1⟩:=aI a1;obtain⟨rfl,rfl,rfl⟩:=oT hP1;refine rm (Ea (hS:=hS) a0 n1 h) λv w' he=>?_;obtain⟨m',hm,Z',r0⟩:=he;exact⟨m',[v],[],[],[(1,v)],hm,Z',rfl,⟨r0,rfl,trivial⟩,trivial⟩
def OE:=mC OD call182
theorem OF:Ctr Sz prog 159 [.ap (.int .u8),.rd (.st 32)] [.ap (.int .u8)] (fun x=>uP x.1 x.2.1):=
 ncR [OE] [4] func159 ntmps159 .o λx=>by kernel_rfl
def OG:=mC OF call159
theorem OH:Ctr Sz prog 112 [.rd (.sl (.st 32))] [.rd (.sl (.int .u8)),.rd (.int .i64)] (fun x=>nq x.1):=
 ncR [OC,OG] [2,3] func112 ntmps112 (.s .o (.s .o (.s .o (.s (.s .o (.b (.l ⟨[.v 4 1 (.dat (.sl (.int .u8)) (some 0)),.v 16 1 (.dat (.int .i64) none)],[14,15],0,[1]⟩ .o))) .o)))) λx=>by kernel_rfl
def H7:=mC OH call112
theorem H8:Ctr Sz prog 107 [.rd (.st 32)] [.rd (.sl (.int .u8))] (fun x=>kN x.1):=
 ncR [H7] [2] func107 ntmps107 .o λx=>by kernel_rfl
def OI:=mC H8 call107
theorem xf  (hS:S W0 m w L TL) {p0} (ha0:RV kAp m v0 p0) {r} (h:kN p0=some r):
    Calls prog 107 [v0].toArray w (Ret λv w'=>∃m',M.le m m'∧S W0 m' w' L TL∧RV (kSl (ai .u8)) m' v r):=by
 refine rm (H8 W0 m w L TL [v0] (p0,()) r [] [] hS ⟨ha0,trivial⟩ h) λv w' he=>?_;obtain⟨m',us,Lr,Lq,Tr,hm,Z',rfl,hR,hO⟩:=he;obtain⟨u0,us,rfl,r0,hR0⟩:=cZ hR;obtain⟨rfl,rfl,rfl⟩:=cl hR0;have hO0:=bG hO;obtain rfl:=cm hO0;exact⟨m',hm,Z',r0⟩
theorem OJ:Ctr Sz prog 103 [.rd (.sl (.st 32))] [.ap (.int .u8)] (fun x=>nr x.1):=
 ncR [OI,OA] [2] func103 ntmps103 (.s .o (.s .o (.s (.s .o (.b (.l ⟨[.v 3 1 (.dat (.sl (.int .u8)) (some 0)),.v 9 1 (.dat (.int .i64) none)],[7,8],0,[1]⟩ .o))) .o))) λx=>by kernel_rfl
theorem Ce  (hS:S W0 m w L TL) {p0} (ha0:RV (kSl kAp) m v0 p0) {r} (h:nr p0=some r):
    Calls prog 103 [v0].toArray w (Ret λv w'=>∃m',M.le m m'∧S W0 m' w' L ((1,v)::TL)∧RV (kSl (ai .u8)) m' v r):=by
 refine rm (OJ W0 m w L TL [v0] (p0,()) r [] [] hS ⟨ha0,trivial⟩ h) λv w' he=>?_;obtain⟨m',us,Lr,Lq,Tr,hm,Z',rfl,hR,hO⟩:=he;obtain⟨u0,us,Tr,rfl,rfl,r0,hR0⟩:=sV hR;obtain⟨rfl,rfl,rfl⟩:=cl hR0;have hO0:=bG hO;obtain rfl:=cm hO0;exact⟨m',hm,Z',r0⟩
theorem OK:Ctr Sz prog 147 [.rd (.int .u64)] [.ap (.int .u8)] (fun x=>l9 x.1):=
 ncR [] [2] func147 ntmps147 (.s .o (.s .o (.s (.s .o (.b (.l ⟨[.v 3 1 (.dat (.sl (.int .u8)) (some 0)),.v 5 1 (.dat (.int .i64) none)],[0],0,[1]⟩ .o))) .o))) λx=>by kernel_rfl
def H9:=mC OK call147
theorem OL:Ctr Sz prog 104 [.rd (.sl (.int .i64))] [.ap (.int .u8)] (fun x=>ma x.1):=
 ncR [H9] [2] func104 ntmps104 (.s .o (.s .o (.s (.s .o (.b (.l ⟨[.v 3 1 (.dat (.sl (.int .u8)) (some 0)),.v 16 1 (.dat (.int .i64) none)],[0,14,15],0,[1]⟩ (.s .o (.s .o (.s (.b (.s .o (.s .o (.s .o (.s (.b (.l ⟨[.v 3 2 (.dat (.sl (.int .u8)) (some 0)),.v 7 2 (.dat (.int .u64) none)],[0,14,15,16],0,[1]⟩ .o)) .o))))) .o)))))) .o))) λx=>by kernel_rfl
theorem Bi  (hS:S W0 m w L TL) {p0} (ha0:RV (kSl (ai .i64)) m v0 p0) {r} (h:ma p0=some r):
    Calls prog 104 [v0].toArray w (Ret λv w'=>∃m',M.le m m'∧S W0 m' w' L ((1,v)::TL)∧RV (kSl (ai .u8)) m' v r):=by
 refine rm (OL W0 m w L TL [v0] (p0,()) r [] [] hS ⟨ha0,trivial⟩ h) λv w' he=>?_;obtain⟨m',us,Lr,Lq,Tr,hm,Z',rfl,hR,hO⟩:=he;obtain⟨u0,us,Tr,rfl,rfl,r0,hR0⟩:=sV hR;obtain⟨rfl,rfl,rfl⟩:=cl hR0;have hO0:=bG hO;obtain rfl:=cm hO0;exact⟨m',hm,Z',r0⟩
theorem sI {b0_:Nat} {c0_:List Value} (hS:S W0 m w ((b0_,c0_)::L) (TL)) {p0} (ha0:GS kAp m b0_ c0_ v0 p0) {p1} (ha1:Fn2 prog kAp kAp (ai .i64) m v1 p1) {r} (h:ku p0 p1=some r):
    Calls prog 148 [v0,v1].toArray w (Ret λv w'=>∃m',M.le m m'∧∃q0_:List Value,S W0 m' w' ((b0_,q0_)::L) (TL)∧GS kAp m' b0_ q0_ v0 r):=
  Gl (ρ:=yg) LC isAgg32 sizeOf32 rfl hS ha0 ha1 h
theorem OM:Ctr Sz prog 150 [.rd (.sl (.st 32)),.rd (.st 32)] [.rd (.int .i64)] (fun x=>ib x.1 x.2.1):=
 ncR [] [4] func150 ntmps150 (.s .o (.s (.s .o (.b (.l ⟨[.v 8 1 (.dat (.int .i64) none)],[0,3,7],1,[]⟩ .o))) .o)) λx=>by kernel_rfl
theorem vu  (hS:S W0 m w L TL) {p0} (ha0:RV (kSl kAp) m v0 p0) {p1} (ha1:RV kAp m v1 p1) {r} (h:ib p0 p1=some r):
    Calls prog 150 [v0,v1].toArray w (Ret λv w'=>∃m',M.le m m'∧S W0 m' w' L TL∧RV (ai .i64) m' v r):=by
 refine rm (OM W0 m w L TL [v0,v1] (p0,p1,()) r [] [] hS ⟨ha0,⟨ha1,trivial⟩⟩ h) λv w' he=>?_;obtain⟨m',us,Lr,Lq,Tr,hm,Z',rfl,hR,hO⟩:=he;obtain⟨u0,us,rfl,r0,hR0⟩:=cZ hR;obtain⟨rfl,rfl,rfl⟩:=cl hR0;have hO0:=bG hO;have hO1:=bG hO0;obtain rfl:=cm hO1;exact⟨m',hm,Z',r0⟩
theorem ON:Ctr Sz prog 179 [.rd (.int .u32)] [.rd (.int .i64)] (fun x=>FO x.1):=
 ncR [] [2] func179 ntmps179 .o λx=>by kernel_rfl
def OO:=mC ON call179
theorem OP:Ctr Sz prog 154 [.rd (.int .u64)] [.rd (.int .i64)] (fun x=>oX x.1):=
 ncR [] [2] func154 ntmps154 .o λx=>by kernel_rfl
def Ia:=mC OP call154
theorem Ib:Ctr Sz prog 152 [.rd (.int .u64)] [.rd (.int .i64)] (fun x=>pL x.1):=
 ncR [Ia,OO] [2] func152 ntmps152 .o λx=>by kernel_rfl
def OQ:=mC Ib call152
theorem Gm  (hS:S W0 m w L TL) {p0} (ha0:inR .u64 p0) {r} (h:pL p0=some r):
    Calls prog 152 [(.int .u64 p0)].toArray w (Ret λv w'=>∃m',M.le m m'∧S W0 m' w' L TL∧RV (ai .i64) m' v r):=by
 refine rm (Ib W0 m w L TL [(.int .u64 p0)] (p0,()) r [] [] hS ⟨au ha0,trivial⟩ h) λv w' he=>?_;obtain⟨m',us,Lr,Lq,Tr,hm,Z',rfl,hR,hO⟩:=he;obtain⟨u0,us,rfl,r0,hR0⟩:=cZ hR;obtain⟨rfl,rfl,rfl⟩:=cl hR0;have hO0:=bG hO;obtain rfl:=cm hO0;exact⟨m',hm,Z',r0⟩
theorem to  (hS:S W0 m w L TL) {p0} (ha0:RV (kSl (ai .u64)) m v0 p0) {p1} (ha1:inR .i64 p1) {r} (h:iw p0 p1=some r):
    Calls prog 151 [v0,(.int .i64 p1)].toArray w (Ret λv w'=>∃m',M.le m m'∧S W0 m' w' L TL∧RV (kSl (ai .u8)) m' v r):=by
 refine kc func151 ntmps151 λa E=>?_;have E:Env 51 a [(0,v0),(1,.int .i64 p1)]:=E;unfold iw at h;refine ae (ah (qA E rfl λa E=>ag (ae (ah (qM E rfl λa E=>sp E (aS (k:=(ai .u64)) E rfl rfl underlying189 ha0) rfl λa E=>qM E rfl λa E=>qB E rfl rfl (q8 rfl) λa E=>?_)))));refine qB E rfl rfl (bn rfl) λa E=>qB E rfl rfl (xu rfl (by decide)) λa E=>?_;obtain⟨z8,hz9,h⟩:=ob h;refine st E (rH (k:=(ai .u8)) (m:=m) E hS rfl rfl underlying24 type5 rfl rfl rfl (λm=>zr5 m) hz9 rfl rfl) rfl ?_;rintro v13 a w ⟨b10,cs11,hc12,hS⟩ E
 refine qA E rfl λa E=>ag (ae (ae (ah (qM E rfl λa E=>sp E (aS (k:=(ai .u64)) E rfl rfl underlying189 ha0) rfl λa E=>qM E rfl λa E=>ag ?_))));refine bL (λa w=>∃x20:(List Int),kO x20=some r∧∃m',M.le m m'∧∃(v21:Value),RV (kSl (ai .u8)) m' v21 x20∧S W0 m' w L TL∧Env 51 a [(5,v21)]) ?_ ?_
 {
 refine aL ?_;refine cP h (λ(s:Int×List Int) a w=>∃m',M.le m m'∧∃(cs31:List Value),inR .i64 s.1∧GS (ai .u8) m' b10 cs31 v13 s.2∧S W0 m' w ((b10,cs31)::L) (TL)∧Env 51 a [(1,.int .i64 p1),(5,v13),(17,v0),(18,.int .i64 (p0.length:Int)),(19,.int .i64 s.1)]) ?_ ?_
 {exact⟨_,(Z2 _),cs11,(show inR .i64 0 from aw (by decide)),hc12,hS,kut E⟩}
 {
 rintro ⟨x28,x30⟩ a w ⟨m26,hm27,cs31,hr29,hc32,hS,E⟩ r33 h hb34;have h:jb p0 p1 x28 x30=some r33:=h;unfold jb at h;refine ae (ah (qB E rfl rfl bw λa E=>ag (ae (kif E rfl (λhd36=>?_) (λhd36=>?_)))))
 {
 have h:=aB hd36 h;refine aP (ae ?_);refine bL (λa w=>∃x39:(List Int),kP x28 x39=some r33∧∃m',M.le m26 m'∧∃(cs40:List Value),GS (ai .u8) m' b10 cs40 v13 x39∧S W0 m' w ((b10,cs40)::L) (TL)∧Env 51 a [(1,.int .i64 p1),(5,v13),(17,v0),(18,.int .i64 (p0.length:Int)),(19,.int .i64 x28)]) ?_ ?_
 {
 refine aL (ae (ah (qM E rfl λa E=>?_)));obtain⟨x46,hx47,h⟩:=ob h;refine st E (dW (k:=(ai .u64)) E rfl rfl underlying189 sizeOf54 (ha0.mono hm27) hx47) rfl ?_;rintro v49 a _ ⟨rfl,hp48⟩ E;refine st E (bg E hS yU rfl hp48) rfl ?_;rintro v51 a _ ⟨rfl,hv50⟩ E;obtain⟨rfl,hr52⟩:=aI hv50;refine qA E rfl λa E=>qA E rfl λa E=>ag (ae (ah (qM E rfl λa E=>qM E rfl λa E=>ag (aL ?_))))
 refine cP h (λ(s:Int×List Int) a w=>∃m',M.le m26 m'∧∃(cs62:List Value),inR .i64 s.1∧GS (ai .u8) m' b10 cs62 v13 s.2∧S W0 m' w ((b10,cs62)::L) (TL)∧Env 51 a [(1,.int .i64 p1),(5,v13),(6,.int .i64 x28),(7,.int .u64 x46),(17,v0),(18,.int .i64 (p0.length:Int)),(19,.int .i64 x28),(24,.int .i64 p1),(25,.int .i64 s.1)]) ?_ ?_
 {exact⟨_,(Z2 _),cs31,(show inR .i64 0 from aw (by decide)),hc32,hS,kut E⟩}
 {
 rintro ⟨x59,x61⟩ a w ⟨m57,hm58,cs62,hr60,hc63,hS,E⟩ r64 h hb65;have h:ja p1 x28 x46 x59 x61=some r64:=h;unfold ja at h;refine ae (ah (qB E rfl rfl bw λa E=>ag (ae (kif E rfl (λhd67=>?_) (λhd67=>?_)))))
 {
 have h:=aB hd67 h;refine aP (ae (aL (ae (ah (qM E rfl λa E=>qA E rfl λa E=>ag (ae (ah ?_)))))));refine qM E rfl λa E=>qM E rfl λa E=>?_;obtain⟨u72,hu73,h⟩:=ob h;refine qB E rfl rfl (qa rfl (of_decide_eq_true (jS hu73))) λa E=>qB E rfl rfl (Fl rfl) λa E=>qB E rfl rfl fX λa E=>ag ?_
 refine bL (λa w=>∃x79:(List Int),i9 x59 x79=some r64∧∃m',M.le m57 m'∧∃(cs80:List Value),GS (ai .u8) m' b10 cs80 v13 x79∧S W0 m' w ((b10,cs80)::L) (TL)∧Env 51 a [(1,.int .i64 p1),(5,v13),(6,.int .i64 x28),(7,.int .u64 x46),(17,v0),(18,.int .i64 (p0.length:Int)),(19,.int .i64 x28),(24,.int .i64 p1),(25,.int .i64 x59)]) ?_ ?_
 {
 refine kif E rfl (λhd85=>?_) (λhd85=>?_)
 {
 have h:=aB hd85 h;refine ae (ah (qM E rfl λa E=>qM E rfl λa E=>qB E rfl rfl (q8 rfl) λa E=>qM E rfl λa E=>qB E rfl rfl (bn rfl) λa E=>qA E rfl λa E=>ag ?_));obtain⟨j92,hj93,x95,hx96,h⟩:=ob2 h;obtain⟨u98,hu99,h⟩:=ob h
 refine kch (k:=8) (m:=m57) (es:=[]) (Φ:=(λi m ws v=>match i with|0=>v=v13|1=>ei .i64 (Z0.wrap ((Z0.wrap (x28*p1))+x59)) v|2=>ei .i64 (Z0.wrap ((Z0.wrap ((Z0.wrap (x28*p1))+x59)).tdiv 8)) v|3=>v=(.pointer (some ⟨b10,j92*1,none⟩))|4=>ei .u8 x95 v|5=>ei .i64 (Z0.wrap ((Z0.wrap (x28*p1))+x59)) v|6=>ei .i64 ((Z0.wrap ((Z0.wrap (x28*p1))+x59)).tmod 8) v|7=>ei .u8 (ew .u8 1 ((Z0.wrap ((Z0.wrap (x28*p1))+x59)).tmod 8)) v|_=>True)) (Q:=(λc m ws L' TL'=>match c with|0=>(b10,cs62)::L=L'∧TL=TL'|_=>False)) (cs:=[⟨0,0,false,[(5,v13)]⟩,⟨0,0,false,[(9,.int .i64 (Z0.wrap ((Z0.wrap (x28*p1))+x59)))]⟩,⟨0,0,false,[]⟩,⟨0,0,false,[]⟩,⟨0,0,false,[]⟩,⟨0,0,false,[(9,.int .i64 (Z0.wrap ((Z0.wrap (x28*p1))+x59)))]⟩,⟨0,0,false,[]⟩,⟨0,0,false,[]⟩]) mixed E hS ⟨rfl,rfl⟩ rfl rfl (by kernel_rfl) ?_ ?_ ?_ ?_
 {
 intro i m_ m2_ ws v n_ q_
 iterate 8 (rcases i with _|i;exact q_)
 exact trivial}
 {
 intro c m_ m2_ ws L_ T_ n_ hq_
 match c,hq_ with
 |0,⟨e1_,e2_⟩=>exact⟨e1_,e2_⟩
 |_+1,hq_=>exact hq_.elim}
 {
 refine⟨?_,?_,?_,?_,?_,?_,?_,?_,trivial⟩
 {exact cmv λ_ _=>rfl}
 {exact cmv λ_ _=>⟨rfl,(aq _ _)⟩}
 {refine cp0 λ_ _ _ _ _ _ _ _ _ Z' E' T'=>?_;have E:=E'.add (T' 1).1;exact cq (aR E rfl rfl (xu rfl (by decide))) Z' ⟨rfl,(aq _ _)⟩}
 {refine cp1 λ_ _ _ _ _ M' Q' Z' E' T'=>?_;obtain⟨rfl,rfl⟩:=Q';have E:=(E'.add (T' 0)).add (T' 2).1;exact cq (bM (k:=(ai .u8)) E rfl rfl underlying24 sizeOf5 (hc63.mono M') hj93 rfl) Z' rfl}
 {refine cp1 λ_ _ _ _ _ M' Q' Z' E' T'=>?_;obtain⟨rfl,rfl⟩:=Q';have E:=E'.add (T' 3);exact cr (aD E Z' ty5 rfl (i:=0) rfl (GS.elem (hc63.mono M') hx96)) Z' λ_ h=>aI h}
 {exact cmv λ_ _=>⟨rfl,(aq _ _)⟩}
 {refine cp0 λ_ _ _ _ _ _ _ _ _ Z' E' T'=>?_;obtain⟨q123,hr124⟩:=T' 5;have E:=E'.add q123;exact cq (aR E rfl rfl (Ch rfl (by decide))) Z' ⟨rfl,(xt hr124)⟩}
 {refine cp0 λ_ _ _ _ _ _ _ _ _ Z' E' T'=>?_;have E:=E'.add (T' 6).1;exact cq (aR E rfl rfl (y7 rfl (of_decide_eq_true (jS hu99)))) Z' ⟨rfl,(ua _ _ _)⟩}}
 {
 intro ws_ L_ T_ m131 a w hl132 hm133 hq134 hS hd135 hn136 ho137 hT138;obtain rfl:=d3 hl132;obtain⟨rfl,rfl⟩:=hq134
 have E:=eof 8 [(1,.int .i64 p1),(5,v13),(6,.int .i64 x28),(7,.int .u64 x46),(8,.int .i64 x59),(9,.int .i64 (Z0.wrap ((Z0.wrap (x28*p1))+x59))),(17,v0),(18,.int .i64 (p0.length:Int)),(19,.int .i64 x28),(24,.int .i64 p1),(25,.int .i64 x59),(26,.bool (decide (x59<p1))),(27,.int .i64 x59),(28,.int .u64 x46),(29,.int .i64 x59),(30,.int .u64 (aF .u64 x46 x59)),(31,.int .u64 (dm .u64 (aF .u64 x46 x59) 1)),(32,.bool ((dm .u64 (aF .u64 x46 x59) 1)==1)),(33,.int .i64 x28),(34,.int .i64 p1),(35,.int .i64 (Z0.wrap (x28*p1))),(36,.int .i64 x59),(37,.int .i64 (Z0.wrap ((Z0.wrap (x28*p1))+x59)))] hd135 hn136 ho137
 have E:=(((E.add (hT138 0)).add (hT138 2).1).add (hT138 4).1).add (hT138 7).1;refine qB E rfl rfl (In rfl) λa E=>?_;obtain⟨j155,hj156,h⟩:=ob h;refine sp E (bM (k:=(ai .u8)) E rfl rfl underlying24 sizeOf5 (hc63.mono hm133) hj156 rfl) rfl λa E=>?_;obtain⟨x160,hx161,h⟩:=ob h;refine st0 E (eX (k:=(ai .u8)) E hS ty5 bq (hc63.mono hm133) hx161 rfl rfl (au (Cy _ _ _)) (i:=0) rfl) ?_;rintro _ w ⟨cs158,hc159,hS⟩ E;refine ag ?_;exact⟨(x61.set j155 (bOr .u8 x95 (ew .u8 1 ((Z0.wrap ((Z0.wrap (x28*p1))+x59)).tmod 8)))),h,_,hm133,cs158,hc159,hS,kut E⟩}}
 {have h:=aC hd85 h;refine aP ?_;exact⟨x61,h,_,(Z2 _),cs62,hc63,hS,kut E⟩}}
 {rintro a w ⟨x79,h,m77,hm78,cs80,hc81,hS,E⟩;unfold i9 at h;refine ah (qB E rfl rfl (bn rfl) λa E=>qM E rfl λa E=>ag ?_);exact⟨(Z0.wrap (x59+1),x79),(Option.some.inj h).symm,_,(Jj hm58 hm78),cs80,(aq _ _),hc81,hS,kut E⟩}}
 {have h:=aC hd67 h;refine cL rfl rfl ?_;have h:=bH h hb65;exact⟨x61,h,_,hm58,cs62,hc63,hS,kut E⟩}}}
 {rintro a w ⟨x39,h,m37,hm38,cs40,hc41,hS,E⟩;unfold kP at h;refine ah (qB E rfl rfl (bn rfl) λa E=>qM E rfl λa E=>ag ?_);exact⟨(Z0.wrap (x28+1),x39),(Option.some.inj h).symm,_,(Jj hm27 hm38),cs40,(aq _ _),hc41,hS,kut E⟩}}
 {have h:=aC hd36 h;obtain⟨m163,hm164,hS,hv165⟩:=S.freeze hS hc32;refine cL rfl rfl ?_;have h:=bH h hb34;exact⟨x30,h,_,(Jj hm27 hm164),v13,hv165,hS,kut E⟩}}}
 {
 rintro a w ⟨x20,h,m18,hm19,v21,hv22,hS,E⟩;unfold kO at h;refine ae (ah (qM E rfl λa E=>qA E rfl λa E=>ag (bp ?_)));obtain rfl:=oi h
 try dsimp only
 refine f1 E ?_;exact⟨_,hm19,hS,hv22⟩}
theorem OR:Ctr Sz prog 151 [.rd (.sl (.int .u64)),.rd (.int .i64)] [.rd (.sl (.int .u8))] (λx=>iw x.1 x.2.1):=by
 intro W0 m w L TL vs x r Lp Tp hS hP h;obtain⟨v0,vs,rfl,a0,hP0⟩:=kL hP;obtain⟨v1,vs,rfl,a1,hP1⟩:=kL hP0;obtain⟨rfl,n1⟩:=aI a1;obtain⟨rfl,rfl,rfl⟩:=oT hP1;refine rm (to (hS:=hS) a0 n1 h) λv w' he=>?_;obtain⟨m',hm,Z',r0⟩:=he;exact⟨m',[v],[],[],[],hm,Z',rfl,⟨r0,trivial⟩,trivial⟩
def OS:=mC OR call151
theorem sD  {b0_:Nat} {c0_:List Value} (hS:S W0 m w ((b0_,c0_)::L) (TL)) {p0} (ha0:GS kAp m b0_ c0_ v0 p0) {r} (h:eh p0=some r):
    Calls prog 149 [v0].toArray w (Ret λv w'=>∃m',M.le m m'∧∃bq_:Nat,∃cq_:List Value,S W0 m' w' ((bq_,cq_)::L) (TL)∧GS kAp m' bq_ cq_ v r):=by
 refine kc func149 ntmps149 λa E=>?_;have E:Env 61 a [(0,v0)]:=E;unfold eh at h;refine ae (ah (qA E rfl λa E=>ag (ae (ae (ah (qM E rfl λa E=>sp E (oR (k:=kAp) E rfl rfl underlying22 ha0) rfl λa E=>qB E rfl rfl bw λa E=>?_))))));refine ag (kif E rfl (λhd5=>?_) (λhd5=>?_))
 {
 have h:=aB hd5 h;refine ae (ah (qM E rfl λa E=>qA E rfl λa E=>ag (bp ?_)));obtain rfl:=oi h
 try dsimp only
 refine f1 E ?_;exact⟨_,(Z2 _),b0_,c0_,((hS.void 0).pickL 2 [1] rfl rfl rfl),ha0⟩}
 {
 have h:=aC hd5 h;refine aP (ae (ae (ah (qA E rfl λa E=>ag ?_))));refine bL (λa w=>fO p0=some r∧∃m',M.le m m'∧S W0 m' w ((0,[])::(b0_,c0_)::L) (TL)∧Env 61 a [(0,v0)]) ?_ ?_
 {
 refine aL ?_;refine cP h (λ(s:Int) a w=>∃m',M.le m m'∧inR .i64 s∧S W0 m' w ((0,[])::(b0_,c0_)::L) (TL)∧Env 61 a [(0,v0),(3,.int .i64 s)]) ?_ ?_
 {exact⟨_,(Z2 _),(show inR .i64 1 from aw (by decide)),(hS.void 0),kut E⟩}
 {
 rintro x16 a w ⟨m14,hm15,hr17,hS,E⟩ r18 h hb19;have h:fS p0 x16=some r18:=h;unfold fS at h;refine ae (ae (ah (qM E rfl λa E=>qM E rfl λa E=>sp E (oR (k:=kAp) E rfl rfl underlying22 (ha0.mono hm15)) rfl λa E=>qB E rfl rfl bw λa E=>ag (kif E rfl (λhd24=>?_) (λhd24=>?_)))))
 {
 have h:=aB hd24 h;refine aP (ae ?_);refine bL (λa w=>fP x16=some r18∧∃m',M.le m14 m'∧S W0 m' w ((0,[])::(b0_,c0_)::L) (TL)∧Env 61 a [(0,v0),(3,.int .i64 x16)]) ?_ ?_
 {
 refine aL (ae ?_);obtain⟨j31,hj32,x34,hx35,h⟩:=ob2 h;obtain⟨j36,hj37,x39,hx40,h⟩:=ob2 h
 refine kch (k:=9) (m:=m14) (es:=[]) (Φ:=(λi m ws v=>match i with|0=>v=v0|1=>ei .i64 x16 v|2=>v=(.pointer (some ⟨b0_,j31*4,none⟩))|3=>RV kAp m v x34|4=>v=v0|5=>ei .i64 x16 v|6=>ei .i64 (Z0.wrap (x16 - 1)) v|7=>v=(.pointer (some ⟨b0_,j36*4,none⟩))|8=>RV kAp m v x39|_=>True)) (Q:=(λc m ws L' TL'=>match c with|0=>(0,[])::(b0_,c0_)::L=L'∧TL=TL'|_=>False)) (cs:=[⟨0,0,false,[(0,v0)]⟩,⟨0,0,false,[(3,.int .i64 x16)]⟩,⟨0,0,false,[]⟩,⟨0,0,false,[]⟩,⟨0,0,false,[(0,v0)]⟩,⟨0,0,false,[(3,.int .i64 x16)]⟩,⟨0,0,false,[]⟩,⟨0,0,false,[]⟩,⟨0,0,false,[]⟩]) mixed E hS ⟨rfl,rfl⟩ rfl rfl (by kernel_rfl) ?_ ?_ ?_ ?_
 {
 intro i m_ m2_ ws v n_ q_
 iterate 9 (rcases i with _|i;first|exact q_|exact RV.mono q_ n_)
 exact trivial}
 {
 intro c m_ m2_ ws L_ T_ n_ hq_
 match c,hq_ with
 |0,⟨e1_,e2_⟩=>exact⟨e1_,e2_⟩
 |_+1,hq_=>exact hq_.elim}
 {
 refine⟨?_,?_,?_,?_,?_,?_,?_,?_,?_,trivial⟩
 {exact cmv λ_ _=>rfl}
 {exact cmv λ_ _=>⟨rfl,hr17⟩}
 {refine cp1 λ_ _ _ _ _ M' Q' Z' E' T'=>?_;obtain⟨rfl,rfl⟩:=Q';have E:=(E'.add (T' 0)).add (T' 1).1;exact cq (bM (k:=kAp) E rfl rfl underlying22 sizeOf32 (ha0.mono (Jj hm15 M')) hj32 rfl) Z' rfl}
 {refine cp1 λ_ _ _ _ _ M' Q' Z' E' T'=>?_;obtain⟨rfl,rfl⟩:=Q';have E:=E'.add (T' 2);exact cr (aD E Z' fh rfl (i:=1) rfl (GS.elem (ha0.mono (Jj hm15 M')) hx35)) Z' λ_ h=>h}
 {exact cmv λ_ _=>rfl}
 {exact cmv λ_ _=>⟨rfl,hr17⟩}
 {refine cp0 λ_ _ _ _ _ _ _ _ _ Z' E' T'=>?_;have E:=E'.add (T' 5).1;exact cq (aR E rfl rfl (cY rfl)) Z' ⟨rfl,(aq _ _)⟩}
 {refine cp1 λ_ _ _ _ _ M' Q' Z' E' T'=>?_;obtain⟨rfl,rfl⟩:=Q';have E:=(E'.add (T' 4)).add (T' 6).1;exact cq (bM (k:=kAp) E rfl rfl underlying22 sizeOf32 (ha0.mono (Jj hm15 M')) hj37 rfl) Z' rfl}
 {refine cp1 λ_ _ _ _ _ M' Q' Z' E' T'=>?_;obtain⟨rfl,rfl⟩:=Q';have E:=E'.add (T' 7);exact cr (aD E Z' fh rfl (i:=1) rfl (GS.elem (ha0.mono (Jj hm15 M')) hx40)) Z' λ_ h=>h}}
 {
 intro ws_ L_ T_ m74 a w hl75 hm76 hq77 hS hd78 hn79 ho80 hT81;obtain rfl:=d3 hl75;obtain⟨rfl,rfl⟩:=hq77;have E:=eof 9 [(0,v0),(3,.int .i64 x16),(10,.int .i64 x16),(11,v0),(12,.int .i64 (p0.length:Int)),(13,.bool (decide (x16<(p0.length:Int))))] hd78 hn79 ho80;obtain⟨v82,E,q84⟩:=adv E (hT81 3);obtain⟨v85,E,q87⟩:=adv E (hT81 8);refine sp E (za E Bg rfl rfl q84 q87 rfl) rfl λa E=>ag (kif E rfl (λhd89=>?_) (λhd89=>?_))
 {
 have h:=aB hd89 h;refine ae (ah (qM E rfl λa E=>qM E rfl λa E=>?_));obtain⟨q93,hq94,h⟩:=ob h;refine st E (uG (k:=kAp) E rfl underlying22 sizeOf32 (ha0.mono (Jj hm15 hm76)) ⟨_,rfl⟩ rfl hq94 (sz:=4) rfl (xl:=(some (.tmp 27))) (xh:=none)) rfl ?_;rintro v95 a _ ⟨rfl,hc92⟩ E;refine qA E rfl λa E=>ag (ae (ae (ah (qA E rfl λa E=>ag ?_))));refine bL (λa w=>∃x100:Int,∃x102:(List Ap),fQ x100 x102=some r18∧∃m',M.le m74 m'∧∃(cs103:List Value),inR .i64 x100∧GS kAp m' b0_ cs103 v0 x102∧S W0 m' w ((0,[])::(b0_,cs103)::L) (TL)∧Env 61 a [(0,v0),(3,.int .i64 x100)]) ?_ ?_
 {
 refine aL ?_;refine cP h (λ(s:Int×Int×List Ap) a w=>∃m',M.le m74 m'∧∃(cs131:List Value),inR .i64 s.1∧inR .i64 s.2.1∧GS kAp m' b0_ cs131 v0 s.2.2∧S W0 m' w ((0,[])::(b0_,cs131)::L) (TL)∧Env 61 a [(0,v0),(3,.int .i64 s.1),(4,v95),(5,.int .i64 s.2.1)]) ?_ ?_
 {exact⟨_,(Z2 _),c0_,hr17,(show inR .i64 1 from aw (by decide)),(ha0.mono (Jj hm15 hm76)),hS,kut E⟩}
 {
 rintro ⟨x126,x128,x130⟩ a w ⟨m124,hm125,cs131,hr127,hr129,hc132,hS,E⟩ r133 h hb134;have h:fR q93 x126 x128 x130=some r133:=h;unfold fR at h;refine ae (ae (ah (qM E rfl λa E=>qM E rfl λa E=>?_)));obtain⟨u137,hu138,h⟩:=ob h;refine sp E (LY (sz:=4) E rfl rfl underlying22 hc92) rfl λa E=>qB E rfl rfl bw λa E=>ag (kif E rfl (λhd141=>?_) (λhd141=>?_))
 {
 have h:=aB hd141 h;refine aP (ae (aL (ae ?_)));obtain⟨j142,hj143,x145,hx146,h⟩:=ob2 h;obtain⟨j147,hj148,x150,hx151,h⟩:=ob2 h
 refine kch (k:=9) (m:=m124) (es:=[]) (Φ:=(λi m ws v=>match i with|0=>v=v95|1=>ei .i64 x128 v|2=>v=(.pointer (some ⟨b0_,j142*4,none⟩))|3=>RV kAp m v x145|4=>v=v95|5=>ei .i64 x128 v|6=>ei .i64 (Z0.wrap (x128 - 1)) v|7=>v=(.pointer (some ⟨b0_,j147*4,none⟩))|8=>RV kAp m v x150|_=>True)) (Q:=(λc m ws L' TL'=>match c with|0=>(0,[])::(b0_,cs131)::L=L'∧TL=TL'|_=>False)) (cs:=[⟨0,0,false,[(4,v95)]⟩,⟨0,0,false,[(5,.int .i64 x128)]⟩,⟨0,0,false,[]⟩,⟨0,0,false,[]⟩,⟨0,0,false,[(4,v95)]⟩,⟨0,0,false,[(5,.int .i64 x128)]⟩,⟨0,0,false,[]⟩,⟨0,0,false,[]⟩,⟨0,0,false,[]⟩]) mixed E hS ⟨rfl,rfl⟩ rfl rfl (by kernel_rfl) ?_ ?_ ?_ ?_
 {
 intro i m_ m2_ ws v n_ q_
 iterate 9 (rcases i with _|i;first|exact q_|exact RV.mono q_ n_)
 exact trivial}
 {
 intro c m_ m2_ ws L_ T_ n_ hq_
 match c,hq_ with
 |0,⟨e1_,e2_⟩=>exact⟨e1_,e2_⟩
 |_+1,hq_=>exact hq_.elim}
 {
 refine⟨?_,?_,?_,?_,?_,?_,?_,?_,?_,trivial⟩
 {exact cmv λ_ _=>rfl}
 {exact cmv λ_ _=>⟨rfl,hr129⟩}
 {refine cp0 λ_ _ _ _ _ _ _ _ _ Z' E' T'=>?_;have E:=(E'.add (T' 0)).add (T' 1).1;exact cq (ym (sz:=4) E rfl rfl underlying22 sizeOf32 hc92 hj143) Z' rfl}
 {refine cp1 λ_ _ _ _ _ M' Q' Z' E' T'=>?_;obtain⟨rfl,rfl⟩:=Q';have E:=E'.add (T' 2);exact cr (aD E Z' fh rfl (i:=1) rfl (GS.elem (hc132.mono M') hx146)) Z' λ_ h=>h}
 {exact cmv λ_ _=>rfl}
 {exact cmv λ_ _=>⟨rfl,hr129⟩}
 {refine cp0 λ_ _ _ _ _ _ _ _ _ Z' E' T'=>?_;have E:=E'.add (T' 5).1;exact cq (aR E rfl rfl (cY rfl)) Z' ⟨rfl,(aq _ _)⟩}
 {refine cp0 λ_ _ _ _ _ _ _ _ _ Z' E' T'=>?_;have E:=(E'.add (T' 4)).add (T' 6).1;exact cq (ym (sz:=4) E rfl rfl underlying22 sizeOf32 hc92 hj148) Z' rfl}
 {refine cp1 λ_ _ _ _ _ M' Q' Z' E' T'=>?_;obtain⟨rfl,rfl⟩:=Q';have E:=E'.add (T' 7);exact cr (aD E Z' fh rfl (i:=1) rfl (GS.elem (hc132.mono M') hx151)) Z' λ_ h=>h}}
 {
 intro ws_ L_ T_ m185 a w hl186 hm187 hq188 hS hd189 hn190 ho191 hT192;obtain rfl:=d3 hl186;obtain⟨rfl,rfl⟩:=hq188;have E:=eof 9 [(0,v0),(3,.int .i64 x126),(4,v95),(5,.int .i64 x128),(29,.int .i64 x128),(30,v95),(31,.int .i64 (q93.2:Int)),(32,.bool (decide (x128<(q93.2:Int))))] hd189 hn190 ho191;obtain⟨v193,E,q195⟩:=adv E (hT192 3);obtain⟨v196,E,q198⟩:=adv E (hT192 8);refine sp E (vU E Bg rfl rfl q195 q198 rfl) rfl λa E=>ag ?_
 refine bL (λa w=>∃x202:Int,∃x204:(List Ap),dC x128 x202 x204=some r133∧∃m',M.le m185 m'∧∃(cs205:List Value),inR .i64 x202∧GS kAp m' b0_ cs205 v0 x204∧S W0 m' w ((0,[])::(b0_,cs205)::L) (TL)∧Env 61 a [(0,v0),(3,.int .i64 x202),(4,v95),(5,.int .i64 x128)]) ?_ ?_
 {
 refine kif E rfl (λhd211=>?_) (λhd211=>?_)
 {
 have h:=aB hd211 h;refine ae (ah (qM E rfl λa E=>qM E rfl λa E=>qM E rfl λa E=>qM E rfl λa E=>?_));obtain⟨j216,hj217,h⟩:=ob h;refine sp E (ym (sz:=4) E rfl rfl underlying22 sizeOf32 hc92 hj217) rfl λa E=>?_;obtain⟨x220,hx221,h⟩:=ob h;refine st E (aD E hS fh rfl (i:=1) rfl (GS.elem (hc132.mono hm187) hx221)) rfl ?_;rintro v222 a _ ⟨rfl,hv219⟩ E;obtain⟨j223,hj224,h⟩:=ob h;refine sp E (bM (k:=kAp) E rfl rfl underlying22 sizeOf32 (hc132.mono hm187) hj224 rfl) rfl λa E=>?_;obtain⟨x228,hx229,h⟩:=ob h
 refine st0 E (eX (k:=kAp) E hS fh bq (hc132.mono hm187) hx229 rfl rfl hv219 (i:=1) rfl) ?_;rintro _ w ⟨cs226,hc227,hS⟩ E;refine ag (ah (qM E rfl λa E=>qB E rfl rfl (bn rfl) λa E=>qA E rfl λa E=>ag ?_));exact⟨(Z0.wrap (x126+1)),(x130.set j223 x220),h,_,(Z2 _),cs226,(aq _ _),hc227,hS,kut E⟩}
 {have h:=aC hd211 h;refine aP ?_;exact⟨x126,x130,h,_,(Z2 _),cs131,hr127,(hc132.mono hm187),hS,kut E⟩}}
 {rintro a w ⟨x202,x204,h,m200,hm201,cs205,hr203,hc206,hS,E⟩;unfold dC at h;refine ah (qM E rfl λa E=>qB E rfl rfl (bn rfl) λa E=>qA E rfl λa E=>ag ?_);exact⟨(x202,Z0.wrap (x128+1),x204),(Option.some.inj h).symm,_,(Jj hm125 (Jj hm187 hm201)),cs205,hr203,(aq _ _),hc206,hS,kut E⟩}}}
 {have h:=aC hd141 h;refine cL rfl rfl ?_;have h:=bH h hb134;exact⟨x126,x130,h,_,hm125,cs131,hr127,hc132,hS,kut E⟩}}}
 {
 rintro a w ⟨x100,x102,h,m98,hm99,cs103,hr101,hc104,hS,E⟩;unfold fQ at h;refine ae (ah (qM E rfl λa E=>qM E rfl λa E=>?_));obtain⟨q109,hq110,h⟩:=ob h;refine st E (uG (k:=kAp) E rfl underlying22 sizeOf32 hc104 ⟨_,rfl⟩ rfl hq110 (sz:=4) rfl (xl:=(some (.tmp 55))) (xh:=none)) rfl ?_;rintro v111 a _ ⟨rfl,hc108⟩ E;obtain⟨z114,hz115,h⟩:=ob h;refine st0 E (GB (k:=kAp) E hS rfl rfl underlying22 zeroValue32 (λm=>pY m) (i:=1) rfl hc104 hc108 hz115) ?_;rintro _ w ⟨cs112,hc113,hS⟩ E;refine ag (ae (ah (qM E rfl λa E=>qM E rfl λa E=>?_)));obtain⟨x120,hx121,h⟩:=ob h
 refine st E (GA (k:=kAp) E rfl underlying22 sizeOf32 hc113 rfl hx121) rfl ?_;rintro v122 a _ ⟨rfl,hc119⟩ E;refine qA E rfl λa E=>ag (bp ?_);have h:=bH h hb19;obtain rfl:=oi h
 try dsimp only
 refine f1 E ?_;exact⟨_,(Jj hm15 (Jj hm76 hm99)),b0_,cs112,(hS.pickL 2 [1] rfl rfl rfl),hc119⟩}}
 {have h:=aC hd89 h;refine aP ?_;exact⟨h,_,hm76,hS,kut E⟩}}}
 {rintro a w ⟨h,m25,hm26,hS,E⟩;unfold fP at h;refine ah (qM E rfl λa E=>qB E rfl rfl (bn rfl) λa E=>qA E rfl λa E=>ag ?_);exact⟨Z0.wrap (x16+1),(Option.some.inj h).symm,_,(Jj hm15 hm26),(aq _ _),hS,kut E⟩}}
 {have h:=aC hd24 h;refine cL rfl rfl ?_;have h:=bH h hb19;exact⟨h,_,hm15,hS,kut E⟩}}}
 {
 rintro a w ⟨h,m9,hm10,hS,E⟩;unfold fO at h;refine ae (ah (qM E rfl λa E=>qA E rfl λa E=>ag (bp ?_)));obtain rfl:=oi h
 try dsimp only
 refine f1 E ?_;exact⟨_,hm10,b0_,c0_,(hS.pickL 2 [1] rfl rfl rfl),(ha0.mono hm10)⟩}}
theorem tZ  (hS:S W0 m w L TL) {p0} (ha0:RV (kSl kAp) m v0 p0) {r} (h:iN p0=some r):
    Calls prog 92 [v0].toArray w (Ret λv w'=>∃m',M.le m m'∧∃bq_:Nat,∃cq_:List Value,S W0 m' w' ((bq_,cq_)::L) (TL)∧GS kAp m' bq_ cq_ v r):=by
 refine kc func92 ntmps92 λa E=>?_;have E:Env 8 a [(0,v0)]:=E;unfold iN at h;refine ae (ah (qA E rfl λa E=>ag (ae (ae (ah (qM E rfl λa E=>?_))))));refine st E (yo (k:=kAp) E rfl rfl ha0 underlying22) rfl ?_;rintro v5 a _ ⟨rfl,bn3,rfl,hb4⟩ E;refine ag (kif E rfl (λhd6=>?_) (λhd6=>?_))
 {
 have hx_:=hb4 hd6;have h:some ([]:List Ap)=some r:=by rw[hx_] at h;exact h
 refine ae (ah (qA E rfl λa E=>ag (bp ?_)));obtain rfl:=oi h
 try dsimp only
 refine f1 E ?_;exact⟨_,(Z2 _),0,[],(((hS.void 0).void 0).pickL 2 [0] rfl rfl rfl),GS.void⟩}
 {
 refine aP (ae (ah ?_));refine st E (Ks (k:=kAp) (m:=m) (xs:=[]) (vs:=[]) E (hS.void 0) rfl underlying22 sizeOf32 zeroValue32 trivial rfl (by decide)) rfl ?_;rintro v14 a w ⟨b11,cs12,hc13,hS⟩ E;refine qM E rfl λa E=>?_;obtain⟨z16,hz17,h⟩:=ob h;refine st E (Aw (k:=kAp) (N:=3518437208883) E hS rfl rfl underlying22 DZ (i:=0) rfl hc13 (zb hS underlying22 ha0) hz17 rfl rfl) rfl ?_;rintro v24 a w ⟨b21,cs22,hc23,hS⟩ E;refine qA E rfl λa E=>ag (bp ?_);obtain rfl:=oi h
 try dsimp only
 refine f1 E ?_;exact⟨_,(Z2 _),b21,cs22,(hS.pickL 2 [0] rfl rfl rfl),hc23⟩}
theorem Eb {m0:M}:Fn2 prog kAp kAp (ai .i64) m0 (.func (.func 109) [].toArray [].toArray) cC:=by
  refine⟨109,_,rfl,call109,?_⟩;intro W0 m w L TL v0 v1 x0 x1 r hm hS h0 h1 hr;refine(Ak (hS:=hS) h0 h1 hr).mono ?_;intro e w' he;cases e with
  |returned v=>obtain⟨m',h1,h2,h3⟩:=he;exact⟨m',h1,h2,h3⟩
  |panicked ch=>exact he.elim
  |outgrown=>exact he.elim
theorem Cf  (hS:S W0 m w L TL) {p0} (ha0:RV (kSl kAp) m v0 p0) {r} (h:nt p0=some r):
    Calls prog 105 [v0].toArray w (Ret λv w'=>∃m',M.le m m'∧S W0 m' w' L ((1,v)::TL)∧RV (kSl (ai .u8)) m' v r):=by
 refine kc func105 ntmps105 λa E=>?_;have E:Env 54 a [(0,v0)]:=E;unfold nt at h;refine ae (ah (qA E rfl λa E=>ag (ae (ah (qM E rfl λa E=>?_)))));obtain⟨r3,hr4,h⟩:=ob h;refine st E (aA (vs:=[v0]) E rfl call92 (tZ (hS:=hS) ha0 hr4)) rfl ?_;rintro v11 a w ⟨m5,hm6,b7,cs8,hS,hc9⟩ E;refine qA E rfl λa E=>ag (ae (ah (qM E rfl λa E=>?_)));obtain⟨r14,hr15,h⟩:=ob h;refine st E (aA (vs:=[v11,(.func (.func 109) #[] #[])]) E rfl call148 (sI (hS:=hS) hc9 (Eb (m0:=m5)) hr15)) rfl ?_;rintro v20 a w ⟨m16,hm17,c0_18,hS,hc0_19⟩ E;refine ag (ae (ah (qM E rfl λa E=>?_)))
 obtain⟨r22,hr23,h⟩:=ob h;refine st E (aA (vs:=[v11]) E rfl call149 (sD (hS:=hS) hc0_19 hr23)) rfl ?_;rintro v30 a w ⟨m24,hm25,b26,cs27,hS,hc28⟩ E;refine qA E rfl λa E=>ag (ae ?_);obtain⟨m32,hm33,hS,hv34⟩:=S.freeze hS hc28;refine ah (qM E rfl λa E=>sp E (aS (k:=kAp) E rfl rfl underlying22 hv34) rfl λa E=>sp E (dE E rfl underlying3 underlying5 rfl) rfl λa E=>?_);refine st E (gF (k:=(ai .u8)) (xs:=[Z4.wrap (r22.length:Int)]) (vs:=[(.int .u8 (Z4.wrap (r22.length:Int)))]) E hS rfl underlying24 sizeOf5 zeroValue5 ⟨(au (aq _ _)),trivial⟩ rfl (by decide)) rfl ?_
 rintro v41 a w ⟨m39,hm40,hS,hv38⟩ E;refine qA E rfl λa E=>ag (ae (ae (ah (qM E rfl λa E=>sp E (aS (k:=kAp) E rfl rfl underlying22 (hv34.mono hm40)) rfl λa E=>qM E rfl λa E=>ag ?_))));refine bL (λa w=>∃x48:(List Int),mB p0 r22 x48=some r∧∃m',M.le m39 m'∧∃(v49:Value),RV (kSl (ai .u8)) m' v49 x48∧S W0 m' w L ((1,v49)::TL)∧Env 54 a [(0,v0),(3,v30),(4,v49)]) ?_ ?_
 {
 refine aL ?_;refine cP h (λ(s:List Int×Int) a w=>∃m',M.le m39 m'∧∃(v138:Value),RV (kSl (ai .u8)) m' v138 s.1∧inR .i64 s.2∧S W0 m' w L ((1,v138)::TL)∧Env 54 a [(0,v0),(3,v30),(4,v138),(20,v30),(21,.int .i64 (r22.length:Int)),(22,.int .i64 s.2)]) ?_ ?_
 {exact⟨_,(Z2 _),v41,hv38,(show inR .i64 0 from aw (by decide)),hS,kut E⟩}
 {
 rintro ⟨x137,x140⟩ a w ⟨m135,hm136,v138,hv139,hr141,hS,E⟩ r142 h hb143;have h:kw p0 r22 x137 x140=some r142:=h;unfold kw at h;refine ae (ah (qB E rfl rfl bw λa E=>ag (ae (kif E rfl (λhd145=>?_) (λhd145=>?_)))))
 {
 have h:=aB hd145 h;refine aP (ae (aL (ae (ah ?_))));obtain⟨x146,hx147,h⟩:=ob h;refine st E (dW (k:=kAp) E rfl rfl underlying22 sizeOf32 (hv34.mono (Jj hm40 hm136)) hx147) rfl ?_;rintro v149 a _ ⟨rfl,hp148⟩ E;refine st E (bg E hS fh rfl hp148) rfl ?_;rintro v151 a _ ⟨rfl,hv150⟩ E;refine st E (dp hS zeroValue32 rfl (cs:=xa)) rfl ?_;rintro _ a w ⟨b152,rfl,hS⟩ E;refine st0 E (dc E hS fh bq rfl rfl hv150 (i:=0) rfl (pY _)) ?_;rintro _ w ⟨cs154,hc155,hS⟩ E;refine ag (ah (qM E rfl λa E=>?_));refine st E (aD E hS fh rfl (i:=0) rfl (aQ hc155)) rfl ?_;rintro v159 a _ ⟨rfl,hv158⟩ E
 obtain⟨r160,hr161,h⟩:=ob h;refine st E (aA (vs:=[v159]) E rfl call107 (xf (hS:=hS) hv158 hr161)) rfl ?_;rintro v165 a w ⟨m162,hm163,hS,hv164⟩ E;obtain⟨z166,hz167,h⟩:=ob h;refine st E (jD (k:=(ai .u8)) (N:=140737488355328) E hS rfl rfl underlying24 underlying24 el5 (i:=0) rfl (hv139.mono hm163) hv164 hz167 rfl rfl) rfl ?_;rintro v171 a w ⟨m169,hm170,hS,hv168⟩ E;refine qA E rfl λa E=>ag (ah (qB E rfl rfl (bn rfl) λa E=>qM E rfl λa E=>ag ?_));exact⟨(z166,Z0.wrap (x140+1)),(Option.some.inj h).symm,_,(Jj hm136 (Jj hm163 hm170)),v171,hv168,(aq _ _),(hS.pickL 1 [] rfl rfl rfl),kut E⟩}
 {have h:=aC hd145 h;refine cL rfl rfl ?_;have h:=bH h hb143;exact⟨x137,h,_,hm136,v138,hv139,hS,kut E⟩}}}
 {
 rintro a w ⟨x48,h,m46,hm47,v49,hv50,hS,E⟩;unfold mB at h;refine ae (ah (qA E rfl λa E=>ag (ae (ae (ah (qM E rfl λa E=>sp E (aS (k:=kAp) E rfl rfl underlying22 (ha0.mono (Jj hm6 (Jj hm17 (Jj hm25 (Jj hm33 (Jj hm40 hm47))))))) rfl λa E=>qM E rfl λa E=>?_))))));refine ag ?_;refine bL (λa w=>∃x58:(List Int),mA r22 x48 x58=some r∧∃m',M.le m46 m'∧∃(v59:Value),RV (kSl (ai .u64)) m' v59 x58∧S W0 m' w L ((1,v59)::(1,v49)::TL)∧Env 54 a [(3,v30),(4,v49),(7,v59)]) ?_ ?_
 {
 refine aL ?_;refine cP h (λ(s:List Int×Int) a w=>∃m',M.le m46 m'∧∃(v91:Value),RV (kSl (ai .u64)) m' v91 s.1∧inR .i64 s.2∧S W0 m' w L ((1,v91)::(1,v49)::TL)∧Env 54 a [(3,v30),(4,v49),(7,v91),(31,v0),(32,.int .i64 (p0.length:Int)),(33,.int .i64 s.2)]) ?_ ?_
 {exact⟨_,(Z2 _),(.slice none 0 0),dF,(show inR .i64 0 from aw (by decide)),(hS.tail0 1),kut E⟩}
 {
 rintro ⟨x90,x93⟩ a w ⟨m88,hm89,v91,hv92,hr94,hS,E⟩ r95 h hb96;have h:iW p0 r22 x48 x90 x93=some r95:=h;unfold iW at h;refine ae (ah (qB E rfl rfl bw λa E=>ag (ae (kif E rfl (λhd98=>?_) (λhd98=>?_)))))
 {
 have h:=aB hd98 h;refine aP (ae (aL (ae (ah ?_))));obtain⟨x99,hx100,h⟩:=ob h;refine st E (dW (k:=kAp) E rfl rfl underlying22 sizeOf32 (ha0.mono (Jj hm6 (Jj hm17 (Jj hm25 (Jj hm33 (Jj hm40 (Jj hm47 hm89))))))) hx100) rfl ?_;rintro v102 a _ ⟨rfl,hp101⟩ E;refine st E (bg E hS fh rfl hp101) rfl ?_;rintro v104 a _ ⟨rfl,hv103⟩ E;refine st E (dp hS zeroValue32 rfl (cs:=xa)) rfl ?_;rintro _ a w ⟨b105,rfl,hS⟩ E;refine st0 E (dc E hS fh bq rfl rfl hv103 (i:=0) rfl (pY _)) ?_;rintro _ w ⟨cs107,hc108,hS⟩ E;refine ag (ah (qM E rfl λa E=>qM E rfl λa E=>?_))
 refine st E (aD E hS fh rfl (i:=0) rfl (aQ hc108)) rfl ?_;rintro v113 a _ ⟨rfl,hv112⟩ E;obtain⟨r114,hr115,h⟩:=ob h;refine st E (aA (vs:=[v30,v113]) E rfl call150 (vu (hS:=hS) (hv34.mono (Jj hm40 (Jj hm47 hm89))) hv112 hr115)) rfl ?_;rintro v119 a w ⟨m116,hm117,hS,hv118⟩ E;obtain⟨rfl,hr120⟩:=aI hv118;refine sp E (dE E rfl underlying3 underlying54 rfl) rfl λa E=>?_;refine st E (gF (k:=(ai .u64)) (xs:=[Z5.wrap r114]) (vs:=[(.int .u64 (Z5.wrap r114))]) E hS rfl underlying189 sizeOf54 zeroValue54 ⟨(au (aq _ _)),trivial⟩ rfl (by decide)) rfl ?_;rintro v125 a w ⟨m123,hm124,hS,hv122⟩ E
 obtain⟨z126,hz127,h⟩:=ob h;refine st E (jD (k:=(ai .u64)) (N:=17592186044416) E hS rfl rfl underlying189 underlying189 Nf (i:=1) rfl (hv92.mono (Jj hm117 hm124)) hv122 hz127 rfl rfl) rfl ?_;rintro v131 a w ⟨m129,hm130,hS,hv128⟩ E;refine qA E rfl λa E=>ag (ah (qB E rfl rfl (bn rfl) λa E=>qM E rfl λa E=>ag ?_));exact⟨(z126,Z0.wrap (x93+1)),(Option.some.inj h).symm,_,(Jj hm89 (Jj hm117 (Jj hm124 hm130))),v131,hv128,(aq _ _),((hS.pickL 1 [] rfl rfl rfl).pickT 3 [1,2] rfl rfl rfl),kut E⟩}
 {have h:=aC hd98 h;refine cL rfl rfl ?_;have h:=bH h hb96;exact⟨x90,h,_,hm89,v91,hv92,hS,kut E⟩}}}
 {
 rintro a w ⟨x58,h,m56,hm57,v59,hv60,hS,E⟩;unfold mA at h;refine ae (ah (qM E rfl λa E=>qM E rfl λa E=>qM E rfl λa E=>sp E (aS (k:=kAp) E rfl rfl underlying22 (hv34.mono (Jj hm40 (Jj hm47 hm57)))) rfl λa E=>qB E rfl rfl (cY rfl) λa E=>sp E (dE E rfl underlying3 underlying94 rfl) rfl λa E=>?_));obtain⟨r68,hr69,h⟩:=ob h;refine st E (aA (vs:=[(.int .u64 (Z5.wrap (Z0.wrap ((r22.length:Int) - 1))))]) E rfl call152 (Gm (hS:=hS) (aq _ _) hr69)) rfl ?_;rintro v73 a w ⟨m70,hm71,hS,hv72⟩ E;obtain⟨rfl,hr74⟩:=aI hv72;obtain⟨r75,hr76,h⟩:=ob h
 refine st E (aA (vs:=[v59,(.int .i64 r68)]) E rfl call151 (to (hS:=hS) (hv60.mono hm71) hr74 hr76)) rfl ?_;rintro v80 a w ⟨m77,hm78,hS,hv79⟩ E;obtain⟨z81,hz82,h⟩:=ob h;refine st E (jD (k:=(ai .u8)) (N:=140737488355328) E hS rfl rfl underlying24 underlying24 el5 (i:=1) rfl (hv50.mono (Jj hm57 (Jj hm71 hm78))) hv79 hz82 rfl rfl) rfl ?_;rintro v86 a w ⟨m84,hm85,hS,hv83⟩ E;refine qA E rfl λa E=>ag (bp ?_);obtain rfl:=oi h
 try dsimp only
 refine f1 E ?_;exact⟨_,(Jj hm6 (Jj hm17 (Jj hm25 (Jj hm33 (Jj hm40 (Jj hm47 (Jj hm57 (Jj hm71 (Jj hm78 hm85))))))))),(hS.pickT 2 [1] rfl rfl rfl),hv83⟩}}
theorem OT:Ctr Sz prog 153 [.rd (.sl (.int .i64))] [.rd (.int .i64)] (fun x=>kQ x.1):=
 ncR [] [2] func153 ntmps153 (.s .o (.s .o (.s .o (.s (.s .o (.b (.l ⟨[.v 3 1 (.dat (.int .i64) none),.v 4 1 (.dat (.int .i64) none)],[0],0,[]⟩ .o))) .o)))) λx=>by kernel_rfl
def OU:=mC OT call153
theorem OV:Ctr Sz prog 106 [.rd (.sl (.int .i64))] [.ap (.int .u8)] (fun x=>mb x.1):=
 ncR [H9,OS,OU,Ia] [2] func106 ntmps106 (.s .o (.s .o (.s .o (.s .o (.s (.s .o (.b (.l ⟨[.v 4 1 (.dat (.sl (.int .u64)) (some 0)),.v 5 1 (.dat (.int .i64) none),.v 13 1 (.dat (.int .i64) none)],[3,11,12],0,[1]⟩ .o))) .o))))) λx=>by kernel_rfl
theorem Bj  (hS:S W0 m w L TL) {p0} (ha0:RV (kSl (ai .i64)) m v0 p0) {r} (h:mb p0=some r):
    Calls prog 106 [v0].toArray w (Ret λv w'=>∃m',M.le m m'∧S W0 m' w' L ((1,v)::TL)∧RV (kSl (ai .u8)) m' v r):=by
 refine rm (OV W0 m w L TL [v0] (p0,()) r [] [] hS ⟨ha0,trivial⟩ h) λv w' he=>?_;obtain⟨m',us,Lr,Lq,Tr,hm,Z',rfl,hR,hO⟩:=he;obtain⟨u0,us,Tr,rfl,rfl,r0,hR0⟩:=sV hR;obtain⟨rfl,rfl,rfl⟩:=cl hR0;have hO0:=bG hO;obtain rfl:=cm hO0;exact⟨m',hm,Z',r0⟩
theorem OW {m0:M}:Fn1 prog kAp cG m0 (.func (.func 100) [].toArray [].toArray) eY:=by
  refine⟨100,_,rfl,call100,?_⟩;intro W0 m w L TL v0 x0 r hm hS h0 hr;refine(xR (hS:=hS) h0 hr).mono ?_;intro e w' he;cases e with
  |returned v=>obtain⟨m',h1,h2,h3⟩:=he;exact⟨m',h1,h2,h3⟩
  |panicked ch=>exact he.elim
  |outgrown=>exact he.elim
theorem Am  (hS:S W0 m w L TL) {p0} (ha0:inR .i64 p0) {p1} (ha1:RV (kSl kAp) m v1 p1) {r} (h:fj p0 p1=some r):
    Calls prog 47 [(.int .i64 p0),v1].toArray w (Ret λv w'=>∃m',M.le m m'∧S W0 m' w' L TL∧∃v0_ v1_:Value,v= .tuple #[v0_,v1_]∧RV (kSl (ai .u8)) m' v0_ r.1∧RV (ai .i64) m' v1_ r.2):=by
 refine kc func47 ntmps47 λa E=>?_;have E:Env 69 a [(0,.int .i64 p0),(1,v1)]:=E;unfold fj at h;refine ae (ah (qA E rfl λa E=>qA E rfl λa E=>ag (ae (ae ?_))));refine bL (λa w=>∃x5:Bool,gO p0 p1 x5=some r∧∃m',M.le m m'∧S W0 m' w L TL∧Env 69 a [(0,.int .i64 p0),(1,v1),(16,.bool x5)]) ?_ ?_
 {
 refine ah (qM E rfl λa E=>qB E rfl rfl bw λa E=>qM E rfl λa E=>?_);rcases Z1 (decide (p0<0)) with hd174|hd174
 {have h:=aB hd174 h;refine qX E hd174 λa E=>qX E hd174 λa E=>qT E hd174 rfl λa E=>ag ?_;exact⟨true,h,_,(Z2 _),hS,kut E⟩}
 {have h:=aC hd174 h;refine qG E hd174 rfl λa E=>spg E rfl rfl rfl rfl hd174 (aR E rfl rfl iM) rfl λa E=>qF E hd174 rfl λa E=>ag ?_;exact⟨(decide (4<p0)),h,_,(Z2 _),hS,kut E⟩}}
 {
 rintro a w ⟨x5,h,m3,hm4,hS,E⟩;unfold gO at h;refine kif E rfl (λhd7=>?_) (λhd7=>?_)
 {
 have h:=aB hd7 h;refine ae (ah (qA E rfl λa E=>qA E rfl λa E=>ag (bp ?_)));obtain rfl:=oi h
 try dsimp only
 refine f2 E ?_;exact⟨_,hm4,hS,_,_,rfl,dF,(au (show inR .i64 62 from aw (by decide)))⟩}
 {
 have h:=aC hd7 h;refine aP (ae (ae (ah (qM E rfl λa E=>sp E (aS (k:=kAp) E rfl rfl underlying22 (ha1.mono hm4)) rfl λa E=>qB E rfl rfl iM λa E=>ag (kif E rfl (λhd13=>?_) (λhd13=>?_))))))
 {
 have h:=aB hd13 h;refine ae (ah (qA E rfl λa E=>qA E rfl λa E=>ag (bp ?_)));obtain rfl:=oi h
 try dsimp only
 refine f2 E ?_;exact⟨_,hm4,hS,_,_,rfl,dF,(au (show inR .i64 61 from aw (by decide)))⟩}
 {
 have h:=aC hd13 h;refine aP (ae (ae (ah (qM E rfl λa E=>?_))));obtain⟨r17,hr18,h⟩:=ob h;refine st E (aA (vs:=[v1,(.func (.func 100) #[] #[])]) E rfl call99 (qI (hS:=hS) (ha1.mono hm4) (OW (m0:=m3)) hr18)) rfl ?_;rintro v22 a w ⟨m19,hm20,hS,hv21⟩ E;obtain rfl:=ef hv21;refine ag (kif E rfl (λhd23=>?_) (λhd23=>?_))
 {
 have h:=aB hd23 h;refine ae (ah (qA E rfl λa E=>qA E rfl λa E=>ag (bp ?_)));obtain rfl:=oi h
 try dsimp only
 refine f2 E ?_;exact⟨_,(Jj hm4 hm20),hS,_,_,rfl,dF,(au (show inR .i64 60 from aw (by decide)))⟩}
 {
 have h:=aC hd23 h;refine aP (ae (ah (qM E rfl λa E=>?_)));obtain⟨r27,hr28,h⟩:=ob h;refine st E (aA (vs:=[v1]) E rfl call102 (Cc (hS:=hS) (ha1.mono (Jj hm4 hm20)) hr28)) rfl ?_;rintro _ a w ⟨m29,hm30,hS,v0_31,v1_32,rfl,hv0_33,hv1_34⟩ E;obtain rfl:=ef hv1_34;refine qM E rfl λa E=>sp E (bE E rfl rfl) rfl λa E=>sp E (bE E rfl rfl) rfl λa E=>qA E rfl λa E=>qA E rfl λa E=>ag (ae (ae ?_));refine bL (λa w=>∃x43:Bool,eH p0 p1 r27 x43=some r∧∃m',M.le m29 m'∧S W0 m' w L TL∧Env 69 a [(0,.int .i64 p0),(1,v1),(6,v0_31),(36,.bool x43)]) ?_ ?_
 {
 refine ah (qM E rfl λa E=>sp E (j9 E rfl) rfl λa E=>qM E rfl λa E=>?_);rcases Z1 (!r27.2) with hd159|hd159
 {
 have h:=aB hd159 h;refine qG E hd159 rfl λa E=>spg E rfl rfl rfl rfl hd159 (aR E rfl rfl fX) rfl λa E=>qG E hd159 rfl λa E=>?_;rcases Z1 (p0==2) with hd163|hd163
 {have h:=aB hd163 h;refine qX E hd163 λa E=>qX E hd163 λa E=>spg E rfl rfl rfl rfl hd159 (ry E rfl hd163 rfl) rfl λa E=>qT E hd159 rfl λa E=>ag ?_;exact⟨true,h,_,(Z2 _),hS,kut E⟩}
 {have h:=aC hd163 h;refine qG E hd163 rfl λa E=>spg E rfl rfl rfl rfl hd163 (aR E rfl rfl fX) rfl λa E=>spg E rfl rfl rfl rfl hd159 (rz E rfl hd163 rfl) rfl λa E=>qT E hd159 rfl λa E=>ag ?_;exact⟨(p0==4),h,_,(Z2 _),hS,kut E⟩}}
 {have h:=aC hd159 h;refine qX E hd159 λa E=>qX E hd159 λa E=>qX E hd159 λa E=>sxu E rfl rfl rfl rfl λa E=>sxu E rfl rfl rfl rfl λa E=>qX E hd159 λa E=>qF E hd159 rfl λa E=>ag ?_;exact⟨false,h,_,(Z2 _),hS,kut E⟩}}
 {
 rintro a w ⟨x43,h,m41,hm42,hS,E⟩;unfold eH at h;refine kif E rfl (λhd45=>?_) (λhd45=>?_)
 {
 have h:=aB hd45 h;refine ae (ah (qA E rfl λa E=>qA E rfl λa E=>ag (bp ?_)));obtain rfl:=oi h
 try dsimp only
 refine f2 E ?_;exact⟨_,(Jj hm4 (Jj hm20 (Jj hm30 hm42))),hS,_,_,rfl,dF,(au (show inR .i64 62 from aw (by decide)))⟩}
 {
 have h:=aC hd45 h;refine aP (ae (ae (ah (qM E rfl λa E=>sp E (aS (k:=kAp) E rfl rfl underlying22 (ha1.mono (Jj hm4 (Jj hm20 (Jj hm30 hm42))))) rfl λa E=>qB E rfl rfl fX λa E=>ag (kif E rfl (λhd51=>?_) (λhd51=>?_))))))
 {
 have h:=aB hd51 h;refine ae (ah (qA E rfl λa E=>qA E rfl λa E=>ag (bp ?_)));obtain rfl:=oi h
 try dsimp only
 refine f2 E ?_;exact⟨_,(Jj hm4 (Jj hm20 (Jj hm30 hm42))),hS,_,_,rfl,dF,(au (show inR .i64 0 from aw (by decide)))⟩}
 {
 have h:=aC hd51 h;refine aP (ae (ae (ah (qM E rfl λa E=>ag (aL (ae (ah (qB E rfl rfl fX λa E=>?_))))))));refine qA E rfl λa E=>ag (kif E rfl (λhd57=>?_) (λhd57=>?_))
 {
 have h:=aB hd57 h;refine ae (ah (qM E rfl λa E=>?_));obtain⟨r59,hr60,h⟩:=ob h;refine st E (aA (vs:=[v1]) E rfl call103 (Ce (hS:=hS) (ha1.mono (Jj hm4 (Jj hm20 (Jj hm30 hm42)))) hr60)) rfl ?_;rintro v64 a w ⟨m61,hm62,hS,hv63⟩ E;refine qA E rfl λa E=>qA E rfl λa E=>ag (bp ?_);obtain rfl:=oi h
 try dsimp only
 refine f2 E ?_;exact⟨_,(Jj hm4 (Jj hm20 (Jj hm30 (Jj hm42 hm62)))),(hS.dropT 1),_,_,rfl,hv63,(au (show inR .i64 0 from aw (by decide)))⟩}
 {
 have h:=aC hd57 h;refine ae (ah (qB E rfl rfl fX λa E=>qA E rfl λa E=>ag (kif E rfl (λhd69=>?_) (λhd69=>?_))))
 {
 have h:=aB hd69 h;refine ae (ah (qM E rfl λa E=>?_));obtain⟨r71,hr72,h⟩:=ob h;refine st E (aA (vs:=[v0_31]) E rfl call104 (Bi (hS:=hS) (hv0_33.mono hm42) hr72)) rfl ?_;rintro v76 a w ⟨m73,hm74,hS,hv75⟩ E;refine qA E rfl λa E=>qA E rfl λa E=>ag (bp ?_);obtain rfl:=oi h
 try dsimp only
 refine f2 E ?_;exact⟨_,(Jj hm4 (Jj hm20 (Jj hm30 (Jj hm42 hm74)))),(hS.dropT 1),_,_,rfl,hv75,(au (show inR .i64 0 from aw (by decide)))⟩}
 {
 have h:=aC hd69 h;refine ae (ah (qB E rfl rfl fX λa E=>qA E rfl λa E=>ag (kif E rfl (λhd81=>?_) (λhd81=>?_))))
 {
 have h:=aB hd81 h;refine ae (ah (qM E rfl λa E=>?_));obtain⟨r83,hr84,h⟩:=ob h;refine st E (aA (vs:=[v1]) E rfl call105 (Cf (hS:=hS) (ha1.mono (Jj hm4 (Jj hm20 (Jj hm30 hm42)))) hr84)) rfl ?_;rintro v88 a w ⟨m85,hm86,hS,hv87⟩ E;refine qA E rfl λa E=>qA E rfl λa E=>ag (bp ?_);obtain rfl:=oi h
 try dsimp only
 refine f2 E ?_;exact⟨_,(Jj hm4 (Jj hm20 (Jj hm30 (Jj hm42 hm86)))),(hS.dropT 1),_,_,rfl,hv87,(au (show inR .i64 0 from aw (by decide)))⟩}
 {
 have h:=aC hd81 h;refine ae (ah (qB E rfl rfl fX λa E=>qA E rfl λa E=>ag (kif E rfl (λhd93=>?_) (λhd93=>?_))))
 {
 have h:=aB hd93 h;refine ae (ah (qM E rfl λa E=>?_));obtain⟨r95,hr96,h⟩:=ob h;refine st E (aA (vs:=[v0_31]) E rfl call106 (Bj (hS:=hS) (hv0_33.mono hm42) hr96)) rfl ?_;rintro v100 a w ⟨m97,hm98,hS,hv99⟩ E;refine qA E rfl λa E=>qA E rfl λa E=>ag (bp ?_);obtain rfl:=oi h
 try dsimp only
 refine f2 E ?_;exact⟨_,(Jj hm4 (Jj hm20 (Jj hm30 (Jj hm42 hm98)))),(hS.dropT 1),_,_,rfl,hv99,(au (show inR .i64 0 from aw (by decide)))⟩}
 {
 have h:=aC hd93 h;refine aP (ae (ah (qA E rfl λa E=>ag (ae (ae (ah (qM E rfl λa E=>sp E (aS (k:=kAp) E rfl rfl underlying22 (ha1.mono (Jj hm4 (Jj hm20 (Jj hm30 hm42))))) rfl λa E=>?_)))))));refine qM E rfl λa E=>ag ?_;refine bL (λa w=>∃x109:(List Int),kR x109=some r∧∃m',M.le m41 m'∧∃(v110:Value),RV (kSl (ai .u8)) m' v110 x109∧S W0 m' w L ((1,v110)::TL)∧Env 69 a [(8,v110)]) ?_ ?_
 {
 refine aL ?_;refine cP h (λ(s:List Int×Int) a w=>∃m',M.le m41 m'∧∃(v119:Value),RV (kSl (ai .u8)) m' v119 s.1∧inR .i64 s.2∧S W0 m' w L ((1,v119)::TL)∧Env 69 a [(8,v119),(57,v1),(58,.int .i64 (p1.length:Int)),(59,.int .i64 s.2)]) ?_ ?_
 {exact⟨_,(Z2 _),(.slice none 0 0),dF,(show inR .i64 0 from aw (by decide)),(hS.tail0 1),kut E⟩}
 {
 rintro ⟨x118,x121⟩ a w ⟨m116,hm117,v119,hv120,hr122,hS,E⟩ r123 h hb124;have h:jd p1 x118 x121=some r123:=h;unfold jd at h;refine ae (ah (qB E rfl rfl bw λa E=>ag (ae (kif E rfl (λhd126=>?_) (λhd126=>?_)))))
 {
 have h:=aB hd126 h;refine aP (ae (aL (ae (ah ?_))));obtain⟨x127,hx128,h⟩:=ob h;refine st E (dW (k:=kAp) E rfl rfl underlying22 sizeOf32 (ha1.mono (Jj hm4 (Jj hm20 (Jj hm30 (Jj hm42 hm117))))) hx128) rfl ?_;rintro v130 a _ ⟨rfl,hp129⟩ E;refine st E (bg E hS fh rfl hp129) rfl ?_;rintro v132 a _ ⟨rfl,hv131⟩ E;refine st E (dp hS zeroValue32 rfl (cs:=xa)) rfl ?_;rintro _ a w ⟨b133,rfl,hS⟩ E;refine st0 E (dc E hS fh bq rfl rfl hv131 (i:=0) rfl (pY _)) ?_;rintro _ w ⟨cs135,hc136,hS⟩ E;refine ag (ah (qM E rfl λa E=>?_));refine st E (aD E hS fh rfl (i:=0) rfl (aQ hc136)) rfl ?_
 rintro v140 a _ ⟨rfl,hv139⟩ E;obtain⟨r141,hr142,h⟩:=ob h;refine st E (aA (vs:=[v140]) E rfl call107 (xf (hS:=hS) hv139 hr142)) rfl ?_;rintro v146 a w ⟨m143,hm144,hS,hv145⟩ E;obtain⟨z147,hz148,h⟩:=ob h;refine st E (jD (k:=(ai .u8)) (N:=140737488355328) E hS rfl rfl underlying24 underlying24 el5 (i:=0) rfl (hv120.mono hm144) hv145 hz148 rfl rfl) rfl ?_;rintro v152 a w ⟨m150,hm151,hS,hv149⟩ E;refine qA E rfl λa E=>ag (ah (qB E rfl rfl (bn rfl) λa E=>qM E rfl λa E=>ag ?_))
 exact⟨(z147,Z0.wrap (x121+1)),(Option.some.inj h).symm,_,(Jj hm117 (Jj hm144 hm151)),v152,hv149,(aq _ _),(hS.pickL 1 [] rfl rfl rfl),kut E⟩}
 {have h:=aC hd126 h;refine cL rfl rfl ?_;have h:=bH h hb124;exact⟨x118,h,_,hm117,v119,hv120,hS,kut E⟩}}}
 {
 rintro a w ⟨x109,h,m107,hm108,v110,hv111,hS,E⟩;unfold kR at h;refine ae (ah (qM E rfl λa E=>qA E rfl λa E=>qA E rfl λa E=>ag (bp ?_)));obtain rfl:=oi h
 try dsimp only
 refine f2 E ?_;exact⟨_,(Jj hm4 (Jj hm20 (Jj hm30 (Jj hm42 hm108)))),(hS.dropT 1),_,_,rfl,hv111,(au (show inR .i64 0 from aw (by decide)))⟩}}}}}}}}}}}}
theorem QC:Ctr Sz prog 47 [.rd (.int .i64),.rd (.sl (.st 32))] [.rd (.sl (.int .u8)),.rd (.int .i64)] (λx=>fj x.1 x.2.1):=by
 intro W0 m w L TL vs x r Lp Tp hS hP h;obtain⟨v0,vs,rfl,a0,hP0⟩:=kL hP;obtain⟨rfl,n0⟩:=aI a0;obtain⟨v1,vs,rfl,a1,hP1⟩:=kL hP0;obtain⟨rfl,rfl,rfl⟩:=oT hP1;refine rm (Am (hS:=hS) n0 a1 h) λv w' he=>?_;obtain⟨m',hm,Z',u0,u1,rfl,r0,r1⟩:=he;exact⟨m',[u0,u1],[],[],[],hm,Z',rfl,⟨r0,⟨r1,trivial⟩⟩,trivial⟩
def Ct:=mC QC call47
theorem OX:Ctr Sz prog 135 [.rd (.int .i64),.rd (.sl (.st 32))] [.rd .bool] (fun x=>rh x.1 x.2.1):=
 ncR [Ct] [4] func135 ntmps135 .o λx=>by kernel_rfl
theorem Ec  (hS:S W0 m w L TL) {p0} (ha0:inR .i64 p0) {p1} (ha1:RV (kSl kAp) m v1 p1) {r} (h:rh p0 p1=some r):
    Calls prog 135 [(.int .i64 p0),v1].toArray w (Ret λv w'=>∃m',M.le m m'∧S W0 m' w' L TL∧RV cG m' v r):=by
 refine rm (OX W0 m w L TL [(.int .i64 p0),v1] (p0,p1,()) r [] [] hS ⟨au ha0,⟨ha1,trivial⟩⟩ h) λv w' he=>?_;obtain⟨m',us,Lr,Lq,Tr,hm,Z',rfl,hR,hO⟩:=he;obtain⟨u0,us,rfl,r0,hR0⟩:=cZ hR;obtain⟨rfl,rfl,rfl⟩:=cl hR0;have hO0:=bG hO;have hO1:=bG hO0;obtain rfl:=cm hO1;exact⟨m',hm,Z',r0⟩
theorem QD:Ctr Sz prog 46 [.rd (.sl (.st 32))] [.rd (.int .i64)] (fun x=>qe x.1):=
 ncR [Ct] [2] func46 ntmps46 (.s .o (.s .o (.s (.s .o (.b (.l ⟨[.v 3 1 (.dat (.int .i64) none),.v 4 1 (.dat (.int .i64) none),.v 5 1 (.dat (.int .i64) none)],[0],0,[]⟩ .o))) .o))) λx=>by kernel_rfl
def QE:=mC QD call46
theorem OY:Ctr Sz prog 108 [.rd (.sl (.st 32)),.f2 (.st 32) (.st 32) (.int .i64)] [.rd (.st 32)] (fun x=>f9 x.1 x.2.1):=
 nxR [] [.cell 4 32] func108 ntmps108 (.s .o (.s .o (.s .o (.s (.s .o (.b (.l ⟨[.v 6 1 (.dat (.int .i64) none),.b 1 1 (.st 32)],[0,1,4,5],2,[]⟩ .o))) .o)))) λx=>by kernel_rfl
theorem t6  (hS:S W0 m w L TL) {p0} (ha0:RV (kSl kAp) m v0 p0) {p1} (ha1:Fn2 prog kAp kAp (ai .i64) m v1 p1) {r} (h:f9 p0 p1=some r):
    Calls prog 108 [v0,v1].toArray w (Ret λv w'=>∃m',M.le m m'∧S W0 m' w' L TL∧RV kAp m' v r):=by
 refine rm (OY W0 m w L TL [v0,v1] (p0,p1,()) r [] [] hS ⟨ha0,⟨ha1,trivial⟩⟩ h) λv w' he=>?_;obtain⟨m',us,Lr,Lq,Tr,hm,Z',rfl,hR,hO⟩:=he;obtain⟨u0,us,rfl,r0,hR0⟩:=cZ hR;obtain⟨rfl,rfl,rfl⟩:=cl hR0;have hO0:=bG hO;have hO1:=Cp hO0;obtain rfl:=cm hO1;exact⟨m',hm,Z',r0⟩
theorem OZ:Ctr Sz prog 110 [.rd (.sl (.st 32)),.f2 (.st 32) (.st 32) (.int .i64)] [.rd (.st 32)] (fun x=>ga x.1 x.2.1):=
 nxR [] [.cell 4 32] func110 ntmps110 (.s .o (.s .o (.s .o (.s (.s .o (.b (.l ⟨[.v 6 1 (.dat (.int .i64) none),.b 1 1 (.st 32)],[0,1,4,5],2,[]⟩ .o))) .o)))) λx=>by kernel_rfl
theorem t7  (hS:S W0 m w L TL) {p0} (ha0:RV (kSl kAp) m v0 p0) {p1} (ha1:Fn2 prog kAp kAp (ai .i64) m v1 p1) {r} (h:ga p0 p1=some r):
    Calls prog 110 [v0,v1].toArray w (Ret λv w'=>∃m',M.le m m'∧S W0 m' w' L TL∧RV kAp m' v r):=by
 refine rm (OZ W0 m w L TL [v0,v1] (p0,p1,()) r [] [] hS ⟨ha0,⟨ha1,trivial⟩⟩ h) λv w' he=>?_;obtain⟨m',us,Lr,Lq,Tr,hm,Z',rfl,hR,hO⟩:=he;obtain⟨u0,us,rfl,r0,hR0⟩:=cZ hR;obtain⟨rfl,rfl,rfl⟩:=cl hR0;have hO0:=bG hO;have hO1:=Cp hO0;obtain rfl:=cm hO1;exact⟨m',hm,Z',r0⟩
theorem t8 {m:M}{v:Value}{p0:List Ap}(ha:PR (kSl kAp) m v p0):zf prog (Rv1 kAp) 157 [v].toArray m p0:=by
 intro σ I step B y m1 w L TL s Ls TLs r mono hle hy hI hS hf;refine xq (args:=[y,v]) func157 rfl ntmps157 (Z3 rfl) λa E=>?_;have E:Env 16 a [(0,y),(1,v)]:=E;refine ae (ah ?_);refine st E (bg E hS tX rfl (ha.mono hle)) rfl ?_;rintro v5 a _ ⟨rfl,hv5⟩ E;refine sp E (aS (k:=kAp) E rfl rfl underlying22 hv5) rfl λa E=>qM E rfl λa E=>ag ?_;have h:=Fq (g8 hv5) hf;refine aL ?_;refine cP h (λ(t:Int×σ) a w=>∃m' Ls' TLs',M.le m1 m'∧inR .i64 t.1∧I m' t.2 Ls' TLs'∧S (B t.2) m' w (Ls'++L) (TLs'++TL)∧Env 16 a [(0,y),(5,v5),(6,.int .i64 (p0.length:Int)),(7,.int .i64 t.1)]) ?_ ?_
 {exact⟨m1,Ls,TLs,Z2 _,(show inR .i64 0 from aw (by decide)),hI,hS,kut E⟩}
 {
 rintro ⟨i,s⟩ a w ⟨m2,Ls2,TLs2,hm2,hi,hI,hS,E⟩ r9 h hb;unfold AB at h;refine ae (ah (qB E rfl rfl bw λa E=>ag (ae (kif E rfl (λhd=>?_) (λhd=>?_)))))
 {
 have h:=aB hd h;refine aP (ae (aL (ae (ah ?_))));obtain⟨x,hx,h⟩:=ob h;refine st E (dW (k:=kAp) E rfl rfl underlying22 sizeOf32 (hv5.mono hm2) hx) rfl ?_;rintro v9 a _ ⟨rfl,hp⟩ E;refine st E (bg E hS fh rfl hp) rfl ?_;rintro v10 a _ ⟨rfl,hv10⟩ E;refine st E (dp hS zeroValue32 rfl (cs:=xa)) rfl ?_;rintro _ a w ⟨b4,rfl,hS⟩ E;refine st0 E (dc E hS fh bq rfl rfl hv10 (i:=0) rfl (pY _)) ?_;rintro _ w ⟨cs,hc,hS⟩ E;refine ag (ae (ah (qM E rfl λa E=>?_)));refine st E (aD E hS fh rfl (i:=0) rfl (aQ hc)) rfl ?_;rintro v12 a _ ⟨rfl,hv12⟩ E;obtain⟨q,hq,h⟩:=ob h
 refine st E (hy m2 _ L TL s Ls2 TLs2 [v12] x q.1 q.2 hI (hS.dropL 1) ⟨_,rfl,hv12⟩ hq _ _ _ _ _ _ _ _ _ (E.eval rfl) (g7 E rfl)) rfl ?_;rintro _ a w ⟨rfl,m3,Ls3,TLs3,hm3,hI,hS⟩ E;refine sp E (j9 E rfl) rfl λa E=>ag (kif E rfl (λhd=>?_) (λhd=>?_))
 {have h:=aC (by simpa using hd) h;obtain rfl:=oi h;refine bp ?_;have h:=hb _ rfl;subst h;refine Fin.mk E (rs:=[]) rfl rG.nil ?_;exact⟨m3,Ls3,TLs3,hm2.trans hm3,hI,hS⟩}
 {have h:=aB (by simpa using hd) h;obtain rfl:=oi h;refine aP (ah (qB E rfl rfl (bn rfl) λa E=>qM E rfl λa E=>ag ?_));exact⟨_,rfl,m3,Ls3,TLs3,hm2.trans hm3,(aq _ _),hI,hS,kut E⟩}}
 {have h:=aC hd h;obtain rfl:=oi h;have h:=hb _ rfl;subst h;refine cL rfl rfl ?_;dsimp only;refine Fin.mk E (rs:=[]) rfl rG.nil ?_;exact⟨m2,Ls2,TLs2,hm2,hI,hS⟩}}
theorem ux (hS:S W0 m w L TL) {p0} (ha0:RV (kSl kAp) m v0 p0) {r} (h:jt p0=some r):
    Calls prog 111 [v0].toArray w (Ret λv w'=>∃m',M.le m m'∧S W0 m' w' L TL∧ItV prog (Rv1 kAp) m' v r):=by
 refine kc func111 ntmps111 λa E=>?_;have E:Env 4 a [(0,v0)]:=E;unfold jt at h;obtain rfl:=oi h;refine ae (ah ?_);refine st E (iz E hS rfl ha0) rfl ?_;rintro _ a w ⟨b,cs,rfl,hc,hS⟩ E;refine qA E rfl λa E=>ag (ae (ah ?_));obtain⟨m1,hm,hS,hp⟩:=S.freezeL (k:=(kSl kAp)) hS hc;refine sp E (mq E rfl rfl) rfl λa E=>qA E rfl λa E=>ag (bp ?_);refine f1 E ?_;exact⟨_,hm,hS,157,_,rfl,call157,t8 hp⟩
theorem xg  (hS:S W0 m w L TL) {p0} (ha0:inR .i64 p0) {p1} (ha1:RV (kSl kAp) m v1 p1) {r} (h:kS p0 p1=some r):
    Calls prog 48 [(.int .i64 p0),v1].toArray w (Ret λv w'=>∃m',M.le m m'∧S W0 m' w' L TL∧RV cW m' v r):=by
 refine CO func48 rfl ntmps48 (Z3 rfl) λa E=>?_;have E:Env 26 a [(0,.int .i64 p0),(1,v1)]:=E;unfold kS at h;refine ae (ah ?_);refine st E (dp hS zeroValue34 rfl (cs:=vn)) rfl ?_;rintro _ a w ⟨b1,rfl,hS⟩ E;refine ag (ae (ah (qM E rfl λa E=>qM E rfl λa E=>sp E (aS (k:=kAp) E rfl rfl underlying22 ha1) rfl λa E=>qM E rfl λa E=>?_)));obtain⟨r7,hr8,h⟩:=ob h;refine st E (aA (vs:=[v1,(.func (.func 109) #[] #[])]) E rfl call108 (t6 (hS:=hS) ha1 (Eb (m0:=m)) hr8)) rfl ?_;rintro v12 a w ⟨m9,hm10,hS,hv11⟩ E;refine qM E rfl λa E=>?_;obtain⟨r14,hr15,h⟩:=ob h
 refine st E (aA (vs:=[v1,(.func (.func 109) #[] #[])]) E rfl call110 (t7 (hS:=hS) (ha1.mono hm10) (Eb (m0:=m9)) hr15)) rfl ?_;rintro v19 a w ⟨m16,hm17,hS,hv18⟩ E;refine st E (jR (m:=m16) (k:=cW) (x0:=bO.zero) (xx:=(⟨p0,(p1.length:Int),r7,r14,0,0⟩:bO)) (pl:=[(0,1),(1,1),(2,4),(6,4),(10,1),(11,1)]) (pv:=[(0,.int .i64 p0),(1,.int .i64 (p1.length:Int)),(2,v12),(3,v19)]) E rfl underlying34 rfl zeroValue34 yV rfl (.cons rfl HQ (au ha0) (.cons rfl HR (au (dA (g8 ha1))) (.cons rfl HS (hv11.mono hm17) (.cons rfl HT hv18 .nil))))) rfl ?_;rintro v21 a _ ⟨rfl,hv20⟩ E
 refine st E (dp hS zeroValue34 rfl (cs:=vn)) rfl ?_;rintro _ a w ⟨b22,rfl,hS⟩ E;refine st0 E (dc E hS yW bq rfl rfl hv20 (i:=0) rfl (yV _)) ?_;rintro _ w ⟨cs24,hc25,hS⟩ E;refine ag (ae (ae (ah (qM E rfl λa E=>?_))));obtain⟨r28,hr29,h⟩:=ob h;refine st E (aA (vs:=[v1]) E rfl call111 (ux (hS:=hS) (ha1.mono (Jj hm10 hm17)) hr29)) rfl ?_;rintro v33 a w ⟨m30,hm31,hS,hv32⟩ E;refine ag (aL ?_);obtain⟨y67,hy68,h⟩:=ob h
 refine AA (Rv:=(Rv1 kAp)) (λ(s:bO) (x:Ap)=>fk s x) (λ_=> .ret) [] (λ(m':M) (s:bO) (Ls_:Mem) (TLs_:Tls)=>∃(cs37:List Value),M.le m30 m'∧cW.R m' cs37 s∧Ls_=[(b22,cs37),(b1,vn)]∧TLs_=[]) (Ls:=[(b22,cs24),(b1,vn)]) (TLs:=[]) (s0:=(⟨p0,(p1.length:Int),r7,r14,0,0⟩:bO)) (sf:=y67.1) (bf:=y67.2) E hS rfl hv32 (by decide) (λ_ _ _ h=>Az h) (by rintro m1_ m2_ s_ a_ b_ n_ ⟨cs37,hl_,hf0_,e1_,e2_⟩;exact⟨cs37,hl_.trans n_,cW.mono n_ hf0_,e1_,e2_⟩) ⟨cs24,Z2 _,(cW.mono hm31 hc25),rfl,rfl⟩ hy68 ?_ ?_
 {
 intro lid_ W1_ W0 m34 w L TL s_ Ls_ TLs_ vs_ x39 s40 b41 a or_ ob_ hI42 hS hR43 h E hT44;obtain⟨x36,rfl⟩:∃x,x=s_:=⟨_,rfl⟩
 obtain⟨cs37,hm35,hc38,rfl,rfl⟩:=hI42;have h:fk x36 x39=some (s40,b41):=h;unfold fk at h;obtain⟨v45,rfl,hv46⟩:=hR43;refine ah ?_;refine st E (dp hS zeroValue32 rfl (cs:=xa)) rfl ?_;rintro _ a w ⟨b47,rfl,hS⟩ E;refine st0 E (dc E hS fh bq rfl rfl hv46 (i:=0) rfl (pY _)) ?_;rintro _ w ⟨cs49,hc50,hS⟩ E;refine ag ?_;obtain⟨hb_,hS⟩:=hT44 _ _ _ _ hS;refine⟨hb_,?_⟩;refine aL (ae (ah (sp E (aJ E D0 rfl) rfl λa E=>?_)));refine st E (aD E hS ty3 rfl (i:=0) rfl (MB.R_drop (aQ hc50))) rfl ?_;rintro v54 a _ ⟨rfl,hv53⟩ E;obtain⟨rfl,hr55⟩:=aI hv53
 refine qB E rfl rfl fX λa E=>ag (kif E rfl (λhd57=>?_) (λhd57=>?_))
 {
 have h:=aB hd57 h;refine ah (sp E (aJ E xb rfl) rfl λa E=>?_);refine st E (aD E hS ty3 rfl (i:=1) rfl (MM.R_drop (aQ hc38))) rfl ?_;rintro v60 a _ ⟨rfl,hv59⟩ E;obtain⟨rfl,hr61⟩:=aI hv59;refine qB E rfl rfl (bn rfl) λa E=>sp E (aJ E xb rfl) rfl λa E=>?_;refine st0 E (dc E hS ty3 HU rfl rfl (au (aq _ _)) (i:=1) rfl hc38) ?_;rintro _ w ⟨cs64,hc65,hS⟩ E;refine ag ?_;cases h
 try dsimp only
 exact⟨rfl,_,[(b22,cs64),(b1,vn)],[],(Z2 _),⟨cs64,hm35,hc65,rfl,rfl⟩,(hS.pickL 3 [1,2] rfl rfl rfl)⟩}
 {
 have h:=aC hd57 h;refine aP ?_;cases h
 try dsimp only
 exact⟨rfl,_,[(b22,cs37),(b1,vn)],[],(Z2 _),⟨cs37,hm35,hc38,rfl,rfl⟩,(hS.pickL 3 [1,2] rfl rfl rfl)⟩}}
 {
 intro D69 m73 w a Ls_ TLs_ hm74 E hI42 hS hk71 hB72;obtain⟨cs76,_,hc77,rfl,rfl⟩:=hI42;obtain⟨W0,hW70⟩:∃W9,W9=W0.put D69 (.deferred (some [])):=⟨_,rfl⟩
 rw[←hW70] at hS;rcases Z1 y67.2 with hb75|hb75
 {
 have h:=aB hb75 h;rw[if_pos hb75];refine ae (ah ?_);refine st E (aD E hS yW rfl (i:=0) rfl (aQ hc77)) rfl ?_;rintro v79 a _ ⟨rfl,hv78⟩ E;refine st0 E (dc E hS yW bq rfl rfl hv78 (i:=1) rfl (yV _)) ?_;rintro _ w ⟨cs80,hc81,hS⟩ E;refine ag (bp ?_);obtain rfl:=oi h
 try dsimp only
 have hS:=hS;rw[hW70] at hS;refine CN.shut E hS hk71 hB72 λa w hS E=>?_;refine CN.nil E ?_;refine Fin.mk E (rs:=[.cell 4 34]) rfl (rG.cell E hS yW rfl (i:=1) rfl (aQ hc81) rG.nil) ?_;exact⟨_,(Jj hm10 (Jj hm17 (Jj hm31 hm74))),(hS.dropL 2),(EB (aQ hc81))⟩}
 {have h:=aC hb75 h;cases h}}
theorem QF:Ctr Sz prog 48 [.rd (.int .i64),.rd (.sl (.st 32))] [.rd (.st 34)] (λx=>kS x.1 x.2.1):=by
 intro W0 m w L TL vs x r Lp Tp hS hP h;obtain⟨v0,vs,rfl,a0,hP0⟩:=kL hP;obtain⟨rfl,n0⟩:=aI a0;obtain⟨v1,vs,rfl,a1,hP1⟩:=kL hP0;obtain⟨rfl,rfl,rfl⟩:=oT hP1;refine rm (xg (hS:=hS) n0 a1 h) λv w' he=>?_;obtain⟨m',hm,Z',r0⟩:=he;exact⟨m',[v],[],[],[],hm,Z',rfl,⟨r0,trivial⟩,trivial⟩
def QG:=mC QF call48
theorem QH:Ctr Sz prog 49 [.rd (.st 32)] [.rd (.sl (.int .u8))] (fun x=>qt x.1):=
 ncR [H7] [2] func49 ntmps49 .o λx=>by kernel_rfl
def QI:=mC QH call49
theorem Ke:Ctr Sz prog 78 [.rd (.sl (.int .u8))] [.rd (.int .u32)] (fun x=>ic x.1):=
 ncR [] [2] func78 ntmps78 (.s .o (.s .o (.s (.s .o (.b (.l ⟨[.v 9 1 (.dat (.int .i64) none),.a 0 1 (.int .u32) (some 16)],[0,3],1,[]⟩ (.s .o (.s .o (.s (.b (.s .o (.s .o (.s (.s .o (.b (.l ⟨[.v 5 2 (.dat (.int .u32) none),.v 14 2 (.dat (.int .i64) none)],[0,3,4,9],1,[]⟩ .o))) .o)))) .o)))))) (.s .o (.s (.s .o (.b (.l ⟨[.v 6 1 (.dat (.int .u32) none),.v 29 1 (.dat (.int .i64) none)],[3,27,28],1,[]⟩ .o))) .o))))) λx=>by kernel_rfl
def QJ:=mC Ke call78
theorem yh  (hS:S W0 m w L TL) {p0} (ha0:RV (kSl (ai .u8)) m v0 p0) {r} (h:ic p0=some r):
    Calls prog 78 [v0].toArray w (Ret λv w'=>∃m',M.le m m'∧S W0 m' w' L TL∧RV (ai .u32) m' v r):=by
 refine rm (Ke W0 m w L TL [v0] (p0,()) r [] [] hS ⟨ha0,trivial⟩ h) λv w' he=>?_;obtain⟨m',us,Lr,Lq,Tr,hm,Z',rfl,hR,hO⟩:=he;obtain⟨u0,us,rfl,r0,hR0⟩:=cZ hR;obtain⟨rfl,rfl,rfl⟩:=cl hR0;have hO0:=bG hO;obtain rfl:=cm hO0;exact⟨m',hm,Z',r0⟩
theorem Kf:Ctr Sz prog 50 [.ap (.int .u8)] [.ap (.int .u8)] (fun x=>kx x.1):=
 ncR [QJ] [2] func50 ntmps50 .o λx=>by kernel_rfl
def QK:=mC Kf call50
theorem Bk  (hS:S W0 m w L ((1,v0)::TL)) {p0} (ha0:RV (kSl (ai .u8)) m v0 p0) {r} (h:kx p0=some r):
    Calls prog 50 [v0].toArray w (Ret λv w'=>∃m',M.le m m'∧S W0 m' w' L ((1,v)::TL)∧RV (kSl (ai .u8)) m' v r):=by
 refine rm (Kf W0 m w L TL [v0] (p0,()) r [] [(1,v0)] hS ⟨ha0,rfl,trivial⟩ h) λv w' he=>?_;obtain⟨m',us,Lr,Lq,Tr,hm,Z',rfl,hR,hO⟩:=he;obtain⟨u0,us,Tr,rfl,rfl,r0,hR0⟩:=sV hR;obtain⟨rfl,rfl,rfl⟩:=cl hR0;have hO0:=JZ hO;obtain rfl:=cm hO0;exact⟨m',hm,Z',r0⟩
theorem QL:Ctr Sz prog 15 [.rd (.int .i64),.rd (.sl (.st 32))] [.rd (.sl (.int .u8)),.rd (.int .i64)] (fun x=>nv x.1 x.2.1):=
 ncR [QE,Ct,QG,QI,QK] [4,5] func15 ntmps15 .o λx=>by kernel_rfl
theorem Cg  (hS:S W0 m w L TL) {p0} (ha0:inR .i64 p0) {p1} (ha1:RV (kSl kAp) m v1 p1) {r} (h:nv p0 p1=some r):
    Calls prog 15 [(.int .i64 p0),v1].toArray w (Ret λv w'=>∃m',M.le m m'∧S W0 m' w' L TL∧∃v0_ v1_:Value,v= .tuple #[v0_,v1_]∧RV (kSl (ai .u8)) m' v0_ r.1∧RV (ai .i64) m' v1_ r.2):=by
 refine rm (QL W0 m w L TL [(.int .i64 p0),v1] (p0,p1,()) r [] [] hS ⟨au ha0,⟨ha1,trivial⟩⟩ h) λv w' he=>?_;obtain⟨m',us,Lr,Lq,Tr,hm,Z',rfl,hR,hO⟩:=he;obtain⟨u0,us,rfl,r0,hR0⟩:=cZ hR;obtain⟨u1,us,rfl,r1,hR1⟩:=cZ hR0;obtain⟨rfl,rfl,rfl⟩:=cl hR1;have hO0:=bG hO;have hO1:=bG hO0;obtain rfl:=cm hO1;exact⟨m',hm,Z',u0,u1,rfl,r0,r1⟩
theorem yZ  (hS:S W0 m w L TL) {p0} (ha0:inR .i64 p0) {p1} (ha1:RV (kSl kAp) m v1 p1) {r} (h:kD p0 p1=some r):
    Calls prog 76 [(.int .i64 p0),v1].toArray w (Ret λv w'=>∃m',M.le m m'∧S W0 m' w' L ((1,v)::TL)∧RV (kSl (ai .u8)) m' v r):=by
 refine CO func76 rfl ntmps76 (Z3 rfl) λa E=>?_;have E:Env 28 a [(0,.int .i64 p0),(1,v1)]:=E;unfold kD at h;refine ae (ah ?_);refine st E (iz (k:=(ai .i64)) E hS rfl (au ha0)) rfl ?_;rintro _ a w ⟨b1,cs2,rfl,hc3,hS⟩ E;refine qA E rfl λa E=>ag (ae (ah ?_));refine st E (dp hS zeroValue24 rfl (cs:=[(.slice none 0 0)])) rfl ?_;rintro _ a w ⟨b6,rfl,hS⟩ E;refine ag (ae (ae (ah (qM E rfl λa E=>?_))));obtain⟨r9,hr10,h⟩:=ob h;refine st E (aA (vs:=[v1,(.int .i64 64)]) E rfl call134 (vt (hS:=hS) ha1 (show inR .i64 64 from aw (by decide)) hr10)) rfl ?_;rintro v14 a w ⟨m11,hm12,hS,hv13⟩ E
 refine ag (aL ?_);obtain⟨y78,hy79,h⟩:=ob h;refine AA (Rv:=(Rv1 (kSl kAp))) (λ(s:List Int) (x:List Ap)=>eV p0 s x) (λ_=> .ret) [] (λ(m':M) (s:List Int) (Ls_:Mem) (TLs_:Tls)=>∃(v18:Value),M.le m11 m'∧RV (kSl (ai .u8)) m' v18 s∧Ls_=[(b6,[v18]),(b1,cs2)]∧TLs_=[(1,v18)]) (Ls:=[(b6,[(.slice none 0 0)]),(b1,cs2)]) (TLs:=[(1,.slice none 0 0)]) (s0:=([]:(List Int))) (sf:=y78.1) (bf:=y78.2) E (hS.tail0 1) rfl hv13 (by decide) (λ_ _ _ h=>Az h) (by rintro m1_ m2_ s_ a_ b_ n_ ⟨v18,hl_,hf0_,e1_,e2_⟩;exact⟨v18,hl_.trans n_,hf0_.mono n_,e1_,e2_⟩) ⟨(.slice none 0 0),Z2 _,dF,rfl,rfl⟩ hy79 ?_ ?_
 {
 intro lid_ W1_ W0 m15 w L TL s_ Ls_ TLs_ vs_ x20 s21 b22 a or_ ob_ hI23 hS hR24 h E hT25;obtain⟨x17,rfl⟩:∃x,x=s_:=⟨_,rfl⟩
 obtain⟨v18,hm16,hc19,rfl,rfl⟩:=hI23;have h:eV p0 x17 x20=some (s21,b22):=h;unfold eV at h;obtain⟨v26,rfl,hv27⟩:=hR24;refine ah (qA E rfl λa E=>ag ?_);obtain⟨hb_,hS⟩:=hT25 _ _ _ _ hS;refine⟨hb_,?_⟩;refine aL (ae (ah ?_));refine st E (aD E hS ty3 rfl (i:=1) rfl (aQ ((ai .i64).mono (Jj hm12 hm16) hc3))) rfl ?_;rintro v30 a _ ⟨rfl,hv29⟩ E;obtain⟨rfl,hr31⟩:=aI hv29;refine qA E rfl λa E=>ag (ae (ae (ah (qM E rfl λa E=>qM E rfl λa E=>?_))));obtain⟨r35,hr36,h⟩:=ob h;refine st E (aA (vs:=[(.int .i64 p0),v26]) E rfl call135 (Ec (hS:=hS) hr31 hv27 hr36)) rfl ?_
 rintro v40 a w ⟨m37,hm38,hS,hv39⟩ E;obtain rfl:=ef hv39;refine sp E (j9 E rfl) rfl λa E=>ag ?_;refine bL (λa w=>∃x44:Int,gq x17 x20 x44=some (s21,b22)∧∃m',M.le m37 m'∧inR .i64 x44∧S W0 m' w ((b6,[v18])::(b1,cs2)::L) ((1,v18)::TL)∧Env 28 a [(2,pz b1),(5,pz b6),(6,v26),(7,.int .i64 x44),(11,v14)]) ?_ ?_
 {
 refine kif E rfl (λhd76=>?_) (λhd76=>?_)
 {have h:=aB hd76 h;refine ah (qA E rfl λa E=>ag ?_);exact⟨(-1),h,_,(Z2 _),(show inR .i64 (-1) from aw (by decide)),hS,kut E⟩}
 {have h:=aC hd76 h;refine aP ?_;exact⟨p0,h,_,(Z2 _),hr31,hS,kut E⟩}}
 {
 rintro a w ⟨x44,h,m42,hm43,hr45,hS,E⟩;unfold gq at h;refine ae (ah (qM E rfl λa E=>qM E rfl λa E=>?_));obtain⟨r49,hr50,h⟩:=ob h;refine st E (aA (vs:=[(.int .i64 x44),v26]) E rfl call15 (Cg (hS:=hS) hr45 (hv27.mono (Jj hm38 hm43)) hr50)) rfl ?_;rintro _ a w ⟨m51,hm52,hS,v0_53,v1_54,rfl,hv0_55,hv1_56⟩ E;obtain⟨rfl,hr58⟩:=aI hv1_56;refine qM E rfl λa E=>sp E (bE E rfl rfl) rfl λa E=>sp E (bE E rfl rfl) rfl λa E=>qA E rfl λa E=>qA E rfl λa E=>ag (ah (sp E (sO (k:=(ai .u8)) E hS JM rfl (i:=0) rfl (hc19.mono (Jj hm38 (Jj hm43 hm52)))) rfl λa E=>qM E rfl λa E=>?_))
 obtain⟨z67,hz68,h⟩:=ob h;refine st E (jD (k:=(ai .u8)) (N:=140737488355328) E hS rfl rfl underlying24 underlying24 el5 (i:=0) rfl (hc19.mono (Jj hm38 (Jj hm43 hm52))) hv0_55 hz68 rfl rfl) rfl ?_;rintro v72 a w ⟨m70,hm71,hS,hv69⟩ E;refine st0 E (uH (k:=(ai .u8)) E hS JM rfl rfl hv69 (i:=0) rfl) ?_;rintro _ w hS E;refine ag ?_;cases h
 try dsimp only
 exact⟨rfl,_,[(b6,[v72]),(b1,cs2)],[(1,v72)],(Jj hm38 (Jj hm43 (Jj hm52 hm71))),⟨v72,(Jj hm16 (Jj hm38 (Jj hm43 (Jj hm52 hm71)))),hv69,rfl,rfl⟩,hS⟩}}
 {
 intro D80 m84 w a Ls_ TLs_ hm85 E hI23 hS hk82 hB83;obtain⟨cs87,_,hc88,rfl,rfl⟩:=hI23;obtain⟨W0,hW81⟩:∃W9,W9=W0.put D80 (.deferred (some [])):=⟨_,rfl⟩
 rw[←hW81] at hS;rcases Z1 y78.2 with hb86|hb86
 {
 have h:=aB hb86 h;rw[if_pos hb86];refine ae (ah (sp E (sO (k:=(ai .u8)) E hS JM rfl (i:=0) rfl hc88) rfl λa E=>qA E rfl λa E=>ag (bp ?_)));obtain rfl:=oi h
 try dsimp only
 have hS:=hS;rw[hW81] at hS;refine CN.shut E hS hk82 hB83 λa w hS E=>?_;refine CN.nil E ?_;refine f1 E ?_;exact⟨_,(Jj hm12 hm85),((hS.dropL 2).pickT 1 [0] rfl rfl rfl),hc88⟩}
 {have h:=aC hb86 h;cases h}}
theorem tp  (hS:S W0 m w L TL) {p0} (ha0:inR .i64 p0) {p1} (ha1:RV (kSl (ai .i64)) m v1 p1) {p2} (ha2:RV (kSl (ai .i64)) m v2 p2) {p3} (ha3:RV (kSl ab) m v3 p3) {r} (h:fm p0 p1 p2 p3=some r):
    Calls prog 31 [(.int .i64 p0),v1,v2,v3].toArray w (Ret λv w'=>∃m',M.le m m'∧S W0 m' w' L TL∧∃v0_ v1_:Value,v= .tuple #[v0_,v1_]∧RV (kSl (ai .u8)) m' v0_ r.1∧RV (ai .i64) m' v1_ r.2):=by
 refine kc func31 ntmps31 λa E=>?_;have E:Env 88 a [(0,.int .i64 p0),(1,v1),(2,v2),(3,v3)]:=E;unfold fm at h;refine ae (ah (qA E rfl λa E=>qA E rfl λa E=>ag (ae (ah (qM E rfl λa E=>qM E rfl λa E=>qM E rfl λa E=>?_)))));obtain⟨r6,hr7,h⟩:=ob h;refine st E (aA (vs:=[(.int .i64 p0),v1,v3]) E rfl call74 (kp (hS:=hS) ha0 ha1 ha3 hr7)) rfl ?_;rintro v11 a w ⟨m8,hm9,hS,hv10⟩ E;obtain⟨rfl,hr12⟩:=aI hv10;refine qA E rfl λa E=>ag (ae (ae (ah (qM E rfl λa E=>qB E rfl rfl lS λa E=>ag (kif E rfl (λhd16=>?_) (λhd16=>?_))))))
 {
 have h:=aB hd16 h;refine ae (ah (qM E rfl λa E=>qA E rfl λa E=>qA E rfl λa E=>ag (bp ?_)));obtain rfl:=oi h
 try dsimp only
 refine f2 E ?_;exact⟨_,hm9,hS,_,_,rfl,dF,(au hr12)⟩}
 {
 have h:=aC hd16 h;refine aP (ae (ah (qM E rfl λa E=>qM E rfl λa E=>?_)));obtain⟨r22,hr23,h⟩:=ob h;refine st E (aA (vs:=[v1,v3]) E rfl call27 (sC (hS:=hS) (ha1.mono hm9) (ha3.mono hm9) hr23)) rfl ?_;rintro v27 a w ⟨m24,hm25,hS,hv26⟩ E;refine qA E rfl λa E=>ag (ae (ah ?_))
 refine st E (Kw (k:=(ai .u8)) (xs:=[72,65,89,49]) (vs:=[(.int .u8 72),(.int .u8 65),(.int .u8 89),(.int .u8 49)]) E hS rfl underlying24 sizeOf5 zeroValue5 ⟨(au (show inR .u8 72 from aw (by decide))),(au (show inR .u8 65 from aw (by decide))),(au (show inR .u8 89 from aw (by decide))),(au (show inR .u8 49 from aw (by decide))),trivial⟩ rfl (by decide)) rfl ?_;rintro v36 a w ⟨m30,hm31,hS,hv29,b32,_,he33,hB34,hm35⟩ E;refine st E (IC E hS rfl underlying24 underlying5 he33 hB34 hm35 (i:=0) rfl) rfl ?_;rintro v37 a _ ⟨rfl,hS⟩ E
 refine qM E rfl λa E=>sp E (dE E rfl underlying3 underlying5 rfl) rfl λa E=>qM E rfl λa E=>sp E (aS (k:=(ai .i64)) E rfl rfl underlying49 (ha1.mono (Jj hm9 (Jj hm25 hm31)))) rfl λa E=>sp E (dE E rfl underlying3 underlying5 rfl) rfl λa E=>?_;refine st E (gF (k:=(ai .u8)) (xs:=[Z4.wrap p0,Z4.wrap (p1.length:Int)]) (vs:=[(.int .u8 (Z4.wrap p0)),(.int .u8 (Z4.wrap (p1.length:Int)))]) E hS rfl underlying24 sizeOf5 zeroValue5 ⟨(au (aq _ _)),(au (aq _ _)),trivial⟩ rfl (by decide)) rfl ?_;rintro v46 a w ⟨m44,hm45,hS,hv43⟩ E;obtain⟨z47,hz48,h⟩:=ob h
 refine st E (jD (k:=(ai .u8)) (N:=140737488355328) E hS rfl rfl underlying24 underlying24 el5 (i:=1) rfl (hv29.mono hm45) hv43 hz48 rfl rfl) rfl ?_;rintro v52 a w ⟨m50,hm51,hS,hv49⟩ E;refine qA E rfl λa E=>ag (ae (ae (ah (qM E rfl λa E=>sp E (aS (k:=(ai .i64)) E rfl rfl underlying49 (ha1.mono (Jj hm9 (Jj hm25 (Jj hm31 (Jj hm45 hm51)))))) rfl λa E=>qM E rfl λa E=>ag ?_))));refine bL (λa w=>∃x59:(List Int),jk p0 p2 r22 x59=some r∧∃m',M.le m50 m'∧∃(v60:Value),RV (kSl (ai .u8)) m' v60 x59∧S W0 m' w L ((1,v60)::TL)∧Env 88 a [(0,.int .i64 p0),(2,v2),(3,v27),(11,v60)]) ?_ ?_
 {
 refine aL ?_;refine cP h (λ(s:List Int×Int) a w=>∃m',M.le m50 m'∧∃(v184:Value),RV (kSl (ai .u8)) m' v184 s.1∧inR .i64 s.2∧S W0 m' w L ((1,v184)::TL)∧Env 88 a [(0,.int .i64 p0),(2,v2),(3,v27),(11,v184),(36,v1),(37,.int .i64 (p1.length:Int)),(38,.int .i64 s.2)]) ?_ ?_
 {exact⟨_,(Z2 _),v52,hv49,(show inR .i64 0 from aw (by decide)),(hS.pickT 2 [1] rfl rfl rfl),kut E⟩}
 {
 rintro ⟨x183,x186⟩ a w ⟨m181,hm182,v184,hv185,hr187,hS,E⟩ r188 h hb189;have h:jl p0 p1 p2 r22 x183 x186=some r188:=h;unfold jl at h;refine ae (ah (qB E rfl rfl bw λa E=>ag (ae (kif E rfl (λhd191=>?_) (λhd191=>?_)))))
 {
 have h:=aB hd191 h;refine aP (ae (aL (ae (ah ?_))));obtain⟨x192,hx193,h⟩:=ob h;refine st E (dW (k:=(ai .i64)) E rfl rfl underlying49 sizeOf3 (ha1.mono (Jj hm9 (Jj hm25 (Jj hm31 (Jj hm45 (Jj hm51 hm182)))))) hx193) rfl ?_;rintro v195 a _ ⟨rfl,hp194⟩ E;refine st E (bg E hS ty3 rfl hp194) rfl ?_;rintro v197 a _ ⟨rfl,hv196⟩ E;obtain⟨rfl,hr198⟩:=aI hv196;refine qA E rfl λa E=>ag (ah (qM E rfl λa E=>qM E rfl λa E=>sp E (dE E rfl underlying3 underlying5 rfl) rfl λa E=>?_))
 refine st E (gF (k:=(ai .u8)) (xs:=[Z4.wrap x192]) (vs:=[(.int .u8 (Z4.wrap x192))]) E hS rfl underlying24 sizeOf5 zeroValue5 ⟨(au (aq _ _)),trivial⟩ rfl (by decide)) rfl ?_;rintro v206 a w ⟨m204,hm205,hS,hv203⟩ E;obtain⟨z207,hz208,h⟩:=ob h;refine st E (jD (k:=(ai .u8)) (N:=140737488355328) E hS rfl rfl underlying24 underlying24 el5 (i:=1) rfl (hv185.mono hm205) hv203 hz208 rfl rfl) rfl ?_;rintro v212 a w ⟨m210,hm211,hS,hv209⟩ E;refine qA E rfl λa E=>ag (ah (qB E rfl rfl (bn rfl) λa E=>qM E rfl λa E=>ag ?_))
 exact⟨(z207,Z0.wrap (x186+1)),(Option.some.inj h).symm,_,(Jj hm182 (Jj hm205 hm211)),v212,hv209,(aq _ _),(hS.pickT 2 [1] rfl rfl rfl),kut E⟩}
 {have h:=aC hd191 h;refine cL rfl rfl ?_;have h:=bH h hb189;exact⟨x183,h,_,hm182,v184,hv185,hS,kut E⟩}}}
 {
 rintro a w ⟨x59,h,m57,hm58,v60,hv61,hS,E⟩;unfold jk at h;refine ae (ah (qM E rfl λa E=>qM E rfl λa E=>sp E (aS (k:=ab) E rfl rfl underlying50 (hv26.mono (Jj hm31 (Jj hm45 (Jj hm51 hm58))))) rfl λa E=>?_));obtain⟨r66,hr67,h⟩:=ob h;refine st E (aA (vs:=[v60,(.int .i64 (r22.length:Int))]) E rfl call75 (pZ (hS:=hS) hv61 (dA (g8 (hv26.mono (Jj hm31 (Jj hm45 (Jj hm51 hm58)))))) hr67)) rfl ?_;rintro v71 a w ⟨m68,hm69,hS,hv70⟩ E;refine qA E rfl λa E=>ag (ae (ae (ah (qM E rfl λa E=>qB E rfl rfl (bn rfl) λa E=>qM E rfl λa E=>ag ?_))))
 refine bL (λa w=>∃x78:(List Int),jj x78=some r∧∃m',M.le m68 m'∧∃(v79:Value),RV (kSl (ai .u8)) m' v79 x78∧S W0 m' w L ((1,v79)::TL)∧Env 88 a [(11,v79)]) ?_ ?_
 {
 refine aL ?_;refine cP h (λ(s:List Int×Int) a w=>∃m',M.le m68 m'∧∃(v103:Value),RV (kSl (ai .u8)) m' v103 s.1∧inR .i64 s.2∧S W0 m' w L ((1,v103)::TL)∧Env 88 a [(0,.int .i64 p0),(2,v2),(3,v27),(11,v103),(53,.int .i64 (Z0.wrap (p0+3))),(54,.int .i64 s.2)]) ?_ ?_
 {exact⟨_,(Z2 _),v71,hv70,(show inR .i64 0 from aw (by decide)),hS,kut E⟩}
 {
 rintro ⟨x102,x105⟩ a w ⟨m100,hm101,v103,hv104,hr106,hS,E⟩ r107 h hb108;have h:gQ p0 p2 r22 x102 x105=some r107:=h;unfold gQ at h;refine ae (ah (qB E rfl rfl bw λa E=>ag (ae (kif E rfl (λhd110=>?_) (λhd110=>?_)))))
 {
 have h:=aB hd110 h;refine aP (ae (aL (ae (ah (qM E rfl λa E=>qA E rfl λa E=>ag (ae (ah ?_)))))));refine qA E rfl λa E=>ag (ae (ae ?_));refine bL (λa w=>∃x116:Bool,fy p0 p2 r22 x102 x105 x116=some r107∧∃m',M.le m100 m'∧S W0 m' w L ((1,v103)::TL)∧Env 88 a [(0,.int .i64 p0),(2,v2),(3,v27),(11,v103),(14,.int .i64 x105),(15,.int .i64 (-1)),(53,.int .i64 (Z0.wrap (p0+3))),(54,.int .i64 x105),(65,.bool x116)]) ?_ ?_
 {
 refine ah (qM E rfl λa E=>qM E rfl λa E=>qB E rfl rfl bw λa E=>qM E rfl λa E=>?_);rcases Z1 (decide (x105<p0)) with hd174|hd174
 {have h:=aB hd174 h;refine qG E hd174 rfl λa E=>qG E hd174 rfl λa E=>spg E rfl rfl rfl rfl hd174 (aS (k:=(ai .i64)) E rfl rfl underlying49 (ha2.mono (Jj hm9 (Jj hm25 (Jj hm31 (Jj hm45 (Jj hm51 (Jj hm58 (Jj hm69 hm101))))))))) rfl λa E=>spg E rfl rfl rfl rfl hd174 (aR E rfl rfl bw) rfl λa E=>qT E hd174 rfl λa E=>ag ?_;exact⟨(decide (x105<(p2.length:Int))),h,_,(Z2 _),hS,kut E⟩}
 {have h:=aC hd174 h;refine qX E hd174 λa E=>qX E hd174 λa E=>qX E hd174 λa E=>qX E hd174 λa E=>qF E hd174 rfl λa E=>ag ?_;exact⟨false,h,_,(Z2 _),hS,kut E⟩}}
 {
 rintro a w ⟨x116,h,m114,hm115,hS,E⟩;unfold fy at h;refine bL (λa w=>∃x120:Int,gP p0 r22 x102 x105 x120=some r107∧∃m',M.le m114 m'∧inR .i64 x120∧S W0 m' w L ((1,v103)::TL)∧Env 88 a [(0,.int .i64 p0),(2,v2),(3,v27),(11,v103),(14,.int .i64 x105),(15,.int .i64 x120),(53,.int .i64 (Z0.wrap (p0+3))),(54,.int .i64 x105)]) ?_ ?_
 {
 refine kif E rfl (λhd159=>?_) (λhd159=>?_)
 {have h:=aB hd159 h;refine ah (qM E rfl λa E=>qM E rfl λa E=>?_);obtain⟨x162,hx163,h⟩:=ob h;refine st E (dW (k:=(ai .i64)) E rfl rfl underlying49 sizeOf3 (ha2.mono (Jj hm9 (Jj hm25 (Jj hm31 (Jj hm45 (Jj hm51 (Jj hm58 (Jj hm69 (Jj hm101 hm115))))))))) hx163) rfl ?_;rintro v165 a _ ⟨rfl,hp164⟩ E;refine st E (bg E hS ty3 rfl hp164) rfl ?_;rintro v167 a _ ⟨rfl,hv166⟩ E;obtain⟨rfl,hr168⟩:=aI hv166;refine qA E rfl λa E=>ag ?_;exact⟨x162,h,_,(Z2 _),hr168,hS,kut E⟩}
 {have h:=aC hd159 h;refine aP ?_;exact⟨(-1),h,_,(Z2 _),(show inR .i64 (-1) from aw (by decide)),hS,kut E⟩}}
 {
 rintro a w ⟨x120,h,m118,hm119,hr121,hS,E⟩;unfold gP at h;refine ae (ah (qM E rfl λa E=>qM E rfl λa E=>qM E rfl λa E=>qM E rfl λa E=>?_));obtain⟨r127,hr128,h⟩:=ob h;refine st E (aA (vs:=[(.int .i64 p0),(.int .i64 x105),v27]) E rfl call77 (yY (hS:=hS) ha0 hr106 (hv26.mono (Jj hm31 (Jj hm45 (Jj hm51 (Jj hm58 (Jj hm69 (Jj hm101 (Jj hm115 hm119)))))))) hr128)) rfl ?_;rintro v132 a w ⟨m129,hm130,hS,hv131⟩ E;obtain⟨r133,hr134,h⟩:=ob h;refine st E (aA (vs:=[(.int .i64 x120),v132]) E rfl call76 (yZ (hS:=hS) hr121 hv131 hr134)) rfl ?_;rintro v138 a w ⟨m135,hm136,hS,hv137⟩ E
 refine qA E rfl λa E=>ag (ah (qM E rfl λa E=>qM E rfl λa E=>sp E (aS (k:=(ai .u8)) E rfl rfl underlying24 hv137) rfl λa E=>?_));obtain⟨r143,hr144,h⟩:=ob h;refine st E (aA (vs:=[v103,(.int .i64 (r133.length:Int))]) E rfl call75 (pZ (hS:=(hS.pickT 3 [2,0,1] rfl rfl rfl)) (hv104.mono (Jj hm115 (Jj hm119 (Jj hm130 hm136)))) (dA (g8 hv137)) hr144)) rfl ?_;rintro v148 a w ⟨m145,hm146,hS,hv147⟩ E;refine qM E rfl λa E=>?_;obtain⟨z150,hz151,h⟩:=ob h
 refine st E (jD (k:=(ai .u8)) (N:=140737488355328) E hS rfl rfl underlying24 underlying24 el5 (i:=0) rfl hv147 (hv137.mono hm146) hz151 rfl rfl) rfl ?_;rintro v155 a w ⟨m153,hm154,hS,hv152⟩ E;refine qA E rfl λa E=>ag (ah (qB E rfl rfl (bn rfl) λa E=>qM E rfl λa E=>ag ?_));exact⟨(z150,Z0.wrap (x105+1)),(Option.some.inj h).symm,_,(Jj hm101 (Jj hm115 (Jj hm119 (Jj hm130 (Jj hm136 (Jj hm146 hm154)))))),v155,hv152,(aq _ _),(hS.pickT 3 [0] rfl rfl rfl),kut E⟩}}}
 {have h:=aC hd110 h;refine cL rfl rfl ?_;have h:=bH h hb108;exact⟨x102,h,_,hm101,v103,hv104,hS,kut E⟩}}}
 {
 rintro a w ⟨x78,h,m76,hm77,v79,hv80,hS,E⟩;unfold jj at h;refine ae (ah (qM E rfl λa E=>qM E rfl λa E=>?_));obtain⟨r84,hr85,h⟩:=ob h;refine st E (aA (vs:=[v79]) E rfl call78 (yh (hS:=hS) hv80 hr85)) rfl ?_;rintro v89 a w ⟨m86,hm87,hS,hv88⟩ E;obtain⟨rfl,hr90⟩:=aI hv88;refine sp E (dE E rfl underlying55 underlying3 rfl) rfl λa E=>?_;obtain⟨r92,hr93,h⟩:=ob h;refine st E (aA (vs:=[v79,(.int .i64 (Z0.wrap r84))]) E rfl call75 (pZ (hS:=hS) (hv80.mono hm87) (aq _ _) hr93)) rfl ?_;rintro v97 a w ⟨m94,hm95,hS,hv96⟩ E;refine qA E rfl λa E=>qA E rfl λa E=>ag (bp ?_);obtain rfl:=oi h
 try dsimp only
 refine f2 E ?_;exact⟨_,(Jj hm9 (Jj hm25 (Jj hm31 (Jj hm45 (Jj hm51 (Jj hm58 (Jj hm69 (Jj hm77 (Jj hm87 hm95))))))))),(hS.dropT 1),_,_,rfl,hv96,(au (show inR .i64 0 from aw (by decide)))⟩}}}
theorem QM:Ctr Sz prog 41 [.rd (.sl (.int .i64)),.rd (.sl (.st 32))] [.ap (.st 32)] (fun x=>sa x.1 x.2.1):=
 ncR [] [4] func41 ntmps41 (.s .o (.s .o (.s (.s .o (.b (.l ⟨[.v 5 1 (.dat (.sl (.st 32)) (some 0)),.v 6 1 (.dat (.int .i64) none)],[0,1],0,[4]⟩ .o))) .o))) λx=>by kernel_rfl
theorem JP  (hS:S W0 m w L TL) {p0} (ha0:RV (kSl (ai .i64)) m v0 p0) {p1} (ha1:RV (kSl kAp) m v1 p1) {r} (h:sa p0 p1=some r):
    Calls prog 41 [v0,v1].toArray w (Ret λv w'=>∃m',M.le m m'∧S W0 m' w' L ((4,v)::TL)∧RV (kSl kAp) m' v r):=by
 refine rm (QM W0 m w L TL [v0,v1] (p0,p1,()) r [] [] hS ⟨ha0,⟨ha1,trivial⟩⟩ h) λv w' he=>?_;obtain⟨m',us,Lr,Lq,Tr,hm,Z',rfl,hR,hO⟩:=he;obtain⟨u0,us,Tr,rfl,rfl,r0,hR0⟩:=sV hR;obtain⟨rfl,rfl,rfl⟩:=cl hR0;have hO0:=bG hO;have hO1:=bG hO0;obtain rfl:=cm hO1;exact⟨m',hm,Z',r0⟩
theorem O0:Ctr Sz prog 141 [.rd (.st 32),.rd (.st 32)] [.rd .bool] (fun x=>pN x.1 x.2.1):=
 ncR [] [4] func141 ntmps141 .o λx=>by kernel_rfl
def O1:=mC O0 call141
theorem QN:Ctr Sz prog 95 [.rd (.st 32),.rd (.st 32)] [.rd (.int .i64)] (fun x=>iO x.1 x.2.1):=
 ncR [O1] [4] func95 ntmps95 .o λx=>by kernel_rfl
def QO:=mC QN call95
theorem QP:Ctr Sz prog 40 [.rd (.sl (.st 32)),.rd (.sl (.st 32))] [.rd (.int .i64)] (fun x=>rC x.1 x.2.1):=
 ncR [QO] [4] func40 ntmps40 (.s .o (.s (.s .o (.b (.l ⟨[.v 5 1 (.dat (.int .i64) none)],[0,1],0,[]⟩ .o))) .o)) λx=>by kernel_rfl
theorem Ic  (hS:S W0 m w L TL) {p0} (ha0:RV (kSl kAp) m v0 p0) {p1} (ha1:RV (kSl kAp) m v1 p1) {r} (h:rC p0 p1=some r):
    Calls prog 40 [v0,v1].toArray w (Ret λv w'=>∃m',M.le m m'∧S W0 m' w' L TL∧RV (ai .i64) m' v r):=by
 refine rm (QP W0 m w L TL [v0,v1] (p0,p1,()) r [] [] hS ⟨ha0,⟨ha1,trivial⟩⟩ h) λv w' he=>?_;obtain⟨m',us,Lr,Lq,Tr,hm,Z',rfl,hR,hO⟩:=he;obtain⟨u0,us,rfl,r0,hR0⟩:=cZ hR;obtain⟨rfl,rfl,rfl⟩:=cl hR0;have hO0:=bG hO;have hO1:=bG hO0;obtain rfl:=cm hO1;exact⟨m',hm,Z',r0⟩
theorem QQ:Ctr Sz prog 82 [.rd (.sl (.int .u8))] [.rd (.int .i64)] (fun x=>ej x.1):=
 ncR [] [2] func82 ntmps82 .o λx=>by kernel_rfl
theorem lh  (hS:S W0 m w L TL) {p0} (ha0:RV (kSl (ai .u8)) m v0 p0) {r} (h:ej p0=some r):
    Calls prog 82 [v0].toArray w (Ret λv w'=>∃m',M.le m m'∧S W0 m' w' L TL∧RV (ai .i64) m' v r):=by
 refine rm (QQ W0 m w L TL [v0] (p0,()) r [] [] hS ⟨ha0,trivial⟩ h) λv w' he=>?_;obtain⟨m',us,Lr,Lq,Tr,hm,Z',rfl,hR,hO⟩:=he;obtain⟨u0,us,rfl,r0,hR0⟩:=cZ hR;obtain⟨rfl,rfl,rfl⟩:=cl hR0;have hO0:=bG hO;obtain rfl:=cm hO0;exact⟨m',hm,Z',r0⟩
theorem vM  {b0_:Nat} (hS:S W0 m w ((b0_,tn)::L) (TL)) {p1} (ha1:RV (kSl (ai .u8)) m v1 p1) {r} (h:iE p1=some r):
    Calls prog 83 [(pz b0_),v1].toArray w (Ret λv w'=>∃m',M.le m m'∧∃q0_:List Value,S W0 m' w' ((b0_,q0_)::L) (TL)∧aW.R m' q0_ r.2.2.2∧∃v0_ v1_ v2_:Value,v= .tuple #[v0_,v1_,v2_]∧RV (ai .i64) m' v0_ r.1∧RV (kSl (ai .u8)) m' v1_ r.2.1∧RV cG m' v2_ r.2.2.1):=by
 refine kc func83 ntmps83 λa E=>?_;have E:Env 83 a [(0,pz b0_),(1,v1)]:=E;unfold iE at h;refine ae (ah (qA E rfl λa E=>qA E rfl λa E=>qA E rfl λa E=>ag (ae (ae ?_))));refine bL (λa w=>∃x6:Bool,eS p1 x6=some r∧∃m',M.le m m'∧S W0 m' w ((b0_,tn)::L) (TL)∧Env 83 a [(0,pz b0_),(1,v1),(21,.bool x6)]) ?_ ?_
 {
 refine ah (qM E rfl λa E=>sp E (aS (k:=(ai .u8)) E rfl rfl underlying24 ha1) rfl λa E=>qB E rfl rfl bw λa E=>qM E rfl λa E=>?_);rcases Z1 (decide ((p1.length:Int)<6)) with hd354|hd354
 {have h:=aB hd354 h;refine qX E hd354 λa E=>qX E hd354 λa E=>qX E hd354 λa E=>qX E hd354 λa E=>qX E hd354 λa E=>qX E hd354 λa E=>qT E hd354 rfl λa E=>ag ?_;exact⟨true,h,_,(Z2 _),hS,kut E⟩}
 {
 have h:=aC hd354 h;refine qG E hd354 rfl λa E=>?_;obtain⟨x357,hx358,h⟩:=ob h;refine stg E rfl rfl rfl rfl hd354 (dq (k:=(ai .u8)) E rfl underlying24 sizeOf5 ha1 rfl ⟨_,rfl⟩ hx358 (xl:=none) (xh:=(some (.const (.int .i64 4))))) rfl ?_;rintro v360 a _ ⟨rfl,hv359⟩ E;obtain⟨x361,hx362,h⟩:=ob h;refine stg E rfl rfl rfl rfl hd354 (Kv E rfl underlying178 hv359 hx362) rfl ?_;rintro v364 a _ ⟨rfl,hp363⟩ E;refine stg E rfl rfl rfl rfl hd354 (bg E hS P9 rfl hp363) rfl ?_;rintro v366 a _ ⟨rfl,hv365⟩ E
 refine stg E rfl rfl rfl rfl hd354 (GJ (m:=m) E rfl underlying178 sizeOf5 zeroValue178 (show inR .u8 72 from aw (by decide)) (show inR .u8 65 from aw (by decide)) (show inR .u8 89 from aw (by decide)) (show inR .u8 49 from aw (by decide))) rfl ?_;rintro v368 a _ ⟨rfl,hv367⟩ E;refine spg E rfl rfl rfl rfl hd354 (vU E Qa rfl rfl hv365 hv367 rfl) rfl λa E=>qF E hd354 rfl λa E=>ag ?_;exact⟨(!decide (x361=(72,65,89,49))),h,_,(Z2 _),hS,kut E⟩}}
 {
 rintro a w ⟨x6,h,m4,hm5,hS,E⟩;unfold eS at h;refine kif E rfl (λhd8=>?_) (λhd8=>?_)
 {
 have h:=aB hd8 h;refine ae (ah (qA E rfl λa E=>qA E rfl λa E=>qA E rfl λa E=>ag (bp ?_)));obtain rfl:=oi h
 try dsimp only
 refine Fin.mk E (rs:=[.tmp 4,.tmp 5,.tmp 6]) rfl (rG.tmp E rfl (rG.tmp E rfl (rG.tmp E rfl rG.nil))) ?_;exact⟨_,hm5,tn,hS,(Cs _),_,_,_,rfl,(au (show inR .i64 0 from aw (by decide))),dF,cI⟩}
 {
 have h:=aC hd8 h;refine aP (ae (ah (qM E rfl λa E=>qM E rfl λa E=>?_)));obtain⟨x14,hx15,h⟩:=ob h;refine st E (dW (k:=(ai .u8)) E rfl rfl underlying24 sizeOf5 (ha1.mono hm5) hx15) rfl ?_;rintro v17 a _ ⟨rfl,hp16⟩ E;refine st E (bg E hS ty5 rfl hp16) rfl ?_;rintro v19 a _ ⟨rfl,hv18⟩ E;obtain⟨rfl,hr20⟩:=aI hv18;refine sp E (dE E rfl underlying5 underlying3 rfl) rfl λa E=>sp E (cj E rfl) rfl λa E=>sp E (aJ E oL rfl) rfl λa E=>?_;refine st0 E (GK E hS ty3 Ff rfl rfl (au (aq _ _)) (i:=0) rfl (Cs _)) ?_;rintro _ w ⟨cs24,hc25,hk26,hS⟩ E;refine ag (ae (ah (qM E rfl λa E=>?_)))
 obtain⟨x29,hx30,h⟩:=ob h;refine st E (dW (k:=(ai .u8)) E rfl rfl underlying24 sizeOf5 (ha1.mono hm5) hx30) rfl ?_;rintro v32 a _ ⟨rfl,hp31⟩ E;refine st E (bg E hS ty5 rfl hp31) rfl ?_;rintro v34 a _ ⟨rfl,hv33⟩ E;obtain⟨rfl,hr35⟩:=aI hv33;refine sp E (dE E rfl underlying5 underlying3 rfl) rfl λa E=>qA E rfl λa E=>ag (ae (ah (qM E rfl λa E=>?_)));obtain⟨x39,hx40,h⟩:=ob h;refine st E (dq (k:=(ai .u8)) E rfl underlying24 sizeOf5 (ha1.mono hm5) ⟨_,rfl⟩ rfl hx40 (xl:=(some (.const (.int .i64 6)))) (xh:=none)) rfl ?_;rintro v42 a _ ⟨rfl,hv41⟩ E
 refine qA E rfl λa E=>ag (ae (ae (ah (qM E rfl λa E=>sp E (aS (k:=(ai .u8)) E rfl rfl underlying24 hv41) rfl λa E=>qM E rfl λa E=>qB E rfl rfl (bn rfl) λa E=>qB E rfl rfl bw λa E=>?_))));refine ag (kif E rfl (λhd49=>?_) (λhd49=>?_))
 {
 have h:=aB hd49 h;refine ae (ah (qA E rfl λa E=>qA E rfl λa E=>qA E rfl λa E=>ag (bp ?_)));obtain rfl:=oi h
 try dsimp only
 refine Fin.mk E (rs:=[.tmp 4,.tmp 5,.tmp 6]) rfl (rG.tmp E rfl (rG.tmp E rfl (rG.tmp E rfl rG.nil))) ?_;exact⟨_,hm5,cs24,hS,hc25,_,_,_,rfl,(au (show inR .i64 0 from aw (by decide))),dF,cI⟩}
 {
 have h:=aC hd49 h;refine aP (ae (ae (ah (qM E rfl λa E=>qM E rfl λa E=>?_))));obtain⟨x55,hx56,h⟩:=ob h;refine st E (dq (k:=(ai .u8)) E rfl underlying24 sizeOf5 hv41 rfl ⟨_,rfl⟩ hx56 (xl:=none) (xh:=(some (.tmp 41)))) rfl ?_;rintro v58 a _ ⟨rfl,hv57⟩ E;refine sp E (aS (k:=(ai .u8)) E rfl rfl underlying24 hv57) rfl λa E=>qM E rfl λa E=>ag ?_;refine bL (λa w=>∃x63:ax,iP x29 x39 x63=some r∧∃m',M.le m4 m'∧∃(cs64:List Value),∃(v66:Value),aW.R m' cs64 x63∧cs64[1]? =some v66∧S W0 m' w ((b0_,cs64)::L) ((1,v66)::TL)∧Env 83 a [(0,pz b0_),(1,v42),(7,.int .i64 (Z0.wrap x29))]) ?_ ?_
 {
 refine aL ?_;refine cP h (λ(s:Int×ax) a w=>∃m',M.le m4 m'∧∃(cs308:List Value),∃(v310:Value),inR .i64 s.1∧aW.R m' cs308 s.2∧cs308[1]? =some v310∧S W0 m' w ((b0_,cs308)::L) ((1,v310)::TL)∧Env 83 a [(0,pz b0_),(1,v42),(7,.int .i64 (Z0.wrap x29)),(42,v58),(43,.int .i64 (x55.length:Int)),(44,.int .i64 s.1)]) ?_ ?_
 {exact⟨_,(Z2 _),cs24,(.slice none 0 0),(show inR .i64 0 from aw (by decide)),hc25,(hk26 1 _ rfl (by decide)),(hS.tail0 1),kut E⟩}
 {
 rintro ⟨x305,x307⟩ a w ⟨m303,hm304,cs308,v310,hr306,hc309,hq311,hS,E⟩ r312 h hb313;have h:gk x29 x39 x55 x305 x307=some r312:=h;unfold gk at h;refine ae (ah (qB E rfl rfl bw λa E=>ag (ae (kif E rfl (λhd315=>?_) (λhd315=>?_)))))
 {
 have h:=aB hd315 h;refine aP (ae (aL (ae (ah ?_))));obtain⟨x316,hx317,h⟩:=ob h;refine st E (dW (k:=(ai .u8)) E rfl rfl underlying24 sizeOf5 (hv57.mono hm304) hx317) rfl ?_;rintro v319 a _ ⟨rfl,hp318⟩ E;refine st E (bg E hS ty5 rfl hp318) rfl ?_;rintro v321 a _ ⟨rfl,hv320⟩ E;obtain⟨rfl,hr322⟩:=aI hv320
 refine qA E rfl λa E=>ag (ah (qM E rfl λa E=>qM E rfl λa E=>sp E (cj E rfl) rfl λa E=>sp E (aJ E mT rfl) rfl λa E=>sp E (uI (k:=(ai .i64)) (xx:=x307.fSort) (v:=v310) E hS oy rfl (i:=0) rfl (uu.R_drop (aQ hc309)) hq311) rfl λa E=>qM E rfl λa E=>sp E (dE E rfl underlying5 underlying3 rfl) rfl λa E=>?_));refine st E (gF (k:=(ai .i64)) (xs:=[Z0.wrap x316]) (vs:=[(.int .i64 (Z0.wrap x316))]) E hS rfl underlying49 sizeOf3 zeroValue3 ⟨(au (aq _ _)),trivial⟩ rfl (by decide)) rfl ?_;rintro v335 a w ⟨m333,hm334,hS,hv332⟩ E;obtain⟨z336,hz337,h⟩:=ob h
 refine st E (jD (k:=(ai .i64)) (N:=17592186044416) E hS rfl rfl underlying49 underlying49 el3 (i:=1) rfl ((Cm (k:=(ai .i64)) (uu.R_drop (aQ hc309)) hq311).mono hm334) hv332 hz337 rfl rfl) rfl ?_;rintro v341 a w ⟨m339,hm340,hS,hv338⟩ E;refine sp E (cj E rfl) rfl λa E=>sp E (aJ E mT rfl) rfl λa E=>?_;refine st0 E (Ft E hS oy Fg rfl rfl hv338 (i:=0) rfl (aW.mono (Jj hm334 hm340) hc309)) ?_;rintro _ w ⟨cs344,hc345,hq346,hS⟩ E;refine ag (ah (qB E rfl rfl (bn rfl) λa E=>qM E rfl λa E=>ag ?_))
 exact⟨(Z0.wrap (x305+1),{ x307 with fSort:=z336 }),(Option.some.inj h).symm,_,(Jj hm304 (Jj hm334 hm340)),cs344,v341,(aq _ _),hc345,hq346,(hS.pickT 2 [1] rfl rfl rfl),kut E⟩}
 {have h:=aC hd315 h;refine cL rfl rfl ?_;have h:=bH h hb313;exact⟨x307,h,_,hm304,cs308,v310,hc309,hq311,hS,kut E⟩}}}
 {
 rintro a w ⟨x63,h,m61,hm62,cs64,v66,hc65,hq67,hS,E⟩;unfold iP at h;refine ae (ah (qM E rfl λa E=>qM E rfl λa E=>?_));obtain⟨x71,hx72,h⟩:=ob h;refine st E (dq (k:=(ai .u8)) E rfl underlying24 sizeOf5 (hv41.mono hm62) ⟨_,rfl⟩ rfl hx72 (xl:=(some (.tmp 61))) (xh:=none)) rfl ?_;rintro v74 a _ ⟨rfl,hv73⟩ E;obtain⟨r75,hr76,h⟩:=ob h;refine st E (aA (vs:=[v74]) E rfl call82 (lh (hS:=hS) hv73 hr76)) rfl ?_;rintro v80 a w ⟨m77,hm78,hS,hv79⟩ E;obtain⟨rfl,hr81⟩:=aI hv79;refine qA E rfl λa E=>ag (ae ?_)
 refine bL (λa w=>∃x85:Int,∃x87:(List Int),∃x90:Bool,gj x63 x85 x87 x90=some r∧∃m',M.le m77 m'∧∃(v88:Value),inR .i64 x85∧RV (kSl (ai .u8)) m' v88 x87∧S W0 m' w ((b0_,cs64)::L) ((1,v66)::TL)∧Env 83 a [(4,.int .i64 x85),(5,v88),(6,.bool x90)]) ?_ ?_
 {
 obtain⟨x92,hx93,r98,hr99,h⟩:=ob2 h;rcases Z1 (r98==0) with hd104|hd104
 {
 have h:=aB hd104 h
 refine kch (k:=21) (m:=m77) (es:=[]) (Φ:=(λi m ws v=>match i with|0=>ei .i64 r75 v|1=>v=v42|2=>ei .i64 (Z0.wrap x29) v|3=>ei .i64 (Z0.wrap ((Z0.wrap x29)+4)) v|4=>RV (kSl (ai .u8)) m v x92|5=>v=(pz b0_)|6=>v=(pz b0_)|7=>v=(pz b0_)|8=>ei .i64 x63.fColumns v|9=>v=(pz b0_)|10=>v=(pz b0_)|11=>v=(.pointer (some ⟨b0_,1,none⟩))|12=>v=v66|13=>ei .i64 r98 v|14=>v=(.bool (r98==0))|15=>v=(.bool (r98==0))|16=>ei .i64 r75 v|17=>v=(.bool (decide (r75≤4096)))|18=>v=(.bool (decide (r75≤4096)))|19=>ei .i64 r75 v|20=>RV (kSl (ai .u8)) m v x92|_=>True)) (Q:=(λc m ws L' TL'=>match c with|0=>(b0_,cs64)::L=L'∧(1,v66)::TL=TL'|_=>False)) (cs:=[⟨0,0,false,[(10,.int .i64 r75)]⟩,⟨0,0,false,[(1,v42)]⟩,⟨0,0,false,[(7,.int .i64 (Z0.wrap x29))]⟩,⟨0,0,false,[]⟩,⟨0,0,false,[]⟩,⟨0,0,false,[(0,pz b0_)]⟩,⟨0,0,false,[]⟩,⟨0,0,false,[]⟩,⟨0,0,false,[]⟩,⟨0,0,false,[(0,pz b0_)]⟩,⟨0,0,false,[]⟩,⟨0,0,false,[]⟩,⟨0,0,false,[]⟩,⟨0,0,false,[]⟩,⟨0,0,false,[]⟩,⟨0,0,false,[]⟩,⟨0,0,false,[(10,.int .i64 r75)]⟩,⟨0,0,false,[]⟩,⟨0,0,false,[]⟩,⟨0,0,false,[]⟩,⟨0,0,false,[]⟩]) mixed E hS ⟨rfl,rfl⟩ rfl rfl (by kernel_rfl) ?_ ?_ ?_ ?_
 {
 intro i m_ m2_ ws v n_ q_
 iterate 21 (rcases i with _|i;first|exact q_|exact RV.mono q_ n_)
 exact trivial}
 {
 intro c m_ m2_ ws L_ T_ n_ hq_
 match c,hq_ with
 |0,⟨e1_,e2_⟩=>exact⟨e1_,e2_⟩
 |_+1,hq_=>exact hq_.elim}
 {
 refine⟨?_,?_,?_,?_,?_,?_,?_,?_,?_,?_,?_,?_,?_,?_,?_,?_,?_,?_,?_,?_,?_,trivial⟩
 {exact cmv λ_ _=>⟨rfl,hr81⟩}
 {exact cmv λ_ _=>rfl}
 {exact cmv λ_ _=>⟨rfl,(aq _ _)⟩}
 {refine cp0 λ_ _ _ _ _ _ _ _ _ Z' E' T'=>?_;have E:=E'.add (T' 2).1;exact cq (aR E rfl rfl (bn rfl)) Z' ⟨rfl,(aq _ _)⟩}
 {refine cp0 λ_ _ _ _ _ _ _ M' _ Z' E' T'=>?_;have E:=(E'.add (T' 1)).add (T' 3).1;exact cr (dq (k:=(ai .u8)) E rfl underlying24 sizeOf5 (hv41.mono (Jj hm62 (Jj hm78 M'))) ⟨_,rfl⟩ rfl hx93 (xl:=(some (.tmp 67))) (xh:=none)) Z' λ_ h=>h}
 {exact cmv λ_ _=>rfl}
 {refine cp0 λ_ _ _ _ _ _ _ _ _ Z' E' T'=>?_;have E:=E'.add (T' 5);exact cq (cj E rfl) Z' rfl}
 {refine cp0 λ_ _ _ _ _ _ _ _ _ Z' E' T'=>?_;have E:=E'.add (T' 6);exact cq (aJ E oL rfl) Z' rfl}
 {refine cp1 λ_ _ _ _ _ M' Q' Z' E' T'=>?_;obtain⟨rfl,rfl⟩:=Q';have E:=E'.add (T' 7);exact cr (aD E Z' ty3 rfl (i:=0) rfl (Fe.R_drop (aQ (aW.mono (Jj hm78 M') hc65)))) Z' λ_ h=>aI h}
 {exact cmv λ_ _=>rfl}
 {refine cp0 λ_ _ _ _ _ _ _ _ _ Z' E' T'=>?_;have E:=E'.add (T' 9);exact cq (cj E rfl) Z' rfl}
 {refine cp0 λ_ _ _ _ _ _ _ _ _ Z' E' T'=>?_;have E:=E'.add (T' 10);exact cq (aJ E mT rfl) Z' rfl}
 {refine cp1 λ_ _ _ _ _ M' Q' Z' E' T'=>?_;obtain⟨rfl,rfl⟩:=Q';have E:=E'.add (T' 11);exact cq (uI (k:=(ai .i64)) (xx:=x63.fSort) (v:=v66) E Z' oy rfl (i:=0) rfl (uu.R_drop (aQ (aW.mono (Jj hm78 M') hc65))) hq67) Z' rfl}
 {refine cp0 λ_ _ _ _ _ _ _ M' _ Z' E' T'=>?_;obtain⟨q150,hr151⟩:=T' 8;have E:=(E'.add q150).add (T' 12);refine bh.imp (aA (vs:=[(.int .i64 x63.fColumns),v66,(.slice none 0 0)]) E rfl call74 (kp (hS:=Z') hr151 ((Cm (k:=(ai .i64)) (uu.R_drop (aQ (aW.mono hm78 hc65))) hq67).mono M') dF hr99)) ?_;rintro v155 w ⟨m100,hm101,hS,hv102⟩;obtain⟨rfl,hr156⟩:=aI hv102;exact⟨_,hm101,hS,⟨rfl,hr156⟩⟩}
 {refine cp0 λ_ _ _ _ _ _ _ _ _ Z' E' T'=>?_;have E:=E'.add (T' 13).1;exact cq (aR E rfl rfl fX) Z' rfl}
 {refine cp0 λ_ _ _ _ _ _ _ _ _ Z' E' T'=>?_;have E:=E'.add (T' 14);exact cq (iy E rfl) Z' rfl}
 {exact cgm (gz hd104) (λ_ _=>⟨rfl,hr81⟩)}
 {refine cg0 (gz hd104) λ_ _ _ _ _ _ _ _ _ Z' E' T'=>?_;have E:=E'.add (T' 16).1;exact cq (aR E rfl rfl Ci) Z' rfl}
 {refine cp0 λ_ _ _ _ _ _ _ _ _ Z' E' T'=>?_;have E:=(E'.add (T' 15)).add (T' 17);exact cq (ry E rfl hd104 rfl) Z' rfl}
 {refine cp0 λ_ _ _ _ _ _ _ _ _ Z' E' T'=>?_;obtain⟨q181,hr182⟩:=T' 0;have E:=E'.add q181;exact cq (l7 E rfl) Z' ⟨rfl,hr182⟩}
 {refine cp0 λ_ _ _ m' a' _ _ _ _ Z' E' T'=>?_;obtain⟨v184,E,q186⟩:=adv E' (T' 4);exact cq (l7 E rfl) Z' q186}}
 {intro ws_ L_ T_ m188 a w hl189 hm190 hq191 hS hd192 hn193 ho194 hT195;obtain rfl:=d3 hl189;obtain⟨rfl,rfl⟩:=hq191;have E:=eof 21 [(0,pz b0_),(1,v42),(7,.int .i64 (Z0.wrap x29)),(10,.int .i64 r75),(60,v42),(61,.int .i64 (Z0.wrap x29)),(62,v74),(63,.int .i64 r75)] hd192 hn193 ho194;have E:=E.add (hT195 18);obtain⟨q201,hr202⟩:=hT195 19;have E:=E.add q201;obtain⟨v203,E,q205⟩:=adv E (hT195 20);refine qA E rfl λa E=>ag ?_;exact⟨r75,x92,(decide (r75≤4096)),h,_,hm190,v203,hr202,q205,hS,kut E⟩}}
 {
 have h:=aC hd104 h
 refine kch (k:=21) (m:=m77) (es:=[]) (Φ:=(λi m ws v=>match i with|0=>ei .i64 r75 v|1=>v=v42|2=>ei .i64 (Z0.wrap x29) v|3=>ei .i64 (Z0.wrap ((Z0.wrap x29)+4)) v|4=>RV (kSl (ai .u8)) m v x92|5=>v=(pz b0_)|6=>v=(pz b0_)|7=>v=(pz b0_)|8=>ei .i64 x63.fColumns v|9=>v=(pz b0_)|10=>v=(pz b0_)|11=>v=(.pointer (some ⟨b0_,1,none⟩))|12=>v=v66|13=>ei .i64 r98 v|14=>v=(.bool (r98==0))|15=>v=(.bool (r98==0))|16=>v=undef|17=>v=undef|18=>v=(.bool false)|19=>ei .i64 r75 v|20=>RV (kSl (ai .u8)) m v x92|_=>True)) (Q:=(λc m ws L' TL'=>match c with|0=>(b0_,cs64)::L=L'∧(1,v66)::TL=TL'|_=>False)) (cs:=[⟨0,0,false,[(10,.int .i64 r75)]⟩,⟨0,0,false,[(1,v42)]⟩,⟨0,0,false,[(7,.int .i64 (Z0.wrap x29))]⟩,⟨0,0,false,[]⟩,⟨0,0,false,[]⟩,⟨0,0,false,[(0,pz b0_)]⟩,⟨0,0,false,[]⟩,⟨0,0,false,[]⟩,⟨0,0,false,[]⟩,⟨0,0,false,[(0,pz b0_)]⟩,⟨0,0,false,[]⟩,⟨0,0,false,[]⟩,⟨0,0,false,[]⟩,⟨0,0,false,[]⟩,⟨0,0,false,[]⟩,⟨0,0,false,[]⟩,⟨0,0,false,[(10,.int .i64 r75)]⟩,⟨0,0,false,[]⟩,⟨0,0,false,[]⟩,⟨0,0,false,[]⟩,⟨0,0,false,[]⟩]) mixed E hS ⟨rfl,rfl⟩ rfl rfl (by kernel_rfl) ?_ ?_ ?_ ?_
 {
 intro i m_ m2_ ws v n_ q_
 iterate 21 (rcases i with _|i;first|exact q_|exact RV.mono q_ n_)
 exact trivial}
 {
 intro c m_ m2_ ws L_ T_ n_ hq_
 match c,hq_ with
 |0,⟨e1_,e2_⟩=>exact⟨e1_,e2_⟩
 |_+1,hq_=>exact hq_.elim}
 {
 refine⟨?_,?_,?_,?_,?_,?_,?_,?_,?_,?_,?_,?_,?_,?_,?_,?_,?_,?_,?_,?_,?_,trivial⟩
 {exact cmv λ_ _=>⟨rfl,hr81⟩}
 {exact cmv λ_ _=>rfl}
 {exact cmv λ_ _=>⟨rfl,(aq _ _)⟩}
 {refine cp0 λ_ _ _ _ _ _ _ _ _ Z' E' T'=>?_;have E:=E'.add (T' 2).1;exact cq (aR E rfl rfl (bn rfl)) Z' ⟨rfl,(aq _ _)⟩}
 {refine cp0 λ_ _ _ _ _ _ _ M' _ Z' E' T'=>?_;have E:=(E'.add (T' 1)).add (T' 3).1;exact cr (dq (k:=(ai .u8)) E rfl underlying24 sizeOf5 (hv41.mono (Jj hm62 (Jj hm78 M'))) ⟨_,rfl⟩ rfl hx93 (xl:=(some (.tmp 67))) (xh:=none)) Z' λ_ h=>h}
 {exact cmv λ_ _=>rfl}
 {refine cp0 λ_ _ _ _ _ _ _ _ _ Z' E' T'=>?_;have E:=E'.add (T' 5);exact cq (cj E rfl) Z' rfl}
 {refine cp0 λ_ _ _ _ _ _ _ _ _ Z' E' T'=>?_;have E:=E'.add (T' 6);exact cq (aJ E oL rfl) Z' rfl}
 {refine cp1 λ_ _ _ _ _ M' Q' Z' E' T'=>?_;obtain⟨rfl,rfl⟩:=Q';have E:=E'.add (T' 7);exact cr (aD E Z' ty3 rfl (i:=0) rfl (Fe.R_drop (aQ (aW.mono (Jj hm78 M') hc65)))) Z' λ_ h=>aI h}
 {exact cmv λ_ _=>rfl}
 {refine cp0 λ_ _ _ _ _ _ _ _ _ Z' E' T'=>?_;have E:=E'.add (T' 9);exact cq (cj E rfl) Z' rfl}
 {refine cp0 λ_ _ _ _ _ _ _ _ _ Z' E' T'=>?_;have E:=E'.add (T' 10);exact cq (aJ E mT rfl) Z' rfl}
 {refine cp1 λ_ _ _ _ _ M' Q' Z' E' T'=>?_;obtain⟨rfl,rfl⟩:=Q';have E:=E'.add (T' 11);exact cq (uI (k:=(ai .i64)) (xx:=x63.fSort) (v:=v66) E Z' oy rfl (i:=0) rfl (uu.R_drop (aQ (aW.mono (Jj hm78 M') hc65))) hq67) Z' rfl}
 {refine cp0 λ_ _ _ _ _ _ _ M' _ Z' E' T'=>?_;obtain⟨q252,hr253⟩:=T' 8;have E:=(E'.add q252).add (T' 12);refine bh.imp (aA (vs:=[(.int .i64 x63.fColumns),v66,(.slice none 0 0)]) E rfl call74 (kp (hS:=Z') hr253 ((Cm (k:=(ai .i64)) (uu.R_drop (aQ (aW.mono hm78 hc65))) hq67).mono M') dF hr99)) ?_;rintro v257 w ⟨m100,hm101,hS,hv102⟩;obtain⟨rfl,hr258⟩:=aI hv102;exact⟨_,hm101,hS,⟨rfl,hr258⟩⟩}
 {refine cp0 λ_ _ _ _ _ _ _ _ _ Z' E' T'=>?_;have E:=E'.add (T' 13).1;exact cq (aR E rfl rfl fX) Z' rfl}
 {refine cp0 λ_ _ _ _ _ _ _ _ _ Z' E' T'=>?_;have E:=E'.add (T' 14);exact cq (iy E rfl) Z' rfl}
 {exact csk (gz hd104)}
 {exact csk (gz hd104)}
 {refine cp0 λ_ _ _ _ _ _ _ _ _ Z' E' T'=>?_;have E:=(E'.add (T' 15)).add (T' 17);exact cq (rz E rfl hd104 rfl) Z' rfl}
 {refine cp0 λ_ _ _ _ _ _ _ _ _ Z' E' T'=>?_;obtain⟨q277,hr278⟩:=T' 0;have E:=E'.add q277;exact cq (l7 E rfl) Z' ⟨rfl,hr278⟩}
 {refine cp0 λ_ _ _ m' a' _ _ _ _ Z' E' T'=>?_;obtain⟨v280,E,q282⟩:=adv E' (T' 4);exact cq (l7 E rfl) Z' q282}}
 {intro ws_ L_ T_ m284 a w hl285 hm286 hq287 hS hd288 hn289 ho290 hT291;obtain rfl:=d3 hl285;obtain⟨rfl,rfl⟩:=hq287;have E:=eof 21 [(0,pz b0_),(1,v42),(7,.int .i64 (Z0.wrap x29)),(10,.int .i64 r75),(60,v42),(61,.int .i64 (Z0.wrap x29)),(62,v74),(63,.int .i64 r75)] hd288 hn289 ho290;have E:=E.add (hT291 18);obtain⟨q297,hr298⟩:=hT291 19;have E:=E.add q297;obtain⟨v299,E,q301⟩:=adv E (hT291 20);refine qA E rfl λa E=>ag ?_;exact⟨r75,x92,false,h,_,hm286,v299,hr298,q301,hS,kut E⟩}}}
 {
 rintro a w ⟨x85,x87,x90,h,m83,hm84,v88,hr86,hv89,hS,E⟩;unfold gj at h;refine bp ?_;obtain rfl:=oi h
 try dsimp only
 refine Fin.mk E (rs:=[.tmp 4,.tmp 5,.tmp 6]) rfl (rG.tmp E rfl (rG.tmp E rfl (rG.tmp E rfl rG.nil))) ?_;exact⟨_,(Jj hm5 (Jj hm62 (Jj hm78 hm84))),cs64,(hS.dropT 1),(aW.mono (Jj hm78 hm84) hc65),_,_,_,rfl,(au hr86),hv89,cI⟩}}}}}
theorem O2:Ctr Sz prog 195 [.rd (.sl (.int .u8))] [.rd (.int .u64)] (fun x=>qj x.1):=
 ncR [] [2] func195 ntmps195 (.s .o (.s .o (.s (.s .o (.b (.l ⟨[.v 3 1 (.dat (.int .u64) none),.v 5 1 (.dat (.int .i64) none)],[0],0,[]⟩ .o))) .o))) λx=>by kernel_rfl
def O3:=mC O2 call195
theorem O4:Ctr Sz prog 183 [.rd (.sl (.int .u8))] [.rd (.st 32),.rd (.sl (.int .u8)),.rd .bool] (fun x=>s5 x.1):=
 nxR [D8,Ai,H3,H4,O3] [.cell 2 32,.tmp 3,.tmp 4] func183 ntmps183 .o λx=>by kernel_rfl
def O5:=mC O4 call183
theorem O6:Ctr Sz prog 163 [.rd (.sl (.int .u8))] [.rd (.sl (.st 32)),.rd (.int .i64)] (fun x=>lH x.1):=
 ncR [O5] [2,3] func163 ntmps163 (.s .o (.s .o (.s .o (.s .o (.s (.s .o (.b (.l ⟨[.v 0 1 (.dat (.sl (.int .u8)) none),.v 4 1 (.dat (.sl (.st 32)) (some 0)),.v 25 1 (.dat (.int .i64) none)],[24],0,[4]⟩ .o))) .o))))) λx=>by kernel_rfl
def Id:=mC O6 call163
theorem O7:Ctr Sz prog 119 [.rd (.sl (.int .u8))] [.rd (.st 32),.rd (.sl (.int .u8)),.rd .bool] (fun x=>lI x.1):=
 nxR [Id] [.cell 2 32,.tmp 3,.tmp 4] func119 ntmps119 (.s .o (.s (.s .o (.b (.l ⟨[.v 5 1 (.dat (.int .i64) none)],[0,2],1,[]⟩ .o))) .o)) λx=>by kernel_rfl
def O8:=mC O7 call119
theorem QR:Ctr Sz prog 57 [.rd (.sl (.int .u8))] [.rd (.st 34),.rd (.sl (.int .u8)),.rd .bool] (fun x=>jI x.1):=
 nxR [O8] [.cell 2 34,.tmp 3,.tmp 4] func57 ntmps57 .o λx=>by kernel_rfl
theorem Ed  (hS:S W0 m w L TL) {p0} (ha0:RV (kSl (ai .u8)) m v0 p0) {r} (h:jI p0=some r):
    Calls prog 57 [v0].toArray w (Ret λv w'=>∃m',M.le m m'∧S W0 m' w' L TL∧∃v0_ v1_ v2_:Value,v= .tuple #[v0_,v1_,v2_]∧RV cW m' v0_ r.1∧RV (kSl (ai .u8)) m' v1_ r.2.1∧RV cG m' v2_ r.2.2):=by
 refine rm (QR W0 m w L TL [v0] (p0,()) r [] [] hS ⟨ha0,trivial⟩ h) λv w' he=>?_;obtain⟨m',us,Lr,Lq,Tr,hm,Z',rfl,hR,hO⟩:=he;obtain⟨u0,us,rfl,r0,hR0⟩:=cZ hR;obtain⟨u1,us,rfl,r1,hR1⟩:=cZ hR0;obtain⟨u2,us,rfl,r2,hR2⟩:=cZ hR1;obtain⟨rfl,rfl,rfl⟩:=cl hR2;have hO0:=bG hO;obtain rfl:=cm hO0;exact⟨m',hm,Z',u0,u1,u2,rfl,r0,r1,r2⟩
theorem vN  (hS:S W0 m w L TL) {p0} (ha0:RV (kSl (ai .u8)) m v0 p0) {r} (h:ke p0=some r):
    Calls prog 60 [v0].toArray w (Ret λv w'=>∃m',M.le m m'∧S W0 m' w' L ((1,v)::TL)∧RV (kSl (ai .u8)) m' v r):=by
 refine kc func60 ntmps60 λa E=>?_;have E:Env 8 a [(0,v0)]:=E;unfold ke at h;refine ae (ah (qA E rfl λa E=>ag (ae (ae (ah (qM E rfl λa E=>?_))))));refine st E (yo (k:=(ai .u8)) E rfl rfl ha0 underlying24) rfl ?_;rintro v5 a _ ⟨rfl,bn3,rfl,hb4⟩ E;refine ag (kif E rfl (λhd6=>?_) (λhd6=>?_))
 {
 have hx_:=hb4 hd6;have h:some ([])=some r:=by rw[hx_] at h;exact h
 refine ae (ah (qA E rfl λa E=>ag (bp ?_)));obtain rfl:=oi h
 try dsimp only
 refine f1 E ?_;exact⟨_,(Z2 _),((hS.dropT 0).tail0 1),dF⟩}
 {
 refine aP (ae (ah ?_));refine st E (gF (k:=(ai .u8)) (xs:=[]) (vs:=[]) E hS rfl underlying24 sizeOf5 zeroValue5 trivial rfl (by decide)) rfl ?_;rintro v11 a w ⟨m9,hm10,hS,hv8⟩ E;refine qM E rfl λa E=>?_;obtain⟨z13,hz14,h⟩:=ob h;refine st E (jD (k:=(ai .u8)) (N:=140737488355328) E hS rfl rfl underlying24 underlying24 el5 (i:=0) rfl hv8 (ha0.mono hm10) hz14 rfl rfl) rfl ?_;rintro v18 a w ⟨m16,hm17,hS,hv15⟩ E;refine qA E rfl λa E=>ag (bp ?_);obtain rfl:=oi h
 try dsimp only
 refine f1 E ?_;exact⟨_,(Jj hm10 hm17),(hS.pickT 1 [0] rfl rfl rfl),hv15⟩}
theorem Kg:Ctr Sz prog 61 [.rd (.sl (.int .u8)),.rd (.sl (.int .u8))] [.rd .bool] (fun x=>gn x.1 x.2.1):=
 ncR [] [4] func61 ntmps61 (.s .o (.s .o (.s (.s .o (.b (.l ⟨[.v 13 1 (.dat (.int .i64) none)],[0,1,12],0,[]⟩ .o))) .o))) λx=>by kernel_rfl
def QS:=mC Kg call61
theorem vO  (hS:S W0 m w L TL) {p0} (ha0:RV (kSl (ai .u8)) m v0 p0) {p1} (ha1:RV (kSl (ai .u8)) m v1 p1) {r} (h:gn p0 p1=some r):
    Calls prog 61 [v0,v1].toArray w (Ret λv w'=>∃m',M.le m m'∧S W0 m' w' L TL∧RV cG m' v r):=by
 refine rm (Kg W0 m w L TL [v0,v1] (p0,p1,()) r [] [] hS ⟨ha0,⟨ha1,trivial⟩⟩ h) λv w' he=>?_;obtain⟨m',us,Lr,Lq,Tr,hm,Z',rfl,hR,hO⟩:=he;obtain⟨u0,us,rfl,r0,hR0⟩:=cZ hR;obtain⟨rfl,rfl,rfl⟩:=cl hR0;have hO0:=bG hO;have hO1:=bG hO0;obtain rfl:=cm hO1;exact⟨m',hm,Z',r0⟩
theorem O9:Ctr Sz prog 164 [.pt (.st 161)] [.rd (.st 32)] (fun x=>dJ x.1):=
 nxR [Id] [.cell 2 32] func164 ntmps164 (.s .o (.s (.s .o (.b (.l ⟨[.v 3 1 (.dat (.int .i64) none)],[0,2],2,[]⟩ .o))) .o)) λx=>by kernel_rfl
def Pa:=mC O9 call164
theorem Ie:Ctr Sz prog 165 [.pt (.st 161),.rd (.int .i64)] [.rd (.sl (.int .u8))] (fun x=>cE x.1 x.2.1):=
 ncR [] [4] func165 ntmps165 .o λx=>by kernel_rfl
def Ee:=mC Ie call165
theorem vx  {b0_:Nat} {c0_:List Value} (hS:S W0 m w ((b0_,c0_)::L) (TL)) {p0} (ha0:i6.R m c0_ p0) {p1} (ha1:inR .i64 p1) {r} (h:cE p0 p1=some r):
    Calls prog 165 [(pz b0_),(.int .i64 p1)].toArray w (Ret λv w'=>∃m',M.le m m'∧∃q0_:List Value,S W0 m' w' ((b0_,q0_)::L) (TL)∧i6.R m' q0_ r.2∧RV (kSl (ai .u8)) m' v r.1):=by
 refine rm (Ie W0 m w L TL [(pz b0_),(.int .i64 p1)] (p0,p1,()) r [(b0_,c0_)] [] hS ⟨ha0,rfl,⟨au ha1,trivial⟩⟩ h) λv w' he=>?_;obtain⟨m',us,Lr,Lq,Tr,hm,Z',rfl,hR,hO⟩:=he;obtain⟨u0,us,rfl,r0,hR0⟩:=cZ hR;obtain⟨rfl,rfl,rfl⟩:=cl hR0;obtain⟨q0_,Lq,rfl,o0,hO0⟩:=PL hO;have hO1:=bG hO0;obtain rfl:=cm hO1;exact⟨m',hm,q0_,Z',o0,r0⟩
theorem Pb:Ctr Sz prog 196 [.rd (.int .u32),.rd (.int .u32)] [.rd (.int .u32),.rd (.int .u32)] (fun x=>FQ x.1 x.2.1):=
 ncR [] [4,5] func196 ntmps196 .o λx=>by kernel_rfl
def Pc:=mC Pb call196
theorem Pd:Ctr Sz prog 197 [.rd (.int .u64),.rd (.int .u64)] [.rd (.int .u64),.rd (.int .u64)] (fun x=>rf x.1 x.2.1):=
 ncR [] [4,5] func197 ntmps197 .o λx=>by kernel_rfl
def Pe:=mC Pd call197
theorem Pf:Ctr Sz prog 184 [.rd (.int .u64),.rd (.int .u64)] [.rd (.int .u64),.rd (.int .u64)] (fun x=>uY x.1 x.2.1):=
 ncR [Pc,Pe] [4,5] func184 ntmps184 .o λx=>by kernel_rfl
theorem Gn  (hS:S W0 m w L TL) {p0} (ha0:inR .u64 p0) {p1} (ha1:inR .u64 p1) {r} (h:uY p0 p1=some r):
    Calls prog 184 [(.int .u64 p0),(.int .u64 p1)].toArray w (Ret λv w'=>∃m',M.le m m'∧S W0 m' w' L TL∧∃v0_ v1_:Value,v= .tuple #[v0_,v1_]∧RV (ai .u64) m' v0_ r.1∧RV (ai .u64) m' v1_ r.2):=by
 refine rm (Pf W0 m w L TL [(.int .u64 p0),(.int .u64 p1)] (p0,p1,()) r [] [] hS ⟨au ha0,⟨au ha1,trivial⟩⟩ h) λv w' he=>?_;obtain⟨m',us,Lr,Lq,Tr,hm,Z',rfl,hR,hO⟩:=he;obtain⟨u0,us,rfl,r0,hR0⟩:=cZ hR;obtain⟨u1,us,rfl,r1,hR1⟩:=cZ hR0;obtain⟨rfl,rfl,rfl⟩:=cl hR1;have hO0:=bG hO;have hO1:=bG hO0;obtain rfl:=cm hO1;exact⟨m',hm,Z',u0,u1,rfl,r0,r1⟩
theorem uy  (hS:S W0 m w L TL) {p0} (ha0:RV (kSl kAp) m v0 p0) {p1} (ha1:inR .i64 p1) {r} (h:eZ p0 p1=some r):
    Calls prog 166 [v0,(.int .i64 p1)].toArray w (Ret λv w'=>∃m',M.le m m'∧S W0 m' w' L TL∧RV (kSl kAp) m' v r):=by
 refine kc func166 ntmps166 λa E=>?_;have E:Env 48 a [(0,v0),(1,.int .i64 p1)]:=E;unfold eZ at h;refine ae (ah (qA E rfl λa E=>ag (ae (ae (ah (qM E rfl λa E=>qB E rfl rfl bw λa E=>ag ?_))))));refine bL (λa w=>gX p0 p1=some r∧∃m',M.le m m'∧S W0 m' w L TL∧Env 48 a [(0,v0),(1,.int .i64 p1)]) ?_ ?_
 {
 refine kif E rfl (λhd143=>?_) (λhd143=>?_)
 {have h:=aB hd143 h;cases h}
 {have h:=aC hd143 h;refine aP ?_;exact⟨h,_,(Z2 _),hS,kut E⟩}}
 {
 rintro a w ⟨h,m4,hm5,hS,E⟩;unfold gX at h;refine ae (ah (qM E rfl λa E=>sp E (aS (k:=kAp) E rfl rfl underlying22 (ha0.mono hm5)) rfl λa E=>sp E (dE E rfl underlying3 underlying94 rfl) rfl λa E=>qM E rfl λa E=>sp E (dE E rfl underlying3 underlying94 rfl) rfl λa E=>?_));obtain⟨r12,hr13,h⟩:=ob h;refine st E (aA (vs:=[(.int .u64 (Z5.wrap (p0.length:Int))),(.int .u64 (Z5.wrap p1))]) E rfl call184 (Gn (hS:=hS) (aq _ _) (aq _ _) hr13)) rfl ?_;rintro _ a w ⟨m14,hm15,hS,v0_16,v1_17,rfl,hv0_18,hv1_19⟩ E;obtain⟨rfl,hr21⟩:=aI hv0_18;obtain⟨rfl,hr22⟩:=aI hv1_19
 refine qM E rfl λa E=>sp E (bE E rfl rfl) rfl λa E=>sp E (bE E rfl rfl) rfl λa E=>qA E rfl λa E=>qA E rfl λa E=>ag (ae (ae ?_));refine bL (λa w=>∃x30:Bool,ff p0 r12 x30=some r∧∃m',M.le m14 m'∧S W0 m' w L TL∧Env 48 a [(0,v0),(6,.int .u64 r12.2),(26,.bool x30)]) ?_ ?_
 {
 refine ah (qM E rfl λa E=>qB E rfl rfl iM λa E=>qM E rfl λa E=>?_);rcases Z1 (decide (0<r12.1)) with hd138|hd138
 {have h:=aB hd138 h;refine qX E hd138 λa E=>qX E hd138 λa E=>qT E hd138 rfl λa E=>ag ?_;exact⟨true,h,_,(Z2 _),hS,kut E⟩}
 {have h:=aC hd138 h;refine qG E hd138 rfl λa E=>spg E rfl rfl rfl rfl hd138 (aR E rfl rfl iM) rfl λa E=>qF E hd138 rfl λa E=>ag ?_;exact⟨(decide (9223372036854775807<r12.2)),h,_,(Z2 _),hS,kut E⟩}}
 {
 rintro a w ⟨x30,h,m28,hm29,hS,E⟩;unfold ff at h;refine bL (λa w=>gW p0 r12=some r∧∃m',M.le m28 m'∧S W0 m' w L TL∧Env 48 a [(0,v0),(6,.int .u64 r12.2)]) ?_ ?_
 {
 refine kif E rfl (λhd134=>?_) (λhd134=>?_)
 {have h:=aB hd134 h;cases h}
 {have h:=aC hd134 h;refine aP ?_;exact⟨h,_,(Z2 _),hS,kut E⟩}}
 {
 rintro a w ⟨h,m32,hm33,hS,E⟩;unfold gW at h;refine ae (ah (qM E rfl λa E=>sp E (dE E rfl underlying94 underlying3 rfl) rfl λa E=>?_));obtain⟨z37,hz38,h⟩:=ob h;refine st E (rH (k:=kAp) (m:=m32) E hS rfl rfl underlying22 type32 rfl rfl rfl (λm=>pY m) hz38 rfl rfl) rfl ?_;rintro v42 a w ⟨b39,cs40,hc41,hS⟩ E;refine qA E rfl λa E=>ag (ae (ah (qM E rfl λa E=>qM E rfl λa E=>?_)));refine st E (CI (k:=kAp) E hS rfl rfl underlying22 sizeOf32 (i:=0) rfl hc41 (ha0.mono (Jj hm5 (Jj hm15 (Jj hm29 hm33))))) rfl ?_;rintro v48 a _ ⟨rfl,cs46,hc47,hS⟩ E;refine qA E rfl λa E=>ag (ae ?_)
 refine bL (λa w=>∃x52:(List Ap),gU x52=some r∧∃m',M.le m32 m'∧∃(v53:Value),RV (kSl kAp) m' v53 x52∧S W0 m' w L TL∧Env 48 a [(7,v53)]) ?_ ?_
 {
 refine aL ?_;refine cP h (λ(s:Int×List Ap) a w=>∃m',M.le m32 m'∧∃(cs63:List Value),inR .i64 s.1∧GS kAp m' b39 cs63 v42 s.2∧S W0 m' w ((b39,cs63)::L) (TL)∧Env 48 a [(7,v42),(8,.int .i64 s.1)]) ?_ ?_
 {exact⟨_,(Z2 _),cs46,(dA (Nat.le_trans (Nat.min_le_right _ _) (GS.len hc41))),hc47,hS,kut E⟩}
 {
 rintro ⟨x60,x62⟩ a w ⟨m58,hm59,cs63,hr61,hc64,hS,E⟩ r65 h hb66;have h:gV x60 x62=some r65:=h;unfold gV at h;refine ae (ae (ah (qM E rfl λa E=>qM E rfl λa E=>sp E (oR (k:=kAp) E rfl rfl underlying22 hc64) rfl λa E=>qB E rfl rfl bw λa E=>ag (kif E rfl (λhd71=>?_) (λhd71=>?_)))))
 {
 have h:=aB hd71 h;refine aP (aL ?_);obtain⟨q73,hq74,q76,hq77,h⟩:=ob2 h;obtain⟨u82,hu83,z80,hz81,h⟩:=ob2 h
 refine kch (k:=8) (m:=m58) (es:=[7]) (Φ:=(λi m ws v=>match i with|0=>ei .i64 x60 v|1=>v=v42|2=>ei .i64 x60 v|3=>VS b39 4 v q73.1 q73.2|4=>v=v42|5=>ei .i64 x60 v|6=>VS b39 4 v q76.1 q76.2|7=>ei .i64 ((min q76.2 q73.2:Nat):Int) v|_=>True)) (Q:=(λc m ws L' TL'=>match c with|0=>(b39,cs63)::L=L'∧TL=TL'|1=>(b39,(wi ws 0).c)::L=L'∧TL=TL'∧GS kAp m b39 (wi ws 0).c v42 z80|_=>False)) (cs:=[⟨0,1,false,[(8,.int .i64 x60)]⟩,⟨0,0,false,[(7,v42)]⟩,⟨0,0,false,[(8,.int .i64 x60)]⟩,⟨0,0,false,[]⟩,⟨0,0,false,[(7,v42)]⟩,⟨0,0,false,[(8,.int .i64 x60)]⟩,⟨0,0,false,[]⟩,⟨0,0,true,[]⟩]) mixed E hS ⟨rfl,rfl⟩ rfl rfl (by kernel_rfl) ?_ ?_ ?_ ?_
 {
 intro i m_ m2_ ws v n_ q_
 iterate 8 (rcases i with _|i;exact q_)
 exact trivial}
 {
 intro c m_ m2_ ws L_ T_ n_ hq_
 match c,hq_ with
 |0,⟨e1_,e2_⟩=>exact⟨e1_,e2_⟩
 |1,⟨e1_,e2_,f0_⟩=>exact⟨e1_,e2_,(GS.mono f0_ n_)⟩
 |_+2,hq_=>exact hq_.elim}
 {
 refine⟨?_,?_,?_,?_,?_,?_,?_,?_,trivial⟩
 {exact cmv λ_ _=>⟨rfl,hr61⟩}
 {exact cmv λ_ _=>rfl}
 {exact cmv λ_ _=>⟨rfl,hr61⟩}
 {refine cp1 λ_ _ _ _ _ M' Q' Z' E' T'=>?_;obtain⟨rfl,rfl⟩:=Q';have E:=(E'.add (T' 1)).add (T' 2).1;exact cr (uG (k:=kAp) E rfl underlying22 sizeOf32 (hc64.mono M') ⟨_,rfl⟩ rfl hq74 (sz:=4) rfl (xl:=(some (.tmp 40))) (xh:=none)) Z' λ_ h=>h}
 {exact cmv λ_ _=>rfl}
 {exact cmv λ_ _=>⟨rfl,hr61⟩}
 {refine cp1 λ_ _ _ _ _ M' Q' Z' E' T'=>?_;obtain⟨rfl,rfl⟩:=Q';have E:=(E'.add (T' 4)).add (T' 5).1;exact cr (uG (k:=kAp) E rfl underlying22 sizeOf32 (hc64.mono M') rfl ⟨_,rfl⟩ hq77 (sz:=4) rfl (xl:=none) (xh:=(some (.tmp 43)))) Z' λ_ h=>h}
 {
 refine q9 λpre_ L_ T_ m' a' w' hl' M' Q' Z' E' T'=>?_;obtain rfl:=d3 hl';obtain⟨rfl,rfl⟩:=Q';obtain⟨v106,e107,q108⟩:∃v,a'.tmps.getD 41 undef=v∧(VS b39 4 v q73.1 q73.2):=⟨_,rfl,T' 3 (by decide) 41 rfl⟩
 have E:=E'.add (e107);obtain⟨v109,e110,q111⟩:∃v,a'.tmps.getD 44 undef=v∧(VS b39 4 v q76.1 q76.2):=⟨_,rfl,T' 6 (by decide) 44 rfl⟩
 have E:=E.add (e110);refine bh.imp (GC (k:=kAp) E Z' rfl rfl underlying22 sizeOf32 (i:=0) rfl (hc64.mono M') q108 q111 hz81) ?_;rintro _ w ⟨rfl,cs78,hc79,hS⟩;exact⟨_,⟨0,undef,cs78,[],[]⟩,_,_,Z2 _,hS,⟨rfl,rfl,hc79⟩,⟨rfl,(dA (Z3 (jS hu83)))⟩⟩}}
 {intro ws_ L_ T_ m112 a w hl113 hm114 hq115 hS hd116 hn117 ho118 hT119;obtain⟨⟨_,_,cs78,_,_⟩,rfl⟩:=tw hl113;obtain⟨rfl,rfl,hc120⟩:=hq115;have E:=eof 8 [(7,v42),(8,.int .i64 x60),(34,.int .i64 x60),(35,v42),(36,.int .i64 (x62.length:Int)),(37,.bool (decide (x60<(x62.length:Int))))] hd116 hn117 ho118;have E:=(E.add (hT119 0).1).add (hT119 7).1;refine qB E rfl rfl (bn rfl) λa E=>qA E rfl λa E=>ag ?_;exact⟨(Z0.wrap (x60+((min q76.2 q73.2:Nat):Int)),z80),(Option.some.inj h).symm,_,(Jj hm59 hm114),cs78,(aq _ _),hc120,hS,kut E⟩}}
 {have h:=aC hd71 h;obtain⟨m131,hm132,hS,hv133⟩:=S.freeze hS hc64;refine cL rfl rfl ?_;have h:=bH h hb66;exact⟨x62,h,_,(Jj hm59 hm132),v42,hv133,hS,kut E⟩}}}
 {
 rintro a w ⟨x52,h,m50,hm51,v53,hv54,hS,E⟩;unfold gU at h;refine ae (ah (qM E rfl λa E=>qA E rfl λa E=>ag (bp ?_)));obtain rfl:=oi h
 try dsimp only
 refine f1 E ?_;exact⟨_,(Jj hm5 (Jj hm15 (Jj hm29 (Jj hm33 hm51)))),hS,hv54⟩}}}}
theorem Pg:Ctr Sz prog 166 [.rd (.sl (.st 32)),.rd (.int .i64)] [.rd (.sl (.st 32))] (λx=>eZ x.1 x.2.1):=by
 intro W0 m w L TL vs x r Lp Tp hS hP h;obtain⟨v0,vs,rfl,a0,hP0⟩:=kL hP;obtain⟨v1,vs,rfl,a1,hP1⟩:=kL hP0;obtain⟨rfl,n1⟩:=aI a1;obtain⟨rfl,rfl,rfl⟩:=oT hP1;refine rm (uy (hS:=hS) a0 n1 h) λv w' he=>?_;obtain⟨m',hm,Z',r0⟩:=he;exact⟨m',[v],[],[],[],hm,Z',rfl,⟨r0,trivial⟩,trivial⟩
def Ph:=mC Pg call166
theorem Pi:Ctr Sz prog 167 [.pt (.st 161)] [.rd (.int .u64)] (fun x=>ge x.1):=
 ncR [Ee] [2] func167 ntmps167 (.s .o (.s .o (.s (.s .o (.b (.l ⟨[.v 3 1 (.dat (.int .u64) none),.v 9 1 (.dat (.int .i64) none)],[7,8],1,[]⟩ .o))) .o))) λx=>by kernel_rfl
def Pj:=mC Pi call167
theorem Pk:Ctr Sz prog 168 [.pt (.st 161)] [.rd (.int .u64)] (fun x=>fa x.1):=
 ncR [Ee] [2] func168 ntmps168 (.s .o (.s .o (.s (.s .o (.b (.l ⟨[.v 3 1 (.dat (.int .u64) none),.v 4 1 (.dat (.int .i64) none),.b 0 1 (.st 161)],[0],1,[]⟩ .o))) .o))) λx=>by kernel_rfl
def Pn:=mC Pk call168
end
end Go.Proofs.YthbonoagbeilkaaGreat.Hay
