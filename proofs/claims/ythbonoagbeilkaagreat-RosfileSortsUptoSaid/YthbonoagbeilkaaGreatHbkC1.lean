import Derived.Test.YthbonoagbeilkaaGreatHcZ
import Derived.Test.YthbonoagbeilkaaGreatExQ
import Derived.Test.YthbonoagbeilkaaGreatHbW
import Derived.Test.YthbonoagbeilkaaGreatHbA
import Derived.Carry
import Derived.ChangeSame
import Derived.OpenShut
import Derived.JoinedCond
import Derived.Test.YthbonoagbeilkaaGreatRows
set_option maxRecDepth 100000
set_option maxHeartbeats 4000000
set_option linter.unusedVariables false
namespace Go.Proofs.YthbonoagbeilkaaGreat.Hay
noncomputable section
open List renaming getElem?_drop→Q2,getElem?_take→Q3
open Nat renaming le_of_ble_eq_true→Q1
open Bool renaming eq_false_or_eq_true→zw
open M.le renaming trans→zh,refl→Jn
open IntKind renaming i64→Q0,u64→Q4,u8→Q5
open Go.Proofs Tryz
section
variable {W0:Bse}{m:M}{w:World}{L:List (Nat×List Value)}{TL:List (Nat×Value)}{v0 v1 v2 v3 v4 v5 v6 v7 v8 v9:Value}
theorem Na:Ctr Sz prog 14 [.rd (.sl (.st 32))] [.ap (.st 32)] (λx=>ud x.1):=
 ncR [] [2] func14 ntmps14 .o λx=>by kernel_rfl
def Nb:=mC Na call14
theorem Nc:Ctr Sz prog 26 [.rd (.sl (.st 59))] [.ap (.st 59)] (λx=>n8 x.1):=
 ncR [Nb] [2] func26 ntmps26 (.s .o (.s .o (.s (.s .o (.b (.l ⟨[.v 3 1 (.dat (.sl (.st 59)) (some 0)),.v 8 1 (.dat (.int .i64) none)],[6,7],0,[4]⟩ .o))) .o))) λx=>by kernel_rfl
theorem AW (hS:S W0 m w L TL) {p0}(a1:RV (kSl ah) m v0 p0) {r}(h:n8 p0=some r):
    Calls prog 26 #[v0] w (Ret λv w'=>∃m',M.le m m'/\S W0 m' w' L ((4,v)::TL)/\RV (kSl ah) m' v r):=by
 refine rm (Nc W0 m w L TL [v0] (p0,()) r [] [] hS ⟨a1,trivial⟩ h) λv w' he=>?_;obtain⟨m',us,Lr,Lq,Tr,Z,J,rfl,W,hO⟩:=he;obtain⟨u0,us,Tr,rfl,rfl,r0,a0⟩:=pW W;obtain⟨rfl,rfl,rfl⟩:=bF a0;have a2:=bj hO;obtain rfl:=bG a2;exact⟨m',Z,J,r0⟩
theorem su (hS:S W0 m w L TL) {p0}(J:RV (kSl kAp) m v0 p0) {r}(h:gu p0=some r):
    Calls prog 92 #[v0] w (Ret λv w'=>∃m',M.le m m'/\S W0 m' w' L ((4,v)::TL)/\RV (kSl kAp) m' v r):=by
 refine kc func92 ntmps92 λa E=>?_;have E:Env 8 a [(0,v0)]:=E;unfold gu at h;refine ab (ai (qA E rfl λa E=>ag (ab (ab (ai (qM E rfl λa E=>?_))))));refine st E (uE (k:=kAp) E rfl rfl J underlying22) rfl ?_;rintro v5 a _ ⟨rfl,b0,rfl,a3⟩ E;refine ag (kif E rfl (λZ=>?_) (λZ=>?_))
 {
 have a1:=a3 Z;have h:some ([])=some r:=by rw[a1] at h;exact h
 refine ab (ai (qA E rfl λa E=>ag (bq ?_)));obtain rfl:=oi h
 try dsimp only
 refine f1 E ?_;exact⟨_,(Jn _),((hS.dropT 0).tail0 4),c8⟩}
 {
 refine aW (ab (ai ?_));refine st E (jq (k:=kAp) (xs:=[]) (vs:=[]) E hS rfl underlying22 sizeOf32 zeroValue32 trivial rfl (by decide)) rfl ?_;rintro a9 a w ⟨m9,W,hS,a2⟩ E;refine qM E rfl λa E=>?_;obtain⟨a6,a0,h⟩:=ob h;refine st E (jp (k:=kAp) (N:=3518437208883) E hS rfl rfl underlying22 underlying22 Am (i:=0) rfl a2 (J.mono W) a0 rfl rfl) rfl ?_;rintro b1 a w ⟨b2,a5,hS,a4⟩ E;refine qA E rfl λa E=>ag (bq ?_);obtain rfl:=oi h
 try dsimp only
 refine f1 E ?_;exact⟨_,(zh W a5),(hS.pickT 1 [0] rfl rfl rfl),a4⟩}
theorem Nd:Ctr Sz prog 92 [.rd (.sl (.st 32))] [.ap (.st 32)] (λx=>gu x.1):=by
 intro W0 m w L TL vs x r Lp Tp hS hP h;obtain⟨v0,vs,rfl,a0,Z⟩:=it hP;obtain⟨rfl,rfl,rfl⟩:=lL Z;refine rm (su (hS:=hS) a0 h) λv w' he=>?_;obtain⟨m',W,J,r0⟩:=he;exact⟨m',[v],[],[],[(4,v)],W,J,rfl,⟨r0,rfl,trivial⟩,trivial⟩
def Nf:=mC Nd call92
theorem Ng:Ctr Sz prog 65 [.rd (.st 59)] [.rd (.st 59)] (λx=>gY x.1):=
 nxR [Nf] [.cell 2 59] func65 ntmps65 .o λx=>by kernel_rfl
theorem ye (hS:S W0 m w L TL) {p0}(a1:RV ah m v0 p0) {r}(h:gY p0=some r):
    Calls prog 65 #[v0] w (Ret λv w'=>∃m',M.le m m'/\S W0 m' w' L TL/\RV ah m' v r):=by
 refine rm (Ng W0 m w L TL [v0] (p0,()) r [] [] hS ⟨a1,trivial⟩ h) λv w' he=>?_;obtain⟨m',us,Lr,Lq,Tr,Z,J,rfl,W,hO⟩:=he;obtain⟨u0,us,rfl,r0,a0⟩:=cH W;obtain⟨rfl,rfl,rfl⟩:=bF a0;have a2:=bj hO;obtain rfl:=bG a2;exact⟨m',Z,J,r0⟩
theorem Kg:Ctr Sz prog 128 [] [.rd (.st 32)] (λx=>jJ):=
 nxR [] [.cell 0 32] func128 ntmps128 .o λx=>by kernel_rfl
def Aw:=mC Kg call128
theorem Nh:Ctr Sz prog 70 [.rd (.sl (.int .i64)),.rd (.sl (.st 32))] [.ap (.st 32)] (λx=>kr x.1 x.2.1):=
 ncR [Aw] [4] func70 ntmps70 (.s .o (.s .o (.s (.s .o (.b (.l ⟨[.v 5 1 (.dat (.sl (.st 32)) (some 0)),.v 11 1 (.dat (.int .i64) none)],[1,9,10],0,[4]⟩ .o))) .o))) λx=>by kernel_rfl
theorem sJ (hS:S W0 m w L TL) {p0}(a1:RV (kSl (aj .i64)) m v0 p0) {p1}(W:RV (kSl kAp) m v1 p1) {r}(h:kr p0 p1=some r):
    Calls prog 70 #[v0,v1] w (Ret λv w'=>∃m',M.le m m'/\S W0 m' w' L ((4,v)::TL)/\RV (kSl kAp) m' v r):=by
 refine rm (Nh W0 m w L TL [v0,v1] (p0,p1,()) r [] [] hS ⟨a1,⟨W,trivial⟩⟩ h) λv w' he=>?_;obtain⟨m',us,Lr,Lq,Tr,hm,J,rfl,Z,hO⟩:=he;obtain⟨u0,us,Tr,rfl,rfl,r0,a0⟩:=pW Z;obtain⟨rfl,rfl,rfl⟩:=bF a0;have a2:=bj hO;have a3:=bj a2;obtain rfl:=bG a3;exact⟨m',hm,J,r0⟩
theorem Kh:Ctr Sz prog 173 [.rd (.int .i64)] [.rd .bool] (λx=>j6 x.1):=
 ncR [] [2] func173 ntmps173 .o λx=>by kernel_rfl
def Ki:=mC Kh call173
theorem Kj:Ctr Sz prog 127 [.rd (.int .i64),.rd (.int .i64)] [.rd (.int .i64)] (λx=>gE x.1 x.2.1):=
 ncR [Ki] [4] func127 ntmps127 .o λx=>by kernel_rfl
def EN:=mC Kj call127
theorem Kl:Ctr Sz prog 180 [.rd (.int .i64)] [.rd .bool] (λx=>iQ x.1):=
 ncR [] [2] func180 ntmps180 .o λx=>by kernel_rfl
def Km:=mC Kl call180
theorem Kn:Ctr Sz prog 155 [.rd (.int .i64),.rd (.int .i64)] [.rd (.int .i64)] (λx=>gL x.1 x.2.1):=
 ncR [Km] [4] func155 ntmps155 .o λx=>by kernel_rfl
def Ko:=mC Kn call155
theorem pK (hS:S W0 m w L TL) {p0}(W:∀n∈p0,0<=n/\n<256)(Z:p0.length<=bU) {p1}(J:∀n∈p1,0<=n/\n<256)(a0:p1.length<=bU) {r}(h:dF p0 p1=some r):
    Calls prog 181 #[(.string (bts p0)),(.string (bts p1))] w (Ret λv w'=>∃m',M.le m m'/\S W0 m' w' L TL/\RV (aj .i64) m' v r):=by
 refine kc func181 ntmps181 λa E=>?_;have E:Env 8 a [(0,(.string (bts p0))),(1,(.string (bts p1)))]:=E;unfold dF at h;refine ab (ai (qA E rfl λa E=>ag (ab (ai (qM E rfl λa E=>qM E rfl λa E=>sp E (Dl E func194 (by kernel_rfl) (by kernel_rfl) (by kernel_rfl) (by kernel_rfl) rfl W J) rfl λa E=>qA E rfl λa E=>?_)))));refine ag (bq ?_);obtain rfl:=oi h
 try dsimp only
 refine f1 E ?_;exact⟨_,(Jn _),hS,(au (Fd _ _))⟩
theorem Kp:Ctr Sz prog 181 [.rd .str,.rd .str] [.rd (.int .i64)] (λx=>dF x.1 x.2.1):=by
 intro W0 m w L TL vs x r Lp Tp hS hP h;obtain⟨v0,vs,rfl,a0,a2⟩:=it hP;obtain⟨rfl,W,l0⟩:=yK a0;obtain⟨v1,vs,rfl,a1,a3⟩:=it a2;obtain⟨rfl,Z,l1⟩:=yK a1;obtain⟨rfl,rfl,rfl⟩:=lL a3;refine rm (pK (hS:=hS) W l0 Z l1 h) λv w' he=>?_;obtain⟨m',hm,J,r0⟩:=he;exact⟨m',[v],[],[],[],hm,J,rfl,⟨r0,trivial⟩,trivial⟩
def Kq:=mC Kp call181
theorem Kr:Ctr Sz prog 156 [.rd .str,.rd .str] [.rd (.int .i64)] (λx=>kz x.1 x.2.1):=
 ncR [Kq] [4] func156 ntmps156 .o λx=>by kernel_rfl
def Ks:=mC Kr call156
theorem EO:Ctr Sz prog 109 [.rd (.st 32),.rd (.st 32)] [.rd (.int .i64)] (λx=>b9 x.1 x.2.1):=
 ncR [EN,Ko,Ks] [4] func109 ntmps109 .o λx=>by kernel_rfl
def Kt:=mC EO call109
theorem vZ (hS:S W0 m w L TL) {p0}(a1:RV kAp m v0 p0) {p1}(W:RV kAp m v1 p1) {r}(h:b9 p0 p1=some r):
    Calls prog 109 #[v0,v1] w (Ret λv w'=>∃m',M.le m m'/\S W0 m' w' L TL/\RV (aj .i64) m' v r):=by
 refine rm (EO W0 m w L TL [v0,v1] (p0,p1,()) r [] [] hS ⟨a1,⟨W,trivial⟩⟩ h) λv w' he=>?_;obtain⟨m',us,Lr,Lq,Tr,hm,J,rfl,Z,hO⟩:=he;obtain⟨u0,us,rfl,r0,a0⟩:=cH Z;obtain⟨rfl,rfl,rfl⟩:=bF a0;have a2:=bj hO;have a3:=bj a2;obtain rfl:=bG a3;exact⟨m',hm,J,r0⟩
theorem Ni:Ctr Sz prog 69 [.rd (.sl (.st 32)),.rd (.sl (.st 32))] [.rd (.int .i64)] (λx=>mP x.1 x.2.1):=
 ncR [Kt,EN] [4] func69 ntmps69 (.s .o (.s (.s .o (.b (.l ⟨[.v 12 1 (.dat (.int .i64) none)],[0,1,11],0,[]⟩ .o))) .o)) λx=>by kernel_rfl
theorem Az (hS:S W0 m w L TL) {p0}(a1:RV (kSl kAp) m v0 p0) {p1}(W:RV (kSl kAp) m v1 p1) {r}(h:mP p0 p1=some r):
    Calls prog 69 #[v0,v1] w (Ret λv w'=>∃m',M.le m m'/\S W0 m' w' L TL/\RV (aj .i64) m' v r):=by
 refine rm (Ni W0 m w L TL [v0,v1] (p0,p1,()) r [] [] hS ⟨a1,⟨W,trivial⟩⟩ h) λv w' he=>?_;obtain⟨m',us,Lr,Lq,Tr,hm,J,rfl,Z,hO⟩:=he;obtain⟨u0,us,rfl,r0,a0⟩:=cH Z;obtain⟨rfl,rfl,rfl⟩:=bF a0;have a2:=bj hO;have a3:=bj a2;obtain rfl:=bG a3;exact⟨m',hm,J,r0⟩
theorem Ku:Ctr Sz prog 174 [.rd (.int .u64)] [.rd .bool] (λx=>jS x.1):=
 ncR [] [2] func174 ntmps174 .o λx=>by kernel_rfl
def Kv:=mC Ku call174
theorem Kw:Ctr Sz prog 129 [.rd (.int .u64),.rd (.int .u64)] [.rd (.int .i64)] (λx=>iU x.1 x.2.1):=
 ncR [Kv] [4] func129 ntmps129 .o λx=>by kernel_rfl
def Kx:=mC Kw call129
theorem Ky:Ctr Sz prog 175 [.rd (.int .u32)] [.rd .bool] (λx=>jT x.1):=
 ncR [] [2] func175 ntmps175 .o λx=>by kernel_rfl
def Kz:=mC Ky call175
theorem KA:Ctr Sz prog 130 [.rd (.int .u32),.rd (.int .u32)] [.rd (.int .i64)] (λx=>iV x.1 x.2.1):=
 ncR [Kz] [4] func130 ntmps130 .o λx=>by kernel_rfl
def KB:=mC KA call130
theorem G1:Ctr Sz prog 68 [.rd (.sl (.int .i64))] [.rd (.int .i64)] (λx=>ln x.1):=
 ncR [] [2] func68 ntmps68 (.s .o (.s .o (.s (.s .o (.b (.l ⟨[.v 8 1 (.dat (.int .i64) none)],[3,6,7],0,[]⟩ .o))) .o))) λx=>by kernel_rfl
def Nj:=mC G1 call68
theorem AA (hS:S W0 m w L TL) {p0}(a1:RV (kSl (aj .i64)) m v0 p0) {r}(h:ln p0=some r):
    Calls prog 68 #[v0] w (Ret λv w'=>∃m',M.le m m'/\S W0 m' w' L TL/\RV (aj .i64) m' v r):=by
 refine rm (G1 W0 m w L TL [v0] (p0,()) r [] [] hS ⟨a1,trivial⟩ h) λv w' he=>?_;obtain⟨m',us,Lr,Lq,Tr,Z,J,rfl,W,hO⟩:=he;obtain⟨u0,us,rfl,r0,a0⟩:=cH W;obtain⟨rfl,rfl,rfl⟩:=bF a0;have a2:=bj hO;obtain rfl:=bG a2;exact⟨m',Z,J,r0⟩
theorem Nk:Ctr Sz prog 71 [.rd (.st 57),.rd (.st 57)] [.rd (.int .i64)] (λx=>j8 x.1 x.2.1):=
 ncR [Nj,Kx,KB] [4] func71 ntmps71 .o λx=>by kernel_rfl
theorem wa (hS:S W0 m w L TL) {p0}(a1:RV bm m v0 p0) {p1}(W:RV bm m v1 p1) {r}(h:j8 p0 p1=some r):
    Calls prog 71 #[v0,v1] w (Ret λv w'=>∃m',M.le m m'/\S W0 m' w' L TL/\RV (aj .i64) m' v r):=by
 refine rm (Nk W0 m w L TL [v0,v1] (p0,p1,()) r [] [] hS ⟨a1,⟨W,trivial⟩⟩ h) λv w' he=>?_;obtain⟨m',us,Lr,Lq,Tr,hm,J,rfl,Z,hO⟩:=he;obtain⟨u0,us,rfl,r0,a0⟩:=cH Z;obtain⟨rfl,rfl,rfl⟩:=bF a0;have a2:=bj hO;have a3:=bj a2;obtain rfl:=bG a3;exact⟨m',hm,J,r0⟩
theorem tP (hS:S W0 m w L TL) {p0}(g5:RV ah m v0 p0) {p1}(e7:RV ah m v1 p1) {p2}(a3:PR (kSl (aj .i64)) m v2 p2) {r}(h:dh p0 p1 p2=some r):
    Calls prog 67 #[v0,v1,v2] w (Ret λv w'=>∃m',M.le m m'/\S W0 m' w' L TL/\RV (aj .i64) m' v r):=by
 refine kc func67 ntmps67 λa E=>?_;have E:Env 22 a [(0,v0),(1,v1),(2,v2)]:=E;unfold dh at h;refine ab (ai ?_);refine st E (j3 (k:=ah) E hS rfl g5) rfl ?_;rintro _ a w ⟨b1,c6,rfl,a4,hS⟩ E;refine st E (j3 (k:=ah) E hS rfl e7) rfl ?_;rintro _ a w ⟨b5,f0,rfl,a2,hS⟩ E;refine qA E rfl λa E=>ag (ab ?_);obtain⟨e8,d1,e0,i3,h⟩:=ob2 h;obtain⟨r24,e9,h⟩:=ob h
 refine kch (k:=13) (m:=m) (es:=[]) (Φ:=(λi m ws v=>match i with|0=>RV (kSl (aj .i64)) m v p2|1=>v=(.pointer (some ⟨b1,2,none⟩))|2=>RV (kSl kAp) m v p0.fRow|3=>RV (kSl kAp) m v e8|4=>RV (kSl (aj .i64)) m v p2|5=>v=(.pointer (some ⟨b5,2,none⟩))|6=>RV (kSl kAp) m v p1.fRow|7=>RV (kSl kAp) m v e0|8=>ei .i64 r24 v|9=>v=(pz b1)|10=>RV bm m v p0.fId|11=>v=(pz b5)|12=>RV bm m v p1.fId|_=>True)) (Q:=(λc m ws L' g4=>match c with|0=>(b5,f0)::(b1,c6)::L=L'/\TL=g4|_=>False)) (cs:=[xV [(2,v2)],xV [(3,pz b1)],xV [],xV [],xV [(2,v2)],xV [(4,pz b5)],xV [],xV [],xV [],xV [(3,pz b1)],xV [],xV [(4,pz b5)],xV []]) mixed E hS ⟨rfl,rfl⟩ rfl rfl (by kernel_rfl) ?_ ?_ ?_ ?_
 {
 intro i m_ e1 ws v n_ q_
 iterate 13 (rcases i with _|i;first|exact q_|exact RV.mono q_ n_)
 exact trivial}
 {
 intro c m_ e1 ws L_ T_ n_ a0
 match c,a0 with
 |0,⟨c7,b3⟩=>exact⟨c7,b3⟩
 |_+1,a0=>exact a0.elim}
 {
 refine⟨?_,?_,?_,?_,?_,?_,?_,?_,?_,?_,?_,?_,?_,trivial⟩
 {refine cp0 λ_ _ _ _ _ _ _ Z _ J W _=>?_;exact cr (bh W J tO rfl (a3.mono Z)) J λ_ h=>h}
 {refine cp0 λ_ _ _ _ _ _ _ _ _ J W _=>?_;exact cq (aG W mW rfl) J rfl}
 {refine cp1 λ_ _ _ _ _ Z Q' J W T'=>?_;obtain⟨rfl,rfl⟩:=Q';have E:=W.add (T' 1);exact cr (aB E J sq rfl (i:=1) rfl (JH.R_drop (aJ (ah.mono Z a4)))) J λ_ h=>h}
 {refine cp0 λ_ _ _ m' a' _ _ _ _ J W T'=>?_;obtain⟨f3,E,d2⟩:=adv W (T' 0);obtain⟨b0,E,h5⟩:=adv E (T' 2);refine aM.imp (az (vs:=[f3,b0]) E rfl call70 (sJ (hS:=J) d2 h5 d1)) ?_;rintro k4 w ⟨l3,b7,hS,b2⟩;exact⟨_,b7,(hS.dropT 1),b2⟩}
 {refine cp0 λ_ _ _ _ _ _ _ Z _ J W _=>?_;exact cr (bh W J tO rfl (a3.mono Z)) J λ_ h=>h}
 {refine cp0 λ_ _ _ _ _ _ _ _ _ J W _=>?_;exact cq (aG W mW rfl) J rfl}
 {refine cp1 λ_ _ _ _ _ Z Q' J W T'=>?_;obtain⟨rfl,rfl⟩:=Q';have E:=W.add (T' 5);exact cr (aB E J sq rfl (i:=0) rfl (JH.R_drop (aJ (ah.mono Z a2)))) J λ_ h=>h}
 {refine cp0 λ_ _ _ m' a' _ _ _ _ J W T'=>?_;obtain⟨f6,E,e6⟩:=adv W (T' 4);obtain⟨h3,E,i1⟩:=adv E (T' 6);refine aM.imp (az (vs:=[f6,h3]) E rfl call70 (sJ (hS:=J) e6 i1 i3)) ?_;rintro j1 w ⟨l2,c3,hS,c0⟩;exact⟨_,c3,(hS.dropT 1),c0⟩}
 {refine cp0 λ_ _ _ m' a' _ _ _ _ J W T'=>?_;obtain⟨f5,E,e5⟩:=adv W (T' 3);obtain⟨i2,E,e3⟩:=adv E (T' 7);refine aM.imp (az (vs:=[f5,i2]) E rfl call69 (Az (hS:=J) e5 e3 e9)) ?_;rintro l4 w ⟨j4,g6,hS,i4⟩;obtain⟨rfl,d0⟩:=aK i4;exact⟨_,g6,hS,⟨rfl,d0⟩⟩}
 {refine cp0 λ_ _ _ _ _ _ _ _ _ J W _=>?_;exact cq (aG W ov rfl) J rfl}
 {refine cp1 λ_ _ _ _ _ Z Q' J W T'=>?_;obtain⟨rfl,rfl⟩:=Q';have E:=W.add (T' 9);exact cr (aB E J va rfl (i:=1) rfl (vT.R_drop (aJ (ah.mono Z a4)))) J λ_ h=>h}
 {refine cp0 λ_ _ _ _ _ _ _ _ _ J W _=>?_;exact cq (aG W ov rfl) J rfl}
 {refine cp1 λ_ _ _ _ _ Z Q' J W T'=>?_;obtain⟨rfl,rfl⟩:=Q';have E:=W.add (T' 11);exact cr (aB E J va rfl (i:=0) rfl (vT.R_drop (aJ (ah.mono Z a2)))) J λ_ h=>h}}
 {
 intro l1 L_ T_ k6 a w b4 g0 h2 hS h6 i0 h7 a1;obtain rfl:=gQ b4;obtain⟨rfl,rfl⟩:=h2;have E:=eof 13 [(0,v0),(1,v1),(2,v2),(3,pz b1),(4,pz b5),(5,.int .i64 0)] h6 i0 h7;obtain⟨g1,a9⟩:=a1 8;have E:=E.add g1;obtain⟨b6,E,f4⟩:=adv E (a1 10);obtain⟨h1,E,c1⟩:=adv E (a1 12);obtain⟨a5,g3,h⟩:=ob h;refine st E (az (vs:=[b6,h1]) E rfl call71 (wa (hS:=hS) f4 c1 g3)) rfl ?_;rintro j2 a w ⟨k5,h4,hS,h0⟩ E;obtain⟨rfl,a6⟩:=aK h0
 refine st E (jq (k:=(aj .i64)) (xs:=[r24,a5]) (vs:=[(.int .i64 r24),(.int .i64 a5)]) E hS rfl underlying49 sizeOf3 zeroValue3 ⟨(au a9),(au a6),trivial⟩ rfl (by decide)) rfl ?_;rintro h8 a w ⟨k7,g2,hS,c4⟩ E;obtain⟨k0,e4,h⟩:=ob h;refine st E (az (vs:=[h8]) E rfl call68 (AA (hS:=hS) c4 e4)) rfl ?_;rintro k3 a w ⟨i5,h9,hS,c5⟩ E;obtain⟨rfl,c2⟩:=aK c5;refine qA E rfl λa E=>ag (bq ?_);obtain rfl:=oi h
 try dsimp only
 refine f1 E ?_;exact⟨_,(zh g0 (zh h4 (zh g2 h9))),((hS.dropL 2).dropT 1),(au c2)⟩}
theorem KC:Ctr Sz prog 171 [.ow (.st 59),.rd (.int .i64),.rd (.int .i64),.f2 (.st 59) (.st 59) (.int .i64)] [] (λx=>bH x.1 x.2.1 x.2.2.1 x.2.2.2.1):=
 ncR [] [] func171 ntmps171 (.s .o (.b (.l ⟨[.v 8 1 (.dat (.int .i64) none),.a 0 1 (.st 59) none],[0,1,2,3],1,[]⟩ (.s .o (.s (.b (.s .o (.b (.l ⟨[.v 9 2 (.dat (.int .i64) none),.a 0 2 (.st 59) none],[0,1,2,3,8],1,[]⟩ .o)))) .o))))) λx=>by kernel_rfl
def KD:=mC KC call171
theorem KE:Ctr Sz prog 198 [.ow (.st 59),.rd (.int .i64),.rd (.int .i64),.rd (.int .i64),.f2 (.st 59) (.st 59) (.int .i64)] [] (λx=>bC x.1 x.2.1 x.2.2.1 x.2.2.2.1 x.2.2.2.2.1):=
 ncR [] [] func198 ntmps198 (.s .o (.b (.l ⟨[.v 10 1 (.dat (.int .i64) none),.a 0 1 (.st 59) none],[0,1,2,3],1,[]⟩ .o))) λx=>by kernel_rfl
def KF:=mC KE call198
theorem KG:Ctr Sz prog 185 [.ow (.st 59),.rd (.int .i64),.rd (.int .i64),.rd (.int .i64),.f2 (.st 59) (.st 59) (.int .i64)] [] (λx=>bY x.1 x.2.1 x.2.2.1 x.2.2.2.1 x.2.2.2.2.1):=
 ncR [KF] [] func185 ntmps185 (.s .o (.s .o (.s (.b (.l ⟨[.v 10 1 (.dat (.int .i64) none),.v 11 1 (.dat (.int .i64) none),.a 0 1 (.st 59) none],[0,2,4],1,[]⟩ .o)) .o))) λx=>by kernel_rfl
def KH:=mC KG call185
theorem Iq (self:cU Sz [.ow (.st 59),.rd (.int .i64),.rd (.int .i64),.rd (.int .i64),.f2 (.st 59) (.st 59) (.int .i64)]->Option (aZ Sz (fm [.ow (.st 59),.rd (.int .i64),.rd (.int .i64),.rd (.int .i64),.f2 (.st 59) (.st 59) (.int .i64)] [])))(hs:Ctr Sz prog 172 [.ow (.st 59),.rd (.int .i64),.rd (.int .i64),.rd (.int .i64),.f2 (.st 59) (.st 59) (.int .i64)] [] self):Ctr Sz prog 172 [.ow (.st 59),.rd (.int .i64),.rd (.int .i64),.rd (.int .i64),.f2 (.st 59) (.st 59) (.int .i64)] [] (λx=>cA (λh Z J W y4=>self (h,Z,J,W,y4,())) x.1 x.2.1 x.2.2.1 x.2.2.2.1 x.2.2.2.2.1):=
 ncR [(mC hs call172),KH] [] func172 ntmps172 (.s (.s .o (.i (.s .o (.s .o (.s (.b (.l ⟨[.v 10 1 (.dat (.int .i64) none),.v 11 1 (.dat (.int .i64) none)],[0,1,4],1,[]⟩ .o)) (.s (.s .o (.b (.l ⟨[.v 13 1 (.dat (.int .i64) none),.a 0 1 (.st 59) none],[0,10],1,[]⟩ .o))) .o)))) .o)) (.s (.s .o (.i (.s .o (.s .o (.s (.b (.l ⟨[.v 14 1 (.dat (.int .i64) none),.v 15 1 (.dat (.int .i64) none)],[0,2,4],1,[]⟩ .o)) (.s (.s .o (.b (.l ⟨[.v 17 1 (.dat (.int .i64) none),.a 0 1 (.st 59) none],[0,14],1,[]⟩ .o))) .o)))) .o)) (.s .o (.s .o (.s .o (.s .o (.s .o (.s (.b (.l ⟨[.v 20 1 (.dat (.int .i64) none),.v 21 1 (.dat (.int .i64) none)],[0,1,2,3,4,18,19,22],1,[]⟩ .o)) .o)))))))) λx=>by kernel_rfl
theorem BL:∀n:Nat,Ctr Sz prog 172 [.ow (.st 59),.rd (.int .i64),.rd (.int .i64),.rd (.int .i64),.f2 (.st 59) (.st 59) (.int .i64)] [] (λx=>bA n x.1 x.2.1 x.2.2.1 x.2.2.2.1 x.2.2.2.2.1)
  |0=>λW0 m w L TL vs x r Lp Tp hS J h=>nomatch (show(none:Option _)=some r from h)
  |n+1=>Iq (λx=>bA n x.1 x.2.1 x.2.2.1 x.2.2.2.1 x.2.2.2.2.1) (BL n)
theorem KI:Ctr Sz prog 172 [.ow (.st 59),.rd (.int .i64),.rd (.int .i64),.rd (.int .i64),.f2 (.st 59) (.st 59) (.int .i64)] [] (λx=>cd x.1 x.2.1 x.2.2.1 x.2.2.2.1 x.2.2.2.2.1):=λW0 m w L TL vs x r Lp Tp hS J h=>BL (x.1.length+1) W0 m w L TL vs x r Lp Tp hS J h
def KJ:=mC KI call172
theorem KK:Ctr Sz prog 126 [.ow (.st 59),.rd (.int .i64),.f2 (.st 59) (.st 59) (.int .i64)] [] (λx=>dW x.1 x.2.1 x.2.2.1):=
 ncR [KD,KJ] [] func126 ntmps126 (.s .o (.s .o (.s (.b (.l ⟨[.v 7 1 (.dat (.int .i64) none),.v 8 1 (.dat (.int .i64) none),.a 0 1 (.st 59) none],[0,1,2,6],1,[]⟩ .o)) (.s .o (.b (.l ⟨[.v 6 1 (.dat (.int .i64) none),.a 0 1 (.st 59) none],[0,1,2],1,[]⟩ (.s .o (.b (.s .o (.s (.b (.l ⟨[.v 7 2 (.dat (.int .i64) none),.v 8 2 (.dat (.int .i64) none),.a 0 2 (.st 59) none],[0,1,2,6],1,[]⟩ .o)) .o)))))))))) λx=>by kernel_rfl
def KL:=mC KK call126
theorem Nl:Ctr Sz prog 66 [.ow (.st 59),.f2 (.st 59) (.st 59) (.int .i64)] [] (λx=>bP x.1 x.2.1):=
 ncR [KL] [] func66 ntmps66 .o λx=>by kernel_rfl
theorem mB  {J:Nat}{Z:List Value}(hS:S W0 m w ((J,Z)::L) (TL)) {p0}(a1:GS ah m J Z v0 p0) {p1}(a0:Fn2 prog ah ah (aj .i64) m v1 p1) {r}(h:bP p0 p1=some r):
    Calls prog 66 #[v0,v1] w (Ret λv w'=>∃m',M.le m m'/\∃W:List Value,S W0 m' w' ((J,W)::L) (TL)/\GS ah m' J W v0 r):=by
 refine rm (Nl W0 m w L TL [v0,v1] (p0,p1,()) r [(J,Z)] [] hS ⟨a1,⟨a0,trivial⟩⟩ h) λv w' he=>?_;obtain⟨m',us,Lr,Lq,Tr,hm,Z',rfl,hR,hO⟩:=he;obtain⟨rfl,rfl,rfl⟩:=bF hR;obtain⟨W,Lq,rfl,o0,a2⟩:=GQ hO;have a3:=vy a2;obtain rfl:=bG a3;exact⟨m',hm,W,Z',o0⟩
theorem G2 {m0:M}{W:Value}{Z:List Int}(a0:PR (kSl (aj .i64)) m0 W Z):Fn2 prog ah ah (aj .i64) m0 (.func (.func 67) #[] #[W]) (λx0 x1=>dh x0 x1 Z):=by
  refine⟨67,_,rfl,call67,?_⟩;intro W0 m w L TL v0 v1 x0 x1 r hm hS h0 J hr;refine(tP (hS:=hS) h0 J (a0.mono hm) hr).mono ?_;intro e w' h;cases e with
  |returned v=>obtain⟨m',J,h2,h3⟩:=h;exact⟨m',J,h2,h3⟩
  |panicked ch=>exact h.elim
  |outgrown=>exact h.elim
theorem pI (hS:S W0 m w L TL) {p0}(e6:RV (kSl (aj .i64)) m v0 p0) {p1}(b6:RV (kSl ah) m v1 p1) {r}(h:dX p0 p1=some r):
    Calls prog 27 #[v0,v1] w (Ret λv w'=>∃m',M.le m m'/\S W0 m' w' L TL/\RV (kSl ah) m' v r):=by
 refine kc func27 ntmps27 λa E=>?_;have E:Env 29 a [(0,v0),(1,v1)]:=E;unfold dX at h;refine ab (ai ?_);refine st E (j3 (k:=(kSl (aj .i64))) E hS rfl e6) rfl ?_;rintro _ a w ⟨J,b7,rfl,e7,hS⟩ E;refine qA E rfl λa E=>ag (ab (ai (qA E rfl λa E=>ag (ab (ab (ai (qM E rfl λa E=>?_)))))));refine sp E (aV (k:=ah) E rfl rfl underlying50 b6) rfl λa E=>qM E rfl λa E=>ag ?_
 refine cF (λa w=>∃Z:(List aa),d9 p0 Z=some r/\∃m',M.le m m'/\∃(a6:List Value),∃(a4:Nat),∃(a0:Value),GS ah m' a4 a6 a0 Z/\S W0 m' w ((a4,a6)::(J,b7)::L) (TL)/\Env 29 a [(2,pz J),(5,a0)]) ?_ ?_
 {
 refine aY ?_;refine eX h (λ(s:Int×List aa) a w=>∃m',M.le m m'/\∃(a1:List Value),∃(W:Nat),∃(a2:Value),inR .i64 s.1/\GS ah m' W a1 a2 s.2/\S W0 m' w ((W,a1)::(J,b7)::L) (TL)/\Env 29 a [(2,pz J),(5,a2),(8,v1),(9,.int .i64 (p1.length:Int)),(10,.int .i64 s.1)]) ?_ ?_
 {exact⟨_,(Jn _),[],0,(.slice none 0 0),(show inR .i64 0 from ax (by decide)),GS.void,(hS.void 0),kut E⟩}
 {
 rintro ⟨c0,b0⟩ a w ⟨h7,a5,a1,W,a2,h4,b2,hS,E⟩ r50 h hb51;have h:ef p0 p1 c0 b0=some r50:=h;unfold ef at h;refine ab (ai (qB E rfl rfl cz λa E=>ag (ab (kif E rfl (λa3=>?_) (λa3=>?_)))))
 {
 have h:=aD a3 h;refine aW (ab (aY (ab (ai ?_))));obtain⟨h0,d1,h⟩:=ob h;refine st E (dx (k:=ah) E rfl rfl underlying50 sizeOf59 (b6.mono a5) d1) rfl ?_;rintro h5 a _ ⟨rfl,g1⟩ E;refine st E (bh E hS qE rfl g1) rfl ?_;rintro i5 a _ ⟨rfl,g3⟩ E;refine st E (cP hS zeroValue59 rfl (cs:=xb)) rfl ?_;rintro _ a w ⟨i4,rfl,hS⟩ E;refine st0 E (cD E hS qE bO rfl rfl g3 (i:=0) rfl (tN _)) ?_;rintro _ w ⟨h2,e4,hS⟩ E;refine ag (ai (qM E rfl λa E=>?_));refine st E (aB E hS qE rfl (i:=0) rfl (aJ e4)) rfl ?_;rintro c7 a _ ⟨rfl,g5⟩ E;obtain⟨e0,d0,h⟩:=ob h
 refine st E (az (vs:=[c7]) E rfl call65 (ye (hS:=hS) g5 d0)) rfl ?_;rintro c2 a w ⟨j2,b4,hS,e3⟩ E;refine st E (jq (k:=ah) (xs:=[e0]) (vs:=[c2]) E hS rfl underlying50 sizeOf59 zeroValue59 ⟨e3,trivial⟩ rfl (by decide)) rfl ?_;rintro h8 a w ⟨j1,b5,hS,g6⟩ E;obtain⟨e5,f0,h⟩:=ob h;refine st E (tX (k:=ah) (N:=2932031007402) E hS rfl rfl underlying50 CY (i:=1) rfl (b2.mono (zh b4 b5)) (sX hS underlying50 g6) f0 rfl rfl) rfl ?_;rintro f3 a w ⟨g0,e8,c3,hS⟩ E;refine qA E rfl λa E=>ag (ai (qB E rfl rfl (cy rfl) λa E=>qM E rfl λa E=>ag ?_))
 exact⟨(Q0.wrap (c0+1),e5),(Option.some.inj h).symm,_,(zh a5 (zh b4 b5)),e8,g0,f3,(aI _ _),c3,((hS.pickL 3 [1,2] rfl rfl rfl).pickT 1 [] rfl rfl rfl),kut E⟩}
 {have h:=aH a3 h;refine eJ rfl rfl ?_;have h:=cG h hb51;exact⟨b0,h,_,a5,a1,W,a2,b2,hS,kut E⟩}}}
 {
 rintro a w ⟨Z,h,h3,c1,a6,a4,a0,c4,hS,E⟩;unfold d9 at h;refine ab (ai (qM E rfl λa E=>?_));obtain⟨i2,b3,hS,c6⟩:=S.freezeL (k:=(kSl (aj .i64))) (hS.pickL 2 [1,0] rfl rfl rfl) ((kSl (aj .i64)).mono c1 e7);refine sp E (mD E rfl rfl) rfl λa E=>?_;obtain⟨h9,c5,h⟩:=ob h;refine st E (az (vs:=[a0,(.func (.func 67) #[] #[(pz J)])]) E rfl call66 (by have f4:=(c4.mono b3);have f5:=(G2 c6);exact mB (p0:=Z) (p1:=(λg4 d2=>dh g4 d2 p0)) (hS:=hS) f4 f5 c5)) rfl ?_;rintro h1 a w ⟨i1,e1,i0,hS,g2⟩ E;refine ag (ab ?_)
 obtain⟨h6,e9,hS,a9⟩:=S.freeze hS g2;refine ai (qM E rfl λa E=>qM E rfl λa E=>sp E (aV (k:=ah) E rfl rfl underlying50 a9) rfl λa E=>qM E rfl λa E=>sp E (aV (k:=ah) E rfl rfl underlying50 a9) rfl λa E=>?_);refine st E (Do (k:=ah) E rfl underlying50 sizeOf59 a9 rfl rfl) rfl ?_;rintro i3 a _ ⟨rfl,f6⟩ E;refine qA E rfl λa E=>ag (bq ?_);obtain rfl:=oi h
 try dsimp only
 refine f1 E ?_;exact⟨_,(zh c1 (zh b3 (zh e1 e9))),hS,f6⟩}
theorem Nm:Ctr Sz prog 41 [.rd (.sl (.int .i64)),.rd (.sl (.st 32))] [.ap (.st 32)] (λx=>tu x.1 x.2.1):=
 ncR [] [4] func41 ntmps41 (.s .o (.s .o (.s (.s .o (.b (.l ⟨[.v 5 1 (.dat (.sl (.st 32)) (some 0)),.v 6 1 (.dat (.int .i64) none)],[0,1],0,[4]⟩ .o))) .o))) λx=>by kernel_rfl
def Nn:=mC Nm call41
theorem KM:Ctr Sz prog 141 [.rd (.st 32),.rd (.st 32)] [.rd .bool] (λx=>ra x.1 x.2.1):=
 ncR [] [4] func141 ntmps141 .o λx=>by kernel_rfl
def KN:=mC KM call141
theorem No:Ctr Sz prog 95 [.rd (.st 32),.rd (.st 32)] [.rd (.int .i64)] (λx=>oM x.1 x.2.1):=
 ncR [KN] [4] func95 ntmps95 .o λx=>by kernel_rfl
def Np:=mC No call95
theorem Nq:Ctr Sz prog 40 [.rd (.sl (.st 32)),.rd (.sl (.st 32))] [.rd (.int .i64)] (λx=>ue x.1 x.2.1):=
 ncR [Np] [4] func40 ntmps40 (.s .o (.s (.s .o (.b (.l ⟨[.v 5 1 (.dat (.int .i64) none)],[0,1],0,[]⟩ .o))) .o)) λx=>by kernel_rfl
def Nr:=mC Nq call40
theorem KO:Ctr Sz prog 131 [.rd (.st 57),.rd (.st 57)] [.rd .bool] (λx=>qd x.1 x.2.1):=
 ncR [] [4] func131 ntmps131 .o λx=>by kernel_rfl
def KP:=mC KO call131
theorem Ns:Ctr Sz prog 72 [.rd (.sl (.int .i64)),.rd (.st 59),.rd (.st 59)] [.rd .bool] (λx=>qe x.1 x.2.1 x.2.2.1):=
 ncR [Nr,Nn,KP] [6] func72 ntmps72 .o λx=>by kernel_rfl
def Nt:=mC Ns call72
theorem Nu:Ctr Sz prog 28 [.rd (.sl (.int .i64)),.rd (.sl (.st 59))] [.rd (.sl (.st 59))] (λx=>n9 x.1 x.2.1):=
 ncR [Nt] [4] func28 ntmps28 (.s .o (.s .o (.s (.s .o (.b (.l ⟨[.v 5 1 (.dat (.sl (.st 59)) none),.v 6 1 (.dat (.int .i64) none)],[0,1],0,[]⟩ (.s .o (.s (.b (.s .o (.s (.b (.l ⟨[.v 7 2 (.dat (.int .i64) none)],[0,1,5,6],0,[]⟩ .o)) .o))) .o))))) .o))) λx=>by kernel_rfl
theorem AX (hS:S W0 m w L TL) {p0}(a1:RV (kSl (aj .i64)) m v0 p0) {p1}(W:RV (kSl ah) m v1 p1) {r}(h:n9 p0 p1=some r):
    Calls prog 28 #[v0,v1] w (Ret λv w'=>∃m',M.le m m'/\S W0 m' w' L TL/\RV (kSl ah) m' v r):=by
 refine rm (Nu W0 m w L TL [v0,v1] (p0,p1,()) r [] [] hS ⟨a1,⟨W,trivial⟩⟩ h) λv w' he=>?_;obtain⟨m',us,Lr,Lq,Tr,hm,J,rfl,Z,hO⟩:=he;obtain⟨u0,us,rfl,r0,a0⟩:=cH Z;obtain⟨rfl,rfl,rfl⟩:=bF a0;have a2:=bj hO;have a3:=bj a2;obtain rfl:=bG a3;exact⟨m',hm,J,r0⟩
theorem KQ:Ctr Sz prog 176 [.rd (.sl (.int .i64)),.rd (.int .i64)] [.rd (.int .i64)] (λx=>jU x.1 x.2.1):=
 ncR [] [4] func176 ntmps176 (.s .o (.s (.s .o (.b (.l ⟨[.v 8 1 (.dat (.int .i64) none)],[0,1,7],0,[]⟩ .o))) .o)) λx=>by kernel_rfl
def KR:=mC KQ call176
theorem KS:Ctr Sz prog 132 [.rd (.sl (.int .i64)),.rd (.int .i64)] [.rd .bool] (λx=>fW x.1 x.2.1):=
 ncR [KR] [4] func132 ntmps132 .o λx=>by kernel_rfl
theorem ru (hS:S W0 m w L TL) {p0}(a1:RV (kSl (aj .i64)) m v0 p0) {p1}(W:inR .i64 p1) {r}(h:fW p0 p1=some r):
    Calls prog 132 #[v0,(.int .i64 p1)] w (Ret λv w'=>∃m',M.le m m'/\S W0 m' w' L TL/\RV cj m' v r):=by
 refine rm (KS W0 m w L TL [v0,(.int .i64 p1)] (p0,p1,()) r [] [] hS ⟨a1,⟨au W,trivial⟩⟩ h) λv w' he=>?_;obtain⟨m',us,Lr,Lq,Tr,hm,J,rfl,Z,hO⟩:=he;obtain⟨u0,us,rfl,r0,a0⟩:=cH Z;obtain⟨rfl,rfl,rfl⟩:=bF a0;have a2:=bj hO;have a3:=bj a2;obtain rfl:=bG a3;exact⟨m',hm,J,r0⟩
theorem KT:Ctr Sz prog 144 [.rd .bool] [.rd (.st 32)] (λx=>mG x.1):=
 nxR [] [.cell 2 32] func144 ntmps144 .o λx=>by kernel_rfl
def EP:=mC KT call144
theorem KU:Ctr Sz prog 136 [.rd (.int .i64)] [.rd (.st 32)] (λx=>dK x.1):=
 nxR [] [.cell 2 32] func136 ntmps136 .o λx=>by kernel_rfl
def wb:=mC KU call136
theorem KV:Ctr Sz prog 145 [.rd .str] [.rd (.st 32)] (λx=>mH x.1):=
 nxR [] [.cell 2 32] func145 ntmps145 .o λx=>by kernel_rfl
def EQ:=mC KV call145
theorem KW:Ctr Sz prog 101 [.rd (.st 32)] [.rd .bool] (λx=>kj x.1):=
 ncR [Aw,wb,EP,EQ] [2] func101 ntmps101 .o λx=>by kernel_rfl
def AB:=mC KW call101
theorem KX:Ctr Sz prog 133 [.rd (.int .i64),.rd (.st 59)] [.rd .bool] (λx=>j9 x.1 x.2.1):=
 ncR [AB] [4] func133 ntmps133 (.s .o (.s (.s .o (.b (.l ⟨[.v 11 1 (.dat (.int .i64) none)],[0,3,9,10],1,[]⟩ .o))) .o)) λx=>by kernel_rfl
theorem wc (hS:S W0 m w L TL) {p0}(a1:inR .i64 p0) {p1}(W:RV ah m v1 p1) {r}(h:j9 p0 p1=some r):
    Calls prog 133 #[(.int .i64 p0),v1] w (Ret λv w'=>∃m',M.le m m'/\S W0 m' w' L TL/\RV cj m' v r):=by
 refine rm (KX W0 m w L TL [(.int .i64 p0),v1] (p0,p1,()) r [] [] hS ⟨au a1,⟨W,trivial⟩⟩ h) λv w' he=>?_;obtain⟨m',us,Lr,Lq,Tr,hm,J,rfl,Z,hO⟩:=he;obtain⟨u0,us,rfl,r0,a0⟩:=cH Z;obtain⟨rfl,rfl,rfl⟩:=bF a0;have a2:=bj hO;have a3:=bj a2;obtain rfl:=bG a3;exact⟨m',hm,J,r0⟩
theorem jo (hS:S W0 m w L TL) {p0}(h1:inR .i64 p0) {p1}(b5:RV (kSl (aj .i64)) m v1 p1) {p2}(b7:RV (kSl ah) m v2 p2) {r}(h:fy p0 p1 p2=some r):
    Calls prog 74 #[(.int .i64 p0),v1,v2] w (Ret λv w'=>∃m',M.le m m'/\S W0 m' w' L TL/\RV (aj .i64) m' v r):=by
 refine kc func74 ntmps74 λa E=>?_;have E:Env 69 a [(0,.int .i64 p0),(1,v1),(2,v2)]:=E;unfold fy at h;refine ab (ai (qA E rfl λa E=>ag (ab (ab ?_))));refine cF (λa w=>∃x4:Bool,eV p0 p1 p2 x4=some r/\∃m',M.le m m'/\S W0 m' w L TL/\Env 69 a [(0,.int .i64 p0),(1,v1),(2,v2),(17,.bool x4)]) ?_ ?_
 {
 refine ai (qM E rfl λa E=>qB E rfl rfl cz λa E=>qM E rfl λa E=>?_);rcases zw (decide (p0<1)) with hd146|hd146
 {have h:=aD hd146 h;refine qX E hd146 λa E=>qX E hd146 λa E=>qT E hd146 rfl λa E=>ag ?_;exact⟨true,h,_,(Jn _),hS,kut E⟩}
 {have h:=aH hd146 h;refine qG E hd146 rfl λa E=>spg E rfl rfl rfl rfl hd146 (be E rfl rfl l6) rfl λa E=>qF E hd146 rfl λa E=>ag ?_;exact⟨(decide (8<p0)),h,_,(Jn _),hS,kut E⟩}}
 {
 rintro a w ⟨x4,h,m2,J,hS,E⟩;unfold eV at h;refine kif E rfl (λc5=>?_) (λc5=>?_)
 {
 have h:=aD c5 h;refine ab (ai (qA E rfl λa E=>ag (bq ?_)));obtain rfl:=oi h
 try dsimp only
 refine f1 E ?_;exact⟨_,J,hS,(au (show inR .i64 1 from ax (by decide)))⟩}
 {
 have h:=aH c5 h;refine aW (ab (ab (ai (qM E rfl λa E=>sp E (aV (k:=(aj .i64)) E rfl rfl underlying49 (b5.mono J)) rfl λa E=>qM E rfl λa E=>ag ?_))));refine cF (λa w=>dM p0 p2=some r/\∃m',M.le m2 m'/\S W0 m' w L TL/\Env 69 a [(0,.int .i64 p0),(2,v2)]) ?_ ?_
 {
 refine aY ?_;refine eX h (λ(s:Int) a w=>∃m',M.le m2 m'/\inR .i64 s/\S W0 m' w L TL/\Env 69 a [(0,.int .i64 p0),(1,v1),(2,v2),(18,v1),(19,.int .i64 (p1.length:Int)),(20,.int .i64 s)]) ?_ ?_
 {exact⟨_,(Jn _),(show inR .i64 0 from ax (by decide)),hS,kut E⟩}
 {
 rintro a6 a w ⟨e8,a0,l1,hS,E⟩ r93 h hb94;have h:eU p0 p1 p2 a6=some r93:=h;unfold eU at h;refine ab (ai (qB E rfl rfl cz λa E=>ag (ab (kif E rfl (λb4=>?_) (λb4=>?_)))))
 {
 have h:=aD b4 h;refine aW (ab (aY (ab (ai (qM E rfl λa E=>?_)))));obtain⟨b6,f5,h⟩:=ob h;refine st E (dx (k:=(aj .i64)) E rfl rfl underlying49 sizeOf3 (b5.mono (zh J a0)) f5) rfl ?_;rintro i5 a _ ⟨rfl,g2⟩ E;refine st E (bh E hS ty3 rfl g2) rfl ?_;rintro k0 a _ ⟨rfl,g5⟩ E;obtain⟨rfl,g0⟩:=aK g5;refine qA E rfl λa E=>qA E rfl λa E=>ag (ab ?_);refine cF (λa w=>∃b3:Bool,dN a6 b3=some r93/\∃m',M.le e8 m'/\S W0 m' w L TL/\Env 69 a [(0,.int .i64 p0),(1,v1),(2,v2),(18,v1),(19,.int .i64 (p1.length:Int)),(20,.int .i64 a6),(38,.bool b3)]) ?_ ?_
 {
 refine ai (qM E rfl λa E=>qB E rfl rfl cz λa E=>qM E rfl λa E=>?_);rcases zw (decide (b6<0)) with hd118|hd118
 {have h:=aD hd118 h;refine qX E hd118 λa E=>qX E hd118 λa E=>qX E hd118 λa E=>qT E hd118 rfl λa E=>qM E rfl λa E=>qX E rfl λa E=>qX E rfl λa E=>qX E rfl λa E=>qX E rfl λa E=>qX E rfl λa E=>?_;refine qT E rfl rfl λa E=>ag ?_;exact⟨true,h,_,(Jn _),hS,kut E⟩}
 {
 have h:=aH hd118 h;refine qG E hd118 rfl λa E=>qG E hd118 rfl λa E=>spg E rfl rfl rfl rfl hd118 (be E rfl rfl yl) rfl λa E=>qF E hd118 rfl λa E=>qM E rfl λa E=>?_;rcases zw (decide (p0<=b6)) with hd127|hd127
 {have h:=aD hd127 h;refine qX E hd127 λa E=>qX E hd127 λa E=>qX E hd127 λa E=>qX E hd127 λa E=>qX E hd127 λa E=>qT E hd127 rfl λa E=>ag ?_;exact⟨true,h,_,(Jn _),hS,kut E⟩}
 {
 have h:=aH hd127 h;refine qG E hd127 rfl λa E=>qG E hd127 rfl λa E=>?_;obtain⟨i2,e7,h⟩:=ob h;refine stg E rfl rfl rfl rfl hd127 (dJ (k:=(aj .i64)) E rfl underlying49 sizeOf3 (b5.mono (zh J a0)) rfl ⟨_,rfl⟩ e7 (xl:=none) (xh:=(some (.tmp 34)))) rfl ?_;rintro h8 a _ ⟨rfl,h4⟩ E;refine qG E hd127 rfl λa E=>?_;obtain⟨g6,g1,h⟩:=ob h;refine stg E rfl rfl rfl rfl hd127 (az (vs:=[h8,(.int .i64 b6)]) E rfl call132 (ru (hS:=hS) h4 g0 g1)) rfl ?_;rintro i3 a w ⟨i4,h7,hS,g3⟩ E;obtain rfl:=dU g3;refine qF E hd127 rfl λa E=>ag ?_
 exact⟨g6,h,_,h7,hS,kut E⟩}}}
 {
 rintro a w ⟨b3,h,i1,e4,hS,E⟩;unfold dN at h;refine kif E rfl (λb2=>?_) (λb2=>?_)
 {
 have h:=aD b2 h;refine ab (ai (qA E rfl λa E=>ag (bq ?_)));have h:=cG h hb94;obtain rfl:=oi h
 try dsimp only
 refine f1 E ?_;exact⟨_,(zh J (zh a0 e4)),hS,(au (show inR .i64 1 from ax (by decide)))⟩}
 {have h:=aH b2 h;refine aW (ai (qB E rfl rfl (cy rfl) λa E=>qM E rfl λa E=>ag ?_));exact⟨Q0.wrap (a6+1),(Option.some.inj h).symm,_,(zh a0 e4),(aI _ _),hS,kut E⟩}}}
 {have h:=aH b4 h;refine eJ rfl rfl ?_;have h:=cG h hb94;exact⟨h,_,a0,hS,kut E⟩}}}
 {
 rintro a w ⟨h,d2,W,hS,E⟩;unfold dM at h;refine ab (ab (ai (qM E rfl λa E=>sp E (aV (k:=ah) E rfl rfl underlying50 (b7.mono (zh J W))) rfl λa E=>qB E rfl rfl l6 λa E=>ag (kif E rfl (λc6=>?_) (λc6=>?_)))))
 {
 have h:=aD c6 h;refine ab (ai (qA E rfl λa E=>ag (bq ?_)));obtain rfl:=oi h
 try dsimp only
 refine f1 E ?_;exact⟨_,(zh J W),hS,(au (show inR .i64 81 from ax (by decide)))⟩}
 {
 have h:=aH c6 h;refine aW (ab (ai ?_));refine st E (BY hS) rfl ?_;rintro _ a w ⟨Z,rfl,hS,d1,i0⟩ E;refine qA E rfl λa E=>ag (ab (ab (ai (qM E rfl λa E=>sp E (aV (k:=ah) E rfl rfl underlying50 (b7.mono (zh J W))) rfl λa E=>qM E rfl λa E=>ag ?_))));refine cF (λa w=>∃c3:(List aF),kO c3=some r/\∃m',M.le d2 m'/\∃(c2:Array MapEntry),∃(b1:Nat),ni CZ c2 b1 c3/\S (W0.put Z (.map c2 b1)) m' w L TL/\Env 69 a []) ?_ ?_
 {
 refine aY ?_;refine eX h (λ(s:Int×List aF) a w=>∃m',M.le d2 m'/\∃(a2:Array MapEntry),∃(a4:Nat),inR .i64 s.1/\ni CZ a2 a4 s.2/\S (W0.put Z (.map a2 a4)) m' w L TL/\Env 69 a [(0,.int .i64 p0),(9,(.map (some Z))),(44,v2),(45,.int .i64 (p2.length:Int)),(46,.int .i64 s.1)]) ?_ ?_
 {exact⟨_,(Jn _),#[],0,(show inR .i64 0 from ax (by decide)),(ni.nil (K:=CZ)),hS,kut E⟩}
 {
 rintro ⟨a5,a1⟩ a w ⟨f0,a9,a2,a4,k7,e3,hS,E⟩ r43 h hb44;have h:cJ p0 p2 a5 a1=some r43:=h;unfold cJ at h;refine ab (ai (qB E rfl rfl cz λa E=>ag (ab (kif E rfl (λb0=>?_) (λb0=>?_)))))
 {
 have h:=aD b0 h;refine aW (ab (aY (ab (ai ?_))));obtain⟨a3,h5,h⟩:=ob h;refine st E (dx (k:=ah) E rfl rfl underlying50 sizeOf59 (b7.mono (zh J (zh W a9))) h5) rfl ?_;rintro j4 a _ ⟨rfl,e6⟩ E;refine st E (bh E hS qE rfl e6) rfl ?_;rintro j1 a _ ⟨rfl,f3⟩ E;refine st E (cP hS zeroValue59 rfl (cs:=xb)) rfl ?_;rintro _ a w ⟨f6,rfl,hS⟩ E;refine st0 E (cD E hS qE bO rfl rfl f3 (i:=0) rfl (tN _)) ?_;rintro _ w ⟨h6,c0,hS⟩ E;refine ag (ab ?_);refine Ok (K:=CZ) mixed rfl E rfl hS i0 e3 rfl rfl underlying171 zeroValue3 ov vT va (i:=0) rfl c0 underlying3 ?_
 intro a w e5 d0 E hS e0;refine ab ?_;refine cF (λa w=>∃c4:Bool,eT a5 a1 a3 c4=some r43/\∃m',M.le f0 m'/\S (W0.put Z (.map e5 d0)) m' w ((f6,h6)::L) (TL)/\Env 69 a [(0,.int .i64 p0),(9,(.map (some Z))),(44,v2),(45,.int .i64 (p2.length:Int)),(46,.int .i64 a5),(67,.bool c4)]) ?_ ?_
 {
 refine ai (qM E rfl λa E=>?_);refine st E (aB E hS qE rfl (i:=0) rfl (aJ c0)) rfl ?_;rintro h2 a _ ⟨rfl,f4⟩ E;obtain⟨e9,h0,h⟩:=ob h;refine st E (az (vs:=[(.int .i64 p0),h2]) E rfl call133 (wc (hS:=hS) h1 f4 h0)) rfl ?_;rintro l2 a w ⟨k3,c1,hS,g4⟩ E;obtain rfl:=dU g4;refine sp E (kw E rfl) rfl λa E=>qM E rfl λa E=>?_;rcases zw (!e9) with hd80|hd80
 {have h:=aD hd80 h;refine qX E hd80 λa E=>qX E hd80 λa E=>qX E hd80 λa E=>qX E hd80 λa E=>qX E hd80 λa E=>qT E hd80 rfl λa E=>ag ?_;exact⟨true,h,_,c1,hS,kut E⟩}
 {have h:=aH hd80 h;refine qG E hd80 rfl λa E=>spg E rfl rfl rfl rfl hd80 (aG E ov rfl) rfl λa E=>?_;refine stg E rfl rfl rfl rfl hd80 (aB E hS va rfl (i:=0) rfl (vT.R_drop (aJ (ah.mono c1 c0)))) rfl ?_;rintro k6 a _ ⟨rfl,h3⟩ E;refine spg E rfl rfl rfl rfl hd80 (A7 (k:=bm) E hS e0 rfl rfl h3 underlying171 zeroValue3) rfl λa E=>spg E rfl rfl rfl rfl hd80 (be E rfl rfl l6) rfl λa E=>qF E hd80 rfl λa E=>ag ?_;exact⟨(decide (1<(iA (a3.fId::a1) a3.fId))),h,_,c1,hS,kut E⟩}}
 {
 rintro a w ⟨c4,h,k5,e1,hS,E⟩;unfold eT at h;refine kif E rfl (λc7=>?_) (λc7=>?_)
 {
 have h:=aD c7 h;refine ab (ai (qA E rfl λa E=>ag (bq ?_)));have h:=cG h hb44;obtain rfl:=oi h
 try dsimp only
 refine f1 E ?_;exact⟨_,(zh J (zh W (zh a9 e1))),(S.unK (hS.dropL 1) d1),(au (show inR .i64 81 from ax (by decide)))⟩}
 {have h:=aH c7 h;refine aW (ai (qB E rfl rfl (cy rfl) λa E=>qM E rfl λa E=>ag ?_));exact⟨(Q0.wrap (a5+1),(a3.fId::a1)),(Option.some.inj h).symm,_,(zh a9 e1),e5,d0,(aI _ _),e0,(hS.pickL 1 [] rfl rfl rfl),kut E⟩}}}
 {have h:=aH b0 h;refine eJ rfl rfl ?_;have h:=cG h hb44;exact⟨a1,h,_,a9,a2,a4,e3,hS,E.cut trivial⟩}}}
 {
 rintro a w ⟨c3,h,k4,h9,c2,b1,j2,hS,E⟩;unfold kO at h;refine ab (ai (qA E rfl λa E=>ag (bq ?_)));obtain rfl:=oi h
 try dsimp only
 refine f1 E ?_;exact⟨_,(zh J (zh W h9)),(S.unK hS d1),(au (show inR .i64 0 from ax (by decide)))⟩}}}}}
theorem Nv:Ctr Sz prog 75 [.ap (.int .u8),.rd (.int .i64)] [.ap (.int .u8)] (λx=>il x.1 x.2.1):=
 ncR [] [4] func75 ntmps75 .o λx=>by kernel_rfl
theorem nI (hS:S W0 m w L ((1,v0)::TL)) {p0}(a1:RV (kSl (aj .u8)) m v0 p0) {p1}(W:inR .i64 p1) {r}(h:il p0 p1=some r):
    Calls prog 75 #[v0,(.int .i64 p1)] w (Ret λv w'=>∃m',M.le m m'/\S W0 m' w' L ((1,v)::TL)/\RV (kSl (aj .u8)) m' v r):=by
 refine rm (Nv W0 m w L TL [v0,(.int .i64 p1)] (p0,p1,()) r [] [(1,v0)] hS ⟨a1,rfl,⟨au W,trivial⟩⟩ h) λv w' he=>?_;obtain⟨m',us,Lr,Lq,Tr,hm,J,rfl,Z,hO⟩:=he;obtain⟨u0,us,Tr,rfl,rfl,r0,a0⟩:=pW Z;obtain⟨rfl,rfl,rfl⟩:=bF a0;have a2:=GO hO;have a3:=bj a2;obtain rfl:=bG a3;exact⟨m',hm,J,r0⟩
theorem Nw:Ctr Sz prog 77 [.rd (.int .i64),.rd (.int .i64),.rd (.sl (.st 59))] [.ap (.st 32)] (λx=>jD x.1 x.2.1 x.2.2.1):=
 ncR [wb] [6] func77 ntmps77 (.s .o (.s .o (.s (.s .o (.b (.l ⟨[.v 7 1 (.dat (.sl (.st 32)) (some 0)),.v 12 1 (.dat (.int .i64) none)],[0,1,10,11],0,[4]⟩ .o))) .o))) λx=>by kernel_rfl
theorem vb (hS:S W0 m w L TL) {p0}(a1:inR .i64 p0) {p1}(W:inR .i64 p1) {p2}(a2:RV (kSl ah) m v2 p2) {r}(h:jD p0 p1 p2=some r):
    Calls prog 77 #[(.int .i64 p0),(.int .i64 p1),v2] w (Ret λv w'=>∃m',M.le m m'/\S W0 m' w' L ((4,v)::TL)/\RV (kSl kAp) m' v r):=by
 refine rm (Nw W0 m w L TL [(.int .i64 p0),(.int .i64 p1),v2] (p0,p1,p2,()) r [] [] hS ⟨au a1,⟨au W,⟨a2,trivial⟩⟩⟩ h) λv w' he=>?_;obtain⟨m',us,Lr,Lq,Tr,hm,J,rfl,Z,hO⟩:=he;obtain⟨u0,us,Tr,rfl,rfl,r0,a3⟩:=pW Z;obtain⟨rfl,rfl,rfl⟩:=bF a3;have a4:=bj hO;have a5:=bj a4;have a0:=bj a5;obtain rfl:=bG a0;exact⟨m',hm,J,r0⟩
theorem qH {σ:Type}{I:M->σ->Mem->Tls->Prop}{step:σ->(List Ap)->Option (σ×Bool)}{B:σ->Bse}{v0:Value}{m:M}{w:World}{L:Mem}{TL:Tls}{b0:σ}{a4:Mem}{a5:Tls}(mono:∀m m' s a b,M.le m m'->I m s a b->I m' s a b)(hy:yX prog (Rv1 (kSl kAp)) B v0 I step)(d0:I m b0 a4 a5)(hS:S (B b0) m w (a4++L) (a5++TL)){v1:Value}{p1:List Ap}(b2:PR (kSl kAp) m v1 p1){v2:Value}{p2:Int}(b3:PR (aj .i64) m v2 p2){r:σ}(h:fz step b0 p1 p2=some r):
    Calls prog 177 #[v0,v1,v2] w (Ret λ_ w'=>∃m' Ls' TLs',M.le m m'/\I m' r Ls' TLs'/\S (B r) m' w' (Ls'++L) (TLs'++TL)):=by
 refine vg (args:=[v0,v1,v2]) func177 rfl ntmps177 (Q1 rfl) λa E=>?_;have E:Env 31 a [(0,v0),(1,v1),(2,v2)]:=E;unfold fz at h;refine ab (ai (qA E rfl λa E=>ag (aY ?_)));refine eX h (λ(s:Int×σ) a w=>∃m',M.le m m'/\∃(a1:Mem),∃(a0:Tls),inR .i64 s.1/\I m' s.2 a1 a0/\S (B s.2) m' w ((a1++L)) ((a0++TL))/\Env 31 a [(0,v0),(1,v1),(2,v2),(4,.int .i64 s.1)]) ?_ ?_
 {exact⟨_,(Jn _),a4,a5,(show inR .i64 0 from ax (by decide)),d0,hS,kut E⟩}
 {
 rintro ⟨Z,x6⟩ a w ⟨m2,W,a1,a0,f0,b6,hS,E⟩ r10 h hb11;have h:cg step p1 p2 Z x6=some r10:=h;unfold cg at h;refine ab (ab (ai (qM E rfl λa E=>?_)));refine st E (bh E hS sq rfl (b2.mono W)) rfl ?_;rintro e4 a _ ⟨rfl,f5⟩ E;refine sp E (aV (k:=kAp) E rfl rfl underlying22 f5) rfl λa E=>qB E rfl rfl cz λa E=>ag (kif E rfl (λb1=>?_) (λb1=>?_))
 {
 have h:=aD b1 h;refine aW (ab (aY (ab ?_)));obtain⟨c0,d1,h⟩:=ob h;refine kch (k:=5) (m:=m2) (es:=[]) (Φ:=(λi m ws v=>match i with|0=>ei .i64 p2 v|1=>RV (kSl kAp) m v p1|2=>ei .i64 Z v|3=>RV (kSl kAp) m v c0|4=>ei .i64 (c0.length:Int) v|_=>True)) (Q:=(λc m ws L' e9=>match c with|0=>(a1++L)=L'/\(a0++TL)=e9|_=>False)) (cs:=[xV [(2,v2)],xV [(1,v1)],xV [(4,.int .i64 Z)],xV [],xV []]) mixed E hS ⟨rfl,rfl⟩ rfl rfl (by kernel_rfl) ?_ ?_ ?_ ?_
 {
 intro i m_ e3 ws v n_ q_
 iterate 5 (rcases i with _|i;first|exact q_|exact RV.mono q_ n_)
 exact trivial}
 {
 intro c m_ e3 ws L_ T_ n_ a6
 match c,a6 with
 |0,⟨g1,e8⟩=>exact⟨g1,e8⟩
 |_+1,a6=>exact a6.elim}
 {
 refine⟨?_,?_,?_,?_,?_,trivial⟩
 {refine cp0 λ_ _ _ _ _ _ _ M' _ J E' _=>?_;exact cr (bh E' J ty3 rfl (b3.mono (zh W M'))) J λ_ h=>aK h}
 {refine cp0 λ_ _ _ _ _ _ _ M' _ J E' _=>?_;exact cr (bh E' J sq rfl (b2.mono (zh W M'))) J λ_ h=>h}
 {exact cmv λ_ _=>⟨rfl,f0⟩}
 {
 refine cp0 λ_ _ _ m' a' _ _ _ _ J E' T'=>?_;obtain⟨g4,e7,d2⟩:∃v,a'.tmps.getD 14 undef=v/\(RV (kSl kAp) m' v p1):=⟨_,rfl,T' 1⟩
 have E:=(E'.add (e7)).add (T' 2).1;exact cr (dJ (k:=kAp) E rfl underlying22 sizeOf32 d2 ⟨_,rfl⟩ rfl d1 (xl:=(some (.tmp 15))) (xh:=none)) J λ_ h=>h}
 {refine cp0 λ_ _ _ m' a' _ _ _ _ J E' T'=>?_;obtain⟨g3,E,b4⟩:=adv E' (T' 3);exact cq (aV (k:=kAp) E rfl rfl underlying22 b4) J ⟨rfl,(dR (ic b4))⟩}}
 {
 intro h4 L_ T_ h2 a w g0 a2 c5 hS e5 f6 c4 b7;obtain rfl:=gQ g0;obtain⟨rfl,rfl⟩:=c5;have E:=eof 5 [(0,v0),(1,v1),(2,v2),(4,.int .i64 Z),(6,.int .i64 Z),(7,e4),(8,.int .i64 (p1.length:Int)),(9,.bool (decide (Z<(p1.length:Int))))] e5 f6 c4;have E:=(E.add (b7 0).1).add (b7 4).1;refine sp E (yI E rfl rfl) rfl λa E=>qA E rfl λa E=>ag (ab (ai (qM E rfl λa E=>?_)));refine st E (bh E hS sq rfl (b2.mono (zh W a2))) rfl ?_;rintro h3 a _ ⟨rfl,c7⟩ E
 refine qM E rfl λa E=>qM E rfl λa E=>qM E rfl λa E=>qB E rfl rfl (cy rfl) λa E=>qM E rfl λa E=>qM E rfl λa E=>qB E rfl rfl (cy rfl) λa E=>?_;obtain⟨g2,f3,h⟩:=ob h;refine st E (BW (k:=kAp) E rfl underlying22 sizeOf32 c7 rfl rfl rfl f3) rfl ?_;rintro c6 a _ ⟨rfl,c3⟩ E;obtain⟨f4,e6,h⟩:=ob h;refine st E (hy _ _ L TL _ _ _ [c6] _ _ _ (mono _ _ _ _ _ a2 b6) hS ⟨_,rfl,c3⟩ e6 _ _ _ _ _ _ _ _ _ (E.eval rfl) (gW E rfl)) rfl ?_;rintro h1 a w ⟨e0,h0,c1,c2,a9,b5,hS⟩ E;obtain rfl:=e0
 refine sp E (kw E rfl) rfl λa E=>ag (kif E rfl (λa3=>?_) (λa3=>?_))
 {
 have h:=aD a3 h;refine bq ?_;have h:=cG h hb11;obtain rfl:=oi h
 try dsimp only
 refine Fin.mk E (rs:=[]) rfl o9.nil ?_;exact⟨_,c1,c2,(zh W (zh a2 a9)),b5,hS⟩}
 {have h:=aH a3 h;refine aW (ai (qM E rfl λa E=>?_));refine st E (bh E hS ty3 rfl (b3.mono (zh W (zh a2 a9)))) rfl ?_;rintro g5 a _ ⟨rfl,e1⟩ E;obtain⟨rfl,g6⟩:=aK e1;refine qB E rfl rfl (cy rfl) λa E=>qA E rfl λa E=>ag ?_;exact⟨(Q0.wrap (Z+p2),f4.1),(Option.some.inj h).symm,_,(zh W (zh a2 a9)),c1,c2,(aI _ _),b5,hS,kut E⟩}}}
 {
 have h:=aH b1 h;refine eJ rfl rfl ?_;have h:=cG h hb11;obtain rfl:=oi h
 try dsimp only
 refine Fin.mk E (rs:=[]) rfl o9.nil ?_;exact⟨_,a1,a0,W,b6,hS⟩}}
theorem pL {m:M}{v1:Value}{p1:List Ap}(W:PR (kSl kAp) m v1 p1){v2:Value}{J:Int}(Z:PR (aj .i64) m v2 J){xs:List (List Ap)}(h:fg p1 J=some xs):yq prog (Rv1 (kSl kAp)) 177 #[v1,v2] m xs:=by
 intro σ I step B y m1 w L TL s Ls TLs r mono hle hy hI hS hf;exact qH mono hy hI hS (W.mono hle) (Z.mono hle) (oQ h hf)
theorem sw (hS:S W0 m w L TL) {p0}(a5:RV (kSl kAp) m v0 p0) {p1}(b0:inR .i64 p1) {r}(h:gw p0 p1=some r):
    Calls prog 134 #[v0,(.int .i64 p1)] w (Ret λv w'=>∃m',M.le m m'/\S W0 m' w' L TL/\ItV prog (Rv1 (kSl kAp)) m' v r):=by
 refine kc func134 ntmps134 λa E=>?_;have E:Env 9 a [(0,v0),(1,.int .i64 p1)]:=E;unfold gw at h;refine ab (ai ?_);refine st E (j3 (k:=(kSl kAp)) E hS rfl a5) rfl ?_;rintro _ a w ⟨Z,b3,rfl,a6,hS⟩ E;refine st E (j3 (k:=(aj .i64)) E hS rfl (au b0)) rfl ?_;rintro _ a w ⟨b5,b4,rfl,a2,hS⟩ E;refine qA E rfl λa E=>ag (ab (ab (ai ?_)));refine st E (aB E hS ty3 rfl (i:=0) rfl (aJ a2)) rfl ?_;rintro c2 a _ ⟨rfl,a4⟩ E;obtain⟨rfl,c0⟩:=aK a4;refine qB E rfl rfl cz λa E=>ag ?_
 refine cF (λa w=>gF p0 p1=some r/\∃m',M.le m m'/\S W0 m' w ((b5,b4)::(Z,b3)::L) (TL)/\Env 9 a [(2,pz Z),(3,pz b5)]) ?_ ?_
 {
 refine kif E rfl (λJ=>?_) (λJ=>?_)
 {have h:=aD J h;cases h}
 {have h:=aH J h;refine aW ?_;exact⟨h,_,(Jn _),hS,kut E⟩}}
 {
 rintro a w ⟨h,c1,W,hS,E⟩;unfold gF at h;refine ab (ai ?_);obtain⟨c3,a1,hS,a9⟩:=S.freezeL (k:=(kSl kAp)) (hS.pickL 2 [1,0] rfl rfl rfl) ((kSl kAp).mono W a6);obtain⟨b7,a0,hS,a3⟩:=S.freezeL (k:=(aj .i64)) hS ((aj .i64).mono (zh W a1) a2);obtain⟨b6,b2,h⟩:=ob h;refine sp E (mD E rfl rfl) rfl λa E=>qA E rfl λa E=>ag (bq ?_);obtain rfl:=oi h
 try dsimp only
 refine f1 E ?_;exact⟨_,(zh W (zh a1 a0)),hS,(⟨177,_,rfl,call177,pL (a9.mono a0) a3 b2⟩:ItV prog (Rv1 (kSl kAp)) b7 (.func (.func 177) #[] #[(pz Z),(pz b5)]) b6)⟩}
theorem KY:Ctr Sz prog 143 [.rd (.sl (.st 32)),.f1 (.st 32) .bool] [.rd (.int .i64)] (λx=>je x.1 x.2.1):=
 ncR [] [4] func143 ntmps143 (.s .o (.s (.s .o (.b (.l ⟨[.v 8 1 (.dat (.int .i64) none)],[0,1,7],0,[]⟩ .o))) .o)) λx=>by kernel_rfl
def KZ:=mC KY call143
theorem Nx:Ctr Sz prog 99 [.rd (.sl (.st 32)),.f1 (.st 32) .bool] [.rd .bool] (λx=>dD x.1 x.2.1):=
 ncR [KZ] [4] func99 ntmps99 .o λx=>by kernel_rfl
theorem ox (hS:S W0 m w L TL) {p0}(a1:RV (kSl kAp) m v0 p0) {p1}(W:Fn1 prog kAp cj m v1 p1) {r}(h:dD p0 p1=some r):
    Calls prog 99 #[v0,v1] w (Ret λv w'=>∃m',M.le m m'/\S W0 m' w' L TL/\RV cj m' v r):=by
 refine rm (Nx W0 m w L TL [v0,v1] (p0,p1,()) r [] [] hS ⟨a1,⟨W,trivial⟩⟩ h) λv w' he=>?_;obtain⟨m',us,Lr,Lq,Tr,hm,J,rfl,Z,hO⟩:=he;obtain⟨u0,us,rfl,r0,a0⟩:=cH Z;obtain⟨rfl,rfl,rfl⟩:=bF a0;have a2:=bj hO;have a3:=GP a2;obtain rfl:=bG a3;exact⟨m',hm,J,r0⟩
theorem K0:Ctr Sz prog 100 [.rd (.st 32)] [.rd .bool] (λx=>ek x.1):=
 ncR [AB] [2] func100 ntmps100 .o λx=>by kernel_rfl
theorem um (hS:S W0 m w L TL) {p0}(a1:RV kAp m v0 p0) {r}(h:ek p0=some r):
    Calls prog 100 #[v0] w (Ret λv w'=>∃m',M.le m m'/\S W0 m' w' L TL/\RV cj m' v r):=by
 refine rm (K0 W0 m w L TL [v0] (p0,()) r [] [] hS ⟨a1,trivial⟩ h) λv w' he=>?_;obtain⟨m',us,Lr,Lq,Tr,Z,J,rfl,W,hO⟩:=he;obtain⟨u0,us,rfl,r0,a0⟩:=cH W;obtain⟨rfl,rfl,rfl⟩:=bF a0;have a2:=bj hO;obtain rfl:=bG a2;exact⟨m',Z,J,r0⟩
theorem K1:Ctr Sz prog 102 [.rd (.sl (.st 32))] [.rd (.sl (.int .i64)),.rd .bool] (λx=>lM x.1):=
 ncR [] [2,3] func102 ntmps102 (.s .o (.s .o (.s (.s .o (.b (.l ⟨[.v 4 1 (.dat (.sl (.int .i64)) (some 0)),.v 9 1 (.dat (.int .i64) none)],[7,8],0,[1]⟩ .o))) .o))) λx=>by kernel_rfl
theorem yf (hS:S W0 m w L TL) {p0}(a2:RV (kSl kAp) m v0 p0) {r}(h:lM p0=some r):
    Calls prog 102 #[v0] w (Ret λv w'=>∃m',M.le m m'/\S W0 m' w' L TL/\∃v0_ v1_:Value,v= .tuple #[v0_,v1_]/\RV (kSl (aj .i64)) m' v0_ r.1/\RV cj m' v1_ r.2):=by
 refine rm (K1 W0 m w L TL [v0] (p0,()) r [] [] hS ⟨a2,trivial⟩ h) λv w' he=>?_;obtain⟨m',us,Lr,Lq,Tr,Z,J,rfl,W,hO⟩:=he;obtain⟨u0,us,rfl,r0,a0⟩:=cH W;obtain⟨u1,us,rfl,r1,a1⟩:=cH a0;obtain⟨rfl,rfl,rfl⟩:=bF a1;have a3:=bj hO;obtain rfl:=bG a3;exact⟨m',Z,J,u0,u1,rfl,r0,r1⟩
theorem yg (hS:S W0 m w L TL) {p0}(e9:RV (kSl kAp) m v0 p0) {r}(h:ko p0=some r):
    Calls prog 146 #[v0] w (Ret λv w'=>∃m',M.le m m'/\S W0 m' w' L TL/\RV (kSl bT) m' v r):=by
 refine kc func146 ntmps146 λa E=>?_;have E:Env 48 a [(0,v0)]:=E;unfold ko at h;refine ab (ai (qA E rfl λa E=>ag (yE (ab (ai (qA E rfl λa E=>ag (ab ?_)))))));refine Da (ab (ab (ai (qM E rfl λa E=>sp E (aV (k:=kAp) E rfl rfl underlying22 e9) rfl λa E=>qM E rfl λa E=>ag ?_))));refine cF (λa w=>∃x8:(List aL),kZ x8=some r/\∃m',M.le m m'/\∃(v9:Value),RV (kSl bT) m' v9 x8/\S W0 m' w L TL/\Env 48 a [(3,v9)]) ?_ ?_
 {
 refine aY ?_;refine eX h (λ(s:Int×List aL) a w=>∃m',M.le m m'/\∃(a9:List Value),∃(a6:Nat),∃(a1:Value),inR .i64 s.1/\GS bT m' a6 a9 a1 s.2/\S W0 m' w ((a6,a9)::L) (TL)/\Env 48 a [(3,a1),(7,v0),(8,.int .i64 (p0.length:Int)),(9,.int .i64 s.1)]) ?_ ?_
 {exact⟨_,(Jn _),[],0,(.slice none 0 0),(show inR .i64 0 from ax (by decide)),GS.void,(hS.void 0),kut E⟩}
 {
 rintro ⟨a4,a0⟩ a w ⟨e3,c4,a9,a6,a1,n1,a3,hS,E⟩ r23 h hb24;have h:jv p0 a4 a0=some r23:=h;unfold jv at h;refine ab (ai (qB E rfl rfl cz λa E=>ag (ab (kif E rfl (λd0=>?_) (λd0=>?_)))))
 {
 have h:=aD d0 h;refine aW (ab ?_);refine cF (λa w=>∃c1:(List aL),g8 a4 c1=some r23/\∃m',M.le e3 m'/\∃(b7:List Value),∃(c0:Nat),∃(b6:Value),GS bT m' c0 b7 b6 c1/\S W0 m' w ((c0,b7)::L) (TL)/\Env 48 a [(3,b6),(7,v0),(8,.int .i64 (p0.length:Int)),(9,.int .i64 a4)]) ?_ ?_
 {
 refine aY (ab (ai ?_));obtain⟨b3,m2,h⟩:=ob h;refine st E (dx (k:=kAp) E rfl rfl underlying22 sizeOf32 (e9.mono c4) m2) rfl ?_;rintro o1 a _ ⟨rfl,f5⟩ E;refine st E (bh E hS ej rfl f5) rfl ?_;rintro p3 a _ ⟨rfl,i0⟩ E;refine st E (cP hS zeroValue32 rfl (cs:=tL)) rfl ?_;rintro _ a w ⟨a5,rfl,hS⟩ E;refine st0 E (cD E hS ej bO rfl rfl i0 (i:=0) rfl (oC _)) ?_;rintro _ w ⟨b5,e6,hS⟩ E;refine ag (ab (ab (ai (qM E rfl λa E=>sp E (pa (k:=bT) E rfl rfl underlying185 a3) rfl λa E=>qM E rfl λa E=>ag ?_))))
 refine cF (λa w=>k8 a4 a0 b3=some r23/\∃m',M.le e3 m'/\S W0 m' w ((a5,b5)::(a6,a9)::L) (TL)/\Env 48 a [(3,a1),(5,pz a5),(7,v0),(8,.int .i64 (p0.length:Int)),(9,.int .i64 a4)]) ?_ ?_
 {
 refine aY ?_;refine eX h (λ(s:Int) a w=>∃m',M.le e3 m'/\inR .i64 s/\S W0 m' w ((a5,b5)::(a6,a9)::L) (TL)/\Env 48 a [(3,a1),(5,pz a5),(7,v0),(8,.int .i64 (p0.length:Int)),(9,.int .i64 a4),(14,.int .i64 (a0.length:Int)),(15,.int .i64 s)]) ?_ ?_
 {exact⟨_,(Jn _),(show inR .i64 0 from ax (by decide)),hS,kut E⟩}
 {
 rintro W a w ⟨c2,a2,d1,hS,E⟩ r77 h hb78;have h:dV a4 a0 b3 W=some r77:=h;unfold dV at h;refine ab (ai (qB E rfl rfl cz λa E=>ag (ab (kif E rfl (λe0=>?_) (λe0=>?_)))))
 {
 have h:=aD e0 h;refine aW (ab (aY (ab (ai (qM E rfl λa E=>qA E rfl λa E=>ag (ab ?_))))));refine cF (λa w=>∃c5:Bool,fZ a4 a0 W c5=some r77/\∃m',M.le c2 m'/\S W0 m' w ((a5,b5)::(a6,a9)::L) (TL)/\Env 48 a [(3,a1),(5,pz a5),(6,.int .i64 W),(7,v0),(8,.int .i64 (p0.length:Int)),(9,.int .i64 a4),(14,.int .i64 (a0.length:Int)),(15,.int .i64 W),(31,.bool c5)]) ?_ ?_
 {
 rcases zw (W==(Q0.wrap ((a0.length:Int) - 1))) with hd111|hd111
 {
 have h:=aD hd111 h;obtain⟨e7,l2,e5,f4,h⟩:=ob2 h
 refine kch (k:=12) (m:=c2) (es:=[]) (Φ:=(λi m ws v=>match i with|0=>ei .i64 W v|1=>v=a1|2=>ei .i64 (a0.length:Int) v|3=>ei .i64 (Q0.wrap ((a0.length:Int) - 1)) v|4=>v=(.bool (W==(Q0.wrap ((a0.length:Int) - 1))))|5=>v=(.bool (W==(Q0.wrap ((a0.length:Int) - 1))))|6=>v=a1|7=>ei .i64 W v|8=>v=(.pointer (some ⟨a6,e7*5,none⟩))|9=>v=(.pointer (some ⟨a6,e7*5+1,none⟩))|10=>RV kAp m v e5.fValue|11=>RV kAp m v b3|_=>True)) (Q:=(λc m ws L' d2=>match c with|0=>(a5,b5)::(a6,a9)::L=L'/\TL=d2|_=>False)) (cs:=[xV [(6,.int .i64 W)],xV [(3,a1)],xV [],xV [],xV [],xV [],xV [(3,a1)],xV [(6,.int .i64 W)],xV [],xV [],xV [],xV [(5,pz a5)]]) mixed E hS ⟨rfl,rfl⟩ rfl rfl (by kernel_rfl) ?_ ?_ ?_ ?_
 {
 intro i m_ c7 ws v n_ q_
 iterate 12 (rcases i with _|i;first|exact q_|exact RV.mono q_ n_)
 exact trivial}
 {
 intro c m_ c7 ws L_ T_ n_ b0
 match c,b0 with
 |0,⟨c6,c3⟩=>exact⟨c6,c3⟩
 |_+1,b0=>exact b0.elim}
 {
 refine⟨?_,?_,?_,?_,?_,?_,?_,?_,?_,?_,?_,?_,trivial⟩
 {exact cmv λ_ _=>⟨rfl,d1⟩}
 {exact cmv λ_ _=>rfl}
 {refine cp1 λ_ _ _ _ _ M' Q' J Z T'=>?_;obtain⟨rfl,rfl⟩:=Q';have E:=Z.add (T' 1);exact cq (pa (k:=bT) E rfl rfl underlying185 (a3.mono (zh a2 M'))) J ⟨rfl,(dR (GS.len (a3.mono (zh a2 M'))))⟩}
 {refine cp0 λ_ _ _ _ _ _ _ _ _ J Z T'=>?_;have E:=Z.add (T' 2).1;exact cq (be E rfl rfl (ku rfl)) J ⟨rfl,(aI _ _)⟩}
 {refine cp0 λ_ _ _ _ _ _ _ _ _ J Z T'=>?_;have E:=(Z.add (T' 0).1).add (T' 3).1;exact cq (be E rfl rfl iK) J rfl}
 {refine cp0 λ_ _ _ _ _ _ _ _ _ J Z T'=>?_;have E:=Z.add (T' 4);exact cq (iJ E rfl) J rfl}
 {exact cgm (gz hd111) (λ_ _=>rfl)}
 {exact cgm (gz hd111) (λ_ _=>⟨rfl,d1⟩)}
 {refine cg1 (gz hd111) λ_ _ _ _ _ M' Q' J Z T'=>?_;obtain⟨rfl,rfl⟩:=Q';have E:=(Z.add (T' 6)).add (T' 7).1;exact cq (kJ (k:=bT) E rfl rfl underlying185 sizeOf187 (a3.mono (zh a2 M')) l2 rfl) J rfl}
 {refine cg0 (gz hd111) λ_ _ _ _ _ _ _ _ _ J Z T'=>?_;have E:=Z.add (T' 8);exact cq (aG E BJ rfl) J rfl}
 {refine cg1 (gz hd111) λ_ _ _ _ _ M' Q' J Z T'=>?_;obtain⟨rfl,rfl⟩:=Q';have E:=Z.add (T' 9);exact cr (aB E J ej rfl (i:=1) rfl (Ia.R_drop (GS.elem (a3.mono (zh a2 M')) f4))) J λ_ h=>h}
 {refine cg1 (gz hd111) λ_ _ _ _ _ M' Q' J Z _=>?_;obtain⟨rfl,rfl⟩:=Q';exact cr (aB Z J ej rfl (i:=0) rfl (aJ (kAp.mono (zh a2 M') e6))) J λ_ h=>h}}
 {
 intro j4 L_ T_ n4 a w f6 i1 i3 hS g0 h1 h6 b2;obtain rfl:=gQ f6;obtain⟨rfl,rfl⟩:=i3;have E:=eof 12 [(3,a1),(5,pz a5),(6,.int .i64 W),(7,v0),(8,.int .i64 (p0.length:Int)),(9,.int .i64 a4),(14,.int .i64 (a0.length:Int)),(15,.int .i64 W),(16,.bool (decide (W<(a0.length:Int)))),(17,.int .i64 W)] g0 h1 h6;have E:=((((E.add (b2 5)).add (b2 6)).add (b2 7).1).add (b2 8)).add (b2 9);obtain⟨n2,E,k3⟩:=adv E (b2 10);obtain⟨n3,E,g3⟩:=adv E (b2 11)
 refine spg E rfl rfl rfl rfl hd111 (vh E w9 rfl rfl k3 g3 rfl) rfl λa E=>qT E hd111 rfl λa E=>ag ?_;exact⟨(decide (e5.fValue=b3)),h,_,i1,hS,kut E⟩}}
 {
 have h:=aH hd111 h
 refine kch (k:=12) (m:=c2) (es:=[]) (Φ:=(λi m ws v=>match i with|0=>ei .i64 W v|1=>v=a1|2=>ei .i64 (a0.length:Int) v|3=>ei .i64 (Q0.wrap ((a0.length:Int) - 1)) v|4=>v=(.bool (W==(Q0.wrap ((a0.length:Int) - 1))))|5=>v=(.bool (W==(Q0.wrap ((a0.length:Int) - 1))))|6=>v=undef|7=>v=undef|8=>v=undef|9=>v=undef|10=>v=undef|11=>v=undef|_=>True)) (Q:=(λc m ws L' d2=>match c with|0=>(a5,b5)::(a6,a9)::L=L'/\TL=d2|_=>False)) (cs:=[xV [(6,.int .i64 W)],xV [(3,a1)],xV [],xV [],xV [],xV [],xV [(3,a1)],xV [(6,.int .i64 W)],xV [],xV [],xV [],xV [(5,pz a5)]]) mixed E hS ⟨rfl,rfl⟩ rfl rfl (by kernel_rfl) ?_ ?_ ?_ ?_
 {
 intro i m_ c7 ws v n_ q_
 iterate 12 (rcases i with _|i;exact q_)
 exact trivial}
 {
 intro c m_ c7 ws L_ T_ n_ b0
 match c,b0 with
 |0,⟨c6,c3⟩=>exact⟨c6,c3⟩
 |_+1,b0=>exact b0.elim}
 {
 refine⟨?_,?_,?_,?_,?_,?_,?_,?_,?_,?_,?_,?_,trivial⟩
 {exact cmv λ_ _=>⟨rfl,d1⟩}
 {exact cmv λ_ _=>rfl}
 {refine cp1 λ_ _ _ _ _ M' Q' J Z T'=>?_;obtain⟨rfl,rfl⟩:=Q';have E:=Z.add (T' 1);exact cq (pa (k:=bT) E rfl rfl underlying185 (a3.mono (zh a2 M'))) J ⟨rfl,(dR (GS.len (a3.mono (zh a2 M'))))⟩}
 {refine cp0 λ_ _ _ _ _ _ _ _ _ J Z T'=>?_;have E:=Z.add (T' 2).1;exact cq (be E rfl rfl (ku rfl)) J ⟨rfl,(aI _ _)⟩}
 {refine cp0 λ_ _ _ _ _ _ _ _ _ J Z T'=>?_;have E:=(Z.add (T' 0).1).add (T' 3).1;exact cq (be E rfl rfl iK) J rfl}
 {refine cp0 λ_ _ _ _ _ _ _ _ _ J Z T'=>?_;have E:=Z.add (T' 4);exact cq (iJ E rfl) J rfl}
 {exact csk (gz hd111)}
 {exact csk (gz hd111)}
 {exact csk (gz hd111)}
 {exact csk (gz hd111)}
 {exact csk (gz hd111)}
 {exact csk (gz hd111)}}
 {intro j4 L_ T_ o0 a w i2 h4 i4 hS g6 k7 m1 b1;obtain rfl:=gQ i2;obtain⟨rfl,rfl⟩:=i4;have E:=eof 12 [(3,a1),(5,pz a5),(6,.int .i64 W),(7,v0),(8,.int .i64 (p0.length:Int)),(9,.int .i64 a4),(14,.int .i64 (a0.length:Int)),(15,.int .i64 W),(16,.bool (decide (W<(a0.length:Int)))),(17,.int .i64 W)] g6 k7 m1;have E:=((((((E.add (b1 5)).add (b1 6)).add (b1 7)).add (b1 8)).add (b1 9)).add (b1 10)).add (b1 11);refine qX E hd111 λa E=>qF E hd111 rfl λa E=>ag ?_;exact⟨false,h,_,h4,hS,kut E⟩}}}
 {
 rintro a w ⟨c5,h,o2,b4,hS,E⟩;unfold fZ at h;refine kif E rfl (λe1=>?_) (λe1=>?_)
 {
 have h:=aD e1 h;refine ab (ai (qM E rfl λa E=>qM E rfl λa E=>?_));obtain⟨p4,m3,h⟩:=ob h;refine sp E (kJ (k:=bT) E rfl rfl underlying185 sizeOf187 (a3.mono (zh a2 b4)) m3 rfl) rfl λa E=>sp E (aG E xa rfl) rfl λa E=>?_;obtain⟨l4,h3,h⟩:=ob h;refine st E (aB E hS ty3 rfl (i:=1) rfl (H9.R_drop (GS.elem (a3.mono (zh a2 b4)) h3))) rfl ?_;rintro p2 a _ ⟨rfl,k5⟩ E;obtain⟨rfl,n6⟩:=aK k5;refine qB E rfl rfl (cy rfl) λa E=>?_;obtain⟨g2,g4,h⟩:=ob h
 refine sp E (kJ (k:=bT) E rfl rfl underlying185 sizeOf187 (a3.mono (zh a2 b4)) g4 rfl) rfl λa E=>sp E (aG E xa rfl) rfl λa E=>?_;obtain⟨x106,h5,h⟩:=ob h;refine st0 E (pP (k:=bT) E hS ty3 w7 (a3.mono (zh a2 b4)) h5 rfl rfl (au (aI _ _)) (i:=1) rfl) ?_;rintro _ w ⟨f0,m5,hS⟩ E;refine ag ?_;refine eJ rfl rfl ?_;have h:=cG h hb78;exact⟨(a0.set g2 ({ x106 with fMany:=Q0.wrap (l4.fMany+1) })),h,_,(zh a2 b4),f0,a6,a1,m5,(hS.pickL 2 [1] rfl rfl rfl),kut E⟩}
 {have h:=aH e1 h;refine aW (ai (qB E rfl rfl (cy rfl) λa E=>qM E rfl λa E=>ag ?_));exact⟨Q0.wrap (W+1),(Option.some.inj h).symm,_,(zh a2 b4),(aI _ _),hS,kut E⟩}}}
 {have h:=aH e0 h;refine eJ rfl rfl ?_;have h:=cG h hb78;exact⟨h,_,a2,hS,kut E⟩}}}
 {
 rintro a w ⟨h,k6,e4,hS,E⟩;unfold k8 at h;refine ai (qM E rfl λa E=>?_);refine st E (aB E hS ej rfl (i:=0) rfl (aJ (kAp.mono e4 e6))) rfl ?_;rintro h2 a _ ⟨rfl,k4⟩ E;refine st E (rF (m:=k6) (k:=bT) (x0:=aL.zero) (xx:=(⟨1,b3⟩:aL)) (pl:=[(0,1),(1,4)]) (pv:=[(0,.int .i64 1),(1,h2)]) E rfl underlying187 rfl zeroValue187 CW rfl (.cons rfl w7 (au (show inR .i64 1 from ax (by decide))) (.cons rfl BE k4 .nil))) rfl ?_;rintro h8 a _ ⟨rfl,m4⟩ E
 refine st E (jq (k:=bT) (xs:=[(⟨1,b3⟩:aL)]) (vs:=[h8]) E hS rfl underlying185 sizeOf187 zeroValue187 ⟨m4,trivial⟩ rfl (by decide)) rfl ?_;rintro m8 a w ⟨m9,e8,hS,f3⟩ E;obtain⟨g5,k0,h⟩:=ob h;refine st E (tX (k:=bT) (N:=2932031007402) E hS rfl rfl underlying185 GY (i:=1) rfl (a3.mono (zh e4 e8)) (sX hS underlying185 f3) k0 rfl rfl) rfl ?_;rintro l1 a w ⟨h0,l3,i5,hS⟩ E;refine qA E rfl λa E=>ag ?_;exact⟨g5,h,_,(zh e4 e8),l3,h0,l1,i5,((hS.pickL 2 [1] rfl rfl rfl).pickT 1 [] rfl rfl rfl),kut E⟩}}
 {rintro a w ⟨c1,h,o3,m7,b7,c0,b6,h7,hS,E⟩;unfold g8 at h;refine ai (qB E rfl rfl (cy rfl) λa E=>qM E rfl λa E=>ag ?_);exact⟨(Q0.wrap (a4+1),c1),(Option.some.inj h).symm,_,(zh c4 m7),b7,c0,b6,(aI _ _),h7,hS,kut E⟩}}
 {have h:=aH d0 h;obtain⟨n0,j2,hS,j1⟩:=S.freeze hS a3;refine eJ rfl rfl ?_;have h:=cG h hb24;exact⟨a0,h,_,(zh c4 j2),a1,j1,hS,kut E⟩}}}
 {
 rintro a w ⟨x8,h,m6,g1,v9,h9,hS,E⟩;unfold kZ at h;refine ab (ai (qM E rfl λa E=>qA E rfl λa E=>ag (bq ?_)));obtain rfl:=oi h
 try dsimp only
 refine f1 E ?_;exact⟨_,g1,hS,h9⟩}
theorem K2:Ctr Sz prog 146 [.rd (.sl (.st 32))] [.rd (.sl (.st 187))] (λx=>ko x.1):=by
 intro W0 m w L TL vs x r Lp Tp hS hP h;obtain⟨v0,vs,rfl,a0,Z⟩:=it hP;obtain⟨rfl,rfl,rfl⟩:=lL Z;refine rm (yg (hS:=hS) a0 h) λv w' he=>?_;obtain⟨m',W,J,r0⟩:=he;exact⟨m',[v],[],[],[],W,J,rfl,⟨r0,trivial⟩,trivial⟩
def K3:=mC K2 call146
theorem K4:Ctr Sz prog 158 [.rd (.sl (.st 32))] [.rd .bool] (λx=>pj x.1):=
 ncR [AB] [2] func158 ntmps158 (.s .o (.s (.s .o (.b (.l ⟨[.v 7 1 (.dat (.int .i64) none)],[0,5,6],0,[]⟩ .o))) .o)) λx=>by kernel_rfl
def K5:=mC K4 call158
theorem AC (hS:S W0 m w L ((1,v0)::TL)) {p0}(b5:RV (kSl (aj .u8)) m v0 p0) {p1}(d0:inR .u64 p1) {r}(h:k9 p0 p1=some r):
    Calls prog 182 #[v0,(.int .u64 p1)] w (Ret λv w'=>∃m',M.le m m'/\S W0 m' w' L ((1,v)::TL)/\RV (kSl (aj .u8)) m' v r):=by
 refine kc func182 ntmps182 λa E=>?_;have E:Env 22 a [(0,v0),(1,.int .u64 p1)]:=E;unfold k9 at h;refine ab (ai (qA E rfl λa E=>ag (ab (ai ?_))));refine st E (cP hS zeroValue224 rfl (cs:=CX)) rfl ?_;rintro _ a w ⟨J,rfl,hS⟩ E;refine ag (ab (ab (ai (qM E rfl λa E=>ag ?_))));refine cF (λa w=>∃x7:(List Int),ma p0 x7=some r/\∃m',M.le m m'/\∃(a0:List Value),GS (aj .u8) m' J a0 (.slice (some ⟨J,0,none⟩) 8 8) x7/\S W0 m' w ((J,a0)::L) ((1,v0)::TL)/\Env 22 a [(0,v0),(5,pz J)]) ?_ ?_
 {
 refine aY ?_;refine eX h (λ(s:Int×List Int) a w=>∃m',M.le m m'/\∃(W:List Value),inR .i64 s.1/\GS (aj .u8) m' J W (.slice (some ⟨J,0,none⟩) 8 8) s.2/\S W0 m' w ((J,W)::L) ((1,v0)::TL)/\Env 22 a [(0,v0),(1,.int .u64 p1),(5,pz J),(7,.int .i64 s.1)]) ?_ ?_
 {exact⟨_,(Jn _),CX,(show inR .i64 0 from ax (by decide)),(MP _ _),hS,kut E⟩}
 {
 rintro ⟨a3,a2⟩ a w ⟨d1,a4,W,c6,a1,hS,E⟩ r27 h hb28;have h:j5 p0 p1 a3 a2=some r27:=h;unfold j5 at h;refine ab (ai (qB E rfl rfl cz λa E=>ag (ab (kif E rfl (λZ=>?_) (λZ=>?_)))))
 {
 have h:=aD Z h;refine aW (ab (aY (ab (ai (qM E rfl λa E=>qA E rfl λa E=>ag (ai (qM E rfl λa E=>?_)))))));refine qM E rfl λa E=>qM E rfl λa E=>qB E rfl rfl (GD rfl) λa E=>qB E rfl rfl (ku rfl) λa E=>?_;obtain⟨c2,b7,h⟩:=ob h;refine qB E rfl rfl (yk rfl (of_decide_eq_true (ng b7))) λa E=>sp E (fj E rfl underlying54 underlying5 rfl) rfl λa E=>?_;obtain⟨b3,a9,h⟩:=ob h;refine sp E (yR (k:=(aj .u8)) E rfl rfl underlying224 sizeOf5 (GS.arr_len a1) a9 rfl) rfl λa E=>?_;obtain⟨c7,b1,h⟩:=ob h
 refine st0 E (pP (k:=(aj .u8)) E hS ty5 bO a1 b1 rfl rfl (au (aI _ _)) (i:=0) rfl) ?_;rintro _ w ⟨a6,c0,hS⟩ E;refine ag (ai (qB E rfl rfl (cy rfl) λa E=>qM E rfl λa E=>ag ?_));exact⟨(Q0.wrap (a3+1),(a2.set b3 (Q5.wrap (aP .u64 p1 (Q0.wrap (56 - (Q0.wrap (8*a3)))))))),(Option.some.inj h).symm,_,a4,a6,(aI _ _),c0,hS,kut E⟩}
 {have h:=aH Z h;refine eJ rfl rfl ?_;have h:=cG h hb28;exact⟨a2,h,_,a4,W,a1,hS,kut E⟩}}}
 {
 rintro a w ⟨x7,h,m5,a5,a0,b4,hS,E⟩;unfold ma at h;refine ab (ai (qM E rfl λa E=>sp E (E8 (k:=(aj .u8)) E rfl underlying224 sizeOf5) rfl λa E=>?_));obtain⟨c5,b0,h⟩:=ob h;refine st E (wt (k:=(aj .u8)) (N:=140737488355328) E hS rfl rfl underlying24 el5 (i:=0) rfl (b5.mono a5) (A4 hS underlying24 (i:=0) rfl b4) b0 rfl rfl) rfl ?_;rintro c3 a w ⟨c4,c1,hS,b6⟩ E;refine qA E rfl λa E=>ag (bq ?_);obtain rfl:=oi h
 try dsimp only
 refine f1 E ?_;exact⟨_,(zh a5 c1),((hS.dropL 1).pickT 1 [0] rfl rfl rfl),b6⟩}
theorem K6:Ctr Sz prog 182 [.ap (.int .u8),.rd (.int .u64)] [.ap (.int .u8)] (λx=>k9 x.1 x.2.1):=by
 intro W0 m w L TL vs x r Lp Tp hS hP h;obtain⟨v0,vs,Tp,rfl,rfl,a0,a2⟩:=Mz hP;obtain⟨v1,vs,rfl,a1,a3⟩:=it a2;obtain⟨rfl,W⟩:=aK a1;obtain⟨rfl,rfl,rfl⟩:=lL a3;refine rm (AC (hS:=hS) a0 W h) λv w' he=>?_;obtain⟨m',Z,J,r0⟩:=he;exact⟨m',[v],[],[],[(1,v)],Z,J,rfl,⟨r0,rfl,trivial⟩,trivial⟩
def K7:=mC K6 call182
theorem K8:Ctr Sz prog 159 [.ap (.int .u8),.rd (.st 32)] [.ap (.int .u8)] (λx=>rT x.1 x.2.1):=
 ncR [K7] [4] func159 ntmps159 .o λx=>by kernel_rfl
def K9:=mC K8 call159
theorem La:Ctr Sz prog 112 [.rd (.sl (.st 32))] [.rd (.sl (.int .u8)),.rd (.int .i64)] (λx=>lN x.1):=
 ncR [K5,K9] [2,3] func112 ntmps112 (.s .o (.s .o (.s .o (.s (.s .o (.b (.l ⟨[.v 4 1 (.dat (.sl (.int .u8)) (some 0)),.v 16 1 (.dat (.int .i64) none)],[14,15],0,[1]⟩ .o))) .o)))) λx=>by kernel_rfl
def ER:=mC La call112
theorem ES:Ctr Sz prog 107 [.rd (.st 32)] [.rd (.sl (.int .u8))] (λx=>jK x.1):=
 ncR [ER] [2] func107 ntmps107 .o λx=>by kernel_rfl
def Lb:=mC ES call107
theorem tQ (hS:S W0 m w L TL) {p0}(a1:RV kAp m v0 p0) {r}(h:jK p0=some r):
    Calls prog 107 #[v0] w (Ret λv w'=>∃m',M.le m m'/\S W0 m' w' L TL/\RV (kSl (aj .u8)) m' v r):=by
 refine rm (ES W0 m w L TL [v0] (p0,()) r [] [] hS ⟨a1,trivial⟩ h) λv w' he=>?_;obtain⟨m',us,Lr,Lq,Tr,Z,J,rfl,W,hO⟩:=he;obtain⟨u0,us,rfl,r0,a0⟩:=cH W;obtain⟨rfl,rfl,rfl⟩:=bF a0;have a2:=bj hO;obtain rfl:=bG a2;exact⟨m',Z,J,r0⟩
theorem Ld:Ctr Sz prog 103 [.rd (.sl (.st 32))] [.ap (.int .u8)] (λx=>lO x.1):=
 ncR [Lb,K3] [2] func103 ntmps103 (.s .o (.s .o (.s (.s .o (.b (.l ⟨[.v 3 1 (.dat (.sl (.int .u8)) (some 0)),.v 9 1 (.dat (.int .i64) none)],[7,8],0,[1]⟩ .o))) .o))) λx=>by kernel_rfl
theorem yh (hS:S W0 m w L TL) {p0}(a1:RV (kSl kAp) m v0 p0) {r}(h:lO p0=some r):
    Calls prog 103 #[v0] w (Ret λv w'=>∃m',M.le m m'/\S W0 m' w' L ((1,v)::TL)/\RV (kSl (aj .u8)) m' v r):=by
 refine rm (Ld W0 m w L TL [v0] (p0,()) r [] [] hS ⟨a1,trivial⟩ h) λv w' he=>?_;obtain⟨m',us,Lr,Lq,Tr,Z,J,rfl,W,hO⟩:=he;obtain⟨u0,us,Tr,rfl,rfl,r0,a0⟩:=pW W;obtain⟨rfl,rfl,rfl⟩:=bF a0;have a2:=bj hO;obtain rfl:=bG a2;exact⟨m',Z,J,r0⟩
theorem Le:Ctr Sz prog 147 [.rd (.int .u64)] [.ap (.int .u8)] (λx=>kL x.1):=
 ncR [] [2] func147 ntmps147 (.s .o (.s .o (.s (.s .o (.b (.l ⟨[.v 3 1 (.dat (.sl (.int .u8)) (some 0)),.v 5 1 (.dat (.int .i64) none)],[0],0,[1]⟩ .o))) .o))) λx=>by kernel_rfl
def ET:=mC Le call147
theorem Lf:Ctr Sz prog 104 [.rd (.sl (.int .i64))] [.ap (.int .u8)] (λx=>kM x.1):=
 ncR [ET] [2] func104 ntmps104 (.s .o (.s .o (.s (.s .o (.b (.l ⟨[.v 3 1 (.dat (.sl (.int .u8)) (some 0)),.v 16 1 (.dat (.int .i64) none)],[0,14,15],0,[1]⟩ (.s .o (.s .o (.s (.b (.s .o (.s .o (.s .o (.s (.b (.l ⟨[.v 3 2 (.dat (.sl (.int .u8)) (some 0)),.v 7 2 (.dat (.int .u64) none)],[0,14,15,16],0,[1]⟩ .o)) .o))))) .o)))))) .o))) λx=>by kernel_rfl
theorem xc (hS:S W0 m w L TL) {p0}(a1:RV (kSl (aj .i64)) m v0 p0) {r}(h:kM p0=some r):
    Calls prog 104 #[v0] w (Ret λv w'=>∃m',M.le m m'/\S W0 m' w' L ((1,v)::TL)/\RV (kSl (aj .u8)) m' v r):=by
 refine rm (Lf W0 m w L TL [v0] (p0,()) r [] [] hS ⟨a1,trivial⟩ h) λv w' he=>?_;obtain⟨m',us,Lr,Lq,Tr,Z,J,rfl,W,hO⟩:=he;obtain⟨u0,us,Tr,rfl,rfl,r0,a0⟩:=pW W;obtain⟨rfl,rfl,rfl⟩:=bF a0;have a2:=bj hO;obtain rfl:=bG a2;exact⟨m',Z,J,r0⟩
theorem pM {J:Nat}{W:List Value}(hS:S W0 m w ((J,W)::L) (TL)) {p0}(a0:GS kAp m J W v0 p0) {p1}(Z:Fn2 prog kAp kAp (aj .i64) m v1 p1) {r}(h:jw p0 p1=some r):
    Calls prog 148 #[v0,v1] w (Ret λv w'=>∃m',M.le m m'/\∃q0_:List Value,S W0 m' w' ((J,q0_)::L) (TL)/\GS kAp m' J q0_ v0 r):=
  C1 (ρ:=uu) Ii isAgg32 sizeOf32 rfl hS a0 Z h
theorem Lg:Ctr Sz prog 150 [.rd (.sl (.st 32)),.rd (.st 32)] [.rd (.int .i64)] (λx=>gv x.1 x.2.1):=
 ncR [] [4] func150 ntmps150 (.s .o (.s (.s .o (.b (.l ⟨[.v 8 1 (.dat (.int .i64) none)],[0,3,7],1,[]⟩ .o))) .o)) λx=>by kernel_rfl
theorem sy (hS:S W0 m w L TL) {p0}(a1:RV (kSl kAp) m v0 p0) {p1}(W:RV kAp m v1 p1) {r}(h:gv p0 p1=some r):
    Calls prog 150 #[v0,v1] w (Ret λv w'=>∃m',M.le m m'/\S W0 m' w' L TL/\RV (aj .i64) m' v r):=by
 refine rm (Lg W0 m w L TL [v0,v1] (p0,p1,()) r [] [] hS ⟨a1,⟨W,trivial⟩⟩ h) λv w' he=>?_;obtain⟨m',us,Lr,Lq,Tr,hm,J,rfl,Z,hO⟩:=he;obtain⟨u0,us,rfl,r0,a0⟩:=cH Z;obtain⟨rfl,rfl,rfl⟩:=bF a0;have a2:=bj hO;have a3:=bj a2;obtain rfl:=bG a3;exact⟨m',hm,J,r0⟩
theorem Lh:Ctr Sz prog 179 [.rd (.int .u32)] [.rd (.int .i64)] (λx=>Cn x.1):=
 ncR [] [2] func179 ntmps179 .o λx=>by kernel_rfl
def Li:=mC Lh call179
theorem Lj:Ctr Sz prog 154 [.rd (.int .u64)] [.rd (.int .i64)] (λx=>mJ x.1):=
 ncR [] [2] func154 ntmps154 .o λx=>by kernel_rfl
def EU:=mC Lj call154
theorem EW:Ctr Sz prog 152 [.rd (.int .u64)] [.rd (.int .i64)] (λx=>nv x.1):=
 ncR [EU,Li] [2] func152 ntmps152 .o λx=>by kernel_rfl
def Lk:=mC EW call152
theorem C2 (hS:S W0 m w L TL) {p0}(a1:inR .u64 p0) {r}(h:nv p0=some r):
    Calls prog 152 #[(.int .u64 p0)] w (Ret λv w'=>∃m',M.le m m'/\S W0 m' w' L TL/\RV (aj .i64) m' v r):=by
 refine rm (EW W0 m w L TL [(.int .u64 p0)] (p0,()) r [] [] hS ⟨au a1,trivial⟩ h) λv w' he=>?_;obtain⟨m',us,Lr,Lq,Tr,Z,J,rfl,W,hO⟩:=he;obtain⟨u0,us,rfl,r0,a0⟩:=cH W;obtain⟨rfl,rfl,rfl⟩:=bF a0;have a2:=bj hO;obtain rfl:=bG a2;exact⟨m',Z,J,r0⟩
theorem EX:Ctr Sz prog 151 [.rd (.sl (.int .u64)),.rd (.int .i64)] [.rd (.sl (.int .u8))] (λx=>iH x.1 x.2.1):=
 ncR [] [4] func151 ntmps151 (.s .o (.s .o (.s (.s .o (.b (.l ⟨[.v 19 1 (.dat (.int .i64) none),.a 0 1 (.int .u8) none],[1,5,17,18],1,[]⟩ (.s .o (.s .o (.s (.b (.s .o (.s .o (.b (.l ⟨[.v 25 2 (.dat (.int .i64) none),.a 0 2 (.int .u8) none],[1,5,6,7,17,18,19,24],1,[]⟩ .o))))) .o)))))) .o))) λx=>by kernel_rfl
def Ll:=mC EX call151
theorem wd (hS:S W0 m w L TL) {p0}(a1:RV (kSl (aj .u64)) m v0 p0) {p1}(W:inR .i64 p1) {r}(h:iH p0 p1=some r):
    Calls prog 151 #[v0,(.int .i64 p1)] w (Ret λv w'=>∃m',M.le m m'/\S W0 m' w' L TL/\RV (kSl (aj .u8)) m' v r):=by
 refine rm (EX W0 m w L TL [v0,(.int .i64 p1)] (p0,p1,()) r [] [] hS ⟨a1,⟨au W,trivial⟩⟩ h) λv w' he=>?_;obtain⟨m',us,Lr,Lq,Tr,hm,J,rfl,Z,hO⟩:=he;obtain⟨u0,us,rfl,r0,a0⟩:=cH Z;obtain⟨rfl,rfl,rfl⟩:=bF a0;have a2:=bj hO;have a3:=bj a2;obtain rfl:=bG a3;exact⟨m',hm,J,r0⟩
theorem pJ  {W:Nat}{a4:List Value}(hS:S W0 m w ((W,a4)::L) (TL)) {p0}(a3:GS kAp m W a4 v0 p0) {r}(h:du p0=some r):
    Calls prog 149 #[v0] w (Ret λv w'=>∃m',M.le m m'/\∃bq_:Nat,∃cq_:List Value,S W0 m' w' ((bq_,cq_)::L) (TL)/\GS kAp m' bq_ cq_ v r):=by
 refine kc func149 ntmps149 λa E=>?_;have E:Env 61 a [(0,v0)]:=E;unfold du at h;refine ab (ai (qA E rfl λa E=>ag (ab (ab (ai (qM E rfl λa E=>sp E (pa (k:=kAp) E rfl rfl underlying22 a3) rfl λa E=>qB E rfl rfl cz λa E=>?_))))));refine ag (kif E rfl (λe1=>?_) (λe1=>?_))
 {
 have h:=aD e1 h;refine ab (ai (qM E rfl λa E=>qA E rfl λa E=>ag (bq ?_)));obtain rfl:=oi h
 try dsimp only
 refine f1 E ?_;exact⟨_,(Jn _),W,a4,((hS.void 0).pickL 2 [1] rfl rfl rfl),a3⟩}
 {
 have h:=aH e1 h;refine aW (ab (ab (ai (qA E rfl λa E=>ag ?_))));refine cF (λa w=>eZ p0=some r/\∃m',M.le m m'/\S W0 m' w ((0,[])::(W,a4)::L) (TL)/\Env 61 a [(0,v0)]) ?_ ?_
 {
 refine aY ?_;refine eX h (λ(s:Int) a w=>∃m',M.le m m'/\inR .i64 s/\S W0 m' w ((0,[])::(W,a4)::L) (TL)/\Env 61 a [(0,v0),(3,.int .i64 s)]) ?_ ?_
 {exact⟨_,(Jn _),(show inR .i64 1 from ax (by decide)),(hS.void 0),kut E⟩}
 {
 rintro a1 a w ⟨f5,a2,c7,hS,E⟩ r18 h hb19;have h:fe p0 a1=some r18:=h;unfold fe at h;refine ab (ab (ai (qM E rfl λa E=>qM E rfl λa E=>sp E (pa (k:=kAp) E rfl rfl underlying22 (a3.mono a2)) rfl λa E=>qB E rfl rfl cz λa E=>ag (kif E rfl (λe3=>?_) (λe3=>?_)))))
 {
 have h:=aD e3 h;refine aW (ab ?_);refine cF (λa w=>fa a1=some r18/\∃m',M.le f5 m'/\S W0 m' w ((0,[])::(W,a4)::L) (TL)/\Env 61 a [(0,v0),(3,.int .i64 a1)]) ?_ ?_
 {
 refine aY (ab ?_);obtain⟨l1,g1,g2,i5,h⟩:=ob2 h;obtain⟨h0,g5,o0,g4,h⟩:=ob2 h
 refine kch (k:=9) (m:=f5) (es:=[]) (Φ:=(λi m ws v=>match i with|0=>v=v0|1=>ei .i64 a1 v|2=>v=(.pointer (some ⟨W,l1*4,none⟩))|3=>RV kAp m v g2|4=>v=v0|5=>ei .i64 a1 v|6=>ei .i64 (Q0.wrap (a1 - 1)) v|7=>v=(.pointer (some ⟨W,h0*4,none⟩))|8=>RV kAp m v o0|_=>True)) (Q:=(λc m ws L' e0=>match c with|0=>(0,[])::(W,a4)::L=L'/\TL=e0|_=>False)) (cs:=[xV [(0,v0)],xV [(3,.int .i64 a1)],xV [],xV [],xV [(0,v0)],xV [(3,.int .i64 a1)],xV [],xV [],xV []]) mixed E hS ⟨rfl,rfl⟩ rfl rfl (by kernel_rfl) ?_ ?_ ?_ ?_
 {
 intro i m_ d0 ws v n_ q_
 iterate 9 (rcases i with _|i;first|exact q_|exact RV.mono q_ n_)
 exact trivial}
 {
 intro c m_ d0 ws L_ T_ n_ a6
 match c,a6 with
 |0,⟨c6,c2⟩=>exact⟨c6,c2⟩
 |_+1,a6=>exact a6.elim}
 {
 refine⟨?_,?_,?_,?_,?_,?_,?_,?_,?_,trivial⟩
 {exact cmv λ_ _=>rfl}
 {exact cmv λ_ _=>⟨rfl,c7⟩}
 {refine cp1 λ_ _ _ _ _ M' Q' J Z T'=>?_;obtain⟨rfl,rfl⟩:=Q';have E:=(Z.add (T' 0)).add (T' 1).1;exact cq (kJ (k:=kAp) E rfl rfl underlying22 sizeOf32 (a3.mono (zh a2 M')) g1 rfl) J rfl}
 {refine cp1 λ_ _ _ _ _ M' Q' J Z T'=>?_;obtain⟨rfl,rfl⟩:=Q';have E:=Z.add (T' 2);exact cr (aB E J ej rfl (i:=1) rfl (GS.elem (a3.mono (zh a2 M')) i5)) J λ_ h=>h}
 {exact cmv λ_ _=>rfl}
 {exact cmv λ_ _=>⟨rfl,c7⟩}
 {refine cp0 λ_ _ _ _ _ _ _ _ _ J Z T'=>?_;have E:=Z.add (T' 5).1;exact cq (be E rfl rfl (ku rfl)) J ⟨rfl,(aI _ _)⟩}
 {refine cp1 λ_ _ _ _ _ M' Q' J Z T'=>?_;obtain⟨rfl,rfl⟩:=Q';have E:=(Z.add (T' 4)).add (T' 6).1;exact cq (kJ (k:=kAp) E rfl rfl underlying22 sizeOf32 (a3.mono (zh a2 M')) g5 rfl) J rfl}
 {refine cp1 λ_ _ _ _ _ M' Q' J Z T'=>?_;obtain⟨rfl,rfl⟩:=Q';have E:=Z.add (T' 7);exact cr (aB E J ej rfl (i:=1) rfl (GS.elem (a3.mono (zh a2 M')) g4)) J λ_ h=>h}}
 {
 intro m3 L_ T_ e8 a w k3 b6 m7 hS n4 g6 n1 e7;obtain rfl:=gQ k3;obtain⟨rfl,rfl⟩:=m7;have E:=eof 9 [(0,v0),(3,.int .i64 a1),(10,.int .i64 a1),(11,v0),(12,.int .i64 (p0.length:Int)),(13,.bool (decide (a1<(p0.length:Int))))] n4 g6 n1;obtain⟨q5,E,i2⟩:=adv E (e7 3);obtain⟨q4,E,i4⟩:=adv E (e7 8);refine sp E (vh E w9 rfl rfl i2 i4 rfl) rfl λa E=>ag (kif E rfl (λd1=>?_) (λd1=>?_))
 {
 have h:=aD d1 h;refine ab (ai (qM E rfl λa E=>qM E rfl λa E=>?_));obtain⟨c4,o1,h⟩:=ob h;refine st E (rG (k:=kAp) E rfl underlying22 sizeOf32 (a3.mono (zh a2 b6)) ⟨_,rfl⟩ rfl o1 (sz:=4) rfl (xl:=(some (.tmp 27))) (xh:=none)) rfl ?_;rintro a5 a _ ⟨rfl,b5⟩ E;refine qA E rfl λa E=>ag (ab (ab (ai (qA E rfl λa E=>ag ?_))));refine cF (λa w=>∃b7:Int,∃c5:(List Ap),fc b7 c5=some r18/\∃m',M.le e8 m'/\∃(c3:List Value),inR .i64 b7/\GS kAp m' W c3 v0 c5/\S W0 m' w ((0,[])::(W,c3)::L) (TL)/\Env 61 a [(0,v0),(3,.int .i64 b7)]) ?_ ?_
 {
 refine aY ?_;refine eX h (λ(s:Int×Int×List Ap) a w=>∃m',M.le e8 m'/\∃(b0:List Value),inR .i64 s.1/\inR .i64 s.2.1/\GS kAp m' W b0 v0 s.2.2/\S W0 m' w ((0,[])::(W,b0)::L) (TL)/\Env 61 a [(0,v0),(3,.int .i64 s.1),(4,a5),(5,.int .i64 s.2.1)]) ?_ ?_
 {exact⟨_,(Jn _),a4,c7,(show inR .i64 1 from ax (by decide)),(a3.mono (zh a2 b6)),hS,kut E⟩}
 {
 rintro ⟨b3,a0,b4⟩ a w ⟨h3,f3,b0,f0,e6,a9,hS,E⟩ r133 h hb134;have h:fd c4 b3 a0 b4=some r133:=h;unfold fd at h;refine ab (ab (ai (qM E rfl λa E=>qM E rfl λa E=>?_)));obtain⟨p2,q6,h⟩:=ob h;refine sp E (IG (sz:=4) E rfl rfl underlying22 b5) rfl λa E=>qB E rfl rfl cz λa E=>ag (kif E rfl (λd2=>?_) (λd2=>?_))
 {
 have h:=aD d2 h;refine aW (ab (aY (ab ?_)));obtain⟨m4,n3,m8,o3,h⟩:=ob2 h;obtain⟨g3,j4,h9,f6,h⟩:=ob2 h
 refine kch (k:=9) (m:=h3) (es:=[]) (Φ:=(λi m ws v=>match i with|0=>v=a5|1=>ei .i64 a0 v|2=>v=(.pointer (some ⟨W,m4*4,none⟩))|3=>RV kAp m v m8|4=>v=a5|5=>ei .i64 a0 v|6=>ei .i64 (Q0.wrap (a0 - 1)) v|7=>v=(.pointer (some ⟨W,g3*4,none⟩))|8=>RV kAp m v h9|_=>True)) (Q:=(λc m ws L' e0=>match c with|0=>(0,[])::(W,b0)::L=L'/\TL=e0|_=>False)) (cs:=[xV [(4,a5)],xV [(5,.int .i64 a0)],xV [],xV [],xV [(4,a5)],xV [(5,.int .i64 a0)],xV [],xV [],xV []]) mixed E hS ⟨rfl,rfl⟩ rfl rfl (by kernel_rfl) ?_ ?_ ?_ ?_
 {
 intro i m_ d0 ws v n_ q_
 iterate 9 (rcases i with _|i;first|exact q_|exact RV.mono q_ n_)
 exact trivial}
 {
 intro c m_ d0 ws L_ T_ n_ a6
 match c,a6 with
 |0,⟨c6,c2⟩=>exact⟨c6,c2⟩
 |_+1,a6=>exact a6.elim}
 {
 refine⟨?_,?_,?_,?_,?_,?_,?_,?_,?_,trivial⟩
 {exact cmv λ_ _=>rfl}
 {exact cmv λ_ _=>⟨rfl,e6⟩}
 {refine cp0 λ_ _ _ _ _ _ _ _ _ J Z T'=>?_;have E:=(Z.add (T' 0)).add (T' 1).1;exact cq (uC (sz:=4) E rfl rfl underlying22 sizeOf32 b5 n3) J rfl}
 {refine cp1 λ_ _ _ _ _ M' Q' J Z T'=>?_;obtain⟨rfl,rfl⟩:=Q';have E:=Z.add (T' 2);exact cr (aB E J ej rfl (i:=1) rfl (GS.elem (a9.mono M') o3)) J λ_ h=>h}
 {exact cmv λ_ _=>rfl}
 {exact cmv λ_ _=>⟨rfl,e6⟩}
 {refine cp0 λ_ _ _ _ _ _ _ _ _ J Z T'=>?_;have E:=Z.add (T' 5).1;exact cq (be E rfl rfl (ku rfl)) J ⟨rfl,(aI _ _)⟩}
 {refine cp0 λ_ _ _ _ _ _ _ _ _ J Z T'=>?_;have E:=(Z.add (T' 4)).add (T' 6).1;exact cq (uC (sz:=4) E rfl rfl underlying22 sizeOf32 b5 j4) J rfl}
 {refine cp1 λ_ _ _ _ _ M' Q' J Z T'=>?_;obtain⟨rfl,rfl⟩:=Q';have E:=Z.add (T' 7);exact cr (aB E J ej rfl (i:=1) rfl (GS.elem (a9.mono M') f6)) J λ_ h=>h}}
 {
 intro m3 L_ T_ j1 a w j2 b1 h4 hS k0 m2 k6 f4;obtain rfl:=gQ j2;obtain⟨rfl,rfl⟩:=h4;have E:=eof 9 [(0,v0),(3,.int .i64 b3),(4,a5),(5,.int .i64 a0),(29,.int .i64 a0),(30,a5),(31,.int .i64 (c4.2:Int)),(32,.bool (decide (a0<(c4.2:Int))))] k0 m2 k6;obtain⟨q7,E,h6⟩:=adv E (f4 3);obtain⟨p6,E,n6⟩:=adv E (f4 8);refine sp E (sU E w9 rfl rfl h6 n6 rfl) rfl λa E=>ag ?_
 refine cF (λa w=>∃b2:Int,∃c1:(List Ap),cM a0 b2 c1=some r133/\∃m',M.le j1 m'/\∃(c0:List Value),inR .i64 b2/\GS kAp m' W c0 v0 c1/\S W0 m' w ((0,[])::(W,c0)::L) (TL)/\Env 61 a [(0,v0),(3,.int .i64 b2),(4,a5),(5,.int .i64 a0)]) ?_ ?_
 {
 refine kif E rfl (λe4=>?_) (λe4=>?_)
 {
 have h:=aD e4 h;refine ab (ai (qM E rfl λa E=>qM E rfl λa E=>qM E rfl λa E=>qM E rfl λa E=>?_));obtain⟨q0,l2,h⟩:=ob h;refine sp E (uC (sz:=4) E rfl rfl underlying22 sizeOf32 b5 l2) rfl λa E=>?_;obtain⟨i3,l4,h⟩:=ob h;refine st E (aB E hS ej rfl (i:=1) rfl (GS.elem (a9.mono b1) l4)) rfl ?_;rintro r2 a _ ⟨rfl,l3⟩ E;obtain⟨n2,k5,h⟩:=ob h;refine sp E (kJ (k:=kAp) E rfl rfl underlying22 sizeOf32 (a9.mono b1) k5 rfl) rfl λa E=>?_;obtain⟨q1,h7,h⟩:=ob h
 refine st0 E (pP (k:=kAp) E hS ej bO (a9.mono b1) h7 rfl rfl l3 (i:=1) rfl) ?_;rintro _ w ⟨k4,h5,hS⟩ E;refine ag (ai (qM E rfl λa E=>qB E rfl rfl (cy rfl) λa E=>qA E rfl λa E=>ag ?_));exact⟨(Q0.wrap (b3+1)),(b4.set n2 i3),h,_,(Jn _),k4,(aI _ _),h5,hS,kut E⟩}
 {have h:=aH e4 h;refine aW ?_;exact⟨b3,b4,h,_,(Jn _),b0,f0,(a9.mono b1),hS,kut E⟩}}
 {rintro a w ⟨b2,c1,h,p5,m5,c0,m1,n0,hS,E⟩;unfold cM at h;refine ai (qM E rfl λa E=>qB E rfl rfl (cy rfl) λa E=>qA E rfl λa E=>ag ?_);exact⟨(b2,Q0.wrap (a0+1),c1),(Option.some.inj h).symm,_,(zh f3 (zh b1 m5)),c0,m1,(aI _ _),n0,hS,kut E⟩}}}
 {have h:=aH d2 h;refine eJ rfl rfl ?_;have h:=cG h hb134;exact⟨b3,b4,h,_,f3,b0,f0,a9,hS,kut E⟩}}}
 {
 rintro a w ⟨b7,c5,h,p7,h8,c3,q2,e5,hS,E⟩;unfold fc at h;refine ab (ai (qM E rfl λa E=>qM E rfl λa E=>?_));obtain⟨p8,i1,h⟩:=ob h;refine st E (rG (k:=kAp) E rfl underlying22 sizeOf32 e5 ⟨_,rfl⟩ rfl i1 (sz:=4) rfl (xl:=(some (.tmp 55))) (xh:=none)) rfl ?_;rintro p3 a _ ⟨rfl,m6⟩ E;obtain⟨r0,g0,h⟩:=ob h;refine st0 E (Dh (k:=kAp) E hS rfl rfl underlying22 zeroValue32 (λm=>oC m) (i:=1) rfl e5 m6 g0) ?_;rintro _ w ⟨h1,h2,hS⟩ E;refine ag (ab (ai (qM E rfl λa E=>qM E rfl λa E=>?_)));obtain⟨r1,o2,h⟩:=ob h
 refine st E (Dg (k:=kAp) E rfl underlying22 sizeOf32 h2 rfl o2) rfl ?_;rintro p4 a _ ⟨rfl,k7⟩ E;refine qA E rfl λa E=>ag (bq ?_);have h:=cG h hb19;obtain rfl:=oi h
 try dsimp only
 refine f1 E ?_;exact⟨_,(zh a2 (zh b6 h8)),W,h1,(hS.pickL 2 [1] rfl rfl rfl),k7⟩}}
 {have h:=aH d1 h;refine aW ?_;exact⟨h,_,b6,hS,kut E⟩}}}
 {rintro a w ⟨h,q3,i0,hS,E⟩;unfold fa at h;refine ai (qM E rfl λa E=>qB E rfl rfl (cy rfl) λa E=>qA E rfl λa E=>ag ?_);exact⟨Q0.wrap (a1+1),(Option.some.inj h).symm,_,(zh a2 i0),(aI _ _),hS,kut E⟩}}
 {have h:=aH e3 h;refine eJ rfl rfl ?_;have h:=cG h hb19;exact⟨h,_,a2,hS,kut E⟩}}}
 {
 rintro a w ⟨h,m9,e9,hS,E⟩;unfold eZ at h;refine ab (ai (qM E rfl λa E=>qA E rfl λa E=>ag (bq ?_)));obtain rfl:=oi h
 try dsimp only
 refine f1 E ?_;exact⟨_,e9,W,a4,(hS.pickL 2 [1] rfl rfl rfl),(a3.mono e9)⟩}}
theorem l5 (hS:S W0 m w L TL) {p0}(J:RV (kSl kAp) m v0 p0) {r}(h:fp p0=some r):
    Calls prog 92 #[v0] w (Ret λv w'=>∃m',M.le m m'/\∃bq_:Nat,∃cq_:List Value,S W0 m' w' ((bq_,cq_)::L) (TL)/\GS kAp m' bq_ cq_ v r):=by
 refine kc func92 ntmps92 λa E=>?_;have E:Env 8 a [(0,v0)]:=E;unfold fp at h;refine ab (ai (qA E rfl λa E=>ag (ab (ab (ai (qM E rfl λa E=>?_))))));refine st E (uE (k:=kAp) E rfl rfl J underlying22) rfl ?_;rintro v5 a _ ⟨rfl,b0,rfl,a1⟩ E;refine ag (kif E rfl (λW=>?_) (λW=>?_))
 {
 have a0:=a1 W;have h:some ([]:List Ap)=some r:=by rw[a0] at h;exact h
 refine ab (ai (qA E rfl λa E=>ag (bq ?_)));obtain rfl:=oi h
 try dsimp only
 refine f1 E ?_;exact⟨_,(Jn _),0,[],(((hS.void 0).void 0).pickL 2 [0] rfl rfl rfl),GS.void⟩}
 {
 refine aW (ab (ai ?_));refine st E (Hi (k:=kAp) (m:=m) (xs:=[]) (vs:=[]) E (hS.void 0) rfl underlying22 sizeOf32 zeroValue32 trivial rfl (by decide)) rfl ?_;rintro a9 a w ⟨b3,b2,a4,hS⟩ E;refine qM E rfl λa E=>?_;obtain⟨a6,a2,h⟩:=ob h;refine st E (tX (k:=kAp) (N:=3518437208883) E hS rfl rfl underlying22 Am (i:=0) rfl a4 (sX hS underlying22 J) a2 rfl rfl) rfl ?_;rintro b1 a w ⟨a5,Z,a3,hS⟩ E;refine qA E rfl λa E=>ag (bq ?_);obtain rfl:=oi h
 try dsimp only
 refine f1 E ?_;exact⟨_,(Jn _),a5,Z,(hS.pickL 2 [0] rfl rfl rfl),a3⟩}
def kVR:Kd (aF×Value×Int):=ci bm (ci ww (aj .u64))
theorem G3 {m:M}{cs:List Value}{x:aa}(h:ah.R m cs x):∃rv,kVR.R m cs (x.fId,rv,x.fDeleted):=by
  obtain⟨W,⟨a,n,c,J,_⟩,h2⟩:=h;exact⟨.slice a n c,W,⟨J,rfl⟩,h2⟩
theorem Ny {m:M}{v W:Value}{x:aa}(h:RV kVR m v (x.fId,W,x.fDeleted))(J:RV (kSl kAp) m W x.fRow):RV ah m v x:=by
  obtain⟨cs,⟨Z,⟨h1,_⟩,h2⟩,rfl⟩:=h;obtain⟨ds,J,rfl⟩:=J;refine⟨cs,⟨Z,?_,h2⟩,rfl⟩;have e:=(kSl kAp).len J
  match ds,e with
  |[d],_=>exact(show(kSl kAp).R m ((cs.drop 2).take 1) x.fRow by rw[show(cs.drop 2).take 1=[d] from h1];exact J)
theorem GA:cI prog 59 kVR:=⟨sizeOf59,isAgg59⟩
theorem C3:cI prog 22 ww:=⟨sizeOf22,isAgg22⟩
theorem Lm:Fld kVR ww 2 (λx=>x.2.1):=bX eQ
theorem OS:StF kVR ww 2 (λx y=>(x.1,y,x.2.2)):=bL fG
theorem Ln {m:M}{b:Nat}{cs:List Value}{v:Value}{xs:List Ap}(h:GS kAp m b cs v xs):RV ww m v v:=by
  obtain⟨a,c,rfl,_⟩:=h.val;exact⟨[_],⟨rfl,rfl⟩,rfl⟩
theorem Ir (hS:S W0 m w L TL) {p0}(b0:RV ah m v0 p0) {r}(h:gY p0=some r):
    Calls prog 65 #[v0] w (Ret λv w'=>∃m',M.le m m'/\∃b cs W,S W0 m' w' ((b,cs)::L) (TL)/\RV kVR m' v (r.fId,W,r.fDeleted)/\GS kAp m' b cs W r.fRow):=by
 refine kc func65 ntmps65 λa E=>?_;have E:Env 8 a [(0,v0)]:=E;unfold gY at h;refine ab (ai ?_);refine st E (j3 (k:=ah) E hS rfl b0) rfl ?_;rintro _ a w ⟨b1,c1,rfl,J,hS⟩ E;refine st E (cP hS zeroValue59 rfl (cs:=xb)) rfl ?_;rintro _ a w ⟨b5,rfl,hS⟩ E;refine ag (ab (ai (sp E (aG E mW rfl) rfl λa E=>?_)));refine st E (aB E hS sq rfl (i:=1) rfl (JH.R_drop (aJ J))) rfl ?_;rintro v9 a _ ⟨rfl,a2⟩ E;obtain⟨a9,b2,h⟩:=ob h;refine st E (az (vs:=[v9]) E rfl call92 (l5 (hS:=hS) a2 (show fp p0.fRow=some a9 from b2))) rfl ?_;rintro a3 a w ⟨b6,a0,b3,a6,hS,Z⟩ E
 obtain⟨W,J⟩:=G3 J;refine sp E (aG E mW rfl) rfl λa E=>?_;refine st0 E (cD E hS C3 OS rfl rfl (Ln Z) (i:=2) rfl (kVR.mono a0 J)) ?_;rintro _ w ⟨b4,a4,hS⟩ E;refine ag (ab (ai ?_));refine st E (aB E hS GA rfl (i:=2) rfl (aJ a4)) rfl ?_;rintro b7 a _ ⟨rfl,a5⟩ E;refine st0 E (cD E hS GA bO rfl rfl a5 (i:=1) rfl (G3 (tN _)).choose_spec) ?_;rintro _ w ⟨c0,a1,hS⟩ E;refine ag (bq ?_);obtain rfl:=oi h
 try dsimp only
 refine Fin.mk E (rs:=[.cell 2 59]) rfl (o9.cell E hS GA rfl (i:=1) rfl (aJ a1) o9.nil) ?_;exact⟨_,a0,b3,a6,a3,hS.pickL 3 [0] rfl rfl rfl,wq (aJ a1),Z⟩
def kVF (F:Nat->Prop):Kd aa:={
  sz:=4
  agg:=true
  R:=λm cs x=>ah.R m cs x/\∀(J:Addr) (n c:Nat),cs[2]? =some (.slice (some J) n c)->0<n->F J.block
  mono:=λW h=>⟨ah.mono W h.1,h.2⟩
  len:=λh=>ah.len h.1
  one:=λh=>ah.one h.1
  pos:=by decide
  flat:=λh=>by cases h}
theorem Lo {F:Nat->Prop}{m:M}{v:Value}{x:aa}(h:RV (kVF F) m v x):RV ah m v x:=by
  obtain⟨cs,⟨J,_⟩,rfl⟩:=h;exact⟨cs,J,rfl⟩
theorem Nz {F:Nat->Prop}{m:M}{v:Value}{xs:List aa}(h:RV (kSl (kVF F)) m v xs):RV (kSl ah) m v xs:=by
  obtain⟨W,cap,rfl,h1,Z,J⟩:=iL h;refine dw h1 Z ?_;cases W with
  |none=>exact J
  |some W=>exact⟨J.1,λi hi=>(J.2 i hi).1⟩
theorem Is {F:Nat->Prop} (hF:∀b,m b=none->W0.heap.size<=b->F b) (hS:S W0 m w L TL) {p0} (a3:RV ah m v0 p0) {r} (h:gY p0=some r):
    Calls prog 65 #[v0] w (Ret λv w'=>∃m',M.le m m'/\S W0 m' w' L TL/\RV (kVF F) m' v r):=by
  refine(Ir hS a3 h).mono λe w' he=>?_;cases e with
  |panicked ch=>exact he.elim
  |outgrown=>exact he.elim
  |returned v=>
  obtain⟨m1,a2,b,cs,rv,a1,hv,hg⟩:=he
  have a5:∀W n c,rv= .slice (some W) n c->0<n->F W.block:=λW n c Z hn=>by
    obtain⟨_,⟨_,_,a,e2,_⟩|⟨cap,e2,hc,hl,_⟩⟩:=hg
    ·rw[e2] at Z;injection Z with _ J _;omega
    · rw[e2] at Z;injection Z with J e4 _
      injection J with J
      subst J;have hp:=kAp.pos
      obtain⟨h1,h2,_⟩:=a1.own 0 (b,cs) rfl (λe=>by
        simp only at e;rw[e,List.length_nil] at hl;have:0<cap*kAp.sz:=Nat.mul_pos (by omega) hp
        omega)
      refine hF _ ?_ h1;cases hx:m b with
      |none=>rfl
      |some l=>obtain⟨s,hs⟩:=a2 _ l hx;simp only at h2;rw[h2] at hs;cases hs
  obtain⟨m2,a0,a4,hr⟩:=S.freeze a1 hg;obtain⟨ds,hd,e⟩:=Ny (hv.mono a0) hr;obtain⟨cs',⟨_,⟨h4,_⟩,_⟩,e'⟩:=hv;refine⟨m2,a2.trans a0,a4,ds,⟨hd,λW n c h5 hn=>a5 W n c ?_ hn⟩,e⟩;have e2:kVR.val cs'=ah.val ds:=e'.symm.trans e
  have J:cs'=ds:=by
    have:Value.agg cs'.toArray=Value.agg ds.toArray:=e2;simpa using this
  subst J;have h4:(cs'.drop 2).take 1=[rv]:=h4
  have:cs'[2]? =some rv:=by
    have:=congrArg (·[0]?) h4;simpa[Q3,Q2] using this
  rw[this] at h5;injection h5
section
variable (F:Nat->Prop)
theorem OT:cI prog 59 (kVF F):=⟨sizeOf59,isAgg59⟩
theorem OU:∀m,(kVF F).R m xb aa.zero:=λm=>⟨tN m,λJ n c h=>by injection h with h;cases h⟩
def SzF:Sg:=I6 [(59,⟨aa,kVF F⟩)]
def tf3:TI prog (SzF F) 3:=kX underlying3 sizeOf3 isAgg3 zeroValue3 rfl (by decide)
def OV:TI prog (SzF F) 94:=kX underlying94 sizeOf94 isAgg94 zeroValue94 rfl (by decide)
def tf4:TI prog (SzF F) 4:=DP underlying4 sizeOf4 isAgg4 zeroValue4 rfl
def Lu:TI prog (SzF F) 59:=rS (OT F) zeroValue59 aa.zero (OU F)
def OW:TI prog (SzF F) 50:=rR _ (slI (Lu F) _ 48 underlying50 sizeOf59 CY type59 rfl rfl rfl) sizeOf50 isAgg50 zeroValue50 rfl
def ΓF:Tab prog (SzF F):=⟨rQ [⟨3,tf3 F⟩,⟨4,tf4 F⟩,⟨50,OW F⟩,⟨59,Lu F⟩,⟨94,OV F⟩],λ_=>none,λ_ _=>none,λ_=>none,λ_=>none,λ_=>none⟩
def mCF {f:FuncId}{ps:List Pm}{rs:List Rm}{g:cU (SzF F) ps->Option (aZ (SzF F) (fm ps rs))}(ok:Ctr (SzF F) prog f ps rs g)(h:∀vs w,(callFunc f vs).run prog w= .ok (.enter f vs) w):CS prog (SzF F):=⟨f,ps,rs,g,ok,h⟩
theorem Lw:Ctr (SzF F) prog 171 [.ow (.st 59),.rd (.int .i64),.rd (.int .i64),.f2 (.st 59) (.st 59) (.int .i64)] [] (λx=>bH x.1 x.2.1 x.2.2.1 x.2.2.2.1):=
 Ctr.nc (Γ:=ΓF F) (D:=[]) (c:=f171.body.getD .skip) (res:=[]) (.s .o (.b (.l ⟨[.v 8 1 (.dat (.int .i64) none),.a 0 1 (.st 59) none],[0,1,2,3],1,[]⟩ (.s .o (.s (.b (.s .o (.b (.l ⟨[.v 9 2 (.dat (.int .i64) none),.a 0 2 (.st 59) none],[0,1,2,3,8],1,[]⟩ .o)))) .o))))) rfl mixed func171 rfl ntmps171 rfl rfl (λx=>by kernel_rfl)
def LA:CS prog (SzF F):=⟨171,_,_,_,Lw F,call171⟩
theorem LB:Ctr (SzF F) prog 198 [.ow (.st 59),.rd (.int .i64),.rd (.int .i64),.rd (.int .i64),.f2 (.st 59) (.st 59) (.int .i64)] [] (λx=>bC x.1 x.2.1 x.2.2.1 x.2.2.2.1 x.2.2.2.2.1):=
 Ctr.nc (Γ:=ΓF F) (D:=[]) (c:=f198.body.getD .skip) (res:=[]) (.s .o (.b (.l ⟨[.v 10 1 (.dat (.int .i64) none),.a 0 1 (.st 59) none],[0,1,2,3],1,[]⟩ .o))) rfl mixed func198 rfl ntmps198 rfl rfl (λx=>by kernel_rfl)
def LC:CS prog (SzF F):=⟨198,_,_,_,LB F,call198⟩
theorem LD:Ctr (SzF F) prog 185 [.ow (.st 59),.rd (.int .i64),.rd (.int .i64),.rd (.int .i64),.f2 (.st 59) (.st 59) (.int .i64)] [] (λx=>bY x.1 x.2.1 x.2.2.1 x.2.2.2.1 x.2.2.2.2.1):=
 Ctr.nc (Γ:=ΓF F) (D:=[(LC F)]) (c:=f185.body.getD .skip) (res:=[]) (.s .o (.s .o (.s (.b (.l ⟨[.v 10 1 (.dat (.int .i64) none),.v 11 1 (.dat (.int .i64) none),.a 0 1 (.st 59) none],[0,2,4],1,[]⟩ .o)) .o))) rfl mixed func185 rfl ntmps185 rfl rfl (λx=>by kernel_rfl)
def LE:CS prog (SzF F):=⟨185,_,_,_,LD F,call185⟩
theorem Iu (self:cU (SzF F) [.ow (.st 59),.rd (.int .i64),.rd (.int .i64),.rd (.int .i64),.f2 (.st 59) (.st 59) (.int .i64)]->Option (aZ (SzF F) (fm [.ow (.st 59),.rd (.int .i64),.rd (.int .i64),.rd (.int .i64),.f2 (.st 59) (.st 59) (.int .i64)] [])))(hs:Ctr (SzF F) prog 172 [.ow (.st 59),.rd (.int .i64),.rd (.int .i64),.rd (.int .i64),.f2 (.st 59) (.st 59) (.int .i64)] [] self):Ctr (SzF F) prog 172 [.ow (.st 59),.rd (.int .i64),.rd (.int .i64),.rd (.int .i64),.f2 (.st 59) (.st 59) (.int .i64)] [] (λx=>cA (λh Z J W y4=>self (h,Z,J,W,y4,())) x.1 x.2.1 x.2.2.1 x.2.2.2.1 x.2.2.2.2.1):=
 Ctr.nc (Γ:=ΓF F) (D:=[(mCF F hs call172),(LE F)]) (c:=f172.body.getD .skip) (res:=[]) (.s (.s .o (.i (.s .o (.s .o (.s (.b (.l ⟨[.v 10 1 (.dat (.int .i64) none),.v 11 1 (.dat (.int .i64) none)],[0,1,4],1,[]⟩ .o)) (.s (.s .o (.b (.l ⟨[.v 13 1 (.dat (.int .i64) none),.a 0 1 (.st 59) none],[0,10],1,[]⟩ .o))) .o)))) .o)) (.s (.s .o (.i (.s .o (.s .o (.s (.b (.l ⟨[.v 14 1 (.dat (.int .i64) none),.v 15 1 (.dat (.int .i64) none)],[0,2,4],1,[]⟩ .o)) (.s (.s .o (.b (.l ⟨[.v 17 1 (.dat (.int .i64) none),.a 0 1 (.st 59) none],[0,14],1,[]⟩ .o))) .o)))) .o)) (.s .o (.s .o (.s .o (.s .o (.s .o (.s (.b (.l ⟨[.v 20 1 (.dat (.int .i64) none),.v 21 1 (.dat (.int .i64) none)],[0,1,2,3,4,18,19,22],1,[]⟩ .o)) .o)))))))) rfl mixed func172 rfl ntmps172 rfl rfl (λx=>by kernel_rfl)
theorem BM:∀n:Nat,Ctr (SzF F) prog 172 [.ow (.st 59),.rd (.int .i64),.rd (.int .i64),.rd (.int .i64),.f2 (.st 59) (.st 59) (.int .i64)] [] (λx=>bA n x.1 x.2.1 x.2.2.1 x.2.2.2.1 x.2.2.2.2.1)
  |0=>λW0 m w L TL vs x r Lp Tp hS J h=>nomatch (show(none:Option _)=some r from h)
  |n+1=>Iu F (λx=>bA n x.1 x.2.1 x.2.2.1 x.2.2.2.1 x.2.2.2.2.1) (BM n)
theorem LG:Ctr (SzF F) prog 172 [.ow (.st 59),.rd (.int .i64),.rd (.int .i64),.rd (.int .i64),.f2 (.st 59) (.st 59) (.int .i64)] [] (λx=>cd x.1 x.2.1 x.2.2.1 x.2.2.2.1 x.2.2.2.2.1):=λW0 m w L TL vs x r Lp Tp hS J h=>BM F (x.1.length+1) W0 m w L TL vs x r Lp Tp hS J h
def LH:CS prog (SzF F):=⟨172,_,_,_,LG F,call172⟩
theorem LI:Ctr (SzF F) prog 126 [.ow (.st 59),.rd (.int .i64),.f2 (.st 59) (.st 59) (.int .i64)] [] (λx=>dW x.1 x.2.1 x.2.2.1):=
 Ctr.nc (Γ:=ΓF F) (D:=[(LA F),(LH F)]) (c:=f126.body.getD .skip) (res:=[]) (.s .o (.s .o (.s (.b (.l ⟨[.v 7 1 (.dat (.int .i64) none),.v 8 1 (.dat (.int .i64) none),.a 0 1 (.st 59) none],[0,1,2,6],1,[]⟩ .o)) (.s .o (.b (.l ⟨[.v 6 1 (.dat (.int .i64) none),.a 0 1 (.st 59) none],[0,1,2],1,[]⟩ (.s .o (.b (.s .o (.s (.b (.l ⟨[.v 7 2 (.dat (.int .i64) none),.v 8 2 (.dat (.int .i64) none),.a 0 2 (.st 59) none],[0,1,2,6],1,[]⟩ .o)) .o)))))))))) rfl mixed func126 rfl ntmps126 rfl rfl (λx=>by kernel_rfl)
def LJ:CS prog (SzF F):=⟨126,_,_,_,LI F,call126⟩
theorem NA:Ctr (SzF F) prog 66 [.ow (.st 59),.f2 (.st 59) (.st 59) (.int .i64)] [] (λx=>bP x.1 x.2.1):=
 Ctr.nc (Γ:=ΓF F) (D:=[(LJ F)]) (c:=f66.body.getD .skip) (res:=[]) .o rfl mixed func66 rfl ntmps66 rfl rfl (λx=>by kernel_rfl)
theorem Iv  {J:Nat}{Z:List Value}(hS:S W0 m w ((J,Z)::L) (TL)) {p0}(a1:GS (kVF F) m J Z v0 p0) {p1}(a0:Fn2 prog (kVF F) (kVF F) (aj .i64) m v1 p1) {r}(h:bP p0 p1=some r):
    Calls prog 66 #[v0,v1] w (Ret λv w'=>∃m',M.le m m'/\∃W:List Value,S W0 m' w' ((J,W)::L) (TL)/\GS (kVF F) m' J W v0 r):=by
 refine rm (NA F W0 m w L TL [v0,v1] (p0,p1,()) r [(J,Z)] [] hS ⟨a1,⟨a0,trivial⟩⟩ h) λv w' he=>?_;obtain⟨m',us,Lr,Lq,Tr,hm,Z',rfl,hR,hO⟩:=he;obtain⟨rfl,rfl,rfl⟩:=bF hR;obtain⟨W,Lq,rfl,o0,a2⟩:=GQ hO;have a3:=vy a2;obtain rfl:=bG a3;exact⟨m',hm,W,Z',o0⟩
end
theorem fnF {F:Nat->Prop}{m:M}{J:Value}{f:aa->aa->Option Int}(h:Fn2 prog ah ah (aj .i64) m J f):Fn2 prog (kVF F) (kVF F) (aj .i64) m J f:=by
  obtain⟨g,cb,h1,h2,h3⟩:=h;exact⟨g,cb,h1,h2,λW0 m w L TL v0 v1 x0 x1 r W hS a0 a1 Z=>h3 W0 m w L TL v0 v1 x0 x1 r W hS (Lo a0) (Lo a1) Z⟩
theorem AD {m:M}{cs:List Value}{x:aa}{W:Addr}{n c:Nat}(h:ah.R m cs x)(hc:cs[2]? =some (.slice (some W) n c))(hn:0<n):W.spot=none/\n<=bU/\∃l,m W.block=some l/\W.off+n*4<=l.length/\ ¬ byt l:=by
  obtain⟨_,h1,_⟩:=h;obtain⟨a,k,cap,h1,hk,h3,h4,h5⟩:=(show(kSl kAp).R m ((cs.drop 2).take 1) x.fRow from h1)
  subst hk
  have e:cs[2]? =some (.slice a x.fRow.length cap):=by
    have:=congrArg (·[0]?) h1;simpa[Q3,Q2] using this
  rw[e] at hc;injection hc with hc
  injection hc with e1 e2 e3
  subst e1;subst e2;obtain⟨h6,h7⟩:=h5;refine⟨h6 (by omega),h4,?_⟩;have Z:=kAp.len (h7 (x.fRow.length - 1) (by omega));have h0:=h7 0 hn;unfold M.row at Z h0;have a1:kAp.sz=4:=rfl;rw[a1] at Z h0;cases hm:m W.block with
  |none=>rw[hm] at Z;simp at Z
  | some l=>
    rw[hm] at Z h0;simp only[List.length_take,List.length_drop] at Z;refine⟨l,rfl,by omega,λhb=>?_⟩;have J:(((l.drop (W.off+0*4)).take 4).take 1)=[.int .i64 (x.fRow[0]'hn).fKind]:=h0.1.1;have a0:W.off<l.length:=by omega
    rw[Nat.zero_mul,Nat.add_zero,List.drop_eq_getElem_cons a0,List.take_succ_cons,List.take_succ_cons] at J;obtain⟨k,hk⟩:=hb _ (List.getElem_mem a0);rw[hk] at J;injection J with J
    injection J with J
    cases J
theorem NB {F:Nat->Prop}{W0:Bse}{m:M}{w:World}{L:Mem}{TL:Tls}{b:Nat}{cs:List Value}{v:Value}{xs:List aa}(hS:S W0 m w ((b,cs)::L) TL)(hg:GS (kVF F) m b cs v xs):GS (kVF λb'=>F b'/\b'≠b) m b cs v xs/\∀h n c,v= .slice (some h) n c->0<n->h.block=b:=by
  obtain⟨Z,⟨rfl,rfl,a,rfl,ha⟩|⟨cap,rfl,h2,h3,J⟩⟩:=hg
  ·exact⟨⟨Z,.inl ⟨rfl,rfl,a,rfl,ha⟩⟩,λh n c e W=>by injection e with _ e _;omega⟩
  · refine⟨⟨Z,.inr ⟨cap,rfl,h2,h3,J.1,λi hi=>⟨(J.2 i hi).1,λh n c h5 W=>⟨(J.2 i hi).2 h n c h5 W,?_⟩⟩⟩⟩,λh n c e _=>by injection e with e _ _;injection e with e;rw[←e]⟩
    obtain⟨_,_,l,h6,_⟩:=AD (J.2 i hi).1 h5 W;intro e
    obtain⟨_,h7,_⟩:=hS.own 0 (b,cs) rfl (λe=>by
      simp only at e;subst e;rw[List.length_nil] at h3;have:0<cap*(kVF F).sz:=Nat.mul_pos (by omega) (kVF F).pos
      omega)
    simp only at h7;rw[e,h7] at h6;cases h6
open Classical in
theorem EY {W0:Bse} {mE W:M} {w:World} {L:Mem} {v:Value} {xs:List aa} {Z:Nat} (hS:S W0 W w L []) (a9:M.le mE W) (hv:RV (kSl (kVF λb=>(mE b=none/\W0.heap.size<=b)/\b≠Z)) W v xs) (hb:∀J n c,v= .slice (some J) n c->0<n->J.block=Z):
    ∃mK Lr ys,M.le mE mK/\S W0 mK w (Lr++L) []/\RV (kSl kVR) mK v ys/\∀y∈ys,GI (shp Lr) 4 y.2.1:=by
  obtain⟨a,cap,rfl,h1,h2,h3⟩:=iL hv
  obtain⟨o0,a1⟩:∃o0:Nat,∀J,a=some J->J.off=o0:=by
    cases a with
    |none=>exact⟨0,λJ e=>by cases e⟩
    |some J=>exact⟨J.off,λ_ e=>by injection e with e;rw[e]⟩
  let R:Nat->Bool:=λb=>decide (∃i,i<xs.length/\∃J n c,(W.row Z (o0+i*4) 4)[2]? =some (.slice (some J) n c)/\0<n/\J.block=b)
  have hx:∀i (hi:i<xs.length),(kVF λb=>(mE b=none/\W0.heap.size<=b)/\b≠Z).R W (W.row Z (o0+i*4) 4) xs[i]:=λi hi=>by
    cases a with
    |none=>simp only at h3;omega
    | some J=>
      have:=h3.2 i hi;rw[hb J _ _ rfl (by omega),a1 J rfl] at this;exact this
  have hR:∀b,R b=true->(mE b=none/\W0.heap.size<=b)/\b≠Z/\∃l,W b=some l/\ ¬ byt l:=λb hb=>by
    obtain⟨i,hi,J,n,c,h4,h5,rfl⟩:=of_decide_eq_true hb;obtain⟨h6,h7⟩:=(hx i hi).2 J n c h4 h5;obtain⟨_,_,l,h8,_,h9⟩:=AD (hx i hi).1 h4 h5;exact⟨h6,h7,l,h8,h9⟩
  have a4:=hS.release R λb hb=>by
    obtain⟨⟨_,h4⟩,_,l,h5,h6⟩:=hR b hb;exact⟨l,h5,h4,h6⟩
  have a5:R Z=false:=by
    cases h:R Z with
    |false=>rfl
    |true=>exact absurd rfl (hR Z h).2.1
  obtain⟨ys,a0,hy⟩:=A9 (Q:=λi y=>kVR.R W (W.row Z (o0+i*4) 4) y/\GI (shp (pd w R)) 4 y.2.1) xs.length λi hi=>by
    obtain⟨a2,b1⟩:=hx i hi;obtain⟨g0,⟨a',k,cp,g1,g2,g3,g4,g5⟩,g6⟩:=id a2;refine⟨(xs[i].fId,.slice a' k cp,xs[i].fDeleted),⟨g0,⟨g1,rfl⟩,g6⟩,a',k,cp,rfl,g2 ▸ g4,λhk=>?_⟩
    have e:(W.row Z (o0+i*4) 4)[2]? =some (.slice a' k cp):=by
      have:=congrArg (·[0]?) (show((W.row Z (o0+i*4) 4).drop 2).take 1=[.slice a' k cp] from g1);simpa[Q3,Q2] using this
    cases a' with
    |none=>simp only at g5;omega
    | some ar=>
      obtain⟨q1,_,l,q2,q3,q4⟩:=AD a2 e hk;obtain⟨i',q,q5,q6⟩:=Fm hS (R:=R) (decide_eq_true ⟨i,hi,ar,k,cp,e,hk,rfl⟩) q2;obtain⟨bb,oo,sp⟩:=ar;simp only at q1 q2 q3 q5;subst q1;exact⟨bb,oo,i',q,rfl,q5,by omega⟩
  refine⟨_,pd w R,ys,λb l hm=>?_,a4,?_,λy hm=>?_⟩
  · obtain⟨r,hr⟩:=a9 b l hm
    refine⟨r,?_⟩;rw[if_neg]
    ·exact hr
    · intro h
      rw[(hR b h).1.1] at hm;cases hm
  · rw[←a0]
    refine dw (by rw[a0];exact h1) (by rw[a0];exact h2) ?_;cases a with
    |none=>exact h3
    | some J=>
      refine⟨h3.1,λi hi=>?_⟩;have a6:=hb J _ _ rfl (by omega:0<xs.length)
      have a3:M.row (λb=>if R b=true then none else W b) J.block (J.off+i*4) 4=W.row Z (o0+i*4) 4:=by
        unfold M.row;simp only[a6,a1 J rfl,a5,Bool.false_eq_true,if_false]
      show kVR.R _ (M.row _ J.block (J.off+i*4) 4) _;rw[a3];exact(hy i hi).1
  · obtain⟨i,hi,rfl⟩:=List.getElem_of_mem hm
    exact(hy i hi).2
def AE (n:Nat)(i:Int):Option (Int⊕Unit):=if decide (i<(n:Int)) then some (.inl (Q0.wrap (i+1))) else some (.inr ())
theorem BN {n:Nat}(h:n<=bU):∃r,aq (AE n) 0=some r:=by
  refine(eW (λs=>∃k:Nat,s=(k:Int)/\k<=n) (λs=>n - s.toNat) (λ_=>True) ?_ ⟨0,rfl,Nat.zero_le _⟩).imp λ_ h=>h.1;rintro i ⟨k,rfl,J⟩;unfold bU at h
  by_cases hlt:k<n
  · refine .inl ⟨_,by rw[AE,if_pos (by simpa using hlt)],⟨k+1,by rw[ak (by omega)];rfl,hlt⟩,?_⟩
    rw[ak (by omega)];omega
  ·exact .inr ⟨(),by rw[AE,if_neg (by simpa using hlt)],trivial⟩
theorem un (hS:S W0 m w L TL) {p0}(f3:RV (kSl (aj .i64)) m v0 p0) {p1}(b6:RV (kSl ah) m v1 p1) {r}(h:dX p0 p1=some r):
    Calls prog 27 #[v0,v1] w (Ret λv w'=>∃m',M.le m m'/\S W0 m' w' L TL/\∃b0,RV (kSl (kVF λb=>(m b=none/\W0.heap.size<=b)/\b≠b0)) m' v r/\∀ad n c,v= .slice (some ad) n c->0<n->ad.block=b0):=by
 refine kc func27 ntmps27 λa E=>?_;have E:Env 29 a [(0,v0),(1,v1)]:=E;obtain⟨F,hF⟩:∃F:Nat->Prop,F=λb=>m b=none/\W0.heap.size<=b:=⟨_,rfl⟩
 unfold dX at h;refine ab (ai ?_);refine st E (j3 (k:=(kSl (aj .i64))) E hS rfl f3) rfl ?_;rintro _ a w ⟨J,b4,rfl,f4,hS⟩ E;refine qA E rfl λa E=>ag (ab (ai (qA E rfl λa E=>ag (ab (ab (ai (qM E rfl λa E=>?_)))))));refine sp E (aV (k:=ah) E rfl rfl underlying50 b6) rfl λa E=>qM E rfl λa E=>ag ?_;refine cF (λa w=>∃a1:(List aa),d9 p0 a1=some r/\∃m',M.le m m'/\∃(a5:List Value),∃(a9:Nat),∃(a2:Value),GS (kVF F) m' a9 a5 a2 a1/\S W0 m' w ((a9,a5)::(J,b4)::L) (TL)/\Env 29 a [(2,pz J),(5,a2)]) ?_ ?_
 {
 refine aY ?_;refine eX h (λ(s:Int×List aa) a w=>∃m',M.le m m'/\∃(W:List Value),∃(a0:Nat),∃(Z:Value),inR .i64 s.1/\GS (kVF F) m' a0 W Z s.2/\S W0 m' w ((a0,W)::(J,b4)::L) (TL)/\Env 29 a [(2,pz J),(5,Z),(8,v1),(9,.int .i64 (p1.length:Int)),(10,.int .i64 s.1)]) ?_ ?_
 {exact⟨_,(Jn _),[],0,(.slice none 0 0),(show inR .i64 0 from ax (by decide)),GS.void,(hS.void 0),kut E⟩}
 {
 rintro ⟨b7,c1⟩ a w ⟨i2,a3,W,a0,Z,k5,c0,hS,E⟩ r50 h hb51;have h:ef p0 p1 b7 c1=some r50:=h;unfold ef at h;refine ab (ai (qB E rfl rfl cz λa E=>ag (ab (kif E rfl (λa4=>?_) (λa4=>?_)))))
 {
 have h:=aD a4 h;refine aW (ab (aY (ab (ai ?_))));obtain⟨h8,e9,h⟩:=ob h;refine st E (dx (k:=ah) E rfl rfl underlying50 sizeOf59 (b6.mono a3) e9) rfl ?_;rintro i1 a _ ⟨rfl,h4⟩ E;refine st E (bh E hS qE rfl h4) rfl ?_;rintro j1 a _ ⟨rfl,h6⟩ E;refine st E (cP hS zeroValue59 rfl (cs:=xb)) rfl ?_;rintro _ a w ⟨k3,rfl,hS⟩ E;refine st0 E (cD E hS qE bO rfl rfl h6 (i:=0) rfl (tN _)) ?_;rintro _ w ⟨j2,e7,hS⟩ E;refine ag (ai (qM E rfl λa E=>?_));refine st E (aB E hS qE rfl (i:=0) rfl (aJ e7)) rfl ?_;rintro c3 a _ ⟨rfl,d1⟩ E;obtain⟨c6,c4,h⟩:=ob h
 refine st E (az (vs:=[c3]) E rfl call65 (Is (F:=F) (λb h1 h2=>by rw[hF];exact⟨M.none a3 h1,h2⟩) hS d1 c4)) rfl ?_;rintro e0 a w ⟨l1,b2,hS,f0⟩ E;refine st E (jq (k:=kVF F) (xs:=[c6]) (vs:=[e0]) E hS rfl underlying50 sizeOf59 zeroValue59 ⟨f0,trivial⟩ rfl rfl) rfl ?_;rintro k6 a w ⟨k4,b3,hS,d2⟩ E;obtain⟨g3,g5,h⟩:=ob h;refine st E (tX (k:=kVF F) (N:=2932031007402) E hS rfl rfl underlying50 CY (i:=1) rfl (c0.mono (zh b2 b3)) (sX hS underlying50 d2) g5 rfl rfl) rfl ?_;rintro g6 a w ⟨d0,g4,e3,hS⟩ E
 refine qA E rfl λa E=>ag (ai (qB E rfl rfl (cy rfl) λa E=>qM E rfl λa E=>ag ?_));exact⟨(Q0.wrap (b7+1),g3),(Option.some.inj h).symm,_,(zh a3 (zh b2 b3)),g4,d0,g6,(aI _ _),e3,((hS.pickL 3 [1,2] rfl rfl rfl).pickT 1 [] rfl rfl rfl),kut E⟩}
 {have h:=aH a4 h;refine eJ rfl rfl ?_;have h:=cG h hb51;exact⟨c1,h,_,a3,W,a0,Z,c0,hS,kut E⟩}}}
 {
 rintro a w ⟨a1,h,i0,c2,a5,a9,a2,e4,hS,E⟩;unfold d9 at h;refine ab (ai (qM E rfl λa E=>?_));obtain⟨k0,b5,hS,f6⟩:=S.freezeL (k:=(kSl (aj .i64))) (hS.pickL 2 [1,0] rfl rfl rfl) ((kSl (aj .i64)).mono c2 f4);refine sp E (mD E rfl rfl) rfl λa E=>?_;obtain⟨i4,e5,h⟩:=ob h;refine st E (az (vs:=[a2,(.func (.func 67) #[] #[(pz J)])]) E rfl call66 (by have f5:=(e4.mono b5);have h0:=fnF (F:=F) (G2 f6);exact Iv F (p0:=a1) (p1:=(λh7 g1=>dh h7 g1 p0)) (hS:=hS) f5 h0 e5)) rfl ?_;rintro h9 a w ⟨j4,e6,k7,hS,h5⟩ E;refine ag (ab ?_)
 obtain⟨g2,g0⟩:=NB hS h5;obtain⟨i3,c7,hS,a6⟩:=S.freeze hS g2;refine ai (qM E rfl λa E=>qM E rfl λa E=>sp E (aV (k:=kVF _) E rfl rfl underlying50 a6) rfl λa E=>qM E rfl λa E=>sp E (aV (k:=kVF _) E rfl rfl underlying50 a6) rfl λa E=>?_);refine st E (BZ (kd:=kVF _) E rfl underlying50 sizeOf59 a6 rfl rfl) rfl ?_;rintro i5 a _ ⟨rfl,h3,c5⟩ E;refine qA E rfl λa E=>ag (bq ?_);obtain rfl:=oi h
 try dsimp only
 refine f1 E ?_;subst hF
 exact⟨_,(zh c2 (zh b5 (zh e6 c7))),hS,_,h3,λad n c e hn=>(by
  obtain⟨e8,c',e1,e2⟩:=c5 ad n c e hn
  exact e2.symm.trans (g0 e8 n c' e1 hn))⟩}
theorem AF {m0:M}:Fn2 prog kAp kAp (aj .i64) m0 (.func (.func 109) #[] #[]) b9:=by
  refine⟨109,_,rfl,call109,?_⟩;intro W0 m w L TL v0 v1 x0 x1 r hm hS W J Z;refine(vZ (hS:=hS) W J Z).mono ?_;intro e w' h;cases e with
  |returned v=>obtain⟨m',J,h2,h3⟩:=h;exact⟨m',J,h2,h3⟩
  |panicked ch=>exact h.elim
  |outgrown=>exact h.elim
theorem yi (hS:S W0 m w L TL) {p0}(c0:RV (kSl kAp) m v0 p0) {r}(h:lP p0=some r):
    Calls prog 105 #[v0] w (Ret λv w'=>∃m',M.le m m'/\S W0 m' w' L ((1,v)::TL)/\RV (kSl (aj .u8)) m' v r):=by
 refine kc func105 ntmps105 λa E=>?_;have E:Env 54 a [(0,v0)]:=E;unfold lP at h;refine ab (ai (qA E rfl λa E=>ag (ab (ai (qM E rfl λa E=>?_)))));obtain⟨r3,g2,h⟩:=ob h;refine st E (az (vs:=[v0]) E rfl call92 (l5 (hS:=hS) c0 g2)) rfl ?_;rintro e5 a w ⟨m5,b5,b7,n0,hS,i1⟩ E;refine qA E rfl λa E=>ag (ab (ai (qM E rfl λa E=>?_)));obtain⟨p6,k4,h⟩:=ob h;refine st E (az (vs:=[e5,(.func (.func 109) #[] #[])]) E rfl call148 (pM (hS:=hS) i1 (AF (m0:=m5)) k4)) rfl ?_;rintro m4 a w ⟨p8,b1,r7,hS,f0⟩ E;refine ag (ab (ai (qM E rfl λa E=>?_)))
 obtain⟨W,i4,h⟩:=ob h;refine st E (az (vs:=[e5]) E rfl call149 (pJ (hS:=hS) f0 i4)) rfl ?_;rintro a0 a w ⟨n1,b2,n4,m6,hS,i5⟩ E;refine qA E rfl λa E=>ag (ab ?_);obtain⟨p5,b4,hS,a3⟩:=S.freeze hS i5;refine ai (qM E rfl λa E=>sp E (aV (k:=kAp) E rfl rfl underlying22 a3) rfl λa E=>sp E (fj E rfl underlying3 underlying5 rfl) rfl λa E=>?_);refine st E (jq (k:=(aj .u8)) (xs:=[Q5.wrap (W.length:Int)]) (vs:=[(.int .u8 (Q5.wrap (W.length:Int)))]) E hS rfl underlying24 sizeOf5 zeroValue5 ⟨(au (aI _ _)),trivial⟩ rfl (by decide)) rfl ?_
 rintro f3 a w ⟨e0,Z,hS,l3⟩ E;refine qA E rfl λa E=>ag (ab (ab (ai (qM E rfl λa E=>sp E (aV (k:=kAp) E rfl rfl underlying22 (a3.mono Z)) rfl λa E=>qM E rfl λa E=>ag ?_))));refine cF (λa w=>∃a1:(List Int),lc p0 W a1=some r/\∃m',M.le e0 m'/\∃(J:Value),RV (kSl (aj .u8)) m' J a1/\S W0 m' w L ((1,J)::TL)/\Env 54 a [(0,v0),(3,a0),(4,J)]) ?_ ?_
 {
 refine aY ?_;refine eX h (λ(s:List Int×Int) a w=>∃m',M.le e0 m'/\∃(a6:Value),RV (kSl (aj .u8)) m' a6 s.1/\inR .i64 s.2/\S W0 m' w L ((1,a6)::TL)/\Env 54 a [(0,v0),(3,a0),(4,a6),(20,a0),(21,.int .i64 (W.length:Int)),(22,.int .i64 s.2)]) ?_ ?_
 {exact⟨_,(Jn _),f3,l3,(show inR .i64 0 from ax (by decide)),hS,kut E⟩}
 {
 rintro ⟨c6,d2⟩ a w ⟨p4,b3,a6,e6,p2,hS,E⟩ r142 h hb143;have h:jx p0 W c6 d2=some r142:=h;unfold jx at h;refine ab (ai (qB E rfl rfl cz λa E=>ag (ab (kif E rfl (λc1=>?_) (λc1=>?_)))))
 {
 have h:=aD c1 h;refine aW (ab (aY (ab (ai ?_))));obtain⟨p7,h9,h⟩:=ob h;refine st E (dx (k:=kAp) E rfl rfl underlying22 sizeOf32 (a3.mono (zh Z b3)) h9) rfl ?_;rintro o2 a _ ⟨rfl,g6⟩ E;refine st E (bh E hS ej rfl g6) rfl ?_;rintro r9 a _ ⟨rfl,h8⟩ E;refine st E (cP hS zeroValue32 rfl (cs:=tL)) rfl ?_;rintro _ a w ⟨q3,rfl,hS⟩ E;refine st0 E (cD E hS ej bO rfl rfl h8 (i:=0) rfl (oC _)) ?_;rintro _ w ⟨n6,g0,hS⟩ E;refine ag (ai (qM E rfl λa E=>?_));refine st E (aB E hS ej rfl (i:=0) rfl (aJ g0)) rfl ?_;rintro j1 a _ ⟨rfl,g4⟩ E
 obtain⟨n3,m2,h⟩:=ob h;refine st E (az (vs:=[j1]) E rfl call107 (tQ (hS:=hS) g4 m2)) rfl ?_;rintro o0 a w ⟨m8,d1,hS,k7⟩ E;obtain⟨f4,h1,h⟩:=ob h;refine st E (jp (k:=(aj .u8)) (N:=140737488355328) E hS rfl rfl underlying24 underlying24 el5 (i:=0) rfl (e6.mono d1) k7 h1 rfl rfl) rfl ?_;rintro j2 a w ⟨q2,h3,hS,h6⟩ E;refine qA E rfl λa E=>ag (ai (qB E rfl rfl (cy rfl) λa E=>qM E rfl λa E=>ag ?_));exact⟨(f4,Q0.wrap (d2+1)),(Option.some.inj h).symm,_,(zh b3 (zh d1 h3)),j2,h6,(aI _ _),(hS.pickL 1 [] rfl rfl rfl),kut E⟩}
 {have h:=aH c1 h;refine eJ rfl rfl ?_;have h:=cG h hb143;exact⟨c6,h,_,b3,a6,e6,hS,kut E⟩}}}
 {
 rintro a w ⟨a1,h,c4,a5,J,l4,hS,E⟩;unfold lc at h;refine ab (ai (qA E rfl λa E=>ag (ab (ab (ai (qM E rfl λa E=>sp E (aV (k:=kAp) E rfl rfl underlying22 (c0.mono (zh b5 (zh b1 (zh b2 (zh b4 (zh Z a5))))))) rfl λa E=>qM E rfl λa E=>?_))))));refine ag ?_;refine cF (λa w=>∃c2:(List Int),la W a1 c2=some r/\∃m',M.le c4 m'/\∃(a2:Value),RV (kSl (aj .u64)) m' a2 c2/\S W0 m' w L ((1,a2)::(1,J)::TL)/\Env 54 a [(3,a0),(4,J),(7,a2)]) ?_ ?_
 {
 refine aY ?_;refine eX h (λ(s:List Int×Int) a w=>∃m',M.le c4 m'/\∃(a4:Value),RV (kSl (aj .u64)) m' a4 s.1/\inR .i64 s.2/\S W0 m' w L ((1,a4)::(1,J)::TL)/\Env 54 a [(3,a0),(4,J),(7,a4),(31,v0),(32,.int .i64 (p0.length:Int)),(33,.int .i64 s.2)]) ?_ ?_
 {exact⟨_,(Jn _),(.slice none 0 0),c8,(show inR .i64 0 from ax (by decide)),(hS.tail0 1),kut E⟩}
 {
 rintro ⟨d0,e4⟩ a w ⟨p3,a9,a4,e7,q5,hS,E⟩ r95 h hb96;have h:g9 p0 W a1 d0 e4=some r95:=h;unfold g9 at h;refine ab (ai (qB E rfl rfl cz λa E=>ag (ab (kif E rfl (λb6=>?_) (λb6=>?_)))))
 {
 have h:=aD b6 h;refine aW (ab (aY (ab (ai ?_))));obtain⟨r2,k6,h⟩:=ob h;refine st E (dx (k:=kAp) E rfl rfl underlying22 sizeOf32 (c0.mono (zh b5 (zh b1 (zh b2 (zh b4 (zh Z (zh a5 a9))))))) k6) rfl ?_;rintro q0 a _ ⟨rfl,i3⟩ E;refine st E (bh E hS ej rfl i3) rfl ?_;rintro q6 a _ ⟨rfl,m3⟩ E;refine st E (cP hS zeroValue32 rfl (cs:=tL)) rfl ?_;rintro _ a w ⟨m7,rfl,hS⟩ E;refine st0 E (cD E hS ej bO rfl rfl m3 (i:=0) rfl (oC _)) ?_;rintro _ w ⟨m9,k3,hS⟩ E;refine ag (ai (qM E rfl λa E=>qM E rfl λa E=>?_))
 refine st E (aB E hS ej rfl (i:=0) rfl (aJ k3)) rfl ?_;rintro i0 a _ ⟨rfl,h5⟩ E;obtain⟨c5,g1,h⟩:=ob h;refine st E (az (vs:=[a0,i0]) E rfl call150 (sy (hS:=hS) (a3.mono (zh Z (zh a5 a9))) h5 g1)) rfl ?_;rintro r1 a w ⟨r0,e3,hS,j4⟩ E;obtain⟨rfl,q4⟩:=aK j4;refine sp E (fj E rfl underlying3 underlying54 rfl) rfl λa E=>?_;refine st E (jq (k:=(aj .u64)) (xs:=[Q4.wrap c5]) (vs:=[(.int .u64 (Q4.wrap c5))]) E hS rfl underlying189 sizeOf54 zeroValue54 ⟨(au (aI _ _)),trivial⟩ rfl (by decide)) rfl ?_;rintro o3 a w ⟨r4,e1,hS,g5⟩ E
 obtain⟨e9,h4,h⟩:=ob h;refine st E (jp (k:=(aj .u64)) (N:=17592186044416) E hS rfl rfl underlying189 underlying189 JN (i:=1) rfl (e7.mono (zh e3 e1)) g5 h4 rfl rfl) rfl ?_;rintro k5 a w ⟨n2,h0,hS,l2⟩ E;refine qA E rfl λa E=>ag (ai (qB E rfl rfl (cy rfl) λa E=>qM E rfl λa E=>ag ?_));exact⟨(e9,Q0.wrap (e4+1)),(Option.some.inj h).symm,_,(zh a9 (zh e3 (zh e1 h0))),k5,l2,(aI _ _),((hS.pickL 1 [] rfl rfl rfl).pickT 3 [1,2] rfl rfl rfl),kut E⟩}
 {have h:=aH b6 h;refine eJ rfl rfl ?_;have h:=cG h hb96;exact⟨d0,h,_,a9,a4,e7,hS,kut E⟩}}}
 {
 rintro a w ⟨c2,h,r6,c3,a2,e8,hS,E⟩;unfold la at h;refine ab (ai (qM E rfl λa E=>qM E rfl λa E=>qM E rfl λa E=>sp E (aV (k:=kAp) E rfl rfl underlying22 (a3.mono (zh Z (zh a5 c3)))) rfl λa E=>qB E rfl rfl (ku rfl) λa E=>sp E (fj E rfl underlying3 underlying94 rfl) rfl λa E=>?_));obtain⟨f6,f5,h⟩:=ob h;refine st E (az (vs:=[(.int .u64 (Q4.wrap (Q0.wrap ((W.length:Int) - 1))))]) E rfl call152 (C2 (hS:=hS) (aI _ _) f5)) rfl ?_;rintro o1 a w ⟨s3,b0,hS,i2⟩ E;obtain⟨rfl,h7⟩:=aK i2;obtain⟨q7,h2,h⟩:=ob h
 refine st E (az (vs:=[a2,(.int .i64 f6)]) E rfl call151 (wd (hS:=hS) (e8.mono b0) h7 h2)) rfl ?_;rintro s2 a w ⟨s1,c7,hS,m1⟩ E;obtain⟨r5,g3,h⟩:=ob h;refine st E (jp (k:=(aj .u8)) (N:=140737488355328) E hS rfl rfl underlying24 underlying24 el5 (i:=1) rfl (l4.mono (zh c3 (zh b0 c7))) m1 g3 rfl rfl) rfl ?_;rintro r8 a w ⟨q1,k0,hS,l1⟩ E;refine qA E rfl λa E=>ag (bq ?_);obtain rfl:=oi h
 try dsimp only
 refine f1 E ?_;exact⟨_,(zh b5 (zh b1 (zh b2 (zh b4 (zh Z (zh a5 (zh c3 (zh b0 (zh c7 k0))))))))),(hS.pickT 2 [1] rfl rfl rfl),l1⟩}}
theorem LK:Ctr Sz prog 153 [.rd (.sl (.int .i64))] [.rd (.int .i64)] (λx=>jL x.1):=
 ncR [] [2] func153 ntmps153 (.s .o (.s .o (.s .o (.s (.s .o (.b (.l ⟨[.v 3 1 (.dat (.int .i64) none),.v 4 1 (.dat (.int .i64) none)],[0],0,[]⟩ .o))) .o)))) λx=>by kernel_rfl
def LL:=mC LK call153
theorem LM:Ctr Sz prog 106 [.rd (.sl (.int .i64))] [.ap (.int .u8)] (λx=>kN x.1):=
 ncR [ET,Ll,LL,EU] [2] func106 ntmps106 (.s .o (.s .o (.s .o (.s .o (.s (.s .o (.b (.l ⟨[.v 4 1 (.dat (.sl (.int .u64)) (some 0)),.v 5 1 (.dat (.int .i64) none),.v 13 1 (.dat (.int .i64) none)],[3,11,12],0,[1]⟩ .o))) .o))))) λx=>by kernel_rfl
theorem xd (hS:S W0 m w L TL) {p0}(a1:RV (kSl (aj .i64)) m v0 p0) {r}(h:kN p0=some r):
    Calls prog 106 #[v0] w (Ret λv w'=>∃m',M.le m m'/\S W0 m' w' L ((1,v)::TL)/\RV (kSl (aj .u8)) m' v r):=by
 refine rm (LM W0 m w L TL [v0] (p0,()) r [] [] hS ⟨a1,trivial⟩ h) λv w' he=>?_;obtain⟨m',us,Lr,Lq,Tr,Z,J,rfl,W,hO⟩:=he;obtain⟨u0,us,Tr,rfl,rfl,r0,a0⟩:=pW W;obtain⟨rfl,rfl,rfl⟩:=bF a0;have a2:=bj hO;obtain rfl:=bG a2;exact⟨m',Z,J,r0⟩
theorem LN {m0:M}:Fn1 prog kAp cj m0 (.func (.func 100) #[] #[]) ek:=by
  refine⟨100,_,rfl,call100,?_⟩;intro W0 m w L TL v0 x0 r hm hS J W;refine(um (hS:=hS) J W).mono ?_;intro e w' h;cases e with
  |returned v=>obtain⟨m',h1,h2,Z⟩:=h;exact⟨m',h1,h2,Z⟩
  |panicked ch=>exact h.elim
  |outgrown=>exact h.elim
theorem we (hS:S W0 m w L TL) {p0}(k6:inR .i64 p0) {p1}(a1:RV (kSl kAp) m v1 p1) {r}(h:eL p0 p1=some r):
    Calls prog 47 #[(.int .i64 p0),v1] w (Ret λv w'=>∃m',M.le m m'/\S W0 m' w' L TL/\∃v0_ v1_:Value,v= .tuple #[v0_,v1_]/\RV (kSl (aj .u8)) m' v0_ r.1/\RV (aj .i64) m' v1_ r.2):=by
 refine kc func47 ntmps47 λa E=>?_;have E:Env 69 a [(0,.int .i64 p0),(1,v1)]:=E;unfold eL at h;refine ab (ai (qA E rfl λa E=>qA E rfl λa E=>ag (ab (ab ?_))));refine cF (λa w=>∃x5:Bool,f7 p0 p1 x5=some r/\∃m',M.le m m'/\S W0 m' w L TL/\Env 69 a [(0,.int .i64 p0),(1,v1),(16,.bool x5)]) ?_ ?_
 {
 refine ai (qM E rfl λa E=>qB E rfl rfl cz λa E=>qM E rfl λa E=>?_);rcases zw (decide (p0<0)) with hd174|hd174
 {have h:=aD hd174 h;refine qX E hd174 λa E=>qX E hd174 λa E=>qT E hd174 rfl λa E=>ag ?_;exact⟨true,h,_,(Jn _),hS,kut E⟩}
 {have h:=aH hd174 h;refine qG E hd174 rfl λa E=>spg E rfl rfl rfl rfl hd174 (be E rfl rfl l6) rfl λa E=>qF E hd174 rfl λa E=>ag ?_;exact⟨(decide (4<p0)),h,_,(Jn _),hS,kut E⟩}}
 {
 rintro a w ⟨x5,h,m3,J,hS,E⟩;unfold f7 at h;refine kif E rfl (λb5=>?_) (λb5=>?_)
 {
 have h:=aD b5 h;refine ab (ai (qA E rfl λa E=>qA E rfl λa E=>ag (bq ?_)));obtain rfl:=oi h
 try dsimp only
 refine f2 E ?_;exact⟨_,J,hS,_,_,rfl,c8,(au (show inR .i64 62 from ax (by decide)))⟩}
 {
 have h:=aH b5 h;refine aW (ab (ab (ai (qM E rfl λa E=>sp E (aV (k:=kAp) E rfl rfl underlying22 (a1.mono J)) rfl λa E=>qB E rfl rfl l6 λa E=>ag (kif E rfl (λb3=>?_) (λb3=>?_))))))
 {
 have h:=aD b3 h;refine ab (ai (qA E rfl λa E=>qA E rfl λa E=>ag (bq ?_)));obtain rfl:=oi h
 try dsimp only
 refine f2 E ?_;exact⟨_,J,hS,_,_,rfl,c8,(au (show inR .i64 61 from ax (by decide)))⟩}
 {
 have h:=aH b3 h;refine aW (ab (ab (ai (qM E rfl λa E=>?_))));obtain⟨j1,h0,h⟩:=ob h;refine st E (az (vs:=[v1,(.func (.func 100) #[] #[])]) E rfl call99 (ox (hS:=hS) (a1.mono J) (LN (m0:=m3)) h0)) rfl ?_;rintro i4 a w ⟨l2,W,hS,h4⟩ E;obtain rfl:=dU h4;refine ag (kif E rfl (λb7=>?_) (λb7=>?_))
 {
 have h:=aD b7 h;refine ab (ai (qA E rfl λa E=>qA E rfl λa E=>ag (bq ?_)));obtain rfl:=oi h
 try dsimp only
 refine f2 E ?_;exact⟨_,(zh J W),hS,_,_,rfl,c8,(au (show inR .i64 60 from ax (by decide)))⟩}
 {
 have h:=aH b7 h;refine aW (ab (ai (qM E rfl λa E=>?_)));obtain⟨c7,h2,h⟩:=ob h;refine st E (az (vs:=[v1]) E rfl call102 (yf (hS:=hS) (a1.mono (zh J W)) h2)) rfl ?_;rintro _ a w ⟨f4,a0,hS,b4,l1,rfl,c4,f6⟩ E;obtain rfl:=dU f6;refine qM E rfl λa E=>sp E (cl E rfl rfl) rfl λa E=>sp E (cl E rfl rfl) rfl λa E=>qA E rfl λa E=>qA E rfl λa E=>ag (ab (ab ?_));refine cF (λa w=>∃b2:Bool,dL p0 p1 c7 b2=some r/\∃m',M.le f4 m'/\S W0 m' w L TL/\Env 69 a [(0,.int .i64 p0),(1,v1),(6,b4),(36,.bool b2)]) ?_ ?_
 {
 refine ai (qM E rfl λa E=>sp E (kw E rfl) rfl λa E=>qM E rfl λa E=>?_);rcases zw (!c7.2) with hd159|hd159
 {
 have h:=aD hd159 h;refine qG E hd159 rfl λa E=>spg E rfl rfl rfl rfl hd159 (be E rfl rfl iK) rfl λa E=>qG E hd159 rfl λa E=>?_;rcases zw (p0==2) with hd163|hd163
 {have h:=aD hd163 h;refine qX E hd163 λa E=>qX E hd163 λa E=>spg E rfl rfl rfl rfl hd159 (qL E rfl hd163 rfl) rfl λa E=>qT E hd159 rfl λa E=>ag ?_;exact⟨true,h,_,(Jn _),hS,kut E⟩}
 {have h:=aH hd163 h;refine qG E hd163 rfl λa E=>spg E rfl rfl rfl rfl hd163 (be E rfl rfl iK) rfl λa E=>spg E rfl rfl rfl rfl hd159 (qN E rfl hd163 rfl) rfl λa E=>qT E hd159 rfl λa E=>ag ?_;exact⟨(p0==4),h,_,(Jn _),hS,kut E⟩}}
 {have h:=aH hd159 h;refine qX E hd159 λa E=>qX E hd159 λa E=>qX E hd159 λa E=>sxu E rfl rfl rfl rfl λa E=>sxu E rfl rfl rfl rfl λa E=>qX E hd159 λa E=>qF E hd159 rfl λa E=>ag ?_;exact⟨false,h,_,(Jn _),hS,kut E⟩}}
 {
 rintro a w ⟨b2,h,c2,Z,hS,E⟩;unfold dL at h;refine kif E rfl (λa4=>?_) (λa4=>?_)
 {
 have h:=aD a4 h;refine ab (ai (qA E rfl λa E=>qA E rfl λa E=>ag (bq ?_)));obtain rfl:=oi h
 try dsimp only
 refine f2 E ?_;exact⟨_,(zh J (zh W (zh a0 Z))),hS,_,_,rfl,c8,(au (show inR .i64 62 from ax (by decide)))⟩}
 {
 have h:=aH a4 h;refine aW (ab (ab (ai (qM E rfl λa E=>sp E (aV (k:=kAp) E rfl rfl underlying22 (a1.mono (zh J (zh W (zh a0 Z))))) rfl λa E=>qB E rfl rfl iK λa E=>ag (kif E rfl (λb1=>?_) (λb1=>?_))))))
 {
 have h:=aD b1 h;refine ab (ai (qA E rfl λa E=>qA E rfl λa E=>ag (bq ?_)));obtain rfl:=oi h
 try dsimp only
 refine f2 E ?_;exact⟨_,(zh J (zh W (zh a0 Z))),hS,_,_,rfl,c8,(au (show inR .i64 0 from ax (by decide)))⟩}
 {
 have h:=aH b1 h;refine aW (ab (ab (ai (qM E rfl λa E=>ag (aY (ab (ai (qB E rfl rfl iK λa E=>?_))))))));refine qA E rfl λa E=>ag (kif E rfl (λa5=>?_) (λa5=>?_))
 {
 have h:=aD a5 h;refine ab (ai (qM E rfl λa E=>?_));obtain⟨m7,f0,h⟩:=ob h;refine st E (az (vs:=[v1]) E rfl call103 (yh (hS:=hS) (a1.mono (zh J (zh W (zh a0 Z)))) f0)) rfl ?_;rintro m8 a w ⟨k5,g1,hS,h7⟩ E;refine qA E rfl λa E=>qA E rfl λa E=>ag (bq ?_);obtain rfl:=oi h
 try dsimp only
 refine f2 E ?_;exact⟨_,(zh J (zh W (zh a0 (zh Z g1)))),(hS.dropT 1),_,_,rfl,h7,(au (show inR .i64 0 from ax (by decide)))⟩}
 {
 have h:=aH a5 h;refine ab (ai (qB E rfl rfl iK λa E=>qA E rfl λa E=>ag (kif E rfl (λa6=>?_) (λa6=>?_))))
 {
 have h:=aD a6 h;refine ab (ai (qM E rfl λa E=>?_));obtain⟨l3,h6,h⟩:=ob h;refine st E (az (vs:=[b4]) E rfl call104 (xc (hS:=hS) (c4.mono Z) h6)) rfl ?_;rintro m9 a w ⟨h9,e3,hS,e5⟩ E;refine qA E rfl λa E=>qA E rfl λa E=>ag (bq ?_);obtain rfl:=oi h
 try dsimp only
 refine f2 E ?_;exact⟨_,(zh J (zh W (zh a0 (zh Z e3)))),(hS.dropT 1),_,_,rfl,e5,(au (show inR .i64 0 from ax (by decide)))⟩}
 {
 have h:=aH a6 h;refine ab (ai (qB E rfl rfl iK λa E=>qA E rfl λa E=>ag (kif E rfl (λb0=>?_) (λb0=>?_))))
 {
 have h:=aD b0 h;refine ab (ai (qM E rfl λa E=>?_));obtain⟨i1,e7,h⟩:=ob h;refine st E (az (vs:=[v1]) E rfl call105 (yi (hS:=hS) (a1.mono (zh J (zh W (zh a0 Z)))) e7)) rfl ?_;rintro i2 a w ⟨l4,h8,hS,g3⟩ E;refine qA E rfl λa E=>qA E rfl λa E=>ag (bq ?_);obtain rfl:=oi h
 try dsimp only
 refine f2 E ?_;exact⟨_,(zh J (zh W (zh a0 (zh Z h8)))),(hS.dropT 1),_,_,rfl,g3,(au (show inR .i64 0 from ax (by decide)))⟩}
 {
 have h:=aH b0 h;refine ab (ai (qB E rfl rfl iK λa E=>qA E rfl λa E=>ag (kif E rfl (λc1=>?_) (λc1=>?_))))
 {
 have h:=aD c1 h;refine ab (ai (qM E rfl λa E=>?_));obtain⟨m2,g4,h⟩:=ob h;refine st E (az (vs:=[b4]) E rfl call106 (xd (hS:=hS) (c4.mono Z) g4)) rfl ?_;rintro j2 a w ⟨i5,g6,hS,e8⟩ E;refine qA E rfl λa E=>qA E rfl λa E=>ag (bq ?_);obtain rfl:=oi h
 try dsimp only
 refine f2 E ?_;exact⟨_,(zh J (zh W (zh a0 (zh Z g6)))),(hS.dropT 1),_,_,rfl,e8,(au (show inR .i64 0 from ax (by decide)))⟩}
 {
 have h:=aH c1 h;refine aW (ab (ai (qA E rfl λa E=>ag (ab (ab (ai (qM E rfl λa E=>sp E (aV (k:=kAp) E rfl rfl underlying22 (a1.mono (zh J (zh W (zh a0 Z))))) rfl λa E=>?_)))))));refine qM E rfl λa E=>ag ?_;refine cF (λa w=>∃a9:(List Int),jM a9=some r/\∃m',M.le c2 m'/\∃(a3:Value),RV (kSl (aj .u8)) m' a3 a9/\S W0 m' w L ((1,a3)::TL)/\Env 69 a [(8,a3)]) ?_ ?_
 {
 refine aY ?_;refine eX h (λ(s:List Int×Int) a w=>∃m',M.le c2 m'/\∃(a2:Value),RV (kSl (aj .u8)) m' a2 s.1/\inR .i64 s.2/\S W0 m' w L ((1,a2)::TL)/\Env 69 a [(8,a2),(57,v1),(58,.int .i64 (p1.length:Int)),(59,.int .i64 s.2)]) ?_ ?_
 {exact⟨_,(Jn _),(.slice none 0 0),c8,(show inR .i64 0 from ax (by decide)),(hS.tail0 1),kut E⟩}
 {
 rintro ⟨d0,c6⟩ a w ⟨m4,b6,a2,c3,n0,hS,E⟩ r123 h hb124;have h:ig p1 d0 c6=some r123:=h;unfold ig at h;refine ab (ai (qB E rfl rfl cz λa E=>ag (ab (kif E rfl (λc0=>?_) (λc0=>?_)))))
 {
 have h:=aD c0 h;refine aW (ab (aY (ab (ai ?_))));obtain⟨k3,e9,h⟩:=ob h;refine st E (dx (k:=kAp) E rfl rfl underlying22 sizeOf32 (a1.mono (zh J (zh W (zh a0 (zh Z b6))))) e9) rfl ?_;rintro k7 a _ ⟨rfl,g0⟩ E;refine st E (bh E hS ej rfl g0) rfl ?_;rintro m6 a _ ⟨rfl,h3⟩ E;refine st E (cP hS zeroValue32 rfl (cs:=tL)) rfl ?_;rintro _ a w ⟨k4,rfl,hS⟩ E;refine st0 E (cD E hS ej bO rfl rfl h3 (i:=0) rfl (oC _)) ?_;rintro _ w ⟨k0,f3,hS⟩ E;refine ag (ai (qM E rfl λa E=>?_));refine st E (aB E hS ej rfl (i:=0) rfl (aJ f3)) rfl ?_
 rintro e0 a _ ⟨rfl,h5⟩ E;obtain⟨m5,e4,h⟩:=ob h;refine st E (az (vs:=[e0]) E rfl call107 (tQ (hS:=hS) h5 e4)) rfl ?_;rintro j4 a w ⟨i3,c5,hS,d1⟩ E;obtain⟨h1,d2,h⟩:=ob h;refine st E (jp (k:=(aj .u8)) (N:=140737488355328) E hS rfl rfl underlying24 underlying24 el5 (i:=0) rfl (c3.mono c5) d1 d2 rfl rfl) rfl ?_;rintro f5 a w ⟨m1,e6,hS,e1⟩ E;refine qA E rfl λa E=>ag (ai (qB E rfl rfl (cy rfl) λa E=>qM E rfl λa E=>ag ?_))
 exact⟨(h1,Q0.wrap (c6+1)),(Option.some.inj h).symm,_,(zh b6 (zh c5 e6)),f5,e1,(aI _ _),(hS.pickL 1 [] rfl rfl rfl),kut E⟩}
 {have h:=aH c0 h;refine eJ rfl rfl ?_;have h:=cG h hb124;exact⟨d0,h,_,b6,a2,c3,hS,kut E⟩}}}
 {
 rintro a w ⟨a9,h,i0,g5,a3,g2,hS,E⟩;unfold jM at h;refine ab (ai (qM E rfl λa E=>qA E rfl λa E=>qA E rfl λa E=>ag (bq ?_)));obtain rfl:=oi h
 try dsimp only
 refine f2 E ?_;exact⟨_,(zh J (zh W (zh a0 (zh Z g5)))),(hS.dropT 1),_,_,rfl,g2,(au (show inR .i64 0 from ax (by decide)))⟩}}}}}}}}}}}}
theorem NC:Ctr Sz prog 47 [.rd (.int .i64),.rd (.sl (.st 32))] [.rd (.sl (.int .u8)),.rd (.int .i64)] (λx=>eL x.1 x.2.1):=by
 intro W0 m w L TL vs x r Lp Tp hS hP h;obtain⟨v0,vs,rfl,a0,a3⟩:=it hP;obtain⟨rfl,W⟩:=aK a0;obtain⟨v1,vs,rfl,a1,a2⟩:=it a3;obtain⟨rfl,rfl,rfl⟩:=lL a2;refine rm (we (hS:=hS) W a1 h) λv w' he=>?_;obtain⟨m',Z,J,u0,u1,rfl,r0,r1⟩:=he;exact⟨m',[u0,u1],[],[],[],Z,J,rfl,⟨r0,⟨r1,trivial⟩⟩,trivial⟩
def yB:=mC NC call47
theorem LO:Ctr Sz prog 135 [.rd (.int .i64),.rd (.sl (.st 32))] [.rd .bool] (λx=>oP x.1 x.2.1):=
 ncR [yB] [4] func135 ntmps135 .o λx=>by kernel_rfl
theorem AG (hS:S W0 m w L TL) {p0}(a1:inR .i64 p0) {p1}(W:RV (kSl kAp) m v1 p1) {r}(h:oP p0 p1=some r):
    Calls prog 135 #[(.int .i64 p0),v1] w (Ret λv w'=>∃m',M.le m m'/\S W0 m' w' L TL/\RV cj m' v r):=by
 refine rm (LO W0 m w L TL [(.int .i64 p0),v1] (p0,p1,()) r [] [] hS ⟨au a1,⟨W,trivial⟩⟩ h) λv w' he=>?_;obtain⟨m',us,Lr,Lq,Tr,hm,J,rfl,Z,hO⟩:=he;obtain⟨u0,us,rfl,r0,a0⟩:=cH Z;obtain⟨rfl,rfl,rfl⟩:=bF a0;have a2:=bj hO;have a3:=bj a2;obtain rfl:=bG a3;exact⟨m',hm,J,r0⟩
theorem ND:Ctr Sz prog 46 [.rd (.sl (.st 32))] [.rd (.int .i64)] (λx=>nN x.1):=
 ncR [yB] [2] func46 ntmps46 (.s .o (.s .o (.s (.s .o (.b (.l ⟨[.v 3 1 (.dat (.int .i64) none),.v 4 1 (.dat (.int .i64) none),.v 5 1 (.dat (.int .i64) none)],[0],0,[]⟩ .o))) .o))) λx=>by kernel_rfl
def NE:=mC ND call46
theorem LP:Ctr Sz prog 108 [.rd (.sl (.st 32)),.f2 (.st 32) (.st 32) (.int .i64)] [.rd (.st 32)] (λx=>fq x.1 x.2.1):=
 nxR [] [.cell 4 32] func108 ntmps108 (.s .o (.s .o (.s .o (.s (.s .o (.b (.l ⟨[.v 6 1 (.dat (.int .i64) none),.b 1 1 (.st 32)],[0,1,4,5],2,[]⟩ .o))) .o)))) λx=>by kernel_rfl
theorem qI (hS:S W0 m w L TL) {p0}(a1:RV (kSl kAp) m v0 p0) {p1}(W:Fn2 prog kAp kAp (aj .i64) m v1 p1) {r}(h:fq p0 p1=some r):
    Calls prog 108 #[v0,v1] w (Ret λv w'=>∃m',M.le m m'/\S W0 m' w' L TL/\RV kAp m' v r):=by
 refine rm (LP W0 m w L TL [v0,v1] (p0,p1,()) r [] [] hS ⟨a1,⟨W,trivial⟩⟩ h) λv w' he=>?_;obtain⟨m',us,Lr,Lq,Tr,hm,J,rfl,Z,hO⟩:=he;obtain⟨u0,us,rfl,r0,a0⟩:=cH Z;obtain⟨rfl,rfl,rfl⟩:=bF a0;have a2:=bj hO;have a3:=vy a2;obtain rfl:=bG a3;exact⟨m',hm,J,r0⟩
theorem LQ:Ctr Sz prog 110 [.rd (.sl (.st 32)),.f2 (.st 32) (.st 32) (.int .i64)] [.rd (.st 32)] (λx=>ft x.1 x.2.1):=
 nxR [] [.cell 4 32] func110 ntmps110 (.s .o (.s .o (.s .o (.s (.s .o (.b (.l ⟨[.v 6 1 (.dat (.int .i64) none),.b 1 1 (.st 32)],[0,1,4,5],2,[]⟩ .o))) .o)))) λx=>by kernel_rfl
theorem qJ (hS:S W0 m w L TL) {p0}(a1:RV (kSl kAp) m v0 p0) {p1}(W:Fn2 prog kAp kAp (aj .i64) m v1 p1) {r}(h:ft p0 p1=some r):
    Calls prog 110 #[v0,v1] w (Ret λv w'=>∃m',M.le m m'/\S W0 m' w' L TL/\RV kAp m' v r):=by
 refine rm (LQ W0 m w L TL [v0,v1] (p0,p1,()) r [] [] hS ⟨a1,⟨W,trivial⟩⟩ h) λv w' he=>?_;obtain⟨m',us,Lr,Lq,Tr,hm,J,rfl,Z,hO⟩:=he;obtain⟨u0,us,rfl,r0,a0⟩:=cH Z;obtain⟨rfl,rfl,rfl⟩:=bF a0;have a2:=bj hO;have a3:=vy a2;obtain rfl:=bG a3;exact⟨m',hm,J,r0⟩
theorem qK {m:M}{v:Value}{p0:List Ap}(ha:PR (kSl kAp) m v p0):yq prog (Rv1 kAp) 157 #[v] m p0:=by
 intro σ I step B y m1 w L TL s Ls TLs r mono hle hy W hS hf;refine vg (args:=[y,v]) func157 rfl ntmps157 (Q1 rfl) λa E=>?_;have E:Env 16 a [(0,y),(1,v)]:=E;refine ab (ai ?_);refine st E (bh E hS sq rfl (ha.mono hle)) rfl ?_;rintro v5 a _ ⟨rfl,a0⟩ E;refine sp E (aV (k:=kAp) E rfl rfl underlying22 a0) rfl λa E=>qM E rfl λa E=>ag ?_;have h:=BU (ic a0) hf;refine aY ?_;refine eX h (λ(t:Int×σ) a w=>∃m' Ls' TLs',M.le m1 m'/\inR .i64 t.1/\I m' t.2 Ls' TLs'/\S (B t.2) m' w (Ls'++L) (TLs'++TL)/\Env 16 a [(0,y),(5,v5),(6,.int .i64 (p0.length:Int)),(7,.int .i64 t.1)]) ?_ ?_
 {exact⟨m1,Ls,TLs,Jn _,(show inR .i64 0 from ax (by decide)),W,hS,kut E⟩}
 {
 rintro ⟨i,s⟩ a w ⟨m2,a5,a2,Z,hi,W,hS,E⟩ r9 h hb;unfold wv at h;refine ab (ai (qB E rfl rfl cz λa E=>ag (ab (kif E rfl (λJ=>?_) (λJ=>?_)))))
 {
 have h:=aD J h;refine aW (ab (aY (ab (ai ?_))));obtain⟨x,hx,h⟩:=ob h;refine st E (dx (k:=kAp) E rfl rfl underlying22 sizeOf32 (a0.mono Z) hx) rfl ?_;rintro v9 a _ ⟨rfl,hp⟩ E;refine st E (bh E hS ej rfl hp) rfl ?_;rintro b1 a _ ⟨rfl,a6⟩ E;refine st E (cP hS zeroValue32 rfl (cs:=tL)) rfl ?_;rintro _ a w ⟨b4,rfl,hS⟩ E;refine st0 E (cD E hS ej bO rfl rfl a6 (i:=0) rfl (oC _)) ?_;rintro _ w ⟨cs,hc,hS⟩ E;refine ag (ab (ai (qM E rfl λa E=>?_)));refine st E (aB E hS ej rfl (i:=0) rfl (aJ hc)) rfl ?_;rintro b0 a _ ⟨rfl,a9⟩ E;obtain⟨q,hq,h⟩:=ob h
 refine st E (hy m2 _ L TL s a5 a2 [b0] x q.1 q.2 W (hS.dropL 1) ⟨_,rfl,a9⟩ hq _ _ _ _ _ _ _ _ _ (E.eval rfl) (gW E rfl)) rfl ?_;rintro _ a w ⟨rfl,m3,a4,a1,a3,W,hS⟩ E;refine sp E (kw E rfl) rfl λa E=>ag (kif E rfl (λJ=>?_) (λJ=>?_))
 {have h:=aH (by simpa using J) h;obtain rfl:=oi h;refine bq ?_;have h:=hb _ rfl;subst h;refine Fin.mk E (rs:=[]) rfl o9.nil ?_;exact⟨m3,a4,a1,Z.trans a3,W,hS⟩}
 {have h:=aD (by simpa using J) h;obtain rfl:=oi h;refine aW (ai (qB E rfl rfl (cy rfl) λa E=>qM E rfl λa E=>ag ?_));exact⟨_,rfl,m3,a4,a1,Z.trans a3,(aI _ _),W,hS,kut E⟩}}
 {have h:=aH J h;obtain rfl:=oi h;have h:=hb _ rfl;subst h;refine eJ rfl rfl ?_;dsimp only;refine Fin.mk E (rs:=[]) rfl o9.nil ?_;exact⟨m2,a5,a2,Z,W,hS⟩}}
theorem rx (hS:S W0 m w L TL) {p0}(Z:RV (kSl kAp) m v0 p0) {r}(h:iu p0=some r):
    Calls prog 111 #[v0] w (Ret λv w'=>∃m',M.le m m'/\S W0 m' w' L TL/\ItV prog (Rv1 kAp) m' v r):=by
 refine kc func111 ntmps111 λa E=>?_;have E:Env 4 a [(0,v0)]:=E;unfold iu at h;obtain rfl:=oi h;refine ab (ai ?_);refine st E (j3 E hS rfl Z) rfl ?_;rintro _ a w ⟨b,cs,rfl,W,hS⟩ E;refine qA E rfl λa E=>ag (ab (ai ?_));obtain⟨m1,J,hS,hp⟩:=S.freezeL (k:=(kSl kAp)) hS W;refine sp E (mD E rfl rfl) rfl λa E=>qA E rfl λa E=>ag (bq ?_);refine f1 E ?_;exact⟨_,J,hS,157,_,rfl,call157,qK hp⟩
theorem tR (hS:S W0 m w L TL) {p0}(g2:inR .i64 p0) {p1}(W:RV (kSl kAp) m v1 p1) {r}(h:jN p0 p1=some r):
    Calls prog 48 #[(.int .i64 p0),v1] w (Ret λv w'=>∃m',M.le m m'/\S W0 m' w' L TL/\RV cw m' v r):=by
 refine Dn func48 rfl ntmps48 (Q1 rfl) λa E=>?_;have E:Env 26 a [(0,.int .i64 p0),(1,v1)]:=E;unfold jN at h;refine ab (ai ?_);refine st E (cP hS zeroValue34 rfl (cs:=sr)) rfl ?_;rintro _ a w ⟨Z,rfl,hS⟩ E;refine ag (ab (ai (qM E rfl λa E=>qM E rfl λa E=>sp E (aV (k:=kAp) E rfl rfl underlying22 W) rfl λa E=>qM E rfl λa E=>?_)));obtain⟨r7,e4,h⟩:=ob h;refine st E (az (vs:=[v1,(.func (.func 109) #[] #[])]) E rfl call108 (qI (hS:=hS) W (AF (m0:=m)) e4)) rfl ?_;rintro e8 a w ⟨m9,a5,hS,c7⟩ E;refine qM E rfl λa E=>?_;obtain⟨b6,h1,h⟩:=ob h
 refine st E (az (vs:=[v1,(.func (.func 109) #[] #[])]) E rfl call110 (qJ (hS:=hS) (W.mono a5) (AF (m0:=m9)) h1)) rfl ?_;rintro d2 a w ⟨g0,a1,hS,h2⟩ E;refine st E (rF (m:=g0) (k:=cw) (x0:=bg.zero) (xx:=(⟨p0,(p1.length:Int),r7,b6,0,0⟩:bg)) (pl:=[(0,1),(1,1),(2,4),(6,4),(10,1),(11,1)]) (pv:=[(0,.int .i64 p0),(1,.int .i64 (p1.length:Int)),(2,e8),(3,d2)]) E rfl underlying34 rfl zeroValue34 u7 rfl (.cons rfl Ez (au g2) (.cons rfl EA (au (dR (ic W))) (.cons rfl EB (c7.mono a1) (.cons rfl EC h2 .nil))))) rfl ?_;rintro h9 a _ ⟨rfl,h0⟩ E
 refine st E (cP hS zeroValue34 rfl (cs:=sr)) rfl ?_;rintro _ a w ⟨a0,rfl,hS⟩ E;refine st0 E (cD E hS u9 bO rfl rfl h0 (i:=0) rfl (u7 _)) ?_;rintro _ w ⟨b4,f3,hS⟩ E;refine ag (ab (ab (ai (qM E rfl λa E=>?_))));obtain⟨i4,f4,h⟩:=ob h;refine st E (az (vs:=[v1]) E rfl call111 (rx (hS:=hS) (W.mono (zh a5 a1)) f4)) rfl ?_;rintro h7 a w ⟨e7,b3,hS,e9⟩ E;refine ag (aY ?_);obtain⟨a4,f6,h⟩:=ob h
 refine A6 (Rv:=(Rv1 kAp)) (λ(s:bg) (x:Ap)=>eM s x) (λ_=> .ret) [] (λ(m':M) (s:bg) (b0:Mem) (a6:Tls)=>∃(J:List Value),M.le e7 m'/\cw.R m' J s/\b0=[(a0,J),(Z,sr)]/\a6=[]) (Ls:=[(a0,b4),(Z,sr)]) (TLs:=[]) (s0:=(⟨p0,(p1.length:Int),r7,b6,0,0⟩:bg)) (sf:=a4.1) (bf:=a4.2) E hS rfl e9 (by decide) (λ_ _ _ h=>A5 h) (by rintro k3 i2 s_ a_ b_ n_ ⟨J,c1,f5,e1,c6⟩;exact⟨J,c1.trans n_,cw.mono n_ f5,e1,c6⟩) ⟨b4,Jn _,(cw.mono b3 f3),rfl,rfl⟩ f6 ?_ ?_
 {
 intro l1 k5 W0 h5 w L TL s_ b0 a6 j4 h3 f0 e5 a i3 k7 a9 hS c3 h E c5;obtain⟨x36,rfl⟩:∃x,x=s_:=⟨_,rfl⟩
 obtain⟨J,b5,a3,rfl,rfl⟩:=a9;have h:eM x36 h3=some (f0,e5):=h;unfold eM at h;obtain⟨h4,rfl,g1⟩:=c3;refine ai ?_;refine st E (cP hS zeroValue32 rfl (cs:=tL)) rfl ?_;rintro _ a w ⟨i1,rfl,hS⟩ E;refine st0 E (cD E hS ej bO rfl rfl g1 (i:=0) rfl (oC _)) ?_;rintro _ w ⟨i5,d0,hS⟩ E;refine ag ?_;obtain⟨d1,hS⟩:=c5 _ _ _ _ hS;refine⟨d1,?_⟩;refine aY (ab (ai (sp E (aG E Ao rfl) rfl λa E=>?_)));refine st E (aB E hS ty3 rfl (i:=0) rfl (Jr.R_drop (aJ d0))) rfl ?_;rintro j2 a _ ⟨rfl,e0⟩ E;obtain⟨rfl,k4⟩:=aK e0
 refine qB E rfl rfl iK λa E=>ag (kif E rfl (λa2=>?_) (λa2=>?_))
 {
 have h:=aD a2 h;refine ai (sp E (aG E tM rfl) rfl λa E=>?_);refine st E (aB E hS ty3 rfl (i:=1) rfl (JC.R_drop (aJ a3))) rfl ?_;rintro k6 a _ ⟨rfl,c2⟩ E;obtain⟨rfl,j1⟩:=aK c2;refine qB E rfl rfl (cy rfl) λa E=>sp E (aG E tM rfl) rfl λa E=>?_;refine st0 E (cD E hS ty3 ED rfl rfl (au (aI _ _)) (i:=1) rfl a3) ?_;rintro _ w ⟨b2,e3,hS⟩ E;refine ag ?_;cases h
 try dsimp only
 exact⟨rfl,_,[(a0,b2),(Z,sr)],[],(Jn _),⟨b2,b5,e3,rfl,rfl⟩,(hS.pickL 3 [1,2] rfl rfl rfl)⟩}
 {
 have h:=aH a2 h;refine aW ?_;cases h
 try dsimp only
 exact⟨rfl,_,[(a0,J),(Z,sr)],[],(Jn _),⟨J,b5,a3,rfl,rfl⟩,(hS.pickL 3 [1,2] rfl rfl rfl)⟩}}
 {
 intro g3 h6 w a b0 a6 c4 E a9 hS g5 g4;obtain⟨k0,_,g6,rfl,rfl⟩:=a9;obtain⟨W0,b7⟩:∃W9,W9=W0.put g3 (.deferred (some [])):=⟨_,rfl⟩
 rw[←b7] at hS;rcases zw a4.2 with hb75|hb75
 {
 have h:=aD hb75 h;rw[if_pos hb75];refine ab (ai ?_);refine st E (aB E hS u9 rfl (i:=0) rfl (aJ g6)) rfl ?_;rintro h8 a _ ⟨rfl,e6⟩ E;refine st0 E (cD E hS u9 bO rfl rfl e6 (i:=1) rfl (u7 _)) ?_;rintro _ w ⟨i0,c0,hS⟩ E;refine ag (bq ?_);obtain rfl:=oi h
 try dsimp only
 have hS:=hS;rw[b7] at hS;refine yY.shut E hS g5 g4 λa w hS E=>?_;refine yY.nil E ?_;refine Fin.mk E (rs:=[.cell 4 34]) rfl (o9.cell E hS u9 rfl (i:=1) rfl (aJ c0) o9.nil) ?_;exact⟨_,(zh a5 (zh a1 (zh b3 c4))),(hS.dropL 2),(wq (aJ c0))⟩}
 {have h:=aH hb75 h;cases h}}
theorem NF:Ctr Sz prog 48 [.rd (.int .i64),.rd (.sl (.st 32))] [.rd (.st 34)] (λx=>jN x.1 x.2.1):=by
 intro W0 m w L TL vs x r Lp Tp hS hP h;obtain⟨v0,vs,rfl,a0,a2⟩:=it hP;obtain⟨rfl,W⟩:=aK a0;obtain⟨v1,vs,rfl,a1,a3⟩:=it a2;obtain⟨rfl,rfl,rfl⟩:=lL a3;refine rm (tR (hS:=hS) W a1 h) λv w' he=>?_;obtain⟨m',Z,J,r0⟩:=he;exact⟨m',[v],[],[],[],Z,J,rfl,⟨r0,trivial⟩,trivial⟩
def NG:=mC NF call48
theorem NH:Ctr Sz prog 49 [.rd (.st 32)] [.rd (.sl (.int .u8))] (λx=>n7 x.1):=
 ncR [ER] [2] func49 ntmps49 .o λx=>by kernel_rfl
def NJ:=mC NH call49
theorem G4:Ctr Sz prog 78 [.rd (.sl (.int .u8))] [.rd (.int .u32)] (λx=>iS x.1):=
 ncR [] [2] func78 ntmps78 (.s .o (.s .o (.s (.s .o (.b (.l ⟨[.v 9 1 (.dat (.int .i64) none),.a 0 1 (.int .u32) (some 16)],[0,3],1,[]⟩ (.s .o (.s .o (.s (.b (.s .o (.s .o (.s (.s .o (.b (.l ⟨[.v 5 2 (.dat (.int .u32) none),.v 14 2 (.dat (.int .i64) none)],[0,3,4,9],1,[]⟩ .o))) .o)))) .o)))))) (.s .o (.s (.s .o (.b (.l ⟨[.v 6 1 (.dat (.int .u32) none),.v 29 1 (.dat (.int .i64) none)],[3,27,28],1,[]⟩ .o))) .o))))) λx=>by kernel_rfl
def NK:=mC G4 call78
theorem uv (hS:S W0 m w L TL) {p0}(a1:RV (kSl (aj .u8)) m v0 p0) {r}(h:iS p0=some r):
    Calls prog 78 #[v0] w (Ret λv w'=>∃m',M.le m m'/\S W0 m' w' L TL/\RV (aj .u32) m' v r):=by
 refine rm (G4 W0 m w L TL [v0] (p0,()) r [] [] hS ⟨a1,trivial⟩ h) λv w' he=>?_;obtain⟨m',us,Lr,Lq,Tr,Z,J,rfl,W,hO⟩:=he;obtain⟨u0,us,rfl,r0,a0⟩:=cH W;obtain⟨rfl,rfl,rfl⟩:=bF a0;have a2:=bj hO;obtain rfl:=bG a2;exact⟨m',Z,J,r0⟩
theorem G5:Ctr Sz prog 50 [.ap (.int .u8)] [.ap (.int .u8)] (λx=>jy x.1):=
 ncR [NK] [2] func50 ntmps50 .o λx=>by kernel_rfl
def NL:=mC G5 call50
theorem xe (hS:S W0 m w L ((1,v0)::TL)) {p0}(a1:RV (kSl (aj .u8)) m v0 p0) {r}(h:jy p0=some r):
    Calls prog 50 #[v0] w (Ret λv w'=>∃m',M.le m m'/\S W0 m' w' L ((1,v)::TL)/\RV (kSl (aj .u8)) m' v r):=by
 refine rm (G5 W0 m w L TL [v0] (p0,()) r [] [(1,v0)] hS ⟨a1,rfl,trivial⟩ h) λv w' he=>?_;obtain⟨m',us,Lr,Lq,Tr,Z,J,rfl,W,hO⟩:=he;obtain⟨u0,us,Tr,rfl,rfl,r0,a0⟩:=pW W;obtain⟨rfl,rfl,rfl⟩:=bF a0;have a2:=GO hO;obtain rfl:=bG a2;exact⟨m',Z,J,r0⟩
theorem NM:Ctr Sz prog 15 [.rd (.int .i64),.rd (.sl (.st 32))] [.rd (.sl (.int .u8)),.rd (.int .i64)] (λx=>lQ x.1 x.2.1):=
 ncR [NE,yB,NG,NJ,NL] [4,5] func15 ntmps15 .o λx=>by kernel_rfl
theorem yj (hS:S W0 m w L TL) {p0}(a1:inR .i64 p0) {p1}(W:RV (kSl kAp) m v1 p1) {r}(h:lQ p0 p1=some r):
    Calls prog 15 #[(.int .i64 p0),v1] w (Ret λv w'=>∃m',M.le m m'/\S W0 m' w' L TL/\∃v0_ v1_:Value,v= .tuple #[v0_,v1_]/\RV (kSl (aj .u8)) m' v0_ r.1/\RV (aj .i64) m' v1_ r.2):=by
 refine rm (NM W0 m w L TL [(.int .i64 p0),v1] (p0,p1,()) r [] [] hS ⟨au a1,⟨W,trivial⟩⟩ h) λv w' he=>?_;obtain⟨m',us,Lr,Lq,Tr,hm,J,rfl,Z,hO⟩:=he;obtain⟨u0,us,rfl,r0,a2⟩:=cH Z;obtain⟨u1,us,rfl,r1,a0⟩:=cH a2;obtain⟨rfl,rfl,rfl⟩:=bF a0;have a3:=bj hO;have a4:=bj a3;obtain rfl:=bG a4;exact⟨m',hm,J,u0,u1,rfl,r0,r1⟩
theorem vc (hS:S W0 m w L TL) {p0}(g5:inR .i64 p0) {p1}(f5:RV (kSl kAp) m v1 p1) {r}(h:jE p0 p1=some r):
    Calls prog 76 #[(.int .i64 p0),v1] w (Ret λv w'=>∃m',M.le m m'/\S W0 m' w' L ((1,v)::TL)/\RV (kSl (aj .u8)) m' v r):=by
 refine Dn func76 rfl ntmps76 (Q1 rfl) λa E=>?_;have E:Env 28 a [(0,.int .i64 p0),(1,v1)]:=E;unfold jE at h;refine ab (ai ?_);refine st E (j3 (k:=(aj .i64)) E hS rfl (au g5)) rfl ?_;rintro _ a w ⟨Z,a2,rfl,g6,hS⟩ E;refine qA E rfl λa E=>ag (ab (ai ?_));refine st E (cP hS zeroValue24 rfl (cs:=[(.slice none 0 0)])) rfl ?_;rintro _ a w ⟨b6,rfl,hS⟩ E;refine ag (ab (ab (ai (qM E rfl λa E=>?_))));obtain⟨r9,e9,h⟩:=ob h;refine st E (az (vs:=[v1,(.int .i64 64)]) E rfl call134 (sw (hS:=hS) f5 (show inR .i64 64 from ax (by decide)) e9)) rfl ?_;rintro e3 a w ⟨f6,c5,hS,e5⟩ E
 refine ag (aY ?_);obtain⟨b2,g3,h⟩:=ob h;refine A6 (Rv:=(Rv1 (kSl kAp))) (λ(s:List Int) (x:List Ap)=>eh p0 s x) (λ_=> .ret) [] (λ(m':M) (s:List Int) (b3:Mem) (b0:Tls)=>∃(J:Value),M.le f6 m'/\RV (kSl (aj .u8)) m' J s/\b3=[(b6,[J]),(Z,a2)]/\b0=[(1,J)]) (Ls:=[(b6,[(.slice none 0 0)]),(Z,a2)]) (TLs:=[(1,.slice none 0 0)]) (s0:=([]:(List Int))) (sf:=b2.1) (bf:=b2.2) E (hS.tail0 1) rfl e5 (by decide) (λ_ _ _ h=>A5 h) (by rintro j4 h9 s_ a_ b_ n_ ⟨J,d2,g4,e8,e4⟩;exact⟨J,d2.trans n_,g4.mono n_,e8,e4⟩) ⟨(.slice none 0 0),Jn _,c8,rfl,rfl⟩ g3 ?_ ?_
 {
 intro l2 k3 W0 k4 w L TL s_ b3 b0 j1 c3 c4 c2 a i1 l1 a5 hS h4 h E f0;obtain⟨c7,rfl⟩:∃x,x=s_:=⟨_,rfl⟩
 obtain⟨J,c6,b4,rfl,rfl⟩:=a5;have h:eh p0 c7 c3=some (c4,c2):=h;unfold eh at h;obtain⟨a9,rfl,b5⟩:=h4;refine ai (qA E rfl λa E=>ag ?_);obtain⟨e7,hS⟩:=f0 _ _ _ _ hS;refine⟨e7,?_⟩;refine aY (ab (ai ?_));refine st E (aB E hS ty3 rfl (i:=1) rfl (aJ ((aj .i64).mono (zh c5 c6) g6))) rfl ?_;rintro i3 a _ ⟨rfl,e6⟩ E;obtain⟨rfl,c1⟩:=aK e6;refine qA E rfl λa E=>ag (ab (ab (ai (qM E rfl λa E=>qM E rfl λa E=>?_))));obtain⟨h8,g0,h⟩:=ob h;refine st E (az (vs:=[(.int .i64 p0),a9]) E rfl call135 (AG (hS:=hS) c1 b5 g0)) rfl ?_
 rintro i2 a w ⟨f4,a1,hS,h0⟩ E;obtain rfl:=dU h0;refine sp E (kw E rfl) rfl λa E=>ag ?_;refine cF (λa w=>∃a0:Int,fJ c7 c3 a0=some (c4,c2)/\∃m',M.le f4 m'/\inR .i64 a0/\S W0 m' w ((b6,[J])::(Z,a2)::L) ((1,J)::TL)/\Env 28 a [(2,pz Z),(5,pz b6),(6,a9),(7,.int .i64 a0),(11,e3)]) ?_ ?_
 {
 refine kif E rfl (λa4=>?_) (λa4=>?_)
 {have h:=aD a4 h;refine ai (qA E rfl λa E=>ag ?_);exact⟨(-1),h,_,(Jn _),(show inR .i64 (-1) from ax (by decide)),hS,kut E⟩}
 {have h:=aH a4 h;refine aW ?_;exact⟨p0,h,_,(Jn _),c1,hS,kut E⟩}}
 {
 rintro a w ⟨a0,h,h7,W,g1,hS,E⟩;unfold fJ at h;refine ab (ai (qM E rfl λa E=>qM E rfl λa E=>?_));obtain⟨k0,e1,h⟩:=ob h;refine st E (az (vs:=[(.int .i64 a0),a9]) E rfl call15 (yj (hS:=hS) g1 (b5.mono (zh a1 W)) e1)) rfl ?_;rintro _ a w ⟨j2,a3,hS,h6,i4,rfl,h2,f3⟩ E;obtain⟨rfl,k6⟩:=aK f3;refine qM E rfl λa E=>sp E (cl E rfl rfl) rfl λa E=>sp E (cl E rfl rfl) rfl λa E=>qA E rfl λa E=>qA E rfl λa E=>ag (ai (sp E (xv (k:=(aj .u8)) E hS Gy rfl (i:=0) rfl (b4.mono (zh a1 (zh W a3)))) rfl λa E=>qM E rfl λa E=>?_))
 obtain⟨k5,g2,h⟩:=ob h;refine st E (jp (k:=(aj .u8)) (N:=140737488355328) E hS rfl rfl underlying24 underlying24 el5 (i:=0) rfl (b4.mono (zh a1 (zh W a3))) h2 g2 rfl rfl) rfl ?_;rintro a6 a w ⟨k7,c0,hS,d1⟩ E;refine st0 E (BV (k:=(aj .u8)) E hS Gy rfl rfl d1 (i:=0) rfl) ?_;rintro _ w hS E;refine ag ?_;cases h
 try dsimp only
 exact⟨rfl,_,[(b6,[a6]),(Z,a2)],[(1,a6)],(zh a1 (zh W (zh a3 c0))),⟨a6,(zh c6 (zh a1 (zh W (zh a3 c0)))),d1,rfl,rfl⟩,hS⟩}}
 {
 intro h5 i5 w a b3 b0 h1 E a5 hS h3 e0;obtain⟨i0,_,d0,rfl,rfl⟩:=a5;obtain⟨W0,b7⟩:∃W9,W9=W0.put h5 (.deferred (some [])):=⟨_,rfl⟩
 rw[←b7] at hS;rcases zw b2.2 with hb86|hb86
 {
 have h:=aD hb86 h;rw[if_pos hb86];refine ab (ai (sp E (xv (k:=(aj .u8)) E hS Gy rfl (i:=0) rfl d0) rfl λa E=>qA E rfl λa E=>ag (bq ?_)));obtain rfl:=oi h
 try dsimp only
 have hS:=hS;rw[b7] at hS;refine yY.shut E hS h3 e0 λa w hS E=>?_;refine yY.nil E ?_;refine f1 E ?_;exact⟨_,(zh c5 h1),((hS.dropL 2).pickT 1 [0] rfl rfl rfl),d0⟩}
 {have h:=aH hb86 h;cases h}}
theorem wg (hS:S W0 m w L TL) {p0}(f3:inR .i64 p0) {p1}(b1:RV (kSl (aj .i64)) m v1 p1) {p2}(e8:RV (kSl (aj .i64)) m v2 p2) {p3}(f6:RV (kSl ah) m v3 p3) {r}(h:gI p0 p1 p2 p3=some r):
    Calls prog 31 #[(.int .i64 p0),v1,v2,v3] w (Ret λv w'=>∃m',M.le m m'/\S W0 m' w' L TL/\∃v0_ v1_:Value,v= .tuple #[v0_,v1_]/\RV (kSl (aj .u8)) m' v0_ r.1/\RV (aj .i64) m' v1_ r.2):=by
 refine kc func31 ntmps31 λa E=>?_;have E:Env 88 a [(0,.int .i64 p0),(1,v1),(2,v2),(3,v3)]:=E;unfold gI at h;refine ab (ai (qA E rfl λa E=>qA E rfl λa E=>ag (ab (ai (qM E rfl λa E=>qM E rfl λa E=>qM E rfl λa E=>?_)))));obtain⟨r6,o3,h⟩:=ob h;refine st E (az (vs:=[(.int .i64 p0),v1,v3]) E rfl call74 (jo (hS:=hS) f3 b1 f6 o3)) rfl ?_;rintro u0 a w ⟨m8,a1,hS,l2⟩ E;obtain⟨rfl,l3⟩:=aK l2;refine qA E rfl λa E=>ag (ab (ab (ai (qM E rfl λa E=>qB E rfl rfl oI λa E=>ag (kif E rfl (λc4=>?_) (λc4=>?_))))))
 {
 have h:=aD c4 h;refine ab (ai (qM E rfl λa E=>qA E rfl λa E=>qA E rfl λa E=>ag (bq ?_)));obtain rfl:=oi h
 try dsimp only
 refine f2 E ?_;exact⟨_,a1,hS,_,_,rfl,c8,(au l3)⟩}
 {
 have h:=aH c4 h;refine aW (ab (ai (qM E rfl λa E=>qM E rfl λa E=>?_)));obtain⟨a6,m4,h⟩:=ob h;refine st E (az (vs:=[v1,v3]) E rfl call27 (pI (hS:=hS) (b1.mono a1) (f6.mono a1) m4)) rfl ?_;rintro a4 a w ⟨q1,a9,hS,c0⟩ E;refine qA E rfl λa E=>ag (ab (ai ?_))
 refine st E (Hm (k:=(aj .u8)) (xs:=[72,65,89,49]) (vs:=[(.int .u8 72),(.int .u8 65),(.int .u8 89),(.int .u8 49)]) E hS rfl underlying24 sizeOf5 zeroValue5 ⟨(au (show inR .u8 72 from ax (by decide))),(au (show inR .u8 65 from ax (by decide))),(au (show inR .u8 89 from ax (by decide))),(au (show inR .u8 49 from ax (by decide))),trivial⟩ rfl (by decide)) rfl ?_;rintro p8 a w ⟨r2,Z,hS,h1,r4,_,k3,i2,k0⟩ E;refine st E (Fi E hS rfl underlying24 underlying5 k3 i2 k0 (i:=0) rfl) rfl ?_;rintro q3 a _ ⟨rfl,hS⟩ E
 refine qM E rfl λa E=>sp E (fj E rfl underlying3 underlying5 rfl) rfl λa E=>qM E rfl λa E=>sp E (aV (k:=(aj .i64)) E rfl rfl underlying49 (b1.mono (zh a1 (zh a9 Z)))) rfl λa E=>sp E (fj E rfl underlying3 underlying5 rfl) rfl λa E=>?_;refine st E (jq (k:=(aj .u8)) (xs:=[Q5.wrap p0,Q5.wrap (p1.length:Int)]) (vs:=[(.int .u8 (Q5.wrap p0)),(.int .u8 (Q5.wrap (p1.length:Int)))]) E hS rfl underlying24 sizeOf5 zeroValue5 ⟨(au (aI _ _)),(au (aI _ _)),trivial⟩ rfl (by decide)) rfl ?_;rintro t9 a w ⟨w0,a0,hS,h7⟩ E;obtain⟨s1,g5,h⟩:=ob h
 refine st E (jp (k:=(aj .u8)) (N:=140737488355328) E hS rfl rfl underlying24 underlying24 el5 (i:=1) rfl (h1.mono a0) h7 g5 rfl rfl) rfl ?_;rintro h8 a w ⟨f4,a2,hS,k6⟩ E;refine qA E rfl λa E=>ag (ab (ab (ai (qM E rfl λa E=>sp E (aV (k:=(aj .i64)) E rfl rfl underlying49 (b1.mono (zh a1 (zh a9 (zh Z (zh a0 a2)))))) rfl λa E=>qM E rfl λa E=>ag ?_))));refine cF (λa w=>∃c5:(List Int),io p0 p2 a6 c5=some r/\∃m',M.le f4 m'/\∃(b4:Value),RV (kSl (aj .u8)) m' b4 c5/\S W0 m' w L ((1,b4)::TL)/\Env 88 a [(0,.int .i64 p0),(2,v2),(3,a4),(11,b4)]) ?_ ?_
 {
 refine aY ?_;refine eX h (λ(s:List Int×Int) a w=>∃m',M.le f4 m'/\∃(b2:Value),RV (kSl (aj .u8)) m' b2 s.1/\inR .i64 s.2/\S W0 m' w L ((1,b2)::TL)/\Env 88 a [(0,.int .i64 p0),(2,v2),(3,a4),(11,b2),(36,v1),(37,.int .i64 (p1.length:Int)),(38,.int .i64 s.2)]) ?_ ?_
 {exact⟨_,(Jn _),h8,k6,(show inR .i64 0 from ax (by decide)),(hS.pickT 2 [1] rfl rfl rfl),kut E⟩}
 {
 rintro ⟨g1,e6⟩ a w ⟨s2,d2,b2,f0,r3,hS,E⟩ r188 h hb189;have h:ip p0 p1 p2 a6 g1 e6=some r188:=h;unfold ip at h;refine ab (ai (qB E rfl rfl cz λa E=>ag (ab (kif E rfl (λd1=>?_) (λd1=>?_)))))
 {
 have h:=aD d1 h;refine aW (ab (aY (ab (ai ?_))));obtain⟨f5,j2,h⟩:=ob h;refine st E (dx (k:=(aj .i64)) E rfl rfl underlying49 sizeOf3 (b1.mono (zh a1 (zh a9 (zh Z (zh a0 (zh a2 d2)))))) j2) rfl ?_;rintro p6 a _ ⟨rfl,h4⟩ E;refine st E (bh E hS ty3 rfl h4) rfl ?_;rintro r0 a _ ⟨rfl,i3⟩ E;obtain⟨rfl,p7⟩:=aK i3;refine qA E rfl λa E=>ag (ai (qM E rfl λa E=>qM E rfl λa E=>sp E (fj E rfl underlying3 underlying5 rfl) rfl λa E=>?_))
 refine st E (jq (k:=(aj .u8)) (xs:=[Q5.wrap f5]) (vs:=[(.int .u8 (Q5.wrap f5))]) E hS rfl underlying24 sizeOf5 zeroValue5 ⟨(au (aI _ _)),trivial⟩ rfl (by decide)) rfl ?_;rintro p5 a w ⟨q0,e0,hS,m9⟩ E;obtain⟨m7,k5,h⟩:=ob h;refine st E (jp (k:=(aj .u8)) (N:=140737488355328) E hS rfl rfl underlying24 underlying24 el5 (i:=1) rfl (f0.mono e0) m9 k5 rfl rfl) rfl ?_;rintro m6 a w ⟨q4,m2,hS,m1⟩ E;refine qA E rfl λa E=>ag (ai (qB E rfl rfl (cy rfl) λa E=>qM E rfl λa E=>ag ?_))
 exact⟨(m7,Q0.wrap (e6+1)),(Option.some.inj h).symm,_,(zh d2 (zh e0 m2)),m6,m1,(aI _ _),(hS.pickT 2 [1] rfl rfl rfl),kut E⟩}
 {have h:=aH d1 h;refine eJ rfl rfl ?_;have h:=cG h hb189;exact⟨g1,h,_,d2,b2,f0,hS,kut E⟩}}}
 {
 rintro a w ⟨c5,h,s3,a3,b4,g6,hS,E⟩;unfold io at h;refine ab (ai (qM E rfl λa E=>qM E rfl λa E=>sp E (aV (k:=ah) E rfl rfl underlying50 (c0.mono (zh Z (zh a0 (zh a2 a3))))) rfl λa E=>?_));obtain⟨q6,n3,h⟩:=ob h;refine st E (az (vs:=[b4,(.int .i64 (a6.length:Int))]) E rfl call75 (nI (hS:=hS) g6 (dR (ic (c0.mono (zh Z (zh a0 (zh a2 a3)))))) n3)) rfl ?_;rintro n1 a w ⟨e5,b5,hS,h9⟩ E;refine qA E rfl λa E=>ag (ab (ab (ai (qM E rfl λa E=>qB E rfl rfl (cy rfl) λa E=>qM E rfl λa E=>ag ?_))))
 refine cF (λa w=>∃c6:(List Int),im c6=some r/\∃m',M.le e5 m'/\∃(a5:Value),RV (kSl (aj .u8)) m' a5 c6/\S W0 m' w L ((1,a5)::TL)/\Env 88 a [(11,a5)]) ?_ ?_
 {
 refine aY ?_;refine eX h (λ(s:List Int×Int) a w=>∃m',M.le e5 m'/\∃(W:Value),RV (kSl (aj .u8)) m' W s.1/\inR .i64 s.2/\S W0 m' w L ((1,W)::TL)/\Env 88 a [(0,.int .i64 p0),(2,v2),(3,a4),(11,W),(53,.int .i64 (Q0.wrap (p0+3))),(54,.int .i64 s.2)]) ?_ ?_
 {exact⟨_,(Jn _),n1,h9,(show inR .i64 0 from ax (by decide)),hS,kut E⟩}
 {
 rintro ⟨b6,J⟩ a w ⟨n0,b0,W,e7,j1,hS,E⟩ r107 h hb108;have h:f9 p0 p2 a6 b6 J=some r107:=h;unfold f9 at h;refine ab (ai (qB E rfl rfl cz λa E=>ag (ab (kif E rfl (λc7=>?_) (λc7=>?_)))))
 {
 have h:=aD c7 h;refine aW (ab (aY (ab (ai (qM E rfl λa E=>qA E rfl λa E=>ag (ab (ai ?_)))))));refine qA E rfl λa E=>ag (ab (ab ?_));refine cF (λa w=>∃c3:Bool,eO p0 p2 a6 b6 J c3=some r107/\∃m',M.le n0 m'/\S W0 m' w L ((1,W)::TL)/\Env 88 a [(0,.int .i64 p0),(2,v2),(3,a4),(11,W),(14,.int .i64 J),(15,.int .i64 (-1)),(53,.int .i64 (Q0.wrap (p0+3))),(54,.int .i64 J),(65,.bool c3)]) ?_ ?_
 {
 refine ai (qM E rfl λa E=>qM E rfl λa E=>qB E rfl rfl cz λa E=>qM E rfl λa E=>?_);rcases zw (decide (J<p0)) with hd174|hd174
 {have h:=aD hd174 h;refine qG E hd174 rfl λa E=>qG E hd174 rfl λa E=>spg E rfl rfl rfl rfl hd174 (aV (k:=(aj .i64)) E rfl rfl underlying49 (e8.mono (zh a1 (zh a9 (zh Z (zh a0 (zh a2 (zh a3 (zh b5 b0))))))))) rfl λa E=>spg E rfl rfl rfl rfl hd174 (be E rfl rfl cz) rfl λa E=>qT E hd174 rfl λa E=>ag ?_;exact⟨(decide (J<(p2.length:Int))),h,_,(Jn _),hS,kut E⟩}
 {have h:=aH hd174 h;refine qX E hd174 λa E=>qX E hd174 λa E=>qX E hd174 λa E=>qX E hd174 λa E=>qF E hd174 rfl λa E=>ag ?_;exact⟨false,h,_,(Jn _),hS,kut E⟩}}
 {
 rintro a w ⟨c3,h,h6,b7,hS,E⟩;unfold eO at h;refine cF (λa w=>∃b3:Int,f8 p0 a6 b6 J b3=some r107/\∃m',M.le h6 m'/\inR .i64 b3/\S W0 m' w L ((1,W)::TL)/\Env 88 a [(0,.int .i64 p0),(2,v2),(3,a4),(11,W),(14,.int .i64 J),(15,.int .i64 b3),(53,.int .i64 (Q0.wrap (p0+3))),(54,.int .i64 J)]) ?_ ?_
 {
 refine kif E rfl (λc1=>?_) (λc1=>?_)
 {have h:=aD c1 h;refine ai (qM E rfl λa E=>qM E rfl λa E=>?_);obtain⟨h5,j4,h⟩:=ob h;refine st E (dx (k:=(aj .i64)) E rfl rfl underlying49 sizeOf3 (e8.mono (zh a1 (zh a9 (zh Z (zh a0 (zh a2 (zh a3 (zh b5 (zh b0 b7))))))))) j4) rfl ?_;rintro q7 a _ ⟨rfl,h0⟩ E;refine st E (bh E hS ty3 rfl h0) rfl ?_;rintro w2 a _ ⟨rfl,h3⟩ E;obtain⟨rfl,i4⟩:=aK h3;refine qA E rfl λa E=>ag ?_;exact⟨h5,h,_,(Jn _),i4,hS,kut E⟩}
 {have h:=aH c1 h;refine aW ?_;exact⟨(-1),h,_,(Jn _),(show inR .i64 (-1) from ax (by decide)),hS,kut E⟩}}
 {
 rintro a w ⟨b3,h,t5,d0,g4,hS,E⟩;unfold f8 at h;refine ab (ai (qM E rfl λa E=>qM E rfl λa E=>qM E rfl λa E=>qM E rfl λa E=>?_));obtain⟨r5,n4,h⟩:=ob h;refine st E (az (vs:=[(.int .i64 p0),(.int .i64 J),a4]) E rfl call77 (vb (hS:=hS) f3 j1 (c0.mono (zh Z (zh a0 (zh a2 (zh a3 (zh b5 (zh b0 (zh b7 d0)))))))) n4)) rfl ?_;rintro n2 a w ⟨q2,e1,hS,n6⟩ E;obtain⟨h2,i1,h⟩:=ob h;refine st E (az (vs:=[(.int .i64 b3),n2]) E rfl call76 (vc (hS:=hS) g4 n6 i1)) rfl ?_;rintro w3 a w ⟨r7,e9,hS,c2⟩ E
 refine qA E rfl λa E=>ag (ai (qM E rfl λa E=>qM E rfl λa E=>sp E (aV (k:=(aj .u8)) E rfl rfl underlying24 c2) rfl λa E=>?_));obtain⟨t4,l4,h⟩:=ob h;refine st E (az (vs:=[W,(.int .i64 (h2.length:Int))]) E rfl call75 (nI (hS:=(hS.pickT 3 [2,0,1] rfl rfl rfl)) (e7.mono (zh b7 (zh d0 (zh e1 e9)))) (dR (ic c2)) l4)) rfl ?_;rintro r8 a w ⟨u2,e3,hS,k7⟩ E;refine qM E rfl λa E=>?_;obtain⟨g3,l1,h⟩:=ob h
 refine st E (jp (k:=(aj .u8)) (N:=140737488355328) E hS rfl rfl underlying24 underlying24 el5 (i:=0) rfl k7 (c2.mono e3) l1 rfl rfl) rfl ?_;rintro g2 a w ⟨w1,k4,hS,i0⟩ E;refine qA E rfl λa E=>ag (ai (qB E rfl rfl (cy rfl) λa E=>qM E rfl λa E=>ag ?_));exact⟨(g3,Q0.wrap (J+1)),(Option.some.inj h).symm,_,(zh b0 (zh b7 (zh d0 (zh e1 (zh e9 (zh e3 k4)))))),g2,i0,(aI _ _),(hS.pickT 3 [0] rfl rfl rfl),kut E⟩}}}
 {have h:=aH c7 h;refine eJ rfl rfl ?_;have h:=cG h hb108;exact⟨b6,h,_,b0,W,e7,hS,kut E⟩}}}
 {
 rintro a w ⟨c6,h,t0,o1,a5,g0,hS,E⟩;unfold im at h;refine ab (ai (qM E rfl λa E=>qM E rfl λa E=>?_));obtain⟨i5,m3,h⟩:=ob h;refine st E (az (vs:=[a5]) E rfl call78 (uv (hS:=hS) g0 m3)) rfl ?_;rintro u1 a w ⟨t3,e4,hS,o0⟩ E;obtain⟨rfl,r9⟩:=aK o0;refine sp E (fj E rfl underlying55 underlying3 rfl) rfl λa E=>?_;obtain⟨q5,o2,h⟩:=ob h;refine st E (az (vs:=[a5,(.int .i64 (Q0.wrap i5))]) E rfl call75 (nI (hS:=hS) (g0.mono e4) (aI _ _) o2)) rfl ?_;rintro t1 a w ⟨r1,m5,hS,p4⟩ E;refine qA E rfl λa E=>qA E rfl λa E=>ag (bq ?_);obtain rfl:=oi h
 try dsimp only
 refine f2 E ?_;exact⟨_,(zh a1 (zh a9 (zh Z (zh a0 (zh a2 (zh a3 (zh b5 (zh o1 (zh e4 m5))))))))),(hS.dropT 1),_,_,rfl,p4,(au (show inR .i64 0 from ax (by decide)))⟩}}}
theorem NN:Ctr Sz prog 31 [.rd (.int .i64),.rd (.sl (.int .i64)),.rd (.sl (.int .i64)),.rd (.sl (.st 59))] [.rd (.sl (.int .u8)),.rd (.int .i64)] (λx=>gI x.1 x.2.1 x.2.2.1 x.2.2.2.1):=by
 intro W0 m w L TL vs x r Lp Tp hS hP h;obtain⟨v0,vs,rfl,a0,a5⟩:=it hP;obtain⟨rfl,J⟩:=aK a0;obtain⟨v1,vs,rfl,a1,a9⟩:=it a5;obtain⟨v2,vs,rfl,a2,a4⟩:=it a9;obtain⟨v3,vs,rfl,a3,a6⟩:=it a4;obtain⟨rfl,rfl,rfl⟩:=lL a6;refine rm (wg (hS:=hS) J a1 a2 a3 h) λv w' he=>?_;obtain⟨m',Z,W,u0,u1,rfl,r0,r1⟩:=he;exact⟨m',[u0,u1],[],[],[],Z,W,rfl,⟨r0,⟨r1,trivial⟩⟩,trivial⟩
def NO:=mC NN call31
theorem NQ:Ctr Sz prog 82 [.rd (.sl (.int .u8))] [.rd (.int .i64)] (λx=>dv x.1):=
 ncR [] [2] func82 ntmps82 .o λx=>by kernel_rfl
theorem j0 (hS:S W0 m w L TL) {p0}(a1:RV (kSl (aj .u8)) m v0 p0) {r}(h:dv p0=some r):
    Calls prog 82 #[v0] w (Ret λv w'=>∃m',M.le m m'/\S W0 m' w' L TL/\RV (aj .i64) m' v r):=by
 refine rm (NQ W0 m w L TL [v0] (p0,()) r [] [] hS ⟨a1,trivial⟩ h) λv w' he=>?_;obtain⟨m',us,Lr,Lq,Tr,Z,J,rfl,W,hO⟩:=he;obtain⟨u0,us,rfl,r0,a0⟩:=cH W;obtain⟨rfl,rfl,rfl⟩:=bF a0;have a2:=bj hO;obtain rfl:=bG a2;exact⟨m',Z,J,r0⟩
end
open Go.Proofs Tryz
section
variable {W0:Bse}{m:M}{w:World}{L:List (Nat×List Value)}{TL:List (Nat×Value)}{v0 v1 v2 v3 v4 v5 v6 v7 v8 v9:Value}
theorem sM  {Z:Nat}(hS:S W0 m w ((Z,qr)::L) (TL)) {p1}(b5:RV (kSl (aj .u8)) m v1 p1) {r}(h:gM p1=some r):
    Calls prog 83 #[(pz Z),v1] w (Ret λv w'=>∃m',M.le m m'/\∃q0_:List Value,S W0 m' w' ((Z,q0_)::L) (TL)/\bp.R m' q0_ r.2.2.2/\∃v0_ v1_ v2_:Value,v= .tuple #[v0_,v1_,v2_]/\RV (aj .i64) m' v0_ r.1/\RV (kSl (aj .u8)) m' v1_ r.2.1/\RV cj m' v2_ r.2.2.1):=by
 refine kc func83 ntmps83 λa E=>?_;have E:Env 83 a [(0,pz Z),(1,v1)]:=E;unfold gM at h;refine ab (ai (qA E rfl λa E=>qA E rfl λa E=>qA E rfl λa E=>ag (ab (ab ?_))));refine cF (λa w=>∃x6:Bool,dY p1 x6=some r/\∃m',M.le m m'/\S W0 m' w ((Z,qr)::L) (TL)/\Env 83 a [(0,pz Z),(1,v1),(21,.bool x6)]) ?_ ?_
 {
 refine ai (qM E rfl λa E=>sp E (aV (k:=(aj .u8)) E rfl rfl underlying24 b5) rfl λa E=>qB E rfl rfl cz λa E=>qM E rfl λa E=>?_);rcases zw (decide ((p1.length:Int)<6)) with hd355|hd355
 {have h:=aD hd355 h;refine qX E hd355 λa E=>qX E hd355 λa E=>qX E hd355 λa E=>qX E hd355 λa E=>qX E hd355 λa E=>qX E hd355 λa E=>qT E hd355 rfl λa E=>ag ?_;exact⟨true,h,_,(Jn _),hS,kut E⟩}
 {
 have h:=aH hd355 h;refine qG E hd355 rfl λa E=>?_;obtain⟨y1,r9,h⟩:=ob h;refine stg E rfl rfl rfl rfl hd355 (dJ (k:=(aj .u8)) E rfl underlying24 sizeOf5 b5 rfl ⟨_,rfl⟩ r9 (xl:=none) (xh:=(some (.const (.int .i64 4))))) rfl ?_;rintro u1 a _ ⟨rfl,o3⟩ E;obtain⟨q4,k7,h⟩:=ob h;refine stg E rfl rfl rfl rfl hd355 (Hl E rfl underlying178 o3 k7) rfl ?_;rintro s2 a _ ⟨rfl,k4⟩ E;refine stg E rfl rfl rfl rfl hd355 (bh E hS MT rfl k4) rfl ?_;rintro t9 a _ ⟨rfl,m1⟩ E
 refine stg E rfl rfl rfl rfl hd355 (Dp (m:=m) E rfl underlying178 sizeOf5 zeroValue178 (show inR .u8 72 from ax (by decide)) (show inR .u8 65 from ax (by decide)) (show inR .u8 89 from ax (by decide)) (show inR .u8 49 from ax (by decide))) rfl ?_;rintro x7 a _ ⟨rfl,j1⟩ E;refine spg E rfl rfl rfl rfl hd355 (sU E MU rfl rfl m1 j1 rfl) rfl λa E=>qF E hd355 rfl λa E=>ag ?_;exact⟨(!decide (q4=(72,65,89,49))),h,_,(Jn _),hS,kut E⟩}}
 {
 rintro a w ⟨x6,h,m4,b2,hS,E⟩;unfold dY at h;refine kif E rfl (λf3=>?_) (λf3=>?_)
 {
 have h:=aD f3 h;refine ab (ai (qA E rfl λa E=>qA E rfl λa E=>qA E rfl λa E=>ag (bq ?_)));obtain rfl:=oi h
 try dsimp only
 refine Fin.mk E (rs:=[.tmp 4,.tmp 5,.tmp 6]) rfl (o9.tmp E rfl (o9.tmp E rfl (o9.tmp E rfl o9.nil))) ?_;exact⟨_,b2,qr,hS,(yA _),_,_,_,rfl,(au (show inR .i64 0 from ax (by decide))),c8,dA⟩}
 {
 have h:=aH f3 h;refine aW (ab (ai (qM E rfl λa E=>qM E rfl λa E=>?_)));obtain⟨y3,h8,h⟩:=ob h;refine st E (dx (k:=(aj .u8)) E rfl rfl underlying24 sizeOf5 (b5.mono b2) h8) rfl ?_;rintro x4 a _ ⟨rfl,n3⟩ E;refine st E (bh E hS ty5 rfl n3) rfl ?_;rintro t0 a _ ⟨rfl,r0⟩ E;obtain⟨rfl,y0⟩:=aK r0;refine sp E (fj E rfl underlying5 underlying3 rfl) rfl λa E=>sp E (bV E rfl) rfl λa E=>sp E (aG E mA rfl) rfl λa E=>?_;refine st0 E (Dq E hS ty3 BG rfl rfl (au (aI _ _)) (i:=0) rfl (yA _)) ?_;rintro _ w ⟨g1,g3,q5,hS⟩ E;have r2:=q5 1 _ rfl (by decide)
 refine ag (ab (ai (qM E rfl λa E=>?_)));obtain⟨a1,k3,h⟩:=ob h;refine st E (dx (k:=(aj .u8)) E rfl rfl underlying24 sizeOf5 (b5.mono b2) k3) rfl ?_;rintro s1 a _ ⟨rfl,i1⟩ E;refine st E (bh E hS ty5 rfl i1) rfl ?_;rintro u2 a _ ⟨rfl,n6⟩ E;obtain⟨rfl,w1⟩:=aK n6;refine sp E (fj E rfl underlying5 underlying3 rfl) rfl λa E=>qA E rfl λa E=>ag (ab (ai (qM E rfl λa E=>?_)));obtain⟨g6,n2,h⟩:=ob h;refine st E (dJ (k:=(aj .u8)) E rfl underlying24 sizeOf5 (b5.mono b2) ⟨_,rfl⟩ rfl n2 (xl:=(some (.const (.int .i64 6)))) (xh:=none)) rfl ?_
 rintro a5 a _ ⟨rfl,b7⟩ E;refine qA E rfl λa E=>ag (ab (ab (ai (qM E rfl λa E=>sp E (aV (k:=(aj .u8)) E rfl rfl underlying24 b7) rfl λa E=>qM E rfl λa E=>qB E rfl rfl (cy rfl) λa E=>qB E rfl rfl cz λa E=>?_))));refine ag (kif E rfl (λc4=>?_) (λc4=>?_))
 {
 have h:=aD c4 h;refine ab (ai (qA E rfl λa E=>qA E rfl λa E=>qA E rfl λa E=>ag (bq ?_)));obtain rfl:=oi h
 try dsimp only
 refine Fin.mk E (rs:=[.tmp 4,.tmp 5,.tmp 6]) rfl (o9.tmp E rfl (o9.tmp E rfl (o9.tmp E rfl o9.nil))) ?_;exact⟨_,b2,g1,hS,g3,_,_,_,rfl,(au (show inR .i64 0 from ax (by decide))),c8,dA⟩}
 {
 have h:=aH c4 h;refine aW (ab (ab (ai (qM E rfl λa E=>qM E rfl λa E=>?_))));obtain⟨g0,m6,h⟩:=ob h;refine st E (dJ (k:=(aj .u8)) E rfl underlying24 sizeOf5 b7 rfl ⟨_,rfl⟩ m6 (xl:=none) (xh:=(some (.tmp 41)))) rfl ?_;rintro m5 a _ ⟨rfl,h2⟩ E;refine sp E (aV (k:=(aj .u8)) E rfl rfl underlying24 h2) rfl λa E=>qM E rfl λa E=>ag ?_;refine cF (λa w=>∃a4:ay,gS a1 g6 a4=some r/\∃m',M.le m4 m'/\∃(a6:List Value),∃(a2:Value),bp.R m' a6 a4/\a6[1]? =some a2/\S W0 m' w ((Z,a6)::L) ((1,a2)::TL)/\Env 83 a [(0,pz Z),(1,a5),(7,.int .i64 (Q0.wrap a1))]) ?_ ?_
 {
 refine aY ?_;refine eX h (λ(s:Int×ay) a w=>∃m',M.le m4 m'/\∃(b6:List Value),∃(b4:Value),inR .i64 s.1/\bp.R m' b6 s.2/\b6[1]? =some b4/\S W0 m' w ((Z,b6)::L) ((1,b4)::TL)/\Env 83 a [(0,pz Z),(1,a5),(7,.int .i64 (Q0.wrap a1)),(42,m5),(43,.int .i64 (g0.length:Int)),(44,.int .i64 s.1)]) ?_ ?_
 {exact⟨_,(Jn _),g1,(.slice none 0 0),(show inR .i64 0 from ax (by decide)),g3,r2,(hS.tail0 1),kut E⟩}
 {
 rintro ⟨g4,x308⟩ a w ⟨w3,f0,b6,b4,y2,c3,c5,hS,E⟩ r313 h hb314;have h:fC a1 g6 g0 g4 x308=some r313:=h;unfold fC at h;refine ab (ai (qB E rfl rfl cz λa E=>ag (ab (kif E rfl (λd1=>?_) (λd1=>?_)))))
 {
 have h:=aD d1 h;refine aW (ab (aY (ab (ai ?_))));obtain⟨h1,m8,h⟩:=ob h;refine st E (dx (k:=(aj .u8)) E rfl rfl underlying24 sizeOf5 (h2.mono f0) m8) rfl ?_;rintro x5 a _ ⟨rfl,i4⟩ E;refine st E (bh E hS ty5 rfl i4) rfl ?_;rintro y4 a _ ⟨rfl,p8⟩ E;obtain⟨rfl,t4⟩:=aK p8
 refine qA E rfl λa E=>ag (ai (qM E rfl λa E=>qM E rfl λa E=>sp E (bV E rfl) rfl λa E=>sp E (aG E nG rfl) rfl λa E=>sp E (rH (k:=(aj .i64)) (xx:=x308.fSort) (v:=b4) E hS tO rfl (i:=0) rfl (w8.R_drop (aJ c3)) c5) rfl λa E=>qM E rfl λa E=>sp E (fj E rfl underlying5 underlying3 rfl) rfl λa E=>?_));refine st E (jq (k:=(aj .i64)) (xs:=[Q0.wrap h1]) (vs:=[(.int .i64 (Q0.wrap h1))]) E hS rfl underlying49 sizeOf3 zeroValue3 ⟨(au (aI _ _)),trivial⟩ rfl (by decide)) rfl ?_;rintro w2 a w ⟨s3,e8,hS,r3⟩ E;obtain⟨i3,l2,h⟩:=ob h
 refine st E (jp (k:=(aj .i64)) (N:=17592186044416) E hS rfl rfl underlying49 underlying49 el3 (i:=1) rfl ((yr (k:=(aj .i64)) (w8.R_drop (aJ c3)) c5).mono e8) r3 l2 rfl rfl) rfl ?_;rintro p3 a w ⟨x3,h0,hS,q1⟩ E;refine sp E (bV E rfl) rfl λa E=>sp E (aG E nG rfl) rfl λa E=>?_;refine st0 E (BX E hS tO BH rfl rfl q1 (i:=0) rfl (bp.mono (zh e8 h0) c3)) ?_;rintro _ w ⟨h6,j2,m9,hS⟩ E;refine ag (ai (qB E rfl rfl (cy rfl) λa E=>qM E rfl λa E=>ag ?_))
 exact⟨(Q0.wrap (g4+1),{ x308 with fSort:=i3 }),(Option.some.inj h).symm,_,(zh f0 (zh e8 h0)),h6,p3,(aI _ _),j2,m9,(hS.pickT 2 [1] rfl rfl rfl),kut E⟩}
 {have h:=aH d1 h;refine eJ rfl rfl ?_;have h:=cG h hb314;exact⟨x308,h,_,f0,b6,b4,c3,c5,hS,kut E⟩}}}
 {
 rintro a w ⟨a4,h,w4,c0,a6,a2,b0,c2,hS,E⟩;unfold gS at h;refine ab (ai (qM E rfl λa E=>qM E rfl λa E=>?_));obtain⟨t5,r7,h⟩:=ob h;refine st E (dJ (k:=(aj .u8)) E rfl underlying24 sizeOf5 (b7.mono c0) ⟨_,rfl⟩ rfl r7 (xl:=(some (.tmp 61))) (xh:=none)) rfl ?_;rintro e4 a _ ⟨rfl,k0⟩ E;obtain⟨a0,q2,h⟩:=ob h;refine st E (az (vs:=[e4]) E rfl call82 (j0 (hS:=hS) k0 q2)) rfl ?_;rintro t3 a w ⟨e9,a3,hS,q6⟩ E;obtain⟨rfl,e3⟩:=aK q6;refine qA E rfl λa E=>ag (ab ?_)
 refine cF (λa w=>∃c1:Int,∃e7:(List Int),∃f5:Bool,fA a4 c1 e7 f5=some r/\∃m',M.le e9 m'/\∃(f4:Value),inR .i64 c1/\RV (kSl (aj .u8)) m' f4 e7/\S W0 m' w ((Z,a6)::L) ((1,a2)::TL)/\Env 83 a [(4,.int .i64 c1),(5,f4),(6,.bool f5)]) ?_ ?_
 {
 obtain⟨b3,g2,b1,f6,h⟩:=ob2 h;rcases zw (b1==0) with hd105|hd105
 {
 have h:=aD hd105 h
 refine kch (k:=21) (m:=e9) (es:=[]) (Φ:=(λi m ws v=>match i with|0=>ei .i64 a0 v|1=>v=a5|2=>ei .i64 (Q0.wrap a1) v|3=>ei .i64 (Q0.wrap ((Q0.wrap a1)+4)) v|4=>RV (kSl (aj .u8)) m v b3|5=>v=(pz Z)|6=>v=(pz Z)|7=>v=(pz Z)|8=>ei .i64 a4.fColumns v|9=>v=(pz Z)|10=>v=(pz Z)|11=>v=(.pointer (some ⟨Z,1,none⟩))|12=>v=a2|13=>ei .i64 b1 v|14=>v=(.bool (b1==0))|15=>v=(.bool (b1==0))|16=>ei .i64 a0 v|17=>v=(.bool (decide (a0<=4096)))|18=>v=(.bool (decide (a0<=4096)))|19=>ei .i64 a0 v|20=>RV (kSl (aj .u8)) m v b3|_=>True)) (Q:=(λc m ws L' e6=>match c with|0=>(Z,a6)::L=L'/\(1,a2)::TL=e6|_=>False)) (cs:=[xV [(10,.int .i64 a0)],xV [(1,a5)],xV [(7,.int .i64 (Q0.wrap a1))],xV [],xV [],xV [(0,pz Z)],xV [],xV [],xV [],xV [(0,pz Z)],xV [],xV [],xV [],xV [],xV [],xV [],xV [(10,.int .i64 a0)],xV [],xV [],xV [],xV []]) mixed E hS ⟨rfl,rfl⟩ rfl rfl (by kernel_rfl) ?_ ?_ ?_ ?_
 {
 intro i m_ e1 ws v n_ q_
 iterate 21 (rcases i with _|i;first|exact q_|exact RV.mono q_ n_)
 exact trivial}
 {
 intro c m_ e1 ws L_ T_ n_ a9
 match c,a9 with
 |0,⟨d2,d0⟩=>exact⟨d2,d0⟩
 |_+1,a9=>exact a9.elim}
 {
 refine⟨?_,?_,?_,?_,?_,?_,?_,?_,?_,?_,?_,?_,?_,?_,?_,?_,?_,?_,?_,?_,?_,trivial⟩
 {exact cmv λ_ _=>⟨rfl,e3⟩}
 {exact cmv λ_ _=>rfl}
 {exact cmv λ_ _=>⟨rfl,(aI _ _)⟩}
 {refine cp0 λ_ _ _ _ _ _ _ _ _ J W T'=>?_;have E:=W.add (T' 2).1;exact cq (be E rfl rfl (cy rfl)) J ⟨rfl,(aI _ _)⟩}
 {refine cp0 λ_ _ _ _ _ _ _ M' _ J W T'=>?_;have E:=(W.add (T' 1)).add (T' 3).1;exact cr (dJ (k:=(aj .u8)) E rfl underlying24 sizeOf5 (b7.mono (zh c0 (zh a3 M'))) ⟨_,rfl⟩ rfl g2 (xl:=(some (.tmp 67))) (xh:=none)) J λ_ h=>h}
 {exact cmv λ_ _=>rfl}
 {refine cp0 λ_ _ _ _ _ _ _ _ _ J W T'=>?_;have E:=W.add (T' 5);exact cq (bV E rfl) J rfl}
 {refine cp0 λ_ _ _ _ _ _ _ _ _ J W T'=>?_;have E:=W.add (T' 6);exact cq (aG E mA rfl) J rfl}
 {refine cp1 λ_ _ _ _ _ M' Q' J W T'=>?_;obtain⟨rfl,rfl⟩:=Q';have E:=W.add (T' 7);exact cr (aB E J ty3 rfl (i:=0) rfl (BF.R_drop (aJ (bp.mono (zh a3 M') b0)))) J λ_ h=>aK h}
 {exact cmv λ_ _=>rfl}
 {refine cp0 λ_ _ _ _ _ _ _ _ _ J W T'=>?_;have E:=W.add (T' 9);exact cq (bV E rfl) J rfl}
 {refine cp0 λ_ _ _ _ _ _ _ _ _ J W T'=>?_;have E:=W.add (T' 10);exact cq (aG E nG rfl) J rfl}
 {refine cp1 λ_ _ _ _ _ M' Q' J W T'=>?_;obtain⟨rfl,rfl⟩:=Q';have E:=W.add (T' 11);exact cq (rH (k:=(aj .i64)) (xx:=a4.fSort) (v:=a2) E J tO rfl (i:=0) rfl (w8.R_drop (aJ (bp.mono (zh a3 M') b0))) c2) J rfl}
 {refine cp0 λ_ _ _ _ _ _ _ M' _ J W T'=>?_;obtain⟨r1,q3⟩:=T' 8;have E:=(W.add r1).add (T' 12);refine aM.imp (az (vs:=[(.int .i64 a4.fColumns),a2,(.slice none 0 0)]) E rfl call74 (jo (hS:=J) q3 ((yr (k:=(aj .i64)) (w8.R_drop (aJ (bp.mono a3 b0))) c2).mono M') c8 f6)) ?_;rintro x2 w ⟨o0,e5,hS,c6⟩;obtain⟨rfl,m3⟩:=aK c6;exact⟨_,e5,hS,⟨rfl,m3⟩⟩}
 {refine cp0 λ_ _ _ _ _ _ _ _ _ J W T'=>?_;have E:=W.add (T' 13).1;exact cq (be E rfl rfl iK) J rfl}
 {refine cp0 λ_ _ _ _ _ _ _ _ _ J W T'=>?_;have E:=W.add (T' 14);exact cq (iJ E rfl) J rfl}
 {exact cgm (gz hd105) (λ_ _=>⟨rfl,e3⟩)}
 {refine cg0 (gz hd105) λ_ _ _ _ _ _ _ _ _ J W T'=>?_;have E:=W.add (T' 16).1;exact cq (be E rfl rfl GG) J rfl}
 {refine cp0 λ_ _ _ _ _ _ _ _ _ J W T'=>?_;have E:=(W.add (T' 15)).add (T' 17);exact cq (qL E rfl hd105 rfl) J rfl}
 {refine cp0 λ_ _ _ _ _ _ _ _ _ J W T'=>?_;obtain⟨r5,p5⟩:=T' 0;have E:=W.add r5;exact cq (kH E rfl) J ⟨rfl,p5⟩}
 {refine cp0 λ_ _ _ m' a' _ _ _ _ J W T'=>?_;obtain⟨t1,E,p7⟩:=adv W (T' 4);exact cq (kH E rfl) J p7}}
 {intro p6 L_ T_ w0 a w n4 n1 j4 hS r8 m7 p4 e0;obtain rfl:=gQ n4;obtain⟨rfl,rfl⟩:=j4;have E:=eof 21 [(0,pz Z),(1,a5),(7,.int .i64 (Q0.wrap a1)),(10,.int .i64 a0),(60,a5),(61,.int .i64 (Q0.wrap a1)),(62,e4),(63,.int .i64 a0)] r8 m7 p4;have E:=E.add (e0 18);obtain⟨l4,p2⟩:=e0 19;have E:=E.add l4;obtain⟨o2,E,i2⟩:=adv E (e0 20);refine qA E rfl λa E=>ag ?_;exact⟨a0,b3,(decide (a0<=4096)),h,_,n1,o2,p2,i2,hS,kut E⟩}}
 {
 have h:=aH hd105 h
 refine kch (k:=21) (m:=e9) (es:=[]) (Φ:=(λi m ws v=>match i with|0=>ei .i64 a0 v|1=>v=a5|2=>ei .i64 (Q0.wrap a1) v|3=>ei .i64 (Q0.wrap ((Q0.wrap a1)+4)) v|4=>RV (kSl (aj .u8)) m v b3|5=>v=(pz Z)|6=>v=(pz Z)|7=>v=(pz Z)|8=>ei .i64 a4.fColumns v|9=>v=(pz Z)|10=>v=(pz Z)|11=>v=(.pointer (some ⟨Z,1,none⟩))|12=>v=a2|13=>ei .i64 b1 v|14=>v=(.bool (b1==0))|15=>v=(.bool (b1==0))|16=>v=undef|17=>v=undef|18=>v=(.bool false)|19=>ei .i64 a0 v|20=>RV (kSl (aj .u8)) m v b3|_=>True)) (Q:=(λc m ws L' e6=>match c with|0=>(Z,a6)::L=L'/\(1,a2)::TL=e6|_=>False)) (cs:=[xV [(10,.int .i64 a0)],xV [(1,a5)],xV [(7,.int .i64 (Q0.wrap a1))],xV [],xV [],xV [(0,pz Z)],xV [],xV [],xV [],xV [(0,pz Z)],xV [],xV [],xV [],xV [],xV [],xV [],xV [(10,.int .i64 a0)],xV [],xV [],xV [],xV []]) mixed E hS ⟨rfl,rfl⟩ rfl rfl (by kernel_rfl) ?_ ?_ ?_ ?_
 {
 intro i m_ e1 ws v n_ q_
 iterate 21 (rcases i with _|i;first|exact q_|exact RV.mono q_ n_)
 exact trivial}
 {
 intro c m_ e1 ws L_ T_ n_ a9
 match c,a9 with
 |0,⟨d2,d0⟩=>exact⟨d2,d0⟩
 |_+1,a9=>exact a9.elim}
 {
 refine⟨?_,?_,?_,?_,?_,?_,?_,?_,?_,?_,?_,?_,?_,?_,?_,?_,?_,?_,?_,?_,?_,trivial⟩
 {exact cmv λ_ _=>⟨rfl,e3⟩}
 {exact cmv λ_ _=>rfl}
 {exact cmv λ_ _=>⟨rfl,(aI _ _)⟩}
 {refine cp0 λ_ _ _ _ _ _ _ _ _ J W T'=>?_;have E:=W.add (T' 2).1;exact cq (be E rfl rfl (cy rfl)) J ⟨rfl,(aI _ _)⟩}
 {refine cp0 λ_ _ _ _ _ _ _ M' _ J W T'=>?_;have E:=(W.add (T' 1)).add (T' 3).1;exact cr (dJ (k:=(aj .u8)) E rfl underlying24 sizeOf5 (b7.mono (zh c0 (zh a3 M'))) ⟨_,rfl⟩ rfl g2 (xl:=(some (.tmp 67))) (xh:=none)) J λ_ h=>h}
 {exact cmv λ_ _=>rfl}
 {refine cp0 λ_ _ _ _ _ _ _ _ _ J W T'=>?_;have E:=W.add (T' 5);exact cq (bV E rfl) J rfl}
 {refine cp0 λ_ _ _ _ _ _ _ _ _ J W T'=>?_;have E:=W.add (T' 6);exact cq (aG E mA rfl) J rfl}
 {refine cp1 λ_ _ _ _ _ M' Q' J W T'=>?_;obtain⟨rfl,rfl⟩:=Q';have E:=W.add (T' 7);exact cr (aB E J ty3 rfl (i:=0) rfl (BF.R_drop (aJ (bp.mono (zh a3 M') b0)))) J λ_ h=>aK h}
 {exact cmv λ_ _=>rfl}
 {refine cp0 λ_ _ _ _ _ _ _ _ _ J W T'=>?_;have E:=W.add (T' 9);exact cq (bV E rfl) J rfl}
 {refine cp0 λ_ _ _ _ _ _ _ _ _ J W T'=>?_;have E:=W.add (T' 10);exact cq (aG E nG rfl) J rfl}
 {refine cp1 λ_ _ _ _ _ M' Q' J W T'=>?_;obtain⟨rfl,rfl⟩:=Q';have E:=W.add (T' 11);exact cq (rH (k:=(aj .i64)) (xx:=a4.fSort) (v:=a2) E J tO rfl (i:=0) rfl (w8.R_drop (aJ (bp.mono (zh a3 M') b0))) c2) J rfl}
 {refine cp0 λ_ _ _ _ _ _ _ M' _ J W T'=>?_;obtain⟨i5,l3⟩:=T' 8;have E:=(W.add i5).add (T' 12);refine aM.imp (az (vs:=[(.int .i64 a4.fColumns),a2,(.slice none 0 0)]) E rfl call74 (jo (hS:=J) l3 ((yr (k:=(aj .i64)) (w8.R_drop (aJ (bp.mono a3 b0))) c2).mono M') c8 f6)) ?_;rintro x9 w ⟨o0,e5,hS,c6⟩;obtain⟨rfl,q7⟩:=aK c6;exact⟨_,e5,hS,⟨rfl,q7⟩⟩}
 {refine cp0 λ_ _ _ _ _ _ _ _ _ J W T'=>?_;have E:=W.add (T' 13).1;exact cq (be E rfl rfl iK) J rfl}
 {refine cp0 λ_ _ _ _ _ _ _ _ _ J W T'=>?_;have E:=W.add (T' 14);exact cq (iJ E rfl) J rfl}
 {exact csk (gz hd105)}
 {exact csk (gz hd105)}
 {refine cp0 λ_ _ _ _ _ _ _ _ _ J W T'=>?_;have E:=(W.add (T' 15)).add (T' 17);exact cq (qN E rfl hd105 rfl) J rfl}
 {refine cp0 λ_ _ _ _ _ _ _ _ _ J W T'=>?_;obtain⟨m2,h9⟩:=T' 0;have E:=W.add m2;exact cq (kH E rfl) J ⟨rfl,h9⟩}
 {refine cp0 λ_ _ _ m' a' _ _ _ _ J W T'=>?_;obtain⟨u0,E,r6⟩:=adv W (T' 4);exact cq (kH E rfl) J r6}}
 {intro p6 L_ T_ x8 a w h7 r4 k5 hS i0 q0 h4 c7;obtain rfl:=gQ h7;obtain⟨rfl,rfl⟩:=k5;have E:=eof 21 [(0,pz Z),(1,a5),(7,.int .i64 (Q0.wrap a1)),(10,.int .i64 a0),(60,a5),(61,.int .i64 (Q0.wrap a1)),(62,e4),(63,.int .i64 a0)] i0 q0 h4;have E:=E.add (c7 18);obtain⟨k6,h3⟩:=c7 19;have E:=E.add k6;obtain⟨l1,E,n0⟩:=adv E (c7 20);refine qA E rfl λa E=>ag ?_;exact⟨a0,b3,false,h,_,r4,l1,h3,n0,hS,kut E⟩}}}
 {
 rintro a w ⟨c1,e7,f5,h,x1,g5,f4,h5,o1,hS,E⟩;unfold fA at h;refine bq ?_;obtain rfl:=oi h
 try dsimp only
 refine Fin.mk E (rs:=[.tmp 4,.tmp 5,.tmp 6]) rfl (o9.tmp E rfl (o9.tmp E rfl (o9.tmp E rfl o9.nil))) ?_;exact⟨_,(zh b2 (zh c0 (zh a3 g5))),a6,(hS.dropT 1),(bp.mono (zh a3 g5) b0),_,_,_,rfl,(au h5),o1,dA⟩}}}}}
theorem LS:Ctr Sz prog 195 [.rd (.sl (.int .u8))] [.rd (.int .u64)] (λx=>nO x.1):=
 ncR [] [2] func195 ntmps195 (.s .o (.s .o (.s (.s .o (.b (.l ⟨[.v 3 1 (.dat (.int .u64) none),.v 5 1 (.dat (.int .i64) none)],[0],0,[]⟩ .o))) .o))) λx=>by kernel_rfl
def LT:=mC LS call195
theorem LU:Ctr Sz prog 183 [.rd (.sl (.int .u8))] [.rd (.st 32),.rd (.sl (.int .u8)),.rd .bool] (λx=>qa x.1):=
 nxR [Aw,wb,EP,EQ,LT] [.cell 2 32,.tmp 3,.tmp 4] func183 ntmps183 .o λx=>by kernel_rfl
def LV:=mC LU call183
theorem LW:Ctr Sz prog 163 [.rd (.sl (.int .u8))] [.rd (.sl (.st 32)),.rd (.int .i64)] (λx=>kp x.1):=
 ncR [LV] [2,3] func163 ntmps163 (.s .o (.s .o (.s .o (.s .o (.s (.s .o (.b (.l ⟨[.v 0 1 (.dat (.sl (.int .u8)) none),.v 4 1 (.dat (.sl (.st 32)) (some 0)),.v 25 1 (.dat (.int .i64) none)],[24],0,[4]⟩ .o))) .o))))) λx=>by kernel_rfl
def EZ:=mC LW call163
theorem LX:Ctr Sz prog 119 [.rd (.sl (.int .u8))] [.rd (.st 32),.rd (.sl (.int .u8)),.rd .bool] (λx=>kq x.1):=
 nxR [EZ] [.cell 2 32,.tmp 3,.tmp 4] func119 ntmps119 (.s .o (.s (.s .o (.b (.l ⟨[.v 5 1 (.dat (.int .i64) none)],[0,2],1,[]⟩ .o))) .o)) λx=>by kernel_rfl
def LY:=mC LX call119
theorem NR:Ctr Sz prog 57 [.rd (.sl (.int .u8))] [.rd (.st 34),.rd (.sl (.int .u8)),.rd .bool] (λx=>iT x.1):=
 nxR [LY] [.cell 2 34,.tmp 3,.tmp 4] func57 ntmps57 .o λx=>by kernel_rfl
theorem AH (hS:S W0 m w L TL) {p0}(a2:RV (kSl (aj .u8)) m v0 p0) {r}(h:iT p0=some r):
    Calls prog 57 #[v0] w (Ret λv w'=>∃m',M.le m m'/\S W0 m' w' L TL/\∃v0_ v1_ v2_:Value,v= .tuple #[v0_,v1_,v2_]/\RV cw m' v0_ r.1/\RV (kSl (aj .u8)) m' v1_ r.2.1/\RV cj m' v2_ r.2.2):=by
 refine rm (NR W0 m w L TL [v0] (p0,()) r [] [] hS ⟨a2,trivial⟩ h) λv w' he=>?_;obtain⟨m',us,Lr,Lq,Tr,Z,J,rfl,W,hO⟩:=he;obtain⟨u0,us,rfl,r0,a0⟩:=cH W;obtain⟨u1,us,rfl,r1,a1⟩:=cH a0;obtain⟨u2,us,rfl,r2,a4⟩:=cH a1;obtain⟨rfl,rfl,rfl⟩:=bF a4;have a3:=bj hO;obtain rfl:=bG a3;exact⟨m',Z,J,u0,u1,u2,rfl,r0,r1,r2⟩
theorem sN (hS:S W0 m w L TL) {p0}(J:RV (kSl (aj .u8)) m v0 p0) {r}(h:jk p0=some r):
    Calls prog 60 #[v0] w (Ret λv w'=>∃m',M.le m m'/\S W0 m' w' L ((1,v)::TL)/\RV (kSl (aj .u8)) m' v r):=by
 refine kc func60 ntmps60 λa E=>?_;have E:Env 8 a [(0,v0)]:=E;unfold jk at h;refine ab (ai (qA E rfl λa E=>ag (ab (ab (ai (qM E rfl λa E=>?_))))));refine st E (uE (k:=(aj .u8)) E rfl rfl J underlying24) rfl ?_;rintro v5 a _ ⟨rfl,b0,rfl,a3⟩ E;refine ag (kif E rfl (λZ=>?_) (λZ=>?_))
 {
 have a1:=a3 Z;have h:some ([])=some r:=by rw[a1] at h;exact h
 refine ab (ai (qA E rfl λa E=>ag (bq ?_)));obtain rfl:=oi h
 try dsimp only
 refine f1 E ?_;exact⟨_,(Jn _),((hS.dropT 0).tail0 1),c8⟩}
 {
 refine aW (ab (ai ?_));refine st E (jq (k:=(aj .u8)) (xs:=[]) (vs:=[]) E hS rfl underlying24 sizeOf5 zeroValue5 trivial rfl (by decide)) rfl ?_;rintro a9 a w ⟨m9,W,hS,a2⟩ E;refine qM E rfl λa E=>?_;obtain⟨a6,a0,h⟩:=ob h;refine st E (jp (k:=(aj .u8)) (N:=140737488355328) E hS rfl rfl underlying24 underlying24 el5 (i:=0) rfl a2 (J.mono W) a0 rfl rfl) rfl ?_;rintro b1 a w ⟨b2,a5,hS,a4⟩ E;refine qA E rfl λa E=>ag (bq ?_);obtain rfl:=oi h
 try dsimp only
 refine f1 E ?_;exact⟨_,(zh W a5),(hS.pickT 1 [0] rfl rfl rfl),a4⟩}
theorem G6:Ctr Sz prog 61 [.rd (.sl (.int .u8)),.rd (.sl (.int .u8))] [.rd .bool] (λx=>fH x.1 x.2.1):=
 ncR [] [4] func61 ntmps61 (.s .o (.s .o (.s (.s .o (.b (.l ⟨[.v 13 1 (.dat (.int .i64) none)],[0,1,12],0,[]⟩ .o))) .o))) λx=>by kernel_rfl
def NS:=mC G6 call61
theorem sO (hS:S W0 m w L TL) {p0}(a1:RV (kSl (aj .u8)) m v0 p0) {p1}(W:RV (kSl (aj .u8)) m v1 p1) {r}(h:fH p0 p1=some r):
    Calls prog 61 #[v0,v1] w (Ret λv w'=>∃m',M.le m m'/\S W0 m' w' L TL/\RV cj m' v r):=by
 refine rm (G6 W0 m w L TL [v0,v1] (p0,p1,()) r [] [] hS ⟨a1,⟨W,trivial⟩⟩ h) λv w' he=>?_;obtain⟨m',us,Lr,Lq,Tr,hm,J,rfl,Z,hO⟩:=he;obtain⟨u0,us,rfl,r0,a0⟩:=cH Z;obtain⟨rfl,rfl,rfl⟩:=bF a0;have a2:=bj hO;have a3:=bj a2;obtain rfl:=bG a3;exact⟨m',hm,J,r0⟩
theorem LZ:Ctr Sz prog 164 [.pt (.st 161)] [.rd (.st 32)] (λx=>cN x.1):=
 nxR [EZ] [.cell 2 32] func164 ntmps164 (.s .o (.s (.s .o (.b (.l ⟨[.v 3 1 (.dat (.int .i64) none)],[0,2],2,[]⟩ .o))) .o)) λx=>by kernel_rfl
def L2:=mC LZ call164
theorem L3:Ctr Sz prog 165 [.pt (.st 161),.rd (.int .i64)] [.rd (.sl (.int .u8))] (λx=>cm x.1 x.2.1):=
 ncR [] [4] func165 ntmps165 .o λx=>by kernel_rfl
def wh:=mC L3 call165
theorem L4:Ctr Sz prog 196 [.rd (.int .u32),.rd (.int .u32)] [.rd (.int .u32),.rd (.int .u32)] (λx=>Co x.1 x.2.1):=
 ncR [] [4,5] func196 ntmps196 .o λx=>by kernel_rfl
def L5:=mC L4 call196
theorem L6:Ctr Sz prog 197 [.rd (.int .u64),.rd (.int .u64)] [.rd (.int .u64),.rd (.int .u64)] (λx=>oN x.1 x.2.1):=
 ncR [] [4,5] func197 ntmps197 .o λx=>by kernel_rfl
def L7:=mC L6 call197
theorem L8:Ctr Sz prog 184 [.rd (.int .u64),.rd (.int .u64)] [.rd (.int .u64),.rd (.int .u64)] (λx=>rU x.1 x.2.1):=
 ncR [L5,L7] [4,5] func184 ntmps184 .o λx=>by kernel_rfl
theorem C4 (hS:S W0 m w L TL) {p0}(a1:inR .u64 p0) {p1}(W:inR .u64 p1) {r}(h:rU p0 p1=some r):
    Calls prog 184 #[(.int .u64 p0),(.int .u64 p1)] w (Ret λv w'=>∃m',M.le m m'/\S W0 m' w' L TL/\∃v0_ v1_:Value,v= .tuple #[v0_,v1_]/\RV (aj .u64) m' v0_ r.1/\RV (aj .u64) m' v1_ r.2):=by
 refine rm (L8 W0 m w L TL [(.int .u64 p0),(.int .u64 p1)] (p0,p1,()) r [] [] hS ⟨au a1,⟨au W,trivial⟩⟩ h) λv w' he=>?_;obtain⟨m',us,Lr,Lq,Tr,hm,J,rfl,Z,hO⟩:=he;obtain⟨u0,us,rfl,r0,a2⟩:=cH Z;obtain⟨u1,us,rfl,r1,a0⟩:=cH a2;obtain⟨rfl,rfl,rfl⟩:=bF a0;have a3:=bj hO;have a4:=bj a3;obtain rfl:=bG a4;exact⟨m',hm,J,u0,u1,rfl,r0,r1⟩
theorem ry (hS:S W0 m w L TL) {p0}(d0:RV (kSl kAp) m v0 p0) {p1}(j4:inR .i64 p1) {r}(h:em p0 p1=some r):
    Calls prog 166 #[v0,(.int .i64 p1)] w (Ret λv w'=>∃m',M.le m m'/\S W0 m' w' L TL/\RV (kSl kAp) m' v r):=by
 refine kc func166 ntmps166 λa E=>?_;have E:Env 48 a [(0,v0),(1,.int .i64 p1)]:=E;unfold em at h;refine ab (ai (qA E rfl λa E=>ag (ab (ab (ai (qM E rfl λa E=>qB E rfl rfl cz λa E=>ag ?_))))));refine cF (λa w=>gl p0 p1=some r/\∃m',M.le m m'/\S W0 m' w L TL/\Env 48 a [(0,v0),(1,.int .i64 p1)]) ?_ ?_
 {
 refine kif E rfl (λa6=>?_) (λa6=>?_)
 {have h:=aD a6 h;cases h}
 {have h:=aH a6 h;refine aW ?_;exact⟨h,_,(Jn _),hS,kut E⟩}}
 {
 rintro a w ⟨h,m4,b6,hS,E⟩;unfold gl at h;refine ab (ai (qM E rfl λa E=>sp E (aV (k:=kAp) E rfl rfl underlying22 (d0.mono b6)) rfl λa E=>sp E (fj E rfl underlying3 underlying94 rfl) rfl λa E=>qM E rfl λa E=>sp E (fj E rfl underlying3 underlying94 rfl) rfl λa E=>?_));obtain⟨a1,e9,h⟩:=ob h;refine st E (az (vs:=[(.int .u64 (Q4.wrap (p0.length:Int))),(.int .u64 (Q4.wrap p1))]) E rfl call184 (C4 (hS:=hS) (aI _ _) (aI _ _) e9)) rfl ?_;rintro _ a w ⟨h7,c4,hS,l1,i2,rfl,g2,g1⟩ E;obtain⟨rfl,k0⟩:=aK g2;obtain⟨rfl,j2⟩:=aK g1
 refine qM E rfl λa E=>sp E (cl E rfl rfl) rfl λa E=>sp E (cl E rfl rfl) rfl λa E=>qA E rfl λa E=>qA E rfl λa E=>ag (ab (ab ?_));refine cF (λa w=>∃c2:Bool,eD p0 a1 c2=some r/\∃m',M.le h7 m'/\S W0 m' w L TL/\Env 48 a [(0,v0),(6,.int .u64 a1.2),(26,.bool c2)]) ?_ ?_
 {
 refine ai (qM E rfl λa E=>qB E rfl rfl l6 λa E=>qM E rfl λa E=>?_);rcases zw (decide (0<a1.1)) with hd138|hd138
 {have h:=aD hd138 h;refine qX E hd138 λa E=>qX E hd138 λa E=>qT E hd138 rfl λa E=>ag ?_;exact⟨true,h,_,(Jn _),hS,kut E⟩}
 {have h:=aH hd138 h;refine qG E hd138 rfl λa E=>spg E rfl rfl rfl rfl hd138 (be E rfl rfl l6) rfl λa E=>qF E hd138 rfl λa E=>ag ?_;exact⟨(decide (9223372036854775807<a1.2)),h,_,(Jn _),hS,kut E⟩}}
 {
 rintro a w ⟨c2,h,h1,e0,hS,E⟩;unfold eD at h;refine cF (λa w=>gk p0 a1=some r/\∃m',M.le h1 m'/\S W0 m' w L TL/\Env 48 a [(0,v0),(6,.int .u64 a1.2)]) ?_ ?_
 {
 refine kif E rfl (λb3=>?_) (λb3=>?_)
 {have h:=aD b3 h;cases h}
 {have h:=aH b3 h;refine aW ?_;exact⟨h,_,(Jn _),hS,kut E⟩}}
 {
 rintro a w ⟨h,b7,c6,hS,E⟩;unfold gk at h;refine ab (ai (qM E rfl λa E=>sp E (fj E rfl underlying94 underlying3 rfl) rfl λa E=>?_));obtain⟨l2,e1,h⟩:=ob h;refine st E (yQ (k:=kAp) (m:=b7) E hS rfl rfl underlying22 type32 rfl rfl rfl (λm=>oC m) e1 rfl rfl) rfl ?_;rintro W a w ⟨Z,k7,d1,hS⟩ E;refine qA E rfl λa E=>ag (ab (ai (qM E rfl λa E=>qM E rfl λa E=>?_)));refine st E (yS (k:=kAp) E hS rfl rfl underlying22 sizeOf32 (i:=0) rfl d1 (d0.mono (zh b6 (zh c4 (zh e0 c6))))) rfl ?_;rintro k5 a _ ⟨rfl,e6,h0,hS⟩ E;refine qA E rfl λa E=>ag (ab ?_)
 refine cF (λa w=>∃b1:(List Ap),gh b1=some r/\∃m',M.le b7 m'/\∃(b2:Value),RV (kSl kAp) m' b2 b1/\S W0 m' w L TL/\Env 48 a [(7,b2)]) ?_ ?_
 {
 refine aY ?_;refine eX h (λ(s:Int×List Ap) a w=>∃m',M.le b7 m'/\∃(a4:List Value),inR .i64 s.1/\GS kAp m' Z a4 W s.2/\S W0 m' w ((Z,a4)::L) (TL)/\Env 48 a [(7,W),(8,.int .i64 s.1)]) ?_ ?_
 {exact⟨_,(Jn _),e6,(dR (Nat.le_trans (Nat.min_le_right _ _) (GS.len d1))),h0,hS,kut E⟩}
 {
 rintro ⟨J,a5⟩ a w ⟨g5,d2,a4,c1,a3,hS,E⟩ r65 h hb66;have h:gj J a5=some r65:=h;unfold gj at h;refine ab (ab (ai (qM E rfl λa E=>qM E rfl λa E=>sp E (pa (k:=kAp) E rfl rfl underlying22 a3) rfl λa E=>qB E rfl rfl cz λa E=>ag (kif E rfl (λb5=>?_) (λb5=>?_)))))
 {
 have h:=aD b5 h;refine aW (aY ?_);obtain⟨a0,g4,a2,h5,h⟩:=ob2 h;obtain⟨i3,e3,c5,f3,h⟩:=ob2 h
 refine kch (k:=8) (m:=g5) (es:=[7]) (Φ:=(λi m ws v=>match i with|0=>ei .i64 J v|1=>v=W|2=>ei .i64 J v|3=>VS Z 4 v a0.1 a0.2|4=>v=W|5=>ei .i64 J v|6=>VS Z 4 v a2.1 a2.2|7=>ei .i64 ((min a2.2 a0.2:Nat):Int) v|_=>True)) (Q:=(λc m ws L' c7=>match c with|0=>(Z,a4)::L=L'/\TL=c7|1=>(Z,(wi ws 0).c)::L=L'/\TL=c7/\GS kAp m Z (wi ws 0).c W c5|_=>False)) (cs:=[⟨0,1,false,[(8,.int .i64 J)]⟩,xV [(7,W)],xV [(8,.int .i64 J)],xV [],xV [(7,W)],xV [(8,.int .i64 J)],xV [],⟨0,0,true,[]⟩]) mixed E hS ⟨rfl,rfl⟩ rfl rfl (by kernel_rfl) ?_ ?_ ?_ ?_
 {
 intro i m_ f4 ws v n_ q_
 iterate 8 (rcases i with _|i;exact q_)
 exact trivial}
 {
 intro c m_ f4 ws L_ T_ n_ a9
 match c,a9 with
 |0,⟨b4,b0⟩=>exact⟨b4,b0⟩
 |1,⟨b4,b0,f0_⟩=>exact⟨b4,b0,(GS.mono f0_ n_)⟩
 |_+2,a9=>exact a9.elim}
 {
 refine⟨?_,?_,?_,?_,?_,?_,?_,?_,trivial⟩
 {exact cmv λ_ _=>⟨rfl,c1⟩}
 {exact cmv λ_ _=>rfl}
 {exact cmv λ_ _=>⟨rfl,c1⟩}
 {refine cp1 λ_ _ _ _ _ M' Q' Z' E' T'=>?_;obtain⟨rfl,rfl⟩:=Q';have E:=(E'.add (T' 1)).add (T' 2).1;exact cr (rG (k:=kAp) E rfl underlying22 sizeOf32 (a3.mono M') ⟨_,rfl⟩ rfl g4 (sz:=4) rfl (xl:=(some (.tmp 40))) (xh:=none)) Z' λ_ h=>h}
 {exact cmv λ_ _=>rfl}
 {exact cmv λ_ _=>⟨rfl,c1⟩}
 {refine cp1 λ_ _ _ _ _ M' Q' Z' E' T'=>?_;obtain⟨rfl,rfl⟩:=Q';have E:=(E'.add (T' 4)).add (T' 5).1;exact cr (rG (k:=kAp) E rfl underlying22 sizeOf32 (a3.mono M') rfl ⟨_,rfl⟩ h5 (sz:=4) rfl (xl:=none) (xh:=(some (.tmp 43)))) Z' λ_ h=>h}
 {
 refine yp λi4 L_ T_ m' a' w' e7 M' Q' Z' E' T'=>?_;obtain rfl:=gQ e7;obtain⟨rfl,rfl⟩:=Q';obtain⟨i5,f6,e5⟩:∃v,a'.tmps.getD 41 undef=v/\(VS Z 4 v a0.1 a0.2):=⟨_,rfl,T' 3 (by decide) 41 rfl⟩
 have E:=E'.add (f6);obtain⟨i1,e8,i0⟩:∃v,a'.tmps.getD 44 undef=v/\(VS Z 4 v a2.1 a2.2):=⟨_,rfl,T' 6 (by decide) 44 rfl⟩
 have E:=E.add (e8);refine aM.imp (Di (k:=kAp) E Z' rfl rfl underlying22 sizeOf32 (i:=0) rfl (a3.mono M') e5 i0 f3) ?_;rintro _ w ⟨rfl,c0,f0,hS⟩;exact⟨_,⟨0,undef,c0,[],[]⟩,_,_,Jn _,hS,⟨rfl,rfl,f0⟩,⟨rfl,(dR (Q1 (ng e3)))⟩⟩}}
 {intro k4 L_ T_ j1 a w h4 g0 g3 hS h3 e4 g6 c3;obtain⟨⟨_,_,c0,_,_⟩,rfl⟩:=yT h4;obtain⟨rfl,rfl,h2⟩:=g3;have E:=eof 8 [(7,W),(8,.int .i64 J),(34,.int .i64 J),(35,W),(36,.int .i64 (a5.length:Int)),(37,.bool (decide (J<(a5.length:Int))))] h3 e4 g6;have E:=(E.add (c3 0).1).add (c3 7).1;refine qB E rfl rfl (cy rfl) λa E=>qA E rfl λa E=>ag ?_;exact⟨(Q0.wrap (J+((min a2.2 a0.2:Nat):Int)),c5),(Option.some.inj h).symm,_,(zh d2 g0),c0,(aI _ _),h2,hS,kut E⟩}}
 {have h:=aH b5 h;obtain⟨k3,h8,hS,h6⟩:=S.freeze hS a3;refine eJ rfl rfl ?_;have h:=cG h hb66;exact⟨a5,h,_,(zh d2 h8),W,h6,hS,kut E⟩}}}
 {
 rintro a w ⟨b1,h,k6,f5,b2,h9,hS,E⟩;unfold gh at h;refine ab (ai (qM E rfl λa E=>qA E rfl λa E=>ag (bq ?_)));obtain rfl:=oi h
 try dsimp only
 refine f1 E ?_;exact⟨_,(zh b6 (zh c4 (zh e0 (zh c6 f5)))),hS,h9⟩}}}}
theorem L9:Ctr Sz prog 166 [.rd (.sl (.st 32)),.rd (.int .i64)] [.rd (.sl (.st 32))] (λx=>em x.1 x.2.1):=by
 intro W0 m w L TL vs x r Lp Tp hS hP h;obtain⟨v0,vs,rfl,a0,a2⟩:=it hP;obtain⟨v1,vs,rfl,a1,a3⟩:=it a2;obtain⟨rfl,W⟩:=aK a1;obtain⟨rfl,rfl,rfl⟩:=lL a3;refine rm (ry (hS:=hS) a0 W h) λv w' he=>?_;obtain⟨m',Z,J,r0⟩:=he;exact⟨m',[v],[],[],[],Z,J,rfl,⟨r0,trivial⟩,trivial⟩
def Ma:=mC L9 call166
theorem Mb:Ctr Sz prog 167 [.pt (.st 161)] [.rd (.int .u64)] (λx=>fw x.1):=
 ncR [wh] [2] func167 ntmps167 (.s .o (.s .o (.s (.s .o (.b (.l ⟨[.v 3 1 (.dat (.int .u64) none),.v 9 1 (.dat (.int .i64) none)],[7,8],1,[]⟩ .o))) .o))) λx=>by kernel_rfl
def Mc:=mC Mb call167
theorem Md:Ctr Sz prog 168 [.pt (.st 161)] [.rd (.int .u64)] (λx=>eo x.1):=
 ncR [wh] [2] func168 ntmps168 (.s .o (.s .o (.s (.s .o (.b (.l ⟨[.v 3 1 (.dat (.int .u64) none),.v 4 1 (.dat (.int .i64) none),.b 0 1 (.st 161)],[0],1,[]⟩ .o))) .o))) λx=>by kernel_rfl
def Me:=mC Md call168
theorem Mf:Ctr Sz prog 169 [.pt (.st 161),.rd (.int .i64),.rd (.int .i64)] [.rd (.sl (.int .u64))] (λx=>eE x.1 x.2.1 x.2.2.1):=
 ncR [wh] [6] func169 ntmps169 (.s .o (.s .o (.s .o (.s .o (.s (.s .o (.b (.l ⟨[.v 30 1 (.dat (.int .i64) none),.a 1 1 (.int .u64) none],[2,7,8,29],2,[]⟩ (.s .o (.s .o (.s (.b (.s .o (.s .o (.b (.l ⟨[.v 34 2 (.dat (.int .i64) none),.a 1 2 (.int .u64) none],[2,7,8,9,29,30,33],2,[]⟩ .o))))) .o)))))) .o))))) λx=>by kernel_rfl
def Mg:=mC Mf call169
theorem Mh:Ctr Sz prog 120 [.pt (.st 161),.rd (.int .i64),.rd (.int .i64)] [.ap (.st 32)] (λx=>br x.1 x.2.1 x.2.2.1):=
 ncR [wb,Lk,L2,wh,Ma,Mc,Me,Mg] [6] func120 ntmps120 (.s .o (.s .o (.s (.s .o (.b (.s .o (.i (.b (.l ⟨[.v 7 1 (.dat (.sl (.st 32)) (some 0)),.b 0 1 (.st 161)],[0,2],1,[4]⟩ .o)) (.s .o (.i (.b (.l ⟨[.v 7 1 (.dat (.sl (.st 32)) (some 0)),.b 0 1 (.st 161)],[0,2],1,[4]⟩ .o)) (.s .o (.i (.s .o (.s .o (.b (.l ⟨[.v 7 1 (.dat (.sl (.st 32)) (some 1)),.v 9 1 (.dat (.int .i64) none),.b 0 1 (.st 161)],[0,2],1,[4,4]⟩ .o)))) (.s .o (.i (.s .o (.s (.s .o (.b (.l ⟨[.v 11 1 (.dat (.sl (.st 32)) (some 0)),.v 131 1 (.dat (.int .u8) none),.b 0 1 (.st 161)],[0,2,7,130],1,[4]⟩ .o))) (.s .o (.b (.l ⟨[.v 7 1 (.dat (.sl (.st 32)) (some 1)),.v 149 1 (.dat (.int .i64) none)],[11,147,148],1,[4,4]⟩ .o))))) (.s .o (.s .o (.b (.l ⟨[.v 7 1 (.dat (.sl (.st 32)) (some 0)),.v 29 1 (.dat (.int .i64) none)],[14,27,28],1,[4]⟩ .o)))))))))))))) .o))) λx=>by kernel_rfl
def Mi:=mC Mh call120
theorem NT:Ctr Sz prog 62 [.rd (.int .i64),.rd (.sl (.int .u8)),.rd (.int .i64)] [.rd (.sl (.st 32)),.rd (.int .i64)] (λx=>j7 x.1 x.2.1 x.2.2.1):=
 ncR [yB,NS,Mi] [6,7] func62 ntmps62 .o λx=>by kernel_rfl
theorem wj (hS:S W0 m w L TL) {p0}(a4:inR .i64 p0) {p1}(a9:RV (kSl (aj .u8)) m v1 p1) {p2}(a2:inR .i64 p2) {r}(h:j7 p0 p1 p2=some r):
    Calls prog 62 #[(.int .i64 p0),v1,(.int .i64 p2)] w (Ret λv w'=>∃m',M.le m m'/\S W0 m' w' L TL/\∃v0_ v1_:Value,v= .tuple #[v0_,v1_]/\RV (kSl kAp) m' v0_ r.1/\RV (aj .i64) m' v1_ r.2):=by
 refine rm (NT W0 m w L TL [(.int .i64 p0),v1,(.int .i64 p2)] (p0,p1,p2,()) r [] [] hS ⟨au a4,⟨a9,⟨au a2,trivial⟩⟩⟩ h) λv w' he=>?_;obtain⟨m',us,Lr,Lq,Tr,Z,J,rfl,W,hO⟩:=he;obtain⟨u0,us,rfl,r0,a0⟩:=cH W;obtain⟨u1,us,rfl,r1,a3⟩:=cH a0;obtain⟨rfl,rfl,rfl⟩:=bF a3;have a5:=bj hO;have a6:=bj a5;have a1:=bj a6;obtain rfl:=bG a1;exact⟨m',Z,J,u0,u1,rfl,r0,r1⟩
theorem AJ (hS:S W0 m w L TL) {p0}(d2:RV (kSl (aj .u8)) m v0 p0) {r}(h:jR p0=some r):
    Calls prog 21 #[v0] w (Ret λv w'=>∃m',M.le m m'/\S W0 m' w' L TL/\∃v0_ v1_ v2_:Value,v= .tuple #[v0_,v1_,v2_]/\RV (kSl kAp) m' v0_ r.1/\RV (aj .i64) m' v1_ r.2.1/\RV (aj .i64) m' v2_ r.2.2):=by
 refine kc func21 ntmps21 λa E=>?_;have E:Env 71 a [(0,v0)]:=E;unfold jR at h;refine ab (ai (qA E rfl λa E=>qA E rfl λa E=>qA E rfl λa E=>ag (ab (ai (qM E rfl λa E=>?_)))));obtain⟨W,i4,h⟩:=ob h;refine st E (az (vs:=[v0]) E rfl call57 (AH (hS:=hS) d2 i4)) rfl ?_;rintro _ a w ⟨m7,a9,hS,d1,b4,p2,rfl,h1,k7,h4⟩ E;obtain rfl:=dU h4;refine qM E rfl λa E=>sp E (cl E rfl rfl) rfl λa E=>sp E (cl E rfl rfl) rfl λa E=>sp E (cl E rfl rfl) rfl λa E=>?_;refine st E (cP hS zeroValue34 rfl (cs:=sr)) rfl ?_;rintro _ a w ⟨a0,rfl,hS⟩ E
 refine st0 E (cD E hS u9 bO rfl rfl h1 (i:=0) rfl (u7 _)) ?_;rintro _ w ⟨b7,a3,hS⟩ E;refine qA E rfl λa E=>qA E rfl λa E=>ag (ab (ab (ai (qM E rfl λa E=>sp E (kw E rfl) rfl λa E=>ag (kif E rfl (λc7=>?_) (λc7=>?_))))))
 {
 have h:=aD c7 h;refine ab (ai (qA E rfl λa E=>qA E rfl λa E=>qA E rfl λa E=>ag (bq ?_)));obtain rfl:=oi h
 try dsimp only
 refine Fin.mk E (rs:=[.tmp 2,.tmp 3,.tmp 4]) rfl (o9.tmp E rfl (o9.tmp E rfl (o9.tmp E rfl o9.nil))) ?_;exact⟨_,a9,(hS.dropL 1),_,_,_,rfl,c8,(au (show inR .i64 0 from ax (by decide))),(au (show inR .i64 70 from ax (by decide)))⟩}
 {
 have h:=aH c7 h;refine aW (ab (ai (qM E rfl λa E=>sp E (aG E vY rfl) rfl λa E=>?_)));refine st E (aB E hS ty3 rfl (i:=0) rfl (JD.R_drop (aJ a3))) rfl ?_;rintro o2 a _ ⟨rfl,h3⟩ E;obtain⟨rfl,r6⟩:=aK h3;refine qB E rfl rfl (ku rfl) λa E=>?_;obtain⟨r4,g0,h⟩:=ob h;refine st E (dJ (k:=(aj .u8)) E rfl underlying24 sizeOf5 (d2.mono a9) rfl ⟨_,rfl⟩ g0 (xl:=none) (xh:=(some (.tmp 23)))) rfl ?_;rintro e9 a _ ⟨rfl,i5⟩ E;obtain⟨r7,n0,h⟩:=ob h;refine st E (az (vs:=[e9]) E rfl call60 (sN (hS:=hS) i5 n0)) rfl ?_;rintro b1 a w ⟨h5,Z,hS,g6⟩ E
 refine qA E rfl λa E=>ag (ab (ab ?_));obtain⟨e1,n2,m5,n1,h⟩:=ob2 h
 refine kch (k:=6) (m:=h5) (es:=[1]) (Φ:=(λi m ws v=>match i with|0=>v=b1|1=>v=(wi ws 0).v/\RV (kSl (aj .u8)) m v e1|2=>v=v0|3=>v=(.pointer (some ⟨a0,11,none⟩))|4=>ei .i64 W.1.fBytes v|5=>RV (kSl (aj .u8)) m v m5|_=>True)) (Q:=(λc m ws L' c0=>match c with|0=>(a0,b7)::L=L'/\(1,b1)::TL=c0|1=>(a0,b7)::L=L'/\(1,(wi ws 0).v)::TL=c0|_=>False)) (cs:=[xV [(8,b1)],⟨0,0,true,[]⟩,⟨0,1,false,[(0,v0)]⟩,⟨0,1,false,[(5,pz a0)]⟩,⟨0,1,false,[]⟩,⟨0,1,false,[]⟩]) mixed E hS ⟨rfl,rfl⟩ rfl rfl (by kernel_rfl) ?_ ?_ ?_ ?_
 {
 intro i m_ d0 ws v n_ q_
 iterate 6 (rcases i with _|i;first|exact q_|exact RV.mono q_ n_|exact⟨q_.1,RV.mono q_.2 n_⟩)
 exact trivial}
 {
 intro c m_ d0 ws L_ T_ n_ a5
 match c,a5 with
 |0,⟨b3,b2⟩=>exact⟨b3,b2⟩
 |1,⟨b3,b2⟩=>exact⟨b3,b2⟩
 |_+2,a5=>exact a5.elim}
 {
 refine⟨?_,?_,?_,?_,?_,?_,trivial⟩
 {exact cmv λ_ _=>rfl}
 {refine yp λp3 L_ T_ m' a' w' g5 M' Q' J E' T'=>?_;obtain rfl:=gQ g5;obtain⟨rfl,rfl⟩:=Q';have E:=E'.add (T' 0 (by decide) 26 rfl);refine aM.imp (az (vs:=[b1]) E rfl call50 (xe (hS:=J) (g6.mono M') n2)) ?_;rintro b5 w ⟨o3,k4,hS,n4⟩;exact⟨_,⟨0,b5,[],[],[]⟩,_,_,k4,hS,⟨rfl,rfl⟩,⟨rfl,n4⟩⟩}
 {exact cmv λ_ _=>rfl}
 {refine cp0 λ_ _ _ _ _ _ _ _ _ J E' _=>?_;exact cq (aG E' vY rfl) J rfl}
 {
 refine cp0 λ_ _ _ _ _ _ P' M' Q' J E' T'=>?_;rcases Mt (a:=0) (n:=0) P' with h0_|h0_
 {obtain rfl:=gQ h0_;obtain⟨rfl,rfl⟩:=Q';have E:=E'.add (T' 3);exact cr (aB E J ty3 rfl (i:=0) rfl (JD.R_drop (aJ (cw.mono (zh Z M') a3)))) J λ_ h=>aK h}
 {obtain⟨⟨_,b5,_,_,_⟩,post_',rfl,hp1_⟩:=h0_;obtain rfl:=gQ (Og (a:=0) hp1_);obtain⟨rfl,rfl⟩:=Q';have E:=E'.add (T' 3);exact cr (aB E J ty3 rfl (i:=0) rfl (JD.R_drop (aJ (cw.mono (zh Z M') a3)))) J λ_ h=>aK h}}
 {refine cp0 λ_ _ _ _ _ _ _ M' _ J E' T'=>?_;have E:=(E'.add (T' 2)).add (T' 4).1;exact cr (dJ (k:=(aj .u8)) E rfl underlying24 sizeOf5 (d2.mono (zh a9 (zh Z M'))) rfl ⟨_,rfl⟩ n1 (xl:=none) (xh:=(some (.tmp 30)))) J λ_ h=>h}}
 {
 intro m2 L_ T_ l3 a w h7 a1 m8 hS h8 h9 k0 e3;obtain⟨⟨_,b5,_,_,_⟩,rfl⟩:=yT h7;obtain⟨rfl,rfl⟩:=m8;have E:=eof 6 [(0,v0),(2,.slice none 0 0),(3,.int .i64 0),(4,.int .i64 0),(5,pz a0),(6,b4),(7,.bool W.2.2),(8,b1),(12,(.tuple #[d1,b4,(.bool W.2.2)])),(13,v0),(14,(.tuple #[d1,b4,(.bool W.2.2)])),(15,d1),(16,b4),(17,.bool W.2.2),(18,.bool W.2.2),(19,.bool (!W.2.2)),(20,v0),(21,.pointer (some ⟨a0,11,none⟩)),(22,.int .i64 W.1.fBytes),(23,.int .i64 (Q0.wrap (W.1.fBytes - 4))),(24,e9),(25,b1)] h8 h9 k0
 obtain⟨r1,m6,c1⟩:∃v,a.tmps.getD 27 undef=v/\(v=b5/\RV (kSl (aj .u8)) l3 v e1):=⟨_,rfl,e3 1⟩
 obtain⟨e8,c1⟩:=c1;rw[e8] at c1;have E:=E.add (m6.trans e8);obtain⟨l4,E,f4⟩:=adv E (e3 5);obtain⟨q1,k6,h⟩:=ob h;refine st E (az (vs:=[b5,l4]) E rfl call61 (sO (hS:=hS) c1 f4 k6)) rfl ?_;rintro q6 a w ⟨q4,a2,hS,i2⟩ E;obtain rfl:=dU i2;refine sp E (kw E rfl) rfl λa E=>ag (kif E rfl (λe0=>?_) (λe0=>?_))
 {
 have h:=aD e0 h;refine ab (ai (qA E rfl λa E=>qA E rfl λa E=>qA E rfl λa E=>ag (bq ?_)));obtain rfl:=oi h
 try dsimp only
 refine Fin.mk E (rs:=[.tmp 2,.tmp 3,.tmp 4]) rfl (o9.tmp E rfl (o9.tmp E rfl (o9.tmp E rfl o9.nil))) ?_;exact⟨_,(zh a9 (zh Z (zh a1 a2))),((hS.dropL 1).dropT 1),_,_,_,rfl,c8,(au (show inR .i64 0 from ax (by decide))),(au (show inR .i64 71 from ax (by decide)))⟩}
 {
 have h:=aH e0 h;refine aW (ab (ai (sp E (aG E Au rfl) rfl λa E=>?_)));refine st E (aB E hS ty3 rfl (i:=0) rfl (Jy.R_drop (aJ (cw.mono (zh Z (zh a1 a2)) a3)))) rfl ?_;rintro q3 a _ ⟨rfl,i0⟩ E;obtain⟨rfl,h6⟩:=aK i0;refine qM E rfl λa E=>sp E (aG E EJ rfl) rfl λa E=>?_;refine st E (aB E hS ty3 rfl (i:=0) rfl (Jz.R_drop (aJ (cw.mono (zh Z (zh a1 a2)) a3)))) rfl ?_;rintro p6 a _ ⟨rfl,k5⟩ E;obtain⟨rfl,m9⟩:=aK k5;obtain⟨m4,f5,h⟩:=ob h
 refine st E (az (vs:=[(.int .i64 W.1.fKind),b4,(.int .i64 W.1.fMany)]) E rfl call62 (wj (hS:=hS) h6 (k7.mono (zh Z (zh a1 a2))) m9 f5)) rfl ?_;rintro _ a w ⟨o0,a4,hS,b0,p5,rfl,e4,f6⟩ E;obtain⟨rfl,p7⟩:=aK f6;refine qM E rfl λa E=>sp E (cl E rfl rfl) rfl λa E=>sp E (cl E rfl rfl) rfl λa E=>qA E rfl λa E=>qA E rfl λa E=>ag (ab (ab (ai (qM E rfl λa E=>?_))));refine qB E rfl rfl oI λa E=>ag (kif E rfl (λc6=>?_) (λc6=>?_))
 {
 have h:=aD c6 h;refine ab (ai (qA E rfl λa E=>qA E rfl λa E=>qA E rfl λa E=>ag (bq ?_)));obtain rfl:=oi h
 try dsimp only
 refine Fin.mk E (rs:=[.tmp 2,.tmp 3,.tmp 4]) rfl (o9.tmp E rfl (o9.tmp E rfl (o9.tmp E rfl o9.nil))) ?_;exact⟨_,(zh a9 (zh Z (zh a1 (zh a2 a4)))),((hS.dropL 1).dropT 1),_,_,_,rfl,c8,(au (show inR .i64 0 from ax (by decide))),(au (show inR .i64 70 from ax (by decide)))⟩}
 {
 have h:=aH c6 h;refine aW (ab (ai (sp E (aG E Au rfl) rfl λa E=>?_)));refine st E (aB E hS ty3 rfl (i:=0) rfl (Jy.R_drop (aJ (cw.mono (zh Z (zh a1 (zh a2 a4))) a3)))) rfl ?_;rintro q7 a _ ⟨rfl,f3⟩ E;obtain⟨rfl,j2⟩:=aK f3;refine qM E rfl λa E=>?_;obtain⟨c5,m3,h⟩:=ob h;refine st E (az (vs:=[(.int .i64 W.1.fKind),b0]) E rfl call48 (tR (hS:=hS) j2 e4 m3)) rfl ?_;rintro r2 a w ⟨l1,a6,hS,i3⟩ E;refine st E (cP hS zeroValue34 rfl (cs:=sr)) rfl ?_;rintro _ a w ⟨e6,rfl,hS⟩ E
 refine st0 E (cD E hS u9 bO rfl rfl i3 (i:=0) rfl (u7 _)) ?_;rintro _ w ⟨f0,c4,hS⟩ E;refine ag (ab (ab ?_));refine cF (λa w=>∃b6:Bool,iI W m4 b6=some r/\∃m',M.le l1 m'/\S W0 m' w ((e6,f0)::(a0,b7)::L) (TL)/\Env 71 a [(5,pz a0),(9,b0),(67,.bool b6)]) ?_ ?_
 {
 refine ai (sp E (aG E tM rfl) rfl λa E=>?_);refine st E (aB E hS ty3 rfl (i:=0) rfl (JC.R_drop (aJ c4))) rfl ?_;rintro p4 a _ ⟨rfl,h2⟩ E;obtain⟨rfl,o1⟩:=aK h2;refine sp E (aG E tM rfl) rfl λa E=>?_;refine st E (aB E hS ty3 rfl (i:=1) rfl (JC.R_drop (aJ (cw.mono (zh Z (zh a1 (zh a2 (zh a4 a6)))) a3)))) rfl ?_;rintro q0 a _ ⟨rfl,n3⟩ E;obtain⟨rfl,q2⟩:=aK n3;refine qB E rfl rfl oI λa E=>qM E rfl λa E=>?_;rcases zw (c5.fNulls != W.1.fNulls) with hd205|hd205
 {have h:=aD hd205 h;refine qX E hd205 λa E=>qX E hd205 λa E=>qX E hd205 λa E=>qX E hd205 λa E=>qX E hd205 λa E=>qT E hd205 rfl λa E=>qM E rfl λa E=>qX E rfl λa E=>qX E rfl λa E=>qX E rfl λa E=>?_;refine qX E rfl λa E=>qX E rfl λa E=>qT E rfl rfl λa E=>ag ?_;exact⟨true,h,_,(Jn _),(hS.pickT 1 [] rfl rfl rfl),kut E⟩}
 {
 have h:=aH hd205 h;refine spg E rfl rfl rfl rfl hd205 (aG E Aq rfl) rfl λa E=>?_;refine stg E rfl rfl rfl rfl hd205 (aB E hS ej rfl (i:=0) rfl (JA.R_drop (aJ c4))) rfl ?_;rintro r0 a _ ⟨rfl,g4⟩ E;refine spg E rfl rfl rfl rfl hd205 (aG E Aq rfl) rfl λa E=>?_;refine stg E rfl rfl rfl rfl hd205 (aB E hS ej rfl (i:=1) rfl (JA.R_drop (aJ (cw.mono (zh Z (zh a1 (zh a2 (zh a4 a6)))) a3)))) rfl ?_;rintro p8 a _ ⟨rfl,g1⟩ E;refine spg E rfl rfl rfl rfl hd205 (sU E w9 rfl rfl g4 g1 rfl) rfl λa E=>qF E hd205 rfl λa E=>qM E rfl λa E=>?_
 rcases zw (!decide (c5.fMin=W.1.fMin)) with hd218|hd218
 {have h:=aD hd218 h;refine qX E hd218 λa E=>qX E hd218 λa E=>qX E hd218 λa E=>qX E hd218 λa E=>qX E hd218 λa E=>qT E hd218 rfl λa E=>ag ?_;exact⟨true,h,_,(Jn _),(hS.pickT 1 [] rfl rfl rfl),kut E⟩}
 {
 have h:=aH hd218 h;refine spg E rfl rfl rfl rfl hd218 (aG E Ar rfl) rfl λa E=>?_;refine stg E rfl rfl rfl rfl hd218 (aB E hS ej rfl (i:=0) rfl (JB.R_drop (aJ c4))) rfl ?_;rintro r8 a _ ⟨rfl,n6⟩ E;refine spg E rfl rfl rfl rfl hd218 (aG E Ar rfl) rfl λa E=>?_;refine stg E rfl rfl rfl rfl hd218 (aB E hS ej rfl (i:=1) rfl (JB.R_drop (aJ (cw.mono (zh Z (zh a1 (zh a2 (zh a4 a6)))) a3)))) rfl ?_;rintro r3 a _ ⟨rfl,j1⟩ E;refine spg E rfl rfl rfl rfl hd218 (sU E w9 rfl rfl n6 j1 rfl) rfl λa E=>qF E hd218 rfl λa E=>ag ?_
 exact⟨(!decide (c5.fMax=W.1.fMax)),h,_,(Jn _),(hS.pickT 1 [] rfl rfl rfl),kut E⟩}}}
 {
 rintro a w ⟨b6,h,j4,c2,hS,E⟩;unfold iI at h;refine kif E rfl (λc3=>?_) (λc3=>?_)
 {
 have h:=aD c3 h;refine ab (ai (qA E rfl λa E=>qA E rfl λa E=>qA E rfl λa E=>ag (bq ?_)));obtain rfl:=oi h
 try dsimp only
 refine Fin.mk E (rs:=[.tmp 2,.tmp 3,.tmp 4]) rfl (o9.tmp E rfl (o9.tmp E rfl (o9.tmp E rfl o9.nil))) ?_;exact⟨_,(zh a9 (zh Z (zh a1 (zh a2 (zh a4 (zh a6 c2)))))),(hS.dropL 2),_,_,_,rfl,c8,(au (show inR .i64 0 from ax (by decide))),(au (show inR .i64 70 from ax (by decide)))⟩}
 {
 have h:=aH c3 h;refine aW (ab ?_);refine kch (k:=4) (m:=j4) (es:=[]) (Φ:=(λi m ws v=>match i with|0=>v=b0|1=>v=(.pointer (some ⟨a0,11,none⟩))|2=>ei .i64 W.1.fBytes v|3=>v=b0|_=>True)) (Q:=(λc m ws L' c0=>match c with|0=>(e6,f0)::(a0,b7)::L=L'/\TL=c0|_=>False)) (cs:=[xV [(9,b0)],xV [(5,pz a0)],xV [],xV []]) mixed E hS ⟨rfl,rfl⟩ rfl rfl (by kernel_rfl) ?_ ?_ ?_ ?_
 {
 intro i m_ d0 ws v n_ q_
 iterate 4 (rcases i with _|i;exact q_)
 exact trivial}
 {
 intro c m_ d0 ws L_ T_ n_ a5
 match c,a5 with
 |0,⟨b3,b2⟩=>exact⟨b3,b2⟩
 |_+1,a5=>exact a5.elim}
 {
 refine⟨?_,?_,?_,?_,trivial⟩
 {exact cmv λ_ _=>rfl}
 {refine cp0 λ_ _ _ _ _ _ _ _ _ J E' _=>?_;exact cq (aG E' vY rfl) J rfl}
 {refine cp1 λ_ _ _ _ _ M' Q' J E' T'=>?_;obtain⟨rfl,rfl⟩:=Q';have E:=E'.add (T' 1);exact cr (aB E J ty3 rfl (i:=1) rfl (JD.R_drop (aJ (cw.mono (zh Z (zh a1 (zh a2 (zh a4 (zh a6 (zh c2 M')))))) a3)))) J λ_ h=>aK h}
 {refine cp0 λ_ _ _ _ _ _ _ _ _ J E' T'=>?_;have E:=E'.add (T' 0);exact cq (kH E rfl) J rfl}}
 {
 intro m2 L_ T_ q5 a w g3 e7 h0 hS i1 l2 k3 e5;obtain rfl:=gQ g3;obtain⟨rfl,rfl⟩:=h0;have E:=eof 4 [(5,pz a0),(9,b0),(67,.bool b6)] i1 l2 k3;obtain⟨m1,g2⟩:=e5 2;have E:=(E.add m1).add (e5 3);refine qA E rfl λa E=>qA E rfl λa E=>ag (bq ?_);obtain rfl:=oi h
 try dsimp only
 refine Fin.mk E (rs:=[.tmp 2,.tmp 3,.tmp 4]) rfl (o9.tmp E rfl (o9.tmp E rfl (o9.tmp E rfl o9.nil))) ?_;exact⟨_,(zh a9 (zh Z (zh a1 (zh a2 (zh a4 (zh a6 (zh c2 e7))))))),(hS.dropL 2),_,_,_,rfl,(e4.mono (zh a6 (zh c2 e7))),(au g2),(au (show inR .i64 0 from ax (by decide)))⟩}}}}}}}
theorem vd (hS:S W0 m w L TL) {p0}(g4:RV (kSl (aj .u8)) m v0 p0) {p1}(h4:inR .i64 p1) {r}(h:hU p0 p1=some r):
    Calls prog 84 #[v0,(.int .i64 p1)] w (Ret λv w'=>∃m',M.le m m'/\S W0 m' w' L TL/\∃v0_ v1_:Value,v= .tuple #[v0_,v1_]/\RV (kSl kAp) m' v0_ r.1/\RV cj m' v1_ r.2):=by
 refine kc func84 ntmps84 λa E=>?_;have E:Env 42 a [(0,v0),(1,.int .i64 p1)]:=E;unfold hU at h;refine ab (ai (qA E rfl λa E=>qA E rfl λa E=>ag (ab (ai (qA E rfl λa E=>ag (ab ?_))))));refine cF (λa w=>∃x6:(List Ap),jl p1 x6=some r/\∃m',M.le m m'/\∃(v7:Value),RV (kSl kAp) m' v7 x6/\S W0 m' w L ((4,v7)::TL)/\Env 42 a [(1,.int .i64 p1),(6,v7)]) ?_ ?_
 {
 refine aY ?_;refine eX h (λ(s:List Int×List Ap) a w=>∃m',M.le m m'/\∃(W:Value),∃(J:Value),RV (kSl (aj .u8)) m' W s.1/\RV (kSl kAp) m' J s.2/\S W0 m' w L ((4,J)::TL)/\Env 42 a [(0,W),(1,.int .i64 p1),(6,J)]) ?_ ?_
 {exact⟨_,(Jn _),v0,(.slice none 0 0),g4,c8,(hS.tail0 4),kut E⟩}
 {
 rintro ⟨d1,a1⟩ a w ⟨h3,b1,W,J,c1,b6,hS,E⟩ r25 h hb26;have h:gO p1 d1 a1=some r25:=h;unfold gO at h;refine ab (ab (ai (qM E rfl λa E=>sp E (aV (k:=(aj .u8)) E rfl rfl underlying24 c1) rfl λa E=>qB E rfl rfl l6 λa E=>ag (kif E rfl (λc0=>?_) (λc0=>?_)))))
 {
 have h:=aD c0 h;refine aW (aY (ab (ai (qM E rfl λa E=>?_))));obtain⟨Z,g2,h⟩:=ob h;refine st E (az (vs:=[W]) E rfl call21 (AJ (hS:=hS) c1 g2)) rfl ?_;rintro _ a w ⟨d2,a2,hS,a6,i0,h5,rfl,c2,h2,f4⟩ E;obtain⟨rfl,g5⟩:=aK h2;obtain⟨rfl,h9⟩:=aK f4;refine qM E rfl λa E=>sp E (cl E rfl rfl) rfl λa E=>sp E (cl E rfl rfl) rfl λa E=>sp E (cl E rfl rfl) rfl λa E=>qA E rfl λa E=>qA E rfl λa E=>qA E rfl λa E=>ag (ab (ab ?_))
 refine cF (λa w=>∃a5:Bool,gN d1 a1 Z a5=some r25/\∃m',M.le d2 m'/\S W0 m' w L ((4,J)::TL)/\Env 42 a [(0,W),(1,.int .i64 p1),(6,J),(7,a6),(8,.int .i64 Z.2.1),(30,.bool a5)]) ?_ ?_
 {
 refine ai (qM E rfl λa E=>qB E rfl rfl oI λa E=>qM E rfl λa E=>?_);rcases zw (Z.2.2 != 0) with hd110|hd110
 {have h:=aD hd110 h;refine qX E hd110 λa E=>qX E hd110 λa E=>qX E hd110 λa E=>qX E hd110 λa E=>qX E hd110 λa E=>qX E hd110 λa E=>qX E hd110 λa E=>qX E hd110 λa E=>qT E hd110 rfl λa E=>ag ?_;exact⟨true,h,_,(Jn _),hS,kut E⟩}
 {
 have h:=aH hd110 h;refine qG E hd110 rfl λa E=>spg E rfl rfl rfl rfl hd110 (aV (k:=kAp) E rfl rfl underlying22 c2) rfl λa E=>qG E hd110 rfl λa E=>qG E hd110 rfl λa E=>spg E rfl rfl rfl rfl hd110 (aV (k:=kAp) E rfl rfl underlying22 (b6.mono a2)) rfl λa E=>spg E rfl rfl rfl rfl hd110 (be E rfl rfl (ku rfl)) rfl λa E=>spg E rfl rfl rfl rfl hd110 (yI E rfl rfl) rfl λa E=>spg E rfl rfl rfl rfl hd110 (be E rfl rfl oI) rfl λa E=>qF E hd110 rfl λa E=>ag ?_
 exact⟨((Z.1.length:Int) != (if (Q0.wrap (p1 - (a1.length:Int)))<64 then Q0.wrap (p1 - (a1.length:Int)) else 64)),h,_,(Jn _),hS,kut E⟩}}
 {
 rintro a w ⟨a5,h,e5,a4,hS,E⟩;unfold gN at h;refine kif E rfl (λb7=>?_) (λb7=>?_)
 {
 have h:=aD b7 h;refine ab (ai (qA E rfl λa E=>qA E rfl λa E=>ag (bq ?_)));have h:=cG h hb26;obtain rfl:=oi h
 try dsimp only
 refine f2 E ?_;exact⟨_,(zh b1 (zh a2 a4)),(hS.dropT 1),_,_,rfl,c8,dA⟩}
 {
 have h:=aH b7 h;refine aW ?_;obtain⟨a3,e1,c6,g1,h⟩:=ob2 h
 refine kch (k:=7) (m:=e5) (es:=[2]) (Φ:=(λi m ws v=>match i with|0=>v=J|1=>v=a6|2=>v=(wi ws 0).v/\RV (kSl kAp) m v a3|3=>v=W|4=>ei .i64 Z.2.1 v|5=>RV (kSl (aj .u8)) m v c6|6=>v=(wi ws 0).v/\RV (kSl kAp) m v a3|_=>True)) (Q:=(λc m ws L' c5=>match c with|0=>L=L'/\(4,J)::TL=c5|1=>L=L'/\(4,(wi ws 0).v)::TL=c5|_=>False)) (cs:=[xV [(6,J)],xV [(7,a6)],⟨0,0,true,[]⟩,⟨0,1,false,[(0,W)]⟩,⟨0,1,false,[(8,.int .i64 Z.2.1)]⟩,⟨0,1,false,[]⟩,⟨1,1,false,[]⟩]) mixed E hS ⟨rfl,rfl⟩ rfl rfl (by kernel_rfl) ?_ ?_ ?_ ?_
 {
 intro i m_ f0 ws v n_ q_
 iterate 7 (rcases i with _|i;first|exact q_|exact RV.mono q_ n_|exact⟨q_.1,RV.mono q_.2 n_⟩)
 exact trivial}
 {
 intro c m_ f0 ws L_ T_ n_ b2
 match c,b2 with
 |0,⟨b5,b3⟩=>exact⟨b5,b3⟩
 |1,⟨b5,b3⟩=>exact⟨b5,b3⟩
 |_+2,b2=>exact b2.elim}
 {
 refine⟨?_,?_,?_,?_,?_,?_,?_,trivial⟩
 {exact cmv λ_ _=>rfl}
 {exact cmv λ_ _=>rfl}
 {refine yp λe6 L_ T_ m' a' w' b4 M' Q' Z' E' T'=>?_;obtain rfl:=gQ b4;obtain⟨rfl,rfl⟩:=Q';have E:=(E'.add (T' 0 (by decide) 31 rfl)).add (T' 1 (by decide) 32 rfl);refine aM.imp (jp (k:=kAp) (N:=3518437208883) E Z' rfl rfl underlying22 underlying22 Am (i:=0) rfl (b6.mono (zh a2 (zh a4 M'))) (c2.mono (zh a4 M')) e1 rfl rfl) ?_;rintro a0 w ⟨h6,f3,hS,e3⟩;exact⟨_,⟨0,a0,[],[],[]⟩,_,_,f3,hS,⟨rfl,rfl⟩,⟨rfl,e3⟩⟩}
 {exact cmv λ_ _=>rfl}
 {exact cmv λ_ _=>⟨rfl,g5⟩}
 {refine cp0 λ_ _ _ _ _ _ _ M' _ Z' E' T'=>?_;have E:=(E'.add (T' 3)).add (T' 4).1;exact cr (dJ (k:=(aj .u8)) E rfl underlying24 sizeOf5 (c1.mono (zh a2 (zh a4 M'))) ⟨_,rfl⟩ rfl g1 (xl:=(some (.tmp 35))) (xh:=none)) Z' λ_ h=>h}
 {
 refine Dk λe6 p_ L_ T_ m' a' w' b4 P' M' Q' Z' E' T'=>?_;obtain⟨⟨_,a0,_,_,_⟩,rfl⟩:=yT b4;obtain⟨i1,h0,b0⟩:∃v,a'.tmps.getD 33 undef=v/\(v=a0/\RV (kSl kAp) m' v a3):=⟨_,rfl,T' 2 (by decide) 33 rfl⟩
 obtain⟨c3,b0⟩:=b0;rw[c3] at b0;have E:=E'.add (h0.trans c3);refine aM.imp (aw.pure (kH E rfl)) ?_;rintro _ _ ⟨rfl,rfl⟩;exact⟨_,Jn _,Z',⟨rfl,b0⟩⟩}}
 {
 intro h8 L_ T_ e7 a w f5 e0 h1 hS g6 e8 g3 d0;obtain⟨⟨_,a0,_,_,_⟩,rfl⟩:=yT f5;obtain⟨rfl,rfl⟩:=h1;have E:=eof 7 [(0,W),(1,.int .i64 p1),(7,a6),(8,.int .i64 Z.2.1),(30,.bool a5)] g6 e8 g3;obtain⟨e4,E,e9⟩:=adv E (d0 5);obtain⟨h7,g0,a9⟩:∃v,a.tmps.getD 6 undef=v/\(v=a0/\RV (kSl kAp) e7 v a3):=⟨_,rfl,d0 6⟩
 obtain⟨c7,a9⟩:=a9;rw[c7] at a9;have E:=E.add (g0.trans c7);refine qA E rfl λa E=>ag ?_;exact⟨(c6,a3),(Option.some.inj h).symm,_,(zh b1 (zh a2 (zh a4 e0))),e4,a0,e9,a9,hS,kut E⟩}}}}
 {have h:=aH c0 h;refine eJ rfl rfl ?_;have h:=cG h hb26;exact⟨a1,h,_,b1,J,b6,hS,kut E⟩}}}
 {
 rintro a w ⟨x6,h,m4,f6,v7,c4,hS,E⟩;unfold jl at h;refine ab (ai (qM E rfl λa E=>qM E rfl λa E=>sp E (aV (k:=kAp) E rfl rfl underlying22 c4) rfl λa E=>qM E rfl λa E=>qB E rfl rfl iK λa E=>qA E rfl λa E=>qA E rfl λa E=>ag ?_));refine bq ?_;obtain rfl:=oi h
 try dsimp only
 refine f2 E ?_;exact⟨_,f6,(hS.dropT 1),_,_,rfl,c4,dA⟩}
def E0:Kd ay:=o8 (λx:ay=>(x.fColumns,x.fSort,())) (ci (aj .i64) (ci (kSl (aj .i64)) uH))
theorem Pe:Fld E0 (aj .i64) 0 (λx=>x.fColumns):=cQ eQ
theorem G7:cI prog 50 uH:=⟨sizeOf50,isAgg50⟩
theorem sP  {W J:Nat}{a3 e4 e7:List Value}(hS:S W0 m w ((W,a3)::(J,e4)::L) (tls 4 e7++TL)) {p0}(g4:E0.R m a3 p0){b3:Value}(l2:a3[2]? =some b3){pA:List aa}(n4:GR ah 2 m J e4 b3 pA e7) {p1}(r4:inR .i64 p1) {p2}(g1:RV (kSl kAp) m v2 p2) {r}(h:gP p0 pA p1 p2=some r):
    Calls prog 85 #[(pz W),(.int .i64 p1),v2] w (Ret λv w'=>∃m',M.le m m'/\∃q1_ rq_:List Value,S W0 m' w' ((W,a3)::(J,q1_)::L) (tls 4 rq_++TL)/\GR ah 2 m' J q1_ b3 r.2 rq_/\RV cj m' v r.1):=by
 refine kc func85 ntmps85 λa E=>?_;have E:Env 85 a [(0,pz W),(1,.int .i64 p1),(2,v2)]:=E;unfold gP at h;refine ab (ai (qA E rfl λa E=>ag (ab (ab (ai (qM E rfl λa E=>sp E (aV (k:=kAp) E rfl rfl underlying22 g1) rfl λa E=>qM E rfl λa E=>?_))))));refine ag ?_;refine cF (λa w=>∃x7:(List aa),gT x7=some r/\∃m',M.le m m'/\∃(b6 c3:List Value),GR ah 2 m' J b6 b3 x7 c3/\S W0 m' w ((W,a3)::(J,b6)::L) (tls 4 c3++TL)/\Env 85 a []) ?_ ?_
 {
 refine aY ?_;refine eX h (λ(s:Int×List aa) a w=>∃m',M.le m m'/\∃(a5 a2:List Value),inR .i64 s.1/\GR ah 2 m' J a5 b3 s.2 a2/\S W0 m' w ((W,a3)::(J,a5)::L) (tls 4 a2++TL)/\Env 85 a [(0,pz W),(1,.int .i64 p1),(10,v2),(11,.int .i64 (p2.length:Int)),(12,.int .i64 s.1)]) ?_ ?_
 {exact⟨_,(Jn _),e4,e7,(show inR .i64 0 from ax (by decide)),n4,hS,kut E⟩}
 {
 rintro ⟨b2,a6⟩ a w ⟨h4,b0,a5,a2,t5,a1,hS,E⟩ r19 h hb20;have h:dp p0 p1 p2 b2 a6=some r19:=h;unfold dp at h;refine ab (ai (qB E rfl rfl cz λa E=>ag (ab (kif E rfl (λe0=>?_) (λe0=>?_)))))
 {
 have h:=aD e0 h;refine aW (ab (aY (ab (ai (qM E rfl λa E=>?_)))));obtain⟨a4,m8,h⟩:=ob h;refine st E (dx (k:=kAp) E rfl rfl underlying22 sizeOf32 (g1.mono b0) m8) rfl ?_;rintro q5 a _ ⟨rfl,n0⟩ E;refine st E (bh E hS ej rfl n0) rfl ?_;rintro q0 a _ ⟨rfl,o2⟩ E;refine st E (cP hS zeroValue32 rfl (cs:=tL)) rfl ?_;rintro _ a w ⟨a9,rfl,hS⟩ E;refine qA E rfl λa E=>?_;refine st0 E (cD E hS ej bO rfl rfl o2 (i:=0) rfl (oC _)) ?_;rintro _ w ⟨c4,b1,hS⟩ E
 refine ag (ab (ai (qM E rfl λa E=>sp E (bV E rfl) rfl λa E=>sp E (aG E nH rfl) rfl λa E=>sp E (Ho E hS G7 rfl (i:=1) rfl l2 a1.1.one) rfl λa E=>qM E rfl λa E=>?_)));obtain⟨a0,k4,h⟩:=ob h;refine sp E (kJ (k:=ah) E rfl rfl underlying50 sizeOf59 a1.1 k4 rfl) rfl λa E=>qA E rfl λa E=>ag (ab (ab ?_))
 refine cF (λa w=>∃b5:Bool,dm p0 p1 b2 a6 a4 a0 b5=some r19/\∃m',M.le h4 m'/\S W0 m' w ((a9,c4)::(W,a3)::(J,a5)::L) (tls 4 a2++TL)/\Env 85 a [(0,pz W),(1,.int .i64 p1),(8,pz a9),(9,.pointer (some ⟨J,a0*4,none⟩)),(10,v2),(11,.int .i64 (p2.length:Int)),(12,.int .i64 b2),(38,.bool b5)]) ?_ ?_
 {
 refine ai (qM E rfl λa E=>qM E rfl λa E=>sp E (bV E rfl) rfl λa E=>sp E (aG E mA rfl) rfl λa E=>?_);refine st E (aB E hS ty3 rfl (i:=1) rfl (Pe.R_drop (aJ (E0.mono b0 g4)))) rfl ?_;rintro t0 a _ ⟨rfl,i0⟩ E;obtain⟨rfl,t4⟩:=aK i0;refine qB E rfl rfl yl λa E=>qM E rfl λa E=>?_;rcases zw (decide (p0.fColumns<=p1)) with hd194|hd194
 {
 have h:=aD hd194 h;refine spg E rfl rfl rfl rfl hd194 (aG E Ao rfl) rfl λa E=>?_;refine stg E rfl rfl rfl rfl hd194 (aB E hS ty3 rfl (i:=0) rfl (Jr.R_drop (aJ b1))) rfl ?_;rintro r2 a _ ⟨rfl,i2⟩ E;obtain⟨rfl,q1⟩:=aK i2;refine spg E rfl rfl rfl rfl hd194 (be E rfl rfl oI) rfl λa E=>qG E hd194 rfl λa E=>?_;rcases zw (a4.fKind != 2) with hd201|hd201
 {have h:=aD hd201 h;refine qX E hd201 λa E=>qX E hd201 λa E=>qX E hd201 λa E=>spg E rfl rfl rfl rfl hd194 (qL E rfl hd201 rfl) rfl λa E=>qT E hd194 rfl λa E=>ag ?_;exact⟨true,h,_,(Jn _),hS,kut E⟩}
 {have h:=aH hd201 h;refine spg E rfl rfl rfl rfl hd201 (aG E rt rfl) rfl λa E=>?_;refine stg E rfl rfl rfl rfl hd201 (aB E hS ty2 rfl (i:=0) rfl (Ju.R_drop (aJ b1))) rfl ?_;rintro p8 a _ ⟨rfl,p3⟩ E;obtain⟨rfl,r1⟩:=aK p3;refine spg E rfl rfl rfl rfl hd201 (be E rfl rfl cz) rfl λa E=>spg E rfl rfl rfl rfl hd194 (qN E rfl hd201 rfl) rfl λa E=>qT E hd194 rfl λa E=>ag ?_;exact⟨(decide (a4.fInt<0)),h,_,(Jn _),hS,kut E⟩}}
 {have h:=aH hd194 h;refine qX E hd194 λa E=>qX E hd194 λa E=>qX E hd194 λa E=>qX E hd194 λa E=>sxu E rfl rfl rfl rfl λa E=>sxu E rfl rfl rfl rfl λa E=>sxu E rfl rfl rfl rfl λa E=>qX E hd194 λa E=>qF E hd194 rfl λa E=>ag ?_;exact⟨false,h,_,(Jn _),hS,kut E⟩}}
 {
 rintro a w ⟨b5,h,f0,Z,hS,E⟩;unfold dm at h;refine kif E rfl (λc5=>?_) (λc5=>?_)
 {
 have h:=aD c5 h;refine ab (ai (qA E rfl λa E=>ag (bq ?_)));have h:=cG h hb20;obtain rfl:=oi h
 try dsimp only
 refine f1 E ?_;exact⟨_,(zh b0 Z),a5,a2,(hS.pickL 3 [1,2] rfl rfl rfl),(a1.mono Z),dA⟩}
 {
 have h:=aH c5 h;refine aW (ab (ai (qM E rfl λa E=>qM E rfl λa E=>sp E (bV E rfl) rfl λa E=>sp E (aG E mA rfl) rfl λa E=>?_)));refine st E (aB E hS ty3 rfl (i:=1) rfl (Pe.R_drop (aJ (E0.mono (zh b0 Z) g4)))) rfl ?_;rintro q3 a _ ⟨rfl,h1⟩ E;obtain⟨rfl,t9⟩:=aK h1;refine qB E rfl rfl (ku rfl) λa E=>ag (aY (ab (ai (qB E rfl rfl iK λa E=>qA E rfl λa E=>ag ?_))))
 refine cF (λa w=>∃b7:(List aa),cK b2 b7=some r19/\∃m',M.le f0 m'/\∃(b4 c2:List Value),GR ah 2 m' J b4 b3 b7 c2/\S W0 m' w ((a9,c4)::(W,a3)::(J,b4)::L) (tls 4 c2++TL)/\Env 85 a [(0,pz W),(1,.int .i64 p1),(10,v2),(11,.int .i64 (p2.length:Int)),(12,.int .i64 b2)]) ?_ ?_
 {
 refine kif E rfl (λe5=>?_) (λe5=>?_)
 {
 have h:=aD e5 h;refine ai (qM E rfl λa E=>sp E (aG E rt rfl) rfl λa E=>?_);refine st E (aB E hS ty2 rfl (i:=0) rfl (Ju.R_drop (aJ (kAp.mono Z b1)))) rfl ?_;rintro q4 a _ ⟨rfl,m6⟩ E;obtain⟨rfl,t1⟩:=aK m6;refine sp E (fj E rfl underlying2 underlying54 rfl) rfl λa E=>sp E (bV E rfl) rfl λa E=>sp E (aG E ov rfl) rfl λa E=>sp E (aG E EK rfl) rfl λa E=>?_;obtain⟨x82,j2,h⟩:=ob h;refine st0 E (s5 (k:=ah) (o:=2) E hS JM (yM vT Al EE) (a1.mono Z) j2 rfl rfl (au (aI _ _)) (i:=2) rfl (by decide) (by decide)) ?_;rintro _ w ⟨h9,n3,hS⟩ E;refine ag ?_
 exact⟨(a6.set a0 ({ x82 with fId:={ x82.fId with fEpoch:=Q4.wrap a4.fInt } })),h,_,(Jn _),h9,a2,n3,hS,kut E⟩}
 {
 have h:=aH e5 h;refine ab (ai (qB E rfl rfl iK λa E=>qA E rfl λa E=>ag (kif E rfl (λe3=>?_) (λe3=>?_))))
 {
 have h:=aD e3 h;refine ab (ab (ai (sp E (aG E rt rfl) rfl λa E=>?_)));refine st E (aB E hS ty2 rfl (i:=0) rfl (Ju.R_drop (aJ (kAp.mono Z b1)))) rfl ?_;rintro r9 a _ ⟨rfl,n1⟩ E;obtain⟨rfl,q2⟩:=aK n1;refine qB E rfl rfl l6 λa E=>ag (kif E rfl (λe6=>?_) (λe6=>?_))
 {
 have h:=aD e6 h;refine ab (ai (qA E rfl λa E=>ag (bq ?_)));have h:=cG h hb20;obtain rfl:=oi h
 try dsimp only
 refine f1 E ?_;exact⟨_,(zh b0 Z),a5,a2,(hS.pickL 3 [1,2] rfl rfl rfl),(a1.mono Z),dA⟩}
 {
 have h:=aH e6 h;refine aW (ai (qM E rfl λa E=>sp E (aG E rt rfl) rfl λa E=>?_));refine st E (aB E hS ty2 rfl (i:=0) rfl (Ju.R_drop (aJ (kAp.mono Z b1)))) rfl ?_;rintro r0 a _ ⟨rfl,m9⟩ E;obtain⟨rfl,t3⟩:=aK m9;refine sp E (fj E rfl underlying2 underlying55 rfl) rfl λa E=>sp E (bV E rfl) rfl λa E=>sp E (aG E ov rfl) rfl λa E=>sp E (aG E EL rfl) rfl λa E=>?_;obtain⟨x106,j1,h⟩:=ob h;refine st0 E (s5 (k:=ah) (o:=2) E hS Oq (yM vT Al EF) (a1.mono Z) j1 rfl rfl (au (aI _ _)) (i:=2) rfl (by decide) (by decide)) ?_;rintro _ w ⟨h0,p5,hS⟩ E
 refine ag ?_;exact⟨(a6.set a0 ({ x106 with fId:={ x106.fId with fNumber:=IntKind.u32.wrap a4.fInt } })),h,_,(Jn _),h0,a2,p5,hS,kut E⟩}}
 {
 have h:=aH e3 h;refine ab (ai (qB E rfl rfl iK λa E=>qA E rfl λa E=>ag (kif E rfl (λd1=>?_) (λd1=>?_))))
 {
 have h:=aD d1 h;refine ai (qM E rfl λa E=>sp E (aG E rt rfl) rfl λa E=>?_);refine st E (aB E hS ty2 rfl (i:=0) rfl (Ju.R_drop (aJ (kAp.mono Z b1)))) rfl ?_;rintro r6 a _ ⟨rfl,m3⟩ E;obtain⟨rfl,q6⟩:=aK m3;refine sp E (fj E rfl underlying2 underlying54 rfl) rfl λa E=>sp E (bV E rfl) rfl λa E=>sp E (aG E EM rfl) rfl λa E=>?_;obtain⟨x122,h7,h⟩:=ob h;refine st0 E (s5 (k:=ah) (o:=2) E hS JM EH (a1.mono Z) h7 rfl rfl (au (aI _ _)) (i:=2) rfl (by decide) (by decide)) ?_;rintro _ w ⟨k0,h8,hS⟩ E;refine ag ?_
 exact⟨(a6.set a0 ({ x122 with fDeleted:=Q4.wrap a4.fInt })),h,_,(Jn _),k0,a2,h8,hS,kut E⟩}
 {
 have h:=aH d1 h;obtain⟨g2,e9,e1,o3,h⟩:=ob2 h;obtain⟨c0,g5,g6⟩:=a1.row e9;obtain⟨f3,g0⟩:∃T,T=tls 4 (a2.eraseIdx a0)++TL:=⟨_,rfl⟩
 have hS:=hS.permT (Fj g5 TL);rw[←g0] at hS
 refine kch (k:=8) (m:=f0) (es:=[7]) (Φ:=(λi m ws v=>match i with|0=>v=(.pointer (some ⟨J,a0*4,none⟩))|1=>v=(.pointer (some ⟨J,a0*4,none⟩))|2=>v=(.pointer (some ⟨J,a0*4,none⟩))|3=>v=(.pointer (some ⟨J,a0*4+2,none⟩))|4=>v=c0/\RV (kSl kAp) m v g2.fRow|5=>RV kAp m v a4|6=>RV (kSl kAp) m v ([a4])|7=>v=(wi ws 0).v/\RV (kSl kAp) m v e1|_=>True)) (Q:=(λc m ws L' g3=>match c with|0=>(a9,c4)::(W,a3)::(J,a5)::L=L'/\(4,c0)::f3=g3|1=>(a9,c4)::(W,a3)::(J,a5)::L=L'/\(4,(wi ws 0).v)::f3=g3|_=>False)) (cs:=[⟨0,1,false,[(9,.pointer (some ⟨J,a0*4,none⟩))]⟩,xV [(9,.pointer (some ⟨J,a0*4,none⟩))],xV [],xV [],xV [],xV [(8,pz a9)],xV [],⟨0,0,true,[]⟩]) mixed E hS ⟨rfl,rfl⟩ rfl rfl (by kernel_rfl) ?_ ?_ ?_ ?_
 {
 intro i m_ i3 ws v n_ q_
 iterate 8 (rcases i with _|i;first|exact q_|exact RV.mono q_ n_|exact⟨q_.1,RV.mono q_.2 n_⟩)
 exact trivial}
 {
 intro c m_ i3 ws L_ T_ n_ c6
 match c,c6 with
 |0,⟨d0,c7⟩=>exact⟨d0,c7⟩
 |1,⟨d0,c7⟩=>exact⟨d0,c7⟩
 |_+2,c6=>exact c6.elim}
 {
 refine⟨?_,?_,?_,?_,?_,?_,?_,?_,trivial⟩
 {exact cmv λ_ _=>rfl}
 {exact cmv λ_ _=>rfl}
 {refine cp0 λ_ _ _ _ _ _ _ _ _ Z' E' T'=>?_;have E:=E'.add (T' 1);exact cq (bV E rfl) Z' rfl}
 {refine cp0 λ_ _ _ _ _ _ _ _ _ Z' E' T'=>?_;have E:=E'.add (T' 2);exact cq (aG E mW rfl) Z' rfl}
 {refine cp1 λ_ _ _ _ _ M' Q' Z' E' T'=>?_;obtain⟨rfl,rfl⟩:=Q';have E:=E'.add (T' 3);have f5:=JH.R_drop (GS.elem (a1.1.mono (zh Z M')) e9);exact cq (rH (k:=kAp) (v:=c0) E Z' sq rfl (i:=2) rfl f5 g6) Z' ⟨rfl,yr f5 g6⟩}
 {refine cp1 λ_ _ _ _ _ M' Q' Z' E' _=>?_;obtain⟨rfl,rfl⟩:=Q';exact cr (aB E' Z' ej rfl (i:=0) rfl (aJ (kAp.mono (zh Z M') b1))) Z' λ_ h=>h}
 {refine cp0 λ_ _ _ m' a' _ _ _ _ Z' E' T'=>?_;obtain⟨n2,E,m2⟩:=adv E' (T' 5);refine aM.imp (jq (k:=kAp) (xs:=[a4]) (vs:=[n2]) E Z' rfl underlying22 sizeOf32 zeroValue32 ⟨m2,trivial⟩ rfl (by decide)) ?_;rintro s1 w ⟨p7,l3,hS,k6⟩;exact⟨_,l3,(hS.dropT 1),k6⟩}
 {
 refine yp λq7 L_ T_ m' a' w' h6 M' Q' Z' E' T'=>?_;obtain rfl:=gQ h6;obtain⟨rfl,rfl⟩:=Q';obtain⟨r3,k3,l1,o0⟩:∃v,a'.tmps.getD 49 undef=v/\(v=c0/\RV (kSl kAp) m' v g2.fRow):=⟨_,rfl,T' 4 (by decide) 49 rfl⟩
 subst l1;have E:=E'.add (k3);obtain⟨s2,E,k7⟩:=adv E (T' 6 (by decide) 51 rfl);refine aM.imp (jp (k:=kAp) (N:=3518437208883) E Z' rfl rfl underlying22 underlying22 Am (i:=0) rfl o0 k7 o3 rfl rfl) ?_;rintro d2 w ⟨r5,k5,hS,m4⟩;exact⟨_,⟨0,d2,[],[],[]⟩,_,_,k5,hS,⟨rfl,rfl⟩,⟨rfl,m4⟩⟩}}
 {
 intro s3 L_ T_ p6 a w j4 f4 m7 hS o1 i1 h3 e8;obtain⟨⟨_,d2,_,_,_⟩,rfl⟩:=yT j4;obtain⟨rfl,rfl⟩:=m7
 have E:=eof 8 [(0,pz W),(1,.int .i64 p1),(8,pz a9),(9,.pointer (some ⟨J,a0*4,none⟩)),(10,v2),(11,.int .i64 (p2.length:Int)),(12,.int .i64 b2),(38,.bool b5),(39,.int .i64 p1),(40,pz W),(41,pz W),(42,pz W),(43,.int .i64 p0.fColumns),(44,.int .i64 (Q0.wrap (p1 - p0.fColumns))),(55,.bool ((Q0.wrap (p1 - p0.fColumns))==0)),(56,.bool ((Q0.wrap (p1 - p0.fColumns))==0)),(64,.bool ((Q0.wrap (p1 - p0.fColumns))==1)),(65,.bool ((Q0.wrap (p1 - p0.fColumns))==1)),(76,.bool ((Q0.wrap (p1 - p0.fColumns))==2)),(77,.bool ((Q0.wrap (p1 - p0.fColumns))==2))] o1 i1 h3
 have E:=E.add (e8 0);obtain⟨r7,i5,c1⟩:∃v,a.tmps.getD 52 undef=v/\(v=d2/\RV (kSl kAp) p6 v e1):=⟨_,rfl,e8 7⟩
 obtain⟨f6,c1⟩:=c1;rw[f6] at c1;have E:=E.add (i5.trans f6);refine sp E (bV E rfl) rfl λa E=>sp E (aG E mW rfl) rfl λa E=>?_;obtain⟨x182,h5,h⟩:=ob h;refine st0 E (AM (k:=ah) (o:=2) E hS sq EG (a1.mono (zh Z f4)) h5 rfl rfl c1 (i:=2) rfl) ?_;rintro _ w ⟨p4,h2,hS⟩ E;refine ag ?_;rw[g0] at hS;have hS:=hS.permT (Fk (List.getElem?_eq_some_iff.1 g5).1 TL);exact⟨(a6.set a0 ({ x182 with fRow:=e1 })),h,_,f4,p4,_,h2,hS,kut E⟩}}}}}
 {rintro a w ⟨b7,h,r8,i4,b4,c2,n6,hS,E⟩;unfold cK at h;refine ai (qB E rfl rfl (cy rfl) λa E=>qM E rfl λa E=>ag ?_);exact⟨(Q0.wrap (b2+1),b7),(Option.some.inj h).symm,_,(zh b0 (zh Z i4)),b4,c2,(aI _ _),n6,(hS.pickL 3 [1,2] rfl rfl rfl),kut E⟩}}}}
 {have h:=aH e0 h;refine eJ rfl rfl ?_;have h:=cG h hb20;exact⟨a6,h,_,b0,a5,a2,a1,hS,E.cut trivial⟩}}}
 {
 rintro a w ⟨x7,h,m5,m1,b6,c3,l4,hS,E⟩;unfold gT at h;refine ab (ai (qA E rfl λa E=>ag (bq ?_)));obtain rfl:=oi h
 try dsimp only
 refine f1 E ?_;exact⟨_,m1,b6,c3,hS,l4,dA⟩}
theorem Mj:Ctr Sz prog 138 [.rd (.sl (.st 59)),.rd (.sl (.st 59)),.f2 (.st 59) (.st 59) .bool] [.rd .bool] (λx=>dO x.1 x.2.1 x.2.2.1):=
 ncR [] [6] func138 ntmps138 (.s .o (.s .o (.s (.s .o (.b (.l ⟨[.v 17 1 (.dat (.int .i64) none)],[1,2,15,16],0,[]⟩ .o))) .o))) λx=>by kernel_rfl
theorem oD (hS:S W0 m w L TL) {p0}(a1:RV (kSl ah) m v0 p0) {p1}(W:RV (kSl ah) m v1 p1) {p2}(a2:Fn2 prog ah ah cj m v2 p2) {r}(h:dO p0 p1 p2=some r):
    Calls prog 138 #[v0,v1,v2] w (Ret λv w'=>∃m',M.le m m'/\S W0 m' w' L TL/\RV cj m' v r):=by
 refine rm (Mj W0 m w L TL [v0,v1,v2] (p0,p1,p2,()) r [] [] hS ⟨a1,⟨W,⟨a2,trivial⟩⟩⟩ h) λv w' he=>?_;obtain⟨m',us,Lr,Lq,Tr,hm,J,rfl,Z,hO⟩:=he;obtain⟨u0,us,rfl,r0,a3⟩:=cH Z;obtain⟨rfl,rfl,rfl⟩:=bF a3;have a4:=bj hO;have a5:=bj a4;have a0:=vy a5;obtain rfl:=bG a0;exact⟨m',hm,J,r0⟩
theorem Mk:Ctr Sz prog 139 [.rd (.st 59),.rd (.st 59)] [.rd .bool] (λx=>dG x.1 x.2.1):=
 ncR [] [4] func139 ntmps139 .o λx=>by kernel_rfl
theorem pN (hS:S W0 m w L TL) {p0}(a1:RV ah m v0 p0) {p1}(W:RV ah m v1 p1) {r}(h:dG p0 p1=some r):
    Calls prog 139 #[v0,v1] w (Ret λv w'=>∃m',M.le m m'/\S W0 m' w' L TL/\RV cj m' v r):=by
 refine rm (Mk W0 m w L TL [v0,v1] (p0,p1,()) r [] [] hS ⟨a1,⟨W,trivial⟩⟩ h) λv w' he=>?_;obtain⟨m',us,Lr,Lq,Tr,hm,J,rfl,Z,hO⟩:=he;obtain⟨u0,us,rfl,r0,a0⟩:=cH Z;obtain⟨rfl,rfl,rfl⟩:=bF a0;have a2:=bj hO;have a3:=bj a2;obtain rfl:=bG a3;exact⟨m',hm,J,r0⟩
theorem Ml {m0:M}:Fn2 prog ah ah cj m0 (.func (.func 139) #[] #[]) dG:=by
  refine⟨139,_,rfl,call139,?_⟩;intro W0 m w L TL v0 v1 x0 x1 r hm hS W J Z;refine(pN (hS:=hS) W J Z).mono ?_;intro e w' h;cases e with
  |returned v=>obtain⟨m',J,h2,h3⟩:=h;exact⟨m',J,h2,h3⟩
  |panicked ch=>exact h.elim
  |outgrown=>exact h.elim
theorem rz (hS:S W0 m w L TL) {p0}(a0:RV (kPt bp) m v0 p0) {r}(h:fX p0=some r):
    Calls prog 86 #[v0] w (Ret λv w'=>∃m',M.le m m'/\S W0 m' w' L TL/\RV cj m' v r):=by
 refine kc func86 ntmps86 λa E=>?_;have E:Env 19 a [(0,v0)]:=E;unfold fX at h;refine ab (ai (qA E rfl λa E=>ag (ab ?_)));obtain⟨x2,a4,x7,a9,h⟩:=ob2 h
 refine kch (k:=8) (m:=m) (es:=[]) (Φ:=(λi m ws v=>match i with|0=>v=v0|1=>v=v0|2=>PR (kSl (aj .i64)) m v x2.fSort|3=>RV (kSl (aj .i64)) m v x2.fSort|4=>v=v0|5=>v=v0|6=>PR (kSl ah) m v x7.fL|7=>RV (kSl ah) m v x7.fL|_=>True)) (Q:=(λc m ws L' c5=>match c with|0=>L=L'/\TL=c5|_=>False)) (cs:=[xV [(0,v0)],xV [],xV [],xV [],xV [(0,v0)],xV [],xV [],xV []]) mixed E hS ⟨rfl,rfl⟩ rfl rfl (by kernel_rfl) ?_ ?_ ?_ ?_
 {
 intro i m_ c0 ws v n_ q_
 iterate 8 (rcases i with _|i;first|exact q_|exact PR.mono q_ n_|exact RV.mono q_ n_)
 exact trivial}
 {
 intro c m_ c0 ws L_ T_ n_ a1
 match c,a1 with
 |0,⟨e5,c4⟩=>exact⟨e5,c4⟩
 |_+1,a1=>exact a1.elim}
 {
 refine⟨?_,?_,?_,?_,?_,?_,?_,?_,trivial⟩
 {exact cmv λ_ _=>rfl}
 {refine cp0 λ_ _ _ _ _ _ _ Z _ J W T'=>?_;have E:=W.add (T' 0);exact cq (nZ E rfl (a0.mono Z) a4) J rfl}
 {refine cp0 λ_ _ _ _ _ _ _ Z _ J W T'=>?_;have E:=W.add (T' 1);exact cr (gX E nG w8 rfl ((oJ a0 a4).mono Z)) J λ_ h=>h}
 {
 refine cp0 λ_ _ _ m' a' _ _ _ _ J W T'=>?_;obtain⟨g1,e6,c1⟩:∃v,a'.tmps.getD 6 undef=v/\(PR (kSl (aj .i64)) m' v x2.fSort):=⟨_,rfl,T' 2⟩
 have E:=W.add (e6);exact cr (bh E J tO rfl c1) J λ_ h=>h}
 {exact cmv λ_ _=>rfl}
 {refine cp0 λ_ _ _ _ _ _ _ Z _ J W T'=>?_;have E:=W.add (T' 4);exact cq (nZ E rfl (a0.mono Z) a9) J rfl}
 {refine cp0 λ_ _ _ _ _ _ _ Z _ J W T'=>?_;have E:=W.add (T' 5);exact cr (gX E nH rq rfl ((oJ a0 a9).mono Z)) J λ_ h=>h}
 {
 refine cp0 λ_ _ _ m' a' _ _ _ _ J W T'=>?_;obtain⟨g2,b7,b5⟩:∃v,a'.tmps.getD 10 undef=v/\(PR (kSl ah) m' v x7.fL):=⟨_,rfl,T' 6⟩
 have E:=W.add (b7);exact cr (bh E J C0 rfl b5) J λ_ h=>h}}
 {
 intro g3 L_ T_ f3 a w c7 a2 e3 hS e4 e7 b4 a5;obtain rfl:=gQ c7;obtain⟨rfl,rfl⟩:=e3;have E:=eof 8 [(0,v0),(2,.bool false)] e4 e7 b4;obtain⟨c6,E,d2⟩:=adv E (a5 3);obtain⟨e8,E,e0⟩:=adv E (a5 7);obtain⟨e9,c3,h⟩:=ob h;refine st E (az (vs:=[c6,e8]) E rfl call27 (pI (hS:=hS) d2 e0 c3)) rfl ?_;rintro c2 a w ⟨d1,a3,hS,b2⟩ E;refine qA E rfl λa E=>ag (ab (ai (qM E rfl λa E=>qM E rfl λa E=>?_)));obtain⟨f6,a6,h⟩:=ob h;refine sp E (nZ E rfl (a0.mono (zh a2 a3)) a6) rfl λa E=>?_
 refine st E (gX E nH rq rfl ((oJ a0 a6).mono (zh a2 a3))) rfl ?_;rintro g0 a _ ⟨rfl,b6⟩ E;refine st E (bh E hS C0 rfl b6) rfl ?_;rintro b0 a _ ⟨rfl,b3⟩ E;obtain⟨f5,d0,h⟩:=ob h;refine st E (az (vs:=[c2,b0,(.func (.func 139) #[] #[])]) E rfl call138 (oD (hS:=hS) b2 b3 (Ml (m0:=d1)) d0)) rfl ?_;rintro f4 a w ⟨f0,e1,hS,b1⟩ E;obtain rfl:=dU b1;refine qA E rfl λa E=>ag (bq ?_);obtain rfl:=oi h
 try dsimp only
 refine f1 E ?_;exact⟨_,(zh a2 (zh a3 e1)),hS,dA⟩}
theorem NU:StF E0 uH 2 (λx _=>x):=cS (bL (bL bO)) (λ_ _=>rfl)
theorem GB {m:M}{cs:List Value}{x:ay}(h:bp.R m cs x):E0.R m cs x:=by
  obtain⟨h0,Z,W⟩:=h;refine⟨h0,Z,?_⟩;obtain⟨a,len,cap,J,_⟩:=W;exact⟨_,J,rfl⟩
theorem Iw {m:M}{cs:List Value}{x:ay}{v:Value}{l:List aa}(h:E0.R m cs x)(hc:cs[2]? =some v)(hv:RV (kSl ah) m v l):bp.R m cs { x with fL:=l }:=by
  obtain⟨h0,h1,h2⟩:=h;refine⟨h0,h1,?_⟩;obtain⟨c,J,_⟩:=h2;have J:(cs.drop 1).drop 1=[c]:=J;rw[List.drop_drop] at J
  have:c=v:=by
    have W:(cs.drop 2)[0]? =some c:=by rw[show 2=1+1 from rfl,J];rfl
    rw[Q2,hc] at W;injection W with W;exact W.symm
  subst this;show(kSl ah).R m ((cs.drop 1).drop 1) l;rw[List.drop_drop,J];obtain⟨ds,hR,Z⟩:=hv;have hl:=(kSl ah).len hR
  match ds,hl,Z with
  | [d],_,Z=>
    have:c=d:=Z;subst this;exact hR
theorem xf (hS:S W0 m w L TL) {p0}(a1:RV (kSl (aj .u8)) m v0 p0) {r}(h:jF p0=some r):
    Calls prog 33 #[v0] w (Ret λv w'=>∃m',M.le m m'/\S W0 m' w' L TL/\∃v0_ v1_:Value,v= .tuple #[v0_,v1_]/\RV (kPt bp) m' v0_ r.1/\RV (aj .i64) m' v1_ r.2):=by
 refine kc func33 ntmps33 λa E=>?_;have E:Env 120 a [(0,v0)]:=E;unfold jF at h;refine ab (ai (qA E rfl λa E=>qA E rfl λa E=>ag (ab (ai (sp E (Fh E rfl underlying120 (pl:=[(0,1),(1,1),(2,1)]) rfl zeroValue120) rfl λa E=>?_)))));refine st E (Hp (zc:=qr) E hS rfl) rfl ?_;rintro _ a w ⟨Z,rfl,hS⟩ E;refine qA E rfl λa E=>ag (ab (ab ?_));refine cF (λa w=>∃g3:Bool,iZ p0 g3=some r/\∃m',M.le m m'/\S W0 m' w ((Z,qr)::L) (TL)/\Env 120 a [(0,v0),(4,pz Z),(32,.bool g3)]) ?_ ?_
 {
 rcases zw (decide ((p0.length:Int)<4)) with hd364|hd364
 {
 have h:=aD hd364 h
 refine kch (k:=15) (m:=m) (es:=[]) (Φ:=(λi m ws v=>match i with|0=>v=v0|1=>ei .i64 (p0.length:Int) v|2=>v=(.bool (decide ((p0.length:Int)<4)))|3=>v=(.bool (decide ((p0.length:Int)<4)))|4=>v=undef|5=>v=undef|6=>v=undef|7=>v=undef|8=>v=undef|9=>v=undef|10=>v=undef|11=>v=undef|12=>v=undef|13=>v=undef|14=>v=undef|_=>True)) (Q:=(λc m ws L' b6=>match c with|0=>(Z,qr)::L=L'/\TL=b6|_=>False)) (cs:=[xV [(0,v0)],xV [],xV [],xV [],xV [(0,v0)],xV [(0,v0)],xV [],xV [],xV [],xV [],xV [(0,v0)],xV [(0,v0)],xV [],xV [],xV []]) mixed E hS ⟨rfl,rfl⟩ rfl rfl (by kernel_rfl) ?_ ?_ ?_ ?_
 {
 intro i m_ b4 ws v n_ q_
 iterate 15 (rcases i with _|i;exact q_)
 exact trivial}
 {
 intro c m_ b4 ws L_ T_ n_ a0
 match c,a0 with
 |0,⟨b2,b1⟩=>exact⟨b2,b1⟩
 |_+1,a0=>exact a0.elim}
 {
 refine⟨?_,?_,?_,?_,?_,?_,?_,?_,?_,?_,?_,?_,?_,?_,?_,trivial⟩
 {exact cmv λ_ _=>rfl}
 {refine cp0 λ_ _ _ _ _ _ _ M' _ J W T'=>?_;have E:=W.add (T' 0);exact cq (aV (k:=(aj .u8)) E rfl rfl underlying24 (a1.mono M')) J ⟨rfl,(dR (ic (a1.mono M')))⟩}
 {refine cp0 λ_ _ _ _ _ _ _ _ _ J W T'=>?_;have E:=W.add (T' 1).1;exact cq (be E rfl rfl cz) J rfl}
 {refine cp0 λ_ _ _ _ _ _ _ _ _ J W T'=>?_;have E:=W.add (T' 2);exact cq (iJ E rfl) J rfl}
 {exact csk (gz hd364)}
 {exact csk (gz hd364)}
 {exact csk (gz hd364)}
 {exact csk (gz hd364)}
 {exact csk (gz hd364)}
 {exact csk (gz hd364)}
 {exact csk (gz hd364)}
 {exact csk (gz hd364)}
 {exact csk (gz hd364)}
 {exact csk (gz hd364)}
 {exact csk (gz hd364)}}
 {intro h5 L_ T_ V4 a w t9 z3 t4 hS q3 m4 z0 h1;obtain rfl:=gQ t9;obtain⟨rfl,rfl⟩:=t4;have E:=eof 15 [(0,v0),(2,.pointer none),(3,.int .i64 0),(4,pz Z),(12,(.agg qr.toArray)),(13,pz Z)] q3 m4 z0;have E:=((E.add (h1 3)).add (h1 9)).add (h1 14);refine qX E hd364 λa E=>qX E hd364 λa E=>qX E hd364 λa E=>qT E hd364 rfl λa E=>ag ?_;exact⟨true,h,_,z3,hS,kut E⟩}}
 {
 have h:=aH hd364 h;obtain⟨t0,m2,j2,n6,h⟩:=ob2 h;obtain⟨t3,z9,h⟩:=ob h
 refine kch (k:=15) (m:=m) (es:=[]) (Φ:=(λi m ws v=>match i with|0=>v=v0|1=>ei .i64 (p0.length:Int) v|2=>v=(.bool (decide ((p0.length:Int)<4)))|3=>v=(.bool (decide ((p0.length:Int)<4)))|4=>v=v0|5=>v=v0|6=>ei .i64 (p0.length:Int) v|7=>ei .i64 (Q0.wrap ((p0.length:Int) - 4)) v|8=>RV (kSl (aj .u8)) m v t0|9=>ei .i64 j2 v|10=>v=v0|11=>v=v0|12=>ei .i64 (p0.length:Int) v|13=>ei .i64 (Q0.wrap ((p0.length:Int) - 4)) v|14=>RV (kSl (aj .u8)) m v t3|_=>True)) (Q:=(λc m ws L' b6=>match c with|0=>(Z,qr)::L=L'/\TL=b6|_=>False)) (cs:=[xV [(0,v0)],xV [],xV [],xV [],xV [(0,v0)],xV [(0,v0)],xV [],xV [],xV [],xV [],xV [(0,v0)],xV [(0,v0)],xV [],xV [],xV []]) mixed E hS ⟨rfl,rfl⟩ rfl rfl (by kernel_rfl) ?_ ?_ ?_ ?_
 {
 intro i m_ b4 ws v n_ q_
 iterate 15 (rcases i with _|i;first|exact q_|exact RV.mono q_ n_)
 exact trivial}
 {
 intro c m_ b4 ws L_ T_ n_ a0
 match c,a0 with
 |0,⟨b2,b1⟩=>exact⟨b2,b1⟩
 |_+1,a0=>exact a0.elim}
 {
 refine⟨?_,?_,?_,?_,?_,?_,?_,?_,?_,?_,?_,?_,?_,?_,?_,trivial⟩
 {exact cmv λ_ _=>rfl}
 {refine cp0 λ_ _ _ _ _ _ _ M' _ J W T'=>?_;have E:=W.add (T' 0);exact cq (aV (k:=(aj .u8)) E rfl rfl underlying24 (a1.mono M')) J ⟨rfl,(dR (ic (a1.mono M')))⟩}
 {refine cp0 λ_ _ _ _ _ _ _ _ _ J W T'=>?_;have E:=W.add (T' 1).1;exact cq (be E rfl rfl cz) J rfl}
 {refine cp0 λ_ _ _ _ _ _ _ _ _ J W T'=>?_;have E:=W.add (T' 2);exact cq (iJ E rfl) J rfl}
 {exact cgm (gz hd364) (λ_ _=>rfl)}
 {exact cgm (gz hd364) (λ_ _=>rfl)}
 {refine cg0 (gz hd364) λ_ _ _ _ _ _ _ M' _ J W T'=>?_;have E:=W.add (T' 5);exact cq (aV (k:=(aj .u8)) E rfl rfl underlying24 (a1.mono M')) J ⟨rfl,(dR (ic (a1.mono M')))⟩}
 {refine cg0 (gz hd364) λ_ _ _ _ _ _ _ _ _ J W T'=>?_;have E:=W.add (T' 6).1;exact cq (be E rfl rfl (ku rfl)) J ⟨rfl,(aI _ _)⟩}
 {refine cg0 (gz hd364) λ_ _ _ _ _ _ _ M' _ J W T'=>?_;have E:=(W.add (T' 4)).add (T' 7).1;exact cr (dJ (k:=(aj .u8)) E rfl underlying24 sizeOf5 (a1.mono M') ⟨_,rfl⟩ rfl m2 (xl:=(some (.tmp 21))) (xh:=none)) J λ_ h=>h}
 {refine cg0 (gz hd364) λ_ _ _ m' a' _ _ _ _ J W T'=>?_;obtain⟨w2,E,u1⟩:=adv W (T' 8);refine aM.imp (az (vs:=[w2]) E rfl call82 (j0 (hS:=J) u1 n6)) ?_;rintro T8 w ⟨V6,w3,hS,P6⟩;obtain⟨rfl,o3⟩:=aK P6;exact⟨_,w3,hS,⟨rfl,o3⟩⟩}
 {exact cgm (gz hd364) (λ_ _=>rfl)}
 {exact cgm (gz hd364) (λ_ _=>rfl)}
 {refine cg0 (gz hd364) λ_ _ _ _ _ _ _ M' _ J W T'=>?_;have E:=W.add (T' 11);exact cq (aV (k:=(aj .u8)) E rfl rfl underlying24 (a1.mono M')) J ⟨rfl,(dR (ic (a1.mono M')))⟩}
 {refine cg0 (gz hd364) λ_ _ _ _ _ _ _ _ _ J W T'=>?_;have E:=W.add (T' 12).1;exact cq (be E rfl rfl (ku rfl)) J ⟨rfl,(aI _ _)⟩}
 {refine cg0 (gz hd364) λ_ _ _ _ _ _ _ M' _ J W T'=>?_;have E:=(W.add (T' 10)).add (T' 13).1;exact cr (dJ (k:=(aj .u8)) E rfl underlying24 sizeOf5 (a1.mono M') rfl ⟨_,rfl⟩ z9 (xl:=none) (xh:=(some (.tmp 27)))) J λ_ h=>h}}
 {
 intro h5 L_ T_ V5 a w r0 k7 t5 hS x7 r4 P7 h2;obtain rfl:=gQ r0;obtain⟨rfl,rfl⟩:=t5;have E:=eof 15 [(0,v0),(2,.pointer none),(3,.int .i64 0),(4,pz Z),(12,(.agg qr.toArray)),(13,pz Z)] x7 r4 P7;have E:=(E.add (h2 3)).add (h2 9).1;obtain⟨r5,E,u0⟩:=adv E (h2 14);obtain⟨m3,r7,h⟩:=ob h;refine stg E rfl rfl rfl rfl hd364 (az (vs:=[r5]) E rfl call78 (uv (hS:=hS) u0 r7)) rfl ?_;rintro T4 a w ⟨U2,w4,hS,o2⟩ E;obtain⟨rfl,T3⟩:=aK o2
 refine spg E rfl rfl rfl rfl hd364 (fj E rfl underlying55 underlying3 rfl) rfl λa E=>spg E rfl rfl rfl rfl hd364 (be E rfl rfl oI) rfl λa E=>qF E hd364 rfl λa E=>ag ?_;exact⟨(j2 != (Q0.wrap m3)),h,_,(zh k7 w4),hS,kut E⟩}}}
 {
 rintro a w ⟨g3,h,m8,a6,hS,E⟩;unfold iZ at h;refine kif E rfl (λf0=>?_) (λf0=>?_)
 {
 have h:=aD f0 h;refine ab (ai (qA E rfl λa E=>qA E rfl λa E=>ag (bq ?_)));obtain rfl:=oi h
 try dsimp only
 refine f2 E ?_;exact⟨_,a6,(hS.dropL 1),_,_,rfl,(s4 (m:=m8) (k:=bp)),(au (show inR .i64 80 from ax (by decide)))⟩}
 {
 have h:=aH f0 h;refine aW (ab (ai (qM E rfl λa E=>qM E rfl λa E=>qM E rfl λa E=>sp E (aV (k:=(aj .u8)) E rfl rfl underlying24 (a1.mono a6)) rfl λa E=>qB E rfl rfl (ku rfl) λa E=>?_)));obtain⟨T6,y2,h⟩:=ob h;refine st E (dJ (k:=(aj .u8)) E rfl underlying24 sizeOf5 (a1.mono a6) rfl ⟨_,rfl⟩ y2 (xl:=none) (xh:=(some (.tmp 38)))) rfl ?_;rintro p8 a _ ⟨rfl,r1⟩ E;obtain⟨r24,r6,h⟩:=ob h;refine st E (az (vs:=[(pz Z),p8]) E rfl call83 (sM (hS:=hS) r1 r6)) rfl ?_;rintro _ a w ⟨d2,d1,R5,hS,m6,U0,x5,T9,rfl,n1,s1,r2⟩ E
 obtain⟨rfl,P4⟩:=aK n1;obtain rfl:=dU r2;refine qM E rfl λa E=>sp E (cl E rfl rfl) rfl λa E=>sp E (cl E rfl rfl) rfl λa E=>sp E (cl E rfl rfl) rfl λa E=>qA E rfl λa E=>qA E rfl λa E=>qA E rfl λa E=>ag (ab (ab ?_));refine ai (qM E rfl λa E=>sp E (kw E rfl) rfl λa E=>ag (kif E rfl (λf5=>?_) (λf5=>?_)))
 {
 have h:=aD f5 h;refine ab (ai (qA E rfl λa E=>qA E rfl λa E=>ag (bq ?_)));obtain rfl:=oi h
 try dsimp only
 refine f2 E ?_;exact⟨_,(zh a6 d1),(hS.dropL 1),_,_,rfl,(s4 (m:=d2) (k:=bp)),(au (show inR .i64 80 from ax (by decide)))⟩}
 {
 have h:=aH f5 h;refine aW (ab (ai (qM E rfl λa E=>qM E rfl λa E=>?_)));obtain⟨R7,p6,h⟩:=ob h;refine st E (Fl (k:=ah) (o:=2) (sz:=4) (m:=d2) E hS rfl rfl underlying50 type59 rfl rfl rfl (λm=>tN m) p6 rfl rfl rfl) rfl ?_;rintro g2 a w ⟨c0,F8,y3,i3,hS⟩ E;refine sp E (bV E rfl) rfl λa E=>sp E (aG E nH rfl) rfl λa E=>?_;refine st0 E (Du E hS G7 NU rfl rfl i3.1.one (i:=1) rfl (GB m6)) ?_;rintro _ w ⟨e6,h8,i5,hS⟩ E;refine ag (ab (ab (ai (qM E rfl λa E=>sp E (bV E rfl) rfl λa E=>sp E (aG E mA rfl) rfl λa E=>?_))))
 refine st E (aB E hS ty3 rfl (i:=1) rfl (Pe.R_drop (aJ h8))) rfl ?_;rintro R9 a _ ⟨rfl,s3⟩ E;obtain⟨rfl,U7⟩:=aK s3;refine qB E rfl rfl (cy rfl) λa E=>qM E rfl λa E=>ag ?_;refine cF (λa w=>∃a2:(List Int),∃d0:(List aa),kC r24 a2 d0=some r/\∃m',M.le d2 m'/\∃(a4:Value),∃(i0:List Value),∃(f6:List Value),RV (kSl (aj .u8)) m' a4 a2/\GR ah 2 m' c0 f6 g2 d0 i0/\S W0 m' w ((c0,f6)::(Z,e6)::L) (tls 4 i0++TL)/\Env 120 a [(4,pz Z),(6,a4)]) ?_ ?_
 {
 refine aY ?_;refine eX h (λ(s:List Int×Int×List aa) a w=>∃m',M.le d2 m'/\∃(a5:Value),∃(c4:List Value),∃(c3:List Value),RV (kSl (aj .u8)) m' a5 s.1/\inR .i64 s.2.1/\GR ah 2 m' c0 c3 g2 s.2.2 c4/\S W0 m' w ((c0,c3)::(Z,e6)::L) (tls 4 c4++TL)/\Env 120 a [(4,pz Z),(5,.int .i64 r24.1),(6,a5),(55,.int .i64 (Q0.wrap (r24.2.2.2.fColumns+3))),(56,.int .i64 s.2.1)]) ?_ ?_
 {exact⟨_,(Jn _),x5,y3,F8,s1,(show inR .i64 0 from ax (by decide)),i3,hS,kut E⟩}
 {
 rintro ⟨c2,b0,e5⟩ a w ⟨L1,c7,a5,c4,c3,b3,R0,g1,hS,E⟩ r261 h hb262;have h:fD r24 c2 b0 e5=some r261:=h;unfold fD at h;refine ab (ai (qB E rfl rfl cz λa E=>ag (ab (kif E rfl (λg0=>?_) (λg0=>?_)))))
 {
 have h:=aD g0 h;refine aW (ab (aY (ab (ai (qM E rfl λa E=>qA E rfl λa E=>ag (ab (ab ?_)))))));refine cF (λa w=>∃h9:Bool,iY r24 c2 b0 e5 h9=some r261/\∃m',M.le L1 m'/\S W0 m' w ((c0,c3)::(Z,e6)::L) (tls 4 c4++TL)/\Env 120 a [(4,pz Z),(5,.int .i64 r24.1),(6,a5),(8,.int .i64 b0),(55,.int .i64 (Q0.wrap (r24.2.2.2.fColumns+3))),(56,.int .i64 b0),(69,.bool h9)]) ?_ ?_
 {
 refine ai (qM E rfl λa E=>sp E (aV (k:=(aj .u8)) E rfl rfl underlying24 b3) rfl λa E=>qB E rfl rfl cz λa E=>qM E rfl λa E=>?_);rcases zw (decide ((c2.length:Int)<4)) with hd349|hd349
 {have h:=aD hd349 h;refine qX E hd349 λa E=>qX E hd349 λa E=>qX E hd349 λa E=>qX E hd349 λa E=>qX E hd349 λa E=>qX E hd349 λa E=>qT E hd349 rfl λa E=>ag ?_;exact⟨true,h,_,(Jn _),hS,kut E⟩}
 {have h:=aH hd349 h;refine qG E hd349 rfl λa E=>spg E rfl rfl rfl rfl hd349 (aV (k:=(aj .u8)) E rfl rfl underlying24 b3) rfl λa E=>qG E hd349 rfl λa E=>?_;obtain⟨m9,x3,h⟩:=ob h;refine stg E rfl rfl rfl rfl hd349 (az (vs:=[a5]) E rfl call82 (j0 (hS:=hS) b3 x3)) rfl ?_;rintro V2 a w ⟨U4,m7,hS,y4⟩ E;obtain⟨rfl,V9⟩:=aK y4;refine spg E rfl rfl rfl rfl hd349 (be E rfl rfl (cy rfl)) rfl λa E=>spg E rfl rfl rfl rfl hd349 (be E rfl rfl cz) rfl λa E=>qF E hd349 rfl λa E=>ag ?_;exact⟨(decide ((c2.length:Int)<(Q0.wrap (4+m9)))),h,_,m7,hS,kut E⟩}}
 {
 rintro a w ⟨h9,h,x8,a3,hS,E⟩;unfold iY at h;refine kif E rfl (λf4=>?_) (λf4=>?_)
 {
 have h:=aD f4 h;refine ab (ai (qA E rfl λa E=>qA E rfl λa E=>ag (bq ?_)));have h:=cG h hb262;obtain rfl:=oi h
 try dsimp only
 refine f2 E ?_;exact⟨_,(zh a6 (zh d1 (zh c7 a3))),(S.dropR (hS.dropL 2)),_,_,rfl,(s4 (m:=x8) (k:=bp)),(au (show inR .i64 80 from ax (by decide)))⟩}
 {
 have h:=aH f4 h;refine aW (ab (ai (qM E rfl λa E=>?_)));obtain⟨i4,p7,h⟩:=ob h;refine st E (az (vs:=[a5]) E rfl call82 (j0 (hS:=hS) (b3.mono a3) p7)) rfl ?_;rintro T7 a w ⟨U9,c1,hS,n2⟩ E;obtain⟨rfl,U6⟩:=aK n2;refine qA E rfl λa E=>ag (ab (ai (qM E rfl λa E=>qM E rfl λa E=>qB E rfl rfl (cy rfl) λa E=>?_)));obtain⟨R6,l4,h⟩:=ob h;refine st E (dJ (k:=(aj .u8)) E rfl underlying24 sizeOf5 (b3.mono (zh a3 c1)) ⟨_,rfl⟩ ⟨_,rfl⟩ l4 (xl:=(some (.const (.int .i64 4)))) (xh:=(some (.tmp 75)))) rfl ?_;rintro q2 a _ ⟨rfl,p4⟩ E
 refine qM E rfl λa E=>?_;obtain⟨x1,P3,h⟩:=ob h;refine st E (az (vs:=[q2,(.int .i64 r24.1)]) E rfl call84 (vd (hS:=hS) p4 P4 P3)) rfl ?_;rintro _ a w ⟨r9,c5,hS,l2,T1,rfl,P8,o1⟩ E;obtain rfl:=dU o1;refine qM E rfl λa E=>sp E (cl E rfl rfl) rfl λa E=>sp E (cl E rfl rfl) rfl λa E=>qA E rfl λa E=>qA E rfl λa E=>ag (ab (ab ?_))
 refine cF (λa w=>∃x307:Bool,∃e3:(List aa),iX c2 b0 i4 x307 e3=some r261/\∃m',M.le r9 m'/\∃(e7:List Value),∃(e8:List Value),GR ah 2 m' c0 e8 g2 e3 e7/\S W0 m' w ((c0,e8)::(Z,e6)::L) (tls 4 e7++TL)/\Env 120 a [(4,pz Z),(5,.int .i64 r24.1),(6,a5),(9,.int .i64 i4),(55,.int .i64 (Q0.wrap (r24.2.2.2.fColumns+3))),(56,.int .i64 b0),(89,.bool x307)]) ?_ ?_
 {
 refine ai (qM E rfl λa E=>sp E (kw E rfl) rfl λa E=>qM E rfl λa E=>?_);rcases zw (!x1.2) with hd329|hd329
 {have h:=aD hd329 h;refine qX E hd329 λa E=>qX E hd329 λa E=>qX E hd329 λa E=>qX E hd329 λa E=>qX E hd329 λa E=>qT E hd329 rfl λa E=>ag ?_;exact⟨true,e5,h,_,(Jn _),c4,c3,(g1.mono (zh a3 (zh c1 c5))),hS,kut E⟩}
 {
 have h:=aH hd329 h;refine qG E hd329 rfl λa E=>qG E hd329 rfl λa E=>qG E hd329 rfl λa E=>?_;obtain⟨j4,P1,h⟩:=ob h;refine stg E rfl rfl rfl rfl hd329 (az (vs:=[(pz Z),(.int .i64 b0),l2]) E rfl call85 (sP (hS:=(hS.pickL 2 [1,0] rfl rfl rfl)) (E0.mono (zh c7 (zh a3 (zh c1 c5))) h8) i5 (g1.mono (zh a3 (zh c1 c5))) R0 P8 P1)) rfl ?_;rintro V0 a w ⟨U3,I2,P9,k4,hS,m5,y1⟩ E;obtain rfl:=dU y1;refine spg E rfl rfl rfl rfl hd329 (kw E rfl) rfl λa E=>qF E hd329 rfl λa E=>ag ?_
 exact⟨(!j4.1),j4.2,h,_,I2,k4,P9,m5,(hS.pickL 2 [1,0] rfl rfl rfl),kut E⟩}}
 {
 rintro a w ⟨x307,e3,h,z5,h6,e7,e8,t1,hS,E⟩;unfold iX at h;refine kif E rfl (λh0=>?_) (λh0=>?_)
 {
 have h:=aD h0 h;refine ab (ai (qA E rfl λa E=>qA E rfl λa E=>ag (bq ?_)));have h:=cG h hb262;obtain rfl:=oi h
 try dsimp only
 refine f2 E ?_;exact⟨_,(zh a6 (zh d1 (zh c7 (zh a3 (zh c1 (zh c5 h6)))))),(S.dropR (hS.dropL 2)),_,_,rfl,(s4 (m:=z5) (k:=bp)),(au (show inR .i64 80 from ax (by decide)))⟩}
 {have h:=aH h0 h;refine aW (ai (qM E rfl λa E=>qM E rfl λa E=>qB E rfl rfl (cy rfl) λa E=>?_));obtain⟨z7,z8,h⟩:=ob h;refine st E (dJ (k:=(aj .u8)) E rfl underlying24 sizeOf5 (b3.mono (zh a3 (zh c1 (zh c5 h6)))) ⟨_,rfl⟩ rfl z8 (xl:=(some (.tmp 92))) (xh:=none)) rfl ?_;rintro s2 a _ ⟨rfl,z1⟩ E;refine qA E rfl λa E=>ag (ai (qB E rfl rfl (cy rfl) λa E=>qM E rfl λa E=>ag ?_));exact⟨(z7,Q0.wrap (b0+1),e3),(Option.some.inj h).symm,_,(zh c7 (zh a3 (zh c1 (zh c5 h6)))),s2,e7,e8,z1,(aI _ _),t1,hS,kut E⟩}}}}}
 {have h:=aH g0 h;refine eJ rfl rfl ?_;have h:=cG h hb262;exact⟨c2,e5,h,_,c7,a5,c4,c3,b3,g1,hS,kut E⟩}}}
 {
 rintro a w ⟨a2,d0,h,R4,f3,a4,i0,f6,e4,B0,hS,E⟩;unfold kC at h;refine ab (ab ?_);have hS:=S.dropR hS;obtain⟨U5,b7,hS,x9⟩:=S.freeze hS B0.1;obtain⟨h4,c6,hS,a9⟩:=S.freezeL (k:=bp) (xx:=({ r24.2.2.2 with fL:=d0 })) hS (Iw (E0.mono (zh f3 b7) h8) i5 x9);refine cF (λa w=>∃g6:Bool,iW r24 d0 g6=some r/\∃m',M.le h4 m'/\S W0 m' w L TL/\Env 120 a [(4,pz Z),(118,.bool g6)]) ?_ ?_
 {
 rcases zw (decide (0<(a2.length:Int))) with hd100|hd100
 {
 have h:=aD hd100 h
 refine kch (k:=16) (m:=h4) (es:=[]) (Φ:=(λi m ws v=>match i with|0=>v=a4|1=>ei .i64 (a2.length:Int) v|2=>v=(.bool (decide (0<(a2.length:Int))))|3=>v=(.bool (decide (0<(a2.length:Int))))|4=>v=undef|5=>v=undef|6=>v=undef|7=>v=undef|8=>v=undef|9=>v=undef|10=>v=undef|11=>v=undef|12=>v=undef|13=>v=undef|14=>v=undef|15=>v=undef|_=>True)) (Q:=(λc m ws L' b6=>match c with|0=>L=L'/\TL=b6|_=>False)) (cs:=[xV [(6,a4)],xV [],xV [],xV [],xV [(4,pz Z)],xV [],xV [],xV [],xV [(4,pz Z)],xV [],xV [],xV [],xV [(4,pz Z)],xV [],xV [],xV []]) mixed E hS ⟨rfl,rfl⟩ rfl rfl (by kernel_rfl) ?_ ?_ ?_ ?_
 {
 intro i m_ b4 ws v n_ q_
 iterate 16 (rcases i with _|i;exact q_)
 exact trivial}
 {
 intro c m_ b4 ws L_ T_ n_ a0
 match c,a0 with
 |0,⟨b2,b1⟩=>exact⟨b2,b1⟩
 |_+1,a0=>exact a0.elim}
 {
 refine⟨?_,?_,?_,?_,?_,?_,?_,?_,?_,?_,?_,?_,?_,?_,?_,?_,trivial⟩
 {exact cmv λ_ _=>rfl}
 {refine cp0 λ_ _ _ _ _ _ _ M' _ J W T'=>?_;have E:=W.add (T' 0);exact cq (aV (k:=(aj .u8)) E rfl rfl underlying24 (e4.mono (zh b7 (zh c6 M')))) J ⟨rfl,(dR (ic (e4.mono (zh b7 (zh c6 M')))))⟩}
 {refine cp0 λ_ _ _ _ _ _ _ _ _ J W T'=>?_;have E:=W.add (T' 1).1;exact cq (be E rfl rfl l6) J rfl}
 {refine cp0 λ_ _ _ _ _ _ _ _ _ J W T'=>?_;have E:=W.add (T' 2);exact cq (iJ E rfl) J rfl}
 {exact csk (gz hd100)}
 {exact csk (gz hd100)}
 {exact csk (gz hd100)}
 {exact csk (gz hd100)}
 {exact csk (gz hd100)}
 {exact csk (gz hd100)}
 {exact csk (gz hd100)}
 {exact csk (gz hd100)}
 {exact csk (gz hd100)}
 {exact csk (gz hd100)}
 {exact csk (gz hd100)}
 {exact csk (gz hd100)}}
 {intro h5 L_ T_ T5 a w w0 y0 q6 hS q5 n3 p2 e1;obtain rfl:=gQ w0;obtain⟨rfl,rfl⟩:=q6;have E:=eof 16 [(4,pz Z),(6,a4)] q5 n3 p2;have E:=(((E.add (e1 3)).add (e1 7)).add (e1 11)).add (e1 15);refine qX E hd100 λa E=>qX E hd100 λa E=>qT E hd100 rfl λa E=>qM E rfl λa E=>qX E rfl λa E=>qX E rfl λa E=>qX E rfl λa E=>qT E rfl rfl λa E=>ag ?_;exact⟨true,h,_,y0,hS,kut E⟩}}
 {
 have h:=aH hd100 h;obtain⟨e0,j1,i2,k0,h⟩:=ob2 h;obtain⟨g4,k3,h⟩:=ob h
 refine kch (k:=16) (m:=h4) (es:=[]) (Φ:=(λi m ws v=>match i with|0=>v=a4|1=>ei .i64 (a2.length:Int) v|2=>v=(.bool (decide (0<(a2.length:Int))))|3=>v=(.bool (decide (0<(a2.length:Int))))|4=>v=(pz Z)|5=>v=(pz Z)|6=>PR (aj .i64) m v e0.fColumns|7=>ei .i64 e0.fColumns v|8=>v=(pz Z)|9=>v=(pz Z)|10=>PR (kSl (aj .i64)) m v i2.fSort|11=>RV (kSl (aj .i64)) m v i2.fSort|12=>v=(pz Z)|13=>v=(pz Z)|14=>PR (kSl ah) m v g4.fL|15=>RV (kSl ah) m v g4.fL|_=>True)) (Q:=(λc m ws L' b6=>match c with|0=>L=L'/\TL=b6|_=>False)) (cs:=[xV [(6,a4)],xV [],xV [],xV [],xV [(4,pz Z)],xV [],xV [],xV [],xV [(4,pz Z)],xV [],xV [],xV [],xV [(4,pz Z)],xV [],xV [],xV []]) mixed E hS ⟨rfl,rfl⟩ rfl rfl (by kernel_rfl) ?_ ?_ ?_ ?_
 {
 intro i m_ b4 ws v n_ q_
 iterate 16 (rcases i with _|i;first|exact q_|exact PR.mono q_ n_|exact RV.mono q_ n_)
 exact trivial}
 {
 intro c m_ b4 ws L_ T_ n_ a0
 match c,a0 with
 |0,⟨b2,b1⟩=>exact⟨b2,b1⟩
 |_+1,a0=>exact a0.elim}
 {
 refine⟨?_,?_,?_,?_,?_,?_,?_,?_,?_,?_,?_,?_,?_,?_,?_,?_,trivial⟩
 {exact cmv λ_ _=>rfl}
 {refine cp0 λ_ _ _ _ _ _ _ M' _ J W T'=>?_;have E:=W.add (T' 0);exact cq (aV (k:=(aj .u8)) E rfl rfl underlying24 (e4.mono (zh b7 (zh c6 M')))) J ⟨rfl,(dR (ic (e4.mono (zh b7 (zh c6 M')))))⟩}
 {refine cp0 λ_ _ _ _ _ _ _ _ _ J W T'=>?_;have E:=W.add (T' 1).1;exact cq (be E rfl rfl l6) J rfl}
 {refine cp0 λ_ _ _ _ _ _ _ _ _ J W T'=>?_;have E:=W.add (T' 2);exact cq (iJ E rfl) J rfl}
 {exact cgm (gz hd100) (λ_ _=>rfl)}
 {refine cg0 (gz hd100) λ_ _ _ _ _ _ _ M' _ J W T'=>?_;have E:=W.add (T' 4);exact cq (nZ E rfl ((pR a9).mono M') j1) J rfl}
 {refine cg0 (gz hd100) λ_ _ _ _ _ _ _ M' _ J W T'=>?_;have E:=W.add (T' 5);exact cr (gX E mA BF rfl ((oJ (pR a9) j1).mono M')) J λ_ h=>h}
 {
 refine cg0 (gz hd100) λ_ _ _ m' a' _ _ _ _ J W T'=>?_;obtain⟨V7,w1,q4⟩:∃v,a'.tmps.getD 101 undef=v/\(PR (aj .i64) m' v e0.fColumns):=⟨_,rfl,T' 6⟩
 have E:=W.add (w1);exact cr (bh E J ty3 rfl q4) J λ_ h=>aK h}
 {exact cgm (gz hd100) (λ_ _=>rfl)}
 {refine cg0 (gz hd100) λ_ _ _ _ _ _ _ M' _ J W T'=>?_;have E:=W.add (T' 8);exact cq (nZ E rfl ((pR a9).mono M') k0) J rfl}
 {refine cg0 (gz hd100) λ_ _ _ _ _ _ _ M' _ J W T'=>?_;have E:=W.add (T' 9);exact cr (gX E nG w8 rfl ((oJ (pR a9) k0).mono M')) J λ_ h=>h}
 {
 refine cg0 (gz hd100) λ_ _ _ m' a' _ _ _ _ J W T'=>?_;obtain⟨R8,q1,r8⟩:∃v,a'.tmps.getD 105 undef=v/\(PR (kSl (aj .i64)) m' v i2.fSort):=⟨_,rfl,T' 10⟩
 have E:=W.add (q1);exact cr (bh E J tO rfl r8) J λ_ h=>h}
 {exact cgm (gz hd100) (λ_ _=>rfl)}
 {refine cg0 (gz hd100) λ_ _ _ _ _ _ _ M' _ J W T'=>?_;have E:=W.add (T' 12);exact cq (nZ E rfl ((pR a9).mono M') k3) J rfl}
 {refine cg0 (gz hd100) λ_ _ _ _ _ _ _ M' _ J W T'=>?_;have E:=W.add (T' 13);exact cr (gX E nH rq rfl ((oJ (pR a9) k3).mono M')) J λ_ h=>h}
 {
 refine cg0 (gz hd100) λ_ _ _ m' a' _ _ _ _ J W T'=>?_;obtain⟨U8,q7,n0⟩:∃v,a'.tmps.getD 109 undef=v/\(PR (kSl ah) m' v g4.fL):=⟨_,rfl,T' 14⟩
 have E:=W.add (q7);exact cr (bh E J C0 rfl n0) J λ_ h=>h}}
 {
 intro h5 L_ T_ T2 a w P2 i1 P0 hS x4 R3 n4 e9;obtain rfl:=gQ P2;obtain⟨rfl,rfl⟩:=P0;have E:=eof 16 [(4,pz Z),(6,a4)] x4 R3 n4;have E:=E.add (e9 3);obtain⟨k5,m1⟩:=e9 7;have E:=E.add k5;obtain⟨P5,E,q0⟩:=adv E (e9 11);obtain⟨u2,E,l3⟩:=adv E (e9 15);obtain⟨p3,x2,h⟩:=ob h;refine stg E rfl rfl rfl rfl hd100 (az (vs:=[(.int .i64 e0.fColumns),P5,u2]) E rfl call74 (jo (hS:=hS) m1 q0 l3 x2)) rfl ?_;rintro V3 a w ⟨U1,h3,hS,l1⟩ E;obtain⟨rfl,W1⟩:=aK l1
 refine spg E rfl rfl rfl rfl hd100 (be E rfl rfl oI) rfl λa E=>qF E hd100 rfl λa E=>qM E rfl λa E=>?_;rcases zw (p3 != 0) with hd239|hd239
 {have h:=aD hd239 h;refine qX E hd239 λa E=>qX E hd239 λa E=>qX E hd239 λa E=>qT E hd239 rfl λa E=>ag ?_;exact⟨true,h,_,(zh i1 h3),hS,kut E⟩}
 {have h:=aH hd239 h;refine qG E hd239 rfl λa E=>?_;obtain⟨k6,o0,h⟩:=ob h;refine stg E rfl rfl rfl rfl hd239 (az (vs:=[(pz Z)]) E rfl call86 (rz (hS:=hS) ((pR a9).mono (zh i1 h3)) o0)) rfl ?_;rintro V8 a w ⟨V1,p5,hS,z4⟩ E;obtain rfl:=dU z4;refine spg E rfl rfl rfl rfl hd239 (kw E rfl) rfl λa E=>qF E hd239 rfl λa E=>ag ?_;exact⟨(!k6),h,_,(zh i1 (zh h3 p5)),hS,kut E⟩}}}}
 {
 rintro a w ⟨g6,h,r3,g5,hS,E⟩;unfold iW at h;refine kif E rfl (λh7=>?_) (λh7=>?_)
 {
 have h:=aD h7 h;refine ab (ai (qA E rfl λa E=>qA E rfl λa E=>ag (bq ?_)));obtain rfl:=oi h
 try dsimp only
 refine f2 E ?_;exact⟨_,(zh a6 (zh d1 (zh f3 (zh b7 (zh c6 g5))))),hS,_,_,rfl,(s4 (m:=r3) (k:=bp)),(au (show inR .i64 80 from ax (by decide)))⟩}
 {
 have h:=aH h7 h;refine aW (ab (ai (qM E rfl λa E=>qA E rfl λa E=>qA E rfl λa E=>ag (bq ?_))));obtain rfl:=oi h
 try dsimp only
 refine f2 E ?_;exact⟨_,(zh a6 (zh d1 (zh f3 (zh b7 (zh c6 g5))))),hS,_,_,rfl,((pR a9).mono g5),(au (show inR .i64 0 from ax (by decide)))⟩}}}}}}
theorem NV:Ctr Sz prog 33 [.rd (.sl (.int .u8))] [.rd (.st 65),.rd (.int .i64)] (λx=>jF x.1):=by
 intro W0 m w L TL vs x r Lp Tp hS hP h;obtain⟨v0,vs,rfl,a0,a1⟩:=it hP;obtain⟨rfl,rfl,rfl⟩:=lL a1;refine rm (xf (hS:=hS) a0 h) λv w' he=>?_;obtain⟨m',W,J,u0,u1,rfl,r0,Z⟩:=he;exact⟨m',[u0,u1],[],[],[],W,J,rfl,⟨r0,⟨Z,trivial⟩⟩,trivial⟩
def NW:=mC NV call33
theorem rA (hS:S W0 m w L TL) {p0}(Z:RV ah m v0 p0) {p1}(J:PR bm m v1 p1) {r}(h:cB p0 p1=some r):
    Calls prog 91 #[v0,v1] w (Ret λv w'=>∃m',M.le m m'/\S W0 m' w' L TL/\RV cj m' v r):=by
 refine kc func91 ntmps91 λa E=>?_;have E:Env 8 a [(0,v0),(1,v1)]:=E;unfold cB at h;refine ab (ai ?_);refine st E (j3 (k:=ah) E hS rfl Z) rfl ?_;rintro _ a w ⟨b1,a3,rfl,a0,hS⟩ E;refine qA E rfl λa E=>ag (ab (ai (sp E (aG E ov rfl) rfl λa E=>?_)));refine st E (aB E hS va rfl (i:=0) rfl (vT.R_drop (aJ a0))) rfl ?_;rintro v8 a _ ⟨rfl,a1⟩ E;refine st E (bh E hS va rfl J) rfl ?_;rintro a2 a _ ⟨rfl,W⟩ E;refine sp E (vh E JO rfl rfl a1 W rfl) rfl λa E=>qA E rfl λa E=>ag (bq ?_);obtain rfl:=oi h
 try dsimp only
 refine f1 E ?_;exact⟨_,(Jn _),(hS.dropL 1),dA⟩
theorem NX:Ctr Sz prog 90 [.rd (.sl (.st 59)),.f1 (.st 59) .bool] [.rd (.int .i64)] (λx=>dP x.1 x.2.1):=
 ncR [] [4] func90 ntmps90 (.s .o (.s (.s .o (.b (.l ⟨[.v 8 1 (.dat (.int .i64) none)],[0,1,7],0,[]⟩ .o))) .o)) λx=>by kernel_rfl
theorem oE (hS:S W0 m w L TL) {p0}(a1:RV (kSl ah) m v0 p0) {p1}(W:Fn1 prog ah cj m v1 p1) {r}(h:dP p0 p1=some r):
    Calls prog 90 #[v0,v1] w (Ret λv w'=>∃m',M.le m m'/\S W0 m' w' L TL/\RV (aj .i64) m' v r):=by
 refine rm (NX W0 m w L TL [v0,v1] (p0,p1,()) r [] [] hS ⟨a1,⟨W,trivial⟩⟩ h) λv w' he=>?_;obtain⟨m',us,Lr,Lq,Tr,hm,J,rfl,Z,hO⟩:=he;obtain⟨u0,us,rfl,r0,a0⟩:=cH Z;obtain⟨rfl,rfl,rfl⟩:=bF a0;have a2:=bj hO;have a3:=GP a2;obtain rfl:=bG a3;exact⟨m',hm,J,r0⟩
theorem NY {m0:M}{J:Value}{W:aF}(a0:PR bm m0 J W):Fn1 prog ah cj m0 (.func (.func 91) #[] #[J]) (λx0=>cB x0 W):=by
  refine⟨91,_,rfl,call91,?_⟩;intro W0 m w L TL v0 x0 r Z hS h0 hr;refine(rA (hS:=hS) h0 (a0.mono Z) hr).mono ?_;intro e w' h;cases e with
  |returned v=>obtain⟨m',h1,h2,h3⟩:=h;exact⟨m',h1,h2,h3⟩
  |panicked ch=>exact h.elim
  |outgrown=>exact h.elim
theorem sQ (hS:S W0 m w L TL) {p0}(J:RV (kPt bp) m v0 p0) {p1}(b0:RV bm m v1 p1) {r}(h:fM p0 p1=some r):
    Calls prog 37 #[v0,v1] w (Ret λv w'=>∃m',M.le m m'/\S W0 m' w' L TL/\∃v0_ v1_:Value,v= .tuple #[v0_,v1_]/\RV (aj .i64) m' v0_ r.1/\RV cj m' v1_ r.2):=by
 refine kc func37 ntmps37 λa E=>?_;have E:Env 17 a [(0,v0),(1,v1)]:=E;unfold fM at h;refine ab (ai ?_);refine st E (j3 (k:=bm) E hS rfl b0) rfl ?_;rintro _ a w ⟨b1,c3,rfl,a5,hS⟩ E;refine qA E rfl λa E=>qA E rfl λa E=>ag (ab (ai (qM E rfl λa E=>?_)));obtain⟨x8,W,h⟩:=ob h;refine sp E (nZ E rfl J W) rfl λa E=>?_;refine st E (gX E nH rq rfl (oJ J W)) rfl ?_;rintro c0 a _ ⟨rfl,b4⟩ E;refine st E (bh E hS C0 rfl b4) rfl ?_;rintro a0 a _ ⟨rfl,a2⟩ E;obtain⟨c2,Z,hS,a3⟩:=S.freezeL (k:=bm) hS a5;refine sp E (mD E rfl rfl) rfl λa E=>?_
 obtain⟨b7,b5,h⟩:=ob h;refine st E (az (vs:=[a0,(.func (.func 91) #[] #[(pz b1)])]) E rfl call90 (by have a6:=(a2.mono Z);have a9:=(NY a3);exact oE (p0:=x8.fL) (p1:=(λb3=>cB b3 p1)) (hS:=hS) a6 a9 b5)) rfl ?_;rintro c1 a w ⟨b6,b2,hS,a4⟩ E;obtain⟨rfl,a1⟩:=aK a4;refine qA E rfl λa E=>ag (ab (ai (qM E rfl λa E=>sp E (Dd E rfl rfl) rfl λa E=>qM E rfl λa E=>qB E rfl rfl yl λa E=>qA E rfl λa E=>qA E rfl λa E=>?_)));refine ag (bq ?_);obtain rfl:=oi h
 try dsimp only
 refine f2 E ?_;exact⟨_,(zh Z b2),hS,_,_,rfl,(au (A0 a1 (show inR .i64 0 from ax (by decide)))),dA⟩
theorem NZ:Ctr Sz prog 37 [.rd (.st 65),.rd (.st 57)] [.rd (.int .i64),.rd .bool] (λx=>fM x.1 x.2.1):=by
 intro W0 m w L TL vs x r Lp Tp hS hP h;obtain⟨v0,vs,rfl,a0,a3⟩:=it hP;obtain⟨v1,vs,rfl,a1,a2⟩:=it a3;obtain⟨rfl,rfl,rfl⟩:=lL a2;refine rm (sQ (hS:=hS) a0 a1 h) λv w' he=>?_;obtain⟨m',W,J,u0,u1,rfl,r0,Z⟩:=he;exact⟨m',[u0,u1],[],[],[],W,J,rfl,⟨r0,⟨Z,trivial⟩⟩,trivial⟩
def N0:=mC NZ call37
theorem N1:Ctr Sz prog 35 [.rd (.st 65)] [.rd (.int .i64)] (λx=>pw x.1):=
 ncR [] [2] func35 ntmps35 .o λx=>by kernel_rfl
def N2:=mC N1 call35
theorem N3:Ctr Sz prog 29 [] [.rd .bool] (λx=>px):=
 ncR [NO,NW,N2,N0] [0] func29 ntmps29 .o λx=>by kernel_rfl
theorem C5 (hS:S W0 m w L TL)  {r}(h:px=some r):
    Calls prog 29 #[] w (Ret λv w'=>∃m',M.le m m'/\S W0 m' w' L TL/\RV cj m' v r):=by
 refine rm (N3 W0 m w L TL [] (()) r [] [] hS trivial h) λv w' he=>?_;obtain⟨m',us,Lr,Lq,Tr,Z,J,rfl,W,hO⟩:=he;obtain⟨u0,us,rfl,r0,a0⟩:=cH W;obtain⟨rfl,rfl,rfl⟩:=bF a0;obtain rfl:=bG hO;exact⟨m',Z,J,r0⟩
theorem N4:Ctr Sz prog 18 [.rd (.sl (.st 32)),.rd (.sl (.st 32))] [.rd .bool] (λx=>oO x.1 x.2.1):=
 ncR [] [4] func18 ntmps18 (.s .o (.s .o (.s (.s .o (.b (.l ⟨[.v 5 1 (.dat (.int .i64) none)],[0,1],0,[]⟩ .o))) .o))) λx=>by kernel_rfl
def N5:=mC N4 call18
theorem N6:Ctr Sz prog 73 [.rd (.st 59),.rd (.st 59)] [.rd .bool] (λx=>lp x.1 x.2.1):=
 ncR [N5] [4] func73 ntmps73 .o λx=>by kernel_rfl
def N7:=mC N6 call73
theorem N8:Ctr Sz prog 30 [.rd (.sl (.st 59)),.rd (.sl (.st 59))] [.rd .bool] (λx=>gG x.1 x.2.1):=
 ncR [N7] [4] func30 ntmps30 (.s .o (.s .o (.s (.s .o (.b (.l ⟨[.v 5 1 (.dat (.int .i64) none)],[0,1],0,[]⟩ .o))) .o))) λx=>by kernel_rfl
theorem oH (hS:S W0 m w L TL) {p0}(a1:RV (kSl ah) m v0 p0) {p1}(W:RV (kSl ah) m v1 p1) {r}(h:gG p0 p1=some r):
    Calls prog 30 #[v0,v1] w (Ret λv w'=>∃m',M.le m m'/\S W0 m' w' L TL/\RV cj m' v r):=by
 refine rm (N8 W0 m w L TL [v0,v1] (p0,p1,()) r [] [] hS ⟨a1,⟨W,trivial⟩⟩ h) λv w' he=>?_;obtain⟨m',us,Lr,Lq,Tr,hm,J,rfl,Z,hO⟩:=he;obtain⟨u0,us,rfl,r0,a0⟩:=cH Z;obtain⟨rfl,rfl,rfl⟩:=bF a0;have a2:=bj hO;have a3:=bj a2;obtain rfl:=bG a3;exact⟨m',hm,J,r0⟩
theorem uo  {W0:Bse}{m:M}{w:World}{L:List (Nat×List Value)}(hS:S W0 m w L []) {p0}(c1:RV (kSl (aj .i64)) m v0 p0) {p1}(b1:RV (kSl ah) m v1 p1) {r}(h:kD p0 p1=some r):
    Calls prog 6 #[v0,v1] w (Ret λv w'=>∃m',M.le m m'/\S W0 m' w' L []/\RV cj m' v r):=by
 refine kc func6 ntmps6 λa E=>?_;have E:Env 53 a [(0,v0),(1,v1)]:=E;unfold kD at h;refine ab (ai (qA E rfl λa E=>ag (ab (ai (qM E rfl λa E=>?_)))));obtain⟨r3,e0,h⟩:=ob h;refine st E (az (vs:=[v1]) E rfl call26 (AW (hS:=hS) b1 e0)) rfl ?_;rintro v8 a w ⟨m5,Z,hS,c0⟩ E;refine qA E rfl λa E=>ag (ab (ai (qM E rfl λa E=>qM E rfl λa E=>?_)));obtain⟨h9,e5,h⟩:=ob h;refine st E (az (vs:=[v0,v8]) E rfl call27 (un (hS:=hS) (c1.mono Z) c0 e5)) rfl ?_;rintro a6 a w ⟨j1,a2,hS,i1,b6,g3⟩ E;have d2:=Nz b6
 refine qA E rfl λa E=>ag (ab (ai (qM E rfl λa E=>qM E rfl λa E=>?_)));obtain⟨h4,e6,h⟩:=ob h;refine st E (az (vs:=[v0,v1]) E rfl call28 (AX (hS:=hS) (c1.mono (zh Z a2)) (b1.mono (zh Z a2)) e6)) rfl ?_;rintro f3 a w ⟨g4,a9,hS,h2⟩ E;refine qA E rfl λa E=>ag (ab (ab ?_));refine cF (λa w=>∃b4:Bool,gA p1 r3 b4=some r/\∃m',M.le g4 m'/\S W0 m' w L ((4,v8)::[])/\Env 53 a [(1,v1),(5,v8),(6,a6),(25,.bool b4)]) ?_ ?_
 {
 refine ai ?_;obtain⟨h3,g2,h⟩:=ob h;refine st E (az (vs:=[]) E rfl call29 (C5 (hS:=hS) g2)) rfl ?_;rintro i3 a w ⟨h8,a5,hS,e3⟩ E;obtain rfl:=dU e3;refine sp E (kw E rfl) rfl λa E=>qM E rfl λa E=>?_;rcases zw (!h3) with hd51|hd51
 {have h:=aD hd51 h;refine qX E hd51 λa E=>qX E hd51 λa E=>qX E hd51 λa E=>qX E hd51 λa E=>qT E hd51 rfl λa E=>ag ?_;exact⟨true,h,_,a5,hS,kut E⟩}
 {have h:=aH hd51 h;refine qG E hd51 rfl λa E=>qG E hd51 rfl λa E=>?_;obtain⟨e1,c5,h⟩:=ob h;refine stg E rfl rfl rfl rfl hd51 (az (vs:=[a6,f3]) E rfl call30 (oH (hS:=hS) (d2.mono (zh a9 a5)) (h2.mono a5) c5)) rfl ?_;rintro j4 a w ⟨i0,c4,hS,d1⟩ E;obtain rfl:=dU d1;refine spg E rfl rfl rfl rfl hd51 (kw E rfl) rfl λa E=>qF E hd51 rfl λa E=>ag ?_;exact⟨(!e1),h,_,(zh a5 c4),hS,kut E⟩}}
 {
 rintro a w ⟨b4,h,i2,c3,hS,E⟩;unfold gA at h;refine kif E rfl (λb0=>?_) (λb0=>?_)
 {
 have h:=aD b0 h;refine ab (ai (qA E rfl λa E=>ag (bq ?_)));obtain rfl:=oi h
 try dsimp only
 refine f1 E ?_;exact⟨_,(zh Z (zh a2 (zh a9 c3))),(hS.dropT 1),dA⟩}
 {
 have h:=aH b0 h;refine aW (ab ?_);obtain⟨mK,LF,a4,b5,hS,a0,f0⟩:=EY (hS.shrink (zh a9 c3)) a2 b6 g3;refine ab (ai (qM E rfl λa E=>sp E (aV (k:=kVR) E rfl rfl underlying50 a0) rfl λa E=>qM E rfl λa E=>ag (aY ?_)));obtain⟨rI,hI⟩:=BN (ic a0);refine eX hI (λ(s:Int) a w=>∃(k:Nat) (J:Mem),s=(k:Int)/\k<=a4.length/\shp J=shp LF/\S W0 mK w (J++L) []/\Env 53 a [(1,v1),(5,v8),(6,a6),(27,.int .i64 (a4.length:Int)),(28,.int .i64 s)]) ⟨0,LF,rfl,Nat.zero_le _,rfl,hS,kut E⟩ ?_;rintro _ a w ⟨k,J,rfl,h7,a1,hS,E⟩ rX hK hbX;dsimp only[AE] at hK
 refine ab (ai (qB E rfl rfl cz λa E=>ag (ab (kif E rfl (λb3=>?_) (λb3=>?_)))))
 {
 have hK:=aD b3 hK;have a3:k<a4.length:=by have:=of_decide_eq_true b3;omega
 refine aW (ab (aY (ab (ai (qM E rfl λa E=>qA E rfl λa E=>ag (ab (ai ?_)))))));refine qM E rfl λa E=>qM E rfl λa E=>?_;refine st E (dx (k:=kVR) E rfl rfl underlying50 sizeOf59 a0 (aC a3)) rfl ?_;rintro vP a _ ⟨rfl,g0⟩ E;refine st E (gX E mW Lm rfl g0) rfl ?_;rintro vQ a _ ⟨rfl,e7⟩ E;refine st E (bh E hS C3 rfl e7) rfl ?_;rintro vR a _ ⟨rfl,d0⟩ E;obtain⟨aR,W,cR,eR,b7,h1⟩:=f0 _ (List.getElem_mem a3);obtain rfl: .slice aR W cR=vR:=eR.symm.trans (Dv d0).1.symm;refine sp E (IQ E rfl rfl underlying22) rfl λa E=>qM E rfl λa E=>ag (aY ?_);obtain⟨rJ,hJ⟩:=BN b7
 refine eX hJ (λ(s:Int) a w=>∃(q:Nat) (J:Mem),s=(q:Int)/\q<=W/\shp J=shp LF/\S W0 mK w (J++L) []/\Env 53 a [(1,v1),(5,v8),(6,a6),(27,.int .i64 (a4.length:Int)),(28,.int .i64 (k:Int)),(8,.int .i64 (k:Int)),(36,.int .i64 (W:Int)),(37,.int .i64 s)]) ⟨0,J,rfl,Nat.zero_le _,a1,hS,kut E⟩ ?_;rintro _ a w ⟨q,Ly,rfl,j2,a1,hS,E⟩ rY hQ hbY;dsimp only[AE] at hQ;refine ab (ai (qB E rfl rfl cz λa E=>ag (ab (kif E rfl (λb2=>?_) (λb2=>?_)))))
 {
 have hQ:=aD b2 hQ;have c2:q<W:=by have:=of_decide_eq_true b2;omega
 obtain⟨bR,oR,iR,qR,e9,g5,i4⟩:=h1 (by omega);refine aW (ab (aY (ab (ai (qM E rfl λa E=>qA E rfl λa E=>ag (ai (qM E rfl λa E=>?_)))))));refine qM E rfl λa E=>?_;refine st E (dx (k:=kVR) E rfl rfl underlying50 sizeOf59 a0 (aC a3)) rfl ?_;rintro vU a _ ⟨rfl,f4⟩ E;refine st E (gX E mW Lm rfl f4) rfl ?_;rintro vV a _ ⟨rfl,c7⟩ E;refine st E (bh E hS C3 rfl c7) rfl ?_;rintro vW a _ ⟨rfl,f5⟩ E;obtain rfl: .slice aR W cR=vW:=eR.symm.trans (Dv f5).1.symm;refine qM E rfl λa E=>?_
 refine st E (rF (m:=mK) (k:=kAp) (x0:=Ap.zero) (xx:=(⟨77,false,0,[]⟩:Ap)) (pl:=[(0,1),(1,1),(2,1),(3,1)]) (pv:=[(0,.int .i64 77)]) E rfl underlying32 rfl zeroValue32 oC rfl (.cons rfl Ey (au (show inR .i64 77 from ax (by decide))) .nil)) rfl ?_;rintro vX a _ ⟨rfl,f6⟩ E;refine sp E (Fo (b:=bR) (o:=oR) (k:=W) (c:=cR) E (by rw[←e9];rfl) rfl underlying22 sizeOf32 c2) rfl λa E=>?_;refine st0 E (Dw E hS ej rfl rfl f6 (by rw[a1];exact g5) (by show _+q*4+4<=_;omega)) ?_;rintro _ w ⟨Lz,e4,hS⟩ E;refine ag (ai (qB E rfl rfl (cy rfl) λa E=>qM E rfl λa E=>ag ?_))
 have e8:Q0.wrap ((q:Int)+1)=((q+1:Nat):Int):=by unfold bU at b7;rw[ak (by omega)];rfl
 exact⟨_,(Option.some.inj hQ).symm,q+1,Lz,e8,c2,e4.trans a1,hS,kut E⟩}
 {
 refine eJ rfl rfl ?_;refine ai (qB E rfl rfl (cy rfl) λa E=>qM E rfl λa E=>ag ?_);have g6:Q0.wrap ((k:Int)+1)=((k+1:Nat):Int):=by have:=ic a0;unfold bU at this;rw[ak (by omega)];rfl
 exact⟨_,(Option.some.inj hK).symm,k+1,Ly,g6,a3,a1,hS,kut E⟩}}
 {
 refine eJ rfl rfl ?_;have hS:=hS.dropL J.length;rw[List.drop_left] at hS;refine ab (ai (qM E rfl λa E=>qM E rfl λa E=>?_));obtain⟨i5,h0,h⟩:=ob h;refine st E (az (vs:=[v8,v1]) E rfl call30 (oH (hS:=hS) (c0.mono b5) (b1.mono (zh Z b5)) h0)) rfl ?_;rintro h5 a w ⟨h6,g1,hS,c6⟩ E;obtain rfl:=dU c6;refine qA E rfl λa E=>ag (bq ?_);obtain rfl:=oi h
 try dsimp only
 refine f1 E ?_;exact⟨_,(zh Z (zh b5 g1)),hS,dA⟩}}}
end
open Go.RowKit Go.ChangeShapes Go.ChangeAt Go.WideShapes
section
variable {P:Program}{H:Type}{enc:TypeId×Value->H}
theorem sK (hl:laidOutB P=true){W W':World}{a1:Nat}{a0:Nat->Bool}:∀{Z:List TypeId} {vs:List Value} {ds:List (DataW H)} {ps:List MemPlace},(∀t∈Z,P.readableRec t=true/\t<P.types.size)->
  DataW.TrodAll enc P W a1 (λ_=>true) true Z vs ds ps->(∀p∈ps,W.sameAt W' p)->(∀p∈ps,a0 p.block=true)->DataW.TrodAll enc P W' a1 a0 true Z vs ds ps
 |[],[],[],_,_,h,_,_=>h
 |[],[],_::_,_,_,h,_,_=>h.elim
 |[],_::_,_,_,_,h,_,_=>h.elim
 |_::_,[],_,_,_,h,_,_=>h.elim
 |_::_,_::_,[],_,_,h,_,_=>h.elim
 |t::Z,v::vs,d::ds,ps,ht,h,hs,hp=>by
  obtain⟨p,q,h1,h2,rfl⟩:=h;refine⟨p,q,WideElems.Trod_stays hl (ht t (by simp)).1 (ht t (by simp)).2 h1 (λx J=>hs x (by simp[J])) (λx J=>hp x (by simp[J])),sK hl (λt h=>ht t (by simp[h])) h2 (λx J=>hs x (by simp[J])) (λx J=>hp x (by simp[J])),rfl⟩
theorem E1 {f:Func}{s:ChangeSpec}{a4 fresh b0 b1:Bool}{W W':World}{args:Array Value}{ds gs:List (DataW H)}{J:List MemPlace}{tb:TypeId}
  (hW:DataW.Whole enc P f.params.toList s.vars a4 W args.toList ds gs J) (hl:laidOutB P=true) (ht:∀t∈f.params.toList,P.readableRec t=true/\t<P.types.size)
  (a3:s.vars=[]) (hr:f.resultTypes= #[tb]) (hb:P.underlying tb=some .bool) (a1:s.fn H (ds++gs)={ results:=[.lit (.bool true)],args:=ds }) (hB:Below W.heap.size W W'):
  s.post enc P f a4 fresh b0 b1 W args (.bool true) W':=by
 have a0:=λp hp=>hW.lt p hp;have b3:=hW;obtain⟨p,q,hA,hV,b2,hz,hn⟩:=b3;rw[a3] at hV;obtain⟨hg,hq⟩:=trodVars_none hV;have Z:J=p:=by rw[b2,hq];simp
 have a2:∀(b:Nat) (sp:Nat->Bool) (hd:Bool),DataW.TrodAll enc P W' b sp hd f.resultTypes.toList ((Value.bool true).resultList f.resultTypes.size) (s.fn H (ds++gs)).results []:=λb sp hd=>by
  rw[hr,a1];exact trodAll_cons_mk (shut_bool hb _) trodAll_mk0
 have a5:∀sp:Nat->Bool,(∀x∈J,sp x.block=true)->DataW.TrodAll enc P W' 0 sp true f.params.toList args.toList (s.fn H (ds++gs)).args p:=λsp b4=>by
  rw[a1];refine sK hl ht hA (λx h=>hB.same (a0 x (by rw[Z];exact h))) (λx h=>b4 x (by rw[Z];exact h))
 have a6:∀sp:Nat->Bool,DataW.TrodVars enc P W' sp s.vars (s.fn H (ds++gs)).vars []:=λsp=>by
  rw[a3,a1];exact rfl
 have a9:∀x∈J,(λb=>decide (b<W.heap.size)) x.block=true:=λx h=>by simpa using a0 x h
 refine⟨ds,gs,J,[],p,[],hW,a2 _ _ _,a5 _ a9,a6 _,hB.frame _,λ_=>?_⟩;refine⟨ok_one hr rfl (okWide_bool_mk hb _),_,_,([]++p)++[],⟨[]++p,[],trodAll_append (a5 _ (λ_ _=>rfl)) (a2 _ _ _),a6 _,rfl,?_,?_⟩,?_⟩
 ·intro b off hp
  have hm:MemPlace.cell b off∈J:=by rw[Z];simpa using hp
  have:=a0 _ hm;rw[hB.frozen (p:=⟨b,off,none⟩) this];exact hz b off hm
 ·intro ha
  have:=hn ha;rw[Z] at this;simpa using this
 ·intro x h _
  rw[Z];simpa using h
structure Okw (P:Program)(W:World)(r:Reach)(b:Nat)(t:TypeId)(v:Value):Prop where
 ok:Value.okWide P W r b t v
theorem E2 {W:World}{r:Reach}{J:Nat}{Z:Array TypeId}{args:Array Value}(h:∀(j:Nat) t v,Z[j]? =some t->args[j]? =some v->Value.okWide P W r J t v)(j:Nat){t:TypeId}{v:Value}(h1:Z[j]? =some t)(h2:args[j]? =some v):Okw P W r J t v:=
 ⟨h j t v h1 h2⟩
theorem xW {r:Reach}{b0:Nat}{W:World}{t e:TypeId}{O:Type}{k:Kd O}{sz:List O->Nat}{v:Value}{d:DataW H}{ps:List MemPlace}(B:BT H)(ht:P.underlying t=some (.slice e))(a0:Rd P t (kSl k) sz)(J:Okw P W r b0 t v)(hd:DataW.Trod enc P W 0 (λ_=>true) true t v d ps)(h:B.b d<=1099511627776):
  ∃xs,RV (kSl k) (m0 W) v xs/\sz xs<=B.b d:=by
 obtain⟨a,len,cap,rfl⟩:=okWide_slice ht J.ok;obtain⟨Z,hf⟩:=hd;obtain⟨xs,hx,hs⟩:=a0 enc B W Z _ d ps hf h;exact⟨xs,⟨_,hx,rfl⟩,hs⟩
end
theorem Ix {O:Type}(xs:List O):(xs.map λ_=>1).sum=xs.length:=by
 induction xs with
 |nil=>rfl
 |cons a r ih=>simp[ih];omega
theorem E3 {O:Type}(f:O->Nat)(xs:List O)(h:∀x,1<=f x):xs.length<=(xs.map f).sum:=by
 induction xs with
 |nil=>simp
 |cons a r ih=>have:=h a;simp;omega
open Go.ChangeShapes Go.WideShapes Go.ChangeAt Go.RowKit
theorem own:ownKnob prog.godebug=none:=by kernel_rfl
theorem Iy:laidOutB prog=true:=by kernel_rfl
theorem GC {H:Type}(d:DataW H):1<=Rows.uptoBulk d:=by
 cases d with
 |lit l=>cases l<;>simp[Rows.uptoBulk]
 |nil=>simp[Rows.uptoBulk]
 |ptr d=>simp[Rows.uptoBulk]
 |slice elems spare=>simp[Rows.uptoBulk]
 |agg parts=>simp[Rows.uptoBulk]
 |iface t d=>simp[Rows.uptoBulk]
 |map entries=>simp[Rows.uptoBulk]
 |held h=>simp[Rows.uptoBulk]
def Mm (H:Type):BT H:={
 b:=Rows.uptoBulk
 ba:=Rows.uptoBulkAll
 str:=λs=>by simp[Rows.uptoBulk]
 one:=GC
 slice:=λe s=>by simp[Rows.uptoBulk]
 agg:=λl=>by simp[Rows.uptoBulk]
 nil:=by simp[Rows.uptoBulkAll]
 cons:=λd r=>by simp[Rows.uptoBulkAll]}
theorem rd3:Rd prog 3 (aj .i64) (λ_=>1):=sY underlying3
def N9:Int×Bool×Int×List Int->Ap:=λx=>⟨x.1,x.2.1,x.2.2.1,x.2.2.2⟩
def yC:Int×Bool×Int×List Int->Nat:=λx=>1+(1+(1+(x.2.2.2.length+1)))
theorem OX:Rd prog 32 kAp (λy=>yC (Ap.pr y)+1):=by
 refine sZ (gi:=N9) (sz:=yC) underlying32 (by kernel_rfl) ?_ (λx=>rfl);show RdF prog (_::_::_::_::[]) 0 (ci (aj .i64) (ci cj (ci (aj .i64) oy))) (λx=>1+(1+(1+(x.2.2.2.length+1))));refine nh (k:=aj .i64) (sz:=λ_=>1) (k':=ci cj (ci (aj .i64) oy)) (sz':=λx=>1+(1+(x.2.2.length+1))) (sY underlying3) rfl (by kernel_rfl) ?_;refine nh (k:=cj) (sz:=λ_=>1) (k':=ci (aj .i64) oy) (sz':=λx=>1+(x.2.length+1)) (Hk underlying4) rfl (by kernel_rfl) ?_;refine nh (k:=aj .i64) (sz:=λ_=>1) (k':=oy) (sz':=λx=>x.length+1) (sY underlying2) rfl (by kernel_rfl) ?_
 exact wu (k:=oy) (sz:=λx=>x.length+1) (IJ underlying9) rfl (by kernel_rfl)
def sA (xs:List Ap):Nat:=(xs.map λy=>yC (Ap.pr y)+1).sum+1
theorem OY:Rd prog 22 (kSl kAp) sA:=uF underlying22 (by kernel_rfl) OX
theorem Mn:Rd prog 54 (aj .u64) (λ_=>1):=sY underlying54
theorem OZ:Rd prog 55 (aj .u32) (λ_=>1):=sY underlying55
def O0:Int×Int->aF:=λx=>⟨x.1,x.2⟩
theorem O1:Rd prog 57 bm (λ_=>1+1+1):=by
 refine sZ (gi:=O0) (sz:=λ_:Int×Int=>1+1) underlying57 (by kernel_rfl) ?_ (λx=>rfl);show RdF prog (_::_::[]) 0 (ci (aj .u64) (aj .u32)) (λ_=>1+1);refine nh (k:=aj .u64) (sz:=λ_=>1) (k':=aj .u32) (sz':=λ_:Int=>1) Mn rfl (by kernel_rfl) ?_;exact wu (k:=aj .u32) (sz:=λ_=>1) OZ rfl (by kernel_rfl)
def Oa:aF×List Ap×Int->aa:=λx=>⟨x.1,x.2.1,x.2.2⟩
def sB (y:aa):Nat:=(1+1+1)+(sA y.fRow+1)+1
theorem O2:Rd prog 59 ah sB:=by
 refine sZ (gi:=Oa) (sz:=λx:aF×List Ap×Int=>(1+1+1)+(sA x.2.1+1)) underlying59 (by kernel_rfl) ?_ (λx=>rfl);show RdF prog (_::_::_::[]) 0 (ci bm (ci (kSl kAp) (aj .u64))) (λx=>(1+1+1)+(sA x.2.1+1));refine nh (k:=bm) (sz:=λ_=>1+1+1) (k':=ci (kSl kAp) (aj .u64)) (sz':=λx:List Ap×Int=>sA x.1+1) O1 rfl (by kernel_rfl) ?_;refine nh (k:=kSl kAp) (sz:=sA) (k':=aj .u64) (sz':=λ_:Int=>1) OY rfl (by kernel_rfl) ?_;exact wu (k:=aj .u64) (sz:=λ_=>1) Mn rfl (by kernel_rfl)
def tS (xs:List aa):Nat:=(xs.map sB).sum+1
theorem O3:Rd prog 50 (kSl ah) tS:=uF underlying50 (by kernel_rfl) O2
def AK (xs:List Int):Nat:=(xs.map λ_=>1).sum+1
theorem O4:Rd prog 49 (kSl (aj .i64)) AK:=uF underlying49 (by kernel_rfl) rd3
theorem O5:prog.readableRec 49=true/\49<prog.types.size:=⟨by kernel_rfl,of_decide_eq_true (by kernel_rfl)⟩
theorem O6:prog.readableRec 50=true/\50<prog.types.size:=⟨by kernel_rfl,of_decide_eq_true (by kernel_rfl)⟩
theorem Ob {xs:List Int}{n:Nat}(h:AK xs<=n)(J:n<=1048576):xs.length<=1048576:=by
 unfold AK at h;rw[Ix] at h;omega
theorem BO {O:Type}(f:O->Nat):∀(xs:List O) (x:O),x∈xs->f x<=(xs.map f).sum
 |y::ys,x,h=>by
  simp only[List.map_cons,List.sum_cons];rcases List.mem_cons.1 h with rfl|h
  ·omega
  ·have:=BO f ys x h;omega
theorem E4 (xs:List aa):xs.length<=tS xs:=by
 have:=E3 sB xs (λy=>by unfold sB;omega);unfold tS;omega
theorem Mo {v:aa}:v.fRow.length<=sB v:=by
 have:=E3 (λy=>yC (Ap.pr y)+1) v.fRow (λy=>by omega);unfold sB sA;omega
theorem Oc {xs:List aa}{n:Nat}(h:tS xs<=n)(hn:n<=1048576):xs.length<=1048576/\Rok xs:=by
 refine⟨by have:=E4 xs;omega,λv J=>?_⟩;have Z:=BO sB xs v J;have W:=Mo (v:=v);unfold tS at h;omega
end
end Go.Proofs.YthbonoagbeilkaaGreat.Hay
