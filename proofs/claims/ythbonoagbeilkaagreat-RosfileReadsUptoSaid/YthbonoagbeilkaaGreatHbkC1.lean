import Derived.Test.YthbonoagbeilkaaGreatHeE
import Derived.Test.YthbonoagbeilkaaGreatExZb
import Derived.Test.YthbonoagbeilkaaGreatHbA
import Derived.Test.YthbonoagbeilkaaGreatHbV
import Derived.Test.YthbonoagbeilkaaGreatHcT
set_option maxRecDepth 100000
set_option maxHeartbeats 4000000
set_option linter.unusedVariables false
namespace Go.Proofs.YthbonoagbeilkaaGreat.Hay
open Nat renaming le_of_ble_eq_true→Z2
open Bool renaming eq_false_or_eq_true→zx
open M.le renaming trans→j6,refl→Z0
open IntKind renaming i64→Z1,u64→Z3,u32→Z4
open Go.Proofs Tryz
noncomputable section
variable{W0:Bse}{m:M}{w:World}{L:List (Nat×List Value)}{TL:List (Nat×Value)}{v0 v1 v2 v3 v4 v5 v6 v7 v8 v9:Value}
theorem U4:Ctr Sz prog 82 [.rd (.sl (.int .u8))] [.rd (.int .i64)] (λx=>dS x.1):=ncR [] [2] func82 ntmps82 .o λx=>by kernel_rfl
theorem ma (hS:S W0 m w L TL){p0}(a0:RV (kSl (aj .u8)) m v0 p0){r}(h:dS p0=some r):Calls prog 82 #[v0] w (Ret λv w'=>∃m',M.le m m'/\S W0 m' w' L TL/\RV (aj .i64) m' v r):=by refine rm (U4 W0 m w L TL [v0] (p0,()) r [] [] hS ⟨a0,trivial⟩ h) λv w' Z=>?_;obtain⟨m',us,Lr,Lq,Tr,hm,Z',rfl,hR,hO⟩:=Z;obtain⟨u0,us,rfl,r0,J⟩:=cN hR;obtain⟨rfl,rfl,rfl⟩:=cH J;have W:=cO hO;obtain rfl:=dC W;exact⟨m',hm,Z',r0⟩
theorem Nh:Ctr Sz prog 78 [.rd (.sl (.int .u8))] [.rd (.int .u32)] (λx=>iQ x.1):=ncR [] [2] func78 ntmps78 (.s .o (.s .o (.s (.s .o (.b (.l ⟨[.v 9 1 (.dat (.int .i64) none),.a 0 1 (.int .u32) (some 16)],[0,3],1,[]⟩ (.s .o (.s .o (.s (.b (.s .o (.s .o (.s (.s .o (.b (.l ⟨[.v 5 2 (.dat (.int .u32) none),.v 14 2 (.dat (.int .i64) none)],[0,3,4,9],1,[]⟩ .o))) .o)))) .o)))))) (.s .o (.s (.s .o (.b (.l ⟨[.v 6 1 (.dat (.int .u32) none),.v 29 1 (.dat (.int .i64) none)],[3,27,28],1,[]⟩ .o))) .o))))) λx=>by kernel_rfl
def Ni:=mC Nh call78
theorem G8 (hS:S W0 m w L TL){p0}(a0:RV (kSl (aj .u8)) m v0 p0){r}(h:iQ p0=some r):Calls prog 78 #[v0] w (Ret λv w'=>∃m',M.le m m'/\S W0 m' w' L TL/\RV (aj .u32) m' v r):=by refine rm (Nh W0 m w L TL [v0] (p0,()) r [] [] hS ⟨a0,trivial⟩ h) λv w' Z=>?_;obtain⟨m',us,Lr,Lq,Tr,hm,Z',rfl,hR,hO⟩:=Z;obtain⟨u0,us,rfl,r0,J⟩:=cN hR;obtain⟨rfl,rfl,rfl⟩:=cH J;have W:=cO hO;obtain rfl:=dC W;exact⟨m',hm,Z',r0⟩
theorem Rz:Ctr Sz prog 176 [.rd (.sl (.int .i64)),.rd (.int .i64)] [.rd (.int .i64)] (λx=>lS x.1 x.2.1):=ncR [] [4] func176 ntmps176 (.s .o (.s (.s .o (.b (.l ⟨[.v 8 1 (.dat (.int .i64) none)],[0,1,7],0,[]⟩ .o))) .o)) λx=>by kernel_rfl
def RA:=mC Rz call176
theorem RB:Ctr Sz prog 132 [.rd (.sl (.int .i64)),.rd (.int .i64)] [.rd .bool] (λx=>ig x.1 x.2.1):=ncR [RA] [4] func132 ntmps132 .o λx=>by kernel_rfl
theorem wJ (hS:S W0 m w L TL){p0}(a0:RV (kSl (aj .i64)) m v0 p0){p1}(a2:inR .i64 p1){r}(h:ig p0 p1=some r):Calls prog 132 #[v0,(.int .i64 p1)] w (Ret λv w'=>∃m',M.le m m'/\S W0 m' w' L TL/\RV cS m' v r):=by refine rm (RB W0 m w L TL [v0,(.int .i64 p1)] (p0,p1,()) r [] [] hS ⟨a0,⟨ax a2,trivial⟩⟩ h) λv w' Z=>?_;obtain⟨m',us,Lr,Lq,Tr,hm,Z',rfl,hR,hO⟩:=Z;obtain⟨u0,us,rfl,r0,J⟩:=cN hR;obtain⟨rfl,rfl,rfl⟩:=cH J;have W:=cO hO;have a1:=cO W;obtain rfl:=dC a1;exact⟨m',hm,Z',r0⟩
theorem RC:Ctr Sz prog 128 [] [.rd (.st 32)] (λx=>lI):=nxR [] [.cell 0 32] func128 ntmps128 .o λx=>by kernel_rfl
def GC:=mC RC call128
theorem RD:Ctr Sz prog 144 [.rd .bool] [.rd (.st 32)] (λx=>qz x.1):=nxR [] [.cell 2 32] func144 ntmps144 .o λx=>by kernel_rfl
def KJ:=mC RD call144
theorem RE:Ctr Sz prog 136 [.rd (.int .i64)] [.rd (.st 32)] (λx=>eU x.1):=nxR [] [.cell 2 32] func136 ntmps136 .o λx=>by kernel_rfl
def CB:=mC RE call136
theorem RF:Ctr Sz prog 145 [.rd .str] [.rd (.st 32)] (λx=>qC x.1):=nxR [] [.cell 2 32] func145 ntmps145 .o λx=>by kernel_rfl
def KK:=mC RF call145
theorem RG:Ctr Sz prog 101 [.rd (.st 32)] [.rd .bool] (λx=>mw x.1):=ncR [GC,CB,KJ,KK] [2] func101 ntmps101 .o λx=>by kernel_rfl
def GD:=mC RG call101
theorem RH:Ctr Sz prog 133 [.rd (.int .i64),.rd (.st 59)] [.rd .bool] (λx=>mh x.1 x.2.1):=ncR [GD] [4] func133 ntmps133 (.s .o (.s (.s .o (.b (.l ⟨[.v 11 1 (.dat (.int .i64) none)],[0,3,9,10],1,[]⟩ .o))) .o)) λx=>by kernel_rfl
theorem CC (hS:S W0 m w L TL){p0}(a0:inR .i64 p0){p1}(a2:RV ae m v1 p1){r}(h:mh p0 p1=some r):Calls prog 133 #[(.int .i64 p0),v1] w (Ret λv w'=>∃m',M.le m m'/\S W0 m' w' L TL/\RV cS m' v r):=by refine rm (RH W0 m w L TL [(.int .i64 p0),v1] (p0,p1,()) r [] [] hS ⟨ax a0,⟨a2,trivial⟩⟩ h) λv w' Z=>?_;obtain⟨m',us,Lr,Lq,Tr,hm,Z',rfl,hR,hO⟩:=Z;obtain⟨u0,us,rfl,r0,J⟩:=cN hR;obtain⟨rfl,rfl,rfl⟩:=cH J;have W:=cO hO;have a1:=cO W;obtain rfl:=dC a1;exact⟨m',hm,Z',r0⟩
theorem jl (hS:S W0 m w L TL){p0}(g5:inR .i64 p0){p1}(b1:RV (kSl (aj .i64)) m v1 p1){p2}(b5:RV (kSl ae) m v2 p2){r}(h:ft p0 p1 p2=some r):Calls prog 74 #[(.int .i64 p0),v1,v2] w (Ret λv w'=>∃m',M.le m m'/\S W0 m' w' L TL/\RV (aj .i64) m' v r):=by
 refine kc func74 ntmps74 λa E=>?_;have E:Env 69 a [(0,.int .i64 p0),(1,v1),(2,v2)]:=E;unfold ft at h;refine ab (ak (qA E rfl λa E=>ag (ab (ab ?_))));refine cA (λa w=>∃x4:Bool,gc p0 p1 p2 x4=some r/\∃m',M.le m m'/\S W0 m' w L TL/\Env 69 a [(0,.int .i64 p0),(1,v1),(2,v2),(17,.bool x4)]) ?_ ?_;{
 refine ak (qM E rfl λa E=>qB E rfl rfl cu λa E=>qM E rfl λa E=>?_);rcases zx (decide (p0<1))with hd146|hd146
 {have h:=aH hd146 h;refine qX E hd146 λa E=>qX E hd146 λa E=>qT E hd146 rfl λa E=>ag ?_;exact⟨true,h,_,(Z0 _),hS,kut E⟩}
 {have h:=aI hd146 h;refine qG E hd146 rfl λa E=>spg E rfl rfl rfl rfl hd146 (bg E rfl rfl lC) rfl λa E=>qF E hd146 rfl λa E=>ag ?_;exact⟨(decide (8<p0)),h,_,(Z0 _),hS,kut E⟩}};{
 rintro a w⟨x4,h,m2,J,hS,E⟩;unfold gc at h;refine kif E rfl (λc7=>?_) (λc7=>?_)
 {
 have h:=aH c7 h;refine ab (ak (qA E rfl λa E=>ag (bK ?_)));obtain rfl:=oi h
 try dsimp only
 refine f1 E ?_;exact⟨_,J,hS,(ax (show inR .i64 1 from az (by decide)))⟩}
 {
 have h:=aI c7 h;refine a7 (ab (ab (ak (qM E rfl λa E=>sp E (bq (k:=(aj .i64)) E rfl rfl underlying49 (b1.mono J)) rfl λa E=>qM E rfl λa E=>ag ?_))));refine cA (λa w=>eW p0 p2=some r/\∃m',M.le m2 m'/\S W0 m' w L TL/\Env 69 a [(0,.int .i64 p0),(2,v2)]) ?_ ?_
 {
 refine bj ?_;refine fN h (λ(s:Int)a w=>∃m',M.le m2 m'/\inR .i64 s/\S W0 m' w L TL/\Env 69 a [(0,.int .i64 p0),(1,v1),(2,v2),(18,v1),(19,.int .i64 (p1.length:Int)),(20,.int .i64 s)]) ?_ ?_
 {exact⟨_,(Z0 _),(show inR .i64 0 from az (by decide)),hS,kut E⟩}
 {
 rintro a9 a w⟨f5,Z,j4,hS,E⟩r93 h hb94;have h:ga p0 p1 p2 a9=some r93:=h;unfold ga at h;refine ab (ak (qB E rfl rfl cu λa E=>ag (ab (kif E rfl (λc0=>?_) (λc0=>?_)))))
 {
 have h:=aH c0 h;refine a7 (ab (bj (ab (ak (qM E rfl λa E=>?_)))));obtain⟨c6,f4,h⟩:=ob h;refine st E (be (k:=(aj .i64)) E rfl rfl underlying49 sizeOf3 (b1.mono (j6 J Z)) f4) rfl ?_;rintro i4 a _⟨rfl,g3⟩E;refine st E (aC E hS ty3 rfl g3) rfl ?_;rintro i5 a _⟨rfl,g7⟩E;obtain⟨rfl,h1⟩:=aF g7;refine qA E rfl λa E=>qA E rfl λa E=>ag (ab ?_);refine cA (λa w=>∃c5:Bool,eX a9 c5=some r93/\∃m',M.le f5 m'/\S W0 m' w L TL/\Env 69 a [(0,.int .i64 p0),(1,v1),(2,v2),(18,v1),(19,.int .i64 (p1.length:Int)),(20,.int .i64 a9),(38,.bool c5)]) ?_ ?_
 {
 refine ak (qM E rfl λa E=>qB E rfl rfl cu λa E=>qM E rfl λa E=>?_);rcases zx (decide (c6<0))with hd118|hd118
 {have h:=aH hd118 h;refine qX E hd118 λa E=>qX E hd118 λa E=>qX E hd118 λa E=>qT E hd118 rfl λa E=>qM E rfl λa E=>qX E rfl λa E=>qX E rfl λa E=>qX E rfl λa E=>qX E rfl λa E=>qX E rfl λa E=>?_;refine qT E rfl rfl λa E=>ag ?_;exact⟨true,h,_,(Z0 _),hS,kut E⟩}
 {
 have h:=aI hd118 h;refine qG E hd118 rfl λa E=>qG E hd118 rfl λa E=>spg E rfl rfl rfl rfl hd118 (bg E rfl rfl zM) rfl λa E=>qF E hd118 rfl λa E=>qM E rfl λa E=>?_;rcases zx (decide (p0<=c6))with hd127|hd127
 {have h:=aH hd127 h;refine qX E hd127 λa E=>qX E hd127 λa E=>qX E hd127 λa E=>qX E hd127 λa E=>qX E hd127 λa E=>qT E hd127 rfl λa E=>ag ?_;exact⟨true,h,_,(Z0 _),hS,kut E⟩}
 {
 have h:=aI hd127 h;refine qG E hd127 rfl λa E=>qG E hd127 rfl λa E=>?_;obtain⟨i8,g2,h⟩:=ob h;refine stg E rfl rfl rfl rfl hd127 (dy (k:=(aj .i64)) E rfl underlying49 sizeOf3 (b1.mono (j6 J Z)) rfl ⟨_,rfl⟩ g2 (xl:=none) (xh:=(some (.tmp 34)))) rfl ?_;rintro g0 a _⟨rfl,g8⟩E;refine qG E hd127 rfl λa E=>?_;obtain⟨h2,g6,h⟩:=ob h;refine stg E rfl rfl rfl rfl hd127 (aT (vs:=[g0,(.int .i64 c6)]) E rfl call132 (wJ (hS:=hS) g8 h1 g6)) rfl ?_;rintro j3 a w⟨i3,e9,hS,e8⟩E;obtain rfl:=fg e8;refine qF E hd127 rfl λa E=>ag ?_
 exact⟨h2,h,_,e9,hS,kut E⟩}}}
 {
 rintro a w⟨c5,h,h9,d0,hS,E⟩;unfold eX at h;refine kif E rfl (λb0=>?_) (λb0=>?_)
 {
 have h:=aH b0 h;refine ab (ak (qA E rfl λa E=>ag (bK ?_)));have h:=cg h hb94;obtain rfl:=oi h
 try dsimp only
 refine f1 E ?_;exact⟨_,(j6 J (j6 Z d0)),hS,(ax (show inR .i64 1 from az (by decide)))⟩}
 {have h:=aI b0 h;refine a7 (ak (qB E rfl rfl (cp rfl) λa E=>qM E rfl λa E=>ag ?_));exact⟨Z1.wrap (a9+1),(Option.some.inj h).symm,_,(j6 Z d0),(aG _ _),hS,kut E⟩}}}
 {have h:=aI c0 h;refine fe rfl rfl ?_;have h:=cg h hb94;exact⟨h,_,Z,hS,kut E⟩}}}
 {
 rintro a w⟨h,d1,W,hS,E⟩;unfold eW at h;refine ab (ab (ak (qM E rfl λa E=>sp E (bq (k:=ae) E rfl rfl underlying50 (b5.mono (j6 J W))) rfl λa E=>qB E rfl rfl lC λa E=>ag (kif E rfl (λb6=>?_) (λb6=>?_)))))
 {
 have h:=aH b6 h;refine ab (ak (qA E rfl λa E=>ag (bK ?_)));obtain rfl:=oi h
 try dsimp only
 refine f1 E ?_;exact⟨_,(j6 J W),hS,(ax (show inR .i64 81 from az (by decide)))⟩}
 {
 have h:=aI b6 h;refine a7 (ab (ak ?_));refine st E (H0 hS) rfl ?_;rintro _ a w⟨a0,rfl,hS,e4,f6⟩E;refine qA E rfl λa E=>ag (ab (ab (ak (qM E rfl λa E=>sp E (bq (k:=ae) E rfl rfl underlying50 (b5.mono (j6 J W))) rfl λa E=>qM E rfl λa E=>ag ?_))));refine cA (λa w=>∃c4:(List aO),nE c4=some r/\∃m',M.le d1 m'/\∃(b3:Array MapEntry),∃(c3:Nat),rx IU b3 c3 c4/\S (W0.put a0 (.map b3 c3)) m' w L TL/\Env 69 a []) ?_ ?_
 {
 refine bj ?_;refine fN h (λ(s:Int×List aO)a w=>∃m',M.le d1 m'/\∃(a3:Array MapEntry),∃(a2:Nat),inR .i64 s.1/\rx IU a3 a2 s.2/\S (W0.put a0 (.map a3 a2)) m' w L TL/\Env 69 a [(0,.int .i64 p0),(9,(.map (some a0))),(44,v2),(45,.int .i64 (p2.length:Int)),(46,.int .i64 s.1)]) ?_ ?_
 {exact⟨_,(Z0 _),#[],0,(show inR .i64 0 from az (by decide)),(rx.nil (K:=IU)),hS,kut E⟩}
 {
 rintro⟨a5,a1⟩a w⟨h4,a6,a3,a2,j2,e0,hS,E⟩r43 h hb44;have h:dE p0 p2 a5 a1=some r43:=h;unfold dE at h;refine ab (ak (qB E rfl rfl cu λa E=>ag (ab (kif E rfl (λb7=>?_) (λb7=>?_)))))
 {
 have h:=aH b7 h;refine a7 (ab (bj (ab (ak ?_))));obtain⟨a4,g9,h⟩:=ob h;refine st E (be (k:=ae) E rfl rfl underlying50 sizeOf59 (b5.mono (j6 J (j6 W a6))) g9) rfl ?_;rintro j5 a _⟨rfl,e6⟩E;refine st E (aC E hS oZ rfl e6) rfl ?_;rintro j0 a _⟨rfl,g1⟩E;refine st E (cF hS zeroValue59 rfl (cs:=zB)) rfl ?_;rintro _ a w⟨g4,rfl,hS⟩E;refine st0 E (dq E hS oZ bT rfl rfl g1 (i:=0) rfl (vS _)) ?_;rintro _ w⟨e7,c2,hS⟩E;refine ag (ab ?_);refine WN (K:=IU) mixed rfl E rfl hS f6 e0 rfl rfl underlying171 zeroValue3 lz sN xZ (i:=0) rfl c2 underlying3 ?_
 intro a w e5 d2 E hS e3;refine ab ?_;refine cA (λa w=>∃c1:Bool,f9 a5 a1 a4 c1=some r43/\∃m',M.le h4 m'/\S (W0.put a0 (.map e5 d2)) m' w ((g4,e7)::L) (TL)/\Env 69 a [(0,.int .i64 p0),(9,(.map (some a0))),(44,v2),(45,.int .i64 (p2.length:Int)),(46,.int .i64 a5),(67,.bool c1)]) ?_ ?_
 {
 refine ak (qM E rfl λa E=>?_);refine st E (aM E hS oZ rfl (i:=0) rfl (aL c2)) rfl ?_;rintro h7 a _⟨rfl,h0⟩E;obtain⟨h5,f0,h⟩:=ob h;refine st E (aT (vs:=[(.int .i64 p0),h7]) E rfl call133 (CC (hS:=hS) g5 h0 f0)) rfl ?_;rintro i1 a w⟨i0,b2,hS,f3⟩E;obtain rfl:=fg f3;refine sp E (lD E rfl) rfl λa E=>qM E rfl λa E=>?_;rcases zx (!h5)with hd80|hd80
 {have h:=aH hd80 h;refine qX E hd80 λa E=>qX E hd80 λa E=>qX E hd80 λa E=>qX E hd80 λa E=>qX E hd80 λa E=>qT E hd80 rfl λa E=>ag ?_;exact⟨true,h,_,b2,hS,kut E⟩}
 {have h:=aI hd80 h;refine qG E hd80 rfl λa E=>spg E rfl rfl rfl rfl hd80 (aK E lz rfl) rfl λa E=>?_;refine stg E rfl rfl rfl rfl hd80 (aM E hS xZ rfl (i:=0) rfl (sN.R_drop (aL (ae.mono b2 c2)))) rfl ?_;rintro k0 a _⟨rfl,h3⟩E;refine spg E rfl rfl rfl rfl hd80 (Hf (k:=bV) E hS e3 rfl rfl h3 underlying171 zeroValue3) rfl λa E=>spg E rfl rfl rfl rfl hd80 (bg E rfl rfl lC) rfl λa E=>qF E hd80 rfl λa E=>ag ?_;exact⟨(decide (1<(jV (a4.fId::a1) a4.fId))),h,_,b2,hS,kut E⟩}}
 {
 rintro a w⟨c1,h,h8,e1,hS,E⟩;unfold f9 at h;refine kif E rfl (λb4=>?_) (λb4=>?_)
 {
 have h:=aH b4 h;refine ab (ak (qA E rfl λa E=>ag (bK ?_)));have h:=cg h hb44;obtain rfl:=oi h
 try dsimp only
 refine f1 E ?_;exact⟨_,(j6 J (j6 W (j6 a6 e1))),(S.unK (hS.dropL 1) e4),(ax (show inR .i64 81 from az (by decide)))⟩}
 {have h:=aI b4 h;refine a7 (ak (qB E rfl rfl (cp rfl) λa E=>qM E rfl λa E=>ag ?_));exact⟨(Z1.wrap (a5+1),(a4.fId::a1)),(Option.some.inj h).symm,_,(j6 a6 e1),e5,d2,(aG _ _),e3,(hS.pickL 1 [] rfl rfl rfl),kut E⟩}}}
 {have h:=aI b7 h;refine fe rfl rfl ?_;have h:=cg h hb44;exact⟨a1,h,_,a6,a3,a2,e0,hS,E.cut trivial⟩}}}
 {
 rintro a w⟨c4,h,j1,h6,b3,c3,i2,hS,E⟩;unfold nE at h;refine ab (ak (qA E rfl λa E=>ag (bK ?_)));obtain rfl:=oi h
 try dsimp only
 refine f1 E ?_;exact⟨_,(j6 J (j6 W h6)),(S.unK hS e4),(ax (show inR .i64 0 from az (by decide)))⟩}}}}}
theorem U5:Ctr Sz prog 74 [.rd (.int .i64),.rd (.sl (.int .i64)),.rd (.sl (.st 59))] [.rd (.int .i64)] (λx=>ft x.1 x.2.1 x.2.2.1):=by intro W0 m w L TL vs x r Lp Tp hS hP h;obtain⟨v0,vs,rfl,a0,W⟩:=cT hP;obtain⟨rfl,n0⟩:=aF a0;obtain⟨v1,vs,rfl,a1,a3⟩:=cT W;obtain⟨v2,vs,rfl,a2,J⟩:=cT a3;obtain⟨rfl,rfl,rfl⟩:=eT J;refine rm (jl (hS:=hS) n0 a1 a2 h) λv w' Z=>?_;obtain⟨m',hm,Z',r0⟩:=Z;exact⟨m',[v],[],[],[],hm,Z',rfl,⟨r0,trivial⟩,trivial⟩
def U6:=mC U5 call74
theorem yp  {Z:Nat}(hS:S W0 m w ((Z,vp)::L) (TL)){p1}(b4:RV (kSl (aj .u8)) m v1 p1){r}(h:dv p1=some r):Calls prog 83 #[(pz Z),v1] w (Ret λv w'=>∃m',M.le m m'/\∃q0_:List Value,S W0 m' w' ((Z,q0_)::L) (TL)/\aJ.R m' q0_ r.2.2.2/\∃v0_ v1_ v2_:Value,v=.tuple #[v0_,v1_,v2_]/\RV (aj .i64) m' v0_ r.1/\RV (kSl (aj .u8)) m' v1_ r.2.1/\RV cS m' v2_ r.2.2.1):=by
 refine kc func83 ntmps83 λa E=>?_;have E:Env 83 a [(0,pz Z),(1,v1)]:=E;unfold dv at h;refine ab (ak (qA E rfl λa E=>qA E rfl λa E=>qA E rfl λa E=>ag (ab (ab ?_))));refine cA (λa w=>∃x6:Bool,dF p1 x6=some r/\∃m',M.le m m'/\S W0 m' w ((Z,vp)::L) (TL)/\Env 83 a [(0,pz Z),(1,v1),(21,.bool x6)]) ?_ ?_;{
 refine ak (qM E rfl λa E=>sp E (bq (k:=(aj .u8)) E rfl rfl underlying24 b4) rfl λa E=>qB E rfl rfl cu λa E=>qM E rfl λa E=>?_);rcases zx (decide ((p1.length:Int)<6))with hd355|hd355
 {have h:=aH hd355 h;refine qX E hd355 λa E=>qX E hd355 λa E=>qX E hd355 λa E=>qX E hd355 λa E=>qX E hd355 λa E=>qX E hd355 λa E=>qT E hd355 rfl λa E=>ag ?_;exact⟨true,h,_,(Z0 _),hS,kut E⟩}
 {
 have h:=aI hd355 h;refine qG E hd355 rfl λa E=>?_;obtain⟨w4,o3,h⟩:=ob h;refine stg E rfl rfl rfl rfl hd355 (dy (k:=(aj .u8)) E rfl underlying24 sizeOf5 b4 rfl ⟨_,rfl⟩ o3 (xl:=none) (xh:=(some (.const (.int .i64 4))))) rfl ?_;rintro r9 a _⟨rfl,m8⟩E;obtain⟨p4,m7,h⟩:=ob h;refine stg E rfl rfl rfl rfl hd355 (NQ E rfl underlying178 m8 m7) rfl ?_;rintro w0 a _⟨rfl,k6⟩E;refine stg E rfl rfl rfl rfl hd355 (aC E hS UJ rfl k6) rfl ?_;rintro u2 a _⟨rfl,r3⟩E
 refine stg E rfl rfl rfl rfl hd355 (Jj (m:=m) E rfl underlying178 sizeOf5 zeroValue178 (show inR .u8 72 from az (by decide)) (show inR .u8 65 from az (by decide)) (show inR .u8 89 from az (by decide)) (show inR .u8 49 from az (by decide))) rfl ?_;rintro t9 a _⟨rfl,j2⟩E;refine spg E rfl rfl rfl rfl hd355 (E1 E UK rfl rfl r3 j2 rfl) rfl λa E=>qF E hd355 rfl λa E=>ag ?_;exact⟨(!decide (p4=(72,65,89,49))),h,_,(Z0 _),hS,kut E⟩}};{
 rintro a w⟨x6,h,m4,b2,hS,E⟩;unfold dF at h;refine kif E rfl (λe9=>?_) (λe9=>?_)
 {
 have h:=aH e9 h;refine ab (ak (qA E rfl λa E=>qA E rfl λa E=>qA E rfl λa E=>ag (bK ?_)));obtain rfl:=oi h
 try dsimp only
 refine Fin.mk E (rs:=[.tmp 4,.tmp 5,.tmp 6]) rfl (tR.tmp E rfl (tR.tmp E rfl (tR.tmp E rfl tR.nil))) ?_;exact⟨_,b2,vp,hS,(EK _),_,_,_,rfl,(ax (show inR .i64 0 from az (by decide))),dK,dA⟩}
 {
 have h:=aI e9 h;refine a7 (ab (ak (qM E rfl λa E=>qM E rfl λa E=>?_)));obtain⟨x4,h6,h⟩:=ob h;refine st E (be (k:=(aj .u8)) E rfl rfl underlying24 sizeOf5 (b4.mono b2) h6) rfl ?_;rintro u0 a _⟨rfl,l2⟩E;refine st E (aC E hS ty5 rfl l2) rfl ?_;rintro w1 a _⟨rfl,r2⟩E;obtain⟨rfl,w6⟩:=aF r2;refine sp E (fC E rfl underlying5 underlying3 rfl) rfl λa E=>sp E (ct E rfl) rfl λa E=>sp E (aK E qt rfl) rfl λa E=>?_;refine st0 E (yG E hS ty3 HN rfl rfl (ax (aG _ _)) (i:=0) rfl (EK _)) ?_;rintro _ w⟨g8,g6,j3,hS⟩E;have m6:=j3 1 _ rfl (by decide)
 refine ag (ab (ak (qM E rfl λa E=>?_)));obtain⟨a1,i1,h⟩:=ob h;refine st E (be (k:=(aj .u8)) E rfl rfl underlying24 sizeOf5 (b4.mono b2) i1) rfl ?_;rintro s3 a _⟨rfl,q0⟩E;refine st E (aC E hS ty5 rfl q0) rfl ?_;rintro w5 a _⟨rfl,i0⟩E;obtain⟨rfl,x2⟩:=aF i0;refine sp E (fC E rfl underlying5 underlying3 rfl) rfl λa E=>qA E rfl λa E=>ag (ab (ak (qM E rfl λa E=>?_)));obtain⟨g3,p5,h⟩:=ob h;refine st E (dy (k:=(aj .u8)) E rfl underlying24 sizeOf5 (b4.mono b2) ⟨_,rfl⟩ rfl p5 (xl:=(some (.const (.int .i64 6)))) (xh:=none)) rfl ?_
 rintro a5 a _⟨rfl,b6⟩E;refine qA E rfl λa E=>ag (ab (ab (ak (qM E rfl λa E=>sp E (bq (k:=(aj .u8)) E rfl rfl underlying24 b6) rfl λa E=>qM E rfl λa E=>qB E rfl rfl (cp rfl) λa E=>qB E rfl rfl cu λa E=>?_))));refine ag (kif E rfl (λd1=>?_) (λd1=>?_))
 {
 have h:=aH d1 h;refine ab (ak (qA E rfl λa E=>qA E rfl λa E=>qA E rfl λa E=>ag (bK ?_)));obtain rfl:=oi h
 try dsimp only
 refine Fin.mk E (rs:=[.tmp 4,.tmp 5,.tmp 6]) rfl (tR.tmp E rfl (tR.tmp E rfl (tR.tmp E rfl tR.nil))) ?_;exact⟨_,b2,g8,hS,g6,_,_,_,rfl,(ax (show inR .i64 0 from az (by decide))),dK,dA⟩}
 {
 have h:=aI d1 h;refine a7 (ab (ab (ak (qM E rfl λa E=>qM E rfl λa E=>?_))));obtain⟨f5,j5,h⟩:=ob h;refine st E (dy (k:=(aj .u8)) E rfl underlying24 sizeOf5 b6 rfl ⟨_,rfl⟩ j5 (xl:=none) (xh:=(some (.tmp 41)))) rfl ?_;rintro n0 a _⟨rfl,g2⟩E;refine sp E (bq (k:=(aj .u8)) E rfl rfl underlying24 g2) rfl λa E=>qM E rfl λa E=>ag ?_;refine cA (λa w=>∃a3:aq,gK a1 g3 a3=some r/\∃m',M.le m4 m'/\∃(a6:List Value),∃(a2:Value),aJ.R m' a6 a3/\a6[1]?=some a2/\S W0 m' w ((Z,a6)::L) ((1,a2)::TL)/\Env 83 a [(0,pz Z),(1,a5),(7,.int .i64 (Z1.wrap a1))]) ?_ ?_
 {
 refine bj ?_;refine fN h (λ(s:Int×aq)a w=>∃m',M.le m4 m'/\∃(b7:List Value),∃(b5:Value),inR .i64 s.1/\aJ.R m' b7 s.2/\b7[1]?=some b5/\S W0 m' w ((Z,b7)::L) ((1,b5)::TL)/\Env 83 a [(0,pz Z),(1,a5),(7,.int .i64 (Z1.wrap a1)),(42,n0),(43,.int .i64 (f5.length:Int)),(44,.int .i64 s.1)]) ?_ ?_
 {exact⟨_,(Z0 _),g8,(.slice none 0 0),(show inR .i64 0 from az (by decide)),g6,m6,(hS.tail0 1),kut E⟩}
 {
 rintro⟨f6,x308⟩a w⟨x1,e3,b7,b5,u1,c0,d0,hS,E⟩r313 h hb314;have h:ef a1 g3 f5 f6 x308=some r313:=h;unfold ef at h;refine ab (ak (qB E rfl rfl cu λa E=>ag (ab (kif E rfl (λe4=>?_) (λe4=>?_)))))
 {
 have h:=aH e4 h;refine a7 (ab (bj (ab (ak ?_))));obtain⟨g4,i2,h⟩:=ob h;refine st E (be (k:=(aj .u8)) E rfl rfl underlying24 sizeOf5 (g2.mono e3) i2) rfl ?_;rintro s1 a _⟨rfl,n4⟩E;refine st E (aC E hS ty5 rfl n4) rfl ?_;rintro t3 a _⟨rfl,p8⟩E;obtain⟨rfl,r4⟩:=aF p8
 refine qA E rfl λa E=>ag (ak (qM E rfl λa E=>qM E rfl λa E=>sp E (ct E rfl) rfl λa E=>sp E (aK E oK rfl) rfl λa E=>sp E (ru (k:=(aj .i64)) (xx:=x308.fSort) (v:=b5) E hS ri rfl (i:=0) rfl (wI.R_drop (aL c0)) d0) rfl λa E=>qM E rfl λa E=>sp E (fC E rfl underlying5 underlying3 rfl) rfl λa E=>?_));refine st E (gA (k:=(aj .i64)) (xs:=[Z1.wrap g4]) (vs:=[(.int .i64 (Z1.wrap g4))]) E hS rfl underlying49 sizeOf3 zeroValue3 ⟨(ax (aG _ _)),trivial⟩ rfl (by decide)) rfl ?_;rintro t0 a w⟨w2,c6,hS,g9⟩E;obtain⟨p6,p3,h⟩:=ob h
 refine st E (iM (k:=(aj .i64)) (N:=17592186044416) E hS rfl rfl underlying49 underlying49 el3 (i:=1) rfl ((zU (k:=(aj .i64)) (wI.R_drop (aL c0)) d0).mono c6) g9 p3 rfl rfl) rfl ?_;rintro q1 a w⟨t5,g7,hS,l1⟩E;refine sp E (ct E rfl) rfl λa E=>sp E (aK E oK rfl) rfl λa E=>?_;refine st0 E (w8 E hS ri HO rfl rfl l1 (i:=0) rfl (aJ.mono (j6 c6 g7) c0)) ?_;rintro _ w⟨k5,q2,k0,hS⟩E;refine ag (ak (qB E rfl rfl (cp rfl) λa E=>qM E rfl λa E=>ag ?_))
 exact⟨(Z1.wrap (f6+1),{x308 with fSort:=p6}),(Option.some.inj h).symm,_,(j6 e3 (j6 c6 g7)),k5,q1,(aG _ _),q2,k0,(hS.pickT 2 [1] rfl rfl rfl),kut E⟩}
 {have h:=aI e4 h;refine fe rfl rfl ?_;have h:=cg h hb314;exact⟨x308,h,_,e3,b7,b5,c0,d0,hS,kut E⟩}}}
 {
 rintro a w⟨a3,h,r6,c2,a6,a2,a9,c1,hS,E⟩;unfold gK at h;refine ab (ak (qM E rfl λa E=>qM E rfl λa E=>?_));obtain⟨s4,n2,h⟩:=ob h;refine st E (dy (k:=(aj .u8)) E rfl underlying24 sizeOf5 (b6.mono c2) ⟨_,rfl⟩ rfl n2 (xl:=(some (.tmp 61))) (xh:=none)) rfl ?_;rintro e8 a _⟨rfl,o0⟩E;obtain⟨a0,k4,h⟩:=ob h;refine st E (aT (vs:=[e8]) E rfl call82 (ma (hS:=hS) o0 k4)) rfl ?_;rintro s2 a w⟨e1,a4,hS,r1⟩E;obtain⟨rfl,f4⟩:=aF r1;refine qA E rfl λa E=>ag (ab ?_)
 refine cA (λa w=>∃x86:Int,∃c5:(List Int),∃f0:Bool,gJ a3 x86 c5 f0=some r/\∃m',M.le e1 m'/\∃(c3:Value),inR .i64 x86/\RV (kSl (aj .u8)) m' c3 c5/\S W0 m' w ((Z,a6)::L) ((1,a2)::TL)/\Env 83 a [(4,.int .i64 x86),(5,c3),(6,.bool f0)]) ?_ ?_
 {
 obtain⟨b3,g0,b1,g5,h⟩:=ob2 h;rcases zx (b1==0)with hd105|hd105
 {
 have h:=aH hd105 h
 refine kch (k:=21) (m:=e1) (es:=[]) (Φ:=(λi m ws v=>match i with|0=>ei .i64 a0 v|1=>v=a5|2=>ei .i64 (Z1.wrap a1) v|3=>ei .i64 (Z1.wrap ((Z1.wrap a1)+4)) v|4=>RV (kSl (aj .u8)) m v b3|5=>v=(pz Z)|6=>v=(pz Z)|7=>v=(pz Z)|8=>ei .i64 a3.fColumns v|9=>v=(pz Z)|10=>v=(pz Z)|11=>v=(.pointer (some ⟨Z,1,none⟩))|12=>v=a2|13=>ei .i64 b1 v|14=>v=(.bool (b1==0))|15=>v=(.bool (b1==0))|16=>ei .i64 a0 v|17=>v=(.bool (decide (a0<=4096)))|18=>v=(.bool (decide (a0<=4096)))|19=>ei .i64 a0 v|20=>RV (kSl (aj .u8)) m v b3|_=>True)) (Q:=(λc m ws L' c4=>match c with|0=>(Z,a6)::L=L'/\(1,a2)::TL=c4|_=>False)) (cs:=[jc [(10,.int .i64 a0)],jc [(1,a5)],jc [(7,.int .i64 (Z1.wrap a1))],jc [],jc [],jc [(0,pz Z)],jc [],jc [],jc [],jc [(0,pz Z)],jc [],jc [],jc [],jc [],jc [],jc [],jc [(10,.int .i64 a0)],jc [],jc [],jc [],jc []]) mixed E hS ⟨rfl,rfl⟩ rfl rfl (by kernel_rfl) ?_ ?_ ?_ ?_
 {
 intro i m_ c7 ws v n_ q_
 iterate 21 (rcases i with _|i;first|exact q_|exact RV.mono q_ n_)
 exact trivial}
 {
 intro c m_ c7 ws L_ T_ n_ b0
 match c,b0 with
 |0,⟨e7,e6⟩=>exact⟨e7,e6⟩|_+1,b0=>exact b0.elim}
 {
 refine⟨?_,?_,?_,?_,?_,?_,?_,?_,?_,?_,?_,?_,?_,?_,?_,?_,?_,?_,?_,?_,?_,trivial⟩
 {exact cmv λ_ _=>⟨rfl,f4⟩}
 {exact cmv λ_ _=>rfl}
 {exact cmv λ_ _=>⟨rfl,(aG _ _)⟩}
 {refine cp0 λ_ _ _ _ _ _ _ _ _ J W T'=>?_;have E:=W.add (T' 2).1;exact cq (bg E rfl rfl (cp rfl)) J ⟨rfl,(aG _ _)⟩}
 {refine cp0 λ_ _ _ _ _ _ _ M' _ J W T'=>?_;have E:=(W.add (T' 1)).add (T' 3).1;exact cr (dy (k:=(aj .u8)) E rfl underlying24 sizeOf5 (b6.mono (j6 c2 (j6 a4 M'))) ⟨_,rfl⟩ rfl g0 (xl:=(some (.tmp 67))) (xh:=none)) J λ_ h=>h}
 {exact cmv λ_ _=>rfl}
 {refine cp0 λ_ _ _ _ _ _ _ _ _ J W T'=>?_;have E:=W.add (T' 5);exact cq (ct E rfl) J rfl}
 {refine cp0 λ_ _ _ _ _ _ _ _ _ J W T'=>?_;have E:=W.add (T' 6);exact cq (aK E qt rfl) J rfl}
 {refine cp1 λ_ _ _ _ _ M' Q' J W T'=>?_;obtain⟨rfl,rfl⟩:=Q';have E:=W.add (T' 7);exact cr (aM E J ty3 rfl (i:=0) rfl (HM.R_drop (aL (aJ.mono (j6 a4 M') a9)))) J λ_ h=>aF h}
 {exact cmv λ_ _=>rfl}
 {refine cp0 λ_ _ _ _ _ _ _ _ _ J W T'=>?_;have E:=W.add (T' 9);exact cq (ct E rfl) J rfl}
 {refine cp0 λ_ _ _ _ _ _ _ _ _ J W T'=>?_;have E:=W.add (T' 10);exact cq (aK E oK rfl) J rfl}
 {refine cp1 λ_ _ _ _ _ M' Q' J W T'=>?_;obtain⟨rfl,rfl⟩:=Q';have E:=W.add (T' 11);exact cq (ru (k:=(aj .i64)) (xx:=a3.fSort) (v:=a2) E J ri rfl (i:=0) rfl (wI.R_drop (aL (aJ.mono (j6 a4 M') a9))) c1) J rfl}
 {refine cp0 λ_ _ _ _ _ _ _ M' _ J W T'=>?_;obtain⟨h8,i8⟩:=T' 8;have E:=(W.add h8).add (T' 12);refine a8.imp (aT (vs:=[(.int .i64 a3.fColumns),a2,(.slice none 0 0)]) E rfl call74 (jl (hS:=J) i8 ((zU (k:=(aj .i64)) (wI.R_drop (aL (aJ.mono a4 a9))) c1).mono M') dK g5)) ?_;rintro t4 w⟨m9,e0,hS,d2⟩;obtain⟨rfl,h3⟩:=aF d2;exact⟨_,e0,hS,⟨rfl,h3⟩⟩}
 {refine cp0 λ_ _ _ _ _ _ _ _ _ J W T'=>?_;have E:=W.add (T' 13).1;exact cq (bg E rfl rfl mR) J rfl}
 {refine cp0 λ_ _ _ _ _ _ _ _ _ J W T'=>?_;have E:=W.add (T' 14);exact cq (jd E rfl) J rfl}
 {exact cgm (gz hd105) (λ_ _=>⟨rfl,f4⟩)}
 {refine cg0 (gz hd105) λ_ _ _ _ _ _ _ _ _ J W T'=>?_;have E:=W.add (T' 16).1;exact cq (bg E rfl rfl MV) J rfl}
 {refine cp0 λ_ _ _ _ _ _ _ _ _ J W T'=>?_;have E:=(W.add (T' 15)).add (T' 17);exact cq (zK E rfl hd105 rfl) J rfl}
 {refine cp0 λ_ _ _ _ _ _ _ _ _ J W T'=>?_;obtain⟨q7,h9⟩:=T' 0;have E:=W.add q7;exact cq (pV E rfl) J ⟨rfl,h9⟩}
 {refine cp0 λ_ _ _ m' a' _ _ _ _ J W T'=>?_;obtain⟨x3,E,q5⟩:=adv W (T' 4);exact cq (pV E rfl) J q5}}
 {intro i4 L_ T_ w3 a w k7 m5 l3 hS h2 h4 j4 e5;obtain rfl:=eS k7;obtain⟨rfl,rfl⟩:=l3;have E:=eof 21 [(0,pz Z),(1,a5),(7,.int .i64 (Z1.wrap a1)),(10,.int .i64 a0),(60,a5),(61,.int .i64 (Z1.wrap a1)),(62,e8),(63,.int .i64 a0)] h2 h4 j4;have E:=E.add (e5 18);obtain⟨o1,l4⟩:=e5 19;have E:=E.add o1;obtain⟨n6,E,h7⟩:=adv E (e5 20);refine qA E rfl λa E=>ag ?_;exact⟨a0,b3,(decide (a0<=4096)),h,_,m5,n6,l4,h7,hS,kut E⟩}}
 {
 have h:=aI hd105 h
 refine kch (k:=21) (m:=e1) (es:=[]) (Φ:=(λi m ws v=>match i with|0=>ei .i64 a0 v|1=>v=a5|2=>ei .i64 (Z1.wrap a1) v|3=>ei .i64 (Z1.wrap ((Z1.wrap a1)+4)) v|4=>RV (kSl (aj .u8)) m v b3|5=>v=(pz Z)|6=>v=(pz Z)|7=>v=(pz Z)|8=>ei .i64 a3.fColumns v|9=>v=(pz Z)|10=>v=(pz Z)|11=>v=(.pointer (some ⟨Z,1,none⟩))|12=>v=a2|13=>ei .i64 b1 v|14=>v=(.bool (b1==0))|15=>v=(.bool (b1==0))|16=>v=undef|17=>v=undef|18=>v=(.bool false)|19=>ei .i64 a0 v|20=>RV (kSl (aj .u8)) m v b3|_=>True)) (Q:=(λc m ws L' c4=>match c with|0=>(Z,a6)::L=L'/\(1,a2)::TL=c4|_=>False)) (cs:=[jc [(10,.int .i64 a0)],jc [(1,a5)],jc [(7,.int .i64 (Z1.wrap a1))],jc [],jc [],jc [(0,pz Z)],jc [],jc [],jc [],jc [(0,pz Z)],jc [],jc [],jc [],jc [],jc [],jc [],jc [(10,.int .i64 a0)],jc [],jc [],jc [],jc []]) mixed E hS ⟨rfl,rfl⟩ rfl rfl (by kernel_rfl) ?_ ?_ ?_ ?_
 {
 intro i m_ c7 ws v n_ q_
 iterate 21 (rcases i with _|i;first|exact q_|exact RV.mono q_ n_)
 exact trivial}
 {
 intro c m_ c7 ws L_ T_ n_ b0
 match c,b0 with
 |0,⟨e7,e6⟩=>exact⟨e7,e6⟩|_+1,b0=>exact b0.elim}
 {
 refine⟨?_,?_,?_,?_,?_,?_,?_,?_,?_,?_,?_,?_,?_,?_,?_,?_,?_,?_,?_,?_,?_,trivial⟩
 {exact cmv λ_ _=>⟨rfl,f4⟩}
 {exact cmv λ_ _=>rfl}
 {exact cmv λ_ _=>⟨rfl,(aG _ _)⟩}
 {refine cp0 λ_ _ _ _ _ _ _ _ _ J W T'=>?_;have E:=W.add (T' 2).1;exact cq (bg E rfl rfl (cp rfl)) J ⟨rfl,(aG _ _)⟩}
 {refine cp0 λ_ _ _ _ _ _ _ M' _ J W T'=>?_;have E:=(W.add (T' 1)).add (T' 3).1;exact cr (dy (k:=(aj .u8)) E rfl underlying24 sizeOf5 (b6.mono (j6 c2 (j6 a4 M'))) ⟨_,rfl⟩ rfl g0 (xl:=(some (.tmp 67))) (xh:=none)) J λ_ h=>h}
 {exact cmv λ_ _=>rfl}
 {refine cp0 λ_ _ _ _ _ _ _ _ _ J W T'=>?_;have E:=W.add (T' 5);exact cq (ct E rfl) J rfl}
 {refine cp0 λ_ _ _ _ _ _ _ _ _ J W T'=>?_;have E:=W.add (T' 6);exact cq (aK E qt rfl) J rfl}
 {refine cp1 λ_ _ _ _ _ M' Q' J W T'=>?_;obtain⟨rfl,rfl⟩:=Q';have E:=W.add (T' 7);exact cr (aM E J ty3 rfl (i:=0) rfl (HM.R_drop (aL (aJ.mono (j6 a4 M') a9)))) J λ_ h=>aF h}
 {exact cmv λ_ _=>rfl}
 {refine cp0 λ_ _ _ _ _ _ _ _ _ J W T'=>?_;have E:=W.add (T' 9);exact cq (ct E rfl) J rfl}
 {refine cp0 λ_ _ _ _ _ _ _ _ _ J W T'=>?_;have E:=W.add (T' 10);exact cq (aK E oK rfl) J rfl}
 {refine cp1 λ_ _ _ _ _ M' Q' J W T'=>?_;obtain⟨rfl,rfl⟩:=Q';have E:=W.add (T' 11);exact cq (ru (k:=(aj .i64)) (xx:=a3.fSort) (v:=a2) E J ri rfl (i:=0) rfl (wI.R_drop (aL (aJ.mono (j6 a4 M') a9))) c1) J rfl}
 {refine cp0 λ_ _ _ _ _ _ _ M' _ J W T'=>?_;obtain⟨j0,q6⟩:=T' 8;have E:=(W.add j0).add (T' 12);refine a8.imp (aT (vs:=[(.int .i64 a3.fColumns),a2,(.slice none 0 0)]) E rfl call74 (jl (hS:=J) q6 ((zU (k:=(aj .i64)) (wI.R_drop (aL (aJ.mono a4 a9))) c1).mono M') dK g5)) ?_;rintro r8 w⟨m9,e0,hS,d2⟩;obtain⟨rfl,h0⟩:=aF d2;exact⟨_,e0,hS,⟨rfl,h0⟩⟩}
 {refine cp0 λ_ _ _ _ _ _ _ _ _ J W T'=>?_;have E:=W.add (T' 13).1;exact cq (bg E rfl rfl mR) J rfl}
 {refine cp0 λ_ _ _ _ _ _ _ _ _ J W T'=>?_;have E:=W.add (T' 14);exact cq (jd E rfl) J rfl}
 {exact csk (gz hd105)}
 {exact csk (gz hd105)}
 {refine cp0 λ_ _ _ _ _ _ _ _ _ J W T'=>?_;have E:=(W.add (T' 15)).add (T' 17);exact cq (zL E rfl hd105 rfl) J rfl}
 {refine cp0 λ_ _ _ _ _ _ _ _ _ J W T'=>?_;obtain⟨i5,o2⟩:=T' 0;have E:=W.add i5;exact cq (pV E rfl) J ⟨rfl,o2⟩}
 {refine cp0 λ_ _ _ m' a' _ _ _ _ J W T'=>?_;obtain⟨r5,E,k3⟩:=adv W (T' 4);exact cq (pV E rfl) J k3}}
 {intro i4 L_ T_ r7 a w q3 m2 p7 hS i3 j1 h5 f3;obtain rfl:=eS q3;obtain⟨rfl,rfl⟩:=p7;have E:=eof 21 [(0,pz Z),(1,a5),(7,.int .i64 (Z1.wrap a1)),(10,.int .i64 a0),(60,a5),(61,.int .i64 (Z1.wrap a1)),(62,e8),(63,.int .i64 a0)] i3 j1 h5;have E:=E.add (f3 18);obtain⟨n3,r0⟩:=f3 19;have E:=E.add n3;obtain⟨m1,E,q4⟩:=adv E (f3 20);refine qA E rfl λa E=>ag ?_;exact⟨a0,b3,false,h,_,m2,m1,r0,q4,hS,kut E⟩}}}
 {
 rintro a w⟨x86,c5,f0,h,t1,g1,c3,n1,h1,hS,E⟩;unfold gJ at h;refine bK ?_;obtain rfl:=oi h
 try dsimp only
 refine Fin.mk E (rs:=[.tmp 4,.tmp 5,.tmp 6]) rfl (tR.tmp E rfl (tR.tmp E rfl (tR.tmp E rfl tR.nil))) ?_;exact⟨_,(j6 b2 (j6 c2 (j6 a4 g1))),a6,(hS.dropT 1),(aJ.mono (j6 a4 g1) a9),_,_,_,rfl,(ax n1),h1,dA⟩}}}}}
theorem RI:Ctr Sz prog 195 [.rd (.sl (.int .u8))] [.rd (.int .u64)] (λx=>sq x.1):=ncR [] [2] func195 ntmps195 (.s .o (.s .o (.s (.s .o (.b (.l ⟨[.v 3 1 (.dat (.int .u64) none),.v 5 1 (.dat (.int .i64) none)],[0],0,[]⟩ .o))) .o))) λx=>by kernel_rfl
def RJ:=mC RI call195
theorem RK:Ctr Sz prog 183 [.rd (.sl (.int .u8))] [.rd (.st 32),.rd (.sl (.int .u8)),.rd .bool] (λx=>uZ x.1):=nxR [GC,CB,KJ,KK,RJ] [.cell 2 32,.tmp 3,.tmp 4] func183 ntmps183 .o λx=>by kernel_rfl
def RL:=mC RK call183
theorem RM:Ctr Sz prog 163 [.rd (.sl (.int .u8))] [.rd (.sl (.st 32)),.rd (.int .i64)] (λx=>mD x.1):=ncR [RL] [2,3] func163 ntmps163 (.s .o (.s .o (.s .o (.s .o (.s (.s .o (.b (.l ⟨[.v 0 1 (.dat (.sl (.int .u8)) none),.v 4 1 (.dat (.sl (.st 32)) (some 0)),.v 25 1 (.dat (.int .i64) none)],[24],0,[4]⟩ .o))) .o))))) λx=>by kernel_rfl
def KL:=mC RM call163
theorem RN:Ctr Sz prog 119 [.rd (.sl (.int .u8))] [.rd (.st 32),.rd (.sl (.int .u8)),.rd .bool] (λx=>mE x.1):=nxR [KL] [.cell 2 32,.tmp 3,.tmp 4] func119 ntmps119 (.s .o (.s (.s .o (.b (.l ⟨[.v 5 1 (.dat (.int .i64) none)],[0,2],1,[]⟩ .o))) .o)) λx=>by kernel_rfl
def RO:=mC RN call119
theorem Nj:Ctr Sz prog 57 [.rd (.sl (.int .u8))] [.rd (.st 34),.rd (.sl (.int .u8)),.rd .bool] (λx=>jo x.1):=nxR [RO] [.cell 2 34,.tmp 3,.tmp 4] func57 ntmps57 .o λx=>by kernel_rfl
def U7:=mC Nj call57
theorem GE (hS:S W0 m w L TL){p0}(a0:RV (kSl (aj .u8)) m v0 p0){r}(h:jo p0=some r):Calls prog 57 #[v0] w (Ret λv w'=>∃m',M.le m m'/\S W0 m' w' L TL/\∃v0_ v1_ v2_:Value,v=.tuple #[v0_,v1_,v2_]/\RV c9 m' v0_ r.1/\RV (kSl (aj .u8)) m' v1_ r.2.1/\RV cS m' v2_ r.2.2):=by refine rm (Nj W0 m w L TL [v0] (p0,()) r [] [] hS ⟨a0,trivial⟩ h) λv w' he=>?_;obtain⟨m',us,Lr,Lq,Tr,hm,Z',rfl,hR,hO⟩:=he;obtain⟨u0,us,rfl,r0,J⟩:=cN hR;obtain⟨u1,us,rfl,r1,a2⟩:=cN J;obtain⟨u2,us,rfl,W,a1⟩:=cN a2;obtain⟨rfl,rfl,rfl⟩:=cH a1;have Z:=cO hO;obtain rfl:=dC Z;exact⟨m',hm,Z',u0,u1,u2,rfl,r0,r1,W⟩
theorem rp (hS:S W0 m w L TL){p0}(W:RV (kSl (aj .u8)) m v0 p0){r}(h:ji p0=some r):Calls prog 60 #[v0] w (Ret λv w'=>∃m',M.le m m'/\S W0 m' w' L ((1,v)::TL)/\RV (kSl (aj .u8)) m' v r):=by
 refine kc func60 ntmps60 λa E=>?_;have E:Env 8 a [(0,v0)]:=E;unfold ji at h;refine ab (ak (qA E rfl λa E=>ag (ab (ab (ak (qM E rfl λa E=>?_))))));refine st E (w7 (k:=(aj .u8)) E rfl rfl W underlying24) rfl ?_;rintro v5 a _⟨rfl,a6,rfl,a1⟩E;refine ag (kif E rfl (λJ=>?_) (λJ=>?_));{
 have a2:=a1 J;have h:some ([])=some r:=by rw[a2]at h;exact h
 refine ab (ak (qA E rfl λa E=>ag (bK ?_)));obtain rfl:=oi h
 try dsimp only
 refine f1 E ?_;exact⟨_,(Z0 _),((hS.dropT 0).tail0 1),dK⟩};{
 refine a7 (ab (ak ?_));refine st E (gA (k:=(aj .u8)) (xs:=[]) (vs:=[]) E hS rfl underlying24 sizeOf5 zeroValue5 trivial rfl (by decide)) rfl ?_;rintro b1 a w⟨m9,Z,hS,a4⟩E;refine qM E rfl λa E=>?_;obtain⟨a9,a3,h⟩:=ob h;refine st E (iM (k:=(aj .u8)) (N:=140737488355328) E hS rfl rfl underlying24 underlying24 el5 (i:=0) rfl a4 (W.mono Z) a3 rfl rfl) rfl ?_;rintro b0 a w⟨b2,a0,hS,a5⟩E;refine qA E rfl λa E=>ag (bK ?_);obtain rfl:=oi h
 try dsimp only
 refine f1 E ?_;exact⟨_,(j6 Z a0),(hS.pickT 1 [0] rfl rfl rfl),a5⟩}
theorem U8:Ctr Sz prog 60 [.rd (.sl (.int .u8))] [.ap (.int .u8)] (λx=>ji x.1):=by intro W0 m w L TL vs x r Lp Tp hS Z h;obtain⟨v0,vs,rfl,a0,J⟩:=cT Z;obtain⟨rfl,rfl,rfl⟩:=eT J;refine rm (rp (hS:=hS) a0 h) λv w' W=>?_;obtain⟨m',hm,Z',r0⟩:=W;exact⟨m',[v],[],[],[(1,v)],hm,Z',rfl,⟨r0,rfl,trivial⟩,trivial⟩
def U9:=mC U8 call60
theorem Nk:Ctr Sz prog 50 [.ap (.int .u8)] [.ap (.int .u8)] (λx=>lm x.1):=ncR [Ni] [2] func50 ntmps50 .o λx=>by kernel_rfl
def Nl:=mC Nk call50
theorem Dv (hS:S W0 m w L ((1,v0)::TL)){p0}(a0:RV (kSl (aj .u8)) m v0 p0){r}(h:lm p0=some r):Calls prog 50 #[v0] w (Ret λv w'=>∃m',M.le m m'/\S W0 m' w' L ((1,v)::TL)/\RV (kSl (aj .u8)) m' v r):=by refine rm (Nk W0 m w L TL [v0] (p0,()) r [] [(1,v0)] hS ⟨a0,rfl,trivial⟩ h) λv w' Z=>?_;obtain⟨m',us,Lr,Lq,Tr,hm,Z',rfl,hR,hO⟩:=Z;obtain⟨u0,us,Tr,rfl,rfl,r0,J⟩:=Il hR;obtain⟨rfl,rfl,rfl⟩:=cH J;have W:=Un hO;obtain rfl:=dC W;exact⟨m',hm,Z',r0⟩
theorem Nm:Ctr Sz prog 61 [.rd (.sl (.int .u8)),.rd (.sl (.int .u8))] [.rd .bool] (λx=>gP x.1 x.2.1):=ncR [] [4] func61 ntmps61 (.s .o (.s .o (.s (.s .o (.b (.l ⟨[.v 13 1 (.dat (.int .i64) none)],[0,1,12],0,[]⟩ .o))) .o))) λx=>by kernel_rfl
def Nn:=mC Nm call61
theorem yq (hS:S W0 m w L TL){p0}(a0:RV (kSl (aj .u8)) m v0 p0){p1}(a2:RV (kSl (aj .u8)) m v1 p1){r}(h:gP p0 p1=some r):Calls prog 61 #[v0,v1] w (Ret λv w'=>∃m',M.le m m'/\S W0 m' w' L TL/\RV cS m' v r):=by refine rm (Nm W0 m w L TL [v0,v1] (p0,p1,()) r [] [] hS ⟨a0,⟨a2,trivial⟩⟩ h) λv w' Z=>?_;obtain⟨m',us,Lr,Lq,Tr,hm,Z',rfl,hR,hO⟩:=Z;obtain⟨u0,us,rfl,r0,J⟩:=cN hR;obtain⟨rfl,rfl,rfl⟩:=cH J;have W:=cO hO;have a1:=cO W;obtain rfl:=dC a1;exact⟨m',hm,Z',r0⟩
theorem RQ:Ctr Sz prog 164 [.pt (.st 161)] [.rd (.st 32)] (λx=>dN x.1):=nxR [KL] [.cell 2 32] func164 ntmps164 (.s .o (.s (.s .o (.b (.l ⟨[.v 3 1 (.dat (.int .i64) none)],[0,2],2,[]⟩ .o))) .o)) λx=>by kernel_rfl
def RR:=mC RQ call164
theorem RS:Ctr Sz prog 165 [.pt (.st 161),.rd (.int .i64)] [.rd (.sl (.int .u8))] (λx=>cY x.1 x.2.1):=ncR [] [4] func165 ntmps165 .o λx=>by kernel_rfl
def CD:=mC RS call165
theorem RT:Ctr Sz prog 196 [.rd (.int .u32),.rd (.int .u32)] [.rd (.int .u32),.rd (.int .u32)] (λx=>In x.1 x.2.1):=ncR [] [4,5] func196 ntmps196 .o λx=>by kernel_rfl
def RU:=mC RT call196
theorem RW:Ctr Sz prog 197 [.rd (.int .u64),.rd (.int .u64)] [.rd (.int .u64),.rd (.int .u64)] (λx=>tj x.1 x.2.1):=ncR [] [4,5] func197 ntmps197 .o λx=>by kernel_rfl
def RX:=mC RW call197
theorem RY:Ctr Sz prog 184 [.rd (.int .u64),.rd (.int .u64)] [.rd (.int .u64),.rd (.int .u64)] (λx=>xu x.1 x.2.1):=ncR [RU,RX] [4,5] func184 ntmps184 .o λx=>by kernel_rfl
theorem IW (hS:S W0 m w L TL){p0}(a0:inR .u64 p0){p1}(a2:inR .u64 p1){r}(h:xu p0 p1=some r):Calls prog 184 #[(.int .u64 p0),(.int .u64 p1)] w (Ret λv w'=>∃m',M.le m m'/\S W0 m' w' L TL/\∃v0_ v1_:Value,v=.tuple #[v0_,v1_]/\RV (aj .u64) m' v0_ r.1/\RV (aj .u64) m' v1_ r.2):=by refine rm (RY W0 m w L TL [(.int .u64 p0),(.int .u64 p1)] (p0,p1,()) r [] [] hS ⟨ax a0,⟨ax a2,trivial⟩⟩ h) λv w' Z=>?_;obtain⟨m',us,Lr,Lq,Tr,hm,Z',rfl,hR,hO⟩:=Z;obtain⟨u0,us,rfl,r0,J⟩:=cN hR;obtain⟨u1,us,rfl,r1,a3⟩:=cN J;obtain⟨rfl,rfl,rfl⟩:=cH a3;have W:=cO hO;have a1:=cO W;obtain rfl:=dC a1;exact⟨m',hm,Z',u0,u1,rfl,r0,r1⟩
theorem wK (hS:S W0 m w L TL){p0}(c7:RV (kSl kAp) m v0 p0){p1}(i2:inR .i64 p1){r}(h:fy p0 p1=some r):Calls prog 166 #[v0,(.int .i64 p1)] w (Ret λv w'=>∃m',M.le m m'/\S W0 m' w' L TL/\RV (kSl kAp) m' v r):=by
 refine kc func166 ntmps166 λa E=>?_;have E:Env 48 a [(0,v0),(1,.int .i64 p1)]:=E;unfold fy at h;refine ab (ak (qA E rfl λa E=>ag (ab (ab (ak (qM E rfl λa E=>qB E rfl rfl cu λa E=>ag ?_))))));refine cA (λa w=>iH p0 p1=some r/\∃m',M.le m m'/\S W0 m' w L TL/\Env 48 a [(0,v0),(1,.int .i64 p1)]) ?_ ?_;{
 refine kif E rfl (λb0=>?_) (λb0=>?_)
 {have h:=aH b0 h;cases h}
 {have h:=aI b0 h;refine a7 ?_;exact⟨h,_,(Z0 _),hS,kut E⟩}};{
 rintro a w⟨h,m4,b6,hS,E⟩;unfold iH at h;refine ab (ak (qM E rfl λa E=>sp E (bq (k:=kAp) E rfl rfl underlying22 (c7.mono b6)) rfl λa E=>sp E (fC E rfl underlying3 underlying94 rfl) rfl λa E=>qM E rfl λa E=>sp E (fC E rfl underlying3 underlying94 rfl) rfl λa E=>?_));obtain⟨a0,g1,h⟩:=ob h;refine st E (aT (vs:=[(.int .u64 (Z3.wrap (p0.length:Int))),(.int .u64 (Z3.wrap p1))]) E rfl call184 (IW (hS:=hS) (aG _ _) (aG _ _) g1)) rfl ?_;rintro _ a w⟨g6,c4,hS,i1,j3,rfl,f4,f0⟩E;obtain⟨rfl,i0⟩:=aF f4;obtain⟨rfl,j5⟩:=aF f0
 refine qM E rfl λa E=>sp E (bQ E rfl rfl) rfl λa E=>sp E (bQ E rfl rfl) rfl λa E=>qA E rfl λa E=>qA E rfl λa E=>ag (ab (ab ?_));refine cA (λa w=>∃b2:Bool,fF p0 a0 b2=some r/\∃m',M.le g6 m'/\S W0 m' w L TL/\Env 48 a [(0,v0),(6,.int .u64 a0.2),(26,.bool b2)]) ?_ ?_
 {
 refine ak (qM E rfl λa E=>qB E rfl rfl lC λa E=>qM E rfl λa E=>?_);rcases zx (decide (0<a0.1))with hd138|hd138
 {have h:=aH hd138 h;refine qX E hd138 λa E=>qX E hd138 λa E=>qT E hd138 rfl λa E=>ag ?_;exact⟨true,h,_,(Z0 _),hS,kut E⟩}
 {have h:=aI hd138 h;refine qG E hd138 rfl λa E=>spg E rfl rfl rfl rfl hd138 (bg E rfl rfl lC) rfl λa E=>qF E hd138 rfl λa E=>ag ?_;exact⟨(decide (9223372036854775807<a0.2)),h,_,(Z0 _),hS,kut E⟩}}
 {
 rintro a w⟨b2,h,h6,d2,hS,E⟩;unfold fF at h;refine cA (λa w=>iG p0 a0=some r/\∃m',M.le h6 m'/\S W0 m' w L TL/\Env 48 a [(0,v0),(6,.int .u64 a0.2)]) ?_ ?_
 {
 refine kif E rfl (λb3=>?_) (λb3=>?_)
 {have h:=aH b3 h;cases h}
 {have h:=aI b3 h;refine a7 ?_;exact⟨h,_,(Z0 _),hS,kut E⟩}}
 {
 rintro a w⟨h,a9,d1,hS,E⟩;unfold iG at h;refine ab (ak (qM E rfl λa E=>sp E (fC E rfl underlying94 underlying3 rfl) rfl λa E=>?_));obtain⟨j4,h5,h⟩:=ob h;refine st E (E4 (k:=kAp) (m:=a9) E hS rfl rfl underlying22 type32 rfl rfl rfl (λm=>xY m) h5 rfl rfl) rfl ?_;rintro W a w⟨Z,j0,c6,hS⟩E;refine qA E rfl λa E=>ag (ab (ak (qM E rfl λa E=>qM E rfl λa E=>?_)));refine st E (E6 (k:=kAp) E hS rfl rfl underlying22 sizeOf32 (i:=0) rfl c6 (c7.mono (j6 b6 (j6 c4 (j6 d2 d1))))) rfl ?_;rintro j1 a _⟨rfl,f5,g8,hS⟩E;refine qA E rfl λa E=>ag (ab ?_)
 refine cA (λa w=>∃b4:(List Ap),iE b4=some r/\∃m',M.le a9 m'/\∃(c1:Value),RV (kSl kAp) m' c1 b4/\S W0 m' w L TL/\Env 48 a [(7,c1)]) ?_ ?_
 {
 refine bj ?_;refine fN h (λ(s:Int×List Ap)a w=>∃m',M.le a9 m'/\∃(a5:List Value),inR .i64 s.1/\GS kAp m' Z a5 W s.2/\S W0 m' w ((Z,a5)::L) (TL)/\Env 48 a [(7,W),(8,.int .i64 s.1)]) ?_ ?_
 {exact⟨_,(Z0 _),f5,(eD (Nat.le_trans (Nat.min_le_right _ _) (GS.len c6))),g8,hS,kut E⟩}
 {
 rintro⟨J,a4⟩a w⟨f3,d0,a5,a6,a3,hS,E⟩r65 h hb66;have h:iF J a4=some r65:=h;unfold iF at h;refine ab (ab (ak (qM E rfl λa E=>qM E rfl λa E=>sp E (tS (k:=kAp) E rfl rfl underlying22 a3) rfl λa E=>qB E rfl rfl cu λa E=>ag (kif E rfl (λc0=>?_) (λc0=>?_)))))
 {
 have h:=aH c0 h;refine a7 (bj ?_);obtain⟨a2,e6,a1,e1,h⟩:=ob2 h;obtain⟨i4,g9,e0,g5,h⟩:=ob2 h
 refine kch (k:=8) (m:=f3) (es:=[7]) (Φ:=(λi m ws v=>match i with|0=>ei .i64 J v|1=>v=W|2=>ei .i64 J v|3=>VS Z 4 v a2.1 a2.2|4=>v=W|5=>ei .i64 J v|6=>VS Z 4 v a1.1 a1.2|7=>ei .i64 ((min a1.2 a2.2:Nat):Int) v|_=>True)) (Q:=(λc m ws L' c3=>match c with|0=>(Z,a5)::L=L'/\TL=c3|1=>(Z,(wi ws 0).c)::L=L'/\TL=c3/\GS kAp m Z (wi ws 0).c W e0|_=>False)) (cs:=[⟨0,1,false,[(8,.int .i64 J)]⟩,jc [(7,W)],jc [(8,.int .i64 J)],jc [],jc [(7,W)],jc [(8,.int .i64 J)],jc [],⟨0,0,true,[]⟩]) mixed E hS ⟨rfl,rfl⟩ rfl rfl (by kernel_rfl) ?_ ?_ ?_ ?_
 {
 intro i m_ e8 ws v n_ q_
 iterate 8 (rcases i with _|i;exact q_)
 exact trivial}
 {
 intro c m_ e8 ws L_ T_ n_ b1
 match c,b1 with
 |0,⟨b7,b5⟩=>exact⟨b7,b5⟩|1,⟨b7,b5,f0_⟩=>exact⟨b7,b5,(GS.mono f0_ n_)⟩|_+2,b1=>exact b1.elim}
 {
 refine⟨?_,?_,?_,?_,?_,?_,?_,?_,trivial⟩
 {exact cmv λ_ _=>⟨rfl,a6⟩}
 {exact cmv λ_ _=>rfl}
 {exact cmv λ_ _=>⟨rfl,a6⟩}
 {refine cp1 λ_ _ _ _ _ M' Q' Z' E' T'=>?_;obtain⟨rfl,rfl⟩:=Q';have E:=(E'.add (T' 1)).add (T' 2).1;exact cr (wY (k:=kAp) E rfl underlying22 sizeOf32 (a3.mono M') ⟨_,rfl⟩ rfl e6 (sz:=4) rfl (xl:=(some (.tmp 40))) (xh:=none)) Z' λ_ h=>h}
 {exact cmv λ_ _=>rfl}
 {exact cmv λ_ _=>⟨rfl,a6⟩}
 {refine cp1 λ_ _ _ _ _ M' Q' Z' E' T'=>?_;obtain⟨rfl,rfl⟩:=Q';have E:=(E'.add (T' 4)).add (T' 5).1;exact cr (wY (k:=kAp) E rfl underlying22 sizeOf32 (a3.mono M') rfl ⟨_,rfl⟩ e1 (sz:=4) rfl (xl:=none) (xh:=(some (.tmp 43)))) Z' λ_ h=>h}
 {
 refine wZ λi5 L_ T_ m' a' w' h1 M' Q' Z' E' T'=>?_;obtain rfl:=eS h1;obtain⟨rfl,rfl⟩:=Q';obtain⟨h9,e7,g3⟩:∃v,a'.tmps.getD 41 undef=v/\(VS Z 4 v a2.1 a2.2):=⟨_,rfl,T' 3 (by decide) 41 rfl⟩
 have E:=E'.add (e7);obtain⟨i8,h4,e4⟩:∃v,a'.tmps.getD 44 undef=v/\(VS Z 4 v a1.1 a1.2):=⟨_,rfl,T' 6 (by decide) 44 rfl⟩
 have E:=E.add (h4);refine a8.imp (Jc (k:=kAp) E Z' rfl rfl underlying22 sizeOf32 (i:=0) rfl (a3.mono M') g3 e4 g5) ?_;rintro _ w⟨rfl,c2,h3,hS⟩;exact⟨_,⟨0,undef,c2,[],[]⟩,_,_,Z0 _,hS,⟨rfl,rfl,h3⟩,⟨rfl,(eD (Z2 (rt g9)))⟩⟩}}
 {intro i3 L_ T_ j2 a w e3 g0 e9 hS g2 g7 g4 c5;obtain⟨⟨_,_,c2,_,_⟩,rfl⟩:=A0 e3;obtain⟨rfl,rfl,e5⟩:=e9;have E:=eof 8 [(7,W),(8,.int .i64 J),(34,.int .i64 J),(35,W),(36,.int .i64 (a4.length:Int)),(37,.bool (decide (J<(a4.length:Int))))] g2 g7 g4;have E:=(E.add (c5 0).1).add (c5 7).1;refine qB E rfl rfl (cp rfl) λa E=>qA E rfl λa E=>ag ?_;exact⟨(Z1.wrap (J+((min a1.2 a2.2:Nat):Int)),e0),(Option.some.inj h).symm,_,(j6 d0 g0),c2,(aG _ _),e5,hS,kut E⟩}}
 {have h:=aI c0 h;obtain⟨k0,f6,hS,h0⟩:=S.freeze hS a3;refine fe rfl rfl ?_;have h:=cg h hb66;exact⟨a4,h,_,(j6 d0 f6),W,h0,hS,kut E⟩}}}
 {
 rintro a w⟨b4,h,h8,h7,c1,h2,hS,E⟩;unfold iE at h;refine ab (ak (qM E rfl λa E=>qA E rfl λa E=>ag (bK ?_)));obtain rfl:=oi h
 try dsimp only
 refine f1 E ?_;exact⟨_,(j6 b6 (j6 c4 (j6 d2 (j6 d1 h7)))),hS,h2⟩}}}}
theorem RZ:Ctr Sz prog 166 [.rd (.sl (.st 32)),.rd (.int .i64)] [.rd (.sl (.st 32))] (λx=>fy x.1 x.2.1):=by intro W0 m w L TL vs x r Lp Tp hS Z h;obtain⟨v0,vs,rfl,a0,J⟩:=cT Z;obtain⟨v1,vs,rfl,a1,a2⟩:=cT J;obtain⟨rfl,n1⟩:=aF a1;obtain⟨rfl,rfl,rfl⟩:=eT a2;refine rm (wK (hS:=hS) a0 n1 h) λv w' W=>?_;obtain⟨m',hm,Z',r0⟩:=W;exact⟨m',[v],[],[],[],hm,Z',rfl,⟨r0,trivial⟩,trivial⟩
def R0:=mC RZ call166
theorem R3:Ctr Sz prog 167 [.pt (.st 161)] [.rd (.int .u64)] (λx=>gG x.1):=ncR [CD] [2] func167 ntmps167 (.s .o (.s .o (.s (.s .o (.b (.l ⟨[.v 3 1 (.dat (.int .u64) none),.v 9 1 (.dat (.int .i64) none)],[7,8],1,[]⟩ .o))) .o))) λx=>by kernel_rfl
def R4:=mC R3 call167
theorem R5:Ctr Sz prog 168 [.pt (.st 161)] [.rd (.int .u64)] (λx=>fz x.1):=ncR [CD] [2] func168 ntmps168 (.s .o (.s .o (.s (.s .o (.b (.l ⟨[.v 3 1 (.dat (.int .u64) none),.v 4 1 (.dat (.int .i64) none),.b 0 1 (.st 161)],[0],1,[]⟩ .o))) .o))) λx=>by kernel_rfl
def R6:=mC R5 call168
theorem R7:Ctr Sz prog 179 [.rd (.int .u32)] [.rd (.int .i64)] (λx=>Im x.1):=ncR [] [2] func179 ntmps179 .o λx=>by kernel_rfl
def R8:=mC R7 call179
theorem R9:Ctr Sz prog 154 [.rd (.int .u64)] [.rd (.int .i64)] (λx=>qH x.1):=ncR [] [2] func154 ntmps154 .o λx=>by kernel_rfl
def KM:=mC R9 call154
theorem Sa:Ctr Sz prog 152 [.rd (.int .u64)] [.rd (.int .i64)] (λx=>t7 x.1):=ncR [KM,R8] [2] func152 ntmps152 .o λx=>by kernel_rfl
def KN:=mC Sa call152
theorem Sb:Ctr Sz prog 169 [.pt (.st 161),.rd (.int .i64),.rd (.int .i64)] [.rd (.sl (.int .u64))] (λx=>fG x.1 x.2.1 x.2.2.1):=ncR [CD] [6] func169 ntmps169 (.s .o (.s .o (.s .o (.s .o (.s (.s .o (.b (.l ⟨[.v 30 1 (.dat (.int .i64) none),.a 1 1 (.int .u64) none],[2,7,8,29],2,[]⟩ (.s .o (.s .o (.s (.b (.s .o (.s .o (.b (.l ⟨[.v 34 2 (.dat (.int .i64) none),.a 1 2 (.int .u64) none],[2,7,8,9,29,30,33],2,[]⟩ .o))))) .o)))))) .o))))) λx=>by kernel_rfl
def Sc:=mC Sb call169
theorem Sd:Ctr Sz prog 120 [.pt (.st 161),.rd (.int .i64),.rd (.int .i64)] [.ap (.st 32)] (λx=>bR x.1 x.2.1 x.2.2.1):=ncR [CB,KN,RR,CD,R0,R4,R6,Sc] [6] func120 ntmps120 (.s .o (.s .o (.s (.s .o (.b (.s .o (.i (.b (.l ⟨[.v 7 1 (.dat (.sl (.st 32)) (some 0)),.b 0 1 (.st 161)],[0,2],1,[4]⟩ .o)) (.s .o (.i (.b (.l ⟨[.v 7 1 (.dat (.sl (.st 32)) (some 0)),.b 0 1 (.st 161)],[0,2],1,[4]⟩ .o)) (.s .o (.i (.s .o (.s .o (.b (.l ⟨[.v 7 1 (.dat (.sl (.st 32)) (some 1)),.v 9 1 (.dat (.int .i64) none),.b 0 1 (.st 161)],[0,2],1,[4,4]⟩ .o)))) (.s .o (.i (.s .o (.s (.s .o (.b (.l ⟨[.v 11 1 (.dat (.sl (.st 32)) (some 0)),.v 131 1 (.dat (.int .u8) none),.b 0 1 (.st 161)],[0,2,7,130],1,[4]⟩ .o))) (.s .o (.b (.l ⟨[.v 7 1 (.dat (.sl (.st 32)) (some 1)),.v 149 1 (.dat (.int .i64) none)],[11,147,148],1,[4,4]⟩ .o))))) (.s .o (.s .o (.b (.l ⟨[.v 7 1 (.dat (.sl (.st 32)) (some 0)),.v 29 1 (.dat (.int .i64) none)],[14,27,28],1,[4]⟩ .o)))))))))))))) .o))) λx=>by kernel_rfl
def Se:=mC Sd call120
theorem Sf:Ctr Sz prog 143 [.rd (.sl (.st 32)),.f1 (.st 32) .bool] [.rd (.int .i64)] (λx=>kJ x.1 x.2.1):=ncR [] [4] func143 ntmps143 (.s .o (.s (.s .o (.b (.l ⟨[.v 8 1 (.dat (.int .i64) none)],[0,1,7],0,[]⟩ .o))) .o)) λx=>by kernel_rfl
def Si:=mC Sf call143
theorem No:Ctr Sz prog 99 [.rd (.sl (.st 32)),.f1 (.st 32) .bool] [.rd .bool] (λx=>eN x.1 x.2.1):=ncR [Si] [4] func99 ntmps99 .o λx=>by kernel_rfl
def Va:=mC No call99
theorem sO (hS:S W0 m w L TL){p0}(a0:RV (kSl kAp) m v0 p0){p1}(a2:Fn1 prog kAp cS m v1 p1){r}(h:eN p0 p1=some r):Calls prog 99 #[v0,v1] w (Ret λv w'=>∃m',M.le m m'/\S W0 m' w' L TL/\RV cS m' v r):=by refine rm (No W0 m w L TL [v0,v1] (p0,p1,()) r [] [] hS ⟨a0,⟨a2,trivial⟩⟩ h) λv w' Z=>?_;obtain⟨m',us,Lr,Lq,Tr,hm,Z',rfl,hR,hO⟩:=Z;obtain⟨u0,us,rfl,r0,J⟩:=cN hR;obtain⟨rfl,rfl,rfl⟩:=cH J;have W:=cO hO;have a1:=M2 W;obtain rfl:=dC a1;exact⟨m',hm,Z',r0⟩
theorem KO:Ctr Sz prog 100 [.rd (.st 32)] [.rd .bool] (λx=>fq x.1):=ncR [GD] [2] func100 ntmps100 .o λx=>by kernel_rfl
def Sj:=mC KO call100
theorem Aw (hS:S W0 m w L TL){p0}(a0:RV kAp m v0 p0){r}(h:fq p0=some r):Calls prog 100 #[v0] w (Ret λv w'=>∃m',M.le m m'/\S W0 m' w' L TL/\RV cS m' v r):=by refine rm (KO W0 m w L TL [v0] (p0,()) r [] [] hS ⟨a0,trivial⟩ h) λv w' Z=>?_;obtain⟨m',us,Lr,Lq,Tr,hm,Z',rfl,hR,hO⟩:=Z;obtain⟨u0,us,rfl,r0,J⟩:=cN hR;obtain⟨rfl,rfl,rfl⟩:=cH J;have W:=cO hO;obtain rfl:=dC W;exact⟨m',hm,Z',r0⟩
theorem Sk:Ctr Sz prog 102 [.rd (.sl (.st 32))] [.rd (.sl (.int .i64)),.rd .bool] (λx=>sg x.1):=ncR [] [2,3] func102 ntmps102 (.s .o (.s .o (.s (.s .o (.b (.l ⟨[.v 4 1 (.dat (.sl (.int .i64)) (some 0)),.v 9 1 (.dat (.int .i64) none)],[7,8],0,[1]⟩ .o))) .o))) λx=>by kernel_rfl
def Sl:=mC Sk call102
theorem Es (hS:S W0 m w L TL){p0}(e8:RV (kSl kAp) m v0 p0){r}(h:mA p0=some r):Calls prog 146 #[v0] w (Ret λv w'=>∃m',M.le m m'/\S W0 m' w' L TL/\RV (kSl cm) m' v r):=by
 refine kc func146 ntmps146 λa E=>?_;have E:Env 48 a [(0,v0)]:=E;unfold mA at h;refine ab (ak (qA E rfl λa E=>ag (EQ (ab (ak (qA E rfl λa E=>ag (ab ?_)))))));refine I5 (ab (ab (ak (qM E rfl λa E=>sp E (bq (k:=kAp) E rfl rfl underlying22 e8) rfl λa E=>qM E rfl λa E=>ag ?_))));refine cA (λa w=>∃x8:(List aS),n7 x8=some r/\∃m',M.le m m'/\∃(v9:Value),RV (kSl cm) m' v9 x8/\S W0 m' w L TL/\Env 48 a [(3,v9)]) ?_ ?_;{
 refine bj ?_;refine fN h (λ(s:Int×List aS)a w=>∃m',M.le m m'/\∃(a9:List Value),∃(a6:Nat),∃(a1:Value),inR .i64 s.1/\GS cm m' a6 a9 a1 s.2/\S W0 m' w ((a6,a9)::L) (TL)/\Env 48 a [(3,a1),(7,v0),(8,.int .i64 (p0.length:Int)),(9,.int .i64 s.1)]) ?_ ?_
 {exact⟨_,(Z0 _),[],0,(.slice none 0 0),(show inR .i64 0 from az (by decide)),GS.void,(hS.void 0),kut E⟩}
 {
 rintro⟨a4,a0⟩a w⟨c7,c5,a9,a6,a1,m7,a3,hS,E⟩r23 h hb24;have h:lj p0 a4 a0=some r23:=h;unfold lj at h;refine ab (ak (qB E rfl rfl cu λa E=>ag (ab (kif E rfl (λd0=>?_) (λd0=>?_)))))
 {
 have h:=aH d0 h;refine a7 (ab ?_);refine cA (λa w=>∃c1:(List aS),jA a4 c1=some r23/\∃m',M.le c7 m'/\∃(c0:List Value),∃(b6:Nat),∃(b7:Value),GS cm m' b6 c0 b7 c1/\S W0 m' w ((b6,c0)::L) (TL)/\Env 48 a [(3,b7),(7,v0),(8,.int .i64 (p0.length:Int)),(9,.int .i64 a4)]) ?_ ?_
 {
 refine bj (ab (ak ?_));obtain⟨b3,j2,h⟩:=ob h;refine st E (be (k:=kAp) E rfl rfl underlying22 sizeOf32 (e8.mono c5) j2) rfl ?_;rintro n0 a _⟨rfl,h9⟩E;refine st E (aC E hS iA rfl h9) rfl ?_;rintro m5 a _⟨rfl,g6⟩E;refine st E (cF hS zeroValue32 rfl (cs:=Do)) rfl ?_;rintro _ a w⟨a5,rfl,hS⟩E;refine st0 E (dq E hS iA bT rfl rfl g6 (i:=0) rfl (xY _)) ?_;rintro _ w⟨b5,e5,hS⟩E;refine ag (ab (ab (ak (qM E rfl λa E=>sp E (tS (k:=cm) E rfl rfl underlying185 a3) rfl λa E=>qM E rfl λa E=>ag ?_))))
 refine cA (λa w=>n8 a4 a0 b3=some r23/\∃m',M.le c7 m'/\S W0 m' w ((a5,b5)::(a6,a9)::L) (TL)/\Env 48 a [(3,a1),(5,pz a5),(7,v0),(8,.int .i64 (p0.length:Int)),(9,.int .i64 a4)]) ?_ ?_
 {
 refine bj ?_;refine fN h (λ(s:Int)a w=>∃m',M.le c7 m'/\inR .i64 s/\S W0 m' w ((a5,b5)::(a6,a9)::L) (TL)/\Env 48 a [(3,a1),(5,pz a5),(7,v0),(8,.int .i64 (p0.length:Int)),(9,.int .i64 a4),(14,.int .i64 (a0.length:Int)),(15,.int .i64 s)]) ?_ ?_
 {exact⟨_,(Z0 _),(show inR .i64 0 from az (by decide)),hS,kut E⟩}
 {
 rintro W a w⟨d2,a2,d1,hS,E⟩r77 h hb78;have h:fh a4 a0 b3 W=some r77:=h;unfold fh at h;refine ab (ak (qB E rfl rfl cu λa E=>ag (ab (kif E rfl (λe4=>?_) (λe4=>?_)))))
 {
 have h:=aH e4 h;refine a7 (ab (bj (ab (ak (qM E rfl λa E=>qA E rfl λa E=>ag (ab ?_))))));refine cA (λa w=>∃c4:Bool,io a4 a0 W c4=some r77/\∃m',M.le d2 m'/\S W0 m' w ((a5,b5)::(a6,a9)::L) (TL)/\Env 48 a [(3,a1),(5,pz a5),(6,.int .i64 W),(7,v0),(8,.int .i64 (p0.length:Int)),(9,.int .i64 a4),(14,.int .i64 (a0.length:Int)),(15,.int .i64 W),(31,.bool c4)]) ?_ ?_
 {
 rcases zx (W==(Z1.wrap ((a0.length:Int)-1)))with hd111|hd111
 {
 have h:=aH hd111 h;obtain⟨e7,i1,e9,g2,h⟩:=ob2 h
 refine kch (k:=12) (m:=d2) (es:=[]) (Φ:=(λi m ws v=>match i with|0=>ei .i64 W v|1=>v=a1|2=>ei .i64 (a0.length:Int) v|3=>ei .i64 (Z1.wrap ((a0.length:Int)-1)) v|4=>v=(.bool (W==(Z1.wrap ((a0.length:Int)-1))))|5=>v=(.bool (W==(Z1.wrap ((a0.length:Int)-1))))|6=>v=a1|7=>ei .i64 W v|8=>v=(.pointer (some ⟨a6,e7*5,none⟩))|9=>v=(.pointer (some ⟨a6,e7*5+1,none⟩))|10=>RV kAp m v e9.fValue|11=>RV kAp m v b3|_=>True)) (Q:=(λc m ws L' c2=>match c with|0=>(a5,b5)::(a6,a9)::L=L'/\TL=c2|_=>False)) (cs:=[jc [(6,.int .i64 W)],jc [(3,a1)],jc [],jc [],jc [],jc [],jc [(3,a1)],jc [(6,.int .i64 W)],jc [],jc [],jc [],jc [(5,pz a5)]]) mixed E hS ⟨rfl,rfl⟩ rfl rfl (by kernel_rfl) ?_ ?_ ?_ ?_
 {
 intro i m_ c3 ws v n_ q_
 iterate 12 (rcases i with _|i;first|exact q_|exact RV.mono q_ n_)
 exact trivial}
 {
 intro c m_ c3 ws L_ T_ n_ b1
 match c,b1 with
 |0,⟨e1,e0⟩=>exact⟨e1,e0⟩|_+1,b1=>exact b1.elim}
 {
 refine⟨?_,?_,?_,?_,?_,?_,?_,?_,?_,?_,?_,?_,trivial⟩
 {exact cmv λ_ _=>⟨rfl,d1⟩}
 {exact cmv λ_ _=>rfl}
 {refine cp1 λ_ _ _ _ _ M' Q' J Z T'=>?_;obtain⟨rfl,rfl⟩:=Q';have E:=Z.add (T' 1);exact cq (tS (k:=cm) E rfl rfl underlying185 (a3.mono (j6 a2 M'))) J ⟨rfl,(eD (GS.len (a3.mono (j6 a2 M'))))⟩}
 {refine cp0 λ_ _ _ _ _ _ _ _ _ J Z T'=>?_;have E:=Z.add (T' 2).1;exact cq (bg E rfl rfl (kf rfl)) J ⟨rfl,(aG _ _)⟩}
 {refine cp0 λ_ _ _ _ _ _ _ _ _ J Z T'=>?_;have E:=(Z.add (T' 0).1).add (T' 3).1;exact cq (bg E rfl rfl mR) J rfl}
 {refine cp0 λ_ _ _ _ _ _ _ _ _ J Z T'=>?_;have E:=Z.add (T' 4);exact cq (jd E rfl) J rfl}
 {exact cgm (gz hd111) (λ_ _=>rfl)}
 {exact cgm (gz hd111) (λ_ _=>⟨rfl,d1⟩)}
 {refine cg1 (gz hd111) λ_ _ _ _ _ M' Q' J Z T'=>?_;obtain⟨rfl,rfl⟩:=Q';have E:=(Z.add (T' 6)).add (T' 7).1;exact cq (lF (k:=cm) E rfl rfl underlying185 sizeOf187 (a3.mono (j6 a2 M')) i1 rfl) J rfl}
 {refine cg0 (gz hd111) λ_ _ _ _ _ _ _ _ _ J Z T'=>?_;have E:=Z.add (T' 8);exact cq (aK E HP rfl) J rfl}
 {refine cg1 (gz hd111) λ_ _ _ _ _ M' Q' J Z T'=>?_;obtain⟨rfl,rfl⟩:=Q';have E:=Z.add (T' 9);exact cr (aM E J iA rfl (i:=1) rfl (ON.R_drop (GS.elem (a3.mono (j6 a2 M')) g2))) J λ_ h=>h}
 {refine cg1 (gz hd111) λ_ _ _ _ _ M' Q' J Z _=>?_;obtain⟨rfl,rfl⟩:=Q';exact cr (aM Z J iA rfl (i:=0) rfl (aL (kAp.mono (j6 a2 M') e5))) J λ_ h=>h}}
 {
 intro g5 L_ T_ n1 a w f6 i5 k3 hS g1 i4 h3 b2;obtain rfl:=eS f6;obtain⟨rfl,rfl⟩:=k3;have E:=eof 12 [(3,a1),(5,pz a5),(6,.int .i64 W),(7,v0),(8,.int .i64 (p0.length:Int)),(9,.int .i64 a4),(14,.int .i64 (a0.length:Int)),(15,.int .i64 W),(16,.bool (decide (W<(a0.length:Int)))),(17,.int .i64 W)] g1 i4 h3;have E:=((((E.add (b2 5)).add (b2 6)).add (b2 7).1).add (b2 8)).add (b2 9);obtain⟨o0,E,k6⟩:=adv E (b2 10);obtain⟨m4,E,i2⟩:=adv E (b2 11)
 refine spg E rfl rfl rfl rfl hd111 (yz E Gw rfl rfl k6 i2 rfl) rfl λa E=>qT E hd111 rfl λa E=>ag ?_;exact⟨(decide (e9.fValue=b3)),h,_,i5,hS,kut E⟩}}
 {
 have h:=aI hd111 h
 refine kch (k:=12) (m:=d2) (es:=[]) (Φ:=(λi m ws v=>match i with|0=>ei .i64 W v|1=>v=a1|2=>ei .i64 (a0.length:Int) v|3=>ei .i64 (Z1.wrap ((a0.length:Int)-1)) v|4=>v=(.bool (W==(Z1.wrap ((a0.length:Int)-1))))|5=>v=(.bool (W==(Z1.wrap ((a0.length:Int)-1))))|6=>v=undef|7=>v=undef|8=>v=undef|9=>v=undef|10=>v=undef|11=>v=undef|_=>True)) (Q:=(λc m ws L' c2=>match c with|0=>(a5,b5)::(a6,a9)::L=L'/\TL=c2|_=>False)) (cs:=[jc [(6,.int .i64 W)],jc [(3,a1)],jc [],jc [],jc [],jc [],jc [(3,a1)],jc [(6,.int .i64 W)],jc [],jc [],jc [],jc [(5,pz a5)]]) mixed E hS ⟨rfl,rfl⟩ rfl rfl (by kernel_rfl) ?_ ?_ ?_ ?_
 {
 intro i m_ c3 ws v n_ q_
 iterate 12 (rcases i with _|i;exact q_)
 exact trivial}
 {
 intro c m_ c3 ws L_ T_ n_ b1
 match c,b1 with
 |0,⟨e1,e0⟩=>exact⟨e1,e0⟩|_+1,b1=>exact b1.elim}
 {
 refine⟨?_,?_,?_,?_,?_,?_,?_,?_,?_,?_,?_,?_,trivial⟩
 {exact cmv λ_ _=>⟨rfl,d1⟩}
 {exact cmv λ_ _=>rfl}
 {refine cp1 λ_ _ _ _ _ M' Q' J Z T'=>?_;obtain⟨rfl,rfl⟩:=Q';have E:=Z.add (T' 1);exact cq (tS (k:=cm) E rfl rfl underlying185 (a3.mono (j6 a2 M'))) J ⟨rfl,(eD (GS.len (a3.mono (j6 a2 M'))))⟩}
 {refine cp0 λ_ _ _ _ _ _ _ _ _ J Z T'=>?_;have E:=Z.add (T' 2).1;exact cq (bg E rfl rfl (kf rfl)) J ⟨rfl,(aG _ _)⟩}
 {refine cp0 λ_ _ _ _ _ _ _ _ _ J Z T'=>?_;have E:=(Z.add (T' 0).1).add (T' 3).1;exact cq (bg E rfl rfl mR) J rfl}
 {refine cp0 λ_ _ _ _ _ _ _ _ _ J Z T'=>?_;have E:=Z.add (T' 4);exact cq (jd E rfl) J rfl}
 {exact csk (gz hd111)}
 {exact csk (gz hd111)}
 {exact csk (gz hd111)}
 {exact csk (gz hd111)}
 {exact csk (gz hd111)}
 {exact csk (gz hd111)}}
 {intro g5 L_ T_ n6 a w h8 j5 i8 hS j1 f0 h2 b0;obtain rfl:=eS h8;obtain⟨rfl,rfl⟩:=i8;have E:=eof 12 [(3,a1),(5,pz a5),(6,.int .i64 W),(7,v0),(8,.int .i64 (p0.length:Int)),(9,.int .i64 a4),(14,.int .i64 (a0.length:Int)),(15,.int .i64 W),(16,.bool (decide (W<(a0.length:Int)))),(17,.int .i64 W)] j1 f0 h2;have E:=((((((E.add (b0 5)).add (b0 6)).add (b0 7)).add (b0 8)).add (b0 9)).add (b0 10)).add (b0 11);refine qX E hd111 λa E=>qF E hd111 rfl λa E=>ag ?_;exact⟨false,h,_,j5,hS,kut E⟩}}}
 {
 rintro a w⟨c4,h,n4,b4,hS,E⟩;unfold io at h;refine kif E rfl (λe3=>?_) (λe3=>?_)
 {
 have h:=aH e3 h;refine ab (ak (qM E rfl λa E=>qM E rfl λa E=>?_));obtain⟨n3,g0,h⟩:=ob h;refine sp E (lF (k:=cm) E rfl rfl underlying185 sizeOf187 (a3.mono (j6 a2 b4)) g0 rfl) rfl λa E=>sp E (aK E Dq rfl) rfl λa E=>?_;obtain⟨l1,j0,h⟩:=ob h;refine st E (aM E hS ty3 rfl (i:=1) rfl (OM.R_drop (GS.elem (a3.mono (j6 a2 b4)) j0))) rfl ?_;rintro m1 a _⟨rfl,k0⟩E;obtain⟨rfl,m2⟩:=aF k0;refine qB E rfl rfl (cp rfl) λa E=>?_;obtain⟨j3,g3,h⟩:=ob h
 refine sp E (lF (k:=cm) E rfl rfl underlying185 sizeOf187 (a3.mono (j6 a2 b4)) g3 rfl) rfl λa E=>sp E (aK E Dq rfl) rfl λa E=>?_;obtain⟨x106,h1,h⟩:=ob h;refine st0 E (sC (k:=cm) E hS ty3 Dm (a3.mono (j6 a2 b4)) h1 rfl rfl (ax (aG _ _)) (i:=1) rfl) ?_;rintro _ w⟨h6,g7,hS⟩E;refine ag ?_;refine fe rfl rfl ?_;have h:=cg h hb78;exact⟨(a0.set j3 ({x106 with fMany:=Z1.wrap (l1.fMany+1)})),h,_,(j6 a2 b4),h6,a6,a1,g7,(hS.pickL 2 [1] rfl rfl rfl),kut E⟩}
 {have h:=aI e3 h;refine a7 (ak (qB E rfl rfl (cp rfl) λa E=>qM E rfl λa E=>ag ?_));exact⟨Z1.wrap (W+1),(Option.some.inj h).symm,_,(j6 a2 b4),(aG _ _),hS,kut E⟩}}}
 {have h:=aI e4 h;refine fe rfl rfl ?_;have h:=cg h hb78;exact⟨h,_,a2,hS,kut E⟩}}}
 {
 rintro a w⟨h,g9,c6,hS,E⟩;unfold n8 at h;refine ak (qM E rfl λa E=>?_);refine st E (aM E hS iA rfl (i:=0) rfl (aL (kAp.mono c6 e5))) rfl ?_;rintro l2 a _⟨rfl,i3⟩E;refine st E (rq (m:=g9) (k:=cm) (x0:=aS.zero) (xx:=(⟨1,b3⟩:aS)) (pl:=[(0,1),(1,4)]) (pv:=[(0,.int .i64 1),(1,l2)]) E rfl underlying187 rfl zeroValue187 IR rfl (.cons rfl Dm (ax (show inR .i64 1 from az (by decide))) (.cons rfl HK i3 .nil))) rfl ?_;rintro j4 a _⟨rfl,h5⟩E
 refine st E (gA (k:=cm) (xs:=[(⟨1,b3⟩:aS)]) (vs:=[j4]) E hS rfl underlying185 sizeOf187 zeroValue187 ⟨h5,trivial⟩ rfl (by decide)) rfl ?_;rintro l4 a w⟨m8,e6,hS,h7⟩E;obtain⟨k5,k4,h⟩:=ob h;refine st E (zP (k:=cm) (N:=2932031007402) E hS rfl rfl underlying185 Na (i:=1) rfl (a3.mono (j6 c6 e6)) (yC hS underlying185 h7) k4 rfl rfl) rfl ?_;rintro l3 a w⟨h4,f3,f4,hS⟩E;refine qA E rfl λa E=>ag ?_;exact⟨k5,h,_,(j6 c6 e6),f3,h4,l3,f4,((hS.pickL 2 [1] rfl rfl rfl).pickT 1 [] rfl rfl rfl),kut E⟩}}
 {rintro a w⟨c1,h,m9,g8,c0,b6,b7,i0,hS,E⟩;unfold jA at h;refine ak (qB E rfl rfl (cp rfl) λa E=>qM E rfl λa E=>ag ?_);exact⟨(Z1.wrap (a4+1),c1),(Option.some.inj h).symm,_,(j6 c5 g8),c0,b6,b7,(aG _ _),i0,hS,kut E⟩}}
 {have h:=aI d0 h;obtain⟨n2,k7,hS,f5⟩:=S.freeze hS a3;refine fe rfl rfl ?_;have h:=cg h hb24;exact⟨a0,h,_,(j6 c5 k7),a1,f5,hS,kut E⟩}}};{
 rintro a w⟨x8,h,m6,h0,v9,g4,hS,E⟩;unfold n7 at h;refine ab (ak (qM E rfl λa E=>qA E rfl λa E=>ag (bK ?_)));obtain rfl:=oi h
 try dsimp only
 refine f1 E ?_;exact⟨_,h0,hS,g4⟩}
theorem Sm:Ctr Sz prog 146 [.rd (.sl (.st 32))] [.rd (.sl (.st 187))] (λx=>mA x.1):=by intro W0 m w L TL vs x r Lp Tp hS Z h;obtain⟨v0,vs,rfl,a0,J⟩:=cT Z;obtain⟨rfl,rfl,rfl⟩:=eT J;refine rm (Es (hS:=hS) a0 h) λv w' W=>?_;obtain⟨m',hm,Z',r0⟩:=W;exact⟨m',[v],[],[],[],hm,Z',rfl,⟨r0,trivial⟩,trivial⟩
def Sn:=mC Sm call146
theorem So:Ctr Sz prog 158 [.rd (.sl (.st 32))] [.rd .bool] (λx=>t6 x.1):=ncR [GD] [2] func158 ntmps158 (.s .o (.s (.s .o (.b (.l ⟨[.v 7 1 (.dat (.int .i64) none)],[0,5,6],0,[]⟩ .o))) .o)) λx=>by kernel_rfl
def Sq:=mC So call158
theorem GF (hS:S W0 m w L ((1,v0)::TL)){p0}(a5:RV (kSl (aj .u8)) m v0 p0){p1}(d0:inR .u64 p1){r}(h:n9 p0 p1=some r):Calls prog 182 #[v0,(.int .u64 p1)] w (Ret λv w'=>∃m',M.le m m'/\S W0 m' w' L ((1,v)::TL)/\RV (kSl (aj .u8)) m' v r):=by
 refine kc func182 ntmps182 λa E=>?_;have E:Env 22 a [(0,v0),(1,.int .u64 p1)]:=E;unfold n9 at h;refine ab (ak (qA E rfl λa E=>ag (ab (ak ?_))));refine st E (cF hS zeroValue224 rfl (cs:=IS)) rfl ?_;rintro _ a w⟨J,rfl,hS⟩E;refine ag (ab (ab (ak (qM E rfl λa E=>ag ?_))));refine cA (λa w=>∃x7:(List Int),pE p0 x7=some r/\∃m',M.le m m'/\∃(a0:List Value),GS (aj .u8) m' J a0 (.slice (some ⟨J,0,none⟩) 8 8) x7/\S W0 m' w ((J,a0)::L) ((1,v0)::TL)/\Env 22 a [(0,v0),(5,pz J)]) ?_ ?_;{
 refine bj ?_;refine fN h (λ(s:Int×List Int)a w=>∃m',M.le m m'/\∃(W:List Value),inR .i64 s.1/\GS (aj .u8) m' J W (.slice (some ⟨J,0,none⟩) 8 8) s.2/\S W0 m' w ((J,W)::L) ((1,v0)::TL)/\Env 22 a [(0,v0),(1,.int .u64 p1),(5,pz J),(7,.int .i64 s.1)]) ?_ ?_
 {exact⟨_,(Z0 _),IS,(show inR .i64 0 from az (by decide)),(UE _ _),hS,kut E⟩}
 {
 rintro⟨a2,x24⟩a w⟨c3,a4,W,c5,Z,hS,E⟩r27 h hb28;have h:mb p0 p1 a2 x24=some r27:=h;unfold mb at h;refine ab (ak (qB E rfl rfl cu λa E=>ag (ab (kif E rfl (λa1=>?_) (λa1=>?_)))))
 {
 have h:=aH a1 h;refine a7 (ab (bj (ab (ak (qM E rfl λa E=>qA E rfl λa E=>ag (ak (qM E rfl λa E=>?_)))))));refine qM E rfl λa E=>qM E rfl λa E=>qB E rfl rfl (MS rfl) λa E=>qB E rfl rfl (kf rfl) λa E=>?_;obtain⟨c2,b7,h⟩:=ob h;refine qB E rfl rfl (Ew rfl (of_decide_eq_true (rt b7))) λa E=>sp E (fC E rfl underlying54 underlying5 rfl) rfl λa E=>?_;obtain⟨c0,b3,h⟩:=ob h;refine sp E (E5 (k:=(aj .u8)) E rfl rfl underlying224 sizeOf5 (GS.arr_len Z) b3 rfl) rfl λa E=>?_;obtain⟨c6,b5,h⟩:=ob h
 refine st0 E (sC (k:=(aj .u8)) E hS ty5 bT Z b5 rfl rfl (ax (aG _ _)) (i:=0) rfl) ?_;rintro _ w⟨a6,b4,hS⟩E;refine ag (ak (qB E rfl rfl (cp rfl) λa E=>qM E rfl λa E=>ag ?_));exact⟨(Z1.wrap (a2+1),(x24.set c0 (IntKind.u8.wrap (aV .u64 p1 (Z1.wrap (56-(Z1.wrap (8*a2)))))))),(Option.some.inj h).symm,_,a4,a6,(aG _ _),b4,hS,kut E⟩}
 {have h:=aI a1 h;refine fe rfl rfl ?_;have h:=cg h hb28;exact⟨x24,h,_,a4,W,Z,hS,kut E⟩}}};{
 rintro a w⟨x7,h,m5,a3,a0,b1,hS,E⟩;unfold pE at h;refine ab (ak (qM E rfl λa E=>sp E (K6 (k:=(aj .u8)) E rfl underlying224 sizeOf5) rfl λa E=>?_));obtain⟨c1,b0,h⟩:=ob h;refine st E (CN (k:=(aj .u8)) (N:=140737488355328) E hS rfl rfl underlying24 el5 (i:=0) rfl (a5.mono a3) (Hd hS underlying24 (i:=0) rfl b1) b0 rfl rfl) rfl ?_;rintro c4 a w⟨c7,b6,hS,a9⟩E;refine qA E rfl λa E=>ag (bK ?_);obtain rfl:=oi h
 try dsimp only
 refine f1 E ?_;exact⟨_,(j6 a3 b6),((hS.dropL 1).pickT 1 [0] rfl rfl rfl),a9⟩}
theorem Sr:Ctr Sz prog 182 [.ap (.int .u8),.rd (.int .u64)] [.ap (.int .u8)] (λx=>n9 x.1 x.2.1):=by intro W0 m w L TL vs x r Lp Tp hS Z h;obtain⟨v0,vs,Tp,rfl,rfl,a0,J⟩:=Um Z;obtain⟨v1,vs,rfl,a1,a2⟩:=cT J;obtain⟨rfl,n1⟩:=aF a1;obtain⟨rfl,rfl,rfl⟩:=eT a2;refine rm (GF (hS:=hS) a0 n1 h) λv w' W=>?_;obtain⟨m',hm,Z',r0⟩:=W;exact⟨m',[v],[],[],[(1,v)],hm,Z',rfl,⟨r0,rfl,trivial⟩,trivial⟩
def Ss:=mC Sr call182
theorem Su:Ctr Sz prog 159 [.ap (.int .u8),.rd (.st 32)] [.ap (.int .u8)] (λx=>xi x.1 x.2.1):=ncR [Ss] [4] func159 ntmps159 .o λx=>by kernel_rfl
def Sv:=mC Su call159
theorem Sw:Ctr Sz prog 112 [.rd (.sl (.st 32))] [.rd (.sl (.int .u8)),.rd (.int .i64)] (λx=>o7 x.1):=ncR [Sq,Sv] [2,3] func112 ntmps112 (.s .o (.s .o (.s .o (.s (.s .o (.b (.l ⟨[.v 4 1 (.dat (.sl (.int .u8)) (some 0)),.v 16 1 (.dat (.int .i64) none)],[14,15],0,[1]⟩ .o))) .o)))) λx=>by kernel_rfl
def KP:=mC Sw call112
theorem Sx:Ctr Sz prog 107 [.rd (.st 32)] [.rd (.sl (.int .u8))] (λx=>oa x.1):=ncR [KP] [2] func107 ntmps107 .o λx=>by kernel_rfl
def GG:=mC Sx call107
theorem Sy:Ctr Sz prog 103 [.rd (.sl (.st 32))] [.ap (.int .u8)] (λx=>si x.1):=ncR [GG,Sn] [2] func103 ntmps103 (.s .o (.s .o (.s (.s .o (.b (.l ⟨[.v 3 1 (.dat (.sl (.int .u8)) (some 0)),.v 9 1 (.dat (.int .i64) none)],[7,8],0,[1]⟩ .o))) .o))) λx=>by kernel_rfl
def SA:=mC Sy call103
theorem SB:Ctr Sz prog 147 [.rd (.int .u64)] [.ap (.int .u8)] (λx=>nz x.1):=ncR [] [2] func147 ntmps147 (.s .o (.s .o (.s (.s .o (.b (.l ⟨[.v 3 1 (.dat (.sl (.int .u8)) (some 0)),.v 5 1 (.dat (.int .i64) none)],[0],0,[1]⟩ .o))) .o))) λx=>by kernel_rfl
def KQ:=mC SB call147
theorem SC:Ctr Sz prog 104 [.rd (.sl (.int .i64))] [.ap (.int .u8)] (λx=>qE x.1):=ncR [KQ] [2] func104 ntmps104 (.s .o (.s .o (.s (.s .o (.b (.l ⟨[.v 3 1 (.dat (.sl (.int .u8)) (some 0)),.v 16 1 (.dat (.int .i64) none)],[0,14,15],0,[1]⟩ (.s .o (.s .o (.s (.b (.s .o (.s .o (.s .o (.s (.b (.l ⟨[.v 3 2 (.dat (.sl (.int .u8)) (some 0)),.v 7 2 (.dat (.int .u64) none)],[0,14,15,16],0,[1]⟩ .o)) .o))))) .o)))))) .o))) λx=>by kernel_rfl
def SD:=mC SC call104
theorem rj (hS:S W0 m w L TL){p0}(W:RV (kSl kAp) m v0 p0){r}(h:d5 p0=some r):Calls prog 92 #[v0] w (Ret λv w'=>∃m',M.le m m'/\S W0 m' w' L ((4,v)::TL)/\RV (kSl kAp) m' v r):=by
 refine kc func92 ntmps92 λa E=>?_;have E:Env 8 a [(0,v0)]:=E;unfold d5 at h;refine ab (ak (qA E rfl λa E=>ag (ab (ab (ak (qM E rfl λa E=>?_))))));refine st E (w7 (k:=kAp) E rfl rfl W underlying22) rfl ?_;rintro v5 a _⟨rfl,a6,rfl,a1⟩E;refine ag (kif E rfl (λJ=>?_) (λJ=>?_));{
 have a2:=a1 J;have h:some ([])=some r:=by rw[a2]at h;exact h
 refine ab (ak (qA E rfl λa E=>ag (bK ?_)));obtain rfl:=oi h
 try dsimp only
 refine f1 E ?_;exact⟨_,(Z0 _),((hS.dropT 0).tail0 4),dK⟩};{
 refine a7 (ab (ak ?_));refine st E (gA (k:=kAp) (xs:=[]) (vs:=[]) E hS rfl underlying22 sizeOf32 zeroValue32 trivial rfl (by decide)) rfl ?_;rintro b1 a w⟨m9,Z,hS,a4⟩E;refine qM E rfl λa E=>?_;obtain⟨a9,a3,h⟩:=ob h;refine st E (iM (k:=kAp) (N:=3518437208883) E hS rfl rfl underlying22 underlying22 zy (i:=0) rfl a4 (W.mono Z) a3 rfl rfl) rfl ?_;rintro b0 a w⟨b2,a0,hS,a5⟩E;refine qA E rfl λa E=>ag (bK ?_);obtain rfl:=oi h
 try dsimp only
 refine f1 E ?_;exact⟨_,(j6 Z a0),(hS.pickT 1 [0] rfl rfl rfl),a5⟩}
theorem Vb:Ctr Sz prog 92 [.rd (.sl (.st 32))] [.ap (.st 32)] (λx=>d5 x.1):=by intro W0 m w L TL vs x r Lp Tp hS Z h;obtain⟨v0,vs,rfl,a0,J⟩:=cT Z;obtain⟨rfl,rfl,rfl⟩:=eT J;refine rm (rj (hS:=hS) a0 h) λv w' W=>?_;obtain⟨m',hm,Z',r0⟩:=W;exact⟨m',[v],[],[],[(4,v)],hm,Z',rfl,⟨r0,rfl,trivial⟩,trivial⟩
def Np:=mC Vb call92
theorem uI{J:Nat}{W:List Value}(hS:S W0 m w ((J,W)::L) (TL)){p0}(a0:GS kAp m J W v0 p0){p1}(Z:Fn2 prog kAp kAp (aj .i64) m v1 p1){r}(h:ll p0 p1=some r):Calls prog 148 #[v0,v1] w (Ret λv w'=>∃m',M.le m m'/\∃q0_:List Value,S W0 m' w' ((J,q0_)::L) (TL)/\GS kAp m' J q0_ v0 r):=HW (ρ:=AT) OY isAgg32 sizeOf32 rfl hS a0 Z h
theorem SE:Ctr Sz prog 173 [.rd (.int .i64)] [.rd .bool] (λx=>mc x.1):=ncR [] [2] func173 ntmps173 .o λx=>by kernel_rfl
def SF:=mC SE call173
theorem SG:Ctr Sz prog 127 [.rd (.int .i64),.rd (.int .i64)] [.rd (.int .i64)] (λx=>iZ x.1 x.2.1):=ncR [SF] [4] func127 ntmps127 .o λx=>by kernel_rfl
def KR:=mC SG call127
theorem SH:Ctr Sz prog 180 [.rd (.int .i64)] [.rd .bool] (λx=>kp x.1):=ncR [] [2] func180 ntmps180 .o λx=>by kernel_rfl
def SI:=mC SH call180
theorem SJ:Ctr Sz prog 155 [.rd (.int .i64),.rd (.int .i64)] [.rd (.int .i64)] (λx=>jh x.1 x.2.1):=ncR [SI] [4] func155 ntmps155 .o λx=>by kernel_rfl
def SK:=mC SJ call155
theorem uJ (hS:S W0 m w L TL){p0}(W:∀n∈p0,0<=n/\n<256)(a0:p0.length<=cz){p1}(J:∀n∈p1,0<=n/\n<256)(Z:p1.length<=cz){r}(h:eR p0 p1=some r):Calls prog 181 #[(.string (bts p0)),(.string (bts p1))] w (Ret λv w'=>∃m',M.le m m'/\S W0 m' w' L TL/\RV (aj .i64) m' v r):=by
 refine kc func181 ntmps181 λa E=>?_;have E:Env 8 a [(0,(.string (bts p0))),(1,(.string (bts p1)))]:=E;unfold eR at h;refine ab (ak (qA E rfl λa E=>ag (ab (ak (qM E rfl λa E=>qM E rfl λa E=>sp E (Jf E func194 (by kernel_rfl) (by kernel_rfl) (by kernel_rfl) (by kernel_rfl) rfl W J) rfl λa E=>qA E rfl λa E=>?_)))));refine ag (bK ?_);obtain rfl:=oi h;try dsimp only
 refine f1 E ?_;exact⟨_,(Z0 _),hS,(ax (Lb _ _))⟩
theorem SL:Ctr Sz prog 181 [.rd .str,.rd .str] [.rd (.int .i64)] (λx=>eR x.1 x.2.1):=by intro W0 m w L TL vs x r Lp Tp hS hP h;obtain⟨v0,vs,rfl,a0,J⟩:=cT hP;obtain⟨rfl,Z,l0⟩:=EX a0;obtain⟨v1,vs,rfl,a1,a2⟩:=cT J;obtain⟨rfl,n1,l1⟩:=EX a1;obtain⟨rfl,rfl,rfl⟩:=eT a2;refine rm (uJ (hS:=hS) Z l0 n1 l1 h) λv w' W=>?_;obtain⟨m',hm,Z',r0⟩:=W;exact⟨m',[v],[],[],[],hm,Z',rfl,⟨r0,trivial⟩,trivial⟩
def SM:=mC SL call181
theorem SN:Ctr Sz prog 156 [.rd .str,.rd .str] [.rd (.int .i64)] (λx=>mX x.1 x.2.1):=ncR [SM] [4] func156 ntmps156 .o λx=>by kernel_rfl
def SO:=mC SN call156
theorem KS:Ctr Sz prog 109 [.rd (.st 32),.rd (.st 32)] [.rd (.int .i64)] (λx=>cy x.1 x.2.1):=ncR [KR,SK,SO] [4] func109 ntmps109 .o λx=>by kernel_rfl
def KT:=mC KS call109
theorem CE (hS:S W0 m w L TL){p0}(a0:RV kAp m v0 p0){p1}(a2:RV kAp m v1 p1){r}(h:cy p0 p1=some r):Calls prog 109 #[v0,v1] w (Ret λv w'=>∃m',M.le m m'/\S W0 m' w' L TL/\RV (aj .i64) m' v r):=by refine rm (KS W0 m w L TL [v0,v1] (p0,p1,()) r [] [] hS ⟨a0,⟨a2,trivial⟩⟩ h) λv w' Z=>?_;obtain⟨m',us,Lr,Lq,Tr,hm,Z',rfl,hR,hO⟩:=Z;obtain⟨u0,us,rfl,r0,J⟩:=cN hR;obtain⟨rfl,rfl,rfl⟩:=cH J;have W:=cO hO;have a1:=cO W;obtain rfl:=dC a1;exact⟨m',hm,Z',r0⟩
theorem SP:Ctr Sz prog 150 [.rd (.sl (.st 32)),.rd (.st 32)] [.rd (.int .i64)] (λx=>kq x.1 x.2.1):=ncR [] [4] func150 ntmps150 (.s .o (.s (.s .o (.b (.l ⟨[.v 8 1 (.dat (.int .i64) none)],[0,3,7],1,[]⟩ .o))) .o)) λx=>by kernel_rfl
def SQ:=mC SP call150
theorem SR:Ctr Sz prog 151 [.rd (.sl (.int .u64)),.rd (.int .i64)] [.rd (.sl (.int .u8))] (λx=>md x.1 x.2.1):=ncR [] [4] func151 ntmps151 (.s .o (.s .o (.s (.s .o (.b (.l ⟨[.v 19 1 (.dat (.int .i64) none),.a 0 1 (.int .u8) none],[1,5,17,18],1,[]⟩ (.s .o (.s .o (.s (.b (.s .o (.s .o (.b (.l ⟨[.v 25 2 (.dat (.int .i64) none),.a 0 2 (.int .u8) none],[1,5,6,7,17,18,19,24],1,[]⟩ .o))))) .o)))))) .o))) λx=>by kernel_rfl
def KU:=mC SR call151
theorem uF  {W:Nat}{a3:List Value}(hS:S W0 m w ((W,a3)::L) (TL)){p0}(a2:GS kAp m W a3 v0 p0){r}(h:eE p0=some r):Calls prog 149 #[v0] w (Ret λv w'=>∃m',M.le m m'/\∃bq_:Nat,∃cq_:List Value,S W0 m' w' ((bq_,cq_)::L) (TL)/\GS kAp m' bq_ cq_ v r):=by
 refine kc func149 ntmps149 λa E=>?_;have E:Env 61 a [(0,v0)]:=E;unfold eE at h;refine ab (ak (qA E rfl λa E=>ag (ab (ab (ak (qM E rfl λa E=>sp E (tS (k:=kAp) E rfl rfl underlying22 a2) rfl λa E=>qB E rfl rfl cu λa E=>?_))))));refine ag (kif E rfl (λd2=>?_) (λd2=>?_));{
 have h:=aH d2 h;refine ab (ak (qM E rfl λa E=>qA E rfl λa E=>ag (bK ?_)));obtain rfl:=oi h
 try dsimp only
 refine f1 E ?_;exact⟨_,(Z0 _),W,a3,((hS.void 0).pickL 2 [1] rfl rfl rfl),a2⟩};{
 have h:=aI d2 h;refine a7 (ab (ab (ak (qA E rfl λa E=>ag ?_))));refine cA (λa w=>gl p0=some r/\∃m',M.le m m'/\S W0 m' w ((0,[])::(W,a3)::L) (TL)/\Env 61 a [(0,v0)]) ?_ ?_
 {
 refine bj ?_;refine fN h (λ(s:Int)a w=>∃m',M.le m m'/\inR .i64 s/\S W0 m' w ((0,[])::(W,a3)::L) (TL)/\Env 61 a [(0,v0),(3,.int .i64 s)]) ?_ ?_
 {exact⟨_,(Z0 _),(show inR .i64 1 from az (by decide)),(hS.void 0),kut E⟩}
 {
 rintro a0 a w⟨e9,a1,d1,hS,E⟩r18 h hb19;have h:gq p0 a0=some r18:=h;unfold gq at h;refine ab (ab (ak (qM E rfl λa E=>qM E rfl λa E=>sp E (tS (k:=kAp) E rfl rfl underlying22 (a2.mono a1)) rfl λa E=>qB E rfl rfl cu λa E=>ag (kif E rfl (λc1=>?_) (λc1=>?_)))))
 {
 have h:=aH c1 h;refine a7 (ab ?_);refine cA (λa w=>gm a0=some r18/\∃m',M.le e9 m'/\S W0 m' w ((0,[])::(W,a3)::L) (TL)/\Env 61 a [(0,v0),(3,.int .i64 a0)]) ?_ ?_
 {
 refine bj (ab ?_);obtain⟨l3,k6,g9,m5,h⟩:=ob2 h;obtain⟨h3,n0,n2,i0,h⟩:=ob2 h
 refine kch (k:=9) (m:=e9) (es:=[]) (Φ:=(λi m ws v=>match i with|0=>v=v0|1=>ei .i64 a0 v|2=>v=(.pointer (some ⟨W,l3*4,none⟩))|3=>RV kAp m v g9|4=>v=v0|5=>ei .i64 a0 v|6=>ei .i64 (Z1.wrap (a0-1)) v|7=>v=(.pointer (some ⟨W,h3*4,none⟩))|8=>RV kAp m v n2|_=>True)) (Q:=(λc m ws L' c2=>match c with|0=>(0,[])::(W,a3)::L=L'/\TL=c2|_=>False)) (cs:=[jc [(0,v0)],jc [(3,.int .i64 a0)],jc [],jc [],jc [(0,v0)],jc [(3,.int .i64 a0)],jc [],jc [],jc []]) mixed E hS ⟨rfl,rfl⟩ rfl rfl (by kernel_rfl) ?_ ?_ ?_ ?_
 {
 intro i m_ c5 ws v n_ q_
 iterate 9 (rcases i with _|i;first|exact q_|exact RV.mono q_ n_)
 exact trivial}
 {
 intro c m_ c5 ws L_ T_ n_ a5
 match c,a5 with
 |0,⟨e3,e0⟩=>exact⟨e3,e0⟩|_+1,a5=>exact a5.elim}
 {
 refine⟨?_,?_,?_,?_,?_,?_,?_,?_,?_,trivial⟩
 {exact cmv λ_ _=>rfl}
 {exact cmv λ_ _=>⟨rfl,d1⟩}
 {refine cp1 λ_ _ _ _ _ M' Q' J Z T'=>?_;obtain⟨rfl,rfl⟩:=Q';have E:=(Z.add (T' 0)).add (T' 1).1;exact cq (lF (k:=kAp) E rfl rfl underlying22 sizeOf32 (a2.mono (j6 a1 M')) k6 rfl) J rfl}
 {refine cp1 λ_ _ _ _ _ M' Q' J Z T'=>?_;obtain⟨rfl,rfl⟩:=Q';have E:=Z.add (T' 2);exact cr (aM E J iA rfl (i:=1) rfl (GS.elem (a2.mono (j6 a1 M')) m5)) J λ_ h=>h}
 {exact cmv λ_ _=>rfl}
 {exact cmv λ_ _=>⟨rfl,d1⟩}
 {refine cp0 λ_ _ _ _ _ _ _ _ _ J Z T'=>?_;have E:=Z.add (T' 5).1;exact cq (bg E rfl rfl (kf rfl)) J ⟨rfl,(aG _ _)⟩}
 {refine cp1 λ_ _ _ _ _ M' Q' J Z T'=>?_;obtain⟨rfl,rfl⟩:=Q';have E:=(Z.add (T' 4)).add (T' 6).1;exact cq (lF (k:=kAp) E rfl rfl underlying22 sizeOf32 (a2.mono (j6 a1 M')) n0 rfl) J rfl}
 {refine cp1 λ_ _ _ _ _ M' Q' J Z T'=>?_;obtain⟨rfl,rfl⟩:=Q';have E:=Z.add (T' 7);exact cr (aM E J iA rfl (i:=1) rfl (GS.elem (a2.mono (j6 a1 M')) i0)) J λ_ h=>h}}
 {
 intro g7 L_ T_ e6 a w j2 b7 f5 hS l1 j3 g3 e8;obtain rfl:=eS j2;obtain⟨rfl,rfl⟩:=f5;have E:=eof 9 [(0,v0),(3,.int .i64 a0),(10,.int .i64 a0),(11,v0),(12,.int .i64 (p0.length:Int)),(13,.bool (decide (a0<(p0.length:Int))))] l1 j3 g3;obtain⟨o0,E,k7⟩:=adv E (e8 3);obtain⟨q4,E,h1⟩:=adv E (e8 8);refine sp E (yz E Gw rfl rfl k7 h1 rfl) rfl λa E=>ag (kif E rfl (λc4=>?_) (λc4=>?_))
 {
 have h:=aH c4 h;refine ab (ak (qM E rfl λa E=>qM E rfl λa E=>?_));obtain⟨d0,j5,h⟩:=ob h;refine st E (wY (k:=kAp) E rfl underlying22 sizeOf32 (a2.mono (j6 a1 b7)) ⟨_,rfl⟩ rfl j5 (sz:=4) rfl (xl:=(some (.tmp 27))) (xh:=none)) rfl ?_;rintro a4 a _⟨rfl,b4⟩E;refine qA E rfl λa E=>ag (ab (ab (ak (qA E rfl λa E=>ag ?_))));refine cA (λa w=>∃b6:Int,∃c7:(List Ap),gn b6 c7=some r18/\∃m',M.le e6 m'/\∃(c6:List Value),inR .i64 b6/\GS kAp m' W c6 v0 c7/\S W0 m' w ((0,[])::(W,c6)::L) (TL)/\Env 61 a [(0,v0),(3,.int .i64 b6)]) ?_ ?_
 {
 refine bj ?_;refine fN h (λ(s:Int×Int×List Ap)a w=>∃m',M.le e6 m'/\∃(a9:List Value),inR .i64 s.1/\inR .i64 s.2.1/\GS kAp m' W a9 v0 s.2.2/\S W0 m' w ((0,[])::(W,a9)::L) (TL)/\Env 61 a [(0,v0),(3,.int .i64 s.1),(4,a4),(5,.int .i64 s.2.1)]) ?_ ?_
 {exact⟨_,(Z0 _),a3,d1,(show inR .i64 1 from az (by decide)),(a2.mono (j6 a1 b7)),hS,kut E⟩}
 {
 rintro⟨b2,x128,c0⟩a w⟨i1,f4,a9,e5,f0,a6,hS,E⟩r133 h hb134;have h:gp d0 b2 x128 c0=some r133:=h;unfold gp at h;refine ab (ab (ak (qM E rfl λa E=>qM E rfl λa E=>?_)));obtain⟨o3,q0,h⟩:=ob h;refine sp E (Pn (sz:=4) E rfl rfl underlying22 b4) rfl λa E=>qB E rfl rfl cu λa E=>ag (kif E rfl (λc3=>?_) (λc3=>?_))
 {
 have h:=aH c3 h;refine a7 (ab (bj (ab ?_)));obtain⟨g1,g2,j0,m4,h⟩:=ob2 h;obtain⟨k3,m1,h2,k4,h⟩:=ob2 h
 refine kch (k:=9) (m:=i1) (es:=[]) (Φ:=(λi m ws v=>match i with|0=>v=a4|1=>ei .i64 x128 v|2=>v=(.pointer (some ⟨W,g1*4,none⟩))|3=>RV kAp m v j0|4=>v=a4|5=>ei .i64 x128 v|6=>ei .i64 (Z1.wrap (x128-1)) v|7=>v=(.pointer (some ⟨W,k3*4,none⟩))|8=>RV kAp m v h2|_=>True)) (Q:=(λc m ws L' c2=>match c with|0=>(0,[])::(W,a9)::L=L'/\TL=c2|_=>False)) (cs:=[jc [(4,a4)],jc [(5,.int .i64 x128)],jc [],jc [],jc [(4,a4)],jc [(5,.int .i64 x128)],jc [],jc [],jc []]) mixed E hS ⟨rfl,rfl⟩ rfl rfl (by kernel_rfl) ?_ ?_ ?_ ?_
 {
 intro i m_ c5 ws v n_ q_
 iterate 9 (rcases i with _|i;first|exact q_|exact RV.mono q_ n_)
 exact trivial}
 {
 intro c m_ c5 ws L_ T_ n_ a5
 match c,a5 with
 |0,⟨e3,e0⟩=>exact⟨e3,e0⟩|_+1,a5=>exact a5.elim}
 {
 refine⟨?_,?_,?_,?_,?_,?_,?_,?_,?_,trivial⟩
 {exact cmv λ_ _=>rfl}
 {exact cmv λ_ _=>⟨rfl,f0⟩}
 {refine cp0 λ_ _ _ _ _ _ _ _ _ J Z T'=>?_;have E:=(Z.add (T' 0)).add (T' 1).1;exact cq (AZ (sz:=4) E rfl rfl underlying22 sizeOf32 b4 g2) J rfl}
 {refine cp1 λ_ _ _ _ _ M' Q' J Z T'=>?_;obtain⟨rfl,rfl⟩:=Q';have E:=Z.add (T' 2);exact cr (aM E J iA rfl (i:=1) rfl (GS.elem (a6.mono M') m4)) J λ_ h=>h}
 {exact cmv λ_ _=>rfl}
 {exact cmv λ_ _=>⟨rfl,f0⟩}
 {refine cp0 λ_ _ _ _ _ _ _ _ _ J Z T'=>?_;have E:=Z.add (T' 5).1;exact cq (bg E rfl rfl (kf rfl)) J ⟨rfl,(aG _ _)⟩}
 {refine cp0 λ_ _ _ _ _ _ _ _ _ J Z T'=>?_;have E:=(Z.add (T' 4)).add (T' 6).1;exact cq (AZ (sz:=4) E rfl rfl underlying22 sizeOf32 b4 m1) J rfl}
 {refine cp1 λ_ _ _ _ _ M' Q' J Z T'=>?_;obtain⟨rfl,rfl⟩:=Q';have E:=Z.add (T' 7);exact cr (aM E J iA rfl (i:=1) rfl (GS.elem (a6.mono M') k4)) J λ_ h=>h}}
 {
 intro g7 L_ T_ m8 a w j4 b1 h6 hS n1 f6 g0 e7;obtain rfl:=eS j4;obtain⟨rfl,rfl⟩:=h6;have E:=eof 9 [(0,v0),(3,.int .i64 b2),(4,a4),(5,.int .i64 x128),(29,.int .i64 x128),(30,a4),(31,.int .i64 (d0.2:Int)),(32,.bool (decide (x128<(d0.2:Int))))] n1 f6 g0;obtain⟨q2,E,i5⟩:=adv E (e7 3);obtain⟨p3,E,h4⟩:=adv E (e7 8);refine sp E (E1 E Gw rfl rfl i5 h4 rfl) rfl λa E=>ag ?_
 refine cA (λa w=>∃b0:Int,∃b5:(List Ap),dI x128 b0 b5=some r133/\∃m',M.le m8 m'/\∃(b3:List Value),inR .i64 b0/\GS kAp m' W b3 v0 b5/\S W0 m' w ((0,[])::(W,b3)::L) (TL)/\Env 61 a [(0,v0),(3,.int .i64 b0),(4,a4),(5,.int .i64 x128)]) ?_ ?_
 {
 refine kif E rfl (λe1=>?_) (λe1=>?_)
 {
 have h:=aH e1 h;refine ab (ak (qM E rfl λa E=>qM E rfl λa E=>qM E rfl λa E=>qM E rfl λa E=>?_));obtain⟨p5,h9,h⟩:=ob h;refine sp E (AZ (sz:=4) E rfl rfl underlying22 sizeOf32 b4 h9) rfl λa E=>?_;obtain⟨l4,g8,h⟩:=ob h;refine st E (aM E hS iA rfl (i:=1) rfl (GS.elem (a6.mono b1) g8)) rfl ?_;rintro n6 a _⟨rfl,m7⟩E;obtain⟨g4,h0,h⟩:=ob h;refine sp E (lF (k:=kAp) E rfl rfl underlying22 sizeOf32 (a6.mono b1) h0 rfl) rfl λa E=>?_;obtain⟨q1,g6,h⟩:=ob h
 refine st0 E (sC (k:=kAp) E hS iA bT (a6.mono b1) g6 rfl rfl m7 (i:=1) rfl) ?_;rintro _ w⟨g5,h5,hS⟩E;refine ag (ak (qM E rfl λa E=>qB E rfl rfl (cp rfl) λa E=>qA E rfl λa E=>ag ?_));exact⟨(Z1.wrap (b2+1)),(c0.set g4 l4),h,_,(Z0 _),g5,(aG _ _),h5,hS,kut E⟩}
 {have h:=aI e1 h;refine a7 ?_;exact⟨b2,c0,h,_,(Z0 _),a9,e5,(a6.mono b1),hS,kut E⟩}}
 {rintro a w⟨b0,b5,h,n3,h7,b3,i8,i4,hS,E⟩;unfold dI at h;refine ak (qM E rfl λa E=>qB E rfl rfl (cp rfl) λa E=>qA E rfl λa E=>ag ?_);exact⟨(b0,Z1.wrap (x128+1),b5),(Option.some.inj h).symm,_,(j6 f4 (j6 b1 h7)),b3,i8,(aG _ _),i4,hS,kut E⟩}}}
 {have h:=aI c3 h;refine fe rfl rfl ?_;have h:=cg h hb134;exact⟨b2,c0,h,_,f4,a9,e5,a6,hS,kut E⟩}}}
 {
 rintro a w⟨b6,c7,h,n4,j1,c6,p7,f3,hS,E⟩;unfold gn at h;refine ab (ak (qM E rfl λa E=>qM E rfl λa E=>?_));obtain⟨p8,m6,h⟩:=ob h;refine st E (wY (k:=kAp) E rfl underlying22 sizeOf32 f3 ⟨_,rfl⟩ rfl m6 (sz:=4) rfl (xl:=(some (.tmp 55))) (xh:=none)) rfl ?_;rintro p4 a _⟨rfl,k0⟩E;obtain⟨p6,h8,h⟩:=ob h;refine st0 E (Jb (k:=kAp) E hS rfl rfl underlying22 zeroValue32 (λm=>xY m) (i:=1) rfl f3 k0 h8) ?_;rintro _ w⟨m2,k5,hS⟩E;refine ag (ab (ak (qM E rfl λa E=>qM E rfl λa E=>?_)));obtain⟨q3,l2,h⟩:=ob h
 refine st E (Ja (k:=kAp) E rfl underlying22 sizeOf32 k5 rfl l2) rfl ?_;rintro o2 a _⟨rfl,i3⟩E;refine qA E rfl λa E=>ag (bK ?_);have h:=cg h hb19;obtain rfl:=oi h
 try dsimp only
 refine f1 E ?_;exact⟨_,(j6 a1 (j6 b7 j1)),W,m2,(hS.pickL 2 [1] rfl rfl rfl),i3⟩}}
 {have h:=aI c4 h;refine a7 ?_;exact⟨h,_,b7,hS,kut E⟩}}}
 {rintro a w⟨h,o1,i2,hS,E⟩;unfold gm at h;refine ak (qM E rfl λa E=>qB E rfl rfl (cp rfl) λa E=>qA E rfl λa E=>ag ?_);exact⟨Z1.wrap (a0+1),(Option.some.inj h).symm,_,(j6 a1 i2),(aG _ _),hS,kut E⟩}}
 {have h:=aI c1 h;refine fe rfl rfl ?_;have h:=cg h hb19;exact⟨h,_,a1,hS,kut E⟩}}}
 {
 rintro a w⟨h,m9,e4,hS,E⟩;unfold gl at h;refine ab (ak (qM E rfl λa E=>qA E rfl λa E=>ag (bK ?_)));obtain rfl:=oi h
 try dsimp only
 refine f1 E ?_;exact⟨_,e4,W,a3,(hS.pickL 2 [1] rfl rfl rfl),(a2.mono e4)⟩}}
theorem vU (hS:S W0 m w L TL){p0}(W:RV (kSl kAp) m v0 p0){r}(h:jm p0=some r):Calls prog 92 #[v0] w (Ret λv w'=>∃m',M.le m m'/\∃bq_:Nat,∃cq_:List Value,S W0 m' w' ((bq_,cq_)::L) (TL)/\GS kAp m' bq_ cq_ v r):=by
 refine kc func92 ntmps92 λa E=>?_;have E:Env 8 a [(0,v0)]:=E;unfold jm at h;refine ab (ak (qA E rfl λa E=>ag (ab (ab (ak (qM E rfl λa E=>?_))))));refine st E (w7 (k:=kAp) E rfl rfl W underlying22) rfl ?_;rintro v5 a _⟨rfl,b0,rfl,a0⟩E;refine ag (kif E rfl (λJ=>?_) (λJ=>?_));{
 have Z:=a0 J;have h:some ([]:List Ap)=some r:=by rw[Z]at h;exact h
 refine ab (ak (qA E rfl λa E=>ag (bK ?_)));obtain rfl:=oi h
 try dsimp only
 refine f1 E ?_;exact⟨_,(Z0 _),0,[],(((hS.void 0).void 0).pickL 2 [0] rfl rfl rfl),GS.void⟩};{
 refine a7 (ab (ak ?_));refine st E (He (k:=kAp) (m:=m) (xs:=[]) (vs:=[]) E (hS.void 0) rfl underlying22 sizeOf32 zeroValue32 trivial rfl (by decide)) rfl ?_;rintro a9 a w⟨b3,b1,a1,hS⟩E;refine qM E rfl λa E=>?_;obtain⟨a6,a2,h⟩:=ob h;refine st E (zP (k:=kAp) (N:=3518437208883) E hS rfl rfl underlying22 zy (i:=0) rfl a1 (yC hS underlying22 W) a2 rfl rfl) rfl ?_;rintro b2 a w⟨a5,a4,a3,hS⟩E;refine qA E rfl λa E=>ag (bK ?_);obtain rfl:=oi h
 try dsimp only
 refine f1 E ?_;exact⟨_,(Z0 _),a5,a4,(hS.pickL 2 [0] rfl rfl rfl),a3⟩}
theorem GH{m0:M}:Fn2 prog kAp kAp (aj .i64) m0 (.func (.func 109) #[] #[]) cy:=by refine⟨109,_,rfl,call109,?_⟩;intro W0 m w L TL v0 v1 x0 x1 r hm hS h0 h hr;refine(CE (hS:=hS) h0 h hr).mono ?_;intro e w' J;cases e with
 |returned v=>obtain⟨m',h,W,Z⟩:=J;exact⟨m',h,W,Z⟩|panicked ch=>exact J.elim|outgrown=>exact J.elim
theorem Et (hS:S W0 m w L TL){p0}(J:RV (kSl kAp) m v0 p0){r}(h:mB p0=some r):Calls prog 105 #[v0] w (Ret λv w'=>∃m',M.le m m'/\S W0 m' w' L ((1,v)::TL)/\RV (kSl (aj .u8)) m' v r):=by
 refine kc func105 ntmps105 λa E=>?_;have E:Env 54 a [(0,v0)]:=E;unfold mB at h;refine ab (ak (qA E rfl λa E=>ag (ab (ak (qM E rfl λa E=>?_)))));obtain⟨r3,b2,h⟩:=ob h;refine st E (aT (vs:=[v0]) E rfl call92 (vU (hS:=hS) J b2)) rfl ?_;rintro W a w⟨m5,a0,b7,b6,hS,a9⟩E;refine qA E rfl λa E=>ag (ab (ak (qM E rfl λa E=>?_)));obtain⟨c5,b1,h⟩:=ob h;refine st E (aT (vs:=[W,(.func (.func 109) #[] #[])]) E rfl call148 (uI (hS:=hS) a9 (GH (m0:=m5)) b1)) rfl ?_;rintro c6 a w⟨c4,a2,b5,hS,a3⟩E;refine ag (ab (ak (qM E rfl λa E=>?_)));obtain⟨a5,a6,h⟩:=ob h;refine st E (aT (vs:=[W]) E rfl call149 (uF (hS:=hS) a3 a6)) rfl ?_;rintro b4 a w⟨c3,Z,c1,c2,hS,b3⟩E;refine qA E rfl λa E=>ag ?_;obtain⟨c0,a1,hS,b0⟩:=S.freeze hS b3;refine wj (G:=Sz) (Γ:=Γ) (D:=[Np,GG,KT,SQ,KU,KN]) (rs:=[.ap (.int .u8)]) (res:=[.tmp 2]) (ps:=[.rd (.sl (.st 32)),.rd (.sl (.st 32))]) (sl:=[0,3]) (vs:=[v0,b4]) (x:=(p0,a5,())) (Lp:=[]) (Tp:=[]) (.s .o (.s (.s .o (.b (.l ⟨[.v 4 1 (.dat (.sl (.int .u8)) (some 0)),.v 22 1 (.dat (.int .i64) none)],[0,3,20,21],0,[1]⟩ .o))) (.s .o (.s (.s .o (.b (.l ⟨[.v 7 1 (.dat (.sl (.int .u64)) (some 1)),.v 33 1 (.dat (.int .i64) none)],[3,4,31,32],0,[1,1]⟩ .o))) .o)))) E hS ⟨J.mono (j6 a0 (j6 a2 (j6 Z a1))),b0,trivial⟩ h (by kernel_rfl) mixed (λv w' m' us Lr Tr q1 q2 q3 q4=>?_);obtain⟨u0,us,Tr,rfl,rfl,r0,a4⟩:=Il q4;obtain⟨rfl,rfl,rfl⟩:=cH a4;subst q3;exact⟨m',(j6 (j6 a0 (j6 a2 (j6 Z a1))) q1),q2,r0⟩
theorem SS:Ctr Sz prog 105 [.rd (.sl (.st 32))] [.ap (.int .u8)] (λx=>mB x.1):=by intro W0 m w L TL vs x r Lp Tp hS Z h;obtain⟨v0,vs,rfl,a0,J⟩:=cT Z;obtain⟨rfl,rfl,rfl⟩:=eT J;refine rm (Et (hS:=hS) a0 h) λv w' W=>?_;obtain⟨m',hm,Z',r0⟩:=W;exact⟨m',[v],[],[],[(1,v)],hm,Z',rfl,⟨r0,rfl,trivial⟩,trivial⟩
def ST:=mC SS call105
theorem SU:Ctr Sz prog 153 [.rd (.sl (.int .i64))] [.rd (.int .i64)] (λx=>lJ x.1):=ncR [] [2] func153 ntmps153 (.s .o (.s .o (.s .o (.s (.s .o (.b (.l ⟨[.v 3 1 (.dat (.int .i64) none),.v 4 1 (.dat (.int .i64) none)],[0],0,[]⟩ .o))) .o)))) λx=>by kernel_rfl
def SV:=mC SU call153
theorem SW:Ctr Sz prog 106 [.rd (.sl (.int .i64))] [.ap (.int .u8)] (λx=>qJ x.1):=ncR [KQ,KU,SV,KM] [2] func106 ntmps106 (.s .o (.s .o (.s .o (.s .o (.s (.s .o (.b (.l ⟨[.v 4 1 (.dat (.sl (.int .u64)) (some 0)),.v 5 1 (.dat (.int .i64) none),.v 13 1 (.dat (.int .i64) none)],[3,11,12],0,[1]⟩ .o))) .o))))) λx=>by kernel_rfl
def SX:=mC SW call106
theorem SY{m0:M}:Fn1 prog kAp cS m0 (.func (.func 100) #[] #[]) fq:=by refine⟨100,_,rfl,call100,?_⟩;intro W0 m w L TL v0 x0 r hm hS h0 hr;refine(Aw (hS:=hS) h0 hr).mono ?_;intro e w' h;cases e with
 |returned v=>obtain⟨m',Z,J,W⟩:=h;exact⟨m',Z,J,W⟩|panicked ch=>exact h.elim|outgrown=>exact h.elim
theorem CF (hS:S W0 m w L TL){p0}(a5:inR .i64 p0){p1}(a3:RV (kSl kAp) m v1 p1){r}(h:fO p0 p1=some r):Calls prog 47 #[(.int .i64 p0),v1] w (Ret λv w'=>∃m',M.le m m'/\S W0 m' w' L TL/\∃v0_ v1_:Value,v=.tuple #[v0_,v1_]/\RV (kSl (aj .u8)) m' v0_ r.1/\RV (aj .i64) m' v1_ r.2):=by
 refine kc func47 ntmps47 λa E=>?_;have E:Env 69 a [(0,.int .i64 p0),(1,v1)]:=E;unfold fO at h;refine ab (ak (qA E rfl λa E=>qA E rfl λa E=>ag (ab (ab ?_))));refine cA (λa w=>∃W:Bool,ir p0 p1 W=some r/\∃m',M.le m m'/\S W0 m' w L TL/\Env 69 a [(0,.int .i64 p0),(1,v1),(16,.bool W)]) ?_ ?_;{
 refine ak (qM E rfl λa E=>qB E rfl rfl cu λa E=>qM E rfl λa E=>?_);rcases zx (decide (p0<0))with hd174|hd174
 {have h:=aH hd174 h;refine qX E hd174 λa E=>qX E hd174 λa E=>qT E hd174 rfl λa E=>ag ?_;exact⟨true,h,_,(Z0 _),hS,kut E⟩}
 {have h:=aI hd174 h;refine qG E hd174 rfl λa E=>spg E rfl rfl rfl rfl hd174 (bg E rfl rfl lC) rfl λa E=>qF E hd174 rfl λa E=>ag ?_;exact⟨(decide (4<p0)),h,_,(Z0 _),hS,kut E⟩}};{
 rintro a w⟨W,h,m3,J,hS,E⟩;unfold ir at h;refine kif E rfl (λZ=>?_) (λZ=>?_)
 {
 have h:=aH Z h;refine ab (ak (qA E rfl λa E=>qA E rfl λa E=>ag (bK ?_)));obtain rfl:=oi h
 try dsimp only
 refine f2 E ?_;exact⟨_,J,hS,_,_,rfl,dK,(ax (show inR .i64 62 from az (by decide)))⟩}
 {
 have h:=aI Z h;refine a7 (ab (ab (ak (qM E rfl λa E=>sp E (bq (k:=kAp) E rfl rfl underlying22 (a3.mono J)) rfl λa E=>qB E rfl rfl lC λa E=>ag (kif E rfl (λa1=>?_) (λa1=>?_))))))
 {
 have h:=aH a1 h;refine ab (ak (qA E rfl λa E=>qA E rfl λa E=>ag (bK ?_)));obtain rfl:=oi h
 try dsimp only
 refine f2 E ?_;exact⟨_,J,hS,_,_,rfl,dK,(ax (show inR .i64 61 from az (by decide)))⟩}
 {
 have h:=aI a1 h;refine a7 (ab (ab (ak (qM E rfl λa E=>?_))));obtain⟨b1,a9,h⟩:=ob h;refine st E (aT (vs:=[v1,(.func (.func 100) #[] #[])]) E rfl call99 (sO (hS:=hS) (a3.mono J) (SY (m0:=m3)) a9)) rfl ?_;rintro b3 a w⟨b2,a0,hS,a6⟩E;obtain rfl:=fg a6;refine ag (kif E rfl (λa2=>?_) (λa2=>?_))
 {
 have h:=aH a2 h;refine ab (ak (qA E rfl λa E=>qA E rfl λa E=>ag (bK ?_)));obtain rfl:=oi h
 try dsimp only
 refine f2 E ?_;exact⟨_,(j6 J a0),hS,_,_,rfl,dK,(ax (show inR .i64 60 from az (by decide)))⟩}
 {
 have h:=aI a2 h;refine a7 ?_;refine wj (G:=Sz) (Γ:=Γ) (D:=[Va,Sj,Sl,SA,SD,ST,SX,GG]) (rs:=[.rd (.sl (.int .u8)),.rd (.int .i64)]) (res:=[.tmp 4,.tmp 5]) (ps:=[.rd (.int .i64),.rd (.sl (.st 32))]) (sl:=[0,1]) (vs:=[(.int .i64 p0),v1]) (x:=(p0,p1,())) (Lp:=[]) (Tp:=[]) (.s .o (.s .o (.s .o (.s .o (.s .o (.s (.s .o (.b (.l ⟨[.v 8 1 (.dat (.sl (.int .u8)) (some 0)),.v 59 1 (.dat (.int .i64) none)],[57,58],0,[1]⟩ .o))) .o)))))) E hS ⟨ax a5,a3.mono (j6 J a0),trivial⟩ h (by kernel_rfl) mixed (λv w' m' us Lr Tr q1 q2 q3 q4=>?_);obtain⟨u0,us,rfl,r0,a4⟩:=cN q4
 obtain⟨u1,us,rfl,r1,b0⟩:=cN a4;obtain⟨rfl,rfl,rfl⟩:=cH b0;subst q3;exact⟨m',(j6 (j6 J a0) q1),q2,_,_,rfl,r0,r1⟩}}}}
theorem Vc:Ctr Sz prog 47 [.rd (.int .i64),.rd (.sl (.st 32))] [.rd (.sl (.int .u8)),.rd (.int .i64)] (λx=>fO x.1 x.2.1):=by intro W0 m w L TL vs x r Lp Tp hS hP h;obtain⟨v0,vs,rfl,a0,J⟩:=cT hP;obtain⟨rfl,Z⟩:=aF a0;obtain⟨v1,vs,rfl,a1,a2⟩:=cT J;obtain⟨rfl,rfl,rfl⟩:=eT a2;refine rm (CF (hS:=hS) Z a1 h) λv w' W=>?_;obtain⟨m',hm,Z',u0,u1,rfl,r0,r1⟩:=W;exact⟨m',[u0,u1],[],[],[],hm,Z',rfl,⟨r0,⟨r1,trivial⟩⟩,trivial⟩
def EL:=mC Vc call47
theorem Vd:Ctr Sz prog 62 [.rd (.int .i64),.rd (.sl (.int .u8)),.rd (.int .i64)] [.rd (.sl (.st 32)),.rd (.int .i64)] (λx=>pL x.1 x.2.1 x.2.2.1):=ncR [EL,Nn,Se] [6,7] func62 ntmps62 .o λx=>by kernel_rfl
def Ve:=mC Vd call62
theorem SZ:Ctr Sz prog 108 [.rd (.sl (.st 32)),.f2 (.st 32) (.st 32) (.int .i64)] [.rd (.st 32)] (λx=>gD x.1 x.2.1):=nxR [] [.cell 4 32] func108 ntmps108 (.s .o (.s .o (.s .o (.s (.s .o (.b (.l ⟨[.v 6 1 (.dat (.int .i64) none),.b 1 1 (.st 32)],[0,1,4,5],2,[]⟩ .o))) .o)))) λx=>by kernel_rfl
theorem vV (hS:S W0 m w L TL){p0}(a0:RV (kSl kAp) m v0 p0){p1}(a2:Fn2 prog kAp kAp (aj .i64) m v1 p1){r}(h:gD p0 p1=some r):Calls prog 108 #[v0,v1] w (Ret λv w'=>∃m',M.le m m'/\S W0 m' w' L TL/\RV kAp m' v r):=by refine rm (SZ W0 m w L TL [v0,v1] (p0,p1,()) r [] [] hS ⟨a0,⟨a2,trivial⟩⟩ h) λv w' Z=>?_;obtain⟨m',us,Lr,Lq,Tr,hm,Z',rfl,hR,hO⟩:=Z;obtain⟨u0,us,rfl,r0,J⟩:=cN hR;obtain⟨rfl,rfl,rfl⟩:=cH J;have W:=cO hO;have a1:=BQ W;obtain rfl:=dC a1;exact⟨m',hm,Z',r0⟩
theorem S3:Ctr Sz prog 110 [.rd (.sl (.st 32)),.f2 (.st 32) (.st 32) (.int .i64)] [.rd (.st 32)] (λx=>gE x.1 x.2.1):=nxR [] [.cell 4 32] func110 ntmps110 (.s .o (.s .o (.s .o (.s (.s .o (.b (.l ⟨[.v 6 1 (.dat (.int .i64) none),.b 1 1 (.st 32)],[0,1,4,5],2,[]⟩ .o))) .o)))) λx=>by kernel_rfl
theorem vW (hS:S W0 m w L TL){p0}(a0:RV (kSl kAp) m v0 p0){p1}(a2:Fn2 prog kAp kAp (aj .i64) m v1 p1){r}(h:gE p0 p1=some r):Calls prog 110 #[v0,v1] w (Ret λv w'=>∃m',M.le m m'/\S W0 m' w' L TL/\RV kAp m' v r):=by refine rm (S3 W0 m w L TL [v0,v1] (p0,p1,()) r [] [] hS ⟨a0,⟨a2,trivial⟩⟩ h) λv w' Z=>?_;obtain⟨m',us,Lr,Lq,Tr,hm,Z',rfl,hR,hO⟩:=Z;obtain⟨u0,us,rfl,r0,J⟩:=cN hR;obtain⟨rfl,rfl,rfl⟩:=cH J;have W:=cO hO;have a1:=BQ W;obtain rfl:=dC a1;exact⟨m',hm,Z',r0⟩
theorem vX{m:M}{v:Value}{p0:List Ap}(ha:PR (kSl kAp) m v p0):zR prog (Rv1 kAp) 157 #[v] m p0:=by
 intro σ I step B y m1 w L TL s Ls TLs r mono hle hy J hS hf;refine wU (args:=[y,v]) func157 rfl ntmps157 (Z2 rfl) λa E=>?_;have E:Env 16 a [(0,y),(1,v)]:=E;refine ab (ak ?_);refine st E (aC E hS jw rfl (ha.mono hle)) rfl ?_;rintro v5 a _⟨rfl,a0⟩E;refine sp E (bq (k:=kAp) E rfl rfl underlying22 a0) rfl λa E=>qM E rfl λa E=>ag ?_;have h:=HY (jg a0) hf;refine bj ?_;refine fN h (λ(t:Int×σ)a w=>∃m' Ls' TLs',M.le m1 m'/\inR .i64 t.1/\I m' t.2 Ls' TLs'/\S (B t.2) m' w (Ls'++L) (TLs'++TL)/\Env 16 a [(0,y),(5,v5),(6,.int .i64 (p0.length:Int)),(7,.int .i64 t.1)]) ?_ ?_;{exact⟨m1,Ls,TLs,Z0 _,(show inR .i64 0 from az (by decide)),J,hS,kut E⟩};{
 rintro⟨i,s⟩a w⟨m2,a5,a1,Z,hi,J,hS,E⟩r9 h hb;unfold CO at h;refine ab (ak (qB E rfl rfl cu λa E=>ag (ab (kif E rfl (λW=>?_) (λW=>?_)))))
 {
 have h:=aH W h;refine a7 (ab (bj (ab (ak ?_))));obtain⟨x,hx,h⟩:=ob h;refine st E (be (k:=kAp) E rfl rfl underlying22 sizeOf32 (a0.mono Z) hx) rfl ?_;rintro v9 a _⟨rfl,hp⟩E;refine st E (aC E hS iA rfl hp) rfl ?_;rintro b1 a _⟨rfl,a6⟩E;refine st E (cF hS zeroValue32 rfl (cs:=Do)) rfl ?_;rintro _ a w⟨b4,rfl,hS⟩E;refine st0 E (dq E hS iA bT rfl rfl a6 (i:=0) rfl (xY _)) ?_;rintro _ w⟨cs,hc,hS⟩E;refine ag (ab (ak (qM E rfl λa E=>?_)));refine st E (aM E hS iA rfl (i:=0) rfl (aL hc)) rfl ?_;rintro a9 a _⟨rfl,b0⟩E;obtain⟨q,hq,h⟩:=ob h
 refine st E (hy m2 _ L TL s a5 a1 [a9] x q.1 q.2 J (hS.dropL 1) ⟨_,rfl,b0⟩ hq _ _ _ _ _ _ _ _ _ (E.eval rfl) (gU E rfl)) rfl ?_;rintro _ a w⟨rfl,m3,a2,a4,a3,J,hS⟩E;refine sp E (lD E rfl) rfl λa E=>ag (kif E rfl (λW=>?_) (λW=>?_))
 {have h:=aI (by simpa using W) h;obtain rfl:=oi h;refine bK ?_;have h:=hb _ rfl;subst h;refine Fin.mk E (rs:=[]) rfl tR.nil ?_;exact⟨m3,a2,a4,Z.trans a3,J,hS⟩}
 {have h:=aH (by simpa using W) h;obtain rfl:=oi h;refine a7 (ak (qB E rfl rfl (cp rfl) λa E=>qM E rfl λa E=>ag ?_));exact⟨_,rfl,m3,a2,a4,Z.trans a3,(aG _ _),J,hS,kut E⟩}}
 {have h:=aI W h;obtain rfl:=oi h;have h:=hb _ rfl;subst h;refine fe rfl rfl ?_;dsimp only;refine Fin.mk E (rs:=[]) rfl tR.nil ?_;exact⟨m2,a5,a1,Z,J,hS⟩}}
theorem wL (hS:S W0 m w L TL){p0}(J:RV (kSl kAp) m v0 p0){r}(h:jQ p0=some r):Calls prog 111 #[v0] w (Ret λv w'=>∃m',M.le m m'/\S W0 m' w' L TL/\ItV prog (Rv1 kAp) m' v r):=by refine kc func111 ntmps111 λa E=>?_;have E:Env 4 a [(0,v0)]:=E;unfold jQ at h;obtain rfl:=oi h;refine ab (ak ?_);refine st E (je E hS rfl J) rfl ?_;rintro _ a w⟨b,cs,rfl,Z,hS⟩E;refine qA E rfl λa E=>ag (ab (ak ?_));obtain⟨m1,hm,hS,W⟩:=S.freezeL (k:=(kSl kAp)) hS Z;refine sp E (lE E rfl rfl) rfl λa E=>qA E rfl λa E=>ag (bK ?_);refine f1 E ?_;exact⟨_,hm,hS,157,_,rfl,call157,vX W⟩
theorem GI (hS:S W0 m w L TL){p0}(e6:inR .i64 p0){p1}(W:RV (kSl kAp) m v1 p1){r}(h:lK p0 p1=some r):Calls prog 48 #[(.int .i64 p0),v1] w (Ret λv w'=>∃m',M.le m m'/\S W0 m' w' L TL/\RV c9 m' v r):=by
 refine BB func48 rfl ntmps48 (Z2 rfl) λa E=>?_;have E:Env 26 a [(0,.int .i64 p0),(1,v1)]:=E;unfold lK at h;refine ab (ak ?_);refine st E (cF hS zeroValue34 rfl (cs:=zA)) rfl ?_;rintro _ a w⟨b1,rfl,hS⟩E;refine ag (ab (ak (qM E rfl λa E=>qM E rfl λa E=>sp E (bq (k:=kAp) E rfl rfl underlying22 W) rfl λa E=>qM E rfl λa E=>?_)));obtain⟨r7,f5,h⟩:=ob h;refine st E (aT (vs:=[v1,(.func (.func 109) #[] #[])]) E rfl call108 (vV (hS:=hS) W (GH (m0:=m)) f5)) rfl ?_;rintro g6 a w⟨m9,a2,hS,d0⟩E;refine qM E rfl λa E=>?_;obtain⟨b3,c4,h⟩:=ob h;refine st E (aT (vs:=[v1,(.func (.func 109) #[] #[])]) E rfl call110 (vW (hS:=hS) (W.mono a2) (GH (m0:=m9)) c4)) rfl ?_;rintro e3 a w⟨g4,a9,hS,g8⟩E;refine st E (rq (m:=g4) (k:=c9) (x0:=bw.zero) (xx:=(⟨p0,(p1.length:Int),r7,b3,0,0⟩:bw)) (pl:=[(0,1),(1,1),(2,4),(6,4),(10,1),(11,1)]) (pv:=[(0,.int .i64 p0),(1,.int .i64 (p1.length:Int)),(2,g6),(3,e3)]) E rfl underlying34 rfl zeroValue34 Ds rfl (.cons rfl KA (ax e6) (.cons rfl KB (ax (eD (jg W))) (.cons rfl KC (d0.mono a9) (.cons rfl KD g8 .nil))))) rfl ?_;rintro j4 a _⟨rfl,d1⟩E;refine st E (cF hS zeroValue34 rfl (cs:=zA)) rfl ?_;rintro _ a w⟨Z,rfl,hS⟩E;refine st0 E (dq E hS Dt bT rfl rfl d1 (i:=0) rfl (Ds _)) ?_;rintro _ w⟨b7,e9,hS⟩E;refine ag (ab (ab (ak (qM E rfl λa E=>?_))));obtain⟨h1,e5,h⟩:=ob h;refine st E (aT (vs:=[v1]) E rfl call111 (wL (hS:=hS) (W.mono (j6 a2 a9)) e5)) rfl ?_;rintro h6 a w⟨c2,b4,hS,d2⟩E;refine ag (bj ?_);obtain⟨a6,f6,h⟩:=ob h;refine zT (Rv:=(Rv1 kAp)) (λ(s:bw) (x:Ap)=>fP s x) (λ_=>.ret) [] (λ(m':M) (s:bw) (a5:Mem) (a3:Tls)=>∃(J:List Value),M.le c2 m'/\c9.R m' J s/\a5=[(Z,J),(b1,zA)]/\a3=[]) (Ls:=[(Z,b7),(b1,zA)]) (TLs:=[]) (s0:=(⟨p0,(p1.length:Int),r7,b3,0,0⟩:bw)) (sf:=a6.1) (bf:=a6.2) E hS rfl d2 (by decide) (λ_ _ _ h=>zS h) (by rintro j1 h9 s_ a_ b_ n_⟨J,g5,e8,f0,e7⟩;exact⟨J,g5.trans n_,c9.mono n_ e8,f0,e7⟩) ⟨b7,Z0 _,(c9.mono b4 e9),rfl,rfl⟩ f6 ?_ ?_;{
 intro h4 i5 W0 j2 w L TL s_ a5 a3 i1 g9 g7 g3 a i0 h8 a0 hS c0 h E g0;obtain⟨x36,rfl⟩:∃x,x=s_:=⟨_,rfl⟩
 obtain⟨J,b5,a4,rfl,rfl⟩:=a0;have h:fP x36 g9=some (g7,g3):=h;unfold fP at h;obtain⟨h3,rfl,c6⟩:=c0;refine ak ?_;refine st E (cF hS zeroValue32 rfl (cs:=Do)) rfl ?_;rintro _ a w⟨h7,rfl,hS⟩E;refine st0 E (dq E hS iA bT rfl rfl c6 (i:=0) rfl (xY _)) ?_;rintro _ w⟨j0,c3,hS⟩E;refine ag ?_;obtain⟨c7,hS⟩:=g0 _ _ _ _ hS;refine⟨c7,?_⟩;refine bj (ab (ak (sp E (aK E CA rfl) rfl λa E=>?_)));refine st E (aM E hS ty3 rfl (i:=0) rfl (Kz.R_drop (aL c3))) rfl ?_;rintro h5 a _⟨rfl,c5⟩E;obtain⟨rfl,i2⟩:=aF c5
 refine qB E rfl rfl mR λa E=>ag (kif E rfl (λa1=>?_) (λa1=>?_))
 {
 have h:=aH a1 h;refine ak (sp E (aK E Gx rfl) rfl λa E=>?_);refine st E (aM E hS ty3 rfl (i:=1) rfl (Qm.R_drop (aL a4))) rfl ?_;rintro j3 a _⟨rfl,e0⟩E;obtain⟨rfl,h2⟩:=aF e0;refine qB E rfl rfl (cp rfl) λa E=>sp E (aK E Gx rfl) rfl λa E=>?_;refine st0 E (dq E hS ty3 KE rfl rfl (ax (aG _ _)) (i:=1) rfl a4) ?_;rintro _ w⟨b2,g1,hS⟩E;refine ag ?_;cases h
 try dsimp only
 exact⟨rfl,_,[(Z,b2),(b1,zA)],[],(Z0 _),⟨b2,b5,g1,rfl,rfl⟩,(hS.pickL 3 [1,2] rfl rfl rfl)⟩}
 {
 have h:=aI a1 h;refine a7 ?_;cases h
 try dsimp only
 exact⟨rfl,_,[(Z,J),(b1,zA)],[],(Z0 _),⟨J,b5,a4,rfl,rfl⟩,(hS.pickL 3 [1,2] rfl rfl rfl)⟩}};{
 intro e1 i4 w a a5 a3 e4 E a0 hS f3 f4;obtain⟨h0,_,c1,rfl,rfl⟩:=a0;obtain⟨W0,b6⟩:∃W9,W9=W0.put e1 (.deferred (some [])):=⟨_,rfl⟩
 rw[←b6]at hS;rcases zx a6.2 with hb75|hb75
 {
 have h:=aH hb75 h;rw[if_pos hb75];refine ab (ak ?_);refine st E (aM E hS Dt rfl (i:=0) rfl (aL c1)) rfl ?_;rintro i8 a _⟨rfl,g2⟩E;refine st0 E (dq E hS Dt bT rfl rfl g2 (i:=1) rfl (Ds _)) ?_;rintro _ w⟨i3,b0,hS⟩E;refine ag (bK ?_);obtain rfl:=oi h
 try dsimp only
 have hS:=hS;rw[b6]at hS;refine Fc.shut E hS f3 f4 λa w hS E=>?_;refine Fc.nil E ?_;refine Fin.mk E (rs:=[.cell 4 34]) rfl (tR.cell E hS Dt rfl (i:=1) rfl (aL b0) tR.nil) ?_;exact⟨_,(j6 a2 (j6 a9 (j6 b4 e4))),(hS.dropL 2),(vZ (aL b0))⟩}
 {have h:=aI hb75 h;cases h}}
theorem Vf:Ctr Sz prog 48 [.rd (.int .i64),.rd (.sl (.st 32))] [.rd (.st 34)] (λx=>lK x.1 x.2.1):=by intro W0 m w L TL vs x r Lp Tp hS hP h;obtain⟨v0,vs,rfl,a0,J⟩:=cT hP;obtain⟨rfl,Z⟩:=aF a0;obtain⟨v1,vs,rfl,a1,a2⟩:=cT J;obtain⟨rfl,rfl,rfl⟩:=eT a2;refine rm (GI (hS:=hS) Z a1 h) λv w' W=>?_;obtain⟨m',hm,Z',r0⟩:=W;exact⟨m',[v],[],[],[],hm,Z',rfl,⟨r0,trivial⟩,trivial⟩
def Nq:=mC Vf call48
theorem GJ (hS:S W0 m w L TL){p0}(b7:RV (kSl (aj .u8)) m v0 p0){r}(h:iJ p0=some r):Calls prog 21 #[v0] w (Ret λv w'=>∃m',M.le m m'/\S W0 m' w' L TL/\∃v0_ v1_ v2_:Value,v=.tuple #[v0_,v1_,v2_]/\RV (kSl kAp) m' v0_ r.1/\RV (aj .i64) m' v1_ r.2.1/\RV (aj .i64) m' v2_ r.2.2):=by
 refine kc func21 ntmps21 λa E=>?_;have E:Env 71 a [(0,v0)]:=E;unfold iJ at h;refine ab (ak (qA E rfl λa E=>qA E rfl λa E=>qA E rfl λa E=>ag (ab (ak (qM E rfl λa E=>?_)))));obtain⟨J,g0,h⟩:=ob h;refine st E (aT (vs:=[v0]) E rfl call57 (GE (hS:=hS) b7 g0)) rfl ?_;rintro _ a w⟨m7,a5,hS,b4,a3,i3,rfl,h2,d0,g3⟩E;obtain rfl:=fg g3;refine qM E rfl λa E=>sp E (bQ E rfl rfl) rfl λa E=>sp E (bQ E rfl rfl) rfl λa E=>sp E (bQ E rfl rfl) rfl λa E=>?_;refine st E (cF hS zeroValue34 rfl (cs:=zA)) rfl ?_;rintro _ a w⟨a0,rfl,hS⟩E;refine st0 E (dq E hS Dt bT rfl rfl h2 (i:=0) rfl (Ds _)) ?_;rintro _ w⟨b2,a9,hS⟩E;refine qA E rfl λa E=>qA E rfl λa E=>ag (ab (ab (ak (qM E rfl λa E=>sp E (lD E rfl) rfl λa E=>ag (kif E rfl (λb6=>?_) (λb6=>?_))))));{
 have h:=aH b6 h;refine ab (ak (qA E rfl λa E=>qA E rfl λa E=>qA E rfl λa E=>ag (bK ?_)));obtain rfl:=oi h
 try dsimp only
 refine Fin.mk E (rs:=[.tmp 2,.tmp 3,.tmp 4]) rfl (tR.tmp E rfl (tR.tmp E rfl (tR.tmp E rfl tR.nil))) ?_;exact⟨_,a5,(hS.dropL 1),_,_,_,rfl,dK,(ax (show inR .i64 0 from az (by decide))),(ax (show inR .i64 70 from az (by decide)))⟩};{
 have h:=aI b6 h;refine a7 (ab (ak (qM E rfl λa E=>sp E (aK E Gy rfl) rfl λa E=>?_)));refine st E (aM E hS ty3 rfl (i:=0) rfl (Qn.R_drop (aL a9))) rfl ?_;rintro i0 a _⟨rfl,e6⟩E;obtain⟨rfl,h6⟩:=aF e6;refine qB E rfl rfl (kf rfl) λa E=>?_;obtain⟨i4,g1,h⟩:=ob h;refine st E (dy (k:=(aj .u8)) E rfl underlying24 sizeOf5 (b7.mono a5) rfl ⟨_,rfl⟩ g1 (xl:=none) (xh:=(some (.tmp 23)))) rfl ?_;rintro c5 a _⟨rfl,e4⟩E;obtain⟨h8,d1,h⟩:=ob h;refine st E (aT (vs:=[c5]) E rfl call60 (rp (hS:=hS) e4 d1)) rfl ?_;rintro a2 a w⟨f6,a1,hS,c7⟩E
 refine qA E rfl λa E=>ag (ab (ab ?_));obtain⟨c6,h1,e7,d2,h⟩:=ob2 h
 refine kch (k:=6) (m:=f6) (es:=[1]) (Φ:=(λi m ws v=>match i with|0=>v=a2|1=>v=(wi ws 0).v/\RV (kSl (aj .u8)) m v c6|2=>v=v0|3=>v=(.pointer (some ⟨a0,11,none⟩))|4=>ei .i64 J.1.fBytes v|5=>RV (kSl (aj .u8)) m v e7|_=>True)) (Q:=(λc m ws L' c3=>match c with|0=>(a0,b2)::L=L'/\(1,a2)::TL=c3|1=>(a0,b2)::L=L'/\(1,(wi ws 0).v)::TL=c3|_=>False)) (cs:=[jc [(8,a2)],⟨0,0,true,[]⟩,⟨0,1,false,[(0,v0)]⟩,⟨0,1,false,[(5,pz a0)]⟩,⟨0,1,false,[]⟩,⟨0,1,false,[]⟩]) mixed E hS ⟨rfl,rfl⟩ rfl rfl (by kernel_rfl) ?_ ?_ ?_ ?_
 {
 intro i m_ e1 ws v n_ q_
 iterate 6 (rcases i with _|i;first|exact q_|exact RV.mono q_ n_|exact⟨q_.1,RV.mono q_.2 n_⟩)
 exact trivial}
 {
 intro c m_ e1 ws L_ T_ n_ b3
 match c,b3 with
 |0,⟨c1,c0⟩=>exact⟨c1,c0⟩|1,⟨c1,c0⟩=>exact⟨c1,c0⟩|_+2,b3=>exact b3.elim}
 {
 refine⟨?_,?_,?_,?_,?_,?_,trivial⟩
 {exact cmv λ_ _=>rfl}
 {refine wZ λh7 L_ T_ m' a' w' g5 M' Q' W Z T'=>?_;obtain rfl:=eS g5;obtain⟨rfl,rfl⟩:=Q';have E:=Z.add (T' 0 (by decide) 26 rfl);refine a8.imp (aT (vs:=[a2]) E rfl call50 (Dv (hS:=W) (c7.mono M') h1)) ?_;rintro a4 w⟨i2,f0,hS,g8⟩;exact⟨_,⟨0,a4,[],[],[]⟩,_,_,f0,hS,⟨rfl,rfl⟩,⟨rfl,g8⟩⟩}
 {exact cmv λ_ _=>rfl}
 {refine cp0 λ_ _ _ _ _ _ _ _ _ W Z _=>?_;exact cq (aK Z Gy rfl) W rfl}
 {
 refine cp0 λ_ _ _ _ _ _ P' M' Q' W Z T'=>?_;rcases HS (a:=0) (n:=0) P' with h0_|h0_
 {obtain rfl:=eS h0_;obtain⟨rfl,rfl⟩:=Q';have E:=Z.add (T' 3);exact cr (aM E W ty3 rfl (i:=0) rfl (Qn.R_drop (aL (c9.mono (j6 a1 M') a9)))) W λ_ h=>aF h}
 {obtain⟨⟨_,a4,_,_,_⟩,post_',rfl,hp1_⟩:=h0_;obtain rfl:=eS (Po (a:=0) hp1_);obtain⟨rfl,rfl⟩:=Q';have E:=Z.add (T' 3);exact cr (aM E W ty3 rfl (i:=0) rfl (Qn.R_drop (aL (c9.mono (j6 a1 M') a9)))) W λ_ h=>aF h}}
 {refine cp0 λ_ _ _ _ _ _ _ M' _ W Z T'=>?_;have E:=(Z.add (T' 2)).add (T' 4).1;exact cr (dy (k:=(aj .u8)) E rfl underlying24 sizeOf5 (b7.mono (j6 a5 (j6 a1 M'))) rfl ⟨_,rfl⟩ d2 (xl:=none) (xh:=(some (.tmp 30)))) W λ_ h=>h}}
 {
 intro h5 L_ T_ f5 a w h0 b1 g2 hS e0 g4 f4 c4;obtain⟨⟨_,a4,_,_,_⟩,rfl⟩:=A0 h0;obtain⟨rfl,rfl⟩:=g2;have E:=eof 6 [(0,v0),(2,.slice none 0 0),(3,.int .i64 0),(4,.int .i64 0),(5,pz a0),(6,a3),(7,.bool J.2.2),(8,a2),(12,(.tuple #[b4,a3,(.bool J.2.2)])),(13,v0),(14,(.tuple #[b4,a3,(.bool J.2.2)])),(15,b4),(16,a3),(17,.bool J.2.2),(18,.bool J.2.2),(19,.bool (!J.2.2)),(20,v0),(21,.pointer (some ⟨a0,11,none⟩)),(22,.int .i64 J.1.fBytes),(23,.int .i64 (Z1.wrap (J.1.fBytes-4))),(24,c5),(25,a2)] e0 g4 f4
 obtain⟨h9,f3,b0⟩:∃v,a.tmps.getD 27 undef=v/\(v=a4/\RV (kSl (aj .u8)) f5 v c6):=⟨_,rfl,c4 1⟩
 obtain⟨c2,b0⟩:=b0;rw[c2]at b0;have E:=E.add (f3.trans c2);obtain⟨e3,E,e8⟩:=adv E (c4 5);obtain⟨i1,g7,h⟩:=ob h;refine st E (aT (vs:=[a4,e3]) E rfl call61 (yq (hS:=hS) b0 e8 g7)) rfl ?_;rintro h3 a w⟨h4,a6,hS,g6⟩E;obtain rfl:=fg g6;refine sp E (lD E rfl) rfl λa E=>ag (kif E rfl (λb5=>?_) (λb5=>?_))
 {
 have h:=aH b5 h;refine ab (ak (qA E rfl λa E=>qA E rfl λa E=>qA E rfl λa E=>ag (bK ?_)));obtain rfl:=oi h
 try dsimp only
 refine Fin.mk E (rs:=[.tmp 2,.tmp 3,.tmp 4]) rfl (tR.tmp E rfl (tR.tmp E rfl (tR.tmp E rfl tR.nil))) ?_;exact⟨_,(j6 a5 (j6 a1 (j6 b1 a6))),((hS.dropL 1).dropT 1),_,_,_,rfl,dK,(ax (show inR .i64 0 from az (by decide))),(ax (show inR .i64 71 from az (by decide)))⟩}
 {
 have h:=aI b5 h;refine a7 ?_;refine wj (G:=Sz) (Γ:=Γ) (D:=[Nq,Nl,U7,U9,Nn,Ve]) (rs:=[.rd (.sl (.st 32)),.rd (.int .i64),.rd (.int .i64)]) (res:=[.tmp 2,.tmp 3,.tmp 4]) (ps:=[.pt (.st 34),.rd (.sl (.int .u8))]) (sl:=[5,6]) (vs:=[(pz a0),a3]) (x:=(J.1,J.2.1,())) (Lp:=[(a0,b2)]) (Tp:=[]) .o E (hS.dropT 1) ⟨c9.mono (j6 a1 (j6 b1 a6)) a9,rfl,d0.mono (j6 a1 (j6 b1 a6)),trivial⟩ h (by kernel_rfl) mixed (λv w' m' us Lr Tr q1 q2 q3 q4=>?_);obtain⟨u0,us,rfl,r0,e5⟩:=cN q4;obtain⟨u1,us,rfl,r1,g9⟩:=cN e5;obtain⟨u2,us,rfl,r2,e9⟩:=cN g9
 obtain⟨rfl,rfl,rfl⟩:=cH e9;subst q3;exact⟨m',(j6 (j6 a5 (j6 a1 (j6 b1 a6))) q1),q2,_,_,_,rfl,r0,r1,r2⟩}}}
theorem Bv (hS:S W0 m w L TL){p0}(f4:RV (kSl (aj .u8)) m v0 p0){p1}(h4:inR .i64 p1){r}(h:eF p0 p1=some r):Calls prog 84 #[v0,(.int .i64 p1)] w (Ret λv w'=>∃m',M.le m m'/\S W0 m' w' L TL/\∃v0_ v1_:Value,v=.tuple #[v0_,v1_]/\RV (kSl kAp) m' v0_ r.1/\RV cS m' v1_ r.2):=by
 refine kc func84 ntmps84 λa E=>?_;have E:Env 42 a [(0,v0),(1,.int .i64 p1)]:=E;unfold eF at h;refine ab (ak (qA E rfl λa E=>qA E rfl λa E=>ag (ab (ak (qA E rfl λa E=>ag (ab ?_))))));refine cA (λa w=>∃x6:(List Ap),k8 p1 x6=some r/\∃m',M.le m m'/\∃(v7:Value),RV (kSl kAp) m' v7 x6/\S W0 m' w L ((4,v7)::TL)/\Env 42 a [(1,.int .i64 p1),(6,v7)]) ?_ ?_;{
 refine bj ?_;refine fN h (λ(s:List Int×List Ap)a w=>∃m',M.le m m'/\∃(W:Value),∃(J:Value),RV (kSl (aj .u8)) m' W s.1/\RV (kSl kAp) m' J s.2/\S W0 m' w L ((4,J)::TL)/\Env 42 a [(0,W),(1,.int .i64 p1),(6,J)]) ?_ ?_
 {exact⟨_,(Z0 _),v0,(.slice none 0 0),f4,dK,(hS.tail0 4),kut E⟩}
 {
 rintro⟨c6,a4⟩a w⟨h7,c0,W,J,b4,c1,hS,E⟩r25 h hb26;have h:bO p1 c6 a4=some r25:=h;unfold bO at h;refine ab (ab (ak (qM E rfl λa E=>sp E (bq (k:=(aj .u8)) E rfl rfl underlying24 b4) rfl λa E=>qB E rfl rfl lC λa E=>ag (kif E rfl (λb3=>?_) (λb3=>?_)))))
 {
 have h:=aH b3 h;refine a7 (bj (ab (ak (qM E rfl λa E=>?_))));obtain⟨Z,e8,h⟩:=ob h;refine st E (aT (vs:=[W]) E rfl call21 (GJ (hS:=hS) b4 e8)) rfl ?_;rintro _ a w⟨g8,a2,hS,a6,h6,h2,rfl,c7,d2,e0⟩E;obtain⟨rfl,f5⟩:=aF d2;obtain⟨rfl,h3⟩:=aF e0;refine qM E rfl λa E=>sp E (bQ E rfl rfl) rfl λa E=>sp E (bQ E rfl rfl) rfl λa E=>sp E (bQ E rfl rfl) rfl λa E=>qA E rfl λa E=>qA E rfl λa E=>qA E rfl λa E=>ag (ab (ab ?_))
 refine cA (λa w=>∃a5:Bool,gS c6 a4 Z a5=some r25/\∃m',M.le g8 m'/\S W0 m' w L ((4,J)::TL)/\Env 42 a [(0,W),(1,.int .i64 p1),(6,J),(7,a6),(8,.int .i64 Z.2.1),(30,.bool a5)]) ?_ ?_
 {
 refine ak (qM E rfl λa E=>qB E rfl rfl mS λa E=>qM E rfl λa E=>?_);rcases zx (Z.2.2!=0)with hd110|hd110
 {have h:=aH hd110 h;refine qX E hd110 λa E=>qX E hd110 λa E=>qX E hd110 λa E=>qX E hd110 λa E=>qX E hd110 λa E=>qX E hd110 λa E=>qX E hd110 λa E=>qX E hd110 λa E=>qT E hd110 rfl λa E=>ag ?_;exact⟨true,h,_,(Z0 _),hS,kut E⟩}
 {
 have h:=aI hd110 h;refine qG E hd110 rfl λa E=>spg E rfl rfl rfl rfl hd110 (bq (k:=kAp) E rfl rfl underlying22 c7) rfl λa E=>qG E hd110 rfl λa E=>qG E hd110 rfl λa E=>spg E rfl rfl rfl rfl hd110 (bq (k:=kAp) E rfl rfl underlying22 (c1.mono a2)) rfl λa E=>spg E rfl rfl rfl rfl hd110 (bg E rfl rfl (kf rfl)) rfl λa E=>spg E rfl rfl rfl rfl hd110 (Bz E rfl rfl) rfl λa E=>spg E rfl rfl rfl rfl hd110 (bg E rfl rfl mS) rfl λa E=>qF E hd110 rfl λa E=>ag ?_
 exact⟨((Z.1.length:Int)!=(if (Z1.wrap (p1-(a4.length:Int)))<64 then Z1.wrap (p1-(a4.length:Int))else 64)),h,_,(Z0 _),hS,kut E⟩}}
 {
 rintro a w⟨a5,h,g2,a1,hS,E⟩;unfold gS at h;refine kif E rfl (λb1=>?_) (λb1=>?_)
 {
 have h:=aH b1 h;refine ab (ak (qA E rfl λa E=>qA E rfl λa E=>ag (bK ?_)));have h:=cg h hb26;obtain rfl:=oi h
 try dsimp only
 refine f2 E ?_;exact⟨_,(j6 c0 (j6 a2 a1)),(hS.dropT 1),_,_,rfl,dK,dA⟩}
 {
 have h:=aI b1 h;refine a7 ?_;obtain⟨a3,g1,d0,e1,h⟩:=ob2 h
 refine kch (k:=7) (m:=g2) (es:=[2]) (Φ:=(λi m ws v=>match i with|0=>v=J|1=>v=a6|2=>v=(wi ws 0).v/\RV (kSl kAp) m v a3|3=>v=W|4=>ei .i64 Z.2.1 v|5=>RV (kSl (aj .u8)) m v d0|6=>v=(wi ws 0).v/\RV (kSl kAp) m v a3|_=>True)) (Q:=(λc m ws L' c2=>match c with|0=>L=L'/\(4,J)::TL=c2|1=>L=L'/\(4,(wi ws 0).v)::TL=c2|_=>False)) (cs:=[jc [(6,J)],jc [(7,a6)],⟨0,0,true,[]⟩,⟨0,1,false,[(0,W)]⟩,⟨0,1,false,[(8,.int .i64 Z.2.1)]⟩,⟨0,1,false,[]⟩,⟨1,1,false,[]⟩]) mixed E hS ⟨rfl,rfl⟩ rfl rfl (by kernel_rfl) ?_ ?_ ?_ ?_
 {
 intro i m_ e3 ws v n_ q_
 iterate 7 (rcases i with _|i;first|exact q_|exact RV.mono q_ n_|exact⟨q_.1,RV.mono q_.2 n_⟩)
 exact trivial}
 {
 intro c m_ e3 ws L_ T_ n_ b2
 match c,b2 with
 |0,⟨b7,b5⟩=>exact⟨b7,b5⟩|1,⟨b7,b5⟩=>exact⟨b7,b5⟩|_+2,b2=>exact b2.elim}
 {
 refine⟨?_,?_,?_,?_,?_,?_,?_,trivial⟩
 {exact cmv λ_ _=>rfl}
 {exact cmv λ_ _=>rfl}
 {refine wZ λe7 L_ T_ m' a' w' b6 M' Q' Z' E' T'=>?_;obtain rfl:=eS b6;obtain⟨rfl,rfl⟩:=Q';have E:=(E'.add (T' 0 (by decide) 31 rfl)).add (T' 1 (by decide) 32 rfl);refine a8.imp (iM (k:=kAp) (N:=3518437208883) E Z' rfl rfl underlying22 underlying22 zy (i:=0) rfl (c1.mono (j6 a2 (j6 a1 M'))) (c7.mono (j6 a1 M')) g1 rfl rfl) ?_;rintro a0 w⟨h1,e4,hS,g6⟩;exact⟨_,⟨0,a0,[],[],[]⟩,_,_,e4,hS,⟨rfl,rfl⟩,⟨rfl,g6⟩⟩}
 {exact cmv λ_ _=>rfl}
 {exact cmv λ_ _=>⟨rfl,f5⟩}
 {refine cp0 λ_ _ _ _ _ _ _ M' _ Z' E' T'=>?_;have E:=(E'.add (T' 3)).add (T' 4).1;exact cr (dy (k:=(aj .u8)) E rfl underlying24 sizeOf5 (b4.mono (j6 a2 (j6 a1 M'))) ⟨_,rfl⟩ rfl e1 (xl:=(some (.tmp 35))) (xh:=none)) Z' λ_ h=>h}
 {
 refine Je λe7 p_ L_ T_ m' a' w' b6 P' M' Q' Z' E' T'=>?_;obtain⟨⟨_,a0,_,_,_⟩,rfl⟩:=A0 b6;obtain⟨h8,g4,b0⟩:∃v,a'.tmps.getD 33 undef=v/\(v=a0/\RV (kSl kAp) m' v a3):=⟨_,rfl,T' 2 (by decide) 33 rfl⟩
 obtain⟨d1,b0⟩:=b0;rw[d1]at b0;have E:=E'.add (g4.trans d1);refine a8.imp (ay.pure (pV E rfl)) ?_;rintro _ _⟨rfl,rfl⟩;exact⟨_,Z0 _,Z',⟨rfl,b0⟩⟩}}
 {
 intro h5 L_ T_ e6 a w f6 e5 g5 hS g9 g0 f0 c4;obtain⟨⟨_,a0,_,_,_⟩,rfl⟩:=A0 f6;obtain⟨rfl,rfl⟩:=g5;have E:=eof 7 [(0,W),(1,.int .i64 p1),(7,a6),(8,.int .i64 Z.2.1),(30,.bool a5)] g9 g0 f0;obtain⟨e9,E,f3⟩:=adv E (c4 5);obtain⟨h0,g7,a9⟩:∃v,a.tmps.getD 6 undef=v/\(v=a0/\RV (kSl kAp) e6 v a3):=⟨_,rfl,c4 6⟩
 obtain⟨c3,a9⟩:=a9;rw[c3]at a9;have E:=E.add (g7.trans c3);refine qA E rfl λa E=>ag ?_;exact⟨(d0,a3),(Option.some.inj h).symm,_,(j6 c0 (j6 a2 (j6 a1 e5))),e9,a0,f3,a9,hS,kut E⟩}}}}
 {have h:=aI b3 h;refine fe rfl rfl ?_;have h:=cg h hb26;exact⟨a4,h,_,c0,J,c1,hS,kut E⟩}}};{
 rintro a w⟨x6,h,m4,g3,v7,c5,hS,E⟩;unfold k8 at h;refine ab (ak (qM E rfl λa E=>qM E rfl λa E=>sp E (bq (k:=kAp) E rfl rfl underlying22 c5) rfl λa E=>qM E rfl λa E=>qB E rfl rfl mR λa E=>qA E rfl λa E=>qA E rfl λa E=>ag ?_));refine bK ?_;obtain rfl:=oi h
 try dsimp only
 refine f2 E ?_;exact⟨_,g3,(hS.dropT 1),_,_,rfl,c5,dA⟩}
end
open Go.Proofs Tryz
noncomputable section
variable{W0:Bse}{m:M}{w:World}{L:List (Nat×List Value)}{TL:List (Nat×Value)}{v0 v1 v2 v3 v4 v5 v6 v7 v8 v9:Value}
def KV:Kd aq:=qx (λx:aq=>(x.fColumns,x.fSort,())) (cM (aj .i64) (cM (kSl (aj .i64)) A6))
theorem XH:Fld KV (aj .i64) 0 (λx=>x.fColumns):=b9 dG
theorem Nr:dz prog 50 A6:=⟨sizeOf50,isAgg50⟩
theorem yr  {W J:Nat}{a3 e5 d1:List Value}(hS:S W0 m w ((W,a3)::(J,e5)::L) (tls 4 d1++TL)){p0}(f6:KV.R m a3 p0){b2:Value}(m1:a3[2]?=some b2){pA:List aa}(j4:GR ae 2 m J e5 b2 pA d1){p1}(p7:inR .i64 p1){p2}(f3:RV (kSl kAp) m v2 p2){r}(h:dw p0 pA p1 p2=some r):Calls prog 85 #[(pz W),(.int .i64 p1),v2] w (Ret λv w'=>∃m',M.le m m'/\∃q1_ rq_:List Value,S W0 m' w' ((W,a3)::(J,q1_)::L) (tls 4 rq_++TL)/\GR ae 2 m' J q1_ b2 r.2 rq_/\RV cS m' v r.1):=by
 refine kc func85 ntmps85 λa E=>?_;have E:Env 85 a [(0,pz W),(1,.int .i64 p1),(2,v2)]:=E;unfold dw at h;refine ab (ak (qA E rfl λa E=>ag (ab (ab (ak (qM E rfl λa E=>sp E (bq (k:=kAp) E rfl rfl underlying22 f3) rfl λa E=>qM E rfl λa E=>?_))))));refine ag ?_;refine cA (λa w=>∃x7:(List aa),gL x7=some r/\∃m',M.le m m'/\∃(c0 c2:List Value),GR ae 2 m' J c0 b2 x7 c2/\S W0 m' w ((W,a3)::(J,c0)::L) (tls 4 c2++TL)/\Env 85 a []) ?_ ?_;{
 refine bj ?_;refine fN h (λ(s:Int×List aa)a w=>∃m',M.le m m'/\∃(a4 a2:List Value),inR .i64 s.1/\GR ae 2 m' J a4 b2 s.2 a2/\S W0 m' w ((W,a3)::(J,a4)::L) (tls 4 a2++TL)/\Env 85 a [(0,pz W),(1,.int .i64 p1),(10,v2),(11,.int .i64 (p2.length:Int)),(12,.int .i64 s.1)]) ?_ ?_
 {exact⟨_,(Z0 _),e5,d1,(show inR .i64 0 from az (by decide)),j4,hS,kut E⟩}
 {
 rintro⟨b1,a9⟩a w⟨n2,a5,a4,a2,p3,a1,hS,E⟩r19 h hb20;have h:bL p0 p1 p2 b1 a9=some r19:=h;unfold bL at h;refine ab (ak (qB E rfl rfl cu λa E=>ag (ab (kif E rfl (λc4=>?_) (λc4=>?_)))))
 {
 have h:=aH c4 h;refine a7 (ab (bj (ab (ak (qM E rfl λa E=>?_)))));obtain⟨x24,j0,h⟩:=ob h;refine st E (be (k:=kAp) E rfl rfl underlying22 sizeOf32 (f3.mono a5) j0) rfl ?_;rintro q2 a _⟨rfl,h0⟩E;refine st E (aC E hS iA rfl h0) rfl ?_;rintro q6 a _⟨rfl,g6⟩E;refine st E (cF hS zeroValue32 rfl (cs:=Do)) rfl ?_;rintro _ a w⟨a6,rfl,hS⟩E;refine qA E rfl λa E=>?_;refine st0 E (dq E hS iA bT rfl rfl g6 (i:=0) rfl (xY _)) ?_;rintro _ w⟨b3,b0,hS⟩E
 refine ag (ab (ak (qM E rfl λa E=>sp E (ct E rfl) rfl λa E=>sp E (aK E mO rfl) rfl λa E=>sp E (NS E hS Nr rfl (i:=1) rfl m1 a1.1.one) rfl λa E=>qM E rfl λa E=>?_)));obtain⟨a0,k6,h⟩:=ob h;refine sp E (lF (k:=ae) E rfl rfl underlying50 sizeOf59 a1.1 k6 rfl) rfl λa E=>qA E rfl λa E=>ag (ab (ab ?_))
 refine cA (λa w=>∃c1:Bool,cC p0 p1 b1 a9 x24 a0 c1=some r19/\∃m',M.le n2 m'/\S W0 m' w ((a6,b3)::(W,a3)::(J,a4)::L) (tls 4 a2++TL)/\Env 85 a [(0,pz W),(1,.int .i64 p1),(8,pz a6),(9,.pointer (some ⟨J,a0*4,none⟩)),(10,v2),(11,.int .i64 (p2.length:Int)),(12,.int .i64 b1),(38,.bool c1)]) ?_ ?_
 {
 refine ak (qM E rfl λa E=>qM E rfl λa E=>sp E (ct E rfl) rfl λa E=>sp E (aK E qt rfl) rfl λa E=>?_);refine st E (aM E hS ty3 rfl (i:=1) rfl (XH.R_drop (aL (KV.mono a5 f6)))) rfl ?_;rintro r1 a _⟨rfl,m2⟩E;obtain⟨rfl,r9⟩:=aF m2;refine qB E rfl rfl zM λa E=>qM E rfl λa E=>?_;rcases zx (decide (p0.fColumns<=p1))with hd194|hd194
 {
 have h:=aH hd194 h;refine spg E rfl rfl rfl rfl hd194 (aK E CA rfl) rfl λa E=>?_;refine stg E rfl rfl rfl rfl hd194 (aM E hS ty3 rfl (i:=0) rfl (Kz.R_drop (aL b0))) rfl ?_;rintro o1 a _⟨rfl,i3⟩E;obtain⟨rfl,q3⟩:=aF i3;refine spg E rfl rfl rfl rfl hd194 (bg E rfl rfl mS) rfl λa E=>qG E hd194 rfl λa E=>?_;rcases zx (x24.fKind !=2)with hd201|hd201
 {have h:=aH hd201 h;refine qX E hd201 λa E=>qX E hd201 λa E=>qX E hd201 λa E=>spg E rfl rfl rfl rfl hd194 (zK E rfl hd201 rfl) rfl λa E=>qT E hd194 rfl λa E=>ag ?_;exact⟨true,h,_,(Z0 _),hS,kut E⟩}
 {have h:=aI hd201 h;refine spg E rfl rfl rfl rfl hd201 (aK E nV rfl) rfl λa E=>?_;refine stg E rfl rfl rfl rfl hd201 (aM E hS ty2 rfl (i:=0) rfl (wH.R_drop (aL b0))) rfl ?_;rintro r4 a _⟨rfl,n0⟩E;obtain⟨rfl,r2⟩:=aF n0;refine spg E rfl rfl rfl rfl hd201 (bg E rfl rfl cu) rfl λa E=>spg E rfl rfl rfl rfl hd194 (zL E rfl hd201 rfl) rfl λa E=>qT E hd194 rfl λa E=>ag ?_;exact⟨(decide (x24.fInt<0)),h,_,(Z0 _),hS,kut E⟩}}
 {have h:=aI hd194 h;refine qX E hd194 λa E=>qX E hd194 λa E=>qX E hd194 λa E=>qX E hd194 λa E=>sxu E rfl rfl rfl rfl λa E=>sxu E rfl rfl rfl rfl λa E=>sxu E rfl rfl rfl rfl λa E=>qX E hd194 λa E=>qF E hd194 rfl λa E=>ag ?_;exact⟨false,h,_,(Z0 _),hS,kut E⟩}}
 {
 rintro a w⟨c1,h,f5,Z,hS,E⟩;unfold cC at h;refine kif E rfl (λc6=>?_) (λc6=>?_)
 {
 have h:=aH c6 h;refine ab (ak (qA E rfl λa E=>ag (bK ?_)));have h:=cg h hb20;obtain rfl:=oi h
 try dsimp only
 refine f1 E ?_;exact⟨_,(j6 a5 Z),a4,a2,(hS.pickL 3 [1,2] rfl rfl rfl),(a1.mono Z),dA⟩}
 {
 have h:=aI c6 h;refine a7 (ab (ak (qM E rfl λa E=>qM E rfl λa E=>sp E (ct E rfl) rfl λa E=>sp E (aK E qt rfl) rfl λa E=>?_)));refine st E (aM E hS ty3 rfl (i:=1) rfl (XH.R_drop (aL (KV.mono (j6 a5 Z) f6)))) rfl ?_;rintro r3 a _⟨rfl,m8⟩E;obtain⟨rfl,s1⟩:=aF m8;refine qB E rfl rfl (kf rfl) λa E=>ag (bj (ab (ak (qB E rfl rfl mR λa E=>qA E rfl λa E=>ag ?_))))
 refine cA (λa w=>∃b4:(List aa),cB b1 b4=some r19/\∃m',M.le f5 m'/\∃(b7 b6:List Value),GR ae 2 m' J b7 b2 b4 b6/\S W0 m' w ((a6,b3)::(W,a3)::(J,b7)::L) (tls 4 b6++TL)/\Env 85 a [(0,pz W),(1,.int .i64 p1),(10,v2),(11,.int .i64 (p2.length:Int)),(12,.int .i64 b1)]) ?_ ?_
 {
 refine kif E rfl (λe6=>?_) (λe6=>?_)
 {
 have h:=aH e6 h;refine ak (qM E rfl λa E=>sp E (aK E nV rfl) rfl λa E=>?_);refine st E (aM E hS ty2 rfl (i:=0) rfl (wH.R_drop (aL (kAp.mono Z b0)))) rfl ?_;rintro r8 a _⟨rfl,m4⟩E;obtain⟨rfl,s2⟩:=aF m4;refine sp E (fC E rfl underlying2 underlying54 rfl) rfl λa E=>sp E (ct E rfl) rfl λa E=>sp E (aK E lz rfl) rfl λa E=>sp E (aK E zC rfl) rfl λa E=>?_;obtain⟨x82,h7,h⟩:=ob h;refine st0 E (yH (k:=ae) (o:=2) E hS Dr (EZ sN Cy Gr) (a1.mono Z) h7 rfl rfl (ax (aG _ _)) (i:=2) rfl (by decide) (by decide)) ?_;rintro _ w⟨k4,h2,hS⟩E;refine ag ?_
 exact⟨(a9.set a0 ({x82 with fId:={x82.fId with fEpoch:=Z3.wrap x24.fInt}})),h,_,(Z0 _),k4,a2,h2,hS,kut E⟩}
 {
 have h:=aI e6 h;refine ab (ak (qB E rfl rfl mR λa E=>qA E rfl λa E=>ag (kif E rfl (λe4=>?_) (λe4=>?_))))
 {
 have h:=aH e4 h;refine ab (ab (ak (sp E (aK E nV rfl) rfl λa E=>?_)));refine st E (aM E hS ty2 rfl (i:=0) rfl (wH.R_drop (aL (kAp.mono Z b0)))) rfl ?_;rintro r0 a _⟨rfl,h8⟩E;obtain⟨rfl,r7⟩:=aF h8;refine qB E rfl rfl lC λa E=>ag (kif E rfl (λe3=>?_) (λe3=>?_))
 {
 have h:=aH e3 h;refine ab (ak (qA E rfl λa E=>ag (bK ?_)));have h:=cg h hb20;obtain rfl:=oi h
 try dsimp only
 refine f1 E ?_;exact⟨_,(j6 a5 Z),a4,a2,(hS.pickL 3 [1,2] rfl rfl rfl),(a1.mono Z),dA⟩}
 {
 have h:=aI e3 h;refine a7 (ak (qM E rfl λa E=>sp E (aK E nV rfl) rfl λa E=>?_));refine st E (aM E hS ty2 rfl (i:=0) rfl (wH.R_drop (aL (kAp.mono Z b0)))) rfl ?_;rintro q0 a _⟨rfl,h4⟩E;obtain⟨rfl,q4⟩:=aF h4;refine sp E (fC E rfl underlying2 underlying55 rfl) rfl λa E=>sp E (ct E rfl) rfl λa E=>sp E (aK E lz rfl) rfl λa E=>sp E (aK E KH rfl) rfl λa E=>?_;obtain⟨x106,i5,h⟩:=ob h;refine st0 E (yH (k:=ae) (o:=2) E hS WU (EZ sN Cy Gs) (a1.mono Z) i5 rfl rfl (ax (aG _ _)) (i:=2) rfl (by decide) (by decide)) ?_;rintro _ w⟨k0,i1,hS⟩E
 refine ag ?_;exact⟨(a9.set a0 ({x106 with fId:={x106.fId with fNumber:=Z4.wrap x24.fInt}})),h,_,(Z0 _),k0,a2,i1,hS,kut E⟩}}
 {
 have h:=aI e4 h;refine ab (ak (qB E rfl rfl mR λa E=>qA E rfl λa E=>ag (kif E rfl (λc5=>?_) (λc5=>?_))))
 {
 have h:=aH c5 h;refine ak (qM E rfl λa E=>sp E (aK E nV rfl) rfl λa E=>?_);refine st E (aM E hS ty2 rfl (i:=0) rfl (wH.R_drop (aL (kAp.mono Z b0)))) rfl ?_;rintro p4 a _⟨rfl,m7⟩E;obtain⟨rfl,r5⟩:=aF m7;refine sp E (fC E rfl underlying2 underlying54 rfl) rfl λa E=>sp E (ct E rfl) rfl λa E=>sp E (aK E Gz rfl) rfl λa E=>?_;obtain⟨x122,n4,h⟩:=ob h;refine st0 E (yH (k:=ae) (o:=2) E hS Dr Gu (a1.mono Z) n4 rfl rfl (ax (aG _ _)) (i:=2) rfl (by decide) (by decide)) ?_;rintro _ w⟨n6,g7,hS⟩E;refine ag ?_
 exact⟨(a9.set a0 ({x122 with fDeleted:=Z3.wrap x24.fInt})),h,_,(Z0 _),n6,a2,g7,hS,kut E⟩}
 {
 have h:=aI c5 h;obtain⟨g1,f4,d0,l2,h⟩:=ob2 h;obtain⟨b5,g5,g2⟩:=a1.row f4;obtain⟨g0,g4⟩:∃T,T=tls 4 (a2.eraseIdx a0)++TL:=⟨_,rfl⟩
 have hS:=hS.permT (Lh g5 TL);rw[←g4]at hS
 refine kch (k:=8) (m:=f5) (es:=[7]) (Φ:=(λi m ws v=>match i with|0=>v=(.pointer (some ⟨J,a0*4,none⟩))|1=>v=(.pointer (some ⟨J,a0*4,none⟩))|2=>v=(.pointer (some ⟨J,a0*4,none⟩))|3=>v=(.pointer (some ⟨J,a0*4+2,none⟩))|4=>v=b5/\RV (kSl kAp) m v g1.fRow|5=>RV kAp m v x24|6=>RV (kSl kAp) m v ([x24])|7=>v=(wi ws 0).v/\RV (kSl kAp) m v d0|_=>True)) (Q:=(λc m ws L' e7=>match c with|0=>(a6,b3)::(W,a3)::(J,a4)::L=L'/\(4,b5)::g0=e7|1=>(a6,b3)::(W,a3)::(J,a4)::L=L'/\(4,(wi ws 0).v)::g0=e7|_=>False)) (cs:=[⟨0,1,false,[(9,.pointer (some ⟨J,a0*4,none⟩))]⟩,jc [(9,.pointer (some ⟨J,a0*4,none⟩))],jc [],jc [],jc [],jc [(8,pz a6)],jc [],⟨0,0,true,[]⟩]) mixed E hS ⟨rfl,rfl⟩ rfl rfl (by kernel_rfl) ?_ ?_ ?_ ?_
 {
 intro i m_ h9 ws v n_ q_
 iterate 8 (rcases i with _|i;first|exact q_|exact RV.mono q_ n_|exact⟨q_.1,RV.mono q_.2 n_⟩)
 exact trivial}
 {
 intro c m_ h9 ws L_ T_ n_ c7
 match c,c7 with
 |0,⟨e0,d2⟩=>exact⟨e0,d2⟩|1,⟨e0,d2⟩=>exact⟨e0,d2⟩|_+2,c7=>exact c7.elim}
 {
 refine⟨?_,?_,?_,?_,?_,?_,?_,?_,trivial⟩
 {exact cmv λ_ _=>rfl}
 {exact cmv λ_ _=>rfl}
 {refine cp0 λ_ _ _ _ _ _ _ _ _ Z' E' T'=>?_;have E:=E'.add (T' 1);exact cq (ct E rfl) Z' rfl}
 {refine cp0 λ_ _ _ _ _ _ _ _ _ Z' E' T'=>?_;have E:=E'.add (T' 2);exact cq (aK E nW rfl) Z' rfl}
 {refine cp1 λ_ _ _ _ _ M' Q' Z' E' T'=>?_;obtain⟨rfl,rfl⟩:=Q';have E:=E'.add (T' 3);have e9:=KF.R_drop (GS.elem (a1.1.mono (j6 Z M')) f4);exact cq (ru (k:=kAp) (v:=b5) E Z' jw rfl (i:=2) rfl e9 g2) Z' ⟨rfl,zU e9 g2⟩}
 {refine cp1 λ_ _ _ _ _ M' Q' Z' E' _=>?_;obtain⟨rfl,rfl⟩:=Q';exact cr (aM E' Z' iA rfl (i:=0) rfl (aL (kAp.mono (j6 Z M') b0))) Z' λ_ h=>h}
 {refine cp0 λ_ _ _ m' a' _ _ _ _ Z' E' T'=>?_;obtain⟨m9,E,l1⟩:=adv E' (T' 5);refine a8.imp (gA (k:=kAp) (xs:=[x24]) (vs:=[m9]) E Z' rfl underlying22 sizeOf32 zeroValue32 ⟨l1,trivial⟩ rfl (by decide)) ?_;rintro p5 w⟨o3,j2,hS,o0⟩;exact⟨_,j2,(hS.dropT 1),o0⟩}
 {
 refine wZ λq5 L_ T_ m' a' w' l4 M' Q' Z' E' T'=>?_;obtain rfl:=eS l4;obtain⟨rfl,rfl⟩:=Q';obtain⟨q7,h6,n3,i8⟩:∃v,a'.tmps.getD 49 undef=v/\(v=b5/\RV (kSl kAp) m' v g1.fRow):=⟨_,rfl,T' 4 (by decide) 49 rfl⟩
 subst n3;have E:=E'.add (h6);obtain⟨r6,E,g9⟩:=adv E (T' 6 (by decide) 51 rfl);refine a8.imp (iM (k:=kAp) (N:=3518437208883) E Z' rfl rfl underlying22 underlying22 zy (i:=0) rfl i8 g9 l2 rfl rfl) ?_;rintro e1 w⟨q1,j5,hS,k5⟩;exact⟨_,⟨0,e1,[],[],[]⟩,_,_,j5,hS,⟨rfl,rfl⟩,⟨rfl,k5⟩⟩}}
 {
 intro p8 L_ T_ l3 a w k3 e8 h3 hS g8 i4 h5 f0;obtain⟨⟨_,e1,_,_,_⟩,rfl⟩:=A0 k3;obtain⟨rfl,rfl⟩:=h3
 have E:=eof 8 [(0,pz W),(1,.int .i64 p1),(8,pz a6),(9,.pointer (some ⟨J,a0*4,none⟩)),(10,v2),(11,.int .i64 (p2.length:Int)),(12,.int .i64 b1),(38,.bool c1),(39,.int .i64 p1),(40,pz W),(41,pz W),(42,pz W),(43,.int .i64 p0.fColumns),(44,.int .i64 (Z1.wrap (p1-p0.fColumns))),(55,.bool ((Z1.wrap (p1-p0.fColumns))==0)),(56,.bool ((Z1.wrap (p1-p0.fColumns))==0)),(64,.bool ((Z1.wrap (p1-p0.fColumns))==1)),(65,.bool ((Z1.wrap (p1-p0.fColumns))==1)),(76,.bool ((Z1.wrap (p1-p0.fColumns))==2)),(77,.bool ((Z1.wrap (p1-p0.fColumns))==2))] g8 i4 h5
 have E:=E.add (f0 0);obtain⟨p6,j3,c3⟩:∃v,a.tmps.getD 52 undef=v/\(v=e1/\RV (kSl kAp) l3 v d0):=⟨_,rfl,f0 7⟩
 obtain⟨g3,c3⟩:=c3;rw[g3]at c3;have E:=E.add (j3.trans g3);refine sp E (ct E rfl) rfl λa E=>sp E (aK E nW rfl) rfl λa E=>?_;obtain⟨x182,k7,h⟩:=ob h;refine st0 E (GT (k:=ae) (o:=2) E hS jw Gt (a1.mono (j6 Z e8)) k7 rfl rfl c3 (i:=2) rfl) ?_;rintro _ w⟨j1,m6,hS⟩E;refine ag ?_;rw[g4]at hS;have hS:=hS.permT (Li (List.getElem?_eq_some_iff.1 g5).1 TL);exact⟨(a9.set a0 ({x182 with fRow:=d0})),h,_,e8,j1,_,m6,hS,kut E⟩}}}}}
 {rintro a w⟨b4,h,o2,i0,b7,b6,i2,hS,E⟩;unfold cB at h;refine ak (qB E rfl rfl (cp rfl) λa E=>qM E rfl λa E=>ag ?_);exact⟨(Z1.wrap (b1+1),b4),(Option.some.inj h).symm,_,(j6 a5 (j6 Z i0)),b7,b6,(aG _ _),i2,(hS.pickL 3 [1,2] rfl rfl rfl),kut E⟩}}}}
 {have h:=aI c4 h;refine fe rfl rfl ?_;have h:=cg h hb20;exact⟨a9,h,_,a5,a4,a2,a1,hS,E.cut trivial⟩}}};{
 rintro a w⟨x7,h,m5,n1,c0,c2,h1,hS,E⟩;unfold gL at h;refine ab (ak (qA E rfl λa E=>ag (bK ?_)));obtain rfl:=oi h
 try dsimp only
 refine f1 E ?_;exact⟨_,n1,c0,c2,hS,h1,dA⟩}
theorem Vg:Ctr Sz prog 65 [.rd (.st 59)] [.rd (.st 59)] (λx=>kP x.1):=nxR [Np] [.cell 2 59] func65 ntmps65 .o λx=>by kernel_rfl
theorem ym (hS:S W0 m w L TL){p0}(a0:RV ae m v0 p0){r}(h:kP p0=some r):Calls prog 65 #[v0] w (Ret λv w'=>∃m',M.le m m'/\S W0 m' w' L TL/\RV ae m' v r):=by refine rm (Vg W0 m w L TL [v0] (p0,()) r [] [] hS ⟨a0,trivial⟩ h) λv w' Z=>?_;obtain⟨m',us,Lr,Lq,Tr,hm,Z',rfl,hR,hO⟩:=Z;obtain⟨u0,us,rfl,r0,J⟩:=cN hR;obtain⟨rfl,rfl,rfl⟩:=cH J;have W:=cO hO;obtain rfl:=dC W;exact⟨m',hm,Z',r0⟩
theorem Vh:Ctr Sz prog 70 [.rd (.sl (.int .i64)),.rd (.sl (.st 32))] [.ap (.st 32)] (λx=>kQ x.1 x.2.1):=ncR [GC] [4] func70 ntmps70 (.s .o (.s .o (.s (.s .o (.b (.l ⟨[.v 5 1 (.dat (.sl (.st 32)) (some 0)),.v 11 1 (.dat (.int .i64) none)],[1,9,10],0,[4]⟩ .o))) .o))) λx=>by kernel_rfl
theorem s5 (hS:S W0 m w L TL){p0}(a0:RV (kSl (aj .i64)) m v0 p0){p1}(a2:RV (kSl kAp) m v1 p1){r}(h:kQ p0 p1=some r):Calls prog 70 #[v0,v1] w (Ret λv w'=>∃m',M.le m m'/\S W0 m' w' L ((4,v)::TL)/\RV (kSl kAp) m' v r):=by refine rm (Vh W0 m w L TL [v0,v1] (p0,p1,()) r [] [] hS ⟨a0,⟨a2,trivial⟩⟩ h) λv w' Z=>?_;obtain⟨m',us,Lr,Lq,Tr,hm,Z',rfl,hR,hO⟩:=Z;obtain⟨u0,us,Tr,rfl,rfl,r0,J⟩:=Il hR;obtain⟨rfl,rfl,rfl⟩:=cH J;have W:=cO hO;have a1:=cO W;obtain rfl:=dC a1;exact⟨m',hm,Z',r0⟩
theorem Vi:Ctr Sz prog 69 [.rd (.sl (.st 32)),.rd (.sl (.st 32))] [.rd (.int .i64)] (λx=>oy x.1 x.2.1):=ncR [KT,KR] [4] func69 ntmps69 (.s .o (.s (.s .o (.b (.l ⟨[.v 12 1 (.dat (.int .i64) none)],[0,1,11],0,[]⟩ .o))) .o)) λx=>by kernel_rfl
theorem zD (hS:S W0 m w L TL){p0}(a0:RV (kSl kAp) m v0 p0){p1}(a2:RV (kSl kAp) m v1 p1){r}(h:oy p0 p1=some r):Calls prog 69 #[v0,v1] w (Ret λv w'=>∃m',M.le m m'/\S W0 m' w' L TL/\RV (aj .i64) m' v r):=by refine rm (Vi W0 m w L TL [v0,v1] (p0,p1,()) r [] [] hS ⟨a0,⟨a2,trivial⟩⟩ h) λv w' Z=>?_;obtain⟨m',us,Lr,Lq,Tr,hm,Z',rfl,hR,hO⟩:=Z;obtain⟨u0,us,rfl,r0,J⟩:=cN hR;obtain⟨rfl,rfl,rfl⟩:=cH J;have W:=cO hO;have a1:=cO W;obtain rfl:=dC a1;exact⟨m',hm,Z',r0⟩
theorem S4:Ctr Sz prog 174 [.rd (.int .u64)] [.rd .bool] (λx=>lQ x.1):=ncR [] [2] func174 ntmps174 .o λx=>by kernel_rfl
def S5:=mC S4 call174
theorem S6:Ctr Sz prog 129 [.rd (.int .u64),.rd (.int .u64)] [.rd (.int .i64)] (λx=>kt x.1 x.2.1):=ncR [S5] [4] func129 ntmps129 .o λx=>by kernel_rfl
def S7:=mC S6 call129
theorem S8:Ctr Sz prog 175 [.rd (.int .u32)] [.rd .bool] (λx=>lR x.1):=ncR [] [2] func175 ntmps175 .o λx=>by kernel_rfl
def S9:=mC S8 call175
theorem Ta:Ctr Sz prog 130 [.rd (.int .u32),.rd (.int .u32)] [.rd (.int .i64)] (λx=>ku x.1 x.2.1):=ncR [S9] [4] func130 ntmps130 .o λx=>by kernel_rfl
def Tb:=mC Ta call130
theorem Ns:Ctr Sz prog 68 [.rd (.sl (.int .i64))] [.rd (.int .i64)] (λx=>oz x.1):=ncR [] [2] func68 ntmps68 (.s .o (.s .o (.s (.s .o (.b (.l ⟨[.v 8 1 (.dat (.int .i64) none)],[3,6,7],0,[]⟩ .o))) .o))) λx=>by kernel_rfl
def Vj:=mC Ns call68
theorem GK (hS:S W0 m w L TL){p0}(a0:RV (kSl (aj .i64)) m v0 p0){r}(h:oz p0=some r):Calls prog 68 #[v0] w (Ret λv w'=>∃m',M.le m m'/\S W0 m' w' L TL/\RV (aj .i64) m' v r):=by refine rm (Ns W0 m w L TL [v0] (p0,()) r [] [] hS ⟨a0,trivial⟩ h) λv w' Z=>?_;obtain⟨m',us,Lr,Lq,Tr,hm,Z',rfl,hR,hO⟩:=Z;obtain⟨u0,us,rfl,r0,J⟩:=cN hR;obtain⟨rfl,rfl,rfl⟩:=cH J;have W:=cO hO;obtain rfl:=dC W;exact⟨m',hm,Z',r0⟩
theorem Vk:Ctr Sz prog 71 [.rd (.st 57),.rd (.st 57)] [.rd (.int .i64)] (λx=>mg x.1 x.2.1):=ncR [Vj,S7,Tb] [4] func71 ntmps71 .o λx=>by kernel_rfl
theorem CG (hS:S W0 m w L TL){p0}(a0:RV bV m v0 p0){p1}(a2:RV bV m v1 p1){r}(h:mg p0 p1=some r):Calls prog 71 #[v0,v1] w (Ret λv w'=>∃m',M.le m m'/\S W0 m' w' L TL/\RV (aj .i64) m' v r):=by refine rm (Vk W0 m w L TL [v0,v1] (p0,p1,()) r [] [] hS ⟨a0,⟨a2,trivial⟩⟩ h) λv w' Z=>?_;obtain⟨m',us,Lr,Lq,Tr,hm,Z',rfl,hR,hO⟩:=Z;obtain⟨u0,us,rfl,r0,J⟩:=cN hR;obtain⟨rfl,rfl,rfl⟩:=cH J;have W:=cO hO;have a1:=cO W;obtain rfl:=dC a1;exact⟨m',hm,Z',r0⟩
theorem zF (hS:S W0 m w L TL){p0}(e8:RV ae m v0 p0){p1}(c2:RV ae m v1 p1){p2}(a2:PR (kSl (aj .i64)) m v2 p2){r}(h:eV p0 p1 p2=some r):Calls prog 67 #[v0,v1,v2] w (Ret λv w'=>∃m',M.le m m'/\S W0 m' w' L TL/\RV (aj .i64) m' v r):=by
 refine kc func67 ntmps67 λa E=>?_;have E:Env 22 a [(0,v0),(1,v1),(2,v2)]:=E;unfold eV at h;refine ab (ak ?_);refine st E (je (k:=ae) E hS rfl e8) rfl ?_;rintro _ a w⟨b1,h6,rfl,a3,hS⟩E;refine st E (je (k:=ae) E hS rfl c2) rfl ?_;rintro _ a w⟨b5,i0,rfl,a5,hS⟩E;refine qA E rfl λa E=>ag (ab ?_);obtain⟨d2,e1,h7,h1,h⟩:=ob2 h;obtain⟨r24,e4,h⟩:=ob h;refine kch (k:=13) (m:=m) (es:=[]) (Φ:=(λi m ws v=>match i with|0=>RV (kSl (aj .i64)) m v p2|1=>v=(.pointer (some ⟨b1,2,none⟩))|2=>RV (kSl kAp) m v p0.fRow|3=>RV (kSl kAp) m v d2|4=>RV (kSl (aj .i64)) m v p2|5=>v=(.pointer (some ⟨b5,2,none⟩))|6=>RV (kSl kAp) m v p1.fRow|7=>RV (kSl kAp) m v h7|8=>ei .i64 r24 v|9=>v=(pz b1)|10=>RV bV m v p0.fId|11=>v=(pz b5)|12=>RV bV m v p1.fId|_=>True)) (Q:=(λc m ws L' b0=>match c with|0=>(b5,i0)::(b1,h6)::L=L'/\TL=b0|_=>False)) (cs:=[jc [(2,v2)],jc [(3,pz b1)],jc [],jc [],jc [(2,v2)],jc [(4,pz b5)],jc [],jc [],jc [],jc [(3,pz b1)],jc [],jc [(4,pz b5)],jc []]) mixed E hS ⟨rfl,rfl⟩ rfl rfl (by kernel_rfl) ?_ ?_ ?_ ?_;{
 intro i m_ b7 ws v n_ q_
 iterate 13 (rcases i with _|i;first|exact q_|exact RV.mono q_ n_)
 exact trivial};{
 intro c m_ b7 ws L_ T_ n_ a0
 match c,a0 with
 |0,⟨g8,g2⟩=>exact⟨g8,g2⟩|_+1,a0=>exact a0.elim};{
 refine⟨?_,?_,?_,?_,?_,?_,?_,?_,?_,?_,?_,?_,?_,trivial⟩
 {refine cp0 λ_ _ _ _ _ _ _ Z _ J W _=>?_;exact cr (aC W J ri rfl (a2.mono Z)) J λ_ h=>h}
 {refine cp0 λ_ _ _ _ _ _ _ _ _ J W _=>?_;exact cq (aK W nW rfl) J rfl}
 {refine cp1 λ_ _ _ _ _ Z Q' J W T'=>?_;obtain⟨rfl,rfl⟩:=Q';have E:=W.add (T' 1);exact cr (aM E J jw rfl (i:=1) rfl (KF.R_drop (aL (ae.mono Z a3)))) J λ_ h=>h}
 {refine cp0 λ_ _ _ m' a' _ _ _ _ J W T'=>?_;obtain⟨b3,E,f4⟩:=adv W (T' 0);obtain⟨e3,E,f5⟩:=adv E (T' 2);refine a8.imp (aT (vs:=[b3,e3]) E rfl call70 (s5 (hS:=J) f4 f5 e1)) ?_;rintro i4 w⟨j3,d0,hS,e5⟩;exact⟨_,d0,(hS.dropT 1),e5⟩}
 {refine cp0 λ_ _ _ _ _ _ _ Z _ J W _=>?_;exact cr (aC W J ri rfl (a2.mono Z)) J λ_ h=>h}
 {refine cp0 λ_ _ _ _ _ _ _ _ _ J W _=>?_;exact cq (aK W nW rfl) J rfl}
 {refine cp1 λ_ _ _ _ _ Z Q' J W T'=>?_;obtain⟨rfl,rfl⟩:=Q';have E:=W.add (T' 5);exact cr (aM E J jw rfl (i:=0) rfl (KF.R_drop (aL (ae.mono Z a5)))) J λ_ h=>h}
 {refine cp0 λ_ _ _ m' a' _ _ _ _ J W T'=>?_;obtain⟨h8,E,e0⟩:=adv W (T' 4);obtain⟨b4,E,g5⟩:=adv E (T' 6);refine a8.imp (aT (vs:=[h8,b4]) E rfl call70 (s5 (hS:=J) e0 g5 h1)) ?_;rintro j4 w⟨i3,h5,hS,f6⟩;exact⟨_,h5,(hS.dropT 1),f6⟩}
 {refine cp0 λ_ _ _ m' a' _ _ _ _ J W T'=>?_;obtain⟨g9,E,c7⟩:=adv W (T' 3);obtain⟨h2,E,e9⟩:=adv E (T' 7);refine a8.imp (aT (vs:=[g9,h2]) E rfl call69 (zD (hS:=J) c7 e9 e4)) ?_;rintro i2 w⟨k0,c0,hS,a6⟩;obtain⟨rfl,g1⟩:=aF a6;exact⟨_,c0,hS,⟨rfl,g1⟩⟩}
 {refine cp0 λ_ _ _ _ _ _ _ _ _ J W _=>?_;exact cq (aK W lz rfl) J rfl}
 {refine cp1 λ_ _ _ _ _ Z Q' J W T'=>?_;obtain⟨rfl,rfl⟩:=Q';have E:=W.add (T' 9);exact cr (aM E J xZ rfl (i:=1) rfl (sN.R_drop (aL (ae.mono Z a3)))) J λ_ h=>h}
 {refine cp0 λ_ _ _ _ _ _ _ _ _ J W _=>?_;exact cq (aK W lz rfl) J rfl}
 {refine cp1 λ_ _ _ _ _ Z Q' J W T'=>?_;obtain⟨rfl,rfl⟩:=Q';have E:=W.add (T' 11);exact cr (aM E J xZ rfl (i:=0) rfl (sN.R_drop (aL (ae.mono Z a5)))) J λ_ h=>h}};{
 intro j0 L_ T_ k4 a w h4 b6 c5 hS h0 c3 e7 a1;obtain rfl:=eS h4;obtain⟨rfl,rfl⟩:=c5;have E:=eof 13 [(0,v0),(1,v1),(2,v2),(3,pz b1),(4,pz b5),(5,.int .i64 0)] h0 c3 e7;obtain⟨h3,g3⟩:=a1 8;have E:=E.add h3;obtain⟨a9,E,f3⟩:=adv E (a1 10);obtain⟨i1,E,f0⟩:=adv E (a1 12);obtain⟨a4,g0,h⟩:=ob h;refine st E (aT (vs:=[a9,i1]) E rfl call71 (CG (hS:=hS) f3 f0 g0)) rfl ?_;rintro j2 a w⟨j5,c4,hS,d1⟩E;obtain⟨rfl,g6⟩:=aF d1
 refine st E (gA (k:=(aj .i64)) (xs:=[r24,a4]) (vs:=[(.int .i64 r24),(.int .i64 a4)]) E hS rfl underlying49 sizeOf3 zeroValue3 ⟨(ax g3),(ax g6),trivial⟩ rfl (by decide)) rfl ?_;rintro b2 a w⟨i8,c6,hS,g7⟩E;obtain⟨i5,h9,h⟩:=ob h;refine st E (aT (vs:=[b2]) E rfl call68 (GK (hS:=hS) g7 h9)) rfl ?_;rintro k3 a w⟨j1,c1,hS,g4⟩E;obtain⟨rfl,e6⟩:=aF g4;refine qA E rfl λa E=>ag (bK ?_);obtain rfl:=oi h
 try dsimp only
 refine f1 E ?_;exact⟨_,(j6 b6 (j6 c4 (j6 c6 c1))),((hS.dropL 2).dropT 1),(ax e6)⟩}
theorem Td:Ctr Sz prog 171 [.ow (.st 59),.rd (.int .i64),.rd (.int .i64),.f2 (.st 59) (.st 59) (.int .i64)] [] (λx=>cP x.1 x.2.1 x.2.2.1 x.2.2.2.1):=ncR [] [] func171 ntmps171 (.s .o (.b (.l ⟨[.v 8 1 (.dat (.int .i64) none),.a 0 1 (.st 59) none],[0,1,2,3],1,[]⟩ (.s .o (.s (.b (.s .o (.b (.l ⟨[.v 9 2 (.dat (.int .i64) none),.a 0 2 (.st 59) none],[0,1,2,3,8],1,[]⟩ .o)))) .o))))) λx=>by kernel_rfl
def Te:=mC Td call171
theorem Tf:Ctr Sz prog 198 [.ow (.st 59),.rd (.int .i64),.rd (.int .i64),.rd (.int .i64),.f2 (.st 59) (.st 59) (.int .i64)] [] (λx=>cD x.1 x.2.1 x.2.2.1 x.2.2.2.1 x.2.2.2.2.1):=ncR [] [] func198 ntmps198 (.s .o (.b (.l ⟨[.v 10 1 (.dat (.int .i64) none),.a 0 1 (.st 59) none],[0,1,2,3],1,[]⟩ .o))) λx=>by kernel_rfl
def Tg:=mC Tf call198
theorem Th:Ctr Sz prog 185 [.ow (.st 59),.rd (.int .i64),.rd (.int .i64),.rd (.int .i64),.f2 (.st 59) (.st 59) (.int .i64)] [] (λx=>da x.1 x.2.1 x.2.2.1 x.2.2.2.1 x.2.2.2.2.1):=ncR [Tg] [] func185 ntmps185 (.s .o (.s .o (.s (.b (.l ⟨[.v 10 1 (.dat (.int .i64) none),.v 11 1 (.dat (.int .i64) none),.a 0 1 (.st 59) none],[0,2,4],1,[]⟩ .o)) .o))) λx=>by kernel_rfl
def Ti:=mC Th call185
theorem O8 (self:dH Sz [.ow (.st 59),.rd (.int .i64),.rd (.int .i64),.rd (.int .i64),.f2 (.st 59) (.st 59) (.int .i64)]->Option (br Sz (gu [.ow (.st 59),.rd (.int .i64),.rd (.int .i64),.rd (.int .i64),.f2 (.st 59) (.st 59) (.int .i64)] [])))(hs:Ctr Sz prog 172 [.ow (.st 59),.rd (.int .i64),.rd (.int .i64),.rd (.int .i64),.f2 (.st 59) (.st 59) (.int .i64)] [] self):Ctr Sz prog 172 [.ow (.st 59),.rd (.int .i64),.rd (.int .i64),.rd (.int .i64),.f2 (.st 59) (.st 59) (.int .i64)] [] (λx=>d9 (λZ J y2 h W=>self (Z,J,y2,h,W,())) x.1 x.2.1 x.2.2.1 x.2.2.2.1 x.2.2.2.2.1):=ncR [(mC hs call172),Ti] [] func172 ntmps172 (.s (.s .o (.i (.s .o (.s .o (.s (.b (.l ⟨[.v 10 1 (.dat (.int .i64) none),.v 11 1 (.dat (.int .i64) none)],[0,1,4],1,[]⟩ .o)) (.s (.s .o (.b (.l ⟨[.v 13 1 (.dat (.int .i64) none),.a 0 1 (.st 59) none],[0,10],1,[]⟩ .o))) .o)))) .o)) (.s (.s .o (.i (.s .o (.s .o (.s (.b (.l ⟨[.v 14 1 (.dat (.int .i64) none),.v 15 1 (.dat (.int .i64) none)],[0,2,4],1,[]⟩ .o)) (.s (.s .o (.b (.l ⟨[.v 17 1 (.dat (.int .i64) none),.a 0 1 (.st 59) none],[0,14],1,[]⟩ .o))) .o)))) .o)) (.s .o (.s .o (.s .o (.s .o (.s .o (.s (.b (.l ⟨[.v 20 1 (.dat (.int .i64) none),.v 21 1 (.dat (.int .i64) none)],[0,1,2,3,4,18,19,22],1,[]⟩ .o)) .o)))))))) λx=>by kernel_rfl
theorem HQ:∀n:Nat,Ctr Sz prog 172 [.ow (.st 59),.rd (.int .i64),.rd (.int .i64),.rd (.int .i64),.f2 (.st 59) (.st 59) (.int .i64)] [] (λx=>dh n x.1 x.2.1 x.2.2.1 x.2.2.2.1 x.2.2.2.2.1)
 |0=>λW0 m w L TL vs x r Lp Tp hS J h=>nomatch (show(none:Option _)=some r from h)|n+1=>O8 (λx=>dh n x.1 x.2.1 x.2.2.1 x.2.2.2.1 x.2.2.2.2.1) (HQ n)
theorem Tj:Ctr Sz prog 172 [.ow (.st 59),.rd (.int .i64),.rd (.int .i64),.rd (.int .i64),.f2 (.st 59) (.st 59) (.int .i64)] [] (λx=>dD x.1 x.2.1 x.2.2.1 x.2.2.2.1 x.2.2.2.2.1):=λW0 m w L TL vs x r Lp Tp hS J h=>HQ (x.1.length+1) W0 m w L TL vs x r Lp Tp hS J h
def Tk:=mC Tj call172
theorem Tl:Ctr Sz prog 126 [.ow (.st 59),.rd (.int .i64),.f2 (.st 59) (.st 59) (.int .i64)] [] (λx=>iu x.1 x.2.1 x.2.2.1):=ncR [Te,Tk] [] func126 ntmps126 (.s .o (.s .o (.s (.b (.l ⟨[.v 7 1 (.dat (.int .i64) none),.v 8 1 (.dat (.int .i64) none),.a 0 1 (.st 59) none],[0,1,2,6],1,[]⟩ .o)) (.s .o (.b (.l ⟨[.v 6 1 (.dat (.int .i64) none),.a 0 1 (.st 59) none],[0,1,2],1,[]⟩ (.s .o (.b (.s .o (.s (.b (.l ⟨[.v 7 2 (.dat (.int .i64) none),.v 8 2 (.dat (.int .i64) none),.a 0 2 (.st 59) none],[0,1,2,6],1,[]⟩ .o)) .o)))))))))) λx=>by kernel_rfl
def Tn:=mC Tl call126
theorem Vl:Ctr Sz prog 66 [.ow (.st 59),.f2 (.st 59) (.st 59) (.int .i64)] [] (λx=>dL x.1 x.2.1):=ncR [Tn] [] func66 ntmps66 .o λx=>by kernel_rfl
theorem qv  {J:Nat}{Z:List Value}(hS:S W0 m w ((J,Z)::L) (TL)){p0}(a1:GS ae m J Z v0 p0){p1}(a2:Fn2 prog ae ae (aj .i64) m v1 p1){r}(h:dL p0 p1=some r):Calls prog 66 #[v0,v1] w (Ret λv w'=>∃m',M.le m m'/\∃W:List Value,S W0 m' w' ((J,W)::L) (TL)/\GS ae m' J W v0 r):=by refine rm (Vl W0 m w L TL [v0,v1] (p0,p1,()) r [(J,Z)] [] hS ⟨a1,⟨a2,trivial⟩⟩ h) λv w' he=>?_;obtain⟨m',us,Lr,Lq,Tr,hm,Z',rfl,hR,hO⟩:=he;obtain⟨rfl,rfl,rfl⟩:=cH hR;obtain⟨W,Lq,rfl,o0,a0⟩:=Uo hO;have a3:=BQ a0;obtain rfl:=dC a3;exact⟨m',hm,W,Z',o0⟩
theorem Vm{m0:M}{Z:Value}{a0:List Int}(a1:PR (kSl (aj .i64)) m0 Z a0):Fn2 prog ae ae (aj .i64) m0 (.func (.func 67) #[] #[Z]) (λx0 W=>eV x0 W a0):=by refine⟨67,_,rfl,call67,?_⟩;intro W0 m w L TL v0 v1 x0 W r hm hS h0 h hr;refine(zF (hS:=hS) h0 h (a1.mono hm) hr).mono ?_;intro e w' J;cases e with
 |returned v=>obtain⟨m',h,h2,h3⟩:=J;exact⟨m',h,h2,h3⟩|panicked ch=>exact J.elim|outgrown=>exact J.elim
theorem qi (hS:S W0 m w L TL){p0}(c6:RV (kSl (aj .i64)) m v0 p0){p1}(b6:RV (kSl ae) m v1 p1){r}(h:iv p0 p1=some r):Calls prog 27 #[v0,v1] w (Ret λv w'=>∃m',M.le m m'/\S W0 m' w' L TL/\RV (kSl ae) m' v r):=by
 refine kc func27 ntmps27 λa E=>?_;have E:Env 29 a [(0,v0),(1,v1)]:=E;unfold iv at h;refine ab (ak ?_);refine st E (je (k:=(kSl (aj .i64))) E hS rfl c6) rfl ?_;rintro _ a w⟨J,b5,rfl,f6,hS⟩E;refine qA E rfl λa E=>ag (ab (ak (qA E rfl λa E=>ag (ab (ab (ak (qM E rfl λa E=>?_)))))));refine sp E (bq (k:=ae) E rfl rfl underlying50 b6) rfl λa E=>qM E rfl λa E=>ag ?_;refine cA (λa w=>∃a2:(List aa),jj p0 a2=some r/\∃m',M.le m m'/\∃(a4:List Value),∃(a5:Nat),∃(a0:Value),GS ae m' a5 a4 a0 a2/\S W0 m' w ((a5,a4)::(J,b5)::L) (TL)/\Env 29 a [(2,pz J),(5,a0)]) ?_ ?_;{
 refine bj ?_;refine fN h (λ(s:Int×List aa)a w=>∃m',M.le m m'/\∃(W:List Value),∃(a1:Nat),∃(Z:Value),inR .i64 s.1/\GS ae m' a1 W Z s.2/\S W0 m' w ((a1,W)::(J,b5)::L) (TL)/\Env 29 a [(2,pz J),(5,Z),(8,v1),(9,.int .i64 (p1.length:Int)),(10,.int .i64 s.1)]) ?_ ?_
 {exact⟨_,(Z0 _),[],0,(.slice none 0 0),(show inR .i64 0 from az (by decide)),GS.void,(hS.void 0),kut E⟩}
 {
 rintro⟨b2,c1⟩a w⟨g9,a3,W,a1,Z,h4,b7,hS,E⟩r50 h hb51;have h:jk p0 p1 b2 c1=some r50:=h;unfold jk at h;refine ab (ak (qB E rfl rfl cu λa E=>ag (ab (kif E rfl (λa6=>?_) (λa6=>?_)))))
 {
 have h:=aH a6 h;refine a7 (ab (bj (ab (ak ?_))));obtain⟨g7,e0,h⟩:=ob h;refine st E (be (k:=ae) E rfl rfl underlying50 sizeOf59 (b6.mono a3) e0) rfl ?_;rintro g8 a _⟨rfl,f5⟩E;refine st E (aC E hS oZ rfl f5) rfl ?_;rintro h9 a _⟨rfl,c2⟩E;refine st E (cF hS zeroValue59 rfl (cs:=zB)) rfl ?_;rintro _ a w⟨i1,rfl,hS⟩E;refine st0 E (dq E hS oZ bT rfl rfl c2 (i:=0) rfl (vS _)) ?_;rintro _ w⟨h2,e6,hS⟩E;refine ag (ak (qM E rfl λa E=>?_));refine st E (aM E hS oZ rfl (i:=0) rfl (aL e6)) rfl ?_;rintro c3 a _⟨rfl,e4⟩E;obtain⟨e8,g1,h⟩:=ob h
 refine st E (aT (vs:=[c3]) E rfl call65 (ym (hS:=hS) e4 g1)) rfl ?_;rintro f4 a w⟨i2,b4,hS,e1⟩E;refine st E (gA (k:=ae) (xs:=[e8]) (vs:=[f4]) E hS rfl underlying50 sizeOf59 zeroValue59 ⟨e1,trivial⟩ rfl (by decide)) rfl ?_;rintro h1 a w⟨h3,b3,hS,g3⟩E;obtain⟨g0,g6,h⟩:=ob h;refine st E (zP (k:=ae) (N:=2932031007402) E hS rfl rfl underlying50 IT (i:=1) rfl (b7.mono (j6 b4 b3)) (yC hS underlying50 g3) g6 rfl rfl) rfl ?_;rintro e5 a w⟨f0,c7,d2,hS⟩E;refine qA E rfl λa E=>ag (ak (qB E rfl rfl (cp rfl) λa E=>qM E rfl λa E=>ag ?_))
 exact⟨(Z1.wrap (b2+1),g0),(Option.some.inj h).symm,_,(j6 a3 (j6 b4 b3)),c7,f0,e5,(aG _ _),d2,((hS.pickL 3 [1,2] rfl rfl rfl).pickT 1 [] rfl rfl rfl),kut E⟩}
 {have h:=aI a6 h;refine fe rfl rfl ?_;have h:=cg h hb51;exact⟨c1,h,_,a3,W,a1,Z,b7,hS,kut E⟩}}};{
 rintro a w⟨a2,h,i4,c0,a4,a5,a0,e3,hS,E⟩;unfold jj at h;refine ab (ak (qM E rfl λa E=>?_));obtain⟨i0,b0,hS,g5⟩:=S.freezeL (k:=(kSl (aj .i64))) (hS.pickL 2 [1,0] rfl rfl rfl) ((kSl (aj .i64)).mono c0 f6);refine sp E (lE E rfl rfl) rfl λa E=>?_;obtain⟨h6,c4,h⟩:=ob h;refine st E (aT (vs:=[a0,(.func (.func 67) #[] #[(pz J)])]) E rfl call66 (by have d0:=(e3.mono b0);have e9:=(Vm g5);exact qv (p0:=a2) (p1:=(λf3 c5=>eV f3 c5 p0)) (hS:=hS) d0 e9 c4)) rfl ?_;rintro h7 a w⟨h5,g2,i3,hS,d1⟩E;refine ag (ab ?_)
 obtain⟨h0,g4,hS,a9⟩:=S.freeze hS d1;refine ak (qM E rfl λa E=>qM E rfl λa E=>sp E (bq (k:=ae) E rfl rfl underlying50 a9) rfl λa E=>qM E rfl λa E=>sp E (bq (k:=ae) E rfl rfl underlying50 a9) rfl λa E=>?_);refine st E (Ji (k:=ae) E rfl underlying50 sizeOf59 a9 rfl rfl) rfl ?_;rintro h8 a _⟨rfl,e7⟩E;refine qA E rfl λa E=>ag (bK ?_);obtain rfl:=oi h
 try dsimp only
 refine f1 E ?_;exact⟨_,(j6 c0 (j6 b0 (j6 g2 g4))),hS,e7⟩}
theorem Vn:Ctr Sz prog 27 [.rd (.sl (.int .i64)),.rd (.sl (.st 59))] [.rd (.sl (.st 59))] (λx=>iv x.1 x.2.1):=by intro W0 m w L TL vs x r Lp Tp hS Z h;obtain⟨v0,vs,rfl,a0,J⟩:=cT Z;obtain⟨v1,vs,rfl,a1,a2⟩:=cT J;obtain⟨rfl,rfl,rfl⟩:=eT a2;refine rm (qi (hS:=hS) a0 a1 h) λv w' W=>?_;obtain⟨m',hm,Z',r0⟩:=W;exact⟨m',[v],[],[],[],hm,Z',rfl,⟨r0,trivial⟩,trivial⟩
def Vo:=mC Vn call27
theorem To:Ctr Sz prog 138 [.rd (.sl (.st 59)),.rd (.sl (.st 59)),.f2 (.st 59) (.st 59) .bool] [.rd .bool] (λx=>dT x.1 x.2.1 x.2.2.1):=ncR [] [6] func138 ntmps138 (.s .o (.s .o (.s (.s .o (.b (.l ⟨[.v 17 1 (.dat (.int .i64) none)],[1,2,15,16],0,[]⟩ .o))) .o))) λx=>by kernel_rfl
theorem s6 (hS:S W0 m w L TL){p0}(a1:RV (kSl ae) m v0 p0){p1}(a3:RV (kSl ae) m v1 p1){p2}(W:Fn2 prog ae ae cS m v2 p2){r}(h:dT p0 p1 p2=some r):Calls prog 138 #[v0,v1,v2] w (Ret λv w'=>∃m',M.le m m'/\S W0 m' w' L TL/\RV cS m' v r):=by refine rm (To W0 m w L TL [v0,v1,v2] (p0,p1,p2,()) r [] [] hS ⟨a1,⟨a3,⟨W,trivial⟩⟩⟩ h) λv w' he=>?_;obtain⟨m',us,Lr,Lq,Tr,hm,Z',rfl,hR,hO⟩:=he;obtain⟨u0,us,rfl,r0,J⟩:=cN hR;obtain⟨rfl,rfl,rfl⟩:=cH J;have Z:=cO hO;have a2:=cO Z;have a0:=BQ a2;obtain rfl:=dC a0;exact⟨m',hm,Z',r0⟩
theorem Tq:Ctr Sz prog 139 [.rd (.st 59),.rd (.st 59)] [.rd .bool] (λx=>bM x.1 x.2.1):=ncR [] [4] func139 ntmps139 .o λx=>by kernel_rfl
theorem uK (hS:S W0 m w L TL){p0}(a0:RV ae m v0 p0){p1}(a2:RV ae m v1 p1){r}(h:bM p0 p1=some r):Calls prog 139 #[v0,v1] w (Ret λv w'=>∃m',M.le m m'/\S W0 m' w' L TL/\RV cS m' v r):=by refine rm (Tq W0 m w L TL [v0,v1] (p0,p1,()) r [] [] hS ⟨a0,⟨a2,trivial⟩⟩ h) λv w' Z=>?_;obtain⟨m',us,Lr,Lq,Tr,hm,Z',rfl,hR,hO⟩:=Z;obtain⟨u0,us,rfl,r0,J⟩:=cN hR;obtain⟨rfl,rfl,rfl⟩:=cH J;have W:=cO hO;have a1:=cO W;obtain rfl:=dC a1;exact⟨m',hm,Z',r0⟩
theorem Tt{m0:M}:Fn2 prog ae ae cS m0 (.func (.func 139) #[] #[]) bM:=by refine⟨139,_,rfl,call139,?_⟩;intro W0 m w L TL v0 v1 x0 x1 r hm hS h0 h hr;refine(uK (hS:=hS) h0 h hr).mono ?_;intro e w' J;cases e with
 |returned v=>obtain⟨m',h,W,Z⟩:=J;exact⟨m',h,W,Z⟩|panicked ch=>exact J.elim|outgrown=>exact J.elim
theorem wM (hS:S W0 m w L TL){p0}(a0:RV (kPt aJ) m v0 p0){r}(h:eJ p0=some r):Calls prog 86 #[v0] w (Ret λv w'=>∃m',M.le m m'/\S W0 m' w' L TL/\RV cS m' v r):=by
 refine kc func86 ntmps86 λa E=>?_;have E:Env 19 a [(0,v0)]:=E;unfold eJ at h;refine ab (ak (qA E rfl λa E=>ag (ab ?_)));obtain⟨x2,a5,x7,a4,h⟩:=ob2 h;refine kch (k:=8) (m:=m) (es:=[]) (Φ:=(λi m ws v=>match i with|0=>v=v0|1=>v=v0|2=>PR (kSl (aj .i64)) m v x2.fSort|3=>RV (kSl (aj .i64)) m v x2.fSort|4=>v=v0|5=>v=v0|6=>PR (kSl ae) m v x7.fL|7=>RV (kSl ae) m v x7.fL|_=>True)) (Q:=(λc m ws L' b4=>match c with|0=>L=L'/\TL=b4|_=>False)) (cs:=[jc [(0,v0)],jc [],jc [],jc [],jc [(0,v0)],jc [],jc [],jc []]) mixed E hS ⟨rfl,rfl⟩ rfl rfl (by kernel_rfl) ?_ ?_ ?_ ?_;{
 intro i m_ e3 ws v n_ q_
 iterate 8 (rcases i with _|i;first|exact q_|exact PR.mono q_ n_|exact RV.mono q_ n_)
 exact trivial};{
 intro c m_ e3 ws L_ T_ n_ a2
 match c,a2 with
 |0,⟨b0,c5⟩=>exact⟨b0,c5⟩|_+1,a2=>exact a2.elim};{
 refine⟨?_,?_,?_,?_,?_,?_,?_,?_,trivial⟩
 {exact cmv λ_ _=>rfl}
 {refine cp0 λ_ _ _ _ _ _ _ Z _ J W T'=>?_;have E:=W.add (T' 0);exact cq (ld E rfl (a0.mono Z) a5) J rfl}
 {refine cp0 λ_ _ _ _ _ _ _ Z _ J W T'=>?_;have E:=W.add (T' 1);exact cr (bX E oK wI rfl ((mU a0 a5).mono Z)) J λ_ h=>h}
 {
 refine cp0 λ_ _ _ m' a' _ _ _ _ J W T'=>?_;obtain⟨g0,c6,c4⟩:∃v,a'.tmps.getD 6 undef=v/\(PR (kSl (aj .i64)) m' v x2.fSort):=⟨_,rfl,T' 2⟩
 have E:=W.add (c6);exact cr (aC E J ri rfl c4) J λ_ h=>h}
 {exact cmv λ_ _=>rfl}
 {refine cp0 λ_ _ _ _ _ _ _ Z _ J W T'=>?_;have E:=W.add (T' 4);exact cq (ld E rfl (a0.mono Z) a4) J rfl}
 {refine cp0 λ_ _ _ _ _ _ _ Z _ J W T'=>?_;have E:=W.add (T' 5);exact cr (bX E mO qs rfl ((mU a0 a4).mono Z)) J λ_ h=>h}
 {
 refine cp0 λ_ _ _ m' a' _ _ _ _ J W T'=>?_;obtain⟨f6,e4,e8⟩:∃v,a'.tmps.getD 10 undef=v/\(PR (kSl ae) m' v x7.fL):=⟨_,rfl,T' 6⟩
 have E:=W.add (e4);exact cr (aC E J o4 rfl e8) J λ_ h=>h}};{
 intro g3 L_ T_ f5 a w e0 a1 b2 hS e6 c3 c2 a9;obtain rfl:=eS e0;obtain⟨rfl,rfl⟩:=b2;have E:=eof 8 [(0,v0),(2,.bool false)] e6 c3 c2;obtain⟨b3,E,c7⟩:=adv E (a9 3);obtain⟨b7,E,d0⟩:=adv E (a9 7);obtain⟨g1,c1,h⟩:=ob h;refine st E (aT (vs:=[b3,b7]) E rfl call27 (qi (hS:=hS) c7 d0 c1)) rfl ?_;rintro b1 a w⟨b6,a3,hS,b5⟩E;refine qA E rfl λa E=>ag (ab (ak (qM E rfl λa E=>qM E rfl λa E=>?_)));obtain⟨g2,a6,h⟩:=ob h;refine sp E (ld E rfl (a0.mono (j6 a1 a3)) a6) rfl λa E=>?_
 refine st E (bX E mO qs rfl ((mU a0 a6).mono (j6 a1 a3))) rfl ?_;rintro e9 a _⟨rfl,d2⟩E;refine st E (aC E hS o4 rfl d2) rfl ?_;rintro c0 a _⟨rfl,d1⟩E;obtain⟨f0,e7,h⟩:=ob h;refine st E (aT (vs:=[b1,c0,(.func (.func 139) #[] #[])]) E rfl call138 (s6 (hS:=hS) b5 d1 (Tt (m0:=b6)) e7)) rfl ?_;rintro f3 a w⟨f4,e1,hS,e5⟩E;obtain rfl:=fg e5;refine qA E rfl λa E=>ag (bK ?_);obtain rfl:=oi h
 try dsimp only
 refine f1 E ?_;exact⟨_,(j6 a1 (j6 a3 e1)),hS,dA⟩}
theorem Vp:StF KV A6 2 (λx _=>x):=cc (bd (bd bT)) (λ_ _=>rfl)
theorem MO{m:M}{cs:List Value}{x:aq}(h:aJ.R m cs x):KV.R m cs x:=by obtain⟨W,J,Z⟩:=h;refine⟨W,J,?_⟩;obtain⟨a,len,cap,h3,_⟩:=Z;exact⟨_,h3,rfl⟩
theorem O9{m:M}{cs:List Value}{x:aq}{v:Value}{l:List aa}(h:KV.R m cs x)(hc:cs[2]?=some v)(hv:RV (kSl ae) m v l):aJ.R m cs {x with fL:=l}:=by
 obtain⟨h0,h1,h2⟩:=h;refine⟨h0,h1,?_⟩;obtain⟨c,J,_⟩:=h2;have J:(cs.drop 1).drop 1=[c]:=J;rw[List.drop_drop]at J;have:c=v:=by
  have W:(cs.drop 2)[0]?=some c:=by rw[show 2=1+1 from rfl,J];rfl
  rw[List.getElem?_drop,hc]at W;injection W with W;exact W.symm
 subst this;show(kSl ae).R m ((cs.drop 1).drop 1) l;rw[List.drop_drop,J];obtain⟨ds,hR,Z⟩:=hv;have hl:=(kSl ae).len hR;match ds,hl,Z with
 |[d],_,Z=>have:c=d:=Z;subst this;exact hR
theorem wN (hS:S W0 m w L TL){p0}(a1:RV (kSl (aj .u8)) m v0 p0){r}(h:et p0=some r):Calls prog 33 #[v0] w (Ret λv w'=>∃m',M.le m m'/\S W0 m' w' L TL/\∃v0_ v1_:Value,v=.tuple #[v0_,v1_]/\RV (kPt aJ) m' v0_ r.1/\RV (aj .i64) m' v1_ r.2):=by
 refine kc func33 ntmps33 λa E=>?_;have E:Env 120 a [(0,v0)]:=E;unfold et at h;refine ab (ak (qA E rfl λa E=>qA E rfl λa E=>ag (ab (ak (sp E (tU E rfl underlying120 (pl:=[(0,1),(1,1),(2,1)]) rfl zeroValue120) rfl λa E=>?_)))));refine st E (NT (zc:=vp) E hS rfl) rfl ?_;rintro _ a w⟨Z,rfl,hS⟩E;refine qA E rfl λa E=>ag (ab (ab ?_));refine cA (λa w=>∃h3:Bool,gM p0 h3=some r/\∃m',M.le m m'/\S W0 m' w ((Z,vp)::L) (TL)/\Env 120 a [(0,v0),(4,pz Z),(32,.bool h3)]) ?_ ?_;{
 rcases zx (decide ((p0.length:Int)<4))with hd364|hd364
 {
 have h:=aH hd364 h
 refine kch (k:=15) (m:=m) (es:=[]) (Φ:=(λi m ws v=>match i with|0=>v=v0|1=>ei .i64 (p0.length:Int) v|2=>v=(.bool (decide ((p0.length:Int)<4)))|3=>v=(.bool (decide ((p0.length:Int)<4)))|4=>v=undef|5=>v=undef|6=>v=undef|7=>v=undef|8=>v=undef|9=>v=undef|10=>v=undef|11=>v=undef|12=>v=undef|13=>v=undef|14=>v=undef|_=>True)) (Q:=(λc m ws L' b1=>match c with|0=>(Z,vp)::L=L'/\TL=b1|_=>False)) (cs:=[jc [(0,v0)],jc [],jc [],jc [],jc [(0,v0)],jc [(0,v0)],jc [],jc [],jc [],jc [],jc [(0,v0)],jc [(0,v0)],jc [],jc [],jc []]) mixed E hS ⟨rfl,rfl⟩ rfl rfl (by kernel_rfl) ?_ ?_ ?_ ?_
 {
 intro i m_ b3 ws v n_ q_
 iterate 15 (rcases i with _|i;exact q_)
 exact trivial}
 {
 intro c m_ b3 ws L_ T_ n_ a0
 match c,a0 with
 |0,⟨b7,b4⟩=>exact⟨b7,b4⟩|_+1,a0=>exact a0.elim}
 {
 refine⟨?_,?_,?_,?_,?_,?_,?_,?_,?_,?_,?_,?_,?_,?_,?_,trivial⟩
 {exact cmv λ_ _=>rfl}
 {refine cp0 λ_ _ _ _ _ _ _ M' _ J W T'=>?_;have E:=W.add (T' 0);exact cq (bq (k:=(aj .u8)) E rfl rfl underlying24 (a1.mono M')) J ⟨rfl,(eD (jg (a1.mono M')))⟩}
 {refine cp0 λ_ _ _ _ _ _ _ _ _ J W T'=>?_;have E:=W.add (T' 1).1;exact cq (bg E rfl rfl cu) J rfl}
 {refine cp0 λ_ _ _ _ _ _ _ _ _ J W T'=>?_;have E:=W.add (T' 2);exact cq (jd E rfl) J rfl}
 {exact csk (gz hd364)}
 {exact csk (gz hd364)}
 {exact csk (gz hd364)}
 {exact csk (gz hd364)}
 {exact csk (gz hd364)}
 {exact csk (gz hd364)}
 {exact csk (gz hd364)}
 {exact csk (gz hd364)}
 {exact csk (gz hd364)}
 {exact csk (gz hd364)}
 {exact csk (gz hd364)}}
 {intro g0 L_ T_ co a w r3 j4 z7 hS r4 p7 y0 h0;obtain rfl:=eS r3;obtain⟨rfl,rfl⟩:=z7;have E:=eof 15 [(0,v0),(2,.pointer none),(3,.int .i64 0),(4,pz Z),(12,(.agg vp.toArray)),(13,pz Z)] r4 p7 y0;have E:=((E.add (h0 3)).add (h0 9)).add (h0 14);refine qX E hd364 λa E=>qX E hd364 λa E=>qX E hd364 λa E=>qT E hd364 rfl λa E=>ag ?_;exact⟨true,h,_,j4,hS,kut E⟩}}
 {
 have h:=aI hd364 h;obtain⟨z8,m1,i2,t4,h⟩:=ob2 h;obtain⟨r1,p3,h⟩:=ob h
 refine kch (k:=15) (m:=m) (es:=[]) (Φ:=(λi m ws v=>match i with|0=>v=v0|1=>ei .i64 (p0.length:Int) v|2=>v=(.bool (decide ((p0.length:Int)<4)))|3=>v=(.bool (decide ((p0.length:Int)<4)))|4=>v=v0|5=>v=v0|6=>ei .i64 (p0.length:Int) v|7=>ei .i64 (Z1.wrap ((p0.length:Int)-4)) v|8=>RV (kSl (aj .u8)) m v z8|9=>ei .i64 i2 v|10=>v=v0|11=>v=v0|12=>ei .i64 (p0.length:Int) v|13=>ei .i64 (Z1.wrap ((p0.length:Int)-4)) v|14=>RV (kSl (aj .u8)) m v r1|_=>True)) (Q:=(λc m ws L' b1=>match c with|0=>(Z,vp)::L=L'/\TL=b1|_=>False)) (cs:=[jc [(0,v0)],jc [],jc [],jc [],jc [(0,v0)],jc [(0,v0)],jc [],jc [],jc [],jc [],jc [(0,v0)],jc [(0,v0)],jc [],jc [],jc []]) mixed E hS ⟨rfl,rfl⟩ rfl rfl (by kernel_rfl) ?_ ?_ ?_ ?_
 {
 intro i m_ b3 ws v n_ q_
 iterate 15 (rcases i with _|i;first|exact q_|exact RV.mono q_ n_)
 exact trivial}
 {
 intro c m_ b3 ws L_ T_ n_ a0
 match c,a0 with
 |0,⟨b7,b4⟩=>exact⟨b7,b4⟩|_+1,a0=>exact a0.elim}
 {
 refine⟨?_,?_,?_,?_,?_,?_,?_,?_,?_,?_,?_,?_,?_,?_,?_,trivial⟩
 {exact cmv λ_ _=>rfl}
 {refine cp0 λ_ _ _ _ _ _ _ M' _ J W T'=>?_;have E:=W.add (T' 0);exact cq (bq (k:=(aj .u8)) E rfl rfl underlying24 (a1.mono M')) J ⟨rfl,(eD (jg (a1.mono M')))⟩}
 {refine cp0 λ_ _ _ _ _ _ _ _ _ J W T'=>?_;have E:=W.add (T' 1).1;exact cq (bg E rfl rfl cu) J rfl}
 {refine cp0 λ_ _ _ _ _ _ _ _ _ J W T'=>?_;have E:=W.add (T' 2);exact cq (jd E rfl) J rfl}
 {exact cgm (gz hd364) (λ_ _=>rfl)}
 {exact cgm (gz hd364) (λ_ _=>rfl)}
 {refine cg0 (gz hd364) λ_ _ _ _ _ _ _ M' _ J W T'=>?_;have E:=W.add (T' 5);exact cq (bq (k:=(aj .u8)) E rfl rfl underlying24 (a1.mono M')) J ⟨rfl,(eD (jg (a1.mono M')))⟩}
 {refine cg0 (gz hd364) λ_ _ _ _ _ _ _ _ _ J W T'=>?_;have E:=W.add (T' 6).1;exact cq (bg E rfl rfl (kf rfl)) J ⟨rfl,(aG _ _)⟩}
 {refine cg0 (gz hd364) λ_ _ _ _ _ _ _ M' _ J W T'=>?_;have E:=(W.add (T' 4)).add (T' 7).1;exact cr (dy (k:=(aj .u8)) E rfl underlying24 sizeOf5 (a1.mono M') ⟨_,rfl⟩ rfl m1 (xl:=(some (.tmp 21))) (xh:=none)) J λ_ h=>h}
 {refine cg0 (gz hd364) λ_ _ _ m' a' _ _ _ _ J W T'=>?_;obtain⟨j2,E,z9⟩:=adv W (T' 8);refine a8.imp (aT (vs:=[j2]) E rfl call82 (ma (hS:=J) z9 t4)) ?_;rintro de w⟨W1,n2,hS,n0⟩;obtain⟨rfl,r0⟩:=aF n0;exact⟨_,n2,hS,⟨rfl,r0⟩⟩}
 {exact cgm (gz hd364) (λ_ _=>rfl)}
 {exact cgm (gz hd364) (λ_ _=>rfl)}
 {refine cg0 (gz hd364) λ_ _ _ _ _ _ _ M' _ J W T'=>?_;have E:=W.add (T' 11);exact cq (bq (k:=(aj .u8)) E rfl rfl underlying24 (a1.mono M')) J ⟨rfl,(eD (jg (a1.mono M')))⟩}
 {refine cg0 (gz hd364) λ_ _ _ _ _ _ _ _ _ J W T'=>?_;have E:=W.add (T' 12).1;exact cq (bg E rfl rfl (kf rfl)) J ⟨rfl,(aG _ _)⟩}
 {refine cg0 (gz hd364) λ_ _ _ _ _ _ _ M' _ J W T'=>?_;have E:=(W.add (T' 10)).add (T' 13).1;exact cr (dy (k:=(aj .u8)) E rfl underlying24 sizeOf5 (a1.mono M') rfl ⟨_,rfl⟩ p3 (xl:=none) (xh:=(some (.tmp 27)))) J λ_ h=>h}}
 {
 intro g0 L_ T_ ar a w x1 m4 k5 hS r8 y2 z4 g4;obtain rfl:=eS x1;obtain⟨rfl,rfl⟩:=k5;have E:=eof 15 [(0,v0),(2,.pointer none),(3,.int .i64 0),(4,pz Z),(12,(.agg vp.toArray)),(13,pz Z)] r8 y2 z4;have E:=(E.add (g4 3)).add (g4 9).1;obtain⟨x4,E,q4⟩:=adv E (g4 14);obtain⟨B0,z3,h⟩:=ob h;refine stg E rfl rfl rfl rfl hd364 (aT (vs:=[x4]) E rfl call78 (G8 (hS:=hS) q4 z3)) rfl ?_;rintro V2 a w⟨ap,m2,hS,u1⟩E;obtain⟨rfl,ad⟩:=aF u1
 refine spg E rfl rfl rfl rfl hd364 (fC E rfl underlying55 underlying3 rfl) rfl λa E=>spg E rfl rfl rfl rfl hd364 (bg E rfl rfl mS) rfl λa E=>qF E hd364 rfl λa E=>ag ?_;exact⟨(i2 !=(Z1.wrap B0)),h,_,(j6 m4 m2),hS,kut E⟩}}};{
 rintro a w⟨h3,h,m8,a6,hS,E⟩;unfold gM at h;refine kif E rfl (λf3=>?_) (λf3=>?_)
 {
 have h:=aH f3 h;refine ab (ak (qA E rfl λa E=>qA E rfl λa E=>ag (bK ?_)));obtain rfl:=oi h
 try dsimp only
 refine f2 E ?_;exact⟨_,a6,(hS.dropL 1),_,_,rfl,(yF (m:=m8) (k:=aJ)),(ax (show inR .i64 80 from az (by decide)))⟩}
 {
 have h:=aI f3 h;refine a7 (ab (ak (qM E rfl λa E=>qM E rfl λa E=>qM E rfl λa E=>sp E (bq (k:=(aj .u8)) E rfl rfl underlying24 (a1.mono a6)) rfl λa E=>qB E rfl rfl (kf rfl) λa E=>?_)));obtain⟨ca,t0,h⟩:=ob h;refine st E (dy (k:=(aj .u8)) E rfl underlying24 sizeOf5 (a1.mono a6) rfl ⟨_,rfl⟩ t0 (xl:=none) (xh:=(some (.tmp 38)))) rfl ?_;rintro q0 a _⟨rfl,k4⟩E;obtain⟨r24,s2,h⟩:=ob h;refine st E (aT (vs:=[(pz Z),q0]) E rfl call83 (yp (hS:=hS) k4 s2)) rfl ?_;rintro _ a w⟨e7,d0,av,hS,w1,W2,r9,al,rfl,l4,q3,w3⟩E
 obtain⟨rfl,p6⟩:=aF l4;obtain rfl:=fg w3;refine qM E rfl λa E=>sp E (bQ E rfl rfl) rfl λa E=>sp E (bQ E rfl rfl) rfl λa E=>sp E (bQ E rfl rfl) rfl λa E=>qA E rfl λa E=>qA E rfl λa E=>qA E rfl λa E=>ag (ab (ab ?_));refine ak (qM E rfl λa E=>sp E (lD E rfl) rfl λa E=>ag (kif E rfl (λg9=>?_) (λg9=>?_)))
 {
 have h:=aH g9 h;refine ab (ak (qA E rfl λa E=>qA E rfl λa E=>ag (bK ?_)));obtain rfl:=oi h
 try dsimp only
 refine f2 E ?_;exact⟨_,(j6 a6 d0),(hS.dropL 1),_,_,rfl,(yF (m:=e7) (k:=aJ)),(ax (show inR .i64 80 from az (by decide)))⟩}
 {
 have h:=aI g9 h;refine a7 (ab (ak (qM E rfl λa E=>qM E rfl λa E=>?_)));obtain⟨V1,z5,h⟩:=ob h;refine st E (Lj (k:=ae) (o:=2) (sz:=4) (m:=e7) E hS rfl rfl underlying50 type59 rfl rfl rfl (λm=>vS m) z5 rfl rfl rfl) rfl ?_;rintro h4 a w⟨b6,k6,x9,i5,hS⟩E;refine sp E (ct E rfl) rfl λa E=>sp E (aK E mO rfl) rfl λa E=>?_;refine st0 E (Jn E hS Nr Vp rfl rfl i5.1.one (i:=1) rfl (MO w1)) ?_;rintro _ w⟨d2,g7,i4,hS⟩E;refine ag (ab (ab (ak (qM E rfl λa E=>sp E (ct E rfl) rfl λa E=>sp E (aK E qt rfl) rfl λa E=>?_))))
 refine st E (aM E hS ty3 rfl (i:=1) rfl (XH.R_drop (aL g7))) rfl ?_;rintro bx a _⟨rfl,l1⟩E;obtain⟨rfl,ac⟩:=aF l1;refine qB E rfl rfl (cp rfl) λa E=>qM E rfl λa E=>ag ?_;refine cA (λa w=>∃a2:(List Int),∃d1:(List aa),eO r24 a2 d1=some r/\∃m',M.le e7 m'/\∃(a3:Value),∃(h6:List Value),∃(g5:List Value),RV (kSl (aj .u8)) m' a3 a2/\GR ae 2 m' b6 g5 h4 d1 h6/\S W0 m' w ((b6,g5)::(Z,d2)::L) (tls 4 h6++TL)/\Env 120 a [(4,pz Z),(6,a3)]) ?_ ?_
 {
 refine bj ?_;refine fN h (λ(s:List Int×Int×List aa)a w=>∃m',M.le e7 m'/\∃(a9:Value),∃(c2:List Value),∃(c3:List Value),RV (kSl (aj .u8)) m' a9 s.1/\inR .i64 s.2.1/\GR ae 2 m' b6 c3 h4 s.2.2 c2/\S W0 m' w ((b6,c3)::(Z,d2)::L) (tls 4 c2++TL)/\Env 120 a [(4,pz Z),(5,.int .i64 r24.1),(6,a9),(55,.int .i64 (Z1.wrap (r24.2.2.2.fColumns+3))),(56,.int .i64 s.2.1)]) ?_ ?_
 {exact⟨_,(Z0 _),r9,x9,k6,q3,(show inR .i64 0 from az (by decide)),i5,hS,kut E⟩}
 {
 rintro⟨c5,a5,e8⟩a w⟨m5,c7,a9,c2,c3,b2,x8,f4,hS,E⟩r261 h hb262;have h:bF r24 c5 a5 e8=some r261:=h;unfold bF at h;refine ab (ak (qB E rfl rfl cu λa E=>ag (ab (kif E rfl (λg6=>?_) (λg6=>?_)))))
 {
 have h:=aH g6 h;refine a7 (ab (bj (ab (ak (qM E rfl λa E=>qA E rfl λa E=>ag (ab (ab ?_)))))));refine cA (λa w=>∃g8:Bool,eP r24 c5 a5 e8 g8=some r261/\∃m',M.le m5 m'/\S W0 m' w ((b6,c3)::(Z,d2)::L) (tls 4 c2++TL)/\Env 120 a [(4,pz Z),(5,.int .i64 r24.1),(6,a9),(8,.int .i64 a5),(55,.int .i64 (Z1.wrap (r24.2.2.2.fColumns+3))),(56,.int .i64 a5),(69,.bool g8)]) ?_ ?_
 {
 refine ak (qM E rfl λa E=>sp E (bq (k:=(aj .u8)) E rfl rfl underlying24 b2) rfl λa E=>qB E rfl rfl cu λa E=>qM E rfl λa E=>?_);rcases zx (decide ((c5.length:Int)<4))with hd349|hd349
 {have h:=aH hd349 h;refine qX E hd349 λa E=>qX E hd349 λa E=>qX E hd349 λa E=>qX E hd349 λa E=>qX E hd349 λa E=>qX E hd349 λa E=>qT E hd349 rfl λa E=>ag ?_;exact⟨true,h,_,(Z0 _),hS,kut E⟩}
 {have h:=aI hd349 h;refine qG E hd349 rfl λa E=>spg E rfl rfl rfl rfl hd349 (bq (k:=(aj .u8)) E rfl rfl underlying24 b2) rfl λa E=>qG E hd349 rfl λa E=>?_;obtain⟨U1,k7,h⟩:=ob h;refine stg E rfl rfl rfl rfl hd349 (aT (vs:=[a9]) E rfl call82 (ma (hS:=hS) b2 k7)) rfl ?_;rintro ba a w⟨bt,q1,hS,u2⟩E;obtain⟨rfl,an⟩:=aF u2;refine spg E rfl rfl rfl rfl hd349 (bg E rfl rfl (cp rfl)) rfl λa E=>spg E rfl rfl rfl rfl hd349 (bg E rfl rfl cu) rfl λa E=>qF E hd349 rfl λa E=>ag ?_;exact⟨(decide ((c5.length:Int)<(Z1.wrap (4+U1)))),h,_,q1,hS,kut E⟩}}
 {
 rintro a w⟨g8,h,t1,a4,hS,E⟩;unfold eP at h;refine kif E rfl (λh2=>?_) (λh2=>?_)
 {
 have h:=aH h2 h;refine ab (ak (qA E rfl λa E=>qA E rfl λa E=>ag (bK ?_)));have h:=cg h hb262;obtain rfl:=oi h
 try dsimp only
 refine f2 E ?_;exact⟨_,(j6 a6 (j6 d0 (j6 c7 a4))),(S.dropR (hS.dropL 2)),_,_,rfl,(yF (m:=t1) (k:=aJ)),(ax (show inR .i64 80 from az (by decide)))⟩}
 {
 have h:=aI h2 h;refine a7 (ab (ak (qM E rfl λa E=>?_)));obtain⟨i1,z0,h⟩:=ob h;refine st E (aT (vs:=[a9]) E rfl call82 (ma (hS:=hS) (b2.mono a4) z0)) rfl ?_;rintro X1 a w⟨af,c1,hS,j1⟩E;obtain⟨rfl,ch⟩:=aF j1;refine qA E rfl λa E=>ag (ab (ak (qM E rfl λa E=>qM E rfl λa E=>qB E rfl rfl (cp rfl) λa E=>?_)));obtain⟨bk,t9,h⟩:=ob h;refine st E (dy (k:=(aj .u8)) E rfl underlying24 sizeOf5 (b2.mono (j6 a4 c1)) ⟨_,rfl⟩ ⟨_,rfl⟩ t9 (xl:=(some (.const (.int .i64 4)))) (xh:=(some (.tmp 75)))) rfl ?_;rintro x3 a _⟨rfl,m9⟩E
 refine qM E rfl λa E=>?_;obtain⟨r7,q7,h⟩:=ob h;refine st E (aT (vs:=[x3,(.int .i64 r24.1)]) E rfl call84 (Bv (hS:=hS) m9 p6 q7)) rfl ?_;rintro _ a w⟨I2,c4,hS,y4,dg,rfl,u0,y1⟩E;obtain rfl:=fg y1;refine qM E rfl λa E=>sp E (bQ E rfl rfl) rfl λa E=>sp E (bQ E rfl rfl) rfl λa E=>qA E rfl λa E=>qA E rfl λa E=>ag (ab (ab ?_))
 refine cA (λa w=>∃x307:Bool,∃e0:(List aa),fu c5 a5 i1 x307 e0=some r261/\∃m',M.le I2 m'/\∃(e9:List Value),∃(e5:List Value),GR ae 2 m' b6 e5 h4 e0 e9/\S W0 m' w ((b6,e5)::(Z,d2)::L) (tls 4 e9++TL)/\Env 120 a [(4,pz Z),(5,.int .i64 r24.1),(6,a9),(9,.int .i64 i1),(55,.int .i64 (Z1.wrap (r24.2.2.2.fColumns+3))),(56,.int .i64 a5),(89,.bool x307)]) ?_ ?_
 {
 refine ak (qM E rfl λa E=>sp E (lD E rfl) rfl λa E=>qM E rfl λa E=>?_);rcases zx (!r7.2)with hd329|hd329
 {have h:=aH hd329 h;refine qX E hd329 λa E=>qX E hd329 λa E=>qX E hd329 λa E=>qX E hd329 λa E=>qX E hd329 λa E=>qT E hd329 rfl λa E=>ag ?_;exact⟨true,e8,h,_,(Z0 _),c2,c3,(f4.mono (j6 a4 (j6 c1 c4))),hS,kut E⟩}
 {
 have h:=aI hd329 h;refine qG E hd329 rfl λa E=>qG E hd329 rfl λa E=>qG E hd329 rfl λa E=>?_;obtain⟨i0,x7,h⟩:=ob h;refine stg E rfl rfl rfl rfl hd329 (aT (vs:=[(pz Z),(.int .i64 a5),y4]) E rfl call85 (yr (hS:=(hS.pickL 2 [1,0] rfl rfl rfl)) (KV.mono (j6 c7 (j6 a4 (j6 c1 c4))) g7) i4 (f4.mono (j6 a4 (j6 c1 c4))) x8 u0 x7)) rfl ?_;rintro cn a w⟨W9,r5,r6,n3,hS,U2,l2⟩E;obtain rfl:=fg l2;refine spg E rfl rfl rfl rfl hd329 (lD E rfl) rfl λa E=>qF E hd329 rfl λa E=>ag ?_
 exact⟨(!i0.1),i0.2,h,_,r5,n3,r6,U2,(hS.pickL 2 [1,0] rfl rfl rfl),kut E⟩}}
 {
 rintro a w⟨x307,e0,h,w2,h7,e9,e5,w4,hS,E⟩;unfold fu at h;refine kif E rfl (λh8=>?_) (λh8=>?_)
 {
 have h:=aH h8 h;refine ab (ak (qA E rfl λa E=>qA E rfl λa E=>ag (bK ?_)));have h:=cg h hb262;obtain rfl:=oi h
 try dsimp only
 refine f2 E ?_;exact⟨_,(j6 a6 (j6 d0 (j6 c7 (j6 a4 (j6 c1 (j6 c4 h7)))))),(S.dropR (hS.dropL 2)),_,_,rfl,(yF (m:=w2) (k:=aJ)),(ax (show inR .i64 80 from az (by decide)))⟩}
 {have h:=aI h8 h;refine a7 (ak (qM E rfl λa E=>qM E rfl λa E=>qB E rfl rfl (cp rfl) λa E=>?_));obtain⟨j0,s3,h⟩:=ob h;refine st E (dy (k:=(aj .u8)) E rfl underlying24 sizeOf5 (b2.mono (j6 a4 (j6 c1 (j6 c4 h7)))) ⟨_,rfl⟩ rfl s3 (xl:=(some (.tmp 92))) (xh:=none)) rfl ?_;rintro p5 a _⟨rfl,z1⟩E;refine qA E rfl λa E=>ag (ak (qB E rfl rfl (cp rfl) λa E=>qM E rfl λa E=>ag ?_));exact⟨(j0,Z1.wrap (a5+1),e0),(Option.some.inj h).symm,_,(j6 c7 (j6 a4 (j6 c1 (j6 c4 h7)))),p5,e9,e5,z1,(aG _ _),w4,hS,kut E⟩}}}}}
 {have h:=aI g6 h;refine fe rfl rfl ?_;have h:=cg h hb262;exact⟨c5,e8,h,_,c7,a9,c2,c3,b2,f4,hS,kut E⟩}}}
 {
 rintro a w⟨a2,d1,h,bl,g3,a3,h6,g5,e4,m7,hS,E⟩;unfold eO at h;refine ab (ab ?_);have hS:=S.dropR hS;obtain⟨cv,c0,hS,T1⟩:=S.freeze hS m7.1;obtain⟨g2,c6,hS,b0⟩:=S.freezeL (k:=aJ) (xx:=({r24.2.2.2 with fL:=d1})) hS (O9 (KV.mono (j6 g3 c0) g7) i4 T1);refine cA (λa w=>∃f0:Bool,kw r24 d1 f0=some r/\∃m',M.le g2 m'/\S W0 m' w L TL/\Env 120 a [(4,pz Z),(118,.bool f0)]) ?_ ?_
 {
 rcases zx (decide (0<(a2.length:Int)))with hd100|hd100
 {
 have h:=aH hd100 h
 refine kch (k:=16) (m:=g2) (es:=[]) (Φ:=(λi m ws v=>match i with|0=>v=a3|1=>ei .i64 (a2.length:Int) v|2=>v=(.bool (decide (0<(a2.length:Int))))|3=>v=(.bool (decide (0<(a2.length:Int))))|4=>v=undef|5=>v=undef|6=>v=undef|7=>v=undef|8=>v=undef|9=>v=undef|10=>v=undef|11=>v=undef|12=>v=undef|13=>v=undef|14=>v=undef|15=>v=undef|_=>True)) (Q:=(λc m ws L' b1=>match c with|0=>L=L'/\TL=b1|_=>False)) (cs:=[jc [(6,a3)],jc [],jc [],jc [],jc [(4,pz Z)],jc [],jc [],jc [],jc [(4,pz Z)],jc [],jc [],jc [],jc [(4,pz Z)],jc [],jc [],jc []]) mixed E hS ⟨rfl,rfl⟩ rfl rfl (by kernel_rfl) ?_ ?_ ?_ ?_
 {
 intro i m_ b3 ws v n_ q_
 iterate 16 (rcases i with _|i;exact q_)
 exact trivial}
 {
 intro c m_ b3 ws L_ T_ n_ a0
 match c,a0 with
 |0,⟨b7,b4⟩=>exact⟨b7,b4⟩|_+1,a0=>exact a0.elim}
 {
 refine⟨?_,?_,?_,?_,?_,?_,?_,?_,?_,?_,?_,?_,?_,?_,?_,?_,trivial⟩
 {exact cmv λ_ _=>rfl}
 {refine cp0 λ_ _ _ _ _ _ _ M' _ J W T'=>?_;have E:=W.add (T' 0);exact cq (bq (k:=(aj .u8)) E rfl rfl underlying24 (e4.mono (j6 c0 (j6 c6 M')))) J ⟨rfl,(eD (jg (e4.mono (j6 c0 (j6 c6 M')))))⟩}
 {refine cp0 λ_ _ _ _ _ _ _ _ _ J W T'=>?_;have E:=W.add (T' 1).1;exact cq (bg E rfl rfl lC) J rfl}
 {refine cp0 λ_ _ _ _ _ _ _ _ _ J W T'=>?_;have E:=W.add (T' 2);exact cq (jd E rfl) J rfl}
 {exact csk (gz hd100)}
 {exact csk (gz hd100)}
 {exact csk (gz hd100)}
 {exact csk (gz hd100)}
 {exact csk (gz hd100)}
 {exact csk (gz hd100)}
 {exact csk (gz hd100)}
 {exact csk (gz hd100)}
 {exact csk (gz hd100)}
 {exact csk (gz hd100)}
 {exact csk (gz hd100)}
 {exact csk (gz hd100)}}
 {intro g0 L_ T_ X0 a w o2 o3 k3 hS w0 o0 x2 e6;obtain rfl:=eS o2;obtain⟨rfl,rfl⟩:=k3;have E:=eof 16 [(4,pz Z),(6,a3)] w0 o0 x2;have E:=(((E.add (e6 3)).add (e6 7)).add (e6 11)).add (e6 15);refine qX E hd100 λa E=>qX E hd100 λa E=>qT E hd100 rfl λa E=>qM E rfl λa E=>qX E rfl λa E=>qX E rfl λa E=>qX E rfl λa E=>qT E rfl rfl λa E=>ag ?_;exact⟨true,h,_,o3,hS,kut E⟩}}
 {
 have h:=aI hd100 h;obtain⟨e3,i3,x144,h9,h⟩:=ob2 h;obtain⟨g1,i8,h⟩:=ob h
 refine kch (k:=16) (m:=g2) (es:=[]) (Φ:=(λi m ws v=>match i with|0=>v=a3|1=>ei .i64 (a2.length:Int) v|2=>v=(.bool (decide (0<(a2.length:Int))))|3=>v=(.bool (decide (0<(a2.length:Int))))|4=>v=(pz Z)|5=>v=(pz Z)|6=>PR (aj .i64) m v e3.fColumns|7=>ei .i64 e3.fColumns v|8=>v=(pz Z)|9=>v=(pz Z)|10=>PR (kSl (aj .i64)) m v x144.fSort|11=>RV (kSl (aj .i64)) m v x144.fSort|12=>v=(pz Z)|13=>v=(pz Z)|14=>PR (kSl ae) m v g1.fL|15=>RV (kSl ae) m v g1.fL|_=>True)) (Q:=(λc m ws L' b1=>match c with|0=>L=L'/\TL=b1|_=>False)) (cs:=[jc [(6,a3)],jc [],jc [],jc [],jc [(4,pz Z)],jc [],jc [],jc [],jc [(4,pz Z)],jc [],jc [],jc [],jc [(4,pz Z)],jc [],jc [],jc []]) mixed E hS ⟨rfl,rfl⟩ rfl rfl (by kernel_rfl) ?_ ?_ ?_ ?_
 {
 intro i m_ b3 ws v n_ q_
 iterate 16 (rcases i with _|i;first|exact q_|exact PR.mono q_ n_|exact RV.mono q_ n_)
 exact trivial}
 {
 intro c m_ b3 ws L_ T_ n_ a0
 match c,a0 with
 |0,⟨b7,b4⟩=>exact⟨b7,b4⟩|_+1,a0=>exact a0.elim}
 {
 refine⟨?_,?_,?_,?_,?_,?_,?_,?_,?_,?_,?_,?_,?_,?_,?_,?_,trivial⟩
 {exact cmv λ_ _=>rfl}
 {refine cp0 λ_ _ _ _ _ _ _ M' _ J W T'=>?_;have E:=W.add (T' 0);exact cq (bq (k:=(aj .u8)) E rfl rfl underlying24 (e4.mono (j6 c0 (j6 c6 M')))) J ⟨rfl,(eD (jg (e4.mono (j6 c0 (j6 c6 M')))))⟩}
 {refine cp0 λ_ _ _ _ _ _ _ _ _ J W T'=>?_;have E:=W.add (T' 1).1;exact cq (bg E rfl rfl lC) J rfl}
 {refine cp0 λ_ _ _ _ _ _ _ _ _ J W T'=>?_;have E:=W.add (T' 2);exact cq (jd E rfl) J rfl}
 {exact cgm (gz hd100) (λ_ _=>rfl)}
 {refine cg0 (gz hd100) λ_ _ _ _ _ _ _ M' _ J W T'=>?_;have E:=W.add (T' 4);exact cq (ld E rfl ((uQ b0).mono M') i3) J rfl}
 {refine cg0 (gz hd100) λ_ _ _ _ _ _ _ M' _ J W T'=>?_;have E:=W.add (T' 5);exact cr (bX E qt HM rfl ((mU (uQ b0) i3).mono M')) J λ_ h=>h}
 {
 refine cg0 (gz hd100) λ_ _ _ m' a' _ _ _ _ J W T'=>?_;obtain⟨bc,p4,k0⟩:∃v,a'.tmps.getD 101 undef=v/\(PR (aj .i64) m' v e3.fColumns):=⟨_,rfl,T' 6⟩
 have E:=W.add (p4);exact cr (aC E J ty3 rfl k0) J λ_ h=>aF h}
 {exact cgm (gz hd100) (λ_ _=>rfl)}
 {refine cg0 (gz hd100) λ_ _ _ _ _ _ _ M' _ J W T'=>?_;have E:=W.add (T' 8);exact cq (ld E rfl ((uQ b0).mono M') h9) J rfl}
 {refine cg0 (gz hd100) λ_ _ _ _ _ _ _ M' _ J W T'=>?_;have E:=W.add (T' 9);exact cr (bX E oK wI rfl ((mU (uQ b0) h9).mono M')) J λ_ h=>h}
 {
 refine cg0 (gz hd100) λ_ _ _ m' a' _ _ _ _ J W T'=>?_;obtain⟨bo,q2,n6⟩:∃v,a'.tmps.getD 105 undef=v/\(PR (kSl (aj .i64)) m' v x144.fSort):=⟨_,rfl,T' 10⟩
 have E:=W.add (q2);exact cr (aC E J ri rfl n6) J λ_ h=>h}
 {exact cgm (gz hd100) (λ_ _=>rfl)}
 {refine cg0 (gz hd100) λ_ _ _ _ _ _ _ M' _ J W T'=>?_;have E:=W.add (T' 12);exact cq (ld E rfl ((uQ b0).mono M') i8) J rfl}
 {refine cg0 (gz hd100) λ_ _ _ _ _ _ _ M' _ J W T'=>?_;have E:=W.add (T' 13);exact cr (bX E mO qs rfl ((mU (uQ b0) i8).mono M')) J λ_ h=>h}
 {
 refine cg0 (gz hd100) λ_ _ _ m' a' _ _ _ _ J W T'=>?_;obtain⟨bs,m6,l3⟩:∃v,a'.tmps.getD 109 undef=v/\(PR (kSl ae) m' v g1.fL):=⟨_,rfl,T' 14⟩
 have E:=W.add (m6);exact cr (aC E J o4 rfl l3) J λ_ h=>h}}
 {
 intro g0 L_ T_ df a w j3 f5 t3 hS j5 s1 y3 e1;obtain rfl:=eS j3;obtain⟨rfl,rfl⟩:=t3;have E:=eof 16 [(4,pz Z),(6,a3)] j5 s1 y3;have E:=E.add (e1 3);obtain⟨n4,t5⟩:=e1 7;have E:=E.add n4;obtain⟨n1,E,q5⟩:=adv E (e1 11);obtain⟨L1,E,o1⟩:=adv E (e1 15);obtain⟨p8,w5,h⟩:=ob h;refine stg E rfl rfl rfl rfl hd100 (aT (vs:=[(.int .i64 e3.fColumns),n1,L1]) E rfl call74 (jl (hS:=hS) t5 q5 o1 w5)) rfl ?_;rintro bb a w⟨bu,f6,hS,w6⟩E;obtain⟨rfl,ao⟩:=aF w6
 refine spg E rfl rfl rfl rfl hd100 (bg E rfl rfl mS) rfl λa E=>qF E hd100 rfl λa E=>qM E rfl λa E=>?_;rcases zx (p8 !=0)with hd239|hd239
 {have h:=aH hd239 h;refine qX E hd239 λa E=>qX E hd239 λa E=>qX E hd239 λa E=>qT E hd239 rfl λa E=>ag ?_;exact⟨true,h,_,(j6 f5 f6),hS,kut E⟩}
 {have h:=aI hd239 h;refine qG E hd239 rfl λa E=>?_;obtain⟨T2,r2,h⟩:=ob h;refine stg E rfl rfl rfl rfl hd239 (aT (vs:=[(pz Z)]) E rfl call86 (wM (hS:=hS) ((uQ b0).mono (j6 f5 f6)) r2)) rfl ?_;rintro X2 a w⟨bi,x5,hS,q6⟩E;obtain rfl:=fg q6;refine spg E rfl rfl rfl rfl hd239 (lD E rfl) rfl λa E=>qF E hd239 rfl λa E=>ag ?_;exact⟨(!T2),h,_,(j6 f5 (j6 f6 x5)),hS,kut E⟩}}}}
 {
 rintro a w⟨f0,h,s4,h1,hS,E⟩;unfold kw at h;refine kif E rfl (λh5=>?_) (λh5=>?_)
 {
 have h:=aH h5 h;refine ab (ak (qA E rfl λa E=>qA E rfl λa E=>ag (bK ?_)));obtain rfl:=oi h
 try dsimp only
 refine f2 E ?_;exact⟨_,(j6 a6 (j6 d0 (j6 g3 (j6 c0 (j6 c6 h1))))),hS,_,_,rfl,(yF (m:=s4) (k:=aJ)),(ax (show inR .i64 80 from az (by decide)))⟩}
 {
 have h:=aI h5 h;refine a7 (ab (ak (qM E rfl λa E=>qA E rfl λa E=>qA E rfl λa E=>ag (bK ?_))));obtain rfl:=oi h
 try dsimp only
 refine f2 E ?_;exact⟨_,(j6 a6 (j6 d0 (j6 g3 (j6 c0 (j6 c6 h1))))),hS,_,_,rfl,((uQ b0).mono h1),(ax (show inR .i64 0 from az (by decide)))⟩}}}}}}
theorem Vq:Ctr Sz prog 33 [.rd (.sl (.int .u8))] [.rd (.st 65),.rd (.int .i64)] (λx=>et x.1):=by intro W0 m w L TL vs x r Lp Tp hS Z h;obtain⟨v0,vs,rfl,a0,J⟩:=cT Z;obtain⟨rfl,rfl,rfl⟩:=eT J;refine rm (wN (hS:=hS) a0 h) λv w' W=>?_;obtain⟨m',hm,Z',u0,u1,rfl,r0,r1⟩:=W;exact⟨m',[u0,u1],[],[],[],hm,Z',rfl,⟨r0,⟨r1,trivial⟩⟩,trivial⟩
def Nt:=mC Vq call33
theorem Nu:Ctr Sz prog 59 [.rd (.sl (.int .u8))] [.rd (.int .u64)] (λx=>it x.1):=ncR [] [2] func59 ntmps59 (.s .o (.s .o (.s (.s .o (.b (.l ⟨[.v 3 1 (.dat (.int .u64) none),.v 4 1 (.dat (.int .i64) none)],[0],0,[]⟩ .o))) .o))) λx=>by kernel_rfl
def Au:=mC Nu call59
theorem KW (hS:S W0 m w L TL){p0}(a0:RV (kSl (aj .u8)) m v0 p0){r}(h:it p0=some r):Calls prog 59 #[v0] w (Ret λv w'=>∃m',M.le m m'/\S W0 m' w' L TL/\RV (aj .u64) m' v r):=by refine rm (Nu W0 m w L TL [v0] (p0,()) r [] [] hS ⟨a0,trivial⟩ h) λv w' Z=>?_;obtain⟨m',us,Lr,Lq,Tr,hm,Z',rfl,hR,hO⟩:=Z;obtain⟨u0,us,rfl,r0,J⟩:=cN hR;obtain⟨rfl,rfl,rfl⟩:=cH J;have W:=cO hO;obtain rfl:=dC W;exact⟨m',hm,Z',r0⟩
theorem Nv:Ctr Sz prog 56 [.rd (.sl (.int .u8))] [.rd (.int .u32)] (λx=>ww x.1):=ncR [] [2] func56 ntmps56 (.s .o (.s .o (.s (.s .o (.b (.l ⟨[.v 3 1 (.dat (.int .u32) none),.v 4 1 (.dat (.int .i64) none)],[0],0,[]⟩ (.s .o (.s (.b (.s .o (.s .o (.b (.l ⟨[.v 3 2 (.dat (.int .u32) none),.v 5 2 (.dat (.int .i64) none)],[0,4],0,[]⟩ .o))))) .o))))) .o))) λx=>by kernel_rfl
def Nw:=mC Nv call56
theorem MP (hS:S W0 m w L TL){p0}(a0:RV (kSl (aj .u8)) m v0 p0){r}(h:ww p0=some r):Calls prog 56 #[v0] w (Ret λv w'=>∃m',M.le m m'/\S W0 m' w' L TL/\RV (aj .u32) m' v r):=by refine rm (Nv W0 m w L TL [v0] (p0,()) r [] [] hS ⟨a0,trivial⟩ h) λv w' Z=>?_;obtain⟨m',us,Lr,Lq,Tr,hm,Z',rfl,hR,hO⟩:=Z;obtain⟨u0,us,rfl,r0,J⟩:=cN hR;obtain⟨rfl,rfl,rfl⟩:=cH J;have W:=cO hO;obtain rfl:=dC W;exact⟨m',hm,Z',r0⟩
theorem Tu:Ctr Sz prog 137 [.rd (.st 32)] [.rd .bool] (λx=>ue x.1):=ncR [] [2] func137 ntmps137 .o λx=>by kernel_rfl
def KX:=mC Tu call137
theorem Vr:Ctr Sz prog 79 [.rd (.int .i64),.rd (.sl (.int .i64)),.rd (.sl (.st 59))] [.rd (.int .i64)] (λx=>qY x.1 x.2.1 x.2.2.1):=ncR [KX] [6] func79 ntmps79 (.s .o (.s .o (.s (.s .o (.b (.l ⟨[.v 7 1 (.dat (.int .i64) none)],[0,1,2],0,[]⟩ (.s .o (.s (.b (.s .o (.s .o (.b (.l ⟨[.v 8 2 (.dat (.int .i64) none)],[0,1,2,7],0,[]⟩ .o))))) .o))))) (.s .o (.s (.s .o (.b (.l ⟨[.v 9 1 (.dat (.int .i64) none)],[0,2],0,[]⟩ (.s .o (.s (.b (.s .o (.s .o (.s (.s .o (.b (.l ⟨[.v 11 2 (.dat (.int .i64) none)],[0,2,9,10],1,[]⟩ .o))) (.s .o (.b (.l ⟨[.v 13 2 (.dat (.int .i64) none)],[0,2,9,10],1,[]⟩ .o))))))) .o))))) .o))))) λx=>by kernel_rfl
def Vs:=mC Vr call79
theorem Vt:Ctr Sz prog 58 [.rd (.sl (.int .u8))] [.rd (.st 32),.rd (.int .i64)] (λx=>nC x.1):=nxR [Au] [.cell 2 32,.tmp 3] func58 ntmps58 .o λx=>by kernel_rfl
def EM:=mC Vt call58
theorem Vu:Ctr Sz prog 20 [.rd (.sl (.int .u8))] [.rd (.st 37),.rd (.int .i64),.rd (.int .i64)] (λx=>rK x.1):=nxR [EM,Au] [.cell 2 37,.tmp 3,.tmp 4] func20 ntmps20 .o λx=>by kernel_rfl
def Vv:=mC Vu call20
theorem Tv:Ctr Sz prog 121 [.rd (.sl (.int .u8)),.rd (.int .i64)] [.ap (.st 32)] (λx=>xw x.1 x.2.1):=ncR [EM] [4] func121 ntmps121 (.s .o (.s .o (.s .o (.s (.s .o (.b (.l ⟨[.v 5 1 (.dat (.sl (.st 32)) (some 0)),.v 6 1 (.dat (.int .i64) none),.v 7 1 (.dat (.int .i64) none)],[0,1],0,[4]⟩ .o))) .o)))) λx=>by kernel_rfl
def Tw:=mC Tv call121
theorem Tx:Ctr Sz prog 122 [.rd (.sl (.int .u8)),.rd (.int .i64)] [.ap (.st 32)] (λx=>Ae x.1 x.2.1):=ncR [EM] [4] func122 ntmps122 (.s .o (.s .o (.s .o (.s (.b (.l ⟨[.v 5 1 (.dat (.sl (.st 32)) (some 0)),.v 6 1 (.dat (.int .i64) none)],[0,1],0,[4]⟩ (.s .o (.b (.s .o (.s .o (.s (.s .o (.b (.l ⟨[.v 5 2 (.dat (.sl (.st 32)) (some 0)),.v 9 2 (.dat (.int .i64) none)],[0,1,6,7,8],1,[4]⟩ .o))) .o))))))) .o)))) λx=>by kernel_rfl
def Tz:=mC Tx call122
theorem TA:Ctr Sz prog 123 [.rd (.sl (.int .u8)),.rd (.int .i64)] [.ap (.st 32)] (λx=>u3 x.1 x.2.1):=ncR [Au] [4] func123 ntmps123 (.s .o (.s .o (.s .o (.s .o (.s .o (.s .o (.s (.s .o (.b (.l ⟨[.v 5 1 (.dat (.int .i64) none),.v 6 1 (.dat (.sl (.st 32)) (some 0)),.v 7 1 (.dat (.int .u64) none),.v 8 1 (.dat (.int .i64) none),.v 9 1 (.dat (.int .i64) none)],[0,1],0,[4]⟩ .o))) .o))))))) λx=>by kernel_rfl
def TB:=mC TA call123
theorem TC:Ctr Sz prog 162 [.rd (.int .u64)] [.rd (.int .i64)] (λx=>rG x.1):=ncR [] [2] func162 ntmps162 (.s .o (.s .o (.s (.b (.l ⟨[.v 0 1 (.dat (.int .u64) none),.v 3 1 (.dat (.int .i64) none)],[],0,[]⟩ .o)) .o))) λx=>by kernel_rfl
def GL:=mC TC call162
theorem TD:Ctr Sz prog 170 [.rd (.sl (.int .u8)),.rd (.int .i64),.rd (.int .i64)] [.rd (.int .u64)] (λx=>pn x.1 x.2.1 x.2.2.1):=ncR [] [6] func170 ntmps170 (.s .o (.s .o (.s (.s .o (.b (.l ⟨[.v 7 1 (.dat (.int .u64) none),.v 8 1 (.dat (.int .i64) none)],[0,1,2],0,[]⟩ .o))) .o))) λx=>by kernel_rfl
def KY:=mC TD call170
theorem TE:Ctr Sz prog 124 [.rd (.sl (.int .u8)),.rd (.int .i64)] [.ap (.st 32)] (λx=>xz x.1 x.2.1):=ncR [EM,GL,KY] [4] func124 ntmps124 (.s .o (.s .o (.s .o (.s .o (.s (.s .o (.b (.l ⟨[.v 5 1 (.dat (.sl (.st 32)) (some 0)),.v 6 1 (.dat (.int .i64) none),.v 7 1 (.dat (.int .i64) none)],[0,1],0,[4]⟩ .o))) (.s .o (.s .o (.s .o (.s .o (.s (.s .o (.b (.l ⟨[.v 11 1 (.dat (.sl (.st 32)) (some 1)),.v 12 1 (.dat (.int .i64) none)],[0,1,5,6,10],0,[4,4]⟩ .o))) .o)))))))))) λx=>by kernel_rfl
def TH:=mC TE call124
theorem TJ:Ctr Sz prog 125 [.rd (.sl (.int .u8)),.rd (.int .i64)] [.ap (.st 32)] (λx=>u4 x.1 x.2.1):=ncR [Au,KY] [4] func125 ntmps125 (.s .o (.s .o (.s .o (.s .o (.s (.s .o (.b (.l ⟨[.v 6 1 (.dat (.sl (.st 32)) (some 0)),.v 7 1 (.dat (.int .i64) none)],[0,1,5],0,[4]⟩ .o))) .o))))) λx=>by kernel_rfl
def TK:=mC TJ call125
theorem TM:Ctr Sz prog 113 [.rd (.int .i64),.rd (.sl (.st 32))] [.rd (.int .i64)] (λx=>tf x.1 x.2.1):=ncR [KX] [4] func113 ntmps113 (.s .o (.s .o (.s .o (.s (.s .o (.b (.l ⟨[.v 5 1 (.dat (.int .i64) none)],[0,1],0,[]⟩ .o))) (.s (.s .o (.b (.l ⟨[.v 7 1 (.dat (.int .i64) none)],[0,1],0,[]⟩ .o))) .o))))) λx=>by kernel_rfl
def TN:=mC TM call113
theorem KZ (hS:S W0 m w L TL){p0}(c5:RV (kSl kAp) m v0 p0){r}(h:tN p0=some r):Calls prog 114 #[v0] w (Ret λv w'=>∃m',M.le m m'/\S W0 m' w' L ((5,v)::TL)/\RV (kSl cW) m' v r):=by
 refine kc func114 ntmps114 λa E=>?_;have E:Env 55 a [(0,v0)]:=E;unfold tN at h;refine ab (ak (qA E rfl λa E=>ag (ab (ak (qA E rfl λa E=>ag (ab (ab ?_)))))));refine ak (qA E rfl λa E=>ag ?_);refine cA (λa w=>∃x6:(List eo),tg x6=some r/\∃m',M.le m m'/\∃(v7:Value),RV (kSl cW) m' v7 x6/\S W0 m' w L ((5,v7)::TL)/\Env 55 a [(3,v7)]) ?_ ?_;{
 refine bj ?_;refine fN h (λ(s:List eo×Int)a w=>∃m',M.le m m'/\∃(a0:Value),RV (kSl cW) m' a0 s.1/\inR .i64 s.2/\S W0 m' w L ((5,a0)::TL)/\Env 55 a [(0,v0),(3,a0),(4,.int .i64 s.2)]) ?_ ?_
 {exact⟨_,(Z0 _),(.slice none 0 0),dK,(show inR .i64 0 from az (by decide)),(hS.tail0 5),kut E⟩}
 {
 rintro⟨b2,Z⟩a w⟨d0,b3,a0,b1,c6,hS,E⟩r19 h hb20;have h:qN p0 b2 Z=some r19:=h;unfold qN at h;refine ab (ab (ak (qM E rfl λa E=>qM E rfl λa E=>sp E (bq (k:=kAp) E rfl rfl underlying22 (c5.mono b3)) rfl λa E=>qB E rfl rfl cu λa E=>ag (kif E rfl (λd2=>?_) (λd2=>?_)))))
 {
 have h:=aH d2 h;refine a7 (ab ?_);refine cA (λa w=>∃c2:(List eo),ol Z c2=some r19/\∃m',M.le d0 m'/\∃(b7:Value),RV (kSl cW) m' b7 c2/\S W0 m' w L ((5,b7)::TL)/\Env 55 a [(0,v0),(3,b7),(4,.int .i64 Z)]) ?_ ?_
 {
 refine bj (ab (ab ?_));refine cA (λa w=>∃c3:Bool,lL p0 b2 Z c3=some r19/\∃m',M.le d0 m'/\S W0 m' w L ((5,a0)::TL)/\Env 55 a [(0,v0),(3,a0),(4,.int .i64 Z),(25,.bool c3)]) ?_ ?_
 {
 rcases zx (decide (0<Z))with hd158|hd158
 {
 have h:=aH hd158 h;obtain⟨b4,i2,b6,h6,h⟩:=ob2 h
 refine kch (k:=12) (m:=d0) (es:=[]) (Φ:=(λi m ws v=>match i with|0=>ei .i64 Z v|1=>v=(.bool (decide (0<Z)))|2=>v=(.bool (decide (0<Z)))|3=>v=v0|4=>ei .i64 Z v|5=>PR kAp m v b4|6=>RV kAp m v b4|7=>v=v0|8=>ei .i64 Z v|9=>ei .i64 (Z1.wrap (Z-1)) v|10=>PR kAp m v b6|11=>RV kAp m v b6|_=>True)) (Q:=(λc m ws L' a9=>match c with|0=>L=L'/\(5,a0)::TL=a9|_=>False)) (cs:=[jc [(4,.int .i64 Z)],jc [],jc [],jc [(0,v0)],jc [(4,.int .i64 Z)],jc [],jc [],jc [(0,v0)],jc [(4,.int .i64 Z)],jc [],jc [],jc []]) mixed E hS ⟨rfl,rfl⟩ rfl rfl (by kernel_rfl) ?_ ?_ ?_ ?_
 {
 intro i m_ b5 ws v n_ q_
 iterate 12 (rcases i with _|i;first|exact q_|exact PR.mono q_ n_|exact RV.mono q_ n_)
 exact trivial}
 {
 intro c m_ b5 ws L_ T_ n_ a1
 match c,a1 with
 |0,⟨a6,a4⟩=>exact⟨a6,a4⟩|_+1,a1=>exact a1.elim}
 {
 refine⟨?_,?_,?_,?_,?_,?_,?_,?_,?_,?_,?_,?_,trivial⟩
 {exact cmv λ_ _=>⟨rfl,c6⟩}
 {refine cp0 λ_ _ _ _ _ _ _ _ _ J W T'=>?_;have E:=W.add (T' 0).1;exact cq (bg E rfl rfl lC) J rfl}
 {refine cp0 λ_ _ _ _ _ _ _ _ _ J W T'=>?_;have E:=W.add (T' 1);exact cq (jd E rfl) J rfl}
 {exact cgm (gz hd158) (λ_ _=>rfl)}
 {exact cgm (gz hd158) (λ_ _=>⟨rfl,c6⟩)}
 {refine cg0 (gz hd158) λ_ _ _ _ _ _ _ M' _ J W T'=>?_;have E:=(W.add (T' 3)).add (T' 4).1;exact cr (be (k:=kAp) E rfl rfl underlying22 sizeOf32 (c5.mono (j6 b3 M')) i2) J λ_ h=>h}
 {
 refine cg0 (gz hd158) λ_ _ _ m' a' _ _ _ _ J W T'=>?_;obtain⟨s3,m6,l2⟩:∃v,a'.tmps.getD 17 undef=v/\(PR kAp m' v b4):=⟨_,rfl,T' 5⟩
 have E:=W.add (m6);exact cr (aC E J iA rfl l2) J λ_ h=>h}
 {exact cgm (gz hd158) (λ_ _=>rfl)}
 {exact cgm (gz hd158) (λ_ _=>⟨rfl,c6⟩)}
 {refine cg0 (gz hd158) λ_ _ _ _ _ _ _ _ _ J W T'=>?_;have E:=W.add (T' 8).1;exact cq (bg E rfl rfl (kf rfl)) J ⟨rfl,(aG _ _)⟩}
 {refine cg0 (gz hd158) λ_ _ _ _ _ _ _ M' _ J W T'=>?_;have E:=(W.add (T' 7)).add (T' 9).1;exact cr (be (k:=kAp) E rfl rfl underlying22 sizeOf32 (c5.mono (j6 b3 M')) h6) J λ_ h=>h}
 {
 refine cg0 (gz hd158) λ_ _ _ m' a' _ _ _ _ J W T'=>?_;obtain⟨s4,q2,j0⟩:∃v,a'.tmps.getD 22 undef=v/\(PR kAp m' v b6):=⟨_,rfl,T' 10⟩
 have E:=W.add (q2);exact cr (aC E J iA rfl j0) J λ_ h=>h}}
 {
 intro e6 L_ T_ e4 a w g9 i1 k7 hS o3 q0 g6 a3;obtain rfl:=eS g9;obtain⟨rfl,rfl⟩:=k7;have E:=eof 12 [(0,v0),(3,a0),(4,.int .i64 Z),(6,.int .i64 Z),(7,v0),(8,.int .i64 (p0.length:Int)),(9,.bool (decide (Z<(p0.length:Int))))] o3 q0 g6;have E:=((E.add (a3 2)).add (a3 3)).add (a3 4).1;obtain⟨r1,l3,r0⟩:∃v,a.tmps.getD 17 undef=v/\(PR kAp e4 v b4):=⟨_,rfl,a3 5⟩
 have E:=E.add (l3);obtain⟨r4,i3,g4⟩:∃v,a.tmps.getD 18 undef=v/\(RV kAp e4 v b4):=⟨_,rfl,a3 6⟩
 have E:=(((E.add (i3)).add (a3 7)).add (a3 8).1).add (a3 9).1;obtain⟨t4,q3,u0⟩:∃v,a.tmps.getD 22 undef=v/\(PR kAp e4 v b6):=⟨_,rfl,a3 10⟩
 have E:=E.add (q3);obtain⟨r9,E,h0⟩:=adv E (a3 11);refine spg E rfl rfl rfl rfl hd158 (yz E Gw rfl rfl g4 h0 rfl) rfl λa E=>qT E hd158 rfl λa E=>ag ?_;exact⟨(decide (b4=b6)),h,_,i1,hS,kut E⟩}}
 {
 have h:=aI hd158 h
 refine kch (k:=12) (m:=d0) (es:=[]) (Φ:=(λi m ws v=>match i with|0=>ei .i64 Z v|1=>v=(.bool (decide (0<Z)))|2=>v=(.bool (decide (0<Z)))|3=>v=undef|4=>v=undef|5=>v=undef|6=>v=undef|7=>v=undef|8=>v=undef|9=>v=undef|10=>v=undef|11=>v=undef|_=>True)) (Q:=(λc m ws L' a9=>match c with|0=>L=L'/\(5,a0)::TL=a9|_=>False)) (cs:=[jc [(4,.int .i64 Z)],jc [],jc [],jc [(0,v0)],jc [(4,.int .i64 Z)],jc [],jc [],jc [(0,v0)],jc [(4,.int .i64 Z)],jc [],jc [],jc []]) mixed E hS ⟨rfl,rfl⟩ rfl rfl (by kernel_rfl) ?_ ?_ ?_ ?_
 {
 intro i m_ b5 ws v n_ q_
 iterate 12 (rcases i with _|i;exact q_)
 exact trivial}
 {
 intro c m_ b5 ws L_ T_ n_ a1
 match c,a1 with
 |0,⟨a6,a4⟩=>exact⟨a6,a4⟩|_+1,a1=>exact a1.elim}
 {
 refine⟨?_,?_,?_,?_,?_,?_,?_,?_,?_,?_,?_,?_,trivial⟩
 {exact cmv λ_ _=>⟨rfl,c6⟩}
 {refine cp0 λ_ _ _ _ _ _ _ _ _ J W T'=>?_;have E:=W.add (T' 0).1;exact cq (bg E rfl rfl lC) J rfl}
 {refine cp0 λ_ _ _ _ _ _ _ _ _ J W T'=>?_;have E:=W.add (T' 1);exact cq (jd E rfl) J rfl}
 {exact csk (gz hd158)}
 {exact csk (gz hd158)}
 {exact csk (gz hd158)}
 {exact csk (gz hd158)}
 {exact csk (gz hd158)}
 {exact csk (gz hd158)}
 {exact csk (gz hd158)}
 {exact csk (gz hd158)}
 {exact csk (gz hd158)}}
 {intro e6 L_ T_ t3 a w o2 k0 g1 hS h7 h5 k4 a2;obtain rfl:=eS o2;obtain⟨rfl,rfl⟩:=g1;have E:=eof 12 [(0,v0),(3,a0),(4,.int .i64 Z),(6,.int .i64 Z),(7,v0),(8,.int .i64 (p0.length:Int)),(9,.bool (decide (Z<(p0.length:Int))))] h7 h5 k4;have E:=(((((((((E.add (a2 2)).add (a2 3)).add (a2 4)).add (a2 5)).add (a2 6)).add (a2 7)).add (a2 8)).add (a2 9)).add (a2 10)).add (a2 11);refine qX E hd158 λa E=>qF E hd158 rfl λa E=>ag ?_;exact⟨false,h,_,k0,hS,kut E⟩}}}
 {
 rintro a w⟨c3,h,f5,a5,hS,E⟩;unfold lL at h;refine kif E rfl (λe3=>?_) (λe3=>?_)
 {
 have h:=aH e3 h;refine ab (ak (qM E rfl λa E=>qM E rfl λa E=>sp E (bq (k:=cW) E rfl rfl underlying152 (b1.mono a5)) rfl λa E=>qB E rfl rfl (kf rfl) λa E=>?_));obtain⟨x44,m2,h⟩:=ob h;refine st E (be (k:=cW) E rfl rfl underlying152 sizeOf155 (b1.mono a5) m2) rfl ?_;rintro p3 a _⟨rfl,l1⟩E;refine st E (aC E hS Ar rfl l1) rfl ?_;rintro m1 a _⟨rfl,k6⟩E;refine st E (cF hS zeroValue155 rfl (cs:=Nb)) rfl ?_;rintro _ a w⟨b0,rfl,hS⟩E;refine st0 E (dq E hS Ar bT rfl rfl k6 (i:=0) rfl (EH _)) ?_;rintro _ w⟨r5,e9,hS⟩E
 refine ag (ab (ak (sp E (aK E Du rfl) rfl λa E=>?_)));refine st E (aM E hS ty3 rfl (i:=0) rfl (OO.R_drop (aL e9))) rfl ?_;rintro s1 a _⟨rfl,p4⟩E;obtain⟨rfl,u2⟩:=aF p4;refine qB E rfl rfl (cp rfl) λa E=>sp E (aK E Du rfl) rfl λa E=>?_;refine st0 E (dq E hS ty3 Dn rfl rfl (ax (aG _ _)) (i:=0) rfl e9) ?_;rintro _ w⟨d1,e0,hS⟩E;refine ag (ab ?_);obtain⟨g2,g8,e8,m5,h⟩:=ob2 h
 refine kch (k:=9) (m:=f5) (es:=[0,6]) (Φ:=(λi m ws v=>match i with|0=>v=(wi ws 0).v/\RV (kSl cW) m v ([])|1=>v=a0|2=>v=a0|3=>ei .i64 (b2.length:Int) v|4=>ei .i64 (Z1.wrap ((b2.length:Int)-1)) v|5=>RV (kSl cW) m v g2|6=>v=(wi ws 1).v/\RV (kSl cW) m v e8|7=>RV cW m v ({x44 with fMany:=Z1.wrap (x44.fMany+1)})|8=>RV (kSl cW) m v ([{x44 with fMany:=Z1.wrap (x44.fMany+1)}])|_=>True)) (Q:=(λc m ws L' a9=>match c with|0=>(b0,d1)::L=L'/\(5,a0)::TL=a9|1=>(b0,d1)::L=L'/\(5,(wi ws 0).v)::(5,a0)::TL=a9|2=>(b0,d1)::L=L'/\(5,(wi ws 1).v)::(5,a0)::TL=a9|_=>False)) (cs:=[⟨0,0,true,[]⟩,⟨0,1,false,[(3,a0)]⟩,⟨0,1,false,[(3,a0)]⟩,⟨0,1,false,[]⟩,⟨0,1,false,[]⟩,⟨0,1,false,[]⟩,⟨1,1,true,[]⟩,⟨0,2,false,[(5,pz b0)]⟩,⟨0,2,false,[]⟩]) mixed E hS ⟨rfl,rfl⟩ rfl rfl (by kernel_rfl) ?_ ?_ ?_ ?_
 {
 intro i m_ b5 ws v n_ q_
 iterate 9 (rcases i with _|i;first|exact q_|exact RV.mono q_ n_|exact⟨q_.1,RV.mono q_.2 n_⟩)
 exact trivial}
 {
 intro c m_ b5 ws L_ T_ n_ a1
 match c,a1 with
 |0,⟨a6,a4⟩=>exact⟨a6,a4⟩|1,⟨a6,a4⟩=>exact⟨a6,a4⟩|2,⟨a6,a4⟩=>exact⟨a6,a4⟩|_+3,a1=>exact a1.elim}
 {
 refine⟨?_,?_,?_,?_,?_,?_,?_,?_,?_,trivial⟩
 {refine wZ λi0 L_ T_ m' a' w' e1 M' Q' J W T'=>?_;obtain rfl:=eS e1;obtain⟨rfl,rfl⟩:=Q';refine a8.imp (gA (k:=cW) (xs:=[]) (vs:=[]) W J rfl underlying152 sizeOf155 zeroValue155 trivial rfl (by decide)) ?_;rintro c0 w⟨t9,g5,hS,i8⟩;exact⟨_,⟨0,c0,[],[],[]⟩,_,_,g5,hS,⟨rfl,rfl⟩,⟨rfl,i8⟩⟩}
 {exact cmv λ_ _=>rfl}
 {exact cmv λ_ _=>rfl}
 {refine cp0 λ_ _ _ _ _ _ _ M' _ J W T'=>?_;have E:=W.add (T' 2);exact cq (bq (k:=cW) E rfl rfl underlying152 (b1.mono (j6 a5 M'))) J ⟨rfl,(eD (jg (b1.mono (j6 a5 M'))))⟩}
 {refine cp0 λ_ _ _ _ _ _ _ _ _ J W T'=>?_;have E:=W.add (T' 3).1;exact cq (bg E rfl rfl (kf rfl)) J ⟨rfl,(aG _ _)⟩}
 {refine cp0 λ_ _ _ _ _ _ _ M' _ J W T'=>?_;have E:=(W.add (T' 1)).add (T' 4).1;exact cr (dy (k:=cW) E rfl underlying152 sizeOf155 (b1.mono (j6 a5 M')) rfl ⟨_,rfl⟩ g8 (xl:=none) (xh:=(some (.tmp 40)))) J λ_ h=>h}
 {
 refine wZ λi0 L_ T_ m' a' w' e1 M' Q' J W T'=>?_;obtain⟨⟨_,c0,_,_,_⟩,rfl⟩:=A0 e1;obtain⟨rfl,rfl⟩:=Q';obtain⟨r2,f6,c1⟩:∃v,a'.tmps.getD 36 undef=v/\(v=c0/\RV (kSl cW) m' v ([])):=⟨_,rfl,T' 0 (by decide) 36 rfl⟩
 obtain⟨f0,c1⟩:=c1;rw[f0]at c1;have E:=W.add (f6.trans f0);obtain⟨q7,E,k5⟩:=adv E (T' 5 (by decide) 41 rfl);refine a8.imp (iM (k:=cW) (N:=2932031007402) E J rfl rfl underlying152 underlying152 EJ (i:=0) rfl c1 k5 m5 rfl rfl) ?_;rintro c4 w⟨r3,h8,hS,n3⟩;exact⟨_,⟨0,c4,[],[],[]⟩,_,_,h8,hS,⟨rfl,rfl⟩,⟨rfl,n3⟩⟩}
 {
 refine cp0 λ_ _ _ _ _ _ P' M' Q' J W _=>?_;rcases HS (a:=0) (n:=1) P' with h0_|h0_
 {obtain rfl:=eS h0_;obtain⟨rfl,rfl⟩:=Q';exact cr (aM W J Ar rfl (i:=0) rfl (aL (cW.mono M' e0))) J λ_ h=>h}
 {
 obtain⟨⟨_,c0,_,_,_⟩,post_',rfl,hp1_⟩:=h0_;rcases HS (a:=0) (n:=0) hp1_ with h0_|h0_
 {obtain rfl:=eS h0_;obtain⟨rfl,rfl⟩:=Q';exact cr (aM W J Ar rfl (i:=0) rfl (aL (cW.mono M' e0))) J λ_ h=>h}
 {obtain⟨⟨_,c4,_,_,_⟩,post_'',rfl,hp2_⟩:=h0_;obtain rfl:=eS (Po (a:=0) hp2_);obtain⟨rfl,rfl⟩:=Q';exact cr (aM W J Ar rfl (i:=0) rfl (aL (cW.mono M' e0))) J λ_ h=>h}}}
 {refine cp0 λ_ _ _ m' a' _ _ _ _ J W T'=>?_;obtain⟨n4,E,i4⟩:=adv W (T' 7);refine a8.imp (gA (k:=cW) (xs:=[{x44 with fMany:=Z1.wrap (x44.fMany+1)}]) (vs:=[n4]) E J rfl underlying152 sizeOf155 zeroValue155 ⟨i4,trivial⟩ rfl (by decide)) ?_;rintro q6 w⟨s2,g7,hS,p7⟩;exact⟨_,g7,(hS.dropT 1),p7⟩}}
 {
 intro e6 L_ T_ m7 a w m8 h1 i5 hS n0 h3 q1 f4;obtain⟨⟨_,c0,_,_,_⟩,⟨_,c4,_,_,_⟩,rfl⟩:=WJ m8;obtain⟨rfl,rfl⟩:=i5;have E:=eof 9 [(0,v0),(3,a0),(4,.int .i64 Z),(5,pz b0),(25,.bool c3),(26,a0),(27,a0),(28,.int .i64 (b2.length:Int)),(29,.int .i64 (Z1.wrap ((b2.length:Int)-1))),(30,p3),(31,m1),(32,pz b0),(33,.int .i64 x44.fMany),(34,.int .i64 (Z1.wrap (x44.fMany+1))),(35,pz b0)] n0 h3 q1;obtain⟨r6,n6,c7⟩:∃v,a.tmps.getD 42 undef=v/\(v=c4/\RV (kSl cW) m7 v e8):=⟨_,rfl,f4 6⟩
 obtain⟨f3,c7⟩:=c7;rw[f3]at c7;have E:=E.add (n6.trans f3);obtain⟨t0,E,q4⟩:=adv E (f4 8);obtain⟨n2,g0,h⟩:=ob h;refine st E (iM (k:=cW) (N:=2932031007402) E hS rfl rfl underlying152 underlying152 EJ (i:=0) rfl c7 q4 g0 rfl rfl) rfl ?_;rintro j2 a w⟨r8,p6,hS,h9⟩E;refine qA E rfl λa E=>ag ?_;refine fe rfl rfl ?_;exact⟨n2,h,_,(j6 a5 (j6 h1 p6)),j2,h9,((hS.pickL 1 [] rfl rfl rfl).pickT 2 [0] rfl rfl rfl),kut E⟩}}
 {
 have h:=aI e3 h;refine a7 (ak (qM E rfl λa E=>qM E rfl λa E=>qM E rfl λa E=>?_));obtain⟨e5,k3,h⟩:=ob h;refine st E (be (k:=kAp) E rfl rfl underlying22 sizeOf32 (c5.mono (j6 b3 a5)) k3) rfl ?_;rintro t1 a _⟨rfl,l4⟩E;refine st E (aC E hS iA rfl l4) rfl ?_;rintro m9 a _⟨rfl,p8⟩E;refine st E (rq (m:=f5) (k:=cW) (x0:=eo.zero) (xx:=(⟨1,e5⟩:eo)) (pl:=[(0,1),(1,4)]) (pv:=[(0,.int .i64 1),(1,m9)]) E rfl underlying155 rfl zeroValue155 EH rfl (.cons rfl Dn (ax (show inR .i64 1 from az (by decide))) (.cons rfl HL p8 .nil))) rfl ?_
 rintro p5 a _⟨rfl,g3⟩E;refine st E (gA (k:=cW) (xs:=[(⟨1,e5⟩:eo)]) (vs:=[p5]) E hS rfl underlying152 sizeOf155 zeroValue155 ⟨g3,trivial⟩ rfl (by decide)) rfl ?_;rintro u1 a w⟨r7,e7,hS,j4⟩E;obtain⟨o0,j5,h⟩:=ob h;refine st E (iM (k:=cW) (N:=2932031007402) E hS rfl rfl underlying152 underlying152 EJ (i:=1) rfl (b1.mono (j6 a5 e7)) j4 j5 rfl rfl) rfl ?_;rintro h4 a w⟨u8,q5,hS,j1⟩E;refine qA E rfl λa E=>ag ?_;exact⟨o0,h,_,(j6 a5 (j6 e7 q5)),h4,j1,(hS.pickT 2 [1] rfl rfl rfl),kut E⟩}}}
 {rintro a w⟨c2,h,t5,h2,b7,o1,hS,E⟩;unfold ol at h;refine ak (qM E rfl λa E=>qB E rfl rfl (cp rfl) λa E=>qA E rfl λa E=>ag ?_);exact⟨(c2,Z1.wrap (Z+1)),(Option.some.inj h).symm,_,(j6 b3 h2),b7,o1,(aG _ _),hS,kut E⟩}}
 {have h:=aI d2 h;refine fe rfl rfl ?_;have h:=cg h hb20;exact⟨b2,h,_,b3,a0,b1,hS,kut E⟩}}};{
 rintro a w⟨x6,h,m4,n1,v7,j3,hS,E⟩;unfold tg at h;refine ab (ak (qM E rfl λa E=>qA E rfl λa E=>ag (bK ?_)));obtain rfl:=oi h
 try dsimp only
 refine f1 E ?_;exact⟨_,n1,(hS.pickT 1 [0] rfl rfl rfl),j3⟩}
theorem TO:Ctr Sz prog 114 [.rd (.sl (.st 32))] [.ap (.st 155)] (λx=>tN x.1):=by intro W0 m w L TL vs x r Lp Tp hS Z h;obtain⟨v0,vs,rfl,a0,J⟩:=cT Z;obtain⟨rfl,rfl,rfl⟩:=eT J;refine rm (KZ (hS:=hS) a0 h) λv w' W=>?_;obtain⟨m',hm,Z',r0⟩:=W;exact⟨m',[v],[],[],[(5,v)],hm,Z',rfl,⟨r0,rfl,trivial⟩,trivial⟩
def TP:=mC TO call114
theorem TQ:Ctr Sz prog 118 [.rd (.int .u64)] [.ap (.int .u8)] (λx=>qp x.1):=ncR [] [2] func118 ntmps118 (.s .o (.s .o (.s (.s .o (.b (.l ⟨[.v 3 1 (.dat (.sl (.int .u8)) (some 0)),.v 4 1 (.dat (.int .i64) none)],[0],0,[1]⟩ .o))) .o))) λx=>by kernel_rfl
def GM:=mC TQ call118
theorem Vw:Ctr Sz prog 54 [.rd (.st 32)] [.ap (.int .u8)] (λx=>wv x.1):=ncR [GM] [2] func54 ntmps54 .o λx=>by kernel_rfl
def Nx:=mC Vw call54
theorem TR:Ctr Sz prog 115 [.rd (.sl (.st 32))] [.ap (.int .u8)] (λx=>xj x.1):=ncR [GM] [2] func115 ntmps115 (.s .o (.s .o (.s (.s .o (.b (.l ⟨[.v 3 1 (.dat (.sl (.int .u8)) (some 0)),.v 4 1 (.dat (.int .i64) none)],[0],0,[1]⟩ (.s .o (.s (.b (.s .o (.s .o (.s .o (.s (.b (.l ⟨[.v 3 2 (.dat (.sl (.int .u8)) (some 0)),.v 6 2 (.dat (.int .u64) none)],[0,4],0,[1]⟩ .o)) .o))))) .o))))) .o))) λx=>by kernel_rfl
def TS:=mC TR call115
theorem TT:Ctr Sz prog 141 [.rd (.st 32),.rd (.st 32)] [.rd .bool] (λx=>rF x.1 x.2.1):=ncR [] [4] func141 ntmps141 .o λx=>by kernel_rfl
def TU:=mC TT call141
theorem Vx:Ctr Sz prog 95 [.rd (.st 32),.rd (.st 32)] [.rd (.int .i64)] (λx=>jn x.1 x.2.1):=ncR [TU] [4] func95 ntmps95 .o λx=>by kernel_rfl
def IX:=mC Vx call95
theorem TV:Ctr Sz prog 160 [.rd (.sl (.st 32))] [.rd (.sl (.st 32))] (λx=>xk x.1):=ncR [IX] [2] func160 ntmps160 (.s .o (.s .o (.s (.s .o (.b (.l ⟨[.v 3 1 (.dat (.sl (.st 32)) none),.v 4 1 (.dat (.int .i64) none)],[0],0,[]⟩ (.s .o (.s (.b (.s .o (.s .o (.s (.s .o (.b (.l ⟨[.v 5 2 (.dat (.sl (.st 32)) (some 0)),.v 6 2 (.dat .bool none),.v 7 2 (.dat (.int .i64) none)],[0,3,4],0,[4]⟩ .o))) .o)))) .o))))) .o))) λx=>by kernel_rfl
def TW:=mC TV call160
theorem TX:Ctr Sz prog 161 [.rd (.sl (.int .u64)),.rd (.int .i64)] [.ap (.int .u8)] (λx=>sH x.1 x.2.1):=ncR [] [4] func161 ntmps161 (.s .o (.s .o (.s (.s .o (.b (.l ⟨[.v 5 1 (.dat (.sl (.int .u8)) (some 0)),.v 6 1 (.dat (.int .i64) none)],[0,1],0,[1]⟩ (.s .o (.s (.b (.s .o (.s .o (.b (.l ⟨[.v 5 2 (.dat (.sl (.int .u8)) (some 0)),.v 7 2 (.dat (.int .u64) none),.v 8 2 (.dat (.int .i64) none)],[0,1,6],0,[1]⟩ .o))))) .o))))) (.s .o (.s (.s .o (.b (.l ⟨[.v 9 1 (.dat (.sl (.int .u8)) (some 1)),.v 10 1 (.dat (.int .i64) none)],[5],0,[1,1]⟩ (.s .o (.s (.b (.s .o (.s (.s .o (.b (.l ⟨[.v 11 2 (.dat (.int .u8) none),.v 12 2 (.dat (.int .i64) none)],[5,9,10],0,[1,1]⟩ .o))) .o))) .o))))) .o))))) λx=>by kernel_rfl
def K0:=mC TX call161
theorem TY:Ctr Sz prog 116 [.rd (.sl (.st 32))] [.ap (.int .u8)] (λx=>Ad x.1):=ncR [Nx,TW,K0,GL] [2] func116 ntmps116 (.s .o (.s .o (.s .o (.s (.s .o (.b (.l ⟨[.v 4 1 (.dat (.sl (.int .u8)) (some 0)),.v 5 1 (.dat (.int .i64) none)],[0,3],0,[1]⟩ .o))) (.s .o (.s (.s .o (.b (.l ⟨[.v 6 1 (.dat (.sl (.int .u64)) (some 1)),.v 7 1 (.dat (.int .i64) none)],[0,3,4],0,[1,1]⟩ (.s .o (.s (.b (.s .o (.b (.l ⟨[.v 6 2 (.dat (.sl (.int .u64)) (some 1)),.v 8 2 (.dat (.int .i64) none)],[0,3,4,7],0,[1,1]⟩ .o)))) .o))))) .o)))))) λx=>by kernel_rfl
def TZ:=mC TY call116
theorem T3:Ctr Sz prog 117 [.rd (.sl (.st 32))] [.ap (.int .u8)] (λx=>xr x.1):=ncR [GM,K0,GL] [2] func117 ntmps117 (.s .o (.s .o (.s (.s .o (.b (.l ⟨[.v 3 1 (.dat (.int .i64) none),.v 4 1 (.dat (.int .i64) none)],[0],0,[]⟩ .o))) (.s .o (.s .o (.s (.s .o (.b (.l ⟨[.v 5 1 (.dat (.sl (.int .u64)) (some 0)),.v 6 1 (.dat (.int .i64) none),.v 7 1 (.dat (.int .i64) none)],[0,3],0,[1]⟩ .o))) .o)))))) λx=>by kernel_rfl
def T4:=mC T3 call117
theorem Vy:Ctr Sz prog 52 [.rd (.int .i64),.rd (.sl (.st 32))] [.rd (.sl (.int .u8)),.rd (.int .i64)] (λx=>uY x.1 x.2.1):=ncR [Nx,TN,TP,TS,TZ,T4] [4,5] func52 ntmps52 (.s .o (.s .o (.s .o (.s .o (.s (.s .o (.b (.s .o (.i (.s .o (.s .o (.b (.l ⟨[.v 7 1 (.dat (.sl (.int .u8)) (some 1)),.v 9 1 (.dat (.int .i64) none)],[8],0,[1,5]⟩ .o)))) (.s .o (.i .o (.s .o (.i .o (.s .o (.i .o (.s .o (.b (.l ⟨[.v 7 1 (.dat (.sl (.int .u8)) (some 0)),.v 10 1 (.dat (.int .i64) none)],[1],0,[1]⟩ .o))))))))))))) .o))))) λx=>by kernel_rfl
def Vz:=mC Vy call52
theorem VA:Ctr Sz prog 63 [.rd (.int .i64),.rd (.sl (.int .u8)),.rd (.int .i64)] [.rd (.sl (.st 32)),.rd (.int .i64)] (λx=>u5 x.1 x.2.1 x.2.2.1):=ncR [Vz,Tw,Tz,TB,TH,TK] [6,7] func63 ntmps63 .o λx=>by kernel_rfl
def VB:=mC VA call63
theorem VC:Ctr Sz prog 53 [.rd (.int .i64),.rd (.sl (.st 32))] [.rd (.st 37)] (λx=>xt x.1 x.2.1):=nxR [IX] [.cell 4 37] func53 ntmps53 (.s .o (.s .o (.s (.s .o (.b (.l ⟨[.v 6 1 (.dat (.int .i64) none),.b 1 1 (.st 37)],[1,4,5],2,[]⟩ .o))) .o))) λx=>by kernel_rfl
def VD:=mC VC call53
theorem VE:Ctr Sz prog 22 [.rd (.sl (.int .u8))] [.rd (.sl (.st 32)),.rd (.int .i64),.rd (.int .i64)] (λx=>rM x.1):=ncR [Vv,VD,Nw,Au,VB] [2,3,4] func22 ntmps22 .o λx=>by kernel_rfl
def VF:=mC VE call22
theorem VG:Ctr Sz prog 87 [.rd (.sl (.int .u8)),.rd (.int .i64)] [.rd (.sl (.st 32)),.rd .bool] (λx=>vb x.1 x.2.1):=ncR [VF] [4,5] func87 ntmps87 (.s .o (.s .o (.s (.b (.l ⟨[.v 0 1 (.dat (.sl (.int .u8)) none),.v 6 1 (.dat (.sl (.st 32)) (some 0))],[1],0,[4]⟩ .o)) .o))) λx=>by kernel_rfl
def VH:=mC VG call87
theorem Eu (hS:S W0 m w L TL){p0}(e7:inR .i64 p0){p1}(b0:RV (kSl (kSl kAp)) m v1 p1){p2}(af:inR .i64 p2){r}(h:po p0 p1 p2=some r):Calls prog 88 #[(.int .i64 p0),v1,(.int .i64 p2)] w (Ret λv w'=>∃m',M.le m m'/\S W0 m' w' L TL/\∃v0_ v1_:Value,v=.tuple #[v0_,v1_]/\RV (kSl ae) m' v0_ r.1/\RV cS m' v1_ r.2):=by
 refine kc func88 ntmps88 λa E=>?_;have E:Env 110 a [(0,.int .i64 p0),(1,v1),(2,.int .i64 p2)]:=E;unfold po at h;refine ab (ak (qA E rfl λa E=>qA E rfl λa E=>ag (ab (ak (qA E rfl λa E=>ag (ab ?_))))));refine ab (ak (qA E rfl λa E=>ag ?_));refine cA (λa w=>∃x7:(List aa),rO x7=some r/\∃m',M.le m m'/\∃(v8:Value),RV (kSl ae) m' v8 x7/\S W0 m' w L ((4,v8)::TL)/\Env 110 a [(8,v8)]) ?_ ?_;{
 refine bj ?_;refine fN h (λ(s:List aa×Int)a w=>∃m',M.le m m'/\∃(a0:Value),RV (kSl ae) m' a0 s.1/\inR .i64 s.2/\S W0 m' w L ((4,a0)::TL)/\Env 110 a [(0,.int .i64 p0),(1,v1),(2,.int .i64 p2),(8,a0),(9,.int .i64 s.2)]) ?_ ?_
 {exact⟨_,(Z0 _),(.slice none 0 0),dK,(show inR .i64 0 from az (by decide)),(hS.tail0 4),kut E⟩}
 {
 rintro⟨b5,Z⟩a w⟨e5,a2,a0,g6,f5,hS,E⟩r21 h hb22;have h:gg p0 p1 p2 b5 Z=some r21:=h;unfold gg at h;refine ab (ab (ak (qM E rfl λa E=>qM E rfl λa E=>qB E rfl rfl cu λa E=>ag (kif E rfl (λe6=>?_) (λe6=>?_)))))
 {
 have h:=aH e6 h;refine a7 (ab ?_);refine cA (λa w=>∃c7:(List aa),oC Z c7=some r21/\∃m',M.le e5 m'/\∃(b6:Value),RV (kSl ae) m' b6 c7/\S W0 m' w L ((4,b6)::TL)/\Env 110 a [(0,.int .i64 p0),(1,v1),(2,.int .i64 p2),(8,b6),(9,.int .i64 Z)]) ?_ ?_
 {
 refine bj (ab (ak (sp E (tU E rfl underlying59 (pl:=[(0,2),(2,1),(3,1)]) rfl zeroValue59) rfl λa E=>?_)));refine st E (cF hS zeroValue59 rfl (cs:=zB)) rfl ?_;rintro _ a w⟨a1,rfl,hS⟩E;refine st0 E (sE E hS oZ rfl rfl rfl (vS _) (i:=0) rfl rfl) ?_;rintro _ w hS E;refine ag (ab (ab (ak (qA E rfl λa E=>ag ?_))))
 refine cA (λa w=>∃x46:aa,oE p0 p1 b5 Z x46=some r21/\∃m',M.le e5 m'/\∃(a6:List Value),∃(b3:Value),ae.R m' a6 x46/\a6[2]?=some b3/\S W0 m' w ((a1,a6)::L) ((4,b3)::(4,a0)::TL)/\Env 110 a [(0,.int .i64 p0),(1,v1),(2,.int .i64 p2),(8,a0),(9,.int .i64 Z),(10,pz a1)]) ?_ ?_
 {
 refine bj ?_;refine fN h (λ(s:Int×aa)a w=>∃m',M.le e5 m'/\∃(b4:List Value),∃(b2:Value),inR .i64 s.1/\ae.R m' b4 s.2/\b4[2]?=some b2/\S W0 m' w ((a1,b4)::L) ((4,b2)::(4,a0)::TL)/\Env 110 a [(0,.int .i64 p0),(1,v1),(2,.int .i64 p2),(8,a0),(9,.int .i64 Z),(10,pz a1),(11,.int .i64 s.1)]) ?_ ?_
 {exact⟨_,(Z0 _),zB,(.slice none 0 0),(show inR .i64 0 from az (by decide)),(vS _),rfl,(hS.tail0 4),kut E⟩}
 {
 rintro⟨x314,x316⟩a w⟨g8,e3,b4,b2,o2,c2,e1,hS,E⟩r321 h hb322;have h:lx p0 p1 b5 Z x314 x316=some r321:=h;unfold lx at h;refine ab (ab (ak (qM E rfl λa E=>qM E rfl λa E=>qB E rfl rfl cu λa E=>ag (kif E rfl (λf3=>?_) (λf3=>?_)))))
 {
 have h:=aH f3 h;refine a7 (ab (bj ?_));obtain⟨c6,r2,b7,w1,h⟩:=ob2 h
 refine kch (k:=10) (m:=g8) (es:=[]) (Φ:=(λi m ws v=>match i with|0=>v=(.pointer (some ⟨a1,2,none⟩))|1=>v=b2|2=>v=v1|3=>ei .i64 x314 v|4=>PR (kSl kAp) m v c6|5=>RV (kSl kAp) m v c6|6=>ei .i64 Z v|7=>PR kAp m v b7|8=>RV kAp m v b7|9=>RV (kSl kAp) m v ([b7])|_=>True)) (Q:=(λc m ws L' d0=>match c with|0=>(a1,b4)::L=L'/\(4,b2)::(4,a0)::TL=d0|_=>False)) (cs:=[jc [(10,pz a1)],jc [],jc [(1,v1)],jc [(11,.int .i64 x314)],jc [],jc [],jc [(9,.int .i64 Z)],jc [],jc [],jc []]) mixed E hS ⟨rfl,rfl⟩ rfl rfl (by kernel_rfl) ?_ ?_ ?_ ?_
 {
 intro i m_ d2 ws v n_ q_
 iterate 10 (rcases i with _|i;first|exact q_|exact PR.mono q_ n_|exact RV.mono q_ n_)
 exact trivial}
 {
 intro c m_ d2 ws L_ T_ n_ b1
 match c,b1 with
 |0,⟨f0,e8⟩=>exact⟨f0,e8⟩|_+1,b1=>exact b1.elim}
 {
 refine⟨?_,?_,?_,?_,?_,?_,?_,?_,?_,?_,trivial⟩
 {refine cp0 λ_ _ _ _ _ _ _ _ _ J W _=>?_;exact cq (aK W nW rfl) J rfl}
 {refine cp1 λ_ _ _ _ _ M' Q' J W T'=>?_;obtain⟨rfl,rfl⟩:=Q';have E:=W.add (T' 0);exact cq (ru (k:=kAp) (xx:=x316.fRow) (v:=b2) E J jw rfl (i:=0) rfl (KF.R_drop (aL (ae.mono M' c2))) e1) J rfl}
 {exact cmv λ_ _=>rfl}
 {exact cmv λ_ _=>⟨rfl,o2⟩}
 {refine cp0 λ_ _ _ _ _ _ _ M' _ J W T'=>?_;have E:=(W.add (T' 2)).add (T' 3).1;exact cr (be (k:=(kSl kAp)) E rfl rfl underlying126 sizeOf22 (b0.mono (j6 a2 (j6 e3 M'))) r2) J λ_ h=>h}
 {
 refine cp0 λ_ _ _ m' a' _ _ _ _ J W T'=>?_;obtain⟨ea,q3,j0⟩:∃v,a'.tmps.getD 28 undef=v/\(PR (kSl kAp) m' v c6):=⟨_,rfl,T' 4⟩
 have E:=W.add (q3);exact cr (aC E J jw rfl j0) J λ_ h=>h}
 {exact cmv λ_ _=>⟨rfl,f5⟩}
 {
 refine cp0 λ_ _ _ m' a' _ _ _ _ J W T'=>?_;obtain⟨ar,p3,q0⟩:∃v,a'.tmps.getD 29 undef=v/\(RV (kSl kAp) m' v c6):=⟨_,rfl,T' 5⟩
 have E:=(W.add (p3)).add (T' 6).1;exact cr (be (k:=kAp) E rfl rfl underlying22 sizeOf32 q0 w1) J λ_ h=>h}
 {
 refine cp0 λ_ _ _ m' a' _ _ _ _ J W T'=>?_;obtain⟨an,s4,i2⟩:∃v,a'.tmps.getD 31 undef=v/\(PR kAp m' v b7):=⟨_,rfl,T' 7⟩
 have E:=W.add (s4);exact cr (aC E J iA rfl i2) J λ_ h=>h}
 {refine cp0 λ_ _ _ m' a' _ _ _ _ J W T'=>?_;obtain⟨t1,E,l1⟩:=adv W (T' 8);refine a8.imp (gA (k:=kAp) (xs:=[b7]) (vs:=[t1]) E J rfl underlying22 sizeOf32 zeroValue32 ⟨l1,trivial⟩ rfl (by decide)) ?_;rintro ap w⟨ch,w6,hS,h3⟩;exact⟨_,w6,(hS.dropT 1),h3⟩}}
 {
 intro k4 L_ T_ X1 a w i3 e4 q2 hS p6 g7 h6 g4;obtain rfl:=eS i3;obtain⟨rfl,rfl⟩:=q2;have E:=eof 10 [(0,.int .i64 p0),(1,v1),(2,.int .i64 p2),(8,a0),(9,.int .i64 Z),(10,pz a1),(11,.int .i64 x314),(19,.int .i64 x314),(20,.int .i64 p0),(21,.bool (decide (x314<p0)))] p6 g7 h6;have E:=E.add (g4 1);obtain⟨co,E,p4⟩:=adv E (g4 9);obtain⟨m8,q5,h⟩:=ob h;refine st E (iM (k:=kAp) (N:=3518437208883) E hS rfl rfl underlying22 underlying22 zy (i:=0) rfl ((zU (k:=kAp) (KF.R_drop (aL c2)) e1).mono e4) p4 q5 rfl rfl) rfl ?_
 rintro y0 a w⟨al,g0,hS,m2⟩E;refine sp E (aK E nW rfl) rfl λa E=>?_;refine st0 E (w8 E hS jw Gt rfl rfl m2 (i:=0) rfl (ae.mono (j6 e4 g0) c2)) ?_;rintro _ w⟨k7,t4,x8,hS⟩E;refine ag (ak (qM E rfl λa E=>qB E rfl rfl (cp rfl) λa E=>qA E rfl λa E=>ag ?_));exact⟨(Z1.wrap (x314+1),{x316 with fRow:=m8}),(Option.some.inj h).symm,_,(j6 e3 (j6 e4 g0)),k7,y0,(aG _ _),t4,x8,hS,kut E⟩}}
 {have h:=aI f3 h;refine fe rfl rfl ?_;have h:=cg h hb322;exact⟨x316,h,_,e3,b4,b2,c2,e1,hS,kut E⟩}}}
 {
 rintro a w⟨x46,h,f6,a3,a6,b3,h7,r9,hS,E⟩;unfold oE at h;refine ab (ab (ak (qM E rfl λa E=>qA E rfl λa E=>ag ?_)));refine cA (λa w=>oD p0 p1 b5 Z x46=some r21/\∃m',M.le f6 m'/\S W0 m' w ((a1,a6)::L) ((4,b3)::(4,a0)::TL)/\Env 110 a [(0,.int .i64 p0),(1,v1),(2,.int .i64 p2),(8,a0),(9,.int .i64 Z),(10,pz a1)]) ?_ ?_
 {
 refine bj ?_;refine fN h (λ(s:Int)a w=>∃m',M.le f6 m'/\inR .i64 s/\S W0 m' w ((a1,a6)::L) ((4,b3)::(4,a0)::TL)/\Env 110 a [(0,.int .i64 p0),(1,v1),(2,.int .i64 p2),(8,a0),(9,.int .i64 Z),(10,pz a1),(12,.int .i64 s)]) ?_ ?_
 {exact⟨_,(Z0 _),e7,hS,kut E⟩}
 {
 rintro c4 a w⟨u1,c0,av,hS,E⟩r251 h hb252;have h:ge p0 p1 b5 Z x46 c4=some r251:=h;unfold ge at h;refine ab (ab (ak (qM E rfl λa E=>qM E rfl λa E=>qB E rfl rfl (cp rfl) λa E=>qB E rfl rfl cu λa E=>ag (kif E rfl (λe0=>?_) (λe0=>?_)))))
 {
 have h:=aH e0 h;refine a7 (ab (bj (ab ?_)));refine cA (λa w=>∃d1:Bool,lw c4 d1=some r251/\∃m',M.le u1 m'/\S W0 m' w ((a1,a6)::L) ((4,b3)::(4,a0)::TL)/\Env 110 a [(0,.int .i64 p0),(1,v1),(2,.int .i64 p2),(8,a0),(9,.int .i64 Z),(10,pz a1),(12,.int .i64 c4),(62,.bool d1)]) ?_ ?_
 {
 refine ak (qM E rfl λa E=>qM E rfl λa E=>?_);obtain⟨U1,w4,h⟩:=ob h;refine st E (be (k:=(kSl kAp)) E rfl rfl underlying126 sizeOf22 (b0.mono (j6 a2 (j6 a3 c0))) w4) rfl ?_;rintro dn a _⟨rfl,w0⟩E;refine st E (aC E hS jw rfl w0) rfl ?_;rintro dg a _⟨rfl,r4⟩E;refine qM E rfl λa E=>?_;obtain⟨m7,u0,h⟩:=ob h;refine st E (be (k:=kAp) E rfl rfl underlying22 sizeOf32 r4 u0) rfl ?_;rintro V1 a _⟨rfl,j5⟩E;refine st E (bX E CA Kz rfl j5) rfl ?_;rintro bc a _⟨rfl,l2⟩E;refine st E (aC E hS ty3 rfl l2) rfl ?_
 rintro bl a _⟨rfl,i0⟩E;obtain⟨rfl,ca⟩:=aF i0;refine qB E rfl rfl mS λa E=>qM E rfl λa E=>?_;rcases zx (m7.fKind !=2)with hd289|hd289
 {have h:=aH hd289 h;refine qX E hd289 λa E=>qX E hd289 λa E=>qX E hd289 λa E=>qX E hd289 λa E=>qX E hd289 λa E=>qX E hd289 λa E=>qX E hd289 λa E=>qX E hd289 λa E=>qX E hd289 λa E=>qT E hd289 rfl λa E=>?_;refine ag ?_;exact⟨true,h,_,(Z0 _),hS,kut E⟩}
 {
 have h:=aI hd289 h;refine qG E hd289 rfl λa E=>qG E hd289 rfl λa E=>?_;obtain⟨bk,r1,h⟩:=ob h;refine stg E rfl rfl rfl rfl hd289 (be (k:=(kSl kAp)) E rfl rfl underlying126 sizeOf22 (b0.mono (j6 a2 (j6 a3 c0))) r1) rfl ?_;rintro T1 a _⟨rfl,j4⟩E;refine stg E rfl rfl rfl rfl hd289 (aC E hS jw rfl j4) rfl ?_;rintro dk a _⟨rfl,m1⟩E;refine qG E hd289 rfl λa E=>?_;obtain⟨k0,r6,h⟩:=ob h;refine stg E rfl rfl rfl rfl hd289 (be (k:=kAp) E rfl rfl underlying22 sizeOf32 m1 r6) rfl ?_;rintro bx a _⟨rfl,o3⟩E
 refine stg E rfl rfl rfl rfl hd289 (bX E nV wH rfl o3) rfl ?_;rintro ao a _⟨rfl,w2⟩E;refine stg E rfl rfl rfl rfl hd289 (aC E hS ty2 rfl w2) rfl ?_;rintro W9 a _⟨rfl,l3⟩E;obtain⟨rfl,L1⟩:=aF l3;refine spg E rfl rfl rfl rfl hd289 (bg E rfl rfl cu) rfl λa E=>qF E hd289 rfl λa E=>ag ?_;exact⟨(decide (k0.fInt<0)),h,_,(Z0 _),hS,kut E⟩}}
 {
 rintro a w⟨d1,h,T2,g5,hS,E⟩;unfold lw at h;refine kif E rfl (λe9=>?_) (λe9=>?_)
 {
 have h:=aH e9 h;refine ab (ak (qA E rfl λa E=>qA E rfl λa E=>ag (bK ?_)));have h:=cg h hb252;have h:=cg h hb22;obtain rfl:=oi h
 try dsimp only
 refine f2 E ?_;exact⟨_,(j6 a2 (j6 a3 (j6 c0 g5))),((hS.dropL 1).dropT 2),_,_,rfl,dK,dA⟩}
 {have h:=aI e9 h;refine a7 (ak (qM E rfl λa E=>qB E rfl rfl (cp rfl) λa E=>qA E rfl λa E=>ag ?_));exact⟨Z1.wrap (c4+1),(Option.some.inj h).symm,_,(j6 c0 g5),(aG _ _),hS,kut E⟩}}}
 {have h:=aI e0 h;refine fe rfl rfl ?_;have h:=cg h hb252;exact⟨h,_,c0,hS,kut E⟩}}}
 {
 rintro a w⟨h,h5,a9,hS,E⟩;unfold oD at h;refine ab (ab (ak (qM E rfl λa E=>qM E rfl λa E=>qB E rfl rfl (cp rfl) λa E=>?_)));obtain⟨z9,k6,h⟩:=ob h;refine st E (be (k:=(kSl kAp)) E rfl rfl underlying126 sizeOf22 (b0.mono (j6 a2 (j6 a3 a9))) k6) rfl ?_;rintro y1 a _⟨rfl,p8⟩E;refine st E (aC E hS jw rfl p8) rfl ?_;rintro r7 a _⟨rfl,m4⟩E;refine qM E rfl λa E=>?_;obtain⟨g2,n0,h⟩:=ob h;refine st E (be (k:=kAp) E rfl rfl underlying22 sizeOf32 m4 n0) rfl ?_;rintro s2 a _⟨rfl,m9⟩E;refine st E (bX E nV wH rfl m9) rfl ?_
 rintro r8 a _⟨rfl,x1⟩E;refine st E (aC E hS ty2 rfl x1) rfl ?_;rintro cv a _⟨rfl,t0⟩E;obtain⟨rfl,ba⟩:=aF t0;refine qB E rfl rfl lC λa E=>ag (kif E rfl (λf4=>?_) (λf4=>?_))
 {
 have h:=aH f4 h;refine ab (ak (qA E rfl λa E=>qA E rfl λa E=>ag (bK ?_)));have h:=cg h hb22;obtain rfl:=oi h
 try dsimp only
 refine f2 E ?_;exact⟨_,(j6 a2 (j6 a3 a9)),((hS.dropL 1).dropT 2),_,_,rfl,dK,dA⟩}
 {
 have h:=aI f4 h;refine a7 (ab ?_);obtain⟨c3,l4,a4,q6,h⟩:=ob2 h;obtain⟨c1,i4,a5,q4,h⟩:=ob2 h
 refine kch (k:=19) (m:=h5) (es:=[]) (Φ:=(λi m ws v=>match i with|0=>v=v1|1=>ei .i64 p0 v|2=>PR (kSl kAp) m v c3|3=>RV (kSl kAp) m v c3|4=>ei .i64 Z v|5=>PR kAp m v a4|6=>PR (aj .i64) m v a4.fInt|7=>ei .i64 a4.fInt v|8=>ei .u64 (Z3.wrap a4.fInt) v|9=>v=v1|10=>ei .i64 p0 v|11=>ei .i64 (Z1.wrap (p0+1)) v|12=>PR (kSl kAp) m v c1|13=>RV (kSl kAp) m v c1|14=>ei .i64 Z v|15=>PR kAp m v a5|16=>PR (aj .i64) m v a5.fInt|17=>ei .i64 a5.fInt v|18=>ei .u32 (Z4.wrap a5.fInt) v|_=>True)) (Q:=(λc m ws L' d0=>match c with|0=>(a1,a6)::L=L'/\(4,b3)::(4,a0)::TL=d0|_=>False)) (cs:=[jc [(1,v1)],jc [(0,.int .i64 p0)],jc [],jc [],jc [(9,.int .i64 Z)],jc [],jc [],jc [],jc [],jc [(1,v1)],jc [(0,.int .i64 p0)],jc [],jc [],jc [],jc [(9,.int .i64 Z)],jc [],jc [],jc [],jc []]) mixed E hS ⟨rfl,rfl⟩ rfl rfl (by kernel_rfl) ?_ ?_ ?_ ?_
 {
 intro i m_ d2 ws v n_ q_
 iterate 19 (rcases i with _|i;first|exact q_|exact PR.mono q_ n_|exact RV.mono q_ n_)
 exact trivial}
 {
 intro c m_ d2 ws L_ T_ n_ b1
 match c,b1 with
 |0,⟨f0,e8⟩=>exact⟨f0,e8⟩|_+1,b1=>exact b1.elim}
 {
 refine⟨?_,?_,?_,?_,?_,?_,?_,?_,?_,?_,?_,?_,?_,?_,?_,?_,?_,?_,?_,trivial⟩
 {exact cmv λ_ _=>rfl}
 {exact cmv λ_ _=>⟨rfl,e7⟩}
 {refine cp0 λ_ _ _ _ _ _ _ M' _ J W T'=>?_;have E:=(W.add (T' 0)).add (T' 1).1;exact cr (be (k:=(kSl kAp)) E rfl rfl underlying126 sizeOf22 (b0.mono (j6 a2 (j6 a3 (j6 a9 M')))) l4) J λ_ h=>h}
 {
 refine cp0 λ_ _ _ m' a' _ _ _ _ J W T'=>?_;obtain⟨z8,y4,p5⟩:∃v,a'.tmps.getD 75 undef=v/\(PR (kSl kAp) m' v c3):=⟨_,rfl,T' 2⟩
 have E:=W.add (y4);exact cr (aC E J jw rfl p5) J λ_ h=>h}
 {exact cmv λ_ _=>⟨rfl,f5⟩}
 {
 refine cp0 λ_ _ _ m' a' _ _ _ _ J W T'=>?_;obtain⟨dl,o1,n6⟩:∃v,a'.tmps.getD 76 undef=v/\(RV (kSl kAp) m' v c3):=⟨_,rfl,T' 3⟩
 have E:=(W.add (o1)).add (T' 4).1;exact cr (be (k:=kAp) E rfl rfl underlying22 sizeOf32 n6 q6) J λ_ h=>h}
 {
 refine cp0 λ_ _ _ m' a' _ _ _ _ J W T'=>?_;obtain⟨bi,h4,y3⟩:∃v,a'.tmps.getD 78 undef=v/\(PR kAp m' v a4):=⟨_,rfl,T' 5⟩
 have E:=W.add (h4);exact cr (bX E nV wH rfl y3) J λ_ h=>h}
 {
 refine cp0 λ_ _ _ m' a' _ _ _ _ J W T'=>?_;obtain⟨bt,z3,j1⟩:∃v,a'.tmps.getD 79 undef=v/\(PR (aj .i64) m' v a4.fInt):=⟨_,rfl,T' 6⟩
 have E:=W.add (z3);exact cr (aC E J ty2 rfl j1) J λ_ h=>aF h}
 {refine cp0 λ_ _ _ _ _ _ _ _ _ J W T'=>?_;have E:=W.add (T' 7).1;exact cq (fC E rfl underlying2 underlying54 rfl) J ⟨rfl,(aG _ _)⟩}
 {exact cmv λ_ _=>rfl}
 {exact cmv λ_ _=>⟨rfl,e7⟩}
 {refine cp0 λ_ _ _ _ _ _ _ _ _ J W T'=>?_;have E:=W.add (T' 10).1;exact cq (bg E rfl rfl (cp rfl)) J ⟨rfl,(aG _ _)⟩}
 {refine cp0 λ_ _ _ _ _ _ _ M' _ J W T'=>?_;have E:=(W.add (T' 9)).add (T' 11).1;exact cr (be (k:=(kSl kAp)) E rfl rfl underlying126 sizeOf22 (b0.mono (j6 a2 (j6 a3 (j6 a9 M')))) i4) J λ_ h=>h}
 {
 refine cp0 λ_ _ _ m' a' _ _ _ _ J W T'=>?_;obtain⟨df,h0,u2⟩:∃v,a'.tmps.getD 85 undef=v/\(PR (kSl kAp) m' v c1):=⟨_,rfl,T' 12⟩
 have E:=W.add (h0);exact cr (aC E J jw rfl u2) J λ_ h=>h}
 {exact cmv λ_ _=>⟨rfl,f5⟩}
 {
 refine cp0 λ_ _ _ m' a' _ _ _ _ J W T'=>?_;obtain⟨bo,i1,h2⟩:∃v,a'.tmps.getD 86 undef=v/\(RV (kSl kAp) m' v c1):=⟨_,rfl,T' 13⟩
 have E:=(W.add (i1)).add (T' 14).1;exact cr (be (k:=kAp) E rfl rfl underlying22 sizeOf32 h2 q4) J λ_ h=>h}
 {
 refine cp0 λ_ _ _ m' a' _ _ _ _ J W T'=>?_;obtain⟨ad,q7,n4⟩:∃v,a'.tmps.getD 88 undef=v/\(PR kAp m' v a5):=⟨_,rfl,T' 15⟩
 have E:=W.add (q7);exact cr (bX E nV wH rfl n4) J λ_ h=>h}
 {
 refine cp0 λ_ _ _ m' a' _ _ _ _ J W T'=>?_;obtain⟨ac,t5,w3⟩:∃v,a'.tmps.getD 89 undef=v/\(PR (aj .i64) m' v a5.fInt):=⟨_,rfl,T' 16⟩
 have E:=W.add (t5);exact cr (aC E J ty2 rfl w3) J λ_ h=>aF h}
 {refine cp0 λ_ _ _ _ _ _ _ _ _ J W T'=>?_;have E:=W.add (T' 17).1;exact cq (fC E rfl underlying2 underlying55 rfl) J ⟨rfl,(aG _ _)⟩}}
 {
 intro k4 L_ T_ r3 a w z1 c5 r5 hS h8 m6 y2 g3;obtain rfl:=eS z1;obtain⟨rfl,rfl⟩:=r5;have E:=eof 19 [(0,.int .i64 p0),(1,v1),(2,.int .i64 p2),(8,a0),(9,.int .i64 Z),(10,pz a1),(63,v1),(64,.int .i64 p0),(65,.int .i64 (Z1.wrap (p0+1))),(66,y1),(67,r7),(68,.int .i64 Z),(69,s2),(70,r8),(71,.int .i64 g2.fInt),(72,.bool (decide (4294967295<g2.fInt)))] h8 m6 y2;obtain⟨j2,h1⟩:=g3 8;have E:=E.add j2;obtain⟨x5,u8⟩:=g3 18;have E:=E.add x5
 refine st E (rq (m:=r3) (k:=bV) (x0:=aO.zero) (xx:=(⟨Z3.wrap a4.fInt,Z4.wrap a5.fInt⟩:aO)) (pl:=[(0,1),(1,1)]) (pv:=[(0,.int .u64 (Z3.wrap a4.fInt)),(1,.int .u32 (Z4.wrap a5.fInt))]) E rfl underlying57 rfl zeroValue57 IV rfl (.cons rfl Gr (ax h1) (.cons rfl Gs (ax u8) .nil))) rfl ?_;rintro bb a _⟨rfl,z0⟩E;refine sp E (aK E lz rfl) rfl λa E=>?_;refine st0 E (yG E hS xZ Cy rfl rfl z0 (i:=0) rfl (ae.mono (j6 a9 c5) h7)) ?_;rintro _ w⟨V2,g9,x3,hS⟩E;have i8:=x3 2 _ r9 (by decide)
 refine ag (ab (ak (qM E rfl λa E=>qM E rfl λa E=>qB E rfl rfl (cp rfl) λa E=>?_)));obtain⟨U2,t3,h⟩:=ob h;refine st E (be (k:=(kSl kAp)) E rfl rfl underlying126 sizeOf22 (b0.mono (j6 a2 (j6 a3 (j6 a9 c5)))) t3) rfl ?_;rintro I2 a _⟨rfl,s1⟩E;refine st E (aC E hS jw rfl s1) rfl ?_;rintro z7 a _⟨rfl,s3⟩E;refine qM E rfl λa E=>?_;obtain⟨q1,p7,h⟩:=ob h;refine st E (be (k:=kAp) E rfl rfl underlying22 sizeOf32 s3 p7) rfl ?_;rintro bs a _⟨rfl,n2⟩E;refine st E (bX E nV wH rfl n2) rfl ?_;rintro X0 a _⟨rfl,t9⟩E
 refine st E (aC E hS ty2 rfl t9) rfl ?_;rintro dr a _⟨rfl,h9⟩E;obtain⟨rfl,cn⟩:=aF h9;refine sp E (fC E rfl underlying2 underlying54 rfl) rfl λa E=>sp E (aK E Gz rfl) rfl λa E=>?_;refine st0 E (yG E hS Dr Gu rfl rfl (ax (aG _ _)) (i:=0) rfl g9) ?_;rintro _ w⟨de,x4,k5,hS⟩E;have W1:=k5 2 _ i8 (by decide);refine ag (ak (qM E rfl λa E=>?_));refine st E (aM E hS oZ rfl (i:=0) rfl (aL x4)) rfl ?_;rintro n3 a _⟨rfl,x9⟩E
 refine st E (gA (k:=ae) (xs:=[{{x46 with fId:=(⟨Z3.wrap a4.fInt,Z4.wrap a5.fInt⟩:aO)}with fDeleted:=Z3.wrap q1.fInt}]) (vs:=[n3]) E hS rfl underlying50 sizeOf59 zeroValue59 ⟨x9,trivial⟩ rfl (by decide)) rfl ?_;rintro W2 a w⟨B0,g1,hS,n1⟩E;obtain⟨k3,x2,h⟩:=ob h;refine st E (iM (k:=ae) (N:=2932031007402) E hS rfl rfl underlying50 underlying50 IT (i:=2) rfl (g6.mono (j6 a3 (j6 a9 (j6 c5 g1)))) n1 x2 rfl rfl) rfl ?_;rintro r0 a w⟨X2,z4,hS,o0⟩E;refine qA E rfl λa E=>ag ?_
 exact⟨k3,h,_,(j6 a3 (j6 a9 (j6 c5 (j6 g1 z4)))),r0,o0,((hS.pickL 1 [] rfl rfl rfl).pickT 3 [2] rfl rfl rfl),kut E⟩}}}}}
 {rintro a w⟨c7,h,bu,z5,b6,j3,hS,E⟩;unfold oC at h;refine ak (qM E rfl λa E=>qB E rfl rfl (cp rfl) λa E=>qA E rfl λa E=>ag ?_);exact⟨(c7,Z1.wrap (Z+1)),(Option.some.inj h).symm,_,(j6 a2 z5),b6,j3,(aG _ _),hS,kut E⟩}}
 {have h:=aI e6 h;refine fe rfl rfl ?_;have h:=cg h hb22;exact⟨b5,h,_,a2,a0,g6,hS,kut E⟩}}};{
 rintro a w⟨x7,h,m5,w5,v8,i5,hS,E⟩;unfold rO at h;refine ab (ak (qM E rfl λa E=>qA E rfl λa E=>qA E rfl λa E=>ag (bK ?_)));obtain rfl:=oi h
 try dsimp only
 refine f2 E ?_;exact⟨_,w5,(hS.dropT 1),_,_,rfl,i5,dA⟩}
theorem VI:Ctr Sz prog 88 [.rd (.int .i64),.rd (.sl (.sl (.st 32))),.rd (.int .i64)] [.rd (.sl (.st 59)),.rd .bool] (λx=>po x.1 x.2.1 x.2.2.1):=by intro W0 m w L TL vs x r Lp Tp hS hP h;obtain⟨v0,vs,rfl,a0,W⟩:=cT hP;obtain⟨rfl,n0⟩:=aF a0;obtain⟨v1,vs,rfl,a1,a3⟩:=cT W;obtain⟨v2,vs,rfl,a2,J⟩:=cT a3;obtain⟨rfl,n2⟩:=aF a2;obtain⟨rfl,rfl,rfl⟩:=eT J;refine rm (Eu (hS:=hS) n0 a1 n2 h) λv w' Z=>?_;obtain⟨m',hm,Z',u0,u1,rfl,r0,r1⟩:=Z;exact⟨m',[u0,u1],[],[],[],hm,Z',rfl,⟨r0,⟨r1,trivial⟩⟩,trivial⟩
def VJ:=mC VI call88
theorem VK:Ctr Sz prog 41 [.rd (.sl (.int .i64)),.rd (.sl (.st 32))] [.ap (.st 32)] (λx=>qW x.1 x.2.1):=ncR [] [4] func41 ntmps41 (.s .o (.s .o (.s (.s .o (.b (.l ⟨[.v 5 1 (.dat (.sl (.st 32)) (some 0)),.v 6 1 (.dat (.int .i64) none)],[0,1],0,[4]⟩ .o))) .o))) λx=>by kernel_rfl
def Ny:=mC VK call41
theorem VL:Ctr Sz prog 40 [.rd (.sl (.st 32)),.rd (.sl (.st 32))] [.rd (.int .i64)] (λx=>tO x.1 x.2.1):=ncR [IX] [4] func40 ntmps40 (.s .o (.s (.s .o (.b (.l ⟨[.v 5 1 (.dat (.int .i64) none)],[0,1],0,[]⟩ .o))) .o)) λx=>by kernel_rfl
def Nz:=mC VL call40
theorem T5:Ctr Sz prog 131 [.rd (.st 57),.rd (.st 57)] [.rd .bool] (λx=>u9 x.1 x.2.1):=ncR [] [4] func131 ntmps131 .o λx=>by kernel_rfl
def T6:=mC T5 call131
theorem VM:Ctr Sz prog 72 [.rd (.sl (.int .i64)),.rd (.st 59),.rd (.st 59)] [.rd .bool] (λx=>va x.1 x.2.1 x.2.2.1):=ncR [Nz,Ny,T6] [6] func72 ntmps72 .o λx=>by kernel_rfl
def VN:=mC VM call72
end
end Go.Proofs.YthbonoagbeilkaaGreat.Hay
