import Derived.Test.YthbonoagbeilkaaGreatHfB
import Derived.Test.YthbonoagbeilkaaGreatExQ
import Derived.Test.YthbonoagbeilkaaGreatHbW
set_option maxRecDepth 100000
set_option maxHeartbeats 4000000
set_option linter.unusedVariables false
namespace Go.Proofs.YthbonoagbeilkaaGreat.Hay
open Nat renaming le_of_ble_eq_true→Z4
open Bool renaming eq_false_or_eq_true→Z1
open M.le renaming trans→Z0,refl→Z2
open IntKind renaming i64→Z3,u64→Z5,u8→Z6
open Go.Proofs Tryz
noncomputable section
variable {W0:Bse}{m:M}{w:World}{L:List (Nat×List Value)}{TL:List (Nat×Value)}{v0 v1 v2 v3 v4 v5 v6 v7 v8 v9:Value}
theorem Qj:Ctr Sz prog 176 [.rd (.sl (.int .i64)),.rd (.int .i64)] [.rd (.int .i64)] (λx=>lJ x.1 x.2.1):=
 ncR [] [4] func176 ntmps176 (.s .o (.s (.s .o (.b (.l ⟨[.v 8 1 (.dat (.int .i64) none)],[0,1,7],0,[]⟩ .o))) .o)) λx=>by kernel_rfl
def Qk:=mC Qj call176
theorem Ql:Ctr Sz prog 132 [.rd (.sl (.int .i64)),.rd (.int .i64)] [.rd .bool] (λx=>gP x.1 x.2.1):=
 ncR [Qk] [4] func132 ntmps132 .o λx=>by kernel_rfl
theorem vp (hS:S W0 m w L TL) {p0}(a0:RV (kSl (ag .i64)) m v0 p0) {p1}(W:inR .i64 p1) {r}(h:gP p0 p1=some r):
    Calls prog 132 #[v0,(.int .i64 p1)] w (Ret λv w'=>∃m',M.le m m'/\S W0 m' w' L TL/\RV cL m' v r):=by
 refine rm (Ql W0 m w L TL [v0,(.int .i64 p1)] (p0,p1,()) r [] [] hS ⟨a0,⟨aq W,trivial⟩⟩ h) λv w' Z=>?_;obtain⟨m',us,Lr,Lq,Tr,hm,Z',rfl,hR,hO⟩:=Z;obtain⟨u0,us,rfl,r0,J⟩:=cM hR;obtain⟨rfl,rfl,rfl⟩:=b9 J;have a2:=bp hO;have a1:=bp a2;obtain rfl:=cc a1;exact⟨m',hm,Z',r0⟩
theorem Qm:Ctr Sz prog 128 [] [.rd (.st 32)] (λx=>lx):=
 nxR [] [.cell 0 32] func128 ntmps128 .o λx=>by kernel_rfl
def Fh:=mC Qm call128
theorem Qn:Ctr Sz prog 144 [.rd .bool] [.rd (.st 32)] (λx=>pK x.1):=
 nxR [] [.cell 2 32] func144 ntmps144 .o λx=>by kernel_rfl
def Jn:=mC Qn call144
theorem Qo:Ctr Sz prog 136 [.rd (.int .i64)] [.rd (.st 32)] (λx=>eI x.1):=
 nxR [] [.cell 2 32] func136 ntmps136 .o λx=>by kernel_rfl
def A9:=mC Qo call136
theorem Qp:Ctr Sz prog 145 [.rd .str] [.rd (.st 32)] (λx=>pL x.1):=
 nxR [] [.cell 2 32] func145 ntmps145 .o λx=>by kernel_rfl
def Jo:=mC Qp call145
theorem Qq:Ctr Sz prog 101 [.rd (.st 32)] [.rd .bool] (λx=>mh x.1):=
 ncR [Fh,A9,Jn,Jo] [2] func101 ntmps101 .o λx=>by kernel_rfl
def Fi:=mC Qq call101
theorem Qr:Ctr Sz prog 133 [.rd (.int .i64),.rd (.st 59)] [.rd .bool] (λx=>l7 x.1 x.2.1):=
 ncR [Fi] [4] func133 ntmps133 (.s .o (.s (.s .o (.b (.l ⟨[.v 11 1 (.dat (.int .i64) none)],[0,3,9,10],1,[]⟩ .o))) .o)) λx=>by kernel_rfl
theorem Ba (hS:S W0 m w L TL) {p0}(a0:inR .i64 p0) {p1}(W:RV aj m v1 p1) {r}(h:l7 p0 p1=some r):
    Calls prog 133 #[(.int .i64 p0),v1] w (Ret λv w'=>∃m',M.le m m'/\S W0 m' w' L TL/\RV cL m' v r):=by
 refine rm (Qr W0 m w L TL [(.int .i64 p0),v1] (p0,p1,()) r [] [] hS ⟨aq a0,⟨W,trivial⟩⟩ h) λv w' Z=>?_;obtain⟨m',us,Lr,Lq,Tr,hm,Z',rfl,hR,hO⟩:=Z;obtain⟨u0,us,rfl,r0,J⟩:=cM hR;obtain⟨rfl,rfl,rfl⟩:=b9 J;have a2:=bp hO;have a1:=bp a2;obtain rfl:=cc a1;exact⟨m',hm,Z',r0⟩
theorem kP (hS:S W0 m w L TL) {p0}(f0:inR .i64 p0) {p1}(c5:RV (kSl (ag .i64)) m v1 p1) {p2}(b6:RV (kSl aj) m v2 p2) {r}(h:gl p0 p1 p2=some r):
    Calls prog 74 #[(.int .i64 p0),v1,v2] w (Ret λv w'=>∃m',M.le m m'/\S W0 m' w' L TL/\RV (ag .i64) m' v r):=by
 refine kc func74 ntmps74 λa E=>?_;have E:Env 69 a [(0,.int .i64 p0),(1,v1),(2,v2)]:=E;unfold gl at h;refine ab (ak (qA E rfl λa E=>ae (ab (ab ?_))));refine cj (λa w=>∃x4:Bool,fJ p0 p1 p2 x4=some r/\∃m',M.le m m'/\S W0 m' w L TL/\Env 69 a [(0,.int .i64 p0),(1,v1),(2,v2),(17,.bool x4)]) ?_ ?_
 {
 refine ak (qM E rfl λa E=>qB E rfl rfl cl λa E=>qM E rfl λa E=>?_);rcases Z1 (decide (p0<1)) with hd146|hd146
 {have h:=aF hd146 h;refine qX E hd146 λa E=>qX E hd146 λa E=>qT E hd146 rfl λa E=>ae ?_;exact⟨true,h,_,(Z2 _),hS,kut E⟩}
 {have h:=aG hd146 h;refine qG E hd146 rfl λa E=>spg E rfl rfl rfl rfl hd146 (a7 E rfl rfl kL) rfl λa E=>qF E hd146 rfl λa E=>ae ?_;exact⟨(decide (8<p0)),h,_,(Z2 _),hS,kut E⟩}}
 {
 rintro a w ⟨x4,h,m2,J,hS,E⟩;unfold fJ at h;refine kif E rfl (λb4=>?_) (λb4=>?_)
 {
 have h:=aF b4 h;refine ab (ak (qA E rfl λa E=>ae (bD ?_)));obtain rfl:=oi h
 try dsimp only
 refine f1 E ?_;exact⟨_,J,hS,(aq (show inR .i64 1 from au (by decide)))⟩}
 {
 have h:=aG b4 h;refine aV (ab (ab (ak (qM E rfl λa E=>sp E (bh (k:=(ag .i64)) E rfl rfl underlying49 (c5.mono J)) rfl λa E=>qM E rfl λa E=>ae ?_))));refine cj (λa w=>eL p0 p2=some r/\∃m',M.le m2 m'/\S W0 m' w L TL/\Env 69 a [(0,.int .i64 p0),(2,v2)]) ?_ ?_
 {
 refine bd ?_;refine eG h (λ(s:Int) a w=>∃m',M.le m2 m'/\inR .i64 s/\S W0 m' w L TL/\Env 69 a [(0,.int .i64 p0),(1,v1),(2,v2),(18,v1),(19,.int .i64 (p1.length:Int)),(20,.int .i64 s)]) ?_ ?_
 {exact⟨_,(Z2 _),(show inR .i64 0 from au (by decide)),hS,kut E⟩}
 {
 rintro a9 a w ⟨e8,a1,h8,hS,E⟩ r93 h hb94;have h:fI p0 p1 p2 a9=some r93:=h;unfold fI at h;refine ab (ak (qB E rfl rfl cl λa E=>ae (ab (kif E rfl (λb5=>?_) (λb5=>?_)))))
 {
 have h:=aF b5 h;refine aV (ab (bd (ab (ak (qM E rfl λa E=>?_)))));obtain⟨c7,f9,h⟩:=ob h;refine st E (bn (k:=(ag .i64)) E rfl rfl underlying49 sizeOf3 (c5.mono (Z0 J a1)) f9) rfl ?_;rintro i1 a _ ⟨rfl,e9⟩ E;refine st E (aO E hS ty3 rfl e9) rfl ?_;rintro i2 a _ ⟨rfl,g9⟩ E;obtain⟨rfl,g5⟩:=aJ g9;refine qA E rfl λa E=>qA E rfl λa E=>ae (ab ?_);refine cj (λa w=>∃b3:Bool,eM a9 b3=some r93/\∃m',M.le e8 m'/\S W0 m' w L TL/\Env 69 a [(0,.int .i64 p0),(1,v1),(2,v2),(18,v1),(19,.int .i64 (p1.length:Int)),(20,.int .i64 a9),(38,.bool b3)]) ?_ ?_
 {
 refine ak (qM E rfl λa E=>qB E rfl rfl cl λa E=>qM E rfl λa E=>?_);rcases Z1 (decide (c7<0)) with hd118|hd118
 {have h:=aF hd118 h;refine qX E hd118 λa E=>qX E hd118 λa E=>qX E hd118 λa E=>qT E hd118 rfl λa E=>qM E rfl λa E=>qX E rfl λa E=>qX E rfl λa E=>qX E rfl λa E=>qX E rfl λa E=>qX E rfl λa E=>?_;refine qT E rfl rfl λa E=>ae ?_;exact⟨true,h,_,(Z2 _),hS,kut E⟩}
 {
 have h:=aG hd118 h;refine qG E hd118 rfl λa E=>qG E hd118 rfl λa E=>spg E rfl rfl rfl rfl hd118 (a7 E rfl rfl Dg) rfl λa E=>qF E hd118 rfl λa E=>qM E rfl λa E=>?_;rcases Z1 (decide (p0<=c7)) with hd127|hd127
 {have h:=aF hd127 h;refine qX E hd127 λa E=>qX E hd127 λa E=>qX E hd127 λa E=>qX E hd127 λa E=>qX E hd127 λa E=>qT E hd127 rfl λa E=>ae ?_;exact⟨true,h,_,(Z2 _),hS,kut E⟩}
 {
 have h:=aG hd127 h;refine qG E hd127 rfl λa E=>qG E hd127 rfl λa E=>?_;obtain⟨h7,h0,h⟩:=ob h;refine stg E rfl rfl rfl rfl hd127 (cS (k:=(ag .i64)) E rfl underlying49 sizeOf3 (c5.mono (Z0 J a1)) rfl ⟨_,rfl⟩ h0 (xl:=none) (xh:=(some (.tmp 34)))) rfl ?_;rintro g6 a _ ⟨rfl,f5⟩ E;refine qG E hd127 rfl λa E=>?_;obtain⟨f3,g8,h⟩:=ob h;refine stg E rfl rfl rfl rfl hd127 (aL (vs:=[g6,(.int .i64 c7)]) E rfl call132 (vp (hS:=hS) f5 g5 g8)) rfl ?_;rintro j1 a w ⟨j3,h2,hS,g0⟩ E;obtain rfl:=eS g0;refine qF E hd127 rfl λa E=>ae ?_
 exact⟨f3,h,_,h2,hS,kut E⟩}}}
 {
 rintro a w ⟨b3,h,j5,e4,hS,E⟩;unfold eM at h;refine kif E rfl (λb2=>?_) (λb2=>?_)
 {
 have h:=aF b2 h;refine ab (ak (qA E rfl λa E=>ae (bD ?_)));have h:=bY h hb94;obtain rfl:=oi h
 try dsimp only
 refine f1 E ?_;exact⟨_,(Z0 J (Z0 a1 e4)),hS,(aq (show inR .i64 1 from au (by decide)))⟩}
 {have h:=aG b2 h;refine aV (ak (qB E rfl rfl (br rfl) λa E=>qM E rfl λa E=>ae ?_));exact⟨Z3.wrap (a9+1),(Option.some.inj h).symm,_,(Z0 a1 e4),(aA _ _),hS,kut E⟩}}}
 {have h:=aG b5 h;refine d4 rfl rfl ?_;have h:=bY h hb94;exact⟨h,_,a1,hS,kut E⟩}}}
 {
 rintro a w ⟨h,e0,W,hS,E⟩;unfold eL at h;refine ab (ab (ak (qM E rfl λa E=>sp E (bh (k:=aj) E rfl rfl underlying50 (b6.mono (Z0 J W))) rfl λa E=>qB E rfl rfl kL λa E=>ae (kif E rfl (λc4=>?_) (λc4=>?_)))))
 {
 have h:=aF c4 h;refine ab (ak (qA E rfl λa E=>ae (bD ?_)));obtain rfl:=oi h
 try dsimp only
 refine f1 E ?_;exact⟨_,(Z0 J W),hS,(aq (show inR .i64 81 from au (by decide)))⟩}
 {
 have h:=aG c4 h;refine aV (ab (ak ?_));refine st E (GJ hS) rfl ?_;rintro _ a w ⟨Z,rfl,hS,d0,h4⟩ E;refine qA E rfl λa E=>ae (ab (ab (ak (qM E rfl λa E=>sp E (bh (k:=aj) E rfl rfl underlying50 (b6.mono (Z0 J W))) rfl λa E=>qM E rfl λa E=>ae ?_))));refine cj (λa w=>∃c6:(List aM),mX c6=some r/\∃m',M.le e0 m'/\∃(b0:Array MapEntry),∃(c0:Nat),qm Hy b0 c0 c6/\S (W0.put Z (.map b0 c0)) m' w L TL/\Env 69 a []) ?_ ?_
 {
 refine bd ?_;refine eG h (λ(s:Int×List aM) a w=>∃m',M.le e0 m'/\∃(a3:Array MapEntry),∃(a5:Nat),inR .i64 s.1/\qm Hy a3 a5 s.2/\S (W0.put Z (.map a3 a5)) m' w L TL/\Env 69 a [(0,.int .i64 p0),(9,(.map (some Z))),(44,v2),(45,.int .i64 (p2.length:Int)),(46,.int .i64 s.1)]) ?_ ?_
 {exact⟨_,(Z2 _),#[],0,(show inR .i64 0 from au (by decide)),(qm.nil (K:=Hy)),hS,kut E⟩}
 {
 rintro ⟨a2,a0⟩ a w ⟨f4,a4,a3,a5,i4,e5,hS,E⟩ r43 h hb44;have h:dy p0 p2 a2 a0=some r43:=h;unfold dy at h;refine ab (ak (qB E rfl rfl cl λa E=>ae (ab (kif E rfl (λb7=>?_) (λb7=>?_)))))
 {
 have h:=aF b7 h;refine aV (ab (bd (ab (ak ?_))));obtain⟨a6,g4,h⟩:=ob h;refine st E (bn (k:=aj) E rfl rfl underlying50 sizeOf59 (b6.mono (Z0 J (Z0 W a4))) g4) rfl ?_;rintro j0 a _ ⟨rfl,h3⟩ E;refine st E (aO E hS tA rfl h3) rfl ?_;rintro j2 a _ ⟨rfl,g2⟩ E;refine st E (dv hS zeroValue59 rfl (cs:=Fd)) rfl ?_;rintro _ a w ⟨e6,rfl,hS⟩ E;refine st0 E (dh E hS tA bW rfl rfl g2 (i:=0) rfl (zS _)) ?_;rintro _ w ⟨f6,c1,hS⟩ E;refine ae (ab ?_);refine UR (K:=Hy) mixed rfl E rfl hS h4 e5 rfl rfl underlying171 zeroValue3 qi A5 yb (i:=0) rfl c1 underlying3 ?_
 intro a w e1 d2 E hS d1;refine ab ?_;refine cj (λa w=>∃c3:Bool,fH a2 a0 a6 c3=some r43/\∃m',M.le f4 m'/\S (W0.put Z (.map e1 d2)) m' w ((e6,f6)::L) (TL)/\Env 69 a [(0,.int .i64 p0),(9,(.map (some Z))),(44,v2),(45,.int .i64 (p2.length:Int)),(46,.int .i64 a2),(67,.bool c3)]) ?_ ?_
 {
 refine ak (qM E rfl λa E=>?_);refine st E (aK E hS tA rfl (i:=0) rfl (az c1)) rfl ?_;rintro h6 a _ ⟨rfl,g7⟩ E;obtain⟨g1,h5,h⟩:=ob h;refine st E (aL (vs:=[(.int .i64 p0),h6]) E rfl call133 (Ba (hS:=hS) f0 g7 h5)) rfl ?_;rintro j4 a w ⟨h9,b1,hS,e7⟩ E;obtain rfl:=eS e7;refine sp E (ln E rfl) rfl λa E=>qM E rfl λa E=>?_;rcases Z1 (!g1) with hd80|hd80
 {have h:=aF hd80 h;refine qX E hd80 λa E=>qX E hd80 λa E=>qX E hd80 λa E=>qX E hd80 λa E=>qX E hd80 λa E=>qT E hd80 rfl λa E=>ae ?_;exact⟨true,h,_,b1,hS,kut E⟩}
 {have h:=aG hd80 h;refine qG E hd80 rfl λa E=>spg E rfl rfl rfl rfl hd80 (aH E qi rfl) rfl λa E=>?_;refine stg E rfl rfl rfl rfl hd80 (aK E hS yb rfl (i:=0) rfl (A5.R_drop (az (aj.mono b1 c1)))) rfl ?_;rintro i3 a _ ⟨rfl,g3⟩ E;refine spg E rfl rfl rfl rfl hd80 (FX (k:=bO) E hS d1 rfl rfl g3 underlying171 zeroValue3) rfl λa E=>spg E rfl rfl rfl rfl hd80 (a7 E rfl rfl kL) rfl λa E=>qF E hd80 rfl λa E=>ae ?_;exact⟨(decide (1<(jM (a6.fId::a0) a6.fId))),h,_,b1,hS,kut E⟩}}
 {
 rintro a w ⟨c3,h,i0,e3,hS,E⟩;unfold fH at h;refine kif E rfl (λc2=>?_) (λc2=>?_)
 {
 have h:=aF c2 h;refine ab (ak (qA E rfl λa E=>ae (bD ?_)));have h:=bY h hb44;obtain rfl:=oi h
 try dsimp only
 refine f1 E ?_;exact⟨_,(Z0 J (Z0 W (Z0 a4 e3))),(S.unK (hS.dropL 1) d0),(aq (show inR .i64 81 from au (by decide)))⟩}
 {have h:=aG c2 h;refine aV (ak (qB E rfl rfl (br rfl) λa E=>qM E rfl λa E=>ae ?_));exact⟨(Z3.wrap (a2+1),(a6.fId::a0)),(Option.some.inj h).symm,_,(Z0 a4 e3),e1,d2,(aA _ _),d1,(hS.pickL 1 [] rfl rfl rfl),kut E⟩}}}
 {have h:=aG b7 h;refine d4 rfl rfl ?_;have h:=bY h hb44;exact⟨a0,h,_,a4,a3,a5,e5,hS,E.cut trivial⟩}}}
 {
 rintro a w ⟨c6,h,i5,h1,b0,c0,i8,hS,E⟩;unfold mX at h;refine ab (ak (qA E rfl λa E=>ae (bD ?_)));obtain rfl:=oi h
 try dsimp only
 refine f1 E ?_;exact⟨_,(Z0 J (Z0 W h1)),(S.unK hS d0),(aq (show inR .i64 0 from au (by decide)))⟩}}}}}
theorem wB (hS:S W0 m w L TL) {p0}(W:RV (kSl kAp) m v0 p0) {r}(h:iz p0=some r):
    Calls prog 92 #[v0] w (Ret λv w'=>∃m',M.le m m'/\S W0 m' w' L ((4,v)::TL)/\RV (kSl kAp) m' v r):=by
 refine kc func92 ntmps92 λa E=>?_;have E:Env 8 a [(0,v0)]:=E;unfold iz at h;refine ab (ak (qA E rfl λa E=>ae (ab (ab (ak (qM E rfl λa E=>?_))))));refine st E (zk (k:=kAp) E rfl rfl W underlying22) rfl ?_;rintro v5 a _ ⟨rfl,b2,rfl,a5⟩ E;refine ae (kif E rfl (λJ=>?_) (λJ=>?_))
 {
 have a4:=a5 J;have h:some ([])=some r:=by rw[a4] at h;exact h
 refine ab (ak (qA E rfl λa E=>ae (bD ?_)));obtain rfl:=oi h
 try dsimp only
 refine f1 E ?_;exact⟨_,(Z2 _),((hS.dropT 0).tail0 4),cT⟩}
 {
 refine aV (ab (ak ?_));refine st E (f8 (k:=kAp) (xs:=[]) (vs:=[]) E hS rfl underlying22 sizeOf32 zeroValue32 trivial rfl (by decide)) rfl ?_;rintro b1 a w ⟨m9,Z,hS,a0⟩ E;refine qM E rfl λa E=>?_;obtain⟨a6,a2,h⟩:=ob h;refine st E (fF (k:=kAp) (N:=3518437208883) E hS rfl rfl underlying22 underlying22 B4 (i:=0) rfl a0 (W.mono Z) a2 rfl rfl) rfl ?_;rintro b0 a w ⟨a9,a3,hS,a1⟩ E;refine qA E rfl λa E=>ae (bD ?_);obtain rfl:=oi h
 try dsimp only
 refine f1 E ?_;exact⟨_,(Z0 Z a3),(hS.pickT 1 [0] rfl rfl rfl),a1⟩}
theorem TC:Ctr Sz prog 92 [.rd (.sl (.st 32))] [.ap (.st 32)] (λx=>iz x.1):=by
 intro W0 m w L TL vs x r Lp Tp hS hP h;obtain⟨v0,vs,rfl,a0,J⟩:=iJ hP;obtain⟨rfl,rfl,rfl⟩:=lV J;refine rm (wB (hS:=hS) a0 h) λv w' W=>?_;obtain⟨m',hm,Z',Z⟩:=W;exact⟨m',[v],[],[],[(4,v)],hm,Z',rfl,⟨Z,rfl,trivial⟩,trivial⟩
def TD:=mC TC call92
theorem TE:Ctr Sz prog 65 [.rd (.st 59)] [.rd (.st 59)] (λx=>oQ x.1):=
 nxR [TD] [.cell 2 59] func65 ntmps65 .o λx=>by kernel_rfl
theorem C8 (hS:S W0 m w L TL) {p0}(Z:RV aj m v0 p0) {r}(h:oQ p0=some r):
    Calls prog 65 #[v0] w (Ret λv w'=>∃m',M.le m m'/\S W0 m' w' L TL/\RV aj m' v r):=by
 refine rm (TE W0 m w L TL [v0] (p0,()) r [] [] hS ⟨Z,trivial⟩ h) λv w' W=>?_;obtain⟨m',us,Lr,Lq,Tr,hm,Z',rfl,hR,hO⟩:=W;obtain⟨u0,us,rfl,r0,J⟩:=cM hR;obtain⟨rfl,rfl,rfl⟩:=b9 J;have a0:=bp hO;obtain rfl:=cc a0;exact⟨m',hm,Z',r0⟩
theorem TH:Ctr Sz prog 70 [.rd (.sl (.int .i64)),.rd (.sl (.st 32))] [.ap (.st 32)] (λx=>mq x.1 x.2.1):=
 ncR [Fh] [4] func70 ntmps70 (.s .o (.s .o (.s (.s .o (.b (.l ⟨[.v 5 1 (.dat (.sl (.st 32)) (some 0)),.v 11 1 (.dat (.int .i64) none)],[1,9,10],0,[4]⟩ .o))) .o))) λx=>by kernel_rfl
theorem wQ (hS:S W0 m w L TL) {p0}(a0:RV (kSl (ag .i64)) m v0 p0) {p1}(W:RV (kSl kAp) m v1 p1) {r}(h:mq p0 p1=some r):
    Calls prog 70 #[v0,v1] w (Ret λv w'=>∃m',M.le m m'/\S W0 m' w' L ((4,v)::TL)/\RV (kSl kAp) m' v r):=by
 refine rm (TH W0 m w L TL [v0,v1] (p0,p1,()) r [] [] hS ⟨a0,⟨W,trivial⟩⟩ h) λv w' Z=>?_;obtain⟨m',us,Lr,Lq,Tr,hm,Z',rfl,hR,hO⟩:=Z;obtain⟨u0,us,Tr,rfl,rfl,r0,J⟩:=vK hR;obtain⟨rfl,rfl,rfl⟩:=b9 J;have a2:=bp hO;have a1:=bp a2;obtain rfl:=cc a1;exact⟨m',hm,Z',r0⟩
theorem Qs:Ctr Sz prog 173 [.rd (.int .i64)] [.rd .bool] (λx=>lX x.1):=
 ncR [] [2] func173 ntmps173 .o λx=>by kernel_rfl
def Qt:=mC Qs call173
theorem Qu:Ctr Sz prog 127 [.rd (.int .i64),.rd (.int .i64)] [.rd (.int .i64)] (λx=>iK x.1 x.2.1):=
 ncR [Qt] [4] func127 ntmps127 .o λx=>by kernel_rfl
def Jp:=mC Qu call127
theorem Qv:Ctr Sz prog 180 [.rd (.int .i64)] [.rd .bool] (λx=>j8 x.1):=
 ncR [] [2] func180 ntmps180 .o λx=>by kernel_rfl
def Qw:=mC Qv call180
theorem Qx:Ctr Sz prog 155 [.rd (.int .i64),.rd (.int .i64)] [.rd (.int .i64)] (λx=>iS x.1 x.2.1):=
 ncR [Qw] [4] func155 ntmps155 .o λx=>by kernel_rfl
def Qy:=mC Qx call155
theorem tE (hS:S W0 m w L TL) {p0}(W:∀n∈p0,0<=n/\n<256)(a0:p0.length<=cR) {p1}(J:∀n∈p1,0<=n/\n<256)(Z:p1.length<=cR) {r}(h:eF p0 p1=some r):
    Calls prog 181 #[(.string (bts p0)),(.string (bts p1))] w (Ret λv w'=>∃m',M.le m m'/\S W0 m' w' L TL/\RV (ag .i64) m' v r):=by
 refine kc func181 ntmps181 λa E=>?_;have E:Env 8 a [(0,(.string (bts p0))),(1,(.string (bts p1)))]:=E;unfold eF at h;refine ab (ak (qA E rfl λa E=>ae (ab (ak (qM E rfl λa E=>qM E rfl λa E=>sp E (HS E func194 (by kernel_rfl) (by kernel_rfl) (by kernel_rfl) (by kernel_rfl) rfl W J) rfl λa E=>qA E rfl λa E=>?_)))));refine ae (bD ?_);obtain rfl:=oi h
 try dsimp only
 refine f1 E ?_;exact⟨_,(Z2 _),hS,(aq (JR _ _))⟩
theorem Qz:Ctr Sz prog 181 [.rd .str,.rd .str] [.rd (.int .i64)] (λx=>eF x.1 x.2.1):=by
 intro W0 m w L TL vs x r Lp Tp hS hP h;obtain⟨v0,vs,rfl,a0,W⟩:=iJ hP;obtain⟨rfl,J,l0⟩:=DG a0;obtain⟨v1,vs,rfl,a1,a2⟩:=iJ W;obtain⟨rfl,n1,l1⟩:=DG a1;obtain⟨rfl,rfl,rfl⟩:=lV a2;refine rm (tE (hS:=hS) J l0 n1 l1 h) λv w' Z=>?_;obtain⟨m',hm,Z',r0⟩:=Z;exact⟨m',[v],[],[],[],hm,Z',rfl,⟨r0,trivial⟩,trivial⟩
def QA:=mC Qz call181
theorem QB:Ctr Sz prog 156 [.rd .str,.rd .str] [.rd (.int .i64)] (λx=>mE x.1 x.2.1):=
 ncR [QA] [4] func156 ntmps156 .o λx=>by kernel_rfl
def QC:=mC QB call156
theorem Jq:Ctr Sz prog 109 [.rd (.st 32),.rd (.st 32)] [.rd (.int .i64)] (λx=>cD x.1 x.2.1):=
 ncR [Jp,Qy,QC] [4] func109 ntmps109 .o λx=>by kernel_rfl
def QD:=mC Jq call109
theorem Bb (hS:S W0 m w L TL) {p0}(a0:RV kAp m v0 p0) {p1}(W:RV kAp m v1 p1) {r}(h:cD p0 p1=some r):
    Calls prog 109 #[v0,v1] w (Ret λv w'=>∃m',M.le m m'/\S W0 m' w' L TL/\RV (ag .i64) m' v r):=by
 refine rm (Jq W0 m w L TL [v0,v1] (p0,p1,()) r [] [] hS ⟨a0,⟨W,trivial⟩⟩ h) λv w' Z=>?_;obtain⟨m',us,Lr,Lq,Tr,hm,Z',rfl,hR,hO⟩:=Z;obtain⟨u0,us,rfl,r0,J⟩:=cM hR;obtain⟨rfl,rfl,rfl⟩:=b9 J;have a2:=bp hO;have a1:=bp a2;obtain rfl:=cc a1;exact⟨m',hm,Z',r0⟩
theorem TJ:Ctr Sz prog 69 [.rd (.sl (.st 32)),.rd (.sl (.st 32))] [.rd (.int .i64)] (λx=>pZ x.1 x.2.1):=
 ncR [QD,Jp] [4] func69 ntmps69 (.s .o (.s (.s .o (.b (.l ⟨[.v 12 1 (.dat (.int .i64) none)],[0,1,11],0,[]⟩ .o))) .o)) λx=>by kernel_rfl
theorem Fj (hS:S W0 m w L TL) {p0}(a0:RV (kSl kAp) m v0 p0) {p1}(W:RV (kSl kAp) m v1 p1) {r}(h:pZ p0 p1=some r):
    Calls prog 69 #[v0,v1] w (Ret λv w'=>∃m',M.le m m'/\S W0 m' w' L TL/\RV (ag .i64) m' v r):=by
 refine rm (TJ W0 m w L TL [v0,v1] (p0,p1,()) r [] [] hS ⟨a0,⟨W,trivial⟩⟩ h) λv w' Z=>?_;obtain⟨m',us,Lr,Lq,Tr,hm,Z',rfl,hR,hO⟩:=Z;obtain⟨u0,us,rfl,r0,J⟩:=cM hR;obtain⟨rfl,rfl,rfl⟩:=b9 J;have a2:=bp hO;have a1:=bp a2;obtain rfl:=cc a1;exact⟨m',hm,Z',r0⟩
theorem QE:Ctr Sz prog 174 [.rd (.int .u64)] [.rd .bool] (λx=>lH x.1):=
 ncR [] [2] func174 ntmps174 .o λx=>by kernel_rfl
def QF:=mC QE call174
theorem QG:Ctr Sz prog 129 [.rd (.int .u64),.rd (.int .u64)] [.rd (.int .i64)] (λx=>ke x.1 x.2.1):=
 ncR [QF] [4] func129 ntmps129 .o λx=>by kernel_rfl
def QH:=mC QG call129
theorem QI:Ctr Sz prog 175 [.rd (.int .u32)] [.rd .bool] (λx=>lI x.1):=
 ncR [] [2] func175 ntmps175 .o λx=>by kernel_rfl
def QJ:=mC QI call175
theorem QK:Ctr Sz prog 130 [.rd (.int .u32),.rd (.int .u32)] [.rd (.int .i64)] (λx=>kf x.1 x.2.1):=
 ncR [QJ] [4] func130 ntmps130 .o λx=>by kernel_rfl
def QL:=mC QK call130
theorem LY:Ctr Sz prog 68 [.rd (.sl (.int .i64))] [.rd (.int .i64)] (λx=>nM x.1):=
 ncR [] [2] func68 ntmps68 (.s .o (.s .o (.s (.s .o (.b (.l ⟨[.v 8 1 (.dat (.int .i64) none)],[3,6,7],0,[]⟩ .o))) .o))) λx=>by kernel_rfl
def TK:=mC LY call68
theorem Fk (hS:S W0 m w L TL) {p0}(Z:RV (kSl (ag .i64)) m v0 p0) {r}(h:nM p0=some r):
    Calls prog 68 #[v0] w (Ret λv w'=>∃m',M.le m m'/\S W0 m' w' L TL/\RV (ag .i64) m' v r):=by
 refine rm (LY W0 m w L TL [v0] (p0,()) r [] [] hS ⟨Z,trivial⟩ h) λv w' W=>?_;obtain⟨m',us,Lr,Lq,Tr,hm,Z',rfl,hR,hO⟩:=W;obtain⟨u0,us,rfl,r0,J⟩:=cM hR;obtain⟨rfl,rfl,rfl⟩:=b9 J;have a0:=bp hO;obtain rfl:=cc a0;exact⟨m',hm,Z',r0⟩
theorem TM:Ctr Sz prog 71 [.rd (.st 57),.rd (.st 57)] [.rd (.int .i64)] (λx=>l6 x.1 x.2.1):=
 ncR [TK,QH,QL] [4] func71 ntmps71 .o λx=>by kernel_rfl
theorem Bc (hS:S W0 m w L TL) {p0}(a0:RV bO m v0 p0) {p1}(W:RV bO m v1 p1) {r}(h:l6 p0 p1=some r):
    Calls prog 71 #[v0,v1] w (Ret λv w'=>∃m',M.le m m'/\S W0 m' w' L TL/\RV (ag .i64) m' v r):=by
 refine rm (TM W0 m w L TL [v0,v1] (p0,p1,()) r [] [] hS ⟨a0,⟨W,trivial⟩⟩ h) λv w' Z=>?_;obtain⟨m',us,Lr,Lq,Tr,hm,Z',rfl,hR,hO⟩:=Z;obtain⟨u0,us,rfl,r0,J⟩:=cM hR;obtain⟨rfl,rfl,rfl⟩:=b9 J;have a2:=bp hO;have a1:=bp a2;obtain rfl:=cc a1;exact⟨m',hm,Z',r0⟩
theorem yd (hS:S W0 m w L TL) {p0}(e0:RV aj m v0 p0) {p1}(g4:RV aj m v1 p1) {p2}(a2:PR (kSl (ag .i64)) m v2 p2) {r}(h:eK p0 p1 p2=some r):
    Calls prog 67 #[v0,v1,v2] w (Ret λv w'=>∃m',M.le m m'/\S W0 m' w' L TL/\RV (ag .i64) m' v r):=by
 refine kc func67 ntmps67 λa E=>?_;have E:Env 22 a [(0,v0),(1,v1),(2,v2)]:=E;unfold eK at h;refine ab (ak ?_);refine st E (ox (k:=aj) E hS rfl e0) rfl ?_;rintro _ a w ⟨b1,h8,rfl,a3,hS⟩ E;refine st E (ox (k:=aj) E hS rfl g4) rfl ?_;rintro _ a w ⟨b5,d1,rfl,a4,hS⟩ E;refine qA E rfl λa E=>ae (ab ?_);obtain⟨a9,g1,e5,a6,h⟩:=ob2 h;obtain⟨r24,e3,h⟩:=ob h
 refine kch (k:=13) (m:=m) (es:=[]) (Φ:=(λi m ws v=>match i with|0=>RV (kSl (ag .i64)) m v p2|1=>v=(.pointer (some ⟨b1,2,none⟩))|2=>RV (kSl kAp) m v p0.fRow|3=>RV (kSl kAp) m v a9|4=>RV (kSl (ag .i64)) m v p2|5=>v=(.pointer (some ⟨b5,2,none⟩))|6=>RV (kSl kAp) m v p1.fRow|7=>RV (kSl kAp) m v e5|8=>ei .i64 r24 v|9=>v=(pz b1)|10=>RV bO m v p0.fId|11=>v=(pz b5)|12=>RV bO m v p1.fId|_=>True)) (Q:=(λc m ws L' h4=>match c with|0=>(b5,d1)::(b1,h8)::L=L'/\TL=h4|_=>False)) (cs:=[CQ [(2,v2)],CQ [(3,pz b1)],CQ [],CQ [],CQ [(2,v2)],CQ [(4,pz b5)],CQ [],CQ [],CQ [],CQ [(3,pz b1)],CQ [],CQ [(4,pz b5)],CQ []]) mixed E hS ⟨rfl,rfl⟩ rfl rfl (by kernel_rfl) ?_ ?_ ?_ ?_
 {
 intro i m_ g2 ws v n_ q_
 iterate 13 (rcases i with _|i;first|exact q_|exact RV.mono q_ n_)
 exact trivial}
 {
 intro c m_ g2 ws L_ T_ n_ a0
 match c,a0 with
 |0,⟨h1,h0⟩=>exact⟨h1,h0⟩
 |_+1,a0=>exact a0.elim}
 {
 refine⟨?_,?_,?_,?_,?_,?_,?_,?_,?_,?_,?_,?_,?_,trivial⟩
 {refine cp0 λ_ _ _ _ _ _ _ Z _ J W _=>?_;exact cr (aO W J qQ rfl (a2.mono Z)) J λ_ h=>h}
 {refine cp0 λ_ _ _ _ _ _ _ _ _ J W _=>?_;exact cq (aH W tB rfl) J rfl}
 {refine cp1 λ_ _ _ _ _ Z Q' J W T'=>?_;obtain⟨rfl,rfl⟩:=Q';have E:=W.add (T' 1);exact cr (aK E J nt rfl (i:=1) rfl (O9.R_drop (az (aj.mono Z a3)))) J λ_ h=>h}
 {refine cp0 λ_ _ _ m' a' _ _ _ _ J W T'=>?_;obtain⟨c7,E,h2⟩:=adv W (T' 0);obtain⟨c2,E,c5⟩:=adv E (T' 2);refine be.imp (aL (vs:=[c7,c2]) E rfl call70 (wQ (hS:=J) h2 c5 g1)) ?_;rintro i2 w ⟨i3,h7,hS,f3⟩;exact⟨_,h7,(hS.dropT 1),f3⟩}
 {refine cp0 λ_ _ _ _ _ _ _ Z _ J W _=>?_;exact cr (aO W J qQ rfl (a2.mono Z)) J λ_ h=>h}
 {refine cp0 λ_ _ _ _ _ _ _ _ _ J W _=>?_;exact cq (aH W tB rfl) J rfl}
 {refine cp1 λ_ _ _ _ _ Z Q' J W T'=>?_;obtain⟨rfl,rfl⟩:=Q';have E:=W.add (T' 5);exact cr (aK E J nt rfl (i:=0) rfl (O9.R_drop (az (aj.mono Z a4)))) J λ_ h=>h}
 {refine cp0 λ_ _ _ m' a' _ _ _ _ J W T'=>?_;obtain⟨e4,E,g5⟩:=adv W (T' 4);obtain⟨b0,E,c3⟩:=adv E (T' 6);refine be.imp (aL (vs:=[e4,b0]) E rfl call70 (wQ (hS:=J) g5 c3 a6)) ?_;rintro i1 w ⟨j2,e1,hS,f0⟩;exact⟨_,e1,(hS.dropT 1),f0⟩}
 {refine cp0 λ_ _ _ m' a' _ _ _ _ J W T'=>?_;obtain⟨g9,E,c0⟩:=adv W (T' 3);obtain⟨h5,E,h9⟩:=adv E (T' 7);refine be.imp (aL (vs:=[g9,h5]) E rfl call69 (Fj (hS:=J) c0 h9 e3)) ?_;rintro i5 w ⟨j5,i0,hS,c4⟩;obtain⟨rfl,f9⟩:=aJ c4;exact⟨_,i0,hS,⟨rfl,f9⟩⟩}
 {refine cp0 λ_ _ _ _ _ _ _ _ _ J W _=>?_;exact cq (aH W qi rfl) J rfl}
 {refine cp1 λ_ _ _ _ _ Z Q' J W T'=>?_;obtain⟨rfl,rfl⟩:=Q';have E:=W.add (T' 9);exact cr (aK E J yb rfl (i:=1) rfl (A5.R_drop (az (aj.mono Z a3)))) J λ_ h=>h}
 {refine cp0 λ_ _ _ _ _ _ _ _ _ J W _=>?_;exact cq (aH W qi rfl) J rfl}
 {refine cp1 λ_ _ _ _ _ Z Q' J W T'=>?_;obtain⟨rfl,rfl⟩:=Q';have E:=W.add (T' 11);exact cr (aK E J yb rfl (i:=0) rfl (A5.R_drop (az (aj.mono Z a4)))) J λ_ h=>h}}
 {
 intro j4 L_ T_ j3 a w b7 g6 f6 hS c6 d0 g0 a1;obtain rfl:=eH b7;obtain⟨rfl,rfl⟩:=f6;have E:=eof 13 [(0,v0),(1,v1),(2,v2),(3,pz b1),(4,pz b5),(5,.int .i64 0)] c6 d0 g0;obtain⟨g8,f5⟩:=a1 8;have E:=E.add g8;obtain⟨b2,E,b4⟩:=adv E (a1 10);obtain⟨e6,E,c1⟩:=adv E (a1 12);obtain⟨a5,b3,h⟩:=ob h;refine st E (aL (vs:=[b2,e6]) E rfl call71 (Bc (hS:=hS) b4 c1 b3)) rfl ?_;rintro i8 a w ⟨k0,h6,hS,g3⟩ E;obtain⟨rfl,e8⟩:=aJ g3
 refine st E (f8 (k:=(ag .i64)) (xs:=[r24,a5]) (vs:=[(.int .i64 r24),(.int .i64 a5)]) E hS rfl underlying49 sizeOf3 zeroValue3 ⟨(aq f5),(aq e8),trivial⟩ rfl (by decide)) rfl ?_;rintro e7 a w ⟨j1,e9,hS,g7⟩ E;obtain⟨j0,b6,h⟩:=ob h;refine st E (aL (vs:=[e7]) E rfl call68 (Fk (hS:=hS) g7 b6)) rfl ?_;rintro i4 a w ⟨k3,h3,hS,f4⟩ E;obtain⟨rfl,d2⟩:=aJ f4;refine qA E rfl λa E=>ae (bD ?_);obtain rfl:=oi h
 try dsimp only
 refine f1 E ?_;exact⟨_,(Z0 g6 (Z0 h6 (Z0 e9 h3))),((hS.dropL 2).dropT 1),(aq d2)⟩}
theorem QM:Ctr Sz prog 171 [.ow (.st 59),.rd (.int .i64),.rd (.int .i64),.f2 (.st 59) (.st 59) (.int .i64)] [] (λx=>cJ x.1 x.2.1 x.2.2.1 x.2.2.2.1):=
 ncR [] [] func171 ntmps171 (.s .o (.b (.l ⟨[.v 8 1 (.dat (.int .i64) none),.a 0 1 (.st 59) none],[0,1,2,3],1,[]⟩ (.s .o (.s (.b (.s .o (.b (.l ⟨[.v 9 2 (.dat (.int .i64) none),.a 0 2 (.st 59) none],[0,1,2,3,8],1,[]⟩ .o)))) .o))))) λx=>by kernel_rfl
def QN:=mC QM call171
theorem QO:Ctr Sz prog 198 [.ow (.st 59),.rd (.int .i64),.rd (.int .i64),.rd (.int .i64),.f2 (.st 59) (.st 59) (.int .i64)] [] (λx=>cG x.1 x.2.1 x.2.2.1 x.2.2.2.1 x.2.2.2.2.1):=
 ncR [] [] func198 ntmps198 (.s .o (.b (.l ⟨[.v 10 1 (.dat (.int .i64) none),.a 0 1 (.st 59) none],[0,1,2,3],1,[]⟩ .o))) λx=>by kernel_rfl
def QP:=mC QO call198
theorem QQ:Ctr Sz prog 185 [.ow (.st 59),.rd (.int .i64),.rd (.int .i64),.rd (.int .i64),.f2 (.st 59) (.st 59) (.int .i64)] [] (λx=>cZ x.1 x.2.1 x.2.2.1 x.2.2.2.1 x.2.2.2.2.1):=
 ncR [QP] [] func185 ntmps185 (.s .o (.s .o (.s (.b (.l ⟨[.v 10 1 (.dat (.int .i64) none),.v 11 1 (.dat (.int .i64) none),.a 0 1 (.st 59) none],[0,2,4],1,[]⟩ .o)) .o))) λx=>by kernel_rfl
def QR:=mC QQ call185
theorem ND (self:d6 Sz [.ow (.st 59),.rd (.int .i64),.rd (.int .i64),.rd (.int .i64),.f2 (.st 59) (.st 59) (.int .i64)]->Option (bC Sz (gT [.ow (.st 59),.rd (.int .i64),.rd (.int .i64),.rd (.int .i64),.f2 (.st 59) (.st 59) (.int .i64)] [])))(hs:Ctr Sz prog 172 [.ow (.st 59),.rd (.int .i64),.rd (.int .i64),.rd (.int .i64),.f2 (.st 59) (.st 59) (.int .i64)] [] self):Ctr Sz prog 172 [.ow (.st 59),.rd (.int .i64),.rd (.int .i64),.rd (.int .i64),.f2 (.st 59) (.st 59) (.int .i64)] [] (λx=>dV (λh W y2 Z J=>self (h,W,y2,Z,J,())) x.1 x.2.1 x.2.2.1 x.2.2.2.1 x.2.2.2.2.1):=
 ncR [(mC hs call172),QR] [] func172 ntmps172 (.s (.s .o (.i (.s .o (.s .o (.s (.b (.l ⟨[.v 10 1 (.dat (.int .i64) none),.v 11 1 (.dat (.int .i64) none)],[0,1,4],1,[]⟩ .o)) (.s (.s .o (.b (.l ⟨[.v 13 1 (.dat (.int .i64) none),.a 0 1 (.st 59) none],[0,10],1,[]⟩ .o))) .o)))) .o)) (.s (.s .o (.i (.s .o (.s .o (.s (.b (.l ⟨[.v 14 1 (.dat (.int .i64) none),.v 15 1 (.dat (.int .i64) none)],[0,2,4],1,[]⟩ .o)) (.s (.s .o (.b (.l ⟨[.v 17 1 (.dat (.int .i64) none),.a 0 1 (.st 59) none],[0,14],1,[]⟩ .o))) .o)))) .o)) (.s .o (.s .o (.s .o (.s .o (.s .o (.s (.b (.l ⟨[.v 20 1 (.dat (.int .i64) none),.v 21 1 (.dat (.int .i64) none)],[0,1,2,3,4,18,19,22],1,[]⟩ .o)) .o)))))))) λx=>by kernel_rfl
theorem Gx:∀n:Nat,Ctr Sz prog 172 [.ow (.st 59),.rd (.int .i64),.rd (.int .i64),.rd (.int .i64),.f2 (.st 59) (.st 59) (.int .i64)] [] (λx=>c8 n x.1 x.2.1 x.2.2.1 x.2.2.2.1 x.2.2.2.2.1)
  |0=>λW0 m w L TL vs x r Lp Tp hS J h=>nomatch (show(none:Option _)=some r from h)
  |n+1=>ND (λx=>c8 n x.1 x.2.1 x.2.2.1 x.2.2.2.1 x.2.2.2.2.1) (Gx n)
theorem QS:Ctr Sz prog 172 [.ow (.st 59),.rd (.int .i64),.rd (.int .i64),.rd (.int .i64),.f2 (.st 59) (.st 59) (.int .i64)] [] (λx=>dx x.1 x.2.1 x.2.2.1 x.2.2.2.1 x.2.2.2.2.1):=λW0 m w L TL vs x r Lp Tp hS J h=>Gx (x.1.length+1) W0 m w L TL vs x r Lp Tp hS J h
def QT:=mC QS call172
theorem QU:Ctr Sz prog 126 [.ow (.st 59),.rd (.int .i64),.f2 (.st 59) (.st 59) (.int .i64)] [] (λx=>gX x.1 x.2.1 x.2.2.1):=
 ncR [QN,QT] [] func126 ntmps126 (.s .o (.s .o (.s (.b (.l ⟨[.v 7 1 (.dat (.int .i64) none),.v 8 1 (.dat (.int .i64) none),.a 0 1 (.st 59) none],[0,1,2,6],1,[]⟩ .o)) (.s .o (.b (.l ⟨[.v 6 1 (.dat (.int .i64) none),.a 0 1 (.st 59) none],[0,1,2],1,[]⟩ (.s .o (.b (.s .o (.s (.b (.l ⟨[.v 7 2 (.dat (.int .i64) none),.v 8 2 (.dat (.int .i64) none),.a 0 2 (.st 59) none],[0,1,2,6],1,[]⟩ .o)) .o)))))))))) λx=>by kernel_rfl
def QV:=mC QU call126
theorem TN:Ctr Sz prog 66 [.ow (.st 59),.f2 (.st 59) (.st 59) (.int .i64)] [] (λx=>dC x.1 x.2.1):=
 ncR [QV] [] func66 ntmps66 .o λx=>by kernel_rfl
theorem pI  {J:Nat}{Z:List Value}(hS:S W0 m w ((J,Z)::L) (TL)) {p0}(a0:GS aj m J Z v0 p0) {p1}(a1:Fn2 prog aj aj (ag .i64) m v1 p1) {r}(h:dC p0 p1=some r):
    Calls prog 66 #[v0,v1] w (Ret λv w'=>∃m',M.le m m'/\∃W:List Value,S W0 m' w' ((J,W)::L) (TL)/\GS aj m' J W v0 r):=by
 refine rm (TN W0 m w L TL [v0,v1] (p0,p1,()) r [(J,Z)] [] hS ⟨a0,⟨a1,trivial⟩⟩ h) λv w' he=>?_;obtain⟨m',us,Lr,Lq,Tr,hm,Z',rfl,hR,hO⟩:=he;obtain⟨rfl,rfl,rfl⟩:=b9 hR;obtain⟨W,Lq,rfl,o0,a3⟩:=SR hO;have a2:=Do a3;obtain rfl:=cc a2;exact⟨m',hm,W,Z',o0⟩
theorem TO {m0:M}{W:Value}{Z:List Int}(a0:PR (kSl (ag .i64)) m0 W Z):Fn2 prog aj aj (ag .i64) m0 (.func (.func 67) #[] #[W]) (λx0 x1=>eK x0 x1 Z):=by
  refine⟨67,_,rfl,call67,?_⟩;intro W0 m w L TL v0 v1 x0 x1 r hm hS h0 J hr;refine(yd (hS:=hS) h0 J (a0.mono hm) hr).mono ?_;intro e w' h;cases e with
  |returned v=>obtain⟨m',J,h2,h3⟩:=h;exact⟨m',J,h2,h3⟩
  |panicked ch=>exact h.elim
  |outgrown=>exact h.elim
theorem tC (hS:S W0 m w L TL) {p0}(c6:RV (kSl (ag .i64)) m v0 p0) {p1}(b6:RV (kSl aj) m v1 p1) {r}(h:jk p0 p1=some r):
    Calls prog 27 #[v0,v1] w (Ret λv w'=>∃m',M.le m m'/\S W0 m' w' L TL/\RV (kSl aj) m' v r):=by
 refine kc func27 ntmps27 λa E=>?_;have E:Env 29 a [(0,v0),(1,v1)]:=E;unfold jk at h;refine ab (ak ?_);refine st E (ox (k:=(kSl (ag .i64))) E hS rfl c6) rfl ?_;rintro _ a w ⟨J,b7,rfl,e4,hS⟩ E;refine qA E rfl λa E=>ae (ab (ak (qA E rfl λa E=>ae (ab (ab (ak (qM E rfl λa E=>?_)))))));refine sp E (bh (k:=aj) E rfl rfl underlying50 b6) rfl λa E=>qM E rfl λa E=>ae ?_
 refine cj (λa w=>∃a0:(List aa),iT p0 a0=some r/\∃m',M.le m m'/\∃(a5:List Value),∃(a6:Nat),∃(W:Value),GS aj m' a6 a5 W a0/\S W0 m' w ((a6,a5)::(J,b7)::L) (TL)/\Env 29 a [(2,pz J),(5,W)]) ?_ ?_
 {
 refine bd ?_;refine eG h (λ(s:Int×List aa) a w=>∃m',M.le m m'/\∃(Z:List Value),∃(a2:Nat),∃(a1:Value),inR .i64 s.1/\GS aj m' a2 Z a1 s.2/\S W0 m' w ((a2,Z)::(J,b7)::L) (TL)/\Env 29 a [(2,pz J),(5,a1),(8,v1),(9,.int .i64 (p1.length:Int)),(10,.int .i64 s.1)]) ?_ ?_
 {exact⟨_,(Z2 _),[],0,(.slice none 0 0),(show inR .i64 0 from au (by decide)),GS.void,(hS.void 0),kut E⟩}
 {
 rintro ⟨b5,b2⟩ a w ⟨g7,a4,Z,a2,a1,i2,c1,hS,E⟩ r50 h hb51;have h:iU p0 p1 b5 b2=some r50:=h;unfold iU at h;refine ab (ak (qB E rfl rfl cl λa E=>ae (ab (kif E rfl (λa3=>?_) (λa3=>?_)))))
 {
 have h:=aF a3 h;refine aV (ab (bd (ab (ak ?_))));obtain⟨h3,e5,h⟩:=ob h;refine st E (bn (k:=aj) E rfl rfl underlying50 sizeOf59 (b6.mono a4) e5) rfl ?_;rintro h2 a _ ⟨rfl,e1⟩ E;refine st E (aO E hS tA rfl e1) rfl ?_;rintro i3 a _ ⟨rfl,d2⟩ E;refine st E (dv hS zeroValue59 rfl (cs:=Fd)) rfl ?_;rintro _ a w ⟨h4,rfl,hS⟩ E;refine st0 E (dh E hS tA bW rfl rfl d2 (i:=0) rfl (zS _)) ?_;rintro _ w ⟨g8,f9,hS⟩ E;refine ae (ak (qM E rfl λa E=>?_));refine st E (aK E hS tA rfl (i:=0) rfl (az f9)) rfl ?_;rintro e7 a _ ⟨rfl,d0⟩ E;obtain⟨f3,c7,h⟩:=ob h
 refine st E (aL (vs:=[e7]) E rfl call65 (C8 (hS:=hS) d0 c7)) rfl ?_;rintro g4 a w ⟨i1,b0,hS,c4⟩ E;refine st E (f8 (k:=aj) (xs:=[f3]) (vs:=[g4]) E hS rfl underlying50 sizeOf59 zeroValue59 ⟨c4,trivial⟩ rfl (by decide)) rfl ?_;rintro h6 a w ⟨i0,c0,hS,e6⟩ E;obtain⟨g1,f5,h⟩:=ob h;refine st E (Bn (k:=aj) (N:=2932031007402) E hS rfl rfl underlying50 Lj (i:=1) rfl (c1.mono (Z0 b0 c0)) (z6 hS underlying50 e6) f5 rfl rfl) rfl ?_;rintro f6 a w ⟨g5,e9,e3,hS⟩ E;refine qA E rfl λa E=>ae (ak (qB E rfl rfl (br rfl) λa E=>qM E rfl λa E=>ae ?_))
 exact⟨(Z3.wrap (b5+1),g1),(Option.some.inj h).symm,_,(Z0 a4 (Z0 b0 c0)),e9,g5,f6,(aA _ _),e3,((hS.pickL 3 [1,2] rfl rfl rfl).pickT 1 [] rfl rfl rfl),kut E⟩}
 {have h:=aG a3 h;refine d4 rfl rfl ?_;have h:=bY h hb51;exact⟨b2,h,_,a4,Z,a2,a1,c1,hS,kut E⟩}}}
 {
 rintro a w ⟨a0,h,h1,b3,a5,a6,W,g0,hS,E⟩;unfold iT at h;refine ab (ak (qM E rfl λa E=>?_));obtain⟨g6,b4,hS,g3⟩:=S.freezeL (k:=(kSl (ag .i64))) (hS.pickL 2 [1,0] rfl rfl rfl) ((kSl (ag .i64)).mono b3 e4);refine sp E (rO E rfl rfl) rfl λa E=>?_;obtain⟨g9,g2,h⟩:=ob h;refine st E (aL (vs:=[W,(.func (.func 67) #[] #[(pz J)])]) E rfl call66 (by have c5:=(g0.mono b4);have e8:=(TO g3);exact pI (p0:=a0) (p1:=(λf0 c2=>eK f0 c2 p0)) (hS:=hS) c5 e8 g2)) rfl ?_;rintro h0 a w ⟨h5,d1,h7,hS,e0⟩ E;refine ae (ab ?_)
 obtain⟨h9,f4,hS,a9⟩:=S.freeze hS e0;refine ak (qM E rfl λa E=>qM E rfl λa E=>sp E (bh (k:=aj) E rfl rfl underlying50 a9) rfl λa E=>qM E rfl λa E=>sp E (bh (k:=aj) E rfl rfl underlying50 a9) rfl λa E=>?_);refine st E (HV (k:=aj) E rfl underlying50 sizeOf59 a9 rfl rfl) rfl ?_;rintro h8 a _ ⟨rfl,c3⟩ E;refine qA E rfl λa E=>ae (bD ?_);obtain rfl:=oi h
 try dsimp only
 refine f1 E ?_;exact⟨_,(Z0 b3 (Z0 b4 (Z0 d1 f4))),hS,c3⟩}
theorem TP:Ctr Sz prog 75 [.ap (.int .u8),.rd (.int .i64)] [.ap (.int .u8)] (λx=>jw x.1 x.2.1):=
 ncR [] [4] func75 ntmps75 .o λx=>by kernel_rfl
theorem qU (hS:S W0 m w L ((1,v0)::TL)) {p0}(a0:RV (kSl (ag .u8)) m v0 p0) {p1}(W:inR .i64 p1) {r}(h:jw p0 p1=some r):
    Calls prog 75 #[v0,(.int .i64 p1)] w (Ret λv w'=>∃m',M.le m m'/\S W0 m' w' L ((1,v)::TL)/\RV (kSl (ag .u8)) m' v r):=by
 refine rm (TP W0 m w L TL [v0,(.int .i64 p1)] (p0,p1,()) r [] [(1,v0)] hS ⟨a0,rfl,⟨aq W,trivial⟩⟩ h) λv w' Z=>?_;obtain⟨m',us,Lr,Lq,Tr,hm,Z',rfl,hR,hO⟩:=Z;obtain⟨u0,us,Tr,rfl,rfl,r0,J⟩:=vK hR;obtain⟨rfl,rfl,rfl⟩:=b9 J;have a2:=LJ hO;have a1:=bp a2;obtain rfl:=cc a1;exact⟨m',hm,Z',r0⟩
theorem TQ:Ctr Sz prog 77 [.rd (.int .i64),.rd (.int .i64),.rd (.sl (.st 59))] [.ap (.st 32)] (λx=>lc x.1 x.2.1 x.2.2.1):=
 ncR [A9] [6] func77 ntmps77 (.s .o (.s .o (.s (.s .o (.b (.l ⟨[.v 7 1 (.dat (.sl (.st 32)) (some 0)),.v 12 1 (.dat (.int .i64) none)],[0,1,10,11],0,[4]⟩ .o))) .o))) λx=>by kernel_rfl
theorem zT (hS:S W0 m w L TL) {p0}(a0:inR .i64 p0) {p1}(Z:inR .i64 p1) {p2}(J:RV (kSl aj) m v2 p2) {r}(h:lc p0 p1 p2=some r):
    Calls prog 77 #[(.int .i64 p0),(.int .i64 p1),v2] w (Ret λv w'=>∃m',M.le m m'/\S W0 m' w' L ((4,v)::TL)/\RV (kSl kAp) m' v r):=by
 refine rm (TQ W0 m w L TL [(.int .i64 p0),(.int .i64 p1),v2] (p0,p1,p2,()) r [] [] hS ⟨aq a0,⟨aq Z,⟨J,trivial⟩⟩⟩ h) λv w' he=>?_;obtain⟨m',us,Lr,Lq,Tr,hm,Z',rfl,hR,hO⟩:=he;obtain⟨u0,us,Tr,rfl,rfl,r0,W⟩:=vK hR;obtain⟨rfl,rfl,rfl⟩:=b9 W;have a3:=bp hO;have a2:=bp a3;have a1:=bp a2;obtain rfl:=cc a1;exact⟨m',hm,Z',r0⟩
theorem uQ {σ:Type}{I:M->σ->Mem->Tls->Prop}{step:σ->(List Ap)->Option (σ×Bool)}{B:σ->Bse}{v0:Value}{m:M}{w:World}{L:Mem}{TL:Tls}{b2:σ}{b0:Mem}{a6:Tls}(mono:∀m m' s a b,M.le m m'->I m s a b->I m' s a b)(hy:DS prog (Rv1 (kSl kAp)) B v0 I step)(e8:I m b2 b0 a6)(hS:S (B b2) m w (b0++L) (a6++TL)){v1:Value}{p1:List Ap}(b1:PR (kSl kAp) m v1 p1){v2:Value}{p2:Int}(b3:PR (ag .i64) m v2 p2){r:σ}(h:gm step b2 p1 p2=some r):
    Calls prog 177 #[v0,v1,v2] w (Ret λ_ w'=>∃m' Ls' TLs',M.le m m'/\I m' r Ls' TLs'/\S (B r) m' w' (Ls'++L) (TLs'++TL)):=by
 refine zZ (args:=[v0,v1,v2]) func177 rfl ntmps177 (Z4 rfl) λa E=>?_;have E:Env 31 a [(0,v0),(1,v1),(2,v2)]:=E;unfold gm at h;refine ab (ak (qA E rfl λa E=>ae (bd ?_)));refine eG h (λ(s:Int×σ) a w=>∃m',M.le m m'/\∃(a1:Mem),∃(a2:Tls),inR .i64 s.1/\I m' s.2 a1 a2/\S (B s.2) m' w ((a1++L)) ((a2++TL))/\Env 31 a [(0,v0),(1,v1),(2,v2),(4,.int .i64 s.1)]) ?_ ?_
 {exact⟨_,(Z2 _),b0,a6,(show inR .i64 0 from au (by decide)),e8,hS,kut E⟩}
 {
 rintro ⟨x4,x6⟩ a w ⟨m2,W,a1,a2,e9,c2,hS,E⟩ r10 h hb11;have h:cK step p1 p2 x4 x6=some r10:=h;unfold cK at h;refine ab (ab (ak (qM E rfl λa E=>?_)));refine st E (aO E hS nt rfl (b1.mono W)) rfl ?_;rintro f6 a _ ⟨rfl,c4⟩ E;refine sp E (bh (k:=kAp) E rfl rfl underlying22 c4) rfl λa E=>qB E rfl rfl cl λa E=>ae (kif E rfl (λa4=>?_) (λa4=>?_))
 {
 have h:=aF a4 h;refine aV (ab (bd (ab ?_)));obtain⟨c1,g0,h⟩:=ob h;refine kch (k:=5) (m:=m2) (es:=[]) (Φ:=(λi m ws v=>match i with|0=>ei .i64 p2 v|1=>RV (kSl kAp) m v p1|2=>ei .i64 x4 v|3=>RV (kSl kAp) m v c1|4=>ei .i64 (c1.length:Int) v|_=>True)) (Q:=(λc m ws L' e0=>match c with|0=>(a1++L)=L'/\(a2++TL)=e0|_=>False)) (cs:=[CQ [(2,v2)],CQ [(1,v1)],CQ [(4,.int .i64 x4)],CQ [],CQ []]) mixed E hS ⟨rfl,rfl⟩ rfl rfl (by kernel_rfl) ?_ ?_ ?_ ?_
 {
 intro i m_ e4 ws v n_ q_
 iterate 5 (rcases i with _|i;first|exact q_|exact RV.mono q_ n_)
 exact trivial}
 {
 intro c m_ e4 ws L_ T_ n_ a5
 match c,a5 with
 |0,⟨d1,c6⟩=>exact⟨d1,c6⟩
 |_+1,a5=>exact a5.elim}
 {
 refine⟨?_,?_,?_,?_,?_,trivial⟩
 {refine cp0 λ_ _ _ _ _ _ _ M' _ J Z _=>?_;exact cr (aO Z J ty3 rfl (b3.mono (Z0 W M'))) J λ_ h=>aJ h}
 {refine cp0 λ_ _ _ _ _ _ _ M' _ J Z _=>?_;exact cr (aO Z J nt rfl (b1.mono (Z0 W M'))) J λ_ h=>h}
 {exact cmv λ_ _=>⟨rfl,e9⟩}
 {
 refine cp0 λ_ _ _ m' a' _ _ _ _ J Z T'=>?_;obtain⟨g4,f3,f4⟩:∃v,a'.tmps.getD 14 undef=v/\(RV (kSl kAp) m' v p1):=⟨_,rfl,T' 1⟩
 have E:=(Z.add (f3)).add (T' 2).1;exact cr (cS (k:=kAp) E rfl underlying22 sizeOf32 f4 ⟨_,rfl⟩ rfl g0 (xl:=(some (.tmp 15))) (xh:=none)) J λ_ h=>h}
 {refine cp0 λ_ _ _ m' a' _ _ _ _ J Z T'=>?_;obtain⟨g6,E,b4⟩:=adv Z (T' 3);exact cq (bh (k:=kAp) E rfl rfl underlying22 b4) J ⟨rfl,(eE (jX b4))⟩}}
 {
 intro g1 L_ T_ g2 a w e7 a0 c7 hS e3 f9 d0 b5;obtain rfl:=eH e7;obtain⟨rfl,rfl⟩:=c7;have E:=eof 5 [(0,v0),(1,v1),(2,v2),(4,.int .i64 x4),(6,.int .i64 x4),(7,f6),(8,.int .i64 (p1.length:Int)),(9,.bool (decide (x4<(p1.length:Int))))] e3 f9 d0;have E:=(E.add (b5 0).1).add (b5 4).1;refine sp E (DD E rfl rfl) rfl λa E=>qA E rfl λa E=>ae (ab (ak (qM E rfl λa E=>?_)));refine st E (aO E hS nt rfl (b1.mono (Z0 W a0))) rfl ?_;rintro h0 a _ ⟨rfl,e1⟩ E
 refine qM E rfl λa E=>qM E rfl λa E=>qM E rfl λa E=>qB E rfl rfl (br rfl) λa E=>qM E rfl λa E=>qM E rfl λa E=>qB E rfl rfl (br rfl) λa E=>?_;obtain⟨g8,c5,h⟩:=ob h;refine st E (GI (k:=kAp) E rfl underlying22 sizeOf32 e1 rfl rfl rfl c5) rfl ?_;rintro f0 a _ ⟨rfl,e6⟩ E;obtain⟨d2,f5,h⟩:=ob h;refine st E (hy _ _ L TL _ _ _ [f0] _ _ _ (mono _ _ _ _ _ a0 c2) hS ⟨_,rfl,e6⟩ f5 _ _ _ _ _ _ _ _ _ (E.eval rfl) (jb E rfl)) rfl ?_;rintro g9 a w ⟨e5,g3,c0,b6,a9,b7,hS⟩ E;obtain rfl:=e5
 refine sp E (ln E rfl) rfl λa E=>ae (kif E rfl (λa3=>?_) (λa3=>?_))
 {
 have h:=aF a3 h;refine bD ?_;have h:=bY h hb11;obtain rfl:=oi h
 try dsimp only
 refine Fin.mk E (rs:=[]) rfl sD.nil ?_;exact⟨_,c0,b6,(Z0 W (Z0 a0 a9)),b7,hS⟩}
 {have h:=aG a3 h;refine aV (ak (qM E rfl λa E=>?_));refine st E (aO E hS ty3 rfl (b3.mono (Z0 W (Z0 a0 a9)))) rfl ?_;rintro g7 a _ ⟨rfl,c3⟩ E;obtain⟨rfl,g5⟩:=aJ c3;refine qB E rfl rfl (br rfl) λa E=>qA E rfl λa E=>ae ?_;exact⟨(Z3.wrap (x4+p2),d2.1),(Option.some.inj h).symm,_,(Z0 W (Z0 a0 a9)),c0,b6,(aA _ _),b7,hS,kut E⟩}}}
 {
 have h:=aG a4 h;refine d4 rfl rfl ?_;have h:=bY h hb11;obtain rfl:=oi h
 try dsimp only
 refine Fin.mk E (rs:=[]) rfl sD.nil ?_;exact⟨_,a1,a2,W,c2,hS⟩}}
theorem tF {m:M}{v1:Value}{p1:List Ap}(Z:PR (kSl kAp) m v1 p1){v2:Value}{J:Int}(W:PR (ag .i64) m v2 J){xs:List (List Ap)}(h:fX p1 J=some xs):Dk prog (Rv1 (kSl kAp)) 177 #[v1,v2] m xs:=by
 intro σ I step B y m1 w L TL s Ls TLs r mono hle hy hI hS hf;exact uQ mono hy hI hS (Z.mono hle) (W.mono hle) (sa h hf)
theorem wC (hS:S W0 m w L TL) {p0}(a3:RV (kSl kAp) m v0 p0) {p1}(a6:inR .i64 p1) {r}(h:iD p0 p1=some r):
    Calls prog 134 #[v0,(.int .i64 p1)] w (Ret λv w'=>∃m',M.le m m'/\S W0 m' w' L TL/\ItV prog (Rv1 (kSl kAp)) m' v r):=by
 refine kc func134 ntmps134 λa E=>?_;have E:Env 9 a [(0,v0),(1,.int .i64 p1)]:=E;unfold iD at h;refine ab (ak ?_);refine st E (ox (k:=(kSl kAp)) E hS rfl a3) rfl ?_;rintro _ a w ⟨J,b2,rfl,a5,hS⟩ E;refine st E (ox (k:=(ag .i64)) E hS rfl (aq a6)) rfl ?_;rintro _ a w ⟨b5,b7,rfl,a2,hS⟩ E;refine qA E rfl λa E=>ae (ab (ab (ak ?_)));refine st E (aK E hS ty3 rfl (i:=0) rfl (az a2)) rfl ?_;rintro c1 a _ ⟨rfl,a9⟩ E;obtain⟨rfl,c0⟩:=aJ a9;refine qB E rfl rfl cl λa E=>ae ?_
 refine cj (λa w=>iL p0 p1=some r/\∃m',M.le m m'/\S W0 m' w ((b5,b7)::(J,b2)::L) (TL)/\Env 9 a [(2,pz J),(3,pz b5)]) ?_ ?_
 {
 refine kif E rfl (λZ=>?_) (λZ=>?_)
 {have h:=aF Z h;cases h}
 {have h:=aG Z h;refine aV ?_;exact⟨h,_,(Z2 _),hS,kut E⟩}}
 {
 rintro a w ⟨h,c3,W,hS,E⟩;unfold iL at h;refine ab (ak ?_);obtain⟨c2,a0,hS,b0⟩:=S.freezeL (k:=(kSl kAp)) (hS.pickL 2 [1,0] rfl rfl rfl) ((kSl kAp).mono W a5);obtain⟨b3,a1,hS,b4⟩:=S.freezeL (k:=(ag .i64)) hS ((ag .i64).mono (Z0 W a0) a2);obtain⟨b6,a4,h⟩:=ob h;refine sp E (rO E rfl rfl) rfl λa E=>qA E rfl λa E=>ae (bD ?_);obtain rfl:=oi h
 try dsimp only
 refine f1 E ?_;exact⟨_,(Z0 W (Z0 a0 a1)),hS,(⟨177,_,rfl,call177,tF (b0.mono a1) b4 a4⟩:ItV prog (Rv1 (kSl kAp)) b3 (.func (.func 177) #[] #[(pz J),(pz b5)]) b6)⟩}
theorem QW:Ctr Sz prog 143 [.rd (.sl (.st 32)),.f1 (.st 32) .bool] [.rd (.int .i64)] (λx=>kB x.1 x.2.1):=
 ncR [] [4] func143 ntmps143 (.s .o (.s (.s .o (.b (.l ⟨[.v 8 1 (.dat (.int .i64) none)],[0,1,7],0,[]⟩ .o))) .o)) λx=>by kernel_rfl
def QX:=mC QW call143
theorem TR:Ctr Sz prog 99 [.rd (.sl (.st 32)),.f1 (.st 32) .bool] [.rd .bool] (λx=>et x.1 x.2.1):=
 ncR [QX] [4] func99 ntmps99 .o λx=>by kernel_rfl
theorem rE (hS:S W0 m w L TL) {p0}(a0:RV (kSl kAp) m v0 p0) {p1}(W:Fn1 prog kAp cL m v1 p1) {r}(h:et p0 p1=some r):
    Calls prog 99 #[v0,v1] w (Ret λv w'=>∃m',M.le m m'/\S W0 m' w' L TL/\RV cL m' v r):=by
 refine rm (TR W0 m w L TL [v0,v1] (p0,p1,()) r [] [] hS ⟨a0,⟨W,trivial⟩⟩ h) λv w' Z=>?_;obtain⟨m',us,Lr,Lq,Tr,hm,Z',rfl,hR,hO⟩:=Z;obtain⟨u0,us,rfl,r0,J⟩:=cM hR;obtain⟨rfl,rfl,rfl⟩:=b9 J;have a2:=bp hO;have a1:=LK a2;obtain rfl:=cc a1;exact⟨m',hm,Z',r0⟩
theorem QY:Ctr Sz prog 100 [.rd (.st 32)] [.rd .bool] (λx=>fd x.1):=
 ncR [Fi] [2] func100 ntmps100 .o λx=>by kernel_rfl
theorem yN (hS:S W0 m w L TL) {p0}(Z:RV kAp m v0 p0) {r}(h:fd p0=some r):
    Calls prog 100 #[v0] w (Ret λv w'=>∃m',M.le m m'/\S W0 m' w' L TL/\RV cL m' v r):=by
 refine rm (QY W0 m w L TL [v0] (p0,()) r [] [] hS ⟨Z,trivial⟩ h) λv w' W=>?_;obtain⟨m',us,Lr,Lq,Tr,hm,Z',rfl,hR,hO⟩:=W;obtain⟨u0,us,rfl,r0,J⟩:=cM hR;obtain⟨rfl,rfl,rfl⟩:=b9 J;have a0:=bp hO;obtain rfl:=cc a0;exact⟨m',hm,Z',r0⟩
theorem QZ:Ctr Sz prog 102 [.rd (.sl (.st 32))] [.rd (.sl (.int .i64)),.rd .bool] (λx=>oA x.1):=
 ncR [] [2,3] func102 ntmps102 (.s .o (.s .o (.s (.s .o (.b (.l ⟨[.v 4 1 (.dat (.sl (.int .i64)) (some 0)),.v 9 1 (.dat (.int .i64) none)],[7,8],0,[1]⟩ .o))) .o))) λx=>by kernel_rfl
theorem C9 (hS:S W0 m w L TL) {p0}(a0:RV (kSl kAp) m v0 p0) {r}(h:oA p0=some r):
    Calls prog 102 #[v0] w (Ret λv w'=>∃m',M.le m m'/\S W0 m' w' L TL/\∃v0_ v1_:Value,v= .tuple #[v0_,v1_]/\RV (kSl (ag .i64)) m' v0_ r.1/\RV cL m' v1_ r.2):=by
 refine rm (QZ W0 m w L TL [v0] (p0,()) r [] [] hS ⟨a0,trivial⟩ h) λv w' Z=>?_;obtain⟨m',us,Lr,Lq,Tr,hm,Z',rfl,hR,hO⟩:=Z;obtain⟨u0,us,rfl,r0,W⟩:=cM hR;obtain⟨u1,us,rfl,J,a1⟩:=cM W;obtain⟨rfl,rfl,rfl⟩:=b9 a1;have a2:=bp hO;obtain rfl:=cc a2;exact⟨m',hm,Z',u0,u1,rfl,r0,J⟩
theorem Da (hS:S W0 m w L TL) {p0}(e6:RV (kSl kAp) m v0 p0) {r}(h:mj p0=some r):
    Calls prog 146 #[v0] w (Ret λv w'=>∃m',M.le m m'/\S W0 m' w' L TL/\RV (kSl cy) m' v r):=by
 refine kc func146 ntmps146 λa E=>?_;have E:Env 48 a [(0,v0)]:=E;unfold mj at h;refine ab (ak (qA E rfl λa E=>ae (DA (ab (ak (qA E rfl λa E=>ae (ab ?_)))))));refine HH (ab (ab (ak (qM E rfl λa E=>sp E (bh (k:=kAp) E rfl rfl underlying22 e6) rfl λa E=>qM E rfl λa E=>ae ?_))));refine cj (λa w=>∃x8:(List aS),nA x8=some r/\∃m',M.le m m'/\∃(v9:Value),RV (kSl cy) m' v9 x8/\S W0 m' w L TL/\Env 48 a [(3,v9)]) ?_ ?_
 {
 refine bd ?_;refine eG h (λ(s:Int×List aS) a w=>∃m',M.le m m'/\∃(a9:List Value),∃(a6:Nat),∃(a1:Value),inR .i64 s.1/\GS cy m' a6 a9 a1 s.2/\S W0 m' w ((a6,a9)::L) (TL)/\Env 48 a [(3,a1),(7,v0),(8,.int .i64 (p0.length:Int)),(9,.int .i64 s.1)]) ?_ ?_
 {exact⟨_,(Z2 _),[],0,(.slice none 0 0),(show inR .i64 0 from au (by decide)),GS.void,(hS.void 0),kut E⟩}
 {
 rintro ⟨a4,a0⟩ a w ⟨c3,e3,a9,a6,a1,m2,a3,hS,E⟩ r23 h hb24;have h:kV p0 a4 a0=some r23:=h;unfold kV at h;refine ab (ak (qB E rfl rfl cl λa E=>ae (ab (kif E rfl (λc7=>?_) (λc7=>?_)))))
 {
 have h:=aF c7 h;refine aV (ab ?_);refine cj (λa w=>∃c1:(List aS),ji a4 c1=some r23/\∃m',M.le c3 m'/\∃(b7:List Value),∃(c0:Nat),∃(b6:Value),GS cy m' c0 b7 b6 c1/\S W0 m' w ((c0,b7)::L) (TL)/\Env 48 a [(3,b6),(7,v0),(8,.int .i64 (p0.length:Int)),(9,.int .i64 a4)]) ?_ ?_
 {
 refine bd (ab (ak ?_));obtain⟨b3,j4,h⟩:=ob h;refine st E (bn (k:=kAp) E rfl rfl underlying22 sizeOf32 (e6.mono e3) j4) rfl ?_;rintro n0 a _ ⟨rfl,h6⟩ E;refine st E (aO E hS eD rfl h6) rfl ?_;rintro m8 a _ ⟨rfl,f5⟩ E;refine st E (dv hS zeroValue32 rfl (cs:=xZ)) rfl ?_;rintro _ a w ⟨a5,rfl,hS⟩ E;refine st0 E (dh E hS eD bW rfl rfl f5 (i:=0) rfl (tz _)) ?_;rintro _ w ⟨b5,e7,hS⟩ E;refine ae (ab (ab (ak (qM E rfl λa E=>sp E (sF (k:=cy) E rfl rfl underlying185 a3) rfl λa E=>qM E rfl λa E=>ae ?_))))
 refine cj (λa w=>nB a4 a0 b3=some r23/\∃m',M.le c3 m'/\S W0 m' w ((a5,b5)::(a6,a9)::L) (TL)/\Env 48 a [(3,a1),(5,pz a5),(7,v0),(8,.int .i64 (p0.length:Int)),(9,.int .i64 a4)]) ?_ ?_
 {
 refine bd ?_;refine eG h (λ(s:Int) a w=>∃m',M.le c3 m'/\inR .i64 s/\S W0 m' w ((a5,b5)::(a6,a9)::L) (TL)/\Env 48 a [(3,a1),(5,pz a5),(7,v0),(8,.int .i64 (p0.length:Int)),(9,.int .i64 a4),(14,.int .i64 (a0.length:Int)),(15,.int .i64 s)]) ?_ ?_
 {exact⟨_,(Z2 _),(show inR .i64 0 from au (by decide)),hS,kut E⟩}
 {
 rintro W a w ⟨d1,a2,e4,hS,E⟩ r77 h hb78;have h:eT a4 a0 b3 W=some r77:=h;unfold eT at h;refine ab (ak (qB E rfl rfl cl λa E=>ae (ab (kif E rfl (λc2=>?_) (λc2=>?_)))))
 {
 have h:=aF c2 h;refine aV (ab (bd (ab (ak (qM E rfl λa E=>qA E rfl λa E=>ae (ab ?_))))));refine cj (λa w=>∃d0:Bool,gU a4 a0 W d0=some r77/\∃m',M.le d1 m'/\S W0 m' w ((a5,b5)::(a6,a9)::L) (TL)/\Env 48 a [(3,a1),(5,pz a5),(6,.int .i64 W),(7,v0),(8,.int .i64 (p0.length:Int)),(9,.int .i64 a4),(14,.int .i64 (a0.length:Int)),(15,.int .i64 W),(31,.bool d0)]) ?_ ?_
 {
 rcases Z1 (W==(Z3.wrap ((a0.length:Int) - 1))) with hd111|hd111
 {
 have h:=aF hd111 h;obtain⟨e5,h3,e9,g2,h⟩:=ob2 h
 refine kch (k:=12) (m:=d1) (es:=[]) (Φ:=(λi m ws v=>match i with|0=>ei .i64 W v|1=>v=a1|2=>ei .i64 (a0.length:Int) v|3=>ei .i64 (Z3.wrap ((a0.length:Int) - 1)) v|4=>v=(.bool (W==(Z3.wrap ((a0.length:Int) - 1))))|5=>v=(.bool (W==(Z3.wrap ((a0.length:Int) - 1))))|6=>v=a1|7=>ei .i64 W v|8=>v=(.pointer (some ⟨a6,e5*5,none⟩))|9=>v=(.pointer (some ⟨a6,e5*5+1,none⟩))|10=>RV kAp m v e9.fValue|11=>RV kAp m v b3|_=>True)) (Q:=(λc m ws L' e1=>match c with|0=>(a5,b5)::(a6,a9)::L=L'/\TL=e1|_=>False)) (cs:=[CQ [(6,.int .i64 W)],CQ [(3,a1)],CQ [],CQ [],CQ [],CQ [],CQ [(3,a1)],CQ [(6,.int .i64 W)],CQ [],CQ [],CQ [],CQ [(5,pz a5)]]) mixed E hS ⟨rfl,rfl⟩ rfl rfl (by kernel_rfl) ?_ ?_ ?_ ?_
 {
 intro i m_ c6 ws v n_ q_
 iterate 12 (rcases i with _|i;first|exact q_|exact RV.mono q_ n_)
 exact trivial}
 {
 intro c m_ c6 ws L_ T_ n_ b0
 match c,b0 with
 |0,⟨e0,d2⟩=>exact⟨e0,d2⟩
 |_+1,b0=>exact b0.elim}
 {
 refine⟨?_,?_,?_,?_,?_,?_,?_,?_,?_,?_,?_,?_,trivial⟩
 {exact cmv λ_ _=>⟨rfl,e4⟩}
 {exact cmv λ_ _=>rfl}
 {refine cp1 λ_ _ _ _ _ M' Q' J Z T'=>?_;obtain⟨rfl,rfl⟩:=Q';have E:=Z.add (T' 1);exact cq (sF (k:=cy) E rfl rfl underlying185 (a3.mono (Z0 a2 M'))) J ⟨rfl,(eE (GS.len (a3.mono (Z0 a2 M'))))⟩}
 {refine cp0 λ_ _ _ _ _ _ _ _ _ J Z T'=>?_;have E:=Z.add (T' 2).1;exact cq (a7 E rfl rfl (iV rfl)) J ⟨rfl,(aA _ _)⟩}
 {refine cp0 λ_ _ _ _ _ _ _ _ _ J Z T'=>?_;have E:=(Z.add (T' 0).1).add (T' 3).1;exact cq (a7 E rfl rfl jW) J rfl}
 {refine cp0 λ_ _ _ _ _ _ _ _ _ J Z T'=>?_;have E:=Z.add (T' 4);exact cq (iQ E rfl) J rfl}
 {exact cgm (gz hd111) (λ_ _=>rfl)}
 {exact cgm (gz hd111) (λ_ _=>⟨rfl,e4⟩)}
 {refine cg1 (gz hd111) λ_ _ _ _ _ M' Q' J Z T'=>?_;obtain⟨rfl,rfl⟩:=Q';have E:=(Z.add (T' 6)).add (T' 7).1;exact cq (mO (k:=cy) E rfl rfl underlying185 sizeOf187 (a3.mono (Z0 a2 M')) h3 rfl) J rfl}
 {refine cg0 (gz hd111) λ_ _ _ _ _ _ _ _ _ J Z T'=>?_;have E:=Z.add (T' 8);exact cq (aH E Gw rfl) J rfl}
 {refine cg1 (gz hd111) λ_ _ _ _ _ M' Q' J Z T'=>?_;obtain⟨rfl,rfl⟩:=Q';have E:=Z.add (T' 9);exact cr (aK E J eD rfl (i:=1) rfl (Ni.R_drop (GS.elem (a3.mono (Z0 a2 M')) g2))) J λ_ h=>h}
 {refine cg1 (gz hd111) λ_ _ _ _ _ M' Q' J Z _=>?_;obtain⟨rfl,rfl⟩:=Q';exact cr (aK Z J eD rfl (i:=0) rfl (az (kAp.mono (Z0 a2 M') e7))) J λ_ h=>h}}
 {
 intro j2 L_ T_ n2 a w h4 j0 k7 hS h8 i0 g8 b2;obtain rfl:=eH h4;obtain⟨rfl,rfl⟩:=k7;have E:=eof 12 [(3,a1),(5,pz a5),(6,.int .i64 W),(7,v0),(8,.int .i64 (p0.length:Int)),(9,.int .i64 a4),(14,.int .i64 (a0.length:Int)),(15,.int .i64 W),(16,.bool (decide (W<(a0.length:Int)))),(17,.int .i64 W)] h8 i0 g8;have E:=((((E.add (b2 5)).add (b2 6)).add (b2 7).1).add (b2 8)).add (b2 9);obtain⟨n3,E,j1⟩:=adv E (b2 10);obtain⟨m4,E,f4⟩:=adv E (b2 11)
 refine spg E rfl rfl rfl rfl hd111 (w8 E zP rfl rfl j1 f4 rfl) rfl λa E=>qT E hd111 rfl λa E=>ae ?_;exact⟨(decide (e9.fValue=b3)),h,_,j0,hS,kut E⟩}}
 {
 have h:=aG hd111 h
 refine kch (k:=12) (m:=d1) (es:=[]) (Φ:=(λi m ws v=>match i with|0=>ei .i64 W v|1=>v=a1|2=>ei .i64 (a0.length:Int) v|3=>ei .i64 (Z3.wrap ((a0.length:Int) - 1)) v|4=>v=(.bool (W==(Z3.wrap ((a0.length:Int) - 1))))|5=>v=(.bool (W==(Z3.wrap ((a0.length:Int) - 1))))|6=>v=undef|7=>v=undef|8=>v=undef|9=>v=undef|10=>v=undef|11=>v=undef|_=>True)) (Q:=(λc m ws L' e1=>match c with|0=>(a5,b5)::(a6,a9)::L=L'/\TL=e1|_=>False)) (cs:=[CQ [(6,.int .i64 W)],CQ [(3,a1)],CQ [],CQ [],CQ [],CQ [],CQ [(3,a1)],CQ [(6,.int .i64 W)],CQ [],CQ [],CQ [],CQ [(5,pz a5)]]) mixed E hS ⟨rfl,rfl⟩ rfl rfl (by kernel_rfl) ?_ ?_ ?_ ?_
 {
 intro i m_ c6 ws v n_ q_
 iterate 12 (rcases i with _|i;exact q_)
 exact trivial}
 {
 intro c m_ c6 ws L_ T_ n_ b0
 match c,b0 with
 |0,⟨e0,d2⟩=>exact⟨e0,d2⟩
 |_+1,b0=>exact b0.elim}
 {
 refine⟨?_,?_,?_,?_,?_,?_,?_,?_,?_,?_,?_,?_,trivial⟩
 {exact cmv λ_ _=>⟨rfl,e4⟩}
 {exact cmv λ_ _=>rfl}
 {refine cp1 λ_ _ _ _ _ M' Q' J Z T'=>?_;obtain⟨rfl,rfl⟩:=Q';have E:=Z.add (T' 1);exact cq (sF (k:=cy) E rfl rfl underlying185 (a3.mono (Z0 a2 M'))) J ⟨rfl,(eE (GS.len (a3.mono (Z0 a2 M'))))⟩}
 {refine cp0 λ_ _ _ _ _ _ _ _ _ J Z T'=>?_;have E:=Z.add (T' 2).1;exact cq (a7 E rfl rfl (iV rfl)) J ⟨rfl,(aA _ _)⟩}
 {refine cp0 λ_ _ _ _ _ _ _ _ _ J Z T'=>?_;have E:=(Z.add (T' 0).1).add (T' 3).1;exact cq (a7 E rfl rfl jW) J rfl}
 {refine cp0 λ_ _ _ _ _ _ _ _ _ J Z T'=>?_;have E:=Z.add (T' 4);exact cq (iQ E rfl) J rfl}
 {exact csk (gz hd111)}
 {exact csk (gz hd111)}
 {exact csk (gz hd111)}
 {exact csk (gz hd111)}
 {exact csk (gz hd111)}
 {exact csk (gz hd111)}}
 {intro j2 L_ T_ l3 a w i1 i4 h0 hS k4 g5 i2 b1;obtain rfl:=eH i1;obtain⟨rfl,rfl⟩:=h0;have E:=eof 12 [(3,a1),(5,pz a5),(6,.int .i64 W),(7,v0),(8,.int .i64 (p0.length:Int)),(9,.int .i64 a4),(14,.int .i64 (a0.length:Int)),(15,.int .i64 W),(16,.bool (decide (W<(a0.length:Int)))),(17,.int .i64 W)] k4 g5 i2;have E:=((((((E.add (b1 5)).add (b1 6)).add (b1 7)).add (b1 8)).add (b1 9)).add (b1 10)).add (b1 11);refine qX E hd111 λa E=>qF E hd111 rfl λa E=>ae ?_;exact⟨false,h,_,i4,hS,kut E⟩}}}
 {
 rintro a w ⟨d0,h,m1,b4,hS,E⟩;unfold gU at h;refine kif E rfl (λc5=>?_) (λc5=>?_)
 {
 have h:=aF c5 h;refine ab (ak (qM E rfl λa E=>qM E rfl λa E=>?_));obtain⟨n4,h7,h⟩:=ob h;refine sp E (mO (k:=cy) E rfl rfl underlying185 sizeOf187 (a3.mono (Z0 a2 b4)) h7 rfl) rfl λa E=>sp E (aH E B6 rfl) rfl λa E=>?_;obtain⟨l1,i8,h⟩:=ob h;refine st E (aK E hS ty3 rfl (i:=1) rfl (Nh.R_drop (GS.elem (a3.mono (Z0 a2 b4)) i8))) rfl ?_;rintro n1 a _ ⟨rfl,i5⟩ E;obtain⟨rfl,l4⟩:=aJ i5;refine qB E rfl rfl (br rfl) λa E=>?_;obtain⟨k6,f3,h⟩:=ob h
 refine sp E (mO (k:=cy) E rfl rfl underlying185 sizeOf187 (a3.mono (Z0 a2 b4)) f3 rfl) rfl λa E=>sp E (aH E B6 rfl) rfl λa E=>?_;obtain⟨x106,k3,h⟩:=ob h;refine st0 E (tJ (k:=cy) E hS ty3 BY (a3.mono (Z0 a2 b4)) k3 rfl rfl (aq (aA _ _)) (i:=1) rfl) ?_;rintro _ w ⟨h5,f0,hS⟩ E;refine ae ?_;refine d4 rfl rfl ?_;have h:=bY h hb78;exact⟨(a0.set k6 ({ x106 with fMany:=Z3.wrap (l1.fMany+1) })),h,_,(Z0 a2 b4),h5,a6,a1,f0,(hS.pickL 2 [1] rfl rfl rfl),kut E⟩}
 {have h:=aG c5 h;refine aV (ak (qB E rfl rfl (br rfl) λa E=>qM E rfl λa E=>ae ?_));exact⟨Z3.wrap (W+1),(Option.some.inj h).symm,_,(Z0 a2 b4),(aA _ _),hS,kut E⟩}}}
 {have h:=aG c2 h;refine d4 rfl rfl ?_;have h:=bY h hb78;exact⟨h,_,a2,hS,kut E⟩}}}
 {
 rintro a w ⟨h,k5,c4,hS,E⟩;unfold nB at h;refine ak (qM E rfl λa E=>?_);refine st E (aK E hS eD rfl (i:=0) rfl (az (kAp.mono c4 e7))) rfl ?_;rintro g4 a _ ⟨rfl,g6⟩ E;refine st E (sE (m:=k5) (k:=cy) (x0:=aS.zero) (xx:=(⟨1,b3⟩:aS)) (pl:=[(0,1),(1,4)]) (pv:=[(0,.int .i64 1),(1,g4)]) E rfl underlying187 rfl zeroValue187 Hw rfl (.cons rfl BY (aq (show inR .i64 1 from au (by decide))) (.cons rfl Gr g6 .nil))) rfl ?_;rintro j3 a _ ⟨rfl,g3⟩ E
 refine st E (f8 (k:=cy) (xs:=[(⟨1,b3⟩:aS)]) (vs:=[j3]) E hS rfl underlying185 sizeOf187 zeroValue187 ⟨g3,trivial⟩ rfl (by decide)) rfl ?_;rintro m7 a w ⟨m3,e8,hS,i3⟩ E;obtain⟨f6,g7,h⟩:=ob h;refine st E (Bn (k:=cy) (N:=2932031007402) E hS rfl rfl underlying185 LS (i:=1) rfl (a3.mono (Z0 c4 e8)) (z6 hS underlying185 i3) g7 rfl rfl) rfl ?_;rintro l2 a w ⟨h9,h2,g1,hS⟩ E;refine qA E rfl λa E=>ae ?_;exact⟨f6,h,_,(Z0 c4 e8),h2,h9,l2,g1,((hS.pickL 2 [1] rfl rfl rfl).pickT 1 [] rfl rfl rfl),kut E⟩}}
 {rintro a w ⟨c1,h,m5,k0,b7,c0,b6,f9,hS,E⟩;unfold ji at h;refine ak (qB E rfl rfl (br rfl) λa E=>qM E rfl λa E=>ae ?_);exact⟨(Z3.wrap (a4+1),c1),(Option.some.inj h).symm,_,(Z0 e3 k0),b7,c0,b6,(aA _ _),f9,hS,kut E⟩}}
 {have h:=aG c7 h;obtain⟨m9,g9,hS,j5⟩:=S.freeze hS a3;refine d4 rfl rfl ?_;have h:=bY h hb24;exact⟨a0,h,_,(Z0 e3 g9),a1,j5,hS,kut E⟩}}}
 {
 rintro a w ⟨x8,h,m6,g0,v9,h1,hS,E⟩;unfold nA at h;refine ab (ak (qM E rfl λa E=>qA E rfl λa E=>ae (bD ?_)));obtain rfl:=oi h
 try dsimp only
 refine f1 E ?_;exact⟨_,g0,hS,h1⟩}
theorem Q0:Ctr Sz prog 146 [.rd (.sl (.st 32))] [.rd (.sl (.st 187))] (λx=>mj x.1):=by
 intro W0 m w L TL vs x r Lp Tp hS hP h;obtain⟨v0,vs,rfl,a0,J⟩:=iJ hP;obtain⟨rfl,rfl,rfl⟩:=lV J;refine rm (Da (hS:=hS) a0 h) λv w' W=>?_;obtain⟨m',hm,Z',Z⟩:=W;exact⟨m',[v],[],[],[],hm,Z',rfl,⟨Z,trivial⟩,trivial⟩
def Q1:=mC Q0 call146
theorem Q2:Ctr Sz prog 158 [.rd (.sl (.st 32))] [.rd .bool] (λx=>sL x.1):=
 ncR [Fi] [2] func158 ntmps158 (.s .o (.s (.s .o (.b (.l ⟨[.v 7 1 (.dat (.int .i64) none)],[0,5,6],0,[]⟩ .o))) .o)) λx=>by kernel_rfl
def Q3:=mC Q2 call158
theorem Fl (hS:S W0 m w L ((1,v0)::TL)) {p0}(a6:RV (kSl (ag .u8)) m v0 p0) {p1}(c5:inR .u64 p1) {r}(h:nC p0 p1=some r):
    Calls prog 182 #[v0,(.int .u64 p1)] w (Ret λv w'=>∃m',M.le m m'/\S W0 m' w' L ((1,v)::TL)/\RV (kSl (ag .u8)) m' v r):=by
 refine kc func182 ntmps182 λa E=>?_;have E:Env 22 a [(0,v0),(1,.int .u64 p1)]:=E;unfold nC at h;refine ab (ak (qA E rfl λa E=>ae (ab (ak ?_))));refine st E (dv hS zeroValue224 rfl (cs:=Hx)) rfl ?_;rintro _ a w ⟨J,rfl,hS⟩ E;refine ae (ab (ab (ak (qM E rfl λa E=>ae ?_))));refine cj (λa w=>∃x7:(List Int),oV p0 x7=some r/\∃m',M.le m m'/\∃(Z:List Value),GS (ag .u8) m' J Z (.slice (some ⟨J,0,none⟩) 8 8) x7/\S W0 m' w ((J,Z)::L) ((1,v0)::TL)/\Env 22 a [(0,v0),(5,pz J)]) ?_ ?_
 {
 refine bd ?_;refine eG h (λ(s:Int×List Int) a w=>∃m',M.le m m'/\∃(W:List Value),inR .i64 s.1/\GS (ag .u8) m' J W (.slice (some ⟨J,0,none⟩) 8 8) s.2/\S W0 m' w ((J,W)::L) ((1,v0)::TL)/\Env 22 a [(0,v0),(1,.int .u64 p1),(5,pz J),(7,.int .i64 s.1)]) ?_ ?_
 {exact⟨_,(Z2 _),Hx,(show inR .i64 0 from au (by decide)),(S9 _ _),hS,kut E⟩}
 {
 rintro ⟨a1,x24⟩ a w ⟨c7,a3,W,d0,a2,hS,E⟩ r27 h hb28;have h:lW p0 p1 a1 x24=some r27:=h;unfold lW at h;refine ab (ak (qB E rfl rfl cl λa E=>ae (ab (kif E rfl (λa0=>?_) (λa0=>?_)))))
 {
 have h:=aF a0 h;refine aV (ab (bd (ab (ak (qM E rfl λa E=>qA E rfl λa E=>ae (ak (qM E rfl λa E=>?_)))))));refine qM E rfl λa E=>qM E rfl λa E=>qB E rfl rfl (Lw rfl) λa E=>qB E rfl rfl (iV rfl) λa E=>?_;obtain⟨c6,a5,h⟩:=ob h;refine qB E rfl rfl (Df rfl (of_decide_eq_true (ql a5))) λa E=>sp E (dw E rfl underlying54 underlying5 rfl) rfl λa E=>?_;obtain⟨c0,b3,h⟩:=ob h;refine sp E (DN (k:=(ag .u8)) E rfl rfl underlying224 sizeOf5 (GS.arr_len a2) b3 rfl) rfl λa E=>?_;obtain⟨c3,b1,h⟩:=ob h
 refine st0 E (tJ (k:=(ag .u8)) E hS ty5 bW a2 b1 rfl rfl (aq (aA _ _)) (i:=0) rfl) ?_;rintro _ w ⟨a9,b4,hS⟩ E;refine ae (ak (qB E rfl rfl (br rfl) λa E=>qM E rfl λa E=>ae ?_));exact⟨(Z3.wrap (a1+1),(x24.set c0 (Z6.wrap (aX .u64 p1 (Z3.wrap (56 - (Z3.wrap (8*a1)))))))),(Option.some.inj h).symm,_,a3,a9,(aA _ _),b4,hS,kut E⟩}
 {have h:=aG a0 h;refine d4 rfl rfl ?_;have h:=bY h hb28;exact⟨x24,h,_,a3,W,a2,hS,kut E⟩}}}
 {
 rintro a w ⟨x7,h,m5,a4,Z,b7,hS,E⟩;unfold oV at h;refine ab (ak (qM E rfl λa E=>sp E (JM (k:=(ag .u8)) E rfl underlying224 sizeOf5) rfl λa E=>?_));obtain⟨c4,b0,h⟩:=ob h;refine st E (Bm (k:=(ag .u8)) (N:=140737488355328) E hS rfl rfl underlying24 el5 (i:=0) rfl (a6.mono a4) (FU hS underlying24 (i:=0) rfl b7) b0 rfl rfl) rfl ?_;rintro c2 a w ⟨c1,b6,hS,b5⟩ E;refine qA E rfl λa E=>ae (bD ?_);obtain rfl:=oi h
 try dsimp only
 refine f1 E ?_;exact⟨_,(Z0 a4 b6),((hS.dropL 1).pickT 1 [0] rfl rfl rfl),b5⟩}
theorem Q4:Ctr Sz prog 182 [.ap (.int .u8),.rd (.int .u64)] [.ap (.int .u8)] (λx=>nC x.1 x.2.1):=by
 intro W0 m w L TL vs x r Lp Tp hS hP h;obtain⟨v0,vs,Tp,rfl,rfl,a0,J⟩:=SQ hP;obtain⟨v1,vs,rfl,a1,a2⟩:=iJ J;obtain⟨rfl,n1⟩:=aJ a1;obtain⟨rfl,rfl,rfl⟩:=lV a2;refine rm (Fl (hS:=hS) a0 n1 h) λv w' W=>?_;obtain⟨m',hm,Z',Z⟩:=W;exact⟨m',[v],[],[],[(1,v)],hm,Z',rfl,⟨Z,rfl,trivial⟩,trivial⟩
def Q5:=mC Q4 call182
theorem Q6:Ctr Sz prog 159 [.ap (.int .u8),.rd (.st 32)] [.ap (.int .u8)] (λx=>vL x.1 x.2.1):=
 ncR [Q5] [4] func159 ntmps159 .o λx=>by kernel_rfl
def Q7:=mC Q6 call159
theorem Q8:Ctr Sz prog 112 [.rd (.sl (.st 32))] [.rd (.sl (.int .u8)),.rd (.int .i64)] (λx=>oB x.1):=
 ncR [Q3,Q7] [2,3] func112 ntmps112 (.s .o (.s .o (.s .o (.s (.s .o (.b (.l ⟨[.v 4 1 (.dat (.sl (.int .u8)) (some 0)),.v 16 1 (.dat (.int .i64) none)],[14,15],0,[1]⟩ .o))) .o)))) λx=>by kernel_rfl
def Jr:=mC Q8 call112
theorem Js:Ctr Sz prog 107 [.rd (.st 32)] [.rd (.sl (.int .u8))] (λx=>ly x.1):=
 ncR [Jr] [2] func107 ntmps107 .o λx=>by kernel_rfl
def Q9:=mC Js call107
theorem ye (hS:S W0 m w L TL) {p0}(Z:RV kAp m v0 p0) {r}(h:ly p0=some r):
    Calls prog 107 #[v0] w (Ret λv w'=>∃m',M.le m m'/\S W0 m' w' L TL/\RV (kSl (ag .u8)) m' v r):=by
 refine rm (Js W0 m w L TL [v0] (p0,()) r [] [] hS ⟨Z,trivial⟩ h) λv w' W=>?_;obtain⟨m',us,Lr,Lq,Tr,hm,Z',rfl,hR,hO⟩:=W;obtain⟨u0,us,rfl,r0,J⟩:=cM hR;obtain⟨rfl,rfl,rfl⟩:=b9 J;have a0:=bp hO;obtain rfl:=cc a0;exact⟨m',hm,Z',r0⟩
theorem Ra:Ctr Sz prog 103 [.rd (.sl (.st 32))] [.ap (.int .u8)] (λx=>oC x.1):=
 ncR [Q9,Q1] [2] func103 ntmps103 (.s .o (.s .o (.s (.s .o (.b (.l ⟨[.v 3 1 (.dat (.sl (.int .u8)) (some 0)),.v 9 1 (.dat (.int .i64) none)],[7,8],0,[1]⟩ .o))) .o))) λx=>by kernel_rfl
theorem Db (hS:S W0 m w L TL) {p0}(Z:RV (kSl kAp) m v0 p0) {r}(h:oC p0=some r):
    Calls prog 103 #[v0] w (Ret λv w'=>∃m',M.le m m'/\S W0 m' w' L ((1,v)::TL)/\RV (kSl (ag .u8)) m' v r):=by
 refine rm (Ra W0 m w L TL [v0] (p0,()) r [] [] hS ⟨Z,trivial⟩ h) λv w' W=>?_;obtain⟨m',us,Lr,Lq,Tr,hm,Z',rfl,hR,hO⟩:=W;obtain⟨u0,us,Tr,rfl,rfl,r0,J⟩:=vK hR;obtain⟨rfl,rfl,rfl⟩:=b9 J;have a0:=bp hO;obtain rfl:=cc a0;exact⟨m',hm,Z',r0⟩
theorem Rb:Ctr Sz prog 147 [.rd (.int .u64)] [.ap (.int .u8)] (λx=>mQ x.1):=
 ncR [] [2] func147 ntmps147 (.s .o (.s .o (.s (.s .o (.b (.l ⟨[.v 3 1 (.dat (.sl (.int .u8)) (some 0)),.v 5 1 (.dat (.int .i64) none)],[0],0,[1]⟩ .o))) .o))) λx=>by kernel_rfl
def Jt:=mC Rb call147
theorem Rc:Ctr Sz prog 104 [.rd (.sl (.int .i64))] [.ap (.int .u8)] (λx=>mR x.1):=
 ncR [Jt] [2] func104 ntmps104 (.s .o (.s .o (.s (.s .o (.b (.l ⟨[.v 3 1 (.dat (.sl (.int .u8)) (some 0)),.v 16 1 (.dat (.int .i64) none)],[0,14,15],0,[1]⟩ (.s .o (.s .o (.s (.b (.s .o (.s .o (.s .o (.s (.b (.l ⟨[.v 3 2 (.dat (.sl (.int .u8)) (some 0)),.v 7 2 (.dat (.int .u64) none)],[0,14,15,16],0,[1]⟩ .o)) .o))))) .o)))))) .o))) λx=>by kernel_rfl
theorem B8 (hS:S W0 m w L TL) {p0}(Z:RV (kSl (ag .i64)) m v0 p0) {r}(h:mR p0=some r):
    Calls prog 104 #[v0] w (Ret λv w'=>∃m',M.le m m'/\S W0 m' w' L ((1,v)::TL)/\RV (kSl (ag .u8)) m' v r):=by
 refine rm (Rc W0 m w L TL [v0] (p0,()) r [] [] hS ⟨Z,trivial⟩ h) λv w' W=>?_;obtain⟨m',us,Lr,Lq,Tr,hm,Z',rfl,hR,hO⟩:=W;obtain⟨u0,us,Tr,rfl,rfl,r0,J⟩:=vK hR;obtain⟨rfl,rfl,rfl⟩:=b9 J;have a0:=bp hO;obtain rfl:=cc a0;exact⟨m',hm,Z',r0⟩
theorem tG {J:Nat}{W:List Value}(hS:S W0 m w ((J,W)::L) (TL)) {p0}(a0:GS kAp m J W v0 p0) {p1}(Z:Fn2 prog kAp kAp (ag .i64) m v1 p1) {r}(h:kW p0 p1=some r):
    Calls prog 148 #[v0,v1] w (Ret λv w'=>∃m',M.le m m'/\∃q0_:List Value,S W0 m' w' ((J,q0_)::L) (TL)/\GS kAp m' J q0_ v0 r):=
  Hz (ρ:=zb) Nt isAgg32 sizeOf32 rfl hS a0 Z h
theorem Re:Ctr Sz prog 150 [.rd (.sl (.st 32)),.rd (.st 32)] [.rd (.int .i64)] (λx=>iA x.1 x.2.1):=
 ncR [] [4] func150 ntmps150 (.s .o (.s (.s .o (.b (.l ⟨[.v 8 1 (.dat (.int .i64) none)],[0,3,7],1,[]⟩ .o))) .o)) λx=>by kernel_rfl
theorem wD (hS:S W0 m w L TL) {p0}(a0:RV (kSl kAp) m v0 p0) {p1}(W:RV kAp m v1 p1) {r}(h:iA p0 p1=some r):
    Calls prog 150 #[v0,v1] w (Ret λv w'=>∃m',M.le m m'/\S W0 m' w' L TL/\RV (ag .i64) m' v r):=by
 refine rm (Re W0 m w L TL [v0,v1] (p0,p1,()) r [] [] hS ⟨a0,⟨W,trivial⟩⟩ h) λv w' Z=>?_;obtain⟨m',us,Lr,Lq,Tr,hm,Z',rfl,hR,hO⟩:=Z;obtain⟨u0,us,rfl,r0,J⟩:=cM hR;obtain⟨rfl,rfl,rfl⟩:=b9 J;have a2:=bp hO;have a1:=bp a2;obtain rfl:=cc a1;exact⟨m',hm,Z',r0⟩
theorem Rf:Ctr Sz prog 179 [.rd (.int .u32)] [.rd (.int .i64)] (λx=>G6 x.1):=
 ncR [] [2] func179 ntmps179 .o λx=>by kernel_rfl
def Rg:=mC Rf call179
theorem Rh:Ctr Sz prog 154 [.rd (.int .u64)] [.rd (.int .i64)] (λx=>pN x.1):=
 ncR [] [2] func154 ntmps154 .o λx=>by kernel_rfl
def Ju:=mC Rh call154
theorem Jv:Ctr Sz prog 152 [.rd (.int .u64)] [.rd (.int .i64)] (λx=>qs x.1):=
 ncR [Ju,Rg] [2] func152 ntmps152 .o λx=>by kernel_rfl
def Ri:=mC Jv call152
theorem HA (hS:S W0 m w L TL) {p0}(Z:inR .u64 p0) {r}(h:qs p0=some r):
    Calls prog 152 #[(.int .u64 p0)] w (Ret λv w'=>∃m',M.le m m'/\S W0 m' w' L TL/\RV (ag .i64) m' v r):=by
 refine rm (Jv W0 m w L TL [(.int .u64 p0)] (p0,()) r [] [] hS ⟨aq Z,trivial⟩ h) λv w' W=>?_;obtain⟨m',us,Lr,Lq,Tr,hm,Z',rfl,hR,hO⟩:=W;obtain⟨u0,us,rfl,r0,J⟩:=cM hR;obtain⟨rfl,rfl,rfl⟩:=b9 J;have a0:=bp hO;obtain rfl:=cc a0;exact⟨m',hm,Z',r0⟩
theorem Jw:Ctr Sz prog 151 [.rd (.sl (.int .u64)),.rd (.int .i64)] [.rd (.sl (.int .u8))] (λx=>jS x.1 x.2.1):=
 ncR [] [4] func151 ntmps151 (.s .o (.s .o (.s (.s .o (.b (.l ⟨[.v 19 1 (.dat (.int .i64) none),.a 0 1 (.int .u8) none],[1,5,17,18],1,[]⟩ (.s .o (.s .o (.s (.b (.s .o (.s .o (.b (.l ⟨[.v 25 2 (.dat (.int .i64) none),.a 0 2 (.int .u8) none],[1,5,6,7,17,18,19,24],1,[]⟩ .o))))) .o)))))) .o))) λx=>by kernel_rfl
def Rj:=mC Jw call151
theorem Bd (hS:S W0 m w L TL) {p0}(a0:RV (kSl (ag .u64)) m v0 p0) {p1}(W:inR .i64 p1) {r}(h:jS p0 p1=some r):
    Calls prog 151 #[v0,(.int .i64 p1)] w (Ret λv w'=>∃m',M.le m m'/\S W0 m' w' L TL/\RV (kSl (ag .u8)) m' v r):=by
 refine rm (Jw W0 m w L TL [v0,(.int .i64 p1)] (p0,p1,()) r [] [] hS ⟨a0,⟨aq W,trivial⟩⟩ h) λv w' Z=>?_;obtain⟨m',us,Lr,Lq,Tr,hm,Z',rfl,hR,hO⟩:=Z;obtain⟨u0,us,rfl,r0,J⟩:=cM hR;obtain⟨rfl,rfl,rfl⟩:=b9 J;have a2:=bp hO;have a1:=bp a2;obtain rfl:=cc a1;exact⟨m',hm,Z',r0⟩
theorem tD  {W:Nat}{a3:List Value}(hS:S W0 m w ((W,a3)::L) (TL)) {p0}(a1:GS kAp m W a3 v0 p0) {r}(h:d8 p0=some r):
    Calls prog 149 #[v0] w (Ret λv w'=>∃m',M.le m m'/\∃bq_:Nat,∃cq_:List Value,S W0 m' w' ((bq_,cq_)::L) (TL)/\GS kAp m' bq_ cq_ v r):=by
 refine kc func149 ntmps149 λa E=>?_;have E:Env 61 a [(0,v0)]:=E;unfold d8 at h;refine ab (ak (qA E rfl λa E=>ae (ab (ab (ak (qM E rfl λa E=>sp E (sF (k:=kAp) E rfl rfl underlying22 a1) rfl λa E=>qB E rfl rfl cl λa E=>?_))))));refine ae (kif E rfl (λc7=>?_) (λc7=>?_))
 {
 have h:=aF c7 h;refine ab (ak (qM E rfl λa E=>qA E rfl λa E=>ae (bD ?_)));obtain rfl:=oi h
 try dsimp only
 refine f1 E ?_;exact⟨_,(Z2 _),W,a3,((hS.void 0).pickL 2 [1] rfl rfl rfl),a1⟩}
 {
 have h:=aG c7 h;refine aV (ab (ab (ak (qA E rfl λa E=>ae ?_))));refine cj (λa w=>fR p0=some r/\∃m',M.le m m'/\S W0 m' w ((0,[])::(W,a3)::L) (TL)/\Env 61 a [(0,v0)]) ?_ ?_
 {
 refine bd ?_;refine eG h (λ(s:Int) a w=>∃m',M.le m m'/\inR .i64 s/\S W0 m' w ((0,[])::(W,a3)::L) (TL)/\Env 61 a [(0,v0),(3,.int .i64 s)]) ?_ ?_
 {exact⟨_,(Z2 _),(show inR .i64 1 from au (by decide)),(hS.void 0),kut E⟩}
 {
 rintro a0 a w ⟨e7,a2,c2,hS,E⟩ r18 h hb19;have h:fV p0 a0=some r18:=h;unfold fV at h;refine ab (ab (ak (qM E rfl λa E=>qM E rfl λa E=>sp E (sF (k:=kAp) E rfl rfl underlying22 (a1.mono a2)) rfl λa E=>qB E rfl rfl cl λa E=>ae (kif E rfl (λe0=>?_) (λe0=>?_)))))
 {
 have h:=aF e0 h;refine aV (ab ?_);refine cj (λa w=>fS a0=some r18/\∃m',M.le e7 m'/\S W0 m' w ((0,[])::(W,a3)::L) (TL)/\Env 61 a [(0,v0),(3,.int .i64 a0)]) ?_ ?_
 {
 refine bd (ab ?_);obtain⟨g3,h1,m3,g5,h⟩:=ob2 h;obtain⟨g4,g2,j2,n0,h⟩:=ob2 h
 refine kch (k:=9) (m:=e7) (es:=[]) (Φ:=(λi m ws v=>match i with|0=>v=v0|1=>ei .i64 a0 v|2=>v=(.pointer (some ⟨W,g3*4,none⟩))|3=>RV kAp m v m3|4=>v=v0|5=>ei .i64 a0 v|6=>ei .i64 (Z3.wrap (a0 - 1)) v|7=>v=(.pointer (some ⟨W,g4*4,none⟩))|8=>RV kAp m v j2|_=>True)) (Q:=(λc m ws L' d2=>match c with|0=>(0,[])::(W,a3)::L=L'/\TL=d2|_=>False)) (cs:=[CQ [(0,v0)],CQ [(3,.int .i64 a0)],CQ [],CQ [],CQ [(0,v0)],CQ [(3,.int .i64 a0)],CQ [],CQ [],CQ []]) mixed E hS ⟨rfl,rfl⟩ rfl rfl (by kernel_rfl) ?_ ?_ ?_ ?_
 {
 intro i m_ c5 ws v n_ q_
 iterate 9 (rcases i with _|i;first|exact q_|exact RV.mono q_ n_)
 exact trivial}
 {
 intro c m_ c5 ws L_ T_ n_ a5
 match c,a5 with
 |0,⟨d1,d0⟩=>exact⟨d1,d0⟩
 |_+1,a5=>exact a5.elim}
 {
 refine⟨?_,?_,?_,?_,?_,?_,?_,?_,?_,trivial⟩
 {exact cmv λ_ _=>rfl}
 {exact cmv λ_ _=>⟨rfl,c2⟩}
 {refine cp1 λ_ _ _ _ _ M' Q' J Z T'=>?_;obtain⟨rfl,rfl⟩:=Q';have E:=(Z.add (T' 0)).add (T' 1).1;exact cq (mO (k:=kAp) E rfl rfl underlying22 sizeOf32 (a1.mono (Z0 a2 M')) h1 rfl) J rfl}
 {refine cp1 λ_ _ _ _ _ M' Q' J Z T'=>?_;obtain⟨rfl,rfl⟩:=Q';have E:=Z.add (T' 2);exact cr (aK E J eD rfl (i:=1) rfl (GS.elem (a1.mono (Z0 a2 M')) g5)) J λ_ h=>h}
 {exact cmv λ_ _=>rfl}
 {exact cmv λ_ _=>⟨rfl,c2⟩}
 {refine cp0 λ_ _ _ _ _ _ _ _ _ J Z T'=>?_;have E:=Z.add (T' 5).1;exact cq (a7 E rfl rfl (iV rfl)) J ⟨rfl,(aA _ _)⟩}
 {refine cp1 λ_ _ _ _ _ M' Q' J Z T'=>?_;obtain⟨rfl,rfl⟩:=Q';have E:=(Z.add (T' 4)).add (T' 6).1;exact cq (mO (k:=kAp) E rfl rfl underlying22 sizeOf32 (a1.mono (Z0 a2 M')) g2 rfl) J rfl}
 {refine cp1 λ_ _ _ _ _ M' Q' J Z T'=>?_;obtain⟨rfl,rfl⟩:=Q';have E:=Z.add (T' 7);exact cr (aK E J eD rfl (i:=1) rfl (GS.elem (a1.mono (Z0 a2 M')) n0)) J λ_ h=>h}}
 {
 intro l1 L_ T_ e8 a w j5 b7 k5 hS f6 k0 k3 f4;obtain rfl:=eH j5;obtain⟨rfl,rfl⟩:=k5;have E:=eof 9 [(0,v0),(3,.int .i64 a0),(10,.int .i64 a0),(11,v0),(12,.int .i64 (p0.length:Int)),(13,.bool (decide (a0<(p0.length:Int))))] f6 k0 k3;obtain⟨p2,E,g0⟩:=adv E (f4 3);obtain⟨p4,E,h2⟩:=adv E (f4 8);refine sp E (w8 E zP rfl rfl g0 h2 rfl) rfl λa E=>ae (kif E rfl (λc4=>?_) (λc4=>?_))
 {
 have h:=aF c4 h;refine ab (ak (qM E rfl λa E=>qM E rfl λa E=>?_));obtain⟨c1,f9,h⟩:=ob h;refine st E (vB (k:=kAp) E rfl underlying22 sizeOf32 (a1.mono (Z0 a2 b7)) ⟨_,rfl⟩ rfl f9 (sz:=4) rfl (xl:=(some (.tmp 27))) (xh:=none)) rfl ?_;rintro a4 a _ ⟨rfl,b4⟩ E;refine qA E rfl λa E=>ae (ab (ab (ak (qA E rfl λa E=>ae ?_))));refine cj (λa w=>∃b6:Int,∃c3:(List Ap),fT b6 c3=some r18/\∃m',M.le e8 m'/\∃(e3:List Value),inR .i64 b6/\GS kAp m' W e3 v0 c3/\S W0 m' w ((0,[])::(W,e3)::L) (TL)/\Env 61 a [(0,v0),(3,.int .i64 b6)]) ?_ ?_
 {
 refine bd ?_;refine eG h (λ(s:Int×Int×List Ap) a w=>∃m',M.le e8 m'/\∃(a9:List Value),inR .i64 s.1/\inR .i64 s.2.1/\GS kAp m' W a9 v0 s.2.2/\S W0 m' w ((0,[])::(W,a9)::L) (TL)/\Env 61 a [(0,v0),(3,.int .i64 s.1),(4,a4),(5,.int .i64 s.2.1)]) ?_ ?_
 {exact⟨_,(Z2 _),a3,c2,(show inR .i64 1 from au (by decide)),(a1.mono (Z0 a2 b7)),hS,kut E⟩}
 {
 rintro ⟨b2,x128,b5⟩ a w ⟨k6,e4,a9,e9,e6,a6,hS,E⟩ r133 h hb134;have h:fU c1 b2 x128 b5=some r133:=h;unfold fU at h;refine ab (ab (ak (qM E rfl λa E=>qM E rfl λa E=>?_)));obtain⟨n2,n6,h⟩:=ob h;refine sp E (NS (sz:=4) E rfl rfl underlying22 b4) rfl λa E=>qB E rfl rfl cl λa E=>ae (kif E rfl (λc6=>?_) (λc6=>?_))
 {
 have h:=aF c6 h;refine aV (ab (bd (ab ?_)));obtain⟨k4,m1,h7,j1,h⟩:=ob2 h;obtain⟨i2,h0,g7,h4,h⟩:=ob2 h
 refine kch (k:=9) (m:=k6) (es:=[]) (Φ:=(λi m ws v=>match i with|0=>v=a4|1=>ei .i64 x128 v|2=>v=(.pointer (some ⟨W,k4*4,none⟩))|3=>RV kAp m v h7|4=>v=a4|5=>ei .i64 x128 v|6=>ei .i64 (Z3.wrap (x128 - 1)) v|7=>v=(.pointer (some ⟨W,i2*4,none⟩))|8=>RV kAp m v g7|_=>True)) (Q:=(λc m ws L' d2=>match c with|0=>(0,[])::(W,a9)::L=L'/\TL=d2|_=>False)) (cs:=[CQ [(4,a4)],CQ [(5,.int .i64 x128)],CQ [],CQ [],CQ [(4,a4)],CQ [(5,.int .i64 x128)],CQ [],CQ [],CQ []]) mixed E hS ⟨rfl,rfl⟩ rfl rfl (by kernel_rfl) ?_ ?_ ?_ ?_
 {
 intro i m_ c5 ws v n_ q_
 iterate 9 (rcases i with _|i;first|exact q_|exact RV.mono q_ n_)
 exact trivial}
 {
 intro c m_ c5 ws L_ T_ n_ a5
 match c,a5 with
 |0,⟨d1,d0⟩=>exact⟨d1,d0⟩
 |_+1,a5=>exact a5.elim}
 {
 refine⟨?_,?_,?_,?_,?_,?_,?_,?_,?_,trivial⟩
 {exact cmv λ_ _=>rfl}
 {exact cmv λ_ _=>⟨rfl,e6⟩}
 {refine cp0 λ_ _ _ _ _ _ _ _ _ J Z T'=>?_;have E:=(Z.add (T' 0)).add (T' 1).1;exact cq (zi (sz:=4) E rfl rfl underlying22 sizeOf32 b4 m1) J rfl}
 {refine cp1 λ_ _ _ _ _ M' Q' J Z T'=>?_;obtain⟨rfl,rfl⟩:=Q';have E:=Z.add (T' 2);exact cr (aK E J eD rfl (i:=1) rfl (GS.elem (a6.mono M') j1)) J λ_ h=>h}
 {exact cmv λ_ _=>rfl}
 {exact cmv λ_ _=>⟨rfl,e6⟩}
 {refine cp0 λ_ _ _ _ _ _ _ _ _ J Z T'=>?_;have E:=Z.add (T' 5).1;exact cq (a7 E rfl rfl (iV rfl)) J ⟨rfl,(aA _ _)⟩}
 {refine cp0 λ_ _ _ _ _ _ _ _ _ J Z T'=>?_;have E:=(Z.add (T' 4)).add (T' 6).1;exact cq (zi (sz:=4) E rfl rfl underlying22 sizeOf32 b4 h0) J rfl}
 {refine cp1 λ_ _ _ _ _ M' Q' J Z T'=>?_;obtain⟨rfl,rfl⟩:=Q';have E:=Z.add (T' 7);exact cr (aK E J eD rfl (i:=1) rfl (GS.elem (a6.mono M') h4)) J λ_ h=>h}}
 {
 intro l1 L_ T_ i4 a w i5 b1 i8 hS m6 j3 f5 f0;obtain rfl:=eH i5;obtain⟨rfl,rfl⟩:=i8;have E:=eof 9 [(0,v0),(3,.int .i64 b2),(4,a4),(5,.int .i64 x128),(29,.int .i64 x128),(30,a4),(31,.int .i64 (c1.2:Int)),(32,.bool (decide (x128<(c1.2:Int))))] m6 j3 f5;obtain⟨p6,E,g9⟩:=adv E (f0 3);obtain⟨p7,E,m2⟩:=adv E (f0 8);refine sp E (w9 E zP rfl rfl g9 m2 rfl) rfl λa E=>ae ?_
 refine cj (λa w=>∃b0:Int,∃c0:(List Ap),dA x128 b0 c0=some r133/\∃m',M.le i4 m'/\∃(b3:List Value),inR .i64 b0/\GS kAp m' W b3 v0 c0/\S W0 m' w ((0,[])::(W,b3)::L) (TL)/\Env 61 a [(0,v0),(3,.int .i64 b0),(4,a4),(5,.int .i64 x128)]) ?_ ?_
 {
 refine kif E rfl (λe1=>?_) (λe1=>?_)
 {
 have h:=aF e1 h;refine ab (ak (qM E rfl λa E=>qM E rfl λa E=>qM E rfl λa E=>qM E rfl λa E=>?_));obtain⟨n1,m8,h⟩:=ob h;refine sp E (zi (sz:=4) E rfl rfl underlying22 sizeOf32 b4 m8) rfl λa E=>?_;obtain⟨h5,h8,h⟩:=ob h;refine st E (aK E hS eD rfl (i:=1) rfl (GS.elem (a6.mono b1) h8)) rfl ?_;rintro o3 a _ ⟨rfl,m5⟩ E;obtain⟨h6,g1,h⟩:=ob h;refine sp E (mO (k:=kAp) E rfl rfl underlying22 sizeOf32 (a6.mono b1) g1 rfl) rfl λa E=>?_;obtain⟨p8,l2,h⟩:=ob h
 refine st0 E (tJ (k:=kAp) E hS eD bW (a6.mono b1) l2 rfl rfl m5 (i:=1) rfl) ?_;rintro _ w ⟨i1,j4,hS⟩ E;refine ae (ak (qM E rfl λa E=>qB E rfl rfl (br rfl) λa E=>qA E rfl λa E=>ae ?_));exact⟨(Z3.wrap (b2+1)),(b5.set h6 h5),h,_,(Z2 _),i1,(aA _ _),j4,hS,kut E⟩}
 {have h:=aG e1 h;refine aV ?_;exact⟨b2,b5,h,_,(Z2 _),a9,e9,(a6.mono b1),hS,kut E⟩}}
 {rintro a w ⟨b0,c0,h,o1,g8,b3,h3,m4,hS,E⟩;unfold dA at h;refine ak (qM E rfl λa E=>qB E rfl rfl (br rfl) λa E=>qA E rfl λa E=>ae ?_);exact⟨(b0,Z3.wrap (x128+1),c0),(Option.some.inj h).symm,_,(Z0 e4 (Z0 b1 g8)),b3,h3,(aA _ _),m4,hS,kut E⟩}}}
 {have h:=aG c6 h;refine d4 rfl rfl ?_;have h:=bY h hb134;exact⟨b2,b5,h,_,e4,a9,e9,a6,hS,kut E⟩}}}
 {
 rintro a w ⟨b6,c3,h,p5,k7,e3,q0,f3,hS,E⟩;unfold fT at h;refine ab (ak (qM E rfl λa E=>qM E rfl λa E=>?_));obtain⟨q1,h9,h⟩:=ob h;refine st E (vB (k:=kAp) E rfl underlying22 sizeOf32 f3 ⟨_,rfl⟩ rfl h9 (sz:=4) rfl (xl:=(some (.tmp 55))) (xh:=none)) rfl ?_;rintro o2 a _ ⟨rfl,i0⟩ E;obtain⟨o0,i3,h⟩:=ob h;refine st0 E (HO (k:=kAp) E hS rfl rfl underlying22 zeroValue32 (λm=>tz m) (i:=1) rfl f3 i0 i3) ?_;rintro _ w ⟨l4,g6,hS⟩ E;refine ae (ab (ak (qM E rfl λa E=>qM E rfl λa E=>?_)));obtain⟨p3,m7,h⟩:=ob h
 refine st E (HN (k:=kAp) E rfl underlying22 sizeOf32 g6 rfl m7) rfl ?_;rintro n4 a _ ⟨rfl,l3⟩ E;refine qA E rfl λa E=>ae (bD ?_);have h:=bY h hb19;obtain rfl:=oi h
 try dsimp only
 refine f1 E ?_;exact⟨_,(Z0 a2 (Z0 b7 k7)),W,l4,(hS.pickL 2 [1] rfl rfl rfl),l3⟩}}
 {have h:=aG c4 h;refine aV ?_;exact⟨h,_,b7,hS,kut E⟩}}}
 {rintro a w ⟨h,n3,j0,hS,E⟩;unfold fS at h;refine ak (qM E rfl λa E=>qB E rfl rfl (br rfl) λa E=>qA E rfl λa E=>ae ?_);exact⟨Z3.wrap (a0+1),(Option.some.inj h).symm,_,(Z0 a2 j0),(aA _ _),hS,kut E⟩}}
 {have h:=aG e0 h;refine d4 rfl rfl ?_;have h:=bY h hb19;exact⟨h,_,a2,hS,kut E⟩}}}
 {
 rintro a w ⟨h,m9,e5,hS,E⟩;unfold fR at h;refine ab (ak (qM E rfl λa E=>qA E rfl λa E=>ae (bD ?_)));obtain rfl:=oi h
 try dsimp only
 refine f1 E ?_;exact⟨_,e5,W,a3,(hS.pickL 2 [1] rfl rfl rfl),(a1.mono e5)⟩}}
theorem uR (hS:S W0 m w L TL) {p0}(W:RV (kSl kAp) m v0 p0) {r}(h:iW p0=some r):
    Calls prog 92 #[v0] w (Ret λv w'=>∃m',M.le m m'/\∃bq_:Nat,∃cq_:List Value,S W0 m' w' ((bq_,cq_)::L) (TL)/\GS kAp m' bq_ cq_ v r):=by
 refine kc func92 ntmps92 λa E=>?_;have E:Env 8 a [(0,v0)]:=E;unfold iW at h;refine ab (ak (qA E rfl λa E=>ae (ab (ab (ak (qM E rfl λa E=>?_))))));refine st E (zk (k:=kAp) E rfl rfl W underlying22) rfl ?_;rintro v5 a _ ⟨rfl,b1,rfl,a5⟩ E;refine ae (kif E rfl (λJ=>?_) (λJ=>?_))
 {
 have a0:=a5 J;have h:some ([]:List Ap)=some r:=by rw[a0] at h;exact h
 refine ab (ak (qA E rfl λa E=>ae (bD ?_)));obtain rfl:=oi h
 try dsimp only
 refine f1 E ?_;exact⟨_,(Z2 _),0,[],(((hS.void 0).void 0).pickL 2 [0] rfl rfl rfl),GS.void⟩}
 {
 refine aV (ab (ak ?_));refine st E (Mm (k:=kAp) (m:=m) (xs:=[]) (vs:=[]) E (hS.void 0) rfl underlying22 sizeOf32 zeroValue32 trivial rfl (by decide)) rfl ?_;rintro b2 a w ⟨a6,b3,a2,hS⟩ E;refine qM E rfl λa E=>?_;obtain⟨a9,a4,h⟩:=ob h;refine st E (Bn (k:=kAp) (N:=3518437208883) E hS rfl rfl underlying22 B4 (i:=0) rfl a2 (z6 hS underlying22 W) a4 rfl rfl) rfl ?_;rintro b0 a w ⟨a3,a1,Z,hS⟩ E;refine qA E rfl λa E=>ae (bD ?_);obtain rfl:=oi h
 try dsimp only
 refine f1 E ?_;exact⟨_,(Z2 _),a3,a1,(hS.pickL 2 [0] rfl rfl rfl),Z⟩}
theorem Fm {m0:M}:Fn2 prog kAp kAp (ag .i64) m0 (.func (.func 109) #[] #[]) cD:=by
  refine⟨109,_,rfl,call109,?_⟩;intro W0 m w L TL v0 v1 x0 x1 r hm hS W J hr;refine(Bb (hS:=hS) W J hr).mono ?_;intro e w' h;cases e with
  |returned v=>obtain⟨m',J,Z,h3⟩:=h;exact⟨m',J,Z,h3⟩
  |panicked ch=>exact h.elim
  |outgrown=>exact h.elim
theorem Dc (hS:S W0 m w L TL) {p0}(b1:RV (kSl kAp) m v0 p0) {r}(h:oD p0=some r):
    Calls prog 105 #[v0] w (Ret λv w'=>∃m',M.le m m'/\S W0 m' w' L ((1,v)::TL)/\RV (kSl (ag .u8)) m' v r):=by
 refine kc func105 ntmps105 λa E=>?_;have E:Env 54 a [(0,v0)]:=E;unfold oD at h;refine ab (ak (qA E rfl λa E=>ae (ab (ak (qM E rfl λa E=>?_)))));obtain⟨r3,f0,h⟩:=ob h;refine st E (aL (vs:=[v0]) E rfl call92 (uR (hS:=hS) b1 f0)) rfl ?_;rintro c5 a w ⟨m5,b4,b7,q0,hS,g3⟩ E;refine qA E rfl λa E=>ae (ab (ak (qM E rfl λa E=>?_)));obtain⟨n4,h9,h⟩:=ob h;refine st E (aL (vs:=[c5,(.func (.func 109) #[] #[])]) E rfl call148 (tG (hS:=hS) g3 (Fm (m0:=m5)) h9)) rfl ?_;rintro q2 a w ⟨q3,b5,q4,hS,j0⟩ E;refine ae (ab (ak (qM E rfl λa E=>?_)))
 obtain⟨J,g4,h⟩:=ob h;refine st E (aL (vs:=[c5]) E rfl call149 (tD (hS:=hS) j0 g4)) rfl ?_;rintro a0 a w ⟨r2,c1,n3,p3,hS,i2⟩ E;refine qA E rfl λa E=>ae (ab ?_);obtain⟨m4,c0,hS,a2⟩:=S.freeze hS i2;refine ak (qM E rfl λa E=>sp E (bh (k:=kAp) E rfl rfl underlying22 a2) rfl λa E=>sp E (dw E rfl underlying3 underlying5 rfl) rfl λa E=>?_);refine st E (f8 (k:=(ag .u8)) (xs:=[Z6.wrap (J.length:Int)]) (vs:=[(.int .u8 (Z6.wrap (J.length:Int)))]) E hS rfl underlying24 sizeOf5 zeroValue5 ⟨(aq (aA _ _)),trivial⟩ rfl (by decide)) rfl ?_
 rintro f6 a w ⟨c7,Z,hS,j1⟩ E;refine qA E rfl λa E=>ae (ab (ab (ak (qM E rfl λa E=>sp E (bh (k:=kAp) E rfl rfl underlying22 (a2.mono Z)) rfl λa E=>qM E rfl λa E=>ae ?_))));refine cj (λa w=>∃a5:(List Int),nE p0 J a5=some r/\∃m',M.le c7 m'/\∃(W:Value),RV (kSl (ag .u8)) m' W a5/\S W0 m' w L ((1,W)::TL)/\Env 54 a [(0,v0),(3,a0),(4,W)]) ?_ ?_
 {
 refine bd ?_;refine eG h (λ(s:List Int×Int) a w=>∃m',M.le c7 m'/\∃(a4:Value),RV (kSl (ag .u8)) m' a4 s.1/\inR .i64 s.2/\S W0 m' w L ((1,a4)::TL)/\Env 54 a [(0,v0),(3,a0),(4,a4),(20,a0),(21,.int .i64 (J.length:Int)),(22,.int .i64 s.2)]) ?_ ?_
 {exact⟨_,(Z2 _),f6,j1,(show inR .i64 0 from au (by decide)),hS,kut E⟩}
 {
 rintro ⟨c6,e6⟩ a w ⟨l2,c2,a4,d0,l1,hS,E⟩ r142 h hb143;have h:kX p0 J c6 e6=some r142:=h;unfold kX at h;refine ab (ak (qB E rfl rfl cl λa E=>ae (ab (kif E rfl (λb0=>?_) (λb0=>?_)))))
 {
 have h:=aF b0 h;refine aV (ab (bd (ab (ak ?_))));obtain⟨n6,f9,h⟩:=ob h;refine st E (bn (k:=kAp) E rfl rfl underlying22 sizeOf32 (a2.mono (Z0 Z c2)) f9) rfl ?_;rintro l4 a _ ⟨rfl,k5⟩ E;refine st E (aO E hS eD rfl k5) rfl ?_;rintro o3 a _ ⟨rfl,i4⟩ E;refine st E (dv hS zeroValue32 rfl (cs:=xZ)) rfl ?_;rintro _ a w ⟨p2,rfl,hS⟩ E;refine st0 E (dh E hS eD bW rfl rfl i4 (i:=0) rfl (tz _)) ?_;rintro _ w ⟨m3,g7,hS⟩ E;refine ae (ak (qM E rfl λa E=>?_));refine st E (aK E hS eD rfl (i:=0) rfl (az g7)) rfl ?_;rintro j2 a _ ⟨rfl,i8⟩ E
 obtain⟨q6,g6,h⟩:=ob h;refine st E (aL (vs:=[j2]) E rfl call107 (ye (hS:=hS) i8 g6)) rfl ?_;rintro k7 a w ⟨n2,e5,hS,h3⟩ E;obtain⟨j3,k0,h⟩:=ob h;refine st E (fF (k:=(ag .u8)) (N:=140737488355328) E hS rfl rfl underlying24 underlying24 el5 (i:=0) rfl (d0.mono e5) h3 k0 rfl rfl) rfl ?_;rintro f5 a w ⟨q1,k4,hS,g8⟩ E;refine qA E rfl λa E=>ae (ak (qB E rfl rfl (br rfl) λa E=>qM E rfl λa E=>ae ?_));exact⟨(j3,Z3.wrap (e6+1)),(Option.some.inj h).symm,_,(Z0 c2 (Z0 e5 k4)),f5,g8,(aA _ _),(hS.pickL 1 [] rfl rfl rfl),kut E⟩}
 {have h:=aG b0 h;refine d4 rfl rfl ?_;have h:=bY h hb143;exact⟨c6,h,_,c2,a4,d0,hS,kut E⟩}}}
 {
 rintro a w ⟨a5,h,d1,a1,W,h8,hS,E⟩;unfold nE at h;refine ab (ak (qA E rfl λa E=>ae (ab (ab (ak (qM E rfl λa E=>sp E (bh (k:=kAp) E rfl rfl underlying22 (b1.mono (Z0 b4 (Z0 b5 (Z0 c1 (Z0 c0 (Z0 Z a1))))))) rfl λa E=>qM E rfl λa E=>?_))))));refine ae ?_;refine cj (λa w=>∃c3:(List Int),nD J a5 c3=some r/\∃m',M.le d1 m'/\∃(a6:Value),RV (kSl (ag .u64)) m' a6 c3/\S W0 m' w L ((1,a6)::(1,W)::TL)/\Env 54 a [(3,a0),(4,W),(7,a6)]) ?_ ?_
 {
 refine bd ?_;refine eG h (λ(s:List Int×Int) a w=>∃m',M.le d1 m'/\∃(a3:Value),RV (kSl (ag .u64)) m' a3 s.1/\inR .i64 s.2/\S W0 m' w L ((1,a3)::(1,W)::TL)/\Env 54 a [(3,a0),(4,W),(7,a3),(31,v0),(32,.int .i64 (p0.length:Int)),(33,.int .i64 s.2)]) ?_ ?_
 {exact⟨_,(Z2 _),(.slice none 0 0),cT,(show inR .i64 0 from au (by decide)),(hS.tail0 1),kut E⟩}
 {
 rintro ⟨e4,e1⟩ a w ⟨p4,a9,a3,d2,q7,hS,E⟩ r95 h hb96;have h:jj p0 J a5 e4 e1=some r95:=h;unfold jj at h;refine ab (ak (qB E rfl rfl cl λa E=>ae (ab (kif E rfl (λb3=>?_) (λb3=>?_)))))
 {
 have h:=aF b3 h;refine aV (ab (bd (ab (ak ?_))));obtain⟨m6,e8,h⟩:=ob h;refine st E (bn (k:=kAp) E rfl rfl underlying22 sizeOf32 (b1.mono (Z0 b4 (Z0 b5 (Z0 c1 (Z0 c0 (Z0 Z (Z0 a1 a9))))))) e8) rfl ?_;rintro p8 a _ ⟨rfl,j4⟩ E;refine st E (aO E hS eD rfl j4) rfl ?_;rintro m9 a _ ⟨rfl,g2⟩ E;refine st E (dv hS zeroValue32 rfl (cs:=xZ)) rfl ?_;rintro _ a w ⟨q5,rfl,hS⟩ E;refine st0 E (dh E hS eD bW rfl rfl g2 (i:=0) rfl (tz _)) ?_;rintro _ w ⟨o0,h5,hS⟩ E;refine ae (ak (qM E rfl λa E=>qM E rfl λa E=>?_))
 refine st E (aK E hS eD rfl (i:=0) rfl (az h5)) rfl ?_;rintro i3 a _ ⟨rfl,i1⟩ E;obtain⟨e7,g1,h⟩:=ob h;refine st E (aL (vs:=[a0,i3]) E rfl call150 (wD (hS:=hS) (a2.mono (Z0 Z (Z0 a1 a9))) i1 g1)) rfl ?_;rintro l3 a w ⟨r4,e0,hS,g0⟩ E;obtain⟨rfl,m2⟩:=aJ g0;refine sp E (dw E rfl underlying3 underlying54 rfl) rfl λa E=>?_;refine st E (f8 (k:=(ag .u64)) (xs:=[Z5.wrap e7]) (vs:=[(.int .u64 (Z5.wrap e7))]) E hS rfl underlying189 sizeOf54 zeroValue54 ⟨(aq (aA _ _)),trivial⟩ rfl (by decide)) rfl ?_;rintro o2 a w ⟨m1,c4,hS,j5⟩ E
 obtain⟨h1,f4,h⟩:=ob h;refine st E (fF (k:=(ag .u64)) (N:=17592186044416) E hS rfl rfl underlying189 underlying189 Pq (i:=1) rfl (d2.mono (Z0 e0 c4)) j5 f4 rfl rfl) rfl ?_;rintro i5 a w ⟨m8,h4,hS,e9⟩ E;refine qA E rfl λa E=>ae (ak (qB E rfl rfl (br rfl) λa E=>qM E rfl λa E=>ae ?_));exact⟨(h1,Z3.wrap (e1+1)),(Option.some.inj h).symm,_,(Z0 a9 (Z0 e0 (Z0 c4 h4))),i5,e9,(aA _ _),((hS.pickL 1 [] rfl rfl rfl).pickT 3 [1,2] rfl rfl rfl),kut E⟩}
 {have h:=aG b3 h;refine d4 rfl rfl ?_;have h:=bY h hb96;exact⟨e4,h,_,a9,a3,d2,hS,kut E⟩}}}
 {
 rintro a w ⟨c3,h,m7,b6,a6,h6,hS,E⟩;unfold nD at h;refine ab (ak (qM E rfl λa E=>qM E rfl λa E=>qM E rfl λa E=>sp E (bh (k:=kAp) E rfl rfl underlying22 (a2.mono (Z0 Z (Z0 a1 b6)))) rfl λa E=>qB E rfl rfl (iV rfl) λa E=>sp E (dw E rfl underlying3 underlying94 rfl) rfl λa E=>?_));obtain⟨k3,g9,h⟩:=ob h;refine st E (aL (vs:=[(.int .u64 (Z5.wrap (Z3.wrap ((J.length:Int) - 1))))]) E rfl call152 (HA (hS:=hS) (aA _ _) g9)) rfl ?_;rintro p6 a w ⟨r0,b2,hS,g5⟩ E;obtain⟨rfl,h7⟩:=aJ g5;obtain⟨p5,k6,h⟩:=ob h
 refine st E (aL (vs:=[a6,(.int .i64 k3)]) E rfl call151 (Bd (hS:=hS) (h6.mono b2) h7 k6)) rfl ?_;rintro r1 a w ⟨p7,e3,hS,i0⟩ E;obtain⟨o1,h0,h⟩:=ob h;refine st E (fF (k:=(ag .u8)) (N:=140737488355328) E hS rfl rfl underlying24 underlying24 el5 (i:=1) rfl (h8.mono (Z0 b6 (Z0 b2 e3))) i0 h0 rfl rfl) rfl ?_;rintro n0 a w ⟨n1,h2,hS,f3⟩ E;refine qA E rfl λa E=>ae (bD ?_);obtain rfl:=oi h
 try dsimp only
 refine f1 E ?_;exact⟨_,(Z0 b4 (Z0 b5 (Z0 c1 (Z0 c0 (Z0 Z (Z0 a1 (Z0 b6 (Z0 b2 (Z0 e3 h2))))))))),(hS.pickT 2 [1] rfl rfl rfl),f3⟩}}
theorem Rk:Ctr Sz prog 153 [.rd (.sl (.int .i64))] [.rd (.int .i64)] (λx=>lz x.1):=
 ncR [] [2] func153 ntmps153 (.s .o (.s .o (.s .o (.s (.s .o (.b (.l ⟨[.v 3 1 (.dat (.int .i64) none),.v 4 1 (.dat (.int .i64) none)],[0],0,[]⟩ .o))) .o)))) λx=>by kernel_rfl
def Rn:=mC Rk call153
theorem Ro:Ctr Sz prog 106 [.rd (.sl (.int .i64))] [.ap (.int .u8)] (λx=>mS x.1):=
 ncR [Jt,Rj,Rn,Ju] [2] func106 ntmps106 (.s .o (.s .o (.s .o (.s .o (.s (.s .o (.b (.l ⟨[.v 4 1 (.dat (.sl (.int .u64)) (some 0)),.v 5 1 (.dat (.int .i64) none),.v 13 1 (.dat (.int .i64) none)],[3,11,12],0,[1]⟩ .o))) .o))))) λx=>by kernel_rfl
theorem B9 (hS:S W0 m w L TL) {p0}(Z:RV (kSl (ag .i64)) m v0 p0) {r}(h:mS p0=some r):
    Calls prog 106 #[v0] w (Ret λv w'=>∃m',M.le m m'/\S W0 m' w' L ((1,v)::TL)/\RV (kSl (ag .u8)) m' v r):=by
 refine rm (Ro W0 m w L TL [v0] (p0,()) r [] [] hS ⟨Z,trivial⟩ h) λv w' W=>?_;obtain⟨m',us,Lr,Lq,Tr,hm,Z',rfl,hR,hO⟩:=W;obtain⟨u0,us,Tr,rfl,rfl,r0,J⟩:=vK hR;obtain⟨rfl,rfl,rfl⟩:=b9 J;have a0:=bp hO;obtain rfl:=cc a0;exact⟨m',hm,Z',r0⟩
theorem Rp {m0:M}:Fn1 prog kAp cL m0 (.func (.func 100) #[] #[]) fd:=by
  refine⟨100,_,rfl,call100,?_⟩;intro W0 m w L TL v0 x0 r hm hS J hr;refine(yN (hS:=hS) J hr).mono ?_;intro e w' h;cases e with
  |returned v=>obtain⟨m',W,Z,h3⟩:=h;exact⟨m',W,Z,h3⟩
  |panicked ch=>exact h.elim
  |outgrown=>exact h.elim
theorem Be (hS:S W0 m w L TL) {p0}(i0:inR .i64 p0) {p1}(a1:RV (kSl kAp) m v1 p1) {r}(h:fu p0 p1=some r):
    Calls prog 47 #[(.int .i64 p0),v1] w (Ret λv w'=>∃m',M.le m m'/\S W0 m' w' L TL/\∃v0_ v1_:Value,v= .tuple #[v0_,v1_]/\RV (kSl (ag .u8)) m' v0_ r.1/\RV (ag .i64) m' v1_ r.2):=by
 refine kc func47 ntmps47 λa E=>?_;have E:Env 69 a [(0,.int .i64 p0),(1,v1)]:=E;unfold fu at h;refine ab (ak (qA E rfl λa E=>qA E rfl λa E=>ae (ab (ab ?_))));refine cj (λa w=>∃x5:Bool,gV p0 p1 x5=some r/\∃m',M.le m m'/\S W0 m' w L TL/\Env 69 a [(0,.int .i64 p0),(1,v1),(16,.bool x5)]) ?_ ?_
 {
 refine ak (qM E rfl λa E=>qB E rfl rfl cl λa E=>qM E rfl λa E=>?_);rcases Z1 (decide (p0<0)) with hd174|hd174
 {have h:=aF hd174 h;refine qX E hd174 λa E=>qX E hd174 λa E=>qT E hd174 rfl λa E=>ae ?_;exact⟨true,h,_,(Z2 _),hS,kut E⟩}
 {have h:=aG hd174 h;refine qG E hd174 rfl λa E=>spg E rfl rfl rfl rfl hd174 (a7 E rfl rfl kL) rfl λa E=>qF E hd174 rfl λa E=>ae ?_;exact⟨(decide (4<p0)),h,_,(Z2 _),hS,kut E⟩}}
 {
 rintro a w ⟨x5,h,m3,J,hS,E⟩;unfold gV at h;refine kif E rfl (λa6=>?_) (λa6=>?_)
 {
 have h:=aF a6 h;refine ab (ak (qA E rfl λa E=>qA E rfl λa E=>ae (bD ?_)));obtain rfl:=oi h
 try dsimp only
 refine f2 E ?_;exact⟨_,J,hS,_,_,rfl,cT,(aq (show inR .i64 62 from au (by decide)))⟩}
 {
 have h:=aG a6 h;refine aV (ab (ab (ak (qM E rfl λa E=>sp E (bh (k:=kAp) E rfl rfl underlying22 (a1.mono J)) rfl λa E=>qB E rfl rfl kL λa E=>ae (kif E rfl (λb7=>?_) (λb7=>?_))))))
 {
 have h:=aF b7 h;refine ab (ak (qA E rfl λa E=>qA E rfl λa E=>ae (bD ?_)));obtain rfl:=oi h
 try dsimp only
 refine f2 E ?_;exact⟨_,J,hS,_,_,rfl,cT,(aq (show inR .i64 61 from au (by decide)))⟩}
 {
 have h:=aG b7 h;refine aV (ab (ab (ak (qM E rfl λa E=>?_))));obtain⟨k0,g9,h⟩:=ob h;refine st E (aL (vs:=[v1,(.func (.func 100) #[] #[])]) E rfl call99 (rE (hS:=hS) (a1.mono J) (Rp (m0:=m3)) g9)) rfl ?_;rintro l1 a w ⟨k6,Z,hS,d2⟩ E;obtain rfl:=eS d2;refine ae (kif E rfl (λb2=>?_) (λb2=>?_))
 {
 have h:=aF b2 h;refine ab (ak (qA E rfl λa E=>qA E rfl λa E=>ae (bD ?_)));obtain rfl:=oi h
 try dsimp only
 refine f2 E ?_;exact⟨_,(Z0 J Z),hS,_,_,rfl,cT,(aq (show inR .i64 60 from au (by decide)))⟩}
 {
 have h:=aG b2 h;refine aV (ab (ak (qM E rfl λa E=>?_)));obtain⟨c7,g6,h⟩:=ob h;refine st E (aL (vs:=[v1]) E rfl call102 (C9 (hS:=hS) (a1.mono (Z0 J Z)) g6)) rfl ?_;rintro _ a w ⟨e4,a0,hS,b3,j4,rfl,c6,f4⟩ E;obtain rfl:=eS f4;refine qM E rfl λa E=>sp E (ct E rfl rfl) rfl λa E=>sp E (ct E rfl rfl) rfl λa E=>qA E rfl λa E=>qA E rfl λa E=>ae (ab (ab ?_));refine cj (λa w=>∃a4:Bool,eJ p0 p1 c7 a4=some r/\∃m',M.le e4 m'/\S W0 m' w L TL/\Env 69 a [(0,.int .i64 p0),(1,v1),(6,b3),(36,.bool a4)]) ?_ ?_
 {
 refine ak (qM E rfl λa E=>sp E (ln E rfl) rfl λa E=>qM E rfl λa E=>?_);rcases Z1 (!c7.2) with hd159|hd159
 {
 have h:=aF hd159 h;refine qG E hd159 rfl λa E=>spg E rfl rfl rfl rfl hd159 (a7 E rfl rfl jW) rfl λa E=>qG E hd159 rfl λa E=>?_;rcases Z1 (p0==2) with hd163|hd163
 {have h:=aF hd163 h;refine qX E hd163 λa E=>qX E hd163 λa E=>spg E rfl rfl rfl rfl hd159 (uV E rfl hd163 rfl) rfl λa E=>qT E hd159 rfl λa E=>ae ?_;exact⟨true,h,_,(Z2 _),hS,kut E⟩}
 {have h:=aG hd163 h;refine qG E hd163 rfl λa E=>spg E rfl rfl rfl rfl hd163 (a7 E rfl rfl jW) rfl λa E=>spg E rfl rfl rfl rfl hd159 (uW E rfl hd163 rfl) rfl λa E=>qT E hd159 rfl λa E=>ae ?_;exact⟨(p0==4),h,_,(Z2 _),hS,kut E⟩}}
 {have h:=aG hd159 h;refine qX E hd159 λa E=>qX E hd159 λa E=>qX E hd159 λa E=>sxu E rfl rfl rfl rfl λa E=>sxu E rfl rfl rfl rfl λa E=>qX E hd159 λa E=>qF E hd159 rfl λa E=>ae ?_;exact⟨false,h,_,(Z2 _),hS,kut E⟩}}
 {
 rintro a w ⟨a4,h,c4,W,hS,E⟩;unfold eJ at h;refine kif E rfl (λc0=>?_) (λc0=>?_)
 {
 have h:=aF c0 h;refine ab (ak (qA E rfl λa E=>qA E rfl λa E=>ae (bD ?_)));obtain rfl:=oi h
 try dsimp only
 refine f2 E ?_;exact⟨_,(Z0 J (Z0 Z (Z0 a0 W))),hS,_,_,rfl,cT,(aq (show inR .i64 62 from au (by decide)))⟩}
 {
 have h:=aG c0 h;refine aV (ab (ab (ak (qM E rfl λa E=>sp E (bh (k:=kAp) E rfl rfl underlying22 (a1.mono (Z0 J (Z0 Z (Z0 a0 W))))) rfl λa E=>qB E rfl rfl jW λa E=>ae (kif E rfl (λb1=>?_) (λb1=>?_))))))
 {
 have h:=aF b1 h;refine ab (ak (qA E rfl λa E=>qA E rfl λa E=>ae (bD ?_)));obtain rfl:=oi h
 try dsimp only
 refine f2 E ?_;exact⟨_,(Z0 J (Z0 Z (Z0 a0 W))),hS,_,_,rfl,cT,(aq (show inR .i64 0 from au (by decide)))⟩}
 {
 have h:=aG b1 h;refine aV (ab (ab (ak (qM E rfl λa E=>ae (bd (ab (ak (qB E rfl rfl jW λa E=>?_))))))));refine qA E rfl λa E=>ae (kif E rfl (λc1=>?_) (λc1=>?_))
 {
 have h:=aF c1 h;refine ab (ak (qM E rfl λa E=>?_));obtain⟨l4,g0,h⟩:=ob h;refine st E (aL (vs:=[v1]) E rfl call103 (Db (hS:=hS) (a1.mono (Z0 J (Z0 Z (Z0 a0 W)))) g0)) rfl ?_;rintro h9 a w ⟨i1,g8,hS,h0⟩ E;refine qA E rfl λa E=>qA E rfl λa E=>ae (bD ?_);obtain rfl:=oi h
 try dsimp only
 refine f2 E ?_;exact⟨_,(Z0 J (Z0 Z (Z0 a0 (Z0 W g8)))),(hS.dropT 1),_,_,rfl,h0,(aq (show inR .i64 0 from au (by decide)))⟩}
 {
 have h:=aG c1 h;refine ab (ak (qB E rfl rfl jW λa E=>qA E rfl λa E=>ae (kif E rfl (λb5=>?_) (λb5=>?_))))
 {
 have h:=aF b5 h;refine ab (ak (qM E rfl λa E=>?_));obtain⟨i3,d1,h⟩:=ob h;refine st E (aL (vs:=[b3]) E rfl call104 (B8 (hS:=hS) (c6.mono W) d1)) rfl ?_;rintro j5 a w ⟨k5,h1,hS,f5⟩ E;refine qA E rfl λa E=>qA E rfl λa E=>ae (bD ?_);obtain rfl:=oi h
 try dsimp only
 refine f2 E ?_;exact⟨_,(Z0 J (Z0 Z (Z0 a0 (Z0 W h1)))),(hS.dropT 1),_,_,rfl,f5,(aq (show inR .i64 0 from au (by decide)))⟩}
 {
 have h:=aG b5 h;refine ab (ak (qB E rfl rfl jW λa E=>qA E rfl λa E=>ae (kif E rfl (λa9=>?_) (λa9=>?_))))
 {
 have h:=aF a9 h;refine ab (ak (qM E rfl λa E=>?_));obtain⟨i5,e0,h⟩:=ob h;refine st E (aL (vs:=[v1]) E rfl call105 (Dc (hS:=hS) (a1.mono (Z0 J (Z0 Z (Z0 a0 W)))) e0)) rfl ?_;rintro h5 a w ⟨j0,e8,hS,e7⟩ E;refine qA E rfl λa E=>qA E rfl λa E=>ae (bD ?_);obtain rfl:=oi h
 try dsimp only
 refine f2 E ?_;exact⟨_,(Z0 J (Z0 Z (Z0 a0 (Z0 W e8)))),(hS.dropT 1),_,_,rfl,e7,(aq (show inR .i64 0 from au (by decide)))⟩}
 {
 have h:=aG a9 h;refine ab (ak (qB E rfl rfl jW λa E=>qA E rfl λa E=>ae (kif E rfl (λb6=>?_) (λb6=>?_))))
 {
 have h:=aF b6 h;refine ab (ak (qM E rfl λa E=>?_));obtain⟨k4,h3,h⟩:=ob h;refine st E (aL (vs:=[b3]) E rfl call106 (B9 (hS:=hS) (c6.mono W) h3)) rfl ?_;rintro l3 a w ⟨h8,h4,hS,f3⟩ E;refine qA E rfl λa E=>qA E rfl λa E=>ae (bD ?_);obtain rfl:=oi h
 try dsimp only
 refine f2 E ?_;exact⟨_,(Z0 J (Z0 Z (Z0 a0 (Z0 W h4)))),(hS.dropT 1),_,_,rfl,f3,(aq (show inR .i64 0 from au (by decide)))⟩}
 {
 have h:=aG b6 h;refine aV (ab (ak (qA E rfl λa E=>ae (ab (ab (ak (qM E rfl λa E=>sp E (bh (k:=kAp) E rfl rfl underlying22 (a1.mono (Z0 J (Z0 Z (Z0 a0 W))))) rfl λa E=>?_)))))));refine qM E rfl λa E=>ae ?_;refine cj (λa w=>∃a5:(List Int),lA a5=some r/\∃m',M.le c4 m'/\∃(a3:Value),RV (kSl (ag .u8)) m' a3 a5/\S W0 m' w L ((1,a3)::TL)/\Env 69 a [(8,a3)]) ?_ ?_
 {
 refine bd ?_;refine eG h (λ(s:List Int×Int) a w=>∃m',M.le c4 m'/\∃(a2:Value),RV (kSl (ag .u8)) m' a2 s.1/\inR .i64 s.2/\S W0 m' w L ((1,a2)::TL)/\Env 69 a [(8,a2),(57,v1),(58,.int .i64 (p1.length:Int)),(59,.int .i64 s.2)]) ?_ ?_
 {exact⟨_,(Z2 _),(.slice none 0 0),cT,(show inR .i64 0 from au (by decide)),(hS.tail0 1),kut E⟩}
 {
 rintro ⟨c3,c5⟩ a w ⟨l2,b4,a2,d0,k7,hS,E⟩ r123 h hb124;have h:jp p1 c3 c5=some r123:=h;unfold jp at h;refine ab (ak (qB E rfl rfl cl λa E=>ae (ab (kif E rfl (λb0=>?_) (λb0=>?_)))))
 {
 have h:=aF b0 h;refine aV (ab (bd (ab (ak ?_))));obtain⟨k3,g7,h⟩:=ob h;refine st E (bn (k:=kAp) E rfl rfl underlying22 sizeOf32 (a1.mono (Z0 J (Z0 Z (Z0 a0 (Z0 W b4))))) g7) rfl ?_;rintro h7 a _ ⟨rfl,g1⟩ E;refine st E (aO E hS eD rfl g1) rfl ?_;rintro i8 a _ ⟨rfl,g2⟩ E;refine st E (dv hS zeroValue32 rfl (cs:=xZ)) rfl ?_;rintro _ a w ⟨h6,rfl,hS⟩ E;refine st0 E (dh E hS eD bW rfl rfl g2 (i:=0) rfl (tz _)) ?_;rintro _ w ⟨j3,e1,hS⟩ E;refine ae (ak (qM E rfl λa E=>?_));refine st E (aK E hS eD rfl (i:=0) rfl (az e1)) rfl ?_
 rintro f0 a _ ⟨rfl,f6⟩ E;obtain⟨j1,g3,h⟩:=ob h;refine st E (aL (vs:=[f0]) E rfl call107 (ye (hS:=hS) f6 g3)) rfl ?_;rintro j2 a w ⟨i4,c2,hS,g4⟩ E;obtain⟨e5,e6,h⟩:=ob h;refine st E (fF (k:=(ag .u8)) (N:=140737488355328) E hS rfl rfl underlying24 underlying24 el5 (i:=0) rfl (d0.mono c2) g4 e6 rfl rfl) rfl ?_;rintro f9 a w ⟨i2,e9,hS,e3⟩ E;refine qA E rfl λa E=>ae (ak (qB E rfl rfl (br rfl) λa E=>qM E rfl λa E=>ae ?_))
 exact⟨(e5,Z3.wrap (c5+1)),(Option.some.inj h).symm,_,(Z0 b4 (Z0 c2 e9)),f9,e3,(aA _ _),(hS.pickL 1 [] rfl rfl rfl),kut E⟩}
 {have h:=aG b0 h;refine d4 rfl rfl ?_;have h:=bY h hb124;exact⟨c3,h,_,b4,a2,d0,hS,kut E⟩}}}
 {
 rintro a w ⟨a5,h,m1,h2,a3,g5,hS,E⟩;unfold lA at h;refine ab (ak (qM E rfl λa E=>qA E rfl λa E=>qA E rfl λa E=>ae (bD ?_)));obtain rfl:=oi h
 try dsimp only
 refine f2 E ?_;exact⟨_,(Z0 J (Z0 Z (Z0 a0 (Z0 W h2)))),(hS.dropT 1),_,_,rfl,g5,(aq (show inR .i64 0 from au (by decide)))⟩}}}}}}}}}}}}
theorem TS:Ctr Sz prog 47 [.rd (.int .i64),.rd (.sl (.st 32))] [.rd (.sl (.int .u8)),.rd (.int .i64)] (λx=>fu x.1 x.2.1):=by
 intro W0 m w L TL vs x r Lp Tp hS hP h;obtain⟨v0,vs,rfl,a0,Z⟩:=iJ hP;obtain⟨rfl,W⟩:=aJ a0;obtain⟨v1,vs,rfl,a1,a2⟩:=iJ Z;obtain⟨rfl,rfl,rfl⟩:=lV a2;refine rm (Be (hS:=hS) W a1 h) λv w' he=>?_;obtain⟨m',hm,Z',u0,u1,rfl,r0,J⟩:=he;exact⟨m',[u0,u1],[],[],[],hm,Z',rfl,⟨r0,⟨J,trivial⟩⟩,trivial⟩
def Dw:=mC TS call47
theorem Rq:Ctr Sz prog 135 [.rd (.int .i64),.rd (.sl (.st 32))] [.rd .bool] (λx=>rY x.1 x.2.1):=
 ncR [Dw] [4] func135 ntmps135 .o λx=>by kernel_rfl
theorem Fo (hS:S W0 m w L TL) {p0}(a0:inR .i64 p0) {p1}(W:RV (kSl kAp) m v1 p1) {r}(h:rY p0 p1=some r):
    Calls prog 135 #[(.int .i64 p0),v1] w (Ret λv w'=>∃m',M.le m m'/\S W0 m' w' L TL/\RV cL m' v r):=by
 refine rm (Rq W0 m w L TL [(.int .i64 p0),v1] (p0,p1,()) r [] [] hS ⟨aq a0,⟨W,trivial⟩⟩ h) λv w' Z=>?_;obtain⟨m',us,Lr,Lq,Tr,hm,Z',rfl,hR,hO⟩:=Z;obtain⟨u0,us,rfl,r0,J⟩:=cM hR;obtain⟨rfl,rfl,rfl⟩:=b9 J;have a2:=bp hO;have a1:=bp a2;obtain rfl:=cc a1;exact⟨m',hm,Z',r0⟩
theorem TT:Ctr Sz prog 46 [.rd (.sl (.st 32))] [.rd (.int .i64)] (λx=>q8 x.1):=
 ncR [Dw] [2] func46 ntmps46 (.s .o (.s .o (.s (.s .o (.b (.l ⟨[.v 3 1 (.dat (.int .i64) none),.v 4 1 (.dat (.int .i64) none),.v 5 1 (.dat (.int .i64) none)],[0],0,[]⟩ .o))) .o))) λx=>by kernel_rfl
def TU:=mC TT call46
theorem Rr:Ctr Sz prog 108 [.rd (.sl (.st 32)),.f2 (.st 32) (.st 32) (.int .i64)] [.rd (.st 32)] (λx=>ge x.1 x.2.1):=
 nxR [] [.cell 4 32] func108 ntmps108 (.s .o (.s .o (.s .o (.s (.s .o (.b (.l ⟨[.v 6 1 (.dat (.int .i64) none),.b 1 1 (.st 32)],[0,1,4,5],2,[]⟩ .o))) .o)))) λx=>by kernel_rfl
theorem uS (hS:S W0 m w L TL) {p0}(a0:RV (kSl kAp) m v0 p0) {p1}(W:Fn2 prog kAp kAp (ag .i64) m v1 p1) {r}(h:ge p0 p1=some r):
    Calls prog 108 #[v0,v1] w (Ret λv w'=>∃m',M.le m m'/\S W0 m' w' L TL/\RV kAp m' v r):=by
 refine rm (Rr W0 m w L TL [v0,v1] (p0,p1,()) r [] [] hS ⟨a0,⟨W,trivial⟩⟩ h) λv w' Z=>?_;obtain⟨m',us,Lr,Lq,Tr,hm,Z',rfl,hR,hO⟩:=Z;obtain⟨u0,us,rfl,r0,J⟩:=cM hR;obtain⟨rfl,rfl,rfl⟩:=b9 J;have a2:=bp hO;have a1:=Do a2;obtain rfl:=cc a1;exact⟨m',hm,Z',r0⟩
theorem Ru:Ctr Sz prog 110 [.rd (.sl (.st 32)),.f2 (.st 32) (.st 32) (.int .i64)] [.rd (.st 32)] (λx=>gg x.1 x.2.1):=
 nxR [] [.cell 4 32] func110 ntmps110 (.s .o (.s .o (.s .o (.s (.s .o (.b (.l ⟨[.v 6 1 (.dat (.int .i64) none),.b 1 1 (.st 32)],[0,1,4,5],2,[]⟩ .o))) .o)))) λx=>by kernel_rfl
theorem uT (hS:S W0 m w L TL) {p0}(a0:RV (kSl kAp) m v0 p0) {p1}(W:Fn2 prog kAp kAp (ag .i64) m v1 p1) {r}(h:gg p0 p1=some r):
    Calls prog 110 #[v0,v1] w (Ret λv w'=>∃m',M.le m m'/\S W0 m' w' L TL/\RV kAp m' v r):=by
 refine rm (Ru W0 m w L TL [v0,v1] (p0,p1,()) r [] [] hS ⟨a0,⟨W,trivial⟩⟩ h) λv w' Z=>?_;obtain⟨m',us,Lr,Lq,Tr,hm,Z',rfl,hR,hO⟩:=Z;obtain⟨u0,us,rfl,r0,J⟩:=cM hR;obtain⟨rfl,rfl,rfl⟩:=b9 J;have a2:=bp hO;have a1:=Do a2;obtain rfl:=cc a1;exact⟨m',hm,Z',r0⟩
theorem uU {m:M}{v:Value}{p0:List Ap}(ha:PR (kSl kAp) m v p0):Dk prog (Rv1 kAp) 157 #[v] m p0:=by
 intro σ I step B y m1 w L TL s Ls TLs r mono hle hy W hS hf;refine zZ (args:=[y,v]) func157 rfl ntmps157 (Z4 rfl) λa E=>?_;have E:Env 16 a [(0,y),(1,v)]:=E;refine ab (ak ?_);refine st E (aO E hS nt rfl (ha.mono hle)) rfl ?_;rintro v5 a _ ⟨rfl,a0⟩ E;refine sp E (bh (k:=kAp) E rfl rfl underlying22 a0) rfl λa E=>qM E rfl λa E=>ae ?_;have h:=GG (jX a0) hf;refine bd ?_;refine eG h (λ(t:Int×σ) a w=>∃m' Ls' TLs',M.le m1 m'/\inR .i64 t.1/\I m' t.2 Ls' TLs'/\S (B t.2) m' w (Ls'++L) (TLs'++TL)/\Env 16 a [(0,y),(5,v5),(6,.int .i64 (p0.length:Int)),(7,.int .i64 t.1)]) ?_ ?_
 {exact⟨m1,Ls,TLs,Z2 _,(show inR .i64 0 from au (by decide)),W,hS,kut E⟩}
 {
 rintro ⟨i,s⟩ a w ⟨m2,a1,a3,Z,hi,W,hS,E⟩ r9 h hb;unfold Bp at h;refine ab (ak (qB E rfl rfl cl λa E=>ae (ab (kif E rfl (λJ=>?_) (λJ=>?_)))))
 {
 have h:=aF J h;refine aV (ab (bd (ab (ak ?_))));obtain⟨x,hx,h⟩:=ob h;refine st E (bn (k:=kAp) E rfl rfl underlying22 sizeOf32 (a0.mono Z) hx) rfl ?_;rintro v9 a _ ⟨rfl,hp⟩ E;refine st E (aO E hS eD rfl hp) rfl ?_;rintro b1 a _ ⟨rfl,b0⟩ E;refine st E (dv hS zeroValue32 rfl (cs:=xZ)) rfl ?_;rintro _ a w ⟨b4,rfl,hS⟩ E;refine st0 E (dh E hS eD bW rfl rfl b0 (i:=0) rfl (tz _)) ?_;rintro _ w ⟨cs,hc,hS⟩ E;refine ae (ab (ak (qM E rfl λa E=>?_)));refine st E (aK E hS eD rfl (i:=0) rfl (az hc)) rfl ?_;rintro a6 a _ ⟨rfl,a9⟩ E;obtain⟨q,hq,h⟩:=ob h
 refine st E (hy m2 _ L TL s a1 a3 [a6] x q.1 q.2 W (hS.dropL 1) ⟨_,rfl,a9⟩ hq _ _ _ _ _ _ _ _ _ (E.eval rfl) (jb E rfl)) rfl ?_;rintro _ a w ⟨rfl,m3,a5,a2,a4,W,hS⟩ E;refine sp E (ln E rfl) rfl λa E=>ae (kif E rfl (λJ=>?_) (λJ=>?_))
 {have h:=aG (by simpa using J) h;obtain rfl:=oi h;refine bD ?_;have h:=hb _ rfl;subst h;refine Fin.mk E (rs:=[]) rfl sD.nil ?_;exact⟨m3,a5,a2,Z.trans a4,W,hS⟩}
 {have h:=aF (by simpa using J) h;obtain rfl:=oi h;refine aV (ak (qB E rfl rfl (br rfl) λa E=>qM E rfl λa E=>ae ?_));exact⟨_,rfl,m3,a5,a2,Z.trans a4,(aA _ _),W,hS,kut E⟩}}
 {have h:=aG J h;obtain rfl:=oi h;have h:=hb _ rfl;subst h;refine d4 rfl rfl ?_;dsimp only;refine Fin.mk E (rs:=[]) rfl sD.nil ?_;exact⟨m2,a1,a3,Z,W,hS⟩}}
theorem vq (hS:S W0 m w L TL) {p0}(W:RV (kSl kAp) m v0 p0) {r}(h:jH p0=some r):
    Calls prog 111 #[v0] w (Ret λv w'=>∃m',M.le m m'/\S W0 m' w' L TL/\ItV prog (Rv1 kAp) m' v r):=by
 refine kc func111 ntmps111 λa E=>?_;have E:Env 4 a [(0,v0)]:=E;unfold jH at h;obtain rfl:=oi h;refine ab (ak ?_);refine st E (ox E hS rfl W) rfl ?_;rintro _ a w ⟨b,cs,rfl,J,hS⟩ E;refine qA E rfl λa E=>ae (ab (ak ?_));obtain⟨m1,Z,hS,hp⟩:=S.freezeL (k:=(kSl kAp)) hS J;refine sp E (rO E rfl rfl) rfl λa E=>qA E rfl λa E=>ae (bD ?_);refine f1 E ?_;exact⟨_,Z,hS,157,_,rfl,call157,uU hp⟩
theorem yf (hS:S W0 m w L TL) {p0}(d1:inR .i64 p0) {p1}(W:RV (kSl kAp) m v1 p1) {r}(h:lB p0 p1=some r):
    Calls prog 48 #[(.int .i64 p0),v1] w (Ret λv w'=>∃m',M.le m m'/\S W0 m' w' L TL/\RV cX m' v r):=by
 refine HU func48 rfl ntmps48 (Z4 rfl) λa E=>?_;have E:Env 26 a [(0,.int .i64 p0),(1,v1)]:=E;unfold lB at h;refine ab (ak ?_);refine st E (dv hS zeroValue34 rfl (cs:=wA)) rfl ?_;rintro _ a w ⟨b1,rfl,hS⟩ E;refine ae (ab (ak (qM E rfl λa E=>qM E rfl λa E=>sp E (bh (k:=kAp) E rfl rfl underlying22 W) rfl λa E=>qM E rfl λa E=>?_)));obtain⟨r7,e3,h⟩:=ob h;refine st E (aL (vs:=[v1,(.func (.func 109) #[] #[])]) E rfl call108 (uS (hS:=hS) W (Fm (m0:=m)) e3)) rfl ?_;rintro c7 a w ⟨m9,a1,hS,c6⟩ E;refine qM E rfl λa E=>?_;obtain⟨b0,e7,h⟩:=ob h
 refine st E (aL (vs:=[v1,(.func (.func 109) #[] #[])]) E rfl call110 (uT (hS:=hS) (W.mono a1) (Fm (m0:=m9)) e7)) rfl ?_;rintro e5 a w ⟨g4,a3,hS,d2⟩ E;refine st E (sE (m:=g4) (k:=cX) (x0:=bv.zero) (xx:=(⟨p0,(p1.length:Int),r7,b0,0,0⟩:bv)) (pl:=[(0,1),(1,1),(2,4),(6,4),(10,1),(11,1)]) (pv:=[(0,.int .i64 p0),(1,.int .i64 (p1.length:Int)),(2,c7),(3,e5)]) E rfl underlying34 rfl zeroValue34 zQ rfl (.cons rfl Jc (aq d1) (.cons rfl Jd (aq (eE (jX W))) (.cons rfl Je (c6.mono a3) (.cons rfl Jf d2 .nil))))) rfl ?_;rintro h1 a _ ⟨rfl,g8⟩ E
 refine st E (dv hS zeroValue34 rfl (cs:=wA)) rfl ?_;rintro _ a w ⟨Z,rfl,hS⟩ E;refine st0 E (dh E hS zR bW rfl rfl g8 (i:=0) rfl (zQ _)) ?_;rintro _ w ⟨b6,c5,hS⟩ E;refine ae (ab (ab (ak (qM E rfl λa E=>?_))));obtain⟨j0,e4,h⟩:=ob h;refine st E (aL (vs:=[v1]) E rfl call111 (vq (hS:=hS) (W.mono (Z0 a1 a3)) e4)) rfl ?_;rintro h2 a w ⟨f3,b2,hS,g7⟩ E;refine ae (bd ?_);obtain⟨a2,g6,h⟩:=ob h
 refine FW (Rv:=(Rv1 kAp)) (λ(s:bv) (x:Ap)=>fw s x) (λ_=> .ret) [] (λ(m':M) (s:bv) (a6:Mem) (a0:Tls)=>∃(J:List Value),M.le f3 m'/\cX.R m' J s/\a6=[(Z,J),(b1,wA)]/\a0=[]) (Ls:=[(Z,b6),(b1,wA)]) (TLs:=[]) (s0:=(⟨p0,(p1.length:Int),r7,b0,0,0⟩:bv)) (sf:=a2.1) (bf:=a2.2) E hS rfl g7 (by decide) (λ_ _ _ h=>FV h) (by rintro i8 i3 s_ a_ b_ n_ ⟨J,c1,f5,g2,g0⟩;exact⟨J,c1.trans n_,cX.mono n_ f5,g2,g0⟩) ⟨b6,Z2 _,(cX.mono b2 c5),rfl,rfl⟩ g6 ?_ ?_
 {
 intro h5 j2 W0 h9 w L TL s_ a6 a0 i4 f0 e0 c4 a h6 h3 a5 hS d0 h E c2;obtain⟨x36,rfl⟩:∃x,x=s_:=⟨_,rfl⟩
 obtain⟨J,b7,a4,rfl,rfl⟩:=a5;have h:fw x36 f0=some (e0,c4):=h;unfold fw at h;obtain⟨i1,rfl,g5⟩:=d0;refine ak ?_;refine st E (dv hS zeroValue32 rfl (cs:=xZ)) rfl ?_;rintro _ a w ⟨i2,rfl,hS⟩ E;refine st0 E (dh E hS eD bW rfl rfl g5 (i:=0) rfl (tz _)) ?_;rintro _ w ⟨h8,c3,hS⟩ E;refine ae ?_;obtain⟨e6,hS⟩:=c2 _ _ _ _ hS;refine⟨e6,?_⟩;refine bd (ab (ak (sp E (aH E A7 rfl) rfl λa E=>?_)));refine st E (aK E hS ty3 rfl (i:=0) rfl (Jb.R_drop (az c3))) rfl ?_;rintro h0 a _ ⟨rfl,e8⟩ E;obtain⟨rfl,h7⟩:=aJ e8
 refine qB E rfl rfl jW λa E=>ae (kif E rfl (λa9=>?_) (λa9=>?_))
 {
 have h:=aF a9 h;refine ak (sp E (aH E ya rfl) rfl λa E=>?_);refine st E (aK E hS ty3 rfl (i:=1) rfl (OS.R_drop (az a4))) rfl ?_;rintro h4 a _ ⟨rfl,e9⟩ E;obtain⟨rfl,i0⟩:=aJ e9;refine qB E rfl rfl (br rfl) λa E=>sp E (aH E ya rfl) rfl λa E=>?_;refine st0 E (dh E hS ty3 Jg rfl rfl (aq (aA _ _)) (i:=1) rfl a4) ?_;rintro _ w ⟨b5,e1,hS⟩ E;refine ae ?_;cases h
 try dsimp only
 exact⟨rfl,_,[(Z,b5),(b1,wA)],[],(Z2 _),⟨b5,b7,e1,rfl,rfl⟩,(hS.pickL 3 [1,2] rfl rfl rfl)⟩}
 {
 have h:=aG a9 h;refine aV ?_;cases h
 try dsimp only
 exact⟨rfl,_,[(Z,J),(b1,wA)],[],(Z2 _),⟨J,b7,a4,rfl,rfl⟩,(hS.pickL 3 [1,2] rfl rfl rfl)⟩}}
 {
 intro f9 j1 w a a6 a0 f6 E a5 hS c0 g3;obtain⟨j3,_,g1,rfl,rfl⟩:=a5;obtain⟨W0,b3⟩:∃W9,W9=W0.put f9 (.deferred (some [])):=⟨_,rfl⟩
 rw[←b3] at hS;rcases Z1 a2.2 with hb75|hb75
 {
 have h:=aF hb75 h;rw[if_pos hb75];refine ab (ak ?_);refine st E (aK E hS zR rfl (i:=0) rfl (az g1)) rfl ?_;rintro g9 a _ ⟨rfl,f4⟩ E;refine st0 E (dh E hS zR bW rfl rfl f4 (i:=1) rfl (zQ _)) ?_;rintro _ w ⟨i5,b4,hS⟩ E;refine ae (bD ?_);obtain rfl:=oi h
 try dsimp only
 have hS:=hS;rw[b3] at hS;refine DT.shut E hS c0 g3 λa w hS E=>?_;refine DT.nil E ?_;refine Fin.mk E (rs:=[.cell 4 34]) rfl (sD.cell E hS zR rfl (i:=1) rfl (az b4) sD.nil) ?_;exact⟨_,(Z0 a1 (Z0 a3 (Z0 b2 f6))),(hS.dropL 2),(kQ (az b4))⟩}
 {have h:=aG hb75 h;cases h}}
theorem TV:Ctr Sz prog 48 [.rd (.int .i64),.rd (.sl (.st 32))] [.rd (.st 34)] (λx=>lB x.1 x.2.1):=by
 intro W0 m w L TL vs x r Lp Tp hS hP h;obtain⟨v0,vs,rfl,a0,W⟩:=iJ hP;obtain⟨rfl,J⟩:=aJ a0;obtain⟨v1,vs,rfl,a1,a2⟩:=iJ W;obtain⟨rfl,rfl,rfl⟩:=lV a2;refine rm (yf (hS:=hS) J a1 h) λv w' Z=>?_;obtain⟨m',hm,Z',r0⟩:=Z;exact⟨m',[v],[],[],[],hm,Z',rfl,⟨r0,trivial⟩,trivial⟩
def TW:=mC TV call48
theorem TX:Ctr Sz prog 49 [.rd (.st 32)] [.rd (.sl (.int .u8))] (λx=>rv x.1):=
 ncR [Jr] [2] func49 ntmps49 .o λx=>by kernel_rfl
def TY:=mC TX call49
theorem LZ:Ctr Sz prog 78 [.rd (.sl (.int .u8))] [.rd (.int .u32)] (λx=>iB x.1):=
 ncR [] [2] func78 ntmps78 (.s .o (.s .o (.s (.s .o (.b (.l ⟨[.v 9 1 (.dat (.int .i64) none),.a 0 1 (.int .u32) (some 16)],[0,3],1,[]⟩ (.s .o (.s .o (.s (.b (.s .o (.s .o (.s (.s .o (.b (.l ⟨[.v 5 2 (.dat (.int .u32) none),.v 14 2 (.dat (.int .i64) none)],[0,3,4,9],1,[]⟩ .o))) .o)))) .o)))))) (.s .o (.s (.s .o (.b (.l ⟨[.v 6 1 (.dat (.int .u32) none),.v 29 1 (.dat (.int .i64) none)],[3,27,28],1,[]⟩ .o))) .o))))) λx=>by kernel_rfl
def TZ:=mC LZ call78
theorem zd (hS:S W0 m w L TL) {p0}(Z:RV (kSl (ag .u8)) m v0 p0) {r}(h:iB p0=some r):
    Calls prog 78 #[v0] w (Ret λv w'=>∃m',M.le m m'/\S W0 m' w' L TL/\RV (ag .u32) m' v r):=by
 refine rm (LZ W0 m w L TL [v0] (p0,()) r [] [] hS ⟨Z,trivial⟩ h) λv w' W=>?_;obtain⟨m',us,Lr,Lq,Tr,hm,Z',rfl,hR,hO⟩:=W;obtain⟨u0,us,rfl,r0,J⟩:=cM hR;obtain⟨rfl,rfl,rfl⟩:=b9 J;have a0:=bp hO;obtain rfl:=cc a0;exact⟨m',hm,Z',r0⟩
theorem L2:Ctr Sz prog 50 [.ap (.int .u8)] [.ap (.int .u8)] (λx=>kY x.1):=
 ncR [TZ] [2] func50 ntmps50 .o λx=>by kernel_rfl
def T3:=mC L2 call50
theorem Ca (hS:S W0 m w L ((1,v0)::TL)) {p0}(Z:RV (kSl (ag .u8)) m v0 p0) {r}(h:kY p0=some r):
    Calls prog 50 #[v0] w (Ret λv w'=>∃m',M.le m m'/\S W0 m' w' L ((1,v)::TL)/\RV (kSl (ag .u8)) m' v r):=by
 refine rm (L2 W0 m w L TL [v0] (p0,()) r [] [(1,v0)] hS ⟨Z,rfl,trivial⟩ h) λv w' W=>?_;obtain⟨m',us,Lr,Lq,Tr,hm,Z',rfl,hR,hO⟩:=W;obtain⟨u0,us,Tr,rfl,rfl,r0,J⟩:=vK hR;obtain⟨rfl,rfl,rfl⟩:=b9 J;have a0:=LJ hO;obtain rfl:=cc a0;exact⟨m',hm,Z',r0⟩
theorem T4:Ctr Sz prog 15 [.rd (.int .i64),.rd (.sl (.st 32))] [.rd (.sl (.int .u8)),.rd (.int .i64)] (λx=>oE x.1 x.2.1):=
 ncR [TU,Dw,TW,TY,T3] [4,5] func15 ntmps15 .o λx=>by kernel_rfl
theorem Dd (hS:S W0 m w L TL) {p0}(a0:inR .i64 p0) {p1}(Z:RV (kSl kAp) m v1 p1) {r}(h:oE p0 p1=some r):
    Calls prog 15 #[(.int .i64 p0),v1] w (Ret λv w'=>∃m',M.le m m'/\S W0 m' w' L TL/\∃v0_ v1_:Value,v= .tuple #[v0_,v1_]/\RV (kSl (ag .u8)) m' v0_ r.1/\RV (ag .i64) m' v1_ r.2):=by
 refine rm (T4 W0 m w L TL [(.int .i64 p0),v1] (p0,p1,()) r [] [] hS ⟨aq a0,⟨Z,trivial⟩⟩ h) λv w' he=>?_;obtain⟨m',us,Lr,Lq,Tr,hm,Z',rfl,hR,hO⟩:=he;obtain⟨u0,us,rfl,r0,W⟩:=cM hR;obtain⟨u1,us,rfl,J,a1⟩:=cM W;obtain⟨rfl,rfl,rfl⟩:=b9 a1;have a3:=bp hO;have a2:=bp a3;obtain rfl:=cc a2;exact⟨m',hm,Z',u0,u1,rfl,r0,J⟩
theorem zU (hS:S W0 m w L TL) {p0}(e3:inR .i64 p0) {p1}(f5:RV (kSl kAp) m v1 p1) {r}(h:ld p0 p1=some r):
    Calls prog 76 #[(.int .i64 p0),v1] w (Ret λv w'=>∃m',M.le m m'/\S W0 m' w' L ((1,v)::TL)/\RV (kSl (ag .u8)) m' v r):=by
 refine HU func76 rfl ntmps76 (Z4 rfl) λa E=>?_;have E:Env 28 a [(0,.int .i64 p0),(1,v1)]:=E;unfold ld at h;refine ab (ak ?_);refine st E (ox (k:=(ag .i64)) E hS rfl (aq e3)) rfl ?_;rintro _ a w ⟨Z,a2,rfl,e9,hS⟩ E;refine qA E rfl λa E=>ae (ab (ak ?_));refine st E (dv hS zeroValue24 rfl (cs:=[(.slice none 0 0)])) rfl ?_;rintro _ a w ⟨b6,rfl,hS⟩ E;refine ae (ab (ab (ak (qM E rfl λa E=>?_))));obtain⟨r9,g6,h⟩:=ob h;refine st E (aL (vs:=[v1,(.int .i64 64)]) E rfl call134 (wC (hS:=hS) f5 (show inR .i64 64 from au (by decide)) g6)) rfl ?_;rintro e1 a w ⟨f3,c7,hS,g0⟩ E
 refine ae (bd ?_);obtain⟨b0,g7,h⟩:=ob h;refine FW (Rv:=(Rv1 (kSl kAp))) (λ(s:List Int) (x:List Ap)=>eZ p0 s x) (λ_=> .ret) [] (λ(m':M) (s:List Int) (b2:Mem) (a3:Tls)=>∃(J:Value),M.le f3 m'/\RV (kSl (ag .u8)) m' J s/\b2=[(b6,[J]),(Z,a2)]/\a3=[(1,J)]) (Ls:=[(b6,[(.slice none 0 0)]),(Z,a2)]) (TLs:=[(1,.slice none 0 0)]) (s0:=([]:(List Int))) (sf:=b0.1) (bf:=b0.2) E (hS.tail0 1) rfl g0 (by decide) (λ_ _ _ h=>FV h) (by rintro i5 i3 s_ a_ b_ n_ ⟨J,d1,f6,g4,g2⟩;exact⟨J,d1.trans n_,f6.mono n_,g4,g2⟩) ⟨(.slice none 0 0),Z2 _,cT,rfl,rfl⟩ g7 ?_ ?_
 {
 intro h6 j2 W0 j0 w L TL s_ b2 a3 i4 b3 c3 b5 a h7 h3 a4 hS e0 h E h0;obtain⟨c4,rfl⟩:∃x,x=s_:=⟨_,rfl⟩
 obtain⟨J,c1,b7,rfl,rfl⟩:=a4;have h:eZ p0 c4 b3=some (c3,b5):=h;unfold eZ at h;obtain⟨a6,rfl,c5⟩:=e0;refine ak (qA E rfl λa E=>ae ?_);obtain⟨f0,hS⟩:=h0 _ _ _ _ hS;refine⟨f0,?_⟩;refine bd (ab (ak ?_));refine st E (aK E hS ty3 rfl (i:=1) rfl (az ((ag .i64).mono (Z0 c7 c1) e9))) rfl ?_;rintro i0 a _ ⟨rfl,g8⟩ E;obtain⟨rfl,c6⟩:=aJ g8;refine qA E rfl λa E=>ae (ab (ab (ak (qM E rfl λa E=>qM E rfl λa E=>?_))));obtain⟨i1,g5,h⟩:=ob h;refine st E (aL (vs:=[(.int .i64 p0),a6]) E rfl call135 (Fo (hS:=hS) c6 c5 g5)) rfl ?_
 rintro i8 a w ⟨g9,a0,hS,e5⟩ E;obtain rfl:=eS e5;refine sp E (ln E rfl) rfl λa E=>ae ?_;refine cj (λa w=>∃x44:Int,gB c4 b3 x44=some (c3,b5)/\∃m',M.le g9 m'/\inR .i64 x44/\S W0 m' w ((b6,[J])::(Z,a2)::L) ((1,J)::TL)/\Env 28 a [(2,pz Z),(5,pz b6),(6,a6),(7,.int .i64 x44),(11,e1)]) ?_ ?_
 {
 refine kif E rfl (λa5=>?_) (λa5=>?_)
 {have h:=aF a5 h;refine ak (qA E rfl λa E=>ae ?_);exact⟨(-1),h,_,(Z2 _),(show inR .i64 (-1) from au (by decide)),hS,kut E⟩}
 {have h:=aG a5 h;refine aV ?_;exact⟨p0,h,_,(Z2 _),c6,hS,kut E⟩}}
 {
 rintro a w ⟨x44,h,h2,W,d2,hS,E⟩;unfold gB at h;refine ab (ak (qM E rfl λa E=>qM E rfl λa E=>?_));obtain⟨i2,g3,h⟩:=ob h;refine st E (aL (vs:=[(.int .i64 x44),a6]) E rfl call15 (Dd (hS:=hS) d2 (c5.mono (Z0 a0 W)) g3)) rfl ?_;rintro _ a w ⟨j3,a1,hS,h8,j1,rfl,e7,e8⟩ E;obtain⟨rfl,h4⟩:=aJ e8;refine qM E rfl λa E=>sp E (ct E rfl rfl) rfl λa E=>sp E (ct E rfl rfl) rfl λa E=>qA E rfl λa E=>qA E rfl λa E=>ae (ak (sp E (Cm (k:=(ag .u8)) E hS Li rfl (i:=0) rfl (b7.mono (Z0 a0 (Z0 W a1)))) rfl λa E=>qM E rfl λa E=>?_))
 obtain⟨h5,f9,h⟩:=ob h;refine st E (fF (k:=(ag .u8)) (N:=140737488355328) E hS rfl rfl underlying24 underlying24 el5 (i:=0) rfl (b7.mono (Z0 a0 (Z0 W a1))) e7 f9 rfl rfl) rfl ?_;rintro a9 a w ⟨j4,c2,hS,d0⟩ E;refine st0 E (GH (k:=(ag .u8)) E hS Li rfl rfl d0 (i:=0) rfl) ?_;rintro _ w hS E;refine ae ?_;cases h
 try dsimp only
 exact⟨rfl,_,[(b6,[a9]),(Z,a2)],[(1,a9)],(Z0 a0 (Z0 W (Z0 a1 c2))),⟨a9,(Z0 c1 (Z0 a0 (Z0 W (Z0 a1 c2)))),d0,rfl,rfl⟩,hS⟩}}
 {
 intro g1 h9 w a b2 a3 e6 E a4 hS e4 f4;obtain⟨h1,_,b4,rfl,rfl⟩:=a4;obtain⟨W0,c0⟩:∃W9,W9=W0.put g1 (.deferred (some [])):=⟨_,rfl⟩
 rw[←c0] at hS;rcases Z1 b0.2 with hb86|hb86
 {
 have h:=aF hb86 h;rw[if_pos hb86];refine ab (ak (sp E (Cm (k:=(ag .u8)) E hS Li rfl (i:=0) rfl b4) rfl λa E=>qA E rfl λa E=>ae (bD ?_)));obtain rfl:=oi h
 try dsimp only
 have hS:=hS;rw[c0] at hS;refine DT.shut E hS e4 f4 λa w hS E=>?_;refine DT.nil E ?_;refine f1 E ?_;exact⟨_,(Z0 c7 e6),((hS.dropL 2).pickT 1 [0] rfl rfl rfl),b4⟩}
 {have h:=aG hb86 h;cases h}}
theorem Bf (hS:S W0 m w L TL) {p0}(e4:inR .i64 p0) {p1}(b4:RV (kSl (ag .i64)) m v1 p1) {p2}(e3:RV (kSl (ag .i64)) m v2 p2) {p3}(e0:RV (kSl aj) m v3 p3) {r}(h:gG p0 p1 p2 p3=some r):
    Calls prog 31 #[(.int .i64 p0),v1,v2,v3] w (Ret λv w'=>∃m',M.le m m'/\S W0 m' w' L TL/\∃v0_ v1_:Value,v= .tuple #[v0_,v1_]/\RV (kSl (ag .u8)) m' v0_ r.1/\RV (ag .i64) m' v1_ r.2):=by
 refine kc func31 ntmps31 λa E=>?_;have E:Env 88 a [(0,.int .i64 p0),(1,v1),(2,v2),(3,v3)]:=E;unfold gG at h;refine ab (ak (qA E rfl λa E=>qA E rfl λa E=>ae (ab (ak (qM E rfl λa E=>qM E rfl λa E=>qM E rfl λa E=>?_)))));obtain⟨r6,h4,h⟩:=ob h;refine st E (aL (vs:=[(.int .i64 p0),v1,v3]) E rfl call74 (kP (hS:=hS) e4 b4 e0 h4)) rfl ?_;rintro q0 a w ⟨m8,Z,hS,h7⟩ E;obtain⟨rfl,g3⟩:=aJ h7;refine qA E rfl λa E=>ae (ab (ab (ak (qM E rfl λa E=>qB E rfl rfl jF λa E=>ae (kif E rfl (λd1=>?_) (λd1=>?_))))))
 {
 have h:=aF d1 h;refine ab (ak (qM E rfl λa E=>qA E rfl λa E=>qA E rfl λa E=>ae (bD ?_)));obtain rfl:=oi h
 try dsimp only
 refine f2 E ?_;exact⟨_,Z,hS,_,_,rfl,cT,(aq g3)⟩}
 {
 have h:=aG d1 h;refine aV (ab (ak (qM E rfl λa E=>qM E rfl λa E=>?_)));obtain⟨a5,h2,h⟩:=ob h;refine st E (aL (vs:=[v1,v3]) E rfl call27 (tC (hS:=hS) (b4.mono Z) (e0.mono Z) h2)) rfl ?_;rintro a6 a w ⟨r9,a9,hS,c1⟩ E;refine qA E rfl λa E=>ae (ab (ak ?_))
 refine st E (Mq (k:=(ag .u8)) (xs:=[72,65,89,49]) (vs:=[(.int .u8 72),(.int .u8 65),(.int .u8 89),(.int .u8 49)]) E hS rfl underlying24 sizeOf5 zeroValue5 ⟨(aq (show inR .u8 72 from au (by decide))),(aq (show inR .u8 65 from au (by decide))),(aq (show inR .u8 89 from au (by decide))),(aq (show inR .u8 49 from au (by decide))),trivial⟩ rfl (by decide)) rfl ?_;rintro t0 a w ⟨s1,a0,hS,n1,q7,_,h5,i5,m5⟩ E;refine st E (JV E hS rfl underlying24 underlying5 h5 i5 m5 (i:=0) rfl) rfl ?_;rintro t3 a _ ⟨rfl,hS⟩ E
 refine qM E rfl λa E=>sp E (dw E rfl underlying3 underlying5 rfl) rfl λa E=>qM E rfl λa E=>sp E (bh (k:=(ag .i64)) E rfl rfl underlying49 (b4.mono (Z0 Z (Z0 a9 a0)))) rfl λa E=>sp E (dw E rfl underlying3 underlying5 rfl) rfl λa E=>?_;refine st E (f8 (k:=(ag .u8)) (xs:=[Z6.wrap p0,Z6.wrap (p1.length:Int)]) (vs:=[(.int .u8 (Z6.wrap p0)),(.int .u8 (Z6.wrap (p1.length:Int)))]) E hS rfl underlying24 sizeOf5 zeroValue5 ⟨(aq (aA _ _)),(aq (aA _ _)),trivial⟩ rfl (by decide)) rfl ?_;rintro p7 a w ⟨r3,a1,hS,k7⟩ E;obtain⟨s4,h1,h⟩:=ob h
 refine st E (fF (k:=(ag .u8)) (N:=140737488355328) E hS rfl rfl underlying24 underlying24 el5 (i:=1) rfl (n1.mono a1) k7 h1 rfl rfl) rfl ?_;rintro m2 a w ⟨e5,a2,hS,i3⟩ E;refine qA E rfl λa E=>ae (ab (ab (ak (qM E rfl λa E=>sp E (bh (k:=(ag .i64)) E rfl rfl underlying49 (b4.mono (Z0 Z (Z0 a9 (Z0 a0 (Z0 a1 a2)))))) rfl λa E=>qM E rfl λa E=>ae ?_))));refine cj (λa w=>∃c6:(List Int),jy p0 p2 a5 c6=some r/\∃m',M.le e5 m'/\∃(b2:Value),RV (kSl (ag .u8)) m' b2 c6/\S W0 m' w L ((1,b2)::TL)/\Env 88 a [(0,.int .i64 p0),(2,v2),(3,a6),(11,b2)]) ?_ ?_
 {
 refine bd ?_;refine eG h (λ(s:List Int×Int) a w=>∃m',M.le e5 m'/\∃(b1:Value),RV (kSl (ag .u8)) m' b1 s.1/\inR .i64 s.2/\S W0 m' w L ((1,b1)::TL)/\Env 88 a [(0,.int .i64 p0),(2,v2),(3,a6),(11,b1),(36,v1),(37,.int .i64 (p1.length:Int)),(38,.int .i64 s.2)]) ?_ ?_
 {exact⟨_,(Z2 _),m2,i3,(show inR .i64 0 from au (by decide)),(hS.pickT 2 [1] rfl rfl rfl),kut E⟩}
 {
 rintro ⟨f3,e1⟩ a w ⟨q4,d0,b1,e6,n6,hS,E⟩ r188 h hb189;have h:jz p0 p1 p2 a5 f3 e1=some r188:=h;unfold jz at h;refine ab (ak (qB E rfl rfl cl λa E=>ae (ab (kif E rfl (λc3=>?_) (λc3=>?_)))))
 {
 have h:=aF c3 h;refine aV (ab (bd (ab (ak ?_))));obtain⟨f5,j2,h⟩:=ob h;refine st E (bn (k:=(ag .i64)) E rfl rfl underlying49 sizeOf3 (b4.mono (Z0 Z (Z0 a9 (Z0 a0 (Z0 a1 (Z0 a2 d0)))))) j2) rfl ?_;rintro p4 a _ ⟨rfl,g4⟩ E;refine st E (aO E hS ty3 rfl g4) rfl ?_;rintro r2 a _ ⟨rfl,k3⟩ E;obtain⟨rfl,o3⟩:=aJ k3;refine qA E rfl λa E=>ae (ak (qM E rfl λa E=>qM E rfl λa E=>sp E (dw E rfl underlying3 underlying5 rfl) rfl λa E=>?_))
 refine st E (f8 (k:=(ag .u8)) (xs:=[Z6.wrap f5]) (vs:=[(.int .u8 (Z6.wrap f5))]) E hS rfl underlying24 sizeOf5 zeroValue5 ⟨(aq (aA _ _)),trivial⟩ rfl (by decide)) rfl ?_;rintro o1 a w ⟨n3,e8,hS,i0⟩ E;obtain⟨l4,g5,h⟩:=ob h;refine st E (fF (k:=(ag .u8)) (N:=140737488355328) E hS rfl rfl underlying24 underlying24 el5 (i:=1) rfl (e6.mono e8) i0 g5 rfl rfl) rfl ?_;rintro j5 a w ⟨p6,n0,hS,h8⟩ E;refine qA E rfl λa E=>ae (ak (qB E rfl rfl (br rfl) λa E=>qM E rfl λa E=>ae ?_))
 exact⟨(l4,Z3.wrap (e1+1)),(Option.some.inj h).symm,_,(Z0 d0 (Z0 e8 n0)),j5,h8,(aA _ _),(hS.pickT 2 [1] rfl rfl rfl),kut E⟩}
 {have h:=aG c3 h;refine d4 rfl rfl ?_;have h:=bY h hb189;exact⟨f3,h,_,d0,b1,e6,hS,kut E⟩}}}
 {
 rintro a w ⟨c6,h,r7,a4,b2,m3,hS,E⟩;unfold jy at h;refine ab (ak (qM E rfl λa E=>qM E rfl λa E=>sp E (bh (k:=aj) E rfl rfl underlying50 (c1.mono (Z0 a0 (Z0 a1 (Z0 a2 a4))))) rfl λa E=>?_));obtain⟨q3,l2,h⟩:=ob h;refine st E (aL (vs:=[b2,(.int .i64 (a5.length:Int))]) E rfl call75 (qU (hS:=hS) m3 (eE (jX (c1.mono (Z0 a0 (Z0 a1 (Z0 a2 a4)))))) l2)) rfl ?_;rintro n2 a w ⟨f4,b7,hS,k4⟩ E;refine qA E rfl λa E=>ae (ab (ab (ak (qM E rfl λa E=>qB E rfl rfl (br rfl) λa E=>qM E rfl λa E=>ae ?_))))
 refine cj (λa w=>∃c7:(List Int),jx c7=some r/\∃m',M.le f4 m'/\∃(a3:Value),RV (kSl (ag .u8)) m' a3 c7/\S W0 m' w L ((1,a3)::TL)/\Env 88 a [(11,a3)]) ?_ ?_
 {
 refine bd ?_;refine eG h (λ(s:List Int×Int) a w=>∃m',M.le f4 m'/\∃(W:Value),RV (kSl (ag .u8)) m' W s.1/\inR .i64 s.2/\S W0 m' w L ((1,W)::TL)/\Env 88 a [(0,.int .i64 p0),(2,v2),(3,a6),(11,W),(53,.int .i64 (Z3.wrap (p0+3))),(54,.int .i64 s.2)]) ?_ ?_
 {exact⟨_,(Z2 _),n2,k4,(show inR .i64 0 from au (by decide)),hS,kut E⟩}
 {
 rintro ⟨b6,J⟩ a w ⟨m6,b0,W,f9,g6,hS,E⟩ r107 h hb108;have h:gZ p0 p2 a5 b6 J=some r107:=h;unfold gZ at h;refine ab (ak (qB E rfl rfl cl λa E=>ae (ab (kif E rfl (λc4=>?_) (λc4=>?_)))))
 {
 have h:=aF c4 h;refine aV (ab (bd (ab (ak (qM E rfl λa E=>qA E rfl λa E=>ae (ab (ak ?_)))))));refine qA E rfl λa E=>ae (ab (ab ?_));refine cj (λa w=>∃c0:Bool,fC p0 p2 a5 b6 J c0=some r107/\∃m',M.le m6 m'/\S W0 m' w L ((1,W)::TL)/\Env 88 a [(0,.int .i64 p0),(2,v2),(3,a6),(11,W),(14,.int .i64 J),(15,.int .i64 (-1)),(53,.int .i64 (Z3.wrap (p0+3))),(54,.int .i64 J),(65,.bool c0)]) ?_ ?_
 {
 refine ak (qM E rfl λa E=>qM E rfl λa E=>qB E rfl rfl cl λa E=>qM E rfl λa E=>?_);rcases Z1 (decide (J<p0)) with hd174|hd174
 {have h:=aF hd174 h;refine qG E hd174 rfl λa E=>qG E hd174 rfl λa E=>spg E rfl rfl rfl rfl hd174 (bh (k:=(ag .i64)) E rfl rfl underlying49 (e3.mono (Z0 Z (Z0 a9 (Z0 a0 (Z0 a1 (Z0 a2 (Z0 a4 (Z0 b7 b0))))))))) rfl λa E=>spg E rfl rfl rfl rfl hd174 (a7 E rfl rfl cl) rfl λa E=>qT E hd174 rfl λa E=>ae ?_;exact⟨(decide (J<(p2.length:Int))),h,_,(Z2 _),hS,kut E⟩}
 {have h:=aG hd174 h;refine qX E hd174 λa E=>qX E hd174 λa E=>qX E hd174 λa E=>qX E hd174 λa E=>qF E hd174 rfl λa E=>ae ?_;exact⟨false,h,_,(Z2 _),hS,kut E⟩}}
 {
 rintro a w ⟨c0,h,i8,b5,hS,E⟩;unfold fC at h;refine cj (λa w=>∃b3:Int,gY p0 a5 b6 J b3=some r107/\∃m',M.le i8 m'/\inR .i64 b3/\S W0 m' w L ((1,W)::TL)/\Env 88 a [(0,.int .i64 p0),(2,v2),(3,a6),(11,W),(14,.int .i64 J),(15,.int .i64 b3),(53,.int .i64 (Z3.wrap (p0+3))),(54,.int .i64 J)]) ?_ ?_
 {
 refine kif E rfl (λc2=>?_) (λc2=>?_)
 {have h:=aF c2 h;refine ak (qM E rfl λa E=>qM E rfl λa E=>?_);obtain⟨k5,h0,h⟩:=ob h;refine st E (bn (k:=(ag .i64)) E rfl rfl underlying49 sizeOf3 (e3.mono (Z0 Z (Z0 a9 (Z0 a0 (Z0 a1 (Z0 a2 (Z0 a4 (Z0 b7 (Z0 b0 b5))))))))) h0) rfl ?_;rintro o2 a _ ⟨rfl,m1⟩ E;refine st E (aO E hS ty3 rfl m1) rfl ?_;rintro q2 a _ ⟨rfl,j1⟩ E;obtain⟨rfl,k0⟩:=aJ j1;refine qA E rfl λa E=>ae ?_;exact⟨k5,h,_,(Z2 _),k0,hS,kut E⟩}
 {have h:=aG c2 h;refine aV ?_;exact⟨(-1),h,_,(Z2 _),(show inR .i64 (-1) from au (by decide)),hS,kut E⟩}}
 {
 rintro a w ⟨b3,h,r1,d2,l1,hS,E⟩;unfold gY at h;refine ab (ak (qM E rfl λa E=>qM E rfl λa E=>qM E rfl λa E=>qM E rfl λa E=>?_));obtain⟨q1,m4,h⟩:=ob h;refine st E (aL (vs:=[(.int .i64 p0),(.int .i64 J),a6]) E rfl call77 (zT (hS:=hS) e4 g6 (c1.mono (Z0 a0 (Z0 a1 (Z0 a2 (Z0 a4 (Z0 b7 (Z0 b0 (Z0 b5 d2)))))))) m4)) rfl ?_;rintro i1 a w ⟨q6,e7,hS,j3⟩ E;obtain⟨m9,m7,h⟩:=ob h;refine st E (aL (vs:=[(.int .i64 b3),i1]) E rfl call76 (zU (hS:=hS) l1 j3 m7)) rfl ?_;rintro s3 a w ⟨p8,f6,hS,c5⟩ E
 refine qA E rfl λa E=>ae (ak (qM E rfl λa E=>qM E rfl λa E=>sp E (bh (k:=(ag .u8)) E rfl rfl underlying24 c5) rfl λa E=>?_));obtain⟨q5,l3,h⟩:=ob h;refine st E (aL (vs:=[W,(.int .i64 (m9.length:Int))]) E rfl call75 (qU (hS:=(hS.pickT 3 [2,0,1] rfl rfl rfl)) (f9.mono (Z0 b5 (Z0 d2 (Z0 e7 f6)))) (eE (jX c5)) l3)) rfl ?_;rintro o0 a w ⟨r4,g0,hS,g1⟩ E;refine qM E rfl λa E=>?_;obtain⟨h9,k6,h⟩:=ob h
 refine st E (fF (k:=(ag .u8)) (N:=140737488355328) E hS rfl rfl underlying24 underlying24 el5 (i:=0) rfl g1 (c5.mono g0) k6 rfl rfl) rfl ?_;rintro j0 a w ⟨p5,h6,hS,i4⟩ E;refine qA E rfl λa E=>ae (ak (qB E rfl rfl (br rfl) λa E=>qM E rfl λa E=>ae ?_));exact⟨(h9,Z3.wrap (J+1)),(Option.some.inj h).symm,_,(Z0 b0 (Z0 b5 (Z0 d2 (Z0 e7 (Z0 f6 (Z0 g0 h6)))))),j0,i4,(aA _ _),(hS.pickT 3 [0] rfl rfl rfl),kut E⟩}}}
 {have h:=aG c4 h;refine d4 rfl rfl ?_;have h:=bY h hb108;exact⟨b6,h,_,b0,W,f9,hS,kut E⟩}}}
 {
 rintro a w ⟨c7,h,r8,g8,a3,e9,hS,E⟩;unfold jx at h;refine ab (ak (qM E rfl λa E=>qM E rfl λa E=>?_));obtain⟨i2,g9,h⟩:=ob h;refine st E (aL (vs:=[a3]) E rfl call78 (zd (hS:=hS) e9 g9)) rfl ?_;rintro r0 a w ⟨n4,f0,hS,h3⟩ E;obtain⟨rfl,r5⟩:=aJ h3;refine sp E (dw E rfl underlying55 underlying3 rfl) rfl λa E=>?_;obtain⟨t4,j4,h⟩:=ob h;refine st E (aL (vs:=[a3,(.int .i64 (Z3.wrap i2))]) E rfl call75 (qU (hS:=hS) (e9.mono f0) (aA _ _) j4)) rfl ?_;rintro t1 a w ⟨s2,g7,hS,g2⟩ E;refine qA E rfl λa E=>qA E rfl λa E=>ae (bD ?_);obtain rfl:=oi h
 try dsimp only
 refine f2 E ?_;exact⟨_,(Z0 Z (Z0 a9 (Z0 a0 (Z0 a1 (Z0 a2 (Z0 a4 (Z0 b7 (Z0 g8 (Z0 f0 g7))))))))),(hS.dropT 1),_,_,rfl,g2,(aq (show inR .i64 0 from au (by decide)))⟩}}}
theorem T5:Ctr Sz prog 31 [.rd (.int .i64),.rd (.sl (.int .i64)),.rd (.sl (.int .i64)),.rd (.sl (.st 59))] [.rd (.sl (.int .u8)),.rd (.int .i64)] (λx=>gG x.1 x.2.1 x.2.2.1 x.2.2.2.1):=by
 intro W0 m w L TL vs x r Lp Tp hS hP h;obtain⟨v0,vs,rfl,a0,a4⟩:=iJ hP;obtain⟨rfl,n0⟩:=aJ a0;obtain⟨v1,vs,rfl,a1,a6⟩:=iJ a4;obtain⟨v2,vs,rfl,Z,a5⟩:=iJ a6;obtain⟨v3,vs,rfl,a3,J⟩:=iJ a5;obtain⟨rfl,rfl,rfl⟩:=lV J;refine rm (Bf (hS:=hS) n0 a1 Z a3 h) λv w' he=>?_;obtain⟨m',hm,Z',u0,u1,rfl,r0,W⟩:=he;exact⟨m',[u0,u1],[],[],[],hm,Z',rfl,⟨r0,⟨W,trivial⟩⟩,trivial⟩
def L3:=mC T5 call31
theorem T6:Ctr Sz prog 82 [.rd (.sl (.int .u8))] [.rd (.int .i64)] (λx=>dG x.1):=
 ncR [] [2] func82 ntmps82 .o λx=>by kernel_rfl
theorem lU (hS:S W0 m w L TL) {p0}(Z:RV (kSl (ag .u8)) m v0 p0) {r}(h:dG p0=some r):
    Calls prog 82 #[v0] w (Ret λv w'=>∃m',M.le m m'/\S W0 m' w' L TL/\RV (ag .i64) m' v r):=by
 refine rm (T6 W0 m w L TL [v0] (p0,()) r [] [] hS ⟨Z,trivial⟩ h) λv w' W=>?_;obtain⟨m',us,Lr,Lq,Tr,hm,Z',rfl,hR,hO⟩:=W;obtain⟨u0,us,rfl,r0,J⟩:=cM hR;obtain⟨rfl,rfl,rfl⟩:=b9 J;have a0:=bp hO;obtain rfl:=cc a0;exact⟨m',hm,Z',r0⟩
end
open Go.Proofs Tryz
noncomputable section
variable {W0:Bse}{m:M}{w:World}{L:List (Nat×List Value)}{TL:List (Nat×Value)}{v0 v1 v2 v3 v4 v5 v6 v7 v8 v9:Value}
theorem wT  {Z:Nat}(hS:S W0 m w ((Z,uo)::L) (TL)) {p1}(b6:RV (kSl (ag .u8)) m v1 p1) {r}(h:dq p1=some r):
    Calls prog 83 #[(pz Z),v1] w (Ret λv w'=>∃m',M.le m m'/\∃q0_:List Value,S W0 m' w' ((Z,q0_)::L) (TL)/\bS.R m' q0_ r.2.2.2/\∃v0_ v1_ v2_:Value,v= .tuple #[v0_,v1_,v2_]/\RV (ag .i64) m' v0_ r.1/\RV (kSl (ag .u8)) m' v1_ r.2.1/\RV cL m' v2_ r.2.2.1):=by
 refine kc func83 ntmps83 λa E=>?_;have E:Env 83 a [(0,pz Z),(1,v1)]:=E;unfold dq at h;refine ab (ak (qA E rfl λa E=>qA E rfl λa E=>qA E rfl λa E=>ae (ab (ab ?_))));refine cj (λa w=>∃x6:Bool,dz p1 x6=some r/\∃m',M.le m m'/\S W0 m' w ((Z,uo)::L) (TL)/\Env 83 a [(0,pz Z),(1,v1),(21,.bool x6)]) ?_ ?_
 {
 refine ak (qM E rfl λa E=>sp E (bh (k:=(ag .u8)) E rfl rfl underlying24 b6) rfl λa E=>qB E rfl rfl cl λa E=>qM E rfl λa E=>?_);rcases Z1 (decide ((p1.length:Int)<6)) with hd355|hd355
 {have h:=aF hd355 h;refine qX E hd355 λa E=>qX E hd355 λa E=>qX E hd355 λa E=>qX E hd355 λa E=>qX E hd355 λa E=>qX E hd355 λa E=>qT E hd355 rfl λa E=>ae ?_;exact⟨true,h,_,(Z2 _),hS,kut E⟩}
 {
 have h:=aG hd355 h;refine qG E hd355 rfl λa E=>?_;obtain⟨t4,j0,h⟩:=ob h;refine stg E rfl rfl rfl rfl hd355 (cS (k:=(ag .u8)) E rfl underlying24 sizeOf5 b6 rfl ⟨_,rfl⟩ j0 (xl:=none) (xh:=(some (.const (.int .i64 4))))) rfl ?_;rintro r2 a _ ⟨rfl,g9⟩ E;obtain⟨i2,h4,h⟩:=ob h;refine stg E rfl rfl rfl rfl hd355 (Mp E rfl underlying178 g9 h4) rfl ?_;rintro s3 a _ ⟨rfl,h6⟩ E;refine stg E rfl rfl rfl rfl hd355 (aO E hS Te rfl h6) rfl ?_;rintro r4 a _ ⟨rfl,i8⟩ E
 refine stg E rfl rfl rfl rfl hd355 (HW (m:=m) E rfl underlying178 sizeOf5 zeroValue178 (show inR .u8 72 from au (by decide)) (show inR .u8 65 from au (by decide)) (show inR .u8 89 from au (by decide)) (show inR .u8 49 from au (by decide))) rfl ?_;rintro t5 a _ ⟨rfl,n1⟩ E;refine spg E rfl rfl rfl rfl hd355 (w9 E Tf rfl rfl i8 n1 rfl) rfl λa E=>qF E hd355 rfl λa E=>ae ?_;exact⟨(!decide (i2=(72,65,89,49))),h,_,(Z2 _),hS,kut E⟩}}
 {
 rintro a w ⟨x6,h,m4,b2,hS,E⟩;unfold dz at h;refine kif E rfl (λc7=>?_) (λc7=>?_)
 {
 have h:=aF c7 h;refine ab (ak (qA E rfl λa E=>qA E rfl λa E=>qA E rfl λa E=>ae (bD ?_)));obtain rfl:=oi h
 try dsimp only
 refine Fin.mk E (rs:=[.tmp 4,.tmp 5,.tmp 6]) rfl (sD.tmp E rfl (sD.tmp E rfl (sD.tmp E rfl sD.nil))) ?_;exact⟨_,b2,uo,hS,(Dv _),_,_,_,rfl,(aq (show inR .i64 0 from au (by decide))),cT,dT⟩}
 {
 have h:=aG c7 h;refine aV (ab (ak (qM E rfl λa E=>qM E rfl λa E=>?_)));obtain⟨t1,r0,h⟩:=ob h;refine st E (bn (k:=(ag .u8)) E rfl rfl underlying24 sizeOf5 (b6.mono b2) r0) rfl ?_;rintro u0 a _ ⟨rfl,m1⟩ E;refine st E (aO E hS ty5 rfl m1) rfl ?_;rintro s2 a _ ⟨rfl,j5⟩ E;obtain⟨rfl,r1⟩:=aJ j5;refine sp E (dw E rfl underlying5 underlying3 rfl) rfl λa E=>sp E (cz E rfl) rfl λa E=>sp E (aH E pH rfl) rfl λa E=>?_;refine st0 E (tN E hS ty3 Gu rfl rfl (aq (aA _ _)) (i:=0) rfl (Dv _)) ?_;rintro _ w ⟨g5,f6,h8,hS⟩ E;have h7:=h8 1 _ rfl (by decide)
 refine ae (ab (ak (qM E rfl λa E=>?_)));obtain⟨a1,o2,h⟩:=ob h;refine st E (bn (k:=(ag .u8)) E rfl rfl underlying24 sizeOf5 (b6.mono b2) o2) rfl ?_;rintro r5 a _ ⟨rfl,m3⟩ E;refine st E (aO E hS ty5 rfl m3) rfl ?_;rintro r8 a _ ⟨rfl,i4⟩ E;obtain⟨rfl,w3⟩:=aJ i4;refine sp E (dw E rfl underlying5 underlying3 rfl) rfl λa E=>qA E rfl λa E=>ae (ab (ak (qM E rfl λa E=>?_)));obtain⟨g3,k7,h⟩:=ob h;refine st E (cS (k:=(ag .u8)) E rfl underlying24 sizeOf5 (b6.mono b2) ⟨_,rfl⟩ rfl k7 (xl:=(some (.const (.int .i64 6)))) (xh:=none)) rfl ?_
 rintro a4 a _ ⟨rfl,b7⟩ E;refine qA E rfl λa E=>ae (ab (ab (ak (qM E rfl λa E=>sp E (bh (k:=(ag .u8)) E rfl rfl underlying24 b7) rfl λa E=>qM E rfl λa E=>qB E rfl rfl (br rfl) λa E=>qB E rfl rfl cl λa E=>?_))));refine ae (kif E rfl (λe0=>?_) (λe0=>?_))
 {
 have h:=aF e0 h;refine ab (ak (qA E rfl λa E=>qA E rfl λa E=>qA E rfl λa E=>ae (bD ?_)));obtain rfl:=oi h
 try dsimp only
 refine Fin.mk E (rs:=[.tmp 4,.tmp 5,.tmp 6]) rfl (sD.tmp E rfl (sD.tmp E rfl (sD.tmp E rfl sD.nil))) ?_;exact⟨_,b2,g5,hS,f6,_,_,_,rfl,(aq (show inR .i64 0 from au (by decide))),cT,dT⟩}
 {
 have h:=aG e0 h;refine aV (ab (ab (ak (qM E rfl λa E=>qM E rfl λa E=>?_))));obtain⟨g6,o3,h⟩:=ob h;refine st E (cS (k:=(ag .u8)) E rfl underlying24 sizeOf5 b7 rfl ⟨_,rfl⟩ o3 (xl:=none) (xh:=(some (.tmp 41)))) rfl ?_;rintro n3 a _ ⟨rfl,g2⟩ E;refine sp E (bh (k:=(ag .u8)) E rfl rfl underlying24 g2) rfl λa E=>qM E rfl λa E=>ae ?_;refine cj (λa w=>∃a3:aB,gp a1 g3 a3=some r/\∃m',M.le m4 m'/\∃(a6:List Value),∃(a2:Value),bS.R m' a6 a3/\a6[1]? =some a2/\S W0 m' w ((Z,a6)::L) ((1,a2)::TL)/\Env 83 a [(0,pz Z),(1,a4),(7,.int .i64 (Z3.wrap a1))]) ?_ ?_
 {
 refine bd ?_;refine eG h (λ(s:Int×aB) a w=>∃m',M.le m4 m'/\∃(b5:List Value),∃(b4:Value),inR .i64 s.1/\bS.R m' b5 s.2/\b5[1]? =some b4/\S W0 m' w ((Z,b5)::L) ((1,b4)::TL)/\Env 83 a [(0,pz Z),(1,a4),(7,.int .i64 (Z3.wrap a1)),(42,n3),(43,.int .i64 (g6.length:Int)),(44,.int .i64 s.1)]) ?_ ?_
 {exact⟨_,(Z2 _),g5,(.slice none 0 0),(show inR .i64 0 from au (by decide)),f6,h7,(hS.tail0 1),kut E⟩}
 {
 rintro ⟨g7,x308⟩ a w ⟨x1,e3,b5,b4,w1,c1,c3,hS,E⟩ r313 h hb314;have h:dW a1 g3 g6 g7 x308=some r313:=h;unfold dW at h;refine ab (ak (qB E rfl rfl cl λa E=>ae (ab (kif E rfl (λc6=>?_) (λc6=>?_)))))
 {
 have h:=aF c6 h;refine aV (ab (bd (ab (ak ?_))));obtain⟨f5,l1,h⟩:=ob h;refine st E (bn (k:=(ag .u8)) E rfl rfl underlying24 sizeOf5 (g2.mono e3) l1) rfl ?_;rintro t9 a _ ⟨rfl,h9⟩ E;refine st E (aO E hS ty5 rfl h9) rfl ?_;rintro w4 a _ ⟨rfl,o0⟩ E;obtain⟨rfl,t0⟩:=aJ o0
 refine qA E rfl λa E=>ae (ak (qM E rfl λa E=>qM E rfl λa E=>sp E (cz E rfl) rfl λa E=>sp E (aH E qR rfl) rfl λa E=>sp E (lq (k:=(ag .i64)) (xx:=x308.fSort) (v:=b4) E hS qQ rfl (i:=0) rfl (B3.R_drop (az c1)) c3) rfl λa E=>qM E rfl λa E=>sp E (dw E rfl underlying5 underlying3 rfl) rfl λa E=>?_));refine st E (f8 (k:=(ag .i64)) (xs:=[Z3.wrap f5]) (vs:=[(.int .i64 (Z3.wrap f5))]) E hS rfl underlying49 sizeOf3 zeroValue3 ⟨(aq (aA _ _)),trivial⟩ rfl (by decide)) rfl ?_;rintro r6 a w ⟨u1,e7,hS,h5⟩ E;obtain⟨p3,l2,h⟩:=ob h
 refine st E (fF (k:=(ag .i64)) (N:=17592186044416) E hS rfl rfl underlying49 underlying49 el3 (i:=1) rfl ((rQ (k:=(ag .i64)) (B3.R_drop (az c1)) c3).mono e7) h5 l2 rfl rfl) rfl ?_;rintro i1 a w ⟨r7,f9,hS,q4⟩ E;refine sp E (cz E rfl) rfl λa E=>sp E (aH E qR rfl) rfl λa E=>?_;refine st0 E (vC E hS qQ Gv rfl rfl q4 (i:=0) rfl (bS.mono (Z0 e7 f9) c1)) ?_;rintro _ w ⟨m6,h0,j1,hS⟩ E;refine ae (ak (qB E rfl rfl (br rfl) λa E=>qM E rfl λa E=>ae ?_))
 exact⟨(Z3.wrap (g7+1),{ x308 with fSort:=p3 }),(Option.some.inj h).symm,_,(Z0 e3 (Z0 e7 f9)),m6,i1,(aA _ _),h0,j1,(hS.pickT 2 [1] rfl rfl rfl),kut E⟩}
 {have h:=aG c6 h;refine d4 rfl rfl ?_;have h:=bY h hb314;exact⟨x308,h,_,e3,b5,b4,c1,c3,hS,kut E⟩}}}
 {
 rintro a w ⟨a3,h,r9,c2,a6,a2,b1,c0,hS,E⟩;unfold gp at h;refine ab (ak (qM E rfl λa E=>qM E rfl λa E=>?_));obtain⟨w0,q1,h⟩:=ob h;refine st E (cS (k:=(ag .u8)) E rfl underlying24 sizeOf5 (b7.mono c2) ⟨_,rfl⟩ rfl q1 (xl:=(some (.tmp 61))) (xh:=none)) rfl ?_;rintro d1 a _ ⟨rfl,m7⟩ E;obtain⟨a0,o1,h⟩:=ob h;refine st E (aL (vs:=[d1]) E rfl call82 (lU (hS:=hS) m7 o1)) rfl ?_;rintro w2 a w ⟨e6,a5,hS,l4⟩ E;obtain⟨rfl,f3⟩:=aJ l4;refine qA E rfl λa E=>ae (ab ?_)
 refine cj (λa w=>∃x86:Int,∃c4:(List Int),∃e9:Bool,gn a3 x86 c4 e9=some r/\∃m',M.le e6 m'/\∃(d0:Value),inR .i64 x86/\RV (kSl (ag .u8)) m' d0 c4/\S W0 m' w ((Z,a6)::L) ((1,a2)::TL)/\Env 83 a [(4,.int .i64 x86),(5,d0),(6,.bool e9)]) ?_ ?_
 {
 obtain⟨b3,g4,b0,g1,h⟩:=ob2 h;rcases Z1 (b0==0) with hd105|hd105
 {
 have h:=aF hd105 h
 refine kch (k:=21) (m:=e6) (es:=[]) (Φ:=(λi m ws v=>match i with|0=>ei .i64 a0 v|1=>v=a4|2=>ei .i64 (Z3.wrap a1) v|3=>ei .i64 (Z3.wrap ((Z3.wrap a1)+4)) v|4=>RV (kSl (ag .u8)) m v b3|5=>v=(pz Z)|6=>v=(pz Z)|7=>v=(pz Z)|8=>ei .i64 a3.fColumns v|9=>v=(pz Z)|10=>v=(pz Z)|11=>v=(.pointer (some ⟨Z,1,none⟩))|12=>v=a2|13=>ei .i64 b0 v|14=>v=(.bool (b0==0))|15=>v=(.bool (b0==0))|16=>ei .i64 a0 v|17=>v=(.bool (decide (a0<=4096)))|18=>v=(.bool (decide (a0<=4096)))|19=>ei .i64 a0 v|20=>RV (kSl (ag .u8)) m v b3|_=>True)) (Q:=(λc m ws L' f4=>match c with|0=>(Z,a6)::L=L'/\(1,a2)::TL=f4|_=>False)) (cs:=[CQ [(10,.int .i64 a0)],CQ [(1,a4)],CQ [(7,.int .i64 (Z3.wrap a1))],CQ [],CQ [],CQ [(0,pz Z)],CQ [],CQ [],CQ [],CQ [(0,pz Z)],CQ [],CQ [],CQ [],CQ [],CQ [],CQ [],CQ [(10,.int .i64 a0)],CQ [],CQ [],CQ [],CQ []]) mixed E hS ⟨rfl,rfl⟩ rfl rfl (by kernel_rfl) ?_ ?_ ?_ ?_
 {
 intro i m_ e4 ws v n_ q_
 iterate 21 (rcases i with _|i;first|exact q_|exact RV.mono q_ n_)
 exact trivial}
 {
 intro c m_ e4 ws L_ T_ n_ a9
 match c,a9 with
 |0,⟨f0,e8⟩=>exact⟨f0,e8⟩
 |_+1,a9=>exact a9.elim}
 {
 refine⟨?_,?_,?_,?_,?_,?_,?_,?_,?_,?_,?_,?_,?_,?_,?_,?_,?_,?_,?_,?_,?_,trivial⟩
 {exact cmv λ_ _=>⟨rfl,f3⟩}
 {exact cmv λ_ _=>rfl}
 {exact cmv λ_ _=>⟨rfl,(aA _ _)⟩}
 {refine cp0 λ_ _ _ _ _ _ _ _ _ J W T'=>?_;have E:=W.add (T' 2).1;exact cq (a7 E rfl rfl (br rfl)) J ⟨rfl,(aA _ _)⟩}
 {refine cp0 λ_ _ _ _ _ _ _ M' _ J W T'=>?_;have E:=(W.add (T' 1)).add (T' 3).1;exact cr (cS (k:=(ag .u8)) E rfl underlying24 sizeOf5 (b7.mono (Z0 c2 (Z0 a5 M'))) ⟨_,rfl⟩ rfl g4 (xl:=(some (.tmp 67))) (xh:=none)) J λ_ h=>h}
 {exact cmv λ_ _=>rfl}
 {refine cp0 λ_ _ _ _ _ _ _ _ _ J W T'=>?_;have E:=W.add (T' 5);exact cq (cz E rfl) J rfl}
 {refine cp0 λ_ _ _ _ _ _ _ _ _ J W T'=>?_;have E:=W.add (T' 6);exact cq (aH E pH rfl) J rfl}
 {refine cp1 λ_ _ _ _ _ M' Q' J W T'=>?_;obtain⟨rfl,rfl⟩:=Q';have E:=W.add (T' 7);exact cr (aK E J ty3 rfl (i:=0) rfl (Gt.R_drop (az (bS.mono (Z0 a5 M') b1)))) J λ_ h=>aJ h}
 {exact cmv λ_ _=>rfl}
 {refine cp0 λ_ _ _ _ _ _ _ _ _ J W T'=>?_;have E:=W.add (T' 9);exact cq (cz E rfl) J rfl}
 {refine cp0 λ_ _ _ _ _ _ _ _ _ J W T'=>?_;have E:=W.add (T' 10);exact cq (aH E qR rfl) J rfl}
 {refine cp1 λ_ _ _ _ _ M' Q' J W T'=>?_;obtain⟨rfl,rfl⟩:=Q';have E:=W.add (T' 11);exact cq (lq (k:=(ag .i64)) (xx:=a3.fSort) (v:=a2) E J qQ rfl (i:=0) rfl (B3.R_drop (az (bS.mono (Z0 a5 M') b1))) c0) J rfl}
 {refine cp0 λ_ _ _ _ _ _ _ M' _ J W T'=>?_;obtain⟨p8,g8⟩:=T' 8;have E:=(W.add p8).add (T' 12);refine be.imp (aL (vs:=[(.int .i64 a3.fColumns),a2,(.slice none 0 0)]) E rfl call74 (kP (hS:=J) g8 ((rQ (k:=(ag .i64)) (B3.R_drop (az (bS.mono a5 b1))) c0).mono M') cT g1)) ?_;rintro w5 w ⟨q6,d2,hS,c5⟩;obtain⟨rfl,h2⟩:=aJ c5;exact⟨_,d2,hS,⟨rfl,h2⟩⟩}
 {refine cp0 λ_ _ _ _ _ _ _ _ _ J W T'=>?_;have E:=W.add (T' 13).1;exact cq (a7 E rfl rfl jW) J rfl}
 {refine cp0 λ_ _ _ _ _ _ _ _ _ J W T'=>?_;have E:=W.add (T' 14);exact cq (iQ E rfl) J rfl}
 {exact cgm (gz hd105) (λ_ _=>⟨rfl,f3⟩)}
 {refine cg0 (gz hd105) λ_ _ _ _ _ _ _ _ _ J W T'=>?_;have E:=W.add (T' 16).1;exact cq (a7 E rfl rfl LA) J rfl}
 {refine cp0 λ_ _ _ _ _ _ _ _ _ J W T'=>?_;have E:=(W.add (T' 15)).add (T' 17);exact cq (uV E rfl hd105 rfl) J rfl}
 {refine cp0 λ_ _ _ _ _ _ _ _ _ J W T'=>?_;obtain⟨q5,p4⟩:=T' 0;have E:=W.add q5;exact cq (mM E rfl) J ⟨rfl,p4⟩}
 {refine cp0 λ_ _ _ m' a' _ _ _ _ J W T'=>?_;obtain⟨w6,E,n4⟩:=adv W (T' 4);exact cq (mM E rfl) J n4}}
 {intro n6 L_ T_ r3 a w q3 p6 h1 hS q2 l3 m8 e1;obtain rfl:=eH q3;obtain⟨rfl,rfl⟩:=h1;have E:=eof 21 [(0,pz Z),(1,a4),(7,.int .i64 (Z3.wrap a1)),(10,.int .i64 a0),(60,a4),(61,.int .i64 (Z3.wrap a1)),(62,d1),(63,.int .i64 a0)] q2 l3 m8;have E:=E.add (e1 18);obtain⟨j2,i3⟩:=e1 19;have E:=E.add j2;obtain⟨i0,E,p5⟩:=adv E (e1 20);refine qA E rfl λa E=>ae ?_;exact⟨a0,b3,(decide (a0<=4096)),h,_,p6,i0,i3,p5,hS,kut E⟩}}
 {
 have h:=aG hd105 h
 refine kch (k:=21) (m:=e6) (es:=[]) (Φ:=(λi m ws v=>match i with|0=>ei .i64 a0 v|1=>v=a4|2=>ei .i64 (Z3.wrap a1) v|3=>ei .i64 (Z3.wrap ((Z3.wrap a1)+4)) v|4=>RV (kSl (ag .u8)) m v b3|5=>v=(pz Z)|6=>v=(pz Z)|7=>v=(pz Z)|8=>ei .i64 a3.fColumns v|9=>v=(pz Z)|10=>v=(pz Z)|11=>v=(.pointer (some ⟨Z,1,none⟩))|12=>v=a2|13=>ei .i64 b0 v|14=>v=(.bool (b0==0))|15=>v=(.bool (b0==0))|16=>v=undef|17=>v=undef|18=>v=(.bool false)|19=>ei .i64 a0 v|20=>RV (kSl (ag .u8)) m v b3|_=>True)) (Q:=(λc m ws L' f4=>match c with|0=>(Z,a6)::L=L'/\(1,a2)::TL=f4|_=>False)) (cs:=[CQ [(10,.int .i64 a0)],CQ [(1,a4)],CQ [(7,.int .i64 (Z3.wrap a1))],CQ [],CQ [],CQ [(0,pz Z)],CQ [],CQ [],CQ [],CQ [(0,pz Z)],CQ [],CQ [],CQ [],CQ [],CQ [],CQ [],CQ [(10,.int .i64 a0)],CQ [],CQ [],CQ [],CQ []]) mixed E hS ⟨rfl,rfl⟩ rfl rfl (by kernel_rfl) ?_ ?_ ?_ ?_
 {
 intro i m_ e4 ws v n_ q_
 iterate 21 (rcases i with _|i;first|exact q_|exact RV.mono q_ n_)
 exact trivial}
 {
 intro c m_ e4 ws L_ T_ n_ a9
 match c,a9 with
 |0,⟨f0,e8⟩=>exact⟨f0,e8⟩
 |_+1,a9=>exact a9.elim}
 {
 refine⟨?_,?_,?_,?_,?_,?_,?_,?_,?_,?_,?_,?_,?_,?_,?_,?_,?_,?_,?_,?_,?_,trivial⟩
 {exact cmv λ_ _=>⟨rfl,f3⟩}
 {exact cmv λ_ _=>rfl}
 {exact cmv λ_ _=>⟨rfl,(aA _ _)⟩}
 {refine cp0 λ_ _ _ _ _ _ _ _ _ J W T'=>?_;have E:=W.add (T' 2).1;exact cq (a7 E rfl rfl (br rfl)) J ⟨rfl,(aA _ _)⟩}
 {refine cp0 λ_ _ _ _ _ _ _ M' _ J W T'=>?_;have E:=(W.add (T' 1)).add (T' 3).1;exact cr (cS (k:=(ag .u8)) E rfl underlying24 sizeOf5 (b7.mono (Z0 c2 (Z0 a5 M'))) ⟨_,rfl⟩ rfl g4 (xl:=(some (.tmp 67))) (xh:=none)) J λ_ h=>h}
 {exact cmv λ_ _=>rfl}
 {refine cp0 λ_ _ _ _ _ _ _ _ _ J W T'=>?_;have E:=W.add (T' 5);exact cq (cz E rfl) J rfl}
 {refine cp0 λ_ _ _ _ _ _ _ _ _ J W T'=>?_;have E:=W.add (T' 6);exact cq (aH E pH rfl) J rfl}
 {refine cp1 λ_ _ _ _ _ M' Q' J W T'=>?_;obtain⟨rfl,rfl⟩:=Q';have E:=W.add (T' 7);exact cr (aK E J ty3 rfl (i:=0) rfl (Gt.R_drop (az (bS.mono (Z0 a5 M') b1)))) J λ_ h=>aJ h}
 {exact cmv λ_ _=>rfl}
 {refine cp0 λ_ _ _ _ _ _ _ _ _ J W T'=>?_;have E:=W.add (T' 9);exact cq (cz E rfl) J rfl}
 {refine cp0 λ_ _ _ _ _ _ _ _ _ J W T'=>?_;have E:=W.add (T' 10);exact cq (aH E qR rfl) J rfl}
 {refine cp1 λ_ _ _ _ _ M' Q' J W T'=>?_;obtain⟨rfl,rfl⟩:=Q';have E:=W.add (T' 11);exact cq (lq (k:=(ag .i64)) (xx:=a3.fSort) (v:=a2) E J qQ rfl (i:=0) rfl (B3.R_drop (az (bS.mono (Z0 a5 M') b1))) c0) J rfl}
 {refine cp0 λ_ _ _ _ _ _ _ M' _ J W T'=>?_;obtain⟨k4,k6⟩:=T' 8;have E:=(W.add k4).add (T' 12);refine be.imp (aL (vs:=[(.int .i64 a3.fColumns),a2,(.slice none 0 0)]) E rfl call74 (kP (hS:=J) k6 ((rQ (k:=(ag .i64)) (B3.R_drop (az (bS.mono a5 b1))) c0).mono M') cT g1)) ?_;rintro u2 w ⟨q6,d2,hS,c5⟩;obtain⟨rfl,h3⟩:=aJ c5;exact⟨_,d2,hS,⟨rfl,h3⟩⟩}
 {refine cp0 λ_ _ _ _ _ _ _ _ _ J W T'=>?_;have E:=W.add (T' 13).1;exact cq (a7 E rfl rfl jW) J rfl}
 {refine cp0 λ_ _ _ _ _ _ _ _ _ J W T'=>?_;have E:=W.add (T' 14);exact cq (iQ E rfl) J rfl}
 {exact csk (gz hd105)}
 {exact csk (gz hd105)}
 {refine cp0 λ_ _ _ _ _ _ _ _ _ J W T'=>?_;have E:=(W.add (T' 15)).add (T' 17);exact cq (uW E rfl hd105 rfl) J rfl}
 {refine cp0 λ_ _ _ _ _ _ _ _ _ J W T'=>?_;obtain⟨i5,k0⟩:=T' 0;have E:=W.add i5;exact cq (mM E rfl) J ⟨rfl,k0⟩}
 {refine cp0 λ_ _ _ m' a' _ _ _ _ J W T'=>?_;obtain⟨t3,E,q7⟩:=adv W (T' 4);exact cq (mM E rfl) J q7}}
 {intro n6 L_ T_ s1 a w m2 k5 p7 hS k3 q0 n0 e5;obtain rfl:=eH m2;obtain⟨rfl,rfl⟩:=p7;have E:=eof 21 [(0,pz Z),(1,a4),(7,.int .i64 (Z3.wrap a1)),(10,.int .i64 a0),(60,a4),(61,.int .i64 (Z3.wrap a1)),(62,d1),(63,.int .i64 a0)] k3 q0 n0;have E:=E.add (e5 18);obtain⟨j3,m9⟩:=e5 19;have E:=E.add j3;obtain⟨j4,E,p2⟩:=adv E (e5 20);refine qA E rfl λa E=>ae ?_;exact⟨a0,b3,false,h,_,k5,j4,m9,p2,hS,kut E⟩}}}
 {
 rintro a w ⟨x86,c4,e9,h,s4,g0,d0,m5,n2,hS,E⟩;unfold gn at h;refine bD ?_;obtain rfl:=oi h
 try dsimp only
 refine Fin.mk E (rs:=[.tmp 4,.tmp 5,.tmp 6]) rfl (sD.tmp E rfl (sD.tmp E rfl (sD.tmp E rfl sD.nil))) ?_;exact⟨_,(Z0 b2 (Z0 c2 (Z0 a5 g0))),a6,(hS.dropT 1),(bS.mono (Z0 a5 g0) b1),_,_,_,rfl,(aq m5),n2,dT⟩}}}}}
theorem Rw:Ctr Sz prog 195 [.rd (.sl (.int .u8))] [.rd (.int .u64)] (λx=>re x.1):=
 ncR [] [2] func195 ntmps195 (.s .o (.s .o (.s (.s .o (.b (.l ⟨[.v 3 1 (.dat (.int .u64) none),.v 5 1 (.dat (.int .i64) none)],[0],0,[]⟩ .o))) .o))) λx=>by kernel_rfl
def Rx:=mC Rw call195
theorem Ry:Ctr Sz prog 183 [.rd (.sl (.int .u8))] [.rd (.st 32),.rd (.sl (.int .u8)),.rd .bool] (λx=>tW x.1):=
 nxR [Fh,A9,Jn,Jo,Rx] [.cell 2 32,.tmp 3,.tmp 4] func183 ntmps183 .o λx=>by kernel_rfl
def Rz:=mC Ry call183
theorem RA:Ctr Sz prog 163 [.rd (.sl (.int .u8))] [.rd (.sl (.st 32)),.rd (.int .i64)] (λx=>ml x.1):=
 ncR [Rz] [2,3] func163 ntmps163 (.s .o (.s .o (.s .o (.s .o (.s (.s .o (.b (.l ⟨[.v 0 1 (.dat (.sl (.int .u8)) none),.v 4 1 (.dat (.sl (.st 32)) (some 0)),.v 25 1 (.dat (.int .i64) none)],[24],0,[4]⟩ .o))) .o))))) λx=>by kernel_rfl
def Jx:=mC RA call163
theorem RB:Ctr Sz prog 119 [.rd (.sl (.int .u8))] [.rd (.st 32),.rd (.sl (.int .u8)),.rd .bool] (λx=>mn x.1):=
 nxR [Jx] [.cell 2 32,.tmp 3,.tmp 4] func119 ntmps119 (.s .o (.s (.s .o (.b (.l ⟨[.v 5 1 (.dat (.int .i64) none)],[0,2],1,[]⟩ .o))) .o)) λx=>by kernel_rfl
def RC:=mC RB call119
theorem T7:Ctr Sz prog 57 [.rd (.sl (.int .u8))] [.rd (.st 34),.rd (.sl (.int .u8)),.rd .bool] (λx=>iY x.1):=
 nxR [RC] [.cell 2 34,.tmp 3,.tmp 4] func57 ntmps57 .o λx=>by kernel_rfl
theorem Fp (hS:S W0 m w L TL) {p0}(a0:RV (kSl (ag .u8)) m v0 p0) {r}(h:iY p0=some r):
    Calls prog 57 #[v0] w (Ret λv w'=>∃m',M.le m m'/\S W0 m' w' L TL/\∃v0_ v1_ v2_:Value,v= .tuple #[v0_,v1_,v2_]/\RV cX m' v0_ r.1/\RV (kSl (ag .u8)) m' v1_ r.2.1/\RV cL m' v2_ r.2.2):=by
 refine rm (T7 W0 m w L TL [v0] (p0,()) r [] [] hS ⟨a0,trivial⟩ h) λv w' he=>?_;obtain⟨m',us,Lr,Lq,Tr,hm,Z',rfl,hR,hO⟩:=he;obtain⟨u0,us,rfl,r0,Z⟩:=cM hR;obtain⟨u1,us,rfl,W,a1⟩:=cM Z;obtain⟨J,us,rfl,r2,a3⟩:=cM a1;obtain⟨rfl,rfl,rfl⟩:=b9 a3;have a2:=bp hO;obtain rfl:=cc a2;exact⟨m',hm,Z',u0,u1,J,rfl,r0,W,r2⟩
theorem wU (hS:S W0 m w L TL) {p0}(W:RV (kSl (ag .u8)) m v0 p0) {r}(h:kM p0=some r):
    Calls prog 60 #[v0] w (Ret λv w'=>∃m',M.le m m'/\S W0 m' w' L ((1,v)::TL)/\RV (kSl (ag .u8)) m' v r):=by
 refine kc func60 ntmps60 λa E=>?_;have E:Env 8 a [(0,v0)]:=E;unfold kM at h;refine ab (ak (qA E rfl λa E=>ae (ab (ab (ak (qM E rfl λa E=>?_))))));refine st E (zk (k:=(ag .u8)) E rfl rfl W underlying24) rfl ?_;rintro v5 a _ ⟨rfl,b2,rfl,a5⟩ E;refine ae (kif E rfl (λJ=>?_) (λJ=>?_))
 {
 have a4:=a5 J;have h:some ([])=some r:=by rw[a4] at h;exact h
 refine ab (ak (qA E rfl λa E=>ae (bD ?_)));obtain rfl:=oi h
 try dsimp only
 refine f1 E ?_;exact⟨_,(Z2 _),((hS.dropT 0).tail0 1),cT⟩}
 {
 refine aV (ab (ak ?_));refine st E (f8 (k:=(ag .u8)) (xs:=[]) (vs:=[]) E hS rfl underlying24 sizeOf5 zeroValue5 trivial rfl (by decide)) rfl ?_;rintro b1 a w ⟨m9,Z,hS,a0⟩ E;refine qM E rfl λa E=>?_;obtain⟨a6,a2,h⟩:=ob h;refine st E (fF (k:=(ag .u8)) (N:=140737488355328) E hS rfl rfl underlying24 underlying24 el5 (i:=0) rfl a0 (W.mono Z) a2 rfl rfl) rfl ?_;rintro b0 a w ⟨a9,a3,hS,a1⟩ E;refine qA E rfl λa E=>ae (bD ?_);obtain rfl:=oi h
 try dsimp only
 refine f1 E ?_;exact⟨_,(Z0 Z a3),(hS.pickT 1 [0] rfl rfl rfl),a1⟩}
theorem L4:Ctr Sz prog 61 [.rd (.sl (.int .u8)),.rd (.sl (.int .u8))] [.rd .bool] (λx=>gw x.1 x.2.1):=
 ncR [] [4] func61 ntmps61 (.s .o (.s .o (.s (.s .o (.b (.l ⟨[.v 13 1 (.dat (.int .i64) none)],[0,1,12],0,[]⟩ .o))) .o))) λx=>by kernel_rfl
def T8:=mC L4 call61
theorem wV (hS:S W0 m w L TL) {p0}(a0:RV (kSl (ag .u8)) m v0 p0) {p1}(W:RV (kSl (ag .u8)) m v1 p1) {r}(h:gw p0 p1=some r):
    Calls prog 61 #[v0,v1] w (Ret λv w'=>∃m',M.le m m'/\S W0 m' w' L TL/\RV cL m' v r):=by
 refine rm (L4 W0 m w L TL [v0,v1] (p0,p1,()) r [] [] hS ⟨a0,⟨W,trivial⟩⟩ h) λv w' Z=>?_;obtain⟨m',us,Lr,Lq,Tr,hm,Z',rfl,hR,hO⟩:=Z;obtain⟨u0,us,rfl,r0,J⟩:=cM hR;obtain⟨rfl,rfl,rfl⟩:=b9 J;have a2:=bp hO;have a1:=bp a2;obtain rfl:=cc a1;exact⟨m',hm,Z',r0⟩
theorem RD:Ctr Sz prog 164 [.pt (.st 161)] [.rd (.st 32)] (λx=>dD x.1):=
 nxR [Jx] [.cell 2 32] func164 ntmps164 (.s .o (.s (.s .o (.b (.l ⟨[.v 3 1 (.dat (.int .i64) none)],[0,2],2,[]⟩ .o))) .o)) λx=>by kernel_rfl
def RE:=mC RD call164
theorem RF:Ctr Sz prog 165 [.pt (.st 161),.rd (.int .i64)] [.rd (.sl (.int .u8))] (λx=>cU x.1 x.2.1):=
 ncR [] [4] func165 ntmps165 .o λx=>by kernel_rfl
def Bg:=mC RF call165
theorem RG:Ctr Sz prog 196 [.rd (.int .u32),.rd (.int .u32)] [.rd (.int .u32),.rd (.int .u32)] (λx=>G7 x.1 x.2.1):=
 ncR [] [4,5] func196 ntmps196 .o λx=>by kernel_rfl
def RH:=mC RG call196
theorem RI:Ctr Sz prog 197 [.rd (.int .u64),.rd (.int .u64)] [.rd (.int .u64),.rd (.int .u64)] (λx=>rV x.1 x.2.1):=
 ncR [] [4,5] func197 ntmps197 .o λx=>by kernel_rfl
def RJ:=mC RI call197
theorem RK:Ctr Sz prog 184 [.rd (.int .u64),.rd (.int .u64)] [.rd (.int .u64),.rd (.int .u64)] (λx=>vT x.1 x.2.1):=
 ncR [RH,RJ] [4,5] func184 ntmps184 .o λx=>by kernel_rfl
theorem HB (hS:S W0 m w L TL) {p0}(a0:inR .u64 p0) {p1}(Z:inR .u64 p1) {r}(h:vT p0 p1=some r):
    Calls prog 184 #[(.int .u64 p0),(.int .u64 p1)] w (Ret λv w'=>∃m',M.le m m'/\S W0 m' w' L TL/\∃v0_ v1_:Value,v= .tuple #[v0_,v1_]/\RV (ag .u64) m' v0_ r.1/\RV (ag .u64) m' v1_ r.2):=by
 refine rm (RK W0 m w L TL [(.int .u64 p0),(.int .u64 p1)] (p0,p1,()) r [] [] hS ⟨aq a0,⟨aq Z,trivial⟩⟩ h) λv w' he=>?_;obtain⟨m',us,Lr,Lq,Tr,hm,Z',rfl,hR,hO⟩:=he;obtain⟨u0,us,rfl,r0,W⟩:=cM hR;obtain⟨u1,us,rfl,J,a1⟩:=cM W;obtain⟨rfl,rfl,rfl⟩:=b9 a1;have a3:=bp hO;have a2:=bp a3;obtain rfl:=cc a2;exact⟨m',hm,Z',u0,u1,rfl,r0,J⟩
theorem vr (hS:S W0 m w L TL) {p0}(c4:RV (kSl kAp) m v0 p0) {p1}(i4:inR .i64 p1) {r}(h:fg p0 p1=some r):
    Calls prog 166 #[v0,(.int .i64 p1)] w (Ret λv w'=>∃m',M.le m m'/\S W0 m' w' L TL/\RV (kSl kAp) m' v r):=by
 refine kc func166 ntmps166 λa E=>?_;have E:Env 48 a [(0,v0),(1,.int .i64 p1)]:=E;unfold fg at h;refine ab (ak (qA E rfl λa E=>ae (ab (ab (ak (qM E rfl λa E=>qB E rfl rfl cl λa E=>ae ?_))))));refine cj (λa w=>il p0 p1=some r/\∃m',M.le m m'/\S W0 m' w L TL/\Env 48 a [(0,v0),(1,.int .i64 p1)]) ?_ ?_
 {
 refine kif E rfl (λb3=>?_) (λb3=>?_)
 {have h:=aF b3 h;cases h}
 {have h:=aG b3 h;refine aV ?_;exact⟨h,_,(Z2 _),hS,kut E⟩}}
 {
 rintro a w ⟨h,m4,b4,hS,E⟩;unfold il at h;refine ab (ak (qM E rfl λa E=>sp E (bh (k:=kAp) E rfl rfl underlying22 (c4.mono b4)) rfl λa E=>sp E (dw E rfl underlying3 underlying94 rfl) rfl λa E=>qM E rfl λa E=>sp E (dw E rfl underlying3 underlying94 rfl) rfl λa E=>?_));obtain⟨a0,g6,h⟩:=ob h;refine st E (aL (vs:=[(.int .u64 (Z5.wrap (p0.length:Int))),(.int .u64 (Z5.wrap p1))]) E rfl call184 (HB (hS:=hS) (aA _ _) (aA _ _) g6)) rfl ?_;rintro _ a w ⟨f0,e0,hS,j5,i5,rfl,g1,e4⟩ E;obtain⟨rfl,j2⟩:=aJ g1;obtain⟨rfl,i0⟩:=aJ e4
 refine qM E rfl λa E=>sp E (ct E rfl rfl) rfl λa E=>sp E (ct E rfl rfl) rfl λa E=>qA E rfl λa E=>qA E rfl λa E=>ae (ab (ab ?_));refine cj (λa w=>∃b2:Bool,fk p0 a0 b2=some r/\∃m',M.le f0 m'/\S W0 m' w L TL/\Env 48 a [(0,v0),(6,.int .u64 a0.2),(26,.bool b2)]) ?_ ?_
 {
 refine ak (qM E rfl λa E=>qB E rfl rfl kL λa E=>qM E rfl λa E=>?_);rcases Z1 (decide (0<a0.1)) with hd138|hd138
 {have h:=aF hd138 h;refine qX E hd138 λa E=>qX E hd138 λa E=>qT E hd138 rfl λa E=>ae ?_;exact⟨true,h,_,(Z2 _),hS,kut E⟩}
 {have h:=aG hd138 h;refine qG E hd138 rfl λa E=>spg E rfl rfl rfl rfl hd138 (a7 E rfl rfl kL) rfl λa E=>qF E hd138 rfl λa E=>ae ?_;exact⟨(decide (9223372036854775807<a0.2)),h,_,(Z2 _),hS,kut E⟩}}
 {
 rintro a w ⟨b2,h,g2,d1,hS,E⟩;unfold fk at h;refine cj (λa w=>ik p0 a0=some r/\∃m',M.le g2 m'/\S W0 m' w L TL/\Env 48 a [(0,v0),(6,.int .u64 a0.2)]) ?_ ?_
 {
 refine kif E rfl (λa6=>?_) (λa6=>?_)
 {have h:=aF a6 h;cases h}
 {have h:=aG a6 h;refine aV ?_;exact⟨h,_,(Z2 _),hS,kut E⟩}}
 {
 rintro a w ⟨h,b5,d0,hS,E⟩;unfold ik at h;refine ab (ak (qM E rfl λa E=>sp E (dw E rfl underlying94 underlying3 rfl) rfl λa E=>?_));obtain⟨h7,h3,h⟩:=ob h;refine st E (DM (k:=kAp) (m:=b5) E hS rfl rfl underlying22 type32 rfl rfl rfl (λm=>tz m) h3 rfl rfl) rfl ?_;rintro W a w ⟨Z,i1,c6,hS⟩ E;refine qA E rfl λa E=>ae (ab (ak (qM E rfl λa E=>qM E rfl λa E=>?_)));refine st E (DO (k:=kAp) E hS rfl rfl underlying22 sizeOf32 (i:=0) rfl c6 (c4.mono (Z0 b4 (Z0 e0 (Z0 d1 d0))))) rfl ?_;rintro j3 a _ ⟨rfl,h4,f4,hS⟩ E;refine qA E rfl λa E=>ae (ab ?_)
 refine cj (λa w=>∃b6:(List Ap),ii b6=some r/\∃m',M.le b5 m'/\∃(c0:Value),RV (kSl kAp) m' c0 b6/\S W0 m' w L TL/\Env 48 a [(7,c0)]) ?_ ?_
 {
 refine bd ?_;refine eG h (λ(s:Int×List Ap) a w=>∃m',M.le b5 m'/\∃(a4:List Value),inR .i64 s.1/\GS kAp m' Z a4 W s.2/\S W0 m' w ((Z,a4)::L) (TL)/\Env 48 a [(7,W),(8,.int .i64 s.1)]) ?_ ?_
 {exact⟨_,(Z2 _),h4,(eE (Nat.le_trans (Nat.min_le_right _ _) (GS.len c6))),f4,hS,kut E⟩}
 {
 rintro ⟨J,a5⟩ a w ⟨e5,c7,a4,b7,a3,hS,E⟩ r65 h hb66;have h:ij J a5=some r65:=h;unfold ij at h;refine ab (ab (ak (qM E rfl λa E=>qM E rfl λa E=>sp E (sF (k:=kAp) E rfl rfl underlying22 a3) rfl λa E=>qB E rfl rfl cl λa E=>ae (kif E rfl (λa9=>?_) (λa9=>?_)))))
 {
 have h:=aF a9 h;refine aV (bd ?_);obtain⟨a2,h5,a1,h0,h⟩:=ob2 h;obtain⟨j4,g4,c3,g5,h⟩:=ob2 h
 refine kch (k:=8) (m:=e5) (es:=[7]) (Φ:=(λi m ws v=>match i with|0=>ei .i64 J v|1=>v=W|2=>ei .i64 J v|3=>VS Z 4 v a2.1 a2.2|4=>v=W|5=>ei .i64 J v|6=>VS Z 4 v a1.1 a1.2|7=>ei .i64 ((min a1.2 a2.2:Nat):Int) v|_=>True)) (Q:=(λc m ws L' d2=>match c with|0=>(Z,a4)::L=L'/\TL=d2|1=>(Z,(wi ws 0).c)::L=L'/\TL=d2/\GS kAp m Z (wi ws 0).c W c3|_=>False)) (cs:=[⟨0,1,false,[(8,.int .i64 J)]⟩,CQ [(7,W)],CQ [(8,.int .i64 J)],CQ [],CQ [(7,W)],CQ [(8,.int .i64 J)],CQ [],⟨0,0,true,[]⟩]) mixed E hS ⟨rfl,rfl⟩ rfl rfl (by kernel_rfl) ?_ ?_ ?_ ?_
 {
 intro i m_ g8 ws v n_ q_
 iterate 8 (rcases i with _|i;exact q_)
 exact trivial}
 {
 intro c m_ g8 ws L_ T_ n_ b0
 match c,b0 with
 |0,⟨c2,c1⟩=>exact⟨c2,c1⟩
 |1,⟨c2,c1,f0_⟩=>exact⟨c2,c1,(GS.mono f0_ n_)⟩
 |_+2,b0=>exact b0.elim}
 {
 refine⟨?_,?_,?_,?_,?_,?_,?_,?_,trivial⟩
 {exact cmv λ_ _=>⟨rfl,b7⟩}
 {exact cmv λ_ _=>rfl}
 {exact cmv λ_ _=>⟨rfl,b7⟩}
 {refine cp1 λ_ _ _ _ _ M' Q' Z' E' T'=>?_;obtain⟨rfl,rfl⟩:=Q';have E:=(E'.add (T' 1)).add (T' 2).1;exact cr (vB (k:=kAp) E rfl underlying22 sizeOf32 (a3.mono M') ⟨_,rfl⟩ rfl h5 (sz:=4) rfl (xl:=(some (.tmp 40))) (xh:=none)) Z' λ_ h=>h}
 {exact cmv λ_ _=>rfl}
 {exact cmv λ_ _=>⟨rfl,b7⟩}
 {refine cp1 λ_ _ _ _ _ M' Q' Z' E' T'=>?_;obtain⟨rfl,rfl⟩:=Q';have E:=(E'.add (T' 4)).add (T' 5).1;exact cr (vB (k:=kAp) E rfl underlying22 sizeOf32 (a3.mono M') rfl ⟨_,rfl⟩ h0 (sz:=4) rfl (xl:=none) (xh:=(some (.tmp 43)))) Z' λ_ h=>h}
 {
 refine ym λh9 L_ T_ m' a' w' g3 M' Q' Z' E' T'=>?_;obtain rfl:=eH g3;obtain⟨rfl,rfl⟩:=Q';obtain⟨i3,f6,f5⟩:∃v,a'.tmps.getD 41 undef=v/\(VS Z 4 v a2.1 a2.2):=⟨_,rfl,T' 3 (by decide) 41 rfl⟩
 have E:=E'.add (f6);obtain⟨i8,e1,e7⟩:∃v,a'.tmps.getD 44 undef=v/\(VS Z 4 v a1.1 a1.2):=⟨_,rfl,T' 6 (by decide) 44 rfl⟩
 have E:=E.add (e1);refine be.imp (HP (k:=kAp) E Z' rfl rfl underlying22 sizeOf32 (i:=0) rfl (a3.mono M') f5 e7 g5) ?_;rintro _ w ⟨rfl,b1,e9,hS⟩;exact⟨_,⟨0,undef,b1,[],[]⟩,_,_,Z2 _,hS,⟨rfl,rfl,e9⟩,⟨rfl,(eE (Z4 (ql g4)))⟩⟩}}
 {intro j1 L_ T_ j0 a w e8 e6 g7 hS g9 h6 e3 c5;obtain⟨⟨_,_,b1,_,_⟩,rfl⟩:=Bo e8;obtain⟨rfl,rfl,f9⟩:=g7;have E:=eof 8 [(7,W),(8,.int .i64 J),(34,.int .i64 J),(35,W),(36,.int .i64 (a5.length:Int)),(37,.bool (decide (J<(a5.length:Int))))] g9 h6 e3;have E:=(E.add (c5 0).1).add (c5 7).1;refine qB E rfl rfl (br rfl) λa E=>qA E rfl λa E=>ae ?_;exact⟨(Z3.wrap (J+((min a1.2 a2.2:Nat):Int)),c3),(Option.some.inj h).symm,_,(Z0 c7 e6),b1,(aA _ _),f9,hS,kut E⟩}}
 {have h:=aG a9 h;obtain⟨h8,h1,hS,g0⟩:=S.freeze hS a3;refine d4 rfl rfl ?_;have h:=bY h hb66;exact⟨a5,h,_,(Z0 c7 h1),W,g0,hS,kut E⟩}}}
 {
 rintro a w ⟨b6,h,i2,h2,c0,f3,hS,E⟩;unfold ii at h;refine ab (ak (qM E rfl λa E=>qA E rfl λa E=>ae (bD ?_)));obtain rfl:=oi h
 try dsimp only
 refine f1 E ?_;exact⟨_,(Z0 b4 (Z0 e0 (Z0 d1 (Z0 d0 h2)))),hS,f3⟩}}}}
theorem RL:Ctr Sz prog 166 [.rd (.sl (.st 32)),.rd (.int .i64)] [.rd (.sl (.st 32))] (λx=>fg x.1 x.2.1):=by
 intro W0 m w L TL vs x r Lp Tp hS hP h;obtain⟨v0,vs,rfl,a0,J⟩:=iJ hP;obtain⟨v1,vs,rfl,a1,a2⟩:=iJ J;obtain⟨rfl,n1⟩:=aJ a1;obtain⟨rfl,rfl,rfl⟩:=lV a2;refine rm (vr (hS:=hS) a0 n1 h) λv w' W=>?_;obtain⟨m',hm,Z',Z⟩:=W;exact⟨m',[v],[],[],[],hm,Z',rfl,⟨Z,trivial⟩,trivial⟩
def RM:=mC RL call166
theorem RN:Ctr Sz prog 167 [.pt (.st 161)] [.rd (.int .u64)] (λx=>gj x.1):=
 ncR [Bg] [2] func167 ntmps167 (.s .o (.s .o (.s (.s .o (.b (.l ⟨[.v 3 1 (.dat (.int .u64) none),.v 9 1 (.dat (.int .i64) none)],[7,8],1,[]⟩ .o))) .o))) λx=>by kernel_rfl
def RO:=mC RN call167
theorem RQ:Ctr Sz prog 168 [.pt (.st 161)] [.rd (.int .u64)] (λx=>fh x.1):=
 ncR [Bg] [2] func168 ntmps168 (.s .o (.s .o (.s (.s .o (.b (.l ⟨[.v 3 1 (.dat (.int .u64) none),.v 4 1 (.dat (.int .i64) none),.b 0 1 (.st 161)],[0],1,[]⟩ .o))) .o))) λx=>by kernel_rfl
def RR:=mC RQ call168
theorem RS:Ctr Sz prog 169 [.pt (.st 161),.rd (.int .i64),.rd (.int .i64)] [.rd (.sl (.int .u64))] (λx=>fm x.1 x.2.1 x.2.2.1):=
 ncR [Bg] [6] func169 ntmps169 (.s .o (.s .o (.s .o (.s .o (.s (.s .o (.b (.l ⟨[.v 30 1 (.dat (.int .i64) none),.a 1 1 (.int .u64) none],[2,7,8,29],2,[]⟩ (.s .o (.s .o (.s (.b (.s .o (.s .o (.b (.l ⟨[.v 34 2 (.dat (.int .i64) none),.a 1 2 (.int .u64) none],[2,7,8,9,29,30,33],2,[]⟩ .o))))) .o)))))) .o))))) λx=>by kernel_rfl
def RT:=mC RS call169
theorem RU:Ctr Sz prog 120 [.pt (.st 161),.rd (.int .i64),.rd (.int .i64)] [.ap (.st 32)] (λx=>bU x.1 x.2.1 x.2.2.1):=
 ncR [A9,Ri,RE,Bg,RM,RO,RR,RT] [6] func120 ntmps120 (.s .o (.s .o (.s (.s .o (.b (.s .o (.i (.b (.l ⟨[.v 7 1 (.dat (.sl (.st 32)) (some 0)),.b 0 1 (.st 161)],[0,2],1,[4]⟩ .o)) (.s .o (.i (.b (.l ⟨[.v 7 1 (.dat (.sl (.st 32)) (some 0)),.b 0 1 (.st 161)],[0,2],1,[4]⟩ .o)) (.s .o (.i (.s .o (.s .o (.b (.l ⟨[.v 7 1 (.dat (.sl (.st 32)) (some 1)),.v 9 1 (.dat (.int .i64) none),.b 0 1 (.st 161)],[0,2],1,[4,4]⟩ .o)))) (.s .o (.i (.s .o (.s (.s .o (.b (.l ⟨[.v 11 1 (.dat (.sl (.st 32)) (some 0)),.v 131 1 (.dat (.int .u8) none),.b 0 1 (.st 161)],[0,2,7,130],1,[4]⟩ .o))) (.s .o (.b (.l ⟨[.v 7 1 (.dat (.sl (.st 32)) (some 1)),.v 149 1 (.dat (.int .i64) none)],[11,147,148],1,[4,4]⟩ .o))))) (.s .o (.s .o (.b (.l ⟨[.v 7 1 (.dat (.sl (.st 32)) (some 0)),.v 29 1 (.dat (.int .i64) none)],[14,27,28],1,[4]⟩ .o)))))))))))))) .o))) λx=>by kernel_rfl
def RW:=mC RU call120
theorem T9:Ctr Sz prog 62 [.rd (.int .i64),.rd (.sl (.int .u8)),.rd (.int .i64)] [.rd (.sl (.st 32)),.rd (.int .i64)] (λx=>l5 x.1 x.2.1 x.2.2.1):=
 ncR [Dw,T8,RW] [6,7] func62 ntmps62 .o λx=>by kernel_rfl
theorem Bh (hS:S W0 m w L TL) {p0}(a1:inR .i64 p0) {p1}(a2:RV (kSl (ag .u8)) m v1 p1) {p2}(J:inR .i64 p2) {r}(h:l5 p0 p1 p2=some r):
    Calls prog 62 #[(.int .i64 p0),v1,(.int .i64 p2)] w (Ret λv w'=>∃m',M.le m m'/\S W0 m' w' L TL/\∃v0_ v1_:Value,v= .tuple #[v0_,v1_]/\RV (kSl kAp) m' v0_ r.1/\RV (ag .i64) m' v1_ r.2):=by
 refine rm (T9 W0 m w L TL [(.int .i64 p0),v1,(.int .i64 p2)] (p0,p1,p2,()) r [] [] hS ⟨aq a1,⟨a2,⟨aq J,trivial⟩⟩⟩ h) λv w' he=>?_;obtain⟨m',us,Lr,Lq,Tr,hm,Z',rfl,hR,hO⟩:=he;obtain⟨u0,us,rfl,r0,Z⟩:=cM hR;obtain⟨u1,us,rfl,W,a4⟩:=cM Z;obtain⟨rfl,rfl,rfl⟩:=b9 a4;have a5:=bp hO;have a3:=bp a5;have a0:=bp a3;obtain rfl:=cc a0;exact⟨m',hm,Z',u0,u1,rfl,r0,W⟩
theorem Fq (hS:S W0 m w L TL) {p0}(c5:RV (kSl (ag .u8)) m v0 p0) {r}(h:io p0=some r):
    Calls prog 21 #[v0] w (Ret λv w'=>∃m',M.le m m'/\S W0 m' w' L TL/\∃v0_ v1_ v2_:Value,v= .tuple #[v0_,v1_,v2_]/\RV (kSl kAp) m' v0_ r.1/\RV (ag .i64) m' v1_ r.2.1/\RV (ag .i64) m' v2_ r.2.2):=by
 refine kc func21 ntmps21 λa E=>?_;have E:Env 71 a [(0,v0)]:=E;unfold io at h;refine ab (ak (qA E rfl λa E=>qA E rfl λa E=>qA E rfl λa E=>ae (ab (ak (qM E rfl λa E=>?_)))));obtain⟨J,g4,h⟩:=ob h;refine st E (aL (vs:=[v0]) E rfl call57 (Fp (hS:=hS) c5 g4)) rfl ?_;rintro _ a w ⟨m7,a6,hS,d1,b2,p6,rfl,h4,k3,j3⟩ E;obtain rfl:=eS j3;refine qM E rfl λa E=>sp E (ct E rfl rfl) rfl λa E=>sp E (ct E rfl rfl) rfl λa E=>sp E (ct E rfl rfl) rfl λa E=>?_;refine st E (dv hS zeroValue34 rfl (cs:=wA)) rfl ?_;rintro _ a w ⟨a2,rfl,hS⟩ E
 refine st0 E (dh E hS zR bW rfl rfl h4 (i:=0) rfl (zQ _)) ?_;rintro _ w ⟨c0,a3,hS⟩ E;refine qA E rfl λa E=>qA E rfl λa E=>ae (ab (ab (ak (qM E rfl λa E=>sp E (ln E rfl) rfl λa E=>ae (kif E rfl (λe0=>?_) (λe0=>?_))))))
 {
 have h:=aF e0 h;refine ab (ak (qA E rfl λa E=>qA E rfl λa E=>qA E rfl λa E=>ae (bD ?_)));obtain rfl:=oi h
 try dsimp only
 refine Fin.mk E (rs:=[.tmp 2,.tmp 3,.tmp 4]) rfl (sD.tmp E rfl (sD.tmp E rfl (sD.tmp E rfl sD.nil))) ?_;exact⟨_,a6,(hS.dropL 1),_,_,_,rfl,cT,(aq (show inR .i64 0 from au (by decide))),(aq (show inR .i64 70 from au (by decide)))⟩}
 {
 have h:=aG e0 h;refine aV (ab (ak (qM E rfl λa E=>sp E (aH E A8 rfl) rfl λa E=>?_)));refine st E (aK E hS ty3 rfl (i:=0) rfl (OT.R_drop (az a3))) rfl ?_;rintro q4 a _ ⟨rfl,m2⟩ E;obtain⟨rfl,q2⟩:=aJ m2;refine qB E rfl rfl (iV rfl) λa E=>?_;obtain⟨p8,m5,h⟩:=ob h;refine st E (cS (k:=(ag .u8)) E rfl underlying24 sizeOf5 (c5.mono a6) rfl ⟨_,rfl⟩ m5 (xl:=none) (xh:=(some (.tmp 23)))) rfl ?_;rintro f0 a _ ⟨rfl,f9⟩ E;obtain⟨p3,k4,h⟩:=ob h;refine st E (aL (vs:=[f0]) E rfl call60 (wU (hS:=hS) f9 k4)) rfl ?_;rintro b1 a w ⟨g6,Z,hS,i4⟩ E
 refine qA E rfl λa E=>ae (ab (ab ?_));obtain⟨e1,i1,l2,m3,h⟩:=ob2 h
 refine kch (k:=6) (m:=g6) (es:=[1]) (Φ:=(λi m ws v=>match i with|0=>v=b1|1=>v=(wi ws 0).v/\RV (kSl (ag .u8)) m v e1|2=>v=v0|3=>v=(.pointer (some ⟨a2,11,none⟩))|4=>ei .i64 J.1.fBytes v|5=>RV (kSl (ag .u8)) m v l2|_=>True)) (Q:=(λc m ws L' c2=>match c with|0=>(a2,c0)::L=L'/\(1,b1)::TL=c2|1=>(a2,c0)::L=L'/\(1,(wi ws 0).v)::TL=c2|_=>False)) (cs:=[CQ [(8,b1)],⟨0,0,true,[]⟩,⟨0,1,false,[(0,v0)]⟩,⟨0,1,false,[(5,pz a2)]⟩,⟨0,1,false,[]⟩,⟨0,1,false,[]⟩]) mixed E hS ⟨rfl,rfl⟩ rfl rfl (by kernel_rfl) ?_ ?_ ?_ ?_
 {
 intro i m_ d0 ws v n_ q_
 iterate 6 (rcases i with _|i;first|exact q_|exact RV.mono q_ n_|exact⟨q_.1,RV.mono q_.2 n_⟩)
 exact trivial}
 {
 intro c m_ d0 ws L_ T_ n_ a5
 match c,a5 with
 |0,⟨b5,b4⟩=>exact⟨b5,b4⟩
 |1,⟨b5,b4⟩=>exact⟨b5,b4⟩
 |_+2,a5=>exact a5.elim}
 {
 refine⟨?_,?_,?_,?_,?_,?_,trivial⟩
 {exact cmv λ_ _=>rfl}
 {refine ym λn1 L_ T_ m' a' w' i0 M' Q' W E' T'=>?_;obtain rfl:=eH i0;obtain⟨rfl,rfl⟩:=Q';have E:=E'.add (T' 0 (by decide) 26 rfl);refine be.imp (aL (vs:=[b1]) E rfl call50 (Ca (hS:=W) (i4.mono M') i1)) ?_;rintro b3 w ⟨o3,l1,hS,h0⟩;exact⟨_,⟨0,b3,[],[],[]⟩,_,_,l1,hS,⟨rfl,rfl⟩,⟨rfl,h0⟩⟩}
 {exact cmv λ_ _=>rfl}
 {refine cp0 λ_ _ _ _ _ _ _ _ _ W E' _=>?_;exact cq (aH E' A8 rfl) W rfl}
 {
 refine cp0 λ_ _ _ _ _ _ P' M' Q' W E' T'=>?_;rcases GC (a:=0) (n:=0) P' with h0_|h0_
 {obtain rfl:=eH h0_;obtain⟨rfl,rfl⟩:=Q';have E:=E'.add (T' 3);exact cr (aK E W ty3 rfl (i:=0) rfl (OT.R_drop (az (cX.mono (Z0 Z M') a3)))) W λ_ h=>aJ h}
 {obtain⟨⟨_,b3,_,_,_⟩,post_',rfl,hp1_⟩:=h0_;obtain rfl:=eH (NT (a:=0) hp1_);obtain⟨rfl,rfl⟩:=Q';have E:=E'.add (T' 3);exact cr (aK E W ty3 rfl (i:=0) rfl (OT.R_drop (az (cX.mono (Z0 Z M') a3)))) W λ_ h=>aJ h}}
 {refine cp0 λ_ _ _ _ _ _ _ M' _ W E' T'=>?_;have E:=(E'.add (T' 2)).add (T' 4).1;exact cr (cS (k:=(ag .u8)) E rfl underlying24 sizeOf5 (c5.mono (Z0 a6 (Z0 Z M'))) rfl ⟨_,rfl⟩ m3 (xl:=none) (xh:=(some (.tmp 30)))) W λ_ h=>h}}
 {
 intro k6 L_ T_ h9 a w h6 a1 g2 hS i8 f4 j1 e9;obtain⟨⟨_,b3,_,_,_⟩,rfl⟩:=Bo h6;obtain⟨rfl,rfl⟩:=g2;have E:=eof 6 [(0,v0),(2,.slice none 0 0),(3,.int .i64 0),(4,.int .i64 0),(5,pz a2),(6,b2),(7,.bool J.2.2),(8,b1),(12,(.tuple #[d1,b2,(.bool J.2.2)])),(13,v0),(14,(.tuple #[d1,b2,(.bool J.2.2)])),(15,d1),(16,b2),(17,.bool J.2.2),(18,.bool J.2.2),(19,.bool (!J.2.2)),(20,v0),(21,.pointer (some ⟨a2,11,none⟩)),(22,.int .i64 J.1.fBytes),(23,.int .i64 (Z3.wrap (J.1.fBytes - 4))),(24,f0),(25,b1)] i8 f4 j1
 obtain⟨n0,h3,c1⟩:∃v,a.tmps.getD 27 undef=v/\(v=b3/\RV (kSl (ag .u8)) h9 v e1):=⟨_,rfl,e9 1⟩
 obtain⟨e3,c1⟩:=c1;rw[e3] at c1;have E:=E.add (h3.trans e3);obtain⟨l3,E,j4⟩:=adv E (e9 5);obtain⟨n4,m1,h⟩:=ob h;refine st E (aL (vs:=[b3,l3]) E rfl call61 (wV (hS:=hS) c1 j4 m1)) rfl ?_;rintro m8 a w ⟨p5,a0,hS,l4⟩ E;obtain rfl:=eS l4;refine sp E (ln E rfl) rfl λa E=>ae (kif E rfl (λc4=>?_) (λc4=>?_))
 {
 have h:=aF c4 h;refine ab (ak (qA E rfl λa E=>qA E rfl λa E=>qA E rfl λa E=>ae (bD ?_)));obtain rfl:=oi h
 try dsimp only
 refine Fin.mk E (rs:=[.tmp 2,.tmp 3,.tmp 4]) rfl (sD.tmp E rfl (sD.tmp E rfl (sD.tmp E rfl sD.nil))) ?_;exact⟨_,(Z0 a6 (Z0 Z (Z0 a1 a0))),((hS.dropL 1).dropT 1),_,_,_,rfl,cT,(aq (show inR .i64 0 from au (by decide))),(aq (show inR .i64 71 from au (by decide)))⟩}
 {
 have h:=aG c4 h;refine aV (ab (ak (sp E (aH E Fc rfl) rfl λa E=>?_)));refine st E (aK E hS ty3 rfl (i:=0) rfl (OO.R_drop (az (cX.mono (Z0 Z (Z0 a1 a0)) a3)))) rfl ?_;rintro p7 a _ ⟨rfl,i2⟩ E;obtain⟨rfl,k0⟩:=aJ i2;refine qM E rfl λa E=>sp E (aH E Jj rfl) rfl λa E=>?_;refine st E (aK E hS ty3 rfl (i:=0) rfl (OP.R_drop (az (cX.mono (Z0 Z (Z0 a1 a0)) a3)))) rfl ?_;rintro n3 a _ ⟨rfl,h2⟩ E;obtain⟨rfl,i3⟩:=aJ h2;obtain⟨m6,k5,h⟩:=ob h
 refine st E (aL (vs:=[(.int .i64 J.1.fKind),b2,(.int .i64 J.1.fMany)]) E rfl call62 (Bh (hS:=hS) k0 (k3.mono (Z0 Z (Z0 a1 a0))) i3 k5)) rfl ?_;rintro _ a w ⟨q6,a4,hS,b0,n6,rfl,e8,h8⟩ E;obtain⟨rfl,n2⟩:=aJ h8;refine qM E rfl λa E=>sp E (ct E rfl rfl) rfl λa E=>sp E (ct E rfl rfl) rfl λa E=>qA E rfl λa E=>qA E rfl λa E=>ae (ab (ab (ak (qM E rfl λa E=>?_))));refine qB E rfl rfl jF λa E=>ae (kif E rfl (λc3=>?_) (λc3=>?_))
 {
 have h:=aF c3 h;refine ab (ak (qA E rfl λa E=>qA E rfl λa E=>qA E rfl λa E=>ae (bD ?_)));obtain rfl:=oi h
 try dsimp only
 refine Fin.mk E (rs:=[.tmp 2,.tmp 3,.tmp 4]) rfl (sD.tmp E rfl (sD.tmp E rfl (sD.tmp E rfl sD.nil))) ?_;exact⟨_,(Z0 a6 (Z0 Z (Z0 a1 (Z0 a0 a4)))),((hS.dropL 1).dropT 1),_,_,_,rfl,cT,(aq (show inR .i64 0 from au (by decide))),(aq (show inR .i64 70 from au (by decide)))⟩}
 {
 have h:=aG c3 h;refine aV (ab (ak (sp E (aH E Fc rfl) rfl λa E=>?_)));refine st E (aK E hS ty3 rfl (i:=0) rfl (OO.R_drop (az (cX.mono (Z0 Z (Z0 a1 (Z0 a0 a4))) a3)))) rfl ?_;rintro q7 a _ ⟨rfl,f5⟩ E;obtain⟨rfl,k7⟩:=aJ f5;refine qM E rfl λa E=>?_;obtain⟨c7,j2,h⟩:=ob h;refine st E (aL (vs:=[(.int .i64 J.1.fKind),b0]) E rfl call48 (yf (hS:=hS) k7 e8 j2)) rfl ?_;rintro q1 a w ⟨g3,a9,hS,j0⟩ E;refine st E (dv hS zeroValue34 rfl (cs:=wA)) rfl ?_;rintro _ a w ⟨e7,rfl,hS⟩ E
 refine st0 E (dh E hS zR bW rfl rfl j0 (i:=0) rfl (zQ _)) ?_;rintro _ w ⟨e4,c6,hS⟩ E;refine ae (ab (ab ?_));refine cj (λa w=>∃b7:Bool,jT J m6 b7=some r/\∃m',M.le g3 m'/\S W0 m' w ((e7,e4)::(a2,c0)::L) (TL)/\Env 71 a [(5,pz a2),(9,b0),(67,.bool b7)]) ?_ ?_
 {
 refine ak (sp E (aH E ya rfl) rfl λa E=>?_);refine st E (aK E hS ty3 rfl (i:=0) rfl (OS.R_drop (az c6))) rfl ?_;rintro p2 a _ ⟨rfl,j5⟩ E;obtain⟨rfl,m9⟩:=aJ j5;refine sp E (aH E ya rfl) rfl λa E=>?_;refine st E (aK E hS ty3 rfl (i:=1) rfl (OS.R_drop (az (cX.mono (Z0 Z (Z0 a1 (Z0 a0 (Z0 a4 a9)))) a3)))) rfl ?_;rintro o1 a _ ⟨rfl,g7⟩ E;obtain⟨rfl,q5⟩:=aJ g7;refine qB E rfl rfl jF λa E=>qM E rfl λa E=>?_;rcases Z1 (c7.fNulls != J.1.fNulls) with hd205|hd205
 {have h:=aF hd205 h;refine qX E hd205 λa E=>qX E hd205 λa E=>qX E hd205 λa E=>qX E hd205 λa E=>qX E hd205 λa E=>qT E hd205 rfl λa E=>qM E rfl λa E=>qX E rfl λa E=>qX E rfl λa E=>qX E rfl λa E=>?_;refine qX E rfl λa E=>qX E rfl λa E=>qT E rfl rfl λa E=>ae ?_;exact⟨true,h,_,(Z2 _),(hS.pickT 1 [] rfl rfl rfl),kut E⟩}
 {
 have h:=aG hd205 h;refine spg E rfl rfl rfl rfl hd205 (aH E Fa rfl) rfl λa E=>?_;refine stg E rfl rfl rfl rfl hd205 (aK E hS eD rfl (i:=0) rfl (OQ.R_drop (az c6))) rfl ?_;rintro q0 a _ ⟨rfl,i5⟩ E;refine spg E rfl rfl rfl rfl hd205 (aH E Fa rfl) rfl λa E=>?_;refine stg E rfl rfl rfl rfl hd205 (aK E hS eD rfl (i:=1) rfl (OQ.R_drop (az (cX.mono (Z0 Z (Z0 a1 (Z0 a0 (Z0 a4 a9)))) a3)))) rfl ?_;rintro q3 a _ ⟨rfl,g8⟩ E;refine spg E rfl rfl rfl rfl hd205 (w9 E zP rfl rfl i5 g8 rfl) rfl λa E=>qF E hd205 rfl λa E=>qM E rfl λa E=>?_
 rcases Z1 (!decide (c7.fMin=J.1.fMin)) with hd218|hd218
 {have h:=aF hd218 h;refine qX E hd218 λa E=>qX E hd218 λa E=>qX E hd218 λa E=>qX E hd218 λa E=>qX E hd218 λa E=>qT E hd218 rfl λa E=>ae ?_;exact⟨true,h,_,(Z2 _),(hS.pickT 1 [] rfl rfl rfl),kut E⟩}
 {
 have h:=aG hd218 h;refine spg E rfl rfl rfl rfl hd218 (aH E Fb rfl) rfl λa E=>?_;refine stg E rfl rfl rfl rfl hd218 (aK E hS eD rfl (i:=0) rfl (OR.R_drop (az c6))) rfl ?_;rintro o2 a _ ⟨rfl,h1⟩ E;refine spg E rfl rfl rfl rfl hd218 (aH E Fb rfl) rfl λa E=>?_;refine stg E rfl rfl rfl rfl hd218 (aK E hS eD rfl (i:=1) rfl (OR.R_drop (az (cX.mono (Z0 Z (Z0 a1 (Z0 a0 (Z0 a4 a9)))) a3)))) rfl ?_;rintro o0 a _ ⟨rfl,f6⟩ E;refine spg E rfl rfl rfl rfl hd218 (w9 E zP rfl rfl h1 f6 rfl) rfl λa E=>qF E hd218 rfl λa E=>ae ?_
 exact⟨(!decide (c7.fMax=J.1.fMax)),h,_,(Z2 _),(hS.pickT 1 [] rfl rfl rfl),kut E⟩}}}
 {
 rintro a w ⟨b7,h,g1,b6,hS,E⟩;unfold jT at h;refine kif E rfl (λd2=>?_) (λd2=>?_)
 {
 have h:=aF d2 h;refine ab (ak (qA E rfl λa E=>qA E rfl λa E=>qA E rfl λa E=>ae (bD ?_)));obtain rfl:=oi h
 try dsimp only
 refine Fin.mk E (rs:=[.tmp 2,.tmp 3,.tmp 4]) rfl (sD.tmp E rfl (sD.tmp E rfl (sD.tmp E rfl sD.nil))) ?_;exact⟨_,(Z0 a6 (Z0 Z (Z0 a1 (Z0 a0 (Z0 a4 (Z0 a9 b6)))))),(hS.dropL 2),_,_,_,rfl,cT,(aq (show inR .i64 0 from au (by decide))),(aq (show inR .i64 70 from au (by decide)))⟩}
 {
 have h:=aG d2 h;refine aV (ab ?_);refine kch (k:=4) (m:=g1) (es:=[]) (Φ:=(λi m ws v=>match i with|0=>v=b0|1=>v=(.pointer (some ⟨a2,11,none⟩))|2=>ei .i64 J.1.fBytes v|3=>v=b0|_=>True)) (Q:=(λc m ws L' c2=>match c with|0=>(e7,e4)::(a2,c0)::L=L'/\TL=c2|_=>False)) (cs:=[CQ [(9,b0)],CQ [(5,pz a2)],CQ [],CQ []]) mixed E hS ⟨rfl,rfl⟩ rfl rfl (by kernel_rfl) ?_ ?_ ?_ ?_
 {
 intro i m_ d0 ws v n_ q_
 iterate 4 (rcases i with _|i;exact q_)
 exact trivial}
 {
 intro c m_ d0 ws L_ T_ n_ a5
 match c,a5 with
 |0,⟨b5,b4⟩=>exact⟨b5,b4⟩
 |_+1,a5=>exact a5.elim}
 {
 refine⟨?_,?_,?_,?_,trivial⟩
 {exact cmv λ_ _=>rfl}
 {refine cp0 λ_ _ _ _ _ _ _ _ _ W E' _=>?_;exact cq (aH E' A8 rfl) W rfl}
 {refine cp1 λ_ _ _ _ _ M' Q' W E' T'=>?_;obtain⟨rfl,rfl⟩:=Q';have E:=E'.add (T' 1);exact cr (aK E W ty3 rfl (i:=1) rfl (OT.R_drop (az (cX.mono (Z0 Z (Z0 a1 (Z0 a0 (Z0 a4 (Z0 a9 (Z0 b6 M')))))) a3)))) W λ_ h=>aJ h}
 {refine cp0 λ_ _ _ _ _ _ _ _ _ W E' T'=>?_;have E:=E'.add (T' 0);exact cq (mM E rfl) W rfl}}
 {
 intro k6 L_ T_ p4 a w h7 e5 g0 hS h5 m4 f3 e6;obtain rfl:=eH h7;obtain⟨rfl,rfl⟩:=g0;have E:=eof 4 [(5,pz a2),(9,b0),(67,.bool b7)] h5 m4 f3;obtain⟨g9,g5⟩:=e6 2;have E:=(E.add g9).add (e6 3);refine qA E rfl λa E=>qA E rfl λa E=>ae (bD ?_);obtain rfl:=oi h
 try dsimp only
 refine Fin.mk E (rs:=[.tmp 2,.tmp 3,.tmp 4]) rfl (sD.tmp E rfl (sD.tmp E rfl (sD.tmp E rfl sD.nil))) ?_;exact⟨_,(Z0 a6 (Z0 Z (Z0 a1 (Z0 a0 (Z0 a4 (Z0 a9 (Z0 b6 e5))))))),(hS.dropL 2),_,_,_,rfl,(e8.mono (Z0 a9 (Z0 b6 e5))),(aq g5),(aq (show inR .i64 0 from au (by decide)))⟩}}}}}}}
theorem zV (hS:S W0 m w L TL) {p0}(e8:RV (kSl (ag .u8)) m v0 p0) {p1}(h1:inR .i64 p1) {r}(h:d9 p0 p1=some r):
    Calls prog 84 #[v0,(.int .i64 p1)] w (Ret λv w'=>∃m',M.le m m'/\S W0 m' w' L TL/\∃v0_ v1_:Value,v= .tuple #[v0_,v1_]/\RV (kSl kAp) m' v0_ r.1/\RV cL m' v1_ r.2):=by
 refine kc func84 ntmps84 λa E=>?_;have E:Env 42 a [(0,v0),(1,.int .i64 p1)]:=E;unfold d9 at h;refine ab (ak (qA E rfl λa E=>qA E rfl λa E=>ae (ab (ak (qA E rfl λa E=>ae (ab ?_))))));refine cj (λa w=>∃x6:(List Ap),kN p1 x6=some r/\∃m',M.le m m'/\∃(v7:Value),RV (kSl kAp) m' v7 x6/\S W0 m' w L ((4,v7)::TL)/\Env 42 a [(1,.int .i64 p1),(6,v7)]) ?_ ?_
 {
 refine bd ?_;refine eG h (λ(s:List Int×List Ap) a w=>∃m',M.le m m'/\∃(W:Value),∃(J:Value),RV (kSl (ag .u8)) m' W s.1/\RV (kSl kAp) m' J s.2/\S W0 m' w L ((4,J)::TL)/\Env 42 a [(0,W),(1,.int .i64 p1),(6,J)]) ?_ ?_
 {exact⟨_,(Z2 _),v0,(.slice none 0 0),e8,cT,(hS.tail0 4),kut E⟩}
 {
 rintro ⟨c4,a1⟩ a w ⟨h6,b2,W,J,b1,c1,hS,E⟩ r25 h hb26;have h:bT p1 c4 a1=some r25:=h;unfold bT at h;refine ab (ab (ak (qM E rfl λa E=>sp E (bh (k:=(ag .u8)) E rfl rfl underlying24 b1) rfl λa E=>qB E rfl rfl kL λa E=>ae (kif E rfl (λb4=>?_) (λb4=>?_)))))
 {
 have h:=aF b4 h;refine aV (bd (ab (ak (qM E rfl λa E=>?_))));obtain⟨Z,e7,h⟩:=ob h;refine st E (aL (vs:=[W]) E rfl call21 (Fq (hS:=hS) b1 e7)) rfl ?_;rintro _ a w ⟨f6,a4,hS,a6,h7,h5,rfl,c3,g3,g8⟩ E;obtain⟨rfl,g6⟩:=aJ g3;obtain⟨rfl,h2⟩:=aJ g8;refine qM E rfl λa E=>sp E (ct E rfl rfl) rfl λa E=>sp E (ct E rfl rfl) rfl λa E=>sp E (ct E rfl rfl) rfl λa E=>qA E rfl λa E=>qA E rfl λa E=>qA E rfl λa E=>ae (ab (ab ?_))
 refine cj (λa w=>∃a9:Bool,gC c4 a1 Z a9=some r25/\∃m',M.le f6 m'/\S W0 m' w L ((4,J)::TL)/\Env 42 a [(0,W),(1,.int .i64 p1),(6,J),(7,a6),(8,.int .i64 Z.2.1),(30,.bool a9)]) ?_ ?_
 {
 refine ak (qM E rfl λa E=>qB E rfl rfl jF λa E=>qM E rfl λa E=>?_);rcases Z1 (Z.2.2 != 0) with hd110|hd110
 {have h:=aF hd110 h;refine qX E hd110 λa E=>qX E hd110 λa E=>qX E hd110 λa E=>qX E hd110 λa E=>qX E hd110 λa E=>qX E hd110 λa E=>qX E hd110 λa E=>qX E hd110 λa E=>qT E hd110 rfl λa E=>ae ?_;exact⟨true,h,_,(Z2 _),hS,kut E⟩}
 {
 have h:=aG hd110 h;refine qG E hd110 rfl λa E=>spg E rfl rfl rfl rfl hd110 (bh (k:=kAp) E rfl rfl underlying22 c3) rfl λa E=>qG E hd110 rfl λa E=>qG E hd110 rfl λa E=>spg E rfl rfl rfl rfl hd110 (bh (k:=kAp) E rfl rfl underlying22 (c1.mono a4)) rfl λa E=>spg E rfl rfl rfl rfl hd110 (a7 E rfl rfl (iV rfl)) rfl λa E=>spg E rfl rfl rfl rfl hd110 (DD E rfl rfl) rfl λa E=>spg E rfl rfl rfl rfl hd110 (a7 E rfl rfl jF) rfl λa E=>qF E hd110 rfl λa E=>ae ?_
 exact⟨((Z.1.length:Int) != (if (Z3.wrap (p1 - (a1.length:Int)))<64 then Z3.wrap (p1 - (a1.length:Int)) else 64)),h,_,(Z2 _),hS,kut E⟩}}
 {
 rintro a w ⟨a9,h,f5,a3,hS,E⟩;unfold gC at h;refine kif E rfl (λb6=>?_) (λb6=>?_)
 {
 have h:=aF b6 h;refine ab (ak (qA E rfl λa E=>qA E rfl λa E=>ae (bD ?_)));have h:=bY h hb26;obtain rfl:=oi h
 try dsimp only
 refine f2 E ?_;exact⟨_,(Z0 b2 (Z0 a4 a3)),(hS.dropT 1),_,_,rfl,cT,dT⟩}
 {
 have h:=aG b6 h;refine aV ?_;obtain⟨a2,f3,c6,g0,h⟩:=ob2 h
 refine kch (k:=7) (m:=f5) (es:=[2]) (Φ:=(λi m ws v=>match i with|0=>v=J|1=>v=a6|2=>v=(wi ws 0).v/\RV (kSl kAp) m v a2|3=>v=W|4=>ei .i64 Z.2.1 v|5=>RV (kSl (ag .u8)) m v c6|6=>v=(wi ws 0).v/\RV (kSl kAp) m v a2|_=>True)) (Q:=(λc m ws L' d0=>match c with|0=>L=L'/\(4,J)::TL=d0|1=>L=L'/\(4,(wi ws 0).v)::TL=d0|_=>False)) (cs:=[CQ [(6,J)],CQ [(7,a6)],⟨0,0,true,[]⟩,⟨0,1,false,[(0,W)]⟩,⟨0,1,false,[(8,.int .i64 Z.2.1)]⟩,⟨0,1,false,[]⟩,⟨1,1,false,[]⟩]) mixed E hS ⟨rfl,rfl⟩ rfl rfl (by kernel_rfl) ?_ ?_ ?_ ?_
 {
 intro i m_ f9 ws v n_ q_
 iterate 7 (rcases i with _|i;first|exact q_|exact RV.mono q_ n_|exact⟨q_.1,RV.mono q_.2 n_⟩)
 exact trivial}
 {
 intro c m_ f9 ws L_ T_ n_ b3
 match c,b3 with
 |0,⟨c0,b7⟩=>exact⟨c0,b7⟩
 |1,⟨c0,b7⟩=>exact⟨c0,b7⟩
 |_+2,b3=>exact b3.elim}
 {
 refine⟨?_,?_,?_,?_,?_,?_,?_,trivial⟩
 {exact cmv λ_ _=>rfl}
 {exact cmv λ_ _=>rfl}
 {refine ym λe3 L_ T_ m' a' w' b5 M' Q' Z' E' T'=>?_;obtain rfl:=eH b5;obtain⟨rfl,rfl⟩:=Q';have E:=(E'.add (T' 0 (by decide) 31 rfl)).add (T' 1 (by decide) 32 rfl);refine be.imp (fF (k:=kAp) (N:=3518437208883) E Z' rfl rfl underlying22 underlying22 B4 (i:=0) rfl (c1.mono (Z0 a4 (Z0 a3 M'))) (c3.mono (Z0 a3 M')) f3 rfl rfl) ?_;rintro a0 w ⟨g9,g7,hS,g5⟩;exact⟨_,⟨0,a0,[],[],[]⟩,_,_,g7,hS,⟨rfl,rfl⟩,⟨rfl,g5⟩⟩}
 {exact cmv λ_ _=>rfl}
 {exact cmv λ_ _=>⟨rfl,g6⟩}
 {refine cp0 λ_ _ _ _ _ _ _ M' _ Z' E' T'=>?_;have E:=(E'.add (T' 3)).add (T' 4).1;exact cr (cS (k:=(ag .u8)) E rfl underlying24 sizeOf5 (b1.mono (Z0 a4 (Z0 a3 M'))) ⟨_,rfl⟩ rfl g0 (xl:=(some (.tmp 35))) (xh:=none)) Z' λ_ h=>h}
 {
 refine HR λe3 p_ L_ T_ m' a' w' b5 P' M' Q' Z' E' T'=>?_;obtain⟨⟨_,a0,_,_,_⟩,rfl⟩:=Bo b5;obtain⟨h0,g4,a5⟩:∃v,a'.tmps.getD 33 undef=v/\(v=a0/\RV (kSl kAp) m' v a2):=⟨_,rfl,T' 2 (by decide) 33 rfl⟩
 obtain⟨d1,a5⟩:=a5;rw[d1] at a5;have E:=E'.add (g4.trans d1);refine be.imp (ay.pure (mM E rfl)) ?_;rintro _ _ ⟨rfl,rfl⟩;exact⟨_,Z2 _,Z',⟨rfl,a5⟩⟩}}
 {
 intro h3 L_ T_ g1 a w e4 e0 e1 hS e6 g2 e5 c2;obtain⟨⟨_,a0,_,_,_⟩,rfl⟩:=Bo e4;obtain⟨rfl,rfl⟩:=e1;have E:=eof 7 [(0,W),(1,.int .i64 p1),(7,a6),(8,.int .i64 Z.2.1),(30,.bool a9)] e6 g2 e5;obtain⟨f0,E,d2⟩:=adv E (c2 5);obtain⟨h4,f4,b0⟩:∃v,a.tmps.getD 6 undef=v/\(v=a0/\RV (kSl kAp) g1 v a2):=⟨_,rfl,c2 6⟩
 obtain⟨c5,b0⟩:=b0;rw[c5] at b0;have E:=E.add (f4.trans c5);refine qA E rfl λa E=>ae ?_;exact⟨(c6,a2),(Option.some.inj h).symm,_,(Z0 b2 (Z0 a4 (Z0 a3 e0))),f0,a0,d2,b0,hS,kut E⟩}}}}
 {have h:=aG b4 h;refine d4 rfl rfl ?_;have h:=bY h hb26;exact⟨a1,h,_,b2,J,c1,hS,kut E⟩}}}
 {
 rintro a w ⟨x6,h,m4,e9,v7,c7,hS,E⟩;unfold kN at h;refine ab (ak (qM E rfl λa E=>qM E rfl λa E=>sp E (bh (k:=kAp) E rfl rfl underlying22 c7) rfl λa E=>qM E rfl λa E=>qB E rfl rfl jW λa E=>qA E rfl λa E=>qA E rfl λa E=>ae ?_));refine bD ?_;obtain rfl:=oi h
 try dsimp only
 refine f2 E ?_;exact⟨_,e9,(hS.dropT 1),_,_,rfl,c7,dT⟩}
def Jy:Kd aB:=ph (λx:aB=>(x.fColumns,x.fSort,())) (bL (ag .i64) (bL (kSl (ag .i64)) zn))
theorem VP:Fld Jy (ag .i64) 0 (λx=>x.fColumns):=bP cY
theorem L5:du prog 50 zn:=⟨sizeOf50,isAgg50⟩
theorem wW  {W J:Nat}{a3 e0 c6:List Value}(hS:S W0 m w ((W,a3)::(J,e0)::L) (tls 4 c6++TL)) {p0}(f0:Jy.R m a3 p0){b2:Value}(l4:a3[2]? =some b2){pA:List aa}(i4:GR aj 2 m J e0 b2 pA c6) {p1}(r0:inR .i64 p1) {p2}(e9:RV (kSl kAp) m v2 p2) {r}(h:dt p0 pA p1 p2=some r):
    Calls prog 85 #[(pz W),(.int .i64 p1),v2] w (Ret λv w'=>∃m',M.le m m'/\∃q1_ rq_:List Value,S W0 m' w' ((W,a3)::(J,q1_)::L) (tls 4 rq_++TL)/\GR aj 2 m' J q1_ b2 r.2 rq_/\RV cL m' v r.1):=by
 refine kc func85 ntmps85 λa E=>?_;have E:Env 85 a [(0,pz W),(1,.int .i64 p1),(2,v2)]:=E;unfold dt at h;refine ab (ak (qA E rfl λa E=>ae (ab (ab (ak (qM E rfl λa E=>sp E (bh (k:=kAp) E rfl rfl underlying22 e9) rfl λa E=>qM E rfl λa E=>?_))))));refine ae ?_;refine cj (λa w=>∃x7:(List aa),gq x7=some r/\∃m',M.le m m'/\∃(c3 b3:List Value),GR aj 2 m' J c3 b2 x7 b3/\S W0 m' w ((W,a3)::(J,c3)::L) (tls 4 b3++TL)/\Env 85 a []) ?_ ?_
 {
 refine bd ?_;refine eG h (λ(s:Int×List aa) a w=>∃m',M.le m m'/\∃(a4 a2:List Value),inR .i64 s.1/\GR aj 2 m' J a4 b2 s.2 a2/\S W0 m' w ((W,a3)::(J,a4)::L) (tls 4 a2++TL)/\Env 85 a [(0,pz W),(1,.int .i64 p1),(10,v2),(11,.int .i64 (p2.length:Int)),(12,.int .i64 s.1)]) ?_ ?_
 {exact⟨_,(Z2 _),e0,c6,(show inR .i64 0 from au (by decide)),i4,hS,kut E⟩}
 {
 rintro ⟨b0,a6⟩ a w ⟨h1,a5,a4,a2,q4,a1,hS,E⟩ r19 h hb20;have h:bM p0 p1 p2 b0 a6=some r19:=h;unfold bM at h;refine ab (ak (qB E rfl rfl cl λa E=>ae (ab (kif E rfl (λe5=>?_) (λe5=>?_)))))
 {
 have h:=aF e5 h;refine aV (ab (bd (ab (ak (qM E rfl λa E=>?_)))));obtain⟨x24,l1,h⟩:=ob h;refine st E (bn (k:=kAp) E rfl rfl underlying22 sizeOf32 (e9.mono a5) l1) rfl ?_;rintro r2 a _ ⟨rfl,m7⟩ E;refine st E (aO E hS eD rfl m7) rfl ?_;rintro q6 a _ ⟨rfl,g8⟩ E;refine st E (dv hS zeroValue32 rfl (cs:=xZ)) rfl ?_;rintro _ a w ⟨b1,rfl,hS⟩ E;refine qA E rfl λa E=>?_;refine st0 E (dh E hS eD bW rfl rfl g8 (i:=0) rfl (tz _)) ?_;rintro _ w ⟨c1,a9,hS⟩ E
 refine ae (ab (ak (qM E rfl λa E=>sp E (cz E rfl) rfl λa E=>sp E (aH E qS rfl) rfl λa E=>sp E (Mr E hS L5 rfl (i:=1) rfl l4 a1.1.one) rfl λa E=>qM E rfl λa E=>?_)));obtain⟨a0,h5,h⟩:=ob h;refine sp E (mO (k:=aj) E rfl rfl underlying50 sizeOf59 a1.1 h5 rfl) rfl λa E=>qA E rfl λa E=>ae (ab (ab ?_))
 refine cj (λa w=>∃c2:Bool,cF p0 p1 b0 a6 x24 a0 c2=some r19/\∃m',M.le h1 m'/\S W0 m' w ((b1,c1)::(W,a3)::(J,a4)::L) (tls 4 a2++TL)/\Env 85 a [(0,pz W),(1,.int .i64 p1),(8,pz b1),(9,.pointer (some ⟨J,a0*4,none⟩)),(10,v2),(11,.int .i64 (p2.length:Int)),(12,.int .i64 b0),(38,.bool c2)]) ?_ ?_
 {
 refine ak (qM E rfl λa E=>qM E rfl λa E=>sp E (cz E rfl) rfl λa E=>sp E (aH E pH rfl) rfl λa E=>?_);refine st E (aK E hS ty3 rfl (i:=1) rfl (VP.R_drop (az (Jy.mono a5 f0)))) rfl ?_;rintro q1 a _ ⟨rfl,h6⟩ E;obtain⟨rfl,p5⟩:=aJ h6;refine qB E rfl rfl Dg λa E=>qM E rfl λa E=>?_;rcases Z1 (decide (p0.fColumns<=p1)) with hd194|hd194
 {
 have h:=aF hd194 h;refine spg E rfl rfl rfl rfl hd194 (aH E A7 rfl) rfl λa E=>?_;refine stg E rfl rfl rfl rfl hd194 (aK E hS ty3 rfl (i:=0) rfl (Jb.R_drop (az a9))) rfl ?_;rintro q3 a _ ⟨rfl,k3⟩ E;obtain⟨rfl,o2⟩:=aJ k3;refine spg E rfl rfl rfl rfl hd194 (a7 E rfl rfl jF) rfl λa E=>qG E hd194 rfl λa E=>?_;rcases Z1 (x24.fKind != 2) with hd201|hd201
 {have h:=aF hd201 h;refine qX E hd201 λa E=>qX E hd201 λa E=>qX E hd201 λa E=>spg E rfl rfl rfl rfl hd194 (uV E rfl hd201 rfl) rfl λa E=>qT E hd194 rfl λa E=>ae ?_;exact⟨true,h,_,(Z2 _),hS,kut E⟩}
 {have h:=aG hd201 h;refine spg E rfl rfl rfl rfl hd201 (aH E nr rfl) rfl λa E=>?_;refine stg E rfl rfl rfl rfl hd201 (aK E hS ty2 rfl (i:=0) rfl (vm.R_drop (az a9))) rfl ?_;rintro o1 a _ ⟨rfl,j3⟩ E;obtain⟨rfl,p4⟩:=aJ j3;refine spg E rfl rfl rfl rfl hd201 (a7 E rfl rfl cl) rfl λa E=>spg E rfl rfl rfl rfl hd194 (uW E rfl hd201 rfl) rfl λa E=>qT E hd194 rfl λa E=>ae ?_;exact⟨(decide (x24.fInt<0)),h,_,(Z2 _),hS,kut E⟩}}
 {have h:=aG hd194 h;refine qX E hd194 λa E=>qX E hd194 λa E=>qX E hd194 λa E=>qX E hd194 λa E=>sxu E rfl rfl rfl rfl λa E=>sxu E rfl rfl rfl rfl λa E=>sxu E rfl rfl rfl rfl λa E=>qX E hd194 λa E=>qF E hd194 rfl λa E=>ae ?_;exact⟨false,h,_,(Z2 _),hS,kut E⟩}}
 {
 rintro a w ⟨c2,h,f5,Z,hS,E⟩;unfold cF at h;refine kif E rfl (λd0=>?_) (λd0=>?_)
 {
 have h:=aF d0 h;refine ab (ak (qA E rfl λa E=>ae (bD ?_)));have h:=bY h hb20;obtain rfl:=oi h
 try dsimp only
 refine f1 E ?_;exact⟨_,(Z0 a5 Z),a4,a2,(hS.pickL 3 [1,2] rfl rfl rfl),(a1.mono Z),dT⟩}
 {
 have h:=aG d0 h;refine aV (ab (ak (qM E rfl λa E=>qM E rfl λa E=>sp E (cz E rfl) rfl λa E=>sp E (aH E pH rfl) rfl λa E=>?_)));refine st E (aK E hS ty3 rfl (i:=1) rfl (VP.R_drop (az (Jy.mono (Z0 a5 Z) f0)))) rfl ?_;rintro o3 a _ ⟨rfl,j2⟩ E;obtain⟨rfl,p7⟩:=aJ j2;refine qB E rfl rfl (iV rfl) λa E=>ae (bd (ab (ak (qB E rfl rfl jW λa E=>qA E rfl λa E=>ae ?_))))
 refine cj (λa w=>∃c0:(List aa),cE b0 c0=some r19/\∃m',M.le f5 m'/\∃(b5 b4:List Value),GR aj 2 m' J b5 b2 c0 b4/\S W0 m' w ((b1,c1)::(W,a3)::(J,b5)::L) (tls 4 b4++TL)/\Env 85 a [(0,pz W),(1,.int .i64 p1),(10,v2),(11,.int .i64 (p2.length:Int)),(12,.int .i64 b0)]) ?_ ?_
 {
 refine kif E rfl (λd2=>?_) (λd2=>?_)
 {
 have h:=aF d2 h;refine ak (qM E rfl λa E=>sp E (aH E nr rfl) rfl λa E=>?_);refine st E (aK E hS ty2 rfl (i:=0) rfl (vm.R_drop (az (kAp.mono Z a9)))) rfl ?_;rintro r7 a _ ⟨rfl,h7⟩ E;obtain⟨rfl,n6⟩:=aJ h7;refine sp E (dw E rfl underlying2 underlying54 rfl) rfl λa E=>sp E (cz E rfl) rfl λa E=>sp E (aH E qi rfl) rfl λa E=>sp E (aH E Jk rfl) rfl λa E=>?_;obtain⟨x82,k4,h⟩:=ob h;refine st0 E (xe (k:=aj) (o:=2) E hS Lh (DI A5 A6 E5) (a1.mono Z) k4 rfl rfl (aq (aA _ _)) (i:=2) rfl (by decide) (by decide)) ?_;rintro _ w ⟨l2,k7,hS⟩ E;refine ae ?_
 exact⟨(a6.set a0 ({ x82 with fId:={ x82.fId with fEpoch:=Z5.wrap x24.fInt } })),h,_,(Z2 _),l2,a2,k7,hS,kut E⟩}
 {
 have h:=aG d2 h;refine ab (ak (qB E rfl rfl jW λa E=>qA E rfl λa E=>ae (kif E rfl (λc7=>?_) (λc7=>?_))))
 {
 have h:=aF c7 h;refine ab (ab (ak (sp E (aH E nr rfl) rfl λa E=>?_)));refine st E (aK E hS ty2 rfl (i:=0) rfl (vm.R_drop (az (kAp.mono Z a9)))) rfl ?_;rintro r9 a _ ⟨rfl,h3⟩ E;obtain⟨rfl,r3⟩:=aJ h3;refine qB E rfl rfl kL λa E=>ae (kif E rfl (λe1=>?_) (λe1=>?_))
 {
 have h:=aF e1 h;refine ab (ak (qA E rfl λa E=>ae (bD ?_)));have h:=bY h hb20;obtain rfl:=oi h
 try dsimp only
 refine f1 E ?_;exact⟨_,(Z0 a5 Z),a4,a2,(hS.pickL 3 [1,2] rfl rfl rfl),(a1.mono Z),dT⟩}
 {
 have h:=aG e1 h;refine aV (ak (qM E rfl λa E=>sp E (aH E nr rfl) rfl λa E=>?_));refine st E (aK E hS ty2 rfl (i:=0) rfl (vm.R_drop (az (kAp.mono Z a9)))) rfl ?_;rintro q2 a _ ⟨rfl,n3⟩ E;obtain⟨rfl,q0⟩:=aJ n3;refine sp E (dw E rfl underlying2 underlying55 rfl) rfl λa E=>sp E (cz E rfl) rfl λa E=>sp E (aH E qi rfl) rfl λa E=>sp E (aH E Jl rfl) rfl λa E=>?_;obtain⟨x106,m3,h⟩:=ob h;refine st0 E (xe (k:=aj) (o:=2) E hS UW (DI A5 A6 E6) (a1.mono Z) m3 rfl rfl (aq (aA _ _)) (i:=2) rfl (by decide) (by decide)) ?_;rintro _ w ⟨i2,g5,hS⟩ E
 refine ae ?_;exact⟨(a6.set a0 ({ x106 with fId:={ x106.fId with fNumber:=IntKind.u32.wrap x24.fInt } })),h,_,(Z2 _),i2,a2,g5,hS,kut E⟩}}
 {
 have h:=aG c7 h;refine ab (ak (qB E rfl rfl jW λa E=>qA E rfl λa E=>ae (kif E rfl (λc5=>?_) (λc5=>?_))))
 {
 have h:=aF c5 h;refine ak (qM E rfl λa E=>sp E (aH E nr rfl) rfl λa E=>?_);refine st E (aK E hS ty2 rfl (i:=0) rfl (vm.R_drop (az (kAp.mono Z a9)))) rfl ?_;rintro q5 a _ ⟨rfl,i0⟩ E;obtain⟨rfl,r6⟩:=aJ i0;refine sp E (dw E rfl underlying2 underlying54 rfl) rfl λa E=>sp E (cz E rfl) rfl λa E=>sp E (aH E Fe rfl) rfl λa E=>?_;obtain⟨x122,g9,h⟩:=ob h;refine st0 E (xe (k:=aj) (o:=2) E hS Lh E8 (a1.mono Z) g9 rfl rfl (aq (aA _ _)) (i:=2) rfl (by decide) (by decide)) ?_;rintro _ w ⟨k6,j4,hS⟩ E;refine ae ?_
 exact⟨(a6.set a0 ({ x122 with fDeleted:=Z5.wrap x24.fInt })),h,_,(Z2 _),k6,a2,j4,hS,kut E⟩}
 {
 have h:=aG c5 h;obtain⟨g0,f6,d1,n4,h⟩:=ob2 h;obtain⟨b6,g2,g1⟩:=a1.row f6;obtain⟨f4,f9⟩:∃T,T=tls 4 (a2.eraseIdx a0)++TL:=⟨_,rfl⟩
 have hS:=hS.permT (JW g2 TL);rw[←f9] at hS
 refine kch (k:=8) (m:=f5) (es:=[7]) (Φ:=(λi m ws v=>match i with|0=>v=(.pointer (some ⟨J,a0*4,none⟩))|1=>v=(.pointer (some ⟨J,a0*4,none⟩))|2=>v=(.pointer (some ⟨J,a0*4,none⟩))|3=>v=(.pointer (some ⟨J,a0*4+2,none⟩))|4=>v=b6/\RV (kSl kAp) m v g0.fRow|5=>RV kAp m v x24|6=>RV (kSl kAp) m v ([x24])|7=>v=(wi ws 0).v/\RV (kSl kAp) m v d1|_=>True)) (Q:=(λc m ws L' g3=>match c with|0=>(b1,c1)::(W,a3)::(J,a4)::L=L'/\(4,b6)::f4=g3|1=>(b1,c1)::(W,a3)::(J,a4)::L=L'/\(4,(wi ws 0).v)::f4=g3|_=>False)) (cs:=[⟨0,1,false,[(9,.pointer (some ⟨J,a0*4,none⟩))]⟩,CQ [(9,.pointer (some ⟨J,a0*4,none⟩))],CQ [],CQ [],CQ [],CQ [(8,pz b1)],CQ [],⟨0,0,true,[]⟩]) mixed E hS ⟨rfl,rfl⟩ rfl rfl (by kernel_rfl) ?_ ?_ ?_ ?_
 {
 intro i m_ j5 ws v n_ q_
 iterate 8 (rcases i with _|i;first|exact q_|exact RV.mono q_ n_|exact⟨q_.1,RV.mono q_.2 n_⟩)
 exact trivial}
 {
 intro c m_ j5 ws L_ T_ n_ c4
 match c,c4 with
 |0,⟨e4,e3⟩=>exact⟨e4,e3⟩
 |1,⟨e4,e3⟩=>exact⟨e4,e3⟩
 |_+2,c4=>exact c4.elim}
 {
 refine⟨?_,?_,?_,?_,?_,?_,?_,?_,trivial⟩
 {exact cmv λ_ _=>rfl}
 {exact cmv λ_ _=>rfl}
 {refine cp0 λ_ _ _ _ _ _ _ _ _ Z' E' T'=>?_;have E:=E'.add (T' 1);exact cq (cz E rfl) Z' rfl}
 {refine cp0 λ_ _ _ _ _ _ _ _ _ Z' E' T'=>?_;have E:=E'.add (T' 2);exact cq (aH E tB rfl) Z' rfl}
 {refine cp1 λ_ _ _ _ _ M' Q' Z' E' T'=>?_;obtain⟨rfl,rfl⟩:=Q';have E:=E'.add (T' 3);have e8:=O9.R_drop (GS.elem (a1.1.mono (Z0 Z M')) f6);exact cq (lq (k:=kAp) (v:=b6) E Z' nt rfl (i:=2) rfl e8 g1) Z' ⟨rfl,rQ e8 g1⟩}
 {refine cp1 λ_ _ _ _ _ M' Q' Z' E' _=>?_;obtain⟨rfl,rfl⟩:=Q';exact cr (aK E' Z' eD rfl (i:=0) rfl (az (kAp.mono (Z0 Z M') a9))) Z' λ_ h=>h}
 {refine cp0 λ_ _ _ m' a' _ _ _ _ Z' E' T'=>?_;obtain⟨i5,E,m2⟩:=adv E' (T' 5);refine be.imp (f8 (k:=kAp) (xs:=[x24]) (vs:=[i5]) E Z' rfl underlying22 sizeOf32 zeroValue32 ⟨m2,trivial⟩ rfl (by decide)) ?_;rintro r8 w ⟨r5,k5,hS,h8⟩;exact⟨_,k5,(hS.dropT 1),h8⟩}
 {
 refine ym λp3 L_ T_ m' a' w' j0 M' Q' Z' E' T'=>?_;obtain rfl:=eH j0;obtain⟨rfl,rfl⟩:=Q';obtain⟨q7,i8,m9,m8⟩:∃v,a'.tmps.getD 49 undef=v/\(v=b6/\RV (kSl kAp) m' v g0.fRow):=⟨_,rfl,T' 4 (by decide) 49 rfl⟩
 subst m9;have E:=E'.add (i8);obtain⟨o0,E,g7⟩:=adv E (T' 6 (by decide) 51 rfl);refine be.imp (fF (k:=kAp) (N:=3518437208883) E Z' rfl rfl underlying22 underlying22 B4 (i:=0) rfl m8 g7 n4 rfl rfl) ?_;rintro e6 w ⟨p6,m1,hS,l3⟩;exact⟨_,⟨0,e6,[],[],[]⟩,_,_,m1,hS,⟨rfl,rfl⟩,⟨rfl,l3⟩⟩}}
 {
 intro r4 L_ T_ j1 a w h4 f3 h0 hS k0 m6 m4 g4;obtain⟨⟨_,e6,_,_,_⟩,rfl⟩:=Bo h4;obtain⟨rfl,rfl⟩:=h0
 have E:=eof 8 [(0,pz W),(1,.int .i64 p1),(8,pz b1),(9,.pointer (some ⟨J,a0*4,none⟩)),(10,v2),(11,.int .i64 (p2.length:Int)),(12,.int .i64 b0),(38,.bool c2),(39,.int .i64 p1),(40,pz W),(41,pz W),(42,pz W),(43,.int .i64 p0.fColumns),(44,.int .i64 (Z3.wrap (p1 - p0.fColumns))),(55,.bool ((Z3.wrap (p1 - p0.fColumns))==0)),(56,.bool ((Z3.wrap (p1 - p0.fColumns))==0)),(64,.bool ((Z3.wrap (p1 - p0.fColumns))==1)),(65,.bool ((Z3.wrap (p1 - p0.fColumns))==1)),(76,.bool ((Z3.wrap (p1 - p0.fColumns))==2)),(77,.bool ((Z3.wrap (p1 - p0.fColumns))==2))] k0 m6 m4
 have E:=E.add (g4 0);obtain⟨r1,h9,b7⟩:∃v,a.tmps.getD 52 undef=v/\(v=e6/\RV (kSl kAp) j1 v d1):=⟨_,rfl,g4 7⟩
 obtain⟨e7,b7⟩:=b7;rw[e7] at b7;have E:=E.add (h9.trans e7);refine sp E (cz E rfl) rfl λa E=>sp E (aH E tB rfl) rfl λa E=>?_;obtain⟨x182,g6,h⟩:=ob h;refine st0 E (Fy (k:=aj) (o:=2) E hS nt E7 (a1.mono (Z0 Z f3)) g6 rfl rfl b7 (i:=2) rfl) ?_;rintro _ w ⟨i3,n1,hS⟩ E;refine ae ?_;rw[f9] at hS;have hS:=hS.permT (JX (List.getElem?_eq_some_iff.1 g2).1 TL);exact⟨(a6.set a0 ({ x182 with fRow:=d1 })),h,_,f3,i3,_,n1,hS,kut E⟩}}}}}
 {rintro a w ⟨c0,h,p8,n2,b5,b4,n0,hS,E⟩;unfold cE at h;refine ak (qB E rfl rfl (br rfl) λa E=>qM E rfl λa E=>ae ?_);exact⟨(Z3.wrap (b0+1),c0),(Option.some.inj h).symm,_,(Z0 a5 (Z0 Z n2)),b5,b4,(aA _ _),n0,(hS.pickL 3 [1,2] rfl rfl rfl),kut E⟩}}}}
 {have h:=aG e5 h;refine d4 rfl rfl ?_;have h:=bY h hb20;exact⟨a6,h,_,a5,a4,a2,a1,hS,E.cut trivial⟩}}}
 {
 rintro a w ⟨x7,h,m5,i1,c3,b3,h2,hS,E⟩;unfold gq at h;refine ab (ak (qA E rfl λa E=>ae (bD ?_)));obtain rfl:=oi h
 try dsimp only
 refine f1 E ?_;exact⟨_,i1,c3,b3,hS,h2,dT⟩}
theorem RX:Ctr Sz prog 138 [.rd (.sl (.st 59)),.rd (.sl (.st 59)),.f2 (.st 59) (.st 59) .bool] [.rd .bool] (λx=>dH x.1 x.2.1 x.2.2.1):=
 ncR [] [6] func138 ntmps138 (.s .o (.s .o (.s (.s .o (.b (.l ⟨[.v 17 1 (.dat (.int .i64) none)],[1,2,15,16],0,[]⟩ .o))) .o))) λx=>by kernel_rfl
theorem rM (hS:S W0 m w L TL) {p0}(a0:RV (kSl aj) m v0 p0) {p1}(Z:RV (kSl aj) m v1 p1) {p2}(J:Fn2 prog aj aj cL m v2 p2) {r}(h:dH p0 p1 p2=some r):
    Calls prog 138 #[v0,v1,v2] w (Ret λv w'=>∃m',M.le m m'/\S W0 m' w' L TL/\RV cL m' v r):=by
 refine rm (RX W0 m w L TL [v0,v1,v2] (p0,p1,p2,()) r [] [] hS ⟨a0,⟨Z,⟨J,trivial⟩⟩⟩ h) λv w' he=>?_;obtain⟨m',us,Lr,Lq,Tr,hm,Z',rfl,hR,hO⟩:=he;obtain⟨u0,us,rfl,r0,W⟩:=cM hR;obtain⟨rfl,rfl,rfl⟩:=b9 W;have a3:=bp hO;have a2:=bp a3;have a1:=Do a2;obtain rfl:=cc a1;exact⟨m',hm,Z',r0⟩
theorem RY:Ctr Sz prog 139 [.rd (.st 59),.rd (.st 59)] [.rd .bool] (λx=>bR x.1 x.2.1):=
 ncR [] [4] func139 ntmps139 .o λx=>by kernel_rfl
theorem tH (hS:S W0 m w L TL) {p0}(a0:RV aj m v0 p0) {p1}(W:RV aj m v1 p1) {r}(h:bR p0 p1=some r):
    Calls prog 139 #[v0,v1] w (Ret λv w'=>∃m',M.le m m'/\S W0 m' w' L TL/\RV cL m' v r):=by
 refine rm (RY W0 m w L TL [v0,v1] (p0,p1,()) r [] [] hS ⟨a0,⟨W,trivial⟩⟩ h) λv w' Z=>?_;obtain⟨m',us,Lr,Lq,Tr,hm,Z',rfl,hR,hO⟩:=Z;obtain⟨u0,us,rfl,r0,J⟩:=cM hR;obtain⟨rfl,rfl,rfl⟩:=b9 J;have a2:=bp hO;have a1:=bp a2;obtain rfl:=cc a1;exact⟨m',hm,Z',r0⟩
theorem RZ {m0:M}:Fn2 prog aj aj cL m0 (.func (.func 139) #[] #[]) bR:=by
  refine⟨139,_,rfl,call139,?_⟩;intro W0 m w L TL v0 v1 x0 x1 r hm hS W J hr;refine(tH (hS:=hS) W J hr).mono ?_;intro e w' h;cases e with
  |returned v=>obtain⟨m',J,Z,h3⟩:=h;exact⟨m',J,Z,h3⟩
  |panicked ch=>exact h.elim
  |outgrown=>exact h.elim
theorem vt (hS:S W0 m w L TL) {p0}(a0:RV (kPt bS) m v0 p0) {r}(h:ej p0=some r):
    Calls prog 86 #[v0] w (Ret λv w'=>∃m',M.le m m'/\S W0 m' w' L TL/\RV cL m' v r):=by
 refine kc func86 ntmps86 λa E=>?_;have E:Env 19 a [(0,v0)]:=E;unfold ej at h;refine ab (ak (qA E rfl λa E=>ae (ab ?_)));obtain⟨x2,a4,x7,a6,h⟩:=ob2 h
 refine kch (k:=8) (m:=m) (es:=[]) (Φ:=(λi m ws v=>match i with|0=>v=v0|1=>v=v0|2=>PR (kSl (ag .i64)) m v x2.fSort|3=>RV (kSl (ag .i64)) m v x2.fSort|4=>v=v0|5=>v=v0|6=>PR (kSl aj) m v x7.fL|7=>RV (kSl aj) m v x7.fL|_=>True)) (Q:=(λc m ws L' c3=>match c with|0=>L=L'/\TL=c3|_=>False)) (cs:=[CQ [(0,v0)],CQ [],CQ [],CQ [],CQ [(0,v0)],CQ [],CQ [],CQ []]) mixed E hS ⟨rfl,rfl⟩ rfl rfl (by kernel_rfl) ?_ ?_ ?_ ?_
 {
 intro i m_ c6 ws v n_ q_
 iterate 8 (rcases i with _|i;first|exact q_|exact PR.mono q_ n_|exact RV.mono q_ n_)
 exact trivial}
 {
 intro c m_ c6 ws L_ T_ n_ a1
 match c,a1 with
 |0,⟨b4,b1⟩=>exact⟨b4,b1⟩
 |_+1,a1=>exact a1.elim}
 {
 refine⟨?_,?_,?_,?_,?_,?_,?_,?_,trivial⟩
 {exact cmv λ_ _=>rfl}
 {refine cp0 λ_ _ _ _ _ _ _ Z _ J W T'=>?_;have E:=W.add (T' 0);exact cq (rq E rfl (a0.mono Z) a4) J rfl}
 {refine cp0 λ_ _ _ _ _ _ _ Z _ J W T'=>?_;have E:=W.add (T' 1);exact cr (fc E qR B3 rfl ((rP a0 a4).mono Z)) J λ_ h=>h}
 {
 refine cp0 λ_ _ _ m' a' _ _ _ _ J W T'=>?_;obtain⟨f6,b3,c1⟩:∃v,a'.tmps.getD 6 undef=v/\(PR (kSl (ag .i64)) m' v x2.fSort):=⟨_,rfl,T' 2⟩
 have E:=W.add (b3);exact cr (aO E J qQ rfl c1) J λ_ h=>h}
 {exact cmv λ_ _=>rfl}
 {refine cp0 λ_ _ _ _ _ _ _ Z _ J W T'=>?_;have E:=W.add (T' 4);exact cq (rq E rfl (a0.mono Z) a6) J rfl}
 {refine cp0 λ_ _ _ _ _ _ _ Z _ J W T'=>?_;have E:=W.add (T' 5);exact cr (fc E qS vn rfl ((rP a0 a6).mono Z)) J λ_ h=>h}
 {
 refine cp0 λ_ _ _ m' a' _ _ _ _ J W T'=>?_;obtain⟨f9,e6,e4⟩:∃v,a'.tmps.getD 10 undef=v/\(PR (kSl aj) m' v x7.fL):=⟨_,rfl,T' 6⟩
 have E:=W.add (e6);exact cr (aO E J Fg rfl e4) J λ_ h=>h}}
 {
 intro e9 L_ T_ f3 a w e7 a2 e5 hS e1 b7 e8 a9;obtain rfl:=eH e7;obtain⟨rfl,rfl⟩:=e5;have E:=eof 8 [(0,v0),(2,.bool false)] e1 b7 e8;obtain⟨d1,E,e3⟩:=adv E (a9 3);obtain⟨e0,E,c4⟩:=adv E (a9 7);obtain⟨f4,c0,h⟩:=ob h;refine st E (aL (vs:=[d1,e0]) E rfl call27 (tC (hS:=hS) e3 c4 c0)) rfl ?_;rintro c2 a w ⟨b0,a3,hS,b2⟩ E;refine qA E rfl λa E=>ae (ab (ak (qM E rfl λa E=>qM E rfl λa E=>?_)));obtain⟨g0,a5,h⟩:=ob h;refine sp E (rq E rfl (a0.mono (Z0 a2 a3)) a5) rfl λa E=>?_
 refine st E (fc E qS vn rfl ((rP a0 a5).mono (Z0 a2 a3))) rfl ?_;rintro f0 a _ ⟨rfl,c5⟩ E;refine st E (aO E hS Fg rfl c5) rfl ?_;rintro d0 a _ ⟨rfl,b6⟩ E;obtain⟨g2,b5,h⟩:=ob h;refine st E (aL (vs:=[c2,d0,(.func (.func 139) #[] #[])]) E rfl call138 (rM (hS:=hS) b2 b6 (RZ (m0:=b0)) b5)) rfl ?_;rintro f5 a w ⟨g1,d2,hS,c7⟩ E;obtain rfl:=eS c7;refine qA E rfl λa E=>ae (bD ?_);obtain rfl:=oi h
 try dsimp only
 refine f1 E ?_;exact⟨_,(Z0 a2 (Z0 a3 d2)),hS,dT⟩}
theorem Ua:StF Jy zn 2 (λx _=>x):=bQ (aU (aU bW)) (λ_ _=>rfl)
theorem Lm {m:M}{cs:List Value}{x:aB}(h:bS.R m cs x):Jy.R m cs x:=by
  obtain⟨J,W,h2⟩:=h;refine⟨J,W,?_⟩;obtain⟨a,len,cap,Z,_⟩:=h2;exact⟨_,Z,rfl⟩
theorem NE {m:M}{cs:List Value}{x:aB}{v:Value}{l:List aa}(h:Jy.R m cs x)(hc:cs[2]? =some v)(hv:RV (kSl aj) m v l):bS.R m cs { x with fL:=l }:=by
  obtain⟨h0,h1,h2⟩:=h;refine⟨h0,h1,?_⟩;obtain⟨c,J,_⟩:=h2;have J:(cs.drop 1).drop 1=[c]:=J;rw[List.drop_drop] at J
  have:c=v:=by
    have W:(cs.drop 2)[0]? =some c:=by rw[show 2=1+1 from rfl,J];rfl
    rw[List.getElem?_drop,hc] at W;injection W with W;exact W.symm
  subst this;show(kSl aj).R m ((cs.drop 1).drop 1) l;rw[List.drop_drop,J];obtain⟨ds,hR,Z⟩:=hv;have hl:=(kSl aj).len hR
  match ds,hl,Z with
  | [d],_,Z=>
    have:c=d:=Z;subst this;exact hR
theorem Cb (hS:S W0 m w L TL) {p0}(a1:RV (kSl (ag .u8)) m v0 p0) {r}(h:dI p0=some r):
    Calls prog 33 #[v0] w (Ret λv w'=>∃m',M.le m m'/\S W0 m' w' L TL/\∃v0_ v1_:Value,v= .tuple #[v0_,v1_]/\RV (kPt bS) m' v0_ r.1/\RV (ag .i64) m' v1_ r.2):=by
 refine kc func33 ntmps33 λa E=>?_;have E:Env 120 a [(0,v0)]:=E;unfold dI at h;refine ab (ak (qA E rfl λa E=>qA E rfl λa E=>ae (ab (ak (sp E (kx E rfl underlying120 (pl:=[(0,1),(1,1),(2,1)]) rfl zeroValue120) rfl λa E=>?_)))));refine st E (Ms (zc:=uo) E hS rfl) rfl ?_;rintro _ a w ⟨Z,rfl,hS⟩ E;refine qA E rfl λa E=>ae (ab (ab ?_));refine cj (λa w=>∃g0:Bool,gr p0 g0=some r/\∃m',M.le m m'/\S W0 m' w ((Z,uo)::L) (TL)/\Env 120 a [(0,v0),(4,pz Z),(32,.bool g0)]) ?_ ?_
 {
 rcases Z1 (decide ((p0.length:Int)<4)) with hd364|hd364
 {
 have h:=aF hd364 h
 refine kch (k:=15) (m:=m) (es:=[]) (Φ:=(λi m ws v=>match i with|0=>v=v0|1=>ei .i64 (p0.length:Int) v|2=>v=(.bool (decide ((p0.length:Int)<4)))|3=>v=(.bool (decide ((p0.length:Int)<4)))|4=>v=undef|5=>v=undef|6=>v=undef|7=>v=undef|8=>v=undef|9=>v=undef|10=>v=undef|11=>v=undef|12=>v=undef|13=>v=undef|14=>v=undef|_=>True)) (Q:=(λc m ws L' b7=>match c with|0=>(Z,uo)::L=L'/\TL=b7|_=>False)) (cs:=[CQ [(0,v0)],CQ [],CQ [],CQ [],CQ [(0,v0)],CQ [(0,v0)],CQ [],CQ [],CQ [],CQ [],CQ [(0,v0)],CQ [(0,v0)],CQ [],CQ [],CQ []]) mixed E hS ⟨rfl,rfl⟩ rfl rfl (by kernel_rfl) ?_ ?_ ?_ ?_
 {
 intro i m_ b3 ws v n_ q_
 iterate 15 (rcases i with _|i;exact q_)
 exact trivial}
 {
 intro c m_ b3 ws L_ T_ n_ a0
 match c,a0 with
 |0,⟨b6,b4⟩=>exact⟨b6,b4⟩
 |_+1,a0=>exact a0.elim}
 {
 refine⟨?_,?_,?_,?_,?_,?_,?_,?_,?_,?_,?_,?_,?_,?_,?_,trivial⟩
 {exact cmv λ_ _=>rfl}
 {refine cp0 λ_ _ _ _ _ _ _ M' _ J W T'=>?_;have E:=W.add (T' 0);exact cq (bh (k:=(ag .u8)) E rfl rfl underlying24 (a1.mono M')) J ⟨rfl,(eE (jX (a1.mono M')))⟩}
 {refine cp0 λ_ _ _ _ _ _ _ _ _ J W T'=>?_;have E:=W.add (T' 1).1;exact cq (a7 E rfl rfl cl) J rfl}
 {refine cp0 λ_ _ _ _ _ _ _ _ _ J W T'=>?_;have E:=W.add (T' 2);exact cq (iQ E rfl) J rfl}
 {exact csk (gz hd364)}
 {exact csk (gz hd364)}
 {exact csk (gz hd364)}
 {exact csk (gz hd364)}
 {exact csk (gz hd364)}
 {exact csk (gz hd364)}
 {exact csk (gz hd364)}
 {exact csk (gz hd364)}
 {exact csk (gz hd364)}
 {exact csk (gz hd364)}
 {exact csk (gz hd364)}}
 {intro h2 L_ T_ al a w w0 z5 t3 hS q1 n2 r0 f9;obtain rfl:=eH w0;obtain⟨rfl,rfl⟩:=t3;have E:=eof 15 [(0,v0),(2,.pointer none),(3,.int .i64 0),(4,pz Z),(12,(.agg uo.toArray)),(13,pz Z)] q1 n2 r0;have E:=((E.add (f9 3)).add (f9 9)).add (f9 14);refine qX E hd364 λa E=>qX E hd364 λa E=>qX E hd364 λa E=>qT E hd364 rfl λa E=>ae ?_;exact⟨true,h,_,z5,hS,kut E⟩}}
 {
 have h:=aG hd364 h;obtain⟨r1,u2,h8,m9,h⟩:=ob2 h;obtain⟨q2,y3,h⟩:=ob h
 refine kch (k:=15) (m:=m) (es:=[]) (Φ:=(λi m ws v=>match i with|0=>v=v0|1=>ei .i64 (p0.length:Int) v|2=>v=(.bool (decide ((p0.length:Int)<4)))|3=>v=(.bool (decide ((p0.length:Int)<4)))|4=>v=v0|5=>v=v0|6=>ei .i64 (p0.length:Int) v|7=>ei .i64 (Z3.wrap ((p0.length:Int) - 4)) v|8=>RV (kSl (ag .u8)) m v r1|9=>ei .i64 h8 v|10=>v=v0|11=>v=v0|12=>ei .i64 (p0.length:Int) v|13=>ei .i64 (Z3.wrap ((p0.length:Int) - 4)) v|14=>RV (kSl (ag .u8)) m v q2|_=>True)) (Q:=(λc m ws L' b7=>match c with|0=>(Z,uo)::L=L'/\TL=b7|_=>False)) (cs:=[CQ [(0,v0)],CQ [],CQ [],CQ [],CQ [(0,v0)],CQ [(0,v0)],CQ [],CQ [],CQ [],CQ [],CQ [(0,v0)],CQ [(0,v0)],CQ [],CQ [],CQ []]) mixed E hS ⟨rfl,rfl⟩ rfl rfl (by kernel_rfl) ?_ ?_ ?_ ?_
 {
 intro i m_ b3 ws v n_ q_
 iterate 15 (rcases i with _|i;first|exact q_|exact RV.mono q_ n_)
 exact trivial}
 {
 intro c m_ b3 ws L_ T_ n_ a0
 match c,a0 with
 |0,⟨b6,b4⟩=>exact⟨b6,b4⟩
 |_+1,a0=>exact a0.elim}
 {
 refine⟨?_,?_,?_,?_,?_,?_,?_,?_,?_,?_,?_,?_,?_,?_,?_,trivial⟩
 {exact cmv λ_ _=>rfl}
 {refine cp0 λ_ _ _ _ _ _ _ M' _ J W T'=>?_;have E:=W.add (T' 0);exact cq (bh (k:=(ag .u8)) E rfl rfl underlying24 (a1.mono M')) J ⟨rfl,(eE (jX (a1.mono M')))⟩}
 {refine cp0 λ_ _ _ _ _ _ _ _ _ J W T'=>?_;have E:=W.add (T' 1).1;exact cq (a7 E rfl rfl cl) J rfl}
 {refine cp0 λ_ _ _ _ _ _ _ _ _ J W T'=>?_;have E:=W.add (T' 2);exact cq (iQ E rfl) J rfl}
 {exact cgm (gz hd364) (λ_ _=>rfl)}
 {exact cgm (gz hd364) (λ_ _=>rfl)}
 {refine cg0 (gz hd364) λ_ _ _ _ _ _ _ M' _ J W T'=>?_;have E:=W.add (T' 5);exact cq (bh (k:=(ag .u8)) E rfl rfl underlying24 (a1.mono M')) J ⟨rfl,(eE (jX (a1.mono M')))⟩}
 {refine cg0 (gz hd364) λ_ _ _ _ _ _ _ _ _ J W T'=>?_;have E:=W.add (T' 6).1;exact cq (a7 E rfl rfl (iV rfl)) J ⟨rfl,(aA _ _)⟩}
 {refine cg0 (gz hd364) λ_ _ _ _ _ _ _ M' _ J W T'=>?_;have E:=(W.add (T' 4)).add (T' 7).1;exact cr (cS (k:=(ag .u8)) E rfl underlying24 sizeOf5 (a1.mono M') ⟨_,rfl⟩ rfl u2 (xl:=(some (.tmp 21))) (xh:=none)) J λ_ h=>h}
 {refine cg0 (gz hd364) λ_ _ _ m' a' _ _ _ _ J W T'=>?_;obtain⟨D6,E,m7⟩:=adv W (T' 8);refine be.imp (aL (vs:=[D6]) E rfl call82 (lU (hS:=J) m7 m9)) ?_;rintro av w ⟨X1,w1,hS,n3⟩;obtain⟨rfl,z1⟩:=aJ n3;exact⟨_,w1,hS,⟨rfl,z1⟩⟩}
 {exact cgm (gz hd364) (λ_ _=>rfl)}
 {exact cgm (gz hd364) (λ_ _=>rfl)}
 {refine cg0 (gz hd364) λ_ _ _ _ _ _ _ M' _ J W T'=>?_;have E:=W.add (T' 11);exact cq (bh (k:=(ag .u8)) E rfl rfl underlying24 (a1.mono M')) J ⟨rfl,(eE (jX (a1.mono M')))⟩}
 {refine cg0 (gz hd364) λ_ _ _ _ _ _ _ _ _ J W T'=>?_;have E:=W.add (T' 12).1;exact cq (a7 E rfl rfl (iV rfl)) J ⟨rfl,(aA _ _)⟩}
 {refine cg0 (gz hd364) λ_ _ _ _ _ _ _ M' _ J W T'=>?_;have E:=(W.add (T' 10)).add (T' 13).1;exact cr (cS (k:=(ag .u8)) E rfl underlying24 sizeOf5 (a1.mono M') rfl ⟨_,rfl⟩ y3 (xl:=none) (xh:=(some (.tmp 27)))) J λ_ h=>h}}
 {
 intro h2 L_ T_ X2 a w k5 p5 s4 hS z3 y1 u0 f3;obtain rfl:=eH k5;obtain⟨rfl,rfl⟩:=s4;have E:=eof 15 [(0,v0),(2,.pointer none),(3,.int .i64 0),(4,pz Z),(12,(.agg uo.toArray)),(13,pz Z)] z3 y1 u0;have E:=(E.add (f3 3)).add (f3 9).1;obtain⟨w6,E,r5⟩:=adv E (f3 14);obtain⟨l2,n0,h⟩:=ob h;refine stg E rfl rfl rfl rfl hd364 (aL (vs:=[w6]) E rfl call78 (zd (hS:=hS) r5 n0)) rfl ?_;rintro X0 a w ⟨ca,z0,hS,q3⟩ E;obtain⟨rfl,W1⟩:=aJ q3
 refine spg E rfl rfl rfl rfl hd364 (dw E rfl underlying55 underlying3 rfl) rfl λa E=>spg E rfl rfl rfl rfl hd364 (a7 E rfl rfl jF) rfl λa E=>qF E hd364 rfl λa E=>ae ?_;exact⟨(h8 != (Z3.wrap l2)),h,_,(Z0 p5 z0),hS,kut E⟩}}}
 {
 rintro a w ⟨g0,h,m8,a5,hS,E⟩;unfold gr at h;refine kif E rfl (λg2=>?_) (λg2=>?_)
 {
 have h:=aF g2 h;refine ab (ak (qA E rfl λa E=>qA E rfl λa E=>ae (bD ?_)));obtain rfl:=oi h
 try dsimp only
 refine f2 E ?_;exact⟨_,a5,(hS.dropL 1),_,_,rfl,(xd (m:=m8) (k:=bS)),(aq (show inR .i64 80 from au (by decide)))⟩}
 {
 have h:=aG g2 h;refine aV (ab (ak (qM E rfl λa E=>qM E rfl λa E=>qM E rfl λa E=>sp E (bh (k:=(ag .u8)) E rfl rfl underlying24 (a1.mono a5)) rfl λa E=>qB E rfl rfl (iV rfl) λa E=>?_)));obtain⟨U2,t0,h⟩:=ob h;refine st E (cS (k:=(ag .u8)) E rfl underlying24 sizeOf5 (a1.mono a5) rfl ⟨_,rfl⟩ t0 (xl:=none) (xh:=(some (.tmp 38)))) rfl ?_;rintro B0 a _ ⟨rfl,y4⟩ E;obtain⟨r24,p8,h⟩:=ob h;refine st E (aL (vs:=[(pz Z),B0]) E rfl call83 (wT (hS:=hS) y4 p8)) rfl ?_;rintro _ a w ⟨e8,d1,bo,hS,l4,bt,k7,af,rfl,w4,q6,r7⟩ E
 obtain⟨rfl,t9⟩:=aJ w4;obtain rfl:=eS r7;refine qM E rfl λa E=>sp E (ct E rfl rfl) rfl λa E=>sp E (ct E rfl rfl) rfl λa E=>sp E (ct E rfl rfl) rfl λa E=>qA E rfl λa E=>qA E rfl λa E=>qA E rfl λa E=>ae (ab (ab ?_));refine ak (qM E rfl λa E=>sp E (ln E rfl) rfl λa E=>ae (kif E rfl (λh1=>?_) (λh1=>?_)))
 {
 have h:=aF h1 h;refine ab (ak (qA E rfl λa E=>qA E rfl λa E=>ae (bD ?_)));obtain rfl:=oi h
 try dsimp only
 refine f2 E ?_;exact⟨_,(Z0 a5 d1),(hS.dropL 1),_,_,rfl,(xd (m:=e8) (k:=bS)),(aq (show inR .i64 80 from au (by decide)))⟩}
 {
 have h:=aG h1 h;refine aV (ab (ak (qM E rfl λa E=>qM E rfl λa E=>?_)));obtain⟨ap,s2,h⟩:=ob h;refine st E (JY (k:=aj) (o:=2) (sz:=4) (m:=e8) E hS rfl rfl underlying50 type59 rfl rfl rfl (λm=>zS m) s2 rfl rfl rfl) rfl ?_;rintro h3 a w ⟨c0,q7,k3,i0,hS⟩ E;refine sp E (cz E rfl) rfl λa E=>sp E (aH E qS rfl) rfl λa E=>?_;refine st0 E (H0 E hS L5 Ua rfl rfl i0.1.one (i:=1) rfl (Lm l4)) ?_;rintro _ w ⟨d2,h6,h9,hS⟩ E;refine ae (ab (ab (ak (qM E rfl λa E=>sp E (cz E rfl) rfl λa E=>sp E (aH E pH rfl) rfl λa E=>?_))))
 refine st E (aK E hS ty3 rfl (i:=1) rfl (VP.R_drop (az h6))) rfl ?_;rintro V1 a _ ⟨rfl,n1⟩ E;obtain⟨rfl,bk⟩:=aJ n1;refine qB E rfl rfl (br rfl) λa E=>qM E rfl λa E=>ae ?_;refine cj (λa w=>∃a2:(List Int),∃c7:(List aa),eu r24 a2 c7=some r/\∃m',M.le e8 m'/\∃(a4:Value),∃(g7:List Value),∃(g5:List Value),RV (kSl (ag .u8)) m' a4 a2/\GR aj 2 m' c0 g5 h3 c7 g7/\S W0 m' w ((c0,g5)::(Z,d2)::L) (tls 4 g7++TL)/\Env 120 a [(4,pz Z),(6,a4)]) ?_ ?_
 {
 refine bd ?_;refine eG h (λ(s:List Int×Int×List aa) a w=>∃m',M.le e8 m'/\∃(a6:Value),∃(c3:List Value),∃(c4:List Value),RV (kSl (ag .u8)) m' a6 s.1/\inR .i64 s.2.1/\GR aj 2 m' c0 c4 h3 s.2.2 c3/\S W0 m' w ((c0,c4)::(Z,d2)::L) (tls 4 c3++TL)/\Env 120 a [(4,pz Z),(5,.int .i64 r24.1),(6,a6),(55,.int .i64 (Z3.wrap (r24.2.2.2.fColumns+3))),(56,.int .i64 s.2.1)]) ?_ ?_
 {exact⟨_,(Z2 _),k7,k3,q7,q6,(show inR .i64 0 from au (by decide)),i0,hS,kut E⟩}
 {
 rintro ⟨c5,a9,e1⟩ a w ⟨k0,d0,a6,c3,c4,b1,m5,f4,hS,E⟩ r261 h hb262;have h:bG r24 c5 a9 e1=some r261:=h;unfold bG at h;refine ab (ak (qB E rfl rfl cl λa E=>ae (ab (kif E rfl (λg6=>?_) (λg6=>?_)))))
 {
 have h:=aF g6 h;refine aV (ab (bd (ab (ak (qM E rfl λa E=>qA E rfl λa E=>ae (ab (ab ?_)))))));refine cj (λa w=>∃h7:Bool,ew r24 c5 a9 e1 h7=some r261/\∃m',M.le k0 m'/\S W0 m' w ((c0,c4)::(Z,d2)::L) (tls 4 c3++TL)/\Env 120 a [(4,pz Z),(5,.int .i64 r24.1),(6,a6),(8,.int .i64 a9),(55,.int .i64 (Z3.wrap (r24.2.2.2.fColumns+3))),(56,.int .i64 a9),(69,.bool h7)]) ?_ ?_
 {
 refine ak (qM E rfl λa E=>sp E (bh (k:=(ag .u8)) E rfl rfl underlying24 b1) rfl λa E=>qB E rfl rfl cl λa E=>qM E rfl λa E=>?_);rcases Z1 (decide ((c5.length:Int)<4)) with hd349|hd349
 {have h:=aF hd349 h;refine qX E hd349 λa E=>qX E hd349 λa E=>qX E hd349 λa E=>qX E hd349 λa E=>qX E hd349 λa E=>qX E hd349 λa E=>qT E hd349 rfl λa E=>ae ?_;exact⟨true,h,_,(Z2 _),hS,kut E⟩}
 {have h:=aG hd349 h;refine qG E hd349 rfl λa E=>spg E rfl rfl rfl rfl hd349 (bh (k:=(ag .u8)) E rfl rfl underlying24 b1) rfl λa E=>qG E hd349 rfl λa E=>?_;obtain⟨L1,p4,h⟩:=ob h;refine stg E rfl rfl rfl rfl hd349 (aL (vs:=[a6]) E rfl call82 (lU (hS:=hS) b1 p4)) rfl ?_;rintro bl a w ⟨ac,m2,hS,x4⟩ E;obtain⟨rfl,U1⟩:=aJ x4;refine spg E rfl rfl rfl rfl hd349 (a7 E rfl rfl (br rfl)) rfl λa E=>spg E rfl rfl rfl rfl hd349 (a7 E rfl rfl cl) rfl λa E=>qF E hd349 rfl λa E=>ae ?_;exact⟨(decide ((c5.length:Int)<(Z3.wrap (4+L1)))),h,_,m2,hS,kut E⟩}}
 {
 rintro a w ⟨h7,h,p6,a3,hS,E⟩;unfold ew at h;refine kif E rfl (λf6=>?_) (λf6=>?_)
 {
 have h:=aF f6 h;refine ab (ak (qA E rfl λa E=>qA E rfl λa E=>ae (bD ?_)));have h:=bY h hb262;obtain rfl:=oi h
 try dsimp only
 refine f2 E ?_;exact⟨_,(Z0 a5 (Z0 d1 (Z0 d0 a3))),(S.dropR (hS.dropL 2)),_,_,rfl,(xd (m:=p6) (k:=bS)),(aq (show inR .i64 80 from au (by decide)))⟩}
 {
 have h:=aG f6 h;refine aV (ab (ak (qM E rfl λa E=>?_)));obtain⟨i5,p3,h⟩:=ob h;refine st E (aL (vs:=[a6]) E rfl call82 (lU (hS:=hS) (b1.mono a3) p3)) rfl ?_;rintro bi a w ⟨ar,b2,hS,m6⟩ E;obtain⟨rfl,W8⟩:=aJ m6;refine qA E rfl λa E=>ae (ab (ak (qM E rfl λa E=>qM E rfl λa E=>qB E rfl rfl (br rfl) λa E=>?_)));obtain⟨bc,x1,h⟩:=ob h;refine st E (cS (k:=(ag .u8)) E rfl underlying24 sizeOf5 (b1.mono (Z0 a3 b2)) ⟨_,rfl⟩ ⟨_,rfl⟩ x1 (xl:=(some (.const (.int .i64 4)))) (xh:=(some (.tmp 75)))) rfl ?_;rintro j5 a _ ⟨rfl,z4⟩ E
 refine qM E rfl λa E=>?_;obtain⟨x5,o2,h⟩:=ob h;refine st E (aL (vs:=[j5,(.int .i64 r24.1)]) E rfl call84 (zV (hS:=hS) z4 t9 o2)) rfl ?_;rintro _ a w ⟨n6,c6,hS,t4,ad,rfl,u1,w2⟩ E;obtain rfl:=eS w2;refine qM E rfl λa E=>sp E (ct E rfl rfl) rfl λa E=>sp E (ct E rfl rfl) rfl λa E=>qA E rfl λa E=>qA E rfl λa E=>ae (ab (ab ?_))
 refine cj (λa w=>∃x307:Bool,∃e6:(List aa),fe c5 a9 i5 x307 e6=some r261/\∃m',M.le n6 m'/\∃(e5:List Value),∃(e7:List Value),GR aj 2 m' c0 e7 h3 e6 e5/\S W0 m' w ((c0,e7)::(Z,d2)::L) (tls 4 e5++TL)/\Env 120 a [(4,pz Z),(5,.int .i64 r24.1),(6,a6),(9,.int .i64 i5),(55,.int .i64 (Z3.wrap (r24.2.2.2.fColumns+3))),(56,.int .i64 a9),(89,.bool x307)]) ?_ ?_
 {
 refine ak (qM E rfl λa E=>sp E (ln E rfl) rfl λa E=>qM E rfl λa E=>?_);rcases Z1 (!x5.2) with hd329|hd329
 {have h:=aF hd329 h;refine qX E hd329 λa E=>qX E hd329 λa E=>qX E hd329 λa E=>qX E hd329 λa E=>qX E hd329 λa E=>qT E hd329 rfl λa E=>ae ?_;exact⟨true,e1,h,_,(Z2 _),c3,c4,(f4.mono (Z0 a3 (Z0 b2 c6))),hS,kut E⟩}
 {
 have h:=aG hd329 h;refine qG E hd329 rfl λa E=>qG E hd329 rfl λa E=>qG E hd329 rfl λa E=>?_;obtain⟨i3,k4,h⟩:=ob h;refine stg E rfl rfl rfl rfl hd329 (aL (vs:=[(pz Z),(.int .i64 a9),t4]) E rfl call85 (wW (hS:=(hS.pickL 2 [1,0] rfl rfl rfl)) (Jy.mono (Z0 d0 (Z0 a3 (Z0 b2 c6))) h6) h9 (f4.mono (Z0 a3 (Z0 b2 c6))) m5 u1 k4)) rfl ?_;rintro W7 a w ⟨an,t1,l1,j3,hS,r2,x9⟩ E;obtain rfl:=eS x9;refine spg E rfl rfl rfl rfl hd329 (ln E rfl) rfl λa E=>qF E hd329 rfl λa E=>ae ?_
 exact⟨(!i3.1),i3.2,h,_,t1,j3,l1,r2,(hS.pickL 2 [1,0] rfl rfl rfl),kut E⟩}}
 {
 rintro a w ⟨x307,e6,h,x7,h4,e5,e7,j2,hS,E⟩;unfold fe at h;refine kif E rfl (λh5=>?_) (λh5=>?_)
 {
 have h:=aF h5 h;refine ab (ak (qA E rfl λa E=>qA E rfl λa E=>ae (bD ?_)));have h:=bY h hb262;obtain rfl:=oi h
 try dsimp only
 refine f2 E ?_;exact⟨_,(Z0 a5 (Z0 d1 (Z0 d0 (Z0 a3 (Z0 b2 (Z0 c6 h4)))))),(S.dropR (hS.dropL 2)),_,_,rfl,(xd (m:=x7) (k:=bS)),(aq (show inR .i64 80 from au (by decide)))⟩}
 {have h:=aG h5 h;refine aV (ak (qM E rfl λa E=>qM E rfl λa E=>qB E rfl rfl (br rfl) λa E=>?_));obtain⟨m1,y2,h⟩:=ob h;refine st E (cS (k:=(ag .u8)) E rfl underlying24 sizeOf5 (b1.mono (Z0 a3 (Z0 b2 (Z0 c6 h4)))) ⟨_,rfl⟩ rfl y2 (xl:=(some (.tmp 92))) (xh:=none)) rfl ?_;rintro z8 a _ ⟨rfl,w3⟩ E;refine qA E rfl λa E=>ae (ak (qB E rfl rfl (br rfl) λa E=>qM E rfl λa E=>ae ?_));exact⟨(m1,Z3.wrap (a9+1),e6),(Option.some.inj h).symm,_,(Z0 d0 (Z0 a3 (Z0 b2 (Z0 c6 h4)))),z8,e5,e7,w3,(aA _ _),j2,hS,kut E⟩}}}}}
 {have h:=aG g6 h;refine d4 rfl rfl ?_;have h:=bY h hb262;exact⟨c5,e1,h,_,d0,a6,c3,c4,b1,f4,hS,kut E⟩}}}
 {
 rintro a w ⟨a2,c7,h,bb,g8,a4,g7,g5,e9,t5,hS,E⟩;unfold eu at h;refine ab (ab ?_);have hS:=S.dropR hS;obtain⟨W9,c1,hS,m3⟩:=S.freeze hS t5.1;obtain⟨g1,c2,hS,b0⟩:=S.freezeL (k:=bS) (xx:=({ r24.2.2.2 with fL:=c7 })) hS (NE (Jy.mono (Z0 g8 c1) h6) h9 m3);refine cj (λa w=>∃h0:Bool,kg r24 c7 h0=some r/\∃m',M.le g1 m'/\S W0 m' w L TL/\Env 120 a [(4,pz Z),(118,.bool h0)]) ?_ ?_
 {
 rcases Z1 (decide (0<(a2.length:Int))) with hd100|hd100
 {
 have h:=aF hd100 h
 refine kch (k:=16) (m:=g1) (es:=[]) (Φ:=(λi m ws v=>match i with|0=>v=a4|1=>ei .i64 (a2.length:Int) v|2=>v=(.bool (decide (0<(a2.length:Int))))|3=>v=(.bool (decide (0<(a2.length:Int))))|4=>v=undef|5=>v=undef|6=>v=undef|7=>v=undef|8=>v=undef|9=>v=undef|10=>v=undef|11=>v=undef|12=>v=undef|13=>v=undef|14=>v=undef|15=>v=undef|_=>True)) (Q:=(λc m ws L' b7=>match c with|0=>L=L'/\TL=b7|_=>False)) (cs:=[CQ [(6,a4)],CQ [],CQ [],CQ [],CQ [(4,pz Z)],CQ [],CQ [],CQ [],CQ [(4,pz Z)],CQ [],CQ [],CQ [],CQ [(4,pz Z)],CQ [],CQ [],CQ []]) mixed E hS ⟨rfl,rfl⟩ rfl rfl (by kernel_rfl) ?_ ?_ ?_ ?_
 {
 intro i m_ b3 ws v n_ q_
 iterate 16 (rcases i with _|i;exact q_)
 exact trivial}
 {
 intro c m_ b3 ws L_ T_ n_ a0
 match c,a0 with
 |0,⟨b6,b4⟩=>exact⟨b6,b4⟩
 |_+1,a0=>exact a0.elim}
 {
 refine⟨?_,?_,?_,?_,?_,?_,?_,?_,?_,?_,?_,?_,?_,?_,?_,?_,trivial⟩
 {exact cmv λ_ _=>rfl}
 {refine cp0 λ_ _ _ _ _ _ _ M' _ J W T'=>?_;have E:=W.add (T' 0);exact cq (bh (k:=(ag .u8)) E rfl rfl underlying24 (e9.mono (Z0 c1 (Z0 c2 M')))) J ⟨rfl,(eE (jX (e9.mono (Z0 c1 (Z0 c2 M')))))⟩}
 {refine cp0 λ_ _ _ _ _ _ _ _ _ J W T'=>?_;have E:=W.add (T' 1).1;exact cq (a7 E rfl rfl kL) J rfl}
 {refine cp0 λ_ _ _ _ _ _ _ _ _ J W T'=>?_;have E:=W.add (T' 2);exact cq (iQ E rfl) J rfl}
 {exact csk (gz hd100)}
 {exact csk (gz hd100)}
 {exact csk (gz hd100)}
 {exact csk (gz hd100)}
 {exact csk (gz hd100)}
 {exact csk (gz hd100)}
 {exact csk (gz hd100)}
 {exact csk (gz hd100)}
 {exact csk (gz hd100)}
 {exact csk (gz hd100)}
 {exact csk (gz hd100)}
 {exact csk (gz hd100)}}
 {intro h2 L_ T_ ao a w m4 r9 z9 hS o3 k6 i8 e3;obtain rfl:=eH m4;obtain⟨rfl,rfl⟩:=z9;have E:=eof 16 [(4,pz Z),(6,a4)] o3 k6 i8;have E:=(((E.add (e3 3)).add (e3 7)).add (e3 11)).add (e3 15);refine qX E hd100 λa E=>qX E hd100 λa E=>qT E hd100 rfl λa E=>qM E rfl λa E=>qX E rfl λa E=>qX E rfl λa E=>qX E rfl λa E=>qT E rfl rfl λa E=>ae ?_;exact⟨true,h,_,r9,hS,kut E⟩}}
 {
 have h:=aG hd100 h;obtain⟨e4,i2,x144,i1,h⟩:=ob2 h;obtain⟨g4,i4,h⟩:=ob h
 refine kch (k:=16) (m:=g1) (es:=[]) (Φ:=(λi m ws v=>match i with|0=>v=a4|1=>ei .i64 (a2.length:Int) v|2=>v=(.bool (decide (0<(a2.length:Int))))|3=>v=(.bool (decide (0<(a2.length:Int))))|4=>v=(pz Z)|5=>v=(pz Z)|6=>PR (ag .i64) m v e4.fColumns|7=>ei .i64 e4.fColumns v|8=>v=(pz Z)|9=>v=(pz Z)|10=>PR (kSl (ag .i64)) m v x144.fSort|11=>RV (kSl (ag .i64)) m v x144.fSort|12=>v=(pz Z)|13=>v=(pz Z)|14=>PR (kSl aj) m v g4.fL|15=>RV (kSl aj) m v g4.fL|_=>True)) (Q:=(λc m ws L' b7=>match c with|0=>L=L'/\TL=b7|_=>False)) (cs:=[CQ [(6,a4)],CQ [],CQ [],CQ [],CQ [(4,pz Z)],CQ [],CQ [],CQ [],CQ [(4,pz Z)],CQ [],CQ [],CQ [],CQ [(4,pz Z)],CQ [],CQ [],CQ []]) mixed E hS ⟨rfl,rfl⟩ rfl rfl (by kernel_rfl) ?_ ?_ ?_ ?_
 {
 intro i m_ b3 ws v n_ q_
 iterate 16 (rcases i with _|i;first|exact q_|exact PR.mono q_ n_|exact RV.mono q_ n_)
 exact trivial}
 {
 intro c m_ b3 ws L_ T_ n_ a0
 match c,a0 with
 |0,⟨b6,b4⟩=>exact⟨b6,b4⟩
 |_+1,a0=>exact a0.elim}
 {
 refine⟨?_,?_,?_,?_,?_,?_,?_,?_,?_,?_,?_,?_,?_,?_,?_,?_,trivial⟩
 {exact cmv λ_ _=>rfl}
 {refine cp0 λ_ _ _ _ _ _ _ M' _ J W T'=>?_;have E:=W.add (T' 0);exact cq (bh (k:=(ag .u8)) E rfl rfl underlying24 (e9.mono (Z0 c1 (Z0 c2 M')))) J ⟨rfl,(eE (jX (e9.mono (Z0 c1 (Z0 c2 M')))))⟩}
 {refine cp0 λ_ _ _ _ _ _ _ _ _ J W T'=>?_;have E:=W.add (T' 1).1;exact cq (a7 E rfl rfl kL) J rfl}
 {refine cp0 λ_ _ _ _ _ _ _ _ _ J W T'=>?_;have E:=W.add (T' 2);exact cq (iQ E rfl) J rfl}
 {exact cgm (gz hd100) (λ_ _=>rfl)}
 {refine cg0 (gz hd100) λ_ _ _ _ _ _ _ M' _ J W T'=>?_;have E:=W.add (T' 4);exact cq (rq E rfl ((tM b0).mono M') i2) J rfl}
 {refine cg0 (gz hd100) λ_ _ _ _ _ _ _ M' _ J W T'=>?_;have E:=W.add (T' 5);exact cr (fc E pH Gt rfl ((rP (tM b0) i2).mono M')) J λ_ h=>h}
 {
 refine cg0 (gz hd100) λ_ _ _ m' a' _ _ _ _ J W T'=>?_;obtain⟨T2,j0,n4⟩:∃v,a'.tmps.getD 101 undef=v/\(PR (ag .i64) m' v e4.fColumns):=⟨_,rfl,T' 6⟩
 have E:=W.add (j0);exact cr (aO E J ty3 rfl n4) J λ_ h=>aJ h}
 {exact cgm (gz hd100) (λ_ _=>rfl)}
 {refine cg0 (gz hd100) λ_ _ _ _ _ _ _ M' _ J W T'=>?_;have E:=W.add (T' 8);exact cq (rq E rfl ((tM b0).mono M') i1) J rfl}
 {refine cg0 (gz hd100) λ_ _ _ _ _ _ _ M' _ J W T'=>?_;have E:=W.add (T' 9);exact cr (fc E qR B3 rfl ((rP (tM b0) i1).mono M')) J λ_ h=>h}
 {
 refine cg0 (gz hd100) λ_ _ _ m' a' _ _ _ _ J W T'=>?_;obtain⟨bs,j4,l3⟩:∃v,a'.tmps.getD 105 undef=v/\(PR (kSl (ag .i64)) m' v x144.fSort):=⟨_,rfl,T' 10⟩
 have E:=W.add (j4);exact cr (aO E J qQ rfl l3) J λ_ h=>h}
 {exact cgm (gz hd100) (λ_ _=>rfl)}
 {refine cg0 (gz hd100) λ_ _ _ _ _ _ _ M' _ J W T'=>?_;have E:=W.add (T' 12);exact cq (rq E rfl ((tM b0).mono M') i4) J rfl}
 {refine cg0 (gz hd100) λ_ _ _ _ _ _ _ M' _ J W T'=>?_;have E:=W.add (T' 13);exact cr (fc E qS vn rfl ((rP (tM b0) i4).mono M')) J λ_ h=>h}
 {
 refine cg0 (gz hd100) λ_ _ _ m' a' _ _ _ _ J W T'=>?_;obtain⟨W6,q0,x8⟩:∃v,a'.tmps.getD 109 undef=v/\(PR (kSl aj) m' v g4.fL):=⟨_,rfl,T' 14⟩
 have E:=W.add (q0);exact cr (aO E J Fg rfl x8) J λ_ h=>h}}
 {
 intro h2 L_ T_ V2 a w r4 g3 o0 hS x3 s1 r8 e0;obtain rfl:=eH r4;obtain⟨rfl,rfl⟩:=o0;have E:=eof 16 [(4,pz Z),(6,a4)] x3 s1 r8;have E:=E.add (e0 3);obtain⟨q4,x2⟩:=e0 7;have E:=E.add q4;obtain⟨w5,E,s3⟩:=adv E (e0 11);obtain⟨o1,E,T1⟩:=adv E (e0 15);obtain⟨p2,q5,h⟩:=ob h;refine stg E rfl rfl rfl rfl hd100 (aL (vs:=[(.int .i64 e4.fColumns),w5,o1]) E rfl call74 (kP (hS:=hS) x2 s3 T1 q5)) rfl ?_;rintro bu a w ⟨W5,g9,hS,j1⟩ E;obtain⟨rfl,bx⟩:=aJ j1
 refine spg E rfl rfl rfl rfl hd100 (a7 E rfl rfl jF) rfl λa E=>qF E hd100 rfl λa E=>qM E rfl λa E=>?_;rcases Z1 (p2 != 0) with hd239|hd239
 {have h:=aF hd239 h;refine qX E hd239 λa E=>qX E hd239 λa E=>qX E hd239 λa E=>qT E hd239 rfl λa E=>ae ?_;exact⟨true,h,_,(Z0 g3 g9),hS,kut E⟩}
 {have h:=aG hd239 h;refine qG E hd239 rfl λa E=>?_;obtain⟨r3,I2,h⟩:=ob h;refine stg E rfl rfl rfl rfl hd239 (aL (vs:=[(pz Z)]) E rfl call86 (vt (hS:=hS) ((tM b0).mono (Z0 g3 g9)) I2)) rfl ?_;rintro ba a w ⟨W2,y0,hS,p7⟩ E;obtain rfl:=eS p7;refine spg E rfl rfl rfl rfl hd239 (ln E rfl) rfl λa E=>qF E hd239 rfl λa E=>ae ?_;exact⟨(!r3),h,_,(Z0 g3 (Z0 g9 y0)),hS,kut E⟩}}}}
 {
 rintro a w ⟨h0,h,r6,f0,hS,E⟩;unfold kg at h;refine kif E rfl (λf5=>?_) (λf5=>?_)
 {
 have h:=aF f5 h;refine ab (ak (qA E rfl λa E=>qA E rfl λa E=>ae (bD ?_)));obtain rfl:=oi h
 try dsimp only
 refine f2 E ?_;exact⟨_,(Z0 a5 (Z0 d1 (Z0 g8 (Z0 c1 (Z0 c2 f0))))),hS,_,_,rfl,(xd (m:=r6) (k:=bS)),(aq (show inR .i64 80 from au (by decide)))⟩}
 {
 have h:=aG f5 h;refine aV (ab (ak (qM E rfl λa E=>qA E rfl λa E=>qA E rfl λa E=>ae (bD ?_))));obtain rfl:=oi h
 try dsimp only
 refine f2 E ?_;exact⟨_,(Z0 a5 (Z0 d1 (Z0 g8 (Z0 c1 (Z0 c2 f0))))),hS,_,_,rfl,((tM b0).mono f0),(aq (show inR .i64 0 from au (by decide)))⟩}}}}}}
theorem Ub:Ctr Sz prog 33 [.rd (.sl (.int .u8))] [.rd (.st 65),.rd (.int .i64)] (λx=>dI x.1):=by
 intro W0 m w L TL vs x r Lp Tp hS hP h;obtain⟨v0,vs,rfl,a0,W⟩:=iJ hP;obtain⟨rfl,rfl,rfl⟩:=lV W;refine rm (Cb (hS:=hS) a0 h) λv w' Z=>?_;obtain⟨m',hm,Z',u0,u1,rfl,r0,J⟩:=Z;exact⟨m',[u0,u1],[],[],[],hm,Z',rfl,⟨r0,⟨J,trivial⟩⟩,trivial⟩
def L6:=mC Ub call33
theorem vu (hS:S W0 m w L TL) {p0}(W:RV aj m v0 p0) {p1}(J:PR bO m v1 p1) {r}(h:c9 p0 p1=some r):
    Calls prog 91 #[v0,v1] w (Ret λv w'=>∃m',M.le m m'/\S W0 m' w' L TL/\RV cL m' v r):=by
 refine kc func91 ntmps91 λa E=>?_;have E:Env 8 a [(0,v0),(1,v1)]:=E;unfold c9 at h;refine ab (ak ?_);refine st E (ox (k:=aj) E hS rfl W) rfl ?_;rintro _ a w ⟨b1,a3,rfl,a1,hS⟩ E;refine qA E rfl λa E=>ae (ab (ak (sp E (aH E qi rfl) rfl λa E=>?_)));refine st E (aK E hS yb rfl (i:=0) rfl (A5.R_drop (az a1))) rfl ?_;rintro v8 a _ ⟨rfl,a0⟩ E;refine st E (aO E hS yb rfl J) rfl ?_;rintro a2 a _ ⟨rfl,Z⟩ E;refine sp E (w8 E Pz rfl rfl a0 Z rfl) rfl λa E=>qA E rfl λa E=>ae (bD ?_);obtain rfl:=oi h
 try dsimp only
 refine f1 E ?_;exact⟨_,(Z2 _),(hS.dropL 1),dT⟩
theorem Uc:Ctr Sz prog 90 [.rd (.sl (.st 59)),.f1 (.st 59) .bool] [.rd (.int .i64)] (λx=>eN x.1 x.2.1):=
 ncR [] [4] func90 ntmps90 (.s .o (.s (.s .o (.b (.l ⟨[.v 8 1 (.dat (.int .i64) none)],[0,1,7],0,[]⟩ .o))) .o)) λx=>by kernel_rfl
theorem rN (hS:S W0 m w L TL) {p0}(a0:RV (kSl aj) m v0 p0) {p1}(W:Fn1 prog aj cL m v1 p1) {r}(h:eN p0 p1=some r):
    Calls prog 90 #[v0,v1] w (Ret λv w'=>∃m',M.le m m'/\S W0 m' w' L TL/\RV (ag .i64) m' v r):=by
 refine rm (Uc W0 m w L TL [v0,v1] (p0,p1,()) r [] [] hS ⟨a0,⟨W,trivial⟩⟩ h) λv w' Z=>?_;obtain⟨m',us,Lr,Lq,Tr,hm,Z',rfl,hR,hO⟩:=Z;obtain⟨u0,us,rfl,r0,J⟩:=cM hR;obtain⟨rfl,rfl,rfl⟩:=b9 J;have a2:=bp hO;have a1:=LK a2;obtain rfl:=cc a1;exact⟨m',hm,Z',r0⟩
theorem Ud {m0:M}{J:Value}{W:aM}(a0:PR bO m0 J W):Fn1 prog aj cL m0 (.func (.func 91) #[] #[J]) (λx0=>c9 x0 W):=by
  refine⟨91,_,rfl,call91,?_⟩;intro W0 m w L TL v0 x0 r hm hS Z hr;refine(vu (hS:=hS) Z (a0.mono hm) hr).mono ?_;intro e w' h;cases e with
  |returned v=>obtain⟨m',h1,h2,h3⟩:=h;exact⟨m',h1,h2,h3⟩
  |panicked ch=>exact h.elim
  |outgrown=>exact h.elim
theorem wX (hS:S W0 m w L TL) {p0}(J:RV (kPt bS) m v0 p0) {p1}(b2:RV bO m v1 p1) {r}(h:gD p0 p1=some r):
    Calls prog 37 #[v0,v1] w (Ret λv w'=>∃m',M.le m m'/\S W0 m' w' L TL/\∃v0_ v1_:Value,v= .tuple #[v0_,v1_]/\RV (ag .i64) m' v0_ r.1/\RV cL m' v1_ r.2):=by
 refine kc func37 ntmps37 λa E=>?_;have E:Env 17 a [(0,v0),(1,v1)]:=E;unfold gD at h;refine ab (ak ?_);refine st E (ox (k:=bO) E hS rfl b2) rfl ?_;rintro _ a w ⟨b1,c2,rfl,a5,hS⟩ E;refine qA E rfl λa E=>qA E rfl λa E=>ae (ab (ak (qM E rfl λa E=>?_)));obtain⟨x8,W,h⟩:=ob h;refine sp E (rq E rfl J W) rfl λa E=>?_;refine st E (fc E qS vn rfl (rP J W)) rfl ?_;rintro b7 a _ ⟨rfl,a1⟩ E;refine st E (aO E hS Fg rfl a1) rfl ?_;rintro a4 a _ ⟨rfl,b5⟩ E;obtain⟨c0,Z,hS,a2⟩:=S.freezeL (k:=bO) hS a5;refine sp E (rO E rfl rfl) rfl λa E=>?_
 obtain⟨c1,a3,h⟩:=ob h;refine st E (aL (vs:=[a4,(.func (.func 91) #[] #[(pz b1)])]) E rfl call90 (by have a0:=(b5.mono Z);have b0:=(Ud a2);exact rN (p0:=x8.fL) (p1:=(λb3=>c9 b3 p1)) (hS:=hS) a0 b0 a3)) rfl ?_;rintro b6 a w ⟨c3,a6,hS,b4⟩ E;obtain⟨rfl,a9⟩:=aJ b4;refine qA E rfl λa E=>ae (ab (ak (qM E rfl λa E=>sp E (HK E rfl rfl) rfl λa E=>qM E rfl λa E=>qB E rfl rfl Dg λa E=>qA E rfl λa E=>qA E rfl λa E=>?_)));refine ae (bD ?_);obtain rfl:=oi h
 try dsimp only
 refine f2 E ?_;exact⟨_,(Z0 Z a6),hS,_,_,rfl,(aq (FS a9 (show inR .i64 0 from au (by decide)))),dT⟩
theorem Ue:Ctr Sz prog 37 [.rd (.st 65),.rd (.st 57)] [.rd (.int .i64),.rd .bool] (λx=>gD x.1 x.2.1):=by
 intro W0 m w L TL vs x r Lp Tp hS hP h;obtain⟨v0,vs,rfl,a0,W⟩:=iJ hP;obtain⟨v1,vs,rfl,a1,a2⟩:=iJ W;obtain⟨rfl,rfl,rfl⟩:=lV a2;refine rm (wX (hS:=hS) a0 a1 h) λv w' Z=>?_;obtain⟨m',hm,Z',u0,u1,rfl,r0,J⟩:=Z;exact⟨m',[u0,u1],[],[],[],hm,Z',rfl,⟨r0,⟨J,trivial⟩⟩,trivial⟩
def Uf:=mC Ue call37
theorem Ug:Ctr Sz prog 35 [.rd (.st 65)] [.rd (.int .i64)] (λx=>hU x.1):=
 ncR [] [2] func35 ntmps35 .o λx=>by kernel_rfl
def L7:=mC Ug call35
theorem Uh:Ctr Sz prog 29 [] [.rd .bool] (λx=>s6):=
 ncR [L3,L6,L7,Uf] [0] func29 ntmps29 .o λx=>by kernel_rfl
def Ui:=mC Uh call29
theorem L8:Ctr Sz prog 59 [.rd (.sl (.int .u8))] [.rd (.int .u64)] (λx=>gW x.1):=
 ncR [] [2] func59 ntmps59 (.s .o (.s .o (.s (.s .o (.b (.l ⟨[.v 3 1 (.dat (.int .u64) none),.v 4 1 (.dat (.int .i64) none)],[0],0,[]⟩ .o))) .o))) λx=>by kernel_rfl
def Bi:=mC L8 call59
theorem up (hS:S W0 m w L TL) {p0}(Z:RV (kSl (ag .u8)) m v0 p0) {r}(h:gW p0=some r):
    Calls prog 59 #[v0] w (Ret λv w'=>∃m',M.le m m'/\S W0 m' w' L TL/\RV (ag .u64) m' v r):=by
 refine rm (L8 W0 m w L TL [v0] (p0,()) r [] [] hS ⟨Z,trivial⟩ h) λv w' W=>?_;obtain⟨m',us,Lr,Lq,Tr,hm,Z',rfl,hR,hO⟩:=W;obtain⟨u0,us,rfl,r0,J⟩:=cM hR;obtain⟨rfl,rfl,rfl⟩:=b9 J;have a0:=bp hO;obtain rfl:=cc a0;exact⟨m',hm,Z',r0⟩
theorem L9:Ctr Sz prog 56 [.rd (.sl (.int .u8))] [.rd (.int .u32)] (λx=>vd x.1):=
 ncR [] [2] func56 ntmps56 (.s .o (.s .o (.s (.s .o (.b (.l ⟨[.v 3 1 (.dat (.int .u32) none),.v 4 1 (.dat (.int .i64) none)],[0],0,[]⟩ (.s .o (.s (.b (.s .o (.s .o (.b (.l ⟨[.v 3 2 (.dat (.int .u32) none),.v 5 2 (.dat (.int .i64) none)],[0,4],0,[]⟩ .o))))) .o))))) .o))) λx=>by kernel_rfl
def Uj:=mC L9 call56
theorem Ln (hS:S W0 m w L TL) {p0}(Z:RV (kSl (ag .u8)) m v0 p0) {r}(h:vd p0=some r):
    Calls prog 56 #[v0] w (Ret λv w'=>∃m',M.le m m'/\S W0 m' w' L TL/\RV (ag .u32) m' v r):=by
 refine rm (L9 W0 m w L TL [v0] (p0,()) r [] [] hS ⟨Z,trivial⟩ h) λv w' W=>?_;obtain⟨m',us,Lr,Lq,Tr,hm,Z',rfl,hR,hO⟩:=W;obtain⟨u0,us,rfl,r0,J⟩:=cM hR;obtain⟨rfl,rfl,rfl⟩:=b9 J;have a0:=bp hO;obtain rfl:=cc a0;exact⟨m',hm,Z',r0⟩
theorem R0:Ctr Sz prog 137 [.rd (.st 32)] [.rd .bool] (λx=>sQ x.1):=
 ncR [] [2] func137 ntmps137 .o λx=>by kernel_rfl
def Jz:=mC R0 call137
theorem Uk:Ctr Sz prog 79 [.rd (.int .i64),.rd (.sl (.int .i64)),.rd (.sl (.st 59))] [.rd (.int .i64)] (λx=>nN x.1 x.2.1 x.2.2.1):=
 ncR [Jz] [6] func79 ntmps79 (.s .o (.s .o (.s (.s .o (.b (.l ⟨[.v 7 1 (.dat (.int .i64) none)],[0,1,2],0,[]⟩ (.s .o (.s (.b (.s .o (.s .o (.b (.l ⟨[.v 8 2 (.dat (.int .i64) none)],[0,1,2,7],0,[]⟩ .o))))) .o))))) (.s .o (.s (.s .o (.b (.l ⟨[.v 9 1 (.dat (.int .i64) none)],[0,2],0,[]⟩ (.s .o (.s (.b (.s .o (.s .o (.s (.s .o (.b (.l ⟨[.v 11 2 (.dat (.int .i64) none)],[0,2,9,10],1,[]⟩ .o))) (.s .o (.b (.l ⟨[.v 13 2 (.dat (.int .i64) none)],[0,2,9,10],1,[]⟩ .o))))))) .o))))) .o))))) λx=>by kernel_rfl
theorem yg (hS:S W0 m w L TL) {p0}(a0:inR .i64 p0) {p1}(Z:RV (kSl (ag .i64)) m v1 p1) {p2}(J:RV (kSl aj) m v2 p2) {r}(h:nN p0 p1 p2=some r):
    Calls prog 79 #[(.int .i64 p0),v1,v2] w (Ret λv w'=>∃m',M.le m m'/\S W0 m' w' L TL/\RV (ag .i64) m' v r):=by
 refine rm (Uk W0 m w L TL [(.int .i64 p0),v1,v2] (p0,p1,p2,()) r [] [] hS ⟨aq a0,⟨Z,⟨J,trivial⟩⟩⟩ h) λv w' he=>?_;obtain⟨m',us,Lr,Lq,Tr,hm,Z',rfl,hR,hO⟩:=he;obtain⟨u0,us,rfl,r0,W⟩:=cM hR;obtain⟨rfl,rfl,rfl⟩:=b9 W;have a3:=bp hO;have a2:=bp a3;have a1:=bp a2;obtain rfl:=cc a1;exact⟨m',hm,Z',r0⟩
theorem Ul:Ctr Sz prog 58 [.rd (.sl (.int .u8))] [.rd (.st 32),.rd (.int .i64)] (λx=>mV x.1):=
 nxR [Bi] [.cell 2 32,.tmp 3] func58 ntmps58 .o λx=>by kernel_rfl
def Dx:=mC Ul call58
theorem Um:Ctr Sz prog 20 [.rd (.sl (.int .u8))] [.rd (.st 37),.rd (.int .i64),.rd (.int .i64)] (λx=>qy x.1):=
 nxR [Dx,Bi] [.cell 2 37,.tmp 3,.tmp 4] func20 ntmps20 .o λx=>by kernel_rfl
def Un:=mC Um call20
theorem R3:Ctr Sz prog 121 [.rd (.sl (.int .u8)),.rd (.int .i64)] [.ap (.st 32)] (λx=>vV x.1 x.2.1):=
 ncR [Dx] [4] func121 ntmps121 (.s .o (.s .o (.s .o (.s (.s .o (.b (.l ⟨[.v 5 1 (.dat (.sl (.st 32)) (some 0)),.v 6 1 (.dat (.int .i64) none),.v 7 1 (.dat (.int .i64) none)],[0,1],0,[4]⟩ .o))) .o)))) λx=>by kernel_rfl
def R4:=mC R3 call121
theorem R5:Ctr Sz prog 122 [.rd (.sl (.int .u8)),.rd (.int .i64)] [.ap (.st 32)] (λx=>yA x.1 x.2.1):=
 ncR [Dx] [4] func122 ntmps122 (.s .o (.s .o (.s .o (.s (.b (.l ⟨[.v 5 1 (.dat (.sl (.st 32)) (some 0)),.v 6 1 (.dat (.int .i64) none)],[0,1],0,[4]⟩ (.s .o (.b (.s .o (.s .o (.s (.s .o (.b (.l ⟨[.v 5 2 (.dat (.sl (.st 32)) (some 0)),.v 9 2 (.dat (.int .i64) none)],[0,1,6,7,8],1,[4]⟩ .o))) .o))))))) .o)))) λx=>by kernel_rfl
def R6:=mC R5 call122
theorem R7:Ctr Sz prog 123 [.rd (.sl (.int .u8)),.rd (.int .i64)] [.ap (.st 32)] (λx=>tX x.1 x.2.1):=
 ncR [Bi] [4] func123 ntmps123 (.s .o (.s .o (.s .o (.s .o (.s .o (.s .o (.s (.s .o (.b (.l ⟨[.v 5 1 (.dat (.int .i64) none),.v 6 1 (.dat (.sl (.st 32)) (some 0)),.v 7 1 (.dat (.int .u64) none),.v 8 1 (.dat (.int .i64) none),.v 9 1 (.dat (.int .i64) none)],[0,1],0,[4]⟩ .o))) .o))))))) λx=>by kernel_rfl
def R8:=mC R7 call123
theorem R9:Ctr Sz prog 162 [.rd (.int .u64)] [.rd (.int .i64)] (λx=>qv x.1):=
 ncR [] [2] func162 ntmps162 (.s .o (.s .o (.s (.b (.l ⟨[.v 0 1 (.dat (.int .u64) none),.v 3 1 (.dat (.int .i64) none)],[],0,[]⟩ .o)) .o))) λx=>by kernel_rfl
def Fs:=mC R9 call162
theorem Sa:Ctr Sz prog 170 [.rd (.sl (.int .u8)),.rd (.int .i64),.rd (.int .i64)] [.rd (.int .u64)] (λx=>oP x.1 x.2.1 x.2.2.1):=
 ncR [] [6] func170 ntmps170 (.s .o (.s .o (.s (.s .o (.b (.l ⟨[.v 7 1 (.dat (.int .u64) none),.v 8 1 (.dat (.int .i64) none)],[0,1,2],0,[]⟩ .o))) .o))) λx=>by kernel_rfl
def JA:=mC Sa call170
theorem Sb:Ctr Sz prog 124 [.rd (.sl (.int .u8)),.rd (.int .i64)] [.ap (.st 32)] (λx=>vX x.1 x.2.1):=
 ncR [Dx,Fs,JA] [4] func124 ntmps124 (.s .o (.s .o (.s .o (.s .o (.s (.s .o (.b (.l ⟨[.v 5 1 (.dat (.sl (.st 32)) (some 0)),.v 6 1 (.dat (.int .i64) none),.v 7 1 (.dat (.int .i64) none)],[0,1],0,[4]⟩ .o))) (.s .o (.s .o (.s .o (.s .o (.s (.s .o (.b (.l ⟨[.v 11 1 (.dat (.sl (.st 32)) (some 1)),.v 12 1 (.dat (.int .i64) none)],[0,1,5,6,10],0,[4,4]⟩ .o))) .o)))))))))) λx=>by kernel_rfl
def Sc:=mC Sb call124
theorem Sd:Ctr Sz prog 125 [.rd (.sl (.int .u8)),.rd (.int .i64)] [.ap (.st 32)] (λx=>tY x.1 x.2.1):=
 ncR [Bi,JA] [4] func125 ntmps125 (.s .o (.s .o (.s .o (.s .o (.s (.s .o (.b (.l ⟨[.v 6 1 (.dat (.sl (.st 32)) (some 0)),.v 7 1 (.dat (.int .i64) none)],[0,1,5],0,[4]⟩ .o))) .o))))) λx=>by kernel_rfl
def Se:=mC Sd call125
theorem Sf:Ctr Sz prog 113 [.rd (.int .i64),.rd (.sl (.st 32))] [.rd (.int .i64)] (λx=>rS x.1 x.2.1):=
 ncR [Jz] [4] func113 ntmps113 (.s .o (.s .o (.s .o (.s (.s .o (.b (.l ⟨[.v 5 1 (.dat (.int .i64) none)],[0,1],0,[]⟩ .o))) (.s (.s .o (.b (.l ⟨[.v 7 1 (.dat (.int .i64) none)],[0,1],0,[]⟩ .o))) .o))))) λx=>by kernel_rfl
def Si:=mC Sf call113
theorem JB (hS:S W0 m w L TL) {p0}(c5:RV (kSl kAp) m v0 p0) {r}(h:sA p0=some r):
    Calls prog 114 #[v0] w (Ret λv w'=>∃m',M.le m m'/\S W0 m' w' L ((5,v)::TL)/\RV (kSl cQ) m' v r):=by
 refine kc func114 ntmps114 λa E=>?_;have E:Env 55 a [(0,v0)]:=E;unfold sA at h;refine ab (ak (qA E rfl λa E=>ae (ab (ak (qA E rfl λa E=>ae (ab (ab ?_)))))));refine ak (qA E rfl λa E=>ae ?_);refine cj (λa w=>∃x6:(List d3),rT x6=some r/\∃m',M.le m m'/\∃(v7:Value),RV (kSl cQ) m' v7 x6/\S W0 m' w L ((5,v7)::TL)/\Env 55 a [(3,v7)]) ?_ ?_
 {
 refine bd ?_;refine eG h (λ(s:List d3×Int) a w=>∃m',M.le m m'/\∃(a0:Value),RV (kSl cQ) m' a0 s.1/\inR .i64 s.2/\S W0 m' w L ((5,a0)::TL)/\Env 55 a [(0,v0),(3,a0),(4,.int .i64 s.2)]) ?_ ?_
 {exact⟨_,(Z2 _),(.slice none 0 0),cT,(show inR .i64 0 from au (by decide)),(hS.tail0 5),kut E⟩}
 {
 rintro ⟨b0,Z⟩ a w ⟨c4,b3,a0,b1,d0,hS,E⟩ r19 h hb20;have h:pR p0 b0 Z=some r19:=h;unfold pR at h;refine ab (ab (ak (qM E rfl λa E=>qM E rfl λa E=>sp E (bh (k:=kAp) E rfl rfl underlying22 (c5.mono b3)) rfl λa E=>qB E rfl rfl cl λa E=>ae (kif E rfl (λe0=>?_) (λe0=>?_)))))
 {
 have h:=aF e0 h;refine aV (ab ?_);refine cj (λa w=>∃c6:(List d3),nH Z c6=some r19/\∃m',M.le c4 m'/\∃(b6:Value),RV (kSl cQ) m' b6 c6/\S W0 m' w L ((5,b6)::TL)/\Env 55 a [(0,v0),(3,b6),(4,.int .i64 Z)]) ?_ ?_
 {
 refine bd (ab (ab ?_));refine cj (λa w=>∃c1:Bool,lC p0 b0 Z c1=some r19/\∃m',M.le c4 m'/\S W0 m' w L ((5,a0)::TL)/\Env 55 a [(0,v0),(3,a0),(4,.int .i64 Z),(25,.bool c1)]) ?_ ?_
 {
 rcases Z1 (decide (0<Z)) with hd158|hd158
 {
 have h:=aF hd158 h;obtain⟨b4,m7,c0,g7,h⟩:=ob2 h
 refine kch (k:=12) (m:=c4) (es:=[]) (Φ:=(λi m ws v=>match i with|0=>ei .i64 Z v|1=>v=(.bool (decide (0<Z)))|2=>v=(.bool (decide (0<Z)))|3=>v=v0|4=>ei .i64 Z v|5=>PR kAp m v b4|6=>RV kAp m v b4|7=>v=v0|8=>ei .i64 Z v|9=>ei .i64 (Z3.wrap (Z - 1)) v|10=>PR kAp m v c0|11=>RV kAp m v c0|_=>True)) (Q:=(λc m ws L' b2=>match c with|0=>L=L'/\(5,a0)::TL=b2|_=>False)) (cs:=[CQ [(4,.int .i64 Z)],CQ [],CQ [],CQ [(0,v0)],CQ [(4,.int .i64 Z)],CQ [],CQ [],CQ [(0,v0)],CQ [(4,.int .i64 Z)],CQ [],CQ [],CQ []]) mixed E hS ⟨rfl,rfl⟩ rfl rfl (by kernel_rfl) ?_ ?_ ?_ ?_
 {
 intro i m_ b7 ws v n_ q_
 iterate 12 (rcases i with _|i;first|exact q_|exact PR.mono q_ n_|exact RV.mono q_ n_)
 exact trivial}
 {
 intro c m_ b7 ws L_ T_ n_ a1
 match c,a1 with
 |0,⟨a6,a5⟩=>exact⟨a6,a5⟩
 |_+1,a1=>exact a1.elim}
 {
 refine⟨?_,?_,?_,?_,?_,?_,?_,?_,?_,?_,?_,?_,trivial⟩
 {exact cmv λ_ _=>⟨rfl,d0⟩}
 {refine cp0 λ_ _ _ _ _ _ _ _ _ J W T'=>?_;have E:=W.add (T' 0).1;exact cq (a7 E rfl rfl kL) J rfl}
 {refine cp0 λ_ _ _ _ _ _ _ _ _ J W T'=>?_;have E:=W.add (T' 1);exact cq (iQ E rfl) J rfl}
 {exact cgm (gz hd158) (λ_ _=>rfl)}
 {exact cgm (gz hd158) (λ_ _=>⟨rfl,d0⟩)}
 {refine cg0 (gz hd158) λ_ _ _ _ _ _ _ M' _ J W T'=>?_;have E:=(W.add (T' 3)).add (T' 4).1;exact cr (bn (k:=kAp) E rfl rfl underlying22 sizeOf32 (c5.mono (Z0 b3 M')) m7) J λ_ h=>h}
 {
 refine cg0 (gz hd158) λ_ _ _ m' a' _ _ _ _ J W T'=>?_;obtain⟨r9,h8,m8⟩:∃v,a'.tmps.getD 17 undef=v/\(PR kAp m' v b4):=⟨_,rfl,T' 5⟩
 have E:=W.add (h8);exact cr (aO E J eD rfl m8) J λ_ h=>h}
 {exact cgm (gz hd158) (λ_ _=>rfl)}
 {exact cgm (gz hd158) (λ_ _=>⟨rfl,d0⟩)}
 {refine cg0 (gz hd158) λ_ _ _ _ _ _ _ _ _ J W T'=>?_;have E:=W.add (T' 8).1;exact cq (a7 E rfl rfl (iV rfl)) J ⟨rfl,(aA _ _)⟩}
 {refine cg0 (gz hd158) λ_ _ _ _ _ _ _ M' _ J W T'=>?_;have E:=(W.add (T' 7)).add (T' 9).1;exact cr (bn (k:=kAp) E rfl rfl underlying22 sizeOf32 (c5.mono (Z0 b3 M')) g7) J λ_ h=>h}
 {
 refine cg0 (gz hd158) λ_ _ _ m' a' _ _ _ _ J W T'=>?_;obtain⟨q3,i4,f6⟩:∃v,a'.tmps.getD 22 undef=v/\(PR kAp m' v c0):=⟨_,rfl,T' 10⟩
 have E:=W.add (i4);exact cr (aO E J eD rfl f6) J λ_ h=>h}}
 {
 intro f3 L_ T_ d1 a w p8 l2 j2 hS h6 n6 o3 a3;obtain rfl:=eH p8;obtain⟨rfl,rfl⟩:=j2;have E:=eof 12 [(0,v0),(3,a0),(4,.int .i64 Z),(6,.int .i64 Z),(7,v0),(8,.int .i64 (p0.length:Int)),(9,.bool (decide (Z<(p0.length:Int))))] h6 n6 o3;have E:=((E.add (a3 2)).add (a3 3)).add (a3 4).1;obtain⟨t4,g1,t9⟩:∃v,a.tmps.getD 17 undef=v/\(PR kAp d1 v b4):=⟨_,rfl,a3 5⟩
 have E:=E.add (g1);obtain⟨t3,m5,o2⟩:∃v,a.tmps.getD 18 undef=v/\(RV kAp d1 v b4):=⟨_,rfl,a3 6⟩
 have E:=(((E.add (m5)).add (a3 7)).add (a3 8).1).add (a3 9).1;obtain⟨r3,i1,s2⟩:∃v,a.tmps.getD 22 undef=v/\(PR kAp d1 v c0):=⟨_,rfl,a3 10⟩
 have E:=E.add (i1);obtain⟨r4,E,o1⟩:=adv E (a3 11);refine spg E rfl rfl rfl rfl hd158 (w8 E zP rfl rfl o2 o1 rfl) rfl λa E=>qT E hd158 rfl λa E=>ae ?_;exact⟨(decide (b4=c0)),h,_,l2,hS,kut E⟩}}
 {
 have h:=aG hd158 h
 refine kch (k:=12) (m:=c4) (es:=[]) (Φ:=(λi m ws v=>match i with|0=>ei .i64 Z v|1=>v=(.bool (decide (0<Z)))|2=>v=(.bool (decide (0<Z)))|3=>v=undef|4=>v=undef|5=>v=undef|6=>v=undef|7=>v=undef|8=>v=undef|9=>v=undef|10=>v=undef|11=>v=undef|_=>True)) (Q:=(λc m ws L' b2=>match c with|0=>L=L'/\(5,a0)::TL=b2|_=>False)) (cs:=[CQ [(4,.int .i64 Z)],CQ [],CQ [],CQ [(0,v0)],CQ [(4,.int .i64 Z)],CQ [],CQ [],CQ [(0,v0)],CQ [(4,.int .i64 Z)],CQ [],CQ [],CQ []]) mixed E hS ⟨rfl,rfl⟩ rfl rfl (by kernel_rfl) ?_ ?_ ?_ ?_
 {
 intro i m_ b7 ws v n_ q_
 iterate 12 (rcases i with _|i;exact q_)
 exact trivial}
 {
 intro c m_ b7 ws L_ T_ n_ a1
 match c,a1 with
 |0,⟨a6,a5⟩=>exact⟨a6,a5⟩
 |_+1,a1=>exact a1.elim}
 {
 refine⟨?_,?_,?_,?_,?_,?_,?_,?_,?_,?_,?_,?_,trivial⟩
 {exact cmv λ_ _=>⟨rfl,d0⟩}
 {refine cp0 λ_ _ _ _ _ _ _ _ _ J W T'=>?_;have E:=W.add (T' 0).1;exact cq (a7 E rfl rfl kL) J rfl}
 {refine cp0 λ_ _ _ _ _ _ _ _ _ J W T'=>?_;have E:=W.add (T' 1);exact cq (iQ E rfl) J rfl}
 {exact csk (gz hd158)}
 {exact csk (gz hd158)}
 {exact csk (gz hd158)}
 {exact csk (gz hd158)}
 {exact csk (gz hd158)}
 {exact csk (gz hd158)}
 {exact csk (gz hd158)}
 {exact csk (gz hd158)}
 {exact csk (gz hd158)}}
 {intro f3 L_ T_ s3 a w k6 l4 k3 hS k4 i8 g0 a2;obtain rfl:=eH k6;obtain⟨rfl,rfl⟩:=k3;have E:=eof 12 [(0,v0),(3,a0),(4,.int .i64 Z),(6,.int .i64 Z),(7,v0),(8,.int .i64 (p0.length:Int)),(9,.bool (decide (Z<(p0.length:Int))))] k4 i8 g0;have E:=(((((((((E.add (a2 2)).add (a2 3)).add (a2 4)).add (a2 5)).add (a2 6)).add (a2 7)).add (a2 8)).add (a2 9)).add (a2 10)).add (a2 11);refine qX E hd158 λa E=>qF E hd158 rfl λa E=>ae ?_;exact⟨false,h,_,l4,hS,kut E⟩}}}
 {
 rintro a w ⟨c1,h,f0,a4,hS,E⟩;unfold lC at h;refine kif E rfl (λe3=>?_) (λe3=>?_)
 {
 have h:=aF e3 h;refine ab (ak (qM E rfl λa E=>qM E rfl λa E=>sp E (bh (k:=cQ) E rfl rfl underlying152 (b1.mono a4)) rfl λa E=>qB E rfl rfl (iV rfl) λa E=>?_));obtain⟨x44,g5,h⟩:=ob h;refine st E (bn (k:=cQ) E rfl rfl underlying152 sizeOf155 (b1.mono a4) g5) rfl ?_;rintro p3 a _ ⟨rfl,j3⟩ E;refine st E (aO E hS yL rfl j3) rfl ?_;rintro n4 a _ ⟨rfl,h3⟩ E;refine st E (dv hS zeroValue155 rfl (cs:=LT)) rfl ?_;rintro _ a w ⟨a9,rfl,hS⟩ E;refine st0 E (dh E hS yL bW rfl rfl h3 (i:=0) rfl (Dt _)) ?_;rintro _ w ⟨s4,f4,hS⟩ E
 refine ae (ab (ak (sp E (aH E B7 rfl) rfl λa E=>?_)));refine st E (aK E hS ty3 rfl (i:=0) rfl (Nj.R_drop (az f4))) rfl ?_;rintro q4 a _ ⟨rfl,m2⟩ E;obtain⟨rfl,r0⟩:=aJ m2;refine qB E rfl rfl (br rfl) λa E=>sp E (aH E B7 rfl) rfl λa E=>?_;refine st0 E (dh E hS ty3 BZ rfl rfl (aq (aA _ _)) (i:=0) rfl f4) ?_;rintro _ w ⟨d2,e4,hS⟩ E;refine ae (ab ?_);obtain⟨k0,f9,e8,p2,h⟩:=ob2 h
 refine kch (k:=9) (m:=f0) (es:=[0,6]) (Φ:=(λi m ws v=>match i with|0=>v=(wi ws 0).v/\RV (kSl cQ) m v ([])|1=>v=a0|2=>v=a0|3=>ei .i64 (b0.length:Int) v|4=>ei .i64 (Z3.wrap ((b0.length:Int) - 1)) v|5=>RV (kSl cQ) m v k0|6=>v=(wi ws 1).v/\RV (kSl cQ) m v e8|7=>RV cQ m v ({ x44 with fMany:=Z3.wrap (x44.fMany+1) })|8=>RV (kSl cQ) m v ([{ x44 with fMany:=Z3.wrap (x44.fMany+1) }])|_=>True)) (Q:=(λc m ws L' b2=>match c with|0=>(a9,d2)::L=L'/\(5,a0)::TL=b2|1=>(a9,d2)::L=L'/\(5,(wi ws 0).v)::(5,a0)::TL=b2|2=>(a9,d2)::L=L'/\(5,(wi ws 1).v)::(5,a0)::TL=b2|_=>False)) (cs:=[⟨0,0,true,[]⟩,⟨0,1,false,[(3,a0)]⟩,⟨0,1,false,[(3,a0)]⟩,⟨0,1,false,[]⟩,⟨0,1,false,[]⟩,⟨0,1,false,[]⟩,⟨1,1,true,[]⟩,⟨0,2,false,[(5,pz a9)]⟩,⟨0,2,false,[]⟩]) mixed E hS ⟨rfl,rfl⟩ rfl rfl (by kernel_rfl) ?_ ?_ ?_ ?_
 {
 intro i m_ b7 ws v n_ q_
 iterate 9 (rcases i with _|i;first|exact q_|exact RV.mono q_ n_|exact⟨q_.1,RV.mono q_.2 n_⟩)
 exact trivial}
 {
 intro c m_ b7 ws L_ T_ n_ a1
 match c,a1 with
 |0,⟨a6,a5⟩=>exact⟨a6,a5⟩
 |1,⟨a6,a5⟩=>exact⟨a6,a5⟩
 |2,⟨a6,a5⟩=>exact⟨a6,a5⟩
 |_+3,a1=>exact a1.elim}
 {
 refine⟨?_,?_,?_,?_,?_,?_,?_,?_,?_,trivial⟩
 {refine ym λg9 L_ T_ m' a' w' e1 M' Q' J W T'=>?_;obtain rfl:=eH e1;obtain⟨rfl,rfl⟩:=Q';refine be.imp (f8 (k:=cQ) (xs:=[]) (vs:=[]) W J rfl underlying152 sizeOf155 zeroValue155 trivial rfl (by decide)) ?_;rintro b5 w ⟨r8,j4,hS,j5⟩;exact⟨_,⟨0,b5,[],[],[]⟩,_,_,j4,hS,⟨rfl,rfl⟩,⟨rfl,j5⟩⟩}
 {exact cmv λ_ _=>rfl}
 {exact cmv λ_ _=>rfl}
 {refine cp0 λ_ _ _ _ _ _ _ M' _ J W T'=>?_;have E:=W.add (T' 2);exact cq (bh (k:=cQ) E rfl rfl underlying152 (b1.mono (Z0 a4 M'))) J ⟨rfl,(eE (jX (b1.mono (Z0 a4 M'))))⟩}
 {refine cp0 λ_ _ _ _ _ _ _ _ _ J W T'=>?_;have E:=W.add (T' 3).1;exact cq (a7 E rfl rfl (iV rfl)) J ⟨rfl,(aA _ _)⟩}
 {refine cp0 λ_ _ _ _ _ _ _ M' _ J W T'=>?_;have E:=(W.add (T' 1)).add (T' 4).1;exact cr (cS (k:=cQ) E rfl underlying152 sizeOf155 (b1.mono (Z0 a4 M')) rfl ⟨_,rfl⟩ f9 (xl:=none) (xh:=(some (.tmp 40)))) J λ_ h=>h}
 {
 refine ym λg9 L_ T_ m' a' w' e1 M' Q' J W T'=>?_;obtain⟨⟨_,b5,_,_,_⟩,rfl⟩:=Bo e1;obtain⟨rfl,rfl⟩:=Q';obtain⟨t5,g2,c2⟩:∃v,a'.tmps.getD 36 undef=v/\(v=b5/\RV (kSl cQ) m' v ([])):=⟨_,rfl,T' 0 (by decide) 36 rfl⟩
 obtain⟨f5,c2⟩:=c2;rw[f5] at c2;have E:=W.add (g2.trans f5);obtain⟨r6,E,h0⟩:=adv E (T' 5 (by decide) 41 rfl);refine be.imp (fF (k:=cQ) (N:=2932031007402) E J rfl rfl underlying152 underlying152 Du (i:=0) rfl c2 h0 p2 rfl rfl) ?_;rintro c7 w ⟨r1,g3,hS,j1⟩;exact⟨_,⟨0,c7,[],[],[]⟩,_,_,g3,hS,⟨rfl,rfl⟩,⟨rfl,j1⟩⟩}
 {
 refine cp0 λ_ _ _ _ _ _ P' M' Q' J W _=>?_;rcases GC (a:=0) (n:=1) P' with h0_|h0_
 {obtain rfl:=eH h0_;obtain⟨rfl,rfl⟩:=Q';exact cr (aK W J yL rfl (i:=0) rfl (az (cQ.mono M' e4))) J λ_ h=>h}
 {
 obtain⟨⟨_,b5,_,_,_⟩,post_',rfl,hp1_⟩:=h0_;rcases GC (a:=0) (n:=0) hp1_ with h0_|h0_
 {obtain rfl:=eH h0_;obtain⟨rfl,rfl⟩:=Q';exact cr (aK W J yL rfl (i:=0) rfl (az (cQ.mono M' e4))) J λ_ h=>h}
 {obtain⟨⟨_,c7,_,_,_⟩,post_'',rfl,hp2_⟩:=h0_;obtain rfl:=eH (NT (a:=0) hp2_);obtain⟨rfl,rfl⟩:=Q';exact cr (aK W J yL rfl (i:=0) rfl (az (cQ.mono M' e4))) J λ_ h=>h}}}
 {refine cp0 λ_ _ _ m' a' _ _ _ _ J W T'=>?_;obtain⟨i0,E,l3⟩:=adv W (T' 7);refine be.imp (f8 (k:=cQ) (xs:=[{ x44 with fMany:=Z3.wrap (x44.fMany+1) }]) (vs:=[i0]) E J rfl underlying152 sizeOf155 zeroValue155 ⟨l3,trivial⟩ rfl (by decide)) ?_;rintro s1 w ⟨t0,n3,hS,o0⟩;exact⟨_,n3,(hS.dropT 1),o0⟩}}
 {
 intro f3 L_ T_ m6 a w h9 k5 m1 hS k7 h1 n1 e5;obtain⟨⟨_,b5,_,_,_⟩,⟨_,c7,_,_,_⟩,rfl⟩:=UN h9;obtain⟨rfl,rfl⟩:=m1;have E:=eof 9 [(0,v0),(3,a0),(4,.int .i64 Z),(5,pz a9),(25,.bool c1),(26,a0),(27,a0),(28,.int .i64 (b0.length:Int)),(29,.int .i64 (Z3.wrap ((b0.length:Int) - 1))),(30,p3),(31,n4),(32,pz a9),(33,.int .i64 x44.fMany),(34,.int .i64 (Z3.wrap (x44.fMany+1))),(35,pz a9)] k7 h1 n1;obtain⟨q5,j0,c3⟩:∃v,a.tmps.getD 42 undef=v/\(v=c7/\RV (kSl cQ) m6 v e8):=⟨_,rfl,e5 6⟩
 obtain⟨e7,c3⟩:=c3;rw[e7] at c3;have E:=E.add (j0.trans e7);obtain⟨t1,E,h4⟩:=adv E (e5 8);obtain⟨p4,h7,h⟩:=ob h;refine st E (fF (k:=cQ) (N:=2932031007402) E hS rfl rfl underlying152 underlying152 Du (i:=0) rfl c3 h4 h7 rfl rfl) rfl ?_;rintro n2 a w ⟨q6,i3,hS,m9⟩ E;refine qA E rfl λa E=>ae ?_;refine d4 rfl rfl ?_;exact⟨p4,h,_,(Z0 a4 (Z0 k5 i3)),n2,m9,((hS.pickL 1 [] rfl rfl rfl).pickT 2 [0] rfl rfl rfl),kut E⟩}}
 {
 have h:=aG e3 h;refine aV (ak (qM E rfl λa E=>qM E rfl λa E=>qM E rfl λa E=>?_));obtain⟨e6,q1,h⟩:=ob h;refine st E (bn (k:=kAp) E rfl rfl underlying22 sizeOf32 (c5.mono (Z0 b3 a4)) q1) rfl ?_;rintro r2 a _ ⟨rfl,g6⟩ E;refine st E (aO E hS eD rfl g6) rfl ?_;rintro h5 a _ ⟨rfl,l1⟩ E;refine st E (sE (m:=f0) (k:=cQ) (x0:=d3.zero) (xx:=(⟨1,e6⟩:d3)) (pl:=[(0,1),(1,4)]) (pv:=[(0,.int .i64 1),(1,h5)]) E rfl underlying155 rfl zeroValue155 Dt rfl (.cons rfl BZ (aq (show inR .i64 1 from au (by decide))) (.cons rfl Gs l1 .nil))) rfl ?_
 rintro m3 a _ ⟨rfl,n0⟩ E;refine st E (f8 (k:=cQ) (xs:=[(⟨1,e6⟩:d3)]) (vs:=[m3]) E hS rfl underlying152 sizeOf155 zeroValue155 ⟨n0,trivial⟩ rfl (by decide)) rfl ?_;rintro r7 a w ⟨q7,e9,hS,g4⟩ E;obtain⟨g8,h2,h⟩:=ob h;refine st E (fF (k:=cQ) (N:=2932031007402) E hS rfl rfl underlying152 underlying152 Du (i:=1) rfl (b1.mono (Z0 a4 e9)) g4 h2 rfl rfl) rfl ?_;rintro p6 a w ⟨r5,i5,hS,p7⟩ E;refine qA E rfl λa E=>ae ?_;exact⟨g8,h,_,(Z0 a4 (Z0 e9 i5)),p6,p7,(hS.pickT 2 [1] rfl rfl rfl),kut E⟩}}}
 {rintro a w ⟨c6,h,u0,q2,b6,q0,hS,E⟩;unfold nH at h;refine ak (qM E rfl λa E=>qB E rfl rfl (br rfl) λa E=>qA E rfl λa E=>ae ?_);exact⟨(c6,Z3.wrap (Z+1)),(Option.some.inj h).symm,_,(Z0 b3 q2),b6,q0,(aA _ _),hS,kut E⟩}}
 {have h:=aG e0 h;refine d4 rfl rfl ?_;have h:=bY h hb20;exact⟨b0,h,_,b3,a0,b1,hS,kut E⟩}}}
 {
 rintro a w ⟨x6,h,m4,i2,v7,p5,hS,E⟩;unfold rT at h;refine ab (ak (qM E rfl λa E=>qA E rfl λa E=>ae (bD ?_)));obtain rfl:=oi h
 try dsimp only
 refine f1 E ?_;exact⟨_,i2,(hS.pickT 1 [0] rfl rfl rfl),p5⟩}
theorem Sj:Ctr Sz prog 114 [.rd (.sl (.st 32))] [.ap (.st 155)] (λx=>sA x.1):=by
 intro W0 m w L TL vs x r Lp Tp hS hP h;obtain⟨v0,vs,rfl,a0,J⟩:=iJ hP;obtain⟨rfl,rfl,rfl⟩:=lV J;refine rm (JB (hS:=hS) a0 h) λv w' W=>?_;obtain⟨m',hm,Z',Z⟩:=W;exact⟨m',[v],[],[],[(5,v)],hm,Z',rfl,⟨Z,rfl,trivial⟩,trivial⟩
def Sk:=mC Sj call114
theorem Sl:Ctr Sz prog 118 [.rd (.int .u64)] [.ap (.int .u8)] (λx=>pE x.1):=
 ncR [] [2] func118 ntmps118 (.s .o (.s .o (.s (.s .o (.b (.l ⟨[.v 3 1 (.dat (.sl (.int .u8)) (some 0)),.v 4 1 (.dat (.int .i64) none)],[0],0,[1]⟩ .o))) .o))) λx=>by kernel_rfl
def Ft:=mC Sl call118
theorem Uo:Ctr Sz prog 54 [.rd (.st 32)] [.ap (.int .u8)] (λx=>vc x.1):=
 ncR [Ft] [2] func54 ntmps54 .o λx=>by kernel_rfl
def Ma:=mC Uo call54
theorem Sm:Ctr Sz prog 115 [.rd (.sl (.st 32))] [.ap (.int .u8)] (λx=>vM x.1):=
 ncR [Ft] [2] func115 ntmps115 (.s .o (.s .o (.s (.s .o (.b (.l ⟨[.v 3 1 (.dat (.sl (.int .u8)) (some 0)),.v 4 1 (.dat (.int .i64) none)],[0],0,[1]⟩ (.s .o (.s (.b (.s .o (.s .o (.s .o (.s (.b (.l ⟨[.v 3 2 (.dat (.sl (.int .u8)) (some 0)),.v 6 2 (.dat (.int .u64) none)],[0,4],0,[1]⟩ .o)) .o))))) .o))))) .o))) λx=>by kernel_rfl
def Sn:=mC Sm call115
theorem So:Ctr Sz prog 141 [.rd (.st 32),.rd (.st 32)] [.rd .bool] (λx=>qu x.1 x.2.1):=
 ncR [] [4] func141 ntmps141 .o λx=>by kernel_rfl
def Sq:=mC So call141
theorem Up:Ctr Sz prog 95 [.rd (.st 32),.rd (.st 32)] [.rd (.int .i64)] (λx=>iX x.1 x.2.1):=
 ncR [Sq] [4] func95 ntmps95 .o λx=>by kernel_rfl
def HC:=mC Up call95
theorem Sr:Ctr Sz prog 160 [.rd (.sl (.st 32))] [.rd (.sl (.st 32))] (λx=>vN x.1):=
 ncR [HC] [2] func160 ntmps160 (.s .o (.s .o (.s (.s .o (.b (.l ⟨[.v 3 1 (.dat (.sl (.st 32)) none),.v 4 1 (.dat (.int .i64) none)],[0],0,[]⟩ (.s .o (.s (.b (.s .o (.s .o (.s (.s .o (.b (.l ⟨[.v 5 2 (.dat (.sl (.st 32)) (some 0)),.v 6 2 (.dat .bool none),.v 7 2 (.dat (.int .i64) none)],[0,3,4],0,[4]⟩ .o))) .o)))) .o))))) .o))) λx=>by kernel_rfl
def Ss:=mC Sr call160
theorem Su:Ctr Sz prog 161 [.rd (.sl (.int .u64)),.rd (.int .i64)] [.ap (.int .u8)] (λx=>rx x.1 x.2.1):=
 ncR [] [4] func161 ntmps161 (.s .o (.s .o (.s (.s .o (.b (.l ⟨[.v 5 1 (.dat (.sl (.int .u8)) (some 0)),.v 6 1 (.dat (.int .i64) none)],[0,1],0,[1]⟩ (.s .o (.s (.b (.s .o (.s .o (.b (.l ⟨[.v 5 2 (.dat (.sl (.int .u8)) (some 0)),.v 7 2 (.dat (.int .u64) none),.v 8 2 (.dat (.int .i64) none)],[0,1,6],0,[1]⟩ .o))))) .o))))) (.s .o (.s (.s .o (.b (.l ⟨[.v 9 1 (.dat (.sl (.int .u8)) (some 1)),.v 10 1 (.dat (.int .i64) none)],[5],0,[1,1]⟩ (.s .o (.s (.b (.s .o (.s (.s .o (.b (.l ⟨[.v 11 2 (.dat (.int .u8) none),.v 12 2 (.dat (.int .i64) none)],[5,9,10],0,[1,1]⟩ .o))) .o))) .o))))) .o))))) λx=>by kernel_rfl
def JC:=mC Su call161
theorem Sv:Ctr Sz prog 116 [.rd (.sl (.st 32))] [.ap (.int .u8)] (λx=>yz x.1):=
 ncR [Ma,Ss,JC,Fs] [2] func116 ntmps116 (.s .o (.s .o (.s .o (.s (.s .o (.b (.l ⟨[.v 4 1 (.dat (.sl (.int .u8)) (some 0)),.v 5 1 (.dat (.int .i64) none)],[0,3],0,[1]⟩ .o))) (.s .o (.s (.s .o (.b (.l ⟨[.v 6 1 (.dat (.sl (.int .u64)) (some 1)),.v 7 1 (.dat (.int .i64) none)],[0,3,4],0,[1,1]⟩ (.s .o (.s (.b (.s .o (.b (.l ⟨[.v 6 2 (.dat (.sl (.int .u64)) (some 1)),.v 8 2 (.dat (.int .i64) none)],[0,3,4,7],0,[1,1]⟩ .o)))) .o))))) .o)))))) λx=>by kernel_rfl
def Sw:=mC Sv call116
theorem Sx:Ctr Sz prog 117 [.rd (.sl (.st 32))] [.ap (.int .u8)] (λx=>vR x.1):=
 ncR [Ft,JC,Fs] [2] func117 ntmps117 (.s .o (.s .o (.s (.s .o (.b (.l ⟨[.v 3 1 (.dat (.int .i64) none),.v 4 1 (.dat (.int .i64) none)],[0],0,[]⟩ .o))) (.s .o (.s .o (.s (.s .o (.b (.l ⟨[.v 5 1 (.dat (.sl (.int .u64)) (some 0)),.v 6 1 (.dat (.int .i64) none),.v 7 1 (.dat (.int .i64) none)],[0,3],0,[1]⟩ .o))) .o)))))) λx=>by kernel_rfl
def Sy:=mC Sx call117
theorem Uq:Ctr Sz prog 52 [.rd (.int .i64),.rd (.sl (.st 32))] [.rd (.sl (.int .u8)),.rd (.int .i64)] (λx=>tV x.1 x.2.1):=
 ncR [Ma,Si,Sk,Sn,Sw,Sy] [4,5] func52 ntmps52 (.s .o (.s .o (.s .o (.s .o (.s (.s .o (.b (.s .o (.i (.s .o (.s .o (.b (.l ⟨[.v 7 1 (.dat (.sl (.int .u8)) (some 1)),.v 9 1 (.dat (.int .i64) none)],[8],0,[1,5]⟩ .o)))) (.s .o (.i .o (.s .o (.i .o (.s .o (.i .o (.s .o (.b (.l ⟨[.v 7 1 (.dat (.sl (.int .u8)) (some 0)),.v 10 1 (.dat (.int .i64) none)],[1],0,[1]⟩ .o))))))))))))) .o))))) λx=>by kernel_rfl
def Ur:=mC Uq call52
theorem Us:Ctr Sz prog 63 [.rd (.int .i64),.rd (.sl (.int .u8)),.rd (.int .i64)] [.rd (.sl (.st 32)),.rd (.int .i64)] (λx=>tZ x.1 x.2.1 x.2.2.1):=
 ncR [Ur,R4,R6,R8,Sc,Se] [6,7] func63 ntmps63 .o λx=>by kernel_rfl
def Ut:=mC Us call63
theorem Uu:Ctr Sz prog 53 [.rd (.int .i64),.rd (.sl (.st 32))] [.rd (.st 37)] (λx=>vS x.1 x.2.1):=
 nxR [HC] [.cell 4 37] func53 ntmps53 (.s .o (.s .o (.s (.s .o (.b (.l ⟨[.v 6 1 (.dat (.int .i64) none),.b 1 1 (.st 37)],[1,4,5],2,[]⟩ .o))) .o))) λx=>by kernel_rfl
def Uv:=mC Uu call53
theorem Uw:Ctr Sz prog 22 [.rd (.sl (.int .u8))] [.rd (.sl (.st 32)),.rd (.int .i64),.rd (.int .i64)] (λx=>qC x.1):=
 ncR [Un,Uv,Uj,Bi,Ut] [2,3,4] func22 ntmps22 .o λx=>by kernel_rfl
def Ux:=mC Uw call22
theorem Uy:Ctr Sz prog 87 [.rd (.sl (.int .u8)),.rd (.int .i64)] [.rd (.sl (.st 32)),.rd .bool] (λx=>rB x.1 x.2.1):=
 ncR [Ux] [4,5] func87 ntmps87 (.s .o (.s .o (.s (.b (.l ⟨[.v 0 1 (.dat (.sl (.int .u8)) none),.v 6 1 (.dat (.sl (.st 32)) (some 0))],[1],0,[4]⟩ .o)) .o))) λx=>by kernel_rfl
theorem FO (hS:S W0 m w L TL) {p0}(a0:RV (kSl (ag .u8)) m v0 p0) {p1}(Z:inR .i64 p1) {r}(h:rB p0 p1=some r):
    Calls prog 87 #[v0,(.int .i64 p1)] w (Ret λv w'=>∃m',M.le m m'/\S W0 m' w' L TL/\∃v0_ v1_:Value,v= .tuple #[v0_,v1_]/\RV (kSl kAp) m' v0_ r.1/\RV cL m' v1_ r.2):=by
 refine rm (Uy W0 m w L TL [v0,(.int .i64 p1)] (p0,p1,()) r [] [] hS ⟨a0,⟨aq Z,trivial⟩⟩ h) λv w' he=>?_;obtain⟨m',us,Lr,Lq,Tr,hm,Z',rfl,hR,hO⟩:=he;obtain⟨u0,us,rfl,r0,W⟩:=cM hR;obtain⟨u1,us,rfl,J,a1⟩:=cM W;obtain⟨rfl,rfl,rfl⟩:=b9 a1;have a3:=bp hO;have a2:=bp a3;obtain rfl:=cc a2;exact⟨m',hm,Z',u0,u1,rfl,r0,J⟩
end
end Go.Proofs.YthbonoagbeilkaaGreat.Hay
