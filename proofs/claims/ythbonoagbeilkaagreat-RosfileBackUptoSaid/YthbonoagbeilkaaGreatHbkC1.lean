import Derived.Test.YthbonoagbeilkaaGreatHcZ
import Derived.Test.YthbonoagbeilkaaGreatExQ
import Derived.Test.YthbonoagbeilkaaGreatHbW
set_option maxRecDepth 100000
set_option maxHeartbeats 4000000
set_option linter.unusedVariables false
namespace Go.Proofs.YthbonoagbeilkaaGreat.Hay
open Nat renaming le_of_ble_eq_true→Q2
open Bool renaming eq_false_or_eq_true→kz
open M.le renaming trans→qk,refl→Q0
open IntKind renaming i64→Q1,u64→Q3,u8→Q4
open Go.Proofs Tryz
noncomputable section
variable {W0:Bse}{m:M}{w:World}{L:List (Nat×List Value)}{TL:List (Nat×Value)}{v0 v1 v2 v3 v4 v5 v6 v7 v8 v9:Value}
theorem KP:Ctr Sz prog 176 [.rd (.sl (.int .i64)),.rd (.int .i64)] [.rd (.int .i64)] (λx=>kt x.1 x.2.1):=
 ncR [] [4] func176 ntmps176 (.s .o (.s (.s .o (.b (.l ⟨[.v 8 1 (.dat (.int .i64) none)],[0,1,7],0,[]⟩ .o))) .o)) λx=>by kernel_rfl
def KQ:=mC KP call176
theorem KR:Ctr Sz prog 132 [.rd (.sl (.int .i64)),.rd (.int .i64)] [.rd .bool] (λx=>gn x.1 x.2.1):=
 ncR [KQ] [4] func132 ntmps132 .o λx=>by kernel_rfl
theorem sd (hS:S W0 m w L TL) {p0}(a3:RV (kSl (ai .i64)) m v0 p0) {p1}(a1:inR .i64 p1) {r}(h:gn p0 p1=some r):
    Calls prog 132 #[v0,(.int .i64 p1)] w (Ret λv w'=>∃m',M.le m m'/\S W0 m' w' L TL/\RV cm m' v r):=by
 refine rm (KR W0 m w L TL [v0,(.int .i64 p1)] (p0,p1,()) r [] [] hS ⟨a3,⟨am a1,trivial⟩⟩ h) λv w' he=>?_;obtain⟨m',us,Lr,Lq,Tr,J,Z',rfl,Z,hO⟩:=he;obtain⟨u0,us,rfl,r0,a2⟩:=cE Z;obtain⟨rfl,rfl,rfl⟩:=bL a2;have a0:=bj hO;have W:=bj a0;obtain rfl:=bM W;exact⟨m',J,Z',r0⟩
theorem KS:Ctr Sz prog 128 [] [.rd (.st 32)] (λx=>j7):=
 nxR [] [.cell 0 32] func128 ntmps128 .o λx=>by kernel_rfl
def Bb:=mC KS call128
theorem KT:Ctr Sz prog 144 [.rd .bool] [.rd (.st 32)] (λx=>nH x.1):=
 nxR [] [.cell 2 32] func144 ntmps144 .o λx=>by kernel_rfl
def Fc:=mC KT call144
theorem KU:Ctr Sz prog 136 [.rd (.int .i64)] [.rd (.st 32)] (λx=>d5 x.1):=
 nxR [] [.cell 2 32] func136 ntmps136 .o λx=>by kernel_rfl
def wO:=mC KU call136
theorem KV:Ctr Sz prog 145 [.rd .str] [.rd (.st 32)] (λx=>nI x.1):=
 nxR [] [.cell 2 32] func145 ntmps145 .o λx=>by kernel_rfl
def Fd:=mC KV call145
theorem KW:Ctr Sz prog 101 [.rd (.st 32)] [.rd .bool] (λx=>kM x.1):=
 ncR [Bb,wO,Fc,Fd] [2] func101 ntmps101 .o λx=>by kernel_rfl
def Bc:=mC KW call101
theorem KX:Ctr Sz prog 133 [.rd (.int .i64),.rd (.st 59)] [.rd .bool] (λx=>kH x.1 x.2.1):=
 ncR [Bc] [4] func133 ntmps133 (.s .o (.s (.s .o (.b (.l ⟨[.v 11 1 (.dat (.int .i64) none)],[0,3,9,10],1,[]⟩ .o))) .o)) λx=>by kernel_rfl
theorem wP (hS:S W0 m w L TL) {p0}(a3:inR .i64 p0) {p1}(a1:RV ae m v1 p1) {r}(h:kH p0 p1=some r):
    Calls prog 133 #[(.int .i64 p0),v1] w (Ret λv w'=>∃m',M.le m m'/\S W0 m' w' L TL/\RV cm m' v r):=by
 refine rm (KX W0 m w L TL [(.int .i64 p0),v1] (p0,p1,()) r [] [] hS ⟨am a3,⟨a1,trivial⟩⟩ h) λv w' he=>?_;obtain⟨m',us,Lr,Lq,Tr,J,Z',rfl,Z,hO⟩:=he;obtain⟨u0,us,rfl,r0,a2⟩:=cE Z;obtain⟨rfl,rfl,rfl⟩:=bL a2;have a0:=bj hO;have W:=bj a0;obtain rfl:=bM W;exact⟨m',J,Z',r0⟩
theorem jI (hS:S W0 m w L TL) {p0}(g1:inR .i64 p0) {p1}(c2:RV (kSl (ai .i64)) m v1 p1) {p2}(b7:RV (kSl ae) m v2 p2) {r}(h:fJ p0 p1 p2=some r):
    Calls prog 74 #[(.int .i64 p0),v1,v2] w (Ret λv w'=>∃m',M.le m m'/\S W0 m' w' L TL/\RV (ai .i64) m' v r):=by
 refine kc func74 ntmps74 λa E=>?_;have E:Env 69 a [(0,.int .i64 p0),(1,v1),(2,v2)]:=E;unfold fJ at h;refine ab (aj (qA E rfl λa E=>ag (ab (ab ?_))));refine cF (λa w=>∃x4:Bool,fd p0 p1 p2 x4=some r/\∃m',M.le m m'/\S W0 m' w L TL/\Env 69 a [(0,.int .i64 p0),(1,v1),(2,v2),(17,.bool x4)]) ?_ ?_
 {
 refine aj (qM E rfl λa E=>qB E rfl rfl cC λa E=>qM E rfl λa E=>?_);rcases kz (decide (p0<1)) with hd146|hd146
 {have h:=aD hd146 h;refine qX E hd146 λa E=>qX E hd146 λa E=>qT E hd146 rfl λa E=>ag ?_;exact⟨true,h,_,(Q0 _),hS,kut E⟩}
 {have h:=aF hd146 h;refine qG E hd146 rfl λa E=>spg E rfl rfl rfl rfl hd146 (bh E rfl rfl mO) rfl λa E=>qF E hd146 rfl λa E=>ag ?_;exact⟨(decide (8<p0)),h,_,(Q0 _),hS,kut E⟩}}
 {
 rintro a w ⟨x4,h,m2,J,hS,E⟩;unfold fd at h;refine kif E rfl (λc1=>?_) (λc1=>?_)
 {
 have h:=aD c1 h;refine ab (aj (qA E rfl λa E=>ag (bd ?_)));obtain rfl:=oi h
 try dsimp only
 refine f1 E ?_;exact⟨_,J,hS,(am (show inR .i64 1 from ay (by decide)))⟩}
 {
 have h:=aF c1 h;refine aR (ab (ab (aj (qM E rfl λa E=>sp E (aY (k:=(ai .i64)) E rfl rfl underlying49 (c2.mono J)) rfl λa E=>qM E rfl λa E=>ag ?_))));refine cF (λa w=>d8 p0 p2=some r/\∃m',M.le m2 m'/\S W0 m' w L TL/\Env 69 a [(0,.int .i64 p0),(2,v2)]) ?_ ?_
 {
 refine aW ?_;refine fw h (λ(s:Int) a w=>∃m',M.le m2 m'/\inR .i64 s/\S W0 m' w L TL/\Env 69 a [(0,.int .i64 p0),(1,v1),(2,v2),(18,v1),(19,.int .i64 (p1.length:Int)),(20,.int .i64 s)]) ?_ ?_
 {exact⟨_,(Q0 _),(show inR .i64 0 from ay (by decide)),hS,kut E⟩}
 {
 rintro a3 a w ⟨e6,a0,j4,hS,E⟩ r93 h hb94;have h:fc p0 p1 p2 a3=some r93:=h;unfold fc at h;refine ab (aj (qB E rfl rfl cC λa E=>ag (ab (kif E rfl (λb3=>?_) (λb3=>?_)))))
 {
 have h:=aD b3 h;refine aR (ab (aW (ab (aj (qM E rfl λa E=>?_)))));obtain⟨b5,f3,h⟩:=ob h;refine st E (ez (k:=(ai .i64)) E rfl rfl underlying49 sizeOf3 (c2.mono (qk J a0)) f3) rfl ?_;rintro k4 a _ ⟨rfl,f0⟩ E;refine st E (aZ E hS ty3 rfl f0) rfl ?_;rintro j2 a _ ⟨rfl,e7⟩ E;obtain⟨rfl,h3⟩:=aJ e7;refine qA E rfl λa E=>qA E rfl λa E=>ag (ab ?_);refine cF (λa w=>∃c5:Bool,d9 a3 c5=some r93/\∃m',M.le e6 m'/\S W0 m' w L TL/\Env 69 a [(0,.int .i64 p0),(1,v1),(2,v2),(18,v1),(19,.int .i64 (p1.length:Int)),(20,.int .i64 a3),(38,.bool c5)]) ?_ ?_
 {
 refine aj (qM E rfl λa E=>qB E rfl rfl cC λa E=>qM E rfl λa E=>?_);rcases kz (decide (b5<0)) with hd118|hd118
 {have h:=aD hd118 h;refine qX E hd118 λa E=>qX E hd118 λa E=>qX E hd118 λa E=>qT E hd118 rfl λa E=>qM E rfl λa E=>qX E rfl λa E=>qX E rfl λa E=>qX E rfl λa E=>qX E rfl λa E=>qX E rfl λa E=>?_;refine qT E rfl rfl λa E=>ag ?_;exact⟨true,h,_,(Q0 _),hS,kut E⟩}
 {
 have h:=aF hd118 h;refine qG E hd118 rfl λa E=>qG E hd118 rfl λa E=>spg E rfl rfl rfl rfl hd118 (bh E rfl rfl yR) rfl λa E=>qF E hd118 rfl λa E=>qM E rfl λa E=>?_;rcases kz (decide (p0<=b5)) with hd127|hd127
 {have h:=aD hd127 h;refine qX E hd127 λa E=>qX E hd127 λa E=>qX E hd127 λa E=>qX E hd127 λa E=>qX E hd127 λa E=>qT E hd127 rfl λa E=>ag ?_;exact⟨true,h,_,(Q0 _),hS,kut E⟩}
 {
 have h:=aF hd127 h;refine qG E hd127 rfl λa E=>qG E hd127 rfl λa E=>?_;obtain⟨j1,h5,h⟩:=ob h;refine stg E rfl rfl rfl rfl hd127 (dA (k:=(ai .i64)) E rfl underlying49 sizeOf3 (c2.mono (qk J a0)) rfl ⟨_,rfl⟩ h5 (xl:=none) (xh:=(some (.tmp 34)))) rfl ?_;rintro i0 a _ ⟨rfl,g6⟩ E;refine qG E hd127 rfl λa E=>?_;obtain⟨g4,h9,h⟩:=ob h;refine stg E rfl rfl rfl rfl hd127 (az (vs:=[i0,(.int .i64 b5)]) E rfl call132 (sd (hS:=hS) g6 h3 h9)) rfl ?_;rintro k5 a w ⟨k7,g3,hS,f6⟩ E;obtain rfl:=cT f6;refine qF E hd127 rfl λa E=>ag ?_
 exact⟨g4,h,_,g3,hS,kut E⟩}}}
 {
 rintro a w ⟨c5,h,i3,e3,hS,E⟩;unfold d9 at h;refine kif E rfl (λb2=>?_) (λb2=>?_)
 {
 have h:=aD b2 h;refine ab (aj (qA E rfl λa E=>ag (bd ?_)));have h:=cG h hb94;obtain rfl:=oi h
 try dsimp only
 refine f1 E ?_;exact⟨_,(qk J (qk a0 e3)),hS,(am (show inR .i64 1 from ay (by decide)))⟩}
 {have h:=aF b2 h;refine aR (aj (qB E rfl rfl (cB rfl) λa E=>qM E rfl λa E=>ag ?_));exact⟨Q1.wrap (a3+1),(Option.some.inj h).symm,_,(qk a0 e3),(aI _ _),hS,kut E⟩}}}
 {have h:=aF b3 h;refine eG rfl rfl ?_;have h:=cG h hb94;exact⟨h,_,a0,hS,kut E⟩}}}
 {
 rintro a w ⟨h,d2,W,hS,E⟩;unfold d8 at h;refine ab (ab (aj (qM E rfl λa E=>sp E (aY (k:=ae) E rfl rfl underlying50 (b7.mono (qk J W))) rfl λa E=>qB E rfl rfl mO λa E=>ag (kif E rfl (λc7=>?_) (λc7=>?_)))))
 {
 have h:=aD c7 h;refine ab (aj (qA E rfl λa E=>ag (bd ?_)));obtain rfl:=oi h
 try dsimp only
 refine f1 E ?_;exact⟨_,(qk J W),hS,(am (show inR .i64 81 from ay (by decide)))⟩}
 {
 have h:=aF c7 h;refine aR (ab (aj ?_));refine st E (Cr hS) rfl ?_;rintro _ a w ⟨Z,rfl,hS,e5,h1⟩ E;refine qA E rfl λa E=>ag (ab (ab (aj (qM E rfl λa E=>sp E (aY (k:=ae) E rfl rfl underlying50 (b7.mono (qk J W))) rfl λa E=>qM E rfl λa E=>ag ?_))));refine cF (λa w=>∃b6:(List aK),lj b6=some r/\∃m',M.le d2 m'/\∃(c6:Array MapEntry),∃(c4:Nat),oh Dl c6 c4 b6/\S (W0.put Z (.map c6 c4)) m' w L TL/\Env 69 a []) ?_ ?_
 {
 refine aW ?_;refine fw h (λ(s:Int×List aK) a w=>∃m',M.le d2 m'/\∃(a9:Array MapEntry),∃(a5:Nat),inR .i64 s.1/\oh Dl a9 a5 s.2/\S (W0.put Z (.map a9 a5)) m' w L TL/\Env 69 a [(0,.int .i64 p0),(9,(.map (some Z))),(44,v2),(45,.int .i64 (p2.length:Int)),(46,.int .i64 s.1)]) ?_ ?_
 {exact⟨_,(Q0 _),#[],0,(show inR .i64 0 from ay (by decide)),(oh.nil (K:=Dl)),hS,kut E⟩}
 {
 rintro ⟨a6,a1⟩ a w ⟨g5,a4,a9,a5,i4,e4,hS,E⟩ r43 h hb44;have h:cP p0 p2 a6 a1=some r43:=h;unfold cP at h;refine ab (aj (qB E rfl rfl cC λa E=>ag (ab (kif E rfl (λb4=>?_) (λb4=>?_)))))
 {
 have h:=aD b4 h;refine aR (ab (aW (ab (aj ?_))));obtain⟨a2,g0,h⟩:=ob h;refine st E (ez (k:=ae) E rfl rfl underlying50 sizeOf59 (b7.mono (qk J (qk W a4))) g0) rfl ?_;rintro k6 a _ ⟨rfl,h4⟩ E;refine st E (aZ E hS pn rfl h4) rfl ?_;rintro l1 a _ ⟨rfl,f4⟩ E;refine st E (ci hS zeroValue59 rfl (cs:=vG)) rfl ?_;rintro _ a w ⟨h0,rfl,hS⟩ E;refine st0 E (bU E hS pn bp rfl rfl f4 (i:=0) rfl (s4 _)) ?_;rintro _ w ⟨h7,b1,hS⟩ E;refine ag (ab ?_);refine OG (K:=Dl) mixed rfl E rfl hS h1 e4 rfl rfl underlying171 zeroValue3 pa wM vH (i:=0) rfl b1 underlying3 ?_
 intro a w d1 e1 E hS d0;refine ab ?_;refine cF (λa w=>∃c0:Bool,fa a6 a1 a2 c0=some r43/\∃m',M.le g5 m'/\S (W0.put Z (.map d1 e1)) m' w ((h0,h7)::L) (TL)/\Env 69 a [(0,.int .i64 p0),(9,(.map (some Z))),(44,v2),(45,.int .i64 (p2.length:Int)),(46,.int .i64 a6),(67,.bool c0)]) ?_ ?_
 {
 refine aj (qM E rfl λa E=>?_);refine st E (aA E hS pn rfl (i:=0) rfl (aC b1)) rfl ?_;rintro h8 a _ ⟨rfl,h6⟩ E;obtain⟨f5,g2,h⟩:=ob h;refine st E (az (vs:=[(.int .i64 p0),h8]) E rfl call133 (wP (hS:=hS) g1 h6 g2)) rfl ?_;rintro l2 a w ⟨k3,b0,hS,e9⟩ E;obtain rfl:=cT e9;refine sp E (kS E rfl) rfl λa E=>qM E rfl λa E=>?_;rcases kz (!f5) with hd80|hd80
 {have h:=aD hd80 h;refine qX E hd80 λa E=>qX E hd80 λa E=>qX E hd80 λa E=>qX E hd80 λa E=>qX E hd80 λa E=>qT E hd80 rfl λa E=>ag ?_;exact⟨true,h,_,b0,hS,kut E⟩}
 {have h:=aF hd80 h;refine qG E hd80 rfl λa E=>spg E rfl rfl rfl rfl hd80 (aB E pa rfl) rfl λa E=>?_;refine stg E rfl rfl rfl rfl hd80 (aA E hS vH rfl (i:=0) rfl (wM.R_drop (aC (ae.mono b0 b1)))) rfl ?_;rintro i2 a _ ⟨rfl,e8⟩ E;refine spg E rfl rfl rfl rfl hd80 (BD (k:=br) E hS d0 rfl rfl e8 underlying171 zeroValue3) rfl λa E=>spg E rfl rfl rfl rfl hd80 (bh E rfl rfl mO) rfl λa E=>qF E hd80 rfl λa E=>ag ?_;exact⟨(decide (1<(iS (a2.fId::a1) a2.fId))),h,_,b0,hS,kut E⟩}}
 {
 rintro a w ⟨c0,h,i5,e0,hS,E⟩;unfold fa at h;refine kif E rfl (λc3=>?_) (λc3=>?_)
 {
 have h:=aD c3 h;refine ab (aj (qA E rfl λa E=>ag (bd ?_)));have h:=cG h hb44;obtain rfl:=oi h
 try dsimp only
 refine f1 E ?_;exact⟨_,(qk J (qk W (qk a4 e0))),(S.unK (hS.dropL 1) e5),(am (show inR .i64 81 from ay (by decide)))⟩}
 {have h:=aF c3 h;refine aR (aj (qB E rfl rfl (cB rfl) λa E=>qM E rfl λa E=>ag ?_));exact⟨(Q1.wrap (a6+1),(a2.fId::a1)),(Option.some.inj h).symm,_,(qk a4 e0),d1,e1,(aI _ _),d0,(hS.pickL 1 [] rfl rfl rfl),kut E⟩}}}
 {have h:=aF b4 h;refine eG rfl rfl ?_;have h:=cG h hb44;exact⟨a1,h,_,a4,a9,a5,e4,hS,E.cut trivial⟩}}}
 {
 rintro a w ⟨b6,h,i1,h2,c6,c4,k0,hS,E⟩;unfold lj at h;refine ab (aj (qA E rfl λa E=>ag (bd ?_)));obtain rfl:=oi h
 try dsimp only
 refine f1 E ?_;exact⟨_,(qk J (qk W h2)),(S.unK hS e5),(am (show inR .i64 0 from ay (by decide)))⟩}}}}}
theorem nY (hS:S W0 m w L TL) {p0}(Z:RV (kSl kAp) m v0 p0) {r}(h:dv p0=some r):
    Calls prog 92 #[v0] w (Ret λv w'=>∃m',M.le m m'/\S W0 m' w' L ((4,v)::TL)/\RV (kSl kAp) m' v r):=by
 refine kc func92 ntmps92 λa E=>?_;have E:Env 8 a [(0,v0)]:=E;unfold dv at h;refine ab (aj (qA E rfl λa E=>ag (ab (ab (aj (qM E rfl λa E=>?_))))));refine st E (vb (k:=kAp) E rfl rfl Z underlying22) rfl ?_;rintro v5 a _ ⟨rfl,b1,rfl,a5⟩ E;refine ag (kif E rfl (λJ=>?_) (λJ=>?_))
 {
 have a4:=a5 J;have h:some ([])=some r:=by rw[a4] at h;exact h
 refine ab (aj (qA E rfl λa E=>ag (bd ?_)));obtain rfl:=oi h
 try dsimp only
 refine f1 E ?_;exact⟨_,(Q0 _),((hS.dropT 0).tail0 4),cN⟩}
 {
 refine aR (ab (aj ?_));refine st E (jJ (k:=kAp) (xs:=[]) (vs:=[]) E hS rfl underlying22 sizeOf32 zeroValue32 trivial rfl (by decide)) rfl ?_;rintro a9 a w ⟨m9,W,hS,a0⟩ E;refine qM E rfl λa E=>?_;obtain⟨b0,a2,h⟩:=ob h;refine st E (i9 (k:=kAp) (N:=3518437208883) E hS rfl rfl underlying22 underlying22 A4 (i:=0) rfl a0 (Z.mono W) a2 rfl rfl) rfl ?_;rintro a6 a w ⟨b2,a3,hS,a1⟩ E;refine qA E rfl λa E=>ag (bd ?_);obtain rfl:=oi h
 try dsimp only
 refine f1 E ?_;exact⟨_,(qk W a3),(hS.pickT 1 [0] rfl rfl rfl),a1⟩}
theorem Nz:Ctr Sz prog 92 [.rd (.sl (.st 32))] [.ap (.st 32)] (λx=>dv x.1):=by
 intro W0 m w L TL vs x r Lp Tp hS Z h;obtain⟨v0,vs,rfl,a0,a1⟩:=iM Z;obtain⟨rfl,rfl,rfl⟩:=mp a1;refine rm (nY (hS:=hS) a0 h) λv w' he=>?_;obtain⟨m',J,W,r0⟩:=he;exact⟨m',[v],[],[],[(4,v)],J,W,rfl,⟨r0,rfl,trivial⟩,trivial⟩
def NA:=mC Nz call92
theorem NB:Ctr Sz prog 65 [.rd (.st 59)] [.rd (.st 59)] (λx=>gI x.1):=
 nxR [NA] [.cell 2 59] func65 ntmps65 .o λx=>by kernel_rfl
theorem yK (hS:S W0 m w L TL) {p0}(a1:RV ae m v0 p0) {r}(h:gI p0=some r):
    Calls prog 65 #[v0] w (Ret λv w'=>∃m',M.le m m'/\S W0 m' w' L TL/\RV ae m' v r):=by
 refine rm (NB W0 m w L TL [v0] (p0,()) r [] [] hS ⟨a1,trivial⟩ h) λv w' he=>?_;obtain⟨m',us,Lr,Lq,Tr,J,Z',rfl,W,hO⟩:=he;obtain⟨u0,us,rfl,r0,a0⟩:=cE W;obtain⟨rfl,rfl,rfl⟩:=bL a0;have Z:=bj hO;obtain rfl:=bM Z;exact⟨m',J,Z',r0⟩
theorem NC:Ctr Sz prog 70 [.rd (.sl (.int .i64)),.rd (.sl (.st 32))] [.ap (.st 32)] (λx=>jD x.1 x.2.1):=
 ncR [Bb] [4] func70 ntmps70 (.s .o (.s .o (.s (.s .o (.b (.l ⟨[.v 5 1 (.dat (.sl (.st 32)) (some 0)),.v 11 1 (.dat (.int .i64) none)],[1,9,10],0,[4]⟩ .o))) .o))) λx=>by kernel_rfl
theorem po (hS:S W0 m w L TL) {p0}(a3:RV (kSl (ai .i64)) m v0 p0) {p1}(a1:RV (kSl kAp) m v1 p1) {r}(h:jD p0 p1=some r):
    Calls prog 70 #[v0,v1] w (Ret λv w'=>∃m',M.le m m'/\S W0 m' w' L ((4,v)::TL)/\RV (kSl kAp) m' v r):=by
 refine rm (NC W0 m w L TL [v0,v1] (p0,p1,()) r [] [] hS ⟨a3,⟨a1,trivial⟩⟩ h) λv w' he=>?_;obtain⟨m',us,Lr,Lq,Tr,J,Z',rfl,Z,hO⟩:=he;obtain⟨u0,us,Tr,rfl,rfl,r0,a2⟩:=sH Z;obtain⟨rfl,rfl,rfl⟩:=bL a2;have a0:=bj hO;have W:=bj a0;obtain rfl:=bM W;exact⟨m',J,Z',r0⟩
theorem KY:Ctr Sz prog 173 [.rd (.int .i64)] [.rd .bool] (λx=>kE x.1):=
 ncR [] [2] func173 ntmps173 .o λx=>by kernel_rfl
def KZ:=mC KY call173
theorem K0:Ctr Sz prog 127 [.rd (.int .i64),.rd (.int .i64)] [.rd (.int .i64)] (λx=>gW x.1 x.2.1):=
 ncR [KZ] [4] func127 ntmps127 .o λx=>by kernel_rfl
def Fe:=mC K0 call127
theorem K1:Ctr Sz prog 180 [.rd (.int .i64)] [.rd .bool] (λx=>jf x.1):=
 ncR [] [2] func180 ntmps180 .o λx=>by kernel_rfl
def K2:=mC K1 call180
theorem K3:Ctr Sz prog 155 [.rd (.int .i64),.rd (.int .i64)] [.rd (.int .i64)] (λx=>hZ x.1 x.2.1):=
 ncR [K2] [4] func155 ntmps155 .o λx=>by kernel_rfl
def K4:=mC K3 call155
theorem qo (hS:S W0 m w L TL) {p0}(W:∀n∈p0,0<=n/\n<256)(a0:p0.length<=cd) {p1}(J:∀n∈p1,0<=n/\n<256)(Z:p1.length<=cd) {r}(h:dY p0 p1=some r):
    Calls prog 181 #[(.string (bts p0)),(.string (bts p1))] w (Ret λv w'=>∃m',M.le m m'/\S W0 m' w' L TL/\RV (ai .i64) m' v r):=by
 refine kc func181 ntmps181 λa E=>?_;have E:Env 8 a [(0,(.string (bts p0))),(1,(.string (bts p1)))]:=E;unfold dY at h;refine ab (aj (qA E rfl λa E=>ag (ab (aj (qM E rfl λa E=>qM E rfl λa E=>sp E (DJ E func194 (by kernel_rfl) (by kernel_rfl) (by kernel_rfl) (by kernel_rfl) rfl W J) rfl λa E=>qA E rfl λa E=>?_)))));refine ag (bd ?_);obtain rfl:=oi h
 try dsimp only
 refine f1 E ?_;exact⟨_,(Q0 _),hS,(am (FG _ _))⟩
theorem K5:Ctr Sz prog 181 [.rd .str,.rd .str] [.rd (.int .i64)] (λx=>dY x.1 x.2.1):=by
 intro W0 m w L TL vs x r Lp Tp hS hP h;obtain⟨v0,vs,rfl,a0,a3⟩:=iM hP;obtain⟨rfl,W,l0⟩:=zj a0;obtain⟨v1,vs,rfl,a1,a2⟩:=iM a3;obtain⟨rfl,n1,l1⟩:=zj a1;obtain⟨rfl,rfl,rfl⟩:=mp a2;refine rm (qo (hS:=hS) W l0 n1 l1 h) λv w' he=>?_;obtain⟨m',J,Z,r0⟩:=he;exact⟨m',[v],[],[],[],J,Z,rfl,⟨r0,trivial⟩,trivial⟩
def K6:=mC K5 call181
theorem K7:Ctr Sz prog 156 [.rd .str,.rd .str] [.rd (.int .i64)] (λx=>kX x.1 x.2.1):=
 ncR [K6] [4] func156 ntmps156 .o λx=>by kernel_rfl
def K8:=mC K7 call156
theorem Ff:Ctr Sz prog 109 [.rd (.st 32),.rd (.st 32)] [.rd (.int .i64)] (λx=>bZ x.1 x.2.1):=
 ncR [Fe,K4,K8] [4] func109 ntmps109 .o λx=>by kernel_rfl
def K9:=mC Ff call109
theorem wQ (hS:S W0 m w L TL) {p0}(a3:RV kAp m v0 p0) {p1}(a1:RV kAp m v1 p1) {r}(h:bZ p0 p1=some r):
    Calls prog 109 #[v0,v1] w (Ret λv w'=>∃m',M.le m m'/\S W0 m' w' L TL/\RV (ai .i64) m' v r):=by
 refine rm (Ff W0 m w L TL [v0,v1] (p0,p1,()) r [] [] hS ⟨a3,⟨a1,trivial⟩⟩ h) λv w' he=>?_;obtain⟨m',us,Lr,Lq,Tr,J,Z',rfl,Z,hO⟩:=he;obtain⟨u0,us,rfl,r0,a2⟩:=cE Z;obtain⟨rfl,rfl,rfl⟩:=bL a2;have a0:=bj hO;have W:=bj a0;obtain rfl:=bM W;exact⟨m',J,Z',r0⟩
theorem ND:Ctr Sz prog 69 [.rd (.sl (.st 32)),.rd (.sl (.st 32))] [.rd (.int .i64)] (λx=>lQ x.1 x.2.1):=
 ncR [K9,Fe] [4] func69 ntmps69 (.s .o (.s (.s .o (.b (.l ⟨[.v 12 1 (.dat (.int .i64) none)],[0,1,11],0,[]⟩ .o))) .o)) λx=>by kernel_rfl
theorem um (hS:S W0 m w L TL) {p0}(a3:RV (kSl kAp) m v0 p0) {p1}(a1:RV (kSl kAp) m v1 p1) {r}(h:lQ p0 p1=some r):
    Calls prog 69 #[v0,v1] w (Ret λv w'=>∃m',M.le m m'/\S W0 m' w' L TL/\RV (ai .i64) m' v r):=by
 refine rm (ND W0 m w L TL [v0,v1] (p0,p1,()) r [] [] hS ⟨a3,⟨a1,trivial⟩⟩ h) λv w' he=>?_;obtain⟨m',us,Lr,Lq,Tr,J,Z',rfl,Z,hO⟩:=he;obtain⟨u0,us,rfl,r0,a2⟩:=cE Z;obtain⟨rfl,rfl,rfl⟩:=bL a2;have a0:=bj hO;have W:=bj a0;obtain rfl:=bM W;exact⟨m',J,Z',r0⟩
theorem La:Ctr Sz prog 174 [.rd (.int .u64)] [.rd .bool] (λx=>kq x.1):=
 ncR [] [2] func174 ntmps174 .o λx=>by kernel_rfl
def Lb:=mC La call174
theorem Ld:Ctr Sz prog 129 [.rd (.int .u64),.rd (.int .u64)] [.rd (.int .i64)] (λx=>ji x.1 x.2.1):=
 ncR [Lb] [4] func129 ntmps129 .o λx=>by kernel_rfl
def Le:=mC Ld call129
theorem Lf:Ctr Sz prog 175 [.rd (.int .u32)] [.rd .bool] (λx=>kr x.1):=
 ncR [] [2] func175 ntmps175 .o λx=>by kernel_rfl
def Lg:=mC Lf call175
theorem Lh:Ctr Sz prog 130 [.rd (.int .u32),.rd (.int .u32)] [.rd (.int .i64)] (λx=>jj x.1 x.2.1):=
 ncR [Lg] [4] func130 ntmps130 .o λx=>by kernel_rfl
def Li:=mC Lh call130
theorem Hq:Ctr Sz prog 68 [.rd (.sl (.int .i64))] [.rd (.int .i64)] (λx=>lR x.1):=
 ncR [] [2] func68 ntmps68 (.s .o (.s .o (.s (.s .o (.b (.l ⟨[.v 8 1 (.dat (.int .i64) none)],[3,6,7],0,[]⟩ .o))) .o))) λx=>by kernel_rfl
def NE:=mC Hq call68
theorem Bd (hS:S W0 m w L TL) {p0}(a1:RV (kSl (ai .i64)) m v0 p0) {r}(h:lR p0=some r):
    Calls prog 68 #[v0] w (Ret λv w'=>∃m',M.le m m'/\S W0 m' w' L TL/\RV (ai .i64) m' v r):=by
 refine rm (Hq W0 m w L TL [v0] (p0,()) r [] [] hS ⟨a1,trivial⟩ h) λv w' he=>?_;obtain⟨m',us,Lr,Lq,Tr,J,Z',rfl,W,hO⟩:=he;obtain⟨u0,us,rfl,r0,a0⟩:=cE W;obtain⟨rfl,rfl,rfl⟩:=bL a0;have Z:=bj hO;obtain rfl:=bM Z;exact⟨m',J,Z',r0⟩
theorem NF:Ctr Sz prog 71 [.rd (.st 57),.rd (.st 57)] [.rd (.int .i64)] (λx=>kG x.1 x.2.1):=
 ncR [NE,Le,Li] [4] func71 ntmps71 .o λx=>by kernel_rfl
theorem wR (hS:S W0 m w L TL) {p0}(a3:RV br m v0 p0) {p1}(a1:RV br m v1 p1) {r}(h:kG p0 p1=some r):
    Calls prog 71 #[v0,v1] w (Ret λv w'=>∃m',M.le m m'/\S W0 m' w' L TL/\RV (ai .i64) m' v r):=by
 refine rm (NF W0 m w L TL [v0,v1] (p0,p1,()) r [] [] hS ⟨a3,⟨a1,trivial⟩⟩ h) λv w' he=>?_;obtain⟨m',us,Lr,Lq,Tr,J,Z',rfl,Z,hO⟩:=he;obtain⟨u0,us,rfl,r0,a2⟩:=cE Z;obtain⟨rfl,rfl,rfl⟩:=bL a2;have a0:=bj hO;have W:=bj a0;obtain rfl:=bM W;exact⟨m',J,Z',r0⟩
theorem un (hS:S W0 m w L TL) {p0}(b3:RV ae m v0 p0) {p1}(g5:RV ae m v1 p1) {p2}(a3:PR (kSl (ai .i64)) m v2 p2) {r}(h:d7 p0 p1 p2=some r):
    Calls prog 67 #[v0,v1,v2] w (Ret λv w'=>∃m',M.le m m'/\S W0 m' w' L TL/\RV (ai .i64) m' v r):=by
 refine kc func67 ntmps67 λa E=>?_;have E:Env 22 a [(0,v0),(1,v1),(2,v2)]:=E;unfold d7 at h;refine ab (aj ?_);refine st E (g8 (k:=ae) E hS rfl b3) rfl ?_;rintro _ a w ⟨b1,d0,rfl,a4,hS⟩ E;refine st E (g8 (k:=ae) E hS rfl g5) rfl ?_;rintro _ a w ⟨b5,e8,rfl,a5,hS⟩ E;refine qA E rfl λa E=>ag (ab ?_);obtain⟨b2,g4,c0,g1,h⟩:=ob2 h;obtain⟨r24,h8,h⟩:=ob h
 refine kch (k:=13) (m:=m) (es:=[]) (Φ:=(λi m ws v=>match i with|0=>RV (kSl (ai .i64)) m v p2|1=>v=(.pointer (some ⟨b1,2,none⟩))|2=>RV (kSl kAp) m v p0.fRow|3=>RV (kSl kAp) m v b2|4=>RV (kSl (ai .i64)) m v p2|5=>v=(.pointer (some ⟨b5,2,none⟩))|6=>RV (kSl kAp) m v p1.fRow|7=>RV (kSl kAp) m v c0|8=>ei .i64 r24 v|9=>v=(pz b1)|10=>RV br m v p0.fId|11=>v=(pz b5)|12=>RV br m v p1.fId|_=>True)) (Q:=(λc m ws L' f6=>match c with|0=>(b5,e8)::(b1,d0)::L=L'/\TL=f6|_=>False)) (cs:=[zR [(2,v2)],zR [(3,pz b1)],zR [],zR [],zR [(2,v2)],zR [(4,pz b5)],zR [],zR [],zR [],zR [(3,pz b1)],zR [],zR [(4,pz b5)],zR []]) mixed E hS ⟨rfl,rfl⟩ rfl rfl (by kernel_rfl) ?_ ?_ ?_ ?_
 {
 intro i m_ d1 ws v n_ q_
 iterate 13 (rcases i with _|i;first|exact q_|exact RV.mono q_ n_)
 exact trivial}
 {
 intro c m_ d1 ws L_ T_ n_ a1
 match c,a1 with
 |0,⟨e1,e7⟩=>exact⟨e1,e7⟩
 |_+1,a1=>exact a1.elim}
 {
 refine⟨?_,?_,?_,?_,?_,?_,?_,?_,?_,?_,?_,?_,?_,trivial⟩
 {refine cp0 λ_ _ _ _ _ _ _ Z _ J W _=>?_;exact cr (aZ W J lu rfl (a3.mono Z)) J λ_ h=>h}
 {refine cp0 λ_ _ _ _ _ _ _ _ _ J W _=>?_;exact cq (aB W mK rfl) J rfl}
 {refine cp1 λ_ _ _ _ _ Z Q' J W T'=>?_;obtain⟨rfl,rfl⟩:=Q';have E:=W.add (T' 1);exact cr (aA E J rq rfl (i:=1) rfl (J1.R_drop (aC (ae.mono Z a4)))) J λ_ h=>h}
 {refine cp0 λ_ _ _ m' a' _ _ _ _ J W T'=>?_;obtain⟨e4,E,a6⟩:=adv W (T' 0);obtain⟨h1,E,h2⟩:=adv E (T' 2);refine aQ.imp (az (vs:=[e4,h1]) E rfl call70 (po (hS:=J) a6 h2 g4)) ?_;rintro j4 w ⟨k0,i2,hS,i0⟩;exact⟨_,i2,(hS.dropT 1),i0⟩}
 {refine cp0 λ_ _ _ _ _ _ _ Z _ J W _=>?_;exact cr (aZ W J lu rfl (a3.mono Z)) J λ_ h=>h}
 {refine cp0 λ_ _ _ _ _ _ _ _ _ J W _=>?_;exact cq (aB W mK rfl) J rfl}
 {refine cp1 λ_ _ _ _ _ Z Q' J W T'=>?_;obtain⟨rfl,rfl⟩:=Q';have E:=W.add (T' 5);exact cr (aA E J rq rfl (i:=0) rfl (J1.R_drop (aC (ae.mono Z a5)))) J λ_ h=>h}
 {refine cp0 λ_ _ _ m' a' _ _ _ _ J W T'=>?_;obtain⟨h4,E,d2⟩:=adv W (T' 4);obtain⟨c1,E,h0⟩:=adv E (T' 6);refine aQ.imp (az (vs:=[h4,c1]) E rfl call70 (po (hS:=J) d2 h0 g1)) ?_;rintro k6 w ⟨j2,g3,hS,f5⟩;exact⟨_,g3,(hS.dropT 1),f5⟩}
 {refine cp0 λ_ _ _ m' a' _ _ _ _ J W T'=>?_;obtain⟨f3,E,h5⟩:=adv W (T' 3);obtain⟨c3,E,b0⟩:=adv E (T' 7);refine aQ.imp (az (vs:=[f3,c3]) E rfl call69 (um (hS:=J) h5 b0 h8)) ?_;rintro j1 w ⟨l3,h6,hS,h9⟩;obtain⟨rfl,b4⟩:=aJ h9;exact⟨_,h6,hS,⟨rfl,b4⟩⟩}
 {refine cp0 λ_ _ _ _ _ _ _ _ _ J W _=>?_;exact cq (aB W pa rfl) J rfl}
 {refine cp1 λ_ _ _ _ _ Z Q' J W T'=>?_;obtain⟨rfl,rfl⟩:=Q';have E:=W.add (T' 9);exact cr (aA E J vH rfl (i:=1) rfl (wM.R_drop (aC (ae.mono Z a4)))) J λ_ h=>h}
 {refine cp0 λ_ _ _ _ _ _ _ _ _ J W _=>?_;exact cq (aB W pa rfl) J rfl}
 {refine cp1 λ_ _ _ _ _ Z Q' J W T'=>?_;obtain⟨rfl,rfl⟩:=Q';have E:=W.add (T' 11);exact cr (aA E J vH rfl (i:=0) rfl (wM.R_drop (aC (ae.mono Z a5)))) J λ_ h=>h}}
 {
 intro l4 L_ T_ k3 a w e9 c6 g6 hS g2 e6 e5 a0;obtain rfl:=gN e9;obtain⟨rfl,rfl⟩:=g6;have E:=eof 13 [(0,v0),(1,v1),(2,v2),(3,pz b1),(4,pz b5),(5,.int .i64 0)] g2 e6 e5;obtain⟨c5,e0⟩:=a0 8;have E:=E.add c5;obtain⟨b7,E,c4⟩:=adv E (a0 10);obtain⟨f4,E,a9⟩:=adv E (a0 12);obtain⟨a2,i4,h⟩:=ob h;refine st E (az (vs:=[b7,f4]) E rfl call71 (wR (hS:=hS) c4 a9 i4)) rfl ?_;rintro l2 a w ⟨l1,e3,hS,b6⟩ E;obtain⟨rfl,h3⟩:=aJ b6
 refine st E (jJ (k:=(ai .i64)) (xs:=[r24,a2]) (vs:=[(.int .i64 r24),(.int .i64 a2)]) E hS rfl underlying49 sizeOf3 zeroValue3 ⟨(am e0),(am h3),trivial⟩ rfl (by decide)) rfl ?_;rintro h7 a w ⟨k5,g0,hS,i1⟩ E;obtain⟨k4,c7,h⟩:=ob h;refine st E (az (vs:=[h7]) E rfl call68 (Bd (hS:=hS) i1 c7)) rfl ?_;rintro k7 a w ⟨i5,f0,hS,c2⟩ E;obtain⟨rfl,i3⟩:=aJ c2;refine qA E rfl λa E=>ag (bd ?_);obtain rfl:=oi h
 try dsimp only
 refine f1 E ?_;exact⟨_,(qk c6 (qk e3 (qk g0 f0))),((hS.dropL 2).dropT 1),(am i3)⟩}
theorem Lj:Ctr Sz prog 171 [.ow (.st 59),.rd (.int .i64),.rd (.int .i64),.f2 (.st 59) (.st 59) (.int .i64)] [] (λx=>ce x.1 x.2.1 x.2.2.1 x.2.2.2.1):=
 ncR [] [] func171 ntmps171 (.s .o (.b (.l ⟨[.v 8 1 (.dat (.int .i64) none),.a 0 1 (.st 59) none],[0,1,2,3],1,[]⟩ (.s .o (.s (.b (.s .o (.b (.l ⟨[.v 9 2 (.dat (.int .i64) none),.a 0 2 (.st 59) none],[0,1,2,3,8],1,[]⟩ .o)))) .o))))) λx=>by kernel_rfl
def Lk:=mC Lj call171
theorem Ll:Ctr Sz prog 198 [.ow (.st 59),.rd (.int .i64),.rd (.int .i64),.rd (.int .i64),.f2 (.st 59) (.st 59) (.int .i64)] [] (λx=>b8 x.1 x.2.1 x.2.2.1 x.2.2.2.1 x.2.2.2.2.1):=
 ncR [] [] func198 ntmps198 (.s .o (.b (.l ⟨[.v 10 1 (.dat (.int .i64) none),.a 0 1 (.st 59) none],[0,1,2,3],1,[]⟩ .o))) λx=>by kernel_rfl
def Lm:=mC Ll call198
theorem Ln:Ctr Sz prog 185 [.ow (.st 59),.rd (.int .i64),.rd (.int .i64),.rd (.int .i64),.f2 (.st 59) (.st 59) (.int .i64)] [] (λx=>cz x.1 x.2.1 x.2.2.1 x.2.2.2.1 x.2.2.2.2.1):=
 ncR [Lm] [] func185 ntmps185 (.s .o (.s .o (.s (.b (.l ⟨[.v 10 1 (.dat (.int .i64) none),.v 11 1 (.dat (.int .i64) none),.a 0 1 (.st 59) none],[0,2,4],1,[]⟩ .o)) .o))) λx=>by kernel_rfl
def Lo:=mC Ln call185
theorem IN (self:dK Sz [.ow (.st 59),.rd (.int .i64),.rd (.int .i64),.rd (.int .i64),.f2 (.st 59) (.st 59) (.int .i64)]->Option (a8 Sz (gr [.ow (.st 59),.rd (.int .i64),.rd (.int .i64),.rd (.int .i64),.f2 (.st 59) (.st 59) (.int .i64)] [])))(J:Ctr Sz prog 172 [.ow (.st 59),.rd (.int .i64),.rd (.int .i64),.rd (.int .i64),.f2 (.st 59) (.st 59) (.int .i64)] [] self):Ctr Sz prog 172 [.ow (.st 59),.rd (.int .i64),.rd (.int .i64),.rd (.int .i64),.f2 (.st 59) (.st 59) (.int .i64)] [] (λx=>dC (λZ W y2 h y4=>self (Z,W,y2,h,y4,())) x.1 x.2.1 x.2.2.1 x.2.2.2.1 x.2.2.2.2.1):=
 ncR [(mC J call172),Lo] [] func172 ntmps172 (.s (.s .o (.i (.s .o (.s .o (.s (.b (.l ⟨[.v 10 1 (.dat (.int .i64) none),.v 11 1 (.dat (.int .i64) none)],[0,1,4],1,[]⟩ .o)) (.s (.s .o (.b (.l ⟨[.v 13 1 (.dat (.int .i64) none),.a 0 1 (.st 59) none],[0,10],1,[]⟩ .o))) .o)))) .o)) (.s (.s .o (.i (.s .o (.s .o (.s (.b (.l ⟨[.v 14 1 (.dat (.int .i64) none),.v 15 1 (.dat (.int .i64) none)],[0,2,4],1,[]⟩ .o)) (.s (.s .o (.b (.l ⟨[.v 17 1 (.dat (.int .i64) none),.a 0 1 (.st 59) none],[0,14],1,[]⟩ .o))) .o)))) .o)) (.s .o (.s .o (.s .o (.s .o (.s .o (.s (.b (.l ⟨[.v 20 1 (.dat (.int .i64) none),.v 21 1 (.dat (.int .i64) none)],[0,1,2,3,4,18,19,22],1,[]⟩ .o)) .o)))))))) λx=>by kernel_rfl
theorem Cg:∀n:Nat,Ctr Sz prog 172 [.ow (.st 59),.rd (.int .i64),.rd (.int .i64),.rd (.int .i64),.f2 (.st 59) (.st 59) (.int .i64)] [] (λx=>cH n x.1 x.2.1 x.2.2.1 x.2.2.2.1 x.2.2.2.2.1)
  |0=>λW0 m w L TL vs x r Lp Tp hS J h=>nomatch (show(none:Option _)=some r from h)
  |n+1=>IN (λx=>cH n x.1 x.2.1 x.2.2.1 x.2.2.2.1 x.2.2.2.2.1) (Cg n)
theorem Lu:Ctr Sz prog 172 [.ow (.st 59),.rd (.int .i64),.rd (.int .i64),.rd (.int .i64),.f2 (.st 59) (.st 59) (.int .i64)] [] (λx=>cO x.1 x.2.1 x.2.2.1 x.2.2.2.1 x.2.2.2.2.1):=λW0 m w L TL vs x r Lp Tp hS J h=>Cg (x.1.length+1) W0 m w L TL vs x r Lp Tp hS J h
def Lw:=mC Lu call172
theorem Lz:Ctr Sz prog 126 [.ow (.st 59),.rd (.int .i64),.f2 (.st 59) (.st 59) (.int .i64)] [] (λx=>gv x.1 x.2.1 x.2.2.1):=
 ncR [Lk,Lw] [] func126 ntmps126 (.s .o (.s .o (.s (.b (.l ⟨[.v 7 1 (.dat (.int .i64) none),.v 8 1 (.dat (.int .i64) none),.a 0 1 (.st 59) none],[0,1,2,6],1,[]⟩ .o)) (.s .o (.b (.l ⟨[.v 6 1 (.dat (.int .i64) none),.a 0 1 (.st 59) none],[0,1,2],1,[]⟩ (.s .o (.b (.s .o (.s (.b (.l ⟨[.v 7 2 (.dat (.int .i64) none),.v 8 2 (.dat (.int .i64) none),.a 0 2 (.st 59) none],[0,1,2,6],1,[]⟩ .o)) .o)))))))))) λx=>by kernel_rfl
def LA:=mC Lz call126
theorem NG:Ctr Sz prog 66 [.ow (.st 59),.f2 (.st 59) (.st 59) (.int .i64)] [] (λx=>cV x.1 x.2.1):=
 ncR [LA] [] func66 ntmps66 .o λx=>by kernel_rfl
theorem nD  {J:Nat}{Z:List Value}(hS:S W0 m w ((J,Z)::L) (TL)) {p0}(a3:GS ae m J Z v0 p0) {p1}(a2:Fn2 prog ae ae (ai .i64) m v1 p1) {r}(h:cV p0 p1=some r):
    Calls prog 66 #[v0,v1] w (Ret λv w'=>∃m',M.le m m'/\∃W:List Value,S W0 m' w' ((J,W)::L) (TL)/\GS ae m' J W v0 r):=by
 refine rm (NG W0 m w L TL [v0,v1] (p0,p1,()) r [(J,Z)] [] hS ⟨a3,⟨a2,trivial⟩⟩ h) λv w' he=>?_;obtain⟨m',us,Lr,Lq,Tr,hm,Z',rfl,hR,hO⟩:=he;obtain⟨rfl,rfl,rfl⟩:=bL hR;obtain⟨W,Lq,rfl,o0,a1⟩:=MY hO;have a0:=wo a1;obtain rfl:=bM a0;exact⟨m',hm,W,Z',o0⟩
theorem NH {m0:M}{Z:Value}{a0:List Int}(a1:PR (kSl (ai .i64)) m0 Z a0):Fn2 prog ae ae (ai .i64) m0 (.func (.func 67) #[] #[Z]) (λx0 W=>d7 x0 W a0):=by
  refine⟨67,_,rfl,call67,?_⟩;intro W0 m w L TL v0 v1 x0 W r hm hS h0 h hr;refine(un (hS:=hS) h0 h (a1.mono hm) hr).mono ?_;intro e w' J;cases e with
  |returned v=>obtain⟨m',h,h2,h3⟩:=J;exact⟨m',h,h2,h3⟩
  |panicked ch=>exact J.elim
  |outgrown=>exact J.elim
theorem ql (hS:S W0 m w L TL) {p0}(f6:RV (kSl (ai .i64)) m v0 p0) {p1}(c1:RV (kSl ae) m v1 p1) {r}(h:iv p0 p1=some r):
    Calls prog 27 #[v0,v1] w (Ret λv w'=>∃m',M.le m m'/\S W0 m' w' L TL/\RV (kSl ae) m' v r):=by
 refine kc func27 ntmps27 λa E=>?_;have E:Env 29 a [(0,v0),(1,v1)]:=E;unfold iv at h;refine ab (aj ?_);refine st E (g8 (k:=(kSl (ai .i64))) E hS rfl f6) rfl ?_;rintro _ a w ⟨J,b5,rfl,e3,hS⟩ E;refine qA E rfl λa E=>ag (ab (aj (qA E rfl λa E=>ag (ab (ab (aj (qM E rfl λa E=>?_)))))));refine sp E (aY (k:=ae) E rfl rfl underlying50 c1) rfl λa E=>qM E rfl λa E=>ag ?_
 refine cF (λa w=>∃Z:(List aa),ia p0 Z=some r/\∃m',M.le m m'/\∃(a4:List Value),∃(a9:Nat),∃(a1:Value),GS ae m' a9 a4 a1 Z/\S W0 m' w ((a9,a4)::(J,b5)::L) (TL)/\Env 29 a [(2,pz J),(5,a1)]) ?_ ?_
 {
 refine aW ?_;refine fw h (λ(s:Int×List aa) a w=>∃m',M.le m m'/\∃(a2:List Value),∃(a0:Nat),∃(W:Value),inR .i64 s.1/\GS ae m' a0 a2 W s.2/\S W0 m' w ((a0,a2)::(J,b5)::L) (TL)/\Env 29 a [(2,pz J),(5,W),(8,v1),(9,.int .i64 (p1.length:Int)),(10,.int .i64 s.1)]) ?_ ?_
 {exact⟨_,(Q0 _),[],0,(.slice none 0 0),(show inR .i64 0 from ay (by decide)),GS.void,(hS.void 0),kut E⟩}
 {
 rintro ⟨b6,b4⟩ a w ⟨h1,a6,a2,a0,W,h8,b7,hS,E⟩ r50 h hb51;have h:ib p0 p1 b6 b4=some r50:=h;unfold ib at h;refine ab (aj (qB E rfl rfl cC λa E=>ag (ab (kif E rfl (λa5=>?_) (λa5=>?_)))))
 {
 have h:=aD a5 h;refine aR (ab (aW (ab (aj ?_))));obtain⟨h2,c5,h⟩:=ob h;refine st E (ez (k:=ae) E rfl rfl underlying50 sizeOf59 (c1.mono a6) c5) rfl ?_;rintro h5 a _ ⟨rfl,g6⟩ E;refine st E (aZ E hS pn rfl g6) rfl ?_;rintro h3 a _ ⟨rfl,e1⟩ E;refine st E (ci hS zeroValue59 rfl (cs:=vG)) rfl ?_;rintro _ a w ⟨j2,rfl,hS⟩ E;refine st0 E (bU E hS pn bp rfl rfl e1 (i:=0) rfl (s4 _)) ?_;rintro _ w ⟨i0,c3,hS⟩ E;refine ag (aj (qM E rfl λa E=>?_));refine st E (aA E hS pn rfl (i:=0) rfl (aC c3)) rfl ?_;rintro e9 a _ ⟨rfl,f4⟩ E;obtain⟨c6,e8,h⟩:=ob h
 refine st E (az (vs:=[e9]) E rfl call65 (yK (hS:=hS) f4 e8)) rfl ?_;rintro g3 a w ⟨h9,b0,hS,d1⟩ E;refine st E (jJ (k:=ae) (xs:=[c6]) (vs:=[g3]) E hS rfl underlying50 sizeOf59 zeroValue59 ⟨d1,trivial⟩ rfl (by decide)) rfl ?_;rintro j1 a w ⟨h4,b2,hS,f3⟩ E;obtain⟨c7,d0,h⟩:=ob h;refine st E (w7 (k:=ae) (N:=2932031007402) E hS rfl rfl underlying50 GZ (i:=1) rfl (b7.mono (qk b0 b2)) (vQ hS underlying50 f3) d0 rfl rfl) rfl ?_;rintro c4 a w ⟨e6,g2,e0,hS⟩ E;refine qA E rfl λa E=>ag (aj (qB E rfl rfl (cB rfl) λa E=>qM E rfl λa E=>ag ?_))
 exact⟨(Q1.wrap (b6+1),c7),(Option.some.inj h).symm,_,(qk a6 (qk b0 b2)),g2,e6,c4,(aI _ _),e0,((hS.pickL 3 [1,2] rfl rfl rfl).pickT 1 [] rfl rfl rfl),kut E⟩}
 {have h:=aF a5 h;refine eG rfl rfl ?_;have h:=cG h hb51;exact⟨b4,h,_,a6,a2,a0,W,b7,hS,kut E⟩}}}
 {
 rintro a w ⟨Z,h,h0,b3,a4,a9,a1,c2,hS,E⟩;unfold ia at h;refine ab (aj (qM E rfl λa E=>?_));obtain⟨i3,c0,hS,e5⟩:=S.freezeL (k:=(kSl (ai .i64))) (hS.pickL 2 [1,0] rfl rfl rfl) ((kSl (ai .i64)).mono b3 e3);refine sp E (ly E rfl rfl) rfl λa E=>?_;obtain⟨i5,g1,h⟩:=ob h;refine st E (az (vs:=[a1,(.func (.func 67) #[] #[(pz J)])]) E rfl call66 (by have e4:=(c2.mono c0);have g4:=(NH e5);exact nD (p0:=Z) (p1:=(λf0 g0=>d7 f0 g0 p0)) (hS:=hS) e4 g4 g1)) rfl ?_;rintro i2 a w ⟨h7,g5,i4,hS,f5⟩ E;refine ag (ab ?_)
 obtain⟨i1,d2,hS,a3⟩:=S.freeze hS f5;refine aj (qM E rfl λa E=>qM E rfl λa E=>sp E (aY (k:=ae) E rfl rfl underlying50 a3) rfl λa E=>qM E rfl λa E=>sp E (aY (k:=ae) E rfl rfl underlying50 a3) rfl λa E=>?_);refine st E (DL (k:=ae) E rfl underlying50 sizeOf59 a3 rfl rfl) rfl ?_;rintro h6 a _ ⟨rfl,e7⟩ E;refine qA E rfl λa E=>ag (bd ?_);obtain rfl:=oi h
 try dsimp only
 refine f1 E ?_;exact⟨_,(qk b3 (qk c0 (qk g5 d2))),hS,e7⟩}
theorem NJ:Ctr Sz prog 75 [.ap (.int .u8),.rd (.int .i64)] [.ap (.int .u8)] (λx=>iG x.1 x.2.1):=
 ncR [] [4] func75 ntmps75 .o λx=>by kernel_rfl
theorem oG (hS:S W0 m w L ((1,v0)::TL)) {p0}(a3:RV (kSl (ai .u8)) m v0 p0) {p1}(a1:inR .i64 p1) {r}(h:iG p0 p1=some r):
    Calls prog 75 #[v0,(.int .i64 p1)] w (Ret λv w'=>∃m',M.le m m'/\S W0 m' w' L ((1,v)::TL)/\RV (kSl (ai .u8)) m' v r):=by
 refine rm (NJ W0 m w L TL [v0,(.int .i64 p1)] (p0,p1,()) r [] [(1,v0)] hS ⟨a3,rfl,⟨am a1,trivial⟩⟩ h) λv w' he=>?_;obtain⟨m',us,Lr,Lq,Tr,J,Z',rfl,Z,hO⟩:=he;obtain⟨u0,us,Tr,rfl,rfl,r0,a2⟩:=sH Z;obtain⟨rfl,rfl,rfl⟩:=bL a2;have a0:=Hg hO;have W:=bj a0;obtain rfl:=bM W;exact⟨m',J,Z',r0⟩
theorem NK:Ctr Sz prog 77 [.rd (.int .i64),.rd (.int .i64),.rd (.sl (.st 59))] [.ap (.st 32)] (λx=>jV x.1 x.2.1 x.2.2.1):=
 ncR [wO] [6] func77 ntmps77 (.s .o (.s .o (.s (.s .o (.b (.l ⟨[.v 7 1 (.dat (.sl (.st 32)) (some 0)),.v 12 1 (.dat (.int .i64) none)],[0,1,10,11],0,[4]⟩ .o))) .o))) λx=>by kernel_rfl
theorem vI (hS:S W0 m w L TL) {p0}(a5:inR .i64 p0) {p1}(a3:inR .i64 p1) {p2}(a0:RV (kSl ae) m v2 p2) {r}(h:jV p0 p1 p2=some r):
    Calls prog 77 #[(.int .i64 p0),(.int .i64 p1),v2] w (Ret λv w'=>∃m',M.le m m'/\S W0 m' w' L ((4,v)::TL)/\RV (kSl kAp) m' v r):=by
 refine rm (NK W0 m w L TL [(.int .i64 p0),(.int .i64 p1),v2] (p0,p1,p2,()) r [] [] hS ⟨am a5,⟨am a3,⟨a0,trivial⟩⟩⟩ h) λv w' he=>?_;obtain⟨m',us,Lr,Lq,Tr,J,Z',rfl,Z,hO⟩:=he;obtain⟨u0,us,Tr,rfl,rfl,r0,a4⟩:=sH Z;obtain⟨rfl,rfl,rfl⟩:=bL a4;have a1:=bj hO;have W:=bj a1;have a2:=bj W;obtain rfl:=bM a2;exact⟨m',J,Z',r0⟩
theorem rt {σ:Type}{I:M->σ->Mem->Tls->Prop}{step:σ->(List Ap)->Option (σ×Bool)}{B:σ->Bse}{v0:Value}{m:M}{w:World}{L:Mem}{TL:Tls}{a6:σ}{b0:Mem}{a9:Tls}(mono:∀m m' s a b,M.le m m'->I m s a b->I m' s a b)(hy:zA prog (Rv1 (kSl kAp)) B v0 I step)(g1:I m a6 b0 a9)(hS:S (B a6) m w (b0++L) (a9++TL)){v1:Value}{p1:List Ap}(b1:PR (kSl kAp) m v1 p1){v2:Value}{p2:Int}(b3:PR (ai .i64) m v2 p2){r:σ}(h:fM step a6 p1 p2=some r):
    Calls prog 177 #[v0,v1,v2] w (Ret λ_ w'=>∃m' Ls' TLs',M.le m m'/\I m' r Ls' TLs'/\S (B r) m' w' (Ls'++L) (TLs'++TL)):=by
 refine uu (args:=[v0,v1,v2]) func177 rfl ntmps177 (Q2 rfl) λa E=>?_;have E:Env 31 a [(0,v0),(1,v1),(2,v2)]:=E;unfold fM at h;refine ab (aj (qA E rfl λa E=>ag (aW ?_)));refine fw h (λ(s:Int×σ) a w=>∃m',M.le m m'/\∃(a2:Mem),∃(a0:Tls),inR .i64 s.1/\I m' s.2 a2 a0/\S (B s.2) m' w ((a2++L)) ((a0++TL))/\Env 31 a [(0,v0),(1,v1),(2,v2),(4,.int .i64 s.1)]) ?_ ?_
 {exact⟨_,(Q0 _),b0,a9,(show inR .i64 0 from ay (by decide)),g1,hS,kut E⟩}
 {
 rintro ⟨x4,x6⟩ a w ⟨m2,W,a2,a0,e7,c2,hS,E⟩ r10 h hb11;have h:cl step p1 p2 x4 x6=some r10:=h;unfold cl at h;refine ab (ab (aj (qM E rfl λa E=>?_)));refine st E (aZ E hS rq rfl (b1.mono W)) rfl ?_;rintro e1 a _ ⟨rfl,e3⟩ E;refine sp E (aY (k:=kAp) E rfl rfl underlying22 e3) rfl λa E=>qB E rfl rfl cC λa E=>ag (kif E rfl (λb2=>?_) (λb2=>?_))
 {
 have h:=aD b2 h;refine aR (ab (aW (ab ?_)));obtain⟨b7,c7,h⟩:=ob h;refine kch (k:=5) (m:=m2) (es:=[]) (Φ:=(λi m ws v=>match i with|0=>ei .i64 p2 v|1=>RV (kSl kAp) m v p1|2=>ei .i64 x4 v|3=>RV (kSl kAp) m v b7|4=>ei .i64 (b7.length:Int) v|_=>True)) (Q:=(λc m ws L' e5=>match c with|0=>(a2++L)=L'/\(a0++TL)=e5|_=>False)) (cs:=[zR [(2,v2)],zR [(1,v1)],zR [(4,.int .i64 x4)],zR [],zR []]) mixed E hS ⟨rfl,rfl⟩ rfl rfl (by kernel_rfl) ?_ ?_ ?_ ?_
 {
 intro i m_ e4 ws v n_ q_
 iterate 5 (rcases i with _|i;first|exact q_|exact RV.mono q_ n_)
 exact trivial}
 {
 intro c m_ e4 ws L_ T_ n_ a5
 match c,a5 with
 |0,⟨f3,c4⟩=>exact⟨f3,c4⟩
 |_+1,a5=>exact a5.elim}
 {
 refine⟨?_,?_,?_,?_,?_,trivial⟩
 {refine cp0 λ_ _ _ _ _ _ _ M' _ J Z _=>?_;exact cr (aZ Z J ty3 rfl (b3.mono (qk W M'))) J λ_ h=>aJ h}
 {refine cp0 λ_ _ _ _ _ _ _ M' _ J Z _=>?_;exact cr (aZ Z J rq rfl (b1.mono (qk W M'))) J λ_ h=>h}
 {exact cmv λ_ _=>⟨rfl,e7⟩}
 {
 refine cp0 λ_ _ _ m' a' _ _ _ _ J Z T'=>?_;obtain⟨g5,e9,f4⟩:∃v,a'.tmps.getD 14 undef=v/\(RV (kSl kAp) m' v p1):=⟨_,rfl,T' 1⟩
 have E:=(Z.add (e9)).add (T' 2).1;exact cr (dA (k:=kAp) E rfl underlying22 sizeOf32 f4 ⟨_,rfl⟩ rfl c7 (xl:=(some (.tmp 15))) (xh:=none)) J λ_ h=>h}
 {refine cp0 λ_ _ _ m' a' _ _ _ _ J Z T'=>?_;obtain⟨g4,E,c0⟩:=adv Z (T' 3);exact cq (aY (k:=kAp) E rfl rfl underlying22 c0) J ⟨rfl,(dy (hU c0))⟩}}
 {
 intro g3 L_ T_ g2 a w d1 a1 c5 hS d0 d2 e8 b6;obtain rfl:=gN d1;obtain⟨rfl,rfl⟩:=c5;have E:=eof 5 [(0,v0),(1,v1),(2,v2),(4,.int .i64 x4),(6,.int .i64 x4),(7,e1),(8,.int .i64 (p1.length:Int)),(9,.bool (decide (x4<(p1.length:Int))))] d0 d2 e8;have E:=(E.add (b6 0).1).add (b6 4).1;refine sp E (vO E rfl rfl) rfl λa E=>qA E rfl λa E=>ag (ab (aj (qM E rfl λa E=>?_)));refine st E (aZ E hS rq rfl (b1.mono (qk W a1))) rfl ?_;rintro h0 a _ ⟨rfl,c3⟩ E
 refine qM E rfl λa E=>qM E rfl λa E=>qM E rfl λa E=>qB E rfl rfl (cB rfl) λa E=>qM E rfl λa E=>qM E rfl λa E=>qB E rfl rfl (cB rfl) λa E=>?_;obtain⟨h3,g0,h⟩:=ob h;refine st E (Cp (k:=kAp) E rfl underlying22 sizeOf32 c3 rfl rfl rfl g0) rfl ?_;rintro e0 a _ ⟨rfl,f0⟩ E;obtain⟨e6,f6,h⟩:=ob h;refine st E (hy _ _ L TL _ _ _ [e0] _ _ _ (mono _ _ _ _ _ a1 c2) hS ⟨_,rfl,f0⟩ f6 _ _ _ _ _ _ _ _ _ (E.eval rfl) (gL E rfl)) rfl ?_;rintro h4 a w ⟨f5,g6,b5,c1,a4,b4,hS⟩ E;obtain rfl:=f5
 refine sp E (kS E rfl) rfl λa E=>ag (kif E rfl (λa3=>?_) (λa3=>?_))
 {
 have h:=aD a3 h;refine bd ?_;have h:=cG h hb11;obtain rfl:=oi h
 try dsimp only
 refine Fin.mk E (rs:=[]) rfl pQ.nil ?_;exact⟨_,b5,c1,(qk W (qk a1 a4)),b4,hS⟩}
 {have h:=aF a3 h;refine aR (aj (qM E rfl λa E=>?_));refine st E (aZ E hS ty3 rfl (b3.mono (qk W (qk a1 a4)))) rfl ?_;rintro h1 a _ ⟨rfl,c6⟩ E;obtain⟨rfl,h2⟩:=aJ c6;refine qB E rfl rfl (cB rfl) λa E=>qA E rfl λa E=>ag ?_;exact⟨(Q1.wrap (x4+p2),e6.1),(Option.some.inj h).symm,_,(qk W (qk a1 a4)),b5,c1,(aI _ _),b4,hS,kut E⟩}}}
 {
 have h:=aF b2 h;refine eG rfl rfl ?_;have h:=cG h hb11;obtain rfl:=oi h
 try dsimp only
 refine Fin.mk E (rs:=[]) rfl pQ.nil ?_;exact⟨_,a2,a0,W,c2,hS⟩}}
theorem qp {m:M}{v1:Value}{p1:List Ap}(W:PR (kSl kAp) m v1 p1){v2:Value}{p2:Int}(J:PR (ai .i64) m v2 p2){xs:List (List Ap)}(h:fq p1 p2=some xs):vT prog (Rv1 (kSl kAp)) 177 #[v1,v2] m xs:=by
 intro σ I step B y m1 w L TL s Ls TLs r mono hle hy hI hS hf;exact rt mono hy hI hS (W.mono hle) (J.mono hle) (pD h hf)
theorem s5 (hS:S W0 m w L TL) {p0}(b6:RV (kSl kAp) m v0 p0) {p1}(b7:inR .i64 p1) {r}(h:gR p0 p1=some r):
    Calls prog 134 #[v0,(.int .i64 p1)] w (Ret λv w'=>∃m',M.le m m'/\S W0 m' w' L TL/\ItV prog (Rv1 (kSl kAp)) m' v r):=by
 refine kc func134 ntmps134 λa E=>?_;have E:Env 9 a [(0,v0),(1,.int .i64 p1)]:=E;unfold gR at h;refine ab (aj ?_);refine st E (g8 (k:=(kSl kAp)) E hS rfl b6) rfl ?_;rintro _ a w ⟨Z,b0,rfl,b2,hS⟩ E;refine st E (g8 (k:=(ai .i64)) E hS rfl (am b7)) rfl ?_;rintro _ a w ⟨b5,a6,rfl,a2,hS⟩ E;refine qA E rfl λa E=>ag (ab (ab (aj ?_)));refine st E (aA E hS ty3 rfl (i:=0) rfl (aC a2)) rfl ?_;rintro c0 a _ ⟨rfl,a5⟩ E;obtain⟨rfl,c2⟩:=aJ a5;refine qB E rfl rfl cC λa E=>ag ?_
 refine cF (λa w=>gY p0 p1=some r/\∃m',M.le m m'/\S W0 m' w ((b5,a6)::(Z,b0)::L) (TL)/\Env 9 a [(2,pz Z),(3,pz b5)]) ?_ ?_
 {
 refine kif E rfl (λJ=>?_) (λJ=>?_)
 {have h:=aD J h;cases h}
 {have h:=aF J h;refine aR ?_;exact⟨h,_,(Q0 _),hS,kut E⟩}}
 {
 rintro a w ⟨h,c1,W,hS,E⟩;unfold gY at h;refine ab (aj ?_);obtain⟨c3,a1,hS,a9⟩:=S.freezeL (k:=(kSl kAp)) (hS.pickL 2 [1,0] rfl rfl rfl) ((kSl kAp).mono W b2);obtain⟨b3,a0,hS,a3⟩:=S.freezeL (k:=(ai .i64)) hS ((ai .i64).mono (qk W a1) a2);obtain⟨a4,b4,h⟩:=ob h;refine sp E (ly E rfl rfl) rfl λa E=>qA E rfl λa E=>ag (bd ?_);obtain rfl:=oi h
 try dsimp only
 refine f1 E ?_;exact⟨_,(qk W (qk a1 a0)),hS,(⟨177,_,rfl,call177,qp (a9.mono a0) a3 b4⟩:ItV prog (Rv1 (kSl kAp)) b3 (.func (.func 177) #[] #[(pz Z),(pz b5)]) a4)⟩}
theorem LB:Ctr Sz prog 143 [.rd (.sl (.st 32)),.f1 (.st 32) .bool] [.rd (.int .i64)] (λx=>jx x.1 x.2.1):=
 ncR [] [4] func143 ntmps143 (.s .o (.s (.s .o (.b (.l ⟨[.v 8 1 (.dat (.int .i64) none)],[0,1,7],0,[]⟩ .o))) .o)) λx=>by kernel_rfl
def LC:=mC LB call143
theorem NL:Ctr Sz prog 99 [.rd (.sl (.st 32)),.f1 (.st 32) .bool] [.rd .bool] (λx=>dU x.1 x.2.1):=
 ncR [LC] [4] func99 ntmps99 .o λx=>by kernel_rfl
theorem pc (hS:S W0 m w L TL) {p0}(a3:RV (kSl kAp) m v0 p0) {p1}(a1:Fn1 prog kAp cm m v1 p1) {r}(h:dU p0 p1=some r):
    Calls prog 99 #[v0,v1] w (Ret λv w'=>∃m',M.le m m'/\S W0 m' w' L TL/\RV cm m' v r):=by
 refine rm (NL W0 m w L TL [v0,v1] (p0,p1,()) r [] [] hS ⟨a3,⟨a1,trivial⟩⟩ h) λv w' he=>?_;obtain⟨m',us,Lr,Lq,Tr,J,Z',rfl,Z,hO⟩:=he;obtain⟨u0,us,rfl,r0,a2⟩:=cE Z;obtain⟨rfl,rfl,rfl⟩:=bL a2;have a0:=bj hO;have W:=Hh a0;obtain rfl:=bM W;exact⟨m',J,Z',r0⟩
theorem LD:Ctr Sz prog 100 [.rd (.st 32)] [.rd .bool] (λx=>eH x.1):=
 ncR [Bc] [2] func100 ntmps100 .o λx=>by kernel_rfl
theorem uR (hS:S W0 m w L TL) {p0}(a1:RV kAp m v0 p0) {r}(h:eH p0=some r):
    Calls prog 100 #[v0] w (Ret λv w'=>∃m',M.le m m'/\S W0 m' w' L TL/\RV cm m' v r):=by
 refine rm (LD W0 m w L TL [v0] (p0,()) r [] [] hS ⟨a1,trivial⟩ h) λv w' he=>?_;obtain⟨m',us,Lr,Lq,Tr,J,Z',rfl,W,hO⟩:=he;obtain⟨u0,us,rfl,r0,a0⟩:=cE W;obtain⟨rfl,rfl,rfl⟩:=bL a0;have Z:=bj hO;obtain rfl:=bM Z;exact⟨m',J,Z',r0⟩
theorem LE:Ctr Sz prog 102 [.rd (.sl (.st 32))] [.rd (.sl (.int .i64)),.rd .bool] (λx=>mq x.1):=
 ncR [] [2,3] func102 ntmps102 (.s .o (.s .o (.s (.s .o (.b (.l ⟨[.v 4 1 (.dat (.sl (.int .i64)) (some 0)),.v 9 1 (.dat (.int .i64) none)],[7,8],0,[1]⟩ .o))) .o))) λx=>by kernel_rfl
theorem yL (hS:S W0 m w L TL) {p0}(a2:RV (kSl kAp) m v0 p0) {r}(h:mq p0=some r):
    Calls prog 102 #[v0] w (Ret λv w'=>∃m',M.le m m'/\S W0 m' w' L TL/\∃v0_ v1_:Value,v= .tuple #[v0_,v1_]/\RV (kSl (ai .i64)) m' v0_ r.1/\RV cm m' v1_ r.2):=by
 refine rm (LE W0 m w L TL [v0] (p0,()) r [] [] hS ⟨a2,trivial⟩ h) λv w' he=>?_;obtain⟨m',us,Lr,Lq,Tr,J,Z',rfl,W,hO⟩:=he;obtain⟨u0,us,rfl,r0,a0⟩:=cE W;obtain⟨u1,us,rfl,r1,a1⟩:=cE a0;obtain⟨rfl,rfl,rfl⟩:=bL a1;have Z:=bj hO;obtain rfl:=bM Z;exact⟨m',J,Z',u0,u1,rfl,r0,r1⟩
theorem yM (hS:S W0 m w L TL) {p0}(e5:RV (kSl kAp) m v0 p0) {r}(h:kN p0=some r):
    Calls prog 146 #[v0] w (Ret λv w'=>∃m',M.le m m'/\S W0 m' w' L TL/\RV (kSl bR) m' v r):=by
 refine kc func146 ntmps146 λa E=>?_;have E:Env 48 a [(0,v0)]:=E;unfold kN at h;refine ab (aj (qA E rfl λa E=>ag (zd (ab (aj (qA E rfl λa E=>ag (ab ?_)))))));refine Dy (ab (ab (aj (qM E rfl λa E=>sp E (aY (k:=kAp) E rfl rfl underlying22 e5) rfl λa E=>qM E rfl λa E=>ag ?_))));refine cF (λa w=>∃x8:(List aM),lE x8=some r/\∃m',M.le m m'/\∃(v9:Value),RV (kSl bR) m' v9 x8/\S W0 m' w L TL/\Env 48 a [(3,v9)]) ?_ ?_
 {
 refine aW ?_;refine fw h (λ(s:Int×List aM) a w=>∃m',M.le m m'/\∃(a9:List Value),∃(a6:Nat),∃(a1:Value),inR .i64 s.1/\GS bR m' a6 a9 a1 s.2/\S W0 m' w ((a6,a9)::L) (TL)/\Env 48 a [(3,a1),(7,v0),(8,.int .i64 (p0.length:Int)),(9,.int .i64 s.1)]) ?_ ?_
 {exact⟨_,(Q0 _),[],0,(.slice none 0 0),(show inR .i64 0 from ay (by decide)),GS.void,(hS.void 0),kut E⟩}
 {
 rintro ⟨a5,a0⟩ a w ⟨c4,e4,a9,a6,a1,n0,a3,hS,E⟩ r23 h hb24;have h:jN p0 a5 a0=some r23:=h;unfold jN at h;refine ab (aj (qB E rfl rfl cC λa E=>ag (ab (kif E rfl (λc7=>?_) (λc7=>?_)))))
 {
 have h:=aD c7 h;refine aR (ab ?_);refine cF (λa w=>∃b6:(List aM),it a5 b6=some r23/\∃m',M.le c4 m'/\∃(b7:List Value),∃(c0:Nat),∃(c1:Value),GS bR m' c0 b7 c1 b6/\S W0 m' w ((c0,b7)::L) (TL)/\Env 48 a [(3,c1),(7,v0),(8,.int .i64 (p0.length:Int)),(9,.int .i64 a5)]) ?_ ?_
 {
 refine aW (ab (aj ?_));obtain⟨b4,g1,h⟩:=ob h;refine st E (ez (k:=kAp) E rfl rfl underlying22 sizeOf32 (e5.mono e4) g1) rfl ?_;rintro n2 a _ ⟨rfl,l4⟩ E;refine st E (aZ E hS eF rfl l4) rfl ?_;rintro n3 a _ ⟨rfl,g5⟩ E;refine st E (ci hS zeroValue32 rfl (cs:=ui)) rfl ?_;rintro _ a w ⟨a4,rfl,hS⟩ E;refine st0 E (bU E hS eF bp rfl rfl g5 (i:=0) rfl (pk _)) ?_;rintro _ w ⟨b5,e8,hS⟩ E;refine ag (ab (ab (aj (qM E rfl λa E=>sp E (oU (k:=bR) E rfl rfl underlying185 a3) rfl λa E=>qM E rfl λa E=>ag ?_))))
 refine cF (λa w=>lF a5 a0 b4=some r23/\∃m',M.le c4 m'/\S W0 m' w ((a4,b5)::(a6,a9)::L) (TL)/\Env 48 a [(3,a1),(5,pz a4),(7,v0),(8,.int .i64 (p0.length:Int)),(9,.int .i64 a5)]) ?_ ?_
 {
 refine aW ?_;refine fw h (λ(s:Int) a w=>∃m',M.le c4 m'/\inR .i64 s/\S W0 m' w ((a4,b5)::(a6,a9)::L) (TL)/\Env 48 a [(3,a1),(5,pz a4),(7,v0),(8,.int .i64 (p0.length:Int)),(9,.int .i64 a5),(14,.int .i64 (a0.length:Int)),(15,.int .i64 s)]) ?_ ?_
 {exact⟨_,(Q0 _),(show inR .i64 0 from ay (by decide)),hS,kut E⟩}
 {
 rintro W a w ⟨c3,a2,e3,hS,E⟩ r77 h hb78;have h:en a5 a0 b4 W=some r77:=h;unfold en at h;refine ab (aj (qB E rfl rfl cC λa E=>ag (ab (kif E rfl (λe0=>?_) (λe0=>?_)))))
 {
 have h:=aD e0 h;refine aR (ab (aW (ab (aj (qM E rfl λa E=>qA E rfl λa E=>ag (ab ?_))))));refine cF (λa w=>∃c2:Bool,gt a5 a0 W c2=some r77/\∃m',M.le c3 m'/\S W0 m' w ((a4,b5)::(a6,a9)::L) (TL)/\Env 48 a [(3,a1),(5,pz a4),(6,.int .i64 W),(7,v0),(8,.int .i64 (p0.length:Int)),(9,.int .i64 a5),(14,.int .i64 (a0.length:Int)),(15,.int .i64 W),(31,.bool c2)]) ?_ ?_
 {
 rcases kz (W==(Q1.wrap ((a0.length:Int) - 1))) with hd111|hd111
 {
 have h:=aD hd111 h;obtain⟨e6,f6,e7,h5,h⟩:=ob2 h
 refine kch (k:=12) (m:=c3) (es:=[]) (Φ:=(λi m ws v=>match i with|0=>ei .i64 W v|1=>v=a1|2=>ei .i64 (a0.length:Int) v|3=>ei .i64 (Q1.wrap ((a0.length:Int) - 1)) v|4=>v=(.bool (W==(Q1.wrap ((a0.length:Int) - 1))))|5=>v=(.bool (W==(Q1.wrap ((a0.length:Int) - 1))))|6=>v=a1|7=>ei .i64 W v|8=>v=(.pointer (some ⟨a6,e6*5,none⟩))|9=>v=(.pointer (some ⟨a6,e6*5+1,none⟩))|10=>RV kAp m v e7.fValue|11=>RV kAp m v b4|_=>True)) (Q:=(λc m ws L' d2=>match c with|0=>(a4,b5)::(a6,a9)::L=L'/\TL=d2|_=>False)) (cs:=[zR [(6,.int .i64 W)],zR [(3,a1)],zR [],zR [],zR [],zR [],zR [(3,a1)],zR [(6,.int .i64 W)],zR [],zR [],zR [],zR [(5,pz a4)]]) mixed E hS ⟨rfl,rfl⟩ rfl rfl (by kernel_rfl) ?_ ?_ ?_ ?_
 {
 intro i m_ c5 ws v n_ q_
 iterate 12 (rcases i with _|i;first|exact q_|exact RV.mono q_ n_)
 exact trivial}
 {
 intro c m_ c5 ws L_ T_ n_ b0
 match c,b0 with
 |0,⟨d0,d1⟩=>exact⟨d0,d1⟩
 |_+1,b0=>exact b0.elim}
 {
 refine⟨?_,?_,?_,?_,?_,?_,?_,?_,?_,?_,?_,?_,trivial⟩
 {exact cmv λ_ _=>⟨rfl,e3⟩}
 {exact cmv λ_ _=>rfl}
 {refine cp1 λ_ _ _ _ _ M' Q' J Z T'=>?_;obtain⟨rfl,rfl⟩:=Q';have E:=Z.add (T' 1);exact cq (oU (k:=bR) E rfl rfl underlying185 (a3.mono (qk a2 M'))) J ⟨rfl,(dy (GS.len (a3.mono (qk a2 M'))))⟩}
 {refine cp0 λ_ _ _ _ _ _ _ _ _ J Z T'=>?_;have E:=Z.add (T' 2).1;exact cq (bh E rfl rfl (kR rfl)) J ⟨rfl,(aI _ _)⟩}
 {refine cp0 λ_ _ _ _ _ _ _ _ _ J Z T'=>?_;have E:=(Z.add (T' 0).1).add (T' 3).1;exact cq (bh E rfl rfl ij) J rfl}
 {refine cp0 λ_ _ _ _ _ _ _ _ _ J Z T'=>?_;have E:=Z.add (T' 4);exact cq (i8 E rfl) J rfl}
 {exact cgm (gz hd111) (λ_ _=>rfl)}
 {exact cgm (gz hd111) (λ_ _=>⟨rfl,e3⟩)}
 {refine cg1 (gz hd111) λ_ _ _ _ _ M' Q' J Z T'=>?_;obtain⟨rfl,rfl⟩:=Q';have E:=(Z.add (T' 6)).add (T' 7).1;exact cq (jZ (k:=bR) E rfl rfl underlying185 sizeOf187 (a3.mono (qk a2 M')) f6 rfl) J rfl}
 {refine cg0 (gz hd111) λ_ _ _ _ _ _ _ _ _ J Z T'=>?_;have E:=Z.add (T' 8);exact cq (aB E Cf rfl) J rfl}
 {refine cg1 (gz hd111) λ_ _ _ _ _ M' Q' J Z T'=>?_;obtain⟨rfl,rfl⟩:=Q';have E:=Z.add (T' 9);exact cr (aA E J eF rfl (i:=1) rfl (Ix.R_drop (GS.elem (a3.mono (qk a2 M')) h5))) J λ_ h=>h}
 {refine cg1 (gz hd111) λ_ _ _ _ _ M' Q' J Z _=>?_;obtain⟨rfl,rfl⟩:=Q';exact cr (aA Z J eF rfl (i:=0) rfl (aC (kAp.mono (qk a2 M') e8))) J λ_ h=>h}}
 {
 intro k6 L_ T_ o0 a w i5 h9 l2 hS m1 j1 m2 b1;obtain rfl:=gN i5;obtain⟨rfl,rfl⟩:=l2;have E:=eof 12 [(3,a1),(5,pz a4),(6,.int .i64 W),(7,v0),(8,.int .i64 (p0.length:Int)),(9,.int .i64 a5),(14,.int .i64 (a0.length:Int)),(15,.int .i64 W),(16,.bool (decide (W<(a0.length:Int)))),(17,.int .i64 W)] m1 j1 m2;have E:=((((E.add (b1 5)).add (b1 6)).add (b1 7).1).add (b1 8)).add (b1 9);obtain⟨p3,E,h2⟩:=adv E (b1 10);obtain⟨n4,E,h1⟩:=adv E (b1 11)
 refine spg E rfl rfl rfl rfl hd111 (vP E xN rfl rfl h2 h1 rfl) rfl λa E=>qT E hd111 rfl λa E=>ag ?_;exact⟨(decide (e7.fValue=b4)),h,_,h9,hS,kut E⟩}}
 {
 have h:=aF hd111 h
 refine kch (k:=12) (m:=c3) (es:=[]) (Φ:=(λi m ws v=>match i with|0=>ei .i64 W v|1=>v=a1|2=>ei .i64 (a0.length:Int) v|3=>ei .i64 (Q1.wrap ((a0.length:Int) - 1)) v|4=>v=(.bool (W==(Q1.wrap ((a0.length:Int) - 1))))|5=>v=(.bool (W==(Q1.wrap ((a0.length:Int) - 1))))|6=>v=undef|7=>v=undef|8=>v=undef|9=>v=undef|10=>v=undef|11=>v=undef|_=>True)) (Q:=(λc m ws L' d2=>match c with|0=>(a4,b5)::(a6,a9)::L=L'/\TL=d2|_=>False)) (cs:=[zR [(6,.int .i64 W)],zR [(3,a1)],zR [],zR [],zR [],zR [],zR [(3,a1)],zR [(6,.int .i64 W)],zR [],zR [],zR [],zR [(5,pz a4)]]) mixed E hS ⟨rfl,rfl⟩ rfl rfl (by kernel_rfl) ?_ ?_ ?_ ?_
 {
 intro i m_ c5 ws v n_ q_
 iterate 12 (rcases i with _|i;exact q_)
 exact trivial}
 {
 intro c m_ c5 ws L_ T_ n_ b0
 match c,b0 with
 |0,⟨d0,d1⟩=>exact⟨d0,d1⟩
 |_+1,b0=>exact b0.elim}
 {
 refine⟨?_,?_,?_,?_,?_,?_,?_,?_,?_,?_,?_,?_,trivial⟩
 {exact cmv λ_ _=>⟨rfl,e3⟩}
 {exact cmv λ_ _=>rfl}
 {refine cp1 λ_ _ _ _ _ M' Q' J Z T'=>?_;obtain⟨rfl,rfl⟩:=Q';have E:=Z.add (T' 1);exact cq (oU (k:=bR) E rfl rfl underlying185 (a3.mono (qk a2 M'))) J ⟨rfl,(dy (GS.len (a3.mono (qk a2 M'))))⟩}
 {refine cp0 λ_ _ _ _ _ _ _ _ _ J Z T'=>?_;have E:=Z.add (T' 2).1;exact cq (bh E rfl rfl (kR rfl)) J ⟨rfl,(aI _ _)⟩}
 {refine cp0 λ_ _ _ _ _ _ _ _ _ J Z T'=>?_;have E:=(Z.add (T' 0).1).add (T' 3).1;exact cq (bh E rfl rfl ij) J rfl}
 {refine cp0 λ_ _ _ _ _ _ _ _ _ J Z T'=>?_;have E:=Z.add (T' 4);exact cq (i8 E rfl) J rfl}
 {exact csk (gz hd111)}
 {exact csk (gz hd111)}
 {exact csk (gz hd111)}
 {exact csk (gz hd111)}
 {exact csk (gz hd111)}
 {exact csk (gz hd111)}}
 {intro k6 L_ T_ p5 a w f3 m5 h4 hS h3 g6 m3 b2;obtain rfl:=gN f3;obtain⟨rfl,rfl⟩:=h4;have E:=eof 12 [(3,a1),(5,pz a4),(6,.int .i64 W),(7,v0),(8,.int .i64 (p0.length:Int)),(9,.int .i64 a5),(14,.int .i64 (a0.length:Int)),(15,.int .i64 W),(16,.bool (decide (W<(a0.length:Int)))),(17,.int .i64 W)] h3 g6 m3;have E:=((((((E.add (b2 5)).add (b2 6)).add (b2 7)).add (b2 8)).add (b2 9)).add (b2 10)).add (b2 11);refine qX E hd111 λa E=>qF E hd111 rfl λa E=>ag ?_;exact⟨false,h,_,m5,hS,kut E⟩}}}
 {
 rintro a w ⟨c2,h,o2,b3,hS,E⟩;unfold gt at h;refine kif E rfl (λe1=>?_) (λe1=>?_)
 {
 have h:=aD e1 h;refine ab (aj (qM E rfl λa E=>qM E rfl λa E=>?_));obtain⟨o3,g3,h⟩:=ob h;refine sp E (jZ (k:=bR) E rfl rfl underlying185 sizeOf187 (a3.mono (qk a2 b3)) g3 rfl) rfl λa E=>sp E (aB E xO rfl) rfl λa E=>?_;obtain⟨g0,k5,h⟩:=ob h;refine st E (aA E hS ty3 rfl (i:=1) rfl (Iw.R_drop (GS.elem (a3.mono (qk a2 b3)) k5))) rfl ?_;rintro m8 a _ ⟨rfl,k3⟩ E;obtain⟨rfl,m9⟩:=aJ k3;refine qB E rfl rfl (cB rfl) λa E=>?_;obtain⟨f0,i0,h⟩:=ob h
 refine sp E (jZ (k:=bR) E rfl rfl underlying185 sizeOf187 (a3.mono (qk a2 b3)) i0 rfl) rfl λa E=>sp E (aB E xO rfl) rfl λa E=>?_;obtain⟨x106,h8,h⟩:=ob h;refine st0 E (oV (k:=bR) E hS ty3 xM (a3.mono (qk a2 b3)) h8 rfl rfl (am (aI _ _)) (i:=1) rfl) ?_;rintro _ w ⟨f5,k7,hS⟩ E;refine ag ?_;refine eG rfl rfl ?_;have h:=cG h hb78;exact⟨(a0.set f0 ({ x106 with fMany:=Q1.wrap (g0.fMany+1) })),h,_,(qk a2 b3),f5,a6,a1,k7,(hS.pickL 2 [1] rfl rfl rfl),kut E⟩}
 {have h:=aF e1 h;refine aR (aj (qB E rfl rfl (cB rfl) λa E=>qM E rfl λa E=>ag ?_));exact⟨Q1.wrap (W+1),(Option.some.inj h).symm,_,(qk a2 b3),(aI _ _),hS,kut E⟩}}}
 {have h:=aF e0 h;refine eG rfl rfl ?_;have h:=cG h hb78;exact⟨h,_,a2,hS,kut E⟩}}}
 {
 rintro a w ⟨h,j2,c6,hS,E⟩;unfold lF at h;refine aj (qM E rfl λa E=>?_);refine st E (aA E hS eF rfl (i:=0) rfl (aC (kAp.mono c6 e8))) rfl ?_;rintro m4 a _ ⟨rfl,g4⟩ E;refine st E (sr (m:=j2) (k:=bR) (x0:=aM.zero) (xx:=(⟨1,b4⟩:aM)) (pl:=[(0,1),(1,4)]) (pv:=[(0,.int .i64 1),(1,m4)]) E rfl underlying187 rfl zeroValue187 Dj rfl (.cons rfl xM (am (show inR .i64 1 from ay (by decide))) (.cons rfl Cb g4 .nil))) rfl ?_;rintro i4 a _ ⟨rfl,h6⟩ E
 refine st E (jJ (k:=bR) (xs:=[(⟨1,b4⟩:aM)]) (vs:=[i4]) E hS rfl underlying185 sizeOf187 zeroValue187 ⟨h6,trivial⟩ rfl (by decide)) rfl ?_;rintro p4 a w ⟨o1,e9,hS,i1⟩ E;obtain⟨f4,l1,h⟩:=ob h;refine st E (w7 (k:=bR) (N:=2932031007402) E hS rfl rfl underlying185 Hn (i:=1) rfl (a3.mono (qk c6 e9)) (vQ hS underlying185 i1) l1 rfl rfl) rfl ?_;rintro l3 a w ⟨h0,i3,k0,hS⟩ E;refine qA E rfl λa E=>ag ?_;exact⟨f4,h,_,(qk c6 e9),i3,h0,l3,k0,((hS.pickL 2 [1] rfl rfl rfl).pickT 1 [] rfl rfl rfl),kut E⟩}}
 {rintro a w ⟨b6,h,n1,h7,b7,c0,c1,i2,hS,E⟩;unfold it at h;refine aj (qB E rfl rfl (cB rfl) λa E=>qM E rfl λa E=>ag ?_);exact⟨(Q1.wrap (a5+1),b6),(Option.some.inj h).symm,_,(qk e4 h7),b7,c0,c1,(aI _ _),i2,hS,kut E⟩}}
 {have h:=aF c7 h;obtain⟨n6,m7,hS,j4⟩:=S.freeze hS a3;refine eG rfl rfl ?_;have h:=cG h hb24;exact⟨a0,h,_,(qk e4 m7),a1,j4,hS,kut E⟩}}}
 {
 rintro a w ⟨x8,h,m6,g2,v9,k4,hS,E⟩;unfold lE at h;refine ab (aj (qM E rfl λa E=>qA E rfl λa E=>ag (bd ?_)));obtain rfl:=oi h
 try dsimp only
 refine f1 E ?_;exact⟨_,g2,hS,k4⟩}
theorem LG:Ctr Sz prog 146 [.rd (.sl (.st 32))] [.rd (.sl (.st 187))] (λx=>kN x.1):=by
 intro W0 m w L TL vs x r Lp Tp hS Z h;obtain⟨v0,vs,rfl,a0,a1⟩:=iM Z;obtain⟨rfl,rfl,rfl⟩:=mp a1;refine rm (yM (hS:=hS) a0 h) λv w' he=>?_;obtain⟨m',J,W,r0⟩:=he;exact⟨m',[v],[],[],[],J,W,rfl,⟨r0,trivial⟩,trivial⟩
def LH:=mC LG call146
theorem LI:Ctr Sz prog 158 [.rd (.sl (.st 32))] [.rd .bool] (λx=>pW x.1):=
 ncR [Bc] [2] func158 ntmps158 (.s .o (.s (.s .o (.b (.l ⟨[.v 7 1 (.dat (.int .i64) none)],[0,5,6],0,[]⟩ .o))) .o)) λx=>by kernel_rfl
def LJ:=mC LI call158
theorem Be (hS:S W0 m w L ((1,v0)::TL)) {p0}(b6:RV (kSl (ai .u8)) m v0 p0) {p1}(d1:inR .u64 p1) {r}(h:lG p0 p1=some r):
    Calls prog 182 #[v0,(.int .u64 p1)] w (Ret λv w'=>∃m',M.le m m'/\S W0 m' w' L ((1,v)::TL)/\RV (kSl (ai .u8)) m' v r):=by
 refine kc func182 ntmps182 λa E=>?_;have E:Env 22 a [(0,v0),(1,.int .u64 p1)]:=E;unfold lG at h;refine ab (aj (qA E rfl λa E=>ag (ab (aj ?_))));refine st E (ci hS zeroValue224 rfl (cs:=Dk)) rfl ?_;rintro _ a w ⟨J,rfl,hS⟩ E;refine ag (ab (ab (aj (qM E rfl λa E=>ag ?_))));refine cF (λa w=>∃x7:(List Int),mS p0 x7=some r/\∃m',M.le m m'/\∃(a0:List Value),GS (ai .u8) m' J a0 (.slice (some ⟨J,0,none⟩) 8 8) x7/\S W0 m' w ((J,a0)::L) ((1,v0)::TL)/\Env 22 a [(0,v0),(5,pz J)]) ?_ ?_
 {
 refine aW ?_;refine fw h (λ(s:Int×List Int) a w=>∃m',M.le m m'/\∃(W:List Value),inR .i64 s.1/\GS (ai .u8) m' J W (.slice (some ⟨J,0,none⟩) 8 8) s.2/\S W0 m' w ((J,W)::L) ((1,v0)::TL)/\Env 22 a [(0,v0),(1,.int .u64 p1),(5,pz J),(7,.int .i64 s.1)]) ?_ ?_
 {exact⟨_,(Q0 _),Dk,(show inR .i64 0 from ay (by decide)),(Nd _ _),hS,kut E⟩}
 {
 rintro ⟨a1,a2⟩ a w ⟨c6,a4,W,c7,a3,hS,E⟩ r27 h hb28;have h:kD p0 p1 a1 a2=some r27:=h;unfold kD at h;refine ab (aj (qB E rfl rfl cC λa E=>ag (ab (kif E rfl (λZ=>?_) (λZ=>?_)))))
 {
 have h:=aD Z h;refine aR (ab (aW (ab (aj (qM E rfl λa E=>qA E rfl λa E=>ag (aj (qM E rfl λa E=>?_)))))));refine qM E rfl λa E=>qM E rfl λa E=>qB E rfl rfl (G6 rfl) λa E=>qB E rfl rfl (kR rfl) λa E=>?_;obtain⟨c2,a6,h⟩:=ob h;refine qB E rfl rfl (yQ rfl (of_decide_eq_true (od a6))) λa E=>sp E (fy E rfl underlying54 underlying5 rfl) rfl λa E=>?_;obtain⟨c0,c1,h⟩:=ob h;refine sp E (zq (k:=(ai .u8)) E rfl rfl underlying224 sizeOf5 (GS.arr_len a3) c1 rfl) rfl λa E=>?_;obtain⟨c3,b5,h⟩:=ob h
 refine st0 E (oV (k:=(ai .u8)) E hS ty5 bp a3 b5 rfl rfl (am (aI _ _)) (i:=0) rfl) ?_;rintro _ w ⟨b1,b0,hS⟩ E;refine ag (aj (qB E rfl rfl (cB rfl) λa E=>qM E rfl λa E=>ag ?_));exact⟨(Q1.wrap (a1+1),(a2.set c0 (Q4.wrap (aO .u64 p1 (Q1.wrap (56 - (Q1.wrap (8*a1)))))))),(Option.some.inj h).symm,_,a4,b1,(aI _ _),b0,hS,kut E⟩}
 {have h:=aF Z h;refine eG rfl rfl ?_;have h:=cG h hb28;exact⟨a2,h,_,a4,W,a3,hS,kut E⟩}}}
 {
 rintro a w ⟨x7,h,m5,a5,a0,b7,hS,E⟩;unfold mS at h;refine ab (aj (qM E rfl λa E=>sp E (FA (k:=(ai .u8)) E rfl underlying224 sizeOf5) rfl λa E=>?_));obtain⟨c4,b3,h⟩:=ob h;refine st E (w6 (k:=(ai .u8)) (N:=140737488355328) E hS rfl rfl underlying24 el5 (i:=0) rfl (b6.mono a5) (BB hS underlying24 (i:=0) rfl b7) b3 rfl rfl) rfl ?_;rintro d0 a w ⟨c5,b4,hS,a9⟩ E;refine qA E rfl λa E=>ag (bd ?_);obtain rfl:=oi h
 try dsimp only
 refine f1 E ?_;exact⟨_,(qk a5 b4),((hS.dropL 1).pickT 1 [0] rfl rfl rfl),a9⟩}
theorem LK:Ctr Sz prog 182 [.ap (.int .u8),.rd (.int .u64)] [.ap (.int .u8)] (λx=>lG x.1 x.2.1):=by
 intro W0 m w L TL vs x r Lp Tp hS Z h;obtain⟨v0,vs,Tp,rfl,rfl,a0,a3⟩:=MX Z;obtain⟨v1,vs,rfl,a1,a2⟩:=iM a3;obtain⟨rfl,n1⟩:=aJ a1;obtain⟨rfl,rfl,rfl⟩:=mp a2;refine rm (Be (hS:=hS) a0 n1 h) λv w' he=>?_;obtain⟨m',J,W,r0⟩:=he;exact⟨m',[v],[],[],[(1,v)],J,W,rfl,⟨r0,rfl,trivial⟩,trivial⟩
def LL:=mC LK call182
theorem LM:Ctr Sz prog 159 [.ap (.int .u8),.rd (.st 32)] [.ap (.int .u8)] (λx=>sI x.1 x.2.1):=
 ncR [LL] [4] func159 ntmps159 .o λx=>by kernel_rfl
def LN:=mC LM call159
theorem LO:Ctr Sz prog 112 [.rd (.sl (.st 32))] [.rd (.sl (.int .u8)),.rd (.int .i64)] (λx=>mr x.1):=
 ncR [LJ,LN] [2,3] func112 ntmps112 (.s .o (.s .o (.s .o (.s (.s .o (.b (.l ⟨[.v 4 1 (.dat (.sl (.int .u8)) (some 0)),.v 16 1 (.dat (.int .i64) none)],[14,15],0,[1]⟩ .o))) .o)))) λx=>by kernel_rfl
def Fg:=mC LO call112
theorem Fh:Ctr Sz prog 107 [.rd (.st 32)] [.rd (.sl (.int .u8))] (λx=>j8 x.1):=
 ncR [Fg] [2] func107 ntmps107 .o λx=>by kernel_rfl
def LP:=mC Fh call107
theorem uo (hS:S W0 m w L TL) {p0}(a1:RV kAp m v0 p0) {r}(h:j8 p0=some r):
    Calls prog 107 #[v0] w (Ret λv w'=>∃m',M.le m m'/\S W0 m' w' L TL/\RV (kSl (ai .u8)) m' v r):=by
 refine rm (Fh W0 m w L TL [v0] (p0,()) r [] [] hS ⟨a1,trivial⟩ h) λv w' he=>?_;obtain⟨m',us,Lr,Lq,Tr,J,Z',rfl,W,hO⟩:=he;obtain⟨u0,us,rfl,r0,a0⟩:=cE W;obtain⟨rfl,rfl,rfl⟩:=bL a0;have Z:=bj hO;obtain rfl:=bM Z;exact⟨m',J,Z',r0⟩
theorem LQ:Ctr Sz prog 103 [.rd (.sl (.st 32))] [.ap (.int .u8)] (λx=>mt x.1):=
 ncR [LP,LH] [2] func103 ntmps103 (.s .o (.s .o (.s (.s .o (.b (.l ⟨[.v 3 1 (.dat (.sl (.int .u8)) (some 0)),.v 9 1 (.dat (.int .i64) none)],[7,8],0,[1]⟩ .o))) .o))) λx=>by kernel_rfl
theorem yN (hS:S W0 m w L TL) {p0}(a1:RV (kSl kAp) m v0 p0) {r}(h:mt p0=some r):
    Calls prog 103 #[v0] w (Ret λv w'=>∃m',M.le m m'/\S W0 m' w' L ((1,v)::TL)/\RV (kSl (ai .u8)) m' v r):=by
 refine rm (LQ W0 m w L TL [v0] (p0,()) r [] [] hS ⟨a1,trivial⟩ h) λv w' he=>?_;obtain⟨m',us,Lr,Lq,Tr,J,Z',rfl,W,hO⟩:=he;obtain⟨u0,us,Tr,rfl,rfl,r0,a0⟩:=sH W;obtain⟨rfl,rfl,rfl⟩:=bL a0;have Z:=bj hO;obtain rfl:=bM Z;exact⟨m',J,Z',r0⟩
theorem LS:Ctr Sz prog 147 [.rd (.int .u64)] [.ap (.int .u8)] (λx=>lf x.1):=
 ncR [] [2] func147 ntmps147 (.s .o (.s .o (.s (.s .o (.b (.l ⟨[.v 3 1 (.dat (.sl (.int .u8)) (some 0)),.v 5 1 (.dat (.int .i64) none)],[0],0,[1]⟩ .o))) .o))) λx=>by kernel_rfl
def Fi:=mC LS call147
theorem LT:Ctr Sz prog 104 [.rd (.sl (.int .i64))] [.ap (.int .u8)] (λx=>lg x.1):=
 ncR [Fi] [2] func104 ntmps104 (.s .o (.s .o (.s (.s .o (.b (.l ⟨[.v 3 1 (.dat (.sl (.int .u8)) (some 0)),.v 16 1 (.dat (.int .i64) none)],[0,14,15],0,[1]⟩ (.s .o (.s .o (.s (.b (.s .o (.s .o (.s .o (.s (.b (.l ⟨[.v 3 2 (.dat (.sl (.int .u8)) (some 0)),.v 7 2 (.dat (.int .u64) none)],[0,14,15,16],0,[1]⟩ .o)) .o))))) .o)))))) .o))) λx=>by kernel_rfl
theorem xP (hS:S W0 m w L TL) {p0}(a1:RV (kSl (ai .i64)) m v0 p0) {r}(h:lg p0=some r):
    Calls prog 104 #[v0] w (Ret λv w'=>∃m',M.le m m'/\S W0 m' w' L ((1,v)::TL)/\RV (kSl (ai .u8)) m' v r):=by
 refine rm (LT W0 m w L TL [v0] (p0,()) r [] [] hS ⟨a1,trivial⟩ h) λv w' he=>?_;obtain⟨m',us,Lr,Lq,Tr,J,Z',rfl,W,hO⟩:=he;obtain⟨u0,us,Tr,rfl,rfl,r0,a0⟩:=sH W;obtain⟨rfl,rfl,rfl⟩:=bL a0;have Z:=bj hO;obtain rfl:=bM Z;exact⟨m',J,Z',r0⟩
theorem qq {J:Nat}{W:List Value}(hS:S W0 m w ((J,W)::L) (TL)) {p0}(a0:GS kAp m J W v0 p0) {p1}(Z:Fn2 prog kAp kAp (ai .i64) m v1 p1) {r}(h:jO p0 p1=some r):
    Calls prog 148 #[v0,v1] w (Ret λv w'=>∃m',M.le m m'/\∃q0_:List Value,S W0 m' w' ((J,q0_)::L) (TL)/\GS kAp m' J q0_ v0 r):=
  Dm (ρ:=uW) IF isAgg32 sizeOf32 rfl hS a0 Z h
theorem LU:Ctr Sz prog 150 [.rd (.sl (.st 32)),.rd (.st 32)] [.rd (.int .i64)] (λx=>gQ x.1 x.2.1):=
 ncR [] [4] func150 ntmps150 (.s .o (.s (.s .o (.b (.l ⟨[.v 8 1 (.dat (.int .i64) none)],[0,3,7],1,[]⟩ .o))) .o)) λx=>by kernel_rfl
theorem s6 (hS:S W0 m w L TL) {p0}(a3:RV (kSl kAp) m v0 p0) {p1}(a1:RV kAp m v1 p1) {r}(h:gQ p0 p1=some r):
    Calls prog 150 #[v0,v1] w (Ret λv w'=>∃m',M.le m m'/\S W0 m' w' L TL/\RV (ai .i64) m' v r):=by
 refine rm (LU W0 m w L TL [v0,v1] (p0,p1,()) r [] [] hS ⟨a3,⟨a1,trivial⟩⟩ h) λv w' he=>?_;obtain⟨m',us,Lr,Lq,Tr,J,Z',rfl,Z,hO⟩:=he;obtain⟨u0,us,rfl,r0,a2⟩:=cE Z;obtain⟨rfl,rfl,rfl⟩:=bL a2;have a0:=bj hO;have W:=bj a0;obtain rfl:=bM W;exact⟨m',J,Z',r0⟩
theorem LV:Ctr Sz prog 179 [.rd (.int .u32)] [.rd (.int .i64)] (λx=>CN x.1):=
 ncR [] [2] func179 ntmps179 .o λx=>by kernel_rfl
def LW:=mC LV call179
theorem LX:Ctr Sz prog 154 [.rd (.int .u64)] [.rd (.int .i64)] (λx=>nK x.1):=
 ncR [] [2] func154 ntmps154 .o λx=>by kernel_rfl
def Fj:=mC LX call154
theorem Fk:Ctr Sz prog 152 [.rd (.int .u64)] [.rd (.int .i64)] (λx=>ox x.1):=
 ncR [Fj,LW] [2] func152 ntmps152 .o λx=>by kernel_rfl
def LY:=mC Fk call152
theorem Dn (hS:S W0 m w L TL) {p0}(a1:inR .u64 p0) {r}(h:ox p0=some r):
    Calls prog 152 #[(.int .u64 p0)] w (Ret λv w'=>∃m',M.le m m'/\S W0 m' w' L TL/\RV (ai .i64) m' v r):=by
 refine rm (Fk W0 m w L TL [(.int .u64 p0)] (p0,()) r [] [] hS ⟨am a1,trivial⟩ h) λv w' he=>?_;obtain⟨m',us,Lr,Lq,Tr,J,Z',rfl,W,hO⟩:=he;obtain⟨u0,us,rfl,r0,a0⟩:=cE W;obtain⟨rfl,rfl,rfl⟩:=bL a0;have Z:=bj hO;obtain rfl:=bM Z;exact⟨m',J,Z',r0⟩
theorem Fl:Ctr Sz prog 151 [.rd (.sl (.int .u64)),.rd (.int .i64)] [.rd (.sl (.int .u8))] (λx=>i6 x.1 x.2.1):=
 ncR [] [4] func151 ntmps151 (.s .o (.s .o (.s (.s .o (.b (.l ⟨[.v 19 1 (.dat (.int .i64) none),.a 0 1 (.int .u8) none],[1,5,17,18],1,[]⟩ (.s .o (.s .o (.s (.b (.s .o (.s .o (.b (.l ⟨[.v 25 2 (.dat (.int .i64) none),.a 0 2 (.int .u8) none],[1,5,6,7,17,18,19,24],1,[]⟩ .o))))) .o)))))) .o))) λx=>by kernel_rfl
def LZ:=mC Fl call151
theorem wS (hS:S W0 m w L TL) {p0}(a3:RV (kSl (ai .u64)) m v0 p0) {p1}(a1:inR .i64 p1) {r}(h:i6 p0 p1=some r):
    Calls prog 151 #[v0,(.int .i64 p1)] w (Ret λv w'=>∃m',M.le m m'/\S W0 m' w' L TL/\RV (kSl (ai .u8)) m' v r):=by
 refine rm (Fl W0 m w L TL [v0,(.int .i64 p1)] (p0,p1,()) r [] [] hS ⟨a3,⟨am a1,trivial⟩⟩ h) λv w' he=>?_;obtain⟨m',us,Lr,Lq,Tr,J,Z',rfl,Z,hO⟩:=he;obtain⟨u0,us,rfl,r0,a2⟩:=cE Z;obtain⟨rfl,rfl,rfl⟩:=bL a2;have a0:=bj hO;have W:=bj a0;obtain rfl:=bM W;exact⟨m',J,Z',r0⟩
theorem qm  {W:Nat}{a4:List Value}(hS:S W0 m w ((W,a4)::L) (TL)) {p0}(a2:GS kAp m W a4 v0 p0) {r}(h:dM p0=some r):
    Calls prog 149 #[v0] w (Ret λv w'=>∃m',M.le m m'/\∃bq_:Nat,∃cq_:List Value,S W0 m' w' ((bq_,cq_)::L) (TL)/\GS kAp m' bq_ cq_ v r):=by
 refine kc func149 ntmps149 λa E=>?_;have E:Env 61 a [(0,v0)]:=E;unfold dM at h;refine ab (aj (qA E rfl λa E=>ag (ab (ab (aj (qM E rfl λa E=>sp E (oU (k:=kAp) E rfl rfl underlying22 a2) rfl λa E=>qB E rfl rfl cC λa E=>?_))))));refine ag (kif E rfl (λe3=>?_) (λe3=>?_))
 {
 have h:=aD e3 h;refine ab (aj (qM E rfl λa E=>qA E rfl λa E=>ag (bd ?_)));obtain rfl:=oi h
 try dsimp only
 refine f1 E ?_;exact⟨_,(Q0 _),W,a4,((hS.void 0).pickL 2 [1] rfl rfl rfl),a2⟩}
 {
 have h:=aF e3 h;refine aR (ab (ab (aj (qA E rfl λa E=>ag ?_))));refine cF (λa w=>fi p0=some r/\∃m',M.le m m'/\S W0 m' w ((0,[])::(W,a4)::L) (TL)/\Env 61 a [(0,v0)]) ?_ ?_
 {
 refine aW ?_;refine fw h (λ(s:Int) a w=>∃m',M.le m m'/\inR .i64 s/\S W0 m' w ((0,[])::(W,a4)::L) (TL)/\Env 61 a [(0,v0),(3,.int .i64 s)]) ?_ ?_
 {exact⟨_,(Q0 _),(show inR .i64 1 from ay (by decide)),(hS.void 0),kut E⟩}
 {
 rintro a1 a w ⟨e6,a3,c3,hS,E⟩ r18 h hb19;have h:fo p0 a1=some r18:=h;unfold fo at h;refine ab (ab (aj (qM E rfl λa E=>qM E rfl λa E=>sp E (oU (k:=kAp) E rfl rfl underlying22 (a2.mono a3)) rfl λa E=>qB E rfl rfl cC λa E=>ag (kif E rfl (λc5=>?_) (λc5=>?_)))))
 {
 have h:=aD c5 h;refine aR (ab ?_);refine cF (λa w=>fj a1=some r18/\∃m',M.le e6 m'/\S W0 m' w ((0,[])::(W,a4)::L) (TL)/\Env 61 a [(0,v0),(3,.int .i64 a1)]) ?_ ?_
 {
 refine aW (ab ?_);obtain⟨k3,n4,i3,k5,h⟩:=ob2 h;obtain⟨i2,k4,o3,i0,h⟩:=ob2 h
 refine kch (k:=9) (m:=e6) (es:=[]) (Φ:=(λi m ws v=>match i with|0=>v=v0|1=>ei .i64 a1 v|2=>v=(.pointer (some ⟨W,k3*4,none⟩))|3=>RV kAp m v i3|4=>v=v0|5=>ei .i64 a1 v|6=>ei .i64 (Q1.wrap (a1 - 1)) v|7=>v=(.pointer (some ⟨W,i2*4,none⟩))|8=>RV kAp m v o3|_=>True)) (Q:=(λc m ws L' d1=>match c with|0=>(0,[])::(W,a4)::L=L'/\TL=d1|_=>False)) (cs:=[zR [(0,v0)],zR [(3,.int .i64 a1)],zR [],zR [],zR [(0,v0)],zR [(3,.int .i64 a1)],zR [],zR [],zR []]) mixed E hS ⟨rfl,rfl⟩ rfl rfl (by kernel_rfl) ?_ ?_ ?_ ?_
 {
 intro i m_ c6 ws v n_ q_
 iterate 9 (rcases i with _|i;first|exact q_|exact RV.mono q_ n_)
 exact trivial}
 {
 intro c m_ c6 ws L_ T_ n_ a6
 match c,a6 with
 |0,⟨c7,d0⟩=>exact⟨c7,d0⟩
 |_+1,a6=>exact a6.elim}
 {
 refine⟨?_,?_,?_,?_,?_,?_,?_,?_,?_,trivial⟩
 {exact cmv λ_ _=>rfl}
 {exact cmv λ_ _=>⟨rfl,c3⟩}
 {refine cp1 λ_ _ _ _ _ M' Q' J Z T'=>?_;obtain⟨rfl,rfl⟩:=Q';have E:=(Z.add (T' 0)).add (T' 1).1;exact cq (jZ (k:=kAp) E rfl rfl underlying22 sizeOf32 (a2.mono (qk a3 M')) n4 rfl) J rfl}
 {refine cp1 λ_ _ _ _ _ M' Q' J Z T'=>?_;obtain⟨rfl,rfl⟩:=Q';have E:=Z.add (T' 2);exact cr (aA E J eF rfl (i:=1) rfl (GS.elem (a2.mono (qk a3 M')) k5)) J λ_ h=>h}
 {exact cmv λ_ _=>rfl}
 {exact cmv λ_ _=>⟨rfl,c3⟩}
 {refine cp0 λ_ _ _ _ _ _ _ _ _ J Z T'=>?_;have E:=Z.add (T' 5).1;exact cq (bh E rfl rfl (kR rfl)) J ⟨rfl,(aI _ _)⟩}
 {refine cp1 λ_ _ _ _ _ M' Q' J Z T'=>?_;obtain⟨rfl,rfl⟩:=Q';have E:=(Z.add (T' 4)).add (T' 6).1;exact cq (jZ (k:=kAp) E rfl rfl underlying22 sizeOf32 (a2.mono (qk a3 M')) k4 rfl) J rfl}
 {refine cp1 λ_ _ _ _ _ M' Q' J Z T'=>?_;obtain⟨rfl,rfl⟩:=Q';have E:=Z.add (T' 7);exact cr (aA E J eF rfl (i:=1) rfl (GS.elem (a2.mono (qk a3 M')) i0)) J λ_ h=>h}}
 {
 intro m1 L_ T_ f4 a w h1 c1 m3 hS l3 n6 g2 e9;obtain rfl:=gN h1;obtain⟨rfl,rfl⟩:=m3;have E:=eof 9 [(0,v0),(3,.int .i64 a1),(10,.int .i64 a1),(11,v0),(12,.int .i64 (p0.length:Int)),(13,.bool (decide (a1<(p0.length:Int))))] l3 n6 g2;obtain⟨q5,E,h3⟩:=adv E (e9 3);obtain⟨p7,E,o1⟩:=adv E (e9 8);refine sp E (vP E xN rfl rfl h3 o1 rfl) rfl λa E=>ag (kif E rfl (λe4=>?_) (λe4=>?_))
 {
 have h:=aD e4 h;refine ab (aj (qM E rfl λa E=>qM E rfl λa E=>?_));obtain⟨c2,o2,h⟩:=ob h;refine st E (su (k:=kAp) E rfl underlying22 sizeOf32 (a2.mono (qk a3 c1)) ⟨_,rfl⟩ rfl o2 (sz:=4) rfl (xl:=(some (.tmp 27))) (xh:=none)) rfl ?_;rintro a5 a _ ⟨rfl,c0⟩ E;refine qA E rfl λa E=>ag (ab (ab (aj (qA E rfl λa E=>ag ?_))));refine cF (λa w=>∃b7:Int,∃e1:(List Ap),fk b7 e1=some r18/\∃m',M.le f4 m'/\∃(c4:List Value),inR .i64 b7/\GS kAp m' W c4 v0 e1/\S W0 m' w ((0,[])::(W,c4)::L) (TL)/\Env 61 a [(0,v0),(3,.int .i64 b7)]) ?_ ?_
 {
 refine aW ?_;refine fw h (λ(s:Int×Int×List Ap) a w=>∃m',M.le f4 m'/\∃(b0:List Value),inR .i64 s.1/\inR .i64 s.2.1/\GS kAp m' W b0 v0 s.2.2/\S W0 m' w ((0,[])::(W,b0)::L) (TL)/\Env 61 a [(0,v0),(3,.int .i64 s.1),(4,a5),(5,.int .i64 s.2.1)]) ?_ ?_
 {exact⟨_,(Q0 _),a4,c3,(show inR .i64 1 from ay (by decide)),(a2.mono (qk a3 c1)),hS,kut E⟩}
 {
 rintro ⟨b1,a0,b5⟩ a w ⟨h5,f3,b0,e7,e8,a9,hS,E⟩ r133 h hb134;have h:fm c2 b1 a0 b5=some r133:=h;unfold fm at h;refine ab (ab (aj (qM E rfl λa E=>qM E rfl λa E=>?_)));obtain⟨q3,p4,h⟩:=ob h;refine sp E (I5 (sz:=4) E rfl rfl underlying22 c0) rfl λa E=>qB E rfl rfl cC λa E=>ag (kif E rfl (λe0=>?_) (λe0=>?_))
 {
 have h:=aD e0 h;refine aR (ab (aW (ab ?_)));obtain⟨m6,f6,g5,j4,h⟩:=ob2 h;obtain⟨h6,n2,g6,k0,h⟩:=ob2 h
 refine kch (k:=9) (m:=h5) (es:=[]) (Φ:=(λi m ws v=>match i with|0=>v=a5|1=>ei .i64 a0 v|2=>v=(.pointer (some ⟨W,m6*4,none⟩))|3=>RV kAp m v g5|4=>v=a5|5=>ei .i64 a0 v|6=>ei .i64 (Q1.wrap (a0 - 1)) v|7=>v=(.pointer (some ⟨W,h6*4,none⟩))|8=>RV kAp m v g6|_=>True)) (Q:=(λc m ws L' d1=>match c with|0=>(0,[])::(W,b0)::L=L'/\TL=d1|_=>False)) (cs:=[zR [(4,a5)],zR [(5,.int .i64 a0)],zR [],zR [],zR [(4,a5)],zR [(5,.int .i64 a0)],zR [],zR [],zR []]) mixed E hS ⟨rfl,rfl⟩ rfl rfl (by kernel_rfl) ?_ ?_ ?_ ?_
 {
 intro i m_ c6 ws v n_ q_
 iterate 9 (rcases i with _|i;first|exact q_|exact RV.mono q_ n_)
 exact trivial}
 {
 intro c m_ c6 ws L_ T_ n_ a6
 match c,a6 with
 |0,⟨c7,d0⟩=>exact⟨c7,d0⟩
 |_+1,a6=>exact a6.elim}
 {
 refine⟨?_,?_,?_,?_,?_,?_,?_,?_,?_,trivial⟩
 {exact cmv λ_ _=>rfl}
 {exact cmv λ_ _=>⟨rfl,e8⟩}
 {refine cp0 λ_ _ _ _ _ _ _ _ _ J Z T'=>?_;have E:=(Z.add (T' 0)).add (T' 1).1;exact cq (u9 (sz:=4) E rfl rfl underlying22 sizeOf32 c0 f6) J rfl}
 {refine cp1 λ_ _ _ _ _ M' Q' J Z T'=>?_;obtain⟨rfl,rfl⟩:=Q';have E:=Z.add (T' 2);exact cr (aA E J eF rfl (i:=1) rfl (GS.elem (a9.mono M') j4)) J λ_ h=>h}
 {exact cmv λ_ _=>rfl}
 {exact cmv λ_ _=>⟨rfl,e8⟩}
 {refine cp0 λ_ _ _ _ _ _ _ _ _ J Z T'=>?_;have E:=Z.add (T' 5).1;exact cq (bh E rfl rfl (kR rfl)) J ⟨rfl,(aI _ _)⟩}
 {refine cp0 λ_ _ _ _ _ _ _ _ _ J Z T'=>?_;have E:=(Z.add (T' 4)).add (T' 6).1;exact cq (u9 (sz:=4) E rfl rfl underlying22 sizeOf32 c0 n2) J rfl}
 {refine cp1 λ_ _ _ _ _ M' Q' J Z T'=>?_;obtain⟨rfl,rfl⟩:=Q';have E:=Z.add (T' 7);exact cr (aA E J eF rfl (i:=1) rfl (GS.elem (a9.mono M') k0)) J λ_ h=>h}}
 {
 intro m1 L_ T_ h2 a w j2 b2 g4 hS n3 k6 m2 f5;obtain rfl:=gN j2;obtain⟨rfl,rfl⟩:=g4;have E:=eof 9 [(0,v0),(3,.int .i64 b1),(4,a5),(5,.int .i64 a0),(29,.int .i64 a0),(30,a5),(31,.int .i64 (c2.2:Int)),(32,.bool (decide (a0<(c2.2:Int))))] n3 k6 m2;obtain⟨p3,E,o0⟩:=adv E (f5 3);obtain⟨r0,E,i5⟩:=adv E (f5 8);refine sp E (tD E xN rfl rfl o0 i5 rfl) rfl λa E=>ag ?_
 refine cF (λa w=>∃b3:Int,∃b6:(List Ap),cU a0 b3 b6=some r133/\∃m',M.le h2 m'/\∃(b4:List Value),inR .i64 b3/\GS kAp m' W b4 v0 b6/\S W0 m' w ((0,[])::(W,b4)::L) (TL)/\Env 61 a [(0,v0),(3,.int .i64 b3),(4,a5),(5,.int .i64 a0)]) ?_ ?_
 {
 refine kif E rfl (λd2=>?_) (λd2=>?_)
 {
 have h:=aD d2 h;refine ab (aj (qM E rfl λa E=>qM E rfl λa E=>qM E rfl λa E=>qM E rfl λa E=>?_));obtain⟨r2,h8,h⟩:=ob h;refine sp E (u9 (sz:=4) E rfl rfl underlying22 sizeOf32 c0 h8) rfl λa E=>?_;obtain⟨n0,m7,h⟩:=ob h;refine st E (aA E hS eF rfl (i:=1) rfl (GS.elem (a9.mono b2) m7)) rfl ?_;rintro p8 a _ ⟨rfl,m4⟩ E;obtain⟨l1,i4,h⟩:=ob h;refine sp E (jZ (k:=kAp) E rfl rfl underlying22 sizeOf32 (a9.mono b2) i4 rfl) rfl λa E=>?_;obtain⟨q4,k7,h⟩:=ob h
 refine st0 E (oV (k:=kAp) E hS eF bp (a9.mono b2) k7 rfl rfl m4 (i:=1) rfl) ?_;rintro _ w ⟨h9,g0,hS⟩ E;refine ag (aj (qM E rfl λa E=>qB E rfl rfl (cB rfl) λa E=>qA E rfl λa E=>ag ?_));exact⟨(Q1.wrap (b1+1)),(b5.set l1 n0),h,_,(Q0 _),h9,(aI _ _),g0,hS,kut E⟩}
 {have h:=aF d2 h;refine aR ?_;exact⟨b1,b5,h,_,(Q0 _),b0,e7,(a9.mono b2),hS,kut E⟩}}
 {rintro a w ⟨b3,b6,h,r3,h0,b4,g3,g1,hS,E⟩;unfold cU at h;refine aj (qM E rfl λa E=>qB E rfl rfl (cB rfl) λa E=>qA E rfl λa E=>ag ?_);exact⟨(b3,Q1.wrap (a0+1),b6),(Option.some.inj h).symm,_,(qk f3 (qk b2 h0)),b4,g3,(aI _ _),g1,hS,kut E⟩}}}
 {have h:=aF e0 h;refine eG rfl rfl ?_;have h:=cG h hb134;exact⟨b1,b5,h,_,f3,b0,e7,a9,hS,kut E⟩}}}
 {
 rintro a w ⟨b7,e1,h,q6,m5,c4,r1,e5,hS,E⟩;unfold fk at h;refine ab (aj (qM E rfl λa E=>qM E rfl λa E=>?_));obtain⟨p6,j1,h⟩:=ob h;refine st E (su (k:=kAp) E rfl underlying22 sizeOf32 e5 ⟨_,rfl⟩ rfl j1 (sz:=4) rfl (xl:=(some (.tmp 55))) (xh:=none)) rfl ?_;rintro q0 a _ ⟨rfl,h4⟩ E;obtain⟨q2,i1,h⟩:=ob h;refine st0 E (DF (k:=kAp) E hS rfl rfl underlying22 zeroValue32 (λm=>pk m) (i:=1) rfl e5 h4 i1) ?_;rintro _ w ⟨n1,l4,hS⟩ E;refine ag (ab (aj (qM E rfl λa E=>qM E rfl λa E=>?_)));obtain⟨q1,m8,h⟩:=ob h
 refine st E (DE (k:=kAp) E rfl underlying22 sizeOf32 l4 rfl m8) rfl ?_;rintro p5 a _ ⟨rfl,h7⟩ E;refine qA E rfl λa E=>ag (bd ?_);have h:=cG h hb19;obtain rfl:=oi h
 try dsimp only
 refine f1 E ?_;exact⟨_,(qk a3 (qk c1 m5)),W,n1,(hS.pickL 2 [1] rfl rfl rfl),h7⟩}}
 {have h:=aF e4 h;refine aR ?_;exact⟨h,_,c1,hS,kut E⟩}}}
 {rintro a w ⟨h,q7,l2,hS,E⟩;unfold fj at h;refine aj (qM E rfl λa E=>qB E rfl rfl (cB rfl) λa E=>qA E rfl λa E=>ag ?_);exact⟨Q1.wrap (a1+1),(Option.some.inj h).symm,_,(qk a3 l2),(aI _ _),hS,kut E⟩}}
 {have h:=aF c5 h;refine eG rfl rfl ?_;have h:=cG h hb19;exact⟨h,_,a3,hS,kut E⟩}}}
 {
 rintro a w ⟨h,m9,f0,hS,E⟩;unfold fi at h;refine ab (aj (qM E rfl λa E=>qA E rfl λa E=>ag (bd ?_)));obtain rfl:=oi h
 try dsimp only
 refine f1 E ?_;exact⟨_,f0,W,a4,(hS.pickL 2 [1] rfl rfl rfl),(a2.mono f0)⟩}}
theorem mL (hS:S W0 m w L TL) {p0}(W:RV (kSl kAp) m v0 p0) {r}(h:fE p0=some r):
    Calls prog 92 #[v0] w (Ret λv w'=>∃m',M.le m m'/\∃bq_:Nat,∃cq_:List Value,S W0 m' w' ((bq_,cq_)::L) (TL)/\GS kAp m' bq_ cq_ v r):=by
 refine kc func92 ntmps92 λa E=>?_;have E:Env 8 a [(0,v0)]:=E;unfold fE at h;refine ab (aj (qA E rfl λa E=>ag (ab (ab (aj (qM E rfl λa E=>?_))))));refine st E (vb (k:=kAp) E rfl rfl W underlying22) rfl ?_;rintro v5 a _ ⟨rfl,b1,rfl,a5⟩ E;refine ag (kif E rfl (λJ=>?_) (λJ=>?_))
 {
 have a4:=a5 J;have h:some ([]:List Ap)=some r:=by rw[a4] at h;exact h
 refine ab (aj (qA E rfl λa E=>ag (bd ?_)));obtain rfl:=oi h
 try dsimp only
 refine f1 E ?_;exact⟨_,(Q0 _),0,[],(((hS.void 0).void 0).pickL 2 [0] rfl rfl rfl),GS.void⟩}
 {
 refine aR (ab (aj ?_));refine st E (HE (k:=kAp) (m:=m) (xs:=[]) (vs:=[]) E (hS.void 0) rfl underlying22 sizeOf32 zeroValue32 trivial rfl (by decide)) rfl ?_;rintro a6 a w ⟨b3,a9,a2,hS⟩ E;refine qM E rfl λa E=>?_;obtain⟨b0,a1,h⟩:=ob h;refine st E (w7 (k:=kAp) (N:=3518437208883) E hS rfl rfl underlying22 A4 (i:=0) rfl a2 (vQ hS underlying22 W) a1 rfl rfl) rfl ?_;rintro b2 a w ⟨a0,Z,a3,hS⟩ E;refine qA E rfl λa E=>ag (bd ?_);obtain rfl:=oi h
 try dsimp only
 refine f1 E ?_;exact⟨_,(Q0 _),a0,Z,(hS.pickL 2 [0] rfl rfl rfl),a3⟩}
def kVR:Kd (aK×Value×Int):=bF br (bF xc (ai .u64))
theorem Do {m:M}{cs:List Value}{x:aa}(h:ae.R m cs x):∃rv,kVR.R m cs (x.fId,rv,x.fDeleted):=by
  obtain⟨W,⟨a,n,c,J,_⟩,h2⟩:=h;exact⟨.slice a n c,W,⟨J,rfl⟩,h2⟩
theorem NM {m:M}{v W:Value}{x:aa}(h:RV kVR m v (x.fId,W,x.fDeleted))(J:RV (kSl kAp) m W x.fRow):RV ae m v x:=by
  obtain⟨cs,⟨Z,⟨h1,_⟩,h2⟩,rfl⟩:=h;obtain⟨ds,J,rfl⟩:=J;refine⟨cs,⟨Z,?_,h2⟩,rfl⟩;have e:=(kSl kAp).len J
  match ds,e with
  |[d],_=>exact(show(kSl kAp).R m ((cs.drop 2).take 1) x.fRow by rw[show(cs.drop 2).take 1=[d] from h1];exact J)
theorem Dp:cR prog 59 kVR:=⟨sizeOf59,isAgg59⟩
theorem Dq:cR prog 22 xc:=⟨sizeOf22,isAgg22⟩
theorem PA:Fld kVR xc 2 (λx=>x.2.1):=bA dX
theorem Pf:StF kVR xc 2 (λx y=>(x.1,y,x.2.2)):=bq em
def RvX (m:M)(vs:List Value)(h:Mem)(x:aa):Prop:= ∃v b cs rv,vs=[v]/\h=[(b,cs)]/\RV kVR m v (x.fId,rv,x.fDeleted)/\GS kAp m b cs rv x.fRow
theorem IP {m:M}{vs:List Value}{J:Mem}{x:aa}(h:RvX m vs J x):vs.length=1:=by obtain⟨_,_,_,_,rfl,_⟩:=h;rfl
theorem G1 (W:Bse)(m:M)(w:World)(L:Mem)(TL:Tls)(vs:List Value)(Z:Mem)(x:aa)(hS:S W m w (Z++L) TL)(h:RvX m vs Z x):∃m',M.le m m'/\S W m' w L TL/\Rv1 ae m' vs x:=by
  obtain⟨v,b,cs,rv,rfl,rfl,h1,h2⟩:=h;obtain⟨m',J,Z',hr⟩:=S.freeze (b:=b) (cs:=cs) hS h2;exact⟨m',J,Z',v,rfl,NM (h1.mono J) hr⟩
theorem L2 {m:M}{b:Nat}{cs:List Value}{v:Value}{xs:List Ap}(h:GS kAp m b cs v xs):RV xc m v v:=by
  obtain⟨a,c,rfl,_⟩:=h.val;exact⟨[_],⟨rfl,rfl⟩,rfl⟩
theorem IQ (hS:S W0 m w L TL) {p0}(b0:RV ae m v0 p0) {r}(h:gI p0=some r):
    Calls prog 65 #[v0] w (Ret λv w'=>∃m',M.le m m'/\∃b cs W,S W0 m' w' ((b,cs)::L) (TL)/\RV kVR m' v (r.fId,W,r.fDeleted)/\GS kAp m' b cs W r.fRow):=by
 refine kc func65 ntmps65 λa E=>?_;have E:Env 8 a [(0,v0)]:=E;unfold gI at h;refine ab (aj ?_);refine st E (g8 (k:=ae) E hS rfl b0) rfl ?_;rintro _ a w ⟨b1,c0,rfl,J,hS⟩ E;refine st E (ci hS zeroValue59 rfl (cs:=vG)) rfl ?_;rintro _ a w ⟨b5,rfl,hS⟩ E;refine ag (ab (aj (sp E (aB E mK rfl) rfl λa E=>?_)));refine st E (aA E hS rq rfl (i:=1) rfl (J1.R_drop (aC J))) rfl ?_;rintro v9 a _ ⟨rfl,b2⟩ E;obtain⟨a5,a9,h⟩:=ob h;refine st E (az (vs:=[v9]) E rfl call92 (mL (hS:=hS) b2 (show fE p0.fRow=some a5 from a9))) rfl ?_;rintro a3 a w ⟨c1,a1,a4,b3,hS,Z⟩ E
 obtain⟨W,J⟩:=Do J;refine sp E (aB E mK rfl) rfl λa E=>?_;refine st0 E (bU E hS Dq Pf rfl rfl (L2 Z) (i:=2) rfl (kVR.mono a1 J)) ?_;rintro _ w ⟨b6,a6,hS⟩ E;refine ag (ab (aj ?_));refine st E (aA E hS Dp rfl (i:=2) rfl (aC a6)) rfl ?_;rintro b7 a _ ⟨rfl,a2⟩ E;refine st0 E (bU E hS Dp bp rfl rfl a2 (i:=1) rfl (Do (s4 _)).choose_spec) ?_;rintro _ w ⟨b4,a0,hS⟩ E;refine ag (bd ?_);obtain rfl:=oi h
 try dsimp only
 refine Fin.mk E (rs:=[.cell 2 59]) rfl (pQ.cell E hS Dp rfl (i:=1) rfl (aC a0) pQ.nil) ?_;exact⟨_,a1,a4,b3,a3,hS.pickL 3 [0] rfl rfl rfl,wZ (aC a0),Z⟩
def scr (n:Nat)(s:Int×List Ap):Option ((Int×List Ap)⊕Unit):=
  if decide (s.1<(n:Int)) then (ix s.2 s.1).bind λj=>some (.inl (Q1.wrap (s.1+1),s.2.set j ⟨77,false,0,[]⟩))
  else some (.inr ())
theorem L3 (xs:List Ap)(h:xs.length<=cd):∃r,au (scr xs.length) (0,xs)=some r:=by
  refine(fe (λs=>s.2.length=xs.length/\∃k:Nat,s.1=(k:Int)/\k<=xs.length) (λs=>xs.length - s.1.toNat) (λ_=>True) ?_ ⟨rfl,0,rfl,Nat.zero_le _⟩).imp λ_ h=>h.1;rintro ⟨i,ys⟩ ⟨J,k,rfl,W⟩;unfold cd at h
  by_cases hlt:k<xs.length
  · refine .inl ⟨_,by rw[scr,if_pos (by simpa using hlt),nP (by dsimp only at J ⊢;omega)];rfl,⟨by simpa using J,k+1,by rw[ak (by omega)];rfl,hlt⟩,?_⟩
    rw[ak (by omega)];simp only;omega
  ·exact .inr ⟨(),by rw[scr,if_neg (by simpa using hlt)],trivial⟩
theorem Bf {m0:M}:Fn2 prog kAp kAp (ai .i64) m0 (.func (.func 109) #[] #[]) bZ:=by
  refine⟨109,_,rfl,call109,?_⟩;intro W0 m w L TL v0 v1 x0 x1 r hm hS Z h W;refine(wQ (hS:=hS) Z h W).mono ?_;intro e w' J;cases e with
  |returned v=>obtain⟨m',h,h2,h3⟩:=J;exact⟨m',h,h2,h3⟩
  |panicked ch=>exact J.elim
  |outgrown=>exact J.elim
theorem yO (hS:S W0 m w L TL) {p0}(b0:RV (kSl kAp) m v0 p0) {r}(h:mu p0=some r):
    Calls prog 105 #[v0] w (Ret λv w'=>∃m',M.le m m'/\S W0 m' w' L ((1,v)::TL)/\RV (kSl (ai .u8)) m' v r):=by
 refine kc func105 ntmps105 λa E=>?_;have E:Env 54 a [(0,v0)]:=E;unfold mu at h;refine ab (aj (qA E rfl λa E=>ag (ab (aj (qM E rfl λa E=>?_)))));obtain⟨r3,l3,h⟩:=ob h;refine st E (az (vs:=[v0]) E rfl call92 (mL (hS:=hS) b0 l3)) rfl ?_;rintro c6 a w ⟨m5,c2,b7,r8,hS,l4⟩ E;refine qA E rfl λa E=>ag (ab (aj (qM E rfl λa E=>?_)));obtain⟨r6,f6,h⟩:=ob h;refine st E (az (vs:=[c6,(.func (.func 109) #[] #[])]) E rfl call148 (qq (hS:=hS) l4 (Bf (m0:=m5)) f6)) rfl ?_;rintro o2 a w ⟨m7,b3,p5,hS,i2⟩ E;refine ag (ab (aj (qM E rfl λa E=>?_)))
 obtain⟨J,h8,h⟩:=ob h;refine st E (az (vs:=[c6]) E rfl call149 (qm (hS:=hS) i2 h8)) rfl ?_;rintro a0 a w ⟨n2,b4,p3,q3,hS,e9⟩ E;refine qA E rfl λa E=>ag (ab ?_);obtain⟨q2,c0,hS,a2⟩:=S.freeze hS e9;refine aj (qM E rfl λa E=>sp E (aY (k:=kAp) E rfl rfl underlying22 a2) rfl λa E=>sp E (fy E rfl underlying3 underlying5 rfl) rfl λa E=>?_);refine st E (jJ (k:=(ai .u8)) (xs:=[Q4.wrap (J.length:Int)]) (vs:=[(.int .u8 (Q4.wrap (J.length:Int)))]) E hS rfl underlying24 sizeOf5 zeroValue5 ⟨(am (aI _ _)),trivial⟩ rfl (by decide)) rfl ?_
 rintro i0 a w ⟨e5,Z,hS,k5⟩ E;refine qA E rfl λa E=>ag (ab (ab (aj (qM E rfl λa E=>sp E (aY (k:=kAp) E rfl rfl underlying22 (a2.mono Z)) rfl λa E=>qM E rfl λa E=>ag ?_))));refine cF (λa w=>∃a4:(List Int),lI p0 J a4=some r/\∃m',M.le e5 m'/\∃(W:Value),RV (kSl (ai .u8)) m' W a4/\S W0 m' w L ((1,W)::TL)/\Env 54 a [(0,v0),(3,a0),(4,W)]) ?_ ?_
 {
 refine aW ?_;refine fw h (λ(s:List Int×Int) a w=>∃m',M.le e5 m'/\∃(a6:Value),RV (kSl (ai .u8)) m' a6 s.1/\inR .i64 s.2/\S W0 m' w L ((1,a6)::TL)/\Env 54 a [(0,v0),(3,a0),(4,a6),(20,a0),(21,.int .i64 (J.length:Int)),(22,.int .i64 s.2)]) ?_ ?_
 {exact⟨_,(Q0 _),i0,k5,(show inR .i64 0 from ay (by decide)),hS,kut E⟩}
 {
 rintro ⟨e3,e4⟩ a w ⟨r5,b6,a6,d1,o1,hS,E⟩ r142 h hb143;have h:jP p0 J e3 e4=some r142:=h;unfold jP at h;refine ab (aj (qB E rfl rfl cC λa E=>ag (ab (kif E rfl (λb5=>?_) (λb5=>?_)))))
 {
 have h:=aD b5 h;refine aR (ab (aW (ab (aj ?_))));obtain⟨p8,i3,h⟩:=ob h;refine st E (ez (k:=kAp) E rfl rfl underlying22 sizeOf32 (a2.mono (qk Z b6)) i3) rfl ?_;rintro p6 a _ ⟨rfl,f3⟩ E;refine st E (aZ E hS eF rfl f3) rfl ?_;rintro o3 a _ ⟨rfl,f4⟩ E;refine st E (ci hS zeroValue32 rfl (cs:=ui)) rfl ?_;rintro _ a w ⟨t0,rfl,hS⟩ E;refine st0 E (bU E hS eF bp rfl rfl f4 (i:=0) rfl (pk _)) ?_;rintro _ w ⟨q0,k7,hS⟩ E;refine ag (aj (qM E rfl λa E=>?_));refine st E (aA E hS eF rfl (i:=0) rfl (aC k7)) rfl ?_;rintro g6 a _ ⟨rfl,g3⟩ E
 obtain⟨m8,j4,h⟩:=ob h;refine st E (az (vs:=[g6]) E rfl call107 (uo (hS:=hS) g3 j4)) rfl ?_;rintro s3 a w ⟨r4,e1,hS,m1⟩ E;obtain⟨i5,i4,h⟩:=ob h;refine st E (i9 (k:=(ai .u8)) (N:=140737488355328) E hS rfl rfl underlying24 underlying24 el5 (i:=0) rfl (d1.mono e1) m1 i4 rfl rfl) rfl ?_;rintro m2 a w ⟨s1,g4,hS,k3⟩ E;refine qA E rfl λa E=>ag (aj (qB E rfl rfl (cB rfl) λa E=>qM E rfl λa E=>ag ?_));exact⟨(i5,Q1.wrap (e4+1)),(Option.some.inj h).symm,_,(qk b6 (qk e1 g4)),m2,k3,(aI _ _),(hS.pickL 1 [] rfl rfl rfl),kut E⟩}
 {have h:=aF b5 h;refine eG rfl rfl ?_;have h:=cG h hb143;exact⟨e3,h,_,b6,a6,d1,hS,kut E⟩}}}
 {
 rintro a w ⟨a4,h,e0,a1,W,h6,hS,E⟩;unfold lI at h;refine ab (aj (qA E rfl λa E=>ag (ab (ab (aj (qM E rfl λa E=>sp E (aY (k:=kAp) E rfl rfl underlying22 (b0.mono (qk c2 (qk b3 (qk b4 (qk c0 (qk Z a1))))))) rfl λa E=>qM E rfl λa E=>?_))))));refine ag ?_;refine cF (λa w=>∃b1:(List Int),lH J a4 b1=some r/\∃m',M.le e0 m'/\∃(a3:Value),RV (kSl (ai .u64)) m' a3 b1/\S W0 m' w L ((1,a3)::(1,W)::TL)/\Env 54 a [(3,a0),(4,W),(7,a3)]) ?_ ?_
 {
 refine aW ?_;refine fw h (λ(s:List Int×Int) a w=>∃m',M.le e0 m'/\∃(a5:Value),RV (kSl (ai .u64)) m' a5 s.1/\inR .i64 s.2/\S W0 m' w L ((1,a5)::(1,W)::TL)/\Env 54 a [(3,a0),(4,W),(7,a5),(31,v0),(32,.int .i64 (p0.length:Int)),(33,.int .i64 s.2)]) ?_ ?_
 {exact⟨_,(Q0 _),(.slice none 0 0),cN,(show inR .i64 0 from ay (by decide)),(hS.tail0 1),kut E⟩}
 {
 rintro ⟨e7,c7⟩ a w ⟨r2,a9,a5,e6,q4,hS,E⟩ r95 h hb96;have h:iu p0 J a4 e7 c7=some r95:=h;unfold iu at h;refine ab (aj (qB E rfl rfl cC λa E=>ag (ab (kif E rfl (λb2=>?_) (λb2=>?_)))))
 {
 have h:=aD b2 h;refine aR (ab (aW (ab (aj ?_))));obtain⟨q5,h4,h⟩:=ob h;refine st E (ez (k:=kAp) E rfl rfl underlying22 sizeOf32 (b0.mono (qk c2 (qk b3 (qk b4 (qk c0 (qk Z (qk a1 a9))))))) h4) rfl ?_;rintro q6 a _ ⟨rfl,h1⟩ E;refine st E (aZ E hS eF rfl h1) rfl ?_;rintro r7 a _ ⟨rfl,k4⟩ E;refine st E (ci hS zeroValue32 rfl (cs:=ui)) rfl ?_;rintro _ a w ⟨r0,rfl,hS⟩ E;refine st0 E (bU E hS eF bp rfl rfl k4 (i:=0) rfl (pk _)) ?_;rintro _ w ⟨m9,g1,hS⟩ E;refine ag (aj (qM E rfl λa E=>qM E rfl λa E=>?_))
 refine st E (aA E hS eF rfl (i:=0) rfl (aC g1)) rfl ?_;rintro h0 a _ ⟨rfl,g0⟩ E;obtain⟨c4,i1,h⟩:=ob h;refine st E (az (vs:=[a0,h0]) E rfl call150 (s6 (hS:=hS) (a2.mono (qk Z (qk a1 a9))) g0 i1)) rfl ?_;rintro n0 a w ⟨s2,c5,hS,f5⟩ E;obtain⟨rfl,m6⟩:=aJ f5;refine sp E (fy E rfl underlying3 underlying54 rfl) rfl λa E=>?_;refine st E (jJ (k:=(ai .u64)) (xs:=[Q3.wrap c4]) (vs:=[(.int .u64 (Q3.wrap c4))]) E hS rfl underlying189 sizeOf54 zeroValue54 ⟨(am (aI _ _)),trivial⟩ rfl (by decide)) rfl ?_;rintro m4 a w ⟨n4,d0,hS,g2⟩ E
 obtain⟨j2,h9,h⟩:=ob h;refine st E (i9 (k:=(ai .u64)) (N:=17592186044416) E hS rfl rfl underlying189 underlying189 Kh (i:=1) rfl (e6.mono (qk c5 d0)) g2 h9 rfl rfl) rfl ?_;rintro j1 a w ⟨n1,h2,hS,k0⟩ E;refine qA E rfl λa E=>ag (aj (qB E rfl rfl (cB rfl) λa E=>qM E rfl λa E=>ag ?_));exact⟨(j2,Q1.wrap (c7+1)),(Option.some.inj h).symm,_,(qk a9 (qk c5 (qk d0 h2))),j1,k0,(aI _ _),((hS.pickL 1 [] rfl rfl rfl).pickT 3 [1,2] rfl rfl rfl),kut E⟩}
 {have h:=aF b2 h;refine eG rfl rfl ?_;have h:=cG h hb96;exact⟨e7,h,_,a9,a5,e6,hS,kut E⟩}}}
 {
 rintro a w ⟨b1,h,n3,c1,a3,g5,hS,E⟩;unfold lH at h;refine ab (aj (qM E rfl λa E=>qM E rfl λa E=>qM E rfl λa E=>sp E (aY (k:=kAp) E rfl rfl underlying22 (a2.mono (qk Z (qk a1 c1)))) rfl λa E=>qB E rfl rfl (kR rfl) λa E=>sp E (fy E rfl underlying3 underlying94 rfl) rfl λa E=>?_));obtain⟨h3,k6,h⟩:=ob h;refine st E (az (vs:=[(.int .u64 (Q3.wrap (Q1.wrap ((J.length:Int) - 1))))]) E rfl call152 (Dn (hS:=hS) (aI _ _) k6)) rfl ?_;rintro p4 a w ⟨q1,c3,hS,e8⟩ E;obtain⟨rfl,f0⟩:=aJ e8;obtain⟨q7,l2,h⟩:=ob h
 refine st E (az (vs:=[a3,(.int .i64 h3)]) E rfl call151 (wS (hS:=hS) (g5.mono c3) f0 l2)) rfl ?_;rintro r1 a w ⟨r9,d2,hS,l1⟩ E;obtain⟨o0,h5,h⟩:=ob h;refine st E (i9 (k:=(ai .u8)) (N:=140737488355328) E hS rfl rfl underlying24 underlying24 el5 (i:=1) rfl (h6.mono (qk c1 (qk c3 d2))) l1 h5 rfl rfl) rfl ?_;rintro p7 a w ⟨n6,h7,hS,m3⟩ E;refine qA E rfl λa E=>ag (bd ?_);obtain rfl:=oi h
 try dsimp only
 refine f1 E ?_;exact⟨_,(qk c2 (qk b3 (qk b4 (qk c0 (qk Z (qk a1 (qk c1 (qk c3 (qk d2 h7))))))))),(hS.pickT 2 [1] rfl rfl rfl),m3⟩}}
theorem L4:Ctr Sz prog 153 [.rd (.sl (.int .i64))] [.rd (.int .i64)] (λx=>j9 x.1):=
 ncR [] [2] func153 ntmps153 (.s .o (.s .o (.s .o (.s (.s .o (.b (.l ⟨[.v 3 1 (.dat (.int .i64) none),.v 4 1 (.dat (.int .i64) none)],[0],0,[]⟩ .o))) .o)))) λx=>by kernel_rfl
def L5:=mC L4 call153
theorem L6:Ctr Sz prog 106 [.rd (.sl (.int .i64))] [.ap (.int .u8)] (λx=>lh x.1):=
 ncR [Fi,LZ,L5,Fj] [2] func106 ntmps106 (.s .o (.s .o (.s .o (.s .o (.s (.s .o (.b (.l ⟨[.v 4 1 (.dat (.sl (.int .u64)) (some 0)),.v 5 1 (.dat (.int .i64) none),.v 13 1 (.dat (.int .i64) none)],[3,11,12],0,[1]⟩ .o))) .o))))) λx=>by kernel_rfl
theorem xQ (hS:S W0 m w L TL) {p0}(a1:RV (kSl (ai .i64)) m v0 p0) {r}(h:lh p0=some r):
    Calls prog 106 #[v0] w (Ret λv w'=>∃m',M.le m m'/\S W0 m' w' L ((1,v)::TL)/\RV (kSl (ai .u8)) m' v r):=by
 refine rm (L6 W0 m w L TL [v0] (p0,()) r [] [] hS ⟨a1,trivial⟩ h) λv w' he=>?_;obtain⟨m',us,Lr,Lq,Tr,J,Z',rfl,W,hO⟩:=he;obtain⟨u0,us,Tr,rfl,rfl,r0,a0⟩:=sH W;obtain⟨rfl,rfl,rfl⟩:=bL a0;have Z:=bj hO;obtain rfl:=bM Z;exact⟨m',J,Z',r0⟩
theorem L7 {m0:M}:Fn1 prog kAp cm m0 (.func (.func 100) #[] #[]) eH:=by
  refine⟨100,_,rfl,call100,?_⟩;intro W0 m w L TL v0 x0 r hm hS W J;refine(uR (hS:=hS) W J).mono ?_;intro e w' h;cases e with
  |returned v=>obtain⟨m',h1,Z,h3⟩:=h;exact⟨m',h1,Z,h3⟩
  |panicked ch=>exact h.elim
  |outgrown=>exact h.elim
theorem wT (hS:S W0 m w L TL) {p0}(i4:inR .i64 p0) {p1}(a1:RV (kSl kAp) m v1 p1) {r}(h:eT p0 p1=some r):
    Calls prog 47 #[(.int .i64 p0),v1] w (Ret λv w'=>∃m',M.le m m'/\S W0 m' w' L TL/\∃v0_ v1_:Value,v= .tuple #[v0_,v1_]/\RV (kSl (ai .u8)) m' v0_ r.1/\RV (ai .i64) m' v1_ r.2):=by
 refine kc func47 ntmps47 λa E=>?_;have E:Env 69 a [(0,.int .i64 p0),(1,v1)]:=E;unfold eT at h;refine ab (aj (qA E rfl λa E=>qA E rfl λa E=>ag (ab (ab ?_))));refine cF (λa w=>∃x5:Bool,gu p0 p1 x5=some r/\∃m',M.le m m'/\S W0 m' w L TL/\Env 69 a [(0,.int .i64 p0),(1,v1),(16,.bool x5)]) ?_ ?_
 {
 refine aj (qM E rfl λa E=>qB E rfl rfl cC λa E=>qM E rfl λa E=>?_);rcases kz (decide (p0<0)) with hd174|hd174
 {have h:=aD hd174 h;refine qX E hd174 λa E=>qX E hd174 λa E=>qT E hd174 rfl λa E=>ag ?_;exact⟨true,h,_,(Q0 _),hS,kut E⟩}
 {have h:=aF hd174 h;refine qG E hd174 rfl λa E=>spg E rfl rfl rfl rfl hd174 (bh E rfl rfl mO) rfl λa E=>qF E hd174 rfl λa E=>ag ?_;exact⟨(decide (4<p0)),h,_,(Q0 _),hS,kut E⟩}}
 {
 rintro a w ⟨x5,h,m3,J,hS,E⟩;unfold gu at h;refine kif E rfl (λb0=>?_) (λb0=>?_)
 {
 have h:=aD b0 h;refine ab (aj (qA E rfl λa E=>qA E rfl λa E=>ag (bd ?_)));obtain rfl:=oi h
 try dsimp only
 refine f2 E ?_;exact⟨_,J,hS,_,_,rfl,cN,(am (show inR .i64 62 from ay (by decide)))⟩}
 {
 have h:=aF b0 h;refine aR (ab (ab (aj (qM E rfl λa E=>sp E (aY (k:=kAp) E rfl rfl underlying22 (a1.mono J)) rfl λa E=>qB E rfl rfl mO λa E=>ag (kif E rfl (λb7=>?_) (λb7=>?_))))))
 {
 have h:=aD b7 h;refine ab (aj (qA E rfl λa E=>qA E rfl λa E=>ag (bd ?_)));obtain rfl:=oi h
 try dsimp only
 refine f2 E ?_;exact⟨_,J,hS,_,_,rfl,cN,(am (show inR .i64 61 from ay (by decide)))⟩}
 {
 have h:=aF b7 h;refine aR (ab (ab (aj (qM E rfl λa E=>?_))));obtain⟨j1,e5,h⟩:=ob h;refine st E (az (vs:=[v1,(.func (.func 100) #[] #[])]) E rfl call99 (pc (hS:=hS) (a1.mono J) (L7 (m0:=m3)) e5)) rfl ?_;rintro m7 a w ⟨l4,Z,hS,e3⟩ E;obtain rfl:=cT e3;refine ag (kif E rfl (λc1=>?_) (λc1=>?_))
 {
 have h:=aD c1 h;refine ab (aj (qA E rfl λa E=>qA E rfl λa E=>ag (bd ?_)));obtain rfl:=oi h
 try dsimp only
 refine f2 E ?_;exact⟨_,(qk J Z),hS,_,_,rfl,cN,(am (show inR .i64 60 from ay (by decide)))⟩}
 {
 have h:=aF c1 h;refine aR (ab (aj (qM E rfl λa E=>?_)));obtain⟨c3,e0,h⟩:=ob h;refine st E (az (vs:=[v1]) E rfl call102 (yL (hS:=hS) (a1.mono (qk J Z)) e0)) rfl ?_;rintro _ a w ⟨e4,a0,hS,b1,m8,rfl,d0,h3⟩ E;obtain rfl:=cT h3;refine qM E rfl λa E=>sp E (bn E rfl rfl) rfl λa E=>sp E (bn E rfl rfl) rfl λa E=>qA E rfl λa E=>qA E rfl λa E=>ag (ab (ab ?_));refine cF (λa w=>∃b3:Bool,d6 p0 p1 c3 b3=some r/\∃m',M.le e4 m'/\S W0 m' w L TL/\Env 69 a [(0,.int .i64 p0),(1,v1),(6,b1),(36,.bool b3)]) ?_ ?_
 {
 refine aj (qM E rfl λa E=>sp E (kS E rfl) rfl λa E=>qM E rfl λa E=>?_);rcases kz (!c3.2) with hd159|hd159
 {
 have h:=aD hd159 h;refine qG E hd159 rfl λa E=>spg E rfl rfl rfl rfl hd159 (bh E rfl rfl ij) rfl λa E=>qG E hd159 rfl λa E=>?_;rcases kz (p0==2) with hd163|hd163
 {have h:=aD hd163 h;refine qX E hd163 λa E=>qX E hd163 λa E=>spg E rfl rfl rfl rfl hd159 (rz E rfl hd163 rfl) rfl λa E=>qT E hd159 rfl λa E=>ag ?_;exact⟨true,h,_,(Q0 _),hS,kut E⟩}
 {have h:=aF hd163 h;refine qG E hd163 rfl λa E=>spg E rfl rfl rfl rfl hd163 (bh E rfl rfl ij) rfl λa E=>spg E rfl rfl rfl rfl hd159 (rA E rfl hd163 rfl) rfl λa E=>qT E hd159 rfl λa E=>ag ?_;exact⟨(p0==4),h,_,(Q0 _),hS,kut E⟩}}
 {have h:=aF hd159 h;refine qX E hd159 λa E=>qX E hd159 λa E=>qX E hd159 λa E=>sxu E rfl rfl rfl rfl λa E=>sxu E rfl rfl rfl rfl λa E=>qX E hd159 λa E=>qF E hd159 rfl λa E=>ag ?_;exact⟨false,h,_,(Q0 _),hS,kut E⟩}}
 {
 rintro a w ⟨b3,h,c5,W,hS,E⟩;unfold d6 at h;refine kif E rfl (λb5=>?_) (λb5=>?_)
 {
 have h:=aD b5 h;refine ab (aj (qA E rfl λa E=>qA E rfl λa E=>ag (bd ?_)));obtain rfl:=oi h
 try dsimp only
 refine f2 E ?_;exact⟨_,(qk J (qk Z (qk a0 W))),hS,_,_,rfl,cN,(am (show inR .i64 62 from ay (by decide)))⟩}
 {
 have h:=aF b5 h;refine aR (ab (ab (aj (qM E rfl λa E=>sp E (aY (k:=kAp) E rfl rfl underlying22 (a1.mono (qk J (qk Z (qk a0 W))))) rfl λa E=>qB E rfl rfl ij λa E=>ag (kif E rfl (λb4=>?_) (λb4=>?_))))))
 {
 have h:=aD b4 h;refine ab (aj (qA E rfl λa E=>qA E rfl λa E=>ag (bd ?_)));obtain rfl:=oi h
 try dsimp only
 refine f2 E ?_;exact⟨_,(qk J (qk Z (qk a0 W))),hS,_,_,rfl,cN,(am (show inR .i64 0 from ay (by decide)))⟩}
 {
 have h:=aF b4 h;refine aR (ab (ab (aj (qM E rfl λa E=>ag (aW (ab (aj (qB E rfl rfl ij λa E=>?_))))))));refine qA E rfl λa E=>ag (kif E rfl (λb2=>?_) (λb2=>?_))
 {
 have h:=aD b2 h;refine ab (aj (qM E rfl λa E=>?_));obtain⟨m9,e6,h⟩:=ob h;refine st E (az (vs:=[v1]) E rfl call103 (yN (hS:=hS) (a1.mono (qk J (qk Z (qk a0 W)))) e6)) rfl ?_;rintro i3 a w ⟨k7,g2,hS,g4⟩ E;refine qA E rfl λa E=>qA E rfl λa E=>ag (bd ?_);obtain rfl:=oi h
 try dsimp only
 refine f2 E ?_;exact⟨_,(qk J (qk Z (qk a0 (qk W g2)))),(hS.dropT 1),_,_,rfl,g4,(am (show inR .i64 0 from ay (by decide)))⟩}
 {
 have h:=aF b2 h;refine ab (aj (qB E rfl rfl ij λa E=>qA E rfl λa E=>ag (kif E rfl (λb6=>?_) (λb6=>?_))))
 {
 have h:=aD b6 h;refine ab (aj (qM E rfl λa E=>?_));obtain⟨m4,h7,h⟩:=ob h;refine st E (az (vs:=[b1]) E rfl call104 (xP (hS:=hS) (d0.mono W) h7)) rfl ?_;rintro k6 a w ⟨j4,f3,hS,f4⟩ E;refine qA E rfl λa E=>qA E rfl λa E=>ag (bd ?_);obtain rfl:=oi h
 try dsimp only
 refine f2 E ?_;exact⟨_,(qk J (qk Z (qk a0 (qk W f3)))),(hS.dropT 1),_,_,rfl,f4,(am (show inR .i64 0 from ay (by decide)))⟩}
 {
 have h:=aF b6 h;refine ab (aj (qB E rfl rfl ij λa E=>qA E rfl λa E=>ag (kif E rfl (λa6=>?_) (λa6=>?_))))
 {
 have h:=aD a6 h;refine ab (aj (qM E rfl λa E=>?_));obtain⟨i1,g6,h⟩:=ob h;refine st E (az (vs:=[v1]) E rfl call105 (yO (hS:=hS) (a1.mono (qk J (qk Z (qk a0 W)))) g6)) rfl ?_;rintro j2 a w ⟨h9,h2,hS,h1⟩ E;refine qA E rfl λa E=>qA E rfl λa E=>ag (bd ?_);obtain rfl:=oi h
 try dsimp only
 refine f2 E ?_;exact⟨_,(qk J (qk Z (qk a0 (qk W h2)))),(hS.dropT 1),_,_,rfl,h1,(am (show inR .i64 0 from ay (by decide)))⟩}
 {
 have h:=aF a6 h;refine ab (aj (qB E rfl rfl ij λa E=>qA E rfl λa E=>ag (kif E rfl (λa9=>?_) (λa9=>?_))))
 {
 have h:=aD a9 h;refine ab (aj (qM E rfl λa E=>?_));obtain⟨i0,h4,h⟩:=ob h;refine st E (az (vs:=[b1]) E rfl call106 (xQ (hS:=hS) (d0.mono W) h4)) rfl ?_;rintro m6 a w ⟨m5,e1,hS,g1⟩ E;refine qA E rfl λa E=>qA E rfl λa E=>ag (bd ?_);obtain rfl:=oi h
 try dsimp only
 refine f2 E ?_;exact⟨_,(qk J (qk Z (qk a0 (qk W e1)))),(hS.dropT 1),_,_,rfl,g1,(am (show inR .i64 0 from ay (by decide)))⟩}
 {
 have h:=aF a9 h;refine aR (ab (aj (qA E rfl λa E=>ag (ab (ab (aj (qM E rfl λa E=>sp E (aY (k:=kAp) E rfl rfl underlying22 (a1.mono (qk J (qk Z (qk a0 W))))) rfl λa E=>?_)))))));refine qM E rfl λa E=>ag ?_;refine cF (λa w=>∃c0:(List Int),ke c0=some r/\∃m',M.le c5 m'/\∃(a3:Value),RV (kSl (ai .u8)) m' a3 c0/\S W0 m' w L ((1,a3)::TL)/\Env 69 a [(8,a3)]) ?_ ?_
 {
 refine aW ?_;refine fw h (λ(s:List Int×Int) a w=>∃m',M.le c5 m'/\∃(a2:Value),RV (kSl (ai .u8)) m' a2 s.1/\inR .i64 s.2/\S W0 m' w L ((1,a2)::TL)/\Env 69 a [(8,a2),(57,v1),(58,.int .i64 (p1.length:Int)),(59,.int .i64 s.2)]) ?_ ?_
 {exact⟨_,(Q0 _),(.slice none 0 0),cN,(show inR .i64 0 from ay (by decide)),(hS.tail0 1),kut E⟩}
 {
 rintro ⟨c7,c4⟩ a w ⟨n0,a4,a2,c6,l3,hS,E⟩ r123 h hb124;have h:iC p1 c7 c4=some r123:=h;unfold iC at h;refine ab (aj (qB E rfl rfl cC λa E=>ag (ab (kif E rfl (λa5=>?_) (λa5=>?_)))))
 {
 have h:=aD a5 h;refine aR (ab (aW (ab (aj ?_))));obtain⟨i5,f5,h⟩:=ob h;refine st E (ez (k:=kAp) E rfl rfl underlying22 sizeOf32 (a1.mono (qk J (qk Z (qk a0 (qk W a4))))) f5) rfl ?_;rintro k3 a _ ⟨rfl,d1⟩ E;refine st E (aZ E hS eF rfl d1) rfl ?_;rintro k5 a _ ⟨rfl,d2⟩ E;refine st E (ci hS zeroValue32 rfl (cs:=ui)) rfl ?_;rintro _ a w ⟨l2,rfl,hS⟩ E;refine st0 E (bU E hS eF bp rfl rfl d2 (i:=0) rfl (pk _)) ?_;rintro _ w ⟨m1,e7,hS⟩ E;refine ag (aj (qM E rfl λa E=>?_));refine st E (aA E hS eF rfl (i:=0) rfl (aC e7)) rfl ?_
 rintro f0 a _ ⟨rfl,e8⟩ E;obtain⟨m2,g0,h⟩:=ob h;refine st E (az (vs:=[f0]) E rfl call107 (uo (hS:=hS) e8 g0)) rfl ?_;rintro l1 a w ⟨k0,c2,hS,e9⟩ E;obtain⟨h6,h8,h⟩:=ob h;refine st E (i9 (k:=(ai .u8)) (N:=140737488355328) E hS rfl rfl underlying24 underlying24 el5 (i:=0) rfl (c6.mono c2) e9 h8 rfl rfl) rfl ?_;rintro g5 a w ⟨k4,h5,hS,f6⟩ E;refine qA E rfl λa E=>ag (aj (qB E rfl rfl (cB rfl) λa E=>qM E rfl λa E=>ag ?_))
 exact⟨(h6,Q1.wrap (c4+1)),(Option.some.inj h).symm,_,(qk a4 (qk c2 h5)),g5,f6,(aI _ _),(hS.pickL 1 [] rfl rfl rfl),kut E⟩}
 {have h:=aF a5 h;refine eG rfl rfl ?_;have h:=cG h hb124;exact⟨c7,h,_,a4,a2,c6,hS,kut E⟩}}}
 {
 rintro a w ⟨c0,h,i2,g3,a3,h0,hS,E⟩;unfold ke at h;refine ab (aj (qM E rfl λa E=>qA E rfl λa E=>qA E rfl λa E=>ag (bd ?_)));obtain rfl:=oi h
 try dsimp only
 refine f2 E ?_;exact⟨_,(qk J (qk Z (qk a0 (qk W g3)))),(hS.dropT 1),_,_,rfl,h0,(am (show inR .i64 0 from ay (by decide)))⟩}}}}}}}}}}}}
theorem NN:Ctr Sz prog 47 [.rd (.int .i64),.rd (.sl (.st 32))] [.rd (.sl (.int .u8)),.rd (.int .i64)] (λx=>eT x.1 x.2.1):=by
 intro W0 m w L TL vs x r Lp Tp hS hP h;obtain⟨v0,vs,rfl,a0,a3⟩:=iM hP;obtain⟨rfl,W⟩:=aJ a0;obtain⟨v1,vs,rfl,a1,a2⟩:=iM a3;obtain⟨rfl,rfl,rfl⟩:=mp a2;refine rm (wT (hS:=hS) W a1 h) λv w' he=>?_;obtain⟨m',J,Z,u0,u1,rfl,r0,r1⟩:=he;exact⟨m',[u0,u1],[],[],[],J,Z,rfl,⟨r0,⟨r1,trivial⟩⟩,trivial⟩
def za:=mC NN call47
theorem L8:Ctr Sz prog 135 [.rd (.int .i64),.rd (.sl (.st 32))] [.rd .bool] (λx=>pC x.1 x.2.1):=
 ncR [za] [4] func135 ntmps135 .o λx=>by kernel_rfl
theorem Bg (hS:S W0 m w L TL) {p0}(a3:inR .i64 p0) {p1}(a1:RV (kSl kAp) m v1 p1) {r}(h:pC p0 p1=some r):
    Calls prog 135 #[(.int .i64 p0),v1] w (Ret λv w'=>∃m',M.le m m'/\S W0 m' w' L TL/\RV cm m' v r):=by
 refine rm (L8 W0 m w L TL [(.int .i64 p0),v1] (p0,p1,()) r [] [] hS ⟨am a3,⟨a1,trivial⟩⟩ h) λv w' he=>?_;obtain⟨m',us,Lr,Lq,Tr,J,Z',rfl,Z,hO⟩:=he;obtain⟨u0,us,rfl,r0,a2⟩:=cE Z;obtain⟨rfl,rfl,rfl⟩:=bL a2;have a0:=bj hO;have W:=bj a0;obtain rfl:=bM W;exact⟨m',J,Z',r0⟩
theorem NO:Ctr Sz prog 46 [.rd (.sl (.st 32))] [.rd (.int .i64)] (λx=>oM x.1):=
 ncR [za] [2] func46 ntmps46 (.s .o (.s .o (.s (.s .o (.b (.l ⟨[.v 3 1 (.dat (.int .i64) none),.v 4 1 (.dat (.int .i64) none),.v 5 1 (.dat (.int .i64) none)],[0],0,[]⟩ .o))) .o))) λx=>by kernel_rfl
def NQ:=mC NO call46
theorem L9:Ctr Sz prog 108 [.rd (.sl (.st 32)),.f2 (.st 32) (.st 32) (.int .i64)] [.rd (.st 32)] (λx=>fF x.1 x.2.1):=
 nxR [] [.cell 4 32] func108 ntmps108 (.s .o (.s .o (.s .o (.s (.s .o (.b (.l ⟨[.v 6 1 (.dat (.int .i64) none),.b 1 1 (.st 32)],[0,1,4,5],2,[]⟩ .o))) .o)))) λx=>by kernel_rfl
theorem ru (hS:S W0 m w L TL) {p0}(a3:RV (kSl kAp) m v0 p0) {p1}(a1:Fn2 prog kAp kAp (ai .i64) m v1 p1) {r}(h:fF p0 p1=some r):
    Calls prog 108 #[v0,v1] w (Ret λv w'=>∃m',M.le m m'/\S W0 m' w' L TL/\RV kAp m' v r):=by
 refine rm (L9 W0 m w L TL [v0,v1] (p0,p1,()) r [] [] hS ⟨a3,⟨a1,trivial⟩⟩ h) λv w' he=>?_;obtain⟨m',us,Lr,Lq,Tr,J,Z',rfl,Z,hO⟩:=he;obtain⟨u0,us,rfl,r0,a2⟩:=cE Z;obtain⟨rfl,rfl,rfl⟩:=bL a2;have a0:=bj hO;have W:=wo a0;obtain rfl:=bM W;exact⟨m',J,Z',r0⟩
theorem Ma:Ctr Sz prog 110 [.rd (.sl (.st 32)),.f2 (.st 32) (.st 32) (.int .i64)] [.rd (.st 32)] (λx=>fG x.1 x.2.1):=
 nxR [] [.cell 4 32] func110 ntmps110 (.s .o (.s .o (.s .o (.s (.s .o (.b (.l ⟨[.v 6 1 (.dat (.int .i64) none),.b 1 1 (.st 32)],[0,1,4,5],2,[]⟩ .o))) .o)))) λx=>by kernel_rfl
theorem rx (hS:S W0 m w L TL) {p0}(a3:RV (kSl kAp) m v0 p0) {p1}(a1:Fn2 prog kAp kAp (ai .i64) m v1 p1) {r}(h:fG p0 p1=some r):
    Calls prog 110 #[v0,v1] w (Ret λv w'=>∃m',M.le m m'/\S W0 m' w' L TL/\RV kAp m' v r):=by
 refine rm (Ma W0 m w L TL [v0,v1] (p0,p1,()) r [] [] hS ⟨a3,⟨a1,trivial⟩⟩ h) λv w' he=>?_;obtain⟨m',us,Lr,Lq,Tr,J,Z',rfl,Z,hO⟩:=he;obtain⟨u0,us,rfl,r0,a2⟩:=cE Z;obtain⟨rfl,rfl,rfl⟩:=bL a2;have a0:=bj hO;have W:=wo a0;obtain rfl:=bM W;exact⟨m',J,Z',r0⟩
theorem ry {m:M}{v:Value}{p0:List Ap}(ha:PR (kSl kAp) m v p0):vT prog (Rv1 kAp) 157 #[v] m p0:=by
 intro σ I step B y m1 w L TL s Ls TLs r mono hle hy W hS hf;refine uu (args:=[y,v]) func157 rfl ntmps157 (Q2 rfl) λa E=>?_;have E:Env 16 a [(0,y),(1,v)]:=E;refine ab (aj ?_);refine st E (aZ E hS rq rfl (ha.mono hle)) rfl ?_;rintro v5 a _ ⟨rfl,a0⟩ E;refine sp E (aY (k:=kAp) E rfl rfl underlying22 a0) rfl λa E=>qM E rfl λa E=>ag ?_;have h:=Co (hU a0) hf;refine aW ?_;refine fw h (λ(t:Int×σ) a w=>∃m' Ls' TLs',M.le m1 m'/\inR .i64 t.1/\I m' t.2 Ls' TLs'/\S (B t.2) m' w (Ls'++L) (TLs'++TL)/\Env 16 a [(0,y),(5,v5),(6,.int .i64 (p0.length:Int)),(7,.int .i64 t.1)]) ?_ ?_
 {exact⟨m1,Ls,TLs,Q0 _,(show inR .i64 0 from ay (by decide)),W,hS,kut E⟩}
 {
 rintro ⟨i,s⟩ a w ⟨m2,a4,a2,Z,hi,W,hS,E⟩ r9 h hb;unfold xb at h;refine ab (aj (qB E rfl rfl cC λa E=>ag (ab (kif E rfl (λJ=>?_) (λJ=>?_)))))
 {
 have h:=aD J h;refine aR (ab (aW (ab (aj ?_))));obtain⟨x,hx,h⟩:=ob h;refine st E (ez (k:=kAp) E rfl rfl underlying22 sizeOf32 (a0.mono Z) hx) rfl ?_;rintro v9 a _ ⟨rfl,hp⟩ E;refine st E (aZ E hS eF rfl hp) rfl ?_;rintro b1 a _ ⟨rfl,a6⟩ E;refine st E (ci hS zeroValue32 rfl (cs:=ui)) rfl ?_;rintro _ a w ⟨b4,rfl,hS⟩ E;refine st0 E (bU E hS eF bp rfl rfl a6 (i:=0) rfl (pk _)) ?_;rintro _ w ⟨cs,hc,hS⟩ E;refine ag (ab (aj (qM E rfl λa E=>?_)));refine st E (aA E hS eF rfl (i:=0) rfl (aC hc)) rfl ?_;rintro a9 a _ ⟨rfl,b0⟩ E;obtain⟨q,hq,h⟩:=ob h
 refine st E (hy m2 _ L TL s a4 a2 [a9] x q.1 q.2 W (hS.dropL 1) ⟨_,rfl,b0⟩ hq _ _ _ _ _ _ _ _ _ (E.eval rfl) (gL E rfl)) rfl ?_;rintro _ a w ⟨rfl,m3,a5,a1,a3,W,hS⟩ E;refine sp E (kS E rfl) rfl λa E=>ag (kif E rfl (λJ=>?_) (λJ=>?_))
 {have h:=aF (by simpa using J) h;obtain rfl:=oi h;refine bd ?_;have h:=hb _ rfl;subst h;refine Fin.mk E (rs:=[]) rfl pQ.nil ?_;exact⟨m3,a5,a1,Z.trans a3,W,hS⟩}
 {have h:=aD (by simpa using J) h;obtain rfl:=oi h;refine aR (aj (qB E rfl rfl (cB rfl) λa E=>qM E rfl λa E=>ag ?_));exact⟨_,rfl,m3,a5,a1,Z.trans a3,(aI _ _),W,hS,kut E⟩}}
 {have h:=aF J h;obtain rfl:=oi h;have h:=hb _ rfl;subst h;refine eG rfl rfl ?_;dsimp only;refine Fin.mk E (rs:=[]) rfl pQ.nil ?_;exact⟨m2,a4,a2,Z,W,hS⟩}}
theorem se (hS:S W0 m w L TL) {p0}(a0:RV (kSl kAp) m v0 p0) {r}(h:iN p0=some r):
    Calls prog 111 #[v0] w (Ret λv w'=>∃m',M.le m m'/\S W0 m' w' L TL/\ItV prog (Rv1 kAp) m' v r):=by
 refine kc func111 ntmps111 λa E=>?_;have E:Env 4 a [(0,v0)]:=E;unfold iN at h;obtain rfl:=oi h;refine ab (aj ?_);refine st E (g8 E hS rfl a0) rfl ?_;rintro _ a w ⟨b,cs,rfl,Z,hS⟩ E;refine qA E rfl λa E=>ag (ab (aj ?_));obtain⟨m1,J,hS,W⟩:=S.freezeL (k:=(kSl kAp)) hS Z;refine sp E (ly E rfl rfl) rfl λa E=>qA E rfl λa E=>ag (bd ?_);refine f1 E ?_;exact⟨_,J,hS,157,_,rfl,call157,ry W⟩
theorem up (hS:S W0 m w L TL) {p0}(c2:inR .i64 p0) {p1}(W:RV (kSl kAp) m v1 p1) {r}(h:kf p0 p1=some r):
    Calls prog 48 #[(.int .i64 p0),v1] w (Ret λv w'=>∃m',M.le m m'/\S W0 m' w' L TL/\RV cw m' v r):=by
 refine vU func48 rfl ntmps48 (Q2 rfl) λa E=>?_;have E:Env 26 a [(0,.int .i64 p0),(1,v1)]:=E;unfold kf at h;refine ab (aj ?_);refine st E (ci hS zeroValue34 rfl (cs:=sZ)) rfl ?_;rintro _ a w ⟨b1,rfl,hS⟩ E;refine ag (ab (aj (qM E rfl λa E=>qM E rfl λa E=>sp E (aY (k:=kAp) E rfl rfl underlying22 W) rfl λa E=>qM E rfl λa E=>?_)));obtain⟨r7,c4,h⟩:=ob h;refine st E (az (vs:=[v1,(.func (.func 109) #[] #[])]) E rfl call108 (ru (hS:=hS) W (Bf (m0:=m)) c4)) rfl ?_;rintro e8 a w ⟨m9,a3,hS,e0⟩ E;refine qM E rfl λa E=>?_;obtain⟨b7,c5,h⟩:=ob h
 refine st E (az (vs:=[v1,(.func (.func 109) #[] #[])]) E rfl call110 (rx (hS:=hS) (W.mono a3) (Bf (m0:=m9)) c5)) rfl ?_;rintro d1 a w ⟨c0,a1,hS,d2⟩ E;refine st E (sr (m:=c0) (k:=cw) (x0:=bm.zero) (xx:=(⟨p0,(p1.length:Int),r7,b7,0,0⟩:bm)) (pl:=[(0,1),(1,1),(2,4),(6,4),(10,1),(11,1)]) (pv:=[(0,.int .i64 p0),(1,.int .i64 (p1.length:Int)),(2,e8),(3,d1)]) E rfl underlying34 rfl zeroValue34 vE rfl (.cons rfl EY (am c2) (.cons rfl EZ (am (dy (hU W))) (.cons rfl E0 (e0.mono a1) (.cons rfl E1 d2 .nil))))) rfl ?_;rintro j2 a _ ⟨rfl,e7⟩ E
 refine st E (ci hS zeroValue34 rfl (cs:=sZ)) rfl ?_;rintro _ a w ⟨Z,rfl,hS⟩ E;refine st0 E (bU E hS vF bp rfl rfl e7 (i:=0) rfl (vE _)) ?_;rintro _ w ⟨b5,g4,hS⟩ E;refine ag (ab (ab (aj (qM E rfl λa E=>?_))));obtain⟨i0,g3,h⟩:=ob h;refine st E (az (vs:=[v1]) E rfl call111 (se (hS:=hS) (W.mono (qk a3 a1)) g3)) rfl ?_;rintro k6 a w ⟨f5,b0,hS,e3⟩ E;refine ag (aW ?_);obtain⟨a4,f3,h⟩:=ob h
 refine xa (Rv:=(Rv1 kAp)) (λ(s:bm) (x:Ap)=>eU s x) (λ_=> .ret) [] (λ(m':M) (s:bm) (a2:Mem) (a6:Tls)=>∃(J:List Value),M.le f5 m'/\cw.R m' J s/\a2=[(Z,J),(b1,sZ)]/\a6=[]) (Ls:=[(Z,b5),(b1,sZ)]) (TLs:=[]) (s0:=(⟨p0,(p1.length:Int),r7,b7,0,0⟩:bm)) (sf:=a4.1) (bf:=a4.2) E hS rfl e3 (by decide) (λ_ _ _ h=>w9 h) (by rintro j1 i3 s_ a_ b_ n_ ⟨J,g2,h1,e1,e5⟩;exact⟨J,g2.trans n_,cw.mono n_ h1,e1,e5⟩) ⟨b5,Q0 _,(cw.mono b0 g4),rfl,rfl⟩ f3 ?_ ?_
 {
 intro h6 k5 W0 j4 w L TL s_ a2 a6 h8 h2 f4 c3 a i4 k7 a9 hS d0 h E g6;obtain⟨x36,rfl⟩:∃x,x=s_:=⟨_,rfl⟩
 obtain⟨J,b2,a5,rfl,rfl⟩:=a9;have h:eU x36 h2=some (f4,c3):=h;unfold eU at h;obtain⟨k3,rfl,e9⟩:=d0;refine aj ?_;refine st E (ci hS zeroValue32 rfl (cs:=ui)) rfl ?_;rintro _ a w ⟨i5,rfl,hS⟩ E;refine st0 E (bU E hS eF bp rfl rfl e9 (i:=0) rfl (pk _)) ?_;rintro _ w ⟨k0,c1,hS⟩ E;refine ag ?_;obtain⟨g1,hS⟩:=g6 _ _ _ _ hS;refine⟨g1,?_⟩;refine aW (ab (aj (sp E (aB E A5 rfl) rfl λa E=>?_)));refine st E (aA E hS ty3 rfl (i:=0) rfl (JL.R_drop (aC c1))) rfl ?_;rintro h9 a _ ⟨rfl,g0⟩ E;obtain⟨rfl,h3⟩:=aJ g0
 refine qB E rfl rfl ij λa E=>ag (kif E rfl (λa0=>?_) (λa0=>?_))
 {
 have h:=aD a0 h;refine aj (sp E (aB E uj rfl) rfl λa E=>?_);refine st E (aA E hS ty3 rfl (i:=1) rfl (JW.R_drop (aC a5))) rfl ?_;rintro h5 a _ ⟨rfl,e4⟩ E;obtain⟨rfl,h4⟩:=aJ e4;refine qB E rfl rfl (cB rfl) λa E=>sp E (aB E uj rfl) rfl λa E=>?_;refine st0 E (bU E hS ty3 E2 rfl rfl (am (aI _ _)) (i:=1) rfl a5) ?_;rintro _ w ⟨b6,c6,hS⟩ E;refine ag ?_;cases h
 try dsimp only
 exact⟨rfl,_,[(Z,b6),(b1,sZ)],[],(Q0 _),⟨b6,b2,c6,rfl,rfl⟩,(hS.pickL 3 [1,2] rfl rfl rfl)⟩}
 {
 have h:=aF a0 h;refine aR ?_;cases h
 try dsimp only
 exact⟨rfl,_,[(Z,J),(b1,sZ)],[],(Q0 _),⟨J,b2,a5,rfl,rfl⟩,(hS.pickL 3 [1,2] rfl rfl rfl)⟩}}
 {
 intro f0 i2 w a a2 a6 c7 E a9 hS f6 e6;obtain⟨h7,_,g5,rfl,rfl⟩:=a9;obtain⟨W0,b3⟩:∃W9,W9=W0.put f0 (.deferred (some [])):=⟨_,rfl⟩
 rw[←b3] at hS;rcases kz a4.2 with hb75|hb75
 {
 have h:=aD hb75 h;rw[if_pos hb75];refine ab (aj ?_);refine st E (aA E hS vF rfl (i:=0) rfl (aC g5)) rfl ?_;rintro i1 a _ ⟨rfl,h0⟩ E;refine st0 E (bU E hS vF bp rfl rfl h0 (i:=1) rfl (vE _)) ?_;rintro _ w ⟨k4,b4,hS⟩ E;refine ag (bd ?_);obtain rfl:=oi h
 try dsimp only
 have hS:=hS;rw[b3] at hS;refine zB.shut E hS f6 e6 λa w hS E=>?_;refine zB.nil E ?_;refine Fin.mk E (rs:=[.cell 4 34]) rfl (pQ.cell E hS vF rfl (i:=1) rfl (aC b4) pQ.nil) ?_;exact⟨_,(qk a3 (qk a1 (qk b0 c7))),(hS.dropL 2),(wZ (aC b4))⟩}
 {have h:=aF hb75 h;cases h}}
theorem NR:Ctr Sz prog 48 [.rd (.int .i64),.rd (.sl (.st 32))] [.rd (.st 34)] (λx=>kf x.1 x.2.1):=by
 intro W0 m w L TL vs x r Lp Tp hS hP h;obtain⟨v0,vs,rfl,a0,a3⟩:=iM hP;obtain⟨rfl,W⟩:=aJ a0;obtain⟨v1,vs,rfl,a1,a2⟩:=iM a3;obtain⟨rfl,rfl,rfl⟩:=mp a2;refine rm (up (hS:=hS) W a1 h) λv w' he=>?_;obtain⟨m',J,Z,r0⟩:=he;exact⟨m',[v],[],[],[],J,Z,rfl,⟨r0,trivial⟩,trivial⟩
def NS:=mC NR call48
theorem NT:Ctr Sz prog 49 [.rd (.st 32)] [.rd (.sl (.int .u8))] (λx=>oX x.1):=
 ncR [Fg] [2] func49 ntmps49 .o λx=>by kernel_rfl
def NU:=mC NT call49
theorem Hr:Ctr Sz prog 78 [.rd (.sl (.int .u8))] [.rd (.int .u32)] (λx=>jg x.1):=
 ncR [] [2] func78 ntmps78 (.s .o (.s .o (.s (.s .o (.b (.l ⟨[.v 9 1 (.dat (.int .i64) none),.a 0 1 (.int .u32) (some 16)],[0,3],1,[]⟩ (.s .o (.s .o (.s (.b (.s .o (.s .o (.s (.s .o (.b (.l ⟨[.v 5 2 (.dat (.int .u32) none),.v 14 2 (.dat (.int .i64) none)],[0,3,4,9],1,[]⟩ .o))) .o)))) .o)))))) (.s .o (.s (.s .o (.b (.l ⟨[.v 6 1 (.dat (.int .u32) none),.v 29 1 (.dat (.int .i64) none)],[3,27,28],1,[]⟩ .o))) .o))))) λx=>by kernel_rfl
def NV:=mC Hr call78
theorem uX (hS:S W0 m w L TL) {p0}(a1:RV (kSl (ai .u8)) m v0 p0) {r}(h:jg p0=some r):
    Calls prog 78 #[v0] w (Ret λv w'=>∃m',M.le m m'/\S W0 m' w' L TL/\RV (ai .u32) m' v r):=by
 refine rm (Hr W0 m w L TL [v0] (p0,()) r [] [] hS ⟨a1,trivial⟩ h) λv w' he=>?_;obtain⟨m',us,Lr,Lq,Tr,J,Z',rfl,W,hO⟩:=he;obtain⟨u0,us,rfl,r0,a0⟩:=cE W;obtain⟨rfl,rfl,rfl⟩:=bL a0;have Z:=bj hO;obtain rfl:=bM Z;exact⟨m',J,Z',r0⟩
theorem Hs:Ctr Sz prog 50 [.ap (.int .u8)] [.ap (.int .u8)] (λx=>jQ x.1):=
 ncR [NV] [2] func50 ntmps50 .o λx=>by kernel_rfl
def NW:=mC Hs call50
theorem xR (hS:S W0 m w L ((1,v0)::TL)) {p0}(a1:RV (kSl (ai .u8)) m v0 p0) {r}(h:jQ p0=some r):
    Calls prog 50 #[v0] w (Ret λv w'=>∃m',M.le m m'/\S W0 m' w' L ((1,v)::TL)/\RV (kSl (ai .u8)) m' v r):=by
 refine rm (Hs W0 m w L TL [v0] (p0,()) r [] [(1,v0)] hS ⟨a1,rfl,trivial⟩ h) λv w' he=>?_;obtain⟨m',us,Lr,Lq,Tr,J,Z',rfl,W,hO⟩:=he;obtain⟨u0,us,Tr,rfl,rfl,r0,a0⟩:=sH W;obtain⟨rfl,rfl,rfl⟩:=bL a0;have Z:=Hg hO;obtain rfl:=bM Z;exact⟨m',J,Z',r0⟩
theorem NX:Ctr Sz prog 15 [.rd (.int .i64),.rd (.sl (.st 32))] [.rd (.sl (.int .u8)),.rd (.int .i64)] (λx=>mw x.1 x.2.1):=
 ncR [NQ,za,NS,NU,NW] [4,5] func15 ntmps15 .o λx=>by kernel_rfl
theorem yP (hS:S W0 m w L TL) {p0}(a4:inR .i64 p0) {p1}(a1:RV (kSl kAp) m v1 p1) {r}(h:mw p0 p1=some r):
    Calls prog 15 #[(.int .i64 p0),v1] w (Ret λv w'=>∃m',M.le m m'/\S W0 m' w' L TL/\∃v0_ v1_:Value,v= .tuple #[v0_,v1_]/\RV (kSl (ai .u8)) m' v0_ r.1/\RV (ai .i64) m' v1_ r.2):=by
 refine rm (NX W0 m w L TL [(.int .i64 p0),v1] (p0,p1,()) r [] [] hS ⟨am a4,⟨a1,trivial⟩⟩ h) λv w' he=>?_;obtain⟨m',us,Lr,Lq,Tr,J,Z',rfl,Z,hO⟩:=he;obtain⟨u0,us,rfl,r0,a2⟩:=cE Z;obtain⟨u1,us,rfl,r1,a3⟩:=cE a2;obtain⟨rfl,rfl,rfl⟩:=bL a3;have a0:=bj hO;have W:=bj a0;obtain rfl:=bM W;exact⟨m',J,Z',u0,u1,rfl,r0,r1⟩
theorem vJ (hS:S W0 m w L TL) {p0}(d2:inR .i64 p0) {p1}(g4:RV (kSl kAp) m v1 p1) {r}(h:jW p0 p1=some r):
    Calls prog 76 #[(.int .i64 p0),v1] w (Ret λv w'=>∃m',M.le m m'/\S W0 m' w' L ((1,v)::TL)/\RV (kSl (ai .u8)) m' v r):=by
 refine vU func76 rfl ntmps76 (Q2 rfl) λa E=>?_;have E:Env 28 a [(0,.int .i64 p0),(1,v1)]:=E;unfold jW at h;refine ab (aj ?_);refine st E (g8 (k:=(ai .i64)) E hS rfl (am d2)) rfl ?_;rintro _ a w ⟨b1,a1,rfl,h0,hS⟩ E;refine qA E rfl λa E=>ag (ab (aj ?_));refine st E (ci hS zeroValue24 rfl (cs:=[(.slice none 0 0)])) rfl ?_;rintro _ a w ⟨b6,rfl,hS⟩ E;refine ag (ab (ab (aj (qM E rfl λa E=>?_))));obtain⟨r9,g1,h⟩:=ob h;refine st E (az (vs:=[v1,(.int .i64 64)]) E rfl call134 (s5 (hS:=hS) g4 (show inR .i64 64 from ay (by decide)) g1)) rfl ?_;rintro e5 a w ⟨e3,b3,hS,e6⟩ E
 refine ag (aW ?_);obtain⟨a3,f3,h⟩:=ob h;refine xa (Rv:=(Rv1 (kSl kAp))) (λ(s:List Int) (x:List Ap)=>eE p0 s x) (λ_=> .ret) [] (λ(m':M) (s:List Int) (a6:Mem) (a9:Tls)=>∃(J:Value),M.le e3 m'/\RV (kSl (ai .u8)) m' J s/\a6=[(b6,[J]),(b1,a1)]/\a9=[(1,J)]) (Ls:=[(b6,[(.slice none 0 0)]),(b1,a1)]) (TLs:=[(1,.slice none 0 0)]) (s0:=([]:(List Int))) (sf:=a3.1) (bf:=a3.2) E (hS.tail0 1) rfl e6 (by decide) (λ_ _ _ h=>w9 h) (by rintro k0 i4 s_ a_ b_ n_ ⟨J,g6,h4,e9,f0⟩;exact⟨J,g6.trans n_,h4.mono n_,e9,f0⟩) ⟨(.slice none 0 0),Q0 _,cN,rfl,rfl⟩ f3 ?_ ?_
 {
 intro h9 k5 W0 i3 w L TL s_ a6 a9 i0 c5 d0 b7 a i5 k7 a5 hS f5 h E h2;obtain⟨c4,rfl⟩:∃x,x=s_:=⟨_,rfl⟩
 obtain⟨J,c7,b4,rfl,rfl⟩:=a5;have h:eE p0 c4 c5=some (d0,b7):=h;unfold eE at h;obtain⟨b0,rfl,b5⟩:=f5;refine aj (qA E rfl λa E=>ag ?_);obtain⟨g5,hS⟩:=h2 _ _ _ _ hS;refine⟨g5,?_⟩;refine aW (ab (aj ?_));refine st E (aA E hS ty3 rfl (i:=1) rfl (aC ((ai .i64).mono (qk b3 c7) h0))) rfl ?_;rintro h6 a _ ⟨rfl,g2⟩ E;obtain⟨rfl,c3⟩:=aJ g2;refine qA E rfl λa E=>ag (ab (ab (aj (qM E rfl λa E=>qM E rfl λa E=>?_))));obtain⟨h7,e8,h⟩:=ob h;refine st E (az (vs:=[(.int .i64 p0),b0]) E rfl call135 (Bg (hS:=hS) c3 b5 e8)) rfl ?_
 rintro h8 a w ⟨g0,Z,hS,e7⟩ E;obtain rfl:=cT e7;refine sp E (kS E rfl) rfl λa E=>ag ?_;refine cF (λa w=>∃W:Int,fW c4 c5 W=some (d0,b7)/\∃m',M.le g0 m'/\inR .i64 W/\S W0 m' w ((b6,[J])::(b1,a1)::L) ((1,J)::TL)/\Env 28 a [(2,pz b1),(5,pz b6),(6,b0),(7,.int .i64 W),(11,e5)]) ?_ ?_
 {
 refine kif E rfl (λb2=>?_) (λb2=>?_)
 {have h:=aD b2 h;refine aj (qA E rfl λa E=>ag ?_);exact⟨(-1),h,_,(Q0 _),(show inR .i64 (-1) from ay (by decide)),hS,kut E⟩}
 {have h:=aF b2 h;refine aR ?_;exact⟨p0,h,_,(Q0 _),c3,hS,kut E⟩}}
 {
 rintro a w ⟨W,h,j1,a0,e4,hS,E⟩;unfold fW at h;refine ab (aj (qM E rfl λa E=>qM E rfl λa E=>?_));obtain⟨j2,e0,h⟩:=ob h;refine st E (az (vs:=[(.int .i64 W),b0]) E rfl call15 (yP (hS:=hS) e4 (b5.mono (qk Z a0)) e0)) rfl ?_;rintro _ a w ⟨k4,a2,hS,j4,i1,rfl,d1,h1⟩ E;obtain⟨rfl,h5⟩:=aJ h1;refine qM E rfl λa E=>sp E (bn E rfl rfl) rfl λa E=>sp E (bn E rfl rfl) rfl λa E=>qA E rfl λa E=>qA E rfl λa E=>ag (aj (sp E (qv (k:=(ai .u8)) E hS GY rfl (i:=0) rfl (b4.mono (qk Z (qk a0 a2)))) rfl λa E=>qM E rfl λa E=>?_))
 obtain⟨l1,f4,h⟩:=ob h;refine st E (i9 (k:=(ai .u8)) (N:=140737488355328) E hS rfl rfl underlying24 underlying24 el5 (i:=0) rfl (b4.mono (qk Z (qk a0 a2))) d1 f4 rfl rfl) rfl ?_;rintro a4 a w ⟨k3,c2,hS,c1⟩ E;refine st0 E (sw (k:=(ai .u8)) E hS GY rfl rfl c1 (i:=0) rfl) ?_;rintro _ w hS E;refine ag ?_;cases h
 try dsimp only
 exact⟨rfl,_,[(b6,[a4]),(b1,a1)],[(1,a4)],(qk Z (qk a0 (qk a2 c2))),⟨a4,(qk c7 (qk Z (qk a0 (qk a2 c2)))),c1,rfl,rfl⟩,hS⟩}}
 {
 intro h3 i2 w a a6 a9 f6 E a5 hS e1 g3;obtain⟨k6,_,c6,rfl,rfl⟩:=a5;obtain⟨W0,c0⟩:∃W9,W9=W0.put h3 (.deferred (some [])):=⟨_,rfl⟩
 rw[←c0] at hS;rcases kz a3.2 with hb86|hb86
 {
 have h:=aD hb86 h;rw[if_pos hb86];refine ab (aj (sp E (qv (k:=(ai .u8)) E hS GY rfl (i:=0) rfl c6) rfl λa E=>qA E rfl λa E=>ag (bd ?_)));obtain rfl:=oi h
 try dsimp only
 have hS:=hS;rw[c0] at hS;refine zB.shut E hS e1 g3 λa w hS E=>?_;refine zB.nil E ?_;refine f1 E ?_;exact⟨_,(qk b3 f6),((hS.dropL 2).pickT 1 [0] rfl rfl rfl),c6⟩}
 {have h:=aF hb86 h;cases h}}
theorem nZ (hS:S W0 m w L TL) {p0}(e1:inR .i64 p0) {p1}(b3:RV (kSl (ai .i64)) m v1 p1) {p2}(e3:RV (kSl (ai .i64)) m v2 p2) {p3}(f4:RV (kSl ae) m v3 p3) {r}(h:dG p0 p1 p2 p3=some r):
    Calls prog 31 #[(.int .i64 p0),v1,v2,v3] w (Ret λv w'=>∃m',M.le m m'/\S W0 m' w' L TL/\∃v0_ v1_:Value,v= .tuple #[v0_,v1_]/\RV (kSl (ai .u8)) m' v0_ r.1/\RV (ai .i64) m' v1_ r.2):=by
 refine kc func31 ntmps31 λa E=>?_;have E:Env 88 a [(0,.int .i64 p0),(1,v1),(2,v2),(3,v3)]:=E;unfold dG at h;refine ab (aj (qA E rfl λa E=>qA E rfl λa E=>ag (ab (aj (qM E rfl λa E=>qM E rfl λa E=>qM E rfl λa E=>?_)))));obtain⟨r6,i2,h⟩:=ob h;refine st E (az (vs:=[(.int .i64 p0),v1,v3]) E rfl call74 (jI (hS:=hS) e1 b3 f4 i2)) rfl ?_;rintro q1 a w ⟨m8,Z,hS,m5⟩ E;obtain⟨rfl,n2⟩:=aJ m5;refine qA E rfl λa E=>ag (ab (ab (aj (qM E rfl λa E=>qB E rfl rfl lx λa E=>ag (kif E rfl (λd1=>?_) (λd1=>?_))))))
 {
 have h:=aD d1 h;refine ab (aj (qM E rfl λa E=>qA E rfl λa E=>qA E rfl λa E=>ag (bd ?_)));obtain rfl:=oi h
 try dsimp only
 refine f2 E ?_;exact⟨_,Z,hS,_,_,rfl,cN,(am n2)⟩}
 {
 have h:=aF d1 h;refine aR (ab (aj (qM E rfl λa E=>qM E rfl λa E=>?_)));obtain⟨a3,l2,h⟩:=ob h;refine st E (az (vs:=[v1,v3]) E rfl call27 (ql (hS:=hS) (b3.mono Z) (f4.mono Z) l2)) rfl ?_;rintro a4 a w ⟨q3,a6,hS,d2⟩ E;refine qA E rfl λa E=>ag (ab (aj ?_))
 refine st E (HI (k:=(ai .u8)) (xs:=[72,65,89,49]) (vs:=[(.int .u8 72),(.int .u8 65),(.int .u8 89),(.int .u8 49)]) E hS rfl underlying24 sizeOf5 zeroValue5 ⟨(am (show inR .u8 72 from ay (by decide))),(am (show inR .u8 65 from ay (by decide))),(am (show inR .u8 89 from ay (by decide))),(am (show inR .u8 49 from ay (by decide))),trivial⟩ rfl (by decide)) rfl ?_;rintro q0 a w ⟨r9,a0,hS,m1,u0,_,i5,h1,h6⟩ E;refine st E (FN E hS rfl underlying24 underlying5 i5 h1 h6 (i:=0) rfl) rfl ?_;rintro r4 a _ ⟨rfl,hS⟩ E
 refine qM E rfl λa E=>sp E (fy E rfl underlying3 underlying5 rfl) rfl λa E=>qM E rfl λa E=>sp E (aY (k:=(ai .i64)) E rfl rfl underlying49 (b3.mono (qk Z (qk a6 a0)))) rfl λa E=>sp E (fy E rfl underlying3 underlying5 rfl) rfl λa E=>?_;refine st E (jJ (k:=(ai .u8)) (xs:=[Q4.wrap p0,Q4.wrap (p1.length:Int)]) (vs:=[(.int .u8 (Q4.wrap p0)),(.int .u8 (Q4.wrap (p1.length:Int)))]) E hS rfl underlying24 sizeOf5 zeroValue5 ⟨(am (aI _ _)),(am (aI _ _)),trivial⟩ rfl (by decide)) rfl ?_;rintro r3 a w ⟨r8,a1,hS,g4⟩ E;obtain⟨w2,n4,h⟩:=ob h
 refine st E (i9 (k:=(ai .u8)) (N:=140737488355328) E hS rfl rfl underlying24 underlying24 el5 (i:=1) rfl (m1.mono a1) g4 n4 rfl rfl) rfl ?_;rintro o3 a w ⟨g0,a2,hS,k5⟩ E;refine qA E rfl λa E=>ag (ab (ab (aj (qM E rfl λa E=>sp E (aY (k:=(ai .i64)) E rfl rfl underlying49 (b3.mono (qk Z (qk a6 (qk a0 (qk a1 a2)))))) rfl λa E=>qM E rfl λa E=>ag ?_))));refine cF (λa w=>∃c7:(List Int),iI p0 p2 a3 c7=some r/\∃m',M.le g0 m'/\∃(b0:Value),RV (kSl (ai .u8)) m' b0 c7/\S W0 m' w L ((1,b0)::TL)/\Env 88 a [(0,.int .i64 p0),(2,v2),(3,a4),(11,b0)]) ?_ ?_
 {
 refine aW ?_;refine fw h (λ(s:List Int×Int) a w=>∃m',M.le g0 m'/\∃(b4:Value),RV (kSl (ai .u8)) m' b4 s.1/\inR .i64 s.2/\S W0 m' w L ((1,b4)::TL)/\Env 88 a [(0,.int .i64 p0),(2,v2),(3,a4),(11,b4),(36,v1),(37,.int .i64 (p1.length:Int)),(38,.int .i64 s.2)]) ?_ ?_
 {exact⟨_,(Q0 _),o3,k5,(show inR .i64 0 from ay (by decide)),(hS.pickT 2 [1] rfl rfl rfl),kut E⟩}
 {
 rintro ⟨f3,f6⟩ a w ⟨q7,d0,b4,f5,r0,hS,E⟩ r188 h hb189;have h:iJ p0 p1 p2 a3 f3 f6=some r188:=h;unfold iJ at h;refine ab (aj (qB E rfl rfl cC λa E=>ag (ab (kif E rfl (λc3=>?_) (λc3=>?_)))))
 {
 have h:=aD c3 h;refine aR (ab (aW (ab (aj ?_))));obtain⟨e5,m6,h⟩:=ob h;refine st E (ez (k:=(ai .i64)) E rfl rfl underlying49 sizeOf3 (b3.mono (qk Z (qk a6 (qk a0 (qk a1 (qk a2 d0)))))) m6) rfl ?_;rintro s3 a _ ⟨rfl,h2⟩ E;refine st E (aZ E hS ty3 rfl h2) rfl ?_;rintro q5 a _ ⟨rfl,i1⟩ E;obtain⟨rfl,p8⟩:=aJ i1;refine qA E rfl λa E=>ag (aj (qM E rfl λa E=>qM E rfl λa E=>sp E (fy E rfl underlying3 underlying5 rfl) rfl λa E=>?_))
 refine st E (jJ (k:=(ai .u8)) (xs:=[Q4.wrap e5]) (vs:=[(.int .u8 (Q4.wrap e5))]) E hS rfl underlying24 sizeOf5 zeroValue5 ⟨(am (aI _ _)),trivial⟩ rfl (by decide)) rfl ?_;rintro t1 a w ⟨q4,e9,hS,l3⟩ E;obtain⟨h8,m4,h⟩:=ob h;refine st E (i9 (k:=(ai .u8)) (N:=140737488355328) E hS rfl rfl underlying24 underlying24 el5 (i:=1) rfl (f5.mono e9) l3 m4 rfl rfl) rfl ?_;rintro k0 a w ⟨s2,i0,hS,i4⟩ E;refine qA E rfl λa E=>ag (aj (qB E rfl rfl (cB rfl) λa E=>qM E rfl λa E=>ag ?_))
 exact⟨(h8,Q1.wrap (f6+1)),(Option.some.inj h).symm,_,(qk d0 (qk e9 i0)),k0,i4,(aI _ _),(hS.pickT 2 [1] rfl rfl rfl),kut E⟩}
 {have h:=aF c3 h;refine eG rfl rfl ?_;have h:=cG h hb189;exact⟨f3,h,_,d0,b4,f5,hS,kut E⟩}}}
 {
 rintro a w ⟨c7,h,w0,a9,b0,g6,hS,E⟩;unfold iI at h;refine ab (aj (qM E rfl λa E=>qM E rfl λa E=>sp E (aY (k:=ae) E rfl rfl underlying50 (d2.mono (qk a0 (qk a1 (qk a2 a9))))) rfl λa E=>?_));obtain⟨t4,m3,h⟩:=ob h;refine st E (az (vs:=[b0,(.int .i64 (a3.length:Int))]) E rfl call75 (oG (hS:=hS) g6 (dy (hU (d2.mono (qk a0 (qk a1 (qk a2 a9)))))) m3)) rfl ?_;rintro m9 a w ⟨g1,b6,hS,l4⟩ E;refine qA E rfl λa E=>ag (ab (ab (aj (qM E rfl λa E=>qB E rfl rfl (cB rfl) λa E=>qM E rfl λa E=>ag ?_))))
 refine cF (λa w=>∃c6:(List Int),iH c6=some r/\∃m',M.le g1 m'/\∃(a5:Value),RV (kSl (ai .u8)) m' a5 c6/\S W0 m' w L ((1,a5)::TL)/\Env 88 a [(11,a5)]) ?_ ?_
 {
 refine aW ?_;refine fw h (λ(s:List Int×Int) a w=>∃m',M.le g1 m'/\∃(W:Value),RV (kSl (ai .u8)) m' W s.1/\inR .i64 s.2/\S W0 m' w L ((1,W)::TL)/\Env 88 a [(0,.int .i64 p0),(2,v2),(3,a4),(11,W),(53,.int .i64 (Q1.wrap (p0+3))),(54,.int .i64 s.2)]) ?_ ?_
 {exact⟨_,(Q0 _),m9,l4,(show inR .i64 0 from ay (by decide)),hS,kut E⟩}
 {
 rintro ⟨b7,J⟩ a w ⟨k6,b1,W,f0,i3,hS,E⟩ r107 h hb108;have h:gy p0 p2 a3 b7 J=some r107:=h;unfold gy at h;refine ab (aj (qB E rfl rfl cC λa E=>ag (ab (kif E rfl (λc0=>?_) (λc0=>?_)))))
 {
 have h:=aD c0 h;refine aR (ab (aW (ab (aj (qM E rfl λa E=>qA E rfl λa E=>ag (ab (aj ?_)))))));refine qA E rfl λa E=>ag (ab (ab ?_));refine cF (λa w=>∃c2:Bool,eW p0 p2 a3 b7 J c2=some r107/\∃m',M.le k6 m'/\S W0 m' w L ((1,W)::TL)/\Env 88 a [(0,.int .i64 p0),(2,v2),(3,a4),(11,W),(14,.int .i64 J),(15,.int .i64 (-1)),(53,.int .i64 (Q1.wrap (p0+3))),(54,.int .i64 J),(65,.bool c2)]) ?_ ?_
 {
 refine aj (qM E rfl λa E=>qM E rfl λa E=>qB E rfl rfl cC λa E=>qM E rfl λa E=>?_);rcases kz (decide (J<p0)) with hd174|hd174
 {have h:=aD hd174 h;refine qG E hd174 rfl λa E=>qG E hd174 rfl λa E=>spg E rfl rfl rfl rfl hd174 (aY (k:=(ai .i64)) E rfl rfl underlying49 (e3.mono (qk Z (qk a6 (qk a0 (qk a1 (qk a2 (qk a9 (qk b6 b1))))))))) rfl λa E=>spg E rfl rfl rfl rfl hd174 (bh E rfl rfl cC) rfl λa E=>qT E hd174 rfl λa E=>ag ?_;exact⟨(decide (J<(p2.length:Int))),h,_,(Q0 _),hS,kut E⟩}
 {have h:=aF hd174 h;refine qX E hd174 λa E=>qX E hd174 λa E=>qX E hd174 λa E=>qX E hd174 λa E=>qF E hd174 rfl λa E=>ag ?_;exact⟨false,h,_,(Q0 _),hS,kut E⟩}}
 {
 rintro a w ⟨c2,h,h4,b5,hS,E⟩;unfold eW at h;refine cF (λa w=>∃b2:Int,gw p0 a3 b7 J b2=some r107/\∃m',M.le h4 m'/\inR .i64 b2/\S W0 m' w L ((1,W)::TL)/\Env 88 a [(0,.int .i64 p0),(2,v2),(3,a4),(11,W),(14,.int .i64 J),(15,.int .i64 b2),(53,.int .i64 (Q1.wrap (p0+3))),(54,.int .i64 J)]) ?_ ?_
 {
 refine kif E rfl (λc4=>?_) (λc4=>?_)
 {have h:=aD c4 h;refine aj (qM E rfl λa E=>qM E rfl λa E=>?_);obtain⟨k7,h3,h⟩:=ob h;refine st E (ez (k:=(ai .i64)) E rfl rfl underlying49 sizeOf3 (e3.mono (qk Z (qk a6 (qk a0 (qk a1 (qk a2 (qk a9 (qk b6 (qk b1 b5))))))))) h3) rfl ?_;rintro w3 a _ ⟨rfl,n6⟩ E;refine st E (aZ E hS ty3 rfl n6) rfl ?_;rintro q6 a _ ⟨rfl,n1⟩ E;obtain⟨rfl,o0⟩:=aJ n1;refine qA E rfl λa E=>ag ?_;exact⟨k7,h,_,(Q0 _),o0,hS,kut E⟩}
 {have h:=aF c4 h;refine aR ?_;exact⟨(-1),h,_,(Q0 _),(show inR .i64 (-1) from ay (by decide)),hS,kut E⟩}}
 {
 rintro a w ⟨b2,h,r1,c1,g5,hS,E⟩;unfold gw at h;refine ab (aj (qM E rfl λa E=>qM E rfl λa E=>qM E rfl λa E=>qM E rfl λa E=>?_));obtain⟨t9,h5,h⟩:=ob h;refine st E (az (vs:=[(.int .i64 p0),(.int .i64 J),a4]) E rfl call77 (vI (hS:=hS) e1 i3 (d2.mono (qk a0 (qk a1 (qk a2 (qk a9 (qk b6 (qk b1 (qk b5 c1)))))))) h5)) rfl ?_;rintro k3 a w ⟨q2,e7,hS,g2⟩ E;obtain⟨m2,k4,h⟩:=ob h;refine st E (az (vs:=[(.int .i64 b2),k3]) E rfl call76 (vJ (hS:=hS) g5 g2 k4)) rfl ?_;rintro t3 a w ⟨u1,e8,hS,c5⟩ E
 refine qA E rfl λa E=>ag (aj (qM E rfl λa E=>qM E rfl λa E=>sp E (aY (k:=(ai .u8)) E rfl rfl underlying24 c5) rfl λa E=>?_));obtain⟨s1,n3,h⟩:=ob h;refine st E (az (vs:=[W,(.int .i64 (m2.length:Int))]) E rfl call75 (oG (hS:=(hS.pickT 3 [2,0,1] rfl rfl rfl)) (f0.mono (qk b5 (qk c1 (qk e7 e8)))) (dy (hU c5)) n3)) rfl ?_;rintro r2 a w ⟨p7,e4,hS,o1⟩ E;refine qM E rfl λa E=>?_;obtain⟨j4,g3,h⟩:=ob h
 refine st E (i9 (k:=(ai .u8)) (N:=140737488355328) E hS rfl rfl underlying24 underlying24 el5 (i:=0) rfl o1 (c5.mono e4) g3 rfl rfl) rfl ?_;rintro h0 a w ⟨w1,j2,hS,j1⟩ E;refine qA E rfl λa E=>ag (aj (qB E rfl rfl (cB rfl) λa E=>qM E rfl λa E=>ag ?_));exact⟨(j4,Q1.wrap (J+1)),(Option.some.inj h).symm,_,(qk b1 (qk b5 (qk c1 (qk e7 (qk e8 (qk e4 j2)))))),h0,j1,(aI _ _),(hS.pickT 3 [0] rfl rfl rfl),kut E⟩}}}
 {have h:=aF c0 h;refine eG rfl rfl ?_;have h:=cG h hb108;exact⟨b7,h,_,b1,W,f0,hS,kut E⟩}}}
 {
 rintro a w ⟨c6,h,r5,n0,a5,e6,hS,E⟩;unfold iH at h;refine ab (aj (qM E rfl λa E=>qM E rfl λa E=>?_));obtain⟨o2,h9,h⟩:=ob h;refine st E (az (vs:=[a5]) E rfl call78 (uX (hS:=hS) e6 h9)) rfl ?_;rintro u2 a w ⟨t0,e0,hS,p4⟩ E;obtain⟨rfl,r7⟩:=aJ p4;refine sp E (fy E rfl underlying55 underlying3 rfl) rfl λa E=>?_;obtain⟨p6,h7,h⟩:=ob h;refine st E (az (vs:=[a5,(.int .i64 (Q1.wrap o2))]) E rfl call75 (oG (hS:=hS) (e6.mono e0) (aI _ _) h7)) rfl ?_;rintro p5 a w ⟨t5,m7,hS,l1⟩ E;refine qA E rfl λa E=>qA E rfl λa E=>ag (bd ?_);obtain rfl:=oi h
 try dsimp only
 refine f2 E ?_;exact⟨_,(qk Z (qk a6 (qk a0 (qk a1 (qk a2 (qk a9 (qk b6 (qk n0 (qk e0 m7))))))))),(hS.dropT 1),_,_,rfl,l1,(am (show inR .i64 0 from ay (by decide)))⟩}}}
theorem NY:Ctr Sz prog 31 [.rd (.int .i64),.rd (.sl (.int .i64)),.rd (.sl (.int .i64)),.rd (.sl (.st 59))] [.rd (.sl (.int .u8)),.rd (.int .i64)] (λx=>dG x.1 x.2.1 x.2.2.1 x.2.2.2.1):=by
 intro W0 m w L TL vs x r Lp Tp hS hP h;obtain⟨v0,vs,rfl,a0,a9⟩:=iM hP;obtain⟨rfl,W⟩:=aJ a0;obtain⟨v1,vs,rfl,a1,a6⟩:=iM a9;obtain⟨v2,vs,rfl,a2,a4⟩:=iM a6;obtain⟨v3,vs,rfl,Z,a5⟩:=iM a4;obtain⟨rfl,rfl,rfl⟩:=mp a5;refine rm (nZ (hS:=hS) W a1 a2 Z h) λv w' he=>?_;obtain⟨m',J,Z',u0,u1,rfl,r0,r1⟩:=he;exact⟨m',[u0,u1],[],[],[],J,Z',rfl,⟨r0,⟨r1,trivial⟩⟩,trivial⟩
def NZ:=mC NY call31
theorem N0:Ctr Sz prog 82 [.rd (.sl (.int .u8))] [.rd (.int .i64)] (λx=>dN x.1):=
 ncR [] [2] func82 ntmps82 .o λx=>by kernel_rfl
theorem kB (hS:S W0 m w L TL) {p0}(a1:RV (kSl (ai .u8)) m v0 p0) {r}(h:dN p0=some r):
    Calls prog 82 #[v0] w (Ret λv w'=>∃m',M.le m m'/\S W0 m' w' L TL/\RV (ai .i64) m' v r):=by
 refine rm (N0 W0 m w L TL [v0] (p0,()) r [] [] hS ⟨a1,trivial⟩ h) λv w' he=>?_;obtain⟨m',us,Lr,Lq,Tr,J,Z',rfl,W,hO⟩:=he;obtain⟨u0,us,rfl,r0,a0⟩:=cE W;obtain⟨rfl,rfl,rfl⟩:=bL a0;have Z:=bj hO;obtain rfl:=bM Z;exact⟨m',J,Z',r0⟩
end
open Go.Proofs Tryz
noncomputable section
variable {W0:Bse}{m:M}{w:World}{L:List (Nat×List Value)}{TL:List (Nat×Value)}{v0 v1 v2 v3 v4 v5 v6 v7 v8 v9:Value}
theorem tq  {Z:Nat}(hS:S W0 m w ((Z,ra)::L) (TL)) {p1}(b6:RV (kSl (ai .u8)) m v1 p1) {r}(h:ic p1=some r):
    Calls prog 83 #[(pz Z),v1] w (Ret λv w'=>∃m',M.le m m'/\∃q0_:List Value,S W0 m' w' ((Z,q0_)::L) (TL)/\aL.R m' q0_ r.2.2.2/\∃v0_ v1_ v2_:Value,v= .tuple #[v0_,v1_,v2_]/\RV (ai .i64) m' v0_ r.1/\RV (kSl (ai .u8)) m' v1_ r.2.1/\RV cm m' v2_ r.2.2.1):=by
 refine kc func83 ntmps83 λa E=>?_;have E:Env 83 a [(0,pz Z),(1,v1)]:=E;unfold ic at h;refine ab (aj (qA E rfl λa E=>qA E rfl λa E=>qA E rfl λa E=>ag (ab (ab ?_))));refine cF (λa w=>∃x6:Bool,eo p1 x6=some r/\∃m',M.le m m'/\S W0 m' w ((Z,ra)::L) (TL)/\Env 83 a [(0,pz Z),(1,v1),(21,.bool x6)]) ?_ ?_
 {
 refine aj (qM E rfl λa E=>sp E (aY (k:=(ai .u8)) E rfl rfl underlying24 b6) rfl λa E=>qB E rfl rfl cC λa E=>qM E rfl λa E=>?_);rcases kz (decide ((p1.length:Int)<6)) with hd355|hd355
 {have h:=aD hd355 h;refine qX E hd355 λa E=>qX E hd355 λa E=>qX E hd355 λa E=>qX E hd355 λa E=>qX E hd355 λa E=>qX E hd355 λa E=>qT E hd355 rfl λa E=>ag ?_;exact⟨true,h,_,(Q0 _),hS,kut E⟩}
 {
 have h:=aF hd355 h;refine qG E hd355 rfl λa E=>?_;obtain⟨t0,m1,h⟩:=ob h;refine stg E rfl rfl rfl rfl hd355 (dA (k:=(ai .u8)) E rfl underlying24 sizeOf5 b6 rfl ⟨_,rfl⟩ m1 (xl:=none) (xh:=(some (.const (.int .i64 4))))) rfl ?_;rintro x9 a _ ⟨rfl,l4⟩ E;obtain⟨q3,h8,h⟩:=ob h;refine stg E rfl rfl rfl rfl hd355 (HH E rfl underlying178 l4 h8) rfl ?_;rintro y3 a _ ⟨rfl,q1⟩ E;refine stg E rfl rfl rfl rfl hd355 (aZ E hS Ni rfl q1) rfl ?_;rintro x1 a _ ⟨rfl,h5⟩ E
 refine stg E rfl rfl rfl rfl hd355 (DM (m:=m) E rfl underlying178 sizeOf5 zeroValue178 (show inR .u8 72 from ay (by decide)) (show inR .u8 65 from ay (by decide)) (show inR .u8 89 from ay (by decide)) (show inR .u8 49 from ay (by decide))) rfl ?_;rintro y2 a _ ⟨rfl,p8⟩ E;refine spg E rfl rfl rfl rfl hd355 (tD E Nj rfl rfl h5 p8 rfl) rfl λa E=>qF E hd355 rfl λa E=>ag ?_;exact⟨(!decide (q3=(72,65,89,49))),h,_,(Q0 _),hS,kut E⟩}}
 {
 rintro a w ⟨x6,h,m4,b3,hS,E⟩;unfold eo at h;refine kif E rfl (λe3=>?_) (λe3=>?_)
 {
 have h:=aD e3 h;refine ab (aj (qA E rfl λa E=>qA E rfl λa E=>qA E rfl λa E=>ag (bd ?_)));obtain rfl:=oi h
 try dsimp only
 refine Fin.mk E (rs:=[.tmp 4,.tmp 5,.tmp 6]) rfl (pQ.tmp E rfl (pQ.tmp E rfl (pQ.tmp E rfl pQ.nil))) ?_;exact⟨_,b3,ra,hS,(y9 _),_,_,_,rfl,(am (show inR .i64 0 from ay (by decide))),cN,cM⟩}
 {
 have h:=aF e3 h;refine aR (ab (aj (qM E rfl λa E=>qM E rfl λa E=>?_)));obtain⟨y0,r7,h⟩:=ob h;refine st E (ez (k:=(ai .u8)) E rfl rfl underlying24 sizeOf5 (b6.mono b3) r7) rfl ?_;rintro w2 a _ ⟨rfl,r1⟩ E;refine st E (aZ E hS ty5 rfl r1) rfl ?_;rintro u2 a _ ⟨rfl,n0⟩ E;obtain⟨rfl,w3⟩:=aJ n0;refine sp E (fy E rfl underlying5 underlying3 rfl) rfl λa E=>sp E (bS E rfl) rfl λa E=>sp E (aB E nC rfl) rfl λa E=>?_;refine st0 E (DN E hS ty3 Cd rfl rfl (am (aI _ _)) (i:=0) rfl (y9 _)) ?_;rintro _ w ⟨g5,h1,n4,hS⟩ E;have r9:=n4 1 _ rfl (by decide)
 refine ag (ab (aj (qM E rfl λa E=>?_)));obtain⟨a1,h4,h⟩:=ob h;refine st E (ez (k:=(ai .u8)) E rfl rfl underlying24 sizeOf5 (b6.mono b3) h4) rfl ?_;rintro z0 a _ ⟨rfl,l2⟩ E;refine st E (aZ E hS ty5 rfl l2) rfl ?_;rintro x4 a _ ⟨rfl,k3⟩ E;obtain⟨rfl,u1⟩:=aJ k3;refine sp E (fy E rfl underlying5 underlying3 rfl) rfl λa E=>qA E rfl λa E=>ag (ab (aj (qM E rfl λa E=>?_)));obtain⟨g1,j2,h⟩:=ob h;refine st E (dA (k:=(ai .u8)) E rfl underlying24 sizeOf5 (b6.mono b3) ⟨_,rfl⟩ rfl j2 (xl:=(some (.const (.int .i64 6)))) (xh:=none)) rfl ?_
 rintro a3 a _ ⟨rfl,b7⟩ E;refine qA E rfl λa E=>ag (ab (ab (aj (qM E rfl λa E=>sp E (aY (k:=(ai .u8)) E rfl rfl underlying24 b7) rfl λa E=>qM E rfl λa E=>qB E rfl rfl (cB rfl) λa E=>qB E rfl rfl cC λa E=>?_))));refine ag (kif E rfl (λc4=>?_) (λc4=>?_))
 {
 have h:=aD c4 h;refine ab (aj (qA E rfl λa E=>qA E rfl λa E=>qA E rfl λa E=>ag (bd ?_)));obtain rfl:=oi h
 try dsimp only
 refine Fin.mk E (rs:=[.tmp 4,.tmp 5,.tmp 6]) rfl (pQ.tmp E rfl (pQ.tmp E rfl (pQ.tmp E rfl pQ.nil))) ?_;exact⟨_,b3,g5,hS,h1,_,_,_,rfl,(am (show inR .i64 0 from ay (by decide))),cN,cM⟩}
 {
 have h:=aF c4 h;refine aR (ab (ab (aj (qM E rfl λa E=>qM E rfl λa E=>?_))));obtain⟨g3,r6,h⟩:=ob h;refine st E (dA (k:=(ai .u8)) E rfl underlying24 sizeOf5 b7 rfl ⟨_,rfl⟩ r6 (xl:=none) (xh:=(some (.tmp 41)))) rfl ?_;rintro o0 a _ ⟨rfl,h0⟩ E;refine sp E (aY (k:=(ai .u8)) E rfl rfl underlying24 h0) rfl λa E=>qM E rfl λa E=>ag ?_;refine cF (λa w=>∃a4:aw,il a1 g1 a4=some r/\∃m',M.le m4 m'/\∃(a6:List Value),∃(a2:Value),aL.R m' a6 a4/\a6[1]? =some a2/\S W0 m' w ((Z,a6)::L) ((1,a2)::TL)/\Env 83 a [(0,pz Z),(1,a3),(7,.int .i64 (Q1.wrap a1))]) ?_ ?_
 {
 refine aW ?_;refine fw h (λ(s:Int×aw) a w=>∃m',M.le m4 m'/\∃(b4:List Value),∃(b5:Value),inR .i64 s.1/\aL.R m' b4 s.2/\b4[1]? =some b5/\S W0 m' w ((Z,b4)::L) ((1,b5)::TL)/\Env 83 a [(0,pz Z),(1,a3),(7,.int .i64 (Q1.wrap a1)),(42,o0),(43,.int .i64 (g3.length:Int)),(44,.int .i64 s.1)]) ?_ ?_
 {exact⟨_,(Q0 _),g5,(.slice none 0 0),(show inR .i64 0 from ay (by decide)),h1,r9,(hS.tail0 1),kut E⟩}
 {
 rintro ⟨g0,x308⟩ a w ⟨x8,c5,b4,b5,y4,c3,e7,hS,E⟩ r313 h hb314;have h:fO a1 g1 g3 g0 x308=some r313:=h;unfold fO at h;refine ab (aj (qB E rfl rfl cC λa E=>ag (ab (kif E rfl (λd0=>?_) (λd0=>?_)))))
 {
 have h:=aD d0 h;refine aR (ab (aW (ab (aj ?_))));obtain⟨h2,m3,h⟩:=ob h;refine st E (ez (k:=(ai .u8)) E rfl rfl underlying24 sizeOf5 (h0.mono c5) m3) rfl ?_;rintro w4 a _ ⟨rfl,m7⟩ E;refine st E (aZ E hS ty5 rfl m7) rfl ?_;rintro s2 a _ ⟨rfl,m6⟩ E;obtain⟨rfl,w1⟩:=aJ m6
 refine qA E rfl λa E=>ag (aj (qM E rfl λa E=>qM E rfl λa E=>sp E (bS E rfl) rfl λa E=>sp E (aB E l6 rfl) rfl λa E=>sp E (sy (k:=(ai .i64)) (xx:=x308.fSort) (v:=b5) E hS lu rfl (i:=0) rfl (sa.R_drop (aC c3)) e7) rfl λa E=>qM E rfl λa E=>sp E (fy E rfl underlying5 underlying3 rfl) rfl λa E=>?_));refine st E (jJ (k:=(ai .i64)) (xs:=[Q1.wrap h2]) (vs:=[(.int .i64 (Q1.wrap h2))]) E hS rfl underlying49 sizeOf3 zeroValue3 ⟨(am (aI _ _)),trivial⟩ rfl (by decide)) rfl ?_;rintro t4 a w ⟨x7,e8,hS,p6⟩ E;obtain⟨q4,h6,h⟩:=ob h
 refine st E (i9 (k:=(ai .i64)) (N:=17592186044416) E hS rfl rfl underlying49 underlying49 el3 (i:=1) rfl ((yV (k:=(ai .i64)) (sa.R_drop (aC c3)) e7).mono e8) p6 h6 rfl rfl) rfl ?_;rintro k7 a w ⟨w0,f6,hS,p7⟩ E;refine sp E (bS E rfl) rfl λa E=>sp E (aB E l6 rfl) rfl λa E=>?_;refine st0 E (Cq E hS lu Ce rfl rfl p7 (i:=0) rfl (aL.mono (qk e8 f6) c3)) ?_;rintro _ w ⟨i1,k5,n2,hS⟩ E;refine ag (aj (qB E rfl rfl (cB rfl) λa E=>qM E rfl λa E=>ag ?_))
 exact⟨(Q1.wrap (g0+1),{ x308 with fSort:=q4 }),(Option.some.inj h).symm,_,(qk c5 (qk e8 f6)),i1,k7,(aI _ _),k5,n2,(hS.pickT 2 [1] rfl rfl rfl),kut E⟩}
 {have h:=aF d0 h;refine eG rfl rfl ?_;have h:=cG h hb314;exact⟨x308,h,_,c5,b4,b5,c3,e7,hS,kut E⟩}}}
 {
 rintro a w ⟨a4,h,t5,c1,a6,a2,b1,c2,hS,E⟩;unfold il at h;refine ab (aj (qM E rfl λa E=>qM E rfl λa E=>?_));obtain⟨x3,r4,h⟩:=ob h;refine st E (dA (k:=(ai .u8)) E rfl underlying24 sizeOf5 (b7.mono c1) ⟨_,rfl⟩ rfl r4 (xl:=(some (.tmp 61))) (xh:=none)) rfl ?_;rintro e9 a _ ⟨rfl,j1⟩ E;obtain⟨a0,p5,h⟩:=ob h;refine st E (az (vs:=[e9]) E rfl call82 (kB (hS:=hS) j1 p5)) rfl ?_;rintro t9 a w ⟨f0,a5,hS,o1⟩ E;obtain⟨rfl,e5⟩:=aJ o1;refine qA E rfl λa E=>ag (ab ?_)
 refine cF (λa w=>∃c0:Int,∃e1:(List Int),∃c7:Bool,fN a4 c0 e1 c7=some r/\∃m',M.le f0 m'/\∃(f3:Value),inR .i64 c0/\RV (kSl (ai .u8)) m' f3 e1/\S W0 m' w ((Z,a6)::L) ((1,a2)::TL)/\Env 83 a [(4,.int .i64 c0),(5,f3),(6,.bool c7)]) ?_ ?_
 {
 obtain⟨b2,g2,b0,g6,h⟩:=ob2 h;rcases kz (b0==0) with hd105|hd105
 {
 have h:=aD hd105 h
 refine kch (k:=21) (m:=f0) (es:=[]) (Φ:=(λi m ws v=>match i with|0=>ei .i64 a0 v|1=>v=a3|2=>ei .i64 (Q1.wrap a1) v|3=>ei .i64 (Q1.wrap ((Q1.wrap a1)+4)) v|4=>RV (kSl (ai .u8)) m v b2|5=>v=(pz Z)|6=>v=(pz Z)|7=>v=(pz Z)|8=>ei .i64 a4.fColumns v|9=>v=(pz Z)|10=>v=(pz Z)|11=>v=(.pointer (some ⟨Z,1,none⟩))|12=>v=a2|13=>ei .i64 b0 v|14=>v=(.bool (b0==0))|15=>v=(.bool (b0==0))|16=>ei .i64 a0 v|17=>v=(.bool (decide (a0<=4096)))|18=>v=(.bool (decide (a0<=4096)))|19=>ei .i64 a0 v|20=>RV (kSl (ai .u8)) m v b2|_=>True)) (Q:=(λc m ws L' e6=>match c with|0=>(Z,a6)::L=L'/\(1,a2)::TL=e6|_=>False)) (cs:=[zR [(10,.int .i64 a0)],zR [(1,a3)],zR [(7,.int .i64 (Q1.wrap a1))],zR [],zR [],zR [(0,pz Z)],zR [],zR [],zR [],zR [(0,pz Z)],zR [],zR [],zR [],zR [],zR [],zR [],zR [(10,.int .i64 a0)],zR [],zR [],zR [],zR []]) mixed E hS ⟨rfl,rfl⟩ rfl rfl (by kernel_rfl) ?_ ?_ ?_ ?_
 {
 intro i m_ d2 ws v n_ q_
 iterate 21 (rcases i with _|i;first|exact q_|exact RV.mono q_ n_)
 exact trivial}
 {
 intro c m_ d2 ws L_ T_ n_ a9
 match c,a9 with
 |0,⟨e0,e4⟩=>exact⟨e0,e4⟩
 |_+1,a9=>exact a9.elim}
 {
 refine⟨?_,?_,?_,?_,?_,?_,?_,?_,?_,?_,?_,?_,?_,?_,?_,?_,?_,?_,?_,?_,?_,trivial⟩
 {exact cmv λ_ _=>⟨rfl,e5⟩}
 {exact cmv λ_ _=>rfl}
 {exact cmv λ_ _=>⟨rfl,(aI _ _)⟩}
 {refine cp0 λ_ _ _ _ _ _ _ _ _ J W T'=>?_;have E:=W.add (T' 2).1;exact cq (bh E rfl rfl (cB rfl)) J ⟨rfl,(aI _ _)⟩}
 {refine cp0 λ_ _ _ _ _ _ _ M' _ J W T'=>?_;have E:=(W.add (T' 1)).add (T' 3).1;exact cr (dA (k:=(ai .u8)) E rfl underlying24 sizeOf5 (b7.mono (qk c1 (qk a5 M'))) ⟨_,rfl⟩ rfl g2 (xl:=(some (.tmp 67))) (xh:=none)) J λ_ h=>h}
 {exact cmv λ_ _=>rfl}
 {refine cp0 λ_ _ _ _ _ _ _ _ _ J W T'=>?_;have E:=W.add (T' 5);exact cq (bS E rfl) J rfl}
 {refine cp0 λ_ _ _ _ _ _ _ _ _ J W T'=>?_;have E:=W.add (T' 6);exact cq (aB E nC rfl) J rfl}
 {refine cp1 λ_ _ _ _ _ M' Q' J W T'=>?_;obtain⟨rfl,rfl⟩:=Q';have E:=W.add (T' 7);exact cr (aA E J ty3 rfl (i:=0) rfl (Cc.R_drop (aC (aL.mono (qk a5 M') b1)))) J λ_ h=>aJ h}
 {exact cmv λ_ _=>rfl}
 {refine cp0 λ_ _ _ _ _ _ _ _ _ J W T'=>?_;have E:=W.add (T' 9);exact cq (bS E rfl) J rfl}
 {refine cp0 λ_ _ _ _ _ _ _ _ _ J W T'=>?_;have E:=W.add (T' 10);exact cq (aB E l6 rfl) J rfl}
 {refine cp1 λ_ _ _ _ _ M' Q' J W T'=>?_;obtain⟨rfl,rfl⟩:=Q';have E:=W.add (T' 11);exact cq (sy (k:=(ai .i64)) (xx:=a4.fSort) (v:=a2) E J lu rfl (i:=0) rfl (sa.R_drop (aC (aL.mono (qk a5 M') b1))) c2) J rfl}
 {refine cp0 λ_ _ _ _ _ _ _ M' _ J W T'=>?_;obtain⟨n3,q6⟩:=T' 8;have E:=(W.add n3).add (T' 12);refine aQ.imp (az (vs:=[(.int .i64 a4.fColumns),a2,(.slice none 0 0)]) E rfl call74 (jI (hS:=J) q6 ((yV (k:=(ai .i64)) (sa.R_drop (aC (aL.mono a5 b1))) c2).mono M') cN g6)) ?_;rintro t1 w ⟨m5,d1,hS,f4⟩;obtain⟨rfl,i0⟩:=aJ f4;exact⟨_,d1,hS,⟨rfl,i0⟩⟩}
 {refine cp0 λ_ _ _ _ _ _ _ _ _ J W T'=>?_;have E:=W.add (T' 13).1;exact cq (bh E rfl rfl ij) J rfl}
 {refine cp0 λ_ _ _ _ _ _ _ _ _ J W T'=>?_;have E:=W.add (T' 14);exact cq (i8 E rfl) J rfl}
 {exact cgm (gz hd105) (λ_ _=>⟨rfl,e5⟩)}
 {refine cg0 (gz hd105) λ_ _ _ _ _ _ _ _ _ J W T'=>?_;have E:=W.add (T' 16).1;exact cq (bh E rfl rfl G9) J rfl}
 {refine cp0 λ_ _ _ _ _ _ _ _ _ J W T'=>?_;have E:=(W.add (T' 15)).add (T' 17);exact cq (rz E rfl hd105 rfl) J rfl}
 {refine cp0 λ_ _ _ _ _ _ _ _ _ J W T'=>?_;obtain⟨o2,l1⟩:=T' 0;have E:=W.add o2;exact cq (lc E rfl) J ⟨rfl,l1⟩}
 {refine cp0 λ_ _ _ m' a' _ _ _ _ J W T'=>?_;obtain⟨y1,E,m8⟩:=adv W (T' 4);exact cq (lc E rfl) J m8}}
 {intro q7 L_ T_ x5 a w p4 i3 q0 hS i4 q2 r8 c6;obtain rfl:=gN p4;obtain⟨rfl,rfl⟩:=q0;have E:=eof 21 [(0,pz Z),(1,a3),(7,.int .i64 (Q1.wrap a1)),(10,.int .i64 a0),(60,a3),(61,.int .i64 (Q1.wrap a1)),(62,e9),(63,.int .i64 a0)] i4 q2 r8;have E:=E.add (c6 18);obtain⟨r2,i2⟩:=c6 19;have E:=E.add r2;obtain⟨p3,E,n1⟩:=adv E (c6 20);refine qA E rfl λa E=>ag ?_;exact⟨a0,b2,(decide (a0<=4096)),h,_,i3,p3,i2,n1,hS,kut E⟩}}
 {
 have h:=aF hd105 h
 refine kch (k:=21) (m:=f0) (es:=[]) (Φ:=(λi m ws v=>match i with|0=>ei .i64 a0 v|1=>v=a3|2=>ei .i64 (Q1.wrap a1) v|3=>ei .i64 (Q1.wrap ((Q1.wrap a1)+4)) v|4=>RV (kSl (ai .u8)) m v b2|5=>v=(pz Z)|6=>v=(pz Z)|7=>v=(pz Z)|8=>ei .i64 a4.fColumns v|9=>v=(pz Z)|10=>v=(pz Z)|11=>v=(.pointer (some ⟨Z,1,none⟩))|12=>v=a2|13=>ei .i64 b0 v|14=>v=(.bool (b0==0))|15=>v=(.bool (b0==0))|16=>v=undef|17=>v=undef|18=>v=(.bool false)|19=>ei .i64 a0 v|20=>RV (kSl (ai .u8)) m v b2|_=>True)) (Q:=(λc m ws L' e6=>match c with|0=>(Z,a6)::L=L'/\(1,a2)::TL=e6|_=>False)) (cs:=[zR [(10,.int .i64 a0)],zR [(1,a3)],zR [(7,.int .i64 (Q1.wrap a1))],zR [],zR [],zR [(0,pz Z)],zR [],zR [],zR [],zR [(0,pz Z)],zR [],zR [],zR [],zR [],zR [],zR [],zR [(10,.int .i64 a0)],zR [],zR [],zR [],zR []]) mixed E hS ⟨rfl,rfl⟩ rfl rfl (by kernel_rfl) ?_ ?_ ?_ ?_
 {
 intro i m_ d2 ws v n_ q_
 iterate 21 (rcases i with _|i;first|exact q_|exact RV.mono q_ n_)
 exact trivial}
 {
 intro c m_ d2 ws L_ T_ n_ a9
 match c,a9 with
 |0,⟨e0,e4⟩=>exact⟨e0,e4⟩
 |_+1,a9=>exact a9.elim}
 {
 refine⟨?_,?_,?_,?_,?_,?_,?_,?_,?_,?_,?_,?_,?_,?_,?_,?_,?_,?_,?_,?_,?_,trivial⟩
 {exact cmv λ_ _=>⟨rfl,e5⟩}
 {exact cmv λ_ _=>rfl}
 {exact cmv λ_ _=>⟨rfl,(aI _ _)⟩}
 {refine cp0 λ_ _ _ _ _ _ _ _ _ J W T'=>?_;have E:=W.add (T' 2).1;exact cq (bh E rfl rfl (cB rfl)) J ⟨rfl,(aI _ _)⟩}
 {refine cp0 λ_ _ _ _ _ _ _ M' _ J W T'=>?_;have E:=(W.add (T' 1)).add (T' 3).1;exact cr (dA (k:=(ai .u8)) E rfl underlying24 sizeOf5 (b7.mono (qk c1 (qk a5 M'))) ⟨_,rfl⟩ rfl g2 (xl:=(some (.tmp 67))) (xh:=none)) J λ_ h=>h}
 {exact cmv λ_ _=>rfl}
 {refine cp0 λ_ _ _ _ _ _ _ _ _ J W T'=>?_;have E:=W.add (T' 5);exact cq (bS E rfl) J rfl}
 {refine cp0 λ_ _ _ _ _ _ _ _ _ J W T'=>?_;have E:=W.add (T' 6);exact cq (aB E nC rfl) J rfl}
 {refine cp1 λ_ _ _ _ _ M' Q' J W T'=>?_;obtain⟨rfl,rfl⟩:=Q';have E:=W.add (T' 7);exact cr (aA E J ty3 rfl (i:=0) rfl (Cc.R_drop (aC (aL.mono (qk a5 M') b1)))) J λ_ h=>aJ h}
 {exact cmv λ_ _=>rfl}
 {refine cp0 λ_ _ _ _ _ _ _ _ _ J W T'=>?_;have E:=W.add (T' 9);exact cq (bS E rfl) J rfl}
 {refine cp0 λ_ _ _ _ _ _ _ _ _ J W T'=>?_;have E:=W.add (T' 10);exact cq (aB E l6 rfl) J rfl}
 {refine cp1 λ_ _ _ _ _ M' Q' J W T'=>?_;obtain⟨rfl,rfl⟩:=Q';have E:=W.add (T' 11);exact cq (sy (k:=(ai .i64)) (xx:=a4.fSort) (v:=a2) E J lu rfl (i:=0) rfl (sa.R_drop (aC (aL.mono (qk a5 M') b1))) c2) J rfl}
 {refine cp0 λ_ _ _ _ _ _ _ M' _ J W T'=>?_;obtain⟨r5,k6⟩:=T' 8;have E:=(W.add r5).add (T' 12);refine aQ.imp (az (vs:=[(.int .i64 a4.fColumns),a2,(.slice none 0 0)]) E rfl call74 (jI (hS:=J) k6 ((yV (k:=(ai .i64)) (sa.R_drop (aC (aL.mono a5 b1))) c2).mono M') cN g6)) ?_;rintro x2 w ⟨m5,d1,hS,f4⟩;obtain⟨rfl,r0⟩:=aJ f4;exact⟨_,d1,hS,⟨rfl,r0⟩⟩}
 {refine cp0 λ_ _ _ _ _ _ _ _ _ J W T'=>?_;have E:=W.add (T' 13).1;exact cq (bh E rfl rfl ij) J rfl}
 {refine cp0 λ_ _ _ _ _ _ _ _ _ J W T'=>?_;have E:=W.add (T' 14);exact cq (i8 E rfl) J rfl}
 {exact csk (gz hd105)}
 {exact csk (gz hd105)}
 {refine cp0 λ_ _ _ _ _ _ _ _ _ J W T'=>?_;have E:=(W.add (T' 15)).add (T' 17);exact cq (rA E rfl hd105 rfl) J rfl}
 {refine cp0 λ_ _ _ _ _ _ _ _ _ J W T'=>?_;obtain⟨m2,h9⟩:=T' 0;have E:=W.add m2;exact cq (lc E rfl) J ⟨rfl,h9⟩}
 {refine cp0 λ_ _ _ m' a' _ _ _ _ J W T'=>?_;obtain⟨u0,E,h7⟩:=adv W (T' 4);exact cq (lc E rfl) J h7}}
 {intro q7 L_ T_ s3 a w i5 q5 n6 hS o3 j4 h3 f5;obtain rfl:=gN i5;obtain⟨rfl,rfl⟩:=n6;have E:=eof 21 [(0,pz Z),(1,a3),(7,.int .i64 (Q1.wrap a1)),(10,.int .i64 a0),(60,a3),(61,.int .i64 (Q1.wrap a1)),(62,e9),(63,.int .i64 a0)] o3 j4 h3;have E:=E.add (f5 18);obtain⟨k4,l3⟩:=f5 19;have E:=E.add k4;obtain⟨r3,E,s1⟩:=adv E (f5 20);refine qA E rfl λa E=>ag ?_;exact⟨a0,b2,false,h,_,q5,r3,l3,s1,hS,kut E⟩}}}
 {
 rintro a w ⟨c0,e1,c7,h,t3,g4,f3,m9,k0,hS,E⟩;unfold fN at h;refine bd ?_;obtain rfl:=oi h
 try dsimp only
 refine Fin.mk E (rs:=[.tmp 4,.tmp 5,.tmp 6]) rfl (pQ.tmp E rfl (pQ.tmp E rfl (pQ.tmp E rfl pQ.nil))) ?_;exact⟨_,(qk b3 (qk c1 (qk a5 g4))),a6,(hS.dropT 1),(aL.mono (qk a5 g4) b1),_,_,_,rfl,(am m9),k0,cM⟩}}}}}
theorem Mb:Ctr Sz prog 195 [.rd (.sl (.int .u8))] [.rd (.int .u64)] (λx=>oN x.1):=
 ncR [] [2] func195 ntmps195 (.s .o (.s .o (.s (.s .o (.b (.l ⟨[.v 3 1 (.dat (.int .u64) none),.v 5 1 (.dat (.int .i64) none)],[0],0,[]⟩ .o))) .o))) λx=>by kernel_rfl
def Mc:=mC Mb call195
theorem Md:Ctr Sz prog 183 [.rd (.sl (.int .u8))] [.rd (.st 32),.rd (.sl (.int .u8)),.rd .bool] (λx=>qJ x.1):=
 nxR [Bb,wO,Fc,Fd,Mc] [.cell 2 32,.tmp 3,.tmp 4] func183 ntmps183 .o λx=>by kernel_rfl
def Me:=mC Md call183
theorem Mf:Ctr Sz prog 163 [.rd (.sl (.int .u8))] [.rd (.sl (.st 32)),.rd (.int .i64)] (λx=>kO x.1):=
 ncR [Me] [2,3] func163 ntmps163 (.s .o (.s .o (.s .o (.s .o (.s (.s .o (.b (.l ⟨[.v 0 1 (.dat (.sl (.int .u8)) none),.v 4 1 (.dat (.sl (.st 32)) (some 0)),.v 25 1 (.dat (.int .i64) none)],[24],0,[4]⟩ .o))) .o))))) λx=>by kernel_rfl
def Fm:=mC Mf call163
theorem Mg:Ctr Sz prog 119 [.rd (.sl (.int .u8))] [.rd (.st 32),.rd (.sl (.int .u8)),.rd .bool] (λx=>kP x.1):=
 nxR [Fm] [.cell 2 32,.tmp 3,.tmp 4] func119 ntmps119 (.s .o (.s (.s .o (.b (.l ⟨[.v 5 1 (.dat (.int .i64) none)],[0,2],1,[]⟩ .o))) .o)) λx=>by kernel_rfl
def Mh:=mC Mg call119
theorem N1:Ctr Sz prog 57 [.rd (.sl (.int .u8))] [.rd (.st 34),.rd (.sl (.int .u8)),.rd .bool] (λx=>jh x.1):=
 nxR [Mh] [.cell 2 34,.tmp 3,.tmp 4] func57 ntmps57 .o λx=>by kernel_rfl
theorem Bh (hS:S W0 m w L TL) {p0}(a3:RV (kSl (ai .u8)) m v0 p0) {r}(h:jh p0=some r):
    Calls prog 57 #[v0] w (Ret λv w'=>∃m',M.le m m'/\S W0 m' w' L TL/\∃v0_ v1_ v2_:Value,v= .tuple #[v0_,v1_,v2_]/\RV cw m' v0_ r.1/\RV (kSl (ai .u8)) m' v1_ r.2.1/\RV cm m' v2_ r.2.2):=by
 refine rm (N1 W0 m w L TL [v0] (p0,()) r [] [] hS ⟨a3,trivial⟩ h) λv w' he=>?_;obtain⟨m',us,Lr,Lq,Tr,J,Z',rfl,W,hO⟩:=he;obtain⟨u0,us,rfl,r0,a0⟩:=cE W;obtain⟨u1,us,rfl,r1,a1⟩:=cE a0;obtain⟨u2,us,rfl,r2,a2⟩:=cE a1;obtain⟨rfl,rfl,rfl⟩:=bL a2;have Z:=bj hO;obtain rfl:=bM Z;exact⟨m',J,Z',u0,u1,u2,rfl,r0,r1,r2⟩
theorem tu (hS:S W0 m w L TL) {p0}(Z:RV (kSl (ai .u8)) m v0 p0) {r}(h:jE p0=some r):
    Calls prog 60 #[v0] w (Ret λv w'=>∃m',M.le m m'/\S W0 m' w' L ((1,v)::TL)/\RV (kSl (ai .u8)) m' v r):=by
 refine kc func60 ntmps60 λa E=>?_;have E:Env 8 a [(0,v0)]:=E;unfold jE at h;refine ab (aj (qA E rfl λa E=>ag (ab (ab (aj (qM E rfl λa E=>?_))))));refine st E (vb (k:=(ai .u8)) E rfl rfl Z underlying24) rfl ?_;rintro v5 a _ ⟨rfl,b1,rfl,a5⟩ E;refine ag (kif E rfl (λJ=>?_) (λJ=>?_))
 {
 have a4:=a5 J;have h:some ([])=some r:=by rw[a4] at h;exact h
 refine ab (aj (qA E rfl λa E=>ag (bd ?_)));obtain rfl:=oi h
 try dsimp only
 refine f1 E ?_;exact⟨_,(Q0 _),((hS.dropT 0).tail0 1),cN⟩}
 {
 refine aR (ab (aj ?_));refine st E (jJ (k:=(ai .u8)) (xs:=[]) (vs:=[]) E hS rfl underlying24 sizeOf5 zeroValue5 trivial rfl (by decide)) rfl ?_;rintro a9 a w ⟨m9,W,hS,a0⟩ E;refine qM E rfl λa E=>?_;obtain⟨b0,a2,h⟩:=ob h;refine st E (i9 (k:=(ai .u8)) (N:=140737488355328) E hS rfl rfl underlying24 underlying24 el5 (i:=0) rfl a0 (Z.mono W) a2 rfl rfl) rfl ?_;rintro a6 a w ⟨b2,a3,hS,a1⟩ E;refine qA E rfl λa E=>ag (bd ?_);obtain rfl:=oi h
 try dsimp only
 refine f1 E ?_;exact⟨_,(qk W a3),(hS.pickT 1 [0] rfl rfl rfl),a1⟩}
theorem Ht:Ctr Sz prog 61 [.rd (.sl (.int .u8)),.rd (.sl (.int .u8))] [.rd .bool] (λx=>fU x.1 x.2.1):=
 ncR [] [4] func61 ntmps61 (.s .o (.s .o (.s (.s .o (.b (.l ⟨[.v 13 1 (.dat (.int .i64) none)],[0,1,12],0,[]⟩ .o))) .o))) λx=>by kernel_rfl
def N2:=mC Ht call61
theorem tw (hS:S W0 m w L TL) {p0}(a3:RV (kSl (ai .u8)) m v0 p0) {p1}(a1:RV (kSl (ai .u8)) m v1 p1) {r}(h:fU p0 p1=some r):
    Calls prog 61 #[v0,v1] w (Ret λv w'=>∃m',M.le m m'/\S W0 m' w' L TL/\RV cm m' v r):=by
 refine rm (Ht W0 m w L TL [v0,v1] (p0,p1,()) r [] [] hS ⟨a3,⟨a1,trivial⟩⟩ h) λv w' he=>?_;obtain⟨m',us,Lr,Lq,Tr,J,Z',rfl,Z,hO⟩:=he;obtain⟨u0,us,rfl,r0,a2⟩:=cE Z;obtain⟨rfl,rfl,rfl⟩:=bL a2;have a0:=bj hO;have W:=bj a0;obtain rfl:=bM W;exact⟨m',J,Z',r0⟩
theorem Mi:Ctr Sz prog 164 [.pt (.st 161)] [.rd (.st 32)] (λx=>cY x.1):=
 nxR [Fm] [.cell 2 32] func164 ntmps164 (.s .o (.s (.s .o (.b (.l ⟨[.v 3 1 (.dat (.int .i64) none)],[0,2],2,[]⟩ .o))) .o)) λx=>by kernel_rfl
def Mj:=mC Mi call164
theorem Mk:Ctr Sz prog 165 [.pt (.st 161),.rd (.int .i64)] [.rd (.sl (.int .u8))] (λx=>cp x.1 x.2.1):=
 ncR [] [4] func165 ntmps165 .o λx=>by kernel_rfl
def wU:=mC Mk call165
theorem Ml:Ctr Sz prog 196 [.rd (.int .u32),.rd (.int .u32)] [.rd (.int .u32),.rd (.int .u32)] (λx=>CO x.1 x.2.1):=
 ncR [] [4,5] func196 ntmps196 .o λx=>by kernel_rfl
def Mm:=mC Ml call196
theorem Mn:Ctr Sz prog 197 [.rd (.int .u64),.rd (.int .u64)] [.rd (.int .u64),.rd (.int .u64)] (λx=>py x.1 x.2.1):=
 ncR [] [4,5] func197 ntmps197 .o λx=>by kernel_rfl
def Mo:=mC Mn call197
theorem Mp:Ctr Sz prog 184 [.rd (.int .u64),.rd (.int .u64)] [.rd (.int .u64),.rd (.int .u64)] (λx=>sJ x.1 x.2.1):=
 ncR [Mm,Mo] [4,5] func184 ntmps184 .o λx=>by kernel_rfl
theorem Dr (hS:S W0 m w L TL) {p0}(a4:inR .u64 p0) {p1}(a1:inR .u64 p1) {r}(h:sJ p0 p1=some r):
    Calls prog 184 #[(.int .u64 p0),(.int .u64 p1)] w (Ret λv w'=>∃m',M.le m m'/\S W0 m' w' L TL/\∃v0_ v1_:Value,v= .tuple #[v0_,v1_]/\RV (ai .u64) m' v0_ r.1/\RV (ai .u64) m' v1_ r.2):=by
 refine rm (Mp W0 m w L TL [(.int .u64 p0),(.int .u64 p1)] (p0,p1,()) r [] [] hS ⟨am a4,⟨am a1,trivial⟩⟩ h) λv w' he=>?_;obtain⟨m',us,Lr,Lq,Tr,J,Z',rfl,Z,hO⟩:=he;obtain⟨u0,us,rfl,r0,a2⟩:=cE Z;obtain⟨u1,us,rfl,r1,a3⟩:=cE a2;obtain⟨rfl,rfl,rfl⟩:=bL a3;have a0:=bj hO;have W:=bj a0;obtain rfl:=bM W;exact⟨m',J,Z',u0,u1,rfl,r0,r1⟩
theorem sg (hS:S W0 m w L TL) {p0}(c3:RV (kSl kAp) m v0 p0) {p1}(j4:inR .i64 p1) {r}(h:eI p0 p1=some r):
    Calls prog 166 #[v0,(.int .i64 p1)] w (Ret λv w'=>∃m',M.le m m'/\S W0 m' w' L TL/\RV (kSl kAp) m' v r):=by
 refine kc func166 ntmps166 λa E=>?_;have E:Env 48 a [(0,v0),(1,.int .i64 p1)]:=E;unfold eI at h;refine ab (aj (qA E rfl λa E=>ag (ab (ab (aj (qM E rfl λa E=>qB E rfl rfl cC λa E=>ag ?_))))));refine cF (λa w=>gG p0 p1=some r/\∃m',M.le m m'/\S W0 m' w L TL/\Env 48 a [(0,v0),(1,.int .i64 p1)]) ?_ ?_
 {
 refine kif E rfl (λc1=>?_) (λc1=>?_)
 {have h:=aD c1 h;cases h}
 {have h:=aF c1 h;refine aR ?_;exact⟨h,_,(Q0 _),hS,kut E⟩}}
 {
 rintro a w ⟨h,m4,b1,hS,E⟩;unfold gG at h;refine ab (aj (qM E rfl λa E=>sp E (aY (k:=kAp) E rfl rfl underlying22 (c3.mono b1)) rfl λa E=>sp E (fy E rfl underlying3 underlying94 rfl) rfl λa E=>qM E rfl λa E=>sp E (fy E rfl underlying3 underlying94 rfl) rfl λa E=>?_));obtain⟨a2,h2,h⟩:=ob h;refine st E (az (vs:=[(.int .u64 (Q3.wrap (p0.length:Int))),(.int .u64 (Q3.wrap p1))]) E rfl call184 (Dr (hS:=hS) (aI _ _) (aI _ _) h2)) rfl ?_;rintro _ a w ⟨e8,d2,hS,k7,j2,rfl,e6,h6⟩ E;obtain⟨rfl,i2⟩:=aJ e6;obtain⟨rfl,k3⟩:=aJ h6
 refine qM E rfl λa E=>sp E (bn E rfl rfl) rfl λa E=>sp E (bn E rfl rfl) rfl λa E=>qA E rfl λa E=>qA E rfl λa E=>ag (ab (ab ?_));refine cF (λa w=>∃b7:Bool,eN p0 a2 b7=some r/\∃m',M.le e8 m'/\S W0 m' w L TL/\Env 48 a [(0,v0),(6,.int .u64 a2.2),(26,.bool b7)]) ?_ ?_
 {
 refine aj (qM E rfl λa E=>qB E rfl rfl mO λa E=>qM E rfl λa E=>?_);rcases kz (decide (0<a2.1)) with hd138|hd138
 {have h:=aD hd138 h;refine qX E hd138 λa E=>qX E hd138 λa E=>qT E hd138 rfl λa E=>ag ?_;exact⟨true,h,_,(Q0 _),hS,kut E⟩}
 {have h:=aF hd138 h;refine qG E hd138 rfl λa E=>spg E rfl rfl rfl rfl hd138 (bh E rfl rfl mO) rfl λa E=>qF E hd138 rfl λa E=>ag ?_;exact⟨(decide (9223372036854775807<a2.2)),h,_,(Q0 _),hS,kut E⟩}}
 {
 rintro a w ⟨b7,h,g4,d1,hS,E⟩;unfold eN at h;refine cF (λa w=>gF p0 a2=some r/\∃m',M.le g4 m'/\S W0 m' w L TL/\Env 48 a [(0,v0),(6,.int .u64 a2.2)]) ?_ ?_
 {
 refine kif E rfl (λb5=>?_) (λb5=>?_)
 {have h:=aD b5 h;cases h}
 {have h:=aF b5 h;refine aR ?_;exact⟨h,_,(Q0 _),hS,kut E⟩}}
 {
 rintro a w ⟨h,b6,c7,hS,E⟩;unfold gF at h;refine ab (aj (qM E rfl λa E=>sp E (fy E rfl underlying94 underlying3 rfl) rfl λa E=>?_));obtain⟨i3,h9,h⟩:=ob h;refine st E (zp (k:=kAp) (m:=b6) E hS rfl rfl underlying22 type32 rfl rfl rfl (λm=>pk m) h9 rfl rfl) rfl ?_;rintro W a w ⟨Z,i5,d0,hS⟩ E;refine qA E rfl λa E=>ag (ab (aj (qM E rfl λa E=>qM E rfl λa E=>?_)));refine st E (zr (k:=kAp) E hS rfl rfl underlying22 sizeOf32 (i:=0) rfl d0 (c3.mono (qk b1 (qk d2 (qk d1 c7))))) rfl ?_;rintro i4 a _ ⟨rfl,h1,e4,hS⟩ E;refine qA E rfl λa E=>ag (ab ?_)
 refine cF (λa w=>∃c2:(List Ap),gD c2=some r/\∃m',M.le b6 m'/\∃(c0:Value),RV (kSl kAp) m' c0 c2/\S W0 m' w L TL/\Env 48 a [(7,c0)]) ?_ ?_
 {
 refine aW ?_;refine fw h (λ(s:Int×List Ap) a w=>∃m',M.le b6 m'/\∃(a4:List Value),inR .i64 s.1/\GS kAp m' Z a4 W s.2/\S W0 m' w ((Z,a4)::L) (TL)/\Env 48 a [(7,W),(8,.int .i64 s.1)]) ?_ ?_
 {exact⟨_,(Q0 _),h1,(dy (Nat.le_trans (Nat.min_le_right _ _) (GS.len d0))),e4,hS,kut E⟩}
 {
 rintro ⟨J,a5⟩ a w ⟨i0,c5,a4,a6,a3,hS,E⟩ r65 h hb66;have h:gE J a5=some r65:=h;unfold gE at h;refine ab (ab (aj (qM E rfl λa E=>qM E rfl λa E=>sp E (oU (k:=kAp) E rfl rfl underlying22 a3) rfl λa E=>qB E rfl rfl cC λa E=>ag (kif E rfl (λb2=>?_) (λb2=>?_)))))
 {
 have h:=aD b2 h;refine aR (aW ?_);obtain⟨a0,g3,a1,h7,h⟩:=ob2 h;obtain⟨k0,e5,c4,f5,h⟩:=ob2 h
 refine kch (k:=8) (m:=i0) (es:=[7]) (Φ:=(λi m ws v=>match i with|0=>ei .i64 J v|1=>v=W|2=>ei .i64 J v|3=>VS Z 4 v a0.1 a0.2|4=>v=W|5=>ei .i64 J v|6=>VS Z 4 v a1.1 a1.2|7=>ei .i64 ((min a1.2 a0.2:Nat):Int) v|_=>True)) (Q:=(λc m ws L' c6=>match c with|0=>(Z,a4)::L=L'/\TL=c6|1=>(Z,(wi ws 0).c)::L=L'/\TL=c6/\GS kAp m Z (wi ws 0).c W c4|_=>False)) (cs:=[⟨0,1,false,[(8,.int .i64 J)]⟩,zR [(7,W)],zR [(8,.int .i64 J)],zR [],zR [(7,W)],zR [(8,.int .i64 J)],zR [],⟨0,0,true,[]⟩]) mixed E hS ⟨rfl,rfl⟩ rfl rfl (by kernel_rfl) ?_ ?_ ?_ ?_
 {
 intro i m_ e9 ws v n_ q_
 iterate 8 (rcases i with _|i;exact q_)
 exact trivial}
 {
 intro c m_ e9 ws L_ T_ n_ a9
 match c,a9 with
 |0,⟨b0,b4⟩=>exact⟨b0,b4⟩
 |1,⟨b0,b4,f0_⟩=>exact⟨b0,b4,(GS.mono f0_ n_)⟩
 |_+2,a9=>exact a9.elim}
 {
 refine⟨?_,?_,?_,?_,?_,?_,?_,?_,trivial⟩
 {exact cmv λ_ _=>⟨rfl,a6⟩}
 {exact cmv λ_ _=>rfl}
 {exact cmv λ_ _=>⟨rfl,a6⟩}
 {refine cp1 λ_ _ _ _ _ M' Q' Z' E' T'=>?_;obtain⟨rfl,rfl⟩:=Q';have E:=(E'.add (T' 1)).add (T' 2).1;exact cr (su (k:=kAp) E rfl underlying22 sizeOf32 (a3.mono M') ⟨_,rfl⟩ rfl g3 (sz:=4) rfl (xl:=(some (.tmp 40))) (xh:=none)) Z' λ_ h=>h}
 {exact cmv λ_ _=>rfl}
 {exact cmv λ_ _=>⟨rfl,a6⟩}
 {refine cp1 λ_ _ _ _ _ M' Q' Z' E' T'=>?_;obtain⟨rfl,rfl⟩:=Q';have E:=(E'.add (T' 4)).add (T' 5).1;exact cr (su (k:=kAp) E rfl underlying22 sizeOf32 (a3.mono M') rfl ⟨_,rfl⟩ h7 (sz:=4) rfl (xl:=none) (xh:=(some (.tmp 43)))) Z' λ_ h=>h}
 {
 refine vR λj1 L_ T_ m' a' w' g2 M' Q' Z' E' T'=>?_;obtain rfl:=gN g2;obtain⟨rfl,rfl⟩:=Q';obtain⟨k5,h5,h0⟩:∃v,a'.tmps.getD 41 undef=v/\(VS Z 4 v a0.1 a0.2):=⟨_,rfl,T' 3 (by decide) 41 rfl⟩
 have E:=E'.add (h5);obtain⟨i1,g0,h8⟩:∃v,a'.tmps.getD 44 undef=v/\(VS Z 4 v a1.1 a1.2):=⟨_,rfl,T' 6 (by decide) 44 rfl⟩
 have E:=E.add (g0);refine aQ.imp (DG (k:=kAp) E Z' rfl rfl underlying22 sizeOf32 (i:=0) rfl (a3.mono M') h0 h8 f5) ?_;rintro _ w ⟨rfl,b3,f6,hS⟩;exact⟨_,⟨0,undef,b3,[],[]⟩,_,_,Q0 _,hS,⟨rfl,rfl,f6⟩,⟨rfl,(dy (Q2 (od e5)))⟩⟩}}
 {intro k4 L_ T_ k6 a w g1 g6 g5 hS h3 f3 f0 e0;obtain⟨⟨_,_,b3,_,_⟩,rfl⟩:=w8 g1;obtain⟨rfl,rfl,e1⟩:=g5;have E:=eof 8 [(7,W),(8,.int .i64 J),(34,.int .i64 J),(35,W),(36,.int .i64 (a5.length:Int)),(37,.bool (decide (J<(a5.length:Int))))] h3 f3 f0;have E:=(E.add (e0 0).1).add (e0 7).1;refine qB E rfl rfl (cB rfl) λa E=>qA E rfl λa E=>ag ?_;exact⟨(Q1.wrap (J+((min a1.2 a0.2:Nat):Int)),c4),(Option.some.inj h).symm,_,(qk c5 g6),b3,(aI _ _),e1,hS,kut E⟩}}
 {have h:=aF b2 h;obtain⟨l2,f4,hS,e7⟩:=S.freeze hS a3;refine eG rfl rfl ?_;have h:=cG h hb66;exact⟨a5,h,_,(qk c5 f4),W,e7,hS,kut E⟩}}}
 {
 rintro a w ⟨c2,h,l1,h4,c0,e3,hS,E⟩;unfold gD at h;refine ab (aj (qM E rfl λa E=>qA E rfl λa E=>ag (bd ?_)));obtain rfl:=oi h
 try dsimp only
 refine f1 E ?_;exact⟨_,(qk b1 (qk d2 (qk d1 (qk c7 h4)))),hS,e3⟩}}}}
theorem Mq:Ctr Sz prog 166 [.rd (.sl (.st 32)),.rd (.int .i64)] [.rd (.sl (.st 32))] (λx=>eI x.1 x.2.1):=by
 intro W0 m w L TL vs x r Lp Tp hS Z h;obtain⟨v0,vs,rfl,a0,a3⟩:=iM Z;obtain⟨v1,vs,rfl,a1,a2⟩:=iM a3;obtain⟨rfl,n1⟩:=aJ a1;obtain⟨rfl,rfl,rfl⟩:=mp a2;refine rm (sg (hS:=hS) a0 n1 h) λv w' he=>?_;obtain⟨m',J,W,r0⟩:=he;exact⟨m',[v],[],[],[],J,W,rfl,⟨r0,trivial⟩,trivial⟩
def Mr:=mC Mq call166
theorem Ms:Ctr Sz prog 167 [.pt (.st 161)] [.rd (.int .u64)] (λx=>fI x.1):=
 ncR [wU] [2] func167 ntmps167 (.s .o (.s .o (.s (.s .o (.b (.l ⟨[.v 3 1 (.dat (.int .u64) none),.v 9 1 (.dat (.int .i64) none)],[7,8],1,[]⟩ .o))) .o))) λx=>by kernel_rfl
def Mt:=mC Ms call167
theorem Mu:Ctr Sz prog 168 [.pt (.st 161)] [.rd (.int .u64)] (λx=>eJ x.1):=
 ncR [wU] [2] func168 ntmps168 (.s .o (.s .o (.s (.s .o (.b (.l ⟨[.v 3 1 (.dat (.int .u64) none),.v 4 1 (.dat (.int .i64) none),.b 0 1 (.st 161)],[0],1,[]⟩ .o))) .o))) λx=>by kernel_rfl
def Mv:=mC Mu call168
theorem Mw:Ctr Sz prog 169 [.pt (.st 161),.rd (.int .i64),.rd (.int .i64)] [.rd (.sl (.int .u64))] (λx=>eO x.1 x.2.1 x.2.2.1):=
 ncR [wU] [6] func169 ntmps169 (.s .o (.s .o (.s .o (.s .o (.s (.s .o (.b (.l ⟨[.v 30 1 (.dat (.int .i64) none),.a 1 1 (.int .u64) none],[2,7,8,29],2,[]⟩ (.s .o (.s .o (.s (.b (.s .o (.s .o (.b (.l ⟨[.v 34 2 (.dat (.int .i64) none),.a 1 2 (.int .u64) none],[2,7,8,9,29,30,33],2,[]⟩ .o))))) .o)))))) .o))))) λx=>by kernel_rfl
def Mx:=mC Mw call169
theorem My:Ctr Sz prog 120 [.pt (.st 161),.rd (.int .i64),.rd (.int .i64)] [.ap (.st 32)] (λx=>bB x.1 x.2.1 x.2.2.1):=
 ncR [wO,LY,Mj,wU,Mr,Mt,Mv,Mx] [6] func120 ntmps120 (.s .o (.s .o (.s (.s .o (.b (.s .o (.i (.b (.l ⟨[.v 7 1 (.dat (.sl (.st 32)) (some 0)),.b 0 1 (.st 161)],[0,2],1,[4]⟩ .o)) (.s .o (.i (.b (.l ⟨[.v 7 1 (.dat (.sl (.st 32)) (some 0)),.b 0 1 (.st 161)],[0,2],1,[4]⟩ .o)) (.s .o (.i (.s .o (.s .o (.b (.l ⟨[.v 7 1 (.dat (.sl (.st 32)) (some 1)),.v 9 1 (.dat (.int .i64) none),.b 0 1 (.st 161)],[0,2],1,[4,4]⟩ .o)))) (.s .o (.i (.s .o (.s (.s .o (.b (.l ⟨[.v 11 1 (.dat (.sl (.st 32)) (some 0)),.v 131 1 (.dat (.int .u8) none),.b 0 1 (.st 161)],[0,2,7,130],1,[4]⟩ .o))) (.s .o (.b (.l ⟨[.v 7 1 (.dat (.sl (.st 32)) (some 1)),.v 149 1 (.dat (.int .i64) none)],[11,147,148],1,[4,4]⟩ .o))))) (.s .o (.s .o (.b (.l ⟨[.v 7 1 (.dat (.sl (.st 32)) (some 0)),.v 29 1 (.dat (.int .i64) none)],[14,27,28],1,[4]⟩ .o)))))))))))))) .o))) λx=>by kernel_rfl
def Mz:=mC My call120
theorem N3:Ctr Sz prog 62 [.rd (.int .i64),.rd (.sl (.int .u8)),.rd (.int .i64)] [.rd (.sl (.st 32)),.rd (.int .i64)] (λx=>kF x.1 x.2.1 x.2.2.1):=
 ncR [za,N2,Mz] [6,7] func62 ntmps62 .o λx=>by kernel_rfl
theorem wV (hS:S W0 m w L TL) {p0}(a6:inR .i64 p0) {p1}(a2:RV (kSl (ai .u8)) m v1 p1) {p2}(a0:inR .i64 p2) {r}(h:kF p0 p1 p2=some r):
    Calls prog 62 #[(.int .i64 p0),v1,(.int .i64 p2)] w (Ret λv w'=>∃m',M.le m m'/\S W0 m' w' L TL/\∃v0_ v1_:Value,v= .tuple #[v0_,v1_]/\RV (kSl kAp) m' v0_ r.1/\RV (ai .i64) m' v1_ r.2):=by
 refine rm (N3 W0 m w L TL [(.int .i64 p0),v1,(.int .i64 p2)] (p0,p1,p2,()) r [] [] hS ⟨am a6,⟨a2,⟨am a0,trivial⟩⟩⟩ h) λv w' he=>?_;obtain⟨m',us,Lr,Lq,Tr,J,Z',rfl,Z,hO⟩:=he;obtain⟨u0,us,rfl,r0,a3⟩:=cE Z;obtain⟨u1,us,rfl,r1,a5⟩:=cE a3;obtain⟨rfl,rfl,rfl⟩:=bL a5;have a1:=bj hO;have W:=bj a1;have a4:=bj W;obtain rfl:=bM a4;exact⟨m',J,Z',u0,u1,rfl,r0,r1⟩
theorem Bi (hS:S W0 m w L TL) {p0}(c4:RV (kSl (ai .u8)) m v0 p0) {r}(h:kp p0=some r):
    Calls prog 21 #[v0] w (Ret λv w'=>∃m',M.le m m'/\S W0 m' w' L TL/\∃v0_ v1_ v2_:Value,v= .tuple #[v0_,v1_,v2_]/\RV (kSl kAp) m' v0_ r.1/\RV (ai .i64) m' v1_ r.2.1/\RV (ai .i64) m' v2_ r.2.2):=by
 refine kc func21 ntmps21 λa E=>?_;have E:Env 71 a [(0,v0)]:=E;unfold kp at h;refine ab (aj (qA E rfl λa E=>qA E rfl λa E=>qA E rfl λa E=>ag (ab (aj (qM E rfl λa E=>?_)))));obtain⟨W,h2,h⟩:=ob h;refine st E (az (vs:=[v0]) E rfl call57 (Bh (hS:=hS) c4 h2)) rfl ?_;rintro _ a w ⟨m7,a6,hS,c3,b5,r4,rfl,n3,n0,h3⟩ E;obtain rfl:=cT h3;refine qM E rfl λa E=>sp E (bn E rfl rfl) rfl λa E=>sp E (bn E rfl rfl) rfl λa E=>sp E (bn E rfl rfl) rfl λa E=>?_;refine st E (ci hS zeroValue34 rfl (cs:=sZ)) rfl ?_;rintro _ a w ⟨a1,rfl,hS⟩ E
 refine st0 E (bU E hS vF bp rfl rfl n3 (i:=0) rfl (vE _)) ?_;rintro _ w ⟨b6,a3,hS⟩ E;refine qA E rfl λa E=>qA E rfl λa E=>ag (ab (ab (aj (qM E rfl λa E=>sp E (kS E rfl) rfl λa E=>ag (kif E rfl (λc6=>?_) (λc6=>?_))))))
 {
 have h:=aD c6 h;refine ab (aj (qA E rfl λa E=>qA E rfl λa E=>qA E rfl λa E=>ag (bd ?_)));obtain rfl:=oi h
 try dsimp only
 refine Fin.mk E (rs:=[.tmp 2,.tmp 3,.tmp 4]) rfl (pQ.tmp E rfl (pQ.tmp E rfl (pQ.tmp E rfl pQ.nil))) ?_;exact⟨_,a6,(hS.dropL 1),_,_,_,rfl,cN,(am (show inR .i64 0 from ay (by decide))),(am (show inR .i64 70 from ay (by decide)))⟩}
 {
 have h:=aF c6 h;refine aR (ab (aj (qM E rfl λa E=>sp E (aB E wN rfl) rfl λa E=>?_)));refine st E (aA E hS ty3 rfl (i:=0) rfl (JX.R_drop (aC a3))) rfl ?_;rintro o3 a _ ⟨rfl,m2⟩ E;obtain⟨rfl,r3⟩:=aJ m2;refine qB E rfl rfl (kR rfl) λa E=>?_;obtain⟨r9,i2,h⟩:=ob h;refine st E (dA (k:=(ai .u8)) E rfl underlying24 sizeOf5 (c4.mono a6) rfl ⟨_,rfl⟩ i2 (xl:=none) (xh:=(some (.tmp 23)))) rfl ?_;rintro e1 a _ ⟨rfl,i0⟩ E;obtain⟨p6,g4,h⟩:=ob h;refine st E (az (vs:=[e1]) E rfl call60 (tu (hS:=hS) i0 g4)) rfl ?_;rintro b1 a w ⟨g1,Z,hS,l2⟩ E
 refine qA E rfl λa E=>ag (ab (ab ?_));obtain⟨e7,k5,h9,h4,h⟩:=ob2 h
 refine kch (k:=6) (m:=g1) (es:=[1]) (Φ:=(λi m ws v=>match i with|0=>v=b1|1=>v=(wi ws 0).v/\RV (kSl (ai .u8)) m v e7|2=>v=v0|3=>v=(.pointer (some ⟨a1,11,none⟩))|4=>ei .i64 W.1.fBytes v|5=>RV (kSl (ai .u8)) m v h9|_=>True)) (Q:=(λc m ws L' c2=>match c with|0=>(a1,b6)::L=L'/\(1,b1)::TL=c2|1=>(a1,b6)::L=L'/\(1,(wi ws 0).v)::TL=c2|_=>False)) (cs:=[zR [(8,b1)],⟨0,0,true,[]⟩,⟨0,1,false,[(0,v0)]⟩,⟨0,1,false,[(5,pz a1)]⟩,⟨0,1,false,[]⟩,⟨0,1,false,[]⟩]) mixed E hS ⟨rfl,rfl⟩ rfl rfl (by kernel_rfl) ?_ ?_ ?_ ?_
 {
 intro i m_ c5 ws v n_ q_
 iterate 6 (rcases i with _|i;first|exact q_|exact RV.mono q_ n_|exact⟨q_.1,RV.mono q_.2 n_⟩)
 exact trivial}
 {
 intro c m_ c5 ws L_ T_ n_ a5
 match c,a5 with
 |0,⟨b3,b4⟩=>exact⟨b3,b4⟩
 |1,⟨b3,b4⟩=>exact⟨b3,b4⟩
 |_+2,a5=>exact a5.elim}
 {
 refine⟨?_,?_,?_,?_,?_,?_,trivial⟩
 {exact cmv λ_ _=>rfl}
 {refine vR λq0 L_ T_ m' a' w' k0 M' Q' J E' T'=>?_;obtain rfl:=gN k0;obtain⟨rfl,rfl⟩:=Q';have E:=E'.add (T' 0 (by decide) 26 rfl);refine aQ.imp (az (vs:=[b1]) E rfl call50 (xR (hS:=J) (l2.mono M') k5)) ?_;rintro b2 w ⟨q3,m3,hS,g6⟩;exact⟨_,⟨0,b2,[],[],[]⟩,_,_,m3,hS,⟨rfl,rfl⟩,⟨rfl,g6⟩⟩}
 {exact cmv λ_ _=>rfl}
 {refine cp0 λ_ _ _ _ _ _ _ _ _ J E' _=>?_;exact cq (aB E' wN rfl) J rfl}
 {
 refine cp0 λ_ _ _ _ _ _ P' M' Q' J E' T'=>?_;rcases MS (a:=0) (n:=0) P' with h0_|h0_
 {obtain rfl:=gN h0_;obtain⟨rfl,rfl⟩:=Q';have E:=E'.add (T' 3);exact cr (aA E J ty3 rfl (i:=0) rfl (JX.R_drop (aC (cw.mono (qk Z M') a3)))) J λ_ h=>aJ h}
 {obtain⟨⟨_,b2,_,_,_⟩,post_',rfl,hp1_⟩:=h0_;obtain rfl:=gN (OC (a:=0) hp1_);obtain⟨rfl,rfl⟩:=Q';have E:=E'.add (T' 3);exact cr (aA E J ty3 rfl (i:=0) rfl (JX.R_drop (aC (cw.mono (qk Z M') a3)))) J λ_ h=>aJ h}}
 {refine cp0 λ_ _ _ _ _ _ _ M' _ J E' T'=>?_;have E:=(E'.add (T' 2)).add (T' 4).1;exact cr (dA (k:=(ai .u8)) E rfl underlying24 sizeOf5 (c4.mono (qk a6 (qk Z M'))) rfl ⟨_,rfl⟩ h4 (xl:=none) (xh:=(some (.tmp 30)))) J λ_ h=>h}}
 {
 intro m6 L_ T_ f4 a w i5 a0 i4 hS n6 l1 n2 e6;obtain⟨⟨_,b2,_,_,_⟩,rfl⟩:=w8 i5;obtain⟨rfl,rfl⟩:=i4;have E:=eof 6 [(0,v0),(2,.slice none 0 0),(3,.int .i64 0),(4,.int .i64 0),(5,pz a1),(6,b5),(7,.bool W.2.2),(8,b1),(12,(.tuple #[c3,b5,(.bool W.2.2)])),(13,v0),(14,(.tuple #[c3,b5,(.bool W.2.2)])),(15,c3),(16,b5),(17,.bool W.2.2),(18,.bool W.2.2),(19,.bool (!W.2.2)),(20,v0),(21,.pointer (some ⟨a1,11,none⟩)),(22,.int .i64 W.1.fBytes),(23,.int .i64 (Q1.wrap (W.1.fBytes - 4))),(24,e1),(25,b1)] n6 l1 n2
 obtain⟨q4,h6,c1⟩:∃v,a.tmps.getD 27 undef=v/\(v=b2/\RV (kSl (ai .u8)) f4 v e7):=⟨_,rfl,e6 1⟩
 obtain⟨e9,c1⟩:=c1;rw[e9] at c1;have E:=E.add (h6.trans e9);obtain⟨f3,E,k4⟩:=adv E (e6 5);obtain⟨r7,m4,h⟩:=ob h;refine st E (az (vs:=[b2,f3]) E rfl call61 (tw (hS:=hS) c1 k4 m4)) rfl ?_;rintro o2 a w ⟨r0,a2,hS,m1⟩ E;obtain rfl:=cT m1;refine sp E (kS E rfl) rfl λa E=>ag (kif E rfl (λd2=>?_) (λd2=>?_))
 {
 have h:=aD d2 h;refine ab (aj (qA E rfl λa E=>qA E rfl λa E=>qA E rfl λa E=>ag (bd ?_)));obtain rfl:=oi h
 try dsimp only
 refine Fin.mk E (rs:=[.tmp 2,.tmp 3,.tmp 4]) rfl (pQ.tmp E rfl (pQ.tmp E rfl (pQ.tmp E rfl pQ.nil))) ?_;exact⟨_,(qk a6 (qk Z (qk a0 a2))),((hS.dropL 1).dropT 1),_,_,_,rfl,cN,(am (show inR .i64 0 from ay (by decide))),(am (show inR .i64 71 from ay (by decide)))⟩}
 {
 have h:=aF d2 h;refine aR (ab (aj (sp E (aB E A8 rfl) rfl λa E=>?_)));refine st E (aA E hS ty3 rfl (i:=0) rfl (JS.R_drop (aC (cw.mono (qk Z (qk a0 a2)) a3)))) rfl ?_;rintro q1 a _ ⟨rfl,h7⟩ E;obtain⟨rfl,g5⟩:=aJ h7;refine qM E rfl λa E=>sp E (aB E E7 rfl) rfl λa E=>?_;refine st E (aA E hS ty3 rfl (i:=0) rfl (JT.R_drop (aC (cw.mono (qk Z (qk a0 a2)) a3)))) rfl ?_;rintro q6 a _ ⟨rfl,j1⟩ E;obtain⟨rfl,n4⟩:=aJ j1;obtain⟨l4,g3,h⟩:=ob h
 refine st E (az (vs:=[(.int .i64 W.1.fKind),b5,(.int .i64 W.1.fMany)]) E rfl call62 (wV (hS:=hS) g5 (n0.mono (qk Z (qk a0 a2))) n4 g3)) rfl ?_;rintro _ a w ⟨q7,a4,hS,b0,p7,rfl,e3,g0⟩ E;obtain⟨rfl,q2⟩:=aJ g0;refine qM E rfl λa E=>sp E (bn E rfl rfl) rfl λa E=>sp E (bn E rfl rfl) rfl λa E=>qA E rfl λa E=>qA E rfl λa E=>ag (ab (ab (aj (qM E rfl λa E=>?_))));refine qB E rfl rfl lx λa E=>ag (kif E rfl (λe0=>?_) (λe0=>?_))
 {
 have h:=aD e0 h;refine ab (aj (qA E rfl λa E=>qA E rfl λa E=>qA E rfl λa E=>ag (bd ?_)));obtain rfl:=oi h
 try dsimp only
 refine Fin.mk E (rs:=[.tmp 2,.tmp 3,.tmp 4]) rfl (pQ.tmp E rfl (pQ.tmp E rfl (pQ.tmp E rfl pQ.nil))) ?_;exact⟨_,(qk a6 (qk Z (qk a0 (qk a2 a4)))),((hS.dropL 1).dropT 1),_,_,_,rfl,cN,(am (show inR .i64 0 from ay (by decide))),(am (show inR .i64 70 from ay (by decide)))⟩}
 {
 have h:=aF e0 h;refine aR (ab (aj (sp E (aB E A8 rfl) rfl λa E=>?_)));refine st E (aA E hS ty3 rfl (i:=0) rfl (JS.R_drop (aC (cw.mono (qk Z (qk a0 (qk a2 a4))) a3)))) rfl ?_;rintro r8 a _ ⟨rfl,i1⟩ E;obtain⟨rfl,m9⟩:=aJ i1;refine qM E rfl λa E=>?_;obtain⟨d0,j4,h⟩:=ob h;refine st E (az (vs:=[(.int .i64 W.1.fKind),b0]) E rfl call48 (up (hS:=hS) m9 e3 j4)) rfl ?_;rintro p8 a w ⟨k3,a9,hS,h1⟩ E;refine st E (ci hS zeroValue34 rfl (cs:=sZ)) rfl ?_;rintro _ a w ⟨f0,rfl,hS⟩ E
 refine st0 E (bU E hS vF bp rfl rfl h1 (i:=0) rfl (vE _)) ?_;rintro _ w ⟨e4,d1,hS⟩ E;refine ag (ab (ab ?_));refine cF (λa w=>∃b7:Bool,i7 W l4 b7=some r/\∃m',M.le k3 m'/\S W0 m' w ((f0,e4)::(a1,b6)::L) (TL)/\Env 71 a [(5,pz a1),(9,b0),(67,.bool b7)]) ?_ ?_
 {
 refine aj (sp E (aB E uj rfl) rfl λa E=>?_);refine st E (aA E hS ty3 rfl (i:=0) rfl (JW.R_drop (aC d1))) rfl ?_;rintro p5 a _ ⟨rfl,h5⟩ E;obtain⟨rfl,o1⟩:=aJ h5;refine sp E (aB E uj rfl) rfl λa E=>?_;refine st E (aA E hS ty3 rfl (i:=1) rfl (JW.R_drop (aC (cw.mono (qk Z (qk a0 (qk a2 (qk a4 a9)))) a3)))) rfl ?_;rintro q5 a _ ⟨rfl,i3⟩ E;obtain⟨rfl,o0⟩:=aJ i3;refine qB E rfl rfl lx λa E=>qM E rfl λa E=>?_;rcases kz (d0.fNulls != W.1.fNulls) with hd205|hd205
 {have h:=aD hd205 h;refine qX E hd205 λa E=>qX E hd205 λa E=>qX E hd205 λa E=>qX E hd205 λa E=>qX E hd205 λa E=>qT E hd205 rfl λa E=>qM E rfl λa E=>qX E rfl λa E=>qX E rfl λa E=>qX E rfl λa E=>?_;refine qX E rfl λa E=>qX E rfl λa E=>qT E rfl rfl λa E=>ag ?_;exact⟨true,h,_,(Q0 _),(hS.pickT 1 [] rfl rfl rfl),kut E⟩}
 {
 have h:=aF hd205 h;refine spg E rfl rfl rfl rfl hd205 (aB E A6 rfl) rfl λa E=>?_;refine stg E rfl rfl rfl rfl hd205 (aA E hS eF rfl (i:=0) rfl (JU.R_drop (aC d1))) rfl ?_;rintro p3 a _ ⟨rfl,k6⟩ E;refine spg E rfl rfl rfl rfl hd205 (aB E A6 rfl) rfl λa E=>?_;refine stg E rfl rfl rfl rfl hd205 (aA E hS eF rfl (i:=1) rfl (JU.R_drop (aC (cw.mono (qk Z (qk a0 (qk a2 (qk a4 a9)))) a3)))) rfl ?_;rintro r1 a _ ⟨rfl,k7⟩ E;refine spg E rfl rfl rfl rfl hd205 (tD E xN rfl rfl k6 k7 rfl) rfl λa E=>qF E hd205 rfl λa E=>qM E rfl λa E=>?_
 rcases kz (!decide (d0.fMin=W.1.fMin)) with hd218|hd218
 {have h:=aD hd218 h;refine qX E hd218 λa E=>qX E hd218 λa E=>qX E hd218 λa E=>qX E hd218 λa E=>qX E hd218 λa E=>qT E hd218 rfl λa E=>ag ?_;exact⟨true,h,_,(Q0 _),(hS.pickT 1 [] rfl rfl rfl),kut E⟩}
 {
 have h:=aF hd218 h;refine spg E rfl rfl rfl rfl hd218 (aB E A7 rfl) rfl λa E=>?_;refine stg E rfl rfl rfl rfl hd218 (aA E hS eF rfl (i:=0) rfl (JV.R_drop (aC d1))) rfl ?_;rintro p4 a _ ⟨rfl,h0⟩ E;refine spg E rfl rfl rfl rfl hd218 (aB E A7 rfl) rfl λa E=>?_;refine stg E rfl rfl rfl rfl hd218 (aA E hS eF rfl (i:=1) rfl (JV.R_drop (aC (cw.mono (qk Z (qk a0 (qk a2 (qk a4 a9)))) a3)))) rfl ?_;rintro r2 a _ ⟨rfl,j2⟩ E;refine spg E rfl rfl rfl rfl hd218 (tD E xN rfl rfl h0 j2 rfl) rfl λa E=>qF E hd218 rfl λa E=>ag ?_
 exact⟨(!decide (d0.fMax=W.1.fMax)),h,_,(Q0 _),(hS.pickT 1 [] rfl rfl rfl),kut E⟩}}}
 {
 rintro a w ⟨b7,h,f6,c0,hS,E⟩;unfold i7 at h;refine kif E rfl (λc7=>?_) (λc7=>?_)
 {
 have h:=aD c7 h;refine ab (aj (qA E rfl λa E=>qA E rfl λa E=>qA E rfl λa E=>ag (bd ?_)));obtain rfl:=oi h
 try dsimp only
 refine Fin.mk E (rs:=[.tmp 2,.tmp 3,.tmp 4]) rfl (pQ.tmp E rfl (pQ.tmp E rfl (pQ.tmp E rfl pQ.nil))) ?_;exact⟨_,(qk a6 (qk Z (qk a0 (qk a2 (qk a4 (qk a9 c0)))))),(hS.dropL 2),_,_,_,rfl,cN,(am (show inR .i64 0 from ay (by decide))),(am (show inR .i64 70 from ay (by decide)))⟩}
 {
 have h:=aF c7 h;refine aR (ab ?_);refine kch (k:=4) (m:=f6) (es:=[]) (Φ:=(λi m ws v=>match i with|0=>v=b0|1=>v=(.pointer (some ⟨a1,11,none⟩))|2=>ei .i64 W.1.fBytes v|3=>v=b0|_=>True)) (Q:=(λc m ws L' c2=>match c with|0=>(f0,e4)::(a1,b6)::L=L'/\TL=c2|_=>False)) (cs:=[zR [(9,b0)],zR [(5,pz a1)],zR [],zR []]) mixed E hS ⟨rfl,rfl⟩ rfl rfl (by kernel_rfl) ?_ ?_ ?_ ?_
 {
 intro i m_ c5 ws v n_ q_
 iterate 4 (rcases i with _|i;exact q_)
 exact trivial}
 {
 intro c m_ c5 ws L_ T_ n_ a5
 match c,a5 with
 |0,⟨b3,b4⟩=>exact⟨b3,b4⟩
 |_+1,a5=>exact a5.elim}
 {
 refine⟨?_,?_,?_,?_,trivial⟩
 {exact cmv λ_ _=>rfl}
 {refine cp0 λ_ _ _ _ _ _ _ _ _ J E' _=>?_;exact cq (aB E' wN rfl) J rfl}
 {refine cp1 λ_ _ _ _ _ M' Q' J E' T'=>?_;obtain⟨rfl,rfl⟩:=Q';have E:=E'.add (T' 1);exact cr (aA E J ty3 rfl (i:=1) rfl (JX.R_drop (aC (cw.mono (qk Z (qk a0 (qk a2 (qk a4 (qk a9 (qk c0 M')))))) a3)))) J λ_ h=>aJ h}
 {refine cp0 λ_ _ _ _ _ _ _ _ _ J E' T'=>?_;have E:=E'.add (T' 0);exact cq (lc E rfl) J rfl}}
 {
 intro m6 L_ T_ r6 a w l3 e5 h8 hS g2 f5 m5 e8;obtain rfl:=gN l3;obtain⟨rfl,rfl⟩:=h8;have E:=eof 4 [(5,pz a1),(9,b0),(67,.bool b7)] g2 f5 m5;obtain⟨n1,m8⟩:=e8 2;have E:=(E.add n1).add (e8 3);refine qA E rfl λa E=>qA E rfl λa E=>ag (bd ?_);obtain rfl:=oi h
 try dsimp only
 refine Fin.mk E (rs:=[.tmp 2,.tmp 3,.tmp 4]) rfl (pQ.tmp E rfl (pQ.tmp E rfl (pQ.tmp E rfl pQ.nil))) ?_;exact⟨_,(qk a6 (qk Z (qk a0 (qk a2 (qk a4 (qk a9 (qk c0 e5))))))),(hS.dropL 2),_,_,_,rfl,(e3.mono (qk a9 (qk c0 e5))),(am m8),(am (show inR .i64 0 from ay (by decide)))⟩}}}}}}}
theorem vK (hS:S W0 m w L TL) {p0}(e5:RV (kSl (ai .u8)) m v0 p0) {p1}(h8:inR .i64 p1) {r}(h:iw p0 p1=some r):
    Calls prog 84 #[v0,(.int .i64 p1)] w (Ret λv w'=>∃m',M.le m m'/\S W0 m' w' L TL/\∃v0_ v1_:Value,v= .tuple #[v0_,v1_]/\RV (kSl kAp) m' v0_ r.1/\RV cm m' v1_ r.2):=by
 refine kc func84 ntmps84 λa E=>?_;have E:Env 42 a [(0,v0),(1,.int .i64 p1)]:=E;unfold iw at h;refine ab (aj (qA E rfl λa E=>qA E rfl λa E=>ag (ab (aj (qA E rfl λa E=>ag (ab ?_))))));refine cF (λa w=>∃x6:(List Ap),jF p1 x6=some r/\∃m',M.le m m'/\∃(v7:Value),RV (kSl kAp) m' v7 x6/\S W0 m' w L ((4,v7)::TL)/\Env 42 a [(1,.int .i64 p1),(6,v7)]) ?_ ?_
 {
 refine aW ?_;refine fw h (λ(s:List Int×List Ap) a w=>∃m',M.le m m'/\∃(W:Value),∃(J:Value),RV (kSl (ai .u8)) m' W s.1/\RV (kSl kAp) m' J s.2/\S W0 m' w L ((4,J)::TL)/\Env 42 a [(0,W),(1,.int .i64 p1),(6,J)]) ?_ ?_
 {exact⟨_,(Q0 _),v0,(.slice none 0 0),e5,cN,(hS.tail0 4),kut E⟩}
 {
 rintro ⟨c6,a3⟩ a w ⟨h6,c1,W,J,b1,b3,hS,E⟩ r25 h hb26;have h:ig p1 c6 a3=some r25:=h;unfold ig at h;refine ab (ab (aj (qM E rfl λa E=>sp E (aY (k:=(ai .u8)) E rfl rfl underlying24 b1) rfl λa E=>qB E rfl rfl mO λa E=>ag (kif E rfl (λc0=>?_) (λc0=>?_)))))
 {
 have h:=aD c0 h;refine aR (aW (ab (aj (qM E rfl λa E=>?_))));obtain⟨Z,h2,h⟩:=ob h;refine st E (az (vs:=[W]) E rfl call21 (Bi (hS:=hS) b1 h2)) rfl ?_;rintro _ a w ⟨f4,a1,hS,b0,i1,h5,rfl,d1,g3,g1⟩ E;obtain⟨rfl,f3⟩:=aJ g3;obtain⟨rfl,h3⟩:=aJ g1;refine qM E rfl λa E=>sp E (bn E rfl rfl) rfl λa E=>sp E (bn E rfl rfl) rfl λa E=>sp E (bn E rfl rfl) rfl λa E=>qA E rfl λa E=>qA E rfl λa E=>qA E rfl λa E=>ag (ab (ab ?_))
 refine cF (λa w=>∃a5:Bool,ie c6 a3 Z a5=some r25/\∃m',M.le f4 m'/\S W0 m' w L ((4,J)::TL)/\Env 42 a [(0,W),(1,.int .i64 p1),(6,J),(7,b0),(8,.int .i64 Z.2.1),(30,.bool a5)]) ?_ ?_
 {
 refine aj (qM E rfl λa E=>qB E rfl rfl lx λa E=>qM E rfl λa E=>?_);rcases kz (Z.2.2 != 0) with hd110|hd110
 {have h:=aD hd110 h;refine qX E hd110 λa E=>qX E hd110 λa E=>qX E hd110 λa E=>qX E hd110 λa E=>qX E hd110 λa E=>qX E hd110 λa E=>qX E hd110 λa E=>qX E hd110 λa E=>qT E hd110 rfl λa E=>ag ?_;exact⟨true,h,_,(Q0 _),hS,kut E⟩}
 {
 have h:=aF hd110 h;refine qG E hd110 rfl λa E=>spg E rfl rfl rfl rfl hd110 (aY (k:=kAp) E rfl rfl underlying22 d1) rfl λa E=>qG E hd110 rfl λa E=>qG E hd110 rfl λa E=>spg E rfl rfl rfl rfl hd110 (aY (k:=kAp) E rfl rfl underlying22 (b3.mono a1)) rfl λa E=>spg E rfl rfl rfl rfl hd110 (bh E rfl rfl (kR rfl)) rfl λa E=>spg E rfl rfl rfl rfl hd110 (vO E rfl rfl) rfl λa E=>spg E rfl rfl rfl rfl hd110 (bh E rfl rfl lx) rfl λa E=>qF E hd110 rfl λa E=>ag ?_
 exact⟨((Z.1.length:Int) != (if (Q1.wrap (p1 - (a3.length:Int)))<64 then Q1.wrap (p1 - (a3.length:Int)) else 64)),h,_,(Q0 _),hS,kut E⟩}}
 {
 rintro a w ⟨a5,h,e9,a4,hS,E⟩;unfold ie at h;refine kif E rfl (λb4=>?_) (λb4=>?_)
 {
 have h:=aD b4 h;refine ab (aj (qA E rfl λa E=>qA E rfl λa E=>ag (bd ?_)));have h:=cG h hb26;obtain rfl:=oi h
 try dsimp only
 refine f2 E ?_;exact⟨_,(qk c1 (qk a1 a4)),(hS.dropT 1),_,_,rfl,cN,cM⟩}
 {
 have h:=aF b4 h;refine aR ?_;obtain⟨a2,f6,c4,d2,h⟩:=ob2 h
 refine kch (k:=7) (m:=e9) (es:=[2]) (Φ:=(λi m ws v=>match i with|0=>v=J|1=>v=b0|2=>v=(wi ws 0).v/\RV (kSl kAp) m v a2|3=>v=W|4=>ei .i64 Z.2.1 v|5=>RV (kSl (ai .u8)) m v c4|6=>v=(wi ws 0).v/\RV (kSl kAp) m v a2|_=>True)) (Q:=(λc m ws L' c7=>match c with|0=>L=L'/\(4,J)::TL=c7|1=>L=L'/\(4,(wi ws 0).v)::TL=c7|_=>False)) (cs:=[zR [(6,J)],zR [(7,b0)],⟨0,0,true,[]⟩,⟨0,1,false,[(0,W)]⟩,⟨0,1,false,[(8,.int .i64 Z.2.1)]⟩,⟨0,1,false,[]⟩,⟨1,1,false,[]⟩]) mixed E hS ⟨rfl,rfl⟩ rfl rfl (by kernel_rfl) ?_ ?_ ?_ ?_
 {
 intro i m_ e6 ws v n_ q_
 iterate 7 (rcases i with _|i;first|exact q_|exact RV.mono q_ n_|exact⟨q_.1,RV.mono q_.2 n_⟩)
 exact trivial}
 {
 intro c m_ e6 ws L_ T_ n_ b2
 match c,b2 with
 |0,⟨b5,b6⟩=>exact⟨b5,b6⟩
 |1,⟨b5,b6⟩=>exact⟨b5,b6⟩
 |_+2,b2=>exact b2.elim}
 {
 refine⟨?_,?_,?_,?_,?_,?_,?_,trivial⟩
 {exact cmv λ_ _=>rfl}
 {exact cmv λ_ _=>rfl}
 {refine vR λe8 L_ T_ m' a' w' b7 M' Q' Z' E' T'=>?_;obtain rfl:=gN b7;obtain⟨rfl,rfl⟩:=Q';have E:=(E'.add (T' 0 (by decide) 31 rfl)).add (T' 1 (by decide) 32 rfl);refine aQ.imp (i9 (k:=kAp) (N:=3518437208883) E Z' rfl rfl underlying22 underlying22 A4 (i:=0) rfl (b3.mono (qk a1 (qk a4 M'))) (d1.mono (qk a4 M')) f6 rfl rfl) ?_;rintro a0 w ⟨h4,e4,hS,e3⟩;exact⟨_,⟨0,a0,[],[],[]⟩,_,_,e4,hS,⟨rfl,rfl⟩,⟨rfl,e3⟩⟩}
 {exact cmv λ_ _=>rfl}
 {exact cmv λ_ _=>⟨rfl,f3⟩}
 {refine cp0 λ_ _ _ _ _ _ _ M' _ Z' E' T'=>?_;have E:=(E'.add (T' 3)).add (T' 4).1;exact cr (dA (k:=(ai .u8)) E rfl underlying24 sizeOf5 (b1.mono (qk a1 (qk a4 M'))) ⟨_,rfl⟩ rfl d2 (xl:=(some (.tmp 35))) (xh:=none)) Z' λ_ h=>h}
 {
 refine DI λe8 p_ L_ T_ m' a' w' b7 P' M' Q' Z' E' T'=>?_;obtain⟨⟨_,a0,_,_,_⟩,rfl⟩:=w8 b7;obtain⟨h7,e1,a6⟩:∃v,a'.tmps.getD 33 undef=v/\(v=a0/\RV (kSl kAp) m' v a2):=⟨_,rfl,T' 2 (by decide) 33 rfl⟩
 obtain⟨c5,a6⟩:=a6;rw[c5] at a6;have E:=E'.add (e1.trans c5);refine aQ.imp (ax.pure (lc E rfl)) ?_;rintro _ _ ⟨rfl,rfl⟩;exact⟨_,Q0 _,Z',⟨rfl,a6⟩⟩}}
 {
 intro i0 L_ T_ g2 a w h0 g5 f0 hS f5 g6 e0 c2;obtain⟨⟨_,a0,_,_,_⟩,rfl⟩:=w8 h0;obtain⟨rfl,rfl⟩:=f0;have E:=eof 7 [(0,W),(1,.int .i64 p1),(7,b0),(8,.int .i64 Z.2.1),(30,.bool a5)] f5 g6 e0;obtain⟨g0,E,g4⟩:=adv E (c2 5);obtain⟨h9,h1,a9⟩:∃v,a.tmps.getD 6 undef=v/\(v=a0/\RV (kSl kAp) g2 v a2):=⟨_,rfl,c2 6⟩
 obtain⟨c3,a9⟩:=a9;rw[c3] at a9;have E:=E.add (h1.trans c3);refine qA E rfl λa E=>ag ?_;exact⟨(c4,a2),(Option.some.inj h).symm,_,(qk c1 (qk a1 (qk a4 g5))),g0,a0,g4,a9,hS,kut E⟩}}}}
 {have h:=aF c0 h;refine eG rfl rfl ?_;have h:=cG h hb26;exact⟨a3,h,_,c1,J,b3,hS,kut E⟩}}}
 {
 rintro a w ⟨x6,h,m4,e7,v7,d0,hS,E⟩;unfold jF at h;refine ab (aj (qM E rfl λa E=>qM E rfl λa E=>sp E (aY (k:=kAp) E rfl rfl underlying22 d0) rfl λa E=>qM E rfl λa E=>qB E rfl rfl ij λa E=>qA E rfl λa E=>qA E rfl λa E=>ag ?_));refine bd ?_;obtain rfl:=oi h
 try dsimp only
 refine f2 E ?_;exact⟨_,e7,(hS.dropT 1),_,_,rfl,d0,cM⟩}
def Fo:Kd aw:=pf (λx:aw=>(x.fColumns,x.fSort,())) (bF (ai .i64) (bF (kSl (ai .i64)) ve))
theorem Pz:Fld Fo (ai .i64) 0 (λx=>x.fColumns):=cx dX
theorem Hu:cR prog 50 ve:=⟨sizeOf50,isAgg50⟩
theorem tz  {W J:Nat}{a3 e1 c5:List Value}(hS:S W0 m w ((W,a3)::(J,e1)::L) (tls 4 c5++TL)) {p0}(e9:Fo.R m a3 p0){b3:Value}(p6:a3[2]? =some b3){pA:List aa}(p4:GR ae 2 m J e1 b3 pA c5) {p1}(r9:inR .i64 p1) {p2}(f3:RV (kSl kAp) m v2 p2) {r}(h:ii p0 pA p1 p2=some r):
    Calls prog 85 #[(pz W),(.int .i64 p1),v2] w (Ret λv w'=>∃m',M.le m m'/\∃q1_ rq_:List Value,S W0 m' w' ((W,a3)::(J,q1_)::L) (tls 4 rq_++TL)/\GR ae 2 m' J q1_ b3 r.2 rq_/\RV cm m' v r.1):=by
 refine kc func85 ntmps85 λa E=>?_;have E:Env 85 a [(0,pz W),(1,.int .i64 p1),(2,v2)]:=E;unfold ii at h;refine ab (aj (qA E rfl λa E=>ag (ab (ab (aj (qM E rfl λa E=>sp E (aY (k:=kAp) E rfl rfl underlying22 f3) rfl λa E=>qM E rfl λa E=>?_))))));refine ag ?_;refine cF (λa w=>∃x7:(List aa),im x7=some r/\∃m',M.le m m'/\∃(c3 c2:List Value),GR ae 2 m' J c3 b3 x7 c2/\S W0 m' w ((W,a3)::(J,c3)::L) (tls 4 c2++TL)/\Env 85 a []) ?_ ?_
 {
 refine aW ?_;refine fw h (λ(s:Int×List aa) a w=>∃m',M.le m m'/\∃(a5 a2:List Value),inR .i64 s.1/\GR ae 2 m' J a5 b3 s.2 a2/\S W0 m' w ((W,a3)::(J,a5)::L) (tls 4 a2++TL)/\Env 85 a [(0,pz W),(1,.int .i64 p1),(10,v2),(11,.int .i64 (p2.length:Int)),(12,.int .i64 s.1)]) ?_ ?_
 {exact⟨_,(Q0 _),e1,c5,(show inR .i64 0 from ay (by decide)),p4,hS,kut E⟩}
 {
 rintro ⟨b1,b0⟩ a w ⟨l4,a9,a5,a2,q4,a1,hS,E⟩ r19 h hb20;have h:dE p0 p1 p2 b1 b0=some r19:=h;unfold dE at h;refine ab (aj (qB E rfl rfl cC λa E=>ag (ab (kif E rfl (λe7=>?_) (λe7=>?_)))))
 {
 have h:=aD e7 h;refine aR (ab (aW (ab (aj (qM E rfl λa E=>?_)))));obtain⟨a4,j4,h⟩:=ob h;refine st E (ez (k:=kAp) E rfl rfl underlying22 sizeOf32 (f3.mono a9) j4) rfl ?_;rintro q7 a _ ⟨rfl,m1⟩ E;refine st E (aZ E hS eF rfl m1) rfl ?_;rintro r4 a _ ⟨rfl,o3⟩ E;refine st E (ci hS zeroValue32 rfl (cs:=ui)) rfl ?_;rintro _ a w ⟨a6,rfl,hS⟩ E;refine qA E rfl λa E=>?_;refine st0 E (bU E hS eF bp rfl rfl o3 (i:=0) rfl (pk _)) ?_;rintro _ w ⟨b4,b2,hS⟩ E
 refine ag (ab (aj (qM E rfl λa E=>sp E (bS E rfl) rfl λa E=>sp E (aB E l7 rfl) rfl λa E=>sp E (HJ E hS Hu rfl (i:=1) rfl p6 a1.1.one) rfl λa E=>qM E rfl λa E=>?_)));obtain⟨a0,n2,h⟩:=ob h;refine sp E (jZ (k:=ae) E rfl rfl underlying50 sizeOf59 a1.1 n2 rfl) rfl λa E=>qA E rfl λa E=>ag (ab (ab ?_))
 refine cF (λa w=>∃c0:Bool,dD p0 p1 b1 b0 a4 a0 c0=some r19/\∃m',M.le l4 m'/\S W0 m' w ((a6,b4)::(W,a3)::(J,a5)::L) (tls 4 a2++TL)/\Env 85 a [(0,pz W),(1,.int .i64 p1),(8,pz a6),(9,.pointer (some ⟨J,a0*4,none⟩)),(10,v2),(11,.int .i64 (p2.length:Int)),(12,.int .i64 b1),(38,.bool c0)]) ?_ ?_
 {
 refine aj (qM E rfl λa E=>qM E rfl λa E=>sp E (bS E rfl) rfl λa E=>sp E (aB E nC rfl) rfl λa E=>?_);refine st E (aA E hS ty3 rfl (i:=1) rfl (Pz.R_drop (aC (Fo.mono a9 e9)))) rfl ?_;rintro r2 a _ ⟨rfl,i1⟩ E;obtain⟨rfl,t9⟩:=aJ i1;refine qB E rfl rfl yR λa E=>qM E rfl λa E=>?_;rcases kz (decide (p0.fColumns<=p1)) with hd194|hd194
 {
 have h:=aD hd194 h;refine spg E rfl rfl rfl rfl hd194 (aB E A5 rfl) rfl λa E=>?_;refine stg E rfl rfl rfl rfl hd194 (aA E hS ty3 rfl (i:=0) rfl (JL.R_drop (aC b2))) rfl ?_;rintro q6 a _ ⟨rfl,i0⟩ E;obtain⟨rfl,q0⟩:=aJ i0;refine spg E rfl rfl rfl rfl hd194 (bh E rfl rfl lx) rfl λa E=>qG E hd194 rfl λa E=>?_;rcases kz (a4.fKind != 2) with hd201|hd201
 {have h:=aD hd201 h;refine qX E hd201 λa E=>qX E hd201 λa E=>qX E hd201 λa E=>spg E rfl rfl rfl rfl hd194 (rz E rfl hd201 rfl) rfl λa E=>qT E hd194 rfl λa E=>ag ?_;exact⟨true,h,_,(Q0 _),hS,kut E⟩}
 {have h:=aF hd201 h;refine spg E rfl rfl rfl rfl hd201 (aB E sc rfl) rfl λa E=>?_;refine stg E rfl rfl rfl rfl hd201 (aA E hS ty2 rfl (i:=0) rfl (JO.R_drop (aC b2))) rfl ?_;rintro s1 a _ ⟨rfl,h9⟩ E;obtain⟨rfl,s3⟩:=aJ h9;refine spg E rfl rfl rfl rfl hd201 (bh E rfl rfl cC) rfl λa E=>spg E rfl rfl rfl rfl hd194 (rA E rfl hd201 rfl) rfl λa E=>qT E hd194 rfl λa E=>ag ?_;exact⟨(decide (a4.fInt<0)),h,_,(Q0 _),hS,kut E⟩}}
 {have h:=aF hd194 h;refine qX E hd194 λa E=>qX E hd194 λa E=>qX E hd194 λa E=>qX E hd194 λa E=>sxu E rfl rfl rfl rfl λa E=>sxu E rfl rfl rfl rfl λa E=>sxu E rfl rfl rfl rfl λa E=>qX E hd194 λa E=>qF E hd194 rfl λa E=>ag ?_;exact⟨false,h,_,(Q0 _),hS,kut E⟩}}
 {
 rintro a w ⟨c0,h,f6,Z,hS,E⟩;unfold dD at h;refine kif E rfl (λc6=>?_) (λc6=>?_)
 {
 have h:=aD c6 h;refine ab (aj (qA E rfl λa E=>ag (bd ?_)));have h:=cG h hb20;obtain rfl:=oi h
 try dsimp only
 refine f1 E ?_;exact⟨_,(qk a9 Z),a5,a2,(hS.pickL 3 [1,2] rfl rfl rfl),(a1.mono Z),cM⟩}
 {
 have h:=aF c6 h;refine aR (ab (aj (qM E rfl λa E=>qM E rfl λa E=>sp E (bS E rfl) rfl λa E=>sp E (aB E nC rfl) rfl λa E=>?_)));refine st E (aA E hS ty3 rfl (i:=1) rfl (Pz.R_drop (aC (Fo.mono (qk a9 Z) e9)))) rfl ?_;rintro r8 a _ ⟨rfl,h5⟩ E;obtain⟨rfl,p8⟩:=aJ h5;refine qB E rfl rfl (kR rfl) λa E=>ag (aW (ab (aj (qB E rfl rfl ij λa E=>qA E rfl λa E=>ag ?_))))
 refine cF (λa w=>∃b7:(List aa),cQ b1 b7=some r19/\∃m',M.le f6 m'/\∃(b6 c4:List Value),GR ae 2 m' J b6 b3 b7 c4/\S W0 m' w ((a6,b4)::(W,a3)::(J,b6)::L) (tls 4 c4++TL)/\Env 85 a [(0,pz W),(1,.int .i64 p1),(10,v2),(11,.int .i64 (p2.length:Int)),(12,.int .i64 b1)]) ?_ ?_
 {
 refine kif E rfl (λe4=>?_) (λe4=>?_)
 {
 have h:=aD e4 h;refine aj (qM E rfl λa E=>sp E (aB E sc rfl) rfl λa E=>?_);refine st E (aA E hS ty2 rfl (i:=0) rfl (JO.R_drop (aC (kAp.mono Z b2)))) rfl ?_;rintro p7 a _ ⟨rfl,h7⟩ E;obtain⟨rfl,q3⟩:=aJ h7;refine sp E (fy E rfl underlying2 underlying54 rfl) rfl λa E=>sp E (bS E rfl) rfl λa E=>sp E (aB E pa rfl) rfl λa E=>sp E (aB E E8 rfl) rfl λa E=>?_;obtain⟨x82,i4,h⟩:=ob h;refine st0 E (tK (k:=ae) (o:=2) E hS Kg (zl wM A3 E3) (a1.mono Z) i4 rfl rfl (am (aI _ _)) (i:=2) rfl (by decide) (by decide)) ?_;rintro _ w ⟨n4,m4,hS⟩ E;refine ag ?_
 exact⟨(b0.set a0 ({ x82 with fId:={ x82.fId with fEpoch:=Q3.wrap a4.fInt } })),h,_,(Q0 _),n4,a2,m4,hS,kut E⟩}
 {
 have h:=aF e4 h;refine ab (aj (qB E rfl rfl ij λa E=>qA E rfl λa E=>ag (kif E rfl (λe6=>?_) (λe6=>?_))))
 {
 have h:=aD e6 h;refine ab (ab (aj (sp E (aB E sc rfl) rfl λa E=>?_)));refine st E (aA E hS ty2 rfl (i:=0) rfl (JO.R_drop (aC (kAp.mono Z b2)))) rfl ?_;rintro s2 a _ ⟨rfl,k5⟩ E;obtain⟨rfl,r0⟩:=aJ k5;refine qB E rfl rfl mO λa E=>ag (kif E rfl (λd1=>?_) (λd1=>?_))
 {
 have h:=aD d1 h;refine ab (aj (qA E rfl λa E=>ag (bd ?_)));have h:=cG h hb20;obtain rfl:=oi h
 try dsimp only
 refine f1 E ?_;exact⟨_,(qk a9 Z),a5,a2,(hS.pickL 3 [1,2] rfl rfl rfl),(a1.mono Z),cM⟩}
 {
 have h:=aF d1 h;refine aR (aj (qM E rfl λa E=>sp E (aB E sc rfl) rfl λa E=>?_));refine st E (aA E hS ty2 rfl (i:=0) rfl (JO.R_drop (aC (kAp.mono Z b2)))) rfl ?_;rintro r1 a _ ⟨rfl,o1⟩ E;obtain⟨rfl,t5⟩:=aJ o1;refine sp E (fy E rfl underlying2 underlying55 rfl) rfl λa E=>sp E (bS E rfl) rfl λa E=>sp E (aB E pa rfl) rfl λa E=>sp E (aB E E9 rfl) rfl λa E=>?_;obtain⟨x106,k4,h⟩:=ob h;refine st0 E (tK (k:=ae) (o:=2) E hS ON (zl wM A3 E4) (a1.mono Z) k4 rfl rfl (am (aI _ _)) (i:=2) rfl (by decide) (by decide)) ?_;rintro _ w ⟨h2,o0,hS⟩ E
 refine ag ?_;exact⟨(b0.set a0 ({ x106 with fId:={ x106.fId with fNumber:=IntKind.u32.wrap a4.fInt } })),h,_,(Q0 _),h2,a2,o0,hS,kut E⟩}}
 {
 have h:=aF e6 h;refine ab (aj (qB E rfl rfl ij λa E=>qA E rfl λa E=>ag (kif E rfl (λc7=>?_) (λc7=>?_))))
 {
 have h:=aD c7 h;refine aj (qM E rfl λa E=>sp E (aB E sc rfl) rfl λa E=>?_);refine st E (aA E hS ty2 rfl (i:=0) rfl (JO.R_drop (aC (kAp.mono Z b2)))) rfl ?_;rintro t3 a _ ⟨rfl,k0⟩ E;obtain⟨rfl,r6⟩:=aJ k0;refine sp E (fy E rfl underlying2 underlying54 rfl) rfl λa E=>sp E (bS E rfl) rfl λa E=>sp E (aB E Fa rfl) rfl λa E=>?_;obtain⟨x122,l2,h⟩:=ob h;refine st0 E (tK (k:=ae) (o:=2) E hS Kg E6 (a1.mono Z) l2 rfl rfl (am (aI _ _)) (i:=2) rfl (by decide) (by decide)) ?_;rintro _ w ⟨l1,n6,hS⟩ E;refine ag ?_
 exact⟨(b0.set a0 ({ x122 with fDeleted:=Q3.wrap a4.fInt })),h,_,(Q0 _),l1,a2,n6,hS,kut E⟩}
 {
 have h:=aF c7 h;obtain⟨g1,f4,e3,p5,h⟩:=ob2 h;obtain⟨b5,g6,e8⟩:=a1.row f4;obtain⟨g3,f0⟩:∃T,T=tls 4 (a2.eraseIdx a0)++TL:=⟨_,rfl⟩
 have hS:=hS.permT (FO g6 TL);rw[←f0] at hS
 refine kch (k:=8) (m:=f6) (es:=[7]) (Φ:=(λi m ws v=>match i with|0=>v=(.pointer (some ⟨J,a0*4,none⟩))|1=>v=(.pointer (some ⟨J,a0*4,none⟩))|2=>v=(.pointer (some ⟨J,a0*4,none⟩))|3=>v=(.pointer (some ⟨J,a0*4+2,none⟩))|4=>v=b5/\RV (kSl kAp) m v g1.fRow|5=>RV kAp m v a4|6=>RV (kSl kAp) m v ([a4])|7=>v=(wi ws 0).v/\RV (kSl kAp) m v e3|_=>True)) (Q:=(λc m ws L' g4=>match c with|0=>(a6,b4)::(W,a3)::(J,a5)::L=L'/\(4,b5)::g3=g4|1=>(a6,b4)::(W,a3)::(J,a5)::L=L'/\(4,(wi ws 0).v)::g3=g4|_=>False)) (cs:=[⟨0,1,false,[(9,.pointer (some ⟨J,a0*4,none⟩))]⟩,zR [(9,.pointer (some ⟨J,a0*4,none⟩))],zR [],zR [],zR [],zR [(8,pz a6)],zR [],⟨0,0,true,[]⟩]) mixed E hS ⟨rfl,rfl⟩ rfl rfl (by kernel_rfl) ?_ ?_ ?_ ?_
 {
 intro i m_ j1 ws v n_ q_
 iterate 8 (rcases i with _|i;first|exact q_|exact RV.mono q_ n_|exact⟨q_.1,RV.mono q_.2 n_⟩)
 exact trivial}
 {
 intro c m_ j1 ws L_ T_ n_ d0
 match c,d0 with
 |0,⟨d2,e0⟩=>exact⟨d2,e0⟩
 |1,⟨d2,e0⟩=>exact⟨d2,e0⟩
 |_+2,d0=>exact d0.elim}
 {
 refine⟨?_,?_,?_,?_,?_,?_,?_,?_,trivial⟩
 {exact cmv λ_ _=>rfl}
 {exact cmv λ_ _=>rfl}
 {refine cp0 λ_ _ _ _ _ _ _ _ _ Z' E' T'=>?_;have E:=E'.add (T' 1);exact cq (bS E rfl) Z' rfl}
 {refine cp0 λ_ _ _ _ _ _ _ _ _ Z' E' T'=>?_;have E:=E'.add (T' 2);exact cq (aB E mK rfl) Z' rfl}
 {refine cp1 λ_ _ _ _ _ M' Q' Z' E' T'=>?_;obtain⟨rfl,rfl⟩:=Q';have E:=E'.add (T' 3);have g2:=J1.R_drop (GS.elem (a1.1.mono (qk Z M')) f4);exact cq (sy (k:=kAp) (v:=b5) E Z' rq rfl (i:=2) rfl g2 e8) Z' ⟨rfl,yV g2 e8⟩}
 {refine cp1 λ_ _ _ _ _ M' Q' Z' E' _=>?_;obtain⟨rfl,rfl⟩:=Q';exact cr (aA E' Z' eF rfl (i:=0) rfl (aC (kAp.mono (qk Z M') b2))) Z' λ_ h=>h}
 {refine cp0 λ_ _ _ m' a' _ _ _ _ Z' E' T'=>?_;obtain⟨n3,E,k6⟩:=adv E' (T' 5);refine aQ.imp (jJ (k:=kAp) (xs:=[a4]) (vs:=[n3]) E Z' rfl underlying22 sizeOf32 zeroValue32 ⟨k6,trivial⟩ rfl (by decide)) ?_;rintro q5 w ⟨t4,i5,hS,m2⟩;exact⟨_,i5,(hS.dropT 1),m2⟩}
 {
 refine vR λr5 L_ T_ m' a' w' k7 M' Q' Z' E' T'=>?_;obtain rfl:=gN k7;obtain⟨rfl,rfl⟩:=Q';obtain⟨q2,m9,h8,m8⟩:∃v,a'.tmps.getD 49 undef=v/\(v=b5/\RV (kSl kAp) m' v g1.fRow):=⟨_,rfl,T' 4 (by decide) 49 rfl⟩
 subst h8;have E:=E'.add (m9);obtain⟨r7,E,k3⟩:=adv E (T' 6 (by decide) 51 rfl);refine aQ.imp (i9 (k:=kAp) (N:=3518437208883) E Z' rfl rfl underlying22 underlying22 A4 (i:=0) rfl m8 k3 p5 rfl rfl) ?_;rintro e5 w ⟨t1,l3,hS,o2⟩;exact⟨_,⟨0,e5,[],[],[]⟩,_,_,l3,hS,⟨rfl,rfl⟩,⟨rfl,o2⟩⟩}}
 {
 intro t0 L_ T_ i3 a w i2 g5 h0 hS m7 h4 j2 g0;obtain⟨⟨_,e5,_,_,_⟩,rfl⟩:=w8 i2;obtain⟨rfl,rfl⟩:=h0
 have E:=eof 8 [(0,pz W),(1,.int .i64 p1),(8,pz a6),(9,.pointer (some ⟨J,a0*4,none⟩)),(10,v2),(11,.int .i64 (p2.length:Int)),(12,.int .i64 b1),(38,.bool c0),(39,.int .i64 p1),(40,pz W),(41,pz W),(42,pz W),(43,.int .i64 p0.fColumns),(44,.int .i64 (Q1.wrap (p1 - p0.fColumns))),(55,.bool ((Q1.wrap (p1 - p0.fColumns))==0)),(56,.bool ((Q1.wrap (p1 - p0.fColumns))==0)),(64,.bool ((Q1.wrap (p1 - p0.fColumns))==1)),(65,.bool ((Q1.wrap (p1 - p0.fColumns))==1)),(76,.bool ((Q1.wrap (p1 - p0.fColumns))==2)),(77,.bool ((Q1.wrap (p1 - p0.fColumns))==2))] m7 h4 j2
 have E:=E.add (g0 0);obtain⟨q1,h1,c1⟩:∃v,a.tmps.getD 52 undef=v/\(v=e5/\RV (kSl kAp) i3 v e3):=⟨_,rfl,g0 7⟩
 obtain⟨f5,c1⟩:=c1;rw[f5] at c1;have E:=E.add (h1.trans f5);refine sp E (bS E rfl) rfl λa E=>sp E (aB E mK rfl) rfl λa E=>?_;obtain⟨x182,m3,h⟩:=ob h;refine st0 E (Bm (k:=ae) (o:=2) E hS rq E5 (a1.mono (qk Z g5)) m3 rfl rfl c1 (i:=2) rfl) ?_;rintro _ w ⟨n0,h3,hS⟩ E;refine ag ?_;rw[f0] at hS;have hS:=hS.permT (FP (List.getElem?_eq_some_iff.1 g6).1 TL);exact⟨(b0.set a0 ({ x182 with fRow:=e3 })),h,_,g5,n0,_,h3,hS,kut E⟩}}}}}
 {rintro a w ⟨b7,h,r3,h6,b6,c4,m6,hS,E⟩;unfold cQ at h;refine aj (qB E rfl rfl (cB rfl) λa E=>qM E rfl λa E=>ag ?_);exact⟨(Q1.wrap (b1+1),b7),(Option.some.inj h).symm,_,(qk a9 (qk Z h6)),b6,c4,(aI _ _),m6,(hS.pickL 3 [1,2] rfl rfl rfl),kut E⟩}}}}
 {have h:=aF e7 h;refine eG rfl rfl ?_;have h:=cG h hb20;exact⟨b0,h,_,a9,a5,a2,a1,hS,E.cut trivial⟩}}}
 {
 rintro a w ⟨x7,h,m5,n1,c3,c2,p3,hS,E⟩;unfold im at h;refine ab (aj (qA E rfl λa E=>ag (bd ?_)));obtain rfl:=oi h
 try dsimp only
 refine f1 E ?_;exact⟨_,n1,c3,c2,hS,p3,cM⟩}
theorem MA:Ctr Sz prog 138 [.rd (.sl (.st 59)),.rd (.sl (.st 59)),.f2 (.st 59) (.st 59) .bool] [.rd .bool] (λx=>ef x.1 x.2.1 x.2.2.1):=
 ncR [] [6] func138 ntmps138 (.s .o (.s .o (.s (.s .o (.b (.l ⟨[.v 17 1 (.dat (.int .i64) none)],[1,2,15,16],0,[]⟩ .o))) .o))) λx=>by kernel_rfl
theorem pp (hS:S W0 m w L TL) {p0}(a5:RV (kSl ae) m v0 p0) {p1}(a3:RV (kSl ae) m v1 p1) {p2}(a0:Fn2 prog ae ae cm m v2 p2) {r}(h:ef p0 p1 p2=some r):
    Calls prog 138 #[v0,v1,v2] w (Ret λv w'=>∃m',M.le m m'/\S W0 m' w' L TL/\RV cm m' v r):=by
 refine rm (MA W0 m w L TL [v0,v1,v2] (p0,p1,p2,()) r [] [] hS ⟨a5,⟨a3,⟨a0,trivial⟩⟩⟩ h) λv w' he=>?_;obtain⟨m',us,Lr,Lq,Tr,J,Z',rfl,Z,hO⟩:=he;obtain⟨u0,us,rfl,r0,a4⟩:=cE Z;obtain⟨rfl,rfl,rfl⟩:=bL a4;have a1:=bj hO;have W:=bj a1;have a2:=wo W;obtain rfl:=bM a2;exact⟨m',J,Z',r0⟩
theorem MB:Ctr Sz prog 139 [.rd (.st 59),.rd (.st 59)] [.rd .bool] (λx=>dZ x.1 x.2.1):=
 ncR [] [4] func139 ntmps139 .o λx=>by kernel_rfl
theorem qr (hS:S W0 m w L TL) {p0}(a3:RV ae m v0 p0) {p1}(a1:RV ae m v1 p1) {r}(h:dZ p0 p1=some r):
    Calls prog 139 #[v0,v1] w (Ret λv w'=>∃m',M.le m m'/\S W0 m' w' L TL/\RV cm m' v r):=by
 refine rm (MB W0 m w L TL [v0,v1] (p0,p1,()) r [] [] hS ⟨a3,⟨a1,trivial⟩⟩ h) λv w' he=>?_;obtain⟨m',us,Lr,Lq,Tr,J,Z',rfl,Z,hO⟩:=he;obtain⟨u0,us,rfl,r0,a2⟩:=cE Z;obtain⟨rfl,rfl,rfl⟩:=bL a2;have a0:=bj hO;have W:=bj a0;obtain rfl:=bM W;exact⟨m',J,Z',r0⟩
theorem MC {m0:M}:Fn2 prog ae ae cm m0 (.func (.func 139) #[] #[]) dZ:=by
  refine⟨139,_,rfl,call139,?_⟩;intro W0 m w L TL v0 v1 x0 x1 r hm hS Z h W;refine(qr (hS:=hS) Z h W).mono ?_;intro e w' J;cases e with
  |returned v=>obtain⟨m',h,h2,h3⟩:=J;exact⟨m',h,h2,h3⟩
  |panicked ch=>exact J.elim
  |outgrown=>exact J.elim
theorem sh (hS:S W0 m w L TL) {p0}(a0:RV (kPt aL) m v0 p0) {r}(h:gp p0=some r):
    Calls prog 86 #[v0] w (Ret λv w'=>∃m',M.le m m'/\S W0 m' w' L TL/\RV cm m' v r):=by
 refine kc func86 ntmps86 λa E=>?_;have E:Env 19 a [(0,v0)]:=E;unfold gp at h;refine ab (aj (qA E rfl λa E=>ag (ab ?_)));obtain⟨x2,a4,x7,a9,h⟩:=ob2 h
 refine kch (k:=8) (m:=m) (es:=[]) (Φ:=(λi m ws v=>match i with|0=>v=v0|1=>v=v0|2=>PR (kSl (ai .i64)) m v x2.fSort|3=>RV (kSl (ai .i64)) m v x2.fSort|4=>v=v0|5=>v=v0|6=>PR (kSl ae) m v x7.fL|7=>RV (kSl ae) m v x7.fL|_=>True)) (Q:=(λc m ws L' d1=>match c with|0=>L=L'/\TL=d1|_=>False)) (cs:=[zR [(0,v0)],zR [],zR [],zR [],zR [(0,v0)],zR [],zR [],zR []]) mixed E hS ⟨rfl,rfl⟩ rfl rfl (by kernel_rfl) ?_ ?_ ?_ ?_
 {
 intro i m_ c3 ws v n_ q_
 iterate 8 (rcases i with _|i;first|exact q_|exact PR.mono q_ n_|exact RV.mono q_ n_)
 exact trivial}
 {
 intro c m_ c3 ws L_ T_ n_ a1
 match c,a1 with
 |0,⟨e4,b0⟩=>exact⟨e4,b0⟩
 |_+1,a1=>exact a1.elim}
 {
 refine⟨?_,?_,?_,?_,?_,?_,?_,?_,trivial⟩
 {exact cmv λ_ _=>rfl}
 {refine cp0 λ_ _ _ _ _ _ _ Z _ J W T'=>?_;have E:=W.add (T' 0);exact cq (kC E rfl (a0.mono Z) a4) J rfl}
 {refine cp0 λ_ _ _ _ _ _ _ Z _ J W T'=>?_;have E:=W.add (T' 1);exact cr (ga E l6 sa rfl ((lC a0 a4).mono Z)) J λ_ h=>h}
 {
 refine cp0 λ_ _ _ m' a' _ _ _ _ J W T'=>?_;obtain⟨f3,c7,e8⟩:∃v,a'.tmps.getD 6 undef=v/\(PR (kSl (ai .i64)) m' v x2.fSort):=⟨_,rfl,T' 2⟩
 have E:=W.add (c7);exact cr (aZ E J lu rfl e8) J λ_ h=>h}
 {exact cmv λ_ _=>rfl}
 {refine cp0 λ_ _ _ _ _ _ _ Z _ J W T'=>?_;have E:=W.add (T' 4);exact cq (kC E rfl (a0.mono Z) a9) J rfl}
 {refine cp0 λ_ _ _ _ _ _ _ Z _ J W T'=>?_;have E:=W.add (T' 5);exact cr (ga E l7 oE rfl ((lC a0 a9).mono Z)) J λ_ h=>h}
 {
 refine cp0 λ_ _ _ m' a' _ _ _ _ J W T'=>?_;obtain⟨g2,c6,c4⟩:∃v,a'.tmps.getD 10 undef=v/\(PR (kSl ae) m' v x7.fL):=⟨_,rfl,T' 6⟩
 have E:=W.add (c6);exact cr (aZ E J oF rfl c4) J λ_ h=>h}}
 {
 intro f0 L_ T_ g1 a w c1 a3 e1 hS e0 b7 c0 a5;obtain rfl:=gN c1;obtain⟨rfl,rfl⟩:=e1;have E:=eof 8 [(0,v0),(2,.bool false)] e0 b7 c0;obtain⟨e7,E,b5⟩:=adv E (a5 3);obtain⟨b1,E,e6⟩:=adv E (a5 7);obtain⟨f4,d0,h⟩:=ob h;refine st E (az (vs:=[e7,b1]) E rfl call27 (ql (hS:=hS) b5 e6 d0)) rfl ?_;rintro b6 a w ⟨b2,a2,hS,c5⟩ E;refine qA E rfl λa E=>ag (ab (aj (qM E rfl λa E=>qM E rfl λa E=>?_)));obtain⟨g0,a6,h⟩:=ob h;refine sp E (kC E rfl (a0.mono (qk a3 a2)) a6) rfl λa E=>?_
 refine st E (ga E l7 oE rfl ((lC a0 a6).mono (qk a3 a2))) rfl ?_;rintro f5 a _ ⟨rfl,e3⟩ E;refine st E (aZ E hS oF rfl e3) rfl ?_;rintro d2 a _ ⟨rfl,b4⟩ E;obtain⟨g3,b3,h⟩:=ob h;refine st E (az (vs:=[b6,d2,(.func (.func 139) #[] #[])]) E rfl call138 (pp (hS:=hS) c5 b4 (MC (m0:=b2)) b3)) rfl ?_;rintro e9 a w ⟨f6,c2,hS,e5⟩ E;obtain rfl:=cT e5;refine qA E rfl λa E=>ag (bd ?_);obtain rfl:=oi h
 try dsimp only
 refine f1 E ?_;exact⟨_,(qk a3 (qk a2 c2)),hS,cM⟩}
theorem N4:StF Fo ve 2 (λx _=>x):=cy (bq (bq bp)) (λ_ _=>rfl)
theorem G2 {m:M}{cs:List Value}{x:aw}(h:aL.R m cs x):Fo.R m cs x:=by
  obtain⟨h0,W,Z⟩:=h;refine⟨h0,W,?_⟩;obtain⟨a,len,cap,J,_⟩:=Z;exact⟨_,J,rfl⟩
theorem IR {m:M}{cs:List Value}{x:aw}{v:Value}{l:List aa}(h:Fo.R m cs x)(hc:cs[2]? =some v)(hv:RV (kSl ae) m v l):aL.R m cs { x with fL:=l }:=by
  obtain⟨h0,h1,h2⟩:=h;refine⟨h0,h1,?_⟩;obtain⟨c,J,_⟩:=h2;have J:(cs.drop 1).drop 1=[c]:=J;rw[List.drop_drop] at J
  have:c=v:=by
    have W:(cs.drop 2)[0]? =some c:=by rw[show 2=1+1 from rfl,J];rfl
    rw[List.getElem?_drop,hc] at W;injection W with W;exact W.symm
  subst this;show(kSl ae).R m ((cs.drop 1).drop 1) l;rw[List.drop_drop,J];obtain⟨ds,hR,Z⟩:=hv;have hl:=(kSl ae).len hR
  match ds,hl,Z with
  | [d],_,Z=>
    have:c=d:=Z;subst this;exact hR
theorem oH (hS:S W0 m w L TL) {p0}(a1:RV (kSl (ai .u8)) m v0 p0) {r}(h:dH p0=some r):
    Calls prog 33 #[v0] w (Ret λv w'=>∃m',M.le m m'/\S W0 m' w' L TL/\∃v0_ v1_:Value,v= .tuple #[v0_,v1_]/\RV (kPt aL) m' v0_ r.1/\RV (ai .i64) m' v1_ r.2):=by
 refine kc func33 ntmps33 λa E=>?_;have E:Env 120 a [(0,v0)]:=E;unfold dH at h;refine ab (aj (qA E rfl λa E=>qA E rfl λa E=>ag (ab (aj (sp E (FM E rfl underlying120 (pl:=[(0,1),(1,1),(2,1)]) rfl zeroValue120) rfl λa E=>?_)))));refine st E (HK (zc:=ra) E hS rfl) rfl ?_;rintro _ a w ⟨Z,rfl,hS⟩ E;refine qA E rfl λa E=>ag (ab (ab ?_));refine cF (λa w=>∃f6:Bool,jn p0 f6=some r/\∃m',M.le m m'/\S W0 m' w ((Z,ra)::L) (TL)/\Env 120 a [(0,v0),(4,pz Z),(32,.bool f6)]) ?_ ?_
 {
 rcases kz (decide ((p0.length:Int)<4)) with hd364|hd364
 {
 have h:=aD hd364 h
 refine kch (k:=15) (m:=m) (es:=[]) (Φ:=(λi m ws v=>match i with|0=>v=v0|1=>ei .i64 (p0.length:Int) v|2=>v=(.bool (decide ((p0.length:Int)<4)))|3=>v=(.bool (decide ((p0.length:Int)<4)))|4=>v=undef|5=>v=undef|6=>v=undef|7=>v=undef|8=>v=undef|9=>v=undef|10=>v=undef|11=>v=undef|12=>v=undef|13=>v=undef|14=>v=undef|_=>True)) (Q:=(λc m ws L' c0=>match c with|0=>(Z,ra)::L=L'/\TL=c0|_=>False)) (cs:=[zR [(0,v0)],zR [],zR [],zR [],zR [(0,v0)],zR [(0,v0)],zR [],zR [],zR [],zR [],zR [(0,v0)],zR [(0,v0)],zR [],zR [],zR []]) mixed E hS ⟨rfl,rfl⟩ rfl rfl (by kernel_rfl) ?_ ?_ ?_ ?_
 {
 intro i m_ b3 ws v n_ q_
 iterate 15 (rcases i with _|i;exact q_)
 exact trivial}
 {
 intro c m_ b3 ws L_ T_ n_ a0
 match c,a0 with
 |0,⟨b4,b7⟩=>exact⟨b4,b7⟩
 |_+1,a0=>exact a0.elim}
 {
 refine⟨?_,?_,?_,?_,?_,?_,?_,?_,?_,?_,?_,?_,?_,?_,?_,trivial⟩
 {exact cmv λ_ _=>rfl}
 {refine cp0 λ_ _ _ _ _ _ _ M' _ J W T'=>?_;have E:=W.add (T' 0);exact cq (aY (k:=(ai .u8)) E rfl rfl underlying24 (a1.mono M')) J ⟨rfl,(dy (hU (a1.mono M')))⟩}
 {refine cp0 λ_ _ _ _ _ _ _ _ _ J W T'=>?_;have E:=W.add (T' 1).1;exact cq (bh E rfl rfl cC) J rfl}
 {refine cp0 λ_ _ _ _ _ _ _ _ _ J W T'=>?_;have E:=W.add (T' 2);exact cq (i8 E rfl) J rfl}
 {exact csk (gz hd364)}
 {exact csk (gz hd364)}
 {exact csk (gz hd364)}
 {exact csk (gz hd364)}
 {exact csk (gz hd364)}
 {exact csk (gz hd364)}
 {exact csk (gz hd364)}
 {exact csk (gz hd364)}
 {exact csk (gz hd364)}
 {exact csk (gz hd364)}
 {exact csk (gz hd364)}}
 {intro i1 L_ T_ T9 a w x5 n6 o3 hS R6 P7 P4 h3;obtain rfl:=gN x5;obtain⟨rfl,rfl⟩:=o3;have E:=eof 15 [(0,v0),(2,.pointer none),(3,.int .i64 0),(4,pz Z),(12,(.agg ra.toArray)),(13,pz Z)] R6 P7 P4;have E:=((E.add (h3 3)).add (h3 9)).add (h3 14);refine qX E hd364 λa E=>qX E hd364 λa E=>qX E hd364 λa E=>qT E hd364 rfl λa E=>ag ?_;exact⟨true,h,_,n6,hS,kut E⟩}}
 {
 have h:=aF hd364 h;obtain⟨r4,l2,k3,l4,h⟩:=ob2 h;obtain⟨L1,m5,h⟩:=ob h
 refine kch (k:=15) (m:=m) (es:=[]) (Φ:=(λi m ws v=>match i with|0=>v=v0|1=>ei .i64 (p0.length:Int) v|2=>v=(.bool (decide ((p0.length:Int)<4)))|3=>v=(.bool (decide ((p0.length:Int)<4)))|4=>v=v0|5=>v=v0|6=>ei .i64 (p0.length:Int) v|7=>ei .i64 (Q1.wrap ((p0.length:Int) - 4)) v|8=>RV (kSl (ai .u8)) m v r4|9=>ei .i64 k3 v|10=>v=v0|11=>v=v0|12=>ei .i64 (p0.length:Int) v|13=>ei .i64 (Q1.wrap ((p0.length:Int) - 4)) v|14=>RV (kSl (ai .u8)) m v L1|_=>True)) (Q:=(λc m ws L' c0=>match c with|0=>(Z,ra)::L=L'/\TL=c0|_=>False)) (cs:=[zR [(0,v0)],zR [],zR [],zR [],zR [(0,v0)],zR [(0,v0)],zR [],zR [],zR [],zR [],zR [(0,v0)],zR [(0,v0)],zR [],zR [],zR []]) mixed E hS ⟨rfl,rfl⟩ rfl rfl (by kernel_rfl) ?_ ?_ ?_ ?_
 {
 intro i m_ b3 ws v n_ q_
 iterate 15 (rcases i with _|i;first|exact q_|exact RV.mono q_ n_)
 exact trivial}
 {
 intro c m_ b3 ws L_ T_ n_ a0
 match c,a0 with
 |0,⟨b4,b7⟩=>exact⟨b4,b7⟩
 |_+1,a0=>exact a0.elim}
 {
 refine⟨?_,?_,?_,?_,?_,?_,?_,?_,?_,?_,?_,?_,?_,?_,?_,trivial⟩
 {exact cmv λ_ _=>rfl}
 {refine cp0 λ_ _ _ _ _ _ _ M' _ J W T'=>?_;have E:=W.add (T' 0);exact cq (aY (k:=(ai .u8)) E rfl rfl underlying24 (a1.mono M')) J ⟨rfl,(dy (hU (a1.mono M')))⟩}
 {refine cp0 λ_ _ _ _ _ _ _ _ _ J W T'=>?_;have E:=W.add (T' 1).1;exact cq (bh E rfl rfl cC) J rfl}
 {refine cp0 λ_ _ _ _ _ _ _ _ _ J W T'=>?_;have E:=W.add (T' 2);exact cq (i8 E rfl) J rfl}
 {exact cgm (gz hd364) (λ_ _=>rfl)}
 {exact cgm (gz hd364) (λ_ _=>rfl)}
 {refine cg0 (gz hd364) λ_ _ _ _ _ _ _ M' _ J W T'=>?_;have E:=W.add (T' 5);exact cq (aY (k:=(ai .u8)) E rfl rfl underlying24 (a1.mono M')) J ⟨rfl,(dy (hU (a1.mono M')))⟩}
 {refine cg0 (gz hd364) λ_ _ _ _ _ _ _ _ _ J W T'=>?_;have E:=W.add (T' 6).1;exact cq (bh E rfl rfl (kR rfl)) J ⟨rfl,(aI _ _)⟩}
 {refine cg0 (gz hd364) λ_ _ _ _ _ _ _ M' _ J W T'=>?_;have E:=(W.add (T' 4)).add (T' 7).1;exact cr (dA (k:=(ai .u8)) E rfl underlying24 sizeOf5 (a1.mono M') ⟨_,rfl⟩ rfl l2 (xl:=(some (.tmp 21))) (xh:=none)) J λ_ h=>h}
 {refine cg0 (gz hd364) λ_ _ _ m' a' _ _ _ _ J W T'=>?_;obtain⟨R5,E,R3⟩:=adv W (T' 8);refine aQ.imp (az (vs:=[R5]) E rfl call82 (kB (hS:=J) R3 l4)) ?_;rintro V8 w ⟨R8,w2,hS,m7⟩;obtain⟨rfl,r6⟩:=aJ m7;exact⟨_,w2,hS,⟨rfl,r6⟩⟩}
 {exact cgm (gz hd364) (λ_ _=>rfl)}
 {exact cgm (gz hd364) (λ_ _=>rfl)}
 {refine cg0 (gz hd364) λ_ _ _ _ _ _ _ M' _ J W T'=>?_;have E:=W.add (T' 11);exact cq (aY (k:=(ai .u8)) E rfl rfl underlying24 (a1.mono M')) J ⟨rfl,(dy (hU (a1.mono M')))⟩}
 {refine cg0 (gz hd364) λ_ _ _ _ _ _ _ _ _ J W T'=>?_;have E:=W.add (T' 12).1;exact cq (bh E rfl rfl (kR rfl)) J ⟨rfl,(aI _ _)⟩}
 {refine cg0 (gz hd364) λ_ _ _ _ _ _ _ M' _ J W T'=>?_;have E:=(W.add (T' 10)).add (T' 13).1;exact cr (dA (k:=(ai .u8)) E rfl underlying24 sizeOf5 (a1.mono M') rfl ⟨_,rfl⟩ m5 (xl:=none) (xh:=(some (.tmp 27)))) J λ_ h=>h}}
 {
 intro i1 L_ T_ U2 a w n2 P3 R0 hS P2 q7 p7 g4;obtain rfl:=gN n2;obtain⟨rfl,rfl⟩:=R0;have E:=eof 15 [(0,v0),(2,.pointer none),(3,.int .i64 0),(4,pz Z),(12,(.agg ra.toArray)),(13,pz Z)] P2 q7 p7;have E:=(E.add (g4 3)).add (g4 9).1;obtain⟨l1,E,P1⟩:=adv E (g4 14);obtain⟨k7,x8,h⟩:=ob h;refine stg E rfl rfl rfl rfl hd364 (az (vs:=[l1]) E rfl call78 (uX (hS:=hS) P1 x8)) rfl ?_;rintro V0 a w ⟨R9,q4,hS,r2⟩ E;obtain⟨rfl,V7⟩:=aJ r2
 refine spg E rfl rfl rfl rfl hd364 (fy E rfl underlying55 underlying3 rfl) rfl λa E=>spg E rfl rfl rfl rfl hd364 (bh E rfl rfl lx) rfl λa E=>qF E hd364 rfl λa E=>ag ?_;exact⟨(k3 != (Q1.wrap k7)),h,_,(qk P3 q4),hS,kut E⟩}}}
 {
 rintro a w ⟨f6,h,m8,a5,hS,E⟩;unfold jn at h;refine kif E rfl (λf3=>?_) (λf3=>?_)
 {
 have h:=aD f3 h;refine ab (aj (qA E rfl λa E=>qA E rfl λa E=>ag (bd ?_)));obtain rfl:=oi h
 try dsimp only
 refine f2 E ?_;exact⟨_,a5,(hS.dropL 1),_,_,rfl,(tJ (m:=m8) (k:=aL)),(am (show inR .i64 80 from ay (by decide)))⟩}
 {
 have h:=aF f3 h;refine aR (ab (aj (qM E rfl λa E=>qM E rfl λa E=>qM E rfl λa E=>sp E (aY (k:=(ai .u8)) E rfl rfl underlying24 (a1.mono a5)) rfl λa E=>qB E rfl rfl (kR rfl) λa E=>?_)));obtain⟨W3,y3,h⟩:=ob h;refine st E (dA (k:=(ai .u8)) E rfl underlying24 sizeOf5 (a1.mono a5) rfl ⟨_,rfl⟩ y3 (xl:=none) (xh:=(some (.tmp 38)))) rfl ?_;rintro z3 a _ ⟨rfl,k5⟩ E;obtain⟨r24,I2,h⟩:=ob h;refine st E (az (vs:=[(pz Z),z3]) E rfl call83 (tq (hS:=hS) k5 I2)) rfl ?_;rintro _ a w ⟨e6,d0,U9,hS,x2,T7,p5,U6,rfl,y4,z5,B0⟩ E
 obtain⟨rfl,x9⟩:=aJ y4;obtain rfl:=cT B0;refine qM E rfl λa E=>sp E (bn E rfl rfl) rfl λa E=>sp E (bn E rfl rfl) rfl λa E=>sp E (bn E rfl rfl) rfl λa E=>qA E rfl λa E=>qA E rfl λa E=>qA E rfl λa E=>ag (ab (ab ?_));refine aj (qM E rfl λa E=>sp E (kS E rfl) rfl λa E=>ag (kif E rfl (λh1=>?_) (λh1=>?_)))
 {
 have h:=aD h1 h;refine ab (aj (qA E rfl λa E=>qA E rfl λa E=>ag (bd ?_)));obtain rfl:=oi h
 try dsimp only
 refine f2 E ?_;exact⟨_,(qk a5 d0),(hS.dropL 1),_,_,rfl,(tJ (m:=e6) (k:=aL)),(am (show inR .i64 80 from ay (by decide)))⟩}
 {
 have h:=aF h1 h;refine aR (ab (aj (qM E rfl λa E=>qM E rfl λa E=>?_)));obtain⟨V6,z0,h⟩:=ob h;refine st E (FQ (k:=ae) (o:=2) (sz:=4) (m:=e6) E hS rfl rfl underlying50 type59 rfl rfl rfl (λm=>s4 m) z0 rfl rfl rfl) rfl ?_;rintro h4 a w ⟨b2,y0,s3,i3,hS⟩ E;refine sp E (bS E rfl) rfl λa E=>sp E (aB E l7 rfl) rfl λa E=>?_;refine st0 E (DR E hS Hu N4 rfl rfl i3.1.one (i:=1) rfl (G2 x2)) ?_;rintro _ w ⟨e0,h8,j2,hS⟩ E;refine ag (ab (ab (aj (qM E rfl λa E=>sp E (bS E rfl) rfl λa E=>sp E (aB E nC rfl) rfl λa E=>?_))))
 refine st E (aA E hS ty3 rfl (i:=1) rfl (Pz.R_drop (aC h8))) rfl ?_;rintro U1 a _ ⟨rfl,t0⟩ E;obtain⟨rfl,T2⟩:=aJ t0;refine qB E rfl rfl (cB rfl) λa E=>qM E rfl λa E=>ag ?_;refine cF (λa w=>∃a2:(List Int),∃d1:(List aa),k8 r24 a2 d1=some r/\∃m',M.le e6 m'/\∃(a4:Value),∃(h7:List Value),∃(h9:List Value),RV (kSl (ai .u8)) m' a4 a2/\GR ae 2 m' b2 h9 h4 d1 h7/\S W0 m' w ((b2,h9)::(Z,e0)::L) (tls 4 h7++TL)/\Env 120 a [(4,pz Z),(6,a4)]) ?_ ?_
 {
 refine aW ?_;refine fw h (λ(s:List Int×Int×List aa) a w=>∃m',M.le e6 m'/\∃(a9:Value),∃(c6:List Value),∃(c2:List Value),RV (kSl (ai .u8)) m' a9 s.1/\inR .i64 s.2.1/\GR ae 2 m' b2 c2 h4 s.2.2 c6/\S W0 m' w ((b2,c2)::(Z,e0)::L) (tls 4 c6++TL)/\Env 120 a [(4,pz Z),(5,.int .i64 r24.1),(6,a9),(55,.int .i64 (Q1.wrap (r24.2.2.2.fColumns+3))),(56,.int .i64 s.2.1)]) ?_ ?_
 {exact⟨_,(Q0 _),p5,s3,y0,z5,(show inR .i64 0 from ay (by decide)),i3,hS,kut E⟩}
 {
 rintro ⟨c4,b0,e5⟩ a w ⟨k6,c7,a9,c6,c2,c1,q2,h5,hS,E⟩ r261 h hb262;have h:fP r24 c4 b0 e5=some r261:=h;unfold fP at h;refine ab (aj (qB E rfl rfl cC λa E=>ag (ab (kif E rfl (λg3=>?_) (λg3=>?_)))))
 {
 have h:=aD g3 h;refine aR (ab (aW (ab (aj (qM E rfl λa E=>qA E rfl λa E=>ag (ab (ab ?_)))))));refine cF (λa w=>∃h2:Bool,jm r24 c4 b0 e5 h2=some r261/\∃m',M.le k6 m'/\S W0 m' w ((b2,c2)::(Z,e0)::L) (tls 4 c6++TL)/\Env 120 a [(4,pz Z),(5,.int .i64 r24.1),(6,a9),(8,.int .i64 b0),(55,.int .i64 (Q1.wrap (r24.2.2.2.fColumns+3))),(56,.int .i64 b0),(69,.bool h2)]) ?_ ?_
 {
 refine aj (qM E rfl λa E=>sp E (aY (k:=(ai .u8)) E rfl rfl underlying24 c1) rfl λa E=>qB E rfl rfl cC λa E=>qM E rfl λa E=>?_);rcases kz (decide ((c4.length:Int)<4)) with hd349|hd349
 {have h:=aD hd349 h;refine qX E hd349 λa E=>qX E hd349 λa E=>qX E hd349 λa E=>qX E hd349 λa E=>qX E hd349 λa E=>qX E hd349 λa E=>qT E hd349 rfl λa E=>ag ?_;exact⟨true,h,_,(Q0 _),hS,kut E⟩}
 {have h:=aF hd349 h;refine qG E hd349 rfl λa E=>spg E rfl rfl rfl rfl hd349 (aY (k:=(ai .u8)) E rfl rfl underlying24 c1) rfl λa E=>qG E hd349 rfl λa E=>?_;obtain⟨x7,r5,h⟩:=ob h;refine stg E rfl rfl rfl rfl hd349 (az (vs:=[a9]) E rfl call82 (kB (hS:=hS) c1 r5)) rfl ?_;rintro T8 a w ⟨V2,m6,hS,q6⟩ E;obtain⟨rfl,U8⟩:=aJ q6;refine spg E rfl rfl rfl rfl hd349 (bh E rfl rfl (cB rfl)) rfl λa E=>spg E rfl rfl rfl rfl hd349 (bh E rfl rfl cC) rfl λa E=>qF E hd349 rfl λa E=>ag ?_;exact⟨(decide ((c4.length:Int)<(Q1.wrap (4+x7)))),h,_,m6,hS,kut E⟩}}
 {
 rintro a w ⟨h2,h,m1,a3,hS,E⟩;unfold jm at h;refine kif E rfl (λh6=>?_) (λh6=>?_)
 {
 have h:=aD h6 h;refine ab (aj (qA E rfl λa E=>qA E rfl λa E=>ag (bd ?_)));have h:=cG h hb262;obtain rfl:=oi h
 try dsimp only
 refine f2 E ?_;exact⟨_,(qk a5 (qk d0 (qk c7 a3))),(S.dropR (hS.dropL 2)),_,_,rfl,(tJ (m:=m1) (k:=aL)),(am (show inR .i64 80 from ay (by decide)))⟩}
 {
 have h:=aF h6 h;refine aR (ab (aj (qM E rfl λa E=>?_)));obtain⟨k0,p3,h⟩:=ob h;refine st E (az (vs:=[a9]) E rfl call82 (kB (hS:=hS) (c1.mono a3) p3)) rfl ?_;rintro T3 a w ⟨W2,b6,hS,o2⟩ E;obtain⟨rfl,U5⟩:=aJ o2;refine qA E rfl λa E=>ag (ab (aj (qM E rfl λa E=>qM E rfl λa E=>qB E rfl rfl (cB rfl) λa E=>?_)));obtain⟨W1,t1,h⟩:=ob h;refine st E (dA (k:=(ai .u8)) E rfl underlying24 sizeOf5 (c1.mono (qk a3 b6)) ⟨_,rfl⟩ ⟨_,rfl⟩ t1 (xl:=(some (.const (.int .i64 4)))) (xh:=(some (.tmp 75)))) rfl ?_;rintro k4 a _ ⟨rfl,w0⟩ E
 refine qM E rfl λa E=>?_;obtain⟨n3,x4,h⟩:=ob h;refine st E (az (vs:=[k4,(.int .i64 r24.1)]) E rfl call84 (vK (hS:=hS) w0 x9 x4)) rfl ?_;rintro _ a w ⟨t3,c3,hS,P9,T6,rfl,R4,y1⟩ E;obtain rfl:=cT y1;refine qM E rfl λa E=>sp E (bn E rfl rfl) rfl λa E=>sp E (bn E rfl rfl) rfl λa E=>qA E rfl λa E=>qA E rfl λa E=>ag (ab (ab ?_))
 refine cF (λa w=>∃x307:Bool,∃e1:(List aa),jl c4 b0 k0 x307 e1=some r261/\∃m',M.le t3 m'/\∃(e7:List Value),∃(e9:List Value),GR ae 2 m' b2 e9 h4 e1 e7/\S W0 m' w ((b2,e9)::(Z,e0)::L) (tls 4 e7++TL)/\Env 120 a [(4,pz Z),(5,.int .i64 r24.1),(6,a9),(9,.int .i64 k0),(55,.int .i64 (Q1.wrap (r24.2.2.2.fColumns+3))),(56,.int .i64 b0),(89,.bool x307)]) ?_ ?_
 {
 refine aj (qM E rfl λa E=>sp E (kS E rfl) rfl λa E=>qM E rfl λa E=>?_);rcases kz (!n3.2) with hd329|hd329
 {have h:=aD hd329 h;refine qX E hd329 λa E=>qX E hd329 λa E=>qX E hd329 λa E=>qX E hd329 λa E=>qX E hd329 λa E=>qT E hd329 rfl λa E=>ag ?_;exact⟨true,e5,h,_,(Q0 _),c6,c2,(h5.mono (qk a3 (qk b6 c3))),hS,kut E⟩}
 {
 have h:=aF hd329 h;refine qG E hd329 rfl λa E=>qG E hd329 rfl λa E=>qG E hd329 rfl λa E=>?_;obtain⟨j1,n0,h⟩:=ob h;refine stg E rfl rfl rfl rfl hd329 (az (vs:=[(pz Z),(.int .i64 b0),P9]) E rfl call85 (tz (hS:=(hS.pickL 2 [1,0] rfl rfl rfl)) (Fo.mono (qk c7 (qk a3 (qk b6 c3))) h8) j2 (h5.mono (qk a3 (qk b6 c3))) q2 R4 n0)) rfl ?_;rintro U0 a w ⟨V4,u1,m9,y2,hS,m4,r0⟩ E;obtain rfl:=cT r0;refine spg E rfl rfl rfl rfl hd329 (kS E rfl) rfl λa E=>qF E hd329 rfl λa E=>ag ?_
 exact⟨(!j1.1),j1.2,h,_,u1,y2,m9,m4,(hS.pickL 2 [1,0] rfl rfl rfl),kut E⟩}}
 {
 rintro a w ⟨x307,e1,h,P0,g2,e7,e9,q3,hS,E⟩;unfold jl at h;refine kif E rfl (λi0=>?_) (λi0=>?_)
 {
 have h:=aD i0 h;refine ab (aj (qA E rfl λa E=>qA E rfl λa E=>ag (bd ?_)));have h:=cG h hb262;obtain rfl:=oi h
 try dsimp only
 refine f2 E ?_;exact⟨_,(qk a5 (qk d0 (qk c7 (qk a3 (qk b6 (qk c3 g2)))))),(S.dropR (hS.dropL 2)),_,_,rfl,(tJ (m:=P0) (k:=aL)),(am (show inR .i64 80 from ay (by decide)))⟩}
 {have h:=aF i0 h;refine aR (aj (qM E rfl λa E=>qM E rfl λa E=>qB E rfl rfl (cB rfl) λa E=>?_));obtain⟨n1,p6,h⟩:=ob h;refine st E (dA (k:=(ai .u8)) E rfl underlying24 sizeOf5 (c1.mono (qk a3 (qk b6 (qk c3 g2)))) ⟨_,rfl⟩ rfl p6 (xl:=(some (.tmp 92))) (xh:=none)) rfl ?_;rintro m3 a _ ⟨rfl,q5⟩ E;refine qA E rfl λa E=>ag (aj (qB E rfl rfl (cB rfl) λa E=>qM E rfl λa E=>ag ?_));exact⟨(n1,Q1.wrap (b0+1),e1),(Option.some.inj h).symm,_,(qk c7 (qk a3 (qk b6 (qk c3 g2)))),m3,e7,e9,q5,(aI _ _),q3,hS,kut E⟩}}}}}
 {have h:=aF g3 h;refine eG rfl rfl ?_;have h:=cG h hb262;exact⟨c4,e5,h,_,c7,a9,c6,c2,c1,h5,hS,kut E⟩}}}
 {
 rintro a w ⟨a2,d1,h,U3,g5,a4,h7,h9,d2,x1,hS,E⟩;unfold k8 at h;refine ab (ab ?_);have hS:=S.dropR hS;obtain⟨V3,b1,hS,z1⟩:=S.freeze hS x1.1;obtain⟨f0,c5,hS,a6⟩:=S.freezeL (k:=aL) (xx:=({ r24.2.2.2 with fL:=d1 })) hS (IR (Fo.mono (qk g5 b1) h8) j2 z1);refine cF (λa w=>∃f5:Bool,jk r24 d1 f5=some r/\∃m',M.le f0 m'/\S W0 m' w L TL/\Env 120 a [(4,pz Z),(118,.bool f5)]) ?_ ?_
 {
 rcases kz (decide (0<(a2.length:Int))) with hd100|hd100
 {
 have h:=aD hd100 h
 refine kch (k:=16) (m:=f0) (es:=[]) (Φ:=(λi m ws v=>match i with|0=>v=a4|1=>ei .i64 (a2.length:Int) v|2=>v=(.bool (decide (0<(a2.length:Int))))|3=>v=(.bool (decide (0<(a2.length:Int))))|4=>v=undef|5=>v=undef|6=>v=undef|7=>v=undef|8=>v=undef|9=>v=undef|10=>v=undef|11=>v=undef|12=>v=undef|13=>v=undef|14=>v=undef|15=>v=undef|_=>True)) (Q:=(λc m ws L' c0=>match c with|0=>L=L'/\TL=c0|_=>False)) (cs:=[zR [(6,a4)],zR [],zR [],zR [],zR [(4,pz Z)],zR [],zR [],zR [],zR [(4,pz Z)],zR [],zR [],zR [],zR [(4,pz Z)],zR [],zR [],zR []]) mixed E hS ⟨rfl,rfl⟩ rfl rfl (by kernel_rfl) ?_ ?_ ?_ ?_
 {
 intro i m_ b3 ws v n_ q_
 iterate 16 (rcases i with _|i;exact q_)
 exact trivial}
 {
 intro c m_ b3 ws L_ T_ n_ a0
 match c,a0 with
 |0,⟨b4,b7⟩=>exact⟨b4,b7⟩
 |_+1,a0=>exact a0.elim}
 {
 refine⟨?_,?_,?_,?_,?_,?_,?_,?_,?_,?_,?_,?_,?_,?_,?_,?_,trivial⟩
 {exact cmv λ_ _=>rfl}
 {refine cp0 λ_ _ _ _ _ _ _ M' _ J W T'=>?_;have E:=W.add (T' 0);exact cq (aY (k:=(ai .u8)) E rfl rfl underlying24 (d2.mono (qk b1 (qk c5 M')))) J ⟨rfl,(dy (hU (d2.mono (qk b1 (qk c5 M')))))⟩}
 {refine cp0 λ_ _ _ _ _ _ _ _ _ J W T'=>?_;have E:=W.add (T' 1).1;exact cq (bh E rfl rfl mO) J rfl}
 {refine cp0 λ_ _ _ _ _ _ _ _ _ J W T'=>?_;have E:=W.add (T' 2);exact cq (i8 E rfl) J rfl}
 {exact csk (gz hd100)}
 {exact csk (gz hd100)}
 {exact csk (gz hd100)}
 {exact csk (gz hd100)}
 {exact csk (gz hd100)}
 {exact csk (gz hd100)}
 {exact csk (gz hd100)}
 {exact csk (gz hd100)}
 {exact csk (gz hd100)}
 {exact csk (gz hd100)}
 {exact csk (gz hd100)}
 {exact csk (gz hd100)}}
 {intro i1 L_ T_ T4 a w p8 l3 P5 hS x3 r7 t9 e4;obtain rfl:=gN p8;obtain⟨rfl,rfl⟩:=P5;have E:=eof 16 [(4,pz Z),(6,a4)] x3 r7 t9;have E:=(((E.add (e4 3)).add (e4 7)).add (e4 11)).add (e4 15);refine qX E hd100 λa E=>qX E hd100 λa E=>qT E hd100 rfl λa E=>qM E rfl λa E=>qX E rfl λa E=>qX E rfl λa E=>qX E rfl λa E=>qT E rfl rfl λa E=>ag ?_;exact⟨true,h,_,l3,hS,kut E⟩}}
 {
 have h:=aF hd100 h;obtain⟨e3,i5,f4,i4,h⟩:=ob2 h;obtain⟨h0,j4,h⟩:=ob h
 refine kch (k:=16) (m:=f0) (es:=[]) (Φ:=(λi m ws v=>match i with|0=>v=a4|1=>ei .i64 (a2.length:Int) v|2=>v=(.bool (decide (0<(a2.length:Int))))|3=>v=(.bool (decide (0<(a2.length:Int))))|4=>v=(pz Z)|5=>v=(pz Z)|6=>PR (ai .i64) m v e3.fColumns|7=>ei .i64 e3.fColumns v|8=>v=(pz Z)|9=>v=(pz Z)|10=>PR (kSl (ai .i64)) m v f4.fSort|11=>RV (kSl (ai .i64)) m v f4.fSort|12=>v=(pz Z)|13=>v=(pz Z)|14=>PR (kSl ae) m v h0.fL|15=>RV (kSl ae) m v h0.fL|_=>True)) (Q:=(λc m ws L' c0=>match c with|0=>L=L'/\TL=c0|_=>False)) (cs:=[zR [(6,a4)],zR [],zR [],zR [],zR [(4,pz Z)],zR [],zR [],zR [],zR [(4,pz Z)],zR [],zR [],zR [],zR [(4,pz Z)],zR [],zR [],zR []]) mixed E hS ⟨rfl,rfl⟩ rfl rfl (by kernel_rfl) ?_ ?_ ?_ ?_
 {
 intro i m_ b3 ws v n_ q_
 iterate 16 (rcases i with _|i;first|exact q_|exact PR.mono q_ n_|exact RV.mono q_ n_)
 exact trivial}
 {
 intro c m_ b3 ws L_ T_ n_ a0
 match c,a0 with
 |0,⟨b4,b7⟩=>exact⟨b4,b7⟩
 |_+1,a0=>exact a0.elim}
 {
 refine⟨?_,?_,?_,?_,?_,?_,?_,?_,?_,?_,?_,?_,?_,?_,?_,?_,trivial⟩
 {exact cmv λ_ _=>rfl}
 {refine cp0 λ_ _ _ _ _ _ _ M' _ J W T'=>?_;have E:=W.add (T' 0);exact cq (aY (k:=(ai .u8)) E rfl rfl underlying24 (d2.mono (qk b1 (qk c5 M')))) J ⟨rfl,(dy (hU (d2.mono (qk b1 (qk c5 M')))))⟩}
 {refine cp0 λ_ _ _ _ _ _ _ _ _ J W T'=>?_;have E:=W.add (T' 1).1;exact cq (bh E rfl rfl mO) J rfl}
 {refine cp0 λ_ _ _ _ _ _ _ _ _ J W T'=>?_;have E:=W.add (T' 2);exact cq (i8 E rfl) J rfl}
 {exact cgm (gz hd100) (λ_ _=>rfl)}
 {refine cg0 (gz hd100) λ_ _ _ _ _ _ _ M' _ J W T'=>?_;have E:=W.add (T' 4);exact cq (kC E rfl ((qw a6).mono M') i5) J rfl}
 {refine cg0 (gz hd100) λ_ _ _ _ _ _ _ M' _ J W T'=>?_;have E:=W.add (T' 5);exact cr (ga E nC Cc rfl ((lC (qw a6) i5).mono M')) J λ_ h=>h}
 {
 refine cg0 (gz hd100) λ_ _ _ m' a' _ _ _ _ J W T'=>?_;obtain⟨W4,m2,q0⟩:∃v,a'.tmps.getD 101 undef=v/\(PR (ai .i64) m' v e3.fColumns):=⟨_,rfl,T' 6⟩
 have E:=W.add (m2);exact cr (aZ E J ty3 rfl q0) J λ_ h=>aJ h}
 {exact cgm (gz hd100) (λ_ _=>rfl)}
 {refine cg0 (gz hd100) λ_ _ _ _ _ _ _ M' _ J W T'=>?_;have E:=W.add (T' 8);exact cq (kC E rfl ((qw a6).mono M') i4) J rfl}
 {refine cg0 (gz hd100) λ_ _ _ _ _ _ _ M' _ J W T'=>?_;have E:=W.add (T' 9);exact cr (ga E l6 sa rfl ((lC (qw a6) i4).mono M')) J λ_ h=>h}
 {
 refine cg0 (gz hd100) λ_ _ _ m' a' _ _ _ _ J W T'=>?_;obtain⟨V5,r9,u2⟩:∃v,a'.tmps.getD 105 undef=v/\(PR (kSl (ai .i64)) m' v f4.fSort):=⟨_,rfl,T' 10⟩
 have E:=W.add (r9);exact cr (aZ E J lu rfl u2) J λ_ h=>h}
 {exact cgm (gz hd100) (λ_ _=>rfl)}
 {refine cg0 (gz hd100) λ_ _ _ _ _ _ _ M' _ J W T'=>?_;have E:=W.add (T' 12);exact cq (kC E rfl ((qw a6).mono M') j4) J rfl}
 {refine cg0 (gz hd100) λ_ _ _ _ _ _ _ M' _ J W T'=>?_;have E:=W.add (T' 13);exact cr (ga E l7 oE rfl ((lC (qw a6) j4).mono M')) J λ_ h=>h}
 {
 refine cg0 (gz hd100) λ_ _ _ m' a' _ _ _ _ J W T'=>?_;obtain⟨V1,t4,r8⟩:∃v,a'.tmps.getD 109 undef=v/\(PR (kSl ae) m' v h0.fL):=⟨_,rfl,T' 14⟩
 have E:=W.add (t4);exact cr (aZ E J oF rfl r8) J λ_ h=>h}}
 {
 intro i1 L_ T_ T5 a w w3 g1 s1 hS u0 r1 w4 e8;obtain rfl:=gN w3;obtain⟨rfl,rfl⟩:=s1;have E:=eof 16 [(4,pz Z),(6,a4)] u0 r1 w4;have E:=E.add (e8 3);obtain⟨z8,o1⟩:=e8 7;have E:=E.add z8;obtain⟨p4,E,z9⟩:=adv E (e8 11);obtain⟨z4,E,w1⟩:=adv E (e8 15);obtain⟨P6,o0,h⟩:=ob h;refine stg E rfl rfl rfl rfl hd100 (az (vs:=[(.int .i64 e3.fColumns),p4,z4]) E rfl call74 (jI (hS:=hS) o1 z9 w1 o0)) rfl ?_;rintro T1 a w ⟨R7,i2,hS,q1⟩ E;obtain⟨rfl,U7⟩:=aJ q1
 refine spg E rfl rfl rfl rfl hd100 (bh E rfl rfl lx) rfl λa E=>qF E hd100 rfl λa E=>qM E rfl λa E=>?_;rcases kz (P6 != 0) with hd239|hd239
 {have h:=aD hd239 h;refine qX E hd239 λa E=>qX E hd239 λa E=>qX E hd239 λa E=>qT E hd239 rfl λa E=>ag ?_;exact⟨true,h,_,(qk g1 i2),hS,kut E⟩}
 {have h:=aF hd239 h;refine qG E hd239 rfl λa E=>?_;obtain⟨s2,r3,h⟩:=ob h;refine stg E rfl rfl rfl rfl hd239 (az (vs:=[(pz Z)]) E rfl call86 (sh (hS:=hS) ((qw a6).mono (qk g1 i2)) r3)) rfl ?_;rintro V9 a w ⟨U4,t5,hS,P8⟩ E;obtain rfl:=cT P8;refine spg E rfl rfl rfl rfl hd239 (kS E rfl) rfl λa E=>qF E hd239 rfl λa E=>ag ?_;exact⟨(!s2),h,_,(qk g1 (qk i2 t5)),hS,kut E⟩}}}}
 {
 rintro a w ⟨f5,h,n4,g0,hS,E⟩;unfold jk at h;refine kif E rfl (λg6=>?_) (λg6=>?_)
 {
 have h:=aD g6 h;refine ab (aj (qA E rfl λa E=>qA E rfl λa E=>ag (bd ?_)));obtain rfl:=oi h
 try dsimp only
 refine f2 E ?_;exact⟨_,(qk a5 (qk d0 (qk g5 (qk b1 (qk c5 g0))))),hS,_,_,rfl,(tJ (m:=n4) (k:=aL)),(am (show inR .i64 80 from ay (by decide)))⟩}
 {
 have h:=aF g6 h;refine aR (ab (aj (qM E rfl λa E=>qA E rfl λa E=>qA E rfl λa E=>ag (bd ?_))));obtain rfl:=oi h
 try dsimp only
 refine f2 E ?_;exact⟨_,(qk a5 (qk d0 (qk g5 (qk b1 (qk c5 g0))))),hS,_,_,rfl,((qw a6).mono g0),(am (show inR .i64 0 from ay (by decide)))⟩}}}}}}
theorem N5:Ctr Sz prog 33 [.rd (.sl (.int .u8))] [.rd (.st 65),.rd (.int .i64)] (λx=>dH x.1):=by
 intro W0 m w L TL vs x r Lp Tp hS Z h;obtain⟨v0,vs,rfl,a0,a1⟩:=iM Z;obtain⟨rfl,rfl,rfl⟩:=mp a1;refine rm (oH (hS:=hS) a0 h) λv w' he=>?_;obtain⟨m',J,W,u0,u1,rfl,r0,r1⟩:=he;exact⟨m',[u0,u1],[],[],[],J,W,rfl,⟨r0,⟨r1,trivial⟩⟩,trivial⟩
def N6:=mC N5 call33
theorem si (hS:S W0 m w L TL) {p0}(a1:RV ae m v0 p0) {p1}(W:PR br m v1 p1) {r}(h:cI p0 p1=some r):
    Calls prog 91 #[v0,v1] w (Ret λv w'=>∃m',M.le m m'/\S W0 m' w' L TL/\RV cm m' v r):=by
 refine kc func91 ntmps91 λa E=>?_;have E:Env 8 a [(0,v0),(1,v1)]:=E;unfold cI at h;refine ab (aj ?_);refine st E (g8 (k:=ae) E hS rfl a1) rfl ?_;rintro _ a w ⟨b1,a3,rfl,Z,hS⟩ E;refine qA E rfl λa E=>ag (ab (aj (sp E (aB E pa rfl) rfl λa E=>?_)));refine st E (aA E hS vH rfl (i:=0) rfl (wM.R_drop (aC Z))) rfl ?_;rintro v8 a _ ⟨rfl,a0⟩ E;refine st E (aZ E hS vH rfl W) rfl ?_;rintro a2 a _ ⟨rfl,J⟩ E;refine sp E (vP E Ki rfl rfl a0 J rfl) rfl λa E=>qA E rfl λa E=>ag (bd ?_);obtain rfl:=oi h
 try dsimp only
 refine f1 E ?_;exact⟨_,(Q0 _),(hS.dropL 1),cM⟩
theorem N7:Ctr Sz prog 90 [.rd (.sl (.st 59)),.f1 (.st 59) .bool] [.rd (.int .i64)] (λx=>eh x.1 x.2.1):=
 ncR [] [4] func90 ntmps90 (.s .o (.s (.s .o (.b (.l ⟨[.v 8 1 (.dat (.int .i64) none)],[0,1,7],0,[]⟩ .o))) .o)) λx=>by kernel_rfl
theorem pq (hS:S W0 m w L TL) {p0}(a3:RV (kSl ae) m v0 p0) {p1}(a1:Fn1 prog ae cm m v1 p1) {r}(h:eh p0 p1=some r):
    Calls prog 90 #[v0,v1] w (Ret λv w'=>∃m',M.le m m'/\S W0 m' w' L TL/\RV (ai .i64) m' v r):=by
 refine rm (N7 W0 m w L TL [v0,v1] (p0,p1,()) r [] [] hS ⟨a3,⟨a1,trivial⟩⟩ h) λv w' he=>?_;obtain⟨m',us,Lr,Lq,Tr,J,Z',rfl,Z,hO⟩:=he;obtain⟨u0,us,rfl,r0,a2⟩:=cE Z;obtain⟨rfl,rfl,rfl⟩:=bL a2;have a0:=bj hO;have W:=Hh a0;obtain rfl:=bM W;exact⟨m',J,Z',r0⟩
theorem N8 {m0:M}{J:Value}{W:aK}(a0:PR br m0 J W):Fn1 prog ae cm m0 (.func (.func 91) #[] #[J]) (λx0=>cI x0 W):=by
  refine⟨91,_,rfl,call91,?_⟩;intro W0 m w L TL v0 x0 r hm hS h0 Z;refine(si (hS:=hS) h0 (a0.mono hm) Z).mono ?_;intro e w' h;cases e with
  |returned v=>obtain⟨m',h1,h2,h3⟩:=h;exact⟨m',h1,h2,h3⟩
  |panicked ch=>exact h.elim
  |outgrown=>exact h.elim
theorem tA (hS:S W0 m w L TL) {p0}(Z:RV (kPt aL) m v0 p0) {p1}(b4:RV br m v1 p1) {r}(h:fX p0 p1=some r):
    Calls prog 37 #[v0,v1] w (Ret λv w'=>∃m',M.le m m'/\S W0 m' w' L TL/\∃v0_ v1_:Value,v= .tuple #[v0_,v1_]/\RV (ai .i64) m' v0_ r.1/\RV cm m' v1_ r.2):=by
 refine kc func37 ntmps37 λa E=>?_;have E:Env 17 a [(0,v0),(1,v1)]:=E;unfold fX at h;refine ab (aj ?_);refine st E (g8 (k:=br) E hS rfl b4) rfl ?_;rintro _ a w ⟨b1,b7,rfl,a5,hS⟩ E;refine qA E rfl λa E=>qA E rfl λa E=>ag (ab (aj (qM E rfl λa E=>?_)));obtain⟨x8,J,h⟩:=ob h;refine sp E (kC E rfl Z J) rfl λa E=>?_;refine st E (ga E l7 oE rfl (lC Z J)) rfl ?_;rintro c2 a _ ⟨rfl,a3⟩ E;refine st E (aZ E hS oF rfl a3) rfl ?_;rintro a0 a _ ⟨rfl,a1⟩ E;obtain⟨c0,W,hS,a4⟩:=S.freezeL (k:=br) hS a5;refine sp E (ly E rfl rfl) rfl λa E=>?_
 obtain⟨c3,a2,h⟩:=ob h;refine st E (az (vs:=[a0,(.func (.func 91) #[] #[(pz b1)])]) E rfl call90 (by have a6:=(a1.mono W);have b5:=(N8 a4);exact pq (p0:=x8.fL) (p1:=(λb2=>cI b2 p1)) (hS:=hS) a6 b5 a2)) rfl ?_;rintro c1 a w ⟨b6,b3,hS,a9⟩ E;obtain⟨rfl,b0⟩:=aJ a9;refine qA E rfl λa E=>ag (ab (aj (qM E rfl λa E=>sp E (DB E rfl rfl) rfl λa E=>qM E rfl λa E=>qB E rfl rfl yR λa E=>qA E rfl λa E=>qA E rfl λa E=>?_)));refine ag (bd ?_);obtain rfl:=oi h
 try dsimp only
 refine f2 E ?_;exact⟨_,(qk W b3),hS,_,_,rfl,(am (Bz b0 (show inR .i64 0 from ay (by decide)))),cM⟩
theorem N9:Ctr Sz prog 37 [.rd (.st 65),.rd (.st 57)] [.rd (.int .i64),.rd .bool] (λx=>fX x.1 x.2.1):=by
 intro W0 m w L TL vs x r Lp Tp hS Z h;obtain⟨v0,vs,rfl,a0,a3⟩:=iM Z;obtain⟨v1,vs,rfl,a1,a2⟩:=iM a3;obtain⟨rfl,rfl,rfl⟩:=mp a2;refine rm (tA (hS:=hS) a0 a1 h) λv w' he=>?_;obtain⟨m',J,W,u0,u1,rfl,r0,r1⟩:=he;exact⟨m',[u0,u1],[],[],[],J,W,rfl,⟨r0,⟨r1,trivial⟩⟩,trivial⟩
def Oa:=mC N9 call37
theorem Ob:Ctr Sz prog 35 [.rd (.st 65)] [.rd (.int .i64)] (λx=>qb x.1):=
 ncR [] [2] func35 ntmps35 .o λx=>by kernel_rfl
def Oc:=mC Ob call35
theorem Od:Ctr Sz prog 29 [] [.rd .bool] (λx=>qc):=
 ncR [NZ,N6,Oc,Oa] [0] func29 ntmps29 .o λx=>by kernel_rfl
theorem Ds (hS:S W0 m w L TL)  {r}(h:qc=some r):
    Calls prog 29 #[] w (Ret λv w'=>∃m',M.le m m'/\S W0 m' w' L TL/\RV cm m' v r):=by
 refine rm (Od W0 m w L TL [] (()) r [] [] hS trivial h) λv w' he=>?_;obtain⟨m',us,Lr,Lq,Tr,J,Z,rfl,W,hO⟩:=he;obtain⟨u0,us,rfl,r0,a0⟩:=cE W;obtain⟨rfl,rfl,rfl⟩:=bL a0;obtain rfl:=bM hO;exact⟨m',J,Z,r0⟩
theorem qs {σ:Type}{I:M->σ->Mem->Tls->Prop}{step:σ->aa->Option (σ×Bool)}{B:σ->Bse}{v0:Value}{m:M}{w:World}{L:Mem}{TL:Tls}{a6:σ}{a4:Mem}{a3:Tls}(mono:∀m m' s a b,M.le m m'->I m s a b->I m' s a b)(hy:zH prog RvX B v0 I step)(i1:I m a6 a4 a3)(hS:S (B a6) m w (a4++L) (a3++TL)){v1:Value}{p1:(Option aw)}(g5:PR (kPt aL) m v1 p1){v2:Value}{p2:Int}(e6:PR (ai .i64) m v2 p2){r:σ}(h:c9 step a6 p1 p2=some r):
    Calls prog 140 #[v0,v1,v2] w (Ret λ_ w'=>∃m' Ls' TLs',M.le m m'/\I m' r Ls' TLs'/\S (B r) m' w' (Ls'++L) (TLs'++TL)):=by
 refine uu (args:=[v0,v1,v2]) func140 rfl ntmps140 (Q2 rfl) λa E=>?_;have E:Env 23 a [(0,v0),(1,v1),(2,v2)]:=E;unfold c9 at h;refine ab ?_;obtain⟨Z,c5,x9,d2,h⟩:=ob2 h
 refine kch (k:=8) (m:=m) (es:=[]) (Φ:=(λi m ws v=>match i with|0=>RV (kPt aL) m v p1|1=>PR aL m v Z|2=>PR (kSl ae) m v Z.fL|3=>RV (kSl ae) m v Z.fL|4=>ei .i64 p2 v|5=>RV (kSl ae) m v x9|6=>ei .i64 (x9.length:Int) v|7=>ei .i64 0 v|_=>True)) (Q:=(λc m ws L' g2=>match c with|0=>(a4++L)=L'/\(a3++TL)=g2|_=>False)) (cs:=[zR [(1,v1)],zR [],zR [],zR [],zR [(2,v2)],zR [],zR [],zR []]) mixed E hS ⟨rfl,rfl⟩ rfl rfl (by kernel_rfl) ?_ ?_ ?_ ?_
 {
 intro i m_ f3 ws v n_ q_
 iterate 8 (rcases i with _|i;first|exact q_|exact RV.mono q_ n_|exact PR.mono q_ n_)
 exact trivial}
 {
 intro c m_ f3 ws L_ T_ n_ a5
 match c,a5 with
 |0,⟨f5,g0⟩=>exact⟨f5,g0⟩
 |_+1,a5=>exact a5.elim}
 {
 refine⟨?_,?_,?_,?_,?_,?_,?_,?_,trivial⟩
 {refine cp0 λ_ _ _ _ _ _ _ M' _ J W _=>?_;exact cr (aZ W J Km rfl (g5.mono M')) J λ_ h=>h}
 {refine cp0 λ_ _ _ m' a' _ _ _ _ J W T'=>?_;obtain⟨i4,E,c3⟩:=adv W (T' 0);exact cq (kC E rfl c3 c5) J ((lC c3 c5))}
 {
 refine cp0 λ_ _ _ m' a' _ _ _ _ J W T'=>?_;obtain⟨k3,e3,g3⟩:∃v,a'.tmps.getD 7 undef=v/\(PR aL m' v Z):=⟨_,rfl,T' 1⟩
 have E:=W.add (e3);exact cr (ga E l7 oE rfl g3) J λ_ h=>h}
 {
 refine cp0 λ_ _ _ m' a' _ _ _ _ J W T'=>?_;obtain⟨k0,e1,e4⟩:∃v,a'.tmps.getD 8 undef=v/\(PR (kSl ae) m' v Z.fL):=⟨_,rfl,T' 2⟩
 have E:=W.add (e1);exact cr (aZ E J oF rfl e4) J λ_ h=>h}
 {refine cp0 λ_ _ _ _ _ _ _ M' _ J W _=>?_;exact cr (aZ W J ty3 rfl (e6.mono M')) J λ_ h=>aJ h}
 {
 refine cp0 λ_ _ _ m' a' _ _ _ _ J W T'=>?_;obtain⟨i5,h7,d1⟩:∃v,a'.tmps.getD 9 undef=v/\(RV (kSl ae) m' v Z.fL):=⟨_,rfl,T' 3⟩
 have E:=(W.add (h7)).add (T' 4).1;exact cr (dA (k:=ae) E rfl underlying50 sizeOf59 d1 ⟨_,rfl⟩ rfl d2 (xl:=(some (.tmp 10))) (xh:=none)) J λ_ h=>h}
 {refine cp0 λ_ _ _ m' a' _ _ _ _ J W T'=>?_;obtain⟨k7,E,b5⟩:=adv W (T' 5);exact cq (aY (k:=ae) E rfl rfl underlying50 b5) J ⟨rfl,(dy (hU b5))⟩}
 {exact cmv λ_ _=>⟨rfl,(show inR .i64 0 from ay (by decide))⟩}}
 {
 intro l1 L_ T_ c1 a w h4 b3 h3 hS d0 h5 h8 b0;obtain rfl:=gN h4;obtain⟨rfl,rfl⟩:=h3;have E:=eof 8 [(0,v0),(1,v1),(2,v2)] d0 h5 h8;obtain⟨e9,e7,c7⟩:∃v,a.tmps.getD 11 undef=v/\(RV (kSl ae) c1 v x9):=⟨_,rfl,b0 5⟩
 have E:=(E.add (e7)).add (b0 6).1;obtain⟨g4,c6⟩:=b0 7;have E:=E.add g4;refine ag (aW ?_);refine fw h (λ(s:Int×σ) a w=>∃m',M.le c1 m'/\∃(a0:Mem),∃(a1:Tls),inR .i64 s.1/\I m' s.2 a0 a1/\S (B s.2) m' w ((a0++L)) ((a1++TL))/\Env 23 a [(0,v0),(11,e9),(12,.int .i64 (x9.length:Int)),(13,.int .i64 s.1)]) ?_ ?_
 {exact⟨_,(Q0 _),a4,a3,c6,(mono _ _ _ _ _ b3 i1),hS,kut E⟩}
 {
 rintro ⟨b7,f4⟩ a w ⟨j1,a2,a0,a1,k5,c4,hS,E⟩ r67 h hb68;have h:cc step x9 b7 f4=some r67:=h;unfold cc at h;refine ab (aj (qB E rfl rfl cC λa E=>ag (ab (kif E rfl (λb2=>?_) (λb2=>?_)))))
 {
 have h:=aD b2 h;refine aR (ab (aW (ab (aj ?_))));obtain⟨l4,e0,h⟩:=ob h;refine st E (ez (k:=ae) E rfl rfl underlying50 sizeOf59 (c7.mono a2) e0) rfl ?_;rintro i2 a _ ⟨rfl,h1⟩ E;refine st E (aZ E hS pn rfl h1) rfl ?_;rintro j4 a _ ⟨rfl,f0⟩ E;refine st E (ci hS zeroValue59 rfl (cs:=vG)) rfl ?_;rintro _ a w ⟨j2,rfl,hS⟩ E;refine st0 E (bU E hS pn bp rfl rfl f0 (i:=0) rfl (s4 _)) ?_;rintro _ w ⟨l2,g1,hS⟩ E;refine ag (ab (aj (qM E rfl λa E=>?_)));refine st E (aA E hS pn rfl (i:=0) rfl (aC g1)) rfl ?_;rintro e5 a _ ⟨rfl,i0⟩ E;obtain⟨i3,h9,h⟩:=ob h
 refine st E (az (vs:=[e5]) E rfl call65 (IQ (hS:=hS) i0 h9)) rfl ?_;rintro g6 a w ⟨k4,b1,bX,cX,rX,hS,f6,h0⟩ E;obtain⟨h6,h2,h⟩:=ob h;refine st E (hy _ _ L TL _ _ _ [g6] _ _ _ _ (mono _ _ _ _ _ b1 c4) (hS.pickL 2 [0] rfl rfl rfl) ⟨_,_,_,_,rfl,rfl,f6,h0⟩ h2 _ _ _ _ _ _ _ _ _ (E.eval rfl) (gL E rfl)) rfl ?_;rintro k6 a w ⟨e8,l3,c2,b4,c0,b6,hS⟩ E;obtain rfl:=e8;refine sp E (kS E rfl) rfl λa E=>ag (kif E rfl (λa9=>?_) (λa9=>?_))
 {
 have h:=aD a9 h;refine bd ?_;have h:=cG h hb68;obtain rfl:=oi h
 try dsimp only
 refine Fin.mk E (rs:=[]) rfl pQ.nil ?_;exact⟨_,c2,b4,(qk b3 (qk a2 (qk b1 c0))),b6,hS⟩}
 {have h:=aF a9 h;refine aR (aj (qB E rfl rfl (cB rfl) λa E=>qM E rfl λa E=>ag ?_));exact⟨(Q1.wrap (b7+1),h6.1),(Option.some.inj h).symm,_,(qk a2 (qk b1 c0)),c2,b4,(aI _ _),b6,hS,kut E⟩}}
 {
 have h:=aF b2 h;refine eG rfl rfl ?_;have h:=cG h hb68;obtain rfl:=oi h
 try dsimp only
 refine Fin.mk E (rs:=[]) rfl pQ.nil ?_;exact⟨_,a0,a1,(qk b3 a2),c4,hS⟩}}}
theorem qn {m:M}{v1:Value}{p1:(Option aw)}(W:PR (kPt aL) m v1 p1){v2:Value}{p2:Int}(J:PR (ai .i64) m v2 p2){xs:List aa}(h:dI p1 p2=some xs):yW prog RvX 140 #[v1,v2] m xs:=by
 intro σ I step B y m1 w L TL s Ls TLs r mono hle hy hI hS hf;exact qs mono hy hI hS (W.mono hle) (J.mono hle) (pi h hf)
theorem Ch {W0:Bse}{m:M}{L:Mem}{TL:Tls}{r:List aa}{e:Ending}{w':World}(J:Ret (λv w'=>∃m',M.le m m'/\S W0 m' w' L TL/\ItX prog RvX m' v r) e w'):Ret (λv w'=>∃m',M.le m m'/\S W0 m' w' L TL/\ItV prog (Rv1 ae) m' v r) e w':=by
 cases e with
 |returned v=>exact J.imp λm' h=>⟨h.1,h.2.1,h.2.2.toV G1⟩
 |panicked ch=>exact J.elim
 |outgrown=>exact J.elim
theorem mM (hS:S W0 m w L TL) {p0}(a9:RV (kPt aL) m v0 p0) {p1}(a2:inR .i64 p1) {r}(h:dR p0 p1=some r):
    Calls prog 89 #[v0,(.int .i64 p1)] w (Ret λv w'=>∃m',M.le m m'/\S W0 m' w' L TL/\ItX prog RvX m' v r):=by
 refine kc func89 ntmps89 λa E=>?_;have E:Env 6 a [(0,v0),(1,.int .i64 p1)]:=E;unfold dR at h;refine ab (aj ?_);refine st E (g8 (k:=(kPt aL)) E hS rfl a9) rfl ?_;rintro _ a w ⟨b1,b2,rfl,a4,hS⟩ E;refine st E (g8 (k:=(ai .i64)) E hS rfl (am a2)) rfl ?_;rintro _ a w ⟨b5,b3,rfl,a0,hS⟩ E;refine qA E rfl λa E=>ag (ab (aj ?_));obtain⟨b0,W,hS,a5⟩:=S.freezeL (k:=(kPt aL)) (hS.pickL 2 [1,0] rfl rfl rfl) a4;obtain⟨a1,J,hS,a3⟩:=S.freezeL (k:=(ai .i64)) hS ((ai .i64).mono W a0);obtain⟨Z,a6,h⟩:=ob h;refine sp E (ly E rfl rfl) rfl λa E=>qA E rfl λa E=>ag (bd ?_)
 obtain rfl:=oi h
 try dsimp only
 refine f1 E ?_;exact⟨_,(qk W J),hS,(⟨140,_,rfl,call140,qn (a5.mono J) a3 a6⟩:ItX prog RvX a1 (.func (.func 140) #[] #[(pz b1),(pz b5)]) Z)⟩
theorem sj (hS:S W0 m w L TL) {p0}(Z:RV (kPt aL) m v0 p0) {p1}(W:inR .i64 p1) {r}(h:dR p0 p1=some r):
    Calls prog 89 #[v0,(.int .i64 p1)] w (Ret λv w'=>∃m',M.le m m'/\S W0 m' w' L TL/\ItV prog (Rv1 ae) m' v r):=
 (mM hS Z W h).mono λ_ _ J=>Ch J
theorem n8 (hS:S W0 m w L TL) {p0}(a0:RV (kPt aL) m v0 p0) {r}(h:cS p0=some r):
    Calls prog 36 #[v0] w (Ret λv w'=>∃m',M.le m m'/\S W0 m' w' L TL/\ItX prog RvX m' v r):=by
 refine kc func36 ntmps36 λa E=>?_;have E:Env 5 a [(0,v0)]:=E;unfold cS at h;refine ab (aj (qA E rfl λa E=>ag (ab (aj (qM E rfl λa E=>?_)))));obtain⟨r3,Z,h⟩:=ob h;refine st E (az (vs:=[v0,(.int .i64 0)]) E rfl call89 (mM (hS:=hS) a0 (show inR .i64 0 from ay (by decide)) Z)) rfl ?_;rintro v8 a w ⟨m5,J,hS,W⟩ E;refine qA E rfl λa E=>ag (bd ?_);obtain rfl:=oi h
 try dsimp only
 refine f1 E ?_;exact⟨_,J,hS,W⟩
theorem jt (hS:S W0 m w L TL) {p0}(W:RV (kPt aL) m v0 p0) {r}(h:cS p0=some r):
    Calls prog 36 #[v0] w (Ret λv w'=>∃m',M.le m m'/\S W0 m' w' L TL/\ItV prog (Rv1 ae) m' v r):=
 (n8 hS W h).mono λ_ _ J=>Ch J
theorem Oe:Ctr Sz prog 41 [.rd (.sl (.int .i64)),.rd (.sl (.st 32))] [.ap (.st 32)] (λx=>tZ x.1 x.2.1):=
 ncR [] [4] func41 ntmps41 (.s .o (.s .o (.s (.s .o (.b (.l ⟨[.v 5 1 (.dat (.sl (.st 32)) (some 0)),.v 6 1 (.dat (.int .i64) none)],[0,1],0,[4]⟩ .o))) .o))) λx=>by kernel_rfl
def Of:=mC Oe call41
theorem MD:Ctr Sz prog 141 [.rd (.st 32),.rd (.st 32)] [.rd .bool] (λx=>rN x.1 x.2.1):=
 ncR [] [4] func141 ntmps141 .o λx=>by kernel_rfl
def ME:=mC MD call141
theorem Og:Ctr Sz prog 95 [.rd (.st 32),.rd (.st 32)] [.rd (.int .i64)] (λx=>px x.1 x.2.1):=
 ncR [ME] [4] func95 ntmps95 .o λx=>by kernel_rfl
def Oh:=mC Og call95
theorem Oi:Ctr Sz prog 40 [.rd (.sl (.st 32)),.rd (.sl (.st 32))] [.rd (.int .i64)] (λx=>uH x.1 x.2.1):=
 ncR [Oh] [4] func40 ntmps40 (.s .o (.s (.s .o (.b (.l ⟨[.v 5 1 (.dat (.int .i64) none)],[0,1],0,[]⟩ .o))) .o)) λx=>by kernel_rfl
def Oj:=mC Oi call40
theorem MG:Ctr Sz prog 131 [.rd (.st 57),.rd (.st 57)] [.rd .bool] (λx=>qN x.1 x.2.1):=
 ncR [] [4] func131 ntmps131 .o λx=>by kernel_rfl
def MH:=mC MG call131
theorem Ok:Ctr Sz prog 72 [.rd (.sl (.int .i64)),.rd (.st 59),.rd (.st 59)] [.rd .bool] (λx=>qO x.1 x.2.1 x.2.2.1):=
 ncR [Oj,Of,MH] [6] func72 ntmps72 .o λx=>by kernel_rfl
def Ol:=mC Ok call72
theorem Om:Ctr Sz prog 28 [.rd (.sl (.int .i64)),.rd (.sl (.st 59))] [.rd (.sl (.st 59))] (λx=>ny x.1 x.2.1):=
 ncR [Ol] [4] func28 ntmps28 (.s .o (.s .o (.s (.s .o (.b (.l ⟨[.v 5 1 (.dat (.sl (.st 59)) none),.v 6 1 (.dat (.int .i64) none)],[0,1],0,[]⟩ (.s .o (.s (.b (.s .o (.s (.b (.l ⟨[.v 7 2 (.dat (.int .i64) none)],[0,1,5,6],0,[]⟩ .o)) .o))) .o))))) .o))) λx=>by kernel_rfl
theorem uY (hS:S W0 m w L TL) {p0}(a3:RV (kSl (ai .i64)) m v0 p0) {p1}(a1:RV (kSl ae) m v1 p1) {r}(h:ny p0 p1=some r):
    Calls prog 28 #[v0,v1] w (Ret λv w'=>∃m',M.le m m'/\S W0 m' w' L TL/\RV (kSl ae) m' v r):=by
 refine rm (Om W0 m w L TL [v0,v1] (p0,p1,()) r [] [] hS ⟨a3,⟨a1,trivial⟩⟩ h) λv w' he=>?_;obtain⟨m',us,Lr,Lq,Tr,J,Z',rfl,Z,hO⟩:=he;obtain⟨u0,us,rfl,r0,a2⟩:=cE Z;obtain⟨rfl,rfl,rfl⟩:=bL a2;have a0:=bj hO;have W:=bj a0;obtain rfl:=bM W;exact⟨m',J,Z',r0⟩
theorem oI (hS:S W0 m w L TL) {p0}(b1:ItV prog (Rv1 ae) m v0 p0) {r}(h:mG p0=some r):
    Calls prog 38 #[v0] w (Ret λv w'=>∃m',M.le m m'/\S W0 m' w' L ((4,v)::TL)/\RV (kSl ae) m' v r):=by
 refine vU func38 rfl ntmps38 (Q2 rfl) λa E=>?_;have E:Env 14 a [(0,v0)]:=E;unfold mG at h;refine ab (aj (qA E rfl λa E=>ag (ab (aj ?_))));refine st E (ci hS zeroValue50 rfl (cs:=[(.slice none 0 0)])) rfl ?_;rintro _ a w ⟨W,rfl,hS⟩ E;refine ag (ab (ab (aj (qM E rfl λa E=>sp E (FL E rfl rfl underlying76 b1) rfl λa E=>ag (kif E rfl (λb5=>absurd (b5.symm.trans rfl) (by decide)) (λb5=>?_))))));refine aR (ab (ab (aj (qM E rfl λa E=>ag (aW ?_)))));obtain⟨a4,e3,h⟩:=ob h
 refine xa (Rv:=(Rv1 ae)) (λ(s:List aa) (x:aa)=>lm s x) (λ_=> .ret) [] (λ(m':M) (s:List aa) (a0:Mem) (Z:Tls)=>∃(J:Value),M.le m m'/\RV (kSl ae) m' J s/\a0=[(W,[J])]/\Z=[(4,J)]) (Ls:=[(W,[(.slice none 0 0)])]) (TLs:=[(4,.slice none 0 0)]) (s0:=([]:(List aa))) (sf:=a4.1) (bf:=a4.2) E (hS.tail0 4) rfl b1 (by decide) (λ_ _ _ h=>w9 h) (by rintro f3 f6 s_ a_ b_ n_ ⟨J,c2,e7,e0,b7⟩;exact⟨J,c2.trans n_,e7.mono n_,e0,b7⟩) ⟨(.slice none 0 0),Q0 _,cN,rfl,rfl⟩ e3 ?_ ?_
 {
 intro g2 f0 W0 m7 w L TL s_ a0 Z g6 a9 d0 c4 a g1 h2 a2 hS d2 h E c5;obtain⟨x9,rfl⟩:∃x,x=s_:=⟨_,rfl⟩
 obtain⟨J,c3,a5,rfl,rfl⟩:=a2;have h:lm x9 a9=some (d0,c4):=h;unfold lm at h;obtain⟨h0,rfl,e5⟩:=d2;refine aj ?_;refine st E (ci hS zeroValue59 rfl (cs:=vG)) rfl ?_;rintro _ a w ⟨g3,rfl,hS⟩ E;refine st0 E (bU E hS pn bp rfl rfl e5 (i:=0) rfl (s4 _)) ?_;rintro _ w ⟨e9,d1,hS⟩ E;refine ag ?_;obtain⟨c0,hS⟩:=c5 _ _ _ _ hS;refine⟨c0,?_⟩;refine aW (aj (sp E (qv (k:=ae) E hS oF rfl (i:=1) rfl a5) rfl λa E=>?_));refine st E (aA E hS pn rfl (i:=0) rfl (aC d1)) rfl ?_;rintro c6 a _ ⟨rfl,b6⟩ E
 refine st E (jJ (k:=ae) (xs:=[a9]) (vs:=[c6]) E hS rfl underlying50 sizeOf59 zeroValue59 ⟨b6,trivial⟩ rfl (by decide)) rfl ?_;rintro g4 a w ⟨g0,a1,hS,e1⟩ E;obtain⟨f5,e6,h⟩:=ob h;refine st E (i9 (k:=ae) (N:=2932031007402) E hS rfl rfl underlying50 underlying50 GZ (i:=1) rfl (a5.mono a1) e1 e6 rfl rfl) rfl ?_;rintro a3 a w ⟨f4,a6,hS,b3⟩ E;refine st0 E (sw (k:=ae) E hS oF rfl rfl b3 (i:=1) rfl) ?_;rintro _ w hS E;refine ag ?_;cases h
 try dsimp only
 exact⟨rfl,_,[(W,[a3])],[(4,a3)],(qk a1 a6),⟨a3,(qk c3 (qk a1 a6)),b3,rfl,rfl⟩,((hS.pickL 2 [1] rfl rfl rfl).pickT 2 [1] rfl rfl rfl)⟩}
 {
 intro c1 g5 w a a0 Z e4 E a2 hS c7 e8;obtain⟨h1,_,b4,rfl,rfl⟩:=a2;obtain⟨W0,b0⟩:∃W9,W9=W0.put c1 (.deferred (some [])):=⟨_,rfl⟩
 rw[←b0] at hS;rcases kz a4.2 with hb50|hb50
 {
 have h:=aD hb50 h;rw[if_pos hb50];refine ab (aj (sp E (qv (k:=ae) E hS oF rfl (i:=0) rfl b4) rfl λa E=>qA E rfl λa E=>ag (bd ?_)));obtain rfl:=oi h
 try dsimp only
 have hS:=hS;rw[b0] at hS;refine zB.shut E hS c7 e8 λa w hS E=>?_;refine zB.nil E ?_;refine f1 E ?_;exact⟨_,e4,((hS.dropL 1).pickT 1 [0] rfl rfl rfl),b4⟩}
 {have h:=aF hb50 h;cases h}}
theorem On:Ctr Sz prog 18 [.rd (.sl (.st 32)),.rd (.sl (.st 32))] [.rd .bool] (λx=>pB x.1 x.2.1):=
 ncR [] [4] func18 ntmps18 (.s .o (.s .o (.s (.s .o (.b (.l ⟨[.v 5 1 (.dat (.int .i64) none)],[0,1],0,[]⟩ .o))) .o))) λx=>by kernel_rfl
def Oo:=mC On call18
theorem Oq:Ctr Sz prog 73 [.rd (.st 59),.rd (.st 59)] [.rd .bool] (λx=>lS x.1 x.2.1):=
 ncR [Oo] [4] func73 ntmps73 .o λx=>by kernel_rfl
def Ot:=mC Oq call73
theorem Ou:Ctr Sz prog 30 [.rd (.sl (.st 59)),.rd (.sl (.st 59))] [.rd .bool] (λx=>dt x.1 x.2.1):=
 ncR [Ot] [4] func30 ntmps30 (.s .o (.s .o (.s (.s .o (.b (.l ⟨[.v 5 1 (.dat (.int .i64) none)],[0,1],0,[]⟩ .o))) .o))) λx=>by kernel_rfl
theorem f9 (hS:S W0 m w L TL) {p0}(a3:RV (kSl ae) m v0 p0) {p1}(a1:RV (kSl ae) m v1 p1) {r}(h:dt p0 p1=some r):
    Calls prog 30 #[v0,v1] w (Ret λv w'=>∃m',M.le m m'/\S W0 m' w' L TL/\RV cm m' v r):=by
 refine rm (Ou W0 m w L TL [v0,v1] (p0,p1,()) r [] [] hS ⟨a3,⟨a1,trivial⟩⟩ h) λv w' he=>?_;obtain⟨m',us,Lr,Lq,Tr,J,Z',rfl,Z,hO⟩:=he;obtain⟨u0,us,rfl,r0,a2⟩:=cE Z;obtain⟨rfl,rfl,rfl⟩:=bL a2;have a0:=bj hO;have W:=bj a0;obtain rfl:=bM W;exact⟨m',J,Z',r0⟩
theorem sk (hS:S W0 m w L TL) {p0}(b2:RV ae m v0 p0) {p1}(b4:RV (kSl kAp) m v1 p1) {p2}(a1:PR (kSl (ai .i64)) m v2 p2) {r}(h:cg p0 p1 p2=some r):
    Calls prog 94 #[v0,v1,v2] w (Ret λv w'=>∃m',M.le m m'/\S W0 m' w' L TL/\RV (ai .i64) m' v r):=by
 refine kc func94 ntmps94 λa E=>?_;have E:Env 13 a [(0,v0),(1,v1),(2,v2)]:=E;unfold cg at h;refine ab (aj ?_);refine st E (g8 (k:=ae) E hS rfl b2) rfl ?_;rintro _ a w ⟨b1,b7,rfl,a3,hS⟩ E;refine qA E rfl λa E=>ag (ab (ab (aj ?_)));refine st E (aZ E hS lu rfl a1) rfl ?_;rintro v7 a _ ⟨rfl,a2⟩ E;refine sp E (aB E mK rfl) rfl λa E=>?_;refine st E (aA E hS rq rfl (i:=0) rfl (J1.R_drop (aC a3))) rfl ?_;rintro b3 a _ ⟨rfl,a6⟩ E;obtain⟨c3,a4,h⟩:=ob h;refine st E (az (vs:=[v7,b3]) E rfl call70 (po (hS:=hS) a2 a6 a4)) rfl ?_;rintro b0 a w ⟨b5,J,hS,a9⟩ E
 refine qM E rfl λa E=>?_;obtain⟨c1,a5,h⟩:=ob h;refine st E (az (vs:=[b0,v1]) E rfl call69 (um (hS:=hS) a9 (b4.mono J) a5)) rfl ?_;rintro b6 a w ⟨c0,Z,hS,a0⟩ E;obtain⟨rfl,c2⟩:=aJ a0;refine qB E rfl rfl cC λa E=>ag (kif E rfl (λW=>?_) (λW=>?_))
 {
 have h:=aD W h;refine ab (aj (qA E rfl λa E=>ag (bd ?_)));obtain rfl:=oi h
 try dsimp only
 refine f1 E ?_;exact⟨_,(qk J Z),((hS.dropL 1).dropT 1),(am (show inR .i64 (-1) from ay (by decide)))⟩}
 {
 have h:=aF W h;refine aR (ab (aj (qA E rfl λa E=>ag (bd ?_))));obtain rfl:=oi h
 try dsimp only
 refine f1 E ?_;exact⟨_,(qk J Z),((hS.dropL 1).dropT 1),(am (show inR .i64 1 from ay (by decide)))⟩}
theorem Ov:Ctr Sz prog 93 [.rd (.sl (.st 59)),.rd (.sl (.st 32)),.f2 (.st 59) (.sl (.st 32)) (.int .i64)] [.rd (.int .i64),.rd .bool] (λx=>cW x.1 x.2.1 x.2.2.1):=
 ncR [] [6,7] func93 ntmps93 (.s .o (.s .o (.s .o (.s (.b (.l ⟨[.v 9 1 (.dat (.int .i64) none),.v 10 1 (.dat (.int .i64) none)],[0,1,2,8],0,[]⟩ .o)) .o)))) λx=>by kernel_rfl
theorem nE (hS:S W0 m w L TL) {p0}(a6:RV (kSl ae) m v0 p0) {p1}(a2:RV (kSl kAp) m v1 p1) {p2}(a0:Fn2 prog ae (kSl kAp) (ai .i64) m v2 p2) {r}(h:cW p0 p1 p2=some r):
    Calls prog 93 #[v0,v1,v2] w (Ret λv w'=>∃m',M.le m m'/\S W0 m' w' L TL/\∃v0_ v1_:Value,v= .tuple #[v0_,v1_]/\RV (ai .i64) m' v0_ r.1/\RV cm m' v1_ r.2):=by
 refine rm (Ov W0 m w L TL [v0,v1,v2] (p0,p1,p2,()) r [] [] hS ⟨a6,⟨a2,⟨a0,trivial⟩⟩⟩ h) λv w' he=>?_;obtain⟨m',us,Lr,Lq,Tr,J,Z',rfl,Z,hO⟩:=he;obtain⟨u0,us,rfl,r0,a3⟩:=cE Z;obtain⟨u1,us,rfl,r1,a5⟩:=cE a3;obtain⟨rfl,rfl,rfl⟩:=bL a5;have a1:=bj hO;have W:=bj a1;have a4:=wo W;obtain rfl:=bM a4;exact⟨m',J,Z',u0,u1,rfl,r0,r1⟩
theorem Ow {m0:M}{Z:Value}{a0:List Int}(a1:PR (kSl (ai .i64)) m0 Z a0):Fn2 prog ae (kSl kAp) (ai .i64) m0 (.func (.func 94) #[] #[Z]) (λx0 W=>cg x0 W a0):=by
  refine⟨94,_,rfl,call94,?_⟩;intro W0 m w L TL v0 v1 x0 W r hm hS h0 h hr;refine(sk (hS:=hS) h0 h (a1.mono hm) hr).mono ?_;intro e w' J;cases e with
  |returned v=>obtain⟨m',h,h2,h3⟩:=J;exact⟨m',h,h2,h3⟩
  |panicked ch=>exact J.elim
  |outgrown=>exact J.elim
theorem n9 (hS:S W0 m w L TL) {p0}(a1:RV (kPt aL) m v0 p0) {p1}(g1:RV (kSl kAp) m v1 p1) {r}(h:fY p0 p1=some r):
    Calls prog 39 #[v0,v1] w (Ret λv w'=>∃m',M.le m m'/\S W0 m' w' L TL/\ItV prog (Rv1 ae) m' v r):=by
 refine kc func39 ntmps39 λa E=>?_;have E:Env 37 a [(0,v0),(1,v1)]:=E;unfold fY at h;refine ab (aj (qA E rfl λa E=>ag (ab (aj (qM E rfl λa E=>?_)))));obtain⟨r3,i0,h⟩:=ob h;refine st E (az (vs:=[v1]) E rfl call92 (nY (hS:=hS) g1 i0)) rfl ?_;rintro v8 a w ⟨m5,a0,hS,b1⟩ E;refine qA E rfl λa E=>ag (ab ?_);obtain⟨a4,b6,a2,c1,h⟩:=ob2 h;obtain⟨b2,h2,h⟩:=ob h
 refine kch (k:=14) (m:=m5) (es:=[13]) (Φ:=(λi m ws v=>match i with|0=>v=v0|1=>v=v0|2=>PR (kSl (ai .i64)) m v a4.fSort|3=>RV (kSl (ai .i64)) m v a4.fSort|4=>v=v0|5=>v=v0|6=>PR (kSl (ai .i64)) m v a2.fSort|7=>RV (kSl (ai .i64)) m v a2.fSort|8=>ei .i64 (a2.fSort.length:Int) v|9=>v=v8|10=>ei .i64 (r3.length:Int) v|11=>ei .i64 (if (r3.length:Int)<(a2.fSort.length:Int) then (r3.length:Int) else (a2.fSort.length:Int)) v|12=>RV (kSl (ai .i64)) m v b2|13=>v=(.pointer (some ⟨(wi ws 0).b,0,none⟩))|_=>True)) (Q:=(λc m ws L' c0=>match c with|0=>L=L'/\(4,v8)::TL=c0|1=>((wi ws 0).b,[(.slice none 0 0)])::L=L'/\(4,v8)::TL=c0|_=>False)) (cs:=[⟨0,1,false,[(0,v0)]⟩,⟨0,1,false,[]⟩,⟨0,1,false,[]⟩,⟨0,1,false,[]⟩,⟨0,1,false,[(0,v0)]⟩,⟨0,1,false,[]⟩,⟨0,1,false,[]⟩,⟨0,1,false,[]⟩,⟨0,1,false,[]⟩,⟨0,1,false,[(5,v8)]⟩,⟨0,1,false,[]⟩,⟨0,1,false,[]⟩,⟨0,1,false,[]⟩,⟨0,0,true,[]⟩]) mixed E hS ⟨rfl,rfl⟩ rfl rfl (by kernel_rfl) ?_ ?_ ?_ ?_
 {
 intro i m_ e5 ws v n_ q_
 iterate 14 (rcases i with _|i;first|exact q_|exact PR.mono q_ n_|exact RV.mono q_ n_)
 exact trivial}
 {
 intro c m_ e5 ws L_ T_ n_ a6
 match c,a6 with
 |0,⟨a9,b0⟩=>exact⟨a9,b0⟩
 |1,⟨a9,b0⟩=>exact⟨a9,b0⟩
 |_+2,a6=>exact a6.elim}
 {
 refine⟨?_,?_,?_,?_,?_,?_,?_,?_,?_,?_,?_,?_,?_,?_,trivial⟩
 {exact cmv λ_ _=>rfl}
 {refine cp0 λ_ _ _ _ _ _ _ Z _ J W T'=>?_;have E:=W.add (T' 0);exact cq (kC E rfl (a1.mono (qk a0 Z)) b6) J rfl}
 {refine cp0 λ_ _ _ _ _ _ _ Z _ J W T'=>?_;have E:=W.add (T' 1);exact cr (ga E l6 sa rfl ((lC a1 b6).mono (qk a0 Z))) J λ_ h=>h}
 {
 refine cp0 λ_ _ _ m' a' _ _ _ _ J W T'=>?_;obtain⟨l3,h3,e7⟩:∃v,a'.tmps.getD 13 undef=v/\(PR (kSl (ai .i64)) m' v a4.fSort):=⟨_,rfl,T' 2⟩
 have E:=W.add (h3);exact cr (aZ E J lu rfl e7) J λ_ h=>h}
 {exact cmv λ_ _=>rfl}
 {refine cp0 λ_ _ _ _ _ _ _ Z _ J W T'=>?_;have E:=W.add (T' 4);exact cq (kC E rfl (a1.mono (qk a0 Z)) c1) J rfl}
 {refine cp0 λ_ _ _ _ _ _ _ Z _ J W T'=>?_;have E:=W.add (T' 5);exact cr (ga E l6 sa rfl ((lC a1 c1).mono (qk a0 Z))) J λ_ h=>h}
 {
 refine cp0 λ_ _ _ m' a' _ _ _ _ J W T'=>?_;obtain⟨j1,e1,h1⟩:∃v,a'.tmps.getD 17 undef=v/\(PR (kSl (ai .i64)) m' v a2.fSort):=⟨_,rfl,T' 6⟩
 have E:=W.add (e1);exact cr (aZ E J lu rfl h1) J λ_ h=>h}
 {refine cp0 λ_ _ _ m' a' _ _ _ _ J W T'=>?_;obtain⟨l1,E,b7⟩:=adv W (T' 7);exact cq (aY (k:=(ai .i64)) E rfl rfl underlying49 b7) J ⟨rfl,(dy (hU b7))⟩}
 {exact cmv λ_ _=>rfl}
 {refine cp0 λ_ _ _ _ _ _ _ Z _ J W T'=>?_;have E:=W.add (T' 9);exact cq (aY (k:=kAp) E rfl rfl underlying22 (b1.mono Z)) J ⟨rfl,(dy (hU (b1.mono Z)))⟩}
 {refine cp0 λ_ _ _ _ _ _ _ _ _ J W T'=>?_;obtain⟨e4,h4⟩:=T' 8;have E:=W.add e4;obtain⟨g0,g2⟩:=T' 10;have E:=E.add g0;exact cq (vO E rfl rfl) J ⟨rfl,(BA h4 g2)⟩}
 {
 refine cp0 λ_ _ _ m' a' _ _ _ _ J W T'=>?_;obtain⟨j2,c5,f5⟩:∃v,a'.tmps.getD 14 undef=v/\(RV (kSl (ai .i64)) m' v a4.fSort):=⟨_,rfl,T' 3⟩
 have E:=(W.add (c5)).add (T' 11).1;exact cr (dA (k:=(ai .i64)) E rfl underlying49 sizeOf3 f5 rfl ⟨_,rfl⟩ h2 (xl:=none) (xh:=(some (.tmp 22)))) J λ_ h=>h}
 {refine vR λk3 L_ T_ m' a' w' f4 Z Q' J W T'=>?_;obtain rfl:=gN f4;obtain⟨rfl,rfl⟩:=Q';refine aQ.imp (ci J zeroValue49 rfl (cs:=[(.slice none 0 0)])) ?_;rintro i4 w ⟨b3,rfl,hS⟩;exact⟨_,⟨b3,undef,[],[],[]⟩,_,_,Q0 _,hS,⟨rfl,rfl⟩,rfl⟩}}
 {
 intro k7 L_ T_ h6 a w c4 a3 g5 hS c6 e9 e3 b5;obtain⟨⟨b3,_,_,_,_⟩,rfl⟩:=w8 c4;obtain⟨rfl,rfl⟩:=g5;have E:=eof 14 [(0,v0),(1,v1),(4,.nilFunc),(5,v8),(9,v1),(10,v8)] c6 e9 e3;obtain⟨i5,g4,c3⟩:∃v,a.tmps.getD 23 undef=v/\(RV (kSl (ai .i64)) h6 v b2):=⟨_,rfl,b5 12⟩
 have E:=(E.add (g4)).add (b5 13);refine st0 E (sw (k:=(ai .i64)) E hS lu rfl rfl c3 (i:=0) rfl) ?_;rintro _ w hS E;refine ag (ab (aj (qM E rfl λa E=>?_)));obtain⟨d1,c2,h⟩:=ob h;refine sp E (kC E rfl (a1.mono (qk a0 a3)) c2) rfl λa E=>?_;refine st E (ga E l7 oE rfl ((lC a1 c2).mono (qk a0 a3))) rfl ?_;rintro l2 a _ ⟨rfl,f3⟩ E;refine st E (aZ E hS oF rfl f3) rfl ?_;rintro g3 a _ ⟨rfl,h9⟩ E;refine qM E rfl λa E=>?_;obtain⟨i2,a5,hS,e8⟩:=S.freezeL (k:=(kSl (ai .i64))) hS (tI c3);refine sp E (ly E rfl rfl) rfl λa E=>?_
 obtain⟨h8,h5,h⟩:=ob h;refine st E (az (vs:=[g3,v8,(.func (.func 94) #[] #[(pz b3)])]) E rfl call93 (by have e6:=(h9.mono a5);have e0:=(b1.mono (qk a3 a5));have d2:=(Ow e8);exact nE (p0:=d1.fL) (p1:=r3) (p2:=(λh7 i1=>cg h7 i1 b2)) (hS:=hS) e6 e0 d2 h5)) rfl ?_;rintro _ a w ⟨k4,b4,hS,i3,k6,rfl,c7,f0⟩ E;obtain⟨rfl,g6⟩:=aJ c7;obtain rfl:=cT f0
 refine qM E rfl λa E=>sp E (bn E rfl rfl) rfl λa E=>sp E (bn E rfl rfl) rfl λa E=>qA E rfl λa E=>qA E rfl λa E=>ag (ab (aj (qM E rfl λa E=>qM E rfl λa E=>?_)));obtain⟨j4,h0,h⟩:=ob h;refine st E (az (vs:=[v0,(.int .i64 h8.1)]) E rfl call89 (sj (hS:=hS) (a1.mono (qk a0 (qk a3 (qk a5 b4)))) g6 h0)) rfl ?_;rintro k0 a w ⟨k5,d0,hS,f6⟩ E;refine qA E rfl λa E=>ag (bd ?_);obtain rfl:=oi h
 try dsimp only
 refine f1 E ?_;exact⟨_,(qk a0 (qk a3 (qk a5 (qk b4 d0)))),(hS.dropT 1),f6⟩}
end
end Go.Proofs.YthbonoagbeilkaaGreat.Hay
