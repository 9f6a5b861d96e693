import Derived.Test.YthbonoagbeilkaaGreatHeE
import Derived.Test.YthbonoagbeilkaaGreatExX
import Derived.Test.YthbonoagbeilkaaGreatHbM
set_option maxRecDepth 100000
set_option maxHeartbeats 4000000
set_option linter.unusedVariables false
namespace Go.Proofs.YthbonoagbeilkaaGreat.Hay
open Bool renaming eq_false_or_eq_true→Z3
open M.le renaming trans→Z0,refl→Z4
open IntKind renaming i64→Z1,u64→Z2
open Go.Proofs Tryz
noncomputable section
variable {W0:Bse}{m:M}{w:World}{L:List (Nat×List Value)}{TL:List (Nat×Value)}{v0 v1 v2 v3 v4 v5 v6 v7 v8 v9:Value}
theorem NO:Ctr Sz prog 176 [.rd (.sl (.int .i64)),.rd (.int .i64)] [.rd (.int .i64)] (fun x=>lc x.1 x.2.1):=
 ncR [] [4] func176 ntmps176 (.s .o (.s (.s .o (.b (.l ⟨[.v 8 1 (.dat (.int .i64) none)],[0,1,7],0,[]⟩ .o))) .o)) λx=>by kernel_rfl
def NQ:=mC NO call176
theorem NR:Ctr Sz prog 132 [.rd (.sl (.int .i64)),.rd (.int .i64)] [.rd .bool] (fun x=>gM x.1 x.2.1):=
 ncR [NQ] [4] func132 ntmps132 .o λx=>by kernel_rfl
theorem uk  (hS:S W0 m w L TL) {p0} (ha0:RV (kSl (ai .i64)) m v0 p0) {p1} (ha1:inR .i64 p1) {r} (h:gM p0 p1=some r):
    Calls prog 132 [v0,(.int .i64 p1)].toArray w (Ret λv w'=>∃m',M.le m m'∧S W0 m' w' L TL∧RV cO m' v r):=by
 refine rm (NR W0 m w L TL [v0,(.int .i64 p1)] (p0,p1,()) r [] [] hS ⟨ha0,⟨aq ha1,trivial⟩⟩ h) λv w' he=>?_;obtain⟨m',us,Lr,Lq,Tr,hm,Z',rfl,hR,hO⟩:=he;obtain⟨u0,us,rfl,r0,hR0⟩:=dC hR;obtain⟨rfl,rfl,rfl⟩:=cE hR0;have hO0:=bT hO;have hO1:=bT hO0;obtain rfl:=cF hO1;exact⟨m',hm,Z',r0⟩
theorem NS:Ctr Sz prog 128 [] [.rd (.st 32)] (fun x=>kO):=
 nxR [] [.cell 0 32] func128 ntmps128 .o λx=>by kernel_rfl
def DK:=mC NS call128
theorem NT:Ctr Sz prog 144 [.rd .bool] [.rd (.st 32)] (fun x=>oM x.1):=
 nxR [] [.cell 2 32] func144 ntmps144 .o λx=>by kernel_rfl
def HN:=mC NT call144
theorem NU:Ctr Sz prog 136 [.rd (.int .i64)] [.rd (.st 32)] (fun x=>eE x.1):=
 nxR [] [.cell 2 32] func136 ntmps136 .o λx=>by kernel_rfl
def zP:=mC NU call136
theorem NV:Ctr Sz prog 145 [.rd .str] [.rd (.st 32)] (fun x=>oN x.1):=
 nxR [] [.cell 2 32] func145 ntmps145 .o λx=>by kernel_rfl
def HO:=mC NV call145
theorem NW:Ctr Sz prog 101 [.rd (.st 32)] [.rd .bool] (fun x=>lG x.1):=
 ncR [DK,zP,HN,HO] [2] func101 ntmps101 .o λx=>by kernel_rfl
def DL:=mC NW call101
theorem NX:Ctr Sz prog 133 [.rd (.int .i64),.rd (.st 59)] [.rd .bool] (fun x=>ly x.1 x.2.1):=
 ncR [DL] [4] func133 ntmps133 (.s .o (.s (.s .o (.b (.l ⟨[.v 11 1 (.dat (.int .i64) none)],[0,3,9,10],1,[]⟩ .o))) .o)) λx=>by kernel_rfl
theorem zQ  (hS:S W0 m w L TL) {p0} (ha0:inR .i64 p0) {p1} (ha1:RV ab m v1 p1) {r} (h:ly p0 p1=some r):
    Calls prog 133 [(.int .i64 p0),v1].toArray w (Ret λv w'=>∃m',M.le m m'∧S W0 m' w' L TL∧RV cO m' v r):=by
 refine rm (NX W0 m w L TL [(.int .i64 p0),v1] (p0,p1,()) r [] [] hS ⟨aq ha0,⟨ha1,trivial⟩⟩ h) λv w' he=>?_;obtain⟨m',us,Lr,Lq,Tr,hm,Z',rfl,hR,hO⟩:=he;obtain⟨u0,us,rfl,r0,hR0⟩:=dC hR;obtain⟨rfl,rfl,rfl⟩:=cE hR0;have hO0:=bT hO;have hO1:=bT hO0;obtain rfl:=cF hO1;exact⟨m',hm,Z',r0⟩
theorem iQ  (hS:S W0 m w L TL) {p0} (ha0:inR .i64 p0) {p1} (ha1:RV (kSl (ai .i64)) m v1 p1) {p2} (ha2:RV (kSl ab) m v2 p2) {r} (h:eu p0 p1 p2=some r):
    Calls prog 74 [(.int .i64 p0),v1,v2].toArray w (Ret λv w'=>∃m',M.le m m'∧S W0 m' w' L TL∧RV (ai .i64) m' v r):=by
 refine kc func74 ntmps74 λa E=>?_;have E:Env 69 a [(0,.int .i64 p0),(1,v1),(2,v2)]:=E;unfold eu at h;refine ae (ah (qA E rfl λa E=>ag (ae (ae ?_))));refine bw (λa w=>∃x4:Bool,fJ p0 p1 p2 x4=some r∧∃m',M.le m m'∧S W0 m' w L TL∧Env 69 a [(0,.int .i64 p0),(1,v1),(2,v2),(17,.bool x4)]) ?_ ?_
 {
 refine ah (qM E rfl λa E=>qB E rfl rfl bn λa E=>qM E rfl λa E=>?_);rcases Z3 (decide (p0<1)) with hd146|hd146
 {have h:=aA hd146 h;refine qX E hd146 λa E=>qX E hd146 λa E=>qT E hd146 rfl λa E=>ag ?_;exact⟨true,h,_,(Z4 _),hS,kut E⟩}
 {have h:=aB hd146 h;refine qG E hd146 rfl λa E=>spg E rfl rfl rfl rfl hd146 (aP E rfl rfl ju) rfl λa E=>qF E hd146 rfl λa E=>ag ?_;exact⟨(decide (8<p0)),h,_,(Z4 _),hS,kut E⟩}}
 {
 rintro a w ⟨x4,h,m2,hm3,hS,E⟩;unfold fJ at h;refine kif E rfl (λhd6=>?_) (λhd6=>?_)
 {
 have h:=aA hd6 h;refine ae (ah (qA E rfl λa E=>ag (bA ?_)));obtain rfl:=oi h
 try dsimp only
 refine f1 E ?_;exact⟨_,hm3,hS,(aq (show inR .i64 1 from aw (by decide)))⟩}
 {
 have h:=aB hd6 h;refine aQ (ae (ae (ah (qM E rfl λa E=>sp E (bd (k:=(ai .i64)) E rfl rfl underlying49 (ha1.mono hm3)) rfl λa E=>qM E rfl λa E=>ag ?_))));refine bw (λa w=>eH p0 p2=some r∧∃m',M.le m2 m'∧S W0 m' w L TL∧Env 69 a [(0,.int .i64 p0),(2,v2)]) ?_ ?_
 {
 refine aJ ?_;refine cH h (λ(s:Int) a w=>∃m',M.le m2 m'∧inR .i64 s∧S W0 m' w L TL∧Env 69 a [(0,.int .i64 p0),(1,v1),(2,v2),(18,v1),(19,.int .i64 (p1.length:Int)),(20,.int .i64 s)]) ?_ ?_
 {exact⟨_,(Z4 _),(show inR .i64 0 from aw (by decide)),hS,kut E⟩}
 {
 rintro x91 a w ⟨m89,hm90,hr92,hS,E⟩ r93 h hb94;have h:fI p0 p1 p2 x91=some r93:=h;unfold fI at h;refine ae (ah (qB E rfl rfl bn λa E=>ag (ae (kif E rfl (λhd96=>?_) (λhd96=>?_)))))
 {
 have h:=aA hd96 h;refine aQ (ae (aJ (ae (ah (qM E rfl λa E=>?_)))));obtain⟨x98,hx99,h⟩:=ob h;refine st E (dT (k:=(ai .i64)) E rfl rfl underlying49 sizeOf3 (ha1.mono (Z0 hm3 hm90)) hx99) rfl ?_;rintro v101 a _ ⟨rfl,hp100⟩ E;refine st E (bG E hS ty3 rfl hp100) rfl ?_;rintro v103 a _ ⟨rfl,hv102⟩ E;obtain⟨rfl,hr104⟩:=aG hv102;refine qA E rfl λa E=>qA E rfl λa E=>ag (ae ?_);refine bw (λa w=>∃x109:Bool,eI x91 x109=some r93∧∃m',M.le m89 m'∧S W0 m' w L TL∧Env 69 a [(0,.int .i64 p0),(1,v1),(2,v2),(18,v1),(19,.int .i64 (p1.length:Int)),(20,.int .i64 x91),(38,.bool x109)]) ?_ ?_
 {
 refine ah (qM E rfl λa E=>qB E rfl rfl bn λa E=>qM E rfl λa E=>?_);rcases Z3 (decide (x98<0)) with hd118|hd118
 {have h:=aA hd118 h;refine qX E hd118 λa E=>qX E hd118 λa E=>qX E hd118 λa E=>qT E hd118 rfl λa E=>qM E rfl λa E=>qX E rfl λa E=>qX E rfl λa E=>qX E rfl λa E=>qX E rfl λa E=>qX E rfl λa E=>?_;refine qT E rfl rfl λa E=>ag ?_;exact⟨true,h,_,(Z4 _),hS,kut E⟩}
 {
 have h:=aB hd118 h;refine qG E hd118 rfl λa E=>qG E hd118 rfl λa E=>spg E rfl rfl rfl rfl hd118 (aP E rfl rfl yT) rfl λa E=>qF E hd118 rfl λa E=>qM E rfl λa E=>?_;rcases Z3 (decide (p0≤x98)) with hd127|hd127
 {have h:=aA hd127 h;refine qX E hd127 λa E=>qX E hd127 λa E=>qX E hd127 λa E=>qX E hd127 λa E=>qX E hd127 λa E=>qT E hd127 rfl λa E=>ag ?_;exact⟨true,h,_,(Z4 _),hS,kut E⟩}
 {
 have h:=aB hd127 h;refine qG E hd127 rfl λa E=>qG E hd127 rfl λa E=>?_;obtain⟨x131,hx132,h⟩:=ob h;refine stg E rfl rfl rfl rfl hd127 (eD (k:=(ai .i64)) E rfl underlying49 sizeOf3 (ha1.mono (Z0 hm3 hm90)) rfl ⟨_,rfl⟩ hx132 (xl:=none) (xh:=(some (.tmp 34)))) rfl ?_;rintro v134 a _ ⟨rfl,hv133⟩ E;refine qG E hd127 rfl λa E=>?_;obtain⟨r136,hr137,h⟩:=ob h;refine stg E rfl rfl rfl rfl hd127 (aF (vs:=[v134,(.int .i64 x98)]) E rfl call132 (uk (hS:=hS) hv133 hr104 hr137)) rfl ?_;rintro v141 a w ⟨m138,hm139,hS,hv140⟩ E;obtain rfl:=eQ hv140;refine qF E hd127 rfl λa E=>ag ?_
 exact⟨r136,h,_,hm139,hS,kut E⟩}}}
 {
 rintro a w ⟨x109,h,m107,hm108,hS,E⟩;unfold eI at h;refine kif E rfl (λhd111=>?_) (λhd111=>?_)
 {
 have h:=aA hd111 h;refine ae (ah (qA E rfl λa E=>ag (bA ?_)));have h:=bE h hb94;obtain rfl:=oi h
 try dsimp only
 refine f1 E ?_;exact⟨_,(Z0 hm3 (Z0 hm90 hm108)),hS,(aq (show inR .i64 1 from aw (by decide)))⟩}
 {have h:=aB hd111 h;refine aQ (ah (qB E rfl rfl (be rfl) λa E=>qM E rfl λa E=>ag ?_));exact⟨Z1.wrap (x91+1),(Option.some.inj h).symm,_,(Z0 hm90 hm108),(ak _ _),hS,kut E⟩}}}
 {have h:=aB hd96 h;refine cC rfl rfl ?_;have h:=bE h hb94;exact⟨h,_,hm90,hS,kut E⟩}}}
 {
 rintro a w ⟨h,m11,hm12,hS,E⟩;unfold eH at h;refine ae (ae (ah (qM E rfl λa E=>sp E (bd (k:=ab) E rfl rfl underlying50 (ha2.mono (Z0 hm3 hm12))) rfl λa E=>qB E rfl rfl ju λa E=>ag (kif E rfl (λhd17=>?_) (λhd17=>?_)))))
 {
 have h:=aA hd17 h;refine ae (ah (qA E rfl λa E=>ag (bA ?_)));obtain rfl:=oi h
 try dsimp only
 refine f1 E ?_;exact⟨_,(Z0 hm3 hm12),hS,(aq (show inR .i64 81 from aw (by decide)))⟩}
 {
 have h:=aB hd17 h;refine aQ (ae (ah ?_));refine st E (Fa hS) rfl ?_;rintro _ a w ⟨b19,rfl,hS,hk20,hB21⟩ E;refine qA E rfl λa E=>ag (ae (ae (ah (qM E rfl λa E=>sp E (bd (k:=ab) E rfl rfl underlying50 (ha2.mono (Z0 hm3 hm12))) rfl λa E=>qM E rfl λa E=>ag ?_))));refine bw (λa w=>∃x29:(List aL),mg x29=some r∧∃m',M.le m11 m'∧∃(es30:Array MapEntry),∃(ck31:Nat),pu F5 es30 ck31 x29∧S (W0.put b19 (.map es30 ck31)) m' w L TL∧Env 69 a []) ?_ ?_
 {
 refine aJ ?_;refine cH h (λ(s:Int×List aL) a w=>∃m',M.le m11 m'∧∃(es40:Array MapEntry),∃(ck41:Nat),inR .i64 s.1∧pu F5 es40 ck41 s.2∧S (W0.put b19 (.map es40 ck41)) m' w L TL∧Env 69 a [(0,.int .i64 p0),(9,(.map (some b19))),(44,v2),(45,.int .i64 (p2.length:Int)),(46,.int .i64 s.1)]) ?_ ?_
 {exact⟨_,(Z4 _),#[],0,(show inR .i64 0 from aw (by decide)),(pu.nil (K:=F5)),hS,kut E⟩}
 {
 rintro ⟨x37,x39⟩ a w ⟨m35,hm36,es40,ck41,hr38,hc42,hS,E⟩ r43 h hb44;have h:dv p0 p2 x37 x39=some r43:=h;unfold dv at h;refine ae (ah (qB E rfl rfl bn λa E=>ag (ae (kif E rfl (λhd46=>?_) (λhd46=>?_)))))
 {
 have h:=aA hd46 h;refine aQ (ae (aJ (ae (ah ?_))));obtain⟨x47,hx48,h⟩:=ob h;refine st E (dT (k:=ab) E rfl rfl underlying50 sizeOf59 (ha2.mono (Z0 hm3 (Z0 hm12 hm36))) hx48) rfl ?_;rintro v50 a _ ⟨rfl,hp49⟩ E;refine st E (bG E hS fA rfl hp49) rfl ?_;rintro v52 a _ ⟨rfl,hv51⟩ E;refine st E (dS hS zeroValue59 rfl (cs:=Jv)) rfl ?_;rintro _ a w ⟨b53,rfl,hS⟩ E;refine st0 E (dG E hS fA bm rfl rfl hv51 (i:=0) rfl (yM _)) ?_;rintro _ w ⟨cs55,hc56,hS⟩ E;refine ag (ae ?_);refine QP (K:=F5) mixed rfl E rfl hS hB21 hc42 rfl rfl underlying171 zeroValue3 qy zK yN (i:=0) rfl hc56 underlying3 ?_
 intro a w es58 ck59 E hS hc60;refine ae ?_;refine bw (λa w=>∃x63:Bool,fH x37 x39 x47 x63=some r43∧∃m',M.le m35 m'∧S (W0.put b19 (.map es58 ck59)) m' w ((b53,cs55)::L) (TL)∧Env 69 a [(0,.int .i64 p0),(9,(.map (some b19))),(44,v2),(45,.int .i64 (p2.length:Int)),(46,.int .i64 x37),(67,.bool x63)]) ?_ ?_
 {
 refine ah (qM E rfl λa E=>?_);refine st E (aC E hS fA rfl (i:=0) rfl (aR hc56)) rfl ?_;rintro v71 a _ ⟨rfl,hv70⟩ E;obtain⟨r72,hr73,h⟩:=ob h;refine st E (aF (vs:=[(.int .i64 p0),v71]) E rfl call133 (zQ (hS:=hS) ha0 hv70 hr73)) rfl ?_;rintro v77 a w ⟨m74,hm75,hS,hv76⟩ E;obtain rfl:=eQ hv76;refine sp E (lT E rfl) rfl λa E=>qM E rfl λa E=>?_;rcases Z3 (!r72) with hd80|hd80
 {have h:=aA hd80 h;refine qX E hd80 λa E=>qX E hd80 λa E=>qX E hd80 λa E=>qX E hd80 λa E=>qX E hd80 λa E=>qT E hd80 rfl λa E=>ag ?_;exact⟨true,h,_,hm75,hS,kut E⟩}
 {have h:=aB hd80 h;refine qG E hd80 rfl λa E=>spg E rfl rfl rfl rfl hd80 (aM E qy rfl) rfl λa E=>?_;refine stg E rfl rfl rfl rfl hd80 (aC E hS yN rfl (i:=0) rfl (zK.R_drop (aR (ab.mono hm75 hc56)))) rfl ?_;rintro v85 a _ ⟨rfl,hv84⟩ E;refine spg E rfl rfl rfl rfl hd80 (Em (k:=bv) E hS hc60 rfl rfl hv84 underlying171 zeroValue3) rfl λa E=>spg E rfl rfl rfl rfl hd80 (aP E rfl rfl ju) rfl λa E=>qF E hd80 rfl λa E=>ag ?_;exact⟨(decide (1<(jz (x47.fId::x39) x47.fId))),h,_,hm75,hS,kut E⟩}}
 {
 rintro a w ⟨x63,h,m61,hm62,hS,E⟩;unfold fH at h;refine kif E rfl (λhd65=>?_) (λhd65=>?_)
 {
 have h:=aA hd65 h;refine ae (ah (qA E rfl λa E=>ag (bA ?_)));have h:=bE h hb44;obtain rfl:=oi h
 try dsimp only
 refine f1 E ?_;exact⟨_,(Z0 hm3 (Z0 hm12 (Z0 hm36 hm62))),(S.unK (hS.dropL 1) hk20),(aq (show inR .i64 81 from aw (by decide)))⟩}
 {have h:=aB hd65 h;refine aQ (ah (qB E rfl rfl (be rfl) λa E=>qM E rfl λa E=>ag ?_));exact⟨(Z1.wrap (x37+1),(x47.fId::x39)),(Option.some.inj h).symm,_,(Z0 hm36 hm62),es58,ck59,(ak _ _),hc60,(hS.pickL 1 [] rfl rfl rfl),kut E⟩}}}
 {have h:=aB hd46 h;refine cC rfl rfl ?_;have h:=bE h hb44;exact⟨x39,h,_,hm36,es40,ck41,hc42,hS,E.cut trivial⟩}}}
 {
 rintro a w ⟨x29,h,m27,hm28,es30,ck31,hc32,hS,E⟩;unfold mg at h;refine ae (ah (qA E rfl λa E=>ag (bA ?_)));obtain rfl:=oi h
 try dsimp only
 refine f1 E ?_;exact⟨_,(Z0 hm3 (Z0 hm12 hm28)),(S.unK hS hk20),(aq (show inR .i64 0 from aw (by decide)))⟩}}}}}
theorem ve  (hS:S W0 m w L TL) {p0} (ha0:RV (kSl kAp) m v0 p0) {r} (h:ic p0=some r):
    Calls prog 92 [v0].toArray w (Ret λv w'=>∃m',M.le m m'∧S W0 m' w' L ((4,v)::TL)∧RV (kSl kAp) m' v r):=by
 refine kc func92 ntmps92 λa E=>?_;have E:Env 8 a [(0,v0)]:=E;unfold ic at h;refine ae (ah (qA E rfl λa E=>ag (ae (ae (ah (qM E rfl λa E=>?_))))));refine st E (yb (k:=kAp) E rfl rfl ha0 underlying22) rfl ?_;rintro v5 a _ ⟨rfl,bn3,rfl,hb4⟩ E;refine ag (kif E rfl (λhd6=>?_) (λhd6=>?_))
 {
 have hx_:=hb4 hd6;have h:some ([])=some r:=by rw[hx_] at h;exact h
 refine ae (ah (qA E rfl λa E=>ag (bA ?_)));obtain rfl:=oi h
 try dsimp only
 refine f1 E ?_;exact⟨_,(Z4 _),((hS.dropT 0).tail0 4),dL⟩}
 {
 refine aQ (ae (ah ?_));refine st E (fC (k:=kAp) (xs:=[]) (vs:=[]) E hS rfl underlying22 sizeOf32 zeroValue32 trivial rfl (by decide)) rfl ?_;rintro v11 a w ⟨m9,hm10,hS,hv8⟩ E;refine qM E rfl λa E=>?_;obtain⟨z13,hz14,h⟩:=ob h;refine st E (kt (k:=kAp) (N:=3518437208883) E hS rfl rfl underlying22 underlying22 DD (i:=0) rfl hv8 (ha0.mono hm10) hz14 rfl rfl) rfl ?_;rintro v18 a w ⟨m16,hm17,hS,hv15⟩ E;refine qA E rfl λa E=>ag (bA ?_);obtain rfl:=oi h
 try dsimp only
 refine f1 E ?_;exact⟨_,(Z0 hm10 hm17),(hS.pickT 1 [0] rfl rfl rfl),hv15⟩}
theorem Qg:Ctr Sz prog 92 [.rd (.sl (.st 32))] [.ap (.st 32)] (λx=>ic x.1):=by
 intro W0 m w L TL vs x r Lp Tp hS hP h;obtain⟨v0,vs,rfl,a0,hP0⟩:=kN hP;obtain⟨rfl,rfl,rfl⟩:=oL hP0;refine rm (ve (hS:=hS) a0 h) λv w' he=>?_;obtain⟨m',hm,Z',r0⟩:=he;exact⟨m',[v],[],[],[(4,v)],hm,Z',rfl,⟨r0,rfl,trivial⟩,trivial⟩
def Qh:=mC Qg call92
theorem Qi:Ctr Sz prog 65 [.rd (.st 59)] [.rd (.st 59)] (fun x=>nz x.1):=
 nxR [Qh] [.cell 2 59] func65 ntmps65 .o λx=>by kernel_rfl
theorem BR  (hS:S W0 m w L TL) {p0} (ha0:RV ab m v0 p0) {r} (h:nz p0=some r):
    Calls prog 65 [v0].toArray w (Ret λv w'=>∃m',M.le m m'∧S W0 m' w' L TL∧RV ab m' v r):=by
 refine rm (Qi W0 m w L TL [v0] (p0,()) r [] [] hS ⟨ha0,trivial⟩ h) λv w' he=>?_;obtain⟨m',us,Lr,Lq,Tr,hm,Z',rfl,hR,hO⟩:=he;obtain⟨u0,us,rfl,r0,hR0⟩:=dC hR;obtain⟨rfl,rfl,rfl⟩:=cE hR0;have hO0:=bT hO;obtain rfl:=cF hO0;exact⟨m',hm,Z',r0⟩
theorem Qj:Ctr Sz prog 70 [.rd (.sl (.int .i64)),.rd (.sl (.st 32))] [.ap (.st 32)] (fun x=>lK x.1 x.2.1):=
 ncR [DK] [4] func70 ntmps70 (.s .o (.s .o (.s (.s .o (.b (.l ⟨[.v 5 1 (.dat (.sl (.st 32)) (some 0)),.v 11 1 (.dat (.int .i64) none)],[1,9,10],0,[4]⟩ .o))) .o))) λx=>by kernel_rfl
theorem vz  (hS:S W0 m w L TL) {p0} (ha0:RV (kSl (ai .i64)) m v0 p0) {p1} (ha1:RV (kSl kAp) m v1 p1) {r} (h:lK p0 p1=some r):
    Calls prog 70 [v0,v1].toArray w (Ret λv w'=>∃m',M.le m m'∧S W0 m' w' L ((4,v)::TL)∧RV (kSl kAp) m' v r):=by
 refine rm (Qj W0 m w L TL [v0,v1] (p0,p1,()) r [] [] hS ⟨ha0,⟨ha1,trivial⟩⟩ h) λv w' he=>?_;obtain⟨m',us,Lr,Lq,Tr,hm,Z',rfl,hR,hO⟩:=he;obtain⟨u0,us,Tr,rfl,rfl,r0,hR0⟩:=uF hR;obtain⟨rfl,rfl,rfl⟩:=cE hR0;have hO0:=bT hO;have hO1:=bT hO0;obtain rfl:=cF hO1;exact⟨m',hm,Z',r0⟩
theorem NY:Ctr Sz prog 173 [.rd (.int .i64)] [.rd .bool] (fun x=>lq x.1):=
 ncR [] [2] func173 ntmps173 .o λx=>by kernel_rfl
def NZ:=mC NY call173
theorem N0:Ctr Sz prog 127 [.rd (.int .i64),.rd (.int .i64)] [.rd (.int .i64)] (fun x=>it x.1 x.2.1):=
 ncR [NZ] [4] func127 ntmps127 .o λx=>by kernel_rfl
def HP:=mC N0 call127
theorem N1:Ctr Sz prog 180 [.rd (.int .i64)] [.rd .bool] (fun x=>jJ x.1):=
 ncR [] [2] func180 ntmps180 .o λx=>by kernel_rfl
def N2:=mC N1 call180
theorem N3:Ctr Sz prog 155 [.rd (.int .i64),.rd (.int .i64)] [.rd (.int .i64)] (fun x=>iI x.1 x.2.1):=
 ncR [N2] [4] func155 ntmps155 .o λx=>by kernel_rfl
def N4:=mC N3 call155
theorem sn  (hS:S W0 m w L TL) {p0} (ha0: ∀n∈p0,0≤n∧n<256) (hl0_:p0.length≤cI) {p1} (ha1: ∀n∈p1,0≤n∧n<256) (hl1_:p1.length≤cI) {r} (h:ew p0 p1=some r):
    Calls prog 181 [(.string (bts p0)),(.string (bts p1))].toArray w (Ret λv w'=>∃m',M.le m m'∧S W0 m' w' L TL∧RV (ai .i64) m' v r):=by
 refine kc func181 ntmps181 λa E=>?_;have E:Env 8 a [(0,(.string (bts p0))),(1,(.string (bts p1)))]:=E;unfold ew at h;refine ae (ah (qA E rfl λa E=>ag (ae (ah (qM E rfl λa E=>qM E rfl λa E=>sp E (Gn E func194 (by kernel_rfl) (by kernel_rfl) (by kernel_rfl) (by kernel_rfl) rfl ha0 ha1) rfl λa E=>qA E rfl λa E=>?_)))));refine ag (bA ?_);obtain rfl:=oi h
 try dsimp only
 refine f1 E ?_;exact⟨_,(Z4 _),hS,(aq (Ie _ _))⟩
theorem N5:Ctr Sz prog 181 [.rd .str,.rd .str] [.rd (.int .i64)] (λx=>ew x.1 x.2.1):=by
 intro W0 m w L TL vs x r Lp Tp hS hP h;obtain⟨v0,vs,rfl,a0,hP0⟩:=kN hP;obtain⟨rfl,n0,l0⟩:=Cl a0;obtain⟨v1,vs,rfl,a1,hP1⟩:=kN hP0;obtain⟨rfl,n1,l1⟩:=Cl a1;obtain⟨rfl,rfl,rfl⟩:=oL hP1;refine rm (sn (hS:=hS) n0 l0 n1 l1 h) λv w' he=>?_;obtain⟨m',hm,Z',r0⟩:=he;exact⟨m',[v],[],[],[],hm,Z',rfl,⟨r0,trivial⟩,trivial⟩
def N6:=mC N5 call181
theorem N7:Ctr Sz prog 156 [.rd .str,.rd .str] [.rd (.int .i64)] (fun x=>lX x.1 x.2.1):=
 ncR [N6] [4] func156 ntmps156 .o λx=>by kernel_rfl
def N8:=mC N7 call156
theorem HQ:Ctr Sz prog 109 [.rd (.st 32),.rd (.st 32)] [.rd (.int .i64)] (fun x=>cB x.1 x.2.1):=
 ncR [HP,N4,N8] [4] func109 ntmps109 .o λx=>by kernel_rfl
def N9:=mC HQ call109
theorem zR  (hS:S W0 m w L TL) {p0} (ha0:RV kAp m v0 p0) {p1} (ha1:RV kAp m v1 p1) {r} (h:cB p0 p1=some r):
    Calls prog 109 [v0,v1].toArray w (Ret λv w'=>∃m',M.le m m'∧S W0 m' w' L TL∧RV (ai .i64) m' v r):=by
 refine rm (HQ W0 m w L TL [v0,v1] (p0,p1,()) r [] [] hS ⟨ha0,⟨ha1,trivial⟩⟩ h) λv w' he=>?_;obtain⟨m',us,Lr,Lq,Tr,hm,Z',rfl,hR,hO⟩:=he;obtain⟨u0,us,rfl,r0,hR0⟩:=dC hR;obtain⟨rfl,rfl,rfl⟩:=cE hR0;have hO0:=bT hO;have hO1:=bT hO0;obtain rfl:=cF hO1;exact⟨m',hm,Z',r0⟩
theorem Qk:Ctr Sz prog 69 [.rd (.sl (.st 32)),.rd (.sl (.st 32))] [.rd (.int .i64)] (fun x=>oY x.1 x.2.1):=
 ncR [N9,HP] [4] func69 ntmps69 (.s .o (.s (.s .o (.b (.l ⟨[.v 12 1 (.dat (.int .i64) none)],[0,1,11],0,[]⟩ .o))) .o)) λx=>by kernel_rfl
theorem DM  (hS:S W0 m w L TL) {p0} (ha0:RV (kSl kAp) m v0 p0) {p1} (ha1:RV (kSl kAp) m v1 p1) {r} (h:oY p0 p1=some r):
    Calls prog 69 [v0,v1].toArray w (Ret λv w'=>∃m',M.le m m'∧S W0 m' w' L TL∧RV (ai .i64) m' v r):=by
 refine rm (Qk W0 m w L TL [v0,v1] (p0,p1,()) r [] [] hS ⟨ha0,⟨ha1,trivial⟩⟩ h) λv w' he=>?_;obtain⟨m',us,Lr,Lq,Tr,hm,Z',rfl,hR,hO⟩:=he;obtain⟨u0,us,rfl,r0,hR0⟩:=dC hR;obtain⟨rfl,rfl,rfl⟩:=cE hR0;have hO0:=bT hO;have hO1:=bT hO0;obtain rfl:=cF hO1;exact⟨m',hm,Z',r0⟩
theorem Oa:Ctr Sz prog 174 [.rd (.int .u64)] [.rd .bool] (fun x=>k9 x.1):=
 ncR [] [2] func174 ntmps174 .o λx=>by kernel_rfl
def Ob:=mC Oa call174
theorem Oc:Ctr Sz prog 129 [.rd (.int .u64),.rd (.int .u64)] [.rd (.int .i64)] (fun x=>ij x.1 x.2.1):=
 ncR [Ob] [4] func129 ntmps129 .o λx=>by kernel_rfl
theorem vf  (hS:S W0 m w L TL) {p0} (ha0:inR .u64 p0) {p1} (ha1:inR .u64 p1) {r} (h:ij p0 p1=some r):
    Calls prog 129 [(.int .u64 p0),(.int .u64 p1)].toArray w (Ret λv w'=>∃m',M.le m m'∧S W0 m' w' L TL∧RV (ai .i64) m' v r):=by
 refine rm (Oc W0 m w L TL [(.int .u64 p0),(.int .u64 p1)] (p0,p1,()) r [] [] hS ⟨aq ha0,⟨aq ha1,trivial⟩⟩ h) λv w' he=>?_;obtain⟨m',us,Lr,Lq,Tr,hm,Z',rfl,hR,hO⟩:=he;obtain⟨u0,us,rfl,r0,hR0⟩:=dC hR;obtain⟨rfl,rfl,rfl⟩:=cE hR0;have hO0:=bT hO;have hO1:=bT hO0;obtain rfl:=cF hO1;exact⟨m',hm,Z',r0⟩
theorem Od:Ctr Sz prog 175 [.rd (.int .u32)] [.rd .bool] (fun x=>la x.1):=
 ncR [] [2] func175 ntmps175 .o λx=>by kernel_rfl
def Oe:=mC Od call175
theorem Of:Ctr Sz prog 130 [.rd (.int .u32),.rd (.int .u32)] [.rd (.int .i64)] (fun x=>ik x.1 x.2.1):=
 ncR [Oe] [4] func130 ntmps130 .o λx=>by kernel_rfl
theorem vg  (hS:S W0 m w L TL) {p0} (ha0:inR .u32 p0) {p1} (ha1:inR .u32 p1) {r} (h:ik p0 p1=some r):
    Calls prog 130 [(.int .u32 p0),(.int .u32 p1)].toArray w (Ret λv w'=>∃m',M.le m m'∧S W0 m' w' L TL∧RV (ai .i64) m' v r):=by
 refine rm (Of W0 m w L TL [(.int .u32 p0),(.int .u32 p1)] (p0,p1,()) r [] [] hS ⟨aq ha0,⟨aq ha1,trivial⟩⟩ h) λv w' he=>?_;obtain⟨m',us,Lr,Lq,Tr,hm,Z',rfl,hR,hO⟩:=he;obtain⟨u0,us,rfl,r0,hR0⟩:=dC hR;obtain⟨rfl,rfl,rfl⟩:=cE hR0;have hO0:=bT hO;have hO1:=bT hO0;obtain rfl:=cF hO1;exact⟨m',hm,Z',r0⟩
theorem Ql:Ctr Sz prog 68 [.rd (.sl (.int .i64))] [.rd (.int .i64)] (fun x=>mE x.1):=
 ncR [] [2] func68 ntmps68 (.s .o (.s .o (.s (.s .o (.b (.l ⟨[.v 8 1 (.dat (.int .i64) none)],[3,6,7],0,[]⟩ .o))) .o))) λx=>by kernel_rfl
theorem wW  (hS:S W0 m w L TL) {p0} (ha0:RV (kSl (ai .i64)) m v0 p0) {r} (h:mE p0=some r):
    Calls prog 68 [v0].toArray w (Ret λv w'=>∃m',M.le m m'∧S W0 m' w' L TL∧RV (ai .i64) m' v r):=by
 refine rm (Ql W0 m w L TL [v0] (p0,()) r [] [] hS ⟨ha0,trivial⟩ h) λv w' he=>?_;obtain⟨m',us,Lr,Lq,Tr,hm,Z',rfl,hR,hO⟩:=he;obtain⟨u0,us,rfl,r0,hR0⟩:=dC hR;obtain⟨rfl,rfl,rfl⟩:=cE hR0;have hO0:=bT hO;obtain rfl:=cF hO0;exact⟨m',hm,Z',r0⟩
theorem zS  (hS:S W0 m w L TL) {p0} (ha0:RV bv m v0 p0) {p1} (ha1:RV bv m v1 p1) {r} (h:lx p0 p1=some r):
    Calls prog 71 [v0,v1].toArray w (Ret λv w'=>∃m',M.le m m'∧S W0 m' w' L TL∧RV (ai .i64) m' v r):=by
 refine kc func71 ntmps71 λa E=>?_;have E:Env 17 a [(0,v0),(1,v1)]:=E;unfold lx at h;refine ae (ah ?_);refine st E (kq (k:=bv) E hS rfl ha0) rfl ?_;rintro _ a w ⟨b1,cs2,rfl,hc3,hS⟩ E;refine st E (kq (k:=bv) E hS rfl ha1) rfl ?_;rintro _ a w ⟨b5,cs6,rfl,hc7,hS⟩ E;refine qA E rfl λa E=>ag (ae ?_);obtain⟨r14,hr15,h⟩:=ob h
 refine kch (k:=9) (m:=m) (es:=[]) (Φ:=(λi m ws v=>match i with|0=>v=(pz b1)|1=>ei .u64 p0.fEpoch v|2=>v=(pz b5)|3=>ei .u64 p1.fEpoch v|4=>ei .i64 r14 v|5=>v=(.pointer (some ⟨b1,1,none⟩))|6=>ei .u32 p0.fNumber v|7=>v=(.pointer (some ⟨b5,1,none⟩))|8=>ei .u32 p1.fNumber v|_=>True)) (Q:=(λc m ws L' TL'=>match c with|0=>(b5,cs6)::(b1,cs2)::L=L'∧TL=TL'|_=>False)) (cs:=[⟨0,0,false,[(2,pz b1)]⟩,⟨0,0,false,[]⟩,⟨0,0,false,[(3,pz b5)]⟩,⟨0,0,false,[]⟩,⟨0,0,false,[]⟩,⟨0,0,false,[(2,pz b1)]⟩,⟨0,0,false,[]⟩,⟨0,0,false,[(3,pz b5)]⟩,⟨0,0,false,[]⟩]) mixed E hS ⟨rfl,rfl⟩ rfl rfl (by kernel_rfl) ?_ ?_ ?_ ?_
 {
 intro i m_ m2_ ws v n_ q_
 iterate 9 (rcases i with _|i;exact q_)
 exact trivial}
 {
 intro c m_ m2_ ws L_ T_ n_ hq_
 match c,hq_ with
 |0,⟨e1_,e2_⟩=>exact⟨e1_,e2_⟩
 |_+1,hq_=>exact hq_.elim}
 {
 refine⟨?_,?_,?_,?_,?_,?_,?_,?_,?_,trivial⟩
 {refine cp0 λ_ _ _ _ _ _ _ _ _ Z' E' _=>?_;exact cq (aM E' zN rfl) Z' rfl}
 {refine cp1 λ_ _ _ _ _ M' Q' Z' E' T'=>?_;obtain⟨rfl,rfl⟩:=Q';have E:=E'.add (T' 0);exact cr (aC E Z' yJ rfl (i:=1) rfl (MM.R_drop (aR (bv.mono M' hc3)))) Z' λ_ h=>aG h}
 {refine cp0 λ_ _ _ _ _ _ _ _ _ Z' E' _=>?_;exact cq (aM E' zN rfl) Z' rfl}
 {refine cp1 λ_ _ _ _ _ M' Q' Z' E' T'=>?_;obtain⟨rfl,rfl⟩:=Q';have E:=E'.add (T' 2);exact cr (aC E Z' yJ rfl (i:=0) rfl (MM.R_drop (aR (bv.mono M' hc7)))) Z' λ_ h=>aG h}
 {refine cp0 λ_ _ _ _ _ _ _ _ _ Z' E' T'=>?_;obtain⟨q38,hr39⟩:=T' 1;have E:=E'.add q38;obtain⟨q42,hr43⟩:=T' 3;have E:=E.add q42;refine bg.imp (aF (vs:=[(.int .u64 p0.fEpoch),(.int .u64 p1.fEpoch)]) E rfl call129 (vf (hS:=Z') hr39 hr43 hr15)) ?_;rintro v44 w ⟨m16,hm17,hS,hv18⟩;obtain⟨rfl,hr45⟩:=aG hv18;exact⟨_,hm17,hS,⟨rfl,hr45⟩⟩}
 {refine cp0 λ_ _ _ _ _ _ _ _ _ Z' E' _=>?_;exact cq (aM E' zO rfl) Z' rfl}
 {refine cp1 λ_ _ _ _ _ M' Q' Z' E' T'=>?_;obtain⟨rfl,rfl⟩:=Q';have E:=E'.add (T' 5);exact cr (aC E Z' AT rfl (i:=1) rfl (MN.R_drop (aR (bv.mono M' hc3)))) Z' λ_ h=>aG h}
 {refine cp0 λ_ _ _ _ _ _ _ _ _ Z' E' _=>?_;exact cq (aM E' zO rfl) Z' rfl}
 {refine cp1 λ_ _ _ _ _ M' Q' Z' E' T'=>?_;obtain⟨rfl,rfl⟩:=Q';have E:=E'.add (T' 7);exact cr (aC E Z' AT rfl (i:=0) rfl (MN.R_drop (aR (bv.mono M' hc7)))) Z' λ_ h=>aG h}}
 {
 intro ws_ L_ T_ m58 a w hl59 hm60 hq61 hS hd62 hn63 ho64 hT65;obtain rfl:=eh hl59;obtain⟨rfl,rfl⟩:=hq61;have E:=eof 9 [(0,v0),(1,v1),(2,pz b1),(3,pz b5),(4,.int .i64 0)] hd62 hn63 ho64;obtain⟨q68,hr69⟩:=hT65 4;have E:=E.add q68;obtain⟨q72,hr73⟩:=hT65 6;have E:=E.add q72;obtain⟨q76,hr77⟩:=hT65 8;have E:=E.add q76;obtain⟨r78,hr79,h⟩:=ob h;refine st E (aF (vs:=[(.int .u32 p0.fNumber),(.int .u32 p1.fNumber)]) E rfl call130 (vg (hS:=hS) hr73 hr77 hr79)) rfl ?_;rintro v83 a w ⟨m80,hm81,hS,hv82⟩ E;obtain⟨rfl,hr84⟩:=aG hv82
 refine st E (fC (k:=(ai .i64)) (xs:=[r14,r78]) (vs:=[(.int .i64 r14),(.int .i64 r78)]) E hS rfl underlying49 sizeOf3 zeroValue3 ⟨(aq hr69),(aq hr84),trivial⟩ rfl (by decide)) rfl ?_;rintro v88 a w ⟨m86,hm87,hS,hv85⟩ E;obtain⟨r89,hr90,h⟩:=ob h;refine st E (aF (vs:=[v88]) E rfl call68 (wW (hS:=hS) hv85 hr90)) rfl ?_;rintro v94 a w ⟨m91,hm92,hS,hv93⟩ E;obtain⟨rfl,hr95⟩:=aG hv93;refine qA E rfl λa E=>ag (bA ?_);obtain rfl:=oi h
 try dsimp only
 refine f1 E ?_;exact⟨_,(Z0 hm60 (Z0 hm81 (Z0 hm87 hm92))),((hS.dropL 2).dropT 1),(aq hr95)⟩}
theorem wX  (hS:S W0 m w L TL) {p0} (ha0:RV ab m v0 p0) {p1} (ha1:RV ab m v1 p1) {p2} (ha2:PR (kSl (ai .i64)) m v2 p2) {r} (h:eG p0 p1 p2=some r):
    Calls prog 67 [v0,v1,v2].toArray w (Ret λv w'=>∃m',M.le m m'∧S W0 m' w' L TL∧RV (ai .i64) m' v r):=by
 refine kc func67 ntmps67 λa E=>?_;have E:Env 22 a [(0,v0),(1,v1),(2,v2)]:=E;unfold eG at h;refine ae (ah ?_);refine st E (kq (k:=ab) E hS rfl ha0) rfl ?_;rintro _ a w ⟨b1,cs2,rfl,hc3,hS⟩ E;refine st E (kq (k:=ab) E hS rfl ha1) rfl ?_;rintro _ a w ⟨b5,cs6,rfl,hc7,hS⟩ E;refine qA E rfl λa E=>ag (ae ?_);obtain⟨r12,hr13,r19,hr20,h⟩:=ob2 h;obtain⟨r24,hr25,h⟩:=ob h
 refine kch (k:=13) (m:=m) (es:=[]) (Φ:=(λi m ws v=>match i with|0=>RV (kSl (ai .i64)) m v p2|1=>v=(.pointer (some ⟨b1,2,none⟩))|2=>RV (kSl kAp) m v p0.fRow|3=>RV (kSl kAp) m v r12|4=>RV (kSl (ai .i64)) m v p2|5=>v=(.pointer (some ⟨b5,2,none⟩))|6=>RV (kSl kAp) m v p1.fRow|7=>RV (kSl kAp) m v r19|8=>ei .i64 r24 v|9=>v=(pz b1)|10=>RV bv m v p0.fId|11=>v=(pz b5)|12=>RV bv m v p1.fId|_=>True)) (Q:=(λc m ws L' TL'=>match c with|0=>(b5,cs6)::(b1,cs2)::L=L'∧TL=TL'|_=>False)) (cs:=[⟨0,0,false,[(2,v2)]⟩,⟨0,0,false,[(3,pz b1)]⟩,⟨0,0,false,[]⟩,⟨0,0,false,[]⟩,⟨0,0,false,[(2,v2)]⟩,⟨0,0,false,[(4,pz b5)]⟩,⟨0,0,false,[]⟩,⟨0,0,false,[]⟩,⟨0,0,false,[]⟩,⟨0,0,false,[(3,pz b1)]⟩,⟨0,0,false,[]⟩,⟨0,0,false,[(4,pz b5)]⟩,⟨0,0,false,[]⟩]) mixed E hS ⟨rfl,rfl⟩ rfl rfl (by kernel_rfl) ?_ ?_ ?_ ?_
 {
 intro i m_ m2_ ws v n_ q_
 iterate 13 (rcases i with _|i;first|exact q_|exact RV.mono q_ n_)
 exact trivial}
 {
 intro c m_ m2_ ws L_ T_ n_ hq_
 match c,hq_ with
 |0,⟨e1_,e2_⟩=>exact⟨e1_,e2_⟩
 |_+1,hq_=>exact hq_.elim}
 {
 refine⟨?_,?_,?_,?_,?_,?_,?_,?_,?_,?_,?_,?_,?_,trivial⟩
 {refine cp0 λ_ _ _ _ _ _ _ M' _ Z' E' _=>?_;exact cr (bG E' Z' tL rfl (ha2.mono M')) Z' λ_ h=>h}
 {refine cp0 λ_ _ _ _ _ _ _ _ _ Z' E' _=>?_;exact cq (aM E' wV rfl) Z' rfl}
 {refine cp1 λ_ _ _ _ _ M' Q' Z' E' T'=>?_;obtain⟨rfl,rfl⟩:=Q';have E:=E'.add (T' 1);exact cr (aC E Z' wT rfl (i:=1) rfl (MO.R_drop (aR (ab.mono M' hc3)))) Z' λ_ h=>h}
 {refine cp0 λ_ _ _ m' a' _ _ _ _ Z' E' T'=>?_;obtain⟨v38,E,q40⟩:=adv E' (T' 0);obtain⟨v41,E,q43⟩:=adv E (T' 2);refine bg.imp (aF (vs:=[v38,v41]) E rfl call70 (vz (hS:=Z') q40 q43 hr13)) ?_;rintro v44 w ⟨m14,hm15,hS,hv16⟩;exact⟨_,hm15,(hS.dropT 1),hv16⟩}
 {refine cp0 λ_ _ _ _ _ _ _ M' _ Z' E' _=>?_;exact cr (bG E' Z' tL rfl (ha2.mono M')) Z' λ_ h=>h}
 {refine cp0 λ_ _ _ _ _ _ _ _ _ Z' E' _=>?_;exact cq (aM E' wV rfl) Z' rfl}
 {refine cp1 λ_ _ _ _ _ M' Q' Z' E' T'=>?_;obtain⟨rfl,rfl⟩:=Q';have E:=E'.add (T' 5);exact cr (aC E Z' wT rfl (i:=0) rfl (MO.R_drop (aR (ab.mono M' hc7)))) Z' λ_ h=>h}
 {refine cp0 λ_ _ _ m' a' _ _ _ _ Z' E' T'=>?_;obtain⟨v51,E,q53⟩:=adv E' (T' 4);obtain⟨v54,E,q56⟩:=adv E (T' 6);refine bg.imp (aF (vs:=[v51,v54]) E rfl call70 (vz (hS:=Z') q53 q56 hr20)) ?_;rintro v57 w ⟨m21,hm22,hS,hv23⟩;exact⟨_,hm22,(hS.dropT 1),hv23⟩}
 {refine cp0 λ_ _ _ m' a' _ _ _ _ Z' E' T'=>?_;obtain⟨v58,E,q60⟩:=adv E' (T' 3);obtain⟨v61,E,q63⟩:=adv E (T' 7);refine bg.imp (aF (vs:=[v58,v61]) E rfl call69 (DM (hS:=Z') q60 q63 hr25)) ?_;rintro v64 w ⟨m26,hm27,hS,hv28⟩;obtain⟨rfl,hr65⟩:=aG hv28;exact⟨_,hm27,hS,⟨rfl,hr65⟩⟩}
 {refine cp0 λ_ _ _ _ _ _ _ _ _ Z' E' _=>?_;exact cq (aM E' qy rfl) Z' rfl}
 {refine cp1 λ_ _ _ _ _ M' Q' Z' E' T'=>?_;obtain⟨rfl,rfl⟩:=Q';have E:=E'.add (T' 9);exact cr (aC E Z' yN rfl (i:=1) rfl (zK.R_drop (aR (ab.mono M' hc3)))) Z' λ_ h=>h}
 {refine cp0 λ_ _ _ _ _ _ _ _ _ Z' E' _=>?_;exact cq (aM E' qy rfl) Z' rfl}
 {refine cp1 λ_ _ _ _ _ M' Q' Z' E' T'=>?_;obtain⟨rfl,rfl⟩:=Q';have E:=E'.add (T' 11);exact cr (aC E Z' yN rfl (i:=0) rfl (zK.R_drop (aR (ab.mono M' hc7)))) Z' λ_ h=>h}}
 {
 intro ws_ L_ T_ m76 a w hl77 hm78 hq79 hS hd80 hn81 ho82 hT83;obtain rfl:=eh hl77;obtain⟨rfl,rfl⟩:=hq79;have E:=eof 13 [(0,v0),(1,v1),(2,v2),(3,pz b1),(4,pz b5),(5,.int .i64 0)] hd80 hn81 ho82;obtain⟨q86,hr87⟩:=hT83 8;have E:=E.add q86;obtain⟨v88,E,q90⟩:=adv E (hT83 10);obtain⟨v91,E,q93⟩:=adv E (hT83 12);obtain⟨r94,hr95,h⟩:=ob h;refine st E (aF (vs:=[v88,v91]) E rfl call71 (zS (hS:=hS) q90 q93 hr95)) rfl ?_;rintro v99 a w ⟨m96,hm97,hS,hv98⟩ E;obtain⟨rfl,hr100⟩:=aG hv98
 refine st E (fC (k:=(ai .i64)) (xs:=[r24,r94]) (vs:=[(.int .i64 r24),(.int .i64 r94)]) E hS rfl underlying49 sizeOf3 zeroValue3 ⟨(aq hr87),(aq hr100),trivial⟩ rfl (by decide)) rfl ?_;rintro v104 a w ⟨m102,hm103,hS,hv101⟩ E;obtain⟨r105,hr106,h⟩:=ob h;refine st E (aF (vs:=[v104]) E rfl call68 (wW (hS:=hS) hv101 hr106)) rfl ?_;rintro v110 a w ⟨m107,hm108,hS,hv109⟩ E;obtain⟨rfl,hr111⟩:=aG hv109;refine qA E rfl λa E=>ag (bA ?_);obtain rfl:=oi h
 try dsimp only
 refine f1 E ?_;exact⟨_,(Z0 hm78 (Z0 hm97 (Z0 hm103 hm108))),((hS.dropL 2).dropT 1),(aq hr111)⟩}
theorem gU  {b0_:Nat} {c0_:List Value} (hS:S W0 m w ((b0_,c0_)::L) (TL)) {p0} (ha0:GS ab m b0_ c0_ v0 p0) {p1} (ha1:inR .i64 p1) {p2} (ha2:inR .i64 p2) {p3} (ha3:Fn2 prog ab ab (ai .i64) m v3 p3) {r} (h:ce p0 p1 p2 p3=some r):
    Calls prog 171 [v0,(.int .i64 p1),(.int .i64 p2),v3].toArray w (Ret λv w'=>∃m',M.le m m'∧∃q0_:List Value,S W0 m' w' ((b0_,q0_)::L) (TL)∧GS ab m' b0_ q0_ v0 r):=by
 refine kc func171 ntmps171 λa E=>?_;have E:Env 53 a [(0,v0),(1,.int .i64 p1),(2,.int .i64 p2),(3,v3)]:=E;unfold ce at h;refine ae (ah (qM E rfl λa E=>qB E rfl rfl (be rfl) λa E=>qA E rfl λa E=>ag (aJ ?_)));refine cH h (λ(s:Int×List aa) a w=>∃m',M.le m m'∧∃(cs9:List Value),inR .i64 s.1∧GS ab m' b0_ cs9 v0 s.2∧S W0 m' w ((b0_,cs9)::L) (TL)∧Env 53 a [(0,v0),(1,.int .i64 p1),(2,.int .i64 p2),(3,v3),(8,.int .i64 s.1)]) ?_ ?_
 {exact⟨_,(Z4 _),c0_,(ak _ _),ha0,hS,kut E⟩}
 {
 rintro ⟨x6,x8⟩ a w ⟨m4,hm5,cs9,hr7,hc10,hS,E⟩ r11 h hb12;have h:bh p1 p2 p3 x6 x8=some r11:=h;unfold bh at h;refine ae (ae (ah (qM E rfl λa E=>qM E rfl λa E=>qB E rfl rfl bn λa E=>ag (kif E rfl (λhd16=>?_) (λhd16=>?_)))))
 {
 have h:=aA hd16 h;refine aQ (ae ?_);refine bw (λa w=>∃x19:(List aa),cy x6 x19=some r11∧∃m',M.le m4 m'∧∃(cs20:List Value),GS ab m' b0_ cs20 v0 x19∧S W0 m' w ((b0_,cs20)::L) (TL)∧Env 53 a [(0,v0),(1,.int .i64 p1),(2,.int .i64 p2),(3,v3),(8,.int .i64 x6)]) ?_ ?_
 {
 refine aJ (ae (ah (qM E rfl λa E=>qA E rfl λa E=>ag (aJ ?_))));refine cH h (λ(s:Int×List aa) a w=>∃m',M.le m4 m'∧∃(cs33:List Value),inR .i64 s.1∧GS ab m' b0_ cs33 v0 s.2∧S W0 m' w ((b0_,cs33)::L) (TL)∧Env 53 a [(0,v0),(1,.int .i64 p1),(2,.int .i64 p2),(3,v3),(8,.int .i64 x6),(9,.int .i64 s.1)]) ?_ ?_
 {exact⟨_,(Z4 _),cs9,hr7,hc10,hS,kut E⟩}
 {
 rintro ⟨x30,x32⟩ a w ⟨m28,hm29,cs33,hr31,hc34,hS,E⟩ r35 h hb36;have h:aY p1 p3 x6 x30 x32=some r35:=h;unfold aY at h;refine ae (ae ?_);refine bw (λa w=>∃x39:Bool,aX x6 x30 x32 x39=some r35∧∃m',M.le m28 m'∧S W0 m' w ((b0_,cs33)::L) (TL)∧Env 53 a [(0,v0),(1,.int .i64 p1),(2,.int .i64 p2),(3,v3),(8,.int .i64 x6),(9,.int .i64 x30),(34,.bool x39)]) ?_ ?_
 {
 rcases Z3 (decide (p1<x30)) with hd145|hd145
 {
 have h:=aA hd145 h;obtain⟨j146,hj147,x149,hx150,h⟩:=ob2 h;obtain⟨j151,hj152,x154,hx155,h⟩:=ob2 h
 refine kch (k:=14) (m:=m28) (es:=[]) (Φ:=(λi m ws v=>match i with|0=>ei .i64 x30 v|1=>ei .i64 p1 v|2=>v=(.bool (decide (p1<x30)))|3=>v=(.bool (decide (p1<x30)))|4=>v=v3|5=>v=v0|6=>ei .i64 x30 v|7=>v=(.pointer (some ⟨b0_,j146*4,none⟩))|8=>RV ab m v x149|9=>v=v0|10=>ei .i64 x30 v|11=>ei .i64 (Z1.wrap (x30 - 1)) v|12=>v=(.pointer (some ⟨b0_,j151*4,none⟩))|13=>RV ab m v x154|_=>True)) (Q:=(λc m ws L' TL'=>match c with|0=>(b0_,cs33)::L=L'∧TL=TL'|_=>False)) (cs:=[⟨0,0,false,[(9,.int .i64 x30)]⟩,⟨0,0,false,[(1,.int .i64 p1)]⟩,⟨0,0,false,[]⟩,⟨0,0,false,[]⟩,⟨0,0,false,[(3,v3)]⟩,⟨0,0,false,[(0,v0)]⟩,⟨0,0,false,[(9,.int .i64 x30)]⟩,⟨0,0,false,[]⟩,⟨0,0,false,[]⟩,⟨0,0,false,[(0,v0)]⟩,⟨0,0,false,[(9,.int .i64 x30)]⟩,⟨0,0,false,[]⟩,⟨0,0,false,[]⟩,⟨0,0,false,[]⟩]) mixed E hS ⟨rfl,rfl⟩ rfl rfl (by kernel_rfl) ?_ ?_ ?_ ?_
 {
 intro i m_ m2_ ws v n_ q_
 iterate 14 (rcases i with _|i;first|exact q_|exact RV.mono q_ n_)
 exact trivial}
 {
 intro c m_ m2_ ws L_ T_ n_ hq_
 match c,hq_ with
 |0,⟨e1_,e2_⟩=>exact⟨e1_,e2_⟩
 |_+1,hq_=>exact hq_.elim}
 {
 refine⟨?_,?_,?_,?_,?_,?_,?_,?_,?_,?_,?_,?_,?_,?_,trivial⟩
 {exact cmv λ_ _=>⟨rfl,hr31⟩}
 {exact cmv λ_ _=>⟨rfl,ha1⟩}
 {refine cp0 λ_ _ _ _ _ _ _ _ _ Z' E' T'=>?_;have E:=(E'.add (T' 0).1).add (T' 1).1;exact cq (aP E rfl rfl ju) Z' rfl}
 {refine cp0 λ_ _ _ _ _ _ _ _ _ Z' E' T'=>?_;have E:=E'.add (T' 2);exact cq (iF E rfl) Z' rfl}
 {exact cgm (gz hd145) (λ_ _=>rfl)}
 {exact cgm (gz hd145) (λ_ _=>rfl)}
 {exact cgm (gz hd145) (λ_ _=>⟨rfl,hr31⟩)}
 {refine cg1 (gz hd145) λ_ _ _ _ _ M' Q' Z' E' T'=>?_;obtain⟨rfl,rfl⟩:=Q';have E:=(E'.add (T' 5)).add (T' 6).1;exact cq (br (k:=ab) E rfl rfl underlying50 sizeOf59 (hc34.mono M') hj147 rfl) Z' rfl}
 {refine cg1 (gz hd145) λ_ _ _ _ _ M' Q' Z' E' T'=>?_;obtain⟨rfl,rfl⟩:=Q';have E:=E'.add (T' 7);exact cr (aC E Z' fA rfl (i:=0) rfl (GS.elem (hc34.mono M') hx150)) Z' λ_ h=>h}
 {exact cgm (gz hd145) (λ_ _=>rfl)}
 {exact cgm (gz hd145) (λ_ _=>⟨rfl,hr31⟩)}
 {refine cg0 (gz hd145) λ_ _ _ _ _ _ _ _ _ Z' E' T'=>?_;have E:=E'.add (T' 10).1;exact cq (aP E rfl rfl (dq rfl)) Z' ⟨rfl,(ak _ _)⟩}
 {refine cg1 (gz hd145) λ_ _ _ _ _ M' Q' Z' E' T'=>?_;obtain⟨rfl,rfl⟩:=Q';have E:=(E'.add (T' 9)).add (T' 11).1;exact cq (br (k:=ab) E rfl rfl underlying50 sizeOf59 (hc34.mono M') hj152 rfl) Z' rfl}
 {refine cg1 (gz hd145) λ_ _ _ _ _ M' Q' Z' E' T'=>?_;obtain⟨rfl,rfl⟩:=Q';have E:=E'.add (T' 12);exact cr (aC E Z' fA rfl (i:=0) rfl (GS.elem (hc34.mono M') hx155)) Z' λ_ h=>h}}
 {
 intro ws_ L_ T_ m205 a w hl206 hm207 hq208 hS hd209 hn210 ho211 hT212;obtain rfl:=eh hl206;obtain⟨rfl,rfl⟩:=hq208;have E:=eof 14 [(0,v0),(1,.int .i64 p1),(2,.int .i64 p2),(3,v3),(8,.int .i64 x6),(9,.int .i64 x30)] hd209 hn210 ho211;have E:=((((E.add (hT212 3)).add (hT212 4)).add (hT212 5)).add (hT212 6).1).add (hT212 7);obtain⟨v229,e230,q231⟩:∃v,a.tmps.getD 26 undef=v∧(RV ab m205 v x149):=⟨_,rfl,hT212 8⟩
 have E:=((((E.add (e230)).add (hT212 9)).add (hT212 10).1).add (hT212 11).1).add (hT212 12);obtain⟨v246,E,q248⟩:=adv E (hT212 13);obtain⟨r249,hr250,h⟩:=ob h;refine stg E rfl rfl rfl rfl hd145 (ox E hS rfl rfl (ha3.mono (Z0 hm5 (Z0 hm29 hm207))) q231 q248 hr250) rfl ?_;rintro v254 a w ⟨m251,hm252,hS,hv253⟩ E;obtain⟨rfl,hr255⟩:=aG hv253;refine spg E rfl rfl rfl rfl hd145 (aP E rfl rfl bn) rfl λa E=>qT E hd145 rfl λa E=>ag ?_;exact⟨(decide (r249<0)),h,_,(Z0 hm207 hm252),hS,kut E⟩}}
 {
 have h:=aB hd145 h
 refine kch (k:=14) (m:=m28) (es:=[]) (Φ:=(λi m ws v=>match i with|0=>ei .i64 x30 v|1=>ei .i64 p1 v|2=>v=(.bool (decide (p1<x30)))|3=>v=(.bool (decide (p1<x30)))|4=>v=undef|5=>v=undef|6=>v=undef|7=>v=undef|8=>v=undef|9=>v=undef|10=>v=undef|11=>v=undef|12=>v=undef|13=>v=undef|_=>True)) (Q:=(λc m ws L' TL'=>match c with|0=>(b0_,cs33)::L=L'∧TL=TL'|_=>False)) (cs:=[⟨0,0,false,[(9,.int .i64 x30)]⟩,⟨0,0,false,[(1,.int .i64 p1)]⟩,⟨0,0,false,[]⟩,⟨0,0,false,[]⟩,⟨0,0,false,[(3,v3)]⟩,⟨0,0,false,[(0,v0)]⟩,⟨0,0,false,[(9,.int .i64 x30)]⟩,⟨0,0,false,[]⟩,⟨0,0,false,[]⟩,⟨0,0,false,[(0,v0)]⟩,⟨0,0,false,[(9,.int .i64 x30)]⟩,⟨0,0,false,[]⟩,⟨0,0,false,[]⟩,⟨0,0,false,[]⟩]) mixed E hS ⟨rfl,rfl⟩ rfl rfl (by kernel_rfl) ?_ ?_ ?_ ?_
 {
 intro i m_ m2_ ws v n_ q_
 iterate 14 (rcases i with _|i;exact q_)
 exact trivial}
 {
 intro c m_ m2_ ws L_ T_ n_ hq_
 match c,hq_ with
 |0,⟨e1_,e2_⟩=>exact⟨e1_,e2_⟩
 |_+1,hq_=>exact hq_.elim}
 {
 refine⟨?_,?_,?_,?_,?_,?_,?_,?_,?_,?_,?_,?_,?_,?_,trivial⟩
 {exact cmv λ_ _=>⟨rfl,hr31⟩}
 {exact cmv λ_ _=>⟨rfl,ha1⟩}
 {refine cp0 λ_ _ _ _ _ _ _ _ _ Z' E' T'=>?_;have E:=(E'.add (T' 0).1).add (T' 1).1;exact cq (aP E rfl rfl ju) Z' rfl}
 {refine cp0 λ_ _ _ _ _ _ _ _ _ Z' E' T'=>?_;have E:=E'.add (T' 2);exact cq (iF E rfl) Z' rfl}
 {exact csk (gz hd145)}
 {exact csk (gz hd145)}
 {exact csk (gz hd145)}
 {exact csk (gz hd145)}
 {exact csk (gz hd145)}
 {exact csk (gz hd145)}
 {exact csk (gz hd145)}
 {exact csk (gz hd145)}
 {exact csk (gz hd145)}
 {exact csk (gz hd145)}}
 {intro ws_ L_ T_ m273 a w hl274 hm275 hq276 hS hd277 hn278 ho279 hT280;obtain rfl:=eh hl274;obtain⟨rfl,rfl⟩:=hq276;have E:=eof 14 [(0,v0),(1,.int .i64 p1),(2,.int .i64 p2),(3,v3),(8,.int .i64 x6),(9,.int .i64 x30)] hd277 hn278 ho279;have E:=((((((((((E.add (hT280 3)).add (hT280 4)).add (hT280 5)).add (hT280 6)).add (hT280 7)).add (hT280 8)).add (hT280 9)).add (hT280 10)).add (hT280 11)).add (hT280 12)).add (hT280 13);refine qX E hd145 λa E=>qX E hd145 λa E=>qF E hd145 rfl λa E=>ag ?_;exact⟨false,h,_,hm275,hS,kut E⟩}}}
 {
 rintro a w ⟨x39,h,m37,hm38,hS,E⟩;unfold aX at h;refine kif E rfl (λhd41=>?_) (λhd41=>?_)
 {
 have h:=aA hd41 h;refine aQ (ae (aJ ?_));obtain⟨j42,hj43,x45,hx46,h⟩:=ob2 h;obtain⟨j47,hj48,x50,hx51,h⟩:=ob2 h;obtain⟨j52,hj53,x56,hx57,h⟩:=ob2 h
 refine kch (k:=16) (m:=m37) (es:=[15]) (Φ:=(λi m ws v=>match i with|0=>v=v0|1=>ei .i64 x30 v|2=>v=v0|3=>ei .i64 x30 v|4=>ei .i64 (Z1.wrap (x30 - 1)) v|5=>v=v0|6=>ei .i64 x30 v|7=>ei .i64 (Z1.wrap (x30 - 1)) v|8=>v=(.pointer (some ⟨b0_,j42*4,none⟩))|9=>RV ab m v x45|10=>v=v0|11=>ei .i64 x30 v|12=>v=(.pointer (some ⟨b0_,j47*4,none⟩))|13=>RV ab m v x50|14=>v=(.pointer (some ⟨b0_,j52*4,none⟩))|15=>True|_=>True)) (Q:=(λc m ws L' TL'=>match c with|0=>(b0_,cs33)::L=L'∧TL=TL'|1=>(b0_,(wi ws 0).c)::L=L'∧TL=TL'∧GS ab m b0_ (wi ws 0).c v0 (x32.set j52 x45)|_=>False)) (cs:=[⟨0,0,false,[(0,v0)]⟩,⟨0,0,false,[(9,.int .i64 x30)]⟩,⟨0,1,false,[(0,v0)]⟩,⟨0,1,false,[(9,.int .i64 x30)]⟩,⟨0,1,false,[]⟩,⟨0,0,false,[(0,v0)]⟩,⟨0,0,false,[(9,.int .i64 x30)]⟩,⟨0,0,false,[]⟩,⟨0,0,false,[]⟩,⟨0,0,false,[]⟩,⟨0,0,false,[(0,v0)]⟩,⟨0,0,false,[(9,.int .i64 x30)]⟩,⟨0,0,false,[]⟩,⟨0,0,false,[]⟩,⟨0,0,false,[]⟩,⟨0,0,true,[]⟩]) mixed E hS ⟨rfl,rfl⟩ rfl rfl (by kernel_rfl) ?_ ?_ ?_ ?_
 {
 intro i m_ m2_ ws v n_ q_
 iterate 16 (rcases i with _|i;first|exact q_|exact RV.mono q_ n_)
 exact trivial}
 {
 intro c m_ m2_ ws L_ T_ n_ hq_
 match c,hq_ with
 |0,⟨e1_,e2_⟩=>exact⟨e1_,e2_⟩
 |1,⟨e1_,e2_,f0_⟩=>exact⟨e1_,e2_,(GS.mono f0_ n_)⟩
 |_+2,hq_=>exact hq_.elim}
 {
 refine⟨?_,?_,?_,?_,?_,?_,?_,?_,?_,?_,?_,?_,?_,?_,?_,?_,trivial⟩
 {exact cmv λ_ _=>rfl}
 {exact cmv λ_ _=>⟨rfl,hr31⟩}
 {exact cmv λ_ _=>rfl}
 {exact cmv λ_ _=>⟨rfl,hr31⟩}
 {refine cp0 λ_ _ _ _ _ _ _ _ _ Z' E' T'=>?_;have E:=E'.add (T' 3).1;exact cq (aP E rfl rfl (dq rfl)) Z' ⟨rfl,(ak _ _)⟩}
 {exact cmv λ_ _=>rfl}
 {exact cmv λ_ _=>⟨rfl,hr31⟩}
 {refine cp0 λ_ _ _ _ _ _ _ _ _ Z' E' T'=>?_;have E:=E'.add (T' 6).1;exact cq (aP E rfl rfl (dq rfl)) Z' ⟨rfl,(ak _ _)⟩}
 {refine cp1 λ_ _ _ _ _ M' Q' Z' E' T'=>?_;obtain⟨rfl,rfl⟩:=Q';have E:=(E'.add (T' 5)).add (T' 7).1;exact cq (br (k:=ab) E rfl rfl underlying50 sizeOf59 (hc34.mono (Z0 hm38 M')) hj43 rfl) Z' rfl}
 {refine cp1 λ_ _ _ _ _ M' Q' Z' E' T'=>?_;obtain⟨rfl,rfl⟩:=Q';have E:=E'.add (T' 8);exact cr (aC E Z' fA rfl (i:=0) rfl (GS.elem (hc34.mono (Z0 hm38 M')) hx46)) Z' λ_ h=>h}
 {exact cmv λ_ _=>rfl}
 {exact cmv λ_ _=>⟨rfl,hr31⟩}
 {refine cp1 λ_ _ _ _ _ M' Q' Z' E' T'=>?_;obtain⟨rfl,rfl⟩:=Q';have E:=(E'.add (T' 10)).add (T' 11).1;exact cq (br (k:=ab) E rfl rfl underlying50 sizeOf59 (hc34.mono (Z0 hm38 M')) hj48 rfl) Z' rfl}
 {refine cp1 λ_ _ _ _ _ M' Q' Z' E' T'=>?_;obtain⟨rfl,rfl⟩:=Q';have E:=E'.add (T' 12);exact cr (aC E Z' fA rfl (i:=0) rfl (GS.elem (hc34.mono (Z0 hm38 M')) hx51)) Z' λ_ h=>h}
 {refine cp1 λ_ _ _ _ _ M' Q' Z' E' T'=>?_;obtain⟨rfl,rfl⟩:=Q';have E:=(E'.add (T' 0)).add (T' 1).1;exact cq (br (k:=ab) E rfl rfl underlying50 sizeOf59 (hc34.mono (Z0 hm38 M')) hj53 rfl) Z' rfl}
 {
 refine sA λpre_ L_ T_ m' a' w' hl' M' Q' Z' E' T'=>?_;obtain rfl:=eh hl';obtain⟨rfl,rfl⟩:=Q';obtain⟨v109,e110,q111⟩:∃v,a'.tmps.getD 46 undef=v∧(RV ab m' v x45):=⟨_,rfl,T' 9 (by decide) 46 rfl⟩
 have E:=(E'.add (e110)).add (T' 14 (by decide) 51 rfl);refine bg.imp (ef (k:=ab) E Z' fA bm (hc34.mono (Z0 hm38 M')) hx57 rfl rfl q111 (i:=0) rfl) ?_;rintro vv58 w ⟨cs54,hc55,hS⟩;exact⟨_,⟨0,undef,cs54,[],[]⟩,_,_,Z4 _,hS,⟨rfl,rfl,hc55⟩,trivial⟩}}
 {
 intro ws_ L_ T_ m115 a w hl116 hm117 hq118 hS hd119 hn120 ho121 hT122;obtain⟨⟨_,_,cs54,_,_⟩,rfl⟩:=ux hl116;obtain⟨rfl,rfl,hc123⟩:=hq118;have E:=eof 16 [(0,v0),(1,.int .i64 p1),(2,.int .i64 p2),(3,v3),(8,.int .i64 x6),(9,.int .i64 x30),(34,.bool x39)] hd119 hn120 ho121;have E:=(E.add (hT122 2)).add (hT122 4).1;obtain⟨v131,E,q133⟩:=adv E (hT122 13);obtain⟨j134,hj135,h⟩:=ob h;refine sp E (br (k:=ab) E rfl rfl underlying50 sizeOf59 hc123 hj135 rfl) rfl λa E=>?_;obtain⟨x139,hx140,h⟩:=ob h;refine st0 E (ef (k:=ab) E hS fA bm hc123 hx140 rfl rfl q133 (i:=0) rfl) ?_
 rintro _ w ⟨cs137,hc138,hS⟩ E;refine ag (ah (qM E rfl λa E=>qB E rfl rfl (dq rfl) λa E=>qA E rfl λa E=>ag ?_));exact⟨(Z1.wrap (x30 - 1),((x32.set j52 x45).set j134 x50)),(Option.some.inj h).symm,_,(Z0 hm29 (Z0 hm38 hm117)),cs137,(ak _ _),hc138,hS,kut E⟩}}
 {have h:=aB hd41 h;refine cC rfl rfl ?_;have h:=bE h hb36;exact⟨x32,h,_,(Z0 hm29 hm38),cs33,(hc34.mono hm38),hS,kut E⟩}}}}
 {rintro a w ⟨x19,h,m17,hm18,cs20,hc21,hS,E⟩;unfold cy at h;refine ah (qM E rfl λa E=>qB E rfl rfl (be rfl) λa E=>qA E rfl λa E=>ag ?_);exact⟨(Z1.wrap (x6+1),x19),(Option.some.inj h).symm,_,(Z0 hm5 hm18),cs20,(ak _ _),hc21,hS,kut E⟩}}
 {
 have h:=aB hd16 h;refine cC rfl rfl ?_;have h:=bE h hb12;obtain rfl:=oi h
 try dsimp only
 refine Fin.mk E (rs:=[]) rfl rx.nil ?_;exact⟨_,hm5,cs9,hS,hc10⟩}}
theorem fi  {b0_:Nat} {c0_:List Value} (hS:S W0 m w ((b0_,c0_)::L) (TL)) {p0} (ha0:GS ab m b0_ c0_ v0 p0) {p1} (ha1:inR .i64 p1) {p2} (ha2:inR .i64 p2) {p3} (ha3:inR .i64 p3) {p4} (ha4:Fn2 prog ab ab (ai .i64) m v4 p4) {r} (h:cc p0 p1 p2 p3 p4=some r):
    Calls prog 198 [v0,(.int .i64 p1),(.int .i64 p2),(.int .i64 p3),v4].toArray w (Ret λv w'=>∃m',M.le m m'∧∃q0_:List Value,S W0 m' w' ((b0_,q0_)::L) (TL)∧GS ab m' b0_ q0_ v0 r):=by
 refine kc func198 ntmps198 λa E=>?_;have E:Env 38 a [(0,v0),(1,.int .i64 p1),(2,.int .i64 p2),(3,.int .i64 p3),(4,v4)]:=E;unfold cc at h;refine ae (ah (qA E rfl λa E=>ag (aJ ?_)));refine cH h (λ(s:Int×List aa) a w=>∃m',M.le m m'∧∃(cs7:List Value),inR .i64 s.1∧GS ab m' b0_ cs7 v0 s.2∧S W0 m' w ((b0_,cs7)::L) (TL)∧Env 38 a [(0,v0),(1,.int .i64 p1),(2,.int .i64 p2),(3,.int .i64 p3),(10,.int .i64 s.1)]) ?_ ?_
 {exact⟨_,(Z4 _),c0_,(show inR .i64 0 from aw (by decide)),ha0,hS,kut E⟩}
 {
 rintro ⟨x4,x6⟩ a w ⟨m2,hm3,cs7,hr5,hc8,hS,E⟩ r9 h hb10;have h:bF p1 p2 p3 x4 x6=some r9:=h;unfold bF at h;refine ae (ae (ah (qM E rfl λa E=>qM E rfl λa E=>qB E rfl rfl bn λa E=>ag (kif E rfl (λhd14=>?_) (λhd14=>?_)))))
 {
 have h:=aA hd14 h;refine aQ (ae (aJ ?_));obtain⟨j15,hj16,x18,hx19,h⟩:=ob2 h;obtain⟨j20,hj21,x23,hx24,h⟩:=ob2 h;obtain⟨j25,hj26,x29,hx30,h⟩:=ob2 h
 refine kch (k:=22) (m:=m2) (es:=[21]) (Φ:=(λi m ws v=>match i with|0=>v=v0|1=>ei .i64 p1 v|2=>ei .i64 x4 v|3=>ei .i64 (Z1.wrap (p1+x4)) v|4=>v=v0|5=>ei .i64 p2 v|6=>ei .i64 x4 v|7=>ei .i64 (Z1.wrap (p2+x4)) v|8=>v=v0|9=>ei .i64 p2 v|10=>ei .i64 x4 v|11=>ei .i64 (Z1.wrap (p2+x4)) v|12=>v=(.pointer (some ⟨b0_,j15*4,none⟩))|13=>RV ab m v x18|14=>v=v0|15=>ei .i64 p1 v|16=>ei .i64 x4 v|17=>ei .i64 (Z1.wrap (p1+x4)) v|18=>v=(.pointer (some ⟨b0_,j20*4,none⟩))|19=>RV ab m v x23|20=>v=(.pointer (some ⟨b0_,j25*4,none⟩))|21=>True|_=>True)) (Q:=(λc m ws L' TL'=>match c with|0=>(b0_,cs7)::L=L'∧TL=TL'|1=>(b0_,(wi ws 0).c)::L=L'∧TL=TL'∧GS ab m b0_ (wi ws 0).c v0 (x6.set j25 x18)|_=>False)) (cs:=[⟨0,0,false,[(0,v0)]⟩,⟨0,0,false,[(1,.int .i64 p1)]⟩,⟨0,0,false,[(10,.int .i64 x4)]⟩,⟨0,0,false,[]⟩,⟨0,1,false,[(0,v0)]⟩,⟨0,1,false,[(2,.int .i64 p2)]⟩,⟨0,1,false,[(10,.int .i64 x4)]⟩,⟨0,1,false,[]⟩,⟨0,0,false,[(0,v0)]⟩,⟨0,0,false,[(2,.int .i64 p2)]⟩,⟨0,0,false,[(10,.int .i64 x4)]⟩,⟨0,0,false,[]⟩,⟨0,0,false,[]⟩,⟨0,0,false,[]⟩,⟨0,0,false,[(0,v0)]⟩,⟨0,0,false,[(1,.int .i64 p1)]⟩,⟨0,0,false,[(10,.int .i64 x4)]⟩,⟨0,0,false,[]⟩,⟨0,0,false,[]⟩,⟨0,0,false,[]⟩,⟨0,0,false,[]⟩,⟨0,0,true,[]⟩]) mixed E hS ⟨rfl,rfl⟩ rfl rfl (by kernel_rfl) ?_ ?_ ?_ ?_
 {
 intro i m_ m2_ ws v n_ q_
 iterate 22 (rcases i with _|i;first|exact q_|exact RV.mono q_ n_)
 exact trivial}
 {
 intro c m_ m2_ ws L_ T_ n_ hq_
 match c,hq_ with
 |0,⟨e1_,e2_⟩=>exact⟨e1_,e2_⟩
 |1,⟨e1_,e2_,f0_⟩=>exact⟨e1_,e2_,(GS.mono f0_ n_)⟩
 |_+2,hq_=>exact hq_.elim}
 {
 refine⟨?_,?_,?_,?_,?_,?_,?_,?_,?_,?_,?_,?_,?_,?_,?_,?_,?_,?_,?_,?_,?_,?_,trivial⟩
 {exact cmv λ_ _=>rfl}
 {exact cmv λ_ _=>⟨rfl,ha1⟩}
 {exact cmv λ_ _=>⟨rfl,hr5⟩}
 {refine cp0 λ_ _ _ _ _ _ _ _ _ Z' E' T'=>?_;have E:=(E'.add (T' 1).1).add (T' 2).1;exact cq (aP E rfl rfl (be rfl)) Z' ⟨rfl,(ak _ _)⟩}
 {exact cmv λ_ _=>rfl}
 {exact cmv λ_ _=>⟨rfl,ha2⟩}
 {exact cmv λ_ _=>⟨rfl,hr5⟩}
 {refine cp0 λ_ _ _ _ _ _ _ _ _ Z' E' T'=>?_;have E:=(E'.add (T' 5).1).add (T' 6).1;exact cq (aP E rfl rfl (be rfl)) Z' ⟨rfl,(ak _ _)⟩}
 {exact cmv λ_ _=>rfl}
 {exact cmv λ_ _=>⟨rfl,ha2⟩}
 {exact cmv λ_ _=>⟨rfl,hr5⟩}
 {refine cp0 λ_ _ _ _ _ _ _ _ _ Z' E' T'=>?_;have E:=(E'.add (T' 9).1).add (T' 10).1;exact cq (aP E rfl rfl (be rfl)) Z' ⟨rfl,(ak _ _)⟩}
 {refine cp1 λ_ _ _ _ _ M' Q' Z' E' T'=>?_;obtain⟨rfl,rfl⟩:=Q';have E:=(E'.add (T' 8)).add (T' 11).1;exact cq (br (k:=ab) E rfl rfl underlying50 sizeOf59 (hc8.mono M') hj16 rfl) Z' rfl}
 {refine cp1 λ_ _ _ _ _ M' Q' Z' E' T'=>?_;obtain⟨rfl,rfl⟩:=Q';have E:=E'.add (T' 12);exact cr (aC E Z' fA rfl (i:=0) rfl (GS.elem (hc8.mono M') hx19)) Z' λ_ h=>h}
 {exact cmv λ_ _=>rfl}
 {exact cmv λ_ _=>⟨rfl,ha1⟩}
 {exact cmv λ_ _=>⟨rfl,hr5⟩}
 {refine cp0 λ_ _ _ _ _ _ _ _ _ Z' E' T'=>?_;have E:=(E'.add (T' 15).1).add (T' 16).1;exact cq (aP E rfl rfl (be rfl)) Z' ⟨rfl,(ak _ _)⟩}
 {refine cp1 λ_ _ _ _ _ M' Q' Z' E' T'=>?_;obtain⟨rfl,rfl⟩:=Q';have E:=(E'.add (T' 14)).add (T' 17).1;exact cq (br (k:=ab) E rfl rfl underlying50 sizeOf59 (hc8.mono M') hj21 rfl) Z' rfl}
 {refine cp1 λ_ _ _ _ _ M' Q' Z' E' T'=>?_;obtain⟨rfl,rfl⟩:=Q';have E:=E'.add (T' 18);exact cr (aC E Z' fA rfl (i:=0) rfl (GS.elem (hc8.mono M') hx24)) Z' λ_ h=>h}
 {refine cp1 λ_ _ _ _ _ M' Q' Z' E' T'=>?_;obtain⟨rfl,rfl⟩:=Q';have E:=(E'.add (T' 0)).add (T' 3).1;exact cq (br (k:=ab) E rfl rfl underlying50 sizeOf59 (hc8.mono M') hj26 rfl) Z' rfl}
 {
 refine sA λpre_ L_ T_ m' a' w' hl' M' Q' Z' E' T'=>?_;obtain rfl:=eh hl';obtain⟨rfl,rfl⟩:=Q';obtain⟨v112,e113,q114⟩:∃v,a'.tmps.getD 29 undef=v∧(RV ab m' v x18):=⟨_,rfl,T' 13 (by decide) 29 rfl⟩
 have E:=(E'.add (e113)).add (T' 20 (by decide) 36 rfl);refine bg.imp (ef (k:=ab) E Z' fA bm (hc8.mono M') hx30 rfl rfl q114 (i:=0) rfl) ?_;rintro vv31 w ⟨cs27,hc28,hS⟩;exact⟨_,⟨0,undef,cs27,[],[]⟩,_,_,Z4 _,hS,⟨rfl,rfl,hc28⟩,trivial⟩}}
 {
 intro ws_ L_ T_ m118 a w hl119 hm120 hq121 hS hd122 hn123 ho124 hT125;obtain⟨⟨_,_,cs27,_,_⟩,rfl⟩:=ux hl119;obtain⟨rfl,rfl,hc126⟩:=hq121;have E:=eof 22 [(0,v0),(1,.int .i64 p1),(2,.int .i64 p2),(3,.int .i64 p3),(10,.int .i64 x4),(11,.int .i64 x4),(12,.int .i64 p3),(13,.bool (decide (x4<p3)))] hd122 hn123 ho124;have E:=(E.add (hT125 4)).add (hT125 7).1;obtain⟨v134,E,q136⟩:=adv E (hT125 19);obtain⟨j137,hj138,h⟩:=ob h;refine sp E (br (k:=ab) E rfl rfl underlying50 sizeOf59 hc126 hj138 rfl) rfl λa E=>?_;obtain⟨x142,hx143,h⟩:=ob h
 refine st0 E (ef (k:=ab) E hS fA bm hc126 hx143 rfl rfl q136 (i:=0) rfl) ?_;rintro _ w ⟨cs140,hc141,hS⟩ E;refine ag (ah (qM E rfl λa E=>qB E rfl rfl (be rfl) λa E=>qA E rfl λa E=>ag ?_));exact⟨(Z1.wrap (x4+1),((x6.set j25 x18).set j137 x23)),(Option.some.inj h).symm,_,(Z0 hm3 hm120),cs140,(ak _ _),hc141,hS,kut E⟩}}
 {
 have h:=aB hd14 h;refine cC rfl rfl ?_;have h:=bE h hb10;obtain rfl:=oi h
 try dsimp only
 refine Fin.mk E (rs:=[]) rfl rx.nil ?_;exact⟨_,hm3,cs7,hS,hc8⟩}}
theorem pj  {b0_:Nat} {c0_:List Value} (hS:S W0 m w ((b0_,c0_)::L) (TL)) {p0} (ha0:GS ab m b0_ c0_ v0 p0) {p1} (ha1:inR .i64 p1) {p2} (ha2:inR .i64 p2) {p3} (ha3:inR .i64 p3) {p4} (ha4:Fn2 prog ab ab (ai .i64) m v4 p4) {r} (h:cA p0 p1 p2 p3 p4=some r):
    Calls prog 185 [v0,(.int .i64 p1),(.int .i64 p2),(.int .i64 p3),v4].toArray w (Ret λv w'=>∃m',M.le m m'∧∃q0_:List Value,S W0 m' w' ((b0_,q0_)::L) (TL)∧GS ab m' b0_ q0_ v0 r):=by
 refine kc func185 ntmps185 λa E=>?_;have E:Env 58 a [(0,v0),(1,.int .i64 p1),(2,.int .i64 p2),(3,.int .i64 p3),(4,v4)]:=E;unfold cA at h;refine ae (ah (qM E rfl λa E=>qM E rfl λa E=>qB E rfl rfl (dq rfl) λa E=>qA E rfl λa E=>ag (ae (ah (qM E rfl λa E=>?_)))));refine qM E rfl λa E=>qB E rfl rfl (dq rfl) λa E=>qA E rfl λa E=>ag (ae ?_)
 refine bw (λa w=>∃x11:Int,∃x13:(List aa),d6 p2 p4 x11 x13=some r∧∃m',M.le m m'∧∃(cs14:List Value),inR .i64 x11∧GS ab m' b0_ cs14 v0 x13∧S W0 m' w ((b0_,cs14)::L) (TL)∧Env 58 a [(0,v0),(2,.int .i64 p2),(4,v4),(10,.int .i64 x11)]) ?_ ?_
 {
 refine aJ ?_;refine cH h (λ(s:Int×Int×List aa) a w=>∃m',M.le m m'∧∃(cs38:List Value),inR .i64 s.1∧inR .i64 s.2.1∧GS ab m' b0_ cs38 v0 s.2.2∧S W0 m' w ((b0_,cs38)::L) (TL)∧Env 58 a [(0,v0),(2,.int .i64 p2),(4,v4),(10,.int .i64 s.1),(11,.int .i64 s.2.1)]) ?_ ?_
 {exact⟨_,(Z4 _),c0_,(ak _ _),(ak _ _),ha0,hS,kut E⟩}
 {
 rintro ⟨x33,x35,x37⟩ a w ⟨m31,hm32,cs38,hr34,hr36,hc39,hS,E⟩ r40 h hb41;have h:bB p2 p4 x33 x35 x37=some r40:=h;unfold bB at h;refine ae (ae (ah (qM E rfl λa E=>qM E rfl λa E=>qB E rfl rfl lS λa E=>ag (kif E rfl (λhd45=>?_) (λhd45=>?_)))))
 {
 have h:=aA hd45 h;refine aQ (aJ (ae (ah (qM E rfl λa E=>qM E rfl λa E=>qB E rfl rfl ju λa E=>ag (kif E rfl (λhd49=>?_) (λhd49=>?_))))))
 {
 have h:=aA hd49 h;refine ae (ah (qM E rfl λa E=>qM E rfl λa E=>qM E rfl λa E=>qB E rfl rfl (dq rfl) λa E=>qM E rfl λa E=>qM E rfl λa E=>qM E rfl λa E=>?_));obtain⟨r57,hr58,h⟩:=ob h;refine st E (aF (vs:=[v0,(.int .i64 (Z1.wrap (p2 - x33))),(.int .i64 p2),(.int .i64 x35),v4]) E rfl call198 (fi (hS:=hS) hc39 (ak _ _) ha2 hr36 (ha4.mono hm32) hr58)) rfl ?_;rintro v63 a w ⟨m59,hm60,c0_61,hS,hc0_62⟩ E;refine ag (ah (qM E rfl λa E=>qM E rfl λa E=>qB E rfl rfl (dq rfl) λa E=>qA E rfl λa E=>ag ?_))
 exact⟨(Z1.wrap (x33 - x35),x35,r57),(Option.some.inj h).symm,_,(Z0 hm32 hm60),c0_61,(ak _ _),hr36,hc0_62,hS,kut E⟩}
 {
 have h:=aB hd49 h;refine ae (ah (qM E rfl λa E=>qM E rfl λa E=>qM E rfl λa E=>qB E rfl rfl (dq rfl) λa E=>qM E rfl λa E=>qM E rfl λa E=>qB E rfl rfl (be rfl) λa E=>qM E rfl λa E=>?_));refine qB E rfl rfl (dq rfl) λa E=>qM E rfl λa E=>qM E rfl λa E=>?_;obtain⟨r79,hr80,h⟩:=ob h;refine st E (aF (vs:=[v0,(.int .i64 (Z1.wrap (p2 - x33))),(.int .i64 (Z1.wrap ((Z1.wrap (p2+x35)) - x33))),(.int .i64 x33),v4]) E rfl call198 (fi (hS:=hS) hc39 (ak _ _) (ak _ _) hr34 (ha4.mono hm32) hr80)) rfl ?_;rintro v85 a w ⟨m81,hm82,c0_83,hS,hc0_84⟩ E
 refine ag (ah (qM E rfl λa E=>qM E rfl λa E=>qB E rfl rfl (dq rfl) λa E=>qA E rfl λa E=>ag ?_));exact⟨(x33,Z1.wrap (x35 - x33),r79),(Option.some.inj h).symm,_,(Z0 hm32 hm82),c0_83,hr34,(ak _ _),hc0_84,hS,kut E⟩}}
 {have h:=aB hd45 h;refine cC rfl rfl ?_;have h:=bE h hb41;exact⟨x33,x37,h,_,hm32,cs38,hr34,hc39,hS,kut E⟩}}}
 {
 rintro a w ⟨x11,x13,h,m9,hm10,cs14,hr12,hc15,hS,E⟩;unfold d6 at h;refine ah (qM E rfl λa E=>qM E rfl λa E=>qM E rfl λa E=>qB E rfl rfl (dq rfl) λa E=>qM E rfl λa E=>qM E rfl λa E=>qM E rfl λa E=>?_);obtain⟨r24,hr25,h⟩:=ob h;refine st E (aF (vs:=[v0,(.int .i64 (Z1.wrap (p2 - x11))),(.int .i64 p2),(.int .i64 x11),v4]) E rfl call198 (fi (hS:=hS) hc15 (ak _ _) ha2 hr12 (ha4.mono hm10) hr25)) rfl ?_;rintro v30 a w ⟨m26,hm27,c0_28,hS,hc0_29⟩ E;refine ag ?_;obtain rfl:=oi h
 try dsimp only
 refine Fin.mk E (rs:=[]) rfl rx.nil ?_;exact⟨_,(Z0 hm10 hm27),c0_28,hS,hc0_29⟩}
theorem nG {self_:((List aa)→Int→Int→Int→(aa→aa→Option Int)→Option (List aa))} (cself_: ∀{W0:Bse} {m:M} {w:World} {L:List (Nat×List Value)} {TL:List (Nat×Value)} {b0_:Nat} {c0_:List Value} (hS:S W0 m w ((b0_,c0_)::L) (TL)) {v0:Value} {p0:List aa} (ha0:GS ab m b0_ c0_ v0 p0) {p1:Int} (ha1:inR .i64 p1) {p2:Int} (ha2:inR .i64 p2) {p3:Int} (ha3:inR .i64 p3) {v4:Value} {p4:(aa→aa→Option Int)} (ha4:Fn2 prog ab ab (ai .i64) m v4 p4) {r:List aa} (h:self_ p0 p1 p2 p3 p4=some r),Calls prog 172 [v0,(.int .i64 p1),(.int .i64 p2),(.int .i64 p3),v4].toArray w (Ret fun v w'=> ∃m',M.le m m'∧ ∃q0_:List Value,S W0 m' w' ((b0_,q0_)::L) (TL)∧GS ab m' b0_ q0_ v0 r))  {b0_:Nat} {c0_:List Value} (hS:S W0 m w ((b0_,c0_)::L) (TL)) {p0} (ha0:GS ab m b0_ c0_ v0 p0) {p1} (ha1:inR .i64 p1) {p2} (ha2:inR .i64 p2) {p3} (ha3:inR .i64 p3) {p4} (ha4:Fn2 prog ab ab (ai .i64) m v4 p4) {r} (h:cX self_ p0 p1 p2 p3 p4=some r):
    Calls prog 172 [v0,(.int .i64 p1),(.int .i64 p2),(.int .i64 p3),v4].toArray w (Ret λv w'=>∃m',M.le m m'∧∃q0_:List Value,S W0 m' w' ((b0_,q0_)::L) (TL)∧GS ab m' b0_ q0_ v0 r):=by
 refine kc func172 ntmps172 λa E=>?_;have E:Env 220 a [(0,v0),(1,.int .i64 p1),(2,.int .i64 p2),(3,.int .i64 p3),(4,v4)]:=E;unfold cX at h;refine ae (ae (ah (qM E rfl λa E=>qM E rfl λa E=>qB E rfl rfl (dq rfl) λa E=>qB E rfl rfl gg λa E=>ag (kif E rfl (λhd5=>?_) (λhd5=>?_)))))
 {
 have h:=aA hd5 h;refine ae (ah (qM E rfl λa E=>qA E rfl λa E=>ag (ae (ah (qM E rfl λa E=>qA E rfl λa E=>ag ?_)))));refine ae ?_;refine bw (λa w=>∃x12:Int,cR p0 p1 x12=some r∧∃m',M.le m m'∧inR .i64 x12∧S W0 m' w ((b0_,c0_)::L) (TL)∧Env 220 a [(0,v0),(1,.int .i64 p1),(10,.int .i64 x12)]) ?_ ?_
 {
 refine aJ ?_;refine cH h (λ(s:Int×Int) a w=>∃m',M.le m m'∧inR .i64 s.1∧inR .i64 s.2∧S W0 m' w ((b0_,c0_)::L) (TL)∧Env 220 a [(0,v0),(1,.int .i64 p1),(4,v4),(10,.int .i64 s.1),(11,.int .i64 s.2)]) ?_ ?_
 {exact⟨_,(Z4 _),ha2,ha3,hS,kut E⟩}
 {
 rintro ⟨x142,x144⟩ a w ⟨m140,hm141,hr143,hr145,hS,E⟩ r146 h hb147;have h:bV p0 p1 p4 x142 x144=some r146:=h;unfold bV at h;refine ae (ae (ah (qM E rfl λa E=>qM E rfl λa E=>qB E rfl rfl bn λa E=>ag (kif E rfl (λhd151=>?_) (λhd151=>?_)))))
 {
 have h:=aA hd151 h;refine aQ (aJ (ae (ah (qM E rfl λa E=>qM E rfl λa E=>qB E rfl rfl (be rfl) λa E=>sp E (cl E rfl underlying3 underlying94 rfl) rfl λa E=>qB E rfl rfl (kg rfl (by decide)) λa E=>sp E (cl E rfl underlying94 underlying3 rfl) rfl λa E=>?_))));refine qA E rfl λa E=>ag (ae ?_);obtain⟨j159,hj160,x162,hx163,h⟩:=ob2 h;obtain⟨j164,hj165,x167,hx168,h⟩:=ob2 h
 refine kch (k:=9) (m:=m140) (es:=[]) (Φ:=(λi m ws v=>match i with|0=>v=v4|1=>v=v0|2=>ei .i64 (Z1.wrap (ay .u64 (Z2.wrap (Z1.wrap (x142+x144))) 1)) v|3=>v=(.pointer (some ⟨b0_,j159*4,none⟩))|4=>RV ab m v x162|5=>v=v0|6=>ei .i64 p1 v|7=>v=(.pointer (some ⟨b0_,j164*4,none⟩))|8=>RV ab m v x167|_=>True)) (Q:=(λc m ws L' TL'=>match c with|0=>(b0_,c0_)::L=L'∧TL=TL'|_=>False)) (cs:=[⟨0,0,false,[(4,v4)]⟩,⟨0,0,false,[(0,v0)]⟩,⟨0,0,false,[(12,.int .i64 (Z1.wrap (ay .u64 (Z2.wrap (Z1.wrap (x142+x144))) 1)))]⟩,⟨0,0,false,[]⟩,⟨0,0,false,[]⟩,⟨0,0,false,[(0,v0)]⟩,⟨0,0,false,[(1,.int .i64 p1)]⟩,⟨0,0,false,[]⟩,⟨0,0,false,[]⟩]) mixed E hS ⟨rfl,rfl⟩ rfl rfl (by kernel_rfl) ?_ ?_ ?_ ?_
 {
 intro i m_ m2_ ws v n_ q_
 iterate 9 (rcases i with _|i;first|exact q_|exact RV.mono q_ n_)
 exact trivial}
 {
 intro c m_ m2_ ws L_ T_ n_ hq_
 match c,hq_ with
 |0,⟨e1_,e2_⟩=>exact⟨e1_,e2_⟩
 |_+1,hq_=>exact hq_.elim}
 {
 refine⟨?_,?_,?_,?_,?_,?_,?_,?_,?_,trivial⟩
 {exact cmv λ_ _=>rfl}
 {exact cmv λ_ _=>rfl}
 {exact cmv λ_ _=>⟨rfl,(ak _ _)⟩}
 {refine cp1 λ_ _ _ _ _ M' Q' Z' E' T'=>?_;obtain⟨rfl,rfl⟩:=Q';have E:=(E'.add (T' 1)).add (T' 2).1;exact cq (br (k:=ab) E rfl rfl underlying50 sizeOf59 (ha0.mono (Z0 hm141 M')) hj160 rfl) Z' rfl}
 {refine cp1 λ_ _ _ _ _ M' Q' Z' E' T'=>?_;obtain⟨rfl,rfl⟩:=Q';have E:=E'.add (T' 3);exact cr (aC E Z' fA rfl (i:=0) rfl (GS.elem (ha0.mono (Z0 hm141 M')) hx163)) Z' λ_ h=>h}
 {exact cmv λ_ _=>rfl}
 {exact cmv λ_ _=>⟨rfl,ha1⟩}
 {refine cp1 λ_ _ _ _ _ M' Q' Z' E' T'=>?_;obtain⟨rfl,rfl⟩:=Q';have E:=(E'.add (T' 5)).add (T' 6).1;exact cq (br (k:=ab) E rfl rfl underlying50 sizeOf59 (ha0.mono (Z0 hm141 M')) hj165 rfl) Z' rfl}
 {refine cp1 λ_ _ _ _ _ M' Q' Z' E' T'=>?_;obtain⟨rfl,rfl⟩:=Q';have E:=E'.add (T' 7);exact cr (aC E Z' fA rfl (i:=0) rfl (GS.elem (ha0.mono (Z0 hm141 M')) hx168)) Z' λ_ h=>h}}
 {
 intro ws_ L_ T_ m198 a w hl199 hm200 hq201 hS hd202 hn203 ho204 hT205;obtain rfl:=eh hl199;obtain⟨rfl,rfl⟩:=hq201
 have E:=eof 9 [(0,v0),(1,.int .i64 p1),(4,v4),(10,.int .i64 x142),(11,.int .i64 x144),(12,.int .i64 (Z1.wrap (ay .u64 (Z2.wrap (Z1.wrap (x142+x144))) 1))),(31,.int .i64 x142),(32,.int .i64 x144),(33,.bool (decide (x142<x144))),(34,.int .i64 x142),(35,.int .i64 x144),(36,.int .i64 (Z1.wrap (x142+x144))),(37,.int .u64 (Z2.wrap (Z1.wrap (x142+x144)))),(38,.int .u64 (ay .u64 (Z2.wrap (Z1.wrap (x142+x144))) 1)),(39,.int .i64 (Z1.wrap (ay .u64 (Z2.wrap (Z1.wrap (x142+x144))) 1)))] hd202 hn203 ho204;have E:=E.add (hT205 0);obtain⟨v209,E,q211⟩:=adv E (hT205 4);obtain⟨v212,E,q214⟩:=adv E (hT205 8)
 obtain⟨r215,hr216,h⟩:=ob h;refine st E (ox E hS rfl rfl (ha4.mono (Z0 hm141 hm200)) q211 q214 hr216) rfl ?_;rintro v220 a w ⟨m217,hm218,hS,hv219⟩ E;obtain⟨rfl,hr221⟩:=aG hv219;refine qB E rfl rfl bn λa E=>ag (kif E rfl (λhd223=>?_) (λhd223=>?_))
 {have h:=aA hd223 h;refine ah (qM E rfl λa E=>qB E rfl rfl (be rfl) λa E=>qA E rfl λa E=>ag ?_);exact⟨(Z1.wrap ((Z1.wrap (ay .u64 (Z2.wrap (Z1.wrap (x142+x144))) 1))+1),x144),(Option.some.inj h).symm,_,(Z0 hm141 (Z0 hm200 hm218)),(ak _ _),hr145,hS,kut E⟩}
 {have h:=aB hd223 h;refine ah (qM E rfl λa E=>qA E rfl λa E=>ag ?_);exact⟨(x142,Z1.wrap (ay .u64 (Z2.wrap (Z1.wrap (x142+x144))) 1)),(Option.some.inj h).symm,_,(Z0 hm141 (Z0 hm200 hm218)),hr143,(ak _ _),hS,kut E⟩}}}
 {have h:=aB hd151 h;refine cC rfl rfl ?_;have h:=bE h hb147;exact⟨x142,h,_,hm141,hr143,hS,kut E⟩}}}
 {
 rintro a w ⟨x12,h,m10,hm11,hr13,hS,E⟩;unfold cR at h;refine ae (ae (ah (qM E rfl λa E=>qA E rfl λa E=>ag ?_)));refine bw (λa w=>∃x19:(List aa),dO x19=some r∧∃m',M.le m10 m'∧∃(cs20:List Value),GS ab m' b0_ cs20 v0 x19∧S W0 m' w ((b0_,cs20)::L) (TL)∧Env 220 a []) ?_ ?_
 {
 refine aJ ?_;refine cH h (λ(s:Int×List aa) a w=>∃m',M.le m10 m'∧∃(cs28:List Value),inR .i64 s.1∧GS ab m' b0_ cs28 v0 s.2∧S W0 m' w ((b0_,cs28)::L) (TL)∧Env 220 a [(0,v0),(10,.int .i64 x12),(13,.int .i64 s.1)]) ?_ ?_
 {exact⟨_,(Z4 _),c0_,ha1,(ha0.mono hm11),hS,kut E⟩}
 {
 rintro ⟨x25,x27⟩ a w ⟨m23,hm24,cs28,hr26,hc29,hS,E⟩ r30 h hb31;have h:bI x12 x25 x27=some r30:=h;unfold bI at h;refine ae (ae (ah (qM E rfl λa E=>qM E rfl λa E=>qB E rfl rfl (dq rfl) λa E=>qB E rfl rfl bn λa E=>ag (kif E rfl (λhd36=>?_) (λhd36=>?_)))))
 {
 have h:=aA hd36 h;refine aQ (ae (aJ ?_));obtain⟨j37,hj38,x40,hx41,h⟩:=ob2 h;obtain⟨j42,hj43,x45,hx46,h⟩:=ob2 h;obtain⟨j47,hj48,x51,hx52,h⟩:=ob2 h
 refine kch (k:=16) (m:=m23) (es:=[15]) (Φ:=(λi m ws v=>match i with|0=>v=v0|1=>ei .i64 x25 v|2=>v=v0|3=>ei .i64 x25 v|4=>ei .i64 (Z1.wrap (x25+1)) v|5=>v=v0|6=>ei .i64 x25 v|7=>ei .i64 (Z1.wrap (x25+1)) v|8=>v=(.pointer (some ⟨b0_,j37*4,none⟩))|9=>RV ab m v x40|10=>v=v0|11=>ei .i64 x25 v|12=>v=(.pointer (some ⟨b0_,j42*4,none⟩))|13=>RV ab m v x45|14=>v=(.pointer (some ⟨b0_,j47*4,none⟩))|15=>True|_=>True)) (Q:=(λc m ws L' TL'=>match c with|0=>(b0_,cs28)::L=L'∧TL=TL'|1=>(b0_,(wi ws 0).c)::L=L'∧TL=TL'∧GS ab m b0_ (wi ws 0).c v0 (x27.set j47 x40)|_=>False)) (cs:=[⟨0,0,false,[(0,v0)]⟩,⟨0,0,false,[(13,.int .i64 x25)]⟩,⟨0,1,false,[(0,v0)]⟩,⟨0,1,false,[(13,.int .i64 x25)]⟩,⟨0,1,false,[]⟩,⟨0,0,false,[(0,v0)]⟩,⟨0,0,false,[(13,.int .i64 x25)]⟩,⟨0,0,false,[]⟩,⟨0,0,false,[]⟩,⟨0,0,false,[]⟩,⟨0,0,false,[(0,v0)]⟩,⟨0,0,false,[(13,.int .i64 x25)]⟩,⟨0,0,false,[]⟩,⟨0,0,false,[]⟩,⟨0,0,false,[]⟩,⟨0,0,true,[]⟩]) mixed E hS ⟨rfl,rfl⟩ rfl rfl (by kernel_rfl) ?_ ?_ ?_ ?_
 {
 intro i m_ m2_ ws v n_ q_
 iterate 16 (rcases i with _|i;first|exact q_|exact RV.mono q_ n_)
 exact trivial}
 {
 intro c m_ m2_ ws L_ T_ n_ hq_
 match c,hq_ with
 |0,⟨e1_,e2_⟩=>exact⟨e1_,e2_⟩
 |1,⟨e1_,e2_,f0_⟩=>exact⟨e1_,e2_,(GS.mono f0_ n_)⟩
 |_+2,hq_=>exact hq_.elim}
 {
 refine⟨?_,?_,?_,?_,?_,?_,?_,?_,?_,?_,?_,?_,?_,?_,?_,?_,trivial⟩
 {exact cmv λ_ _=>rfl}
 {exact cmv λ_ _=>⟨rfl,hr26⟩}
 {exact cmv λ_ _=>rfl}
 {exact cmv λ_ _=>⟨rfl,hr26⟩}
 {refine cp0 λ_ _ _ _ _ _ _ _ _ Z' E' T'=>?_;have E:=E'.add (T' 3).1;exact cq (aP E rfl rfl (be rfl)) Z' ⟨rfl,(ak _ _)⟩}
 {exact cmv λ_ _=>rfl}
 {exact cmv λ_ _=>⟨rfl,hr26⟩}
 {refine cp0 λ_ _ _ _ _ _ _ _ _ Z' E' T'=>?_;have E:=E'.add (T' 6).1;exact cq (aP E rfl rfl (be rfl)) Z' ⟨rfl,(ak _ _)⟩}
 {refine cp1 λ_ _ _ _ _ M' Q' Z' E' T'=>?_;obtain⟨rfl,rfl⟩:=Q';have E:=(E'.add (T' 5)).add (T' 7).1;exact cq (br (k:=ab) E rfl rfl underlying50 sizeOf59 (hc29.mono M') hj38 rfl) Z' rfl}
 {refine cp1 λ_ _ _ _ _ M' Q' Z' E' T'=>?_;obtain⟨rfl,rfl⟩:=Q';have E:=E'.add (T' 8);exact cr (aC E Z' fA rfl (i:=0) rfl (GS.elem (hc29.mono M') hx41)) Z' λ_ h=>h}
 {exact cmv λ_ _=>rfl}
 {exact cmv λ_ _=>⟨rfl,hr26⟩}
 {refine cp1 λ_ _ _ _ _ M' Q' Z' E' T'=>?_;obtain⟨rfl,rfl⟩:=Q';have E:=(E'.add (T' 10)).add (T' 11).1;exact cq (br (k:=ab) E rfl rfl underlying50 sizeOf59 (hc29.mono M') hj43 rfl) Z' rfl}
 {refine cp1 λ_ _ _ _ _ M' Q' Z' E' T'=>?_;obtain⟨rfl,rfl⟩:=Q';have E:=E'.add (T' 12);exact cr (aC E Z' fA rfl (i:=0) rfl (GS.elem (hc29.mono M') hx46)) Z' λ_ h=>h}
 {refine cp1 λ_ _ _ _ _ M' Q' Z' E' T'=>?_;obtain⟨rfl,rfl⟩:=Q';have E:=(E'.add (T' 0)).add (T' 1).1;exact cq (br (k:=ab) E rfl rfl underlying50 sizeOf59 (hc29.mono M') hj48 rfl) Z' rfl}
 {
 refine sA λpre_ L_ T_ m' a' w' hl' M' Q' Z' E' T'=>?_;obtain rfl:=eh hl';obtain⟨rfl,rfl⟩:=Q';obtain⟨v104,e105,q106⟩:∃v,a'.tmps.getD 70 undef=v∧(RV ab m' v x40):=⟨_,rfl,T' 9 (by decide) 70 rfl⟩
 have E:=(E'.add (e105)).add (T' 14 (by decide) 75 rfl);refine bg.imp (ef (k:=ab) E Z' fA bm (hc29.mono M') hx52 rfl rfl q106 (i:=0) rfl) ?_;rintro vv53 w ⟨cs49,hc50,hS⟩;exact⟨_,⟨0,undef,cs49,[],[]⟩,_,_,Z4 _,hS,⟨rfl,rfl,hc50⟩,trivial⟩}}
 {
 intro ws_ L_ T_ m110 a w hl111 hm112 hq113 hS hd114 hn115 ho116 hT117;obtain⟨⟨_,_,cs49,_,_⟩,rfl⟩:=ux hl111;obtain⟨rfl,rfl,hc118⟩:=hq113;have E:=eof 16 [(0,v0),(10,.int .i64 x12),(13,.int .i64 x25),(55,.int .i64 x25),(56,.int .i64 x12),(57,.int .i64 (Z1.wrap (x12 - 1))),(58,.bool (decide (x25<(Z1.wrap (x12 - 1)))))] hd114 hn115 ho116;have E:=(E.add (hT117 2)).add (hT117 4).1;obtain⟨v126,E,q128⟩:=adv E (hT117 13);obtain⟨j129,hj130,h⟩:=ob h;refine sp E (br (k:=ab) E rfl rfl underlying50 sizeOf59 hc118 hj130 rfl) rfl λa E=>?_;obtain⟨x134,hx135,h⟩:=ob h
 refine st0 E (ef (k:=ab) E hS fA bm hc118 hx135 rfl rfl q128 (i:=0) rfl) ?_;rintro _ w ⟨cs132,hc133,hS⟩ E;refine ag (ah (qM E rfl λa E=>qB E rfl rfl (be rfl) λa E=>qA E rfl λa E=>ag ?_));exact⟨(Z1.wrap (x25+1),((x27.set j47 x40).set j129 x45)),(Option.some.inj h).symm,_,(Z0 hm24 hm112),cs132,(ak _ _),hc133,hS,kut E⟩}}
 {have h:=aB hd36 h;refine cC rfl rfl ?_;have h:=bE h hb31;exact⟨x27,h,_,hm24,cs28,hc29,hS,E.cut trivial⟩}}}
 {
 rintro a w ⟨x19,h,m17,hm18,cs20,hc21,hS,E⟩;unfold dO at h;refine bA ?_;obtain rfl:=oi h
 try dsimp only
 refine Fin.mk E (rs:=[]) rfl rx.nil ?_;exact⟨_,(Z0 hm11 hm18),cs20,hS,hc21⟩}}}
 {
 have h:=aB hd5 h;refine aQ (ae (ae (ah (qM E rfl λa E=>qM E rfl λa E=>qB E rfl rfl (dq rfl) λa E=>qB E rfl rfl gg λa E=>ag (kif E rfl (λhd233=>?_) (λhd233=>?_))))))
 {
 have h:=aA hd233 h;refine ae (ah (qM E rfl λa E=>qA E rfl λa E=>ag (ae (ah (qM E rfl λa E=>qA E rfl λa E=>ag ?_)))));refine ae ?_;refine bw (λa w=>∃x240:Int,cS p0 p2 x240=some r∧∃m',M.le m m'∧inR .i64 x240∧S W0 m' w ((b0_,c0_)::L) (TL)∧Env 220 a [(0,v0),(2,.int .i64 p2),(14,.int .i64 x240)]) ?_ ?_
 {
 refine aJ ?_;refine cH h (λ(s:Int×Int) a w=>∃m',M.le m m'∧inR .i64 s.1∧inR .i64 s.2∧S W0 m' w ((b0_,c0_)::L) (TL)∧Env 220 a [(0,v0),(2,.int .i64 p2),(4,v4),(14,.int .i64 s.1),(15,.int .i64 s.2)]) ?_ ?_
 {exact⟨_,(Z4 _),ha1,ha2,hS,kut E⟩}
 {
 rintro ⟨x369,x371⟩ a w ⟨m367,hm368,hr370,hr372,hS,E⟩ r373 h hb374;have h:bW p0 p2 p4 x369 x371=some r373:=h;unfold bW at h;refine ae (ae (ah (qM E rfl λa E=>qM E rfl λa E=>qB E rfl rfl bn λa E=>ag (kif E rfl (λhd378=>?_) (λhd378=>?_)))))
 {
 have h:=aA hd378 h;refine aQ (aJ (ae (ah (qM E rfl λa E=>qM E rfl λa E=>qB E rfl rfl (be rfl) λa E=>sp E (cl E rfl underlying3 underlying94 rfl) rfl λa E=>qB E rfl rfl (kg rfl (by decide)) λa E=>sp E (cl E rfl underlying94 underlying3 rfl) rfl λa E=>?_))));refine qA E rfl λa E=>ag (ae ?_);obtain⟨j386,hj387,x389,hx390,h⟩:=ob2 h;obtain⟨j391,hj392,x394,hx395,h⟩:=ob2 h
 refine kch (k:=9) (m:=m367) (es:=[]) (Φ:=(λi m ws v=>match i with|0=>v=v4|1=>v=v0|2=>ei .i64 p2 v|3=>v=(.pointer (some ⟨b0_,j386*4,none⟩))|4=>RV ab m v x389|5=>v=v0|6=>ei .i64 (Z1.wrap (ay .u64 (Z2.wrap (Z1.wrap (x369+x371))) 1)) v|7=>v=(.pointer (some ⟨b0_,j391*4,none⟩))|8=>RV ab m v x394|_=>True)) (Q:=(λc m ws L' TL'=>match c with|0=>(b0_,c0_)::L=L'∧TL=TL'|_=>False)) (cs:=[⟨0,0,false,[(4,v4)]⟩,⟨0,0,false,[(0,v0)]⟩,⟨0,0,false,[(2,.int .i64 p2)]⟩,⟨0,0,false,[]⟩,⟨0,0,false,[]⟩,⟨0,0,false,[(0,v0)]⟩,⟨0,0,false,[(16,.int .i64 (Z1.wrap (ay .u64 (Z2.wrap (Z1.wrap (x369+x371))) 1)))]⟩,⟨0,0,false,[]⟩,⟨0,0,false,[]⟩]) mixed E hS ⟨rfl,rfl⟩ rfl rfl (by kernel_rfl) ?_ ?_ ?_ ?_
 {
 intro i m_ m2_ ws v n_ q_
 iterate 9 (rcases i with _|i;first|exact q_|exact RV.mono q_ n_)
 exact trivial}
 {
 intro c m_ m2_ ws L_ T_ n_ hq_
 match c,hq_ with
 |0,⟨e1_,e2_⟩=>exact⟨e1_,e2_⟩
 |_+1,hq_=>exact hq_.elim}
 {
 refine⟨?_,?_,?_,?_,?_,?_,?_,?_,?_,trivial⟩
 {exact cmv λ_ _=>rfl}
 {exact cmv λ_ _=>rfl}
 {exact cmv λ_ _=>⟨rfl,ha2⟩}
 {refine cp1 λ_ _ _ _ _ M' Q' Z' E' T'=>?_;obtain⟨rfl,rfl⟩:=Q';have E:=(E'.add (T' 1)).add (T' 2).1;exact cq (br (k:=ab) E rfl rfl underlying50 sizeOf59 (ha0.mono (Z0 hm368 M')) hj387 rfl) Z' rfl}
 {refine cp1 λ_ _ _ _ _ M' Q' Z' E' T'=>?_;obtain⟨rfl,rfl⟩:=Q';have E:=E'.add (T' 3);exact cr (aC E Z' fA rfl (i:=0) rfl (GS.elem (ha0.mono (Z0 hm368 M')) hx390)) Z' λ_ h=>h}
 {exact cmv λ_ _=>rfl}
 {exact cmv λ_ _=>⟨rfl,(ak _ _)⟩}
 {refine cp1 λ_ _ _ _ _ M' Q' Z' E' T'=>?_;obtain⟨rfl,rfl⟩:=Q';have E:=(E'.add (T' 5)).add (T' 6).1;exact cq (br (k:=ab) E rfl rfl underlying50 sizeOf59 (ha0.mono (Z0 hm368 M')) hj392 rfl) Z' rfl}
 {refine cp1 λ_ _ _ _ _ M' Q' Z' E' T'=>?_;obtain⟨rfl,rfl⟩:=Q';have E:=E'.add (T' 7);exact cr (aC E Z' fA rfl (i:=0) rfl (GS.elem (ha0.mono (Z0 hm368 M')) hx395)) Z' λ_ h=>h}}
 {
 intro ws_ L_ T_ m425 a w hl426 hm427 hq428 hS hd429 hn430 ho431 hT432;obtain rfl:=eh hl426;obtain⟨rfl,rfl⟩:=hq428
 have E:=eof 9 [(0,v0),(2,.int .i64 p2),(4,v4),(14,.int .i64 x369),(15,.int .i64 x371),(16,.int .i64 (Z1.wrap (ay .u64 (Z2.wrap (Z1.wrap (x369+x371))) 1))),(83,.int .i64 x369),(84,.int .i64 x371),(85,.bool (decide (x369<x371))),(86,.int .i64 x369),(87,.int .i64 x371),(88,.int .i64 (Z1.wrap (x369+x371))),(89,.int .u64 (Z2.wrap (Z1.wrap (x369+x371)))),(90,.int .u64 (ay .u64 (Z2.wrap (Z1.wrap (x369+x371))) 1)),(91,.int .i64 (Z1.wrap (ay .u64 (Z2.wrap (Z1.wrap (x369+x371))) 1)))] hd429 hn430 ho431;have E:=E.add (hT432 0);obtain⟨v436,E,q438⟩:=adv E (hT432 4);obtain⟨v439,E,q441⟩:=adv E (hT432 8)
 obtain⟨r442,hr443,h⟩:=ob h;refine st E (ox E hS rfl rfl (ha4.mono (Z0 hm368 hm427)) q438 q441 hr443) rfl ?_;rintro v447 a w ⟨m444,hm445,hS,hv446⟩ E;obtain⟨rfl,hr448⟩:=aG hv446;refine qB E rfl rfl bn λa E=>sp E (lT E rfl) rfl λa E=>ag (kif E rfl (λhd451=>?_) (λhd451=>?_))
 {have h:=aA hd451 h;refine ah (qM E rfl λa E=>qB E rfl rfl (be rfl) λa E=>qA E rfl λa E=>ag ?_);exact⟨(Z1.wrap ((Z1.wrap (ay .u64 (Z2.wrap (Z1.wrap (x369+x371))) 1))+1),x371),(Option.some.inj h).symm,_,(Z0 hm368 (Z0 hm427 hm445)),(ak _ _),hr372,hS,kut E⟩}
 {have h:=aB hd451 h;refine ah (qM E rfl λa E=>qA E rfl λa E=>ag ?_);exact⟨(x369,Z1.wrap (ay .u64 (Z2.wrap (Z1.wrap (x369+x371))) 1)),(Option.some.inj h).symm,_,(Z0 hm368 (Z0 hm427 hm445)),hr370,(ak _ _),hS,kut E⟩}}}
 {have h:=aB hd378 h;refine cC rfl rfl ?_;have h:=bE h hb374;exact⟨x369,h,_,hm368,hr370,hS,kut E⟩}}}
 {
 rintro a w ⟨x240,h,m238,hm239,hr241,hS,E⟩;unfold cS at h;refine ae (ae (ah (qM E rfl λa E=>qA E rfl λa E=>ag ?_)));refine bw (λa w=>∃x247:(List aa),dP x247=some r∧∃m',M.le m238 m'∧∃(cs248:List Value),GS ab m' b0_ cs248 v0 x247∧S W0 m' w ((b0_,cs248)::L) (TL)∧Env 220 a []) ?_ ?_
 {
 refine aJ ?_;refine cH h (λ(s:Int×List aa) a w=>∃m',M.le m238 m'∧∃(cs256:List Value),inR .i64 s.1∧GS ab m' b0_ cs256 v0 s.2∧S W0 m' w ((b0_,cs256)::L) (TL)∧Env 220 a [(0,v0),(14,.int .i64 x240),(17,.int .i64 s.1)]) ?_ ?_
 {exact⟨_,(Z4 _),c0_,ha2,(ha0.mono hm239),hS,kut E⟩}
 {
 rintro ⟨x253,x255⟩ a w ⟨m251,hm252,cs256,hr254,hc257,hS,E⟩ r258 h hb259;have h:bJ x240 x253 x255=some r258:=h;unfold bJ at h;refine ae (ae (ah (qM E rfl λa E=>qM E rfl λa E=>qB E rfl rfl ju λa E=>ag (kif E rfl (λhd263=>?_) (λhd263=>?_)))))
 {
 have h:=aA hd263 h;refine aQ (ae (aJ ?_));obtain⟨j264,hj265,x267,hx268,h⟩:=ob2 h;obtain⟨j269,hj270,x272,hx273,h⟩:=ob2 h;obtain⟨j274,hj275,x278,hx279,h⟩:=ob2 h
 refine kch (k:=16) (m:=m251) (es:=[15]) (Φ:=(λi m ws v=>match i with|0=>v=v0|1=>ei .i64 x253 v|2=>v=v0|3=>ei .i64 x253 v|4=>ei .i64 (Z1.wrap (x253 - 1)) v|5=>v=v0|6=>ei .i64 x253 v|7=>ei .i64 (Z1.wrap (x253 - 1)) v|8=>v=(.pointer (some ⟨b0_,j264*4,none⟩))|9=>RV ab m v x267|10=>v=v0|11=>ei .i64 x253 v|12=>v=(.pointer (some ⟨b0_,j269*4,none⟩))|13=>RV ab m v x272|14=>v=(.pointer (some ⟨b0_,j274*4,none⟩))|15=>True|_=>True)) (Q:=(λc m ws L' TL'=>match c with|0=>(b0_,cs256)::L=L'∧TL=TL'|1=>(b0_,(wi ws 0).c)::L=L'∧TL=TL'∧GS ab m b0_ (wi ws 0).c v0 (x255.set j274 x267)|_=>False)) (cs:=[⟨0,0,false,[(0,v0)]⟩,⟨0,0,false,[(17,.int .i64 x253)]⟩,⟨0,1,false,[(0,v0)]⟩,⟨0,1,false,[(17,.int .i64 x253)]⟩,⟨0,1,false,[]⟩,⟨0,0,false,[(0,v0)]⟩,⟨0,0,false,[(17,.int .i64 x253)]⟩,⟨0,0,false,[]⟩,⟨0,0,false,[]⟩,⟨0,0,false,[]⟩,⟨0,0,false,[(0,v0)]⟩,⟨0,0,false,[(17,.int .i64 x253)]⟩,⟨0,0,false,[]⟩,⟨0,0,false,[]⟩,⟨0,0,false,[]⟩,⟨0,0,true,[]⟩]) mixed E hS ⟨rfl,rfl⟩ rfl rfl (by kernel_rfl) ?_ ?_ ?_ ?_
 {
 intro i m_ m2_ ws v n_ q_
 iterate 16 (rcases i with _|i;first|exact q_|exact RV.mono q_ n_)
 exact trivial}
 {
 intro c m_ m2_ ws L_ T_ n_ hq_
 match c,hq_ with
 |0,⟨e1_,e2_⟩=>exact⟨e1_,e2_⟩
 |1,⟨e1_,e2_,f0_⟩=>exact⟨e1_,e2_,(GS.mono f0_ n_)⟩
 |_+2,hq_=>exact hq_.elim}
 {
 refine⟨?_,?_,?_,?_,?_,?_,?_,?_,?_,?_,?_,?_,?_,?_,?_,?_,trivial⟩
 {exact cmv λ_ _=>rfl}
 {exact cmv λ_ _=>⟨rfl,hr254⟩}
 {exact cmv λ_ _=>rfl}
 {exact cmv λ_ _=>⟨rfl,hr254⟩}
 {refine cp0 λ_ _ _ _ _ _ _ _ _ Z' E' T'=>?_;have E:=E'.add (T' 3).1;exact cq (aP E rfl rfl (dq rfl)) Z' ⟨rfl,(ak _ _)⟩}
 {exact cmv λ_ _=>rfl}
 {exact cmv λ_ _=>⟨rfl,hr254⟩}
 {refine cp0 λ_ _ _ _ _ _ _ _ _ Z' E' T'=>?_;have E:=E'.add (T' 6).1;exact cq (aP E rfl rfl (dq rfl)) Z' ⟨rfl,(ak _ _)⟩}
 {refine cp1 λ_ _ _ _ _ M' Q' Z' E' T'=>?_;obtain⟨rfl,rfl⟩:=Q';have E:=(E'.add (T' 5)).add (T' 7).1;exact cq (br (k:=ab) E rfl rfl underlying50 sizeOf59 (hc257.mono M') hj265 rfl) Z' rfl}
 {refine cp1 λ_ _ _ _ _ M' Q' Z' E' T'=>?_;obtain⟨rfl,rfl⟩:=Q';have E:=E'.add (T' 8);exact cr (aC E Z' fA rfl (i:=0) rfl (GS.elem (hc257.mono M') hx268)) Z' λ_ h=>h}
 {exact cmv λ_ _=>rfl}
 {exact cmv λ_ _=>⟨rfl,hr254⟩}
 {refine cp1 λ_ _ _ _ _ M' Q' Z' E' T'=>?_;obtain⟨rfl,rfl⟩:=Q';have E:=(E'.add (T' 10)).add (T' 11).1;exact cq (br (k:=ab) E rfl rfl underlying50 sizeOf59 (hc257.mono M') hj270 rfl) Z' rfl}
 {refine cp1 λ_ _ _ _ _ M' Q' Z' E' T'=>?_;obtain⟨rfl,rfl⟩:=Q';have E:=E'.add (T' 12);exact cr (aC E Z' fA rfl (i:=0) rfl (GS.elem (hc257.mono M') hx273)) Z' λ_ h=>h}
 {refine cp1 λ_ _ _ _ _ M' Q' Z' E' T'=>?_;obtain⟨rfl,rfl⟩:=Q';have E:=(E'.add (T' 0)).add (T' 1).1;exact cq (br (k:=ab) E rfl rfl underlying50 sizeOf59 (hc257.mono M') hj275 rfl) Z' rfl}
 {
 refine sA λpre_ L_ T_ m' a' w' hl' M' Q' Z' E' T'=>?_;obtain rfl:=eh hl';obtain⟨rfl,rfl⟩:=Q';obtain⟨v331,e332,q333⟩:∃v,a'.tmps.getD 122 undef=v∧(RV ab m' v x267):=⟨_,rfl,T' 9 (by decide) 122 rfl⟩
 have E:=(E'.add (e332)).add (T' 14 (by decide) 127 rfl);refine bg.imp (ef (k:=ab) E Z' fA bm (hc257.mono M') hx279 rfl rfl q333 (i:=0) rfl) ?_;rintro vv280 w ⟨cs276,hc277,hS⟩;exact⟨_,⟨0,undef,cs276,[],[]⟩,_,_,Z4 _,hS,⟨rfl,rfl,hc277⟩,trivial⟩}}
 {
 intro ws_ L_ T_ m337 a w hl338 hm339 hq340 hS hd341 hn342 ho343 hT344;obtain⟨⟨_,_,cs276,_,_⟩,rfl⟩:=ux hl338;obtain⟨rfl,rfl,hc345⟩:=hq340;have E:=eof 16 [(0,v0),(14,.int .i64 x240),(17,.int .i64 x253),(108,.int .i64 x253),(109,.int .i64 x240),(110,.bool (decide (x240<x253)))] hd341 hn342 ho343;have E:=(E.add (hT344 2)).add (hT344 4).1;obtain⟨v353,E,q355⟩:=adv E (hT344 13);obtain⟨j356,hj357,h⟩:=ob h;refine sp E (br (k:=ab) E rfl rfl underlying50 sizeOf59 hc345 hj357 rfl) rfl λa E=>?_;obtain⟨x361,hx362,h⟩:=ob h;refine st0 E (ef (k:=ab) E hS fA bm hc345 hx362 rfl rfl q355 (i:=0) rfl) ?_
 rintro _ w ⟨cs359,hc360,hS⟩ E;refine ag (ah (qM E rfl λa E=>qB E rfl rfl (dq rfl) λa E=>qA E rfl λa E=>ag ?_));exact⟨(Z1.wrap (x253 - 1),((x255.set j274 x267).set j356 x272)),(Option.some.inj h).symm,_,(Z0 hm252 hm339),cs359,(ak _ _),hc360,hS,kut E⟩}}
 {have h:=aB hd263 h;refine cC rfl rfl ?_;have h:=bE h hb259;exact⟨x255,h,_,hm252,cs256,hc257,hS,E.cut trivial⟩}}}
 {
 rintro a w ⟨x247,h,m245,hm246,cs248,hc249,hS,E⟩;unfold dP at h;refine bA ?_;obtain rfl:=oi h
 try dsimp only
 refine Fin.mk E (rs:=[]) rfl rx.nil ?_;exact⟨_,(Z0 hm239 hm246),cs248,hS,hc249⟩}}}
 {
 have h:=aB hd233 h;refine aQ (ae (ah (qM E rfl λa E=>qM E rfl λa E=>qB E rfl rfl (be rfl) λa E=>sp E (cl E rfl underlying3 underlying94 rfl) rfl λa E=>qB E rfl rfl (kg rfl (by decide)) λa E=>sp E (cl E rfl underlying94 underlying3 rfl) rfl λa E=>qA E rfl λa E=>?_)));refine ag (ae (ah (qM E rfl λa E=>qM E rfl λa E=>qB E rfl rfl (be rfl) λa E=>qA E rfl λa E=>ag (ae (ah ?_)))));refine qA E rfl λa E=>qA E rfl λa E=>ag (ae (ae (ah (qM E rfl λa E=>qM E rfl λa E=>qB E rfl rfl ju λa E=>ag ?_))))
 refine bw (λa w=>∃x475:Int,∃x477:Int,cu p0 p1 p2 p3 p4 self_ x475 x477=some r∧∃m',M.le m m'∧inR .i64 x475∧inR .i64 x477∧S W0 m' w ((b0_,c0_)::L) (TL)∧Env 220 a [(0,v0),(1,.int .i64 p1),(2,.int .i64 p2),(3,.int .i64 p3),(4,v4),(18,.int .i64 (Z1.wrap (ay .u64 (Z2.wrap (Z1.wrap (p1+p3))) 1))),(19,.int .i64 (Z1.wrap ((Z1.wrap (ay .u64 (Z2.wrap (Z1.wrap (p1+p3))) 1))+p2))),(20,.int .i64 x475),(21,.int .i64 x477)]) ?_ ?_
 {
 refine kif E rfl (λhd685=>?_) (λhd685=>?_)
 {have h:=aA hd685 h;refine ae (ah (qM E rfl λa E=>qM E rfl λa E=>qB E rfl rfl (dq rfl) λa E=>qA E rfl λa E=>ag (ah (qM E rfl λa E=>qA E rfl λa E=>?_))));refine ag ?_;exact⟨(Z1.wrap ((Z1.wrap ((Z1.wrap (ay .u64 (Z2.wrap (Z1.wrap (p1+p3))) 1))+p2)) - p3)),(Z1.wrap (ay .u64 (Z2.wrap (Z1.wrap (p1+p3))) 1)),h,_,(Z4 _),(ak _ _),(ak _ _),hS,kut E⟩}
 {have h:=aB hd685 h;refine ae (ah (qM E rfl λa E=>qA E rfl λa E=>ag (ah (qM E rfl λa E=>qA E rfl λa E=>ag ?_))));exact⟨p1,p2,h,_,(Z4 _),ha1,ha2,hS,kut E⟩}}
 {
 rintro a w ⟨x475,x477,h,m473,hm474,hr476,hr478,hS,E⟩;unfold cu at h;refine ae (ah (qM E rfl λa E=>qB E rfl rfl (dq rfl) λa E=>qA E rfl λa E=>ag (ae ?_)));refine bw (λa w=>∃x485:Int,cp p0 p1 p2 p3 p4 self_ x485=some r∧∃m',M.le m473 m'∧inR .i64 x485∧S W0 m' w ((b0_,c0_)::L) (TL)∧Env 220 a [(0,v0),(1,.int .i64 p1),(2,.int .i64 p2),(3,.int .i64 p3),(4,v4),(18,.int .i64 (Z1.wrap (ay .u64 (Z2.wrap (Z1.wrap (p1+p3))) 1))),(19,.int .i64 (Z1.wrap ((Z1.wrap (ay .u64 (Z2.wrap (Z1.wrap (p1+p3))) 1))+p2))),(20,.int .i64 x485)]) ?_ ?_
 {
 refine aJ ?_;refine cH h (λ(s:Int×Int) a w=>∃m',M.le m473 m'∧inR .i64 s.1∧inR .i64 s.2∧S W0 m' w ((b0_,c0_)::L) (TL)∧Env 220 a [(0,v0),(1,.int .i64 p1),(2,.int .i64 p2),(3,.int .i64 p3),(4,v4),(18,.int .i64 (Z1.wrap (ay .u64 (Z2.wrap (Z1.wrap (p1+p3))) 1))),(19,.int .i64 (Z1.wrap ((Z1.wrap (ay .u64 (Z2.wrap (Z1.wrap (p1+p3))) 1))+p2))),(20,.int .i64 s.1),(21,.int .i64 s.2),(22,.int .i64 (Z1.wrap ((Z1.wrap ((Z1.wrap (ay .u64 (Z2.wrap (Z1.wrap (p1+p3))) 1))+p2)) - 1)))]) ?_ ?_
 {exact⟨_,(Z4 _),hr476,hr478,hS,kut E⟩}
 {
 rintro ⟨x587,x589⟩ a w ⟨m585,hm586,hr588,hr590,hS,E⟩ r591 h hb592;have h:ct p0 p1 p2 p3 p4 self_ x587 x589=some r591:=h;unfold ct at h;refine ae (ae (ah (qM E rfl λa E=>qM E rfl λa E=>qB E rfl rfl bn λa E=>ag (kif E rfl (λhd596=>?_) (λhd596=>?_)))))
 {
 have h:=aA hd596 h;refine aQ (aJ (ae (ah (qM E rfl λa E=>qM E rfl λa E=>qB E rfl rfl (be rfl) λa E=>sp E (cl E rfl underlying3 underlying94 rfl) rfl λa E=>qB E rfl rfl (kg rfl (by decide)) λa E=>sp E (cl E rfl underlying94 underlying3 rfl) rfl λa E=>?_))));refine qA E rfl λa E=>ag (ae ?_);obtain⟨j604,hj605,x607,hx608,h⟩:=ob2 h;obtain⟨j609,hj610,x612,hx613,h⟩:=ob2 h
 refine kch (k:=11) (m:=m585) (es:=[]) (Φ:=(λi m ws v=>match i with|0=>v=v4|1=>v=v0|2=>ei .i64 (Z1.wrap ((Z1.wrap ((Z1.wrap (ay .u64 (Z2.wrap (Z1.wrap (p1+p3))) 1))+p2)) - 1)) v|3=>ei .i64 (Z1.wrap (ay .u64 (Z2.wrap (Z1.wrap (x587+x589))) 1)) v|4=>ei .i64 (Z1.wrap ((Z1.wrap ((Z1.wrap ((Z1.wrap (ay .u64 (Z2.wrap (Z1.wrap (p1+p3))) 1))+p2)) - 1)) - (Z1.wrap (ay .u64 (Z2.wrap (Z1.wrap (x587+x589))) 1)))) v|5=>v=(.pointer (some ⟨b0_,j604*4,none⟩))|6=>RV ab m v x607|7=>v=v0|8=>ei .i64 (Z1.wrap (ay .u64 (Z2.wrap (Z1.wrap (x587+x589))) 1)) v|9=>v=(.pointer (some ⟨b0_,j609*4,none⟩))|10=>RV ab m v x612|_=>True)) (Q:=(λc m ws L' TL'=>match c with|0=>(b0_,c0_)::L=L'∧TL=TL'|_=>False)) (cs:=[⟨0,0,false,[(4,v4)]⟩,⟨0,0,false,[(0,v0)]⟩,⟨0,0,false,[(22,.int .i64 (Z1.wrap ((Z1.wrap ((Z1.wrap (ay .u64 (Z2.wrap (Z1.wrap (p1+p3))) 1))+p2)) - 1)))]⟩,⟨0,0,false,[(23,.int .i64 (Z1.wrap (ay .u64 (Z2.wrap (Z1.wrap (x587+x589))) 1)))]⟩,⟨0,0,false,[]⟩,⟨0,0,false,[]⟩,⟨0,0,false,[]⟩,⟨0,0,false,[(0,v0)]⟩,⟨0,0,false,[(23,.int .i64 (Z1.wrap (ay .u64 (Z2.wrap (Z1.wrap (x587+x589))) 1)))]⟩,⟨0,0,false,[]⟩,⟨0,0,false,[]⟩]) mixed E hS ⟨rfl,rfl⟩ rfl rfl (by kernel_rfl) ?_ ?_ ?_ ?_
 {
 intro i m_ m2_ ws v n_ q_
 iterate 11 (rcases i with _|i;first|exact q_|exact RV.mono q_ n_)
 exact trivial}
 {
 intro c m_ m2_ ws L_ T_ n_ hq_
 match c,hq_ with
 |0,⟨e1_,e2_⟩=>exact⟨e1_,e2_⟩
 |_+1,hq_=>exact hq_.elim}
 {
 refine⟨?_,?_,?_,?_,?_,?_,?_,?_,?_,?_,?_,trivial⟩
 {exact cmv λ_ _=>rfl}
 {exact cmv λ_ _=>rfl}
 {exact cmv λ_ _=>⟨rfl,(ak _ _)⟩}
 {exact cmv λ_ _=>⟨rfl,(ak _ _)⟩}
 {refine cp0 λ_ _ _ _ _ _ _ _ _ Z' E' T'=>?_;have E:=(E'.add (T' 2).1).add (T' 3).1;exact cq (aP E rfl rfl (dq rfl)) Z' ⟨rfl,(ak _ _)⟩}
 {refine cp1 λ_ _ _ _ _ M' Q' Z' E' T'=>?_;obtain⟨rfl,rfl⟩:=Q';have E:=(E'.add (T' 1)).add (T' 4).1;exact cq (br (k:=ab) E rfl rfl underlying50 sizeOf59 (ha0.mono (Z0 hm474 (Z0 hm586 M'))) hj605 rfl) Z' rfl}
 {refine cp1 λ_ _ _ _ _ M' Q' Z' E' T'=>?_;obtain⟨rfl,rfl⟩:=Q';have E:=E'.add (T' 5);exact cr (aC E Z' fA rfl (i:=0) rfl (GS.elem (ha0.mono (Z0 hm474 (Z0 hm586 M'))) hx608)) Z' λ_ h=>h}
 {exact cmv λ_ _=>rfl}
 {exact cmv λ_ _=>⟨rfl,(ak _ _)⟩}
 {refine cp1 λ_ _ _ _ _ M' Q' Z' E' T'=>?_;obtain⟨rfl,rfl⟩:=Q';have E:=(E'.add (T' 7)).add (T' 8).1;exact cq (br (k:=ab) E rfl rfl underlying50 sizeOf59 (ha0.mono (Z0 hm474 (Z0 hm586 M'))) hj610 rfl) Z' rfl}
 {refine cp1 λ_ _ _ _ _ M' Q' Z' E' T'=>?_;obtain⟨rfl,rfl⟩:=Q';have E:=E'.add (T' 9);exact cr (aC E Z' fA rfl (i:=0) rfl (GS.elem (ha0.mono (Z0 hm474 (Z0 hm586 M'))) hx613)) Z' λ_ h=>h}}
 {
 intro ws_ L_ T_ m653 a w hl654 hm655 hq656 hS hd657 hn658 ho659 hT660;obtain rfl:=eh hl654;obtain⟨rfl,rfl⟩:=hq656
 have E:=eof 11 [(0,v0),(1,.int .i64 p1),(2,.int .i64 p2),(3,.int .i64 p3),(4,v4),(18,.int .i64 (Z1.wrap (ay .u64 (Z2.wrap (Z1.wrap (p1+p3))) 1))),(19,.int .i64 (Z1.wrap ((Z1.wrap (ay .u64 (Z2.wrap (Z1.wrap (p1+p3))) 1))+p2))),(20,.int .i64 x587),(21,.int .i64 x589),(22,.int .i64 (Z1.wrap ((Z1.wrap ((Z1.wrap (ay .u64 (Z2.wrap (Z1.wrap (p1+p3))) 1))+p2)) - 1))),(23,.int .i64 (Z1.wrap (ay .u64 (Z2.wrap (Z1.wrap (x587+x589))) 1))),(149,.int .i64 x587),(150,.int .i64 x589),(151,.bool (decide (x587<x589))),(152,.int .i64 x587),(153,.int .i64 x589),(154,.int .i64 (Z1.wrap (x587+x589))),(155,.int .u64 (Z2.wrap (Z1.wrap (x587+x589)))),(156,.int .u64 (ay .u64 (Z2.wrap (Z1.wrap (x587+x589))) 1)),(157,.int .i64 (Z1.wrap (ay .u64 (Z2.wrap (Z1.wrap (x587+x589))) 1)))] hd657 hn658 ho659
 have E:=E.add (hT660 0);obtain⟨v664,E,q666⟩:=adv E (hT660 6);obtain⟨v667,E,q669⟩:=adv E (hT660 10);obtain⟨r670,hr671,h⟩:=ob h;refine st E (ox E hS rfl rfl (ha4.mono (Z0 hm474 (Z0 hm586 hm655))) q666 q669 hr671) rfl ?_;rintro v675 a w ⟨m672,hm673,hS,hv674⟩ E;obtain⟨rfl,hr676⟩:=aG hv674;refine qB E rfl rfl bn λa E=>sp E (lT E rfl) rfl λa E=>ag (kif E rfl (λhd679=>?_) (λhd679=>?_))
 {have h:=aA hd679 h;refine ah (qM E rfl λa E=>qB E rfl rfl (be rfl) λa E=>qA E rfl λa E=>ag ?_);exact⟨(Z1.wrap ((Z1.wrap (ay .u64 (Z2.wrap (Z1.wrap (x587+x589))) 1))+1),x589),(Option.some.inj h).symm,_,(Z0 hm586 (Z0 hm655 hm673)),(ak _ _),hr590,hS,kut E⟩}
 {have h:=aB hd679 h;refine ah (qM E rfl λa E=>qA E rfl λa E=>ag ?_);exact⟨(x587,Z1.wrap (ay .u64 (Z2.wrap (Z1.wrap (x587+x589))) 1)),(Option.some.inj h).symm,_,(Z0 hm586 (Z0 hm655 hm673)),hr588,(ak _ _),hS,kut E⟩}}}
 {have h:=aB hd596 h;refine cC rfl rfl ?_;have h:=bE h hb592;exact⟨x587,h,_,hm586,hr588,hS,kut E⟩}}}
 {
 rintro a w ⟨x485,h,m483,hm484,hr486,hS,E⟩;unfold cp at h;refine ae (ah (qM E rfl λa E=>qM E rfl λa E=>qB E rfl rfl (dq rfl) λa E=>qA E rfl λa E=>ag (ae (ae ?_))));refine bw (λa w=>∃x494:Bool,cU p0 p1 p2 p3 p4 self_ x485 x494=some r∧∃m',M.le m483 m'∧S W0 m' w ((b0_,c0_)::L) (TL)∧Env 220 a [(0,v0),(1,.int .i64 p1),(2,.int .i64 p2),(3,.int .i64 p3),(4,v4),(18,.int .i64 (Z1.wrap (ay .u64 (Z2.wrap (Z1.wrap (p1+p3))) 1))),(20,.int .i64 x485),(24,.int .i64 (Z1.wrap ((Z1.wrap ((Z1.wrap (ay .u64 (Z2.wrap (Z1.wrap (p1+p3))) 1))+p2)) - x485))),(185,.bool x494)]) ?_ ?_
 {
 refine ah (qM E rfl λa E=>qM E rfl λa E=>qB E rfl rfl bn λa E=>qM E rfl λa E=>?_);rcases Z3 (decide (x485<p2)) with hd579|hd579
 {have h:=aA hd579 h;refine qG E hd579 rfl λa E=>qG E hd579 rfl λa E=>spg E rfl rfl rfl rfl hd579 (aP E rfl rfl bn) rfl λa E=>qT E hd579 rfl λa E=>ag ?_;exact⟨(decide (p2<(Z1.wrap ((Z1.wrap ((Z1.wrap (ay .u64 (Z2.wrap (Z1.wrap (p1+p3))) 1))+p2)) - x485)))),h,_,(Z4 _),hS,kut E⟩}
 {have h:=aB hd579 h;refine qX E hd579 λa E=>qX E hd579 λa E=>qX E hd579 λa E=>qF E hd579 rfl λa E=>ag ?_;exact⟨false,h,_,(Z4 _),hS,kut E⟩}}
 {
 rintro a w ⟨x494,h,m492,hm493,hS,E⟩;unfold cU at h;refine bw (λa w=>∃x498:(List aa),cm p1 p2 p3 p4 self_ x485 x498=some r∧∃m',M.le m492 m'∧∃(cs499:List Value),GS ab m' b0_ cs499 v0 x498∧S W0 m' w ((b0_,cs499)::L) (TL)∧Env 220 a [(0,v0),(1,.int .i64 p1),(3,.int .i64 p3),(4,v4),(18,.int .i64 (Z1.wrap (ay .u64 (Z2.wrap (Z1.wrap (p1+p3))) 1))),(20,.int .i64 x485),(24,.int .i64 (Z1.wrap ((Z1.wrap ((Z1.wrap (ay .u64 (Z2.wrap (Z1.wrap (p1+p3))) 1))+p2)) - x485)))]) ?_ ?_
 {
 refine kif E rfl (λhd562=>?_) (λhd562=>?_)
 {have h:=aA hd562 h;refine ah (qM E rfl λa E=>qM E rfl λa E=>qM E rfl λa E=>qM E rfl λa E=>qM E rfl λa E=>?_);obtain⟨r568,hr569,h⟩:=ob h;refine st E (aF (vs:=[v0,(.int .i64 x485),(.int .i64 p2),(.int .i64 (Z1.wrap ((Z1.wrap ((Z1.wrap (ay .u64 (Z2.wrap (Z1.wrap (p1+p3))) 1))+p2)) - x485))),v4]) E rfl call185 (pj (hS:=hS) (ha0.mono (Z0 hm474 (Z0 hm484 hm493))) hr486 ha2 (ak _ _) (ha4.mono (Z0 hm474 (Z0 hm484 hm493))) hr569)) rfl ?_;rintro v574 a w ⟨m570,hm571,c0_572,hS,hc0_573⟩ E;refine ag ?_;exact⟨r568,h,_,hm571,c0_572,hc0_573,hS,kut E⟩}
 {have h:=aB hd562 h;refine aQ ?_;exact⟨p0,h,_,(Z4 _),c0_,(ha0.mono (Z0 hm474 (Z0 hm484 hm493))),hS,kut E⟩}}
 {
 rintro a w ⟨x498,h,m496,hm497,cs499,hc500,hS,E⟩;unfold cm at h;refine ae (ae ?_);refine bw (λa w=>∃x504:Bool,cT p1 p2 p3 p4 self_ x485 x498 x504=some r∧∃m',M.le m496 m'∧S W0 m' w ((b0_,cs499)::L) (TL)∧Env 220 a [(0,v0),(1,.int .i64 p1),(3,.int .i64 p3),(4,v4),(18,.int .i64 (Z1.wrap (ay .u64 (Z2.wrap (Z1.wrap (p1+p3))) 1))),(20,.int .i64 x485),(24,.int .i64 (Z1.wrap ((Z1.wrap ((Z1.wrap (ay .u64 (Z2.wrap (Z1.wrap (p1+p3))) 1))+p2)) - x485))),(199,.bool x504)]) ?_ ?_
 {
 refine ah (qM E rfl λa E=>qM E rfl λa E=>qB E rfl rfl bn λa E=>qM E rfl λa E=>?_);rcases Z3 (decide (p1<x485)) with hd556|hd556
 {have h:=aA hd556 h;refine qG E hd556 rfl λa E=>qG E hd556 rfl λa E=>spg E rfl rfl rfl rfl hd556 (aP E rfl rfl bn) rfl λa E=>qT E hd556 rfl λa E=>ag ?_;exact⟨(decide (x485<(Z1.wrap (ay .u64 (Z2.wrap (Z1.wrap (p1+p3))) 1)))),h,_,(Z4 _),hS,kut E⟩}
 {have h:=aB hd556 h;refine qX E hd556 λa E=>qX E hd556 λa E=>qX E hd556 λa E=>qF E hd556 rfl λa E=>ag ?_;exact⟨false,h,_,(Z4 _),hS,kut E⟩}}
 {
 rintro a w ⟨x504,h,m502,hm503,hS,E⟩;unfold cT at h;refine bw (λa w=>∃x508:(List aa),cj p1 p2 p3 p4 self_ x485 x508=some r∧∃m',M.le m502 m'∧∃(cs509:List Value),GS ab m' b0_ cs509 v0 x508∧S W0 m' w ((b0_,cs509)::L) (TL)∧Env 220 a [(0,v0),(3,.int .i64 p3),(4,v4),(18,.int .i64 (Z1.wrap (ay .u64 (Z2.wrap (Z1.wrap (p1+p3))) 1))),(24,.int .i64 (Z1.wrap ((Z1.wrap ((Z1.wrap (ay .u64 (Z2.wrap (Z1.wrap (p1+p3))) 1))+p2)) - x485)))]) ?_ ?_
 {
 refine kif E rfl (λhd539=>?_) (λhd539=>?_)
 {have h:=aA hd539 h;refine ah (qM E rfl λa E=>qM E rfl λa E=>qM E rfl λa E=>qM E rfl λa E=>qM E rfl λa E=>?_);obtain⟨r545,hr546,h⟩:=ob h;refine st E (aF (vs:=[v0,(.int .i64 p1),(.int .i64 x485),(.int .i64 (Z1.wrap (ay .u64 (Z2.wrap (Z1.wrap (p1+p3))) 1))),v4]) E rfl call172 (cself_ (hS:=hS) (hc500.mono hm503) ha1 hr486 (ak _ _) (ha4.mono (Z0 hm474 (Z0 hm484 (Z0 hm493 (Z0 hm497 hm503))))) hr546)) rfl ?_;rintro v551 a w ⟨m547,hm548,c0_549,hS,hc0_550⟩ E;refine ag ?_;exact⟨r545,h,_,hm548,c0_549,hc0_550,hS,kut E⟩}
 {have h:=aB hd539 h;refine aQ ?_;exact⟨x498,h,_,(Z4 _),cs499,(hc500.mono hm503),hS,kut E⟩}}
 {
 rintro a w ⟨x508,h,m506,hm507,cs509,hc510,hS,E⟩;unfold cj at h;refine ae ?_;refine bw (λa w=>∃x514:Bool,cM p1 p2 p3 p4 self_ x485 x508 x514=some r∧∃m',M.le m506 m'∧S W0 m' w ((b0_,cs509)::L) (TL)∧Env 220 a [(0,v0),(3,.int .i64 p3),(4,v4),(18,.int .i64 (Z1.wrap (ay .u64 (Z2.wrap (Z1.wrap (p1+p3))) 1))),(24,.int .i64 (Z1.wrap ((Z1.wrap ((Z1.wrap (ay .u64 (Z2.wrap (Z1.wrap (p1+p3))) 1))+p2)) - x485))),(213,.bool x514)]) ?_ ?_
 {
 refine ah (qM E rfl λa E=>qM E rfl λa E=>qB E rfl rfl bn λa E=>qM E rfl λa E=>?_);rcases Z3 (decide ((Z1.wrap (ay .u64 (Z2.wrap (Z1.wrap (p1+p3))) 1))<(Z1.wrap ((Z1.wrap ((Z1.wrap (ay .u64 (Z2.wrap (Z1.wrap (p1+p3))) 1))+p2)) - x485)))) with hd533|hd533
 {have h:=aA hd533 h;refine qG E hd533 rfl λa E=>qG E hd533 rfl λa E=>spg E rfl rfl rfl rfl hd533 (aP E rfl rfl bn) rfl λa E=>qT E hd533 rfl λa E=>ag ?_;exact⟨(decide ((Z1.wrap ((Z1.wrap ((Z1.wrap (ay .u64 (Z2.wrap (Z1.wrap (p1+p3))) 1))+p2)) - x485))<p3)),h,_,(Z4 _),hS,kut E⟩}
 {have h:=aB hd533 h;refine qX E hd533 λa E=>qX E hd533 λa E=>qX E hd533 λa E=>qF E hd533 rfl λa E=>ag ?_;exact⟨false,h,_,(Z4 _),hS,kut E⟩}}
 {
 rintro a w ⟨x514,h,m512,hm513,hS,E⟩;unfold cM at h;refine kif E rfl (λhd516=>?_) (λhd516=>?_)
 {
 have h:=aA hd516 h;refine ah (qM E rfl λa E=>qM E rfl λa E=>qM E rfl λa E=>qM E rfl λa E=>qM E rfl λa E=>?_);obtain⟨r522,hr523,h⟩:=ob h;refine st E (aF (vs:=[v0,(.int .i64 (Z1.wrap (ay .u64 (Z2.wrap (Z1.wrap (p1+p3))) 1))),(.int .i64 (Z1.wrap ((Z1.wrap ((Z1.wrap (ay .u64 (Z2.wrap (Z1.wrap (p1+p3))) 1))+p2)) - x485))),(.int .i64 p3),v4]) E rfl call172 (cself_ (hS:=hS) (hc510.mono hm513) (ak _ _) (ak _ _) ha3 (ha4.mono (Z0 hm474 (Z0 hm484 (Z0 hm493 (Z0 hm497 (Z0 hm503 (Z0 hm507 hm513))))))) hr523)) rfl ?_;rintro v528 a w ⟨m524,hm525,c0_526,hS,hc0_527⟩ E;refine ag ?_
 obtain rfl:=oi h
 try dsimp only
 refine Fin.mk E (rs:=[]) rfl rx.nil ?_;exact⟨_,(Z0 hm474 (Z0 hm484 (Z0 hm493 (Z0 hm497 (Z0 hm503 (Z0 hm507 (Z0 hm513 hm525))))))),c0_526,hS,hc0_527⟩}
 {
 have h:=aB hd516 h;refine aQ ?_;obtain rfl:=oi h
 try dsimp only
 refine Fin.mk E (rs:=[]) rfl rx.nil ?_;exact⟨_,(Z0 hm474 (Z0 hm484 (Z0 hm493 (Z0 hm497 (Z0 hm503 (Z0 hm507 hm513)))))),cs509,hS,(hc510.mono hm513)⟩}}}}}}}}}}
theorem nH:∀(n:Nat) {W0:Bse} {m:M} {w:World} {L:List (Nat×List Value)} {TL:List (Nat×Value)} {b0_:Nat} {c0_:List Value} (hS:S W0 m w ((b0_,c0_)::L) (TL)) {v0:Value} {p0:List aa} (ha0:GS ab m b0_ c0_ v0 p0) {p1:Int} (ha1:inR .i64 p1) {p2:Int} (ha2:inR .i64 p2) {p3:Int} (ha3:inR .i64 p3) {v4:Value} {p4:(aa→aa→Option Int)} (ha4:Fn2 prog ab ab (ai .i64) m v4 p4) {r:List aa} (h:cY n p0 p1 p2 p3 p4=some r),Calls prog 172 [v0,(.int .i64 p1),(.int .i64 p2),(.int .i64 p3),v4].toArray w (Ret λv w'=>∃m',M.le m m'∧∃q0_:List Value,S W0 m' w' ((b0_,q0_)::L) (TL)∧GS ab m' b0_ q0_ v0 r):=by
 intro n
 induction n with
 |zero=>intro W0 m w L TL b0_ c0_ hS v0 p0 ha0 p1 ha1 p2 ha2 p3 ha3 v4 p4 ha4 r h;exact nomatch (show(none:Option _)=some r from h)
 |succ n ih=>
  intro W0 m w L TL b0_ c0_ hS v0 p0 ha0 p1 ha1 p2 ha2 p3 ha3 v4 p4 ha4 r h;exact nG (self_:=cY n) @ih hS ha0 ha1 ha2 ha3 ha4 h
theorem jt {b0_:Nat}{c0_:List Value}(hS:S W0 m w ((b0_,c0_)::L) (TL)) {p0}(ha0:GS ab m b0_ c0_ v0 p0) {p1}(ha1:inR .i64 p1) {p2}(ha2:inR .i64 p2) {p3}(ha3:inR .i64 p3) {p4}(ha4:Fn2 prog ab ab (ai .i64) m v4 p4) {r}(h:du p0 p1 p2 p3 p4=some r):Calls prog 172 [v0,(.int .i64 p1),(.int .i64 p2),(.int .i64 p3),v4].toArray w (Ret λv w'=>∃m',M.le m m'∧∃q0_:List Value,S W0 m' w' ((b0_,q0_)::L) (TL)∧GS ab m' b0_ q0_ v0 r):=nH _ hS ha0 ha1 ha2 ha3 ha4 h
theorem pk  {b0_:Nat} {c0_:List Value} (hS:S W0 m w ((b0_,c0_)::L) (TL)) {p0} (ha0:GS ab m b0_ c0_ v0 p0) {p1} (ha1:inR .i64 p1) {p2} (ha2:Fn2 prog ab ab (ai .i64) m v2 p2) {r} (h:eS p0 p1 p2=some r):
    Calls prog 126 [v0,(.int .i64 p1),v2].toArray w (Ret λv w'=>∃m',M.le m m'∧∃q0_:List Value,S W0 m' w' ((b0_,q0_)::L) (TL)∧GS ab m' b0_ q0_ v0 r):=by
 refine kc func126 ntmps126 λa E=>?_;have E:Env 63 a [(0,v0),(1,.int .i64 p1),(2,v2)]:=E;unfold eS at h;refine ae (ah (qA E rfl λa E=>ag (ae (ah (qM E rfl λa E=>qA E rfl λa E=>qA E rfl λa E=>ag ?_)))));refine ae ?_;refine bw (λa w=>∃x7:Int,∃x9:(List aa),d7 p1 p2 x7 x9=some r∧∃m',M.le m m'∧∃(cs10:List Value),inR .i64 x7∧GS ab m' b0_ cs10 v0 x9∧S W0 m' w ((b0_,cs10)::L) (TL)∧Env 63 a [(0,v0),(1,.int .i64 p1),(2,v2),(6,.int .i64 20),(7,.int .i64 x7)]) ?_ ?_
 {
 refine aJ ?_;refine cH h (λ(s:Int×Int×List aa) a w=>∃m',M.le m m'∧∃(cs121:List Value),inR .i64 s.1∧inR .i64 s.2.1∧GS ab m' b0_ cs121 v0 s.2.2∧S W0 m' w ((b0_,cs121)::L) (TL)∧Env 63 a [(0,v0),(1,.int .i64 p1),(2,v2),(6,.int .i64 20),(7,.int .i64 s.1),(8,.int .i64 s.2.1)]) ?_ ?_
 {exact⟨_,(Z4 _),c0_,(show inR .i64 0 from aw (by decide)),(show inR .i64 20 from aw (by decide)),ha0,hS,kut E⟩}
 {
 rintro ⟨x116,x118,x120⟩ a w ⟨m114,hm115,cs121,hr117,hr119,hc122,hS,E⟩ r123 h hb124;have h:bC p1 p2 x116 x118 x120=some r123:=h;unfold bC at h;refine ae (ae (ah (qM E rfl λa E=>qM E rfl λa E=>qB E rfl rfl BX λa E=>ag (kif E rfl (λhd128=>?_) (λhd128=>?_)))))
 {
 have h:=aA hd128 h;refine aQ (aJ (ae (ah (qM E rfl λa E=>qM E rfl λa E=>qM E rfl λa E=>qM E rfl λa E=>?_))));obtain⟨r133,hr134,h⟩:=ob h;refine st E (aF (vs:=[v0,(.int .i64 x116),(.int .i64 x118),v2]) E rfl call171 (gU (hS:=hS) hc122 hr117 hr119 (ha2.mono hm115) hr134)) rfl ?_;rintro v139 a w ⟨m135,hm136,c0_137,hS,hc0_138⟩ E;refine ag (ae (ah (qM E rfl λa E=>qA E rfl λa E=>ag (ah (qM E rfl λa E=>qM E rfl λa E=>qB E rfl rfl (be rfl) λa E=>?_)))));refine qA E rfl λa E=>ag ?_
 exact⟨(x118,Z1.wrap (x118+20),r133),(Option.some.inj h).symm,_,(Z0 hm115 hm136),c0_137,hr119,(ak _ _),hc0_138,hS,kut E⟩}
 {have h:=aB hd128 h;refine cC rfl rfl ?_;have h:=bE h hb124;exact⟨x116,x120,h,_,hm115,cs121,hr117,hc122,hS,kut E⟩}}}
 {
 rintro a w ⟨x7,x9,h,m5,hm6,cs10,hr8,hc11,hS,E⟩;unfold d7 at h;refine ae (ah (qM E rfl λa E=>qM E rfl λa E=>qM E rfl λa E=>qM E rfl λa E=>?_));obtain⟨r17,hr18,h⟩:=ob h;refine st E (aF (vs:=[v0,(.int .i64 x7),(.int .i64 p1),v2]) E rfl call171 (gU (hS:=hS) hc11 hr8 ha1 (ha2.mono hm6) hr18)) rfl ?_;rintro v23 a w ⟨m19,hm20,c0_21,hS,hc0_22⟩ E;refine ag (aJ ?_);refine cH h (λ(s:Int×List aa) a w=>∃m',M.le m19 m'∧∃(cs29:List Value),inR .i64 s.1∧GS ab m' b0_ cs29 v0 s.2∧S W0 m' w ((b0_,cs29)::L) (TL)∧Env 63 a [(0,v0),(1,.int .i64 p1),(2,v2),(6,.int .i64 s.1)]) ?_ ?_
 {exact⟨_,(Z4 _),c0_21,(show inR .i64 20 from aw (by decide)),hc0_22,hS,kut E⟩}
 {
 rintro ⟨x26,x28⟩ a w ⟨m24,hm25,cs29,hr27,hc30,hS,E⟩ r31 h hb32;have h:a7 p1 p2 x26 x28=some r31:=h;unfold a7 at h;refine ae (ae (ah (qM E rfl λa E=>qM E rfl λa E=>qB E rfl rfl bn λa E=>ag (kif E rfl (λhd36=>?_) (λhd36=>?_)))))
 {
 have h:=aA hd36 h;refine aQ (aJ (ae (ah (qM E rfl λa E=>qB E rfl rfl (oI rfl) λa E=>qA E rfl λa E=>qA E rfl λa E=>ag (ae ?_)))));refine bw (λa w=>∃x43:Int,∃x45:(List aa),dh p1 p2 x26 x43 x45=some r31∧∃m',M.le m24 m'∧∃(cs46:List Value),inR .i64 x43∧GS ab m' b0_ cs46 v0 x45∧S W0 m' w ((b0_,cs46)::L) (TL)∧Env 63 a [(0,v0),(1,.int .i64 p1),(2,v2),(6,.int .i64 x26),(7,.int .i64 x43)]) ?_ ?_
 {
 refine aJ ?_;refine cH h (λ(s:Int×Int×List aa) a w=>∃m',M.le m24 m'∧∃(cs85:List Value),inR .i64 s.1∧inR .i64 s.2.1∧GS ab m' b0_ cs85 v0 s.2.2∧S W0 m' w ((b0_,cs85)::L) (TL)∧Env 63 a [(0,v0),(1,.int .i64 p1),(2,v2),(6,.int .i64 x26),(7,.int .i64 s.1),(8,.int .i64 s.2.1)]) ?_ ?_
 {exact⟨_,(Z4 _),cs29,(show inR .i64 0 from aw (by decide)),(ak _ _),hc30,hS,kut E⟩}
 {
 rintro ⟨x80,x82,x84⟩ a w ⟨m78,hm79,cs85,hr81,hr83,hc86,hS,E⟩ r87 h hb88;have h:bP p1 p2 x26 x80 x82 x84=some r87:=h;unfold bP at h;refine ae (ae (ah (qM E rfl λa E=>qM E rfl λa E=>qB E rfl rfl BX λa E=>ag (kif E rfl (λhd92=>?_) (λhd92=>?_)))))
 {
 have h:=aA hd92 h;refine aQ (aJ (ae (ah (qM E rfl λa E=>qM E rfl λa E=>qM E rfl λa E=>qM E rfl λa E=>qB E rfl rfl (be rfl) λa E=>qM E rfl λa E=>?_))));refine qM E rfl λa E=>?_;obtain⟨r100,hr101,h⟩:=ob h;refine st E (aF (vs:=[v0,(.int .i64 x80),(.int .i64 (Z1.wrap (x80+x26))),(.int .i64 x82),v2]) E rfl call172 (jt (hS:=hS) hc86 hr81 (ak _ _) hr83 (ha2.mono (Z0 hm6 (Z0 hm20 (Z0 hm25 hm79)))) hr101)) rfl ?_;rintro v106 a w ⟨m102,hm103,c0_104,hS,hc0_105⟩ E
 refine ag (ae (ah (qM E rfl λa E=>qA E rfl λa E=>ag (ah (qM E rfl λa E=>qM E rfl λa E=>qB E rfl rfl (oI rfl) λa E=>?_)))));refine qB E rfl rfl (be rfl) λa E=>qA E rfl λa E=>ag ?_;exact⟨(x82,Z1.wrap (x82+(Z1.wrap (2*x26))),r100),(Option.some.inj h).symm,_,(Z0 hm79 hm103),c0_104,hr83,(ak _ _),hc0_105,hS,kut E⟩}
 {have h:=aB hd92 h;refine cC rfl rfl ?_;have h:=bE h hb88;exact⟨x80,x84,h,_,hm79,cs85,hr81,hc86,hS,kut E⟩}}}
 {
 rintro a w ⟨x43,x45,h,m41,hm42,cs46,hr44,hc47,hS,E⟩;unfold dh at h;refine ae (ae (ah (qM E rfl λa E=>qM E rfl λa E=>qB E rfl rfl (be rfl) λa E=>qA E rfl λa E=>ag (ae (ah ?_)))));refine qM E rfl λa E=>qM E rfl λa E=>qB E rfl rfl bn λa E=>ag ?_;refine bw (λa w=>∃x58:(List aa),cD x26 x58=some r31∧∃m',M.le m41 m'∧∃(cs59:List Value),GS ab m' b0_ cs59 v0 x58∧S W0 m' w ((b0_,cs59)::L) (TL)∧Env 63 a [(0,v0),(1,.int .i64 p1),(2,v2),(6,.int .i64 x26)]) ?_ ?_
 {
 refine kif E rfl (λhd65=>?_) (λhd65=>?_)
 {have h:=aA hd65 h;refine ah (qM E rfl λa E=>qM E rfl λa E=>qM E rfl λa E=>qM E rfl λa E=>qM E rfl λa E=>?_);obtain⟨r71,hr72,h⟩:=ob h;refine st E (aF (vs:=[v0,(.int .i64 x43),(.int .i64 (Z1.wrap (x43+x26))),(.int .i64 p1),v2]) E rfl call172 (jt (hS:=hS) hc47 hr44 (ak _ _) ha1 (ha2.mono (Z0 hm6 (Z0 hm20 (Z0 hm25 hm42)))) hr72)) rfl ?_;rintro v77 a w ⟨m73,hm74,c0_75,hS,hc0_76⟩ E;refine ag ?_;exact⟨r71,h,_,hm74,c0_75,hc0_76,hS,kut E⟩}
 {have h:=aB hd65 h;refine aQ ?_;exact⟨x45,h,_,(Z4 _),cs46,hc47,hS,kut E⟩}}
 {rintro a w ⟨x58,h,m56,hm57,cs59,hc60,hS,E⟩;unfold cD at h;refine ah (qM E rfl λa E=>qB E rfl rfl (oI rfl) λa E=>qA E rfl λa E=>ag ?_);exact⟨(Z1.wrap (x26*2),x58),(Option.some.inj h).symm,_,(Z0 hm25 (Z0 hm42 hm57)),cs59,(ak _ _),hc60,hS,kut E⟩}}}
 {
 have h:=aB hd36 h;refine cC rfl rfl ?_;have h:=bE h hb32;obtain rfl:=oi h
 try dsimp only
 refine Fin.mk E (rs:=[]) rfl rx.nil ?_;exact⟨_,(Z0 hm6 (Z0 hm20 hm25)),cs29,hS,hc30⟩}}}
theorem oG  {b0_:Nat} {c0_:List Value} (hS:S W0 m w ((b0_,c0_)::L) (TL)) {p0} (ha0:GS ab m b0_ c0_ v0 p0) {p1} (ha1:Fn2 prog ab ab (ai .i64) m v1 p1) {r} (h:dF p0 p1=some r):
    Calls prog 66 [v0,v1].toArray w (Ret λv w'=>∃m',M.le m m'∧∃q0_:List Value,S W0 m' w' ((b0_,q0_)::L) (TL)∧GS ab m' b0_ q0_ v0 r):=by
 refine kc func66 ntmps66 λa E=>?_;have E:Env 9 a [(0,v0),(1,v1)]:=E;unfold dF at h;refine ah (qM E rfl λa E=>qM E rfl λa E=>sp E (mb (k:=ab) E rfl rfl underlying50 ha0) rfl λa E=>qM E rfl λa E=>?_);obtain⟨r5,hr6,h⟩:=ob h;refine st E (aF (vs:=[v0,(.int .i64 (p0.length:Int)),v1]) E rfl call126 (pk (hS:=hS) ha0 (dK (GS.len ha0)) ha1 hr6)) rfl ?_;rintro v11 a w ⟨m7,hm8,c0_9,hS,hc0_10⟩ E;refine ag ?_;obtain rfl:=oi h
 try dsimp only
 refine Fin.mk E (rs:=[]) rfl rx.nil ?_;exact⟨_,hm8,c0_9,hS,hc0_10⟩
theorem Qm {m0:M}{vc0:Value}{xc0:List Int}(hc0:PR (kSl (ai .i64)) m0 vc0 xc0):Fn2 prog ab ab (ai .i64) m0 (.func (.func 67) [].toArray [vc0].toArray) (λx0 x1=>eG x0 x1 xc0):=by
  refine⟨67,_,rfl,call67,?_⟩;intro W0 m w L TL v0 v1 x0 x1 r hm hS h0 h1 hr;refine(wX (hS:=hS) h0 h1 (hc0.mono hm) hr).mono ?_;intro e w' he;cases e with
  |returned v=>obtain⟨m',h1,h2,h3⟩:=he;exact⟨m',h1,h2,h3⟩
  |panicked ch=>exact he.elim
  |outgrown=>exact he.elim
theorem ol  (hS:S W0 m w L TL) {p0} (ha0:RV (kSl (ai .i64)) m v0 p0) {p1} (ha1:RV (kSl ab) m v1 p1) {r} (h:fG p0 p1=some r):
    Calls prog 27 [v0,v1].toArray w (Ret λv w'=>∃m',M.le m m'∧S W0 m' w' L TL∧RV (kSl ab) m' v r):=by
 refine kc func27 ntmps27 λa E=>?_;have E:Env 29 a [(0,v0),(1,v1)]:=E;unfold fG at h;refine ae (ah ?_);refine st E (kq (k:=(kSl (ai .i64))) E hS rfl ha0) rfl ?_;rintro _ a w ⟨b1,cs2,rfl,hc3,hS⟩ E;refine qA E rfl λa E=>ag (ae (ah (qA E rfl λa E=>ag (ae (ae (ah (qM E rfl λa E=>?_)))))));refine sp E (bd (k:=ab) E rfl rfl underlying50 ha1) rfl λa E=>qM E rfl λa E=>ag ?_
 refine bw (λa w=>∃x12:(List aa),iJ p0 x12=some r∧∃m',M.le m m'∧∃(cs13:List Value),∃(b15:Nat),∃(v16:Value),GS ab m' b15 cs13 v16 x12∧S W0 m' w ((b15,cs13)::(b1,cs2)::L) (TL)∧Env 29 a [(2,pz b1),(5,v16)]) ?_ ?_
 {
 refine aJ ?_;refine cH h (λ(s:Int×List aa) a w=>∃m',M.le m m'∧∃(cs46:List Value),∃(b48:Nat),∃(v49:Value),inR .i64 s.1∧GS ab m' b48 cs46 v49 s.2∧S W0 m' w ((b48,cs46)::(b1,cs2)::L) (TL)∧Env 29 a [(2,pz b1),(5,v49),(8,v1),(9,.int .i64 (p1.length:Int)),(10,.int .i64 s.1)]) ?_ ?_
 {exact⟨_,(Z4 _),[],0,(.slice none 0 0),(show inR .i64 0 from aw (by decide)),GS.void,(hS.void 0),kut E⟩}
 {
 rintro ⟨x43,x45⟩ a w ⟨m41,hm42,cs46,b48,v49,hr44,hc47,hS,E⟩ r50 h hb51;have h:iK p0 p1 x43 x45=some r50:=h;unfold iK at h;refine ae (ah (qB E rfl rfl bn λa E=>ag (ae (kif E rfl (λhd53=>?_) (λhd53=>?_)))))
 {
 have h:=aA hd53 h;refine aQ (ae (aJ (ae (ah ?_))));obtain⟨x54,hx55,h⟩:=ob h;refine st E (dT (k:=ab) E rfl rfl underlying50 sizeOf59 (ha1.mono hm42) hx55) rfl ?_;rintro v57 a _ ⟨rfl,hp56⟩ E;refine st E (bG E hS fA rfl hp56) rfl ?_;rintro v59 a _ ⟨rfl,hv58⟩ E;refine st E (dS hS zeroValue59 rfl (cs:=Jv)) rfl ?_;rintro _ a w ⟨b60,rfl,hS⟩ E;refine st0 E (dG E hS fA bm rfl rfl hv58 (i:=0) rfl (yM _)) ?_;rintro _ w ⟨cs62,hc63,hS⟩ E;refine ag (ah (qM E rfl λa E=>?_));refine st E (aC E hS fA rfl (i:=0) rfl (aR hc63)) rfl ?_;rintro v67 a _ ⟨rfl,hv66⟩ E;obtain⟨r68,hr69,h⟩:=ob h
 refine st E (aF (vs:=[v67]) E rfl call65 (BR (hS:=hS) hv66 hr69)) rfl ?_;rintro v73 a w ⟨m70,hm71,hS,hv72⟩ E;refine st E (fC (k:=ab) (xs:=[r68]) (vs:=[v73]) E hS rfl underlying50 sizeOf59 zeroValue59 ⟨hv72,trivial⟩ rfl (by decide)) rfl ?_;rintro v77 a w ⟨m75,hm76,hS,hv74⟩ E;obtain⟨z78,hz79,h⟩:=ob h;refine st E (rj (k:=ab) (N:=2932031007402) E hS rfl rfl underlying50 Nb (i:=1) rfl (hc47.mono (Z0 hm71 hm76)) (ql hS underlying50 hv74) hz79 rfl rfl) rfl ?_;rintro v86 a w ⟨b83,cs84,hc85,hS⟩ E;refine qA E rfl λa E=>ag (ah (qB E rfl rfl (be rfl) λa E=>qM E rfl λa E=>ag ?_))
 exact⟨(Z1.wrap (x43+1),z78),(Option.some.inj h).symm,_,(Z0 hm42 (Z0 hm71 hm76)),cs84,b83,v86,(ak _ _),hc85,((hS.pickL 3 [1,2] rfl rfl rfl).pickT 1 [] rfl rfl rfl),kut E⟩}
 {have h:=aB hd53 h;refine cC rfl rfl ?_;have h:=bE h hb51;exact⟨x45,h,_,hm42,cs46,b48,v49,hc47,hS,kut E⟩}}}
 {
 rintro a w ⟨x12,h,m10,hm11,cs13,b15,v16,hc14,hS,E⟩;unfold iJ at h;refine ae (ah (qM E rfl λa E=>?_));obtain⟨m19,hm20,hS,hp21⟩:=S.freezeL (k:=(kSl (ai .i64))) (hS.pickL 2 [1,0] rfl rfl rfl) ((kSl (ai .i64)).mono hm11 hc3);refine sp E (qQ E rfl rfl) rfl λa E=>?_;obtain⟨r23,hr24,h⟩:=ob h;refine st E (aF (vs:=[v16,(.func (.func 67) [].toArray [(pz b1)].toArray)]) E rfl call66 (by have q0_:=(hc14.mono hm20);have q1_:=(Qm hp21);exact oG (p0:=x12) (p1:=(λy0_ y1_=>eG y0_ y1_ p0)) (hS:=hS) q0_ q1_ hr24)) rfl ?_;rintro v29 a w ⟨m25,hm26,c0_27,hS,hc0_28⟩ E;refine ag (ae ?_)
 obtain⟨m30,hm31,hS,hv32⟩:=S.freeze hS hc0_28;refine ah (qM E rfl λa E=>qM E rfl λa E=>sp E (bd (k:=ab) E rfl rfl underlying50 hv32) rfl λa E=>qM E rfl λa E=>sp E (bd (k:=ab) E rfl rfl underlying50 hv32) rfl λa E=>?_);refine st E (Gr (k:=ab) E rfl underlying50 sizeOf59 hv32 rfl rfl) rfl ?_;rintro v39 a _ ⟨rfl,hv38⟩ E;refine qA E rfl λa E=>ag (bA ?_);obtain rfl:=oi h
 try dsimp only
 refine f1 E ?_;exact⟨_,(Z0 hm11 (Z0 hm20 (Z0 hm26 hm31))),hS,hv38⟩}
theorem Qn:Ctr Sz prog 75 [.ap (.int .u8),.rd (.int .i64)] [.ap (.int .u8)] (fun x=>ff x.1 x.2.1):=
 ncR [] [4] func75 ntmps75 .o λx=>by kernel_rfl
theorem pT  (hS:S W0 m w L ((1,v0)::TL)) {p0} (ha0:RV (kSl (ai .u8)) m v0 p0) {p1} (ha1:inR .i64 p1) {r} (h:ff p0 p1=some r):
    Calls prog 75 [v0,(.int .i64 p1)].toArray w (Ret λv w'=>∃m',M.le m m'∧S W0 m' w' L ((1,v)::TL)∧RV (kSl (ai .u8)) m' v r):=by
 refine rm (Qn W0 m w L TL [v0,(.int .i64 p1)] (p0,p1,()) r [] [(1,v0)] hS ⟨ha0,rfl,⟨aq ha1,trivial⟩⟩ h) λv w' he=>?_;obtain⟨m',us,Lr,Lq,Tr,hm,Z',rfl,hR,hO⟩:=he;obtain⟨u0,us,Tr,rfl,rfl,r0,hR0⟩:=uF hR;obtain⟨rfl,rfl,rfl⟩:=cE hR0;have hO0:=JH hO;have hO1:=bT hO0;obtain rfl:=cF hO1;exact⟨m',hm,Z',r0⟩
theorem Qo:Ctr Sz prog 77 [.rd (.int .i64),.rd (.int .i64),.rd (.sl (.st 59))] [.ap (.st 32)] (fun x=>gS x.1 x.2.1 x.2.2.1):=
 ncR [zP] [6] func77 ntmps77 (.s .o (.s .o (.s (.s .o (.b (.l ⟨[.v 7 1 (.dat (.sl (.st 32)) (some 0)),.v 12 1 (.dat (.int .i64) none)],[0,1,10,11],0,[4]⟩ .o))) .o))) λx=>by kernel_rfl
theorem si  (hS:S W0 m w L TL) {p0} (ha0:inR .i64 p0) {p1} (ha1:inR .i64 p1) {p2} (ha2:RV (kSl ab) m v2 p2) {r} (h:gS p0 p1 p2=some r):
    Calls prog 77 [(.int .i64 p0),(.int .i64 p1),v2].toArray w (Ret λv w'=>∃m',M.le m m'∧S W0 m' w' L ((4,v)::TL)∧RV (kSl kAp) m' v r):=by
 refine rm (Qo W0 m w L TL [(.int .i64 p0),(.int .i64 p1),v2] (p0,p1,p2,()) r [] [] hS ⟨aq ha0,⟨aq ha1,⟨ha2,trivial⟩⟩⟩ h) λv w' he=>?_;obtain⟨m',us,Lr,Lq,Tr,hm,Z',rfl,hR,hO⟩:=he;obtain⟨u0,us,Tr,rfl,rfl,r0,hR0⟩:=uF hR;obtain⟨rfl,rfl,rfl⟩:=cE hR0;have hO0:=bT hO;have hO1:=bT hO0;have hO2:=bT hO1;obtain rfl:=cF hO2;exact⟨m',hm,Z',r0⟩
theorem tM {σ:Type} {I:M→σ→Mem→Tls→Prop} {step:σ→(List Ap)→Option (σ×Bool)} {B:σ→Bse} {v0:Value} {m:M} {w:World} {L:Mem} {TL:Tls} {s0_:σ} {Ls_0:Mem} {TLs_0:Tls} (mono: ∀m m' s a b,M.le m m'→I m s a b→I m' s a b) (hy:Cu prog (Rv1 (kSl kAp)) B v0 I step) (hI0_:I m s0_ Ls_0 TLs_0) (hS:S (B s0_) m w (Ls_0++L) (TLs_0++TL)) {v1:Value} {p1:List Ap} (ha1:PR (kSl kAp) m v1 p1) {v2:Value} {p2:Int} (ha2:PR (ai .i64) m v2 p2) {r:σ} (h:gr step s0_ p1 p2=some r):
    Calls prog 177 [v0,v1,v2].toArray w (Ret λ_ w'=>∃m' Ls' TLs',M.le m m'∧I m' r Ls' TLs'∧S (B r) m' w' (Ls'++L) (TLs'++TL)):=by
 refine yR (args:=[v0,v1,v2]) func177 rfl ntmps177 (Nat.le_of_ble_eq_true rfl) λa E=>?_;have E:Env 31 a [(0,v0),(1,v1),(2,v2)]:=E;unfold gr at h;refine ae (ah (qA E rfl λa E=>ag (aJ ?_)));refine cH h (λ(s:Int×σ) a w=>∃m',M.le m m'∧∃(Ls7:Mem),∃(TLs8:Tls),inR .i64 s.1∧I m' s.2 Ls7 TLs8∧S (B s.2) m' w ((Ls7++L)) ((TLs8++TL))∧Env 31 a [(0,v0),(1,v1),(2,v2),(4,.int .i64 s.1)]) ?_ ?_
 {exact⟨_,(Z4 _),Ls_0,TLs_0,(show inR .i64 0 from aw (by decide)),hI0_,hS,kut E⟩}
 {
 rintro ⟨x4,x6⟩ a w ⟨m2,hm3,Ls7,TLs8,hr5,hI9,hS,E⟩ r10 h hb11;have h:cK step p1 p2 x4 x6=some r10:=h;unfold cK at h;refine ae (ae (ah (qM E rfl λa E=>?_)));refine st E (bG E hS wT rfl (ha1.mono hm3)) rfl ?_;rintro v14 a _ ⟨rfl,hv13⟩ E;refine sp E (bd (k:=kAp) E rfl rfl underlying22 hv13) rfl λa E=>qB E rfl rfl bn λa E=>ag (kif E rfl (λhd17=>?_) (λhd17=>?_))
 {
 have h:=aA hd17 h;refine aQ (ae (aJ (ae ?_)));obtain⟨x21,hx22,h⟩:=ob h;refine kch (k:=5) (m:=m2) (es:=[]) (Φ:=(λi m ws v=>match i with|0=>ei .i64 p2 v|1=>RV (kSl kAp) m v p1|2=>ei .i64 x4 v|3=>RV (kSl kAp) m v x21|4=>ei .i64 (x21.length:Int) v|_=>True)) (Q:=(λc m ws L' TL'=>match c with|0=>(Ls7++L)=L'∧(TLs8++TL)=TL'|_=>False)) (cs:=[⟨0,0,false,[(2,v2)]⟩,⟨0,0,false,[(1,v1)]⟩,⟨0,0,false,[(4,.int .i64 x4)]⟩,⟨0,0,false,[]⟩,⟨0,0,false,[]⟩]) mixed E hS ⟨rfl,rfl⟩ rfl rfl (by kernel_rfl) ?_ ?_ ?_ ?_
 {
 intro i m_ m2_ ws v n_ q_
 iterate 5 (rcases i with _|i;first|exact q_|exact RV.mono q_ n_)
 exact trivial}
 {
 intro c m_ m2_ ws L_ T_ n_ hq_
 match c,hq_ with
 |0,⟨e1_,e2_⟩=>exact⟨e1_,e2_⟩
 |_+1,hq_=>exact hq_.elim}
 {
 refine⟨?_,?_,?_,?_,?_,trivial⟩
 {refine cp0 λ_ _ _ _ _ _ _ M' _ Z' E' _=>?_;exact cr (bG E' Z' ty3 rfl (ha2.mono (Z0 hm3 M'))) Z' λ_ h=>aG h}
 {refine cp0 λ_ _ _ _ _ _ _ M' _ Z' E' _=>?_;exact cr (bG E' Z' wT rfl (ha1.mono (Z0 hm3 M'))) Z' λ_ h=>h}
 {exact cmv λ_ _=>⟨rfl,hr5⟩}
 {
 refine cp0 λ_ _ _ m' a' _ _ _ _ Z' E' T'=>?_;obtain⟨v28,e29,q30⟩:∃v,a'.tmps.getD 14 undef=v∧(RV (kSl kAp) m' v p1):=⟨_,rfl,T' 1⟩
 have E:=(E'.add (e29)).add (T' 2).1;exact cr (eD (k:=kAp) E rfl underlying22 sizeOf32 q30 ⟨_,rfl⟩ rfl hx22 (xl:=(some (.tmp 15))) (xh:=none)) Z' λ_ h=>h}
 {refine cp0 λ_ _ _ m' a' _ _ _ _ Z' E' T'=>?_;obtain⟨v36,E,q38⟩:=adv E' (T' 3);exact cq (bd (k:=kAp) E rfl rfl underlying22 q38) Z' ⟨rfl,(dK (iH q38))⟩}}
 {
 intro ws_ L_ T_ m40 a w hl41 hm42 hq43 hS hd44 hn45 ho46 hT47;obtain rfl:=eh hl41;obtain⟨rfl,rfl⟩:=hq43;have E:=eof 5 [(0,v0),(1,v1),(2,v2),(4,.int .i64 x4),(6,.int .i64 x4),(7,v14),(8,.int .i64 (p1.length:Int)),(9,.bool (decide (x4<(p1.length:Int))))] hd44 hn45 ho46;have E:=(E.add (hT47 0).1).add (hT47 4).1;refine sp E (Ci E rfl rfl) rfl λa E=>qA E rfl λa E=>ag (ae (ah (qM E rfl λa E=>?_)));refine st E (bG E hS wT rfl (ha1.mono (Z0 hm3 hm42))) rfl ?_;rintro v60 a _ ⟨rfl,hv59⟩ E
 refine qM E rfl λa E=>qM E rfl λa E=>qM E rfl λa E=>qB E rfl rfl (be rfl) λa E=>qM E rfl λa E=>qM E rfl λa E=>qB E rfl rfl (be rfl) λa E=>?_;obtain⟨x68,hx69,h⟩:=ob h;refine st E (E8 (k:=kAp) E rfl underlying22 sizeOf32 hv59 rfl rfl rfl hx69) rfl ?_;rintro v71 a _ ⟨rfl,hv70⟩ E;obtain⟨r72,hr73,h⟩:=ob h;refine st E (hy _ _ L TL _ _ _ [v71] _ _ _ (mono _ _ _ _ _ hm42 hI9) hS ⟨_,rfl,hv70⟩ hr73 _ _ _ _ _ _ _ _ _ (E.eval rfl) (iX E rfl)) rfl ?_;rintro v80 a w ⟨hq76,m74,Ls77,TLs78,hm75,hI79,hS⟩ E;obtain rfl:=hq76
 refine sp E (lT E rfl) rfl λa E=>ag (kif E rfl (λhd82=>?_) (λhd82=>?_))
 {
 have h:=aA hd82 h;refine bA ?_;have h:=bE h hb11;obtain rfl:=oi h
 try dsimp only
 refine Fin.mk E (rs:=[]) rfl rx.nil ?_;exact⟨_,Ls77,TLs78,(Z0 hm3 (Z0 hm42 hm75)),hI79,hS⟩}
 {have h:=aB hd82 h;refine aQ (ah (qM E rfl λa E=>?_));refine st E (bG E hS ty3 rfl (ha2.mono (Z0 hm3 (Z0 hm42 hm75)))) rfl ?_;rintro v85 a _ ⟨rfl,hv84⟩ E;obtain⟨rfl,hr86⟩:=aG hv84;refine qB E rfl rfl (be rfl) λa E=>qA E rfl λa E=>ag ?_;exact⟨(Z1.wrap (x4+p2),r72.1),(Option.some.inj h).symm,_,(Z0 hm3 (Z0 hm42 hm75)),Ls77,TLs78,(ak _ _),hI79,hS,kut E⟩}}}
 {
 have h:=aB hd17 h;refine cC rfl rfl ?_;have h:=bE h hb11;obtain rfl:=oi h
 try dsimp only
 refine Fin.mk E (rs:=[]) rfl rx.nil ?_;exact⟨_,Ls7,TLs8,hm3,hI9,hS⟩}}
theorem sq {m:M}{v1:Value}{p1:List Ap}(ha1:PR (kSl kAp) m v1 p1){v2:Value}{p2:Int}(ha2:PR (ai .i64) m v2 p2){xs:List (List Ap)}(h:ga p1 p2=some xs):B4 prog (Rv1 (kSl kAp)) 177 [v1,v2].toArray m xs:=by
 intro σ I step B y m1 w L TL s Ls TLs r mono hle hy hI hS hf;exact tM mono hy hI hS (ha1.mono hle) (ha2.mono hle) (qZ h hf)
theorem vh  (hS:S W0 m w L TL) {p0} (ha0:RV (kSl kAp) m v0 p0) {p1} (ha1:inR .i64 p1) {r} (h:il p0 p1=some r):
    Calls prog 134 [v0,(.int .i64 p1)].toArray w (Ret λv w'=>∃m',M.le m m'∧S W0 m' w' L TL∧ItV prog (Rv1 (kSl kAp)) m' v r):=by
 refine kc func134 ntmps134 λa E=>?_;have E:Env 9 a [(0,v0),(1,.int .i64 p1)]:=E;unfold il at h;refine ae (ah ?_);refine st E (kq (k:=(kSl kAp)) E hS rfl ha0) rfl ?_;rintro _ a w ⟨b1,cs2,rfl,hc3,hS⟩ E;refine st E (kq (k:=(ai .i64)) E hS rfl (aq ha1)) rfl ?_;rintro _ a w ⟨b5,cs6,rfl,hc7,hS⟩ E;refine qA E rfl λa E=>ag (ae (ae (ah ?_)));refine st E (aC E hS ty3 rfl (i:=0) rfl (aR hc7)) rfl ?_;rintro v11 a _ ⟨rfl,hv10⟩ E;obtain⟨rfl,hr12⟩:=aG hv10;refine qB E rfl rfl bn λa E=>ag ?_
 refine bw (λa w=>iu p0 p1=some r∧∃m',M.le m m'∧S W0 m' w ((b5,cs6)::(b1,cs2)::L) (TL)∧Env 9 a [(2,pz b1),(3,pz b5)]) ?_ ?_
 {
 refine kif E rfl (λhd27=>?_) (λhd27=>?_)
 {have h:=aA hd27 h;cases h}
 {have h:=aB hd27 h;refine aQ ?_;exact⟨h,_,(Z4 _),hS,kut E⟩}}
 {
 rintro a w ⟨h,m14,hm15,hS,E⟩;unfold iu at h;refine ae (ah ?_);obtain⟨m17,hm18,hS,hp19⟩:=S.freezeL (k:=(kSl kAp)) (hS.pickL 2 [1,0] rfl rfl rfl) ((kSl kAp).mono hm15 hc3);obtain⟨m20,hm21,hS,hp22⟩:=S.freezeL (k:=(ai .i64)) hS ((ai .i64).mono (Z0 hm15 hm18) hc7);obtain⟨x23,hx24,h⟩:=ob h;refine sp E (qQ E rfl rfl) rfl λa E=>qA E rfl λa E=>ag (bA ?_);obtain rfl:=oi h
 try dsimp only
 refine f1 E ?_;exact⟨_,(Z0 hm15 (Z0 hm18 hm21)),hS,(⟨177,_,rfl,call177,sq (hp19.mono hm21) hp22 hx24⟩:ItV prog (Rv1 (kSl kAp)) m20 (.func (.func 177) [].toArray [(pz b1),(pz b5)].toArray) x23)⟩}
theorem Og:Ctr Sz prog 143 [.rd (.sl (.st 32)),.f1 (.st 32) .bool] [.rd (.int .i64)] (fun x=>j5 x.1 x.2.1):=
 ncR [] [4] func143 ntmps143 (.s .o (.s (.s .o (.b (.l ⟨[.v 8 1 (.dat (.int .i64) none)],[0,1,7],0,[]⟩ .o))) .o)) λx=>by kernel_rfl
def Oh:=mC Og call143
theorem Qp:Ctr Sz prog 99 [.rd (.sl (.st 32)),.f1 (.st 32) .bool] [.rd .bool] (fun x=>eo x.1 x.2.1):=
 ncR [Oh] [4] func99 ntmps99 .o λx=>by kernel_rfl
theorem qz  (hS:S W0 m w L TL) {p0} (ha0:RV (kSl kAp) m v0 p0) {p1} (ha1:Fn1 prog kAp cO m v1 p1) {r} (h:eo p0 p1=some r):
    Calls prog 99 [v0,v1].toArray w (Ret λv w'=>∃m',M.le m m'∧S W0 m' w' L TL∧RV cO m' v r):=by
 refine rm (Qp W0 m w L TL [v0,v1] (p0,p1,()) r [] [] hS ⟨ha0,⟨ha1,trivial⟩⟩ h) λv w' he=>?_;obtain⟨m',us,Lr,Lq,Tr,hm,Z',rfl,hR,hO⟩:=he;obtain⟨u0,us,rfl,r0,hR0⟩:=dC hR;obtain⟨rfl,rfl,rfl⟩:=cE hR0;have hO0:=bT hO;have hO1:=JI hO0;obtain rfl:=cF hO1;exact⟨m',hm,Z',r0⟩
theorem Oi:Ctr Sz prog 100 [.rd (.st 32)] [.rd .bool] (fun x=>eY x.1):=
 ncR [DL] [2] func100 ntmps100 .o λx=>by kernel_rfl
theorem xE  (hS:S W0 m w L TL) {p0} (ha0:RV kAp m v0 p0) {r} (h:eY p0=some r):
    Calls prog 100 [v0].toArray w (Ret λv w'=>∃m',M.le m m'∧S W0 m' w' L TL∧RV cO m' v r):=by
 refine rm (Oi W0 m w L TL [v0] (p0,()) r [] [] hS ⟨ha0,trivial⟩ h) λv w' he=>?_;obtain⟨m',us,Lr,Lq,Tr,hm,Z',rfl,hR,hO⟩:=he;obtain⟨u0,us,rfl,r0,hR0⟩:=dC hR;obtain⟨rfl,rfl,rfl⟩:=cE hR0;have hO0:=bT hO;obtain rfl:=cF hO0;exact⟨m',hm,Z',r0⟩
theorem Oj:Ctr Sz prog 102 [.rd (.sl (.st 32))] [.rd (.sl (.int .i64)),.rd .bool] (fun x=>mZ x.1):=
 ncR [] [2,3] func102 ntmps102 (.s .o (.s .o (.s (.s .o (.b (.l ⟨[.v 4 1 (.dat (.sl (.int .i64)) (some 0)),.v 9 1 (.dat (.int .i64) none)],[7,8],0,[1]⟩ .o))) .o))) λx=>by kernel_rfl
theorem BS  (hS:S W0 m w L TL) {p0} (ha0:RV (kSl kAp) m v0 p0) {r} (h:mZ p0=some r):
    Calls prog 102 [v0].toArray w (Ret λv w'=>∃m',M.le m m'∧S W0 m' w' L TL∧∃v0_ v1_:Value,v= .tuple #[v0_,v1_]∧RV (kSl (ai .i64)) m' v0_ r.1∧RV cO m' v1_ r.2):=by
 refine rm (Oj W0 m w L TL [v0] (p0,()) r [] [] hS ⟨ha0,trivial⟩ h) λv w' he=>?_;obtain⟨m',us,Lr,Lq,Tr,hm,Z',rfl,hR,hO⟩:=he;obtain⟨u0,us,rfl,r0,hR0⟩:=dC hR;obtain⟨u1,us,rfl,r1,hR1⟩:=dC hR0;obtain⟨rfl,rfl,rfl⟩:=cE hR1;have hO0:=bT hO;obtain rfl:=cF hO0;exact⟨m',hm,Z',u0,u1,rfl,r0,r1⟩
theorem BT  (hS:S W0 m w L TL) {p0} (ha0:RV (kSl kAp) m v0 p0) {r} (h:lH p0=some r):
    Calls prog 146 [v0].toArray w (Ret λv w'=>∃m',M.le m m'∧S W0 m' w' L TL∧RV (kSl cw) m' v r):=by
 refine kc func146 ntmps146 λa E=>?_;have E:Env 48 a [(0,v0)]:=E;unfold lH at h;refine ae (ah (qA E rfl λa E=>ag (Ce (ae (ah (qA E rfl λa E=>ag (ae ?_)))))));refine Gd (ae (ae (ah (qM E rfl λa E=>sp E (bd (k:=kAp) E rfl rfl underlying22 ha0) rfl λa E=>qM E rfl λa E=>ag ?_))));refine bw (λa w=>∃x8:(List aS),mp x8=some r∧∃m',M.le m m'∧∃(v9:Value),RV (kSl cw) m' v9 x8∧S W0 m' w L TL∧Env 48 a [(3,v9)]) ?_ ?_
 {
 refine aJ ?_;refine cH h (λ(s:Int×List aS) a w=>∃m',M.le m m'∧∃(cs19:List Value),∃(b21:Nat),∃(v22:Value),inR .i64 s.1∧GS cw m' b21 cs19 v22 s.2∧S W0 m' w ((b21,cs19)::L) (TL)∧Env 48 a [(3,v22),(7,v0),(8,.int .i64 (p0.length:Int)),(9,.int .i64 s.1)]) ?_ ?_
 {exact⟨_,(Z4 _),[],0,(.slice none 0 0),(show inR .i64 0 from aw (by decide)),GS.void,(hS.void 0),kut E⟩}
 {
 rintro ⟨x16,x18⟩ a w ⟨m14,hm15,cs19,b21,v22,hr17,hc20,hS,E⟩ r23 h hb24;have h:kx p0 x16 x18=some r23:=h;unfold kx at h;refine ae (ah (qB E rfl rfl bn λa E=>ag (ae (kif E rfl (λhd26=>?_) (λhd26=>?_)))))
 {
 have h:=aA hd26 h;refine aQ (ae ?_);refine bw (λa w=>∃x29:(List aS),iY x16 x29=some r23∧∃m',M.le m14 m'∧∃(cs30:List Value),∃(b32:Nat),∃(v33:Value),GS cw m' b32 cs30 v33 x29∧S W0 m' w ((b32,cs30)::L) (TL)∧Env 48 a [(3,v33),(7,v0),(8,.int .i64 (p0.length:Int)),(9,.int .i64 x16)]) ?_ ?_
 {
 refine aJ (ae (ah ?_));obtain⟨x37,hx38,h⟩:=ob h;refine st E (dT (k:=kAp) E rfl rfl underlying22 sizeOf32 (ha0.mono hm15) hx38) rfl ?_;rintro v40 a _ ⟨rfl,hp39⟩ E;refine st E (bG E hS fh rfl hp39) rfl ?_;rintro v42 a _ ⟨rfl,hv41⟩ E;refine st E (dS hS zeroValue32 rfl (cs:=wS)) rfl ?_;rintro _ a w ⟨b43,rfl,hS⟩ E;refine st0 E (dG E hS fh bm rfl rfl hv41 (i:=0) rfl (pR _)) ?_;rintro _ w ⟨cs45,hc46,hS⟩ E;refine ag (ae (ae (ah (qM E rfl λa E=>sp E (mb (k:=cw) E rfl rfl underlying185 hc20) rfl λa E=>qM E rfl λa E=>ag ?_))))
 refine bw (λa w=>mq x16 x18 x37=some r23∧∃m',M.le m14 m'∧S W0 m' w ((b43,cs45)::(b21,cs19)::L) (TL)∧Env 48 a [(3,v22),(5,pz b43),(7,v0),(8,.int .i64 (p0.length:Int)),(9,.int .i64 x16)]) ?_ ?_
 {
 refine aJ ?_;refine cH h (λ(s:Int) a w=>∃m',M.le m14 m'∧inR .i64 s∧S W0 m' w ((b43,cs45)::(b21,cs19)::L) (TL)∧Env 48 a [(3,v22),(5,pz b43),(7,v0),(8,.int .i64 (p0.length:Int)),(9,.int .i64 x16),(14,.int .i64 (x18.length:Int)),(15,.int .i64 s)]) ?_ ?_
 {exact⟨_,(Z4 _),(show inR .i64 0 from aw (by decide)),hS,kut E⟩}
 {
 rintro x75 a w ⟨m73,hm74,hr76,hS,E⟩ r77 h hb78;have h:eR x16 x18 x37 x75=some r77:=h;unfold eR at h;refine ae (ah (qB E rfl rfl bn λa E=>ag (ae (kif E rfl (λhd80=>?_) (λhd80=>?_)))))
 {
 have h:=aA hd80 h;refine aQ (ae (aJ (ae (ah (qM E rfl λa E=>qA E rfl λa E=>ag (ae ?_))))));refine bw (λa w=>∃x85:Bool,gQ x16 x18 x75 x85=some r77∧∃m',M.le m73 m'∧S W0 m' w ((b43,cs45)::(b21,cs19)::L) (TL)∧Env 48 a [(3,v22),(5,pz b43),(6,.int .i64 x75),(7,v0),(8,.int .i64 (p0.length:Int)),(9,.int .i64 x16),(14,.int .i64 (x18.length:Int)),(15,.int .i64 x75),(31,.bool x85)]) ?_ ?_
 {
 rcases Z3 (x75==(Z1.wrap ((x18.length:Int) - 1))) with hd111|hd111
 {
 have h:=aA hd111 h;obtain⟨j112,hj113,x115,hx116,h⟩:=ob2 h
 refine kch (k:=12) (m:=m73) (es:=[]) (Φ:=(λi m ws v=>match i with|0=>ei .i64 x75 v|1=>v=v22|2=>ei .i64 (x18.length:Int) v|3=>ei .i64 (Z1.wrap ((x18.length:Int) - 1)) v|4=>v=(.bool (x75==(Z1.wrap ((x18.length:Int) - 1))))|5=>v=(.bool (x75==(Z1.wrap ((x18.length:Int) - 1))))|6=>v=v22|7=>ei .i64 x75 v|8=>v=(.pointer (some ⟨b21,j112*5,none⟩))|9=>v=(.pointer (some ⟨b21,j112*5+1,none⟩))|10=>RV kAp m v x115.fValue|11=>RV kAp m v x37|_=>True)) (Q:=(λc m ws L' TL'=>match c with|0=>(b43,cs45)::(b21,cs19)::L=L'∧TL=TL'|_=>False)) (cs:=[⟨0,0,false,[(6,.int .i64 x75)]⟩,⟨0,0,false,[(3,v22)]⟩,⟨0,0,false,[]⟩,⟨0,0,false,[]⟩,⟨0,0,false,[]⟩,⟨0,0,false,[]⟩,⟨0,0,false,[(3,v22)]⟩,⟨0,0,false,[(6,.int .i64 x75)]⟩,⟨0,0,false,[]⟩,⟨0,0,false,[]⟩,⟨0,0,false,[]⟩,⟨0,0,false,[(5,pz b43)]⟩]) mixed E hS ⟨rfl,rfl⟩ rfl rfl (by kernel_rfl) ?_ ?_ ?_ ?_
 {
 intro i m_ m2_ ws v n_ q_
 iterate 12 (rcases i with _|i;first|exact q_|exact RV.mono q_ n_)
 exact trivial}
 {
 intro c m_ m2_ ws L_ T_ n_ hq_
 match c,hq_ with
 |0,⟨e1_,e2_⟩=>exact⟨e1_,e2_⟩
 |_+1,hq_=>exact hq_.elim}
 {
 refine⟨?_,?_,?_,?_,?_,?_,?_,?_,?_,?_,?_,?_,trivial⟩
 {exact cmv λ_ _=>⟨rfl,hr76⟩}
 {exact cmv λ_ _=>rfl}
 {refine cp1 λ_ _ _ _ _ M' Q' Z' E' T'=>?_;obtain⟨rfl,rfl⟩:=Q';have E:=E'.add (T' 1);exact cq (mb (k:=cw) E rfl rfl underlying185 (hc20.mono (Z0 hm74 M'))) Z' ⟨rfl,(dK (GS.len (hc20.mono (Z0 hm74 M'))))⟩}
 {refine cp0 λ_ _ _ _ _ _ _ _ _ Z' E' T'=>?_;have E:=E'.add (T' 2).1;exact cq (aP E rfl rfl (dq rfl)) Z' ⟨rfl,(ak _ _)⟩}
 {refine cp0 λ_ _ _ _ _ _ _ _ _ Z' E' T'=>?_;have E:=(E'.add (T' 0).1).add (T' 3).1;exact cq (aP E rfl rfl gg) Z' rfl}
 {refine cp0 λ_ _ _ _ _ _ _ _ _ Z' E' T'=>?_;have E:=E'.add (T' 4);exact cq (iF E rfl) Z' rfl}
 {exact cgm (gz hd111) (λ_ _=>rfl)}
 {exact cgm (gz hd111) (λ_ _=>⟨rfl,hr76⟩)}
 {refine cg1 (gz hd111) λ_ _ _ _ _ M' Q' Z' E' T'=>?_;obtain⟨rfl,rfl⟩:=Q';have E:=(E'.add (T' 6)).add (T' 7).1;exact cq (br (k:=cw) E rfl rfl underlying185 sizeOf187 (hc20.mono (Z0 hm74 M')) hj113 rfl) Z' rfl}
 {refine cg0 (gz hd111) λ_ _ _ _ _ _ _ _ _ Z' E' T'=>?_;have E:=E'.add (T' 8);exact cq (aM E EY rfl) Z' rfl}
 {refine cg1 (gz hd111) λ_ _ _ _ _ M' Q' Z' E' T'=>?_;obtain⟨rfl,rfl⟩:=Q';have E:=E'.add (T' 9);exact cr (aC E Z' fh rfl (i:=1) rfl (KZ.R_drop (GS.elem (hc20.mono (Z0 hm74 M')) hx116))) Z' λ_ h=>h}
 {refine cg1 (gz hd111) λ_ _ _ _ _ M' Q' Z' E' _=>?_;obtain⟨rfl,rfl⟩:=Q';exact cr (aC E' Z' fh rfl (i:=0) rfl (aR (kAp.mono (Z0 hm74 M') hc46))) Z' λ_ h=>h}}
 {
 intro ws_ L_ T_ m161 a w hl162 hm163 hq164 hS hd165 hn166 ho167 hT168;obtain rfl:=eh hl162;obtain⟨rfl,rfl⟩:=hq164;have E:=eof 12 [(3,v22),(5,pz b43),(6,.int .i64 x75),(7,v0),(8,.int .i64 (p0.length:Int)),(9,.int .i64 x16),(14,.int .i64 (x18.length:Int)),(15,.int .i64 x75),(16,.bool (decide (x75<(x18.length:Int)))),(17,.int .i64 x75)] hd165 hn166 ho167;have E:=((((E.add (hT168 5)).add (hT168 6)).add (hT168 7).1).add (hT168 8)).add (hT168 9);obtain⟨v185,E,q187⟩:=adv E (hT168 10);obtain⟨v188,E,q190⟩:=adv E (hT168 11)
 refine spg E rfl rfl rfl rfl hd111 (yU E AR rfl rfl q187 q190 rfl) rfl λa E=>qT E hd111 rfl λa E=>ag ?_;exact⟨(decide (x115.fValue=x37)),h,_,hm163,hS,kut E⟩}}
 {
 have h:=aB hd111 h
 refine kch (k:=12) (m:=m73) (es:=[]) (Φ:=(λi m ws v=>match i with|0=>ei .i64 x75 v|1=>v=v22|2=>ei .i64 (x18.length:Int) v|3=>ei .i64 (Z1.wrap ((x18.length:Int) - 1)) v|4=>v=(.bool (x75==(Z1.wrap ((x18.length:Int) - 1))))|5=>v=(.bool (x75==(Z1.wrap ((x18.length:Int) - 1))))|6=>v=undef|7=>v=undef|8=>v=undef|9=>v=undef|10=>v=undef|11=>v=undef|_=>True)) (Q:=(λc m ws L' TL'=>match c with|0=>(b43,cs45)::(b21,cs19)::L=L'∧TL=TL'|_=>False)) (cs:=[⟨0,0,false,[(6,.int .i64 x75)]⟩,⟨0,0,false,[(3,v22)]⟩,⟨0,0,false,[]⟩,⟨0,0,false,[]⟩,⟨0,0,false,[]⟩,⟨0,0,false,[]⟩,⟨0,0,false,[(3,v22)]⟩,⟨0,0,false,[(6,.int .i64 x75)]⟩,⟨0,0,false,[]⟩,⟨0,0,false,[]⟩,⟨0,0,false,[]⟩,⟨0,0,false,[(5,pz b43)]⟩]) mixed E hS ⟨rfl,rfl⟩ rfl rfl (by kernel_rfl) ?_ ?_ ?_ ?_
 {
 intro i m_ m2_ ws v n_ q_
 iterate 12 (rcases i with _|i;exact q_)
 exact trivial}
 {
 intro c m_ m2_ ws L_ T_ n_ hq_
 match c,hq_ with
 |0,⟨e1_,e2_⟩=>exact⟨e1_,e2_⟩
 |_+1,hq_=>exact hq_.elim}
 {
 refine⟨?_,?_,?_,?_,?_,?_,?_,?_,?_,?_,?_,?_,trivial⟩
 {exact cmv λ_ _=>⟨rfl,hr76⟩}
 {exact cmv λ_ _=>rfl}
 {refine cp1 λ_ _ _ _ _ M' Q' Z' E' T'=>?_;obtain⟨rfl,rfl⟩:=Q';have E:=E'.add (T' 1);exact cq (mb (k:=cw) E rfl rfl underlying185 (hc20.mono (Z0 hm74 M'))) Z' ⟨rfl,(dK (GS.len (hc20.mono (Z0 hm74 M'))))⟩}
 {refine cp0 λ_ _ _ _ _ _ _ _ _ Z' E' T'=>?_;have E:=E'.add (T' 2).1;exact cq (aP E rfl rfl (dq rfl)) Z' ⟨rfl,(ak _ _)⟩}
 {refine cp0 λ_ _ _ _ _ _ _ _ _ Z' E' T'=>?_;have E:=(E'.add (T' 0).1).add (T' 3).1;exact cq (aP E rfl rfl gg) Z' rfl}
 {refine cp0 λ_ _ _ _ _ _ _ _ _ Z' E' T'=>?_;have E:=E'.add (T' 4);exact cq (iF E rfl) Z' rfl}
 {exact csk (gz hd111)}
 {exact csk (gz hd111)}
 {exact csk (gz hd111)}
 {exact csk (gz hd111)}
 {exact csk (gz hd111)}
 {exact csk (gz hd111)}}
 {intro ws_ L_ T_ m217 a w hl218 hm219 hq220 hS hd221 hn222 ho223 hT224;obtain rfl:=eh hl218;obtain⟨rfl,rfl⟩:=hq220;have E:=eof 12 [(3,v22),(5,pz b43),(6,.int .i64 x75),(7,v0),(8,.int .i64 (p0.length:Int)),(9,.int .i64 x16),(14,.int .i64 (x18.length:Int)),(15,.int .i64 x75),(16,.bool (decide (x75<(x18.length:Int)))),(17,.int .i64 x75)] hd221 hn222 ho223;have E:=((((((E.add (hT224 5)).add (hT224 6)).add (hT224 7)).add (hT224 8)).add (hT224 9)).add (hT224 10)).add (hT224 11);refine qX E hd111 λa E=>qF E hd111 rfl λa E=>ag ?_;exact⟨false,h,_,hm219,hS,kut E⟩}}}
 {
 rintro a w ⟨x85,h,m83,hm84,hS,E⟩;unfold gQ at h;refine kif E rfl (λhd87=>?_) (λhd87=>?_)
 {
 have h:=aA hd87 h;refine ae (ah (qM E rfl λa E=>qM E rfl λa E=>?_));obtain⟨j90,hj91,h⟩:=ob h;refine sp E (br (k:=cw) E rfl rfl underlying185 sizeOf187 (hc20.mono (Z0 hm74 hm84)) hj91 rfl) rfl λa E=>sp E (aM E AS rfl) rfl λa E=>?_;obtain⟨x95,hx96,h⟩:=ob h;refine st E (aC E hS ty3 rfl (i:=1) rfl (KY.R_drop (GS.elem (hc20.mono (Z0 hm74 hm84)) hx96))) rfl ?_;rintro v97 a _ ⟨rfl,hv94⟩ E;obtain⟨rfl,hr98⟩:=aG hv94;refine qB E rfl rfl (be rfl) λa E=>?_;obtain⟨j100,hj101,h⟩:=ob h
 refine sp E (br (k:=cw) E rfl rfl underlying185 sizeOf187 (hc20.mono (Z0 hm74 hm84)) hj101 rfl) rfl λa E=>sp E (aM E AS rfl) rfl λa E=>?_;obtain⟨x106,hx107,h⟩:=ob h;refine st0 E (ef (k:=cw) E hS ty3 AO (hc20.mono (Z0 hm74 hm84)) hx107 rfl rfl (aq (ak _ _)) (i:=1) rfl) ?_;rintro _ w ⟨cs104,hc105,hS⟩ E;refine ag ?_;refine cC rfl rfl ?_;have h:=bE h hb78;exact⟨(x18.set j100 ({ x106 with fMany:=Z1.wrap (x95.fMany+1) })),h,_,(Z0 hm74 hm84),cs104,b21,v22,hc105,(hS.pickL 2 [1] rfl rfl rfl),kut E⟩}
 {have h:=aB hd87 h;refine aQ (ah (qB E rfl rfl (be rfl) λa E=>qM E rfl λa E=>ag ?_));exact⟨Z1.wrap (x75+1),(Option.some.inj h).symm,_,(Z0 hm74 hm84),(ak _ _),hS,kut E⟩}}}
 {have h:=aB hd80 h;refine cC rfl rfl ?_;have h:=bE h hb78;exact⟨h,_,hm74,hS,kut E⟩}}}
 {
 rintro a w ⟨h,m51,hm52,hS,E⟩;unfold mq at h;refine ah (qM E rfl λa E=>?_);refine st E (aC E hS fh rfl (i:=0) rfl (aR (kAp.mono hm52 hc46))) rfl ?_;rintro v56 a _ ⟨rfl,hv55⟩ E;refine st E (jX (m:=m51) (k:=cw) (x0:=aS.zero) (xx:=(⟨1,x37⟩:aS)) (pl:=[(0,1),(1,4)]) (pv:=[(0,.int .i64 1),(1,v56)]) E rfl underlying187 rfl zeroValue187 F2 rfl (.cons rfl AO (aq (show inR .i64 1 from aw (by decide))) (.cons rfl ES hv55 .nil))) rfl ?_;rintro v58 a _ ⟨rfl,hv57⟩ E
 refine st E (fC (k:=cw) (xs:=[(⟨1,x37⟩:aS)]) (vs:=[v58]) E hS rfl underlying185 sizeOf187 zeroValue187 ⟨hv57,trivial⟩ rfl (by decide)) rfl ?_;rintro v62 a w ⟨m60,hm61,hS,hv59⟩ E;obtain⟨z63,hz64,h⟩:=ob h;refine st E (rj (k:=cw) (N:=2932031007402) E hS rfl rfl underlying185 JP (i:=1) rfl (hc20.mono (Z0 hm52 hm61)) (ql hS underlying185 hv59) hz64 rfl rfl) rfl ?_;rintro v71 a w ⟨b68,cs69,hc70,hS⟩ E;refine qA E rfl λa E=>ag ?_;exact⟨z63,h,_,(Z0 hm52 hm61),cs69,b68,v71,hc70,((hS.pickL 2 [1] rfl rfl rfl).pickT 1 [] rfl rfl rfl),kut E⟩}}
 {rintro a w ⟨x29,h,m27,hm28,cs30,b32,v33,hc31,hS,E⟩;unfold iY at h;refine ah (qB E rfl rfl (be rfl) λa E=>qM E rfl λa E=>ag ?_);exact⟨(Z1.wrap (x16+1),x29),(Option.some.inj h).symm,_,(Z0 hm15 hm28),cs30,b32,v33,(ak _ _),hc31,hS,kut E⟩}}
 {have h:=aB hd26 h;obtain⟨m247,hm248,hS,hv249⟩:=S.freeze hS hc20;refine cC rfl rfl ?_;have h:=bE h hb24;exact⟨x18,h,_,(Z0 hm15 hm248),v22,hv249,hS,kut E⟩}}}
 {
 rintro a w ⟨x8,h,m6,hm7,v9,hv10,hS,E⟩;unfold mp at h;refine ae (ah (qM E rfl λa E=>qA E rfl λa E=>ag (bA ?_)));obtain rfl:=oi h
 try dsimp only
 refine f1 E ?_;exact⟨_,hm7,hS,hv10⟩}
theorem Ok:Ctr Sz prog 146 [.rd (.sl (.st 32))] [.rd (.sl (.st 187))] (λx=>lH x.1):=by
 intro W0 m w L TL vs x r Lp Tp hS hP h;obtain⟨v0,vs,rfl,a0,hP0⟩:=kN hP;obtain⟨rfl,rfl,rfl⟩:=oL hP0;refine rm (BT (hS:=hS) a0 h) λv w' he=>?_;obtain⟨m',hm,Z',r0⟩:=he;exact⟨m',[v],[],[],[],hm,Z',rfl,⟨r0,trivial⟩,trivial⟩
def Ol:=mC Ok call146
theorem Om:Ctr Sz prog 158 [.rd (.sl (.st 32))] [.rd .bool] (fun x=>rE x.1):=
 ncR [DL] [2] func158 ntmps158 (.s .o (.s (.s .o (.b (.l ⟨[.v 7 1 (.dat (.int .i64) none)],[0,5,6],0,[]⟩ .o))) .o)) λx=>by kernel_rfl
def On:=mC Om call158
end
end Go.Proofs.YthbonoagbeilkaaGreat.Hay
