import Derived.Test.YthbonoagbeilkaaGreatHbkC1
import Derived.Test.YthbonoagbeilkaaGreatHbA
import Derived.Carry
import Derived.ChangeSame
import Derived.OpenShut
import Derived.JoinedCond
import Derived.Test.YthbonoagbeilkaaGreatRows
import Derived.Test.YthbonoagbeilkaaGreatHfB
set_option maxRecDepth 100000
set_option maxHeartbeats 4000000
set_option linter.unusedVariables false
namespace Go.Proofs.YthbonoagbeilkaaGreat.Hay
open Bool renaming eq_false_or_eq_true→Z2
open M.le renaming trans→Z0,refl→Z3
open IntKind renaming i64→Z1,u64→Z4,u32→Z5
open Go.Proofs Tryz
noncomputable section
variable {W0:Bse}{m:M}{w:World}{L:List (Nat×List Value)}{TL:List (Nat×Value)}{v0 v1 v2 v3 v4 v5 v6 v7 v8 v9:Value}
theorem De (hS:S W0 m w L TL) {p0}(e3:inR .i64 p0) {p1}(b2:RV (kSl (kSl kAp)) m v1 p1) {p2}(V1:inR .i64 p2) {r}(h:rg p0 p1 p2=some r):
    Calls prog 88 #[(.int .i64 p0),v1,(.int .i64 p2)] w (Ret λv w'=>∃m',M.le m m'/\S W0 m' w' L TL/\∃v0_ v1_:Value,v= .tuple #[v0_,v1_]/\RV (kSl aj) m' v0_ r.1/\RV cL m' v1_ r.2):=by
 refine kc func88 ntmps88 λa E=>?_;have E:Env 110 a [(0,.int .i64 p0),(1,v1),(2,.int .i64 p2)]:=E;unfold rg at h;refine ab (ak (qA E rfl λa E=>qA E rfl λa E=>ae (ab (ak (qA E rfl λa E=>ae (ab ?_))))));refine ab (ak (qA E rfl λa E=>ae ?_));refine cj (λa w=>∃x7:(List aa),qE x7=some r/\∃m',M.le m m'/\∃(v8:Value),RV (kSl aj) m' v8 x7/\S W0 m' w L ((4,v8)::TL)/\Env 110 a [(8,v8)]) ?_ ?_
 {
 refine bd ?_;refine eG h (λ(s:List aa×Int) a w=>∃m',M.le m m'/\∃(a0:Value),RV (kSl aj) m' a0 s.1/\inR .i64 s.2/\S W0 m' w L ((4,a0)::TL)/\Env 110 a [(0,.int .i64 p0),(1,v1),(2,.int .i64 p2),(8,a0),(9,.int .i64 s.2)]) ?_ ?_
 {exact⟨_,(Z3 _),(.slice none 0 0),cT,(show inR .i64 0 from au (by decide)),(hS.tail0 4),kut E⟩}
 {
 rintro ⟨b4,Z⟩ a w ⟨e1,a2,a0,g0,d0,hS,E⟩ r21 h hb22;have h:fN p0 p1 p2 b4 Z=some r21:=h;unfold fN at h;refine ab (ab (ak (qM E rfl λa E=>qM E rfl λa E=>qB E rfl rfl cl λa E=>ae (kif E rfl (λe9=>?_) (λe9=>?_)))))
 {
 have h:=aF e9 h;refine aV (ab ?_);refine cj (λa w=>∃c6:(List aa),nO Z c6=some r21/\∃m',M.le e1 m'/\∃(c0:Value),RV (kSl aj) m' c0 c6/\S W0 m' w L ((4,c0)::TL)/\Env 110 a [(0,.int .i64 p0),(1,v1),(2,.int .i64 p2),(8,c0),(9,.int .i64 Z)]) ?_ ?_
 {
 refine bd (ab (ak (sp E (kx E rfl underlying59 (pl:=[(0,2),(2,1),(3,1)]) rfl zeroValue59) rfl λa E=>?_)));refine st E (dv hS zeroValue59 rfl (cs:=Fd)) rfl ?_;rintro _ a w ⟨a1,rfl,hS⟩ E;refine st0 E (jd E hS tA rfl rfl rfl (zS _) (i:=0) rfl rfl) ?_;rintro _ w hS E;refine ae (ab (ab (ak (qA E rfl λa E=>ae ?_))))
 refine cj (λa w=>∃x46:aa,nQ p0 p1 b4 Z x46=some r21/\∃m',M.le e1 m'/\∃(a6:List Value),∃(b3:Value),aj.R m' a6 x46/\a6[2]? =some b3/\S W0 m' w ((a1,a6)::L) ((4,b3)::(4,a0)::TL)/\Env 110 a [(0,.int .i64 p0),(1,v1),(2,.int .i64 p2),(8,a0),(9,.int .i64 Z),(10,pz a1)]) ?_ ?_
 {
 refine bd ?_;refine eG h (λ(s:Int×aa) a w=>∃m',M.le e1 m'/\∃(b5:List Value),∃(b1:Value),inR .i64 s.1/\aj.R m' b5 s.2/\b5[2]? =some b1/\S W0 m' w ((a1,b5)::L) ((4,b1)::(4,a0)::TL)/\Env 110 a [(0,.int .i64 p0),(1,v1),(2,.int .i64 p2),(8,a0),(9,.int .i64 Z),(10,pz a1),(11,.int .i64 s.1)]) ?_ ?_
 {exact⟨_,(Z3 _),Fd,(.slice none 0 0),(show inR .i64 0 from au (by decide)),(zS _),rfl,(hS.tail0 4),kut E⟩}
 {
 rintro ⟨x314,x316⟩ a w ⟨l3,d1,b5,b1,q3,c3,f5,hS,E⟩ r321 h hb322;have h:lg p0 p1 b4 Z x314 x316=some r321:=h;unfold lg at h;refine ab (ab (ak (qM E rfl λa E=>qM E rfl λa E=>qB E rfl rfl cl λa E=>ae (kif E rfl (λe0=>?_) (λe0=>?_)))))
 {
 have h:=aF e0 h;refine aV (ab (bd ?_));obtain⟨c1,x9,b7,w5,h⟩:=ob2 h
 refine kch (k:=10) (m:=l3) (es:=[]) (Φ:=(λi m ws v=>match i with|0=>v=(.pointer (some ⟨a1,2,none⟩))|1=>v=b1|2=>v=v1|3=>ei .i64 x314 v|4=>PR (kSl kAp) m v c1|5=>RV (kSl kAp) m v c1|6=>ei .i64 Z v|7=>PR kAp m v b7|8=>RV kAp m v b7|9=>RV (kSl kAp) m v ([b7])|_=>True)) (Q:=(λc m ws L' f4=>match c with|0=>(a1,b5)::L=L'/\(4,b1)::(4,a0)::TL=f4|_=>False)) (cs:=[CQ [(10,pz a1)],CQ [],CQ [(1,v1)],CQ [(11,.int .i64 x314)],CQ [],CQ [],CQ [(9,.int .i64 Z)],CQ [],CQ [],CQ []]) mixed E hS ⟨rfl,rfl⟩ rfl rfl (by kernel_rfl) ?_ ?_ ?_ ?_
 {
 intro i m_ e7 ws v n_ q_
 iterate 10 (rcases i with _|i;first|exact q_|exact PR.mono q_ n_|exact RV.mono q_ n_)
 exact trivial}
 {
 intro c m_ e7 ws L_ T_ n_ b0
 match c,b0 with
 |0,⟨f3,f0⟩=>exact⟨f3,f0⟩
 |_+1,b0=>exact b0.elim}
 {
 refine⟨?_,?_,?_,?_,?_,?_,?_,?_,?_,?_,trivial⟩
 {refine cp0 λ_ _ _ _ _ _ _ _ _ J W _=>?_;exact cq (aH W tB rfl) J rfl}
 {refine cp1 λ_ _ _ _ _ M' Q' J W T'=>?_;obtain⟨rfl,rfl⟩:=Q';have E:=W.add (T' 0);exact cq (lq (k:=kAp) (xx:=x316.fRow) (v:=b1) E J nt rfl (i:=0) rfl (O9.R_drop (az (aj.mono M' c3))) f5) J rfl}
 {exact cmv λ_ _=>rfl}
 {exact cmv λ_ _=>⟨rfl,q3⟩}
 {refine cp0 λ_ _ _ _ _ _ _ M' _ J W T'=>?_;have E:=(W.add (T' 2)).add (T' 3).1;exact cr (bn (k:=(kSl kAp)) E rfl rfl underlying126 sizeOf22 (b2.mono (Z0 a2 (Z0 d1 M'))) x9) J λ_ h=>h}
 {
 refine cp0 λ_ _ _ m' a' _ _ _ _ J W T'=>?_;obtain⟨X0,i0,i8⟩:∃v,a'.tmps.getD 28 undef=v/\(PR (kSl kAp) m' v c1):=⟨_,rfl,T' 4⟩
 have E:=W.add (i0);exact cr (aO E J nt rfl i8) J λ_ h=>h}
 {exact cmv λ_ _=>⟨rfl,d0⟩}
 {
 refine cp0 λ_ _ _ m' a' _ _ _ _ J W T'=>?_;obtain⟨bx,r5,u0⟩:∃v,a'.tmps.getD 29 undef=v/\(RV (kSl kAp) m' v c1):=⟨_,rfl,T' 5⟩
 have E:=(W.add (r5)).add (T' 6).1;exact cr (bn (k:=kAp) E rfl rfl underlying22 sizeOf32 u0 w5) J λ_ h=>h}
 {
 refine cp0 λ_ _ _ m' a' _ _ _ _ J W T'=>?_;obtain⟨z5,h1,q6⟩:∃v,a'.tmps.getD 31 undef=v/\(PR kAp m' v b7):=⟨_,rfl,T' 7⟩
 have E:=W.add (h1);exact cr (aO E J eD rfl q6) J λ_ h=>h}
 {refine cp0 λ_ _ _ m' a' _ _ _ _ J W T'=>?_;obtain⟨p7,E,h7⟩:=adv W (T' 8);refine be.imp (f8 (k:=kAp) (xs:=[b7]) (vs:=[p7]) E J rfl underlying22 sizeOf32 zeroValue32 ⟨h7,trivial⟩ rfl (by decide)) ?_;rintro T1 w ⟨W9,r3,hS,o0⟩;exact⟨_,r3,(hS.dropT 1),o0⟩}}
 {
 intro w4 L_ T_ W6 a w h0 e8 x8 hS r9 t1 n4 g4;obtain rfl:=eH h0;obtain⟨rfl,rfl⟩:=x8;have E:=eof 10 [(0,.int .i64 p0),(1,v1),(2,.int .i64 p2),(8,a0),(9,.int .i64 Z),(10,pz a1),(11,.int .i64 x314),(19,.int .i64 x314),(20,.int .i64 p0),(21,.bool (decide (x314<p0)))] r9 t1 n4;have E:=E.add (g4 1);obtain⟨I2,E,o3⟩:=adv E (g4 9);obtain⟨u1,j5,h⟩:=ob h;refine st E (fF (k:=kAp) (N:=3518437208883) E hS rfl rfl underlying22 underlying22 B4 (i:=0) rfl ((rQ (k:=kAp) (O9.R_drop (az c3)) f5).mono e8) o3 j5 rfl rfl) rfl ?_
 rintro q7 a w ⟨df,f9,hS,j4⟩ E;refine sp E (aH E tB rfl) rfl λa E=>?_;refine st0 E (vC E hS nt E7 rfl rfl j4 (i:=0) rfl (aj.mono (Z0 e8 f9) c3)) ?_;rintro _ w ⟨n0,z1,s3,hS⟩ E;refine ae (ak (qM E rfl λa E=>qB E rfl rfl (br rfl) λa E=>qA E rfl λa E=>ae ?_));exact⟨(Z1.wrap (x314+1),{ x316 with fRow:=u1 }),(Option.some.inj h).symm,_,(Z0 d1 (Z0 e8 f9)),n0,q7,(aA _ _),z1,s3,hS,kut E⟩}}
 {have h:=aG e0 h;refine d4 rfl rfl ?_;have h:=bY h hb322;exact⟨x316,h,_,d1,b5,b1,c3,f5,hS,kut E⟩}}}
 {
 rintro a w ⟨x46,h,g1,a3,a6,b3,j0,n1,hS,E⟩;unfold nQ at h;refine ab (ab (ak (qM E rfl λa E=>qA E rfl λa E=>ae ?_)));refine cj (λa w=>nP p0 p1 b4 Z x46=some r21/\∃m',M.le g1 m'/\S W0 m' w ((a1,a6)::L) ((4,b3)::(4,a0)::TL)/\Env 110 a [(0,.int .i64 p0),(1,v1),(2,.int .i64 p2),(8,a0),(9,.int .i64 Z),(10,pz a1)]) ?_ ?_
 {
 refine bd ?_;refine eG h (λ(s:Int) a w=>∃m',M.le g1 m'/\inR .i64 s/\S W0 m' w ((a1,a6)::L) ((4,b3)::(4,a0)::TL)/\Env 110 a [(0,.int .i64 p0),(1,v1),(2,.int .i64 p2),(8,a0),(9,.int .i64 Z),(10,pz a1),(12,.int .i64 s)]) ?_ ?_
 {exact⟨_,(Z3 _),e3,hS,kut E⟩}
 {
 rintro c7 a w ⟨u8,b6,W7,hS,E⟩ r251 h hb252;have h:fM p0 p1 b4 Z x46 c7=some r251:=h;unfold fM at h;refine ab (ab (ak (qM E rfl λa E=>qM E rfl λa E=>qB E rfl rfl (br rfl) λa E=>qB E rfl rfl cl λa E=>ae (kif E rfl (λe6=>?_) (λe6=>?_)))))
 {
 have h:=aF e6 h;refine aV (ab (bd (ab ?_)));refine cj (λa w=>∃e4:Bool,lf c7 e4=some r251/\∃m',M.le u8 m'/\S W0 m' w ((a1,a6)::L) ((4,b3)::(4,a0)::TL)/\Env 110 a [(0,.int .i64 p0),(1,v1),(2,.int .i64 p2),(8,a0),(9,.int .i64 Z),(10,pz a1),(12,.int .i64 c7),(62,.bool e4)]) ?_ ?_
 {
 refine ak (qM E rfl λa E=>qM E rfl λa E=>?_);obtain⟨T2,y1,h⟩:=ob h;refine st E (bn (k:=(kSl kAp)) E rfl rfl underlying126 sizeOf22 (b2.mono (Z0 a2 (Z0 a3 b6))) y1) rfl ?_;rintro ao a _ ⟨rfl,r7⟩ E;refine st E (aO E hS nt rfl r7) rfl ?_;rintro z4 a _ ⟨rfl,m3⟩ E;refine qM E rfl λa E=>?_;obtain⟨u2,m2,h⟩:=ob h;refine st E (bn (k:=kAp) E rfl rfl underlying22 sizeOf32 m3 m2) rfl ?_;rintro bs a _ ⟨rfl,p3⟩ E;refine st E (fc E A7 Jb rfl p3) rfl ?_;rintro W5 a _ ⟨rfl,i3⟩ E;refine st E (aO E hS ty3 rfl i3) rfl ?_
 rintro ca a _ ⟨rfl,m8⟩ E;obtain⟨rfl,V2⟩:=aJ m8;refine qB E rfl rfl jF λa E=>qM E rfl λa E=>?_;rcases Z2 (u2.fKind != 2) with hd289|hd289
 {have h:=aF hd289 h;refine qX E hd289 λa E=>qX E hd289 λa E=>qX E hd289 λa E=>qX E hd289 λa E=>qX E hd289 λa E=>qX E hd289 λa E=>qX E hd289 λa E=>qX E hd289 λa E=>qX E hd289 λa E=>qT E hd289 rfl λa E=>?_;refine ae ?_;exact⟨true,h,_,(Z3 _),hS,kut E⟩}
 {
 have h:=aG hd289 h;refine qG E hd289 rfl λa E=>qG E hd289 rfl λa E=>?_;obtain⟨U1,q2,h⟩:=ob h;refine stg E rfl rfl rfl rfl hd289 (bn (k:=(kSl kAp)) E rfl rfl underlying126 sizeOf22 (b2.mono (Z0 a2 (Z0 a3 b6))) q2) rfl ?_;rintro W2 a _ ⟨rfl,p6⟩ E;refine stg E rfl rfl rfl rfl hd289 (aO E hS nt rfl p6) rfl ?_;rintro ch a _ ⟨rfl,h3⟩ E;refine qG E hd289 rfl λa E=>?_;obtain⟨w1,h6,h⟩:=ob h;refine stg E rfl rfl rfl rfl hd289 (bn (k:=kAp) E rfl rfl underlying22 sizeOf32 h3 h6) rfl ?_;rintro X1 a _ ⟨rfl,y3⟩ E
 refine stg E rfl rfl rfl rfl hd289 (fc E nr vm rfl y3) rfl ?_;rintro an a _ ⟨rfl,h4⟩ E;refine stg E rfl rfl rfl rfl hd289 (aO E hS ty2 rfl h4) rfl ?_;rintro bt a _ ⟨rfl,x1⟩ E;obtain⟨rfl,de⟩:=aJ x1;refine spg E rfl rfl rfl rfl hd289 (a7 E rfl rfl cl) rfl λa E=>qF E hd289 rfl λa E=>ae ?_;exact⟨(decide (w1.fInt<0)),h,_,(Z3 _),hS,kut E⟩}}
 {
 rintro a w ⟨e4,h,ba,g3,hS,E⟩;unfold lf at h;refine kif E rfl (λe5=>?_) (λe5=>?_)
 {
 have h:=aF e5 h;refine ab (ak (qA E rfl λa E=>qA E rfl λa E=>ae (bD ?_)));have h:=bY h hb252;have h:=bY h hb22;obtain rfl:=oi h
 try dsimp only
 refine f2 E ?_;exact⟨_,(Z0 a2 (Z0 a3 (Z0 b6 g3))),((hS.dropL 1).dropT 2),_,_,rfl,cT,dT⟩}
 {have h:=aG e5 h;refine aV (ak (qM E rfl λa E=>qB E rfl rfl (br rfl) λa E=>qA E rfl λa E=>ae ?_));exact⟨Z1.wrap (c7+1),(Option.some.inj h).symm,_,(Z0 b6 g3),(aA _ _),hS,kut E⟩}}}
 {have h:=aG e6 h;refine d4 rfl rfl ?_;have h:=bY h hb252;exact⟨h,_,b6,hS,kut E⟩}}}
 {
 rintro a w ⟨h,k7,a9,hS,E⟩;unfold nP at h;refine ab (ab (ak (qM E rfl λa E=>qM E rfl λa E=>qB E rfl rfl (br rfl) λa E=>?_)));obtain⟨z8,x3,h⟩:=ob h;refine st E (bn (k:=(kSl kAp)) E rfl rfl underlying126 sizeOf22 (b2.mono (Z0 a2 (Z0 a3 a9))) x3) rfl ?_;rintro s2 a _ ⟨rfl,q0⟩ E;refine st E (aO E hS nt rfl q0) rfl ?_;rintro q1 a _ ⟨rfl,o2⟩ E;refine qM E rfl λa E=>?_;obtain⟨f6,r0,h⟩:=ob h;refine st E (bn (k:=kAp) E rfl rfl underlying22 sizeOf32 o2 r0) rfl ?_;rintro y2 a _ ⟨rfl,h8⟩ E;refine st E (fc E nr vm rfl h8) rfl ?_
 rintro w2 a _ ⟨rfl,i4⟩ E;refine st E (aO E hS ty2 rfl i4) rfl ?_;rintro ad a _ ⟨rfl,s1⟩ E;obtain⟨rfl,co⟩:=aJ s1;refine qB E rfl rfl kL λa E=>ae (kif E rfl (λd2=>?_) (λd2=>?_))
 {
 have h:=aF d2 h;refine ab (ak (qA E rfl λa E=>qA E rfl λa E=>ae (bD ?_)));have h:=bY h hb22;obtain rfl:=oi h
 try dsimp only
 refine f2 E ?_;exact⟨_,(Z0 a2 (Z0 a3 a9)),((hS.dropL 1).dropT 2),_,_,rfl,cT,dT⟩}
 {
 have h:=aG d2 h;refine aV (ab ?_);obtain⟨c2,n3,a4,g7,h⟩:=ob2 h;obtain⟨c4,n6,a5,r2,h⟩:=ob2 h
 refine kch (k:=19) (m:=k7) (es:=[]) (Φ:=(λi m ws v=>match i with|0=>v=v1|1=>ei .i64 p0 v|2=>PR (kSl kAp) m v c2|3=>RV (kSl kAp) m v c2|4=>ei .i64 Z v|5=>PR kAp m v a4|6=>PR (ag .i64) m v a4.fInt|7=>ei .i64 a4.fInt v|8=>ei .u64 (Z4.wrap a4.fInt) v|9=>v=v1|10=>ei .i64 p0 v|11=>ei .i64 (Z1.wrap (p0+1)) v|12=>PR (kSl kAp) m v c4|13=>RV (kSl kAp) m v c4|14=>ei .i64 Z v|15=>PR kAp m v a5|16=>PR (ag .i64) m v a5.fInt|17=>ei .i64 a5.fInt v|18=>ei .u32 (Z5.wrap a5.fInt) v|_=>True)) (Q:=(λc m ws L' f4=>match c with|0=>(a1,a6)::L=L'/\(4,b3)::(4,a0)::TL=f4|_=>False)) (cs:=[CQ [(1,v1)],CQ [(0,.int .i64 p0)],CQ [],CQ [],CQ [(9,.int .i64 Z)],CQ [],CQ [],CQ [],CQ [],CQ [(1,v1)],CQ [(0,.int .i64 p0)],CQ [],CQ [],CQ [],CQ [(9,.int .i64 Z)],CQ [],CQ [],CQ [],CQ []]) mixed E hS ⟨rfl,rfl⟩ rfl rfl (by kernel_rfl) ?_ ?_ ?_ ?_
 {
 intro i m_ e7 ws v n_ q_
 iterate 19 (rcases i with _|i;first|exact q_|exact PR.mono q_ n_|exact RV.mono q_ n_)
 exact trivial}
 {
 intro c m_ e7 ws L_ T_ n_ b0
 match c,b0 with
 |0,⟨f3,f0⟩=>exact⟨f3,f0⟩
 |_+1,b0=>exact b0.elim}
 {
 refine⟨?_,?_,?_,?_,?_,?_,?_,?_,?_,?_,?_,?_,?_,?_,?_,?_,?_,?_,?_,trivial⟩
 {exact cmv λ_ _=>rfl}
 {exact cmv λ_ _=>⟨rfl,e3⟩}
 {refine cp0 λ_ _ _ _ _ _ _ M' _ J W T'=>?_;have E:=(W.add (T' 0)).add (T' 1).1;exact cr (bn (k:=(kSl kAp)) E rfl rfl underlying126 sizeOf22 (b2.mono (Z0 a2 (Z0 a3 (Z0 a9 M')))) n3) J λ_ h=>h}
 {
 refine cp0 λ_ _ _ m' a' _ _ _ _ J W T'=>?_;obtain⟨ap,o1,j1⟩:∃v,a'.tmps.getD 75 undef=v/\(PR (kSl kAp) m' v c2):=⟨_,rfl,T' 2⟩
 have E:=W.add (o1);exact cr (aO E J nt rfl j1) J λ_ h=>h}
 {exact cmv λ_ _=>⟨rfl,d0⟩}
 {
 refine cp0 λ_ _ _ m' a' _ _ _ _ J W T'=>?_;obtain⟨L1,m6,h9⟩:∃v,a'.tmps.getD 76 undef=v/\(RV (kSl kAp) m' v c2):=⟨_,rfl,T' 3⟩
 have E:=(W.add (m6)).add (T' 4).1;exact cr (bn (k:=kAp) E rfl rfl underlying22 sizeOf32 h9 g7) J λ_ h=>h}
 {
 refine cp0 λ_ _ _ m' a' _ _ _ _ J W T'=>?_;obtain⟨bu,w0,i1⟩:∃v,a'.tmps.getD 78 undef=v/\(PR kAp m' v a4):=⟨_,rfl,T' 5⟩
 have E:=W.add (w0);exact cr (fc E nr vm rfl i1) J λ_ h=>h}
 {
 refine cp0 λ_ _ _ m' a' _ _ _ _ J W T'=>?_;obtain⟨U2,r6,h5⟩:∃v,a'.tmps.getD 79 undef=v/\(PR (ag .i64) m' v a4.fInt):=⟨_,rfl,T' 6⟩
 have E:=W.add (r6);exact cr (aO E J ty2 rfl h5) J λ_ h=>aJ h}
 {refine cp0 λ_ _ _ _ _ _ _ _ _ J W T'=>?_;have E:=W.add (T' 7).1;exact cq (dw E rfl underlying2 underlying54 rfl) J ⟨rfl,(aA _ _)⟩}
 {exact cmv λ_ _=>rfl}
 {exact cmv λ_ _=>⟨rfl,e3⟩}
 {refine cp0 λ_ _ _ _ _ _ _ _ _ J W T'=>?_;have E:=W.add (T' 10).1;exact cq (a7 E rfl rfl (br rfl)) J ⟨rfl,(aA _ _)⟩}
 {refine cp0 λ_ _ _ _ _ _ _ M' _ J W T'=>?_;have E:=(W.add (T' 9)).add (T' 11).1;exact cr (bn (k:=(kSl kAp)) E rfl rfl underlying126 sizeOf22 (b2.mono (Z0 a2 (Z0 a3 (Z0 a9 M')))) n6) J λ_ h=>h}
 {
 refine cp0 λ_ _ _ m' a' _ _ _ _ J W T'=>?_;obtain⟨al,t9,t5⟩:∃v,a'.tmps.getD 85 undef=v/\(PR (kSl kAp) m' v c4):=⟨_,rfl,T' 12⟩
 have E:=W.add (t9);exact cr (aO E J nt rfl t5) J λ_ h=>h}
 {exact cmv λ_ _=>⟨rfl,d0⟩}
 {
 refine cp0 λ_ _ _ m' a' _ _ _ _ J W T'=>?_;obtain⟨z9,q5,h2⟩:∃v,a'.tmps.getD 86 undef=v/\(RV (kSl kAp) m' v c4):=⟨_,rfl,T' 13⟩
 have E:=(W.add (q5)).add (T' 14).1;exact cr (bn (k:=kAp) E rfl rfl underlying22 sizeOf32 h2 r2) J λ_ h=>h}
 {
 refine cp0 λ_ _ _ m' a' _ _ _ _ J W T'=>?_;obtain⟨cv,q4,k3⟩:∃v,a'.tmps.getD 88 undef=v/\(PR kAp m' v a5):=⟨_,rfl,T' 15⟩
 have E:=W.add (q4);exact cr (fc E nr vm rfl k3) J λ_ h=>h}
 {
 refine cp0 λ_ _ _ m' a' _ _ _ _ J W T'=>?_;obtain⟨af,y0,y4⟩:∃v,a'.tmps.getD 89 undef=v/\(PR (ag .i64) m' v a5.fInt):=⟨_,rfl,T' 16⟩
 have E:=W.add (y0);exact cr (aO E J ty2 rfl y4) J λ_ h=>aJ h}
 {refine cp0 λ_ _ _ _ _ _ _ _ _ J W T'=>?_;have E:=W.add (T' 17).1;exact cq (dw E rfl underlying2 underlying55 rfl) J ⟨rfl,(aA _ _)⟩}}
 {
 intro w4 L_ T_ p8 a w s4 c5 z0 hS z3 r8 r1 g5;obtain rfl:=eH s4;obtain⟨rfl,rfl⟩:=z0;have E:=eof 19 [(0,.int .i64 p0),(1,v1),(2,.int .i64 p2),(8,a0),(9,.int .i64 Z),(10,pz a1),(63,v1),(64,.int .i64 p0),(65,.int .i64 (Z1.wrap (p0+1))),(66,s2),(67,q1),(68,.int .i64 Z),(69,y2),(70,w2),(71,.int .i64 f6.fInt),(72,.bool (decide (4294967295<f6.fInt)))] z3 r8 r1;obtain⟨m1,r4⟩:=g5 8;have E:=E.add m1;obtain⟨p4,m9⟩:=g5 18;have E:=E.add p4
 refine st E (sE (m:=p8) (k:=bO) (x0:=aM.zero) (xx:=(⟨Z4.wrap a4.fInt,Z5.wrap a5.fInt⟩:aM)) (pl:=[(0,1),(1,1)]) (pv:=[(0,.int .u64 (Z4.wrap a4.fInt)),(1,.int .u32 (Z5.wrap a5.fInt))]) E rfl underlying57 rfl zeroValue57 Ll rfl (.cons rfl E5 (aq r4) (.cons rfl E6 (aq m9) .nil))) rfl ?_;rintro bc a _ ⟨rfl,l1⟩ E;refine sp E (aH E qi rfl) rfl λa E=>?_;refine st0 E (tN E hS yb A6 rfl rfl l1 (i:=0) rfl (aj.mono (Z0 a9 c5) j0)) ?_;rintro _ w ⟨bb,t3,g8,hS⟩ E;have w3:=g8 2 _ n1 (by decide)
 refine ae (ab (ak (qM E rfl λa E=>qM E rfl λa E=>qB E rfl rfl (br rfl) λa E=>?_)));obtain⟨ar,k0,h⟩:=ob h;refine st E (bn (k:=(kSl kAp)) E rfl rfl underlying126 sizeOf22 (b2.mono (Z0 a2 (Z0 a3 (Z0 a9 c5)))) k0) rfl ?_;rintro av a _ ⟨rfl,g6⟩ E;refine st E (aO E hS nt rfl g6) rfl ?_;rintro bo a _ ⟨rfl,j2⟩ E;refine qM E rfl λa E=>?_;obtain⟨i5,i2,h⟩:=ob h;refine st E (bn (k:=kAp) E rfl rfl underlying22 sizeOf32 j2 i2) rfl ?_;rintro B0 a _ ⟨rfl,l4⟩ E;refine st E (fc E nr vm rfl l4) rfl ?_;rintro W1 a _ ⟨rfl,m4⟩ E
 refine st E (aO E hS ty2 rfl m4) rfl ?_;rintro D6 a _ ⟨rfl,j3⟩ E;obtain⟨rfl,X2⟩:=aJ j3;refine sp E (dw E rfl underlying2 underlying54 rfl) rfl λa E=>sp E (aH E Fe rfl) rfl λa E=>?_;refine st0 E (tN E hS Lh E8 rfl rfl (aq (aA _ _)) (i:=0) rfl t3) ?_;rintro _ w ⟨cn,k5,n2,hS⟩ E;have W8:=n2 2 _ w3 (by decide);refine ae (ak (qM E rfl λa E=>?_));refine st E (aK E hS tA rfl (i:=0) rfl (az k5)) rfl ?_;rintro k4 a _ ⟨rfl,w6⟩ E
 refine st E (f8 (k:=aj) (xs:=[{ { x46 with fId:=(⟨Z4.wrap a4.fInt,Z5.wrap a5.fInt⟩:aM) } with fDeleted:=Z4.wrap i5.fInt }]) (vs:=[k4]) E hS rfl underlying50 sizeOf59 zeroValue59 ⟨w6,trivial⟩ rfl (by decide)) rfl ?_;rintro bl a w ⟨bk,g2,hS,x2⟩ E;obtain⟨t0,x5,h⟩:=ob h;refine st E (fF (k:=aj) (N:=2932031007402) E hS rfl rfl underlying50 underlying50 Lj (i:=2) rfl (g0.mono (Z0 a3 (Z0 a9 (Z0 c5 g2)))) x2 x5 rfl rfl) rfl ?_;rintro m7 a w ⟨ac,k6,hS,l2⟩ E;refine qA E rfl λa E=>ae ?_
 exact⟨t0,h,_,(Z0 a3 (Z0 a9 (Z0 c5 (Z0 g2 k6)))),m7,l2,((hS.pickL 1 [] rfl rfl rfl).pickT 3 [2] rfl rfl rfl),kut E⟩}}}}}
 {rintro a w ⟨c6,h,bi,x4,c0,g9,hS,E⟩;unfold nO at h;refine ak (qM E rfl λa E=>qB E rfl rfl (br rfl) λa E=>qA E rfl λa E=>ae ?_);exact⟨(c6,Z1.wrap (Z+1)),(Option.some.inj h).symm,_,(Z0 a2 x4),c0,g9,(aA _ _),hS,kut E⟩}}
 {have h:=aG e9 h;refine d4 rfl rfl ?_;have h:=bY h hb22;exact⟨b4,h,_,a2,a0,g0,hS,kut E⟩}}}
 {
 rintro a w ⟨x7,h,m5,p5,v8,t4,hS,E⟩;unfold qE at h;refine ab (ak (qM E rfl λa E=>qA E rfl λa E=>qA E rfl λa E=>ae (bD ?_)));obtain rfl:=oi h
 try dsimp only
 refine f2 E ?_;exact⟨_,p5,(hS.dropT 1),_,_,rfl,t4,dT⟩}
theorem Uz:Ctr Sz prog 41 [.rd (.sl (.int .i64)),.rd (.sl (.st 32))] [.ap (.st 32)] (λx=>xH x.1 x.2.1):=
 ncR [] [4] func41 ntmps41 (.s .o (.s .o (.s (.s .o (.b (.l ⟨[.v 5 1 (.dat (.sl (.st 32)) (some 0)),.v 6 1 (.dat (.int .i64) none)],[0,1],0,[4]⟩ .o))) .o))) λx=>by kernel_rfl
def UA:=mC Uz call41
theorem UB:Ctr Sz prog 40 [.rd (.sl (.st 32)),.rd (.sl (.st 32))] [.rd (.int .i64)] (λx=>yB x.1 x.2.1):=
 ncR [HC] [4] func40 ntmps40 (.s .o (.s (.s .o (.b (.l ⟨[.v 5 1 (.dat (.int .i64) none)],[0,1],0,[]⟩ .o))) .o)) λx=>by kernel_rfl
def UC:=mC UB call40
theorem SA:Ctr Sz prog 131 [.rd (.st 57),.rd (.st 57)] [.rd .bool] (λx=>t8 x.1 x.2.1):=
 ncR [] [4] func131 ntmps131 .o λx=>by kernel_rfl
def SB:=mC SA call131
theorem UD:Ctr Sz prog 72 [.rd (.sl (.int .i64)),.rd (.st 59),.rd (.st 59)] [.rd .bool] (λx=>ry x.1 x.2.1 x.2.2.1):=
 ncR [UC,UA,SB] [6] func72 ntmps72 .o λx=>by kernel_rfl
theorem FP (hS:S W0 m w L TL) {p0}(a0:RV (kSl (ag .i64)) m v0 p0) {p1}(Z:RV aj m v1 p1) {p2}(J:RV aj m v2 p2) {r}(h:ry p0 p1 p2=some r):
    Calls prog 72 #[v0,v1,v2] w (Ret λv w'=>∃m',M.le m m'/\S W0 m' w' L TL/\RV cL m' v r):=by
 refine rm (UD W0 m w L TL [v0,v1,v2] (p0,p1,p2,()) r [] [] hS ⟨a0,⟨Z,⟨J,trivial⟩⟩⟩ h) λv w' he=>?_;obtain⟨m',us,Lr,Lq,Tr,hm,Z',rfl,hR,hO⟩:=he;obtain⟨u0,us,rfl,r0,W⟩:=cM hR;obtain⟨rfl,rfl,rfl⟩:=b9 W;have a3:=bp hO;have a2:=bp a3;have a1:=bp a2;obtain rfl:=cc a1;exact⟨m',hm,Z',r0⟩
theorem JD (hS:S W0 m w L TL) {p0}(a2:RV (kSl (ag .u8)) m v0 p0) {r}(h:lh p0=some r):
    Calls prog 34 #[v0] w (Ret λv w'=>∃m',M.le m m'/\S W0 m' w' L TL/\∃v0_ v1_:Value,v= .tuple #[v0_,v1_]/\RV jE m' v0_ r.1/\RV (ag .i64) m' v1_ r.2):=by
 refine kc func34 ntmps34 λa E=>?_;have E:Env 216 a [(0,v0)]:=E;unfold lh at h;refine ab (ak ?_);refine st E (dv hS zeroValue70 rfl (cs:=ov)) rfl ?_;rintro _ a w ⟨b1,rfl,hS⟩ E;refine qA E rfl λa E=>ae (ab (ab ?_));refine cj (λa w=>∃x6:Bool,ir p0 x6=some r/\∃m',M.le m m'/\S W0 m' w ((b1,ov)::L) (TL)/\Env 216 a [(0,v0),(2,pz b1),(44,.bool x6)]) ?_ ?_
 {
 refine ak (qM E rfl λa E=>sp E (bh (k:=(ag .u8)) E rfl rfl underlying24 a2) rfl λa E=>qB E rfl rfl cl λa E=>qM E rfl λa E=>?_);rcases Z2 (decide ((p0.length:Int)<14)) with hd587|hd587
 {have h:=aF hd587 h;refine qX E hd587 λa E=>qX E hd587 λa E=>qX E hd587 λa E=>qX E hd587 λa E=>qT E hd587 rfl λa E=>qM E rfl λa E=>qX E rfl λa E=>qX E rfl λa E=>qX E rfl λa E=>qX E rfl λa E=>?_;refine qT E rfl rfl λa E=>qM E rfl λa E=>qX E rfl λa E=>qX E rfl λa E=>qX E rfl λa E=>qX E rfl λa E=>qT E rfl rfl λa E=>qM E rfl λa E=>qX E rfl λa E=>qX E rfl λa E=>?_;refine qX E rfl λa E=>qX E rfl λa E=>qT E rfl rfl λa E=>ae ?_;exact⟨true,h,_,(Z3 _),hS,kut E⟩}
 {
 have h:=aG hd587 h;refine qG E hd587 rfl λa E=>?_;obtain⟨z1,ac,h⟩:=ob h;refine stg E rfl rfl rfl rfl hd587 (bn (k:=(ag .u8)) E rfl rfl underlying24 sizeOf5 a2 ac) rfl ?_;rintro fx a _ ⟨rfl,q3⟩ E;refine stg E rfl rfl rfl rfl hd587 (aO E hS ty5 rfl q3) rfl ?_;rintro hl a _ ⟨rfl,o3⟩ E;obtain⟨rfl,el⟩:=aJ o3;refine spg E rfl rfl rfl rfl hd587 (a7 E rfl rfl jF) rfl λa E=>qF E hd587 rfl λa E=>qM E rfl λa E=>?_;rcases Z2 (z1 != 72) with hd606|hd606
 {have h:=aF hd606 h;refine qX E hd606 λa E=>qX E hd606 λa E=>qX E hd606 λa E=>qX E hd606 λa E=>qT E hd606 rfl λa E=>qM E rfl λa E=>qX E rfl λa E=>qX E rfl λa E=>qX E rfl λa E=>qX E rfl λa E=>?_;refine qT E rfl rfl λa E=>qM E rfl λa E=>qX E rfl λa E=>qX E rfl λa E=>qX E rfl λa E=>qX E rfl λa E=>qT E rfl rfl λa E=>ae ?_;exact⟨true,h,_,(Z3 _),hS,kut E⟩}
 {
 have h:=aG hd606 h;refine qG E hd606 rfl λa E=>?_;obtain⟨bc,bx,h⟩:=ob h;refine stg E rfl rfl rfl rfl hd606 (bn (k:=(ag .u8)) E rfl rfl underlying24 sizeOf5 a2 bx) rfl ?_;rintro li a _ ⟨rfl,o1⟩ E;refine stg E rfl rfl rfl rfl hd606 (aO E hS ty5 rfl o1) rfl ?_;rintro kz a _ ⟨rfl,t4⟩ E;obtain⟨rfl,ho⟩:=aJ t4;refine spg E rfl rfl rfl rfl hd606 (a7 E rfl rfl jF) rfl λa E=>qF E hd606 rfl λa E=>qM E rfl λa E=>?_;rcases Z2 (bc != 65) with hd623|hd623
 {have h:=aF hd623 h;refine qX E hd623 λa E=>qX E hd623 λa E=>qX E hd623 λa E=>qX E hd623 λa E=>qT E hd623 rfl λa E=>qM E rfl λa E=>qX E rfl λa E=>qX E rfl λa E=>qX E rfl λa E=>qX E rfl λa E=>?_;refine qT E rfl rfl λa E=>ae ?_;exact⟨true,h,_,(Z3 _),hS,kut E⟩}
 {
 have h:=aG hd623 h;refine qG E hd623 rfl λa E=>?_;obtain⟨n2,bl,h⟩:=ob h;refine stg E rfl rfl rfl rfl hd623 (bn (k:=(ag .u8)) E rfl rfl underlying24 sizeOf5 a2 bl) rfl ?_;rintro mv a _ ⟨rfl,z4⟩ E;refine stg E rfl rfl rfl rfl hd623 (aO E hS ty5 rfl z4) rfl ?_;rintro fr a _ ⟨rfl,r7⟩ E;obtain⟨rfl,eq⟩:=aJ r7;refine spg E rfl rfl rfl rfl hd623 (a7 E rfl rfl jF) rfl λa E=>qF E hd623 rfl λa E=>qM E rfl λa E=>?_;rcases Z2 (n2 != 89) with hd638|hd638
 {have h:=aF hd638 h;refine qX E hd638 λa E=>qX E hd638 λa E=>qX E hd638 λa E=>qX E hd638 λa E=>qT E hd638 rfl λa E=>ae ?_;exact⟨true,h,_,(Z3 _),hS,kut E⟩}
 {have h:=aG hd638 h;refine qG E hd638 rfl λa E=>?_;obtain⟨o0,q1,h⟩:=ob h;refine stg E rfl rfl rfl rfl hd638 (bn (k:=(ag .u8)) E rfl rfl underlying24 sizeOf5 a2 q1) rfl ?_;rintro hy a _ ⟨rfl,s3⟩ E;refine stg E rfl rfl rfl rfl hd638 (aO E hS ty5 rfl s3) rfl ?_;rintro ls a _ ⟨rfl,dk⟩ E;obtain⟨rfl,gy⟩:=aJ dk;refine spg E rfl rfl rfl rfl hd638 (a7 E rfl rfl jF) rfl λa E=>qF E hd638 rfl λa E=>ae ?_;exact⟨(o0 != 49),h,_,(Z3 _),hS,kut E⟩}}}}}
 {
 rintro a w ⟨x6,h,m4,a0,hS,E⟩;unfold ir at h;refine kif E rfl (λg8=>?_) (λg8=>?_)
 {
 have h:=aF g8 h;refine ab (ak (sp E (kx E rfl underlying70 (pl:=[(0,1),(1,1),(2,1)]) rfl zeroValue70) rfl λa E=>?_));refine st0 E (jd E hS kK rfl rfl rfl (gv _) (i:=0) rfl rfl) ?_;rintro _ w hS E;refine qA E rfl λa E=>ae (bD ?_);obtain rfl:=oi h
 try dsimp only
 refine Fin.mk E (rs:=[.cell 2 70,.tmp 3]) rfl (sD.cell E hS kK rfl (i:=0) rfl (az (gv _)) (sD.tmp E rfl sD.nil)) ?_;exact⟨_,a0,(hS.dropL 1),_,_,rfl,(kQ (az (gv _))),(aq (show inR .i64 80 from au (by decide)))⟩}
 {
 have h:=aG g8 h;refine aV (ab (ak (qM E rfl λa E=>sp E (bh (k:=(ag .u8)) E rfl rfl underlying24 (a2.mono a0)) rfl λa E=>qB E rfl rfl (iV rfl) λa E=>qA E rfl λa E=>ae (ab (ab ?_)))));obtain⟨x4,y2,w2,q7,h⟩:=ob2 h;obtain⟨V1,o2,h⟩:=ob h
 refine kch (k:=7) (m:=m4) (es:=[]) (Φ:=(λi m ws v=>match i with|0=>v=v0|1=>ei .i64 (Z1.wrap ((p0.length:Int) - 4)) v|2=>RV (kSl (ag .u8)) m v x4|3=>ei .u64 w2 v|4=>v=v0|5=>ei .i64 (Z1.wrap ((p0.length:Int) - 4)) v|6=>RV (kSl (ag .u8)) m v V1|_=>True)) (Q:=(λc m ws L' f0=>match c with|0=>(b1,ov)::L=L'/\TL=f0|_=>False)) (cs:=[CQ [(0,v0)],CQ [(4,.int .i64 (Z1.wrap ((p0.length:Int) - 4)))],CQ [],CQ [],CQ [(0,v0)],CQ [(4,.int .i64 (Z1.wrap ((p0.length:Int) - 4)))],CQ []]) mixed E hS ⟨rfl,rfl⟩ rfl rfl (by kernel_rfl) ?_ ?_ ?_ ?_
 {
 intro i m_ e6 ws v n_ q_
 iterate 7 (rcases i with _|i;first|exact q_|exact RV.mono q_ n_)
 exact trivial}
 {
 intro c m_ e6 ws L_ T_ n_ a9
 match c,a9 with
 |0,⟨e8,e7⟩=>exact⟨e8,e7⟩
 |_+1,a9=>exact a9.elim}
 {
 refine⟨?_,?_,?_,?_,?_,?_,?_,trivial⟩
 {exact cmv λ_ _=>rfl}
 {exact cmv λ_ _=>⟨rfl,(aA _ _)⟩}
 {refine cp0 λ_ _ _ _ _ _ _ M' _ J W T'=>?_;have E:=(W.add (T' 0)).add (T' 1).1;exact cr (cS (k:=(ag .u8)) E rfl underlying24 sizeOf5 (a2.mono (Z0 a0 M')) ⟨_,rfl⟩ rfl y2 (xl:=(some (.tmp 50))) (xh:=none)) J λ_ h=>h}
 {refine cp0 λ_ _ _ m' a' _ _ _ _ J W T'=>?_;obtain⟨p5,E,p8⟩:=adv W (T' 2);refine be.imp (aL (vs:=[p5]) E rfl call59 (up (hS:=J) p8 q7)) ?_;rintro eg w ⟨no,ao,hS,n6⟩;obtain⟨rfl,m9⟩:=aJ n6;exact⟨_,ao,hS,⟨rfl,m9⟩⟩}
 {exact cmv λ_ _=>rfl}
 {exact cmv λ_ _=>⟨rfl,(aA _ _)⟩}
 {refine cp0 λ_ _ _ _ _ _ _ M' _ J W T'=>?_;have E:=(W.add (T' 4)).add (T' 5).1;exact cr (cS (k:=(ag .u8)) E rfl underlying24 sizeOf5 (a2.mono (Z0 a0 M')) rfl ⟨_,rfl⟩ o2 (xl:=none) (xh:=(some (.tmp 54)))) J λ_ h=>h}}
 {
 intro k7 L_ T_ hc a w al a3 U2 hS bt W5 m3 j2;obtain rfl:=eH al;obtain⟨rfl,rfl⟩:=U2;have E:=eof 7 [(0,v0),(2,pz b1),(4,.int .i64 (Z1.wrap ((p0.length:Int) - 4))),(44,.bool x6),(46,v0),(47,.int .i64 (p0.length:Int)),(48,.int .i64 (Z1.wrap ((p0.length:Int) - 4)))] bt W5 m3;have E:=E.add (j2 3).1;obtain⟨T2,E,W1⟩:=adv E (j2 6);obtain⟨gf,l3,h⟩:=ob h;refine st E (aL (vs:=[T2]) E rfl call56 (Ln (hS:=hS) W1 l3)) rfl ?_;rintro jc a w ⟨k6,a4,hS,x2⟩ E;obtain⟨rfl,kl⟩:=aJ x2
 refine sp E (dw E rfl underlying55 underlying54 rfl) rfl λa E=>qB E rfl rfl jF λa E=>ae (kif E rfl (λg4=>?_) (λg4=>?_))
 {
 have h:=aF g4 h;refine ab (ak (sp E (kx E rfl underlying70 (pl:=[(0,1),(1,1),(2,1)]) rfl zeroValue70) rfl λa E=>?_));refine st0 E (jd E hS kK rfl rfl rfl (gv _) (i:=0) rfl rfl) ?_;rintro _ w hS E;refine qA E rfl λa E=>ae (bD ?_);obtain rfl:=oi h
 try dsimp only
 refine Fin.mk E (rs:=[.cell 2 70,.tmp 3]) rfl (sD.cell E hS kK rfl (i:=0) rfl (az (gv _)) (sD.tmp E rfl sD.nil)) ?_;exact⟨_,(Z0 a0 (Z0 a3 a4)),(hS.dropL 1),_,_,rfl,(kQ (az (gv _))),(aq (show inR .i64 80 from au (by decide)))⟩}
 {
 have h:=aG g4 h;refine aV (ab (ak (qM E rfl λa E=>?_)));obtain⟨b7,t1,h⟩:=ob h;refine st E (bn (k:=(ag .u8)) E rfl rfl underlying24 sizeOf5 (a2.mono (Z0 a0 (Z0 a3 a4))) t1) rfl ?_;rintro he a _ ⟨rfl,u0⟩ E;refine st E (aO E hS ty5 rfl u0) rfl ?_;rintro ea a _ ⟨rfl,I2⟩ E;obtain⟨rfl,mz⟩:=aJ I2;refine sp E (dw E rfl underlying5 underlying3 rfl) rfl λa E=>sp E (JZ (pl:=[(0,1),(1,1),(2,1)]) (cs:=[(.int .i64 (Z1.wrap b7)),.slice none 0 0,.slice none 0 0]) E rfl underlying70 rfl zeroValue70 rfl) rfl λa E=>?_;refine st E (dv hS zeroValue70 rfl (cs:=ov)) rfl ?_
 rintro _ a w ⟨Z,rfl,hS⟩ E;refine st0 E (jd E hS kK rfl rfl rfl (DX (k:=jE) (pl:=[(0,1),(1,1),(2,1)]) (pv:=[(0,.int .i64 (Z1.wrap b7))]) (x0:=bI.zero) (xx:=(⟨Z1.wrap b7,[],[]⟩:bI)) (cs:=[(.int .i64 (Z1.wrap b7)),.slice none 0 0,.slice none 0 0]) (z:= .agg ov.toArray) gv (.cons rfl E9 (aq (aA _ _)) .nil) rfl) (i:=0) rfl rfl) ?_;rintro _ w hS E;refine ae (ab (ak (qM E rfl λa E=>?_)));obtain⟨b4,m2,h⟩:=ob h;refine st E (bn (k:=(ag .u8)) E rfl rfl underlying24 sizeOf5 (a2.mono (Z0 a0 (Z0 a3 a4))) m2) rfl ?_;rintro ey a _ ⟨rfl,r9⟩ E
 refine st E (aO E hS ty5 rfl r9) rfl ?_;rintro jt a _ ⟨rfl,t9⟩ E;obtain⟨rfl,fl⟩:=aJ t9;refine sp E (dw E rfl underlying5 underlying3 rfl) rfl λa E=>qB E rfl rfl (br rfl) λa E=>qA E rfl λa E=>ae (ab (ab (ak (qM E rfl λa E=>qM E rfl λa E=>qB E rfl rfl (br rfl) λa E=>?_))));refine qB E rfl rfl cl λa E=>ae (kif E rfl (λh2=>?_) (λh2=>?_))
 {
 have h:=aF h2 h;refine ab (ak (sp E (kx E rfl underlying70 (pl:=[(0,1),(1,1),(2,1)]) rfl zeroValue70) rfl λa E=>?_));refine st0 E (jd E hS kK rfl rfl rfl (gv _) (i:=1) rfl rfl) ?_;rintro _ w hS E;refine qA E rfl λa E=>ae (bD ?_);obtain rfl:=oi h
 try dsimp only
 refine Fin.mk E (rs:=[.cell 2 70,.tmp 3]) rfl (sD.cell E hS kK rfl (i:=1) rfl (az (gv _)) (sD.tmp E rfl sD.nil)) ?_;exact⟨_,(Z0 a0 (Z0 a3 a4)),(hS.dropL 2),_,_,rfl,(kQ (az (gv _))),(aq (show inR .i64 80 from au (by decide)))⟩}
 {
 have h:=aG h2 h;refine aV (ab (ab (ak (qA E rfl λa E=>ae ?_))));refine cj (λa w=>∃x128:bI,rZ p0 b4 x128=some r/\∃m',M.le k6 m'/\∃(c0:List Value),∃(a1:Value),jE.R m' c0 x128/\c0[1]? =some a1/\S W0 m' w ((Z,c0)::(b1,ov)::L) ((1,a1)::TL)/\Env 216 a [(0,v0),(2,pz b1),(4,.int .i64 (Z1.wrap ((p0.length:Int) - 4))),(5,pz Z),(6,.int .i64 (Z1.wrap (6+(Z1.wrap b4))))]) ?_ ?_
 {
 refine bd ?_;refine eG h (λ(s:Int×bI) a w=>∃m',M.le k6 m'/\∃(d1:List Value),∃(c5:Value),inR .i64 s.1/\jE.R m' d1 s.2/\d1[1]? =some c5/\S W0 m' w ((Z,d1)::(b1,ov)::L) ((1,c5)::TL)/\Env 216 a [(0,v0),(2,pz b1),(4,.int .i64 (Z1.wrap ((p0.length:Int) - 4))),(5,pz Z),(6,.int .i64 (Z1.wrap (6+(Z1.wrap b4)))),(7,.int .i64 s.1)]) ?_ ?_
 {exact⟨_,(Z3 _),[(.int .i64 (Z1.wrap b7)),.slice none 0 0,.slice none 0 0],(.slice none 0 0),(show inR .i64 6 from au (by decide)),(DX (k:=jE) (pl:=[(0,1),(1,1),(2,1)]) (pv:=[(0,.int .i64 (Z1.wrap b7))]) (x0:=bI.zero) (xx:=(⟨Z1.wrap b7,[],[]⟩:bI)) (cs:=[(.int .i64 (Z1.wrap b7)),.slice none 0 0,.slice none 0 0]) (z:= .agg ov.toArray) gv (.cons rfl E9 (aq (aA _ _)) .nil) rfl),rfl,(hS.tail0 1),kut E⟩}
 {
 rintro ⟨c7,x505⟩ a w ⟨w5,h1,d1,c5,ad,f5,g9,hS,E⟩ r510 h hb511;have h:qa p0 b4 c7 x505=some r510:=h;unfold qa at h;refine ab (ab (ak (qM E rfl λa E=>qM E rfl λa E=>qB E rfl rfl cl λa E=>ae (kif E rfl (λi1=>?_) (λi1=>?_)))))
 {
 have h:=aF i1 h;refine aV (ab (bd ?_));obtain⟨c4,X1,h⟩:=ob h
 refine kch (k:=8) (m:=w5) (es:=[]) (Φ:=(λi m ws v=>match i with|0=>v=(.pointer (some ⟨Z,1,none⟩))|1=>v=c5|2=>v=v0|3=>ei .i64 c7 v|4=>PR (ag .u8) m v c4|5=>ei .u8 c4 v|6=>ei .i64 (Z1.wrap c4) v|7=>RV (kSl (ag .i64)) m v ([Z1.wrap c4])|_=>True)) (Q:=(λc m ws L' f0=>match c with|0=>(Z,d1)::(b1,ov)::L=L'/\(1,c5)::TL=f0|_=>False)) (cs:=[CQ [(5,pz Z)],CQ [],CQ [(0,v0)],CQ [(7,.int .i64 c7)],CQ [],CQ [],CQ [],CQ []]) mixed E hS ⟨rfl,rfl⟩ rfl rfl (by kernel_rfl) ?_ ?_ ?_ ?_
 {
 intro i m_ e6 ws v n_ q_
 iterate 8 (rcases i with _|i;first|exact q_|exact PR.mono q_ n_|exact RV.mono q_ n_)
 exact trivial}
 {
 intro c m_ e6 ws L_ T_ n_ a9
 match c,a9 with
 |0,⟨e8,e7⟩=>exact⟨e8,e7⟩
 |_+1,a9=>exact a9.elim}
 {
 refine⟨?_,?_,?_,?_,?_,?_,?_,?_,trivial⟩
 {refine cp0 λ_ _ _ _ _ _ _ _ _ J W _=>?_;exact cq (aH W vo rfl) J rfl}
 {refine cp1 λ_ _ _ _ _ M' Q' J W T'=>?_;obtain⟨rfl,rfl⟩:=Q';have E:=W.add (T' 0);exact cq (lq (k:=(ag .i64)) (xx:=x505.fSort) (v:=c5) E J qQ rfl (i:=0) rfl (Pk.R_drop (az (jE.mono M' f5))) g9) J rfl}
 {exact cmv λ_ _=>rfl}
 {exact cmv λ_ _=>⟨rfl,ad⟩}
 {refine cp0 λ_ _ _ _ _ _ _ M' _ J W T'=>?_;have E:=(W.add (T' 2)).add (T' 3).1;exact cr (bn (k:=(ag .u8)) E rfl rfl underlying24 sizeOf5 (a2.mono (Z0 a0 (Z0 a3 (Z0 a4 (Z0 h1 M'))))) X1) J λ_ h=>h}
 {
 refine cp0 λ_ _ _ m' a' _ _ _ _ J W T'=>?_;obtain⟨hp,X0,n4⟩:∃v,a'.tmps.getD 84 undef=v/\(PR (ag .u8) m' v c4):=⟨_,rfl,T' 4⟩
 have E:=W.add (X0);exact cr (aO E J ty5 rfl n4) J λ_ h=>aJ h}
 {refine cp0 λ_ _ _ _ _ _ _ _ _ J W T'=>?_;have E:=W.add (T' 5).1;exact cq (dw E rfl underlying5 underlying3 rfl) J ⟨rfl,(aA _ _)⟩}
 {refine cp0 λ_ _ _ _ _ _ _ _ _ J W T'=>?_;obtain⟨y3,w6⟩:=T' 6;have E:=W.add y3;refine be.imp (f8 (k:=(ag .i64)) (xs:=[Z1.wrap c4]) (vs:=[(.int .i64 (Z1.wrap c4))]) E J rfl underlying49 sizeOf3 zeroValue3 ⟨(aq w6),trivial⟩ rfl (by decide)) ?_;rintro nm w ⟨my,q2,hS,de⟩;exact⟨_,q2,(hS.dropT 1),de⟩}}
 {
 intro k7 L_ T_ ep a w V2 h9 ch hS W6 y0 x9 j3;obtain rfl:=eH V2;obtain⟨rfl,rfl⟩:=ch;have E:=eof 8 [(0,v0),(2,pz b1),(4,.int .i64 (Z1.wrap ((p0.length:Int) - 4))),(5,pz Z),(6,.int .i64 (Z1.wrap (6+(Z1.wrap b4)))),(7,.int .i64 c7),(75,.int .i64 c7),(76,.int .i64 (Z1.wrap (6+(Z1.wrap b4)))),(77,.bool (decide (c7<(Z1.wrap (6+(Z1.wrap b4))))))] W6 y0 x9;have E:=E.add (j3 1);obtain⟨hj,E,s1⟩:=adv E (j3 7);obtain⟨t5,z0,h⟩:=ob h
 refine st E (fF (k:=(ag .i64)) (N:=17592186044416) E hS rfl rfl underlying49 underlying49 el3 (i:=0) rfl ((rQ (k:=(ag .i64)) (Pk.R_drop (az f5)) g9).mono h9) s1 z0 rfl rfl) rfl ?_;rintro r0 a w ⟨nd,k0,hS,bs⟩ E;refine sp E (aH E vo rfl) rfl λa E=>?_;refine st0 E (vC E hS qQ Jh rfl rfl bs (i:=0) rfl (jE.mono (Z0 h9 k0) f5)) ?_;rintro _ w ⟨W2,r5,p7,hS⟩ E;refine ae (ak (qM E rfl λa E=>qB E rfl rfl (br rfl) λa E=>qA E rfl λa E=>ae ?_))
 exact⟨(Z1.wrap (c7+1),{ x505 with fSort:=t5 }),(Option.some.inj h).symm,_,(Z0 h1 (Z0 h9 k0)),W2,r0,(aA _ _),r5,p7,hS,kut E⟩}}
 {have h:=aG i1 h;refine d4 rfl rfl ?_;have h:=bY h hb511;exact⟨x505,h,_,h1,d1,c5,f5,g9,hS,kut E⟩}}}
 {
 rintro a w ⟨x128,h,fv,b3,c0,a1,e0,h5,hS,E⟩;unfold rZ at h;refine ab (ak (qM E rfl λa E=>qM E rfl λa E=>qM E rfl λa E=>qB E rfl rfl (br rfl) λa E=>?_));obtain⟨hw,cn,h⟩:=ob h;refine st E (cS (k:=(ag .u8)) E rfl underlying24 sizeOf5 (a2.mono (Z0 a0 (Z0 a3 (Z0 a4 b3)))) ⟨_,rfl⟩ ⟨_,rfl⟩ cn (xl:=(some (.tmp 91))) (xh:=(some (.tmp 93)))) rfl ?_;rintro ba a _ ⟨rfl,x5⟩ E;obtain⟨b0,z5,h⟩:=ob h;refine st E (aL (vs:=[ba]) E rfl call59 (up (hS:=hS) x5 z5)) rfl ?_;rintro ec a w ⟨x8,a5,hS,q0⟩ E;obtain⟨rfl,hm⟩:=aJ q0
 refine sp E (dw E rfl underlying54 underlying3 rfl) rfl λa E=>qA E rfl λa E=>ae (ab (ak (qM E rfl λa E=>qB E rfl rfl (br rfl) λa E=>qA E rfl λa E=>ae (ab ?_))));refine ab ?_;refine cj (λa w=>∃g7:Bool,p9 p0 b4 x128 b0 g7=some r/\∃m',M.le x8 m'/\S W0 m' w ((Z,c0)::(b1,ov)::L) ((1,a1)::TL)/\Env 216 a [(0,v0),(2,pz b1),(4,.int .i64 (Z1.wrap ((p0.length:Int) - 4))),(5,pz Z),(6,.int .i64 (Z1.wrap ((Z1.wrap (6+(Z1.wrap b4)))+4))),(8,.int .i64 (Z1.wrap b0)),(108,.bool g7)]) ?_ ?_
 {
 refine ak (sp E (aH E yc rfl) rfl λa E=>?_);refine st E (aK E hS ty3 rfl (i:=0) rfl (Pj.R_drop (az (jE.mono a5 e0)))) rfl ?_;rintro ee a _ ⟨rfl,r4⟩ E;obtain⟨rfl,r8⟩:=aJ r4;refine sp E (aH E vo rfl) rfl λa E=>sp E (lq (k:=(ag .i64)) (xx:=x128.fSort) (v:=a1) E hS qQ rfl (i:=0) rfl (Pk.R_drop (az (jE.mono a5 e0))) h5) rfl λa E=>?_;obtain⟨w1,n0,h⟩:=ob h;refine st E (aL (vs:=[(.int .i64 x128.fColumns),a1,(.slice none 0 0)]) E rfl call79 (yg (hS:=hS) r8 (rQ (k:=(ag .i64)) (Pk.R_drop (az (jE.mono a5 e0))) h5) cT n0)) rfl ?_
 rintro mi a w ⟨hb,k4,hS,w3⟩ E;obtain⟨rfl,gb⟩:=aJ w3;refine qB E rfl rfl jF λa E=>qM E rfl λa E=>?_;rcases Z2 (w1 != 0) with hd496|hd496
 {have h:=aF hd496 h;refine qX E hd496 λa E=>qX E hd496 λa E=>qT E hd496 rfl λa E=>ae ?_;exact⟨true,h,_,k4,hS,kut E⟩}
 {have h:=aG hd496 h;refine qG E hd496 rfl λa E=>spg E rfl rfl rfl rfl hd496 (a7 E rfl rfl kL) rfl λa E=>qF E hd496 rfl λa E=>ae ?_;exact⟨(decide (4096<(Z1.wrap b0))),h,_,k4,hS,kut E⟩}}
 {
 rintro a w ⟨g7,h,j1,a6,hS,E⟩;unfold p9 at h;refine kif E rfl (λh0=>?_) (λh0=>?_)
 {
 have h:=aF h0 h;refine ab (ak (sp E (kx E rfl underlying70 (pl:=[(0,1),(1,1),(2,1)]) rfl zeroValue70) rfl λa E=>?_));refine st0 E (jd E hS kK rfl rfl rfl (gv _) (i:=1) rfl rfl) ?_;rintro _ w hS E;refine qA E rfl λa E=>ae (bD ?_);obtain rfl:=oi h
 try dsimp only
 refine Fin.mk E (rs:=[.cell 2 70,.tmp 3]) rfl (sD.cell E hS kK rfl (i:=1) rfl (az (gv _)) (sD.tmp E rfl sD.nil)) ?_;exact⟨_,(Z0 a0 (Z0 a3 (Z0 a4 (Z0 b3 (Z0 a5 a6))))),((hS.dropL 2).dropT 1),_,_,rfl,(kQ (az (gv _))),(aq (show inR .i64 80 from au (by decide)))⟩}
 {
 have h:=aG h0 h;refine aV (ab (ak (qA E rfl λa E=>ae (ab (ab (ak (qA E rfl λa E=>ae ?_)))))));refine cj (λa w=>∃e3:Int,∃h8:(List (List Ap)),kj p0 x128 b0 e3 h8=some r/\∃m',M.le j1 m'/\∃(e5:Value),inR .i64 e3/\RV (kSl (kSl kAp)) m' e5 h8/\S W0 m' w ((Z,c0)::(b1,ov)::L) ((1,e5)::(1,a1)::TL)/\Env 216 a [(2,pz b1),(4,.int .i64 (Z1.wrap ((p0.length:Int) - 4))),(5,pz Z),(6,.int .i64 e3),(8,.int .i64 (Z1.wrap b0)),(9,e5)]) ?_ ?_
 {
 refine bd ?_;refine eG h (λ(s:(Int×(List (List Ap))×Int)) a w=>∃m',M.le j1 m'/\∃(c6:Value),inR .i64 s.1/\RV (kSl (kSl kAp)) m' c6 s.2.1/\inR .i64 s.2.2/\S W0 m' w ((Z,c0)::(b1,ov)::L) ((1,c6)::(1,a1)::TL)/\Env 216 a [(0,v0),(2,pz b1),(4,.int .i64 (Z1.wrap ((p0.length:Int) - 4))),(5,pz Z),(6,.int .i64 s.1),(8,.int .i64 (Z1.wrap b0)),(9,c6),(10,.int .i64 s.2.2)]) ?_ ?_
 {exact⟨_,(Z3 _),(.slice none 0 0),(aA _ _),cT,(show inR .i64 0 from au (by decide)),(hS.tail0 1),kut E⟩}
 {
 rintro ⟨d0,i3,f3⟩ a w ⟨t0,c1,c6,W9,k5,mm,hS,E⟩ r357 h hb358;have h:ez p0 x128 b0 d0 i3 f3=some r357:=h;unfold ez at h;refine ab (ab (ak (qM E rfl λa E=>sp E (aH E yc rfl) rfl λa E=>?_)));refine st E (aK E hS ty3 rfl (i:=0) rfl (Pj.R_drop (az (jE.mono (Z0 a5 (Z0 a6 c1)) e0)))) rfl ?_;rintro ih a _ ⟨rfl,m6⟩ E;obtain⟨rfl,hv⟩:=aJ m6;refine qB E rfl rfl (br rfl) λa E=>qB E rfl rfl cl λa E=>ae (kif E rfl (λg5=>?_) (λg5=>?_))
 {
 have h:=aF g5 h;refine aV (ab (bd (ab (ab ?_))));refine cj (λa w=>∃i0:Bool,ko p0 b0 d0 i3 f3 i0=some r357/\∃m',M.le t0 m'/\S W0 m' w ((Z,c0)::(b1,ov)::L) ((1,c6)::(1,a1)::TL)/\Env 216 a [(0,v0),(2,pz b1),(4,.int .i64 (Z1.wrap ((p0.length:Int) - 4))),(5,pz Z),(6,.int .i64 d0),(8,.int .i64 (Z1.wrap b0)),(9,c6),(10,.int .i64 f3),(134,.bool i0)]) ?_ ?_
 {
 refine ak (qM E rfl λa E=>qM E rfl λa E=>qB E rfl rfl (br rfl) λa E=>qB E rfl rfl cl λa E=>qM E rfl λa E=>?_);rcases Z2 (decide ((Z1.wrap ((p0.length:Int) - 4))<(Z1.wrap (d0+4)))) with hd456|hd456
 {have h:=aF hd456 h;refine qX E hd456 λa E=>qX E hd456 λa E=>qX E hd456 λa E=>qX E hd456 λa E=>qX E hd456 λa E=>qX E hd456 λa E=>qX E hd456 λa E=>qX E hd456 λa E=>qX E hd456 λa E=>qX E hd456 λa E=>?_;refine qX E hd456 λa E=>qX E hd456 λa E=>qT E hd456 rfl λa E=>ae ?_;exact⟨true,h,_,(Z3 _),hS,kut E⟩}
 {
 have h:=aG hd456 h;refine qG E hd456 rfl λa E=>qG E hd456 rfl λa E=>spg E rfl rfl rfl rfl hd456 (a7 E rfl rfl (br rfl)) rfl λa E=>qG E hd456 rfl λa E=>qG E hd456 rfl λa E=>qG E hd456 rfl λa E=>spg E rfl rfl rfl rfl hd456 (a7 E rfl rfl (br rfl)) rfl λa E=>?_;obtain⟨ht,m8,h⟩:=ob h;refine stg E rfl rfl rfl rfl hd456 (cS (k:=(ag .u8)) E rfl underlying24 sizeOf5 (a2.mono (Z0 a0 (Z0 a3 (Z0 a4 (Z0 b3 (Z0 a5 (Z0 a6 c1))))))) ⟨_,rfl⟩ ⟨_,rfl⟩ m8 (xl:=(some (.tmp 126))) (xh:=(some (.tmp 128)))) rfl ?_;rintro r3 a _ ⟨rfl,co⟩ E
 obtain⟨X2,p4,h⟩:=ob h;refine stg E rfl rfl rfl rfl hd456 (aL (vs:=[r3]) E rfl call59 (up (hS:=hS) co p4)) rfl ?_;rintro hr a w ⟨kk,dl,hS,bb⟩ E;obtain⟨rfl,hz⟩:=aJ bb;refine spg E rfl rfl rfl rfl hd456 (dw E rfl underlying54 underlying3 rfl) rfl λa E=>spg E rfl rfl rfl rfl hd456 (a7 E rfl rfl (br rfl)) rfl λa E=>spg E rfl rfl rfl rfl hd456 (a7 E rfl rfl cl) rfl λa E=>qF E hd456 rfl λa E=>ae ?_;exact⟨(decide ((Z1.wrap ((p0.length:Int) - 4))<(Z1.wrap ((Z1.wrap (d0+4))+(Z1.wrap X2))))),h,_,dl,hS,kut E⟩}}
 {
 rintro a w ⟨i0,h,kv,d2,hS,E⟩;unfold ko at h;refine kif E rfl (λi4=>?_) (λi4=>?_)
 {
 have h:=aF i4 h;refine ab (ak (sp E (kx E rfl underlying70 (pl:=[(0,1),(1,1),(2,1)]) rfl zeroValue70) rfl λa E=>?_));refine st0 E (jd E hS kK rfl rfl rfl (gv _) (i:=1) rfl rfl) ?_;rintro _ w hS E;refine qA E rfl λa E=>ae (bD ?_);have h:=bY h hb358;obtain rfl:=oi h
 try dsimp only
 refine Fin.mk E (rs:=[.cell 2 70,.tmp 3]) rfl (sD.cell E hS kK rfl (i:=1) rfl (az (gv _)) (sD.tmp E rfl sD.nil)) ?_;exact⟨_,(Z0 a0 (Z0 a3 (Z0 a4 (Z0 b3 (Z0 a5 (Z0 a6 (Z0 c1 d2))))))),((hS.dropL 2).dropT 2),_,_,rfl,(kQ (az (gv _))),(aq (show inR .i64 80 from au (by decide)))⟩}
 {
 have h:=aG i4 h;refine aV (ab (ak (qM E rfl λa E=>qM E rfl λa E=>qM E rfl λa E=>qB E rfl rfl (br rfl) λa E=>?_)));obtain⟨na,t3,h⟩:=ob h;refine st E (cS (k:=(ag .u8)) E rfl underlying24 sizeOf5 (a2.mono (Z0 a0 (Z0 a3 (Z0 a4 (Z0 b3 (Z0 a5 (Z0 a6 (Z0 c1 d2)))))))) ⟨_,rfl⟩ ⟨_,rfl⟩ t3 (xl:=(some (.tmp 137))) (xh:=(some (.tmp 139)))) rfl ?_;rintro ar a _ ⟨rfl,q5⟩ E;obtain⟨u1,y4,h⟩:=ob h;refine st E (aL (vs:=[ar]) E rfl call59 (up (hS:=hS) q5 y4)) rfl ?_;rintro kn a w ⟨kh,g0,hS,l2⟩ E;obtain⟨rfl,ha⟩:=aJ l2
 refine sp E (dw E rfl underlying54 underlying3 rfl) rfl λa E=>qA E rfl λa E=>ae (ab (ak (qM E rfl λa E=>qM E rfl λa E=>qB E rfl rfl (br rfl) λa E=>qM E rfl λa E=>qB E rfl rfl (br rfl) λa E=>?_)));refine qM E rfl λa E=>qB E rfl rfl (br rfl) λa E=>?_;obtain⟨js,av,h⟩:=ob h;refine st E (cS (k:=(ag .u8)) E rfl underlying24 sizeOf5 (a2.mono (Z0 a0 (Z0 a3 (Z0 a4 (Z0 b3 (Z0 a5 (Z0 a6 (Z0 c1 (Z0 d2 g0))))))))) ⟨_,rfl⟩ ⟨_,rfl⟩ av (xl:=(some (.tmp 146))) (xh:=(some (.tmp 150)))) rfl ?_;rintro L1 a _ ⟨rfl,r1⟩ E
 refine qM E rfl λa E=>?_;obtain⟨n1,r2,h⟩:=ob h;refine st E (aL (vs:=[L1,(.int .i64 (Z1.wrap b0))]) E rfl call87 (FO (hS:=hS) r1 (aA _ _) r2)) rfl ?_;rintro _ a w ⟨ed,i5,hS,y1,hx,rfl,z9,x1⟩ E;obtain rfl:=eS x1;refine qM E rfl λa E=>sp E (ct E rfl rfl) rfl λa E=>sp E (ct E rfl rfl) rfl λa E=>qA E rfl λa E=>qA E rfl λa E=>ae (ab (ab (ak (qM E rfl λa E=>?_))));refine sp E (ln E rfl) rfl λa E=>ae (kif E rfl (λg1=>?_) (λg1=>?_))
 {
 have h:=aF g1 h;refine ab (ak (sp E (kx E rfl underlying70 (pl:=[(0,1),(1,1),(2,1)]) rfl zeroValue70) rfl λa E=>?_));refine st0 E (jd E hS kK rfl rfl rfl (gv _) (i:=1) rfl rfl) ?_;rintro _ w hS E;refine qA E rfl λa E=>ae (bD ?_);have h:=bY h hb358;obtain rfl:=oi h
 try dsimp only
 refine Fin.mk E (rs:=[.cell 2 70,.tmp 3]) rfl (sD.cell E hS kK rfl (i:=1) rfl (az (gv _)) (sD.tmp E rfl sD.nil)) ?_;exact⟨_,(Z0 a0 (Z0 a3 (Z0 a4 (Z0 b3 (Z0 a5 (Z0 a6 (Z0 c1 (Z0 d2 (Z0 g0 i5))))))))),((hS.dropL 2).dropT 2),_,_,rfl,(kQ (az (gv _))),(aq (show inR .i64 80 from au (by decide)))⟩}
 {
 have h:=aG g1 h;refine aV (ab (ak (qM E rfl λa E=>qM E rfl λa E=>?_)));refine st E (f8 (k:=(kSl kAp)) (xs:=[n1.1]) (vs:=[y1]) E hS rfl underlying126 sizeOf22 zeroValue22 ⟨z9,trivial⟩ rfl (by decide)) rfl ?_;rintro go a w ⟨eb,k3,hS,q6⟩ E;obtain⟨z8,U1,h⟩:=ob h;refine st E (fF (k:=(kSl kAp)) (N:=5864062014805) E hS rfl rfl underlying126 underlying126 PF (i:=1) rfl (k5.mono (Z0 d2 (Z0 g0 (Z0 i5 k3)))) q6 U1 rfl rfl) rfl ?_;rintro an a w ⟨nl,s4,hS,bk⟩ E
 refine qA E rfl λa E=>ae (ak (qM E rfl λa E=>qB E rfl rfl (br rfl) λa E=>qM E rfl λa E=>qB E rfl rfl (br rfl) λa E=>qA E rfl λa E=>ae (ak ?_)));refine qM E rfl λa E=>qB E rfl rfl (br rfl) λa E=>qA E rfl λa E=>ae ?_;exact⟨(Z1.wrap ((Z1.wrap (d0+4))+(Z1.wrap u1)),z8,Z1.wrap (f3+1)),(Option.some.inj h).symm,_,(Z0 c1 (Z0 d2 (Z0 g0 (Z0 i5 (Z0 k3 s4))))),an,(aA _ _),bk,(aA _ _),(hS.pickT 3 [1,2] rfl rfl rfl),kut E⟩}}}}
 {have h:=aG g5 h;refine d4 rfl rfl ?_;have h:=bY h hb358;exact⟨d0,i3,h,_,c1,c6,W9,k5,hS,kut E⟩}}}
 {
 rintro a w ⟨e3,h8,h,hf,e9,e5,hg,W8,hS,E⟩;unfold kj at h;refine ab (ak (sp E (aH E yc rfl) rfl λa E=>?_));refine st E (aK E hS ty3 rfl (i:=0) rfl (Pj.R_drop (az (jE.mono (Z0 a5 (Z0 a6 e9)) e0)))) rfl ?_;rintro dr a _ ⟨rfl,w0⟩ E;obtain⟨rfl,q4⟩:=aJ w0;refine qM E rfl λa E=>qM E rfl λa E=>?_;obtain⟨c2,df,h⟩:=ob h;refine st E (aL (vs:=[(.int .i64 x128.fColumns),e5,(.int .i64 (Z1.wrap b0))]) E rfl call88 (De (hS:=hS) q4 W8 (aA _ _) df)) rfl ?_;rintro _ a w ⟨dg,f6,hS,b5,ip,rfl,e4,n3⟩ E
 obtain rfl:=eS n3;refine qM E rfl λa E=>sp E (ct E rfl rfl) rfl λa E=>sp E (ct E rfl rfl) rfl λa E=>qA E rfl λa E=>qA E rfl λa E=>ae (ab (ak (qM E rfl λa E=>sp E (aH E Jm rfl) rfl λa E=>?_)));refine st0 E (tN E hS Fg Ji rfl rfl e4 (i:=0) rfl (jE.mono (Z0 a5 (Z0 a6 (Z0 e9 f6))) e0)) ?_;rintro _ w ⟨f4,e1,D6,hS⟩ E;have f9:=D6 1 _ h5 (by decide);refine ae (ab (ab ?_))
 refine cj (λa w=>∃i2:Bool,lM x128 c2 i2=some r/\∃m',M.le dg m'/\S W0 m' w ((Z,f4)::(b1,ov)::L) ((1,a1)::TL)/\Env 216 a [(2,pz b1),(5,pz Z),(14,b5),(192,.bool i2)]) ?_ ?_
 {
 refine ak (qM E rfl λa E=>sp E (ln E rfl) rfl λa E=>qM E rfl λa E=>?_);rcases Z2 (!c2.2) with hd320|hd320
 {have h:=aF hd320 h;refine qX E hd320 λa E=>qX E hd320 λa E=>qX E hd320 λa E=>qT E hd320 rfl λa E=>qM E rfl λa E=>qX E rfl λa E=>qX E rfl λa E=>qX E rfl λa E=>qX E rfl λa E=>qX E rfl λa E=>?_;refine qX E rfl λa E=>qX E rfl λa E=>qT E rfl rfl λa E=>ae ?_;exact⟨true,h,_,(Z3 _),(hS.pickT 2 [1] rfl rfl rfl),kut E⟩}
 {
 have h:=aG hd320 h;refine qG E hd320 rfl λa E=>qG E hd320 rfl λa E=>spg E rfl rfl rfl rfl hd320 (a7 E rfl rfl jF) rfl λa E=>qF E hd320 rfl λa E=>qM E rfl λa E=>?_;rcases Z2 (e3 != (Z1.wrap ((p0.length:Int) - 4))) with hd329|hd329
 {have h:=aF hd329 h;refine qX E hd329 λa E=>qX E hd329 λa E=>qX E hd329 λa E=>qX E hd329 λa E=>qX E hd329 λa E=>qX E hd329 λa E=>qX E hd329 λa E=>qT E hd329 rfl λa E=>ae ?_;exact⟨true,h,_,(Z3 _),(hS.pickT 2 [1] rfl rfl rfl),kut E⟩}
 {
 have h:=aG hd329 h;refine spg E rfl rfl rfl rfl hd329 (aH E yc rfl) rfl λa E=>?_;refine stg E rfl rfl rfl rfl hd329 (aK E hS ty3 rfl (i:=0) rfl (Pj.R_drop (az e1))) rfl ?_;rintro hd a _ ⟨rfl,z3⟩ E;obtain⟨rfl,cv⟩:=aJ z3;refine spg E rfl rfl rfl rfl hd329 (aH E vo rfl) rfl λa E=>spg E rfl rfl rfl rfl hd329 (lq (k:=(ag .i64)) (xx:=({ x128 with fL:=c2.1 }).fSort) (v:=a1) E hS qQ rfl (i:=0) rfl (Pk.R_drop (az e1)) f9) rfl λa E=>qG E hd329 rfl λa E=>?_;obtain⟨p3,s2,h⟩:=ob h
 refine stg E rfl rfl rfl rfl hd329 (aL (vs:=[(.int .i64 x128.fColumns),a1,b5]) E rfl call79 (yg (hS:=hS) cv (rQ (k:=(ag .i64)) (Pk.R_drop (az e1)) f9) e4 s2)) rfl ?_;rintro ki a w ⟨ns,m5,hS,m1⟩ E;obtain⟨rfl,hn⟩:=aJ m1;refine spg E rfl rfl rfl rfl hd329 (a7 E rfl rfl jF) rfl λa E=>qF E hd329 rfl λa E=>ae ?_;exact⟨(p3 != 0),h,_,m5,(hS.pickT 2 [1] rfl rfl rfl),kut E⟩}}}
 {
 rintro a w ⟨i2,h,i8,b6,hS,E⟩;unfold lM at h;refine kif E rfl (λh4=>?_) (λh4=>?_)
 {
 have h:=aF h4 h;refine ab (ak (sp E (kx E rfl underlying70 (pl:=[(0,1),(1,1),(2,1)]) rfl zeroValue70) rfl λa E=>?_));refine st0 E (jd E hS kK rfl rfl rfl (gv _) (i:=1) rfl rfl) ?_;rintro _ w hS E;refine qA E rfl λa E=>ae (bD ?_);obtain rfl:=oi h
 try dsimp only
 refine Fin.mk E (rs:=[.cell 2 70,.tmp 3]) rfl (sD.cell E hS kK rfl (i:=1) rfl (az (gv _)) (sD.tmp E rfl sD.nil)) ?_;exact⟨_,(Z0 a0 (Z0 a3 (Z0 a4 (Z0 b3 (Z0 a5 (Z0 a6 (Z0 e9 (Z0 f6 b6)))))))),((hS.dropL 2).dropT 1),_,_,rfl,(kQ (az (gv _))),(aq (show inR .i64 80 from au (by decide)))⟩}
 {
 have h:=aG h4 h;refine aV (ab (ab (ak (qA E rfl λa E=>ae ?_))));refine cj (λa w=>vY x128 c2=some r/\∃m',M.le i8 m'/\S W0 m' w ((Z,f4)::(b1,ov)::L) ((1,a1)::TL)/\Env 216 a [(2,pz b1),(5,pz Z)]) ?_ ?_
 {
 refine bd ?_;refine eG h (λ(s:Int) a w=>∃m',M.le i8 m'/\inR .i64 s/\S W0 m' w ((Z,f4)::(b1,ov)::L) ((1,a1)::TL)/\Env 216 a [(2,pz b1),(5,pz Z),(14,b5),(16,.int .i64 s)]) ?_ ?_
 {exact⟨_,(Z3 _),(show inR .i64 1 from au (by decide)),hS,kut E⟩}
 {
 rintro b2 a w ⟨T1,c3,j0,hS,E⟩ r227 h hb228;have h:iq x128 c2 b2=some r227:=h;unfold iq at h;refine ab (ab (ak (qM E rfl λa E=>qM E rfl λa E=>sp E (bh (k:=aj) E rfl rfl underlying50 (e4.mono (Z0 b6 c3))) rfl λa E=>qB E rfl rfl cl λa E=>ae (kif E rfl (λh6=>?_) (λh6=>?_)))))
 {
 have h:=aF h6 h;refine aV (ab (bd (ab ?_)));obtain⟨g2,u2,g3,dn,h⟩:=ob2 h
 refine kch (k:=11) (m:=T1) (es:=[]) (Φ:=(λi m ws v=>match i with|0=>v=(.pointer (some ⟨Z,1,none⟩))|1=>v=a1|2=>v=b5|3=>ei .i64 b2 v|4=>ei .i64 (Z1.wrap (b2 - 1)) v|5=>PR aj m v g2|6=>RV aj m v g2|7=>v=b5|8=>ei .i64 b2 v|9=>PR aj m v g3|10=>RV aj m v g3|_=>True)) (Q:=(λc m ws L' f0=>match c with|0=>(Z,f4)::(b1,ov)::L=L'/\(1,a1)::TL=f0|_=>False)) (cs:=[CQ [(5,pz Z)],CQ [],CQ [(14,b5)],CQ [(16,.int .i64 b2)],CQ [],CQ [],CQ [],CQ [(14,b5)],CQ [(16,.int .i64 b2)],CQ [],CQ []]) mixed E hS ⟨rfl,rfl⟩ rfl rfl (by kernel_rfl) ?_ ?_ ?_ ?_
 {
 intro i m_ e6 ws v n_ q_
 iterate 11 (rcases i with _|i;first|exact q_|exact PR.mono q_ n_|exact RV.mono q_ n_)
 exact trivial}
 {
 intro c m_ e6 ws L_ T_ n_ a9
 match c,a9 with
 |0,⟨e8,e7⟩=>exact⟨e8,e7⟩
 |_+1,a9=>exact a9.elim}
 {
 refine⟨?_,?_,?_,?_,?_,?_,?_,?_,?_,?_,?_,trivial⟩
 {refine cp0 λ_ _ _ _ _ _ _ _ _ J W _=>?_;exact cq (aH W vo rfl) J rfl}
 {refine cp1 λ_ _ _ _ _ M' Q' J W T'=>?_;obtain⟨rfl,rfl⟩:=Q';have E:=W.add (T' 0);exact cq (lq (k:=(ag .i64)) (xx:=({ x128 with fL:=c2.1 }).fSort) (v:=a1) E J qQ rfl (i:=0) rfl (Pk.R_drop (az (jE.mono (Z0 b6 (Z0 c3 M')) e1))) f9) J rfl}
 {exact cmv λ_ _=>rfl}
 {exact cmv λ_ _=>⟨rfl,j0⟩}
 {refine cp0 λ_ _ _ _ _ _ _ _ _ J W T'=>?_;have E:=W.add (T' 3).1;exact cq (a7 E rfl rfl (iV rfl)) J ⟨rfl,(aA _ _)⟩}
 {refine cp0 λ_ _ _ _ _ _ _ M' _ J W T'=>?_;have E:=(W.add (T' 2)).add (T' 4).1;exact cr (bn (k:=aj) E rfl rfl underlying50 sizeOf59 (e4.mono (Z0 b6 (Z0 c3 M'))) u2) J λ_ h=>h}
 {
 refine cp0 λ_ _ _ m' a' _ _ _ _ J W T'=>?_;obtain⟨hu,r6,ap⟩:∃v,a'.tmps.getD 205 undef=v/\(PR aj m' v g2):=⟨_,rfl,T' 5⟩
 have E:=W.add (r6);exact cr (aO E J tA rfl ap) J λ_ h=>h}
 {exact cmv λ_ _=>rfl}
 {exact cmv λ_ _=>⟨rfl,j0⟩}
 {refine cp0 λ_ _ _ _ _ _ _ M' _ J W T'=>?_;have E:=(W.add (T' 7)).add (T' 8).1;exact cr (bn (k:=aj) E rfl rfl underlying50 sizeOf59 (e4.mono (Z0 b6 (Z0 c3 M'))) dn) J λ_ h=>h}
 {
 refine cp0 λ_ _ _ m' a' _ _ _ _ J W T'=>?_;obtain⟨hh,p2,x7⟩:∃v,a'.tmps.getD 209 undef=v/\(PR aj m' v g3):=⟨_,rfl,T' 9⟩
 have E:=W.add (p2);exact cr (aO E J tA rfl x7) J λ_ h=>h}}
 {
 intro k7 L_ T_ km a w B0 h7 af hS bi w4 m7 g6;obtain rfl:=eH B0;obtain⟨rfl,rfl⟩:=af;have E:=eof 11 [(2,pz b1),(5,pz Z),(14,b5),(16,.int .i64 b2),(194,.int .i64 b2),(195,b5),(196,.int .i64 (c2.1.length:Int)),(197,.bool (decide (b2<(c2.1.length:Int))))] bi w4 m7;have E:=E.add (g6 1);obtain⟨bo,E,bu⟩:=adv E (g6 6);obtain⟨ca,E,p6⟩:=adv E (g6 10);obtain⟨hs,W7,h⟩:=ob h
 refine st E (aL (vs:=[a1,bo,ca]) E rfl call72 (FP (hS:=hS) ((rQ (k:=(ag .i64)) (Pk.R_drop (az (jE.mono (Z0 b6 c3) e1))) f9).mono h7) bu p6 W7)) rfl ?_;rintro hk a w ⟨lb,j4,hS,l4⟩ E;obtain rfl:=eS l4;refine qA E rfl λa E=>ae (ab (ak (qM E rfl λa E=>sp E (ln E rfl) rfl λa E=>ae (kif E rfl (λh3=>?_) (λh3=>?_)))))
 {
 have h:=aF h3 h;refine ab (ak (sp E (kx E rfl underlying70 (pl:=[(0,1),(1,1),(2,1)]) rfl zeroValue70) rfl λa E=>?_));refine st0 E (jd E hS kK rfl rfl rfl (gv _) (i:=1) rfl rfl) ?_;rintro _ w hS E;refine qA E rfl λa E=>ae (bD ?_);have h:=bY h hb228;obtain rfl:=oi h
 try dsimp only
 refine Fin.mk E (rs:=[.cell 2 70,.tmp 3]) rfl (sD.cell E hS kK rfl (i:=1) rfl (az (gv _)) (sD.tmp E rfl sD.nil)) ?_;exact⟨_,(Z0 a0 (Z0 a3 (Z0 a4 (Z0 b3 (Z0 a5 (Z0 a6 (Z0 e9 (Z0 f6 (Z0 b6 (Z0 c3 (Z0 h7 j4))))))))))),((hS.dropL 2).dropT 1),_,_,rfl,(kQ (az (gv _))),(aq (show inR .i64 80 from au (by decide)))⟩}
 {have h:=aG h3 h;refine aV (ak (qM E rfl λa E=>qB E rfl rfl (br rfl) λa E=>qA E rfl λa E=>ae ?_));exact⟨Z1.wrap (b2+1),(Option.some.inj h).symm,_,(Z0 c3 (Z0 h7 j4)),(aA _ _),hS,kut E⟩}}}
 {have h:=aG h6 h;refine d4 rfl rfl ?_;have h:=bY h hb228;exact⟨h,_,c3,hS,kut E⟩}}}
 {
 rintro a w ⟨h,ne,l1,hS,E⟩;unfold vY at h;refine ab (ak ?_);refine st E (aK E hS kK rfl (i:=0) rfl (az (jE.mono (Z0 b6 l1) e1))) rfl ?_;rintro fs a _ ⟨rfl,x3⟩ E;refine st0 E (dh E hS kK bW rfl rfl x3 (i:=1) rfl (gv _)) ?_;rintro _ w ⟨hq,j5,hS⟩ E;refine qA E rfl λa E=>ae (bD ?_);obtain rfl:=oi h
 try dsimp only
 refine Fin.mk E (rs:=[.cell 2 70,.tmp 3]) rfl (sD.cell E hS kK rfl (i:=1) rfl (az j5) (sD.tmp E rfl sD.nil)) ?_;exact⟨_,(Z0 a0 (Z0 a3 (Z0 a4 (Z0 b3 (Z0 a5 (Z0 a6 (Z0 e9 (Z0 f6 (Z0 b6 l1))))))))),((hS.dropL 2).dropT 1),_,_,rfl,(kQ (az j5)),(aq (show inR .i64 0 from au (by decide)))⟩}}}}}}}}}}}}
theorem UE:Ctr Sz prog 34 [.rd (.sl (.int .u8))] [.rd (.st 70),.rd (.int .i64)] (λx=>lh x.1):=by
 intro W0 m w L TL vs x r Lp Tp hS hP h;obtain⟨v0,vs,rfl,a0,W⟩:=iJ hP;obtain⟨rfl,rfl,rfl⟩:=lV W;refine rm (JD (hS:=hS) a0 h) λv w' Z=>?_;obtain⟨m',hm,Z',u0,u1,rfl,r0,J⟩:=Z;exact⟨m',[u0,u1],[],[],[],hm,Z',rfl,⟨r0,⟨J,trivial⟩⟩,trivial⟩
def UF:=mC UE call34
theorem Vx:Ctr Sz prog 9 [.rd (.st 62),.rd (.int .i64),.rd (.int .u8)] [.rd .bool] (λx=>nR x.1 x.2.1 x.2.2.1):=
 ncR [Ui,L3,L6,UF,L7] [6] func9 ntmps9 .o λx=>by kernel_rfl
theorem zW (hS:S W0 m w L TL) {p0}(a0:RV ce m v0 p0) {p1}(Z:inR .i64 p1) {p2}(J:inR .u8 p2) {r}(h:nR p0 p1 p2=some r):
    Calls prog 9 #[v0,(.int .i64 p1),(.int .u8 p2)] w (Ret λv w'=>∃m',M.le m m'/\S W0 m' w' L TL/\RV cL m' v r):=by
 refine rm (Vx W0 m w L TL [v0,(.int .i64 p1),(.int .u8 p2)] (p0,p1,p2,()) r [] [] hS ⟨a0,⟨aq Z,⟨aq J,trivial⟩⟩⟩ h) λv w' he=>?_;obtain⟨m',us,Lr,Lq,Tr,hm,Z',rfl,hR,hO⟩:=he;obtain⟨u0,us,rfl,r0,W⟩:=cM hR;obtain⟨rfl,rfl,rfl⟩:=b9 W;have a3:=bp hO;have a2:=bp a3;have a1:=bp a2;obtain rfl:=cc a1;exact⟨m',hm,Z',r0⟩
end
open Go.RowKit Go.ChangeShapes Go.ChangeAt Go.WideShapes
section
variable {P:Program}{H:Type}{enc:TypeId×Value->H}
theorem wR (hl:laidOutB P=true){W W':World}{a1:Nat}{a0:Nat->Bool}:∀{Z:List TypeId} {vs:List Value} {ds:List (DataW H)} {ps:List MemPlace},(∀t∈Z,P.readableRec t=true/\t<P.types.size)->
  DataW.TrodAll enc P W a1 (λ_=>true) true Z vs ds ps->(∀p∈ps,W.sameAt W' p)->(∀p∈ps,a0 p.block=true)->DataW.TrodAll enc P W' a1 a0 true Z vs ds ps
 |[],[],[],_,_,h,_,_=>h
 |[],[],_::_,_,_,h,_,_=>h.elim
 |[],_::_,_,_,_,h,_,_=>h.elim
 |_::_,[],_,_,_,h,_,_=>h.elim
 |_::_,_::_,[],_,_,h,_,_=>h.elim
 |t::Z,v::vs,d::ds,ps,ht,h,hs,hp=>by
  obtain⟨p,q,h1,h2,rfl⟩:=h;refine⟨p,q,WideElems.Trod_stays hl (ht t (by simp)).1 (ht t (by simp)).2 h1 (λx J=>hs x (by simp[J])) (λx J=>hp x (by simp[J])),wR hl (λt h=>ht t (by simp[h])) h2 (λx J=>hs x (by simp[J])) (λx J=>hp x (by simp[J])),rfl⟩
theorem JE {f:Func}{s:ChangeSpec}{a3 fresh b5 b0:Bool}{W Z:World}{args:Array Value}{ds gs:List (DataW H)}{J:List MemPlace}{tb:TypeId}
  (hW:DataW.Whole enc P f.params.toList s.vars a3 W args.toList ds gs J) (hl:laidOutB P=true) (ht:∀t∈f.params.toList,P.readableRec t=true/\t<P.types.size)
  (a6:s.vars=[]) (hr:f.resultTypes= #[tb]) (hb:P.underlying tb=some .bool) (a2:s.fn H (ds++gs)={ results:=[.lit (.bool true)],args:=ds }) (hB:Below W.heap.size W Z):
  s.post enc P f a3 fresh b5 b0 W args (.bool true) Z:=by
 have a1:=λp hp=>hW.lt p hp;have b2:=hW;obtain⟨p,q,hA,hV,b1,hz,hn⟩:=b2;rw[a6] at hV;obtain⟨hg,hq⟩:=trodVars_none hV;have a0:J=p:=by rw[b1,hq];simp
 have a4:∀(b:Nat) (sp:Nat->Bool) (hd:Bool),DataW.TrodAll enc P Z b sp hd f.resultTypes.toList ((Value.bool true).resultList f.resultTypes.size) (s.fn H (ds++gs)).results []:=λb sp hd=>by
  rw[hr,a2];exact trodAll_cons_mk (shut_bool hb _) trodAll_mk0
 have a5:∀sp:Nat->Bool,(∀x∈J,sp x.block=true)->DataW.TrodAll enc P Z 0 sp true f.params.toList args.toList (s.fn H (ds++gs)).args p:=λsp b4=>by
  rw[a2];refine wR hl ht hA (λx h=>hB.same (a1 x (by rw[a0];exact h))) (λx h=>b4 x (by rw[a0];exact h))
 have a9:∀sp:Nat->Bool,DataW.TrodVars enc P Z sp s.vars (s.fn H (ds++gs)).vars []:=λsp=>by
  rw[a6,a2];exact rfl
 have b3:∀x∈J,(λb=>decide (b<W.heap.size)) x.block=true:=λx h=>by simpa using a1 x h
 refine⟨ds,gs,J,[],p,[],hW,a4 _ _ _,a5 _ b3,a9 _,hB.frame _,λ_=>?_⟩;refine⟨ok_one hr rfl (okWide_bool_mk hb _),_,_,([]++p)++[],⟨[]++p,[],trodAll_append (a5 _ (λ_ _=>rfl)) (a4 _ _ _),a9 _,rfl,?_,?_⟩,?_⟩
 ·intro b off hp
  have hm:MemPlace.cell b off∈J:=by rw[a0];simpa using hp
  have:=a1 _ hm;rw[hB.frozen (p:=⟨b,off,none⟩) this];exact hz b off hm
 ·intro ha
  have:=hn ha;rw[a0] at this;simpa using this
 ·intro x h _
  rw[a0];simpa using h
structure Okw (P:Program)(W:World)(r:Reach)(b:Nat)(t:TypeId)(v:Value):Prop where
 ok:Value.okWide P W r b t v
theorem Fu {W:World}{r:Reach}{J:Nat}{Z:Array TypeId}{args:Array Value}(h:∀(j:Nat) t v,Z[j]? =some t->args[j]? =some v->Value.okWide P W r J t v)(j:Nat){t:TypeId}{v:Value}(h1:Z[j]? =some t)(h2:args[j]? =some v):Okw P W r J t v:=
 ⟨h j t v h1 h2⟩
theorem Gy {r:Reach}{b0:Nat}{W:World}{t:TypeId}{k:IntKind}{v:Value}{d:DataW H}{ps:List MemPlace}{a2:Nat}{Z:Nat->Bool}{a0:Bool}(ht:P.underlying t=some (.int k))(a1:Okw P W r b0 t v)(J:DataW.Trod enc P W a2 Z a0 t v d ps):
  ∃n,v= .int k n/\inR k n:=by
 obtain⟨n,rfl,_,_,h⟩:=open_int ht a1.ok J;refine⟨n,rfl,?_⟩;rw[mL];simpa[Lit.wf] using h
end
theorem NF {O:Type}(xs:List O):(xs.map λ_=>1).sum=xs.length:=by
 induction xs with
 |nil=>rfl
 |cons a r ih=>simp[ih];omega
theorem JF {O:Type}(f:O->Nat)(xs:List O)(h:∀x,1<=f x):xs.length<=(xs.map f).sum:=by
 induction xs with
 |nil=>simp
 |cons a r ih=>have:=h a;simp;omega
open Go.ChangeShapes Go.WideShapes Go.ChangeAt Go.RowKit
theorem own:ownKnob prog.godebug=none:=by kernel_rfl
theorem NG:laidOutB prog=true:=by kernel_rfl
theorem Lo {H:Type}(d:DataW H):1<=Rows.uptoBulk d:=by
 cases d with
 |lit l=>cases l<;>simp[Rows.uptoBulk]
 |nil=>simp[Rows.uptoBulk]
 |ptr d=>simp[Rows.uptoBulk]
 |slice elems spare=>simp[Rows.uptoBulk]
 |agg parts=>simp[Rows.uptoBulk]
 |iface t d=>simp[Rows.uptoBulk]
 |map entries=>simp[Rows.uptoBulk]
 |held h=>simp[Rows.uptoBulk]
def Vy (H:Type):GF H:={
 b:=Rows.uptoBulk
 ba:=Rows.uptoBulkAll
 str:=λs=>by simp[Rows.uptoBulk]
 one:=Lo
 slice:=λe s=>by simp[Rows.uptoBulk]
 agg:=λl=>by simp[Rows.uptoBulk]
 nil:=by simp[Rows.uptoBulkAll]
 cons:=λd r=>by simp[Rows.uptoBulkAll]}
theorem rd3:Rd prog 3 (ag .i64) (λ_=>1):=xc underlying3
def UG:Int×Bool×Int×List Int->Ap:=λx=>⟨x.1,x.2.1,x.2.2.1,x.2.2.2⟩
def Dy:Int×Bool×Int×List Int->Nat:=λx=>1+(1+(1+(x.2.2.2.length+1)))
theorem Vz:Rd prog 32 kAp (λy=>Dy (Ap.pr y)+1):=by
 refine tK (gi:=UG) (sz:=Dy) underlying32 (by kernel_rfl) ?_ (λx=>rfl);show RdF prog (_::_::_::_::[]) 0 (bL (ag .i64) (bL cL (bL (ag .i64) rF))) (λx=>1+(1+(1+(x.2.2.2.length+1))));refine lp (k:=ag .i64) (sz:=λ_=>1) (k':=bL cL (bL (ag .i64) rF)) (sz':=λx=>1+(1+(x.2.2.length+1))) (xc underlying3) rfl (by kernel_rfl) ?_;refine lp (k:=cL) (sz:=λ_=>1) (k':=bL (ag .i64) rF) (sz':=λx=>1+(x.2.length+1)) (Mo underlying4) rfl (by kernel_rfl) ?_;refine lp (k:=ag .i64) (sz:=λ_=>1) (k':=rF) (sz':=λx=>x.length+1) (xc underlying2) rfl (by kernel_rfl) ?_
 exact yo (k:=rF) (sz:=λx=>x.length+1) (NW underlying9) rfl (by kernel_rfl)
def wE (xs:List Ap):Nat:=(xs.map λy=>Dy (Ap.pr y)+1).sum+1
theorem VA:Rd prog 22 (kSl kAp) wE:=zl underlying22 (by kernel_rfl) Vz
theorem SC:Rd prog 54 (ag .u64) (λ_=>1):=xc underlying54
theorem VB:Rd prog 55 (ag .u32) (λ_=>1):=xc underlying55
def VC:Int×Int->aM:=λx=>⟨x.1,x.2⟩
theorem VD:Rd prog 57 bO (λ_=>1+1+1):=by
 refine tK (gi:=VC) (sz:=λ_:Int×Int=>1+1) underlying57 (by kernel_rfl) ?_ (λx=>rfl);show RdF prog (_::_::[]) 0 (bL (ag .u64) (ag .u32)) (λ_=>1+1);refine lp (k:=ag .u64) (sz:=λ_=>1) (k':=ag .u32) (sz':=λ_:Int=>1) SC rfl (by kernel_rfl) ?_;exact yo (k:=ag .u32) (sz:=λ_=>1) VB rfl (by kernel_rfl)
def UH:aM×List Ap×Int->aa:=λx=>⟨x.1,x.2.1,x.2.2⟩
def su (y:aa):Nat:=(1+1+1)+(wE y.fRow+1)+1
theorem VE:Rd prog 59 aj su:=by
 refine tK (gi:=UH) (sz:=λx:aM×List Ap×Int=>(1+1+1)+(wE x.2.1+1)) underlying59 (by kernel_rfl) ?_ (λx=>rfl);show RdF prog (_::_::_::[]) 0 (bL bO (bL (kSl kAp) (ag .u64))) (λx=>(1+1+1)+(wE x.2.1+1));refine lp (k:=bO) (sz:=λ_=>1+1+1) (k':=bL (kSl kAp) (ag .u64)) (sz':=λx:List Ap×Int=>wE x.1+1) VD rfl (by kernel_rfl) ?_;refine lp (k:=kSl kAp) (sz:=wE) (k':=ag .u64) (sz':=λ_:Int=>1) VA rfl (by kernel_rfl) ?_;exact yo (k:=ag .u64) (sz:=λ_=>1) SC rfl (by kernel_rfl)
def nv (xs:List aa):Nat:=(xs.map su).sum+1
theorem VF:Rd prog 50 (kSl aj) nv:=zl underlying50 (by kernel_rfl) VE
def kw (xs:List Int):Nat:=(xs.map λ_=>1).sum+1
theorem SD:Rd prog 49 (kSl (ag .i64)) kw:=zl underlying49 (by kernel_rfl) rd3
def SE:Int×List Int×List Int×List aa->dp:=λx=>⟨x.1,x.2.1,x.2.2.1,x.2.2.2⟩
def Fv (y:dp):Nat:=1+(kw y.fSort+(kw y.fKinds+nv y.fL))+1
theorem VG:Rd prog 62 ce Fv:=by
 refine tK (gi:=SE) (sz:=λx:Int×List Int×List Int×List aa=>1+(kw x.2.1+(kw x.2.2.1+nv x.2.2.2))) underlying62 (by kernel_rfl) ?_ (λx=>rfl);show RdF prog (_::_::_::_::[]) 0 (bL (ag .i64) (bL (kSl (ag .i64)) (bL (kSl (ag .i64)) (kSl aj)))) (λx=>1+(kw x.2.1+(kw x.2.2.1+nv x.2.2.2)));refine lp (k:=ag .i64) (sz:=λ_=>1) (k':=bL (kSl (ag .i64)) (bL (kSl (ag .i64)) (kSl aj))) (sz':=λx=>kw x.1+(kw x.2.1+nv x.2.2)) rd3 rfl (by kernel_rfl) ?_;refine lp (k:=kSl (ag .i64)) (sz:=kw) (k':=bL (kSl (ag .i64)) (kSl aj)) (sz':=λx=>kw x.1+nv x.2) SD rfl (by kernel_rfl) ?_
 refine lp (k:=kSl (ag .i64)) (sz:=kw) (k':=kSl aj) (sz':=nv) SD rfl (by kernel_rfl) ?_;exact yo (k:=kSl aj) (sz:=nv) VF rfl (by kernel_rfl)
theorem sp3:prog.readableRec 3=true/\3<prog.types.size:=⟨by kernel_rfl,of_decide_eq_true (by kernel_rfl)⟩
theorem sp5:prog.readableRec 5=true/\5<prog.types.size:=⟨by kernel_rfl,of_decide_eq_true (by kernel_rfl)⟩
theorem VH:prog.readableRec 62=true/\62<prog.types.size:=⟨by kernel_rfl,of_decide_eq_true (by kernel_rfl)⟩
theorem JG {n:Int}(h:inR .i64 n):cC n:=by
 have:=mL.1 h;have J:IntKind.min .i64= -9223372036854775808:=by decide
 have W:IntKind.max .i64=9223372036854775807:=by decide
 unfold cC;omega
theorem JH {n:Int}(h:inR .u64 n):0<=n/\n<18446744073709551616:=by
 have:=mL.1 h;have J:IntKind.min .u64=0:=by decide
 have W:IntKind.max .u64=18446744073709551615:=by decide
 omega
theorem UJ {n:Int}(h:inR .u8 n):0<=n/\n<256:=by
 have:=mL.1 h;have J:IntKind.min .u8=0:=by decide
 have W:IntKind.max .u8=255:=by decide
 omega
theorem SF {n:Int}(h:inR .u32 n):0<=n/\n<4294967296:=by
 have:=mL.1 h;have J:IntKind.min .u32=0:=by decide
 have W:IntKind.max .u32=4294967295:=by decide
 omega
theorem NH {m:M}{cs:List Value}{x:Ap}(W:kAp.R m cs x):VOK x:=by
 obtain⟨h,h2,Z,J⟩:=W;exact⟨JG h.2,JG Z.2,J.2.1⟩
theorem Gz {O:Type}{k:Kd O}{m:M}{cs:List Value}{xs:List O}(J:(kSl k).R m cs xs):∀x∈xs,∃cs,k.R m cs x:=λx W=>by
 obtain⟨a,len,cap,Z,h2,h3,h4,h⟩:=J;obtain⟨i,hi,rfl⟩:=List.getElem_of_mem W;cases a with
 |none=>
  have a0:cap=0:=h;omega
 |some ad=>exact⟨_,h.2 i hi⟩
theorem Mb {xs:List Int}{n:Nat}(h:kw xs<=n)(J:n<=1048576):xs.length<=1048576:=by
 unfold kw at h;rw[NF] at h;omega
theorem GA {O:Type}(f:O->Nat):∀(xs:List O) (x:O),x∈xs->f x<=(xs.map f).sum
 |y::ys,x,h=>by
  simp only[List.map_cons,List.sum_cons];rcases List.mem_cons.1 h with rfl|h
  ·omega
  ·have:=GA f ys x h;omega
theorem JI (xs:List aa):xs.length<=nv xs:=by
 have:=JF su xs (λy=>by unfold su;omega);unfold nv;omega
theorem SG {v:aa}:v.fRow.length<=su v:=by
 have:=JF (λy=>Dy (Ap.pr y)+1) v.fRow (λy=>by omega);unfold su wE;omega
theorem SH {m:M}{cs:List Value}{v:aa}(hR:aj.R m cs v)(hl:su v<=1048576):lQ v:=by
 obtain⟨W,h2,h3⟩:=hR;obtain⟨Z,J⟩:=W;refine⟨JH Z.2,SF J.2,JH h3.2,λx hx=>?_,Nat.le_trans SG hl⟩;obtain⟨cs,h⟩:=Gz h2 x hx;exact NH h
theorem Lu {P:Program}{H:Type}{enc:TypeId×Value->H}{r:Reach}{b0:Nat}{W:World}{t:TypeId}{fs:Array Field}{O:Type}{k:Kd O}{sz:O->Nat}{v:Value}{d:DataW H}{ps:List MemPlace}(B:GF H)(ht:P.underlying t=some (.struct fs))(a0:Rd P t k sz)(hk:k.agg=true)(a1:Okw P W r b0 t v)(h:DataW.Trod enc P W 0 (λ_=>true) true t v d ps)(J:B.b d<=1099511627776):
  ∃x,RV k (m0 W) v x/\sz x<=B.b d:=by
 obtain⟨cs,rfl,_⟩:=okWide_struct ht a1.ok;obtain⟨a2,Z⟩:=h;obtain⟨x,hx,hs⟩:=a0 enc B W a2 _ d ps Z J;exact⟨x,⟨_,hx,by simp[Kd.val,hk,Value.cells]⟩,hs⟩
theorem NJ {m:M}{v:Value}{c:dp}(h:RV ce m v c){n:Nat}(hs:Fv c<=n)(J:n<=1048576):I4 c:=by
 obtain⟨cs,hR,_⟩:=h;obtain⟨h1,h2,h3,h4⟩:=hR;unfold Fv at hs;refine⟨Mb (n:=n) (by omega) J,Mb (n:=n) (by omega) J,?_,λv W=>?_⟩
 ·have:=JI c.fL;omega
 ·obtain⟨cs,Z⟩:=Gz h4 v W
  have h5:=GA su c.fL v W;have h6:(c.fL.map su).sum+1=nv c.fL:=rfl;exact SH Z (by omega)
end Go.Proofs.YthbonoagbeilkaaGreat.Hay
