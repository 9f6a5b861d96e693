import Derived.Test.YthbonoagbeilkaaGreatHbkC1
import Derived.Test.YthbonoagbeilkaaGreatHbA
import Derived.Carry
import Derived.ChangeSame
import Derived.OpenShut
import Derived.JoinedCond
import Derived.Test.YthbonoagbeilkaaGreatRows
import Derived.Test.YthbonoagbeilkaaGreatHeE
set_option maxRecDepth 100000
set_option maxHeartbeats 4000000
set_option linter.unusedVariables false
namespace Go.Proofs.YthbonoagbeilkaaGreat.Hay
open Nat renaming le_of_ble_eq_true→Z2
open Bool renaming eq_false_or_eq_true→zx
open M.le renaming trans→j6,refl→Z1
open IntKind renaming i64→Z0,u8→Z3
open Go.Proofs Tryz
noncomputable section
variable{W0:Bse}{m:M}{w:World}{L:List (Nat×List Value)}{TL:List (Nat×Value)}{v0 v1 v2 v3 v4 v5 v6 v7 v8 v9:Value}
theorem Eb (hS:S W0 m w L TL){p0}(Z:RV (kSl (aj .u8)) m v0 p0){r}(h:mH p0=some r):Calls prog 34 #[v0] w (Ret λv w'=>∃m',M.le m m'/\S W0 m' w' L TL/\∃v0_ v1_:Value,v=.tuple #[v0_,v1_]/\RV f7 m' v0_ r.1/\RV (aj .i64) m' v1_ r.2):=by
 refine kc func34 ntmps34 λa E=>?_;have E:Env 216 a [(0,v0)]:=E;unfold mH at h;refine ab (ak ?_);refine st E (cF hS zeroValue70 rfl (cs:=vT)) rfl ?_;rintro _ a w⟨b1,rfl,hS⟩E;refine qA E rfl λa E=>ag (ab (ab ?_));refine cA (λa w=>∃x6:Bool,iK p0 x6=some r/\∃m',M.le m m'/\S W0 m' w ((b1,vT)::L) (TL)/\Env 216 a [(0,v0),(2,pz b1),(44,.bool x6)]) ?_ ?_;{
 refine ak (qM E rfl λa E=>sp E (bq (k:=(aj .u8)) E rfl rfl underlying24 Z) rfl λa E=>qB E rfl rfl cu λa E=>qM E rfl λa E=>?_);rcases zx (decide ((p0.length:Int)<14))with hd587|hd587
 {have h:=aH hd587 h;refine qX E hd587 λa E=>qX E hd587 λa E=>qX E hd587 λa E=>qX E hd587 λa E=>qT E hd587 rfl λa E=>qM E rfl λa E=>qX E rfl λa E=>qX E rfl λa E=>qX E rfl λa E=>qX E rfl λa E=>?_;refine qT E rfl rfl λa E=>qM E rfl λa E=>qX E rfl λa E=>qX E rfl λa E=>qX E rfl λa E=>qX E rfl λa E=>qT E rfl rfl λa E=>qM E rfl λa E=>qX E rfl λa E=>qX E rfl λa E=>?_;refine qX E rfl λa E=>qX E rfl λa E=>qT E rfl rfl λa E=>ag ?_;exact⟨true,h,_,(Z1 _),hS,kut E⟩}
 {
 have h:=aI hd587 h;refine qG E hd587 rfl λa E=>?_;obtain⟨n2,o1,h⟩:=ob h;refine stg E rfl rfl rfl rfl hd587 (be (k:=(aj .u8)) E rfl rfl underlying24 sizeOf5 Z o1) rfl ?_;rintro o2 a _⟨rfl,g3⟩E;refine stg E rfl rfl rfl rfl hd587 (aC E hS ty5 rfl g3) rfl ?_;rintro u2 a _⟨rfl,l1⟩E;obtain⟨rfl,r7⟩:=aF l1;refine spg E rfl rfl rfl rfl hd587 (bg E rfl rfl mS) rfl λa E=>qF E hd587 rfl λa E=>qM E rfl λa E=>?_;rcases zx (n2 !=72)with hd606|hd606
 {have h:=aH hd606 h;refine qX E hd606 λa E=>qX E hd606 λa E=>qX E hd606 λa E=>qX E hd606 λa E=>qT E hd606 rfl λa E=>qM E rfl λa E=>qX E rfl λa E=>qX E rfl λa E=>qX E rfl λa E=>qX E rfl λa E=>?_;refine qT E rfl rfl λa E=>qM E rfl λa E=>qX E rfl λa E=>qX E rfl λa E=>qX E rfl λa E=>qX E rfl λa E=>qT E rfl rfl λa E=>ag ?_;exact⟨true,h,_,(Z1 _),hS,kut E⟩}
 {
 have h:=aI hd606 h;refine qG E hd606 rfl λa E=>?_;obtain⟨h4,j1,h⟩:=ob h;refine stg E rfl rfl rfl rfl hd606 (be (k:=(aj .u8)) E rfl rfl underlying24 sizeOf5 Z j1) rfl ?_;rintro q0 a _⟨rfl,e6⟩E;refine stg E rfl rfl rfl rfl hd606 (aC E hS ty5 rfl e6) rfl ?_;rintro s3 a _⟨rfl,k7⟩E;obtain⟨rfl,o3⟩:=aF k7;refine spg E rfl rfl rfl rfl hd606 (bg E rfl rfl mS) rfl λa E=>qF E hd606 rfl λa E=>qM E rfl λa E=>?_;rcases zx (h4 !=65)with hd623|hd623
 {have h:=aH hd623 h;refine qX E hd623 λa E=>qX E hd623 λa E=>qX E hd623 λa E=>qX E hd623 λa E=>qT E hd623 rfl λa E=>qM E rfl λa E=>qX E rfl λa E=>qX E rfl λa E=>qX E rfl λa E=>qX E rfl λa E=>?_;refine qT E rfl rfl λa E=>ag ?_;exact⟨true,h,_,(Z1 _),hS,kut E⟩}
 {
 have h:=aI hd623 h;refine qG E hd623 rfl λa E=>?_;obtain⟨m7,l4,h⟩:=ob h;refine stg E rfl rfl rfl rfl hd623 (be (k:=(aj .u8)) E rfl rfl underlying24 sizeOf5 Z l4) rfl ?_;rintro p7 a _⟨rfl,g0⟩E;refine stg E rfl rfl rfl rfl hd623 (aC E hS ty5 rfl g0) rfl ?_;rintro t5 a _⟨rfl,m8⟩E;obtain⟨rfl,t0⟩:=aF m8;refine spg E rfl rfl rfl rfl hd623 (bg E rfl rfl mS) rfl λa E=>qF E hd623 rfl λa E=>qM E rfl λa E=>?_;rcases zx (m7 !=89)with hd638|hd638
 {have h:=aH hd638 h;refine qX E hd638 λa E=>qX E hd638 λa E=>qX E hd638 λa E=>qX E hd638 λa E=>qT E hd638 rfl λa E=>ag ?_;exact⟨true,h,_,(Z1 _),hS,kut E⟩}
 {have h:=aI hd638 h;refine qG E hd638 rfl λa E=>?_;obtain⟨h9,f3,h⟩:=ob h;refine stg E rfl rfl rfl rfl hd638 (be (k:=(aj .u8)) E rfl rfl underlying24 sizeOf5 Z f3) rfl ?_;rintro s1 a _⟨rfl,m2⟩E;refine stg E rfl rfl rfl rfl hd638 (aC E hS ty5 rfl m2) rfl ?_;rintro r6 a _⟨rfl,m1⟩E;obtain⟨rfl,t9⟩:=aF m1;refine spg E rfl rfl rfl rfl hd638 (bg E rfl rfl mS) rfl λa E=>qF E hd638 rfl λa E=>ag ?_;exact⟨(h9 !=49),h,_,(Z1 _),hS,kut E⟩}}}}};{
 rintro a w⟨x6,h,m4,a0,hS,E⟩;unfold iK at h;refine kif E rfl (λd0=>?_) (λd0=>?_)
 {
 have h:=aH d0 h;refine ab (ak (sp E (tU E rfl underlying70 (pl:=[(0,1),(1,1),(2,1)]) rfl zeroValue70) rfl λa E=>?_));refine st0 E (sE E hS ya rfl rfl rfl (qh _) (i:=0) rfl rfl) ?_;rintro _ w hS E;refine qA E rfl λa E=>ag (bK ?_);obtain rfl:=oi h
 try dsimp only
 refine Fin.mk E (rs:=[.cell 2 70,.tmp 3]) rfl (tR.cell E hS ya rfl (i:=0) rfl (aL (qh _)) (tR.tmp E rfl tR.nil)) ?_;exact⟨_,a0,(hS.dropL 1),_,_,rfl,(vZ (aL (qh _))),(ax (show inR .i64 80 from az (by decide)))⟩}
 {
 have h:=aI d0 h;refine a7 (ab (ak (qM E rfl λa E=>sp E (bq (k:=(aj .u8)) E rfl rfl underlying24 (Z.mono a0)) rfl λa E=>qB E rfl rfl (kf rfl) λa E=>qA E rfl λa E=>ag (ab (ab ?_)))));obtain⟨i2,h6,e5,j2,h⟩:=ob2 h;obtain⟨g7,n3,h⟩:=ob h
 refine kch (k:=7) (m:=m4) (es:=[]) (Φ:=(λi m ws v=>match i with|0=>v=v0|1=>ei .i64 (Z0.wrap ((p0.length:Int)-4)) v|2=>RV (kSl (aj .u8)) m v i2|3=>ei .u64 e5 v|4=>v=v0|5=>ei .i64 (Z0.wrap ((p0.length:Int)-4)) v|6=>RV (kSl (aj .u8)) m v g7|_=>True)) (Q:=(λc m ws L' b6=>match c with|0=>(b1,vT)::L=L'/\TL=b6|_=>False)) (cs:=[jc [(0,v0)],jc [(4,.int .i64 (Z0.wrap ((p0.length:Int)-4)))],jc [],jc [],jc [(0,v0)],jc [(4,.int .i64 (Z0.wrap ((p0.length:Int)-4)))],jc []]) mixed E hS ⟨rfl,rfl⟩ rfl rfl (by kernel_rfl) ?_ ?_ ?_ ?_
 {
 intro i m_ c0 ws v n_ q_
 iterate 7 (rcases i with _|i;first|exact q_|exact RV.mono q_ n_)
 exact trivial}
 {
 intro c m_ c0 ws L_ T_ n_ a6
 match c,a6 with
 |0,⟨c5,c1⟩=>exact⟨c5,c1⟩|_+1,a6=>exact a6.elim}
 {
 refine⟨?_,?_,?_,?_,?_,?_,?_,trivial⟩
 {exact cmv λ_ _=>rfl}
 {exact cmv λ_ _=>⟨rfl,(aG _ _)⟩}
 {refine cp0 λ_ _ _ _ _ _ _ M' _ J W T'=>?_;have E:=(W.add (T' 0)).add (T' 1).1;exact cr (dy (k:=(aj .u8)) E rfl underlying24 sizeOf5 (Z.mono (j6 a0 M')) ⟨_,rfl⟩ rfl h6 (xl:=(some (.tmp 50))) (xh:=none)) J λ_ h=>h}
 {refine cp0 λ_ _ _ m' a' _ _ _ _ J W T'=>?_;obtain⟨h3,E,j5⟩:=adv W (T' 2);refine a8.imp (aT (vs:=[h3]) E rfl call59 (KW (hS:=J) j5 j2)) ?_;rintro p5 w⟨q6,f4,hS,i5⟩;obtain⟨rfl,g8⟩:=aF i5;exact⟨_,f4,hS,⟨rfl,g8⟩⟩}
 {exact cmv λ_ _=>rfl}
 {exact cmv λ_ _=>⟨rfl,(aG _ _)⟩}
 {refine cp0 λ_ _ _ _ _ _ _ M' _ J W T'=>?_;have E:=(W.add (T' 4)).add (T' 5).1;exact cr (dy (k:=(aj .u8)) E rfl underlying24 sizeOf5 (Z.mono (j6 a0 M')) rfl ⟨_,rfl⟩ n3 (xl:=none) (xh:=(some (.tmp 54)))) J λ_ h=>h}}
 {
 intro g2 L_ T_ q5 a w i1 a4 j0 hS k3 m9 h8 e3;obtain rfl:=eS i1;obtain⟨rfl,rfl⟩:=j0;have E:=eof 7 [(0,v0),(2,pz b1),(4,.int .i64 (Z0.wrap ((p0.length:Int)-4))),(44,.bool x6),(46,v0),(47,.int .i64 (p0.length:Int)),(48,.int .i64 (Z0.wrap ((p0.length:Int)-4)))] k3 m9 h8;have E:=E.add (e3 3).1;obtain⟨k0,E,g1⟩:=adv E (e3 6);obtain⟨r8,k6,h⟩:=ob h;refine st E (aT (vs:=[k0]) E rfl call56 (MP (hS:=hS) g1 k6)) rfl ?_;rintro s2 a w⟨e4,a9,hS,h5⟩E;obtain⟨rfl,p8⟩:=aF h5
 refine sp E (fC E rfl underlying55 underlying54 rfl) rfl λa E=>qB E rfl rfl mS λa E=>ag (kif E rfl (λd1=>?_) (λd1=>?_))
 {
 have h:=aH d1 h;refine ab (ak (sp E (tU E rfl underlying70 (pl:=[(0,1),(1,1),(2,1)]) rfl zeroValue70) rfl λa E=>?_));refine st0 E (sE E hS ya rfl rfl rfl (qh _) (i:=0) rfl rfl) ?_;rintro _ w hS E;refine qA E rfl λa E=>ag (bK ?_);obtain rfl:=oi h
 try dsimp only
 refine Fin.mk E (rs:=[.cell 2 70,.tmp 3]) rfl (tR.cell E hS ya rfl (i:=0) rfl (aL (qh _)) (tR.tmp E rfl tR.nil)) ?_;exact⟨_,(j6 a0 (j6 a4 a9)),(hS.dropL 1),_,_,rfl,(vZ (aL (qh _))),(ax (show inR .i64 80 from az (by decide)))⟩}
 {
 have h:=aI d1 h;refine a7 (ab (ak (qM E rfl λa E=>?_)));obtain⟨a3,i8,h⟩:=ob h;refine st E (be (k:=(aj .u8)) E rfl rfl underlying24 sizeOf5 (Z.mono (j6 a0 (j6 a4 a9))) i8) rfl ?_;rintro w0 a _⟨rfl,h0⟩E;refine st E (aC E hS ty5 rfl h0) rfl ?_;rintro r4 a _⟨rfl,k4⟩E;obtain⟨rfl,t3⟩:=aF k4;refine sp E (fC E rfl underlying5 underlying3 rfl) rfl λa E=>sp E (Lk (pl:=[(0,1),(1,1),(2,1)]) (cs:=[(.int .i64 (Z0.wrap a3)),.slice none 0 0,.slice none 0 0]) E rfl underlying70 rfl zeroValue70 rfl) rfl λa E=>?_;refine st E (cF hS zeroValue70 rfl (cs:=vT)) rfl ?_
 rintro _ a w⟨a1,rfl,hS⟩E;refine st0 E (sE E hS ya rfl rfl rfl (Fh (k:=f7) (pl:=[(0,1),(1,1),(2,1)]) (pv:=[(0,.int .i64 (Z0.wrap a3))]) (x0:=aX.zero) (xx:=(⟨Z0.wrap a3,[],[]⟩:aX)) (cs:=[(.int .i64 (Z0.wrap a3)),.slice none 0 0,.slice none 0 0]) (z:=.agg vT.toArray) qh (.cons rfl Gv (ax (aG _ _)) .nil) rfl) (i:=0) rfl rfl) ?_;rintro _ w hS E;refine ag (ab (ak (qM E rfl λa E=>?_)));obtain⟨a2,e8,h⟩:=ob h;refine st E (be (k:=(aj .u8)) E rfl rfl underlying24 sizeOf5 (Z.mono (j6 a0 (j6 a4 a9))) e8) rfl ?_;rintro r9 a _⟨rfl,o0⟩E
 refine st E (aC E hS ty5 rfl o0) rfl ?_;rintro r2 a _⟨rfl,l2⟩E;obtain⟨rfl,s4⟩:=aF l2;refine sp E (fC E rfl underlying5 underlying3 rfl) rfl λa E=>qB E rfl rfl (cp rfl) λa E=>qA E rfl λa E=>ag (ab (ab (ak (qM E rfl λa E=>qM E rfl λa E=>qB E rfl rfl (cp rfl) λa E=>?_))));refine qB E rfl rfl cu λa E=>ag (kif E rfl (λc3=>?_) (λc3=>?_))
 {
 have h:=aH c3 h;refine ab (ak (sp E (tU E rfl underlying70 (pl:=[(0,1),(1,1),(2,1)]) rfl zeroValue70) rfl λa E=>?_));refine st0 E (sE E hS ya rfl rfl rfl (qh _) (i:=1) rfl rfl) ?_;rintro _ w hS E;refine qA E rfl λa E=>ag (bK ?_);obtain rfl:=oi h
 try dsimp only
 refine Fin.mk E (rs:=[.cell 2 70,.tmp 3]) rfl (tR.cell E hS ya rfl (i:=1) rfl (aL (qh _)) (tR.tmp E rfl tR.nil)) ?_;exact⟨_,(j6 a0 (j6 a4 a9)),(hS.dropL 2),_,_,rfl,(vZ (aL (qh _))),(ax (show inR .i64 80 from az (by decide)))⟩}
 {
 have h:=aI c3 h;refine a7 (ab (ab (ak (qA E rfl λa E=>ag ?_))));refine cA (λa w=>∃x128:aX,xD p0 a2 x128=some r/\∃m',M.le e4 m'/\∃(b4:List Value),∃(c4:Value),f7.R m' b4 x128/\b4[1]?=some c4/\S W0 m' w ((a1,b4)::(b1,vT)::L) ((1,c4)::TL)/\Env 216 a [(0,v0),(2,pz b1),(4,.int .i64 (Z0.wrap ((p0.length:Int)-4))),(5,pz a1),(6,.int .i64 (Z0.wrap (6+(Z0.wrap a2))))]) ?_ ?_
 {
 refine bj ?_;refine fN h (λ(s:Int×aX)a w=>∃m',M.le e4 m'/\∃(b3:List Value),∃(a5:Value),inR .i64 s.1/\f7.R m' b3 s.2/\b3[1]?=some a5/\S W0 m' w ((a1,b3)::(b1,vT)::L) ((1,a5)::TL)/\Env 216 a [(0,v0),(2,pz b1),(4,.int .i64 (Z0.wrap ((p0.length:Int)-4))),(5,pz a1),(6,.int .i64 (Z0.wrap (6+(Z0.wrap a2)))),(7,.int .i64 s.1)]) ?_ ?_
 {exact⟨_,(Z1 _),[(.int .i64 (Z0.wrap a3)),.slice none 0 0,.slice none 0 0],(.slice none 0 0),(show inR .i64 6 from az (by decide)),(Fh (k:=f7) (pl:=[(0,1),(1,1),(2,1)]) (pv:=[(0,.int .i64 (Z0.wrap a3))]) (x0:=aX.zero) (xx:=(⟨Z0.wrap a3,[],[]⟩:aX)) (cs:=[(.int .i64 (Z0.wrap a3)),.slice none 0 0,.slice none 0 0]) (z:=.agg vT.toArray) qh (.cons rfl Gv (ax (aG _ _)) .nil) rfl),rfl,(hS.tail0 1),kut E⟩}
 {
 rintro⟨b0,x505⟩a w⟨h1,c2,b3,a5,n6,b5,b7,hS,E⟩r510 h hb511;have h:q8 p0 a2 b0 x505=some r510:=h;unfold q8 at h;refine ab (ab (ak (qM E rfl λa E=>qM E rfl λa E=>qB E rfl rfl cu λa E=>ag (kif E rfl (λc7=>?_) (λc7=>?_)))))
 {
 have h:=aH c7 h;refine a7 (ab (bj ?_));obtain⟨b2,m6,h⟩:=ob h
 refine kch (k:=8) (m:=h1) (es:=[]) (Φ:=(λi m ws v=>match i with|0=>v=(.pointer (some ⟨a1,1,none⟩))|1=>v=a5|2=>v=v0|3=>ei .i64 b0 v|4=>PR (aj .u8) m v b2|5=>ei .u8 b2 v|6=>ei .i64 (Z0.wrap b2) v|7=>RV (kSl (aj .i64)) m v ([Z0.wrap b2])|_=>True)) (Q:=(λc m ws L' b6=>match c with|0=>(a1,b3)::(b1,vT)::L=L'/\(1,a5)::TL=b6|_=>False)) (cs:=[jc [(5,pz a1)],jc [],jc [(0,v0)],jc [(7,.int .i64 b0)],jc [],jc [],jc [],jc []]) mixed E hS ⟨rfl,rfl⟩ rfl rfl (by kernel_rfl) ?_ ?_ ?_ ?_
 {
 intro i m_ c0 ws v n_ q_
 iterate 8 (rcases i with _|i;first|exact q_|exact PR.mono q_ n_|exact RV.mono q_ n_)
 exact trivial}
 {
 intro c m_ c0 ws L_ T_ n_ a6
 match c,a6 with
 |0,⟨c5,c1⟩=>exact⟨c5,c1⟩|_+1,a6=>exact a6.elim}
 {
 refine⟨?_,?_,?_,?_,?_,?_,?_,?_,trivial⟩
 {refine cp0 λ_ _ _ _ _ _ _ _ _ J W _=>?_;exact cq (aK W GB rfl) J rfl}
 {refine cp1 λ_ _ _ _ _ M' Q' J W T'=>?_;obtain⟨rfl,rfl⟩:=Q';have E:=W.add (T' 0);exact cq (ru (k:=(aj .i64)) (xx:=x505.fSort) (v:=a5) E J ri rfl (i:=0) rfl (QE.R_drop (aL (f7.mono M' b5))) b7) J rfl}
 {exact cmv λ_ _=>rfl}
 {exact cmv λ_ _=>⟨rfl,n6⟩}
 {refine cp0 λ_ _ _ _ _ _ _ M' _ J W T'=>?_;have E:=(W.add (T' 2)).add (T' 3).1;exact cr (be (k:=(aj .u8)) E rfl rfl underlying24 sizeOf5 (Z.mono (j6 a0 (j6 a4 (j6 a9 (j6 c2 M'))))) m6) J λ_ h=>h}
 {
 refine cp0 λ_ _ _ m' a' _ _ _ _ J W T'=>?_;obtain⟨r3,n4,e7⟩:∃v,a'.tmps.getD 84 undef=v/\(PR (aj .u8) m' v b2):=⟨_,rfl,T' 4⟩
 have E:=W.add (n4);exact cr (aC E J ty5 rfl e7) J λ_ h=>aF h}
 {refine cp0 λ_ _ _ _ _ _ _ _ _ J W T'=>?_;have E:=W.add (T' 5).1;exact cq (fC E rfl underlying5 underlying3 rfl) J ⟨rfl,(aG _ _)⟩}
 {refine cp0 λ_ _ _ _ _ _ _ _ _ J W T'=>?_;obtain⟨j3,g9⟩:=T' 6;have E:=W.add j3;refine a8.imp (gA (k:=(aj .i64)) (xs:=[Z0.wrap b2]) (vs:=[(.int .i64 (Z0.wrap b2))]) E J rfl underlying49 sizeOf3 zeroValue3 ⟨(ax g9),trivial⟩ rfl (by decide)) ?_;rintro q7 w⟨p4,h2,hS,i0⟩;exact⟨_,h2,(hS.dropT 1),i0⟩}}
 {
 intro g2 L_ T_ t1 a w g6 c6 e9 hS i3 f0 n0 e0;obtain rfl:=eS g6;obtain⟨rfl,rfl⟩:=e9;have E:=eof 8 [(0,v0),(2,pz b1),(4,.int .i64 (Z0.wrap ((p0.length:Int)-4))),(5,pz a1),(6,.int .i64 (Z0.wrap (6+(Z0.wrap a2)))),(7,.int .i64 b0),(75,.int .i64 b0),(76,.int .i64 (Z0.wrap (6+(Z0.wrap a2)))),(77,.bool (decide (b0<(Z0.wrap (6+(Z0.wrap a2))))))] i3 f0 n0;have E:=E.add (e0 1);obtain⟨p6,E,g5⟩:=adv E (e0 7);obtain⟨j4,k5,h⟩:=ob h
 refine st E (iM (k:=(aj .i64)) (N:=17592186044416) E hS rfl rfl underlying49 underlying49 el3 (i:=0) rfl ((zU (k:=(aj .i64)) (QE.R_drop (aL b5)) b7).mono c6) g5 k5 rfl rfl) rfl ?_;rintro h7 a w⟨p3,e1,hS,i4⟩E;refine sp E (aK E GB rfl) rfl λa E=>?_;refine st0 E (w8 E hS ri KG rfl rfl i4 (i:=0) rfl (f7.mono (j6 c6 e1) b5)) ?_;rintro _ w⟨f5,f6,m5,hS⟩E;refine ag (ak (qM E rfl λa E=>qB E rfl rfl (cp rfl) λa E=>qA E rfl λa E=>ag ?_))
 exact⟨(Z0.wrap (b0+1),{x505 with fSort:=j4}),(Option.some.inj h).symm,_,(j6 c2 (j6 c6 e1)),f5,h7,(aG _ _),f6,m5,hS,kut E⟩}}
 {have h:=aI c7 h;refine fe rfl rfl ?_;have h:=cg h hb511;exact⟨x505,h,_,c2,b3,a5,b5,b7,hS,kut E⟩}}}
 {
 rintro a w⟨x128,h,r5,d2,b4,c4,n1,t4,hS,E⟩
 refine wj (G:=Sz) (Γ:=Γ) (D:=[Nw,Au,VN,Vs,VH,VJ]) (rs:=[.rd (.st 70),.rd (.int .i64)]) (res:=[.cell 2 70,.tmp 3]) (ps:=[.rd (.sl (.int .u8)),.rd (.int .i64),.rd (.int .i64),.pt (.st 70),.pt (.st 70)]) (sl:=[0,4,6,5,2]) (vs:=[v0,(.int .i64 (Z0.wrap ((p0.length:Int)-4))),(.int .i64 (Z0.wrap (6+(Z0.wrap a2)))),(pz a1),(pz b1)]) (x:=(p0,(Z0.wrap ((p0.length:Int)-4)),(Z0.wrap (6+(Z0.wrap a2))),x128,aX.zero,())) (Lp:=[(a1,b4),(b1,vT)]) (Tp:=[]) (.s .o (.s .o (.s .o (.s .o (.s (.s .o (.b (.l ⟨[.v 6 1 (.dat (.int .i64) none),.v 9 1 (.dat (.sl (.sl (.st 32))) (some 0)),.v 10 1 (.dat (.int .i64) none)],[0,2,4,5,8],2,[1]⟩ .o))) (.s .o (.s .o (.s .o (.s (.s .o (.b (.l ⟨[.v 16 1 (.dat (.int .i64) none)],[2,5,14],2,[1]⟩ .o))) .o))))))))) E (hS.dropT 1) ⟨Z.mono (j6 a0 (j6 a4 (j6 a9 d2))),ax (aG _ _),ax (aG _ _),n1,rfl,qh _,rfl,trivial⟩ h (by kernel_rfl) mixed (λv w' m' us Lr Tr q1 q2 q3 q4=>?_)
 obtain⟨u0,us,rfl,r0,g4⟩:=cN q4;obtain⟨u1,us,rfl,r1,l3⟩:=cN g4;obtain⟨rfl,rfl,rfl⟩:=cH l3;subst q3;exact⟨m',(j6 (j6 a0 (j6 a4 (j6 a9 d2))) q1),q2,_,_,rfl,r0,r1⟩}}}}}}
theorem VO:Ctr Sz prog 34 [.rd (.sl (.int .u8))] [.rd (.st 70),.rd (.int .i64)] (λx=>mH x.1):=by intro W0 m w L TL vs x r Lp Tp hS Z h;obtain⟨v0,vs,rfl,a0,J⟩:=cT Z;obtain⟨rfl,rfl,rfl⟩:=eT J;refine rm (Eb (hS:=hS) a0 h) λv w' W=>?_;obtain⟨m',hm,Z',u0,u1,rfl,r0,r1⟩:=W;exact⟨m',[u0,u1],[],[],[],hm,Z',rfl,⟨r0,⟨r1,trivial⟩⟩,trivial⟩
def VP:=mC VO call34
theorem VQ:Ctr Sz prog 75 [.ap (.int .u8),.rd (.int .i64)] [.ap (.int .u8)] (λx=>lu x.1 x.2.1):=ncR [] [4] func75 ntmps75 .o λx=>by kernel_rfl
def VR:=mC VQ call75
theorem VT:Ctr Sz prog 77 [.rd (.int .i64),.rd (.int .i64),.rd (.sl (.st 59))] [.ap (.st 32)] (λx=>oA x.1 x.2.1 x.2.2.1):=ncR [CB] [6] func77 ntmps77 (.s .o (.s .o (.s (.s .o (.b (.l ⟨[.v 7 1 (.dat (.sl (.st 32)) (some 0)),.v 12 1 (.dat (.int .i64) none)],[0,1,10,11],0,[4]⟩ .o))) .o))) λx=>by kernel_rfl
def VU:=mC VT call77
theorem vY{σ:Type}{I:M->σ->Mem->Tls->Prop}{step:σ->(List Ap)->Option (σ×Bool)}{B:σ->Bse}{v0:Value}{m:M}{w:World}{L:Mem}{TL:Tls}{a9:σ}{b1:Mem}{a3:Tls}(mono:∀m m' s a b,M.le m m'->I m s a b->I m' s a b)(hy:yD prog (Rv1 (kSl kAp)) B v0 I step)(e6:I m a9 b1 a3)(hS:S (B a9) m w (b1++L) (a3++TL)){v1:Value}{p1:List Ap}(b2:PR (kSl kAp) m v1 p1){v2:Value}{p2:Int}(b6:PR (aj .i64) m v2 p2){r:σ}(h:gI step a9 p1 p2=some r):Calls prog 177 #[v0,v1,v2] w (Ret λ_ w'=>∃m' Ls' TLs',M.le m m'/\I m' r Ls' TLs'/\S (B r) m' w' (Ls'++L) (TLs'++TL)):=by
 refine wU (args:=[v0,v1,v2]) func177 rfl ntmps177 (Z2 rfl) λa E=>?_;have E:Env 31 a [(0,v0),(1,v1),(2,v2)]:=E;unfold gI at h;refine ab (ak (qA E rfl λa E=>ag (bj ?_)));refine fN h (λ(s:Int×σ)a w=>∃m',M.le m m'/\∃(a1:Mem),∃(a2:Tls),inR .i64 s.1/\I m' s.2 a1 a2/\S (B s.2) m' w ((a1++L)) ((a2++TL))/\Env 31 a [(0,v0),(1,v1),(2,v2),(4,.int .i64 s.1)]) ?_ ?_;{exact⟨_,(Z1 _),b1,a3,(show inR .i64 0 from az (by decide)),e6,hS,kut E⟩};{
 rintro⟨x9,c7⟩a w⟨m7,W,a1,a2,e1,c0,hS,E⟩r15 h hb16;have h:cR step p1 p2 x9 c7=some r15:=h;unfold cR at h;refine ab (ab (ak (qM E rfl λa E=>?_)));refine st E (aC E hS jw rfl (b2.mono W)) rfl ?_;rintro g0 a _⟨rfl,g1⟩E;refine sp E (bq (k:=kAp) E rfl rfl underlying22 g1) rfl λa E=>qB E rfl rfl cu λa E=>ag (kif E rfl (λa5=>?_) (λa5=>?_))
 {
 have h:=aH a5 h;refine a7 (ab (bj (ab ?_)));obtain⟨c1,e3,h⟩:=ob h;refine kch (k:=5) (m:=m7) (es:=[]) (Φ:=(λi m ws v=>match i with|0=>ei .i64 p2 v|1=>RV (kSl kAp) m v p1|2=>ei .i64 x9 v|3=>RV (kSl kAp) m v c1|4=>ei .i64 (c1.length:Int) v|_=>True)) (Q:=(λc m ws L' d2=>match c with|0=>(a1++L)=L'/\(a2++TL)=d2|_=>False)) (cs:=[jc [(2,v2)],jc [(1,v1)],jc [(4,.int .i64 x9)],jc [],jc []]) mixed E hS ⟨rfl,rfl⟩ rfl rfl (by kernel_rfl) ?_ ?_ ?_ ?_
 {
 intro i m_ f4 ws v n_ q_
 iterate 5 (rcases i with _|i;first|exact q_|exact RV.mono q_ n_)
 exact trivial}
 {
 intro c m_ f4 ws L_ T_ n_ a6
 match c,a6 with
 |0,⟨c4,e7⟩=>exact⟨c4,e7⟩|_+1,a6=>exact a6.elim}
 {
 refine⟨?_,?_,?_,?_,?_,trivial⟩
 {refine cp0 λ_ _ _ _ _ _ _ M' _ J Z _=>?_;exact cr (aC Z J ty3 rfl (b6.mono (j6 W M'))) J λ_ h=>aF h}
 {refine cp0 λ_ _ _ _ _ _ _ M' _ J Z _=>?_;exact cr (aC Z J jw rfl (b2.mono (j6 W M'))) J λ_ h=>h}
 {exact cmv λ_ _=>⟨rfl,e1⟩}
 {
 refine cp0 λ_ _ _ m' a' _ _ _ _ J Z T'=>?_;obtain⟨g6,c5,f5⟩:∃v,a'.tmps.getD 14 undef=v/\(RV (kSl kAp) m' v p1):=⟨_,rfl,T' 1⟩
 have E:=(Z.add (c5)).add (T' 2).1;exact cr (dy (k:=kAp) E rfl underlying22 sizeOf32 f5 ⟨_,rfl⟩ rfl e3 (xl:=(some (.tmp 15))) (xh:=none)) J λ_ h=>h}
 {refine cp0 λ_ _ _ m' a' _ _ _ _ J Z T'=>?_;obtain⟨g8,E,b4⟩:=adv Z (T' 3);exact cq (bq (k:=kAp) E rfl rfl underlying22 b4) J ⟨rfl,(eD (jg b4))⟩}}
 {
 intro h2 L_ T_ h0 a w e9 a0 e5 hS c6 g2 d1 b3;obtain rfl:=eS e9;obtain⟨rfl,rfl⟩:=e5;have E:=eof 5 [(0,v0),(1,v1),(2,v2),(4,.int .i64 x9),(6,.int .i64 x9),(7,g0),(8,.int .i64 (p1.length:Int)),(9,.bool (decide (x9<(p1.length:Int))))] c6 g2 d1;have E:=(E.add (b3 0).1).add (b3 4).1;refine sp E (Bz E rfl rfl) rfl λa E=>qA E rfl λa E=>ag (ab (ak (qM E rfl λa E=>?_)));refine st E (aC E hS jw rfl (b2.mono (j6 W a0))) rfl ?_;rintro g9 a _⟨rfl,e0⟩E
 refine qM E rfl λa E=>qM E rfl λa E=>qM E rfl λa E=>qB E rfl rfl (cp rfl) λa E=>qM E rfl λa E=>qM E rfl λa E=>qB E rfl rfl (cp rfl) λa E=>?_;obtain⟨g4,e8,h⟩:=ob h;refine st E (HZ (k:=kAp) E rfl underlying22 sizeOf32 e0 rfl rfl rfl e8) rfl ?_;rintro e4 a _⟨rfl,f0⟩E;obtain⟨f6,d0,h⟩:=ob h;refine st E (hy _ _ L TL _ _ _ [e4] _ _ _ (mono _ _ _ _ _ a0 c0) hS ⟨_,rfl,f0⟩ d0 _ _ _ _ _ _ _ _ _ (E.eval rfl) (gU E rfl)) rfl ?_;rintro g7 a w⟨c3,g3,b7,b5,b0,c2,hS⟩E;obtain rfl:=c3
 refine sp E (lD E rfl) rfl λa E=>ag (kif E rfl (λa4=>?_) (λa4=>?_))
 {
 have h:=aH a4 h;refine bK ?_;have h:=cg h hb16;obtain rfl:=oi h
 try dsimp only
 refine Fin.mk E (rs:=[]) rfl tR.nil ?_;exact⟨_,b7,b5,(j6 W (j6 a0 b0)),c2,hS⟩}
 {have h:=aI a4 h;refine a7 (ak (qM E rfl λa E=>?_));refine st E (aC E hS ty3 rfl (b6.mono (j6 W (j6 a0 b0)))) rfl ?_;rintro h1 a _⟨rfl,f3⟩E;obtain⟨rfl,g5⟩:=aF f3;refine qB E rfl rfl (cp rfl) λa E=>qA E rfl λa E=>ag ?_;exact⟨(Z0.wrap (x9+p2),f6.1),(Option.some.inj h).symm,_,(j6 W (j6 a0 b0)),b7,b5,(aG _ _),c2,hS,kut E⟩}}}
 {
 have h:=aI a5 h;refine fe rfl rfl ?_;have h:=cg h hb16;obtain rfl:=oi h
 try dsimp only
 refine Fin.mk E (rs:=[]) rfl tR.nil ?_;exact⟨_,a1,a2,W,c0,hS⟩}}
theorem uL{m:M}{v1:Value}{p1:List Ap}(J:PR (kSl kAp) m v1 p1){v2:Value}{p2:Int}(W:PR (aj .i64) m v2 p2){xs:List (List Ap)}(h:gt p1 p2=some xs):zR prog (Rv1 (kSl kAp)) 177 #[v1,v2] m xs:=by intro σ I step B y m1 w L TL s Ls TLs r mono hle hy hI hS hf;exact vY mono hy hI hS (J.mono hle) (W.mono hle) (tw h hf)
theorem yb (hS:S W0 m w L TL){p0}(a5:RV (kSl kAp) m v0 p0){p1}(b7:inR .i64 p1){r}(h:iS p0 p1=some r):Calls prog 134 #[v0,(.int .i64 p1)] w (Ret λv w'=>∃m',M.le m m'/\S W0 m' w' L TL/\ItV prog (Rv1 (kSl kAp)) m' v r):=by
 refine kc func134 ntmps134 λa E=>?_;have E:Env 9 a [(0,v0),(1,.int .i64 p1)]:=E;unfold iS at h;refine ab (ak ?_);refine st E (je (k:=(kSl kAp)) E hS rfl a5) rfl ?_;rintro _ a w⟨J,b0,rfl,b2,hS⟩E;refine st E (je (k:=(aj .i64)) E hS rfl (ax b7)) rfl ?_;rintro _ a w⟨b5,b4,rfl,a0,hS⟩E;refine qA E rfl λa E=>ag (ab (ab (ak ?_)));refine st E (aM E hS ty3 rfl (i:=0) rfl (aL a0)) rfl ?_;rintro c1 a _⟨rfl,b3⟩E;obtain⟨rfl,c0⟩:=aF b3;refine qB E rfl rfl cu λa E=>ag ?_;refine cA (λa w=>i6 p0 p1=some r/\∃m',M.le m m'/\S W0 m' w ((b5,b4)::(J,b0)::L) (TL)/\Env 9 a [(2,pz J),(3,pz b5)]) ?_ ?_;{
 refine kif E rfl (λZ=>?_) (λZ=>?_)
 {have h:=aH Z h;cases h}
 {have h:=aI Z h;refine a7 ?_;exact⟨h,_,(Z1 _),hS,kut E⟩}};{
 rintro a w⟨h,c3,W,hS,E⟩;unfold i6 at h;refine ab (ak ?_);obtain⟨c2,a1,hS,a3⟩:=S.freezeL (k:=(kSl kAp)) (hS.pickL 2 [1,0] rfl rfl rfl) ((kSl kAp).mono W b2);obtain⟨a6,a2,hS,b6⟩:=S.freezeL (k:=(aj .i64)) hS ((aj .i64).mono (j6 W a1) a0);obtain⟨a9,a4,h⟩:=ob h;refine sp E (lE E rfl rfl) rfl λa E=>qA E rfl λa E=>ag (bK ?_);obtain rfl:=oi h
 try dsimp only
 refine f1 E ?_;exact⟨_,(j6 W (j6 a1 a2)),hS,(⟨177,_,rfl,call177,uL (a3.mono a2) b6 a4⟩:ItV prog (Rv1 (kSl kAp)) a6 (.func (.func 177) #[] #[(pz J),(pz b5)]) a9)⟩}
theorem T7:Ctr Sz prog 135 [.rd (.int .i64),.rd (.sl (.st 32))] [.rd .bool] (λx=>tq x.1 x.2.1):=ncR [EL] [4] func135 ntmps135 .o λx=>by kernel_rfl
theorem GN (hS:S W0 m w L TL){p0}(a0:inR .i64 p0){p1}(a2:RV (kSl kAp) m v1 p1){r}(h:tq p0 p1=some r):Calls prog 135 #[(.int .i64 p0),v1] w (Ret λv w'=>∃m',M.le m m'/\S W0 m' w' L TL/\RV cS m' v r):=by refine rm (T7 W0 m w L TL [(.int .i64 p0),v1] (p0,p1,()) r [] [] hS ⟨ax a0,⟨a2,trivial⟩⟩ h) λv w' Z=>?_;obtain⟨m',us,Lr,Lq,Tr,hm,Z',rfl,hR,hO⟩:=Z;obtain⟨u0,us,rfl,r0,J⟩:=cN hR;obtain⟨rfl,rfl,rfl⟩:=cH J;have W:=cO hO;have a1:=cO W;obtain rfl:=dC a1;exact⟨m',hm,Z',r0⟩
theorem VV:Ctr Sz prog 46 [.rd (.sl (.st 32))] [.rd (.int .i64)] (λx=>sj x.1):=ncR [EL] [2] func46 ntmps46 (.s .o (.s .o (.s (.s .o (.b (.l ⟨[.v 3 1 (.dat (.int .i64) none),.v 4 1 (.dat (.int .i64) none),.v 5 1 (.dat (.int .i64) none)],[0],0,[]⟩ .o))) .o))) λx=>by kernel_rfl
def VW:=mC VV call46
theorem VX:Ctr Sz prog 49 [.rd (.st 32)] [.rd (.sl (.int .u8))] (λx=>sG x.1):=ncR [KP] [2] func49 ntmps49 .o λx=>by kernel_rfl
def VY:=mC VX call49
theorem VZ:Ctr Sz prog 15 [.rd (.int .i64),.rd (.sl (.st 32))] [.rd (.sl (.int .u8)),.rd (.int .i64)] (λx=>o8 x.1 x.2.1):=ncR [VW,EL,Nq,VY,Nl] [4,5] func15 ntmps15 .o λx=>by kernel_rfl
theorem Ev (hS:S W0 m w L TL){p0}(a0:inR .i64 p0){p1}(a2:RV (kSl kAp) m v1 p1){r}(h:o8 p0 p1=some r):Calls prog 15 #[(.int .i64 p0),v1] w (Ret λv w'=>∃m',M.le m m'/\S W0 m' w' L TL/\∃v0_ v1_:Value,v=.tuple #[v0_,v1_]/\RV (kSl (aj .u8)) m' v0_ r.1/\RV (aj .i64) m' v1_ r.2):=by refine rm (VZ W0 m w L TL [(.int .i64 p0),v1] (p0,p1,()) r [] [] hS ⟨ax a0,⟨a2,trivial⟩⟩ h) λv w' Z=>?_;obtain⟨m',us,Lr,Lq,Tr,hm,Z',rfl,hR,hO⟩:=Z;obtain⟨u0,us,rfl,r0,J⟩:=cN hR;obtain⟨u1,us,rfl,r1,a3⟩:=cN J;obtain⟨rfl,rfl,rfl⟩:=cH a3;have W:=cO hO;have a1:=cO W;obtain rfl:=dC a1;exact⟨m',hm,Z',u0,u1,rfl,r0,r1⟩
theorem Bw (hS:S W0 m w L TL){p0}(f4:inR .i64 p0){p1}(e4:RV (kSl kAp) m v1 p1){r}(h:jB p0 p1=some r):Calls prog 76 #[(.int .i64 p0),v1] w (Ret λv w'=>∃m',M.le m m'/\S W0 m' w' L ((1,v)::TL)/\RV (kSl (aj .u8)) m' v r):=by
 refine BB func76 rfl ntmps76 (Z2 rfl) λa E=>?_;have E:Env 28 a [(0,.int .i64 p0),(1,v1)]:=E;unfold jB at h;refine ab (ak ?_);refine st E (je (k:=(aj .i64)) E hS rfl (ax f4)) rfl ?_;rintro _ a w⟨b1,a2,rfl,e9,hS⟩E;refine qA E rfl λa E=>ag (ab (ak ?_));refine st E (cF hS zeroValue24 rfl (cs:=[(.slice none 0 0)])) rfl ?_;rintro _ a w⟨Z,rfl,hS⟩E;refine ag (ab (ab (ak (qM E rfl λa E=>?_))));obtain⟨r9,f5,h⟩:=ob h;refine st E (aT (vs:=[v1,(.int .i64 64)]) E rfl call134 (yb (hS:=hS) e4 (show inR .i64 64 from az (by decide)) f5)) rfl ?_;rintro d1 a w⟨e7,c0,hS,e0⟩E;refine ag (bj ?_);obtain⟨a4,g1,h⟩:=ob h;refine zT (Rv:=(Rv1 (kSl kAp))) (λ(s:List Int) (x:List Ap)=>fp p0 s x) (λ_=>.ret) [] (λ(m':M) (s:List Int) (b2:Mem) (b0:Tls)=>∃(J:Value),M.le e7 m'/\RV (kSl (aj .u8)) m' J s/\b2=[(Z,[J]),(b1,a2)]/\b0=[(1,J)]) (Ls:=[(Z,[(.slice none 0 0)]),(b1,a2)]) (TLs:=[(1,.slice none 0 0)]) (s0:=([]:(List Int))) (sf:=a4.1) (bf:=a4.2) E (hS.tail0 1) rfl e0 (by decide) (λ_ _ _ h=>zS h) (by rintro j2 h6 s_ a_ b_ n_⟨J,h0,g3,g5,g2⟩;exact⟨J,h0.trans n_,g3.mono n_,g5,g2⟩) ⟨(.slice none 0 0),Z1 _,dK,rfl,rfl⟩ g1 ?_ ?_;{
 intro h2 j0 W0 j4 w L TL s_ b2 b0 i0 c5 c1 b3 a h9 h5 a5 hS g6 h E g0;obtain⟨b7,rfl⟩:∃x,x=s_:=⟨_,rfl⟩
 obtain⟨J,c6,d0,rfl,rfl⟩:=a5;have h:fp p0 b7 c5=some (c1,b3):=h;unfold fp at h;obtain⟨a9,rfl,c4⟩:=g6;refine ak (qA E rfl λa E=>ag ?_);obtain⟨e8,hS⟩:=g0 _ _ _ _ hS;refine⟨e8,?_⟩;refine bj (ab (ak ?_));refine st E (aM E hS ty3 rfl (i:=1) rfl (aL ((aj .i64).mono (j6 c0 c6) e9))) rfl ?_;rintro i2 a _⟨rfl,e1⟩E;obtain⟨rfl,b5⟩:=aF e1;refine qA E rfl λa E=>ag (ab (ab (ak (qM E rfl λa E=>qM E rfl λa E=>?_))));obtain⟨j3,h1,h⟩:=ob h;refine st E (aT (vs:=[(.int .i64 p0),a9]) E rfl call135 (GN (hS:=hS) b5 c4 h1)) rfl ?_
 rintro i5 a w⟨e5,W,hS,f3⟩E;obtain rfl:=fg f3;refine sp E (lD E rfl) rfl λa E=>ag ?_;refine cA (λa w=>∃x44:Int,gR b7 c5 x44=some (c1,b3)/\∃m',M.le e5 m'/\inR .i64 x44/\S W0 m' w ((Z,[J])::(b1,a2)::L) ((1,J)::TL)/\Env 28 a [(2,pz b1),(5,pz Z),(6,a9),(7,.int .i64 x44),(11,d1)]) ?_ ?_
 {
 refine kif E rfl (λa6=>?_) (λa6=>?_)
 {have h:=aH a6 h;refine ak (qA E rfl λa E=>ag ?_);exact⟨(-1),h,_,(Z1 _),(show inR .i64 (-1)from az (by decide)),hS,kut E⟩}
 {have h:=aI a6 h;refine a7 ?_;exact⟨p0,h,_,(Z1 _),b5,hS,kut E⟩}}
 {
 rintro a w⟨x44,h,i4,a0,e6,hS,E⟩;unfold gR at h;refine ab (ak (qM E rfl λa E=>qM E rfl λa E=>?_));obtain⟨i3,e3,h⟩:=ob h;refine st E (aT (vs:=[(.int .i64 x44),a9]) E rfl call15 (Ev (hS:=hS) e6 (c4.mono (j6 W a0)) e3)) rfl ?_;rintro _ a w⟨h8,a1,hS,h7,j1,rfl,g8,f6⟩E;obtain⟨rfl,j5⟩:=aF f6;refine qM E rfl λa E=>sp E (bQ E rfl rfl) rfl λa E=>sp E (bQ E rfl rfl) rfl λa E=>qA E rfl λa E=>qA E rfl λa E=>ag (ak (sp E (qn (k:=(aj .u8)) E hS ML rfl (i:=0) rfl (d0.mono (j6 W (j6 a0 a1)))) rfl λa E=>qM E rfl λa E=>?_))
 obtain⟨i1,g9,h⟩:=ob h;refine st E (iM (k:=(aj .u8)) (N:=140737488355328) E hS rfl rfl underlying24 underlying24 el5 (i:=0) rfl (d0.mono (j6 W (j6 a0 a1))) g8 g9 rfl rfl) rfl ?_;rintro a3 a w⟨i8,c2,hS,c3⟩E;refine st0 E (td (k:=(aj .u8)) E hS ML rfl rfl c3 (i:=0) rfl) ?_;rintro _ w hS E;refine ag ?_;cases h
 try dsimp only
 exact⟨rfl,_,[(Z,[a3]),(b1,a2)],[(1,a3)],(j6 W (j6 a0 (j6 a1 c2))),⟨a3,(j6 c6 (j6 W (j6 a0 (j6 a1 c2)))),c3,rfl,rfl⟩,hS⟩}};{
 intro f0 h4 w a b2 b0 d2 E a5 hS g4 g7;obtain⟨h3,_,b4,rfl,rfl⟩:=a5;obtain⟨W0,c7⟩:∃W9,W9=W0.put f0 (.deferred (some [])):=⟨_,rfl⟩
 rw[←c7]at hS;rcases zx a4.2 with hb86|hb86
 {
 have h:=aH hb86 h;rw[if_pos hb86];refine ab (ak (sp E (qn (k:=(aj .u8)) E hS ML rfl (i:=0) rfl b4) rfl λa E=>qA E rfl λa E=>ag (bK ?_)));obtain rfl:=oi h
 try dsimp only
 have hS:=hS;rw[c7]at hS;refine Fc.shut E hS g4 g7 λa w hS E=>?_;refine Fc.nil E ?_;refine f1 E ?_;exact⟨_,(j6 c0 d2),((hS.dropL 2).pickT 1 [0] rfl rfl rfl),b4⟩}
 {have h:=aI hb86 h;cases h}}
theorem V0:Ctr Sz prog 76 [.rd (.int .i64),.rd (.sl (.st 32))] [.ap (.int .u8)] (λx=>jB x.1 x.2.1):=by intro W0 m w L TL vs x r Lp Tp hS hP h;obtain⟨v0,vs,rfl,a0,J⟩:=cT hP;obtain⟨rfl,Z⟩:=aF a0;obtain⟨v1,vs,rfl,a1,a2⟩:=cT J;obtain⟨rfl,rfl,rfl⟩:=eT a2;refine rm (Bw (hS:=hS) Z a1 h) λv w' W=>?_;obtain⟨m',hm,Z',r0⟩:=W;exact⟨m',[v],[],[],[(1,v)],hm,Z',rfl,⟨r0,rfl,trivial⟩,trivial⟩
def V3:=mC V0 call76
theorem CH (hS:S W0 m w L TL){p0}(a4:inR .i64 p0){p1}(a2:RV (kSl (aj .i64)) m v1 p1){p2}(c0:RV (kSl (aj .i64)) m v2 p2){p3}(a5:RV (kSl ae) m v3 p3){r}(h:ja p0 p1 p2 p3=some r):Calls prog 31 #[(.int .i64 p0),v1,v2,v3] w (Ret λv w'=>∃m',M.le m m'/\S W0 m' w' L TL/\∃v0_ v1_:Value,v=.tuple #[v0_,v1_]/\RV (kSl (aj .u8)) m' v0_ r.1/\RV (aj .i64) m' v1_ r.2):=by
 refine kc func31 ntmps31 λa E=>?_;have E:Env 88 a [(0,.int .i64 p0),(1,v1),(2,v2),(3,v3)]:=E;unfold ja at h;refine ab (ak (qA E rfl λa E=>qA E rfl λa E=>ag (ab (ak (qM E rfl λa E=>qM E rfl λa E=>qM E rfl λa E=>?_)))));obtain⟨r6,d0,h⟩:=ob h;refine st E (aT (vs:=[(.int .i64 p0),v1,v3]) E rfl call74 (jl (hS:=hS) a4 a2 a5 d0)) rfl ?_;rintro e6 a w⟨m8,J,hS,c4⟩E;obtain⟨rfl,b4⟩:=aF c4;refine qA E rfl λa E=>ag (ab (ab (ak (qM E rfl λa E=>qB E rfl rfl mS λa E=>ag (kif E rfl (λa3=>?_) (λa3=>?_))))));{
 have h:=aH a3 h;refine ab (ak (qM E rfl λa E=>qA E rfl λa E=>qA E rfl λa E=>ag (bK ?_)));obtain rfl:=oi h
 try dsimp only
 refine f2 E ?_;exact⟨_,J,hS,_,_,rfl,dK,(ax b4)⟩};{
 have h:=aI a3 h;refine a7 (ab (ak (qM E rfl λa E=>qM E rfl λa E=>?_)));obtain⟨b0,b5,h⟩:=ob h;refine st E (aT (vs:=[v1,v3]) E rfl call27 (qi (hS:=hS) (a2.mono J) (a5.mono J) b5)) rfl ?_;rintro b2 a w⟨e7,a0,hS,b1⟩E;refine qA E rfl λa E=>ag (ab (ak ?_))
 refine st E (NR (k:=(aj .u8)) (xs:=[72,65,89,49]) (vs:=[(.int .u8 72),(.int .u8 65),(.int .u8 89),(.int .u8 49)]) E hS rfl underlying24 sizeOf5 zeroValue5 ⟨(ax (show inR .u8 72 from az (by decide))),(ax (show inR .u8 65 from az (by decide))),(ax (show inR .u8 89 from az (by decide))),(ax (show inR .u8 49 from az (by decide))),trivial⟩ rfl (by decide)) rfl ?_;rintro d1 a w⟨e3,W,hS,c2,e5,_,c3,c1,b6⟩E;refine st E (Lg E hS rfl underlying24 underlying5 c3 c1 b6 (i:=0) rfl) rfl ?_;rintro e4 a _⟨rfl,hS⟩E
 refine qM E rfl λa E=>sp E (fC E rfl underlying3 underlying5 rfl) rfl λa E=>qM E rfl λa E=>sp E (bq (k:=(aj .i64)) E rfl rfl underlying49 (a2.mono (j6 J (j6 a0 W)))) rfl λa E=>sp E (fC E rfl underlying3 underlying5 rfl) rfl λa E=>?_;refine st E (gA (k:=(aj .u8)) (xs:=[Z3.wrap p0,Z3.wrap (p1.length:Int)]) (vs:=[(.int .u8 (Z3.wrap p0)),(.int .u8 (Z3.wrap (p1.length:Int)))]) E hS rfl underlying24 sizeOf5 zeroValue5 ⟨(ax (aG _ _)),(ax (aG _ _)),trivial⟩ rfl (by decide)) rfl ?_;rintro e1 a w⟨e0,Z,hS,c6⟩E;obtain⟨b3,c5,h⟩:=ob h
 refine st E (iM (k:=(aj .u8)) (N:=140737488355328) E hS rfl rfl underlying24 underlying24 el5 (i:=1) rfl (c2.mono Z) c6 c5 rfl rfl) rfl ?_;rintro a6 a w⟨d2,a1,hS,b7⟩E;refine qA E rfl λa E=>ag ?_
 refine wj (G:=Sz) (Γ:=Γ) (D:=[Vo,U6,VR,V3,VU,Ni]) (rs:=[.rd (.sl (.int .u8)),.rd (.int .i64)]) (res:=[.tmp 8,.tmp 9]) (ps:=[.rd (.int .i64),.rd (.sl (.int .i64)),.rd (.sl (.int .i64)),.rd (.sl (.st 59)),.ap (.int .u8)]) (sl:=[0,1,2,3,11]) (vs:=[(.int .i64 p0),v1,v2,b2,a6]) (x:=(p0,p1,p2,b0,b3,())) (Lp:=[]) (Tp:=[(1,a6)]) (.s (.s .o (.b (.l ⟨[.v 11 1 (.dat (.sl (.int .u8)) (some 0)),.v 38 1 (.dat (.int .i64) none)],[0,2,3,36,37],0,[1]⟩ .o))) (.s .o (.s (.s .o (.b (.l ⟨[.v 11 1 (.dat (.sl (.int .u8)) (some 1)),.v 54 1 (.dat (.int .i64) none)],[0,2,3,53],0,[1,1]⟩ .o))) .o))) E (hS.dropT 1) ⟨ax a4,a2.mono (j6 J (j6 a0 (j6 W (j6 Z a1)))),c0.mono (j6 J (j6 a0 (j6 W (j6 Z a1)))),b1.mono (j6 W (j6 Z a1)),b7,rfl,trivial⟩ h (by kernel_rfl) mixed (λv w' m' us Lr Tr q1 q2 q3 q4=>?_)
 obtain⟨u0,us,rfl,r0,a9⟩:=cN q4;obtain⟨u1,us,rfl,r1,c7⟩:=cN a9;obtain⟨rfl,rfl,rfl⟩:=cH c7;subst q3;exact⟨m',(j6 (j6 J (j6 a0 (j6 W (j6 Z a1)))) q1),q2,_,_,rfl,r0,r1⟩}
theorem V4:Ctr Sz prog 31 [.rd (.int .i64),.rd (.sl (.int .i64)),.rd (.sl (.int .i64)),.rd (.sl (.st 59))] [.rd (.sl (.int .u8)),.rd (.int .i64)] (λx=>ja x.1 x.2.1 x.2.2.1 x.2.2.2.1):=by intro W0 m w L TL vs x r Lp Tp hS hP h;obtain⟨v0,vs,rfl,a0,W⟩:=cT hP;obtain⟨rfl,n0⟩:=aF a0;obtain⟨v1,vs,rfl,a1,a4⟩:=cT W;obtain⟨v2,vs,rfl,a2,J⟩:=cT a4;obtain⟨v3,vs,rfl,a3,a5⟩:=cT J;obtain⟨rfl,rfl,rfl⟩:=eT a5;refine rm (CH (hS:=hS) n0 a1 a2 a3 h) λv w' Z=>?_;obtain⟨m',hm,Z',u0,u1,rfl,r0,r1⟩:=Z;exact⟨m',[u0,u1],[],[],[],hm,Z',rfl,⟨r0,⟨r1,trivial⟩⟩,trivial⟩
def V5:=mC V4 call31
theorem wO (hS:S W0 m w L TL){p0}(Z:RV ae m v0 p0){p1}(a0:PR bV m v1 p1){r}(h:dm p0 p1=some r):Calls prog 91 #[v0,v1] w (Ret λv w'=>∃m',M.le m m'/\S W0 m' w' L TL/\RV cS m' v r):=by
 refine kc func91 ntmps91 λa E=>?_;have E:Env 8 a [(0,v0),(1,v1)]:=E;unfold dm at h;refine ab (ak ?_);refine st E (je (k:=ae) E hS rfl Z) rfl ?_;rintro _ a w⟨b1,a2,rfl,J,hS⟩E;refine qA E rfl λa E=>ag (ab (ak (sp E (aK E lz rfl) rfl λa E=>?_)));refine st E (aM E hS xZ rfl (i:=0) rfl (sN.R_drop (aL J))) rfl ?_;rintro v8 a _⟨rfl,W⟩E;refine st E (aC E hS xZ rfl a0) rfl ?_;rintro a3 a _⟨rfl,a1⟩E;refine sp E (yz E QV rfl rfl W a1 rfl) rfl λa E=>qA E rfl λa E=>ag (bK ?_);obtain rfl:=oi h;try dsimp only
 refine f1 E ?_;exact⟨_,(Z1 _),(hS.dropL 1),dA⟩
theorem V6:Ctr Sz prog 90 [.rd (.sl (.st 59)),.f1 (.st 59) .bool] [.rd (.int .i64)] (λx=>eY x.1 x.2.1):=ncR [] [4] func90 ntmps90 (.s .o (.s (.s .o (.b (.l ⟨[.v 8 1 (.dat (.int .i64) none)],[0,1,7],0,[]⟩ .o))) .o)) λx=>by kernel_rfl
theorem s7 (hS:S W0 m w L TL){p0}(a0:RV (kSl ae) m v0 p0){p1}(a2:Fn1 prog ae cS m v1 p1){r}(h:eY p0 p1=some r):Calls prog 90 #[v0,v1] w (Ret λv w'=>∃m',M.le m m'/\S W0 m' w' L TL/\RV (aj .i64) m' v r):=by refine rm (V6 W0 m w L TL [v0,v1] (p0,p1,()) r [] [] hS ⟨a0,⟨a2,trivial⟩⟩ h) λv w' Z=>?_;obtain⟨m',us,Lr,Lq,Tr,hm,Z',rfl,hR,hO⟩:=Z;obtain⟨u0,us,rfl,r0,J⟩:=cN hR;obtain⟨rfl,rfl,rfl⟩:=cH J;have W:=cO hO;have a1:=M2 W;obtain rfl:=dC a1;exact⟨m',hm,Z',r0⟩
theorem V7{m0:M}{J:Value}{W:aO}(a0:PR bV m0 J W):Fn1 prog ae cS m0 (.func (.func 91) #[] #[J]) (λx0=>dm x0 W):=by refine⟨91,_,rfl,call91,?_⟩;intro W0 m w L TL v0 x0 r hm hS h0 hr;refine(wO (hS:=hS) h0 (a0.mono hm) hr).mono ?_;intro e w' h;cases e with
 |returned v=>obtain⟨m',h1,Z,h3⟩:=h;exact⟨m',h1,Z,h3⟩|panicked ch=>exact h.elim|outgrown=>exact h.elim
theorem mQ (hS:S W0 m w L TL){p0}(J:RV (kPt aJ) m v0 p0){p1}(b5:RV bV m v1 p1){r}(h:eG p0 p1=some r):Calls prog 37 #[v0,v1] w (Ret λv w'=>∃m',M.le m m'/\S W0 m' w' L TL/\∃v0_ v1_:Value,v=.tuple #[v0_,v1_]/\RV (aj .i64) m' v0_ r.1/\RV cS m' v1_ r.2):=by
 refine kc func37 ntmps37 λa E=>?_;have E:Env 17 a [(0,v0),(1,v1)]:=E;unfold eG at h;refine ab (ak ?_);refine st E (je (k:=bV) E hS rfl b5) rfl ?_;rintro _ a w⟨b1,c2,rfl,b3,hS⟩E;refine qA E rfl λa E=>qA E rfl λa E=>ag (ab (ak (qM E rfl λa E=>?_)));obtain⟨x8,W,h⟩:=ob h;refine sp E (ld E rfl J W) rfl λa E=>?_;refine st E (bX E mO qs rfl (mU J W)) rfl ?_;rintro b7 a _⟨rfl,a3⟩E;refine st E (aC E hS o4 rfl a3) rfl ?_;rintro a4 a _⟨rfl,a6⟩E;obtain⟨c0,Z,hS,b2⟩:=S.freezeL (k:=bV) hS b3;refine sp E (lE E rfl rfl) rfl λa E=>?_;obtain⟨c3,a5,h⟩:=ob h;refine st E (aT (vs:=[a4,(.func (.func 91) #[] #[(pz b1)])]) E rfl call90 (by have a2:=(a6.mono Z);have a9:=(V7 b2);exact s7 (p0:=x8.fL) (p1:=(λb0=>dm b0 p1)) (hS:=hS) a2 a9 a5)) rfl ?_;rintro b6 a w⟨c1,a1,hS,b4⟩E;obtain⟨rfl,a0⟩:=aF b4;refine qA E rfl λa E=>ag (ab (ak (qM E rfl λa E=>sp E (ET E rfl rfl) rfl λa E=>qM E rfl λa E=>qB E rfl rfl zM λa E=>qA E rfl λa E=>qA E rfl λa E=>?_)));refine ag (bK ?_);obtain rfl:=oi h;try dsimp only
 refine f2 E ?_;exact⟨_,(j6 Z a1),hS,_,_,rfl,(ax (CM a0 (show inR .i64 0 from az (by decide)))),dA⟩
theorem V8:Ctr Sz prog 37 [.rd (.st 65),.rd (.st 57)] [.rd (.int .i64),.rd .bool] (λx=>eG x.1 x.2.1):=by intro W0 m w L TL vs x r Lp Tp hS Z h;obtain⟨v0,vs,rfl,a0,J⟩:=cT Z;obtain⟨v1,vs,rfl,a1,a2⟩:=cT J;obtain⟨rfl,rfl,rfl⟩:=eT a2;refine rm (mQ (hS:=hS) a0 a1 h) λv w' W=>?_;obtain⟨m',hm,Z',u0,u1,rfl,r0,r1⟩:=W;exact⟨m',[u0,u1],[],[],[],hm,Z',rfl,⟨r0,⟨r1,trivial⟩⟩,trivial⟩
def V9:=mC V8 call37
theorem Wa:Ctr Sz prog 35 [.rd (.st 65)] [.rd (.int .i64)] (λx=>lX x.1):=ncR [] [2] func35 ntmps35 .o λx=>by kernel_rfl
def NA:=mC Wa call35
theorem Wb:Ctr Sz prog 29 [] [.rd .bool] (λx=>xA):=ncR [V5,Nt,NA,V9] [0] func29 ntmps29 .o λx=>by kernel_rfl
def Wc:=mC Wb call29
theorem zG (hS:S W0 m w L TL){p0}(W:RV (kSl (aj .i64)) m v0 p0){r}(h:jM p0=some r):Calls prog 96 #[v0] w (Ret λv w'=>∃m',M.le m m'/\S W0 m' w' L ((1,v)::TL)/\RV (kSl (aj .i64)) m' v r):=by
 refine kc func96 ntmps96 λa E=>?_;have E:Env 8 a [(0,v0)]:=E;unfold jM at h;refine ab (ak (qA E rfl λa E=>ag (ab (ab (ak (qM E rfl λa E=>?_))))));refine st E (w7 (k:=(aj .i64)) E rfl rfl W underlying49) rfl ?_;rintro v5 a _⟨rfl,a6,rfl,a1⟩E;refine ag (kif E rfl (λJ=>?_) (λJ=>?_));{
 have a2:=a1 J;have h:some ([])=some r:=by rw[a2]at h;exact h
 refine ab (ak (qA E rfl λa E=>ag (bK ?_)));obtain rfl:=oi h
 try dsimp only
 refine f1 E ?_;exact⟨_,(Z1 _),((hS.dropT 0).tail0 1),dK⟩};{
 refine a7 (ab (ak ?_));refine st E (gA (k:=(aj .i64)) (xs:=[]) (vs:=[]) E hS rfl underlying49 sizeOf3 zeroValue3 trivial rfl (by decide)) rfl ?_;rintro b1 a w⟨m9,Z,hS,a4⟩E;refine qM E rfl λa E=>?_;obtain⟨a9,a3,h⟩:=ob h;refine st E (iM (k:=(aj .i64)) (N:=17592186044416) E hS rfl rfl underlying49 underlying49 el3 (i:=0) rfl a4 (W.mono Z) a3 rfl rfl) rfl ?_;rintro b0 a w⟨b2,a0,hS,a5⟩E;refine qA E rfl λa E=>ag (bK ?_);obtain rfl:=oi h
 try dsimp only
 refine f1 E ?_;exact⟨_,(j6 Z a0),(hS.pickT 1 [0] rfl rfl rfl),a5⟩}
theorem Wd:Ctr Sz prog 96 [.rd (.sl (.int .i64))] [.ap (.int .i64)] (λx=>jM x.1):=by intro W0 m w L TL vs x r Lp Tp hS Z h;obtain⟨v0,vs,rfl,a0,J⟩:=cT Z;obtain⟨rfl,rfl,rfl⟩:=eT J;refine rm (zG (hS:=hS) a0 h) λv w' W=>?_;obtain⟨m',hm,Z',r0⟩:=W;exact⟨m',[v],[],[],[(1,v)],hm,Z',rfl,⟨r0,rfl,trivial⟩,trivial⟩
def We:=mC Wd call96
theorem Wf:Ctr Sz prog 42 [.rd (.st 65)] [.ap (.int .i64)] (λx=>la x.1):=ncR [We] [2] func42 ntmps42 .o λx=>by kernel_rfl
def Wg:=mC Wf call42
theorem Wh:Ctr Sz prog 43 [.rd (.st 65)] [.rd (.int .i64)] (λx=>lY x.1):=ncR [] [2] func43 ntmps43 .o λx=>by kernel_rfl
def Wi:=mC Wh call43
theorem uM{σ:Type}{I:M->σ->Mem->Tls->Prop}{step:σ->aa->Option (σ×Bool)}{B:σ->Bse}{v0:Value}{m:M}{w:World}{L:Mem}{TL:Tls}{b2:σ}{a1:Mem}{a4:Tls}(mono:∀m m' s a b,M.le m m'->I m s a b->I m' s a b)(hy:yD prog (Rv1 ae) B v0 I step)(h4:I m b2 a1 a4)(hS:S (B b2) m w (a1++L) (a4++TL)){v1:Value}{p1:(Option aq)}(e7:PR (kPt aJ) m v1 p1){v2:Value}{p2:Int}(f3:PR (aj .i64) m v2 p2){r:σ}(h:dU step b2 p1 p2=some r):Calls prog 140 #[v0,v1,v2] w (Ret λ_ w'=>∃m' Ls' TLs',M.le m m'/\I m' r Ls' TLs'/\S (B r) m' w' (Ls'++L) (TLs'++TL)):=by
 refine wU (args:=[v0,v1,v2]) func140 rfl ntmps140 (Z2 rfl) λa E=>?_;have E:Env 23 a [(0,v0),(1,v1),(2,v2)]:=E;unfold dU at h;refine ab ?_;obtain⟨Z,b5,a0,d2,h⟩:=ob2 h;refine kch (k:=8) (m:=m) (es:=[]) (Φ:=(λi m ws v=>match i with|0=>RV (kPt aJ) m v p1|1=>PR aJ m v Z|2=>PR (kSl ae) m v Z.fL|3=>RV (kSl ae) m v Z.fL|4=>ei .i64 p2 v|5=>RV (kSl ae) m v a0|6=>ei .i64 (a0.length:Int) v|7=>ei .i64 0 v|_=>True)) (Q:=(λc m ws L' d0=>match c with|0=>(a1++L)=L'/\(a4++TL)=d0|_=>False)) (cs:=[jc [(1,v1)],jc [],jc [],jc [],jc [(2,v2)],jc [],jc [],jc []]) mixed E hS ⟨rfl,rfl⟩ rfl rfl (by kernel_rfl) ?_ ?_ ?_ ?_;{
 intro i m_ e5 ws v n_ q_
 iterate 8 (rcases i with _|i;first|exact q_|exact RV.mono q_ n_|exact PR.mono q_ n_)
 exact trivial};{
 intro c m_ e5 ws L_ T_ n_ b1
 match c,b1 with
 |0,⟨h1,g9⟩=>exact⟨h1,g9⟩|_+1,b1=>exact b1.elim};{
 refine⟨?_,?_,?_,?_,?_,?_,?_,?_,trivial⟩
 {refine cp0 λ_ _ _ _ _ _ _ M' _ J W _=>?_;exact cr (aC W J MN rfl (e7.mono M')) J λ_ h=>h}
 {refine cp0 λ_ _ _ m' a' _ _ _ _ J W T'=>?_;obtain⟨j1,E,b6⟩:=adv W (T' 0);exact cq (ld E rfl b6 b5) J ((mU b6 b5))}
 {
 refine cp0 λ_ _ _ m' a' _ _ _ _ J W T'=>?_;obtain⟨i2,e6,e1⟩:∃v,a'.tmps.getD 7 undef=v/\(PR aJ m' v Z):=⟨_,rfl,T' 1⟩
 have E:=W.add (e6);exact cr (bX E mO qs rfl e1) J λ_ h=>h}
 {
 refine cp0 λ_ _ _ m' a' _ _ _ _ J W T'=>?_;obtain⟨i5,h0,g6⟩:∃v,a'.tmps.getD 8 undef=v/\(PR (kSl ae) m' v Z.fL):=⟨_,rfl,T' 2⟩
 have E:=W.add (h0);exact cr (aC E J o4 rfl g6) J λ_ h=>h}
 {refine cp0 λ_ _ _ _ _ _ _ M' _ J W _=>?_;exact cr (aC W J ty3 rfl (f3.mono M')) J λ_ h=>aF h}
 {
 refine cp0 λ_ _ _ m' a' _ _ _ _ J W T'=>?_;obtain⟨k3,e4,g2⟩:∃v,a'.tmps.getD 9 undef=v/\(RV (kSl ae) m' v Z.fL):=⟨_,rfl,T' 3⟩
 have E:=(W.add (e4)).add (T' 4).1;exact cr (dy (k:=ae) E rfl underlying50 sizeOf59 g2 ⟨_,rfl⟩ rfl d2 (xl:=(some (.tmp 10))) (xh:=none)) J λ_ h=>h}
 {refine cp0 λ_ _ _ m' a' _ _ _ _ J W T'=>?_;obtain⟨j3,E,c4⟩:=adv W (T' 5);exact cq (bq (k:=ae) E rfl rfl underlying50 c4) J ⟨rfl,(eD (jg c4))⟩}
 {exact cmv λ_ _=>⟨rfl,(show inR .i64 0 from az (by decide))⟩}};{
 intro i3 L_ T_ c1 a w f5 a6 h8 hS g3 e8 g5 b0;obtain rfl:=eS f5;obtain⟨rfl,rfl⟩:=h8;have E:=eof 8 [(0,v0),(1,v1),(2,v2)] g3 e8 g5;obtain⟨h7,e0,f6⟩:∃v,a.tmps.getD 11 undef=v/\(RV (kSl ae) c1 v a0):=⟨_,rfl,b0 5⟩
 have E:=(E.add (e0)).add (b0 6).1;obtain⟨g1,f4⟩:=b0 7;have E:=E.add g1;refine ag (bj ?_);refine fN h (λ(s:Int×σ)a w=>∃m',M.le c1 m'/\∃(a5:Mem),∃(a3:Tls),inR .i64 s.1/\I m' s.2 a5 a3/\S (B s.2) m' w ((a5++L)) ((a3++TL))/\Env 23 a [(0,v0),(11,h7),(12,.int .i64 (a0.length:Int)),(13,.int .i64 s.1)]) ?_ ?_
 {exact⟨_,(Z1 _),a1,a4,f4,(mono _ _ _ _ _ a6 h4),hS,kut E⟩}
 {
 rintro⟨b7,d1⟩a w⟨i8,a2,a5,a3,j2,c2,hS,E⟩r72 h hb73;have h:cI step a0 b7 d1=some r72:=h;unfold cI at h;refine ab (ak (qB E rfl rfl cu λa E=>ag (ab (kif E rfl (λb3=>?_) (λb3=>?_)))))
 {
 have h:=aH b3 h;refine a7 (ab (bj (ab (ak ?_))));obtain⟨i4,e3,h⟩:=ob h;refine st E (be (k:=ae) E rfl rfl underlying50 sizeOf59 (f6.mono a2) e3) rfl ?_;rintro j4 a _⟨rfl,f0⟩E;refine st E (aC E hS oZ rfl f0) rfl ?_;rintro h9 a _⟨rfl,h6⟩E;refine st E (cF hS zeroValue59 rfl (cs:=zB)) rfl ?_;rintro _ a w⟨k4,rfl,hS⟩E;refine st0 E (dq E hS oZ bT rfl rfl h6 (i:=0) rfl (vS _)) ?_;rintro _ w⟨j0,h2,hS⟩E;refine ag (ab (ak (qM E rfl λa E=>?_)));refine st E (aM E hS oZ rfl (i:=0) rfl (aL h2)) rfl ?_;rintro c7 a _⟨rfl,e9⟩E;obtain⟨j5,g7,h⟩:=ob h
 refine st E (aT (vs:=[c7]) E rfl call65 (ym (hS:=hS) e9 g7)) rfl ?_;rintro g8 a w⟨k0,a9,hS,h3⟩E;obtain⟨g4,h5,h⟩:=ob h;refine st E (hy _ _ L TL _ _ _ [g8] _ _ _ (mono _ _ _ _ _ a9 c2) (hS.dropL 1) ⟨_,rfl,h3⟩ h5 _ _ _ _ _ _ _ _ _ (E.eval rfl) (gU E rfl)) rfl ?_;rintro i0 a w⟨g0,i1,c5,c6,c3,c0,hS⟩E;obtain rfl:=g0;refine sp E (lD E rfl) rfl λa E=>ag (kif E rfl (λb4=>?_) (λb4=>?_))
 {
 have h:=aH b4 h;refine bK ?_;have h:=cg h hb73;obtain rfl:=oi h
 try dsimp only
 refine Fin.mk E (rs:=[]) rfl tR.nil ?_;exact⟨_,c5,c6,(j6 a6 (j6 a2 (j6 a9 c3))),c0,hS⟩}
 {have h:=aI b4 h;refine a7 (ak (qB E rfl rfl (cp rfl) λa E=>qM E rfl λa E=>ag ?_));exact⟨(Z0.wrap (b7+1),g4.1),(Option.some.inj h).symm,_,(j6 a2 (j6 a9 c3)),c5,c6,(aG _ _),c0,hS,kut E⟩}}
 {
 have h:=aI b3 h;refine fe rfl rfl ?_;have h:=cg h hb73;obtain rfl:=oi h
 try dsimp only
 refine Fin.mk E (rs:=[]) rfl tR.nil ?_;exact⟨_,a5,a3,(j6 a6 a2),c2,hS⟩}}}
theorem uG{m:M}{v1:Value}{p1:(Option aq)}(J:PR (kPt aJ) m v1 p1){v2:Value}{p2:Int}(W:PR (aj .i64) m v2 p2){xs:List aa}(h:eu p1 p2=some xs):zR prog (Rv1 ae) 140 #[v1,v2] m xs:=by intro σ I step B y m1 w L TL s Ls TLs r mono hle hy hI hS hf;exact uM mono hy hI hS (J.mono hle) (W.mono hle) (sV h hf)
theorem qu (hS:S W0 m w L TL){p0}(a3:RV (kPt aJ) m v0 p0){p1}(a5:inR .i64 p1){r}(h:fA p0 p1=some r):Calls prog 89 #[v0,(.int .i64 p1)] w (Ret λv w'=>∃m',M.le m m'/\S W0 m' w' L TL/\ItV prog (Rv1 ae) m' v r):=by
 refine kc func89 ntmps89 λa E=>?_;have E:Env 6 a [(0,v0),(1,.int .i64 p1)]:=E;unfold fA at h;refine ab (ak ?_);refine st E (je (k:=(kPt aJ)) E hS rfl a3) rfl ?_;rintro _ a w⟨b1,b0,rfl,a1,hS⟩E;refine st E (je (k:=(aj .i64)) E hS rfl (ax a5)) rfl ?_;rintro _ a w⟨b5,b2,rfl,a6,hS⟩E;refine qA E rfl λa E=>ag (ab (ak ?_));obtain⟨b3,J,hS,a9⟩:=S.freezeL (k:=(kPt aJ)) (hS.pickL 2 [1,0] rfl rfl rfl) a1;obtain⟨Z,W,hS,a4⟩:=S.freezeL (k:=(aj .i64)) hS ((aj .i64).mono J a6);obtain⟨a2,a0,h⟩:=ob h;refine sp E (lE E rfl rfl) rfl λa E=>qA E rfl λa E=>ag (bK ?_);obtain rfl:=oi h;try dsimp only
 refine f1 E ?_;exact⟨_,(j6 J W),hS,(⟨140,_,rfl,call140,uG (a9.mono W) a4 a0⟩:ItV prog (Rv1 ae) Z (.func (.func 140) #[] #[(pz b1),(pz b5)]) a2)⟩
theorem zH (hS:S W0 m w L TL){p0}(a0:RV (kPt aJ) m v0 p0){r}(h:iw p0=some r):Calls prog 36 #[v0] w (Ret λv w'=>∃m',M.le m m'/\S W0 m' w' L TL/\ItV prog (Rv1 ae) m' v r):=by
 refine kc func36 ntmps36 λa E=>?_;have E:Env 5 a [(0,v0)]:=E;unfold iw at h;refine ab (ak (qA E rfl λa E=>ag (ab (ak (qM E rfl λa E=>?_)))));obtain⟨r3,Z,h⟩:=ob h;refine st E (aT (vs:=[v0,(.int .i64 0)]) E rfl call89 (qu (hS:=hS) a0 (show inR .i64 0 from az (by decide)) Z)) rfl ?_;rintro v8 a w⟨m5,J,hS,W⟩E;refine qA E rfl λa E=>ag (bK ?_);obtain rfl:=oi h;try dsimp only
 refine f1 E ?_;exact⟨_,J,hS,W⟩
theorem Wj:Ctr Sz prog 36 [.rd (.st 65)] [.rd (.st 76)] (λx=>iw x.1):=by intro W0 m w L TL vs x r Lp Tp hS Z h;obtain⟨v0,vs,rfl,a0,J⟩:=cT Z;obtain⟨rfl,rfl,rfl⟩:=eT J;refine rm (zH (hS:=hS) a0 h) λv w' W=>?_;obtain⟨m',hm,Z',r0⟩:=W;exact⟨m',[v],[],[],[],hm,Z',rfl,⟨M3 r0,trivial⟩,trivial⟩
def Wk:=mC Wj call36
theorem MQ (hS:S W0 m w L TL){p0}(a5:ItV prog (Rv1 ae) m v0 p0){r}(h:uq p0=some r):Calls prog 38 #[v0] w (Ret λv w'=>∃m',M.le m m'/\S W0 m' w' L ((4,v)::TL)/\RV (kSl ae) m' v r):=by
 refine BB func38 rfl ntmps38 (Z2 rfl) λa E=>?_;have E:Env 14 a [(0,v0)]:=E;unfold uq at h;refine ab (ak (qA E rfl λa E=>ag (ab (ak ?_))));refine st E (cF hS zeroValue50 rfl (cs:=[(.slice none 0 0)])) rfl ?_;rintro _ a w⟨b2,rfl,hS⟩E;refine ag (ab (ab (ak (qM E rfl λa E=>sp E (Fd E rfl rfl underlying76 a5) rfl λa E=>ag (kif E rfl (λb1=>absurd (b1.symm.trans rfl) (by decide)) (λb1=>?_))))));refine a7 (ab (ab (ak (qM E rfl λa E=>ag (bj ?_)))));obtain⟨Z,e7,h⟩:=ob h;refine zT (Rv:=(Rv1 ae)) (λ(s:List aa) (x:aa)=>nG s x) (λ_=>.ret) [] (λ(m':M) (s:List aa) (W:Mem) (a2:Tls)=>∃(J:Value),M.le m m'/\RV (kSl ae) m' J s/\W=[(b2,[J])]/\a2=[(4,J)]) (Ls:=[(b2,[(.slice none 0 0)])]) (TLs:=[(4,.slice none 0 0)]) (s0:=([]:(List aa))) (sf:=Z.1) (bf:=Z.2) E (hS.tail0 4) rfl a5 (by decide) (λ_ _ _ h=>zS h) (by rintro f0 g7 s_ a_ b_ n_⟨J,e5,e0,b6,c7⟩;exact⟨J,e5.trans n_,e0.mono n_,b6,c7⟩) ⟨(.slice none 0 0),Z1 _,dK,rfl,rfl⟩ e7 ?_ ?_;{
 intro g1 g8 W0 m7 w L TL s_ W a2 g0 b4 c0 b7 a f5 g6 a0 hS c1 h E d1;obtain⟨x9,rfl⟩:∃x,x=s_:=⟨_,rfl⟩
 obtain⟨J,d0,a6,rfl,rfl⟩:=a0;have h:nG x9 b4=some (c0,b7):=h;unfold nG at h;obtain⟨f3,rfl,c4⟩:=c1;refine ak ?_;refine st E (cF hS zeroValue59 rfl (cs:=zB)) rfl ?_;rintro _ a w⟨f4,rfl,hS⟩E;refine st0 E (dq E hS oZ bT rfl rfl c4 (i:=0) rfl (vS _)) ?_;rintro _ w⟨g3,e6,hS⟩E;refine ag ?_;obtain⟨d2,hS⟩:=d1 _ _ _ _ hS;refine⟨d2,?_⟩;refine bj (ak (sp E (qn (k:=ae) E hS o4 rfl (i:=1) rfl a6) rfl λa E=>?_));refine st E (aM E hS oZ rfl (i:=0) rfl (aL e6)) rfl ?_;rintro c6 a _⟨rfl,e3⟩E
 refine st E (gA (k:=ae) (xs:=[b4]) (vs:=[c6]) E hS rfl underlying50 sizeOf59 zeroValue59 ⟨e3,trivial⟩ rfl (by decide)) rfl ?_;rintro g5 a w⟨e8,a3,hS,e1⟩E;obtain⟨g4,e4,h⟩:=ob h;refine st E (iM (k:=ae) (N:=2932031007402) E hS rfl rfl underlying50 underlying50 IT (i:=1) rfl (a6.mono a3) e1 e4 rfl rfl) rfl ?_;rintro a1 a w⟨e9,b3,hS,a4⟩E;refine st0 E (td (k:=ae) E hS o4 rfl rfl a4 (i:=1) rfl) ?_;rintro _ w hS E;refine ag ?_;cases h
 try dsimp only
 exact⟨rfl,_,[(b2,[a1])],[(4,a1)],(j6 a3 b3),⟨a1,(j6 d0 (j6 a3 b3)),a4,rfl,rfl⟩,((hS.pickL 2 [1] rfl rfl rfl).pickT 2 [1] rfl rfl rfl)⟩};{
 intro c3 g2 w a W a2 c5 E a0 hS c2 b5;obtain⟨f6,_,a9,rfl,rfl⟩:=a0;obtain⟨W0,b0⟩:∃W9,W9=W0.put c3 (.deferred (some [])):=⟨_,rfl⟩
 rw[←b0]at hS;rcases zx Z.2 with hb50|hb50
 {
 have h:=aH hb50 h;rw[if_pos hb50];refine ab (ak (sp E (qn (k:=ae) E hS o4 rfl (i:=0) rfl a9) rfl λa E=>qA E rfl λa E=>ag (bK ?_)));obtain rfl:=oi h
 try dsimp only
 have hS:=hS;rw[b0]at hS;refine Fc.shut E hS c2 b5 λa w hS E=>?_;refine Fc.nil E ?_;refine f1 E ?_;exact⟨_,c5,((hS.dropL 1).pickT 1 [0] rfl rfl rfl),a9⟩}
 {have h:=aI hb50 h;cases h}}
theorem Wl:Ctr Sz prog 38 [.rd (.st 76)] [.ap (.st 59)] (λx=>uq x.1):=by intro W0 m w L TL vs x r Lp Tp hS Z h;obtain⟨v0,vs,rfl,a0,J⟩:=cT Z;obtain⟨rfl,rfl,rfl⟩:=eT J;refine rm (MQ (hS:=hS) (Up a0) h) λv w' W=>?_;obtain⟨m',hm,Z',r0⟩:=W;exact⟨m',[v],[],[],[(4,v)],hm,Z',rfl,⟨r0,rfl,trivial⟩,trivial⟩
def Wm:=mC Wl call38
theorem NB:Ctr Sz prog 18 [.rd (.sl (.st 32)),.rd (.sl (.st 32))] [.rd .bool] (λx=>ou x.1 x.2.1):=ncR [] [4] func18 ntmps18 (.s .o (.s .o (.s (.s .o (.b (.l ⟨[.v 5 1 (.dat (.int .i64) none)],[0,1],0,[]⟩ .o))) .o))) λx=>by kernel_rfl
def Wn:=mC NB call18
theorem GO (hS:S W0 m w L TL){p0}(a0:RV (kSl kAp) m v0 p0){p1}(a2:RV (kSl kAp) m v1 p1){r}(h:ou p0 p1=some r):Calls prog 18 #[v0,v1] w (Ret λv w'=>∃m',M.le m m'/\S W0 m' w' L TL/\RV cS m' v r):=by refine rm (NB W0 m w L TL [v0,v1] (p0,p1,()) r [] [] hS ⟨a0,⟨a2,trivial⟩⟩ h) λv w' Z=>?_;obtain⟨m',us,Lr,Lq,Tr,hm,Z',rfl,hR,hO⟩:=Z;obtain⟨u0,us,rfl,r0,J⟩:=cN hR;obtain⟨rfl,rfl,rfl⟩:=cH J;have W:=cO hO;have a1:=cO W;obtain rfl:=dC a1;exact⟨m',hm,Z',r0⟩
theorem Wo:Ctr Sz prog 73 [.rd (.st 59),.rd (.st 59)] [.rd .bool] (λx=>oB x.1 x.2.1):=ncR [Wn] [4] func73 ntmps73 .o λx=>by kernel_rfl
def Wp:=mC Wo call73
theorem Wq:Ctr Sz prog 30 [.rd (.sl (.st 59)),.rd (.sl (.st 59))] [.rd .bool] (λx=>kx x.1 x.2.1):=ncR [Wp] [4] func30 ntmps30 (.s .o (.s .o (.s (.s .o (.b (.l ⟨[.v 5 1 (.dat (.int .i64) none)],[0,1],0,[]⟩ .o))) .o))) λx=>by kernel_rfl
def Wr:=mC Wq call30
theorem wP (hS:S W0 m w L TL){p0}(a0:RV ae m v0 p0){p1}(b4:RV (kSl kAp) m v1 p1){p2}(a5:PR (kSl (aj .i64)) m v2 p2){r}(h:cQ p0 p1 p2=some r):Calls prog 94 #[v0,v1,v2] w (Ret λv w'=>∃m',M.le m m'/\S W0 m' w' L TL/\RV (aj .i64) m' v r):=by
 refine kc func94 ntmps94 λa E=>?_;have E:Env 13 a [(0,v0),(1,v1),(2,v2)]:=E;unfold cQ at h;refine ab (ak ?_);refine st E (je (k:=ae) E hS rfl a0) rfl ?_;rintro _ a w⟨b1,c3,rfl,b3,hS⟩E;refine qA E rfl λa E=>ag (ab (ab (ak ?_)));refine st E (aC E hS ri rfl a5) rfl ?_;rintro v7 a _⟨rfl,a4⟩E;refine sp E (aK E nW rfl) rfl λa E=>?_;refine st E (aM E hS jw rfl (i:=0) rfl (KF.R_drop (aL b3))) rfl ?_;rintro b0 a _⟨rfl,b2⟩E;obtain⟨c2,a3,h⟩:=ob h;refine st E (aT (vs:=[v7,b0]) E rfl call70 (s5 (hS:=hS) a4 b2 a3)) rfl ?_;rintro a9 a w⟨c1,J,hS,a1⟩E;refine qM E rfl λa E=>?_;obtain⟨c0,a6,h⟩:=ob h;refine st E (aT (vs:=[a9,v1]) E rfl call69 (zD (hS:=hS) a1 (b4.mono J) a6)) rfl ?_;rintro b6 a w⟨b7,Z,hS,a2⟩E;obtain⟨rfl,b5⟩:=aF a2;refine qB E rfl rfl cu λa E=>ag (kif E rfl (λW=>?_) (λW=>?_));{
 have h:=aH W h;refine ab (ak (qA E rfl λa E=>ag (bK ?_)));obtain rfl:=oi h
 try dsimp only
 refine f1 E ?_;exact⟨_,(j6 J Z),((hS.dropL 1).dropT 1),(ax (show inR .i64 (-1)from az (by decide)))⟩};{
 have h:=aI W h;refine a7 (ab (ak (qA E rfl λa E=>ag (bK ?_))));obtain rfl:=oi h
 try dsimp only
 refine f1 E ?_;exact⟨_,(j6 J Z),((hS.dropL 1).dropT 1),(ax (show inR .i64 1 from az (by decide)))⟩}
theorem Ws:Ctr Sz prog 93 [.rd (.sl (.st 59)),.rd (.sl (.st 32)),.f2 (.st 59) (.sl (.st 32)) (.int .i64)] [.rd (.int .i64),.rd .bool] (λx=>dM x.1 x.2.1 x.2.2.1):=ncR [] [6,7] func93 ntmps93 (.s .o (.s .o (.s .o (.s (.b (.l ⟨[.v 9 1 (.dat (.int .i64) none),.v 10 1 (.dat (.int .i64) none)],[0,1,2,8],0,[]⟩ .o)) .o)))) λx=>by kernel_rfl
theorem qw (hS:S W0 m w L TL){p0}(a1:RV (kSl ae) m v0 p0){p1}(a3:RV (kSl kAp) m v1 p1){p2}(W:Fn2 prog ae (kSl kAp) (aj .i64) m v2 p2){r}(h:dM p0 p1 p2=some r):Calls prog 93 #[v0,v1,v2] w (Ret λv w'=>∃m',M.le m m'/\S W0 m' w' L TL/\∃v0_ v1_:Value,v=.tuple #[v0_,v1_]/\RV (aj .i64) m' v0_ r.1/\RV cS m' v1_ r.2):=by refine rm (Ws W0 m w L TL [v0,v1,v2] (p0,p1,p2,()) r [] [] hS ⟨a1,⟨a3,⟨W,trivial⟩⟩⟩ h) λv w' he=>?_;obtain⟨m',us,Lr,Lq,Tr,hm,Z',rfl,hR,hO⟩:=he;obtain⟨u0,us,rfl,r0,J⟩:=cN hR;obtain⟨u1,us,rfl,r1,a4⟩:=cN J;obtain⟨rfl,rfl,rfl⟩:=cH a4;have Z:=cO hO;have a2:=cO Z;have a0:=BQ a2;obtain rfl:=dC a0;exact⟨m',hm,Z',u0,u1,rfl,r0,r1⟩
theorem Wt{m0:M}{Z:Value}{a0:List Int}(a1:PR (kSl (aj .i64)) m0 Z a0):Fn2 prog ae (kSl kAp) (aj .i64) m0 (.func (.func 94) #[] #[Z]) (λx0 W=>cQ x0 W a0):=by refine⟨94,_,rfl,call94,?_⟩;intro W0 m w L TL v0 v1 x0 W r hm hS h0 h hr;refine(wP (hS:=hS) h0 h (a1.mono hm) hr).mono ?_;intro e w' J;cases e with
 |returned v=>obtain⟨m',h,h2,h3⟩:=J;exact⟨m',h,h2,h3⟩|panicked ch=>exact J.elim|outgrown=>exact J.elim
theorem yt (hS:S W0 m w L TL){p0}(a1:RV (kPt aJ) m v0 p0){p1}(e0:RV (kSl kAp) m v1 p1){r}(h:gT p0 p1=some r):Calls prog 39 #[v0,v1] w (Ret λv w'=>∃m',M.le m m'/\S W0 m' w' L TL/\ItV prog (Rv1 ae) m' v r):=by
 refine kc func39 ntmps39 λa E=>?_;have E:Env 37 a [(0,v0),(1,v1)]:=E;unfold gT at h;refine ab (ak (qA E rfl λa E=>ag (ab (ak (qM E rfl λa E=>?_)))));obtain⟨r3,g5,h⟩:=ob h;refine st E (aT (vs:=[v1]) E rfl call92 (rj (hS:=hS) e0 g5)) rfl ?_;rintro v8 a w⟨m5,a0,hS,a6⟩E;refine qA E rfl λa E=>ag (ab ?_);obtain⟨a5,b4,a2,c0,h⟩:=ob2 h;obtain⟨b3,f3,h⟩:=ob h;refine kch (k:=14) (m:=m5) (es:=[13]) (Φ:=(λi m ws v=>match i with|0=>v=v0|1=>v=v0|2=>PR (kSl (aj .i64)) m v a5.fSort|3=>RV (kSl (aj .i64)) m v a5.fSort|4=>v=v0|5=>v=v0|6=>PR (kSl (aj .i64)) m v a2.fSort|7=>RV (kSl (aj .i64)) m v a2.fSort|8=>ei .i64 (a2.fSort.length:Int) v|9=>v=v8|10=>ei .i64 (r3.length:Int) v|11=>ei .i64 (if (r3.length:Int)<(a2.fSort.length:Int)then (r3.length:Int)else (a2.fSort.length:Int)) v|12=>RV (kSl (aj .i64)) m v b3|13=>v=(.pointer (some ⟨(wi ws 0).b,0,none⟩))|_=>True)) (Q:=(λc m ws L' b5=>match c with|0=>L=L'/\(4,v8)::TL=b5|1=>((wi ws 0).b,[(.slice none 0 0)])::L=L'/\(4,v8)::TL=b5|_=>False)) (cs:=[⟨0,1,false,[(0,v0)]⟩,⟨0,1,false,[]⟩,⟨0,1,false,[]⟩,⟨0,1,false,[]⟩,⟨0,1,false,[(0,v0)]⟩,⟨0,1,false,[]⟩,⟨0,1,false,[]⟩,⟨0,1,false,[]⟩,⟨0,1,false,[]⟩,⟨0,1,false,[(5,v8)]⟩,⟨0,1,false,[]⟩,⟨0,1,false,[]⟩,⟨0,1,false,[]⟩,⟨0,0,true,[]⟩]) mixed E hS ⟨rfl,rfl⟩ rfl rfl (by kernel_rfl) ?_ ?_ ?_ ?_;{
 intro i m_ d1 ws v n_ q_
 iterate 14 (rcases i with _|i;first|exact q_|exact PR.mono q_ n_|exact RV.mono q_ n_)
 exact trivial};{
 intro c m_ d1 ws L_ T_ n_ a9
 match c,a9 with
 |0,⟨b2,b1⟩=>exact⟨b2,b1⟩|1,⟨b2,b1⟩=>exact⟨b2,b1⟩|_+2,a9=>exact a9.elim};{
 refine⟨?_,?_,?_,?_,?_,?_,?_,?_,?_,?_,?_,?_,?_,?_,trivial⟩
 {exact cmv λ_ _=>rfl}
 {refine cp0 λ_ _ _ _ _ _ _ Z _ J W T'=>?_;have E:=W.add (T' 0);exact cq (ld E rfl (a1.mono (j6 a0 Z)) b4) J rfl}
 {refine cp0 λ_ _ _ _ _ _ _ Z _ J W T'=>?_;have E:=W.add (T' 1);exact cr (bX E oK wI rfl ((mU a1 b4).mono (j6 a0 Z))) J λ_ h=>h}
 {
 refine cp0 λ_ _ _ m' a' _ _ _ _ J W T'=>?_;obtain⟨i5,f0,d2⟩:∃v,a'.tmps.getD 13 undef=v/\(PR (kSl (aj .i64)) m' v a5.fSort):=⟨_,rfl,T' 2⟩
 have E:=W.add (f0);exact cr (aC E J ri rfl d2) J λ_ h=>h}
 {exact cmv λ_ _=>rfl}
 {refine cp0 λ_ _ _ _ _ _ _ Z _ J W T'=>?_;have E:=W.add (T' 4);exact cq (ld E rfl (a1.mono (j6 a0 Z)) c0) J rfl}
 {refine cp0 λ_ _ _ _ _ _ _ Z _ J W T'=>?_;have E:=W.add (T' 5);exact cr (bX E oK wI rfl ((mU a1 c0).mono (j6 a0 Z))) J λ_ h=>h}
 {
 refine cp0 λ_ _ _ m' a' _ _ _ _ J W T'=>?_;obtain⟨j2,h6,f4⟩:∃v,a'.tmps.getD 17 undef=v/\(PR (kSl (aj .i64)) m' v a2.fSort):=⟨_,rfl,T' 6⟩
 have E:=W.add (h6);exact cr (aC E J ri rfl f4) J λ_ h=>h}
 {refine cp0 λ_ _ _ m' a' _ _ _ _ J W T'=>?_;obtain⟨j5,E,b7⟩:=adv W (T' 7);exact cq (bq (k:=(aj .i64)) E rfl rfl underlying49 b7) J ⟨rfl,(eD (jg b7))⟩}
 {exact cmv λ_ _=>rfl}
 {refine cp0 λ_ _ _ _ _ _ _ Z _ J W T'=>?_;have E:=W.add (T' 9);exact cq (bq (k:=kAp) E rfl rfl underlying22 (a6.mono Z)) J ⟨rfl,(eD (jg (a6.mono Z)))⟩}
 {refine cp0 λ_ _ _ _ _ _ _ _ _ J W T'=>?_;obtain⟨e9,e7⟩:=T' 8;have E:=W.add e9;obtain⟨c6,g3⟩:=T' 10;have E:=E.add c6;exact cq (Bz E rfl rfl) J ⟨rfl,(Hb e7 g3)⟩}
 {
 refine cp0 λ_ _ _ m' a' _ _ _ _ J W T'=>?_;obtain⟨j1,d0,e3⟩:∃v,a'.tmps.getD 14 undef=v/\(RV (kSl (aj .i64)) m' v a5.fSort):=⟨_,rfl,T' 3⟩
 have E:=(W.add (d0)).add (T' 11).1;exact cr (dy (k:=(aj .i64)) E rfl underlying49 sizeOf3 e3 rfl ⟨_,rfl⟩ f3 (xl:=none) (xh:=(some (.tmp 22)))) J λ_ h=>h}
 {refine wZ λi4 L_ T_ m' a' w' g4 Z Q' J W T'=>?_;obtain rfl:=eS g4;obtain⟨rfl,rfl⟩:=Q';refine a8.imp (cF J zeroValue49 rfl (cs:=[(.slice none 0 0)])) ?_;rintro j3 w⟨b0,rfl,hS⟩;exact⟨_,⟨b0,undef,[],[],[]⟩,_,_,Z1 _,hS,⟨rfl,rfl⟩,rfl⟩}};{
 intro i3 L_ T_ g1 a w g2 a3 e8 hS g6 h4 e1 c3;obtain⟨⟨b0,_,_,_,_⟩,rfl⟩:=A0 g2;obtain⟨rfl,rfl⟩:=e8;have E:=eof 14 [(0,v0),(1,v1),(4,.nilFunc),(5,v8),(9,v1),(10,v8)] g6 h4 e1;obtain⟨k0,g0,b6⟩:∃v,a.tmps.getD 23 undef=v/\(RV (kSl (aj .i64)) g1 v b3):=⟨_,rfl,c3 12⟩
 have E:=(E.add (g0)).add (c3 13);refine st0 E (td (k:=(aj .i64)) E hS ri rfl rfl b6 (i:=0) rfl) ?_;rintro _ w hS E;refine ag (ab (ak (qM E rfl λa E=>?_)));obtain⟨h5,c1,h⟩:=ob h;refine sp E (ld E rfl (a1.mono (j6 a0 a3)) c1) rfl λa E=>?_;refine st E (bX E mO qs rfl ((mU a1 c1).mono (j6 a0 a3))) rfl ?_;rintro i2 a _⟨rfl,f5⟩E;refine st E (aC E hS o4 rfl f5) rfl ?_;rintro c4 a _⟨rfl,g7⟩E;refine qM E rfl λa E=>?_;obtain⟨k3,a4,hS,h8⟩:=S.freezeL (k:=(kSl (aj .i64))) hS (yE b6);refine sp E (lE E rfl rfl) rfl λa E=>?_
 obtain⟨c5,h2,h⟩:=ob h;refine st E (aT (vs:=[c4,v8,(.func (.func 94) #[] #[(pz b0)])]) E rfl call93 (by have g9:=(g7.mono a4);have h3:=(a6.mono (j6 a3 a4));have e4:=(Wt h8);exact qw (p0:=h5.fL) (p1:=r3) (p2:=(λc7 f6=>cQ c7 f6 b3)) (hS:=hS) g9 h3 e4 h2)) rfl ?_;rintro _ a w⟨j4,c2,hS,h9,i0,rfl,h1,g8⟩E;obtain⟨rfl,e5⟩:=aF h1;obtain rfl:=fg g8
 refine qM E rfl λa E=>sp E (bQ E rfl rfl) rfl λa E=>sp E (bQ E rfl rfl) rfl λa E=>qA E rfl λa E=>qA E rfl λa E=>ag (ab (ak (qM E rfl λa E=>qM E rfl λa E=>?_)));obtain⟨i8,e6,h⟩:=ob h;refine st E (aT (vs:=[v0,(.int .i64 c5.1)]) E rfl call89 (qu (hS:=hS) (a1.mono (j6 a0 (j6 a3 (j6 a4 c2)))) e5 e6)) rfl ?_;rintro j0 a w⟨i1,h0,hS,h7⟩E;refine qA E rfl λa E=>ag (bK ?_);obtain rfl:=oi h
 try dsimp only
 refine f1 E ?_;exact⟨_,(j6 a0 (j6 a3 (j6 a4 (j6 c2 h0)))),(hS.dropT 1),h7⟩}
theorem Wu:Ctr Sz prog 39 [.rd (.st 65),.rd (.sl (.st 32))] [.rd (.st 76)] (λx=>gT x.1 x.2.1):=by intro W0 m w L TL vs x r Lp Tp hS Z h;obtain⟨v0,vs,rfl,a0,J⟩:=cT Z;obtain⟨v1,vs,rfl,a1,a2⟩:=cT J;obtain⟨rfl,rfl,rfl⟩:=eT a2;refine rm (yt (hS:=hS) a0 a1 h) λv w' W=>?_;obtain⟨m',hm,Z',r0⟩:=W;exact⟨m',[v],[],[],[],hm,Z',rfl,⟨M3 r0,trivial⟩,trivial⟩
def Wv:=mC Wu call39
theorem Ww:Ctr Sz prog 44 [.rd (.st 70),.rd (.sl (.st 32))] [.rd (.sl (.st 59))] (λx=>Af x.1 x.2.1):=ncR [Nz,Ny] [4] func44 ntmps44 (.s .o (.s .o (.s .o (.s (.s .o (.b (.l ⟨[.v 6 1 (.dat (.int .i64) none)],[1,2,5],1,[]⟩ .o))) .o)))) λx=>by kernel_rfl
def Wx:=mC Ww call44
theorem uN{σ:Type}{I:M->σ->Mem->Tls->Prop}{step:σ->Ap->Option (σ×Bool)}{B:σ->Bse}{v0:Value}{m:M}{w:World}{L:Mem}{TL:Tls}{a9:σ}{b3:Mem}{a5:Tls}(mono:∀m m' s a b,M.le m m'->I m s a b->I m' s a b)(hy:yD prog (Rv1 kAp) B v0 I step)(e6:I m a9 b3 a5)(hS:S (B a9) m w (b3++L) (a5++TL)){v1:Value}{p1:(Option aq)}(f5:PR (kPt aJ) m v1 p1){v2:Value}{p2:Int}(b0:PR (aj .i64) m v2 p2){r:σ}(h:du step a9 p1 p2=some r):Calls prog 142 #[v0,v1,v2] w (Ret λ_ w'=>∃m' Ls' TLs',M.le m m'/\I m' r Ls' TLs'/\S (B r) m' w' (Ls'++L) (TLs'++TL)):=by
 refine wU (args:=[v0,v1,v2]) func142 rfl ntmps142 (Z2 rfl) λa E=>?_;have E:Env 35 a [(0,v0),(1,v1),(2,v2)]:=E;unfold du at h;refine ab (ak ?_);refine st E (aC E hS MN rfl f5) rfl ?_;rintro v7 a _⟨rfl,c0⟩E;obtain⟨x8,c2,h⟩:=ob h;refine sp E (ld E rfl c0 c2) rfl λa E=>?_;refine st E (bX E mO qs rfl (mU c0 c2)) rfl ?_;rintro h3 a _⟨rfl,c7⟩E;refine st E (aC E hS o4 rfl c7) rfl ?_;rintro b6 a _⟨rfl,c1⟩E;refine sp E (bq (k:=ae) E rfl rfl underlying50 c1) rfl λa E=>qM E rfl λa E=>ag (bj ?_);refine fN h (λ(s:Int×σ)a w=>∃m',M.le m m'/\∃(W:Mem),∃(Z:Tls),inR .i64 s.1/\I m' s.2 W Z/\S (B s.2) m' w ((W++L)) ((Z++TL))/\Env 35 a [(0,v0),(2,v2),(9,b6),(10,.int .i64 (x8.fL.length:Int)),(11,.int .i64 s.1)]) ?_ ?_;{exact⟨_,(Z1 _),b3,a5,(show inR .i64 0 from az (by decide)),e6,hS,kut E⟩};{
 rintro⟨a2,b1⟩a w⟨d1,J,W,Z,h1,a3,hS,E⟩r26 h hb27;have h:cK step p2 x8 a2 b1=some r26:=h;unfold cK at h;refine ab (ak (qB E rfl rfl cu λa E=>ag (ab (kif E rfl (λb2=>?_) (λb2=>?_)))))
 {
 have h:=aH b2 h;refine a7 (ab (bj (ab (ak ?_))));obtain⟨c6,f0,h⟩:=ob h;refine st E (be (k:=ae) E rfl rfl underlying50 sizeOf59 (c1.mono J) f0) rfl ?_;rintro h2 a _⟨rfl,d2⟩E;refine st E (aC E hS oZ rfl d2) rfl ?_;rintro g6 a _⟨rfl,e8⟩E;refine st E (cF hS zeroValue59 rfl (cs:=zB)) rfl ?_;rintro _ a w⟨h8,rfl,hS⟩E;refine st0 E (dq E hS oZ bT rfl rfl e8 (i:=0) rfl (vS _)) ?_;rintro _ w⟨h6,c3,hS⟩E;refine ag (ab ?_)
 refine cA (λa w=>∃a6:Bool,∃x44:σ,cJ a2 a6 x44=some r26/\∃m',M.le d1 m'/\∃(a0:Mem),∃(a1:Tls),I m' x44 a0 a1/\S (B x44) m' w ((a0++L)) ((a1++TL))/\Env 35 a [(0,v0),(2,v2),(9,b6),(10,.int .i64 (x8.fL.length:Int)),(11,.int .i64 a2),(33,.bool a6)]) ?_ ?_
 {
 refine ak ?_;refine st E (aC E hS ty3 rfl (b0.mono J)) rfl ?_;rintro h9 a _⟨rfl,e1⟩E;obtain⟨rfl,g3⟩:=aF e1;refine qB E rfl rfl cu λa E=>qM E rfl λa E=>?_;rcases zx (decide (p2<0))with hd57|hd57
 {have h:=aH hd57 h;refine qX E hd57 λa E=>qX E hd57 λa E=>qX E hd57 λa E=>qX E hd57 λa E=>qX E hd57 λa E=>qT E hd57 rfl λa E=>qM E rfl λa E=>qX E rfl λa E=>qX E rfl λa E=>qX E rfl λa E=>?_;refine qX E rfl λa E=>qX E rfl λa E=>qX E rfl λa E=>qX E rfl λa E=>qX E rfl λa E=>qT E rfl rfl λa E=>ag ?_;exact⟨true,b1,h,_,(Z1 _),W,Z,a3,(hS.pickL 1 [] rfl rfl rfl),kut E⟩}
 {
 have h:=aI hd57 h;refine stg E rfl rfl rfl rfl hd57 (aC E hS ty3 rfl (b0.mono J)) rfl ?_;rintro g7 a _⟨rfl,c5⟩E;obtain⟨rfl,h4⟩:=aF c5;refine spg E rfl rfl rfl rfl hd57 (aK E nW rfl) rfl λa E=>?_;refine stg E rfl rfl rfl rfl hd57 (aM E hS jw rfl (i:=0) rfl (KF.R_drop (aL c3))) rfl ?_;rintro g2 a _⟨rfl,e0⟩E;refine spg E rfl rfl rfl rfl hd57 (bq (k:=kAp) E rfl rfl underlying22 e0) rfl λa E=>spg E rfl rfl rfl rfl hd57 (bg E rfl rfl zM) rfl λa E=>qF E hd57 rfl λa E=>qM E rfl λa E=>?_;rcases zx (decide ((c6.fRow.length:Int)<=p2))with hd71|hd71
 {have h:=aH hd71 h;refine qX E hd71 λa E=>qX E hd71 λa E=>qX E hd71 λa E=>qX E hd71 λa E=>qX E hd71 λa E=>qX E hd71 λa E=>qX E hd71 λa E=>qX E hd71 λa E=>qT E hd71 rfl λa E=>ag ?_;exact⟨true,b1,h,_,(Z1 _),W,Z,a3,(hS.pickL 1 [] rfl rfl rfl),kut E⟩}
 {
 have h:=aI hd71 h;refine qG E hd71 rfl λa E=>spg E rfl rfl rfl rfl hd71 (aK E nW rfl) rfl λa E=>?_;refine stg E rfl rfl rfl rfl hd71 (aM E hS jw rfl (i:=0) rfl (KF.R_drop (aL c3))) rfl ?_;rintro h0 a _⟨rfl,f3⟩E;refine stg E rfl rfl rfl rfl hd71 (aC E hS ty3 rfl (b0.mono J)) rfl ?_;rintro h7 a _⟨rfl,e5⟩E;obtain⟨rfl,g9⟩:=aF e5;obtain⟨i0,f6,h⟩:=ob h;refine stg E rfl rfl rfl rfl hd71 (be (k:=kAp) E rfl rfl underlying22 sizeOf32 f3 f6) rfl ?_;rintro g8 a _⟨rfl,e4⟩E;refine stg E rfl rfl rfl rfl hd71 (aC E hS iA rfl e4) rfl ?_;rintro f4 a _⟨rfl,g1⟩E
 obtain⟨b5,e9,h⟩:=ob h;refine stg E rfl rfl rfl rfl hd71 (hy _ _ L TL _ _ _ [f4] _ _ _ a3 (hS.dropL 1) ⟨_,rfl,g1⟩ e9 _ _ _ _ _ _ _ _ _ (E.eval rfl) (gU E rfl)) rfl ?_;rintro h5 a w⟨e3,g4,g0,e7,d0,c4,hS⟩E;obtain rfl:=e3;refine spg E rfl rfl rfl rfl hd71 (lD E rfl) rfl λa E=>qF E hd71 rfl λa E=>ag ?_;exact⟨(!b5.2),b5.1,h,_,d0,g0,e7,c4,hS,kut E⟩}}}
 {
 rintro a w⟨a6,x44,h,g5,b4,a0,a1,b7,hS,E⟩;unfold cJ at h;refine kif E rfl (λa4=>?_) (λa4=>?_)
 {
 have h:=aH a4 h;refine bK ?_;have h:=cg h hb27;obtain rfl:=oi h
 try dsimp only
 refine Fin.mk E (rs:=[]) rfl tR.nil ?_;exact⟨_,a0,a1,(j6 J b4),b7,hS⟩}
 {have h:=aI a4 h;refine a7 (ak (qB E rfl rfl (cp rfl) λa E=>qM E rfl λa E=>ag ?_));exact⟨(Z0.wrap (a2+1),x44),(Option.some.inj h).symm,_,(j6 J b4),a0,a1,(aG _ _),b7,hS,kut E⟩}}}
 {
 have h:=aI b2 h;refine fe rfl rfl ?_;have h:=cg h hb27;obtain rfl:=oi h
 try dsimp only
 refine Fin.mk E (rs:=[]) rfl tR.nil ?_;exact⟨_,W,Z,J,a3,hS⟩}}
theorem uH{m:M}{v1:Value}{p1:(Option aq)}(J:PR (kPt aJ) m v1 p1){v2:Value}{p2:Int}(W:PR (aj .i64) m v2 p2){xs:List Ap}(h:ew p1 p2=some xs):zR prog (Rv1 kAp) 142 #[v1,v2] m xs:=by intro σ I step B y m1 w L TL s Ls TLs r mono hle hy hI hS hf;exact uN mono hy hI hS (J.mono hle) (W.mono hle) (sW h hf)
theorem wQ (hS:S W0 m w L TL){p0}(a3:RV (kPt aJ) m v0 p0){p1}(a5:inR .i64 p1){r}(h:ij p0 p1=some r):Calls prog 97 #[v0,(.int .i64 p1)] w (Ret λv w'=>∃m',M.le m m'/\S W0 m' w' L TL/\ItV prog (Rv1 kAp) m' v r):=by
 refine kc func97 ntmps97 λa E=>?_;have E:Env 6 a [(0,v0),(1,.int .i64 p1)]:=E;unfold ij at h;refine ab (ak ?_);refine st E (je (k:=(kPt aJ)) E hS rfl a3) rfl ?_;rintro _ a w⟨b1,b0,rfl,a1,hS⟩E;refine st E (je (k:=(aj .i64)) E hS rfl (ax a5)) rfl ?_;rintro _ a w⟨b5,b2,rfl,a6,hS⟩E;refine qA E rfl λa E=>ag (ab (ak ?_));obtain⟨b3,J,hS,a9⟩:=S.freezeL (k:=(kPt aJ)) (hS.pickL 2 [1,0] rfl rfl rfl) a1;obtain⟨Z,W,hS,a4⟩:=S.freezeL (k:=(aj .i64)) hS ((aj .i64).mono J a6);obtain⟨a2,a0,h⟩:=ob h;refine sp E (lE E rfl rfl) rfl λa E=>qA E rfl λa E=>ag (bK ?_);obtain rfl:=oi h;try dsimp only
 refine f1 E ?_;exact⟨_,(j6 J W),hS,(⟨142,_,rfl,call142,uH (a9.mono W) a4 a0⟩:ItV prog (Rv1 kAp) Z (.func (.func 142) #[] #[(pz b1),(pz b5)]) a2)⟩
theorem Wy:Ctr Sz prog 98 [.rd (.st 65)] [.rd (.int .u64),.rd (.int .u64)] (λx=>ii x.1):=ncR [] [2,3] func98 ntmps98 (.s .o (.s .o (.s (.s .o (.b (.l ⟨[.v 4 1 (.dat (.int .u64) none),.v 5 1 (.dat (.int .u64) none),.v 13 1 (.dat (.int .i64) none)],[11,12],0,[]⟩ .o))) .o))) λx=>by kernel_rfl
theorem wR (hS:S W0 m w L TL){p0}(a0:RV (kPt aJ) m v0 p0){r}(h:ii p0=some r):Calls prog 98 #[v0] w (Ret λv w'=>∃m',M.le m m'/\S W0 m' w' L TL/\∃v0_ v1_:Value,v=.tuple #[v0_,v1_]/\RV (aj .u64) m' v0_ r.1/\RV (aj .u64) m' v1_ r.2):=by refine rm (Wy W0 m w L TL [v0] (p0,()) r [] [] hS ⟨a0,trivial⟩ h) λv w' Z=>?_;obtain⟨m',us,Lr,Lq,Tr,hm,Z',rfl,hR,hO⟩:=Z;obtain⟨u0,us,rfl,r0,J⟩:=cN hR;obtain⟨u1,us,rfl,r1,a1⟩:=cN J;obtain⟨rfl,rfl,rfl⟩:=cH a1;have W:=cO hO;obtain rfl:=dC W;exact⟨m',hm,Z',u0,u1,rfl,r0,r1⟩
theorem IY (hS:S W0 m w L TL){p0}(c7:RV (kPt aJ) m v0 p0){p1}(l2:RV f7 m v1 p1){p2}(n6:inR .i64 p2){r}(h:rP p0 p1 p2=some r):Calls prog 45 #[v0,v1,(.int .i64 p2)] w (Ret λv w'=>∃m',M.le m m'/\S W0 m' w' L TL/\RV cS m' v r):=by
 refine BB func45 rfl ntmps45 (Z2 rfl) λa E=>?_;have E:Env 137 a [(0,v0),(1,v1),(2,.int .i64 p2)]:=E;unfold rP at h;refine ab (ak ?_);refine st E (je (k:=f7) E hS rfl l2) rfl ?_;rintro _ a w⟨Z,a2,rfl,b0,hS⟩E;refine qA E rfl λa E=>ag (ab (ak (qA E rfl λa E=>ag (ab (ak ?_)))));refine st E (cF hS zeroValue22 rfl (cs:=[(.slice none 0 0)])) rfl ?_;rintro _ a w⟨W,rfl,hS⟩E;refine ag (ab (ak (qA E rfl λa E=>ag (ab (ak (qA E rfl λa E=>ag (ab ?_)))))));refine ab (ak (sp E (aK E uE rfl) rfl λa E=>?_));refine st E (aM E hS o4 rfl (i:=1) rfl (QF.R_drop (aL b0))) rfl ?_;rintro bt a _⟨rfl,t3⟩E;refine sp E (bq (k:=ae) E rfl rfl underlying50 t3) rfl λa E=>qM E rfl λa E=>ag ?_;refine cA (λa w=>∃f5:(List Ap),∃b6:Int,∃c3:Int,su p0 p2 f5 b6 c3=some r/\∃m',M.le m m'/\∃(a5:Value),RV (kSl kAp) m' a5 f5/\inR .u64 b6/\inR .u64 c3/\S W0 m' w ((W,[(.slice none 0 0)])::(Z,a2)::L) ((4,a5)::TL)/\Env 137 a [(0,v0),(2,.int .i64 p2),(7,a5),(8,pz W),(9,.int .u64 b6),(10,.int .u64 c3)]) ?_ ?_;{
 refine bj ?_;refine fN h (λ(s:List Ap×Int×Int×Int)a w=>∃m',M.le m m'/\∃(a6:Value),RV (kSl kAp) m' a6 s.1/\inR .u64 s.2.1/\inR .u64 s.2.2.1/\inR .i64 s.2.2.2/\S W0 m' w ((W,[(.slice none 0 0)])::(Z,a2)::L) ((4,a6)::TL)/\Env 137 a [(0,v0),(2,.int .i64 p2),(4,pz Z),(7,a6),(8,pz W),(9,.int .u64 s.2.1),(10,.int .u64 s.2.2.1),(22,.int .i64 (p1.fL.length:Int)),(23,.int .i64 s.2.2.2)]) ?_ ?_
 {exact⟨_,(Z1 _),(.slice none 0 0),dK,(show inR .u64 0 from az (by decide)),(show inR .u64 0 from az (by decide)),(show inR .i64 0 from az (by decide)),(hS.tail0 4),kut E⟩}
 {
 rintro⟨d0,a0,x182,J⟩a w⟨q1,a4,a6,e5,g6,g7,bx,hS,E⟩r186 h hb187;have h:px p0 p1 p2 d0 a0 x182 J=some r186:=h;unfold px at h;refine ab (ak (qB E rfl rfl cu λa E=>ag (ab (kif E rfl (λg1=>?_) (λg1=>?_)))))
 {
 have h:=aH g1 h;refine a7 (ab (bj (ab (ak (qM E rfl λa E=>qA E rfl λa E=>ag (ab (ab ?_)))))));refine cA (λa w=>∃f3:Bool,kX p0 p1 p2 d0 a0 x182 J f3=some r186/\∃m',M.le q1 m'/\S W0 m' w ((W,[(.slice none 0 0)])::(Z,a2)::L) ((4,a6)::TL)/\Env 137 a [(0,v0),(2,.int .i64 p2),(4,pz Z),(7,a6),(8,pz W),(9,.int .u64 a0),(10,.int .u64 x182),(11,.int .i64 J),(22,.int .i64 (p1.fL.length:Int)),(23,.int .i64 J),(33,.bool f3)]) ?_ ?_
 {
 refine ak (qM E rfl λa E=>qB E rfl rfl zM λa E=>qM E rfl λa E=>?_);rcases zx (decide (0<=p2))with hd357|hd357
 {have h:=aH hd357 h;refine qG E hd357 rfl λa E=>spg E rfl rfl rfl rfl hd357 (aK E KI rfl) rfl λa E=>?_;refine stg E rfl rfl rfl rfl hd357 (aM E hS ty3 rfl (i:=1) rfl (QD.R_drop (aL (f7.mono a4 b0)))) rfl ?_;rintro z0 a _⟨rfl,r4⟩E;obtain⟨rfl,ee⟩:=aF r4;refine spg E rfl rfl rfl rfl hd357 (bg E rfl rfl cu) rfl λa E=>qT E hd357 rfl λa E=>ag ?_;exact⟨(decide (p2<p1.fColumns)),h,_,(Z1 _),hS,kut E⟩}
 {have h:=aI hd357 h;refine qX E hd357 λa E=>qX E hd357 λa E=>qX E hd357 λa E=>qX E hd357 λa E=>qF E hd357 rfl λa E=>ag ?_;exact⟨false,h,_,(Z1 _),hS,kut E⟩}}
 {
 rintro a w⟨f3,h,p5,a3,hS,E⟩;unfold kX at h;refine cA (λa w=>∃a9:(List Ap),mI p0 p1 a0 x182 J a9=some r186/\∃m',M.le p5 m'/\∃(a1:Value),RV (kSl kAp) m' a1 a9/\S W0 m' w ((W,[(.slice none 0 0)])::(Z,a2)::L) ((4,a1)::TL)/\Env 137 a [(0,v0),(2,.int .i64 p2),(4,pz Z),(7,a1),(8,pz W),(9,.int .u64 a0),(10,.int .u64 x182),(11,.int .i64 J),(22,.int .i64 (p1.fL.length:Int)),(23,.int .i64 J)]) ?_ ?_
 {
 refine kif E rfl (λe3=>?_) (λe3=>?_)
 {
 have h:=aH e3 h;refine ak (qM E rfl λa E=>sp E (aK E uE rfl) rfl λa E=>?_);refine st E (aM E hS o4 rfl (i:=1) rfl (QF.R_drop (aL (f7.mono (j6 a4 a3) b0)))) rfl ?_;rintro ea a _⟨rfl,m1⟩E;refine qM E rfl λa E=>?_;obtain⟨al,p7,h⟩:=ob h;refine st E (be (k:=ae) E rfl rfl underlying50 sizeOf59 m1 p7) rfl ?_;rintro ec a _⟨rfl,m7⟩E;refine st E (bX E nW KF rfl m7) rfl ?_;rintro ba a _⟨rfl,o1⟩E;refine st E (aC E hS jw rfl o1) rfl ?_;rintro z4 a _⟨rfl,w0⟩E;refine qM E rfl λa E=>?_;obtain⟨l4,q2,h⟩:=ob h
 refine st E (be (k:=kAp) E rfl rfl underlying22 sizeOf32 w0 q2) rfl ?_;rintro bi a _⟨rfl,o3⟩E;refine st E (aC E hS iA rfl o3) rfl ?_;rintro w1 a _⟨rfl,j0⟩E;refine st E (gA (k:=kAp) (xs:=[l4]) (vs:=[w1]) E hS rfl underlying22 sizeOf32 zeroValue32 ⟨j0,trivial⟩ rfl (by decide)) rfl ?_;rintro el a w⟨dr,h0,hS,x3⟩E;obtain⟨x2,k3,h⟩:=ob h;refine st E (iM (k:=kAp) (N:=3518437208883) E hS rfl rfl underlying22 underlying22 zy (i:=1) rfl (e5.mono (j6 a3 h0)) x3 k3 rfl rfl) rfl ?_;rintro m5 a w⟨bo,r6,hS,n0⟩E
 refine qA E rfl λa E=>ag ?_;exact⟨x2,h,_,(j6 h0 r6),m5,n0,(hS.pickT 2 [1] rfl rfl rfl),kut E⟩}
 {have h:=aI e3 h;refine a7 ?_;exact⟨d0,h,_,(Z1 _),a6,(e5.mono a3),hS,kut E⟩}}
 {
 rintro a w⟨a9,h,bu,b2,a1,u2,hS,E⟩;unfold mI at h;refine ab (ak (qM E rfl λa E=>sp E (aK E uE rfl) rfl λa E=>?_));refine st E (aM E hS o4 rfl (i:=1) rfl (QF.R_drop (aL (f7.mono (j6 a4 (j6 a3 b2)) b0)))) rfl ?_;rintro ep a _⟨rfl,i3⟩E;refine qM E rfl λa E=>?_;obtain⟨dl,j4,h⟩:=ob h;refine st E (be (k:=ae) E rfl rfl underlying50 sizeOf59 i3 j4) rfl ?_;rintro fl a _⟨rfl,n3⟩E;refine st E (bX E lz sN rfl n3) rfl ?_;rintro z3 a _⟨rfl,k0⟩E;refine st E (aC E hS xZ rfl k0) rfl ?_;rintro x8 a _⟨rfl,w5⟩E
 obtain⟨h7,u1,h⟩:=ob h;refine st E (aT (vs:=[v0,x8]) E rfl call37 (mQ (hS:=hS) (c7.mono (j6 a4 (j6 a3 b2))) w5 u1)) rfl ?_;rintro _ a w⟨l1,b5,hS,df,T1,rfl,k6,n2⟩E;obtain⟨rfl,de⟩:=aF k6;obtain rfl:=fg n2;refine qM E rfl λa E=>sp E (bQ E rfl rfl) rfl λa E=>sp E (bQ E rfl rfl) rfl λa E=>qA E rfl λa E=>qA E rfl λa E=>ag (ab (ab ?_))
 refine cA (λa w=>∃e7:Bool,pw p1 a0 x182 J a9 e7=some r186/\∃m',M.le l1 m'/\S W0 m' w ((W,[(.slice none 0 0)])::(Z,a2)::L) ((4,a1)::TL)/\Env 137 a [(0,v0),(2,.int .i64 p2),(4,pz Z),(7,a1),(8,pz W),(9,.int .u64 a0),(10,.int .u64 x182),(11,.int .i64 J),(22,.int .i64 (p1.fL.length:Int)),(23,.int .i64 J),(63,.bool e7)]) ?_ ?_
 {
 refine ak (qM E rfl λa E=>qM E rfl λa E=>qB E rfl rfl mS λa E=>qM E rfl λa E=>?_);rcases zx (h7.1!=J)with hd316|hd316
 {have h:=aH hd316 h;refine qX E hd316 λa E=>qX E hd316 λa E=>qT E hd316 rfl λa E=>ag ?_;exact⟨true,h,_,(Z1 _),hS,kut E⟩}
 {have h:=aI hd316 h;refine qG E hd316 rfl λa E=>spg E rfl rfl rfl rfl hd316 (lD E rfl) rfl λa E=>qF E hd316 rfl λa E=>ag ?_;exact⟨(!h7.2),h,_,(Z1 _),hS,kut E⟩}}
 {
 rintro a w⟨e7,h,t1,b3,hS,E⟩;unfold pw at h;refine kif E rfl (λg2=>?_) (λg2=>?_)
 {
 have h:=aH g2 h;refine ab (ak (qA E rfl λa E=>ag (bK ?_)));have h:=cg h hb187;obtain rfl:=oi h
 try dsimp only
 refine Fc.nil E ?_;refine f1 E ?_;exact⟨_,(j6 a4 (j6 a3 (j6 b2 (j6 b5 b3)))),((hS.dropL 2).dropT 1),dA⟩}
 {
 have h:=aI g2 h;refine a7 (ab (ab ?_));refine cA (λa w=>∃e8:Bool,pu p1 a0 x182 J a9 e8=some r186/\∃m',M.le t1 m'/\S W0 m' w ((W,[(.slice none 0 0)])::(Z,a2)::L) ((4,a1)::TL)/\Env 137 a [(0,v0),(2,.int .i64 p2),(4,pz Z),(7,a1),(8,pz W),(9,.int .u64 a0),(10,.int .u64 x182),(11,.int .i64 J),(22,.int .i64 (p1.fL.length:Int)),(23,.int .i64 J),(76,.bool e8)]) ?_ ?_
 {
 refine ak (qM E rfl λa E=>qB E rfl rfl mR λa E=>qM E rfl λa E=>?_);rcases zx (J==0)with hd290|hd290
 {have h:=aH hd290 h;refine qX E hd290 λa E=>qX E hd290 λa E=>qX E hd290 λa E=>qX E hd290 λa E=>qX E hd290 λa E=>qX E hd290 λa E=>qX E hd290 λa E=>qX E hd290 λa E=>qX E hd290 λa E=>qT E hd290 rfl λa E=>?_;refine ag ?_;exact⟨true,h,_,(Z1 _),hS,kut E⟩}
 {
 have h:=aI hd290 h;refine spg E rfl rfl rfl rfl hd290 (aK E uE rfl) rfl λa E=>?_;refine stg E rfl rfl rfl rfl hd290 (aM E hS o4 rfl (i:=1) rfl (QF.R_drop (aL (f7.mono (j6 a4 (j6 a3 (j6 b2 (j6 b5 b3)))) b0)))) rfl ?_;rintro ao a _⟨rfl,x9⟩E;refine qG E hd290 rfl λa E=>?_;obtain⟨u0,o0,h⟩:=ob h;refine stg E rfl rfl rfl rfl hd290 (be (k:=ae) E rfl rfl underlying50 sizeOf59 x9 o0) rfl ?_;rintro eb a _⟨rfl,t9⟩E;refine stg E rfl rfl rfl rfl hd290 (bX E lz sN rfl t9) rfl ?_;rintro L1 a _⟨rfl,x4⟩E
 refine stg E rfl rfl rfl rfl hd290 (bX E zC Cx rfl x4) rfl ?_;rintro z7 a _⟨rfl,s1⟩E;refine stg E rfl rfl rfl rfl hd290 (aC E hS Dr rfl s1) rfl ?_;rintro co a _⟨rfl,k7⟩E;obtain⟨rfl,I2⟩:=aF k7;refine qG E hd290 rfl λa E=>spg E rfl rfl rfl rfl hd290 (bg E rfl rfl cu) rfl λa E=>qF E hd290 rfl λa E=>ag ?_;exact⟨(decide (u0.fId.fEpoch<a0)),h,_,(Z1 _),hS,kut E⟩}}
 {
 rintro a w⟨e8,h,j2,c6,hS,E⟩;unfold pu at h;refine cA (λa w=>∃c0:Int,pq p1 x182 J a9 c0=some r186/\∃m',M.le j2 m'/\inR .u64 c0/\S W0 m' w ((W,[(.slice none 0 0)])::(Z,a2)::L) ((4,a1)::TL)/\Env 137 a [(0,v0),(2,.int .i64 p2),(4,pz Z),(7,a1),(8,pz W),(9,.int .u64 c0),(10,.int .u64 x182),(11,.int .i64 J),(22,.int .i64 (p1.fL.length:Int)),(23,.int .i64 J)]) ?_ ?_
 {
 refine kif E rfl (λg3=>?_) (λg3=>?_)
 {
 have h:=aH g3 h;refine ak (sp E (aK E uE rfl) rfl λa E=>?_);refine st E (aM E hS o4 rfl (i:=1) rfl (QF.R_drop (aL (f7.mono (j6 a4 (j6 a3 (j6 b2 (j6 b5 (j6 b3 c6))))) b0)))) rfl ?_;rintro dk a _⟨rfl,x5⟩E;refine qM E rfl λa E=>?_;obtain⟨m8,r7,h⟩:=ob h;refine st E (be (k:=ae) E rfl rfl underlying50 sizeOf59 x5 r7) rfl ?_;rintro bb a _⟨rfl,i2⟩E;refine st E (bX E lz sN rfl i2) rfl ?_;rintro y3 a _⟨rfl,x1⟩E;refine st E (bX E zC Cx rfl x1) rfl ?_;rintro W1 a _⟨rfl,j3⟩E;refine st E (aC E hS Dr rfl j3) rfl ?_
 rintro ac a _⟨rfl,m6⟩E;obtain⟨rfl,i1⟩:=aF m6;refine qA E rfl λa E=>ag ?_;exact⟨m8.fId.fEpoch,h,_,(Z1 _),i1,hS,kut E⟩}
 {have h:=aI g3 h;refine a7 ?_;exact⟨a0,h,_,(Z1 _),g6,hS,kut E⟩}}
 {
 rintro a w⟨c0,h,bs,g0,i5,hS,E⟩;unfold pq at h;refine ak (qM E rfl λa E=>sp E (aK E uE rfl) rfl λa E=>?_);refine st E (aM E hS o4 rfl (i:=1) rfl (QF.R_drop (aL (f7.mono (j6 a4 (j6 a3 (j6 b2 (j6 b5 (j6 b3 (j6 c6 g0)))))) b0)))) rfl ?_;rintro cn a _⟨rfl,m9⟩E;refine qM E rfl λa E=>?_;obtain⟨h8,s2,h⟩:=ob h;refine st E (be (k:=ae) E rfl rfl underlying50 sizeOf59 m9 s2) rfl ?_;rintro z9 a _⟨rfl,i0⟩E;refine st E (bX E lz sN rfl i0) rfl ?_;rintro an a _⟨rfl,r3⟩E;refine st E (bX E zC Cx rfl r3) rfl ?_
 rintro z5 a _⟨rfl,n1⟩E;refine st E (aC E hS Dr rfl n1) rfl ?_;rintro bc a _⟨rfl,y0⟩E;obtain⟨rfl,m2⟩:=aF y0;refine sp E (ET E rfl rfl) rfl λa E=>qA E rfl λa E=>ag (ak (qB E rfl rfl (cp rfl) λa E=>qM E rfl λa E=>ag ?_));exact⟨(a9,c0,(if x182<h8.fId.fEpoch then h8.fId.fEpoch else x182),Z0.wrap (J+1)),(Option.some.inj h).symm,_,(j6 a4 (j6 a3 (j6 b2 (j6 b5 (j6 b3 (j6 c6 g0)))))),a1,(u2.mono (j6 b5 (j6 b3 (j6 c6 g0)))),i5,(CM g7 m2),(aG _ _),hS,kut E⟩}}}}}}}
 {have h:=aI g1 h;refine fe rfl rfl ?_;have h:=cg h hb187;exact⟨d0,a0,x182,h,_,a4,a6,e5,g6,g7,hS,kut E⟩}}};{
 rintro a w⟨f5,b6,c3,h,eq,d2,a5,p6,eg,y2,hS,E⟩;unfold su at h;refine ab (ak (qM E rfl λa E=>qM E rfl λa E=>?_));obtain⟨z1,q0,h⟩:=ob h;refine st E (aT (vs:=[v0,(.int .i64 p2)]) E rfl call97 (wQ (hS:=hS) (c7.mono d2) n6 q0)) rfl ?_;rintro B0 a w⟨i4,c5,hS,h1⟩E;refine qA E rfl λa E=>ag (ab (ab (ak (qM E rfl λa E=>sp E (Fd E rfl rfl underlying137 h1) rfl λa E=>ag (kif E rfl (λh4=>absurd (h4.symm.trans rfl) (by decide)) (λh4=>?_))))));refine a7 (ab (ab (ak (qM E rfl λa E=>ag (bj ?_)))));obtain⟨f4,q4,h⟩:=ob h
 refine zT (Rv:=(Rv1 kAp)) (λ(s:List Ap) (x:Ap)=>kV s x) (λ_=>.ret) [] (λ(m':M) (s:List Ap) (e4:Mem) (e1:Tls)=>∃(b4:Value),M.le i4 m'/\RV (kSl kAp) m' b4 s/\e4=[(W,[b4]),(Z,a2)]/\e1=[(4,b4),(4,a5)]) (Ls:=[(W,[(.slice none 0 0)]),(Z,a2)]) (TLs:=[(4,.slice none 0 0),(4,a5)]) (s0:=([]:(List Ap))) (sf:=f4.1) (bf:=f4.2) E (hS.tail0 4) rfl h1 (by decide) (λ_ _ _ h=>zS h) (by rintro dn U2 s_ a_ b_ n_⟨b4,x7,s4,t4,r8⟩;exact⟨b4,x7.trans n_,s4.mono n_,t4,r8⟩) ⟨(.slice none 0 0),Z1 _,dK,rfl,rfl⟩ q4 ?_ ?_
 {
 intro z8 cv W0 T2 w L TL s_ e4 e1 X1 h2 r2 w2 a W2 V1 f6 hS r5 h E p3;obtain⟨p4,rfl⟩:∃x,x=s_:=⟨_,rfl⟩
 obtain⟨b4,u8,h6,rfl,rfl⟩:=f6;have h:kV p4 h2=some (r2,w2):=h;unfold kV at h;obtain⟨bk,rfl,i8⟩:=r5;refine ak ?_;refine st E (cF hS zeroValue32 rfl (cs:=Do)) rfl ?_;rintro _ a w⟨X0,rfl,hS⟩E;refine st0 E (dq E hS iA bT rfl rfl i8 (i:=0) rfl (xY _)) ?_;rintro _ w⟨ch,t0,hS⟩E;refine ag ?_;obtain⟨o2,hS⟩:=p3 _ _ _ _ hS;refine⟨o2,?_⟩;refine bj (ak (sp E (qn (k:=kAp) E hS jw rfl (i:=1) rfl h6) rfl λa E=>?_));refine st E (aM E hS iA rfl (i:=0) rfl (aL t0)) rfl ?_;rintro r9 a _⟨rfl,m4⟩E
 refine st E (gA (k:=kAp) (xs:=[h2]) (vs:=[r9]) E hS rfl underlying22 sizeOf32 zeroValue32 ⟨m4,trivial⟩ rfl (by decide)) rfl ?_;rintro ey a w⟨U1,f0,hS,n4⟩E;obtain⟨y4,q5,h⟩:=ob h;refine st E (iM (k:=kAp) (N:=3518437208883) E hS rfl rfl underlying22 underlying22 zy (i:=1) rfl (h6.mono f0) n4 q5 rfl rfl) rfl ?_;rintro e9 a w⟨y1,h5,hS,g5⟩E;refine st0 E (td (k:=kAp) E hS jw rfl rfl g5 (i:=1) rfl) ?_;rintro _ w hS E;refine ag ?_;cases h
 try dsimp only
 exact⟨rfl,_,[(W,[e9]),(Z,a2)],[(4,e9),(4,a5)],(j6 f0 h5),⟨e9,(j6 u8 (j6 f0 h5)),g5,rfl,rfl⟩,((hS.pickL 3 [1,2] rfl rfl rfl).pickT 3 [1,2] rfl rfl rfl)⟩}
 {
 intro g4 av w a e4 e1 c4 E f6 hS r1 w3;obtain⟨e6,_,g9,rfl,rfl⟩:=f6;obtain⟨W0,h3⟩:∃W9,W9=W0.put g4 (.deferred (some [])):=⟨_,rfl⟩
 rw[←h3]at hS;rcases zx f4.2 with hb81|hb81
 {
 have h:=aH hb81 h;rw[if_pos hb81];refine ab (ak (qM E rfl λa E=>?_));obtain⟨h9,q6,h⟩:=ob h;refine st E (aT (vs:=[v0]) E rfl call98 (wR (hS:=hS) (c7.mono (j6 d2 (j6 c5 c4))) q6)) rfl ?_;rintro _ a w⟨s3,c1,hS,ed,ad,rfl,p8,w6⟩E;obtain⟨rfl,dg⟩:=aF p8;obtain⟨rfl,bl⟩:=aF w6;refine qM E rfl λa E=>sp E (bQ E rfl rfl) rfl λa E=>sp E (bQ E rfl rfl) rfl λa E=>qA E rfl λa E=>qA E rfl λa E=>ag (ab (ak (qM E rfl λa E=>?_)))
 refine st E (rq (m:=s3) (k:=bV) (x0:=aO.zero) (xx:=(⟨0,0⟩:aO)) (pl:=[(0,1),(1,1)]) (pv:=[]) E rfl underlying57 rfl zeroValue57 IV rfl .nil) rfl ?_;rintro q3 a _⟨rfl,q7⟩E;obtain⟨g8,w4,h⟩:=ob h;refine st E (aT (vs:=[v0,q3]) E rfl call37 (mQ (hS:=hS) (c7.mono (j6 d2 (j6 c5 (j6 c4 c1)))) q7 w4)) rfl ?_;rintro _ a w⟨j1,d1,hS,ar,V2,rfl,j5,t5⟩E;obtain⟨rfl,af⟩:=aF j5;obtain rfl:=fg t5;refine qM E rfl λa E=>sp E (bQ E rfl rfl) rfl λa E=>sp E (bQ E rfl rfl) rfl λa E=>qA E rfl λa E=>qA E rfl λa E=>ag (ab ?_)
 refine cA (λa w=>∃e0:Bool,kW e0=some r/\∃m',M.le j1 m'/\S W0 m' w ((W,[e6])::(Z,a2)::L) ((4,e6)::TL)/\aw [g4] 137 a [(6,.bool e0)]) ?_ ?_
 {
 refine ak (sp E (qn (k:=kAp) E hS jw rfl (i:=0) rfl (g9.mono (j6 c1 d1))) rfl λa E=>qM E rfl λa E=>?_);obtain⟨k5,l3,h⟩:=ob h;refine st E (aT (vs:=[e6,a5]) E rfl call18 (GO (hS:=hS) (g9.mono (j6 c1 d1)) (p6.mono (j6 c5 (j6 c4 (j6 c1 d1)))) l3)) rfl ?_;rintro ca a w⟨X2,c2,hS,r0⟩E;obtain rfl:=fg r0;refine qM E rfl λa E=>?_;rcases zx k5 with hd133|hd133
 {
 have h:=aH hd133 h;refine qG E hd133 rfl λa E=>qG E hd133 rfl λa E=>spg E rfl rfl rfl rfl hd133 (bg E rfl rfl mR) rfl λa E=>qT E hd133 rfl λa E=>qM E rfl λa E=>?_;rcases zx (h9.1==b6)with hd139|hd139
 {
 have h:=aH hd139 h;refine qG E hd139 rfl λa E=>qG E hd139 rfl λa E=>spg E rfl rfl rfl rfl hd139 (bg E rfl rfl mR) rfl λa E=>qT E hd139 rfl λa E=>qM E rfl λa E=>?_;rcases zx (h9.2==c3)with hd145|hd145
 {
 have h:=aH hd145 h;refine qG E hd145 rfl λa E=>spg E rfl rfl rfl rfl hd145 (bg E rfl rfl mR) rfl λa E=>qT E hd145 rfl λa E=>qM E rfl λa E=>?_;rcases zx (g8.1==0)with hd150|hd150
 {have h:=aH hd150 h;refine qG E hd150 rfl λa E=>spg E rfl rfl rfl rfl hd150 (lD E rfl) rfl λa E=>qT E hd150 rfl λa E=>qA E rfl λa E=>ag ?_;exact⟨(!g8.2),h,_,c2,(hS.pickT 2 [0] rfl rfl rfl),kut E⟩}
 {have h:=aI hd150 h;refine qX E hd150 λa E=>qX E hd150 λa E=>qF E hd150 rfl λa E=>qA E rfl λa E=>ag ?_;exact⟨false,h,_,c2,(hS.pickT 2 [0] rfl rfl rfl),kut E⟩}}
 {have h:=aI hd145 h;refine qX E hd145 λa E=>qX E hd145 λa E=>qF E hd145 rfl λa E=>qM E rfl λa E=>qX E rfl λa E=>qX E rfl λa E=>qF E rfl rfl λa E=>qA E rfl λa E=>ag ?_;exact⟨false,h,_,c2,(hS.pickT 2 [0] rfl rfl rfl),kut E⟩}}
 {have h:=aI hd139 h;refine qX E hd139 λa E=>qX E hd139 λa E=>qX E hd139 λa E=>qF E hd139 rfl λa E=>qM E rfl λa E=>qX E rfl λa E=>qX E rfl λa E=>qF E rfl rfl λa E=>qM E rfl λa E=>qX E rfl λa E=>?_;refine qX E rfl λa E=>qF E rfl rfl λa E=>qA E rfl λa E=>ag ?_;exact⟨false,h,_,c2,(hS.pickT 2 [0] rfl rfl rfl),kut E⟩}}
 {have h:=aI hd133 h;refine qX E hd133 λa E=>qX E hd133 λa E=>qX E hd133 λa E=>qF E hd133 rfl λa E=>qM E rfl λa E=>qX E rfl λa E=>qX E rfl λa E=>qX E rfl λa E=>qF E rfl rfl λa E=>qM E rfl λa E=>?_;refine qX E rfl λa E=>qX E rfl λa E=>qF E rfl rfl λa E=>qM E rfl λa E=>qX E rfl λa E=>qX E rfl λa E=>qF E rfl rfl λa E=>qA E rfl λa E=>ag ?_;exact⟨false,h,_,c2,(hS.pickT 2 [0] rfl rfl rfl),kut E⟩}}
 {
 rintro a w⟨e0,h,ap,k4,hS,E⟩;unfold kW at h;refine bK ?_;obtain rfl:=oi h
 try dsimp only
 have hS:=hS;rw[h3]at hS;refine Fc.shut E hS r1 w3 λa w hS E=>?_;refine Fc.nil E ?_;refine f1 E ?_;exact⟨_,(j6 d2 (j6 c5 (j6 c4 (j6 c1 (j6 d1 k4))))),((hS.dropL 2).dropT 1),dA⟩}}
 {have h:=aI hb81 h;cases h}}}
theorem Wz:Ctr Sz prog 45 [.rd (.st 65),.rd (.st 70),.rd (.int .i64)] [.rd .bool] (λx=>rP x.1 x.2.1 x.2.2.1):=by intro W0 m w L TL vs x r Lp Tp hS hP h;obtain⟨v0,vs,rfl,a0,W⟩:=cT hP;obtain⟨v1,vs,rfl,a1,a3⟩:=cT W;obtain⟨v2,vs,rfl,a2,J⟩:=cT a3;obtain⟨rfl,n2⟩:=aF a2;obtain⟨rfl,rfl,rfl⟩:=eT J;refine rm (IY (hS:=hS) a0 a1 n2 h) λv w' Z=>?_;obtain⟨m',hm,Z',r0⟩:=Z;exact⟨m',[v],[],[],[],hm,Z',rfl,⟨r0,trivial⟩,trivial⟩
def WA:=mC Wz call45
theorem CI{cs:List Value}{v:Value}(h:cs.take 1=[v])(J:∀n,v≠.int .u8 n):¬byt cs:=λW=>by obtain⟨n,Z⟩:=W v (List.mem_of_mem_take (i:=1) (by rw[h];exact List.mem_singleton.2 rfl));exact J n Z
theorem XI{m:M}{b:Nat}:vu (aj .i64) m b:=λcs x h=>⟨h,CI (v:=.int .i64 x) (by rw[h.1];rfl) (λn e=>by cases e)⟩
theorem XJ{m:M}{b:Nat}:vu kAp m b:=λcs x h=>⟨h,CI h.1.1 (λn e=>by cases e)⟩
section
variable{m:M}{b:Nat}{l:List Value}(hm:m b=some l)(hl:byt l)
include hm hl
theorem T8:vu ae m b:=λcs x h=>⟨⟨h.1,((XJ.sl hm hl) _ _ h.2.1).1,h.2.2⟩,CI (v:=.int .u64 x.fId.fEpoch) (by have:=h.1.1.1;rwa[List.take_take]at this) (λn e=>by cases e)⟩
theorem Xt:vu aJ m b:=λcs x h=>⟨⟨h.1,((XI.sl hm hl) _ _ h.2.1).1,(((T8 hm hl).sl hm hl) _ _ h.2.2).1⟩,CI h.1.1 (λn e=>by cases e)⟩
theorem Xu:vu f7 m b:=λcs x h=>⟨⟨h.1,((XI.sl hm hl) _ _ h.2.1).1,(((T8 hm hl).sl hm hl) _ _ h.2.2).1⟩,CI h.1.1 (λn e=>by cases e)⟩
end
def IZ (n:Nat)(i:Int):Option (Int⊕Unit):=if decide (i<(n:Int))then some (.inl (Z0.wrap (i+1)))else some (.inr ())
theorem Pa{n:Nat}(h:n<=cz):∃r,am (IZ n) 0=some r:=by
 refine(dO (λs=>∃k:Nat,s=(k:Int)/\k<=n) (λs=>n-s.toNat) (λ_=>True) ?_ ⟨0,rfl,Nat.zero_le _⟩).imp λ_ h=>h.1;rintro i⟨k,rfl,J⟩;unfold cz at h;by_cases hlt:k<n
 ·refine .inl ⟨_,by rw[IZ,if_pos (by simpa using hlt)],⟨k+1,by rw[ah (by omega)];rfl,hlt⟩,?_⟩;rw[ah (by omega)];omega
 ·exact .inr ⟨(),by rw[IZ,if_neg (by simpa using hlt)],trivial⟩
theorem Az{W0:Bse}{m:M}{w:World}{L:List (Nat×List Value)}(hS:S W0 m w L []){p0}(c7:RV (kSl (aj .u8)) m v0 p0){p1}(e7:RV (kSl kAp) m v1 p1){p2}(f4:inR .i64 p2){r}(h:nf p0 p1 p2=some r):Calls prog 13 #[v0,v1,(.int .i64 p2)] w (Ret λv w'=>∃m',M.le m m'/\S W0 m' w' L []/\RV cS m' v r):=by
 refine kc func13 ntmps13 λa E=>?_;have E:Env 114 a [(0,v0),(1,v1),(2,.int .i64 p2)]:=E;unfold nf at h;refine ab (ak (qA E rfl λa E=>ag (ab (ak ?_))));refine st E (He (k:=(aj .u8)) (m:=m) (xs:=[]) (vs:=[]) E (hS.void 0) rfl underlying24 sizeOf5 zeroValue5 trivial rfl (by decide)) rfl ?_;rintro v5 a w⟨b3,h1,e3,hS⟩E;refine qM E rfl λa E=>?_;obtain⟨z7,e5,h⟩:=ob h;refine st E (zP (k:=(aj .u8)) (N:=140737488355328) E hS rfl rfl underlying24 el5 (i:=0) rfl e3 (yC hS underlying24 c7) e5 rfl rfl) rfl ?_;rintro b0 a w⟨J,cG,d0,hS⟩E;obtain⟨h6,b5,hS,b1,hX⟩:=S.freezeX (hS.pickL 2 [0] rfl rfl rfl) d0;refine qA E rfl λa E=>ag (ab (ak (qM E rfl λa E=>?_)));obtain⟨a2,e6,h⟩:=ob h;refine st E (aT (vs:=[b0]) E rfl call33 (wN (hS:=S.rebase hS) b1 e6)) rfl ?_;rintro _ a w2⟨h4,a9,g9,a5,h5,rfl,c1,e4⟩E;obtain⟨c6,e1,c2⟩:=S.framed hS g9 a9;obtain⟨rfl,e0⟩:=aF e4;refine qM E rfl λa E=>sp E (bQ E rfl rfl) rfl λa E=>sp E (bQ E rfl rfl) rfl λa E=>qA E rfl λa E=>qA E rfl λa E=>ag (ab (ak (qM E rfl λa E=>?_)));obtain⟨a0,f3,h⟩:=ob h;refine st E (aT (vs:=[v0]) E rfl call34 (Eb (hS:=S.rebase c6) (c7.mono (b5.trans a9)) f3)) rfl ?_;rintro _ a w3⟨b7,a3,g8,f5,h3,rfl,c4,g0⟩E;obtain⟨d2,g3,g4⟩:=S.framed c6 g8 a3;obtain⟨rfl,e9⟩:=aF g0;obtain⟨Z,W,d1,hS,a6,g5,f0⟩:∃Z W,M.le m Z/\S W0 Z w3 (W++L) []/\(z7=[]/\W=[]\/∃cs,W=[(J,cs)]/\GS (aj .u8) Z J cs b0 z7)/\RV (kPt aJ) Z a5 a2.1/\RV f7 Z f5 a0.1:=by
  rcases hX with hX|⟨q1,q2,⟨l,q3,q4⟩,_,t,q5⟩;·exact⟨b7,[],b5.trans (a9.trans a3),d2,.inl ⟨hX,rfl⟩,c1.mono a3,c4⟩
  · have c0:=(Array.getElem?_eq_some_iff.1 q5).1;have c3:J<w2.heap.size:=by have:=c2 J c0;rw[q5]at this;exact(Array.getElem?_eq_some_iff.1 this).1
    have hb:b7 J=some l:=by rw[g3 J c3,e1 J c0];exact q3
    exact⟨b7.off J,[(J,cG)],M.le_off (b5.trans (a9.trans a3)) q1,d2.thaw hb q2 (by rw[g4 J c3,c2 J c0];exact q5),.inr ⟨cG,rfl,d0⟩,((Xt hb q4).pt hb q4).rv (c1.mono a3),(Xu hb q4).rv c4⟩
 refine qM E rfl λa E=>sp E (bQ E rfl rfl) rfl λa E=>sp E (bQ E rfl rfl) rfl λa E=>?_;refine st E (cF hS zeroValue70 rfl (cs:=vT)) rfl ?_;rintro _ a w⟨a1,rfl,hS⟩E;refine st0 E (dq E hS ya bT rfl rfl f0 (i:=0) rfl (qh _)) ?_;rintro _ w⟨b2,f6,hS⟩E;refine qA E rfl λa E=>ag (ab ?_);refine cA (λa w=>S W0 Z w ((a1,b2)::L) []/\Env 114 a [(1,v1),(2,.int .i64 p2),(8,a5),(9,.int .i64 a2.2),(10,pz a1),(11,.int .i64 a0.2)]) ?_ ?_;{
 refine ab (ak (qM E rfl λa E=>sp E (bq (k:=(aj .u8)) E rfl rfl underlying24 b1) rfl λa E=>qM E rfl λa E=>ag (bj ?_)));have c5:=jg b1;obtain⟨rI,hI⟩:=Pa c5;refine fN hI (λ(s:Int)a w=>∃(k:Nat) (W:Mem) (zs:List Int),s=(k:Int)/\k<=z7.length/\zs.length=z7.length/\S W0 Z w ((a1,b2)::(W++L)) []/\(z7=[]/\W=[]\/∃cs,W=[(J,cs)]/\GS (aj .u8) Z J cs b0 zs)/\Env 114 a [(1,v1),(2,.int .i64 p2),(8,a5),(9,.int .i64 a2.2),(10,pz a1),(11,.int .i64 a0.2),(7,b0),(29,.int .i64 (z7.length:Int)),(30,.int .i64 s)]) ⟨0,W,z7,rfl,Nat.zero_le _,rfl,hS,a6,kut E⟩ ?_
 rintro _ a w⟨k,W,zs,rfl,h2,g7,hS,a6,E⟩rX hK hbX;dsimp only[IZ]at hK;refine ab (ak (qB E rfl rfl cu λa E=>ag (ab (kif E rfl (λb4=>?_) (λb4=>?_)))))
 {
 have hK:=aH b4 hK;have b6:k<z7.length:=by have:=of_decide_eq_true b4;omega
 rcases a6 with⟨h0,_⟩|⟨cX,rfl,a4⟩
 ·rw[h0]at b6;exact absurd b6 (Nat.not_lt_zero _)
 have g6:ix zs (k:Int)=some k:=ng (by omega);obtain⟨yX,g1⟩:∃y,zs[k]?=some y:=⟨_,List.getElem?_eq_getElem (by omega)⟩
 refine a7 (ab (bj (ab (ak (qM E rfl λa E=>qA E rfl λa E=>ag (ak (qM E rfl λa E=>?_)))))));refine qM E rfl λa E=>sp E (lF (k:=(aj .u8)) E rfl rfl underlying24 sizeOf5 a4 g6 rfl) rfl λa E=>?_;refine st0 E (sC (k:=(aj .u8)) E hS ty5 bT a4 g1 rfl rfl (ax (show inR .u8 99 from az (by decide))) (i:=1) rfl) ?_;rintro _ w⟨cX,a4,hS⟩E;refine ag (ak (qB E rfl rfl (cp rfl) λa E=>qM E rfl λa E=>ag ?_));have g2:Z0.wrap ((k:Int)+1)=((k+1:Nat):Int):=by unfold cz at c5;rw[ah (by omega)];rfl
 exact⟨_,(Option.some.inj hK).symm,k+1,[(J,cX)],_,g2,b6,by rw[List.length_set];exact g7,hS,.inr ⟨cX,rfl,a4⟩,kut E⟩}
 {
 refine fe rfl rfl ?_;rcases a6 with⟨_,rfl⟩|⟨cX,rfl,_⟩
 ·exact⟨hS,kut E⟩
 ·exact⟨hS.pickL 2 [0] rfl rfl rfl,kut E⟩}};{
 rintro a w⟨hS,E⟩
 refine wj (G:=Sz) (Γ:=Γ) (D:=[Wc,Wr,Nt,VP,NA,Wk,Wm,Wv,Wg,Wi,Wx,WA]) (rs:=[.rd .bool]) (res:=[.tmp 6]) (ps:=[.rd (.sl (.st 32)),.rd (.int .i64),.rd (.st 65),.rd (.int .i64),.pt (.st 70),.rd (.int .i64)]) (sl:=[1,2,8,9,10,11]) (vs:=[v1,(.int .i64 p2),a5,(.int .i64 a2.2),(pz a1),(.int .i64 a0.2)]) (x:=(p1,p2,a2.1,a2.2,a0.1,a0.2,())) (Lp:=[(a1,b2)]) (Tp:=[]) (.s .o (.s .o (.s .o (.s .o (.s (.s .o (.b (.l ⟨[.v 78 1 (.dat (.int .i64) none)],[1,2,8,10,13,77],1,[1]⟩ .o))) .o))))) E hS ⟨e7.mono d1,ax f4,g5,ax e0,f6,rfl,ax e9,trivial⟩ h (by kernel_rfl) mixed (λv w' m' us Lr Tr q1 q2 q3 q4=>?_)
 obtain⟨u0,us,rfl,r0,e8⟩:=cN q4;obtain⟨rfl,rfl,rfl⟩:=cH e8;subst q3;exact⟨m',d1.trans q1,q2,r0⟩}
end
open Go.RowKit Go.ChangeShapes Go.ChangeAt Go.WideShapes
section
variable{P:Program}{H:Type}{enc:TypeId×Value->H}
theorem yn (hl:laidOutB P=true){W W':World}{a1:Nat}{a0:Nat->Bool}:∀{Z:List TypeId}{vs:List Value}{ds:List (DataW H)}{ps:List MemPlace},(∀t∈Z,P.readableRec t=true/\t<P.types.size)->DataW.TrodAll enc P W a1 (λ_=>true) true Z vs ds ps->(∀p∈ps,W.sameAt W' p)->(∀p∈ps,a0 p.block=true)->DataW.TrodAll enc P W' a1 a0 true Z vs ds ps
 |[],[],[],_,_,h,_,_=>h|[],[],_::_,_,_,h,_,_=>h.elim|[],_::_,_,_,_,h,_,_=>h.elim|_::_,[],_,_,_,h,_,_=>h.elim|_::_,_::_,[],_,_,h,_,_=>h.elim|t::Z,v::vs,d::ds,ps,ht,h,hs,hp=>by obtain⟨p,q,h1,h2,rfl⟩:=h;refine⟨p,q,WideElems.Trod_stays hl (ht t (by simp)).1 (ht t (by simp)).2 h1 (λx J=>hs x (by simp[J])) (λx J=>hp x (by simp[J])),yn hl (λt h=>ht t (by simp[h])) h2 (λx J=>hs x (by simp[J])) (λx J=>hp x (by simp[J])),rfl⟩
theorem K1{f:Func}{s:ChangeSpec}{a9 fresh b3 b5:Bool}{W Z:World}{args:Array Value}{ds gs:List (DataW H)}{J:List MemPlace}{tb:TypeId}(hW:DataW.Whole enc P f.params.toList s.vars a9 W args.toList ds gs J) (hl:laidOutB P=true) (ht:∀t∈f.params.toList,P.readableRec t=true/\t<P.types.size)(a4:s.vars=[]) (hr:f.resultTypes=#[tb]) (hb:P.underlying tb=some .bool) (a1:s.fn H (ds++gs)={results:=[.lit (.bool true)],args:=ds}) (hB:Below W.heap.size W Z):s.post enc P f a9 fresh b3 b5 W args (.bool true) Z:=by
 have a2:=λp hp=>hW.lt p hp;have b1:=hW;obtain⟨p,q,hA,hV,b0,hz,hn⟩:=b1;rw[a4]at hV;obtain⟨hg,hq⟩:=trodVars_none hV;have a0:J=p:=by rw[b0,hq];simp
 have a6:∀(b:Nat) (sp:Nat->Bool) (hd:Bool),DataW.TrodAll enc P Z b sp hd f.resultTypes.toList ((Value.bool true).resultList f.resultTypes.size) (s.fn H (ds++gs)).results []:=λb sp hd=>by rw[hr,a1];exact trodAll_cons_mk (shut_bool hb _) trodAll_mk0
 have a3:∀sp:Nat->Bool,(∀x∈J,sp x.block=true)->DataW.TrodAll enc P Z 0 sp true f.params.toList args.toList (s.fn H (ds++gs)).args p:=λsp b2=>by rw[a1];refine yn hl ht hA (λx h=>hB.same (a2 x (by rw[a0];exact h))) (λx h=>b2 x (by rw[a0];exact h))
 have a5:∀sp:Nat->Bool,DataW.TrodVars enc P Z sp s.vars (s.fn H (ds++gs)).vars []:=λsp=>by rw[a4,a1];exact rfl
 have b4:∀x∈J,(λb=>decide (b<W.heap.size)) x.block=true:=λx h=>by simpa using a2 x h
 refine⟨ds,gs,J,[],p,[],hW,a6 _ _ _,a3 _ b4,a5 _,hB.frame _,λ_=>?_⟩;refine⟨ok_one hr rfl (okWide_bool_mk hb _),_,_,([]++p)++[],⟨[]++p,[],trodAll_append (a3 _ (λ_ _=>rfl)) (a6 _ _ _),a5 _,rfl,?_,?_⟩,?_⟩
 ·intro b off hp;have hm:MemPlace.cell b off∈J:=by rw[a0];simpa using hp
  have:=a2 _ hm;rw[hB.frozen (p:=⟨b,off,none⟩) this];exact hz b off hm
 ·intro ha;have:=hn ha;rw[a0]at this;simpa using this
 ·intro x h _;rw[a0];simpa using h
structure Okw (P:Program)(W:World)(r:Reach)(b:Nat)(t:TypeId)(v:Value):Prop where ok:Value.okWide P W r b t v
theorem GP{W:World}{r:Reach}{Z:Nat}{J:Array TypeId}{args:Array Value}(h:∀(j:Nat)t v,J[j]?=some t->args[j]?=some v->Value.okWide P W r Z t v)(j:Nat){t:TypeId}{v:Value}(h1:J[j]?=some t)(h2:args[j]?=some v):Okw P W r Z t v:=⟨h j t v h1 h2⟩
theorem Pb{r:Reach}{Z:Nat}{W:World}{t:TypeId}{k:IntKind}{v:Value}{d:DataW H}{ps:List MemPlace}{a1:Nat}{a0:Nat->Bool}{a2:Bool}(ht:P.underlying t=some (.int k))(h:Okw P W r Z t v)(J:DataW.Trod enc P W a1 a0 a2 t v d ps):∃n,v=.int k n/\inR k n:=by obtain⟨n,rfl,_,_,hw⟩:=open_int ht h.ok J;refine⟨n,rfl,?_⟩;rw[nv];simpa[Lit.wf]using hw
theorem Ec{r:Reach}{b0:Nat}{W:World}{t e:TypeId}{O:Type}{k:Kd O}{sz:List O->Nat}{v:Value}{d:DataW H}{ps:List MemPlace}(B:HX H)(ht:P.underlying t=some (.slice e))(a0:Rd P t (kSl k) sz)(J:Okw P W r b0 t v)(Z:DataW.Trod enc P W 0 (λ_=>true) true t v d ps)(h:B.b d<=1099511627776):∃xs,RV (kSl k) (m0 W) v xs/\sz xs<=B.b d:=by obtain⟨a,len,cap,rfl⟩:=okWide_slice ht J.ok;obtain⟨a1,hf⟩:=Z;obtain⟨xs,hx,hs⟩:=a0 enc B W a1 _ d ps hf h;exact⟨xs,⟨_,hx,rfl⟩,hs⟩
end
theorem T9{O:Type}{k:Kd O}{m:M}{v:Value}{xs:List O}(h:RV (kSl k) m v xs):(∀x∈xs,∃cs,k.R m cs x)/\xs.length<=cz:=by obtain⟨cs,W,_⟩:=h;obtain⟨a,len,cap,h1,h2,h3,h4,J⟩:=W;refine⟨λx Z=>?_,h4⟩;obtain⟨i,hi,rfl⟩:=List.getElem_of_mem Z;cases a with
 |none=>have a0:cap=0:=J;omega|some ad=>exact⟨_,J.2 i hi⟩
theorem Pc{O:Type}(xs:List O):(xs.map λ_=>1).sum=xs.length:=by induction xs with
 |nil=>rfl|cons a r ih=>simp[ih];omega
theorem Ua{O:Type}(f:O->Nat)(xs:List O)(h:∀x,1<=f x):xs.length<=(xs.map f).sum:=by induction xs with
 |nil=>simp|cons a r ih=>have:=h a;simp;omega
open Go.ChangeShapes Go.WideShapes Go.ChangeAt Go.RowKit
theorem own:ownKnob prog.godebug=none:=by kernel_rfl
theorem Pd:laidOutB prog=true:=by kernel_rfl
theorem MR{H:Type}(d:DataW H):1<=Rows.uptoBulk d:=by cases d with
 |lit l=>cases l<;>simp[Rows.uptoBulk]|nil=>simp[Rows.uptoBulk]|ptr d=>simp[Rows.uptoBulk]|slice elems spare=>simp[Rows.uptoBulk]|agg parts=>simp[Rows.uptoBulk]|iface t d=>simp[Rows.uptoBulk]|map entries=>simp[Rows.uptoBulk]|held h=>simp[Rows.uptoBulk]
def Ub (H:Type):HX H:={
 b:=Rows.uptoBulk
 ba:=Rows.uptoBulkAll
 str:=λs=>by simp[Rows.uptoBulk]
 one:=MR
 slice:=λe s=>by simp[Rows.uptoBulk]
 agg:=λl=>by simp[Rows.uptoBulk]
 nil:=by simp[Rows.uptoBulkAll]
 cons:=λd r=>by simp[Rows.uptoBulkAll]}
theorem Xv:Rd prog 24 (kSl (aj .u8)) (λxs=>(xs.map λ_=>1).sum+1):=Fa underlying24 (by kernel_rfl) (E9 underlying5)
def WB:Int×Bool×Int×List Int->Ap:=λx=>⟨x.1,x.2.1,x.2.2.1,x.2.2.2⟩
def EN:Int×Bool×Int×List Int->Nat:=λx=>1+(1+(1+(x.2.2.2.length+1)))
theorem Xw:Rd prog 32 kAp (λy=>EN (Ap.pr y)+1):=by
 refine Jh (gi:=WB) (sz:=EN) underlying32 (by kernel_rfl) ?_ (λx=>rfl);show RdF prog (_::_::_::_::[]) 0 (cM (aj .i64) (cM cS (cM (aj .i64) sP))) (λx=>1+(1+(1+(x.2.2.2.length+1))));refine A4 (k:=aj .i64) (sz:=λ_=>1) (k':=cM cS (cM (aj .i64) sP)) (sz':=λx=>1+(1+(x.2.2.length+1))) (E9 underlying3) rfl (by kernel_rfl) ?_;refine A4 (k:=cS) (sz:=λ_=>1) (k':=cM (aj .i64) sP) (sz':=λx=>1+(x.2.length+1)) (NN underlying4) rfl (by kernel_rfl) ?_;refine A4 (k:=aj .i64) (sz:=λ_=>1) (k':=sP) (sz':=λx=>x.length+1) (E9 underlying2) rfl (by kernel_rfl) ?_;exact NO (k:=sP) (sz:=λx=>x.length+1) (Ps underlying9) rfl (by kernel_rfl)
def I0 (xs:List Ap):Nat:=(xs.map λy=>EN (Ap.pr y)+1).sum+1
theorem Xx:Rd prog 22 (kSl kAp) I0:=Fa underlying22 (by kernel_rfl) Xw
def K2 (xs:List Int):Nat:=(xs.map λ_=>1).sum+1
theorem sp3:prog.readableRec 3=true/\3<prog.types.size:=⟨by kernel_rfl,of_decide_eq_true (by kernel_rfl)⟩
theorem Xy:prog.readableRec 22=true/\22<prog.types.size:=⟨by kernel_rfl,of_decide_eq_true (by kernel_rfl)⟩
theorem Xz:prog.readableRec 24=true/\24<prog.types.size:=⟨by kernel_rfl,of_decide_eq_true (by kernel_rfl)⟩
theorem Uc{m:M}{v:Value}{xs:List Int}(h:RV (kSl (aj .u8)) m v xs):Byt xs:=λc W=>by
 obtain⟨cs,J⟩:=(T9 h).1 c W;have:=nv.1 J.2;have Z:IntKind.min .u8=0:=by decide
 have h2:IntKind.max .u8=255:=by decide
 omega
theorem WC{xs:List Int}{n:Nat}(h:K2 xs<=n)(J:n<=1048576):xs.length<=1048576:=by unfold K2 at h;rw[Pc]at h;omega
theorem WE{xs:List Int}{n:Nat}(h:(xs.map λ_=>1).sum+1<=n)(J:n<=1048576):xs.length<=1048576:=WC h J
theorem WF{xs:List Ap}{n:Nat}(h:I0 xs<=n)(J:n<=1048576):xs.length<=1048576:=by have:=Ua (λy=>EN (Ap.pr y)+1) xs (λy=>by omega);unfold I0 at h;omega
end Go.Proofs.YthbonoagbeilkaaGreat.Hay
