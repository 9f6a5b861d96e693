import Derived.Test.YthbonoagbeilkaaGreatHbkC1
import Derived.Test.YthbonoagbeilkaaGreatHbA
import Derived.Carry
import Derived.ChangeSame
import Derived.OpenShut
import Derived.JoinedCond
import Derived.Test.YthbonoagbeilkaaGreatRows
import Derived.Test.YthbonoagbeilkaaGreatHcZ
set_option maxRecDepth 100000
set_option maxHeartbeats 4000000
set_option linter.unusedVariables false
namespace Go.Proofs.YthbonoagbeilkaaGreat.Hay
open Bool renaming eq_false_or_eq_true→kz
open M.le renaming trans→qk,refl→Q0
open Go.Proofs Tryz
noncomputable section
variable {W0:Bse}{m:M}{w:World}{L:List (Nat×List Value)}{TL:List (Nat×Value)}{v0 v1 v2 v3 v4 v5 v6 v7 v8 v9:Value}
theorem vL (hS:S W0 m w L TL) {p0}(o0:RV bw m v0 p0) {p1}(P0:RV (kSl (ai .i64)) m v1 p1) {p2}(q5:inR .i64 p2) {r}(h:lT p0 p1 p2=some r):
    Calls prog 11 #[v0,v1,(.int .i64 p2)] w (Ret λv w'=>∃m',M.le m m'/\S W0 m' w' L TL/\RV cm m' v r):=by
 refine vU func11 rfl ntmps11 (Nat.le_of_ble_eq_true rfl) λa E=>?_;have E:Env 125 a [(0,v0),(1,v1),(2,.int .i64 p2)]:=E;unfold lT at h;refine ab (aj ?_);refine st E (g8 (k:=bw) E hS rfl o0) rfl ?_;rintro _ a w ⟨b1,a9,rfl,a3,hS⟩ E;refine st E (g8 (k:=(ai .i64)) E hS rfl (am q5)) rfl ?_;rintro _ a w ⟨b5,b3,rfl,U4,hS⟩ E;refine qA E rfl λa E=>ag (ab (ab (aj ?_)));obtain⟨eb,t9,h⟩:=ob h;refine st E (az (vs:=[]) E rfl call29 (Ds (hS:=hS) t9)) rfl ?_;rintro dk a w ⟨bc,J,hS,P9⟩ E;obtain rfl:=cT P9
 refine sp E (kS E rfl) rfl λa E=>ag (kif E rfl (λe8=>?_) (λe8=>?_))
 {
 have h:=aD e8 h;refine ab (aj (qA E rfl λa E=>ag (bd ?_)));obtain rfl:=oi h
 try dsimp only
 refine zB.nil E ?_;refine f1 E ?_;exact⟨_,J,(hS.dropL 2),cM⟩}
 {
 have h:=aF e8 h;refine aR (ab (aj (sp E (aB E Ba rfl) rfl λa E=>?_)));refine st E (aA E hS ty3 rfl (i:=1) rfl (J4.R_drop (aC (bw.mono J a3)))) rfl ?_;rintro an a _ ⟨rfl,w4⟩ E;obtain⟨rfl,R5⟩:=aJ w4;refine sp E (aB E ul rfl) rfl λa E=>?_;refine st E (aA E hS lu rfl (i:=1) rfl (J6.R_drop (aC (bw.mono J a3)))) rfl ?_;rintro n1 a _ ⟨rfl,r9⟩ E;refine sp E (aB E Fb rfl) rfl λa E=>?_;refine st E (aA E hS lu rfl (i:=1) rfl (J8.R_drop (aC (bw.mono J a3)))) rfl ?_;rintro r4 a _ ⟨rfl,q2⟩ E;refine sp E (aB E uk rfl) rfl λa E=>?_
 refine st E (aA E hS oF rfl (i:=1) rfl (Ka.R_drop (aC (bw.mono J a3)))) rfl ?_;rintro r5 a _ ⟨rfl,r2⟩ E;obtain⟨av,T7,h⟩:=ob h;refine st E (az (vs:=[(.int .i64 p0.fColumns),n1,r4,r5]) E rfl call31 (nZ (hS:=hS) R5 r9 q2 r2 T7)) rfl ?_;rintro _ a w ⟨ao,a1,hS,P6,eq,rfl,U9,U2⟩ E;obtain⟨rfl,ea⟩:=aJ U2;refine qM E rfl λa E=>sp E (bn E rfl rfl) rfl λa E=>sp E (bn E rfl rfl) rfl λa E=>qA E rfl λa E=>qA E rfl λa E=>ag (ab (aj (sp E (aB E Ba rfl) rfl λa E=>?_)))
 refine st E (aA E hS ty3 rfl (i:=1) rfl (J4.R_drop (aC (bw.mono (qk J a1) a3)))) rfl ?_;rintro af a _ ⟨rfl,y3⟩ E;obtain⟨rfl,p7⟩:=aJ y3;refine sp E (aB E ul rfl) rfl λa E=>?_;refine st E (aA E hS lu rfl (i:=1) rfl (J6.R_drop (aC (bw.mono (qk J a1) a3)))) rfl ?_;rintro P4 a _ ⟨rfl,P3⟩ E;refine qM E rfl λa E=>sp E (aB E uk rfl) rfl λa E=>?_;refine st E (aA E hS oF rfl (i:=1) rfl (Ka.R_drop (aC (bw.mono (qk J a1) a3)))) rfl ?_;rintro x9 a _ ⟨rfl,m7⟩ E;obtain⟨w3,o1,h⟩:=ob h
 refine st E (az (vs:=[(.int .i64 p0.fColumns),P4,v1,x9]) E rfl call31 (nZ (hS:=hS) p7 P3 (P0.mono (qk J a1)) m7 o1)) rfl ?_;rintro _ a w ⟨bx,a4,hS,T8,Y3,rfl,q3,n6⟩ E;obtain⟨rfl,cv⟩:=aJ n6;refine qM E rfl λa E=>sp E (bn E rfl rfl) rfl λa E=>sp E (bn E rfl rfl) rfl λa E=>qA E rfl λa E=>qA E rfl λa E=>ag (ab (ab (aj (qM E rfl λa E=>?_))));refine qB E rfl rfl lx λa E=>ag (kif E rfl (λf5=>?_) (λf5=>?_))
 {
 have h:=aD f5 h;refine ab (aj (qM E rfl λa E=>qM E rfl λa E=>qB E rfl rfl ij λa E=>qA E rfl λa E=>ag (bd ?_)));obtain rfl:=oi h
 try dsimp only
 refine zB.nil E ?_;refine f1 E ?_;exact⟨_,(qk J (qk a1 a4)),(hS.dropL 2),cM⟩}
 {
 have h:=aF f5 h;refine aR (ab (aj (qM E rfl λa E=>?_)));obtain⟨g2,y1,h⟩:=ob h;refine st E (az (vs:=[P6]) E rfl call33 (oH (hS:=hS) (U9.mono a4) y1)) rfl ?_;rintro _ a w ⟨cn,a5,hS,c3,de,rfl,c4,l4⟩ E;obtain⟨rfl,ap⟩:=aJ l4;refine qM E rfl λa E=>sp E (bn E rfl rfl) rfl λa E=>sp E (bn E rfl rfl) rfl λa E=>qA E rfl λa E=>qA E rfl λa E=>ag (ab (aj (qM E rfl λa E=>?_)));obtain⟨f0,m1,h⟩:=ob h;refine st E (az (vs:=[T8]) E rfl call33 (oH (hS:=hS) (q3.mono a5) m1)) rfl ?_
 rintro _ a w ⟨z5,a0,hS,g1,V9,rfl,g5,n2⟩ E;obtain⟨rfl,W8⟩:=aJ n2;refine qM E rfl λa E=>sp E (bn E rfl rfl) rfl λa E=>sp E (bn E rfl rfl) rfl λa E=>qA E rfl λa E=>qA E rfl λa E=>ag (ab (ab ?_));refine cF (λa w=>∃h4:Bool,dO p0 p2 g2 f0 h4=some r/\∃m',M.le z5 m'/\S W0 m' w ((b5,b3)::(b1,a9)::L) (TL)/\Env 125 a [(3,pz b1),(5,pz b5),(11,c3),(13,g1),(77,.bool h4)]) ?_ ?_
 {
 refine aj (qM E rfl λa E=>qB E rfl rfl lx λa E=>qM E rfl λa E=>?_);rcases kz (w3.2 != 0) with hd361|hd361
 {have h:=aD hd361 h;refine qX E hd361 λa E=>qX E hd361 λa E=>qT E hd361 rfl λa E=>qM E rfl λa E=>qX E rfl λa E=>qX E rfl λa E=>qT E rfl rfl λa E=>qM E rfl λa E=>qX E rfl λa E=>qX E rfl λa E=>?_;refine qT E rfl rfl λa E=>qM E rfl λa E=>qX E rfl λa E=>qX E rfl λa E=>qT E rfl rfl λa E=>ag ?_;exact⟨true,h,_,(Q0 _),hS,kut E⟩}
 {
 have h:=aF hd361 h;refine qG E hd361 rfl λa E=>spg E rfl rfl rfl rfl hd361 (bh E rfl rfl lx) rfl λa E=>qF E hd361 rfl λa E=>qM E rfl λa E=>?_;rcases kz (g2.2 != 0) with hd373|hd373
 {have h:=aD hd373 h;refine qX E hd373 λa E=>qX E hd373 λa E=>qT E hd373 rfl λa E=>qM E rfl λa E=>qX E rfl λa E=>qX E rfl λa E=>qT E rfl rfl λa E=>qM E rfl λa E=>qX E rfl λa E=>qX E rfl λa E=>?_;refine qT E rfl rfl λa E=>ag ?_;exact⟨true,h,_,(Q0 _),hS,kut E⟩}
 {
 have h:=aF hd373 h;refine qG E hd373 rfl λa E=>spg E rfl rfl rfl rfl hd373 (bh E rfl rfl lx) rfl λa E=>qF E hd373 rfl λa E=>qM E rfl λa E=>?_;rcases kz (f0.2 != 0) with hd383|hd383
 {have h:=aD hd383 h;refine qX E hd383 λa E=>qX E hd383 λa E=>qT E hd383 rfl λa E=>qM E rfl λa E=>qX E rfl λa E=>qX E rfl λa E=>qT E rfl rfl λa E=>ag ?_;exact⟨true,h,_,(Q0 _),hS,kut E⟩}
 {
 have h:=aF hd383 h;refine qG E hd383 rfl λa E=>spg E rfl rfl rfl rfl hd383 (zC E rfl rfl underlying65 (c4.mono a0)) rfl λa E=>qF E hd383 rfl λa E=>qM E rfl λa E=>?_;rcases kz g2.1.isNone with hd391|hd391
 {have h:=aD hd391 h;refine qX E hd391 λa E=>qX E hd391 λa E=>qT E hd391 rfl λa E=>ag ?_;exact⟨true,h,_,(Q0 _),hS,kut E⟩}
 {have h:=aF hd391 h;refine qG E hd391 rfl λa E=>spg E rfl rfl rfl rfl hd391 (zC E rfl rfl underlying65 g5) rfl λa E=>qF E hd391 rfl λa E=>ag ?_;exact⟨f0.1.isNone,h,_,(Q0 _),hS,kut E⟩}}}}}
 {
 rintro a w ⟨h4,h,el,W,hS,E⟩;unfold dO at h;refine kif E rfl (λh1=>?_) (λh1=>?_)
 {
 have h:=aD h1 h;refine ab (aj (qA E rfl λa E=>ag (bd ?_)));obtain rfl:=oi h
 try dsimp only
 refine zB.nil E ?_;refine f1 E ?_;exact⟨_,(qk J (qk a1 (qk a4 (qk a5 (qk a0 W))))),(hS.dropL 2),cM⟩}
 {
 have h:=aF h1 h;refine aR (ab (aj ?_));refine st E (ci hS zeroValue3 rfl (cs:=zc3)) rfl ?_;rintro _ a w ⟨c0,rfl,hS⟩ E;refine st0 E (bU E hS ty3 bp rfl rfl (am (show inR .i64 0 from ay (by decide))) (i:=0) rfl (zr3 _)) ?_;rintro _ w ⟨i5,P8,hS⟩ E;refine ag (ab (aj (qM E rfl λa E=>?_)));obtain⟨V7,R6,h⟩:=ob h;refine st E (az (vs:=[c3]) E rfl call36 (n8 (hS:=hS) (c4.mono (qk a0 W)) R6)) rfl ?_;rintro ee a w ⟨r8,Z,hS,T2⟩ E;refine qA E rfl λa E=>ag (ab (ab (aj (qM E rfl λa E=>?_))));obtain⟨gX,lX,rfl,P2,o2⟩:=T2
 refine sp E (FR E rfl rfl underlying76) rfl λa E=>ag (kif E rfl (λi0=>absurd (i0.symm.trans rfl) (by decide)) (λi0=>?_));refine aR (ab (ab (aj (qM E rfl λa E=>ag (aW ?_)))));obtain⟨e9,z8,h⟩:=ob h
 refine HL (Rv:=RvX) (λ(s:Int) (x:aa)=>fZ p2 s x) (λ_=> .exit 0) [0] (λ(m':M) (s:Int) (g4:Mem) (h3:Tls)=>∃(b4:List Value),M.le r8 m'/\(ai .i64).R m' b4 s/\g4=[(c0,b4),(b5,b3),(b1,a9)]/\h3=[]) (Ls:=[(c0,i5),(b5,b3),(b1,a9)]) (TLs:=[]) (s0:=0) (sf:=e9.1) (bf:=e9.2) E hS (show evl _ _=some _ from rfl) P2 o2 (Q0 _) (by decide) (λ_ _ _ _ h=>IP h) (by rintro al Y1 s_ a_ b_ n_ ⟨b4,R3,V0,u1,w2⟩;exact⟨b4,R3.trans n_,(ai .i64).mono n_ V0,u1,w2⟩) ⟨i5,Q0 _,((ai .i64).mono Z P8),rfl,rfl⟩ z8 ?_ ?_
 {
 intro V8 dl W0 h5 w L TL s_ g4 h3 W1 eg d0 R4 R9 a Y5 gf h2 hS w0 h E z4;obtain⟨m5,rfl⟩:∃x,x=s_:=⟨_,rfl⟩
 obtain⟨b4,e7,d2,rfl,rfl⟩:=h2;have h:fZ p2 m5 d0=some (R4,R9):=h;unfold fZ at h;obtain⟨V2,bX,cX,rX,rfl,rfl,T5,b7⟩:=w0;refine aj ?_;refine st E (ci hS zeroValue59 rfl (cs:=vG)) rfl ?_;rintro _ a w ⟨i3,rfl,hS⟩ E;refine st0 E (bU E hS Dp bp rfl rfl T5 (i:=0) rfl (Do (s4 _)).choose_spec) ?_;rintro _ w ⟨r1,h6,hS⟩ E;refine ag ?_;obtain⟨P5,hS⟩:=z4 _ _ _ _ hS;refine⟨P5,?_⟩;refine aW (ab (ab (aj (sp E (aB E mK rfl) rfl λa E=>?_))));refine st E (aA E hS Dq rfl (i:=0) rfl (PA.R_drop (aC h6))) rfl ?_;rintro vY a _ ⟨rfl,x5⟩ E;obtain⟨rfl,_⟩:=DS x5
 refine sp E (oU (k:=kAp) E rfl rfl underlying22 b7) rfl λa E=>qM E rfl λa E=>ag (aW ?_);obtain⟨rI,hI⟩:=L3 d0.fRow b7.len;refine fw hI (λ(s:Int×List Ap) a w=>inR .i64 s.1/\s.2.length=d0.fRow.length/\∃cs,S W0 h5 w ((i3,r1)::(bX,cs)::(c0,b4)::(b5,b3)::(b1,a9)::L) TL/\GS kAp h5 bX cs vY s.2/\Env 125 a [(5,pz b5),(15,pz c0),(17,pz i3),(86,.int .i64 (d0.fRow.length:Int)),(87,.int .i64 s.1)]) ⟨(show inR .i64 0 from ay (by decide)),rfl,cX,hS,b7,kut E⟩ ?_
 {
 rintro ⟨iX,xs⟩ a w ⟨dn,T1,cX,hS,b7,E⟩ rX hK hbX;have hK:scr d0.fRow.length (iX,xs)=some rX:=hK;dsimp only[scr] at hK;refine ab (aj (qB E rfl rfl cC λa E=>ag (ab (kif E rfl (λh8=>?_) (λh8=>?_)))))
 {
 have hK:=aD h8 hK;obtain⟨jX,i1,hK⟩:=ob hK;obtain⟨yX,R8⟩:∃y,xs[jX]? =some y:=⟨_,List.getElem?_eq_getElem (w5 i1).2.2⟩
 refine aR (ab (aW (ab (aj (qM E rfl λa E=>qA E rfl λa E=>ag (aj (sp E (aB E mK rfl) rfl λa E=>?_)))))));refine st E (aA E hS Dq rfl (i:=0) rfl (PA.R_drop (aC h6))) rfl ?_;rintro vZ a _ ⟨rfl,z9⟩ E;obtain rfl:vY=vZ:=(DS z9).1.symm;refine qM E rfl λa E=>?_;refine st E (sr (m:=h5) (k:=kAp) (x0:=Ap.zero) (xx:=(⟨77,false,0,[]⟩:Ap)) (pl:=[(0,1),(1,1),(2,1),(3,1)]) (pv:=[(0,.int .i64 77)]) E rfl underlying32 rfl zeroValue32 pk rfl (.cons rfl EX (am (show inR .i64 77 from ay (by decide))) .nil)) rfl ?_;rintro vW a _ ⟨rfl,p3⟩ E
 refine sp E (jZ (k:=kAp) E rfl rfl underlying22 sizeOf32 b7 i1 rfl) rfl λa E=>?_;refine st0 E (oV (k:=kAp) E hS eF bp b7 R8 rfl rfl p3 (i:=1) rfl) ?_;rintro _ w ⟨cX,b7,hS⟩ E;refine ag (aj (qB E rfl rfl (cB rfl) λa E=>qM E rfl λa E=>ag ?_));exact⟨_,(Option.some.inj hK).symm,aI _ _,by rw[List.length_set];exact T1,cX,hS,b7,kut E⟩}
 {
 refine eG rfl rfl ?_;refine ab (ab (aj ?_));refine st E (aA E hS ty3 rfl (i:=2) rfl (aC d2)) rfl ?_;rintro df a _ ⟨rfl,u2⟩ E;obtain⟨rfl,dr⟩:=aJ u2;refine st E (aA E hS ty3 rfl (i:=3) rfl (aC ((ai .i64).mono (qk J (qk a1 (qk a4 (qk a5 (qk a0 (qk W (qk Z e7))))))) U4))) rfl ?_;rintro W5 a _ ⟨rfl,T3⟩ E;obtain⟨rfl,V5⟩:=aJ T3;refine qB E rfl rfl ij λa E=>ag (kif E rfl (λg3=>?_) (λg3=>?_))
 {
 have h:=aD g3 h;refine eG rfl rfl ?_;cases h
 try dsimp only
 exact⟨rfl,rfl,_,[(c0,b4),(b5,b3),(b1,a9)],[],(Q0 _),⟨b4,e7,d2,rfl,rfl⟩,(hS.pickL 5 [2,3,4] rfl rfl rfl)⟩}
 {
 have h:=aF g3 h;refine aR (aj ?_);refine st E (aA E hS ty3 rfl (i:=2) rfl (aC d2)) rfl ?_;rintro Y8 a _ ⟨rfl,r0⟩ E;obtain⟨rfl,W3⟩:=aJ r0;refine qB E rfl rfl (cB rfl) λa E=>?_;refine st0 E (bU E hS ty3 bp rfl rfl (am (aI _ _)) (i:=2) rfl d2) ?_;rintro _ w ⟨i4,P7,hS⟩ E;refine ag ?_;cases h
 try dsimp only
 exact⟨rfl,_,[(c0,i4),(b5,b3),(b1,a9)],[],(Q0 _),⟨i4,e7,P7,rfl,rfl⟩,(hS.pickL 5 [2,3,4] rfl rfl rfl)⟩}}}}
 {
 intro e6 ep w a g4 h3 a2 E h2 hS j1 k0;obtain⟨h7,_,dg,rfl,rfl⟩:=h2;obtain⟨W0,h0⟩:∃W9,W9=W0.put e6 (.deferred (some [])):=⟨_,rfl⟩
 rw[←h0] at hS;rcases kz e9.2 with hb175|hb175
 {
 have h:=aD hb175 h;rw[if_pos hb175];refine ab (aj (sp E (aB E ul rfl) rfl λa E=>?_));refine st E (aA E hS lu rfl (i:=2) rfl (J6.R_drop (aC (bw.mono (qk J (qk a1 (qk a4 (qk a5 (qk a0 (qk W (qk Z a2))))))) a3)))) rfl ?_;rintro z0 a _ ⟨rfl,n0⟩ E;refine sp E (aB E uk rfl) rfl λa E=>?_;refine st E (aA E hS oF rfl (i:=2) rfl (Ka.R_drop (aC (bw.mono (qk J (qk a1 (qk a4 (qk a5 (qk a0 (qk W (qk Z a2))))))) a3)))) rfl ?_;rintro x7 a _ ⟨rfl,m8⟩ E;obtain⟨gb,x8,h⟩:=ob h
 refine st E (az (vs:=[z0,x7]) E rfl call28 (uY (hS:=hS) n0 m8 x8)) rfl ?_;rintro e5 a w ⟨R0,e3,hS,f3⟩ E;refine qA E rfl λa E=>ag (ab ?_);refine cF (λa w=>∃g0:Bool,f7 g0=some r/\∃m',M.le R0 m'/\S W0 m' w ((c0,h7)::(b5,b3)::(b1,a9)::L) (TL)/\aq [e6] 125 a [(6,.bool g0)]) ?_ ?_
 {
 refine aj (qM E rfl λa E=>?_);obtain⟨W4,U1,h⟩:=ob h;refine st E (az (vs:=[c3]) E rfl call36 (jt (hS:=hS) (c4.mono (qk a0 (qk W (qk Z (qk a2 e3))))) U1)) rfl ?_;rintro u8 a w ⟨fv,b0,hS,s3⟩ E;obtain⟨bb,m6,h⟩:=ob h;refine st E (az (vs:=[u8]) E rfl call38 (oI (hS:=hS) s3 m6)) rfl ?_;rintro m2 a w ⟨W6,b6,hS,t0⟩ E;refine qM E rfl λa E=>?_;obtain⟨U6,x2,h⟩:=ob h;refine st E (az (vs:=[m2,e5]) E rfl call30 (f9 (hS:=hS) t0 (f3.mono (qk b0 b6)) x2)) rfl ?_;rintro bo a w ⟨Y7,c1,hS,z1⟩ E
 obtain rfl:=cT z1;refine qM E rfl λa E=>?_;rcases kz U6 with hd216|hd216
 {
 have h:=aD hd216 h;refine qG E hd216 rfl λa E=>?_;obtain⟨fx,I2,h⟩:=ob h;refine stg E rfl rfl rfl rfl hd216 (az (vs:=[g1]) E rfl call36 (jt (hS:=hS) (g5.mono (qk W (qk Z (qk a2 (qk e3 (qk b0 (qk b6 c1))))))) I2)) rfl ?_;rintro p8 a w ⟨ac,c6,hS,t4⟩ E;obtain⟨Y9,y2,h⟩:=ob h;refine stg E rfl rfl rfl rfl hd216 (az (vs:=[p8]) E rfl call38 (oI (hS:=hS) t4 y2)) rfl ?_;rintro T9 a w ⟨fs,c7,hS,w1⟩ E;refine qG E hd216 rfl λa E=>?_;obtain⟨u0,s1,h⟩:=ob h
 refine stg E rfl rfl rfl rfl hd216 (az (vs:=[T9,e5]) E rfl call30 (f9 (hS:=hS) w1 (f3.mono (qk b0 (qk b6 (qk c1 (qk c6 c7))))) s1)) rfl ?_;rintro bk a w ⟨bi,e1,hS,k4⟩ E;obtain rfl:=cT k4;refine qT E hd216 rfl λa E=>qM E rfl λa E=>?_;rcases kz u0 with hd239|hd239
 {
 have h:=aD hd239 h;refine qG E hd239 rfl λa E=>?_;obtain⟨ch,T6,h⟩:=ob h;refine stg E rfl rfl rfl rfl hd239 (az (vs:=[c3,(.slice none 0 0)]) E rfl call39 (n9 (hS:=hS) (c4.mono (qk a0 (qk W (qk Z (qk a2 (qk e3 (qk b0 (qk b6 (qk c1 (qk c6 (qk c7 e1))))))))))) cN T6)) rfl ?_;rintro y0 a w ⟨X1,j2,hS,z3⟩ E;obtain⟨co,q1,h⟩:=ob h;refine stg E rfl rfl rfl rfl hd239 (az (vs:=[y0]) E rfl call38 (oI (hS:=hS) z3 q1)) rfl ?_;rintro U0 a w ⟨W7,i2,hS,q7⟩ E;refine qG E hd239 rfl λa E=>?_;obtain⟨k6,p4,h⟩:=ob h
 refine stg E rfl rfl rfl rfl hd239 (az (vs:=[U0,e5]) E rfl call30 (f9 (hS:=hS) q7 (f3.mono (qk b0 (qk b6 (qk c1 (qk c6 (qk c7 (qk e1 (qk j2 i2)))))))) p4)) rfl ?_;rintro Y0 a w ⟨Y6,m3,hS,s2⟩ E;obtain rfl:=cT s2;refine qT E hd239 rfl λa E=>qA E rfl λa E=>ag ?_;exact⟨k6,h,_,(qk b0 (qk b6 (qk c1 (qk c6 (qk c7 (qk e1 (qk j2 (qk i2 m3)))))))),(hS.pickT 3 [] rfl rfl rfl),kut E⟩}
 {have h:=aF hd239 h;refine qX E hd239 λa E=>qX E hd239 λa E=>qX E hd239 λa E=>qX E hd239 λa E=>qX E hd239 λa E=>qF E hd239 rfl λa E=>qA E rfl λa E=>ag ?_;exact⟨false,h,_,(qk b0 (qk b6 (qk c1 (qk c6 (qk c7 e1))))),(hS.pickT 2 [] rfl rfl rfl),kut E⟩}}
 {have h:=aF hd216 h;refine qX E hd216 λa E=>qX E hd216 λa E=>qX E hd216 λa E=>qX E hd216 λa E=>qX E hd216 λa E=>qF E hd216 rfl λa E=>qM E rfl λa E=>qX E rfl λa E=>qX E rfl λa E=>qX E rfl λa E=>?_;refine qX E rfl λa E=>qX E rfl λa E=>qF E rfl rfl λa E=>qA E rfl λa E=>ag ?_;exact⟨false,h,_,(qk b0 (qk b6 c1)),(hS.pickT 1 [] rfl rfl rfl),kut E⟩}}
 {
 rintro a w ⟨g0,h,bu,o3,hS,E⟩;unfold f7 at h;refine bd ?_;obtain rfl:=oi h
 try dsimp only
 have hS:=hS;rw[h0] at hS;refine zB.shut E hS j1 k0 λa w hS E=>?_;refine zB.nil E ?_;refine f1 E ?_;exact⟨_,(qk J (qk a1 (qk a4 (qk a5 (qk a0 (qk W (qk Z (qk a2 (qk e3 o3))))))))),(hS.dropL 3),cM⟩}}
 {
 have h:=aF hb175 h;rw[if_neg (by rw[hb175];decide)]
 try dsimp only
 refine eG rfl rfl ?_;refine ab (aj (sp E (aB E ul rfl) rfl λa E=>?_));refine st E (aA E hS lu rfl (i:=2) rfl (J6.R_drop (aC (bw.mono (qk J (qk a1 (qk a4 (qk a5 (qk a0 (qk W (qk Z a2))))))) a3)))) rfl ?_;rintro q0 a _ ⟨rfl,t3⟩ E;refine sp E (aB E uk rfl) rfl λa E=>?_;refine st E (aA E hS oF rfl (i:=2) rfl (Ka.R_drop (aC (bw.mono (qk J (qk a1 (qk a4 (qk a5 (qk a0 (qk W (qk Z a2))))))) a3)))) rfl ?_;rintro t1 a _ ⟨rfl,t5⟩ E;obtain⟨ar,p5,h⟩:=ob h
 refine st E (az (vs:=[q0,t1]) E rfl call28 (uY (hS:=hS) t3 t5 p5)) rfl ?_;rintro g6 a w ⟨k3,e4,hS,f6⟩ E;refine qA E rfl λa E=>ag (ab ?_);refine cF (λa w=>∃f4:Bool,f8 f4=some r/\∃m',M.le k3 m'/\S W0 m' w ((c0,h7)::(b5,b3)::(b1,a9)::L) (TL)/\aq [e6] 125 a [(6,.bool f4)]) ?_ ?_
 {
 refine aj (qM E rfl λa E=>?_);obtain⟨ba,U5,h⟩:=ob h;refine st E (az (vs:=[c3]) E rfl call36 (jt (hS:=hS) (c4.mono (qk a0 (qk W (qk Z (qk a2 e4))))) U5)) rfl ?_;rintro R7 a w ⟨fr,a6,hS,k7⟩ E;obtain⟨X2,k5,h⟩:=ob h;refine st E (az (vs:=[R7]) E rfl call38 (oI (hS:=hS) k7 k5)) rfl ?_;rintro P1 a w ⟨Y2,b2,hS,n4⟩ E;refine qM E rfl λa E=>?_;obtain⟨V1,q4,h⟩:=ob h;refine st E (az (vs:=[P1,g6]) E rfl call30 (f9 (hS:=hS) n4 (f6.mono (qk a6 b2)) q4)) rfl ?_;rintro ad a w ⟨bt,c2,hS,m9⟩ E
 obtain rfl:=cT m9;refine qM E rfl λa E=>?_;rcases kz V1 with hd306|hd306
 {
 have h:=aD hd306 h;refine qG E hd306 rfl λa E=>?_;obtain⟨fl,x3,h⟩:=ob h;refine stg E rfl rfl rfl rfl hd306 (az (vs:=[g1]) E rfl call36 (jt (hS:=hS) (g5.mono (qk W (qk Z (qk a2 (qk e4 (qk a6 (qk b2 c2))))))) x3)) rfl ?_;rintro T4 a w ⟨ec,d1,hS,x4⟩ E;obtain⟨Y4,l1,h⟩:=ob h;refine stg E rfl rfl rfl rfl hd306 (az (vs:=[T4]) E rfl call38 (oI (hS:=hS) x4 l1)) rfl ?_;rintro l2 a w ⟨V6,c5,hS,U3⟩ E;refine qG E hd306 rfl λa E=>?_;obtain⟨y4,U7,h⟩:=ob h
 refine stg E rfl rfl rfl rfl hd306 (az (vs:=[l2,g6]) E rfl call30 (f9 (hS:=hS) U3 (f6.mono (qk a6 (qk b2 (qk c2 (qk d1 c5))))) U7)) rfl ?_;rintro V3 a w ⟨ed,e0,hS,n3⟩ E;obtain rfl:=cT n3;refine qT E hd306 rfl λa E=>qM E rfl λa E=>?_;rcases kz y4 with hd329|hd329
 {
 have h:=aD hd329 h;refine qG E hd329 rfl λa E=>?_;obtain⟨ca,x1,h⟩:=ob h;refine stg E rfl rfl rfl rfl hd329 (az (vs:=[c3,(.slice none 0 0)]) E rfl call39 (n9 (hS:=hS) (c4.mono (qk a0 (qk W (qk Z (qk a2 (qk e4 (qk a6 (qk b2 (qk c2 (qk d1 (qk c5 e0))))))))))) cN x1)) rfl ?_;rintro r3 a w ⟨bl,h9,hS,L1⟩ E;obtain⟨ey,m4,h⟩:=ob h;refine stg E rfl rfl rfl rfl hd329 (az (vs:=[r3]) E rfl call38 (oI (hS:=hS) L1 m4)) rfl ?_;rintro p6 a w ⟨X0,j4,hS,r6⟩ E;refine qG E hd329 rfl λa E=>?_;obtain⟨U8,r7,h⟩:=ob h
 refine stg E rfl rfl rfl rfl hd329 (az (vs:=[p6,g6]) E rfl call30 (f9 (hS:=hS) r6 (f6.mono (qk a6 (qk b2 (qk c2 (qk d1 (qk c5 (qk e0 (qk h9 j4)))))))) r7)) rfl ?_;rintro bs a w ⟨W2,l3,hS,B0⟩ E;obtain rfl:=cT B0;refine qT E hd329 rfl λa E=>qA E rfl λa E=>ag ?_;exact⟨U8,h,_,(qk a6 (qk b2 (qk c2 (qk d1 (qk c5 (qk e0 (qk h9 (qk j4 l3)))))))),(hS.pickT 3 [] rfl rfl rfl),kut E⟩}
 {have h:=aF hd329 h;refine qX E hd329 λa E=>qX E hd329 λa E=>qX E hd329 λa E=>qX E hd329 λa E=>qX E hd329 λa E=>qF E hd329 rfl λa E=>qA E rfl λa E=>ag ?_;exact⟨false,h,_,(qk a6 (qk b2 (qk c2 (qk d1 (qk c5 e0))))),(hS.pickT 2 [] rfl rfl rfl),kut E⟩}}
 {have h:=aF hd306 h;refine qX E hd306 λa E=>qX E hd306 λa E=>qX E hd306 λa E=>qX E hd306 λa E=>qX E hd306 λa E=>qF E hd306 rfl λa E=>qM E rfl λa E=>qX E rfl λa E=>qX E rfl λa E=>qX E rfl λa E=>?_;refine qX E rfl λa E=>qX E rfl λa E=>qF E rfl rfl λa E=>qA E rfl λa E=>ag ?_;exact⟨false,h,_,(qk a6 (qk b2 c2)),(hS.pickT 1 [] rfl rfl rfl),kut E⟩}}
 {
 rintro a w ⟨f4,h,V4,q6,hS,E⟩;unfold f8 at h;refine bd ?_;obtain rfl:=oi h
 try dsimp only
 have hS:=hS;rw[h0] at hS;refine zB.shut E hS j1 k0 λa w hS E=>?_;refine zB.nil E ?_;refine f1 E ?_;exact⟨_,(qk J (qk a1 (qk a4 (qk a5 (qk a0 (qk W (qk Z (qk a2 (qk e4 q6))))))))),(hS.dropL 3),cM⟩}}}}}}}
end
open Go.RowKit Go.ChangeShapes Go.ChangeAt Go.WideShapes
section
variable {P:Program}{H:Type}{enc:TypeId×Value->H}
theorem tn (hl:laidOutB P=true){W W':World}{a0:Nat}{a1:Nat->Bool}:∀{Z:List TypeId} {vs:List Value} {ds:List (DataW H)} {ps:List MemPlace},(∀t∈Z,P.readableRec t=true/\t<P.types.size)->
  DataW.TrodAll enc P W a0 (λ_=>true) true Z vs ds ps->(∀p∈ps,W.sameAt W' p)->(∀p∈ps,a1 p.block=true)->DataW.TrodAll enc P W' a0 a1 true Z vs ds ps
 |[],[],[],_,_,h,_,_=>h
 |[],[],_::_,_,_,h,_,_=>h.elim
 |[],_::_,_,_,_,h,_,_=>h.elim
 |_::_,[],_,_,_,h,_,_=>h.elim
 |_::_,_::_,[],_,_,h,_,_=>h.elim
 |t::Z,v::vs,d::ds,ps,ht,h,hs,hp=>by
  obtain⟨p,q,h1,h2,rfl⟩:=h;refine⟨p,q,WideElems.Trod_stays hl (ht t (by simp)).1 (ht t (by simp)).2 h1 (λx J=>hs x (by simp[J])) (λx J=>hp x (by simp[J])),tn hl (λt h=>ht t (by simp[h])) h2 (λx J=>hs x (by simp[J])) (λx J=>hp x (by simp[J])),rfl⟩
theorem Fp {f:Func}{s:ChangeSpec}{a5 fresh b0 b4:Bool}{W Z:World}{args:Array Value}{ds gs:List (DataW H)}{J:List MemPlace}{tb:TypeId}
  (hW:DataW.Whole enc P f.params.toList s.vars a5 W args.toList ds gs J) (hl:laidOutB P=true) (ht:∀t∈f.params.toList,P.readableRec t=true/\t<P.types.size)
  (a9:s.vars=[]) (hr:f.resultTypes= #[tb]) (hb:P.underlying tb=some .bool) (a2:s.fn H (ds++gs)={ results:=[.lit (.bool true)],args:=ds }) (hB:Below W.heap.size W Z):
  s.post enc P f a5 fresh b0 b4 W args (.bool true) Z:=by
 have a1:=λp hp=>hW.lt p hp;have b5:=hW;obtain⟨p,q,hA,hV,b2,hz,hn⟩:=b5;rw[a9] at hV;obtain⟨hg,hq⟩:=trodVars_none hV;have a0:J=p:=by rw[b2,hq];simp
 have a4:∀(b:Nat) (sp:Nat->Bool) (hd:Bool),DataW.TrodAll enc P Z b sp hd f.resultTypes.toList ((Value.bool true).resultList f.resultTypes.size) (s.fn H (ds++gs)).results []:=λb sp hd=>by
  rw[hr,a2];exact trodAll_cons_mk (shut_bool hb _) trodAll_mk0
 have a3:∀sp:Nat->Bool,(∀x∈J,sp x.block=true)->DataW.TrodAll enc P Z 0 sp true f.params.toList args.toList (s.fn H (ds++gs)).args p:=λsp b3=>by
  rw[a2];refine tn hl ht hA (λx h=>hB.same (a1 x (by rw[a0];exact h))) (λx h=>b3 x (by rw[a0];exact h))
 have a6:∀sp:Nat->Bool,DataW.TrodVars enc P Z sp s.vars (s.fn H (ds++gs)).vars []:=λsp=>by
  rw[a9,a2];exact rfl
 have b1:∀x∈J,(λb=>decide (b<W.heap.size)) x.block=true:=λx h=>by simpa using a1 x h
 refine⟨ds,gs,J,[],p,[],hW,a4 _ _ _,a3 _ b1,a6 _,hB.frame _,λ_=>?_⟩;refine⟨ok_one hr rfl (okWide_bool_mk hb _),_,_,([]++p)++[],⟨[]++p,[],trodAll_append (a3 _ (λ_ _=>rfl)) (a4 _ _ _),a6 _,rfl,?_,?_⟩,?_⟩
 ·intro b off hp
  have hm:MemPlace.cell b off∈J:=by rw[a0];simpa using hp
  have:=a1 _ hm;rw[hB.frozen (p:=⟨b,off,none⟩) this];exact hz b off hm
 ·intro ha
  have:=hn ha;rw[a0] at this;simpa using this
 ·intro x h _
  rw[a0];simpa using h
structure Okw (P:Program)(W:World)(r:Reach)(b:Nat)(t:TypeId)(v:Value):Prop where
 ok:Value.okWide P W r b t v
theorem Bj {W:World}{r:Reach}{Z:Nat}{J:Array TypeId}{args:Array Value}(h:∀(j:Nat) t v,J[j]? =some t->args[j]? =some v->Value.okWide P W r Z t v)(j:Nat){t:TypeId}{v:Value}(h1:J[j]? =some t)(h2:args[j]? =some v):Okw P W r Z t v:=
 ⟨h j t v h1 h2⟩
theorem IS {r:Reach}{b0:Nat}{W:World}{t:TypeId}{k:IntKind}{v:Value}{d:DataW H}{ps:List MemPlace}{J:Nat}{h:Nat->Bool}{a0:Bool}(ht:P.underlying t=some (.int k))(Z:Okw P W r b0 t v)(hd:DataW.Trod enc P W J h a0 t v d ps):
  ∃n,v= .int k n/\inR k n:=by
 obtain⟨n,rfl,_,_,hw⟩:=open_int ht Z.ok hd;refine⟨n,rfl,?_⟩;rw[la];simpa[Lit.wf] using hw
theorem Fq {r:Reach}{b0:Nat}{W:World}{t e:TypeId}{O:Type}{k:Kd O}{sz:List O->Nat}{v:Value}{d:DataW H}{ps:List MemPlace}(B:zx H)(ht:P.underlying t=some (.slice e))(a0:Rd P t (kSl k) sz)(h:Okw P W r b0 t v)(hd:DataW.Trod enc P W 0 (λ_=>true) true t v d ps)(hb:B.b d<=1099511627776):
  ∃xs,RV (kSl k) (m0 W) v xs/\sz xs<=B.b d:=by
 obtain⟨a,len,cap,rfl⟩:=okWide_slice ht h.ok;obtain⟨a1,J⟩:=hd;obtain⟨xs,hx,Z⟩:=a0 enc B W a1 _ d ps J hb;exact⟨xs,⟨_,hx,rfl⟩,Z⟩
end
theorem IT {O:Type}(xs:List O):(xs.map λ_=>1).sum=xs.length:=by
 induction xs with
 |nil=>rfl
 |cons a r ih=>simp[ih];omega
theorem Fs {O:Type}(f:O->Nat)(xs:List O)(h:∀x,1<=f x):xs.length<=(xs.map f).sum:=by
 induction xs with
 |nil=>simp
 |cons a r ih=>have:=h a;simp;omega
open Go.ChangeShapes Go.WideShapes Go.ChangeAt Go.RowKit
theorem own:ownKnob prog.godebug=none:=by kernel_rfl
theorem IU:laidOutB prog=true:=by kernel_rfl
theorem G3 {H:Type}(d:DataW H):1<=Rows.uptoBulk d:=by
 cases d with
 |lit l=>cases l<;>simp[Rows.uptoBulk]
 |nil=>simp[Rows.uptoBulk]
 |ptr d=>simp[Rows.uptoBulk]
 |slice elems spare=>simp[Rows.uptoBulk]
 |agg parts=>simp[Rows.uptoBulk]
 |iface t d=>simp[Rows.uptoBulk]
 |map entries=>simp[Rows.uptoBulk]
 |held h=>simp[Rows.uptoBulk]
def MI (H:Type):zx H:={
 b:=Rows.uptoBulk
 ba:=Rows.uptoBulkAll
 str:=λs=>by simp[Rows.uptoBulk]
 one:=G3
 slice:=λe s=>by simp[Rows.uptoBulk]
 agg:=λl=>by simp[Rows.uptoBulk]
 nil:=by simp[Rows.uptoBulkAll]
 cons:=λd r=>by simp[Rows.uptoBulkAll]}
theorem rd3:Rd prog 3 (ai .i64) (λ_=>1):=tG underlying3
def Ox:Int×Bool×Int×List Int->Ap:=λx=>⟨x.1,x.2.1,x.2.2.1,x.2.2.2⟩
def zb:Int×Bool×Int×List Int->Nat:=λx=>1+(1+(1+(x.2.2.2.length+1)))
theorem Pg:Rd prog 32 kAp (λy=>zb (Ap.pr y)+1):=by
 refine qu (gi:=Ox) (sz:=zb) underlying32 (by kernel_rfl) ?_ (λx=>rfl);show RdF prog (_::_::_::_::[]) 0 (bF (ai .i64) (bF cm (bF (ai .i64) pd))) (λx=>1+(1+(1+(x.2.2.2.length+1))));refine j0 (k:=ai .i64) (sz:=λ_=>1) (k':=bF cm (bF (ai .i64) pd)) (sz':=λx=>1+(1+(x.2.2.length+1))) (tG underlying3) rfl (by kernel_rfl) ?_;refine j0 (k:=cm) (sz:=λ_=>1) (k':=bF (ai .i64) pd) (sz':=λx=>1+(x.2.length+1)) (HG underlying4) rfl (by kernel_rfl) ?_;refine j0 (k:=ai .i64) (sz:=λ_=>1) (k':=pd) (sz':=λx=>x.length+1) (tG underlying2) rfl (by kernel_rfl) ?_
 exact uy (k:=pd) (sz:=λx=>x.length+1) (I8 underlying9) rfl (by kernel_rfl)
def s7 (xs:List Ap):Nat:=(xs.map λy=>zb (Ap.pr y)+1).sum+1
theorem Ph:Rd prog 22 (kSl kAp) s7:=vc underlying22 (by kernel_rfl) Pg
theorem MJ:Rd prog 54 (ai .u64) (λ_=>1):=tG underlying54
theorem Pi:Rd prog 55 (ai .u32) (λ_=>1):=tG underlying55
def Pj:Int×Int->aK:=λx=>⟨x.1,x.2⟩
theorem Pk:Rd prog 57 br (λ_=>1+1+1):=by
 refine qu (gi:=Pj) (sz:=λ_:Int×Int=>1+1) underlying57 (by kernel_rfl) ?_ (λx=>rfl);show RdF prog (_::_::[]) 0 (bF (ai .u64) (ai .u32)) (λ_=>1+1);refine j0 (k:=ai .u64) (sz:=λ_=>1) (k':=ai .u32) (sz':=λ_:Int=>1) MJ rfl (by kernel_rfl) ?_;exact uy (k:=ai .u32) (sz:=λ_=>1) Pi rfl (by kernel_rfl)
def Oy:aK×List Ap×Int->aa:=λx=>⟨x.1,x.2.1,x.2.2⟩
def pL (y:aa):Nat:=(1+1+1)+(s7 y.fRow+1)+1
theorem Pn:Rd prog 59 ae pL:=by
 refine qu (gi:=Oy) (sz:=λx:aK×List Ap×Int=>(1+1+1)+(s7 x.2.1+1)) underlying59 (by kernel_rfl) ?_ (λx=>rfl);show RdF prog (_::_::_::[]) 0 (bF br (bF (kSl kAp) (ai .u64))) (λx=>(1+1+1)+(s7 x.2.1+1));refine j0 (k:=br) (sz:=λ_=>1+1+1) (k':=bF (kSl kAp) (ai .u64)) (sz':=λx:List Ap×Int=>s7 x.1+1) Pk rfl (by kernel_rfl) ?_;refine j0 (k:=kSl kAp) (sz:=s7) (k':=ai .u64) (sz':=λ_:Int=>1) Ph rfl (by kernel_rfl) ?_;exact uy (k:=ai .u64) (sz:=λ_=>1) MJ rfl (by kernel_rfl)
def lw (xs:List aa):Nat:=(xs.map pL).sum+1
theorem Po:Rd prog 50 (kSl ae) lw:=vc underlying50 (by kernel_rfl) Pn
def ju (xs:List Int):Nat:=(xs.map λ_=>1).sum+1
theorem G4:Rd prog 49 (kSl (ai .i64)) ju:=vc underlying49 (by kernel_rfl) rd3
def MK:Int×List Int×List Int×List aa->bY:=λx=>⟨x.1,x.2.1,x.2.2.1,x.2.2.2⟩
def Bk (y:bY):Nat:=1+(ju y.fSort+(ju y.fKinds+lw y.fL))+1
theorem Pp:Rd prog 62 bw Bk:=by
 refine qu (gi:=MK) (sz:=λx:Int×List Int×List Int×List aa=>1+(ju x.2.1+(ju x.2.2.1+lw x.2.2.2))) underlying62 (by kernel_rfl) ?_ (λx=>rfl);show RdF prog (_::_::_::_::[]) 0 (bF (ai .i64) (bF (kSl (ai .i64)) (bF (kSl (ai .i64)) (kSl ae)))) (λx=>1+(ju x.2.1+(ju x.2.2.1+lw x.2.2.2)));refine j0 (k:=ai .i64) (sz:=λ_=>1) (k':=bF (kSl (ai .i64)) (bF (kSl (ai .i64)) (kSl ae))) (sz':=λx=>ju x.1+(ju x.2.1+lw x.2.2)) rd3 rfl (by kernel_rfl) ?_;refine j0 (k:=kSl (ai .i64)) (sz:=ju) (k':=bF (kSl (ai .i64)) (kSl ae)) (sz':=λx=>ju x.1+lw x.2) G4 rfl (by kernel_rfl) ?_
 refine j0 (k:=kSl (ai .i64)) (sz:=ju) (k':=kSl ae) (sz':=lw) G4 rfl (by kernel_rfl) ?_;exact uy (k:=kSl ae) (sz:=lw) Po rfl (by kernel_rfl)
theorem sp3:prog.readableRec 3=true/\3<prog.types.size:=⟨by kernel_rfl,of_decide_eq_true (by kernel_rfl)⟩
theorem Pq:prog.readableRec 49=true/\49<prog.types.size:=⟨by kernel_rfl,of_decide_eq_true (by kernel_rfl)⟩
theorem Pr:prog.readableRec 62=true/\62<prog.types.size:=⟨by kernel_rfl,of_decide_eq_true (by kernel_rfl)⟩
theorem Ft {n:Int}(h:inR .i64 n):cL n:=by
 have:=la.1 h;have J:IntKind.min .i64= -9223372036854775808:=by decide
 have W:IntKind.max .i64=9223372036854775807:=by decide
 unfold cL;omega
theorem Fu {n:Int}(h:inR .u64 n):0<=n/\n<18446744073709551616:=by
 have:=la.1 h;have J:IntKind.min .u64=0:=by decide
 have W:IntKind.max .u64=18446744073709551615:=by decide
 omega
theorem ML {n:Int}(h:inR .u32 n):0<=n/\n<4294967296:=by
 have:=la.1 h;have J:IntKind.min .u32=0:=by decide
 have W:IntKind.max .u32=4294967295:=by decide
 omega
theorem IV {m:M}{cs:List Value}{x:Ap}(h:kAp.R m cs x):VOK x:=by
 obtain⟨J,h2,W,Z⟩:=h;exact⟨Ft J.2,Ft W.2,Z.2.1⟩
theorem Ci {O:Type}{k:Kd O}{m:M}{cs:List Value}{xs:List O}(J:(kSl k).R m cs xs):∀x∈xs,∃cs,k.R m cs x:=λx W=>by
 obtain⟨a,len,cap,h1,h2,h3,h4,h⟩:=J;obtain⟨i,hi,rfl⟩:=List.getElem_of_mem W;cases a with
 |none=>
  have Z:cap=0:=h;omega
 |some ad=>exact⟨_,h.2 i hi⟩
theorem Dt {xs:List Int}{n:Nat}(h:ju xs<=n)(J:n<=1048576):xs.length<=1048576:=by
 unfold ju at h;rw[IT] at h;omega
theorem Cj {O:Type}(f:O->Nat):∀(xs:List O) (x:O),x∈xs->f x<=(xs.map f).sum
 |y::ys,x,h=>by
  simp only[List.map_cons,List.sum_cons];rcases List.mem_cons.1 h with rfl|h
  ·omega
  ·have:=Cj f ys x h;omega
theorem Fv (xs:List aa):xs.length<=lw xs:=by
 have:=Fs pL xs (λy=>by unfold pL;omega);unfold lw;omega
theorem MM {v:aa}:v.fRow.length<=pL v:=by
 have:=Fs (λy=>zb (Ap.pr y)+1) v.fRow (λy=>by omega);unfold pL s7;omega
theorem MN {m:M}{cs:List Value}{v:aa}(J:ae.R m cs v)(hl:pL v<=1048576):lZ v:=by
 obtain⟨Z,W,h3⟩:=J;obtain⟨h4,h5⟩:=Z;refine⟨Fu h4.2,ML h5.2,Fu h3.2,λx hx=>?_,Nat.le_trans MM hl⟩;obtain⟨cs,h⟩:=Ci W x hx;exact IV h
theorem G5 {P:Program}{H:Type}{enc:TypeId×Value->H}{r:Reach}{b0:Nat}{W:World}{t:TypeId}{fs:Array Field}{O:Type}{k:Kd O}{sz:O->Nat}{v:Value}{d:DataW H}{ps:List MemPlace}(B:zx H)(ht:P.underlying t=some (.struct fs))(a0:Rd P t k sz)(J:k.agg=true)(h:Okw P W r b0 t v)(hd:DataW.Trod enc P W 0 (λ_=>true) true t v d ps)(hb:B.b d<=1099511627776):
  ∃x,RV k (m0 W) v x/\sz x<=B.b d:=by
 obtain⟨cs,rfl,_⟩:=okWide_struct ht h.ok;obtain⟨a1,Z⟩:=hd;obtain⟨x,hx,hs⟩:=a0 enc B W a1 _ d ps Z hb;exact⟨x,⟨_,hx,by simp[Kd.val,J,Value.cells]⟩,hs⟩
theorem IW {m:M}{v:Value}{c:bY}(h:RV bw m v c){n:Nat}(hs:Bk c<=n)(J:n<=1048576):AZ c:=by
 obtain⟨cs,Z,_⟩:=h;obtain⟨h1,h2,h3,h4⟩:=Z;unfold Bk at hs;refine⟨Dt (n:=n) (by omega) J,Dt (n:=n) (by omega) J,?_,λv W=>?_⟩
 ·have:=Fv c.fL;omega
 ·obtain⟨cs,hc⟩:=Ci h4 v W
  have h5:=Cj pL c.fL v W;have h6:(c.fL.map pL).sum+1=lw c.fL:=rfl;exact MN hc (by omega)
end Go.Proofs.YthbonoagbeilkaaGreat.Hay
