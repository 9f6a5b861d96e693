import Derived.Test.YthbonoagbeilkaaGreatHbkC2
import Derived.Test.YthbonoagbeilkaaGreatHbM
import Derived.Carry
import Derived.ChangeSame
import Derived.OpenShut
import Derived.JoinedCond
import Derived.Test.YthbonoagbeilkaaGreatRows
import Derived.Test.YthbonoagbeilkaaGreatHeE
set_option maxRecDepth 100000
set_option maxHeartbeats 4000000
set_option linter.unusedVariables false
namespace Go.Proofs.YthbonoagbeilkaaGreat.Hay
open Bool renaming eq_false_or_eq_true→Z0
open M.le renaming trans→Jj,refl→Z2
open IntKind renaming i64→Z1,u64→Z3
open Go.Proofs Tryz
noncomputable section
variable {W0:Bse}{m:M}{w:World}{L:List (Nat×List Value)}{TL:List (Nat×Value)}{v0 v1 v2 v3 v4 v5 v6 v7 v8 v9:Value}
theorem sE  {b0_:Nat} {c0_:List Value} (hS:S W0 m w ((b0_,c0_)::L) (TL)) {p0} (ha0:i6.R m c0_ p0) {p1} (ha1:inR .i64 p1) {p2} (ha2:inR .i64 p2) {r} (h:dz p0 p1 p2=some r):
    Calls prog 169 [(pz b0_),(.int .i64 p1),(.int .i64 p2)].toArray w (Ret λv w'=>∃m',M.le m m'∧∃q0_:List Value,S W0 m' w' ((b0_,q0_)::L) (TL)∧i6.R m' q0_ r.2∧RV (kSl (ai .u64)) m' v r.1):=by
 refine kc func169 ntmps169 λa E=>?_;have E:Env 63 a [(0,pz b0_),(1,.int .i64 p1),(2,.int .i64 p2)]:=E;unfold dz at h;refine ae (ah (qA E rfl λa E=>ag (ae (ae (ah (qM E rfl λa E=>qB E rfl rfl iM λa E=>ag ?_))))));refine kif E rfl (λhd4=>?_) (λhd4=>?_)
 {
 have h:=aB hd4 h;refine ae (ah (qM E rfl λa E=>sp E (cj E rfl) rfl λa E=>sp E (aJ E Fi rfl) rfl λa E=>?_));refine st0 E (dc E hS ty4 Fd rfl rfl cI (i:=0) rfl ha0) ?_;rintro _ w ⟨cs8,hc9,hS⟩ E;refine ag (ae (ah (qM E rfl λa E=>?_)));obtain⟨z12,hz13,h⟩:=ob h;refine st E (rH (k:=(ai .u64)) (m:=m) E hS rfl rfl underlying189 type54 rfl rfl rfl (λm=>Nl m) hz13 rfl rfl) rfl ?_;rintro v17 a w ⟨b14,cs15,hc16,hS⟩ E;refine qA E rfl λa E=>ag ?_;obtain⟨m19,hm20,hS,hv21⟩:=S.freeze hS hc16;refine bp ?_;obtain rfl:=oi h
 try dsimp only
 refine f1 E ?_;exact⟨_,hm20,cs8,hS,(i6.mono hm20 hc9),hv21⟩}
 {
 have h:=aC hd4 h;refine aP (ae (ah (qM E rfl λa E=>qM E rfl λa E=>qM E rfl λa E=>qB E rfl rfl (q8 rfl) λa E=>qB E rfl rfl (bn rfl) λa E=>qB E rfl rfl (xu rfl (by decide)) λa E=>?_)));obtain⟨r28,hr29,h⟩:=ob h;refine st E (aA (vs:=[(pz b0_),(.int .i64 (Z1.wrap ((Z1.wrap ((Z1.wrap (p1*p2))+7)).tdiv 8)))]) E rfl call165 (vx (hS:=hS) ha0 (aq _ _) hr29)) rfl ?_;rintro v35 a w ⟨m30,hm31,c0_32,hS,hc0_33,hv34⟩ E;refine qA E rfl λa E=>ag (ae (ah (qM E rfl λa E=>?_)));obtain⟨z38,hz39,h⟩:=ob h
 refine st E (rH (k:=(ai .u64)) (m:=m30) E hS rfl rfl underlying189 type54 rfl rfl rfl (λm=>Nl m) hz39 rfl rfl) rfl ?_;rintro v43 a w ⟨b40,cs41,hc42,hS⟩ E;refine qA E rfl λa E=>ag (ae (ae (ah (qM E rfl λa E=>sp E (oR (k:=(ai .u64)) E rfl rfl underlying189 hc42) rfl λa E=>qM E rfl λa E=>ag ?_))));refine bL (λa w=>∃x50:(List Int),fT r28 x50=some r∧∃m',M.le m30 m'∧∃(v51:Value),RV (kSl (ai .u64)) m' v51 x50∧S W0 m' w ((b0_,c0_32)::L) (TL)∧Env 63 a [(8,v51)]) ?_ ?_
 {
 refine aL ?_;refine cP h (λ(s:Int×List Int) a w=>∃m',M.le m30 m'∧∃(cs61:List Value),inR .i64 s.1∧GS (ai .u64) m' b40 cs61 v43 s.2∧S W0 m' w ((b40,cs61)::(b0_,c0_32)::L) (TL)∧Env 63 a [(2,.int .i64 p2),(7,v35),(8,v43),(29,.int .i64 (z38.length:Int)),(30,.int .i64 s.1)]) ?_ ?_
 {exact⟨_,(Z2 _),cs41,(show inR .i64 0 from aw (by decide)),hc42,hS,kut E⟩}
 {
 rintro ⟨x58,x60⟩ a w ⟨m56,hm57,cs61,hr59,hc62,hS,E⟩ r63 h hb64;have h:dD p2 r28 z38 x58 x60=some r63:=h;unfold dD at h;refine ae (ah (qB E rfl rfl bw λa E=>ag (ae (kif E rfl (λhd66=>?_) (λhd66=>?_)))))
 {
 have h:=aB hd66 h;refine aP (ae ?_);refine bL (λa w=>∃x69:(List Int),fU x58 x69=some r63∧∃m',M.le m56 m'∧∃(cs70:List Value),GS (ai .u64) m' b40 cs70 v43 x69∧S W0 m' w ((b40,cs70)::(b0_,c0_32)::L) (TL)∧Env 63 a [(2,.int .i64 p2),(7,v35),(8,v43),(29,.int .i64 (z38.length:Int)),(30,.int .i64 x58)]) ?_ ?_
 {
 refine aL (ae (ah (qM E rfl λa E=>qA E rfl λa E=>ag (ae (ah (qM E rfl λa E=>qM E rfl λa E=>?_))))));refine ag (aL ?_);refine cP h (λ(s:Int×List Int) a w=>∃m',M.le m56 m'∧∃(cs84:List Value),inR .i64 s.1∧GS (ai .u64) m' b40 cs84 v43 s.2∧S W0 m' w ((b40,cs84)::(b0_,c0_32)::L) (TL)∧Env 63 a [(2,.int .i64 p2),(7,v35),(8,v43),(9,.int .i64 x58),(29,.int .i64 (z38.length:Int)),(30,.int .i64 x58),(33,.int .i64 p2),(34,.int .i64 s.1)]) ?_ ?_
 {exact⟨_,(Z2 _),cs61,(show inR .i64 0 from aw (by decide)),hc62,hS,kut E⟩}
 {
 rintro ⟨x81,x83⟩ a w ⟨m79,hm80,cs84,hr82,hc85,hS,E⟩ r86 h hb87;have h:eu p2 r28 x58 x81 x83=some r86:=h;unfold eu at h;refine ae (ah (qB E rfl rfl bw λa E=>ag (ae (kif E rfl (λhd89=>?_) (λhd89=>?_)))))
 {
 have h:=aB hd89 h;refine aP (ae (aL (ae (ah (qM E rfl λa E=>qA E rfl λa E=>ag (ae (ah ?_)))))));refine qM E rfl λa E=>qM E rfl λa E=>qB E rfl rfl (q8 rfl) λa E=>qM E rfl λa E=>qB E rfl rfl (bn rfl) λa E=>qA E rfl λa E=>ag ?_;obtain⟨j98,hj99,x101,hx102,h⟩:=ob2 h;obtain⟨x104,hx105,u109,hu110,h⟩:=ob2 h;obtain⟨u111,hu112,h⟩:=ob h
 refine kch (k:=16) (m:=m79) (es:=[]) (Φ:=(λi m ws v=>match i with|0=>v=v43|1=>ei .i64 x58 v|2=>v=(.pointer (some ⟨b40,j98*1,none⟩))|3=>ei .u64 x101 v|4=>v=v35|5=>ei .i64 (Z1.wrap ((Z1.wrap (x58*p2))+x81)) v|6=>ei .i64 (Z1.wrap ((Z1.wrap ((Z1.wrap (x58*p2))+x81)).tdiv 8)) v|7=>PR (ai .u8) m v x104|8=>ei .u8 x104 v|9=>ei .i64 (Z1.wrap ((Z1.wrap (x58*p2))+x81)) v|10=>ei .i64 ((Z1.wrap ((Z1.wrap (x58*p2))+x81)).tmod 8) v|11=>ei .u8 (aF .u8 x104 ((Z1.wrap ((Z1.wrap (x58*p2))+x81)).tmod 8)) v|12=>ei .u8 (dm .u8 (aF .u8 x104 ((Z1.wrap ((Z1.wrap (x58*p2))+x81)).tmod 8)) 1) v|13=>ei .u64 (Z3.wrap (dm .u8 (aF .u8 x104 ((Z1.wrap ((Z1.wrap (x58*p2))+x81)).tmod 8)) 1)) v|14=>ei .i64 x81 v|15=>ei .u64 (ew .u64 (Z3.wrap (dm .u8 (aF .u8 x104 ((Z1.wrap ((Z1.wrap (x58*p2))+x81)).tmod 8)) 1)) x81) v|_=>True)) (Q:=(λc m ws L' TL'=>match c with|0=>(b40,cs84)::(b0_,c0_32)::L=L'∧TL=TL'|_=>False)) (cs:=[⟨0,0,false,[(8,v43)]⟩,⟨0,0,false,[(9,.int .i64 x58)]⟩,⟨0,0,false,[]⟩,⟨0,0,false,[]⟩,⟨0,0,false,[(7,v35)]⟩,⟨0,0,false,[(11,.int .i64 (Z1.wrap ((Z1.wrap (x58*p2))+x81)))]⟩,⟨0,0,false,[]⟩,⟨0,0,false,[]⟩,⟨0,0,false,[]⟩,⟨0,0,false,[(11,.int .i64 (Z1.wrap ((Z1.wrap (x58*p2))+x81)))]⟩,⟨0,0,false,[]⟩,⟨0,0,false,[]⟩,⟨0,0,false,[]⟩,⟨0,0,false,[]⟩,⟨0,0,false,[(10,.int .i64 x81)]⟩,⟨0,0,false,[]⟩]) mixed E hS ⟨rfl,rfl⟩ rfl rfl (by kernel_rfl) ?_ ?_ ?_ ?_
 {
 intro i m_ m2_ ws v n_ q_
 iterate 16 (rcases i with _|i;first|exact q_|exact PR.mono q_ n_)
 exact trivial}
 {
 intro c m_ m2_ ws L_ T_ n_ hq_
 match c,hq_ with
 |0,⟨e1_,e2_⟩=>exact⟨e1_,e2_⟩
 |_+1,hq_=>exact hq_.elim}
 {
 refine⟨?_,?_,?_,?_,?_,?_,?_,?_,?_,?_,?_,?_,?_,?_,?_,?_,trivial⟩
 {exact cmv λ_ _=>rfl}
 {exact cmv λ_ _=>⟨rfl,hr59⟩}
 {refine cp1 λ_ _ _ _ _ M' Q' Z' E' T'=>?_;obtain⟨rfl,rfl⟩:=Q';have E:=(E'.add (T' 0)).add (T' 1).1;exact cq (bM (k:=(ai .u64)) E rfl rfl underlying189 sizeOf54 (hc85.mono M') hj99 rfl) Z' rfl}
 {refine cp1 λ_ _ _ _ _ M' Q' Z' E' T'=>?_;obtain⟨rfl,rfl⟩:=Q';have E:=E'.add (T' 2);exact cr (aD E Z' yU rfl (i:=0) rfl (GS.elem (hc85.mono M') hx102)) Z' λ_ h=>aI h}
 {exact cmv λ_ _=>rfl}
 {exact cmv λ_ _=>⟨rfl,(aq _ _)⟩}
 {refine cp0 λ_ _ _ _ _ _ _ _ _ Z' E' T'=>?_;have E:=E'.add (T' 5).1;exact cq (aR E rfl rfl (xu rfl (by decide))) Z' ⟨rfl,(aq _ _)⟩}
 {refine cp0 λ_ _ _ _ _ _ _ M' _ Z' E' T'=>?_;have E:=(E'.add (T' 4)).add (T' 6).1;exact cr (dW (k:=(ai .u8)) E rfl rfl underlying24 sizeOf5 (hv34.mono (Jj hm57 (Jj hm80 M'))) hx105) Z' λ_ h=>h}
 {
 refine cp0 λ_ _ _ m' a' _ _ _ _ Z' E' T'=>?_;obtain⟨v143,e144,q145⟩:∃v,a'.tmps.getD 49 undef=v∧(PR (ai .u8) m' v x104):=⟨_,rfl,T' 7⟩
 have E:=E'.add (e144);exact cr (bg E Z' ty5 rfl q145) Z' λ_ h=>aI h}
 {exact cmv λ_ _=>⟨rfl,(aq _ _)⟩}
 {refine cp0 λ_ _ _ _ _ _ _ _ _ Z' E' T'=>?_;obtain⟨q151,hr152⟩:=T' 9;have E:=E'.add q151;exact cq (aR E rfl rfl (Ch rfl (by decide))) Z' ⟨rfl,(xt hr152)⟩}
 {refine cp0 λ_ _ _ _ _ _ _ _ _ Z' E' T'=>?_;obtain⟨q156,hr157⟩:=T' 8;have E:=(E'.add q156).add (T' 10).1;exact cq (aR E rfl rfl (qa rfl (of_decide_eq_true (jS hu110)))) Z' ⟨rfl,(xr hr157 _)⟩}
 {refine cp0 λ_ _ _ _ _ _ _ _ _ Z' E' T'=>?_;have E:=E'.add (T' 11).1;exact cq (aR E rfl rfl (Fl rfl)) Z' ⟨rfl,(Ez _ _ _)⟩}
 {refine cp0 λ_ _ _ _ _ _ _ _ _ Z' E' T'=>?_;have E:=E'.add (T' 12).1;exact cq (dE E rfl underlying5 underlying54 rfl) Z' ⟨rfl,(aq _ _)⟩}
 {exact cmv λ_ _=>⟨rfl,hr82⟩}
 {refine cp0 λ_ _ _ _ _ _ _ _ _ Z' E' T'=>?_;have E:=(E'.add (T' 13).1).add (T' 14).1;exact cq (aR E rfl rfl (y7 rfl (of_decide_eq_true (jS hu112)))) Z' ⟨rfl,(ua _ _ _)⟩}}
 {
 intro ws_ L_ T_ m183 a w hl184 hm185 hq186 hS hd187 hn188 ho189 hT190;obtain rfl:=d3 hl184;obtain⟨rfl,rfl⟩:=hq186;have E:=eof 16 [(2,.int .i64 p2),(7,v35),(8,v43),(9,.int .i64 x58),(10,.int .i64 x81),(11,.int .i64 (Z1.wrap ((Z1.wrap (x58*p2))+x81))),(29,.int .i64 (z38.length:Int)),(30,.int .i64 x58),(33,.int .i64 p2),(34,.int .i64 x81),(35,.bool (decide (x81<p2))),(36,.int .i64 x81),(37,.int .i64 x58),(38,.int .i64 p2),(39,.int .i64 (Z1.wrap (x58*p2))),(40,.int .i64 x81),(41,.int .i64 (Z1.wrap ((Z1.wrap (x58*p2))+x81)))] hd187 hn188 ho189
 have E:=(((E.add (hT190 0)).add (hT190 1).1).add (hT190 3).1).add (hT190 15).1;refine qB E rfl rfl (In rfl) λa E=>?_;obtain⟨j207,hj208,h⟩:=ob h;refine sp E (bM (k:=(ai .u64)) E rfl rfl underlying189 sizeOf54 (hc85.mono hm185) hj208 rfl) rfl λa E=>?_;obtain⟨x212,hx213,h⟩:=ob h;refine st0 E (eX (k:=(ai .u64)) E hS yU bq (hc85.mono hm185) hx213 rfl rfl (au (Cy _ _ _)) (i:=0) rfl) ?_;rintro _ w ⟨cs210,hc211,hS⟩ E;refine ag (ah (qB E rfl rfl (bn rfl) λa E=>qM E rfl λa E=>ag ?_))
 exact⟨(Z1.wrap (x81+1),(x83.set j207 (bOr .u64 x101 (ew .u64 (Z3.wrap (dm .u8 (aF .u8 x104 ((Z1.wrap ((Z1.wrap (x58*p2))+x81)).tmod 8)) 1)) x81)))),(Option.some.inj h).symm,_,(Jj hm80 hm185),cs210,(aq _ _),hc211,hS,kut E⟩}}
 {have h:=aC hd89 h;refine cL rfl rfl ?_;have h:=bH h hb87;exact⟨x83,h,_,hm80,cs84,hc85,hS,kut E⟩}}}
 {rintro a w ⟨x69,h,m67,hm68,cs70,hc71,hS,E⟩;unfold fU at h;refine ah (qB E rfl rfl (bn rfl) λa E=>qM E rfl λa E=>ag ?_);exact⟨(Z1.wrap (x58+1),x69),(Option.some.inj h).symm,_,(Jj hm57 hm68),cs70,(aq _ _),hc71,hS,kut E⟩}}
 {have h:=aC hd66 h;obtain⟨m217,hm218,hS,hv219⟩:=S.freeze hS hc62;refine cL rfl rfl ?_;have h:=bH h hb64;exact⟨x60,h,_,(Jj hm57 hm218),v43,hv219,hS,kut E⟩}}}
 {
 rintro a w ⟨x50,h,m48,hm49,v51,hv52,hS,E⟩;unfold fT at h;refine ae (ah (qM E rfl λa E=>qA E rfl λa E=>ag (bp ?_)));obtain rfl:=oi h
 try dsimp only
 refine f1 E ?_;exact⟨_,(Jj hm31 hm49),c0_32,hS,(i6.mono hm49 hc0_33),hv52⟩}}
theorem Po:Ctr Sz prog 169 [.pt (.st 161),.rd (.int .i64),.rd (.int .i64)] [.rd (.sl (.int .u64))] (λx=>dz x.1 x.2.1 x.2.2.1):=by
 intro W0 m w L TL vs x r Lp Tp hS hP h;obtain⟨b0,c0,vs,Lp,rfl,rfl,a0,hP0⟩:=PK hP;obtain⟨v1,vs,rfl,a1,hP1⟩:=kL hP0;obtain⟨rfl,n1⟩:=aI a1;obtain⟨v2,vs,rfl,a2,hP2⟩:=kL hP1;obtain⟨rfl,n2⟩:=aI a2;obtain⟨rfl,rfl,rfl⟩:=oT hP2;refine rm (sE (hS:=hS) a0 n1 n2 h) λv w' he=>?_;obtain⟨m',hm,q0,Z',o0,r0⟩:=he;exact⟨m',[v],[],[(b0,q0)],[],hm,Z',rfl,⟨r0,trivial⟩,⟨rfl,o0,trivial⟩⟩
def Pp:=mC Po call169
theorem Pq:Ctr Sz prog 120 [.pt (.st 161),.rd (.int .i64),.rd (.int .i64)] [.ap (.st 32)] (fun x=>bU x.1 x.2.1 x.2.2.1):=
 ncR [Ai,OQ,Pa,Ee,Ph,Pj,Pn,Pp] [6] func120 ntmps120 (.s .o (.s .o (.s (.s .o (.b (.s .o (.i (.b (.l ⟨[.v 7 1 (.dat (.sl (.st 32)) (some 0)),.b 0 1 (.st 161)],[0,2],1,[4]⟩ .o)) (.s .o (.i (.b (.l ⟨[.v 7 1 (.dat (.sl (.st 32)) (some 0)),.b 0 1 (.st 161)],[0,2],1,[4]⟩ .o)) (.s .o (.i (.s .o (.s .o (.b (.l ⟨[.v 7 1 (.dat (.sl (.st 32)) (some 1)),.v 9 1 (.dat (.int .i64) none),.b 0 1 (.st 161)],[0,2],1,[4,4]⟩ .o)))) (.s .o (.i (.s .o (.s (.s .o (.b (.l ⟨[.v 11 1 (.dat (.sl (.st 32)) (some 0)),.v 131 1 (.dat (.int .u8) none),.b 0 1 (.st 161)],[0,2,7,130],1,[4]⟩ .o))) (.s .o (.b (.l ⟨[.v 7 1 (.dat (.sl (.st 32)) (some 1)),.v 149 1 (.dat (.int .i64) none)],[11,147,148],1,[4,4]⟩ .o))))) (.s .o (.s .o (.b (.l ⟨[.v 7 1 (.dat (.sl (.st 32)) (some 0)),.v 29 1 (.dat (.int .i64) none)],[14,27,28],1,[4]⟩ .o)))))))))))))) .o))) λx=>by kernel_rfl
def Pr:=mC Pq call120
theorem QT:Ctr Sz prog 62 [.rd (.int .i64),.rd (.sl (.int .u8)),.rd (.int .i64)] [.rd (.sl (.st 32)),.rd (.int .i64)] (fun x=>lr x.1 x.2.1 x.2.2.1):=
 ncR [Ct,QS,Pr] [6,7] func62 ntmps62 .o λx=>by kernel_rfl
theorem Ao  (hS:S W0 m w L TL) {p0} (ha0:inR .i64 p0) {p1} (ha1:RV (kSl (ai .u8)) m v1 p1) {p2} (ha2:inR .i64 p2) {r} (h:lr p0 p1 p2=some r):
    Calls prog 62 [(.int .i64 p0),v1,(.int .i64 p2)].toArray w (Ret λv w'=>∃m',M.le m m'∧S W0 m' w' L TL∧∃v0_ v1_:Value,v= .tuple #[v0_,v1_]∧RV (kSl kAp) m' v0_ r.1∧RV (ai .i64) m' v1_ r.2):=by
 refine rm (QT W0 m w L TL [(.int .i64 p0),v1,(.int .i64 p2)] (p0,p1,p2,()) r [] [] hS ⟨au ha0,⟨ha1,⟨au ha2,trivial⟩⟩⟩ h) λv w' he=>?_;obtain⟨m',us,Lr,Lq,Tr,hm,Z',rfl,hR,hO⟩:=he;obtain⟨u0,us,rfl,r0,hR0⟩:=cZ hR;obtain⟨u1,us,rfl,r1,hR1⟩:=cZ hR0;obtain⟨rfl,rfl,rfl⟩:=cl hR1;have hO0:=bG hO;have hO1:=bG hO0;have hO2:=bG hO1;obtain rfl:=cm hO2;exact⟨m',hm,Z',u0,u1,rfl,r0,r1⟩
theorem Ef  (hS:S W0 m w L TL) {p0} (ha0:RV (kSl (ai .u8)) m v0 p0) {r} (h:kY p0=some r):
    Calls prog 21 [v0].toArray w (Ret λv w'=>∃m',M.le m m'∧S W0 m' w' L TL∧∃v0_ v1_ v2_:Value,v= .tuple #[v0_,v1_,v2_]∧RV (kSl kAp) m' v0_ r.1∧RV (ai .i64) m' v1_ r.2.1∧RV (ai .i64) m' v2_ r.2.2):=by
 refine kc func21 ntmps21 λa E=>?_;have E:Env 71 a [(0,v0)]:=E;unfold kY at h;refine ae (ah (qA E rfl λa E=>qA E rfl λa E=>qA E rfl λa E=>ag (ae (ah (qM E rfl λa E=>?_)))));obtain⟨r5,hr6,h⟩:=ob h;refine st E (aA (vs:=[v0]) E rfl call57 (Ed (hS:=hS) ha0 hr6)) rfl ?_;rintro _ a w ⟨m7,hm8,hS,v0_9,v1_10,v2_11,rfl,hv0_12,hv1_13,hv2_14⟩ E;obtain rfl:=ef hv2_14;refine qM E rfl λa E=>sp E (bE E rfl rfl) rfl λa E=>sp E (bE E rfl rfl) rfl λa E=>sp E (bE E rfl rfl) rfl λa E=>?_;refine st E (dp hS zeroValue34 rfl (cs:=vn)) rfl ?_;rintro _ a w ⟨b20,rfl,hS⟩ E
 refine st0 E (dc E hS yW bq rfl rfl hv0_12 (i:=0) rfl (yV _)) ?_;rintro _ w ⟨cs22,hc23,hS⟩ E;refine qA E rfl λa E=>qA E rfl λa E=>ag (ae (ae (ah (qM E rfl λa E=>sp E (j9 E rfl) rfl λa E=>ag (kif E rfl (λhd29=>?_) (λhd29=>?_))))))
 {
 have h:=aB hd29 h;refine ae (ah (qA E rfl λa E=>qA E rfl λa E=>qA E rfl λa E=>ag (bp ?_)));obtain rfl:=oi h
 try dsimp only
 refine Fin.mk E (rs:=[.tmp 2,.tmp 3,.tmp 4]) rfl (rG.tmp E rfl (rG.tmp E rfl (rG.tmp E rfl rG.nil))) ?_;exact⟨_,hm8,(hS.dropL 1),_,_,_,rfl,dF,(au (show inR .i64 0 from aw (by decide))),(au (show inR .i64 70 from aw (by decide)))⟩}
 {
 have h:=aC hd29 h;refine aP (ae (ah (qM E rfl λa E=>sp E (aJ E Af rfl) rfl λa E=>?_)));refine st E (aD E hS ty3 rfl (i:=0) rfl (MN.R_drop (aQ hc23))) rfl ?_;rintro v36 a _ ⟨rfl,hv35⟩ E;obtain⟨rfl,hr37⟩:=aI hv35;refine qB E rfl rfl (cY rfl) λa E=>?_;obtain⟨x39,hx40,h⟩:=ob h;refine st E (dq (k:=(ai .u8)) E rfl underlying24 sizeOf5 (ha0.mono hm8) rfl ⟨_,rfl⟩ hx40 (xl:=none) (xh:=(some (.tmp 23)))) rfl ?_;rintro v42 a _ ⟨rfl,hv41⟩ E;obtain⟨r43,hr44,h⟩:=ob h;refine st E (aA (vs:=[v42]) E rfl call60 (vN (hS:=hS) hv41 hr44)) rfl ?_;rintro v48 a w ⟨m45,hm46,hS,hv47⟩ E
 refine qA E rfl λa E=>ag (ae (ae ?_));obtain⟨r50,hr51,x58,hx59,h⟩:=ob2 h
 refine kch (k:=6) (m:=m45) (es:=[1]) (Φ:=(λi m ws v=>match i with|0=>v=v48|1=>v=(wi ws 0).v∧RV (kSl (ai .u8)) m v r50|2=>v=v0|3=>v=(.pointer (some ⟨b20,11,none⟩))|4=>ei .i64 r5.1.fBytes v|5=>RV (kSl (ai .u8)) m v x58|_=>True)) (Q:=(λc m ws L' TL'=>match c with|0=>(b20,cs22)::L=L'∧(1,v48)::TL=TL'|1=>(b20,cs22)::L=L'∧(1,(wi ws 0).v)::TL=TL'|_=>False)) (cs:=[⟨0,0,false,[(8,v48)]⟩,⟨0,0,true,[]⟩,⟨0,1,false,[(0,v0)]⟩,⟨0,1,false,[(5,pz b20)]⟩,⟨0,1,false,[]⟩,⟨0,1,false,[]⟩]) mixed E hS ⟨rfl,rfl⟩ rfl rfl (by kernel_rfl) ?_ ?_ ?_ ?_
 {
 intro i m_ m2_ ws v n_ q_
 iterate 6 (rcases i with _|i;first|exact q_|exact RV.mono q_ n_|exact⟨q_.1,RV.mono q_.2 n_⟩)
 exact trivial}
 {
 intro c m_ m2_ ws L_ T_ n_ hq_
 match c,hq_ with
 |0,⟨e1_,e2_⟩=>exact⟨e1_,e2_⟩
 |1,⟨e1_,e2_⟩=>exact⟨e1_,e2_⟩
 |_+2,hq_=>exact hq_.elim}
 {
 refine⟨?_,?_,?_,?_,?_,?_,trivial⟩
 {exact cmv λ_ _=>rfl}
 {refine q9 λpre_ L_ T_ m' a' w' hl' M' Q' Z' E' T'=>?_;obtain rfl:=d3 hl';obtain⟨rfl,rfl⟩:=Q';have E:=E'.add (T' 0 (by decide) 26 rfl);refine bh.imp (aA (vs:=[v48]) E rfl call50 (Bk (hS:=Z') (hv47.mono M') hr51)) ?_;rintro vv55 w ⟨m52,hm53,hS,hv54⟩;exact⟨_,⟨0,vv55,[],[],[]⟩,_,_,hm53,hS,⟨rfl,rfl⟩,⟨rfl,hv54⟩⟩}
 {exact cmv λ_ _=>rfl}
 {refine cp0 λ_ _ _ _ _ _ _ _ _ Z' E' _=>?_;exact cq (aJ E' Af rfl) Z' rfl}
 {
 refine cp0 λ_ _ _ _ _ _ P' M' Q' Z' E' T'=>?_;rcases PG (a:=0) (n:=0) P' with h0_|h0_
 {obtain rfl:=d3 h0_;obtain⟨rfl,rfl⟩:=Q';have E:=E'.add (T' 3);exact cr (aD E Z' ty3 rfl (i:=0) rfl (MN.R_drop (aQ (cW.mono (Jj hm46 M') hc23)))) Z' λ_ h=>aI h}
 {obtain⟨⟨_,vv55,_,_,_⟩,post_',rfl,hp1_⟩:=h0_;obtain rfl:=d3 (Q9 (a:=0) hp1_);obtain⟨rfl,rfl⟩:=Q';have E:=E'.add (T' 3);exact cr (aD E Z' ty3 rfl (i:=0) rfl (MN.R_drop (aQ (cW.mono (Jj hm46 M') hc23)))) Z' λ_ h=>aI h}}
 {refine cp0 λ_ _ _ _ _ _ _ M' _ Z' E' T'=>?_;have E:=(E'.add (T' 2)).add (T' 4).1;exact cr (dq (k:=(ai .u8)) E rfl underlying24 sizeOf5 (ha0.mono (Jj hm8 (Jj hm46 M'))) rfl ⟨_,rfl⟩ hx59 (xl:=none) (xh:=(some (.tmp 30)))) Z' λ_ h=>h}}
 {
 intro ws_ L_ T_ m85 a w hl86 hm87 hq88 hS hd89 hn90 ho91 hT92;obtain⟨⟨_,vv55,_,_,_⟩,rfl⟩:=tw hl86;obtain⟨rfl,rfl⟩:=hq88;have E:=eof 6 [(0,v0),(2,.slice none 0 0),(3,.int .i64 0),(4,.int .i64 0),(5,pz b20),(6,v1_10),(7,.bool r5.2.2),(8,v48),(12,(.tuple #[v0_9,v1_10,(.bool r5.2.2)])),(13,v0),(14,(.tuple #[v0_9,v1_10,(.bool r5.2.2)])),(15,v0_9),(16,v1_10),(17,.bool r5.2.2),(18,.bool r5.2.2),(19,.bool (!r5.2.2)),(20,v0),(21,.pointer (some ⟨b20,11,none⟩)),(22,.int .i64 r5.1.fBytes),(23,.int .i64 (Z1.wrap (r5.1.fBytes - 4))),(24,v42),(25,v48)] hd89 hn90 ho91
 obtain⟨v93,e94,q95⟩:∃v,a.tmps.getD 27 undef=v∧(v=vv55∧RV (kSl (ai .u8)) m85 v r50):=⟨_,rfl,hT92 1⟩
 obtain⟨q96,q95⟩:=q95;rw[q96] at q95;have E:=E.add (e94.trans q96);obtain⟨v97,E,q99⟩:=adv E (hT92 5);obtain⟨r100,hr101,h⟩:=ob h;refine st E (aA (vs:=[vv55,v97]) E rfl call61 (vO (hS:=hS) q95 q99 hr101)) rfl ?_;rintro v105 a w ⟨m102,hm103,hS,hv104⟩ E;obtain rfl:=ef hv104;refine sp E (j9 E rfl) rfl λa E=>ag (kif E rfl (λhd107=>?_) (λhd107=>?_))
 {
 have h:=aB hd107 h;refine ae (ah (qA E rfl λa E=>qA E rfl λa E=>qA E rfl λa E=>ag (bp ?_)));obtain rfl:=oi h
 try dsimp only
 refine Fin.mk E (rs:=[.tmp 2,.tmp 3,.tmp 4]) rfl (rG.tmp E rfl (rG.tmp E rfl (rG.tmp E rfl rG.nil))) ?_;exact⟨_,(Jj hm8 (Jj hm46 (Jj hm87 hm103))),((hS.dropL 1).dropT 1),_,_,_,rfl,dF,(au (show inR .i64 0 from aw (by decide))),(au (show inR .i64 71 from aw (by decide)))⟩}
 {
 have h:=aC hd107 h;refine aP (ae (ah (sp E (aJ E D3 rfl) rfl λa E=>?_)));refine st E (aD E hS ty3 rfl (i:=0) rfl (MI.R_drop (aQ (cW.mono (Jj hm46 (Jj hm87 hm103)) hc23)))) rfl ?_;rintro v113 a _ ⟨rfl,hv112⟩ E;obtain⟨rfl,hr114⟩:=aI hv112;refine qM E rfl λa E=>sp E (aJ E HY rfl) rfl λa E=>?_;refine st E (aD E hS ty3 rfl (i:=0) rfl (MJ.R_drop (aQ (cW.mono (Jj hm46 (Jj hm87 hm103)) hc23)))) rfl ?_;rintro v118 a _ ⟨rfl,hv117⟩ E;obtain⟨rfl,hr119⟩:=aI hv117;obtain⟨r120,hr121,h⟩:=ob h
 refine st E (aA (vs:=[(.int .i64 r5.1.fKind),v1_10,(.int .i64 r5.1.fMany)]) E rfl call62 (Ao (hS:=hS) hr114 (hv1_13.mono (Jj hm46 (Jj hm87 hm103))) hr119 hr121)) rfl ?_;rintro _ a w ⟨m122,hm123,hS,v0_124,v1_125,rfl,hv0_126,hv1_127⟩ E;obtain⟨rfl,hr129⟩:=aI hv1_127;refine qM E rfl λa E=>sp E (bE E rfl rfl) rfl λa E=>sp E (bE E rfl rfl) rfl λa E=>qA E rfl λa E=>qA E rfl λa E=>ag (ae (ae (ah (qM E rfl λa E=>?_))));refine qB E rfl rfl lS λa E=>ag (kif E rfl (λhd137=>?_) (λhd137=>?_))
 {
 have h:=aB hd137 h;refine ae (ah (qA E rfl λa E=>qA E rfl λa E=>qA E rfl λa E=>ag (bp ?_)));obtain rfl:=oi h
 try dsimp only
 refine Fin.mk E (rs:=[.tmp 2,.tmp 3,.tmp 4]) rfl (rG.tmp E rfl (rG.tmp E rfl (rG.tmp E rfl rG.nil))) ?_;exact⟨_,(Jj hm8 (Jj hm46 (Jj hm87 (Jj hm103 hm123)))),((hS.dropL 1).dropT 1),_,_,_,rfl,dF,(au (show inR .i64 0 from aw (by decide))),(au (show inR .i64 70 from aw (by decide)))⟩}
 {
 have h:=aC hd137 h;refine aP (ae (ah (sp E (aJ E D3 rfl) rfl λa E=>?_)));refine st E (aD E hS ty3 rfl (i:=0) rfl (MI.R_drop (aQ (cW.mono (Jj hm46 (Jj hm87 (Jj hm103 hm123))) hc23)))) rfl ?_;rintro v143 a _ ⟨rfl,hv142⟩ E;obtain⟨rfl,hr144⟩:=aI hv142;refine qM E rfl λa E=>?_;obtain⟨r146,hr147,h⟩:=ob h;refine st E (aA (vs:=[(.int .i64 r5.1.fKind),v0_124]) E rfl call48 (xg (hS:=hS) hr144 hv0_126 hr147)) rfl ?_;rintro v151 a w ⟨m148,hm149,hS,hv150⟩ E;refine st E (dp hS zeroValue34 rfl (cs:=vn)) rfl ?_;rintro _ a w ⟨b152,rfl,hS⟩ E
 refine st0 E (dc E hS yW bq rfl rfl hv150 (i:=0) rfl (yV _)) ?_;rintro _ w ⟨cs154,hc155,hS⟩ E;refine ag (ae (ae ?_));refine bL (λa w=>∃x159:Bool,jC r5 r120 x159=some r∧∃m',M.le m148 m'∧S W0 m' w ((b152,cs154)::(b20,cs22)::L) (TL)∧Env 71 a [(5,pz b20),(9,v0_124),(67,.bool x159)]) ?_ ?_
 {
 refine ah (sp E (aJ E xb rfl) rfl λa E=>?_);refine st E (aD E hS ty3 rfl (i:=0) rfl (MM.R_drop (aQ hc155))) rfl ?_;rintro v197 a _ ⟨rfl,hv196⟩ E;obtain⟨rfl,hr198⟩:=aI hv196;refine sp E (aJ E xb rfl) rfl λa E=>?_;refine st E (aD E hS ty3 rfl (i:=1) rfl (MM.R_drop (aQ (cW.mono (Jj hm46 (Jj hm87 (Jj hm103 (Jj hm123 hm149)))) hc23)))) rfl ?_;rintro v201 a _ ⟨rfl,hv200⟩ E;obtain⟨rfl,hr202⟩:=aI hv200;refine qB E rfl rfl lS λa E=>qM E rfl λa E=>?_;rcases Z0 (r146.fNulls != r5.1.fNulls) with hd205|hd205
 {have h:=aB hd205 h;refine qX E hd205 λa E=>qX E hd205 λa E=>qX E hd205 λa E=>qX E hd205 λa E=>qX E hd205 λa E=>qT E hd205 rfl λa E=>qM E rfl λa E=>qX E rfl λa E=>qX E rfl λa E=>qX E rfl λa E=>?_;refine qX E rfl λa E=>qX E rfl λa E=>qT E rfl rfl λa E=>ag ?_;exact⟨true,h,_,(Z2 _),(hS.pickT 1 [] rfl rfl rfl),kut E⟩}
 {
 have h:=aC hd205 h;refine spg E rfl rfl rfl rfl hd205 (aJ E D1 rfl) rfl λa E=>?_;refine stg E rfl rfl rfl rfl hd205 (aD E hS fh rfl (i:=0) rfl (MK.R_drop (aQ hc155))) rfl ?_;rintro v211 a _ ⟨rfl,hv210⟩ E;refine spg E rfl rfl rfl rfl hd205 (aJ E D1 rfl) rfl λa E=>?_;refine stg E rfl rfl rfl rfl hd205 (aD E hS fh rfl (i:=1) rfl (MK.R_drop (aQ (cW.mono (Jj hm46 (Jj hm87 (Jj hm103 (Jj hm123 hm149)))) hc23)))) rfl ?_;rintro v214 a _ ⟨rfl,hv213⟩ E;refine spg E rfl rfl rfl rfl hd205 (vU E Bg rfl rfl hv210 hv213 rfl) rfl λa E=>qF E hd205 rfl λa E=>qM E rfl λa E=>?_
 rcases Z0 (!decide (r146.fMin=r5.1.fMin)) with hd218|hd218
 {have h:=aB hd218 h;refine qX E hd218 λa E=>qX E hd218 λa E=>qX E hd218 λa E=>qX E hd218 λa E=>qX E hd218 λa E=>qT E hd218 rfl λa E=>ag ?_;exact⟨true,h,_,(Z2 _),(hS.pickT 1 [] rfl rfl rfl),kut E⟩}
 {
 have h:=aC hd218 h;refine spg E rfl rfl rfl rfl hd218 (aJ E D2 rfl) rfl λa E=>?_;refine stg E rfl rfl rfl rfl hd218 (aD E hS fh rfl (i:=0) rfl (ML.R_drop (aQ hc155))) rfl ?_;rintro v222 a _ ⟨rfl,hv221⟩ E;refine spg E rfl rfl rfl rfl hd218 (aJ E D2 rfl) rfl λa E=>?_;refine stg E rfl rfl rfl rfl hd218 (aD E hS fh rfl (i:=1) rfl (ML.R_drop (aQ (cW.mono (Jj hm46 (Jj hm87 (Jj hm103 (Jj hm123 hm149)))) hc23)))) rfl ?_;rintro v225 a _ ⟨rfl,hv224⟩ E;refine spg E rfl rfl rfl rfl hd218 (vU E Bg rfl rfl hv221 hv224 rfl) rfl λa E=>qF E hd218 rfl λa E=>ag ?_
 exact⟨(!decide (r146.fMax=r5.1.fMax)),h,_,(Z2 _),(hS.pickT 1 [] rfl rfl rfl),kut E⟩}}}
 {
 rintro a w ⟨x159,h,m157,hm158,hS,E⟩;unfold jC at h;refine kif E rfl (λhd161=>?_) (λhd161=>?_)
 {
 have h:=aB hd161 h;refine ae (ah (qA E rfl λa E=>qA E rfl λa E=>qA E rfl λa E=>ag (bp ?_)));obtain rfl:=oi h
 try dsimp only
 refine Fin.mk E (rs:=[.tmp 2,.tmp 3,.tmp 4]) rfl (rG.tmp E rfl (rG.tmp E rfl (rG.tmp E rfl rG.nil))) ?_;exact⟨_,(Jj hm8 (Jj hm46 (Jj hm87 (Jj hm103 (Jj hm123 (Jj hm149 hm158)))))),(hS.dropL 2),_,_,_,rfl,dF,(au (show inR .i64 0 from aw (by decide))),(au (show inR .i64 70 from aw (by decide)))⟩}
 {
 have h:=aC hd161 h;refine aP (ae ?_);refine kch (k:=4) (m:=m157) (es:=[]) (Φ:=(λi m ws v=>match i with|0=>v=v0_124|1=>v=(.pointer (some ⟨b20,11,none⟩))|2=>ei .i64 r5.1.fBytes v|3=>v=v0_124|_=>True)) (Q:=(λc m ws L' TL'=>match c with|0=>(b152,cs154)::(b20,cs22)::L=L'∧TL=TL'|_=>False)) (cs:=[⟨0,0,false,[(9,v0_124)]⟩,⟨0,0,false,[(5,pz b20)]⟩,⟨0,0,false,[]⟩,⟨0,0,false,[]⟩]) mixed E hS ⟨rfl,rfl⟩ rfl rfl (by kernel_rfl) ?_ ?_ ?_ ?_
 {
 intro i m_ m2_ ws v n_ q_
 iterate 4 (rcases i with _|i;exact q_)
 exact trivial}
 {
 intro c m_ m2_ ws L_ T_ n_ hq_
 match c,hq_ with
 |0,⟨e1_,e2_⟩=>exact⟨e1_,e2_⟩
 |_+1,hq_=>exact hq_.elim}
 {
 refine⟨?_,?_,?_,?_,trivial⟩
 {exact cmv λ_ _=>rfl}
 {refine cp0 λ_ _ _ _ _ _ _ _ _ Z' E' _=>?_;exact cq (aJ E' Af rfl) Z' rfl}
 {refine cp1 λ_ _ _ _ _ M' Q' Z' E' T'=>?_;obtain⟨rfl,rfl⟩:=Q';have E:=E'.add (T' 1);exact cr (aD E Z' ty3 rfl (i:=1) rfl (MN.R_drop (aQ (cW.mono (Jj hm46 (Jj hm87 (Jj hm103 (Jj hm123 (Jj hm149 (Jj hm158 M')))))) hc23)))) Z' λ_ h=>aI h}
 {refine cp0 λ_ _ _ _ _ _ _ _ _ Z' E' T'=>?_;have E:=E'.add (T' 0);exact cq (l7 E rfl) Z' rfl}}
 {
 intro ws_ L_ T_ m178 a w hl179 hm180 hq181 hS hd182 hn183 ho184 hT185;obtain rfl:=d3 hl179;obtain⟨rfl,rfl⟩:=hq181;have E:=eof 4 [(5,pz b20),(9,v0_124),(67,.bool x159)] hd182 hn183 ho184;obtain⟨q188,hr189⟩:=hT185 2;have E:=(E.add q188).add (hT185 3);refine qA E rfl λa E=>qA E rfl λa E=>ag (bp ?_);obtain rfl:=oi h
 try dsimp only
 refine Fin.mk E (rs:=[.tmp 2,.tmp 3,.tmp 4]) rfl (rG.tmp E rfl (rG.tmp E rfl (rG.tmp E rfl rG.nil))) ?_;exact⟨_,(Jj hm8 (Jj hm46 (Jj hm87 (Jj hm103 (Jj hm123 (Jj hm149 (Jj hm158 hm180))))))),(hS.dropL 2),_,_,_,rfl,(hv0_126.mono (Jj hm149 (Jj hm158 hm180))),(au hr189),(au (show inR .i64 0 from aw (by decide)))⟩}}}}}}}
theorem y2  (hS:S W0 m w L TL) {p0} (ha0:RV (kSl (ai .u8)) m v0 p0) {p1} (ha1:inR .i64 p1) {r} (h:iY p0 p1=some r):
    Calls prog 84 [v0,(.int .i64 p1)].toArray w (Ret λv w'=>∃m',M.le m m'∧S W0 m' w' L TL∧∃v0_ v1_:Value,v= .tuple #[v0_,v1_]∧RV (kSl kAp) m' v0_ r.1∧RV cG m' v1_ r.2):=by
 refine kc func84 ntmps84 λa E=>?_;have E:Env 42 a [(0,v0),(1,.int .i64 p1)]:=E;unfold iY at h;refine ae (ah (qA E rfl λa E=>qA E rfl λa E=>ag (ae (ah (qA E rfl λa E=>ag (ae ?_))))));refine bL (λa w=>∃x6:(List Ap),kf p1 x6=some r∧∃m',M.le m m'∧∃(v7:Value),RV (kSl kAp) m' v7 x6∧S W0 m' w L ((4,v7)::TL)∧Env 42 a [(1,.int .i64 p1),(6,v7)]) ?_ ?_
 {
 refine aL ?_;refine cP h (λ(s:List Int×List Ap) a w=>∃m',M.le m m'∧∃(v20:Value),∃(v23:Value),RV (kSl (ai .u8)) m' v20 s.1∧RV (kSl kAp) m' v23 s.2∧S W0 m' w L ((4,v23)::TL)∧Env 42 a [(0,v20),(1,.int .i64 p1),(6,v23)]) ?_ ?_
 {exact⟨_,(Z2 _),v0,(.slice none 0 0),ha0,dF,(hS.tail0 4),kut E⟩}
 {
 rintro ⟨x19,x22⟩ a w ⟨m17,hm18,v20,v23,hv21,hv24,hS,E⟩ r25 h hb26;have h:iG p1 x19 x22=some r25:=h;unfold iG at h;refine ae (ae (ah (qM E rfl λa E=>sp E (aS (k:=(ai .u8)) E rfl rfl underlying24 hv21) rfl λa E=>qB E rfl rfl iM λa E=>ag (kif E rfl (λhd30=>?_) (λhd30=>?_)))))
 {
 have h:=aB hd30 h;refine aP (aL (ae (ah (qM E rfl λa E=>?_))));obtain⟨r32,hr33,h⟩:=ob h;refine st E (aA (vs:=[v20]) E rfl call21 (Ef (hS:=hS) hv21 hr33)) rfl ?_;rintro _ a w ⟨m34,hm35,hS,v0_36,v1_37,v2_38,rfl,hv0_39,hv1_40,hv2_41⟩ E;obtain⟨rfl,hr43⟩:=aI hv1_40;obtain⟨rfl,hr44⟩:=aI hv2_41;refine qM E rfl λa E=>sp E (bE E rfl rfl) rfl λa E=>sp E (bE E rfl rfl) rfl λa E=>sp E (bE E rfl rfl) rfl λa E=>qA E rfl λa E=>qA E rfl λa E=>qA E rfl λa E=>ag (ae (ae ?_))
 refine bL (λa w=>∃x54:Bool,iF x19 x22 r32 x54=some r25∧∃m',M.le m34 m'∧S W0 m' w L ((4,v23)::TL)∧Env 42 a [(0,v20),(1,.int .i64 p1),(6,v23),(7,v0_36),(8,.int .i64 r32.2.1),(30,.bool x54)]) ?_ ?_
 {
 refine ah (qM E rfl λa E=>qB E rfl rfl lS λa E=>qM E rfl λa E=>?_);rcases Z0 (r32.2.2 != 0) with hd110|hd110
 {have h:=aB hd110 h;refine qX E hd110 λa E=>qX E hd110 λa E=>qX E hd110 λa E=>qX E hd110 λa E=>qX E hd110 λa E=>qX E hd110 λa E=>qX E hd110 λa E=>qX E hd110 λa E=>qT E hd110 rfl λa E=>ag ?_;exact⟨true,h,_,(Z2 _),hS,kut E⟩}
 {
 have h:=aC hd110 h;refine qG E hd110 rfl λa E=>spg E rfl rfl rfl rfl hd110 (aS (k:=kAp) E rfl rfl underlying22 hv0_39) rfl λa E=>qG E hd110 rfl λa E=>qG E hd110 rfl λa E=>spg E rfl rfl rfl rfl hd110 (aS (k:=kAp) E rfl rfl underlying22 (hv24.mono hm35)) rfl λa E=>spg E rfl rfl rfl rfl hd110 (aR E rfl rfl (cY rfl)) rfl λa E=>spg E rfl rfl rfl rfl hd110 (y9 E rfl rfl) rfl λa E=>spg E rfl rfl rfl rfl hd110 (aR E rfl rfl lS) rfl λa E=>qF E hd110 rfl λa E=>ag ?_
 exact⟨((r32.1.length:Int) != (if (Z1.wrap (p1 - (x22.length:Int)))<64 then Z1.wrap (p1 - (x22.length:Int)) else 64)),h,_,(Z2 _),hS,kut E⟩}}
 {
 rintro a w ⟨x54,h,m52,hm53,hS,E⟩;unfold iF at h;refine kif E rfl (λhd56=>?_) (λhd56=>?_)
 {
 have h:=aB hd56 h;refine ae (ah (qA E rfl λa E=>qA E rfl λa E=>ag (bp ?_)));have h:=bH h hb26;obtain rfl:=oi h
 try dsimp only
 refine f2 E ?_;exact⟨_,(Jj hm18 (Jj hm35 hm53)),(hS.dropT 1),_,_,rfl,dF,cI⟩}
 {
 have h:=aC hd56 h;refine aP ?_;obtain⟨z59,hz60,x65,hx66,h⟩:=ob2 h
 refine kch (k:=7) (m:=m52) (es:=[2]) (Φ:=(λi m ws v=>match i with|0=>v=v23|1=>v=v0_36|2=>v=(wi ws 0).v∧RV (kSl kAp) m v z59|3=>v=v20|4=>ei .i64 r32.2.1 v|5=>RV (kSl (ai .u8)) m v x65|6=>v=(wi ws 0).v∧RV (kSl kAp) m v z59|_=>True)) (Q:=(λc m ws L' TL'=>match c with|0=>L=L'∧(4,v23)::TL=TL'|1=>L=L'∧(4,(wi ws 0).v)::TL=TL'|_=>False)) (cs:=[⟨0,0,false,[(6,v23)]⟩,⟨0,0,false,[(7,v0_36)]⟩,⟨0,0,true,[]⟩,⟨0,1,false,[(0,v20)]⟩,⟨0,1,false,[(8,.int .i64 r32.2.1)]⟩,⟨0,1,false,[]⟩,⟨1,1,false,[]⟩]) mixed E hS ⟨rfl,rfl⟩ rfl rfl (by kernel_rfl) ?_ ?_ ?_ ?_
 {
 intro i m_ m2_ ws v n_ q_
 iterate 7 (rcases i with _|i;first|exact q_|exact RV.mono q_ n_|exact⟨q_.1,RV.mono q_.2 n_⟩)
 exact trivial}
 {
 intro c m_ m2_ ws L_ T_ n_ hq_
 match c,hq_ with
 |0,⟨e1_,e2_⟩=>exact⟨e1_,e2_⟩
 |1,⟨e1_,e2_⟩=>exact⟨e1_,e2_⟩
 |_+2,hq_=>exact hq_.elim}
 {
 refine⟨?_,?_,?_,?_,?_,?_,?_,trivial⟩
 {exact cmv λ_ _=>rfl}
 {exact cmv λ_ _=>rfl}
 {refine q9 λpre_ L_ T_ m' a' w' hl' M' Q' Z' E' T'=>?_;obtain rfl:=d3 hl';obtain⟨rfl,rfl⟩:=Q';have E:=(E'.add (T' 0 (by decide) 31 rfl)).add (T' 1 (by decide) 32 rfl);refine bh.imp (jD (k:=kAp) (N:=3518437208883) E Z' rfl rfl underlying22 underlying22 DZ (i:=0) rfl (hv24.mono (Jj hm35 (Jj hm53 M'))) (hv0_39.mono (Jj hm53 M')) hz60 rfl rfl) ?_;rintro vv64 w ⟨m62,hm63,hS,hv61⟩;exact⟨_,⟨0,vv64,[],[],[]⟩,_,_,hm63,hS,⟨rfl,rfl⟩,⟨rfl,hv61⟩⟩}
 {exact cmv λ_ _=>rfl}
 {exact cmv λ_ _=>⟨rfl,hr43⟩}
 {refine cp0 λ_ _ _ _ _ _ _ M' _ Z' E' T'=>?_;have E:=(E'.add (T' 3)).add (T' 4).1;exact cr (dq (k:=(ai .u8)) E rfl underlying24 sizeOf5 (hv21.mono (Jj hm35 (Jj hm53 M'))) ⟨_,rfl⟩ rfl hx66 (xl:=(some (.tmp 35))) (xh:=none)) Z' λ_ h=>h}
 {
 refine GE λpre_ p_ L_ T_ m' a' w' hl' P' M' Q' Z' E' T'=>?_;obtain⟨⟨_,vv64,_,_,_⟩,rfl⟩:=tw hl';obtain⟨v86,e87,q88⟩:∃v,a'.tmps.getD 33 undef=v∧(v=vv64∧RV (kSl kAp) m' v z59):=⟨_,rfl,T' 2 (by decide) 33 rfl⟩
 obtain⟨q89,q88⟩:=q88;rw[q89] at q88;have E:=E'.add (e87.trans q89);refine bh.imp (aG.pure (l7 E rfl)) ?_;rintro _ _ ⟨rfl,rfl⟩;exact⟨_,Z2 _,Z',⟨rfl,q88⟩⟩}}
 {
 intro ws_ L_ T_ m91 a w hl92 hm93 hq94 hS hd95 hn96 ho97 hT98;obtain⟨⟨_,vv64,_,_,_⟩,rfl⟩:=tw hl92;obtain⟨rfl,rfl⟩:=hq94;have E:=eof 7 [(0,v20),(1,.int .i64 p1),(7,v0_36),(8,.int .i64 r32.2.1),(30,.bool x54)] hd95 hn96 ho97;obtain⟨v99,E,q101⟩:=adv E (hT98 5);obtain⟨v102,e103,q104⟩:∃v,a.tmps.getD 6 undef=v∧(v=vv64∧RV (kSl kAp) m91 v z59):=⟨_,rfl,hT98 6⟩
 obtain⟨q105,q104⟩:=q104;rw[q105] at q104;have E:=E.add (e103.trans q105);refine qA E rfl λa E=>ag ?_;exact⟨(x65,z59),(Option.some.inj h).symm,_,(Jj hm18 (Jj hm35 (Jj hm53 hm93))),v99,vv64,q101,q104,hS,kut E⟩}}}}
 {have h:=aC hd30 h;refine cL rfl rfl ?_;have h:=bH h hb26;exact⟨x22,h,_,hm18,v23,hv24,hS,kut E⟩}}}
 {
 rintro a w ⟨x6,h,m4,hm5,v7,hv8,hS,E⟩;unfold kf at h;refine ae (ah (qM E rfl λa E=>qM E rfl λa E=>sp E (aS (k:=kAp) E rfl rfl underlying22 hv8) rfl λa E=>qM E rfl λa E=>qB E rfl rfl fX λa E=>qA E rfl λa E=>qA E rfl λa E=>ag ?_));refine bp ?_;obtain rfl:=oi h
 try dsimp only
 refine f2 E ?_;exact⟨_,hm5,(hS.dropT 1),_,_,rfl,hv8,cI⟩}
def If:Kd ax:=oP (λx:ax=>(x.fColumns,x.fSort,())) (bS (ai .i64) (bS (kSl (ai .i64)) yq))
theorem Sc:Fld If (ai .i64) 0 (λx=>x.fColumns):=b9 dt
theorem Kh:dv prog 50 yq:=⟨sizeOf50,isAgg50⟩
theorem vP  {b0_ bA_:Nat} {c0_ cA_ rA_:List Value} (hS:S W0 m w ((b0_,c0_)::(bA_,cA_)::L) (tls 4 rA_++TL)) {p0} (ha0:If.R m c0_ p0) {vA_:Value} (hf0_:c0_[2]? =some vA_) {pA:List aa} (haA:GR ab 2 m bA_ cA_ vA_ pA rA_) {p1} (ha1:inR .i64 p1) {p2} (ha2:RV (kSl kAp) m v2 p2) {r} (h:iH p0 pA p1 p2=some r):
    Calls prog 85 [(pz b0_),(.int .i64 p1),v2].toArray w (Ret λv w'=>∃m',M.le m m'∧∃q1_ rq_:List Value,S W0 m' w' ((b0_,c0_)::(bA_,q1_)::L) (tls 4 rq_++TL)∧GR ab 2 m' bA_ q1_ vA_ r.2 rq_∧RV cG m' v r.1):=by
 refine kc func85 ntmps85 λa E=>?_;have E:Env 85 a [(0,pz b0_),(1,.int .i64 p1),(2,v2)]:=E;unfold iH at h;refine ae (ah (qA E rfl λa E=>ag (ae (ae (ah (qM E rfl λa E=>sp E (aS (k:=kAp) E rfl rfl underlying22 ha2) rfl λa E=>qM E rfl λa E=>?_))))));refine ag ?_;refine bL (λa w=>∃x7:(List aa),iQ x7=some r∧∃m',M.le m m'∧∃(cs8 rw8:List Value),GR ab 2 m' bA_ cs8 vA_ x7 rw8∧S W0 m' w ((b0_,c0_)::(bA_,cs8)::L) (tls 4 rw8++TL)∧Env 85 a []) ?_ ?_
 {
 refine aL ?_;refine cP h (λ(s:Int×List aa) a w=>∃m',M.le m m'∧∃(cs17 rw17:List Value),inR .i64 s.1∧GR ab 2 m' bA_ cs17 vA_ s.2 rw17∧S W0 m' w ((b0_,c0_)::(bA_,cs17)::L) (tls 4 rw17++TL)∧Env 85 a [(0,pz b0_),(1,.int .i64 p1),(10,v2),(11,.int .i64 (p2.length:Int)),(12,.int .i64 s.1)]) ?_ ?_
 {exact⟨_,(Z2 _),cA_,rA_,(show inR .i64 0 from aw (by decide)),haA,hS,kut E⟩}
 {
 rintro ⟨x14,x16⟩ a w ⟨m12,hm13,cs17,rw17,hr15,hc18,hS,E⟩ r19 h hb20;have h:dY p0 p1 p2 x14 x16=some r19:=h;unfold dY at h;refine ae (ah (qB E rfl rfl bw λa E=>ag (ae (kif E rfl (λhd22=>?_) (λhd22=>?_)))))
 {
 have h:=aB hd22 h;refine aP (ae (aL (ae (ah (qM E rfl λa E=>?_)))));obtain⟨x24,hx25,h⟩:=ob h;refine st E (dW (k:=kAp) E rfl rfl underlying22 sizeOf32 (ha2.mono hm13) hx25) rfl ?_;rintro v27 a _ ⟨rfl,hp26⟩ E;refine st E (bg E hS fh rfl hp26) rfl ?_;rintro v29 a _ ⟨rfl,hv28⟩ E;refine st E (dp hS zeroValue32 rfl (cs:=xa)) rfl ?_;rintro _ a w ⟨b30,rfl,hS⟩ E;refine qA E rfl λa E=>?_;refine st0 E (dc E hS fh bq rfl rfl hv28 (i:=0) rfl (pY _)) ?_;rintro _ w ⟨cs33,hc34,hS⟩ E
 refine ag (ae (ah (qM E rfl λa E=>sp E (cj E rfl) rfl λa E=>sp E (aJ E lN rfl) rfl λa E=>sp E (Kx E hS Kh rfl (i:=1) rfl hf0_ hc18.1.one) rfl λa E=>qM E rfl λa E=>?_)));obtain⟨j42,hj43,h⟩:=ob h;refine sp E (bM (k:=ab) E rfl rfl underlying50 sizeOf59 hc18.1 hj43 rfl) rfl λa E=>qA E rfl λa E=>ag (ae (ae ?_))
 refine bL (λa w=>∃x48:Bool,dX p0 p1 x14 x16 x24 j42 x48=some r19∧∃m',M.le m12 m'∧S W0 m' w ((b30,cs33)::(b0_,c0_)::(bA_,cs17)::L) (tls 4 rw17++TL)∧Env 85 a [(0,pz b0_),(1,.int .i64 p1),(8,pz b30),(9,.pointer (some ⟨bA_,j42*4,none⟩)),(10,v2),(11,.int .i64 (p2.length:Int)),(12,.int .i64 x14),(38,.bool x48)]) ?_ ?_
 {
 refine ah (qM E rfl λa E=>qM E rfl λa E=>sp E (cj E rfl) rfl λa E=>sp E (aJ E oL rfl) rfl λa E=>?_);refine st E (aD E hS ty3 rfl (i:=1) rfl (Sc.R_drop (aQ (If.mono hm13 ha0)))) rfl ?_;rintro v190 a _ ⟨rfl,hv189⟩ E;obtain⟨rfl,hr191⟩:=aI hv189;refine qB E rfl rfl y8 λa E=>qM E rfl λa E=>?_;rcases Z0 (decide (p0.fColumns≤p1)) with hd194|hd194
 {
 have h:=aB hd194 h;refine spg E rfl rfl rfl rfl hd194 (aJ E D0 rfl) rfl λa E=>?_;refine stg E rfl rfl rfl rfl hd194 (aD E hS ty3 rfl (i:=0) rfl (MB.R_drop (aQ hc34))) rfl ?_;rintro v197 a _ ⟨rfl,hv196⟩ E;obtain⟨rfl,hr198⟩:=aI hv196;refine spg E rfl rfl rfl rfl hd194 (aR E rfl rfl lS) rfl λa E=>qG E hd194 rfl λa E=>?_;rcases Z0 (x24.fKind != 2) with hd201|hd201
 {have h:=aB hd201 h;refine qX E hd201 λa E=>qX E hd201 λa E=>qX E hd201 λa E=>spg E rfl rfl rfl rfl hd194 (ry E rfl hd201 rfl) rfl λa E=>qT E hd194 rfl λa E=>ag ?_;exact⟨true,h,_,(Z2 _),hS,kut E⟩}
 {have h:=aC hd201 h;refine spg E rfl rfl rfl rfl hd201 (aJ E uv rfl) rfl λa E=>?_;refine stg E rfl rfl rfl rfl hd201 (aD E hS ty2 rfl (i:=0) rfl (ME.R_drop (aQ hc34))) rfl ?_;rintro v206 a _ ⟨rfl,hv205⟩ E;obtain⟨rfl,hr207⟩:=aI hv205;refine spg E rfl rfl rfl rfl hd201 (aR E rfl rfl bw) rfl λa E=>spg E rfl rfl rfl rfl hd194 (rz E rfl hd201 rfl) rfl λa E=>qT E hd194 rfl λa E=>ag ?_;exact⟨(decide (x24.fInt<0)),h,_,(Z2 _),hS,kut E⟩}}
 {have h:=aC hd194 h;refine qX E hd194 λa E=>qX E hd194 λa E=>qX E hd194 λa E=>qX E hd194 λa E=>sxu E rfl rfl rfl rfl λa E=>sxu E rfl rfl rfl rfl λa E=>sxu E rfl rfl rfl rfl λa E=>qX E hd194 λa E=>qF E hd194 rfl λa E=>ag ?_;exact⟨false,h,_,(Z2 _),hS,kut E⟩}}
 {
 rintro a w ⟨x48,h,m46,hm47,hS,E⟩;unfold dX at h;refine kif E rfl (λhd50=>?_) (λhd50=>?_)
 {
 have h:=aB hd50 h;refine ae (ah (qA E rfl λa E=>ag (bp ?_)));have h:=bH h hb20;obtain rfl:=oi h
 try dsimp only
 refine f1 E ?_;exact⟨_,(Jj hm13 hm47),cs17,rw17,(hS.pickL 3 [1,2] rfl rfl rfl),(hc18.mono hm47),cI⟩}
 {
 have h:=aC hd50 h;refine aP (ae (ah (qM E rfl λa E=>qM E rfl λa E=>sp E (cj E rfl) rfl λa E=>sp E (aJ E oL rfl) rfl λa E=>?_)));refine st E (aD E hS ty3 rfl (i:=1) rfl (Sc.R_drop (aQ (If.mono (Jj hm13 hm47) ha0)))) rfl ?_;rintro v57 a _ ⟨rfl,hv56⟩ E;obtain⟨rfl,hr58⟩:=aI hv56;refine qB E rfl rfl (cY rfl) λa E=>ag (aL (ae (ah (qB E rfl rfl fX λa E=>qA E rfl λa E=>ag ?_))))
 refine bL (λa w=>∃x64:(List aa),dy x14 x64=some r19∧∃m',M.le m46 m'∧∃(cs65 rw65:List Value),GR ab 2 m' bA_ cs65 vA_ x64 rw65∧S W0 m' w ((b30,cs33)::(b0_,c0_)::(bA_,cs65)::L) (tls 4 rw65++TL)∧Env 85 a [(0,pz b0_),(1,.int .i64 p1),(10,v2),(11,.int .i64 (p2.length:Int)),(12,.int .i64 x14)]) ?_ ?_
 {
 refine kif E rfl (λhd70=>?_) (λhd70=>?_)
 {
 have h:=aB hd70 h;refine ah (qM E rfl λa E=>sp E (aJ E uv rfl) rfl λa E=>?_);refine st E (aD E hS ty2 rfl (i:=0) rfl (ME.R_drop (aQ (kAp.mono hm47 hc34)))) rfl ?_;rintro v74 a _ ⟨rfl,hv73⟩ E;obtain⟨rfl,hr75⟩:=aI hv73;refine sp E (dE E rfl underlying2 underlying54 rfl) rfl λa E=>sp E (cj E rfl) rfl λa E=>sp E (aJ E qH rfl) rfl λa E=>sp E (aJ E Ag rfl) rfl λa E=>?_;obtain⟨x82,hx83,h⟩:=ob h;refine st0 E (wb (k:=ab) (o:=2) E hS yU (CD Ad w9 w8) (hc18.mono hm47) hx83 rfl rfl (au (aq _ _)) (i:=2) rfl (by decide) (by decide)) ?_;rintro _ w ⟨cs80,hc81,hS⟩ E;refine ag ?_
 exact⟨(x16.set j42 ({ x82 with fId:={ x82.fId with fEpoch:=Z3.wrap x24.fInt } })),h,_,(Z2 _),cs80,rw17,hc81,hS,kut E⟩}
 {
 have h:=aC hd70 h;refine ae (ah (qB E rfl rfl fX λa E=>qA E rfl λa E=>ag (kif E rfl (λhd87=>?_) (λhd87=>?_))))
 {
 have h:=aB hd87 h;refine ae (ae (ah (sp E (aJ E uv rfl) rfl λa E=>?_)));refine st E (aD E hS ty2 rfl (i:=0) rfl (ME.R_drop (aQ (kAp.mono hm47 hc34)))) rfl ?_;rintro v90 a _ ⟨rfl,hv89⟩ E;obtain⟨rfl,hr91⟩:=aI hv89;refine qB E rfl rfl iM λa E=>ag (kif E rfl (λhd93=>?_) (λhd93=>?_))
 {
 have h:=aB hd93 h;refine ae (ah (qA E rfl λa E=>ag (bp ?_)));have h:=bH h hb20;obtain rfl:=oi h
 try dsimp only
 refine f1 E ?_;exact⟨_,(Jj hm13 hm47),cs17,rw17,(hS.pickL 3 [1,2] rfl rfl rfl),(hc18.mono hm47),cI⟩}
 {
 have h:=aC hd93 h;refine aP (ah (qM E rfl λa E=>sp E (aJ E uv rfl) rfl λa E=>?_));refine st E (aD E hS ty2 rfl (i:=0) rfl (ME.R_drop (aQ (kAp.mono hm47 hc34)))) rfl ?_;rintro v98 a _ ⟨rfl,hv97⟩ E;obtain⟨rfl,hr99⟩:=aI hv97;refine sp E (dE E rfl underlying2 underlying55 rfl) rfl λa E=>sp E (cj E rfl) rfl λa E=>sp E (aJ E qH rfl) rfl λa E=>sp E (aJ E Ah rfl) rfl λa E=>?_;obtain⟨x106,hx107,h⟩:=ob h;refine st0 E (wb (k:=ab) (o:=2) E hS JL (CD Ad w9 HV) (hc18.mono hm47) hx107 rfl rfl (au (aq _ _)) (i:=2) rfl (by decide) (by decide)) ?_;rintro _ w ⟨cs104,hc105,hS⟩ E
 refine ag ?_;exact⟨(x16.set j42 ({ x106 with fId:={ x106.fId with fNumber:=IntKind.u32.wrap x24.fInt } })),h,_,(Z2 _),cs104,rw17,hc105,hS,kut E⟩}}
 {
 have h:=aC hd87 h;refine ae (ah (qB E rfl rfl fX λa E=>qA E rfl λa E=>ag (kif E rfl (λhd111=>?_) (λhd111=>?_))))
 {
 have h:=aB hd111 h;refine ah (qM E rfl λa E=>sp E (aJ E uv rfl) rfl λa E=>?_);refine st E (aD E hS ty2 rfl (i:=0) rfl (ME.R_drop (aQ (kAp.mono hm47 hc34)))) rfl ?_;rintro v115 a _ ⟨rfl,hv114⟩ E;obtain⟨rfl,hr116⟩:=aI hv114;refine sp E (dE E rfl underlying2 underlying54 rfl) rfl λa E=>sp E (cj E rfl) rfl λa E=>sp E (aJ E HZ rfl) rfl λa E=>?_;obtain⟨x122,hx123,h⟩:=ob h;refine st0 E (wb (k:=ab) (o:=2) E hS yU HX (hc18.mono hm47) hx123 rfl rfl (au (aq _ _)) (i:=2) rfl (by decide) (by decide)) ?_;rintro _ w ⟨cs120,hc121,hS⟩ E;refine ag ?_
 exact⟨(x16.set j42 ({ x122 with fDeleted:=Z3.wrap x24.fInt })),h,_,(Z2 _),cs120,rw17,hc121,hS,kut E⟩}
 {
 have h:=aC hd111 h;obtain⟨x126,hx127,z132,hz133,h⟩:=ob2 h;obtain⟨vr_,hvr_,hcr_⟩:=hc18.row hx127;obtain⟨TLr_,hTLr_⟩:∃T,T=tls 4 (rw17.eraseIdx j42)++TL:=⟨_,rfl⟩
 have hS:=hS.permT (ID hvr_ TL);rw[←hTLr_] at hS
 refine kch (k:=8) (m:=m46) (es:=[7]) (Φ:=(λi m ws v=>match i with|0=>v=(.pointer (some ⟨bA_,j42*4,none⟩))|1=>v=(.pointer (some ⟨bA_,j42*4,none⟩))|2=>v=(.pointer (some ⟨bA_,j42*4,none⟩))|3=>v=(.pointer (some ⟨bA_,j42*4+2,none⟩))|4=>v=vr_∧RV (kSl kAp) m v x126.fRow|5=>RV kAp m v x24|6=>RV (kSl kAp) m v ([x24])|7=>v=(wi ws 0).v∧RV (kSl kAp) m v z132|_=>True)) (Q:=(λc m ws L' TL'=>match c with|0=>(b30,cs33)::(b0_,c0_)::(bA_,cs17)::L=L'∧(4,vr_)::TLr_=TL'|1=>(b30,cs33)::(b0_,c0_)::(bA_,cs17)::L=L'∧(4,(wi ws 0).v)::TLr_=TL'|_=>False)) (cs:=[⟨0,1,false,[(9,.pointer (some ⟨bA_,j42*4,none⟩))]⟩,⟨0,0,false,[(9,.pointer (some ⟨bA_,j42*4,none⟩))]⟩,⟨0,0,false,[]⟩,⟨0,0,false,[]⟩,⟨0,0,false,[]⟩,⟨0,0,false,[(8,pz b30)]⟩,⟨0,0,false,[]⟩,⟨0,0,true,[]⟩]) mixed E hS ⟨rfl,rfl⟩ rfl rfl (by kernel_rfl) ?_ ?_ ?_ ?_
 {
 intro i m_ m2_ ws v n_ q_
 iterate 8 (rcases i with _|i;first|exact q_|exact RV.mono q_ n_|exact⟨q_.1,RV.mono q_.2 n_⟩)
 exact trivial}
 {
 intro c m_ m2_ ws L_ T_ n_ hq_
 match c,hq_ with
 |0,⟨e1_,e2_⟩=>exact⟨e1_,e2_⟩
 |1,⟨e1_,e2_⟩=>exact⟨e1_,e2_⟩
 |_+2,hq_=>exact hq_.elim}
 {
 refine⟨?_,?_,?_,?_,?_,?_,?_,?_,trivial⟩
 {exact cmv λ_ _=>rfl}
 {exact cmv λ_ _=>rfl}
 {refine cp0 λ_ _ _ _ _ _ _ _ _ Z' E' T'=>?_;have E:=E'.add (T' 1);exact cq (cj E rfl) Z' rfl}
 {refine cp0 λ_ _ _ _ _ _ _ _ _ Z' E' T'=>?_;have E:=E'.add (T' 2);exact cq (aJ E sA rfl) Z' rfl}
 {refine cp1 λ_ _ _ _ _ M' Q' Z' E' T'=>?_;obtain⟨rfl,rfl⟩:=Q';have E:=E'.add (T' 3);have hR_:=HW.R_drop (GS.elem (hc18.1.mono (Jj hm47 M')) hx127);exact cq (uI (k:=kAp) (v:=vr_) E Z' tX rfl (i:=2) rfl hR_ hcr_) Z' ⟨rfl,Cm hR_ hcr_⟩}
 {refine cp1 λ_ _ _ _ _ M' Q' Z' E' _=>?_;obtain⟨rfl,rfl⟩:=Q';exact cr (aD E' Z' fh rfl (i:=0) rfl (aQ (kAp.mono (Jj hm47 M') hc34))) Z' λ_ h=>h}
 {refine cp0 λ_ _ _ m' a' _ _ _ _ Z' E' T'=>?_;obtain⟨v153,E,q155⟩:=adv E' (T' 5);refine bh.imp (gF (k:=kAp) (xs:=[x24]) (vs:=[v153]) E Z' rfl underlying22 sizeOf32 zeroValue32 ⟨q155,trivial⟩ rfl (by decide)) ?_;rintro v156 w ⟨m130,hm131,hS,hv129⟩;exact⟨_,hm131,(hS.dropT 1),hv129⟩}
 {
 refine q9 λpre_ L_ T_ m' a' w' hl' M' Q' Z' E' T'=>?_;obtain rfl:=d3 hl';obtain⟨rfl,rfl⟩:=Q';obtain⟨v157,e158,q158,q159⟩:∃v,a'.tmps.getD 49 undef=v∧(v=vr_∧RV (kSl kAp) m' v x126.fRow):=⟨_,rfl,T' 4 (by decide) 49 rfl⟩
 subst q158;have E:=E'.add (e158);obtain⟨v160,E,q162⟩:=adv E (T' 6 (by decide) 51 rfl);refine bh.imp (jD (k:=kAp) (N:=3518437208883) E Z' rfl rfl underlying22 underlying22 DZ (i:=0) rfl q159 q162 hz133 rfl rfl) ?_;rintro vv137 w ⟨m135,hm136,hS,hv134⟩;exact⟨_,⟨0,vv137,[],[],[]⟩,_,_,hm136,hS,⟨rfl,rfl⟩,⟨rfl,hv134⟩⟩}}
 {
 intro ws_ L_ T_ m163 a w hl164 hm165 hq166 hS hd167 hn168 ho169 hT170;obtain⟨⟨_,vv137,_,_,_⟩,rfl⟩:=tw hl164;obtain⟨rfl,rfl⟩:=hq166
 have E:=eof 8 [(0,pz b0_),(1,.int .i64 p1),(8,pz b30),(9,.pointer (some ⟨bA_,j42*4,none⟩)),(10,v2),(11,.int .i64 (p2.length:Int)),(12,.int .i64 x14),(38,.bool x48),(39,.int .i64 p1),(40,pz b0_),(41,pz b0_),(42,pz b0_),(43,.int .i64 p0.fColumns),(44,.int .i64 (Z1.wrap (p1 - p0.fColumns))),(55,.bool ((Z1.wrap (p1 - p0.fColumns))==0)),(56,.bool ((Z1.wrap (p1 - p0.fColumns))==0)),(64,.bool ((Z1.wrap (p1 - p0.fColumns))==1)),(65,.bool ((Z1.wrap (p1 - p0.fColumns))==1)),(76,.bool ((Z1.wrap (p1 - p0.fColumns))==2)),(77,.bool ((Z1.wrap (p1 - p0.fColumns))==2))] hd167 hn168 ho169
 have E:=E.add (hT170 0);obtain⟨v174,e175,q176⟩:∃v,a.tmps.getD 52 undef=v∧(v=vv137∧RV (kSl kAp) m163 v z132):=⟨_,rfl,hT170 7⟩
 obtain⟨q177,q176⟩:=q176;rw[q177] at q176;have E:=E.add (e175.trans q177);refine sp E (cj E rfl) rfl λa E=>sp E (aJ E sA rfl) rfl λa E=>?_;obtain⟨x182,hx183,h⟩:=ob h;refine st0 E (Ej (k:=ab) (o:=2) E hS tX Ae (hc18.mono (Jj hm47 hm165)) hx183 rfl rfl q176 (i:=2) rfl) ?_;rintro _ w ⟨cs180,hc181,hS⟩ E;refine ag ?_;rw[hTLr_] at hS;have hS:=hS.permT (IE (List.getElem?_eq_some_iff.1 hvr_).1 TL);exact⟨(x16.set j42 ({ x182 with fRow:=z132 })),h,_,hm165,cs180,_,hc181,hS,kut E⟩}}}}}
 {rintro a w ⟨x64,h,m62,hm63,cs65,rw65,hc66,hS,E⟩;unfold dy at h;refine ah (qB E rfl rfl (bn rfl) λa E=>qM E rfl λa E=>ag ?_);exact⟨(Z1.wrap (x14+1),x64),(Option.some.inj h).symm,_,(Jj hm13 (Jj hm47 hm63)),cs65,rw65,(aq _ _),hc66,(hS.pickL 3 [1,2] rfl rfl rfl),kut E⟩}}}}
 {have h:=aC hd22 h;refine cL rfl rfl ?_;have h:=bH h hb20;exact⟨x16,h,_,hm13,cs17,rw17,hc18,hS,E.cut trivial⟩}}}
 {
 rintro a w ⟨x7,h,m5,hm6,cs8,rw8,hc9,hS,E⟩;unfold iQ at h;refine ae (ah (qA E rfl λa E=>ag (bp ?_)));obtain rfl:=oi h
 try dsimp only
 refine f1 E ?_;exact⟨_,hm6,cs8,rw8,hS,hc9,cI⟩}
theorem Ps:Ctr Sz prog 138 [.rd (.sl (.st 59)),.rd (.sl (.st 59)),.f2 (.st 59) (.st 59) .bool] [.rd .bool] (fun x=>eL x.1 x.2.1 x.2.2.1):=
 ncR [] [6] func138 ntmps138 (.s .o (.s .o (.s (.s .o (.b (.l ⟨[.v 17 1 (.dat (.int .i64) none)],[1,2,15,16],0,[]⟩ .o))) .o))) λx=>by kernel_rfl
theorem qY  (hS:S W0 m w L TL) {p0} (ha0:RV (kSl ab) m v0 p0) {p1} (ha1:RV (kSl ab) m v1 p1) {p2} (ha2:Fn2 prog ab ab cG m v2 p2) {r} (h:eL p0 p1 p2=some r):
    Calls prog 138 [v0,v1,v2].toArray w (Ret λv w'=>∃m',M.le m m'∧S W0 m' w' L TL∧RV cG m' v r):=by
 refine rm (Ps W0 m w L TL [v0,v1,v2] (p0,p1,p2,()) r [] [] hS ⟨ha0,⟨ha1,⟨ha2,trivial⟩⟩⟩ h) λv w' he=>?_;obtain⟨m',us,Lr,Lq,Tr,hm,Z',rfl,hR,hO⟩:=he;obtain⟨u0,us,rfl,r0,hR0⟩:=cZ hR;obtain⟨rfl,rfl,rfl⟩:=cl hR0;have hO0:=bG hO;have hO1:=bG hO0;have hO2:=Cp hO1;obtain rfl:=cm hO2;exact⟨m',hm,Z',r0⟩
theorem Pt:Ctr Sz prog 139 [.rd (.st 59),.rd (.st 59)] [.rd .bool] (fun x=>eE x.1 x.2.1):=
 ncR [] [4] func139 ntmps139 .o λx=>by kernel_rfl
theorem sJ  (hS:S W0 m w L TL) {p0} (ha0:RV ab m v0 p0) {p1} (ha1:RV ab m v1 p1) {r} (h:eE p0 p1=some r):
    Calls prog 139 [v0,v1].toArray w (Ret λv w'=>∃m',M.le m m'∧S W0 m' w' L TL∧RV cG m' v r):=by
 refine rm (Pt W0 m w L TL [v0,v1] (p0,p1,()) r [] [] hS ⟨ha0,⟨ha1,trivial⟩⟩ h) λv w' he=>?_;obtain⟨m',us,Lr,Lq,Tr,hm,Z',rfl,hR,hO⟩:=he;obtain⟨u0,us,rfl,r0,hR0⟩:=cZ hR;obtain⟨rfl,rfl,rfl⟩:=cl hR0;have hO0:=bG hO;have hO1:=bG hO0;obtain rfl:=cm hO1;exact⟨m',hm,Z',r0⟩
theorem Pu {m0:M}:Fn2 prog ab ab cG m0 (.func (.func 139) [].toArray [].toArray) eE:=by
  refine⟨139,_,rfl,call139,?_⟩;intro W0 m w L TL v0 v1 x0 x1 r hm hS h0 h1 hr;refine(sJ (hS:=hS) h0 h1 hr).mono ?_;intro e w' he;cases e with
  |returned v=>obtain⟨m',h1,h2,h3⟩:=he;exact⟨m',h1,h2,h3⟩
  |panicked ch=>exact he.elim
  |outgrown=>exact he.elim
theorem uz  (hS:S W0 m w L TL) {p0} (ha0:RV (kPt aW) m v0 p0) {r} (h:gJ p0=some r):
    Calls prog 86 [v0].toArray w (Ret λv w'=>∃m',M.le m m'∧S W0 m' w' L TL∧RV cG m' v r):=by
 refine kc func86 ntmps86 λa E=>?_;have E:Env 19 a [(0,v0)]:=E;unfold gJ at h;refine ae (ah (qA E rfl λa E=>ag (ae ?_)));obtain⟨x2,hx3,x7,hx8,h⟩:=ob2 h
 refine kch (k:=8) (m:=m) (es:=[]) (Φ:=(λi m ws v=>match i with|0=>v=v0|1=>v=v0|2=>PR (kSl (ai .i64)) m v x2.fSort|3=>RV (kSl (ai .i64)) m v x2.fSort|4=>v=v0|5=>v=v0|6=>PR (kSl ab) m v x7.fL|7=>RV (kSl ab) m v x7.fL|_=>True)) (Q:=(λc m ws L' TL'=>match c with|0=>L=L'∧TL=TL'|_=>False)) (cs:=[⟨0,0,false,[(0,v0)]⟩,⟨0,0,false,[]⟩,⟨0,0,false,[]⟩,⟨0,0,false,[]⟩,⟨0,0,false,[(0,v0)]⟩,⟨0,0,false,[]⟩,⟨0,0,false,[]⟩,⟨0,0,false,[]⟩]) mixed E hS ⟨rfl,rfl⟩ rfl rfl (by kernel_rfl) ?_ ?_ ?_ ?_
 {
 intro i m_ m2_ ws v n_ q_
 iterate 8 (rcases i with _|i;first|exact q_|exact PR.mono q_ n_|exact RV.mono q_ n_)
 exact trivial}
 {
 intro c m_ m2_ ws L_ T_ n_ hq_
 match c,hq_ with
 |0,⟨e1_,e2_⟩=>exact⟨e1_,e2_⟩
 |_+1,hq_=>exact hq_.elim}
 {
 refine⟨?_,?_,?_,?_,?_,?_,?_,?_,trivial⟩
 {exact cmv λ_ _=>rfl}
 {refine cp0 λ_ _ _ _ _ _ _ M' _ Z' E' T'=>?_;have E:=E'.add (T' 0);exact cq (lj E rfl (ha0.mono M') hx3) Z' rfl}
 {refine cp0 λ_ _ _ _ _ _ _ M' _ Z' E' T'=>?_;have E:=E'.add (T' 1);exact cr (eW E mT uu rfl ((mt ha0 hx3).mono M')) Z' λ_ h=>h}
 {
 refine cp0 λ_ _ _ m' a' _ _ _ _ Z' E' T'=>?_;obtain⟨v21,e22,q23⟩:∃v,a'.tmps.getD 6 undef=v∧(PR (kSl (ai .i64)) m' v x2.fSort):=⟨_,rfl,T' 2⟩
 have E:=E'.add (e22);exact cr (bg E Z' oy rfl q23) Z' λ_ h=>h}
 {exact cmv λ_ _=>rfl}
 {refine cp0 λ_ _ _ _ _ _ _ M' _ Z' E' T'=>?_;have E:=E'.add (T' 4);exact cq (lj E rfl (ha0.mono M') hx8) Z' rfl}
 {refine cp0 λ_ _ _ _ _ _ _ M' _ Z' E' T'=>?_;have E:=E'.add (T' 5);exact cr (eW E lN oK rfl ((mt ha0 hx8).mono M')) Z' λ_ h=>h}
 {
 refine cp0 λ_ _ _ m' a' _ _ _ _ Z' E' T'=>?_;obtain⟨v34,e35,q36⟩:∃v,a'.tmps.getD 10 undef=v∧(PR (kSl ab) m' v x7.fL):=⟨_,rfl,T' 6⟩
 have E:=E'.add (e35);exact cr (bg E Z' sB rfl q36) Z' λ_ h=>h}}
 {
 intro ws_ L_ T_ m38 a w hl39 hm40 hq41 hS hd42 hn43 ho44 hT45;obtain rfl:=d3 hl39;obtain⟨rfl,rfl⟩:=hq41;have E:=eof 8 [(0,v0),(2,.bool false)] hd42 hn43 ho44;obtain⟨v46,E,q48⟩:=adv E (hT45 3);obtain⟨v49,E,q51⟩:=adv E (hT45 7);obtain⟨r52,hr53,h⟩:=ob h;refine st E (aA (vs:=[v46,v49]) E rfl call27 (sC (hS:=hS) q48 q51 hr53)) rfl ?_;rintro v57 a w ⟨m54,hm55,hS,hv56⟩ E;refine qA E rfl λa E=>ag (ae (ah (qM E rfl λa E=>qM E rfl λa E=>?_)));obtain⟨x61,hx62,h⟩:=ob h;refine sp E (lj E rfl (ha0.mono (Jj hm40 hm55)) hx62) rfl λa E=>?_
 refine st E (eW E lN oK rfl ((mt ha0 hx62).mono (Jj hm40 hm55))) rfl ?_;rintro v66 a _ ⟨rfl,hp65⟩ E;refine st E (bg E hS sB rfl hp65) rfl ?_;rintro v68 a _ ⟨rfl,hv67⟩ E;obtain⟨r69,hr70,h⟩:=ob h;refine st E (aA (vs:=[v57,v68,(.func (.func 139) #[] #[])]) E rfl call138 (qY (hS:=hS) hv56 hv67 (Pu (m0:=m54)) hr70)) rfl ?_;rintro v74 a w ⟨m71,hm72,hS,hv73⟩ E;obtain rfl:=ef hv73;refine qA E rfl λa E=>ag (bp ?_);obtain rfl:=oi h
 try dsimp only
 refine f1 E ?_;exact⟨_,(Jj hm40 (Jj hm55 hm72)),hS,cI⟩}
theorem QU:StF If yq 2 (λx _=>x):=cc (aX (aX bq)) (λ_ _=>rfl)
theorem JQ {m:M}{cs:List Value}{x:ax}(h:aW.R m cs x):If.R m cs x:=by
  obtain⟨h0,h1,h2⟩:=h;refine⟨h0,h1,?_⟩;obtain⟨a,len,cap,h3,_⟩:=h2;exact⟨_,h3,rfl⟩
theorem LN {m:M}{cs:List Value}{x:ax}{v:Value}{l:List aa}(h:If.R m cs x)(hc:cs[2]? =some v)(hv:RV (kSl ab) m v l):aW.R m cs { x with fL:=l }:=by
  obtain⟨h0,h1,h2⟩:=h;refine⟨h0,h1,?_⟩;obtain⟨c,h3,_⟩:=h2;have h3:(cs.drop 1).drop 1=[c]:=h3;rw[List.drop_drop] at h3
  have:c=v:=by
    have h4:(cs.drop 2)[0]? =some c:=by rw[show 2=1+1 from rfl,h3];rfl
    rw[List.getElem?_drop,hc] at h4;injection h4 with h4;exact h4.symm
  subst this;show(kSl ab).R m ((cs.drop 1).drop 1) l;rw[List.drop_drop,h3];obtain⟨ds,hR,hvd⟩:=hv;have hl:=(kSl ab).len hR
  match ds,hl,hvd with
  | [d], _, hvd =>
    have:c=d:=hvd;subst this;exact hR
theorem uA  (hS:S W0 m w L TL) {p0} (ha0:RV (kSl (ai .u8)) m v0 p0) {r} (h:fg p0=some r):
    Calls prog 33 [v0].toArray w (Ret λv w'=>∃m',M.le m m'∧S W0 m' w' L TL∧∃v0_ v1_:Value,v= .tuple #[v0_,v1_]∧RV (kPt aW) m' v0_ r.1∧RV (ai .i64) m' v1_ r.2):=by
 refine kc func33 ntmps33 λa E=>?_;have E:Env 120 a [(0,v0)]:=E;unfold fg at h;refine ae (ah (qA E rfl λa E=>qA E rfl λa E=>ag (ae (ah (sp E (IB E rfl underlying120 (pl:=[(0,1),(1,1),(2,1)]) rfl zeroValue120) rfl λa E=>?_)))));refine st E (Ky (zc:=tn) E hS rfl) rfl ?_;rintro _ a w ⟨b5,rfl,hS⟩ E;refine qA E rfl λa E=>ag (ae (ae ?_));refine bL (λa w=>∃x10:Bool,jM p0 x10=some r∧∃m',M.le m m'∧S W0 m' w ((b5,tn)::L) (TL)∧Env 120 a [(0,v0),(4,pz b5),(32,.bool x10)]) ?_ ?_
 {
 rcases Z0 (decide ((p0.length:Int)<4)) with hd364|hd364
 {
 have h:=aB hd364 h
 refine kch (k:=15) (m:=m) (es:=[]) (Φ:=(λi m ws v=>match i with|0=>v=v0|1=>ei .i64 (p0.length:Int) v|2=>v=(.bool (decide ((p0.length:Int)<4)))|3=>v=(.bool (decide ((p0.length:Int)<4)))|4=>v=undef|5=>v=undef|6=>v=undef|7=>v=undef|8=>v=undef|9=>v=undef|10=>v=undef|11=>v=undef|12=>v=undef|13=>v=undef|14=>v=undef|_=>True)) (Q:=(λc m ws L' TL'=>match c with|0=>(b5,tn)::L=L'∧TL=TL'|_=>False)) (cs:=[⟨0,0,false,[(0,v0)]⟩,⟨0,0,false,[]⟩,⟨0,0,false,[]⟩,⟨0,0,false,[]⟩,⟨0,0,false,[(0,v0)]⟩,⟨0,0,false,[(0,v0)]⟩,⟨0,0,false,[]⟩,⟨0,0,false,[]⟩,⟨0,0,false,[]⟩,⟨0,0,false,[]⟩,⟨0,0,false,[(0,v0)]⟩,⟨0,0,false,[(0,v0)]⟩,⟨0,0,false,[]⟩,⟨0,0,false,[]⟩,⟨0,0,false,[]⟩]) mixed E hS ⟨rfl,rfl⟩ rfl rfl (by kernel_rfl) ?_ ?_ ?_ ?_
 {
 intro i m_ m2_ ws v n_ q_
 iterate 15 (rcases i with _|i;exact q_)
 exact trivial}
 {
 intro c m_ m2_ ws L_ T_ n_ hq_
 match c,hq_ with
 |0,⟨e1_,e2_⟩=>exact⟨e1_,e2_⟩
 |_+1,hq_=>exact hq_.elim}
 {
 refine⟨?_,?_,?_,?_,?_,?_,?_,?_,?_,?_,?_,?_,?_,?_,?_,trivial⟩
 {exact cmv λ_ _=>rfl}
 {refine cp0 λ_ _ _ _ _ _ _ M' _ Z' E' T'=>?_;have E:=E'.add (T' 0);exact cq (aS (k:=(ai .u8)) E rfl rfl underlying24 (ha0.mono M')) Z' ⟨rfl,(dA (g8 (ha0.mono M')))⟩}
 {refine cp0 λ_ _ _ _ _ _ _ _ _ Z' E' T'=>?_;have E:=E'.add (T' 1).1;exact cq (aR E rfl rfl bw) Z' rfl}
 {refine cp0 λ_ _ _ _ _ _ _ _ _ Z' E' T'=>?_;have E:=E'.add (T' 2);exact cq (iy E rfl) Z' rfl}
 {exact csk (gz hd364)}
 {exact csk (gz hd364)}
 {exact csk (gz hd364)}
 {exact csk (gz hd364)}
 {exact csk (gz hd364)}
 {exact csk (gz hd364)}
 {exact csk (gz hd364)}
 {exact csk (gz hd364)}
 {exact csk (gz hd364)}
 {exact csk (gz hd364)}
 {exact csk (gz hd364)}}
 {intro ws_ L_ T_ m379 a w hl380 hm381 hq382 hS hd383 hn384 ho385 hT386;obtain rfl:=d3 hl380;obtain⟨rfl,rfl⟩:=hq382;have E:=eof 15 [(0,v0),(2,.pointer none),(3,.int .i64 0),(4,pz b5),(12,(.agg tn.toArray)),(13,pz b5)] hd383 hn384 ho385;have E:=((E.add (hT386 3)).add (hT386 9)).add (hT386 14);refine qX E hd364 λa E=>qX E hd364 λa E=>qX E hd364 λa E=>qT E hd364 rfl λa E=>ag ?_;exact⟨true,h,_,hm381,hS,kut E⟩}}
 {
 have h:=aC hd364 h;obtain⟨x397,hx398,r400,hr401,h⟩:=ob2 h;obtain⟨x406,hx407,h⟩:=ob h
 refine kch (k:=15) (m:=m) (es:=[]) (Φ:=(λi m ws v=>match i with|0=>v=v0|1=>ei .i64 (p0.length:Int) v|2=>v=(.bool (decide ((p0.length:Int)<4)))|3=>v=(.bool (decide ((p0.length:Int)<4)))|4=>v=v0|5=>v=v0|6=>ei .i64 (p0.length:Int) v|7=>ei .i64 (Z1.wrap ((p0.length:Int) - 4)) v|8=>RV (kSl (ai .u8)) m v x397|9=>ei .i64 r400 v|10=>v=v0|11=>v=v0|12=>ei .i64 (p0.length:Int) v|13=>ei .i64 (Z1.wrap ((p0.length:Int) - 4)) v|14=>RV (kSl (ai .u8)) m v x406|_=>True)) (Q:=(λc m ws L' TL'=>match c with|0=>(b5,tn)::L=L'∧TL=TL'|_=>False)) (cs:=[⟨0,0,false,[(0,v0)]⟩,⟨0,0,false,[]⟩,⟨0,0,false,[]⟩,⟨0,0,false,[]⟩,⟨0,0,false,[(0,v0)]⟩,⟨0,0,false,[(0,v0)]⟩,⟨0,0,false,[]⟩,⟨0,0,false,[]⟩,⟨0,0,false,[]⟩,⟨0,0,false,[]⟩,⟨0,0,false,[(0,v0)]⟩,⟨0,0,false,[(0,v0)]⟩,⟨0,0,false,[]⟩,⟨0,0,false,[]⟩,⟨0,0,false,[]⟩]) mixed E hS ⟨rfl,rfl⟩ rfl rfl (by kernel_rfl) ?_ ?_ ?_ ?_
 {
 intro i m_ m2_ ws v n_ q_
 iterate 15 (rcases i with _|i;first|exact q_|exact RV.mono q_ n_)
 exact trivial}
 {
 intro c m_ m2_ ws L_ T_ n_ hq_
 match c,hq_ with
 |0,⟨e1_,e2_⟩=>exact⟨e1_,e2_⟩
 |_+1,hq_=>exact hq_.elim}
 {
 refine⟨?_,?_,?_,?_,?_,?_,?_,?_,?_,?_,?_,?_,?_,?_,?_,trivial⟩
 {exact cmv λ_ _=>rfl}
 {refine cp0 λ_ _ _ _ _ _ _ M' _ Z' E' T'=>?_;have E:=E'.add (T' 0);exact cq (aS (k:=(ai .u8)) E rfl rfl underlying24 (ha0.mono M')) Z' ⟨rfl,(dA (g8 (ha0.mono M')))⟩}
 {refine cp0 λ_ _ _ _ _ _ _ _ _ Z' E' T'=>?_;have E:=E'.add (T' 1).1;exact cq (aR E rfl rfl bw) Z' rfl}
 {refine cp0 λ_ _ _ _ _ _ _ _ _ Z' E' T'=>?_;have E:=E'.add (T' 2);exact cq (iy E rfl) Z' rfl}
 {exact cgm (gz hd364) (λ_ _=>rfl)}
 {exact cgm (gz hd364) (λ_ _=>rfl)}
 {refine cg0 (gz hd364) λ_ _ _ _ _ _ _ M' _ Z' E' T'=>?_;have E:=E'.add (T' 5);exact cq (aS (k:=(ai .u8)) E rfl rfl underlying24 (ha0.mono M')) Z' ⟨rfl,(dA (g8 (ha0.mono M')))⟩}
 {refine cg0 (gz hd364) λ_ _ _ _ _ _ _ _ _ Z' E' T'=>?_;have E:=E'.add (T' 6).1;exact cq (aR E rfl rfl (cY rfl)) Z' ⟨rfl,(aq _ _)⟩}
 {refine cg0 (gz hd364) λ_ _ _ _ _ _ _ M' _ Z' E' T'=>?_;have E:=(E'.add (T' 4)).add (T' 7).1;exact cr (dq (k:=(ai .u8)) E rfl underlying24 sizeOf5 (ha0.mono M') ⟨_,rfl⟩ rfl hx398 (xl:=(some (.tmp 21))) (xh:=none)) Z' λ_ h=>h}
 {refine cg0 (gz hd364) λ_ _ _ m' a' _ _ _ _ Z' E' T'=>?_;obtain⟨v442,E,q444⟩:=adv E' (T' 8);refine bh.imp (aA (vs:=[v442]) E rfl call82 (lh (hS:=Z') q444 hr401)) ?_;rintro v445 w ⟨m402,hm403,hS,hv404⟩;obtain⟨rfl,hr446⟩:=aI hv404;exact⟨_,hm403,hS,⟨rfl,hr446⟩⟩}
 {exact cgm (gz hd364) (λ_ _=>rfl)}
 {exact cgm (gz hd364) (λ_ _=>rfl)}
 {refine cg0 (gz hd364) λ_ _ _ _ _ _ _ M' _ Z' E' T'=>?_;have E:=E'.add (T' 11);exact cq (aS (k:=(ai .u8)) E rfl rfl underlying24 (ha0.mono M')) Z' ⟨rfl,(dA (g8 (ha0.mono M')))⟩}
 {refine cg0 (gz hd364) λ_ _ _ _ _ _ _ _ _ Z' E' T'=>?_;have E:=E'.add (T' 12).1;exact cq (aR E rfl rfl (cY rfl)) Z' ⟨rfl,(aq _ _)⟩}
 {refine cg0 (gz hd364) λ_ _ _ _ _ _ _ M' _ Z' E' T'=>?_;have E:=(E'.add (T' 10)).add (T' 13).1;exact cr (dq (k:=(ai .u8)) E rfl underlying24 sizeOf5 (ha0.mono M') rfl ⟨_,rfl⟩ hx407 (xl:=none) (xh:=(some (.tmp 27)))) Z' λ_ h=>h}}
 {
 intro ws_ L_ T_ m466 a w hl467 hm468 hq469 hS hd470 hn471 ho472 hT473;obtain rfl:=d3 hl467;obtain⟨rfl,rfl⟩:=hq469;have E:=eof 15 [(0,v0),(2,.pointer none),(3,.int .i64 0),(4,pz b5),(12,(.agg tn.toArray)),(13,pz b5)] hd470 hn471 ho472;have E:=(E.add (hT473 3)).add (hT473 9).1;obtain⟨v481,E,q483⟩:=adv E (hT473 14);obtain⟨r484,hr485,h⟩:=ob h;refine stg E rfl rfl rfl rfl hd364 (aA (vs:=[v481]) E rfl call78 (yh (hS:=hS) q483 hr485)) rfl ?_;rintro v489 a w ⟨m486,hm487,hS,hv488⟩ E;obtain⟨rfl,hr490⟩:=aI hv488
 refine spg E rfl rfl rfl rfl hd364 (dE E rfl underlying55 underlying3 rfl) rfl λa E=>spg E rfl rfl rfl rfl hd364 (aR E rfl rfl lS) rfl λa E=>qF E hd364 rfl λa E=>ag ?_;exact⟨(r400 != (Z1.wrap r484)),h,_,(Jj hm468 hm487),hS,kut E⟩}}}
 {
 rintro a w ⟨x10,h,m8,hm9,hS,E⟩;unfold jM at h;refine kif E rfl (λhd12=>?_) (λhd12=>?_)
 {
 have h:=aB hd12 h;refine ae (ah (qA E rfl λa E=>qA E rfl λa E=>ag (bp ?_)));obtain rfl:=oi h
 try dsimp only
 refine f2 E ?_;exact⟨_,hm9,(hS.dropL 1),_,_,rfl,(wa (m:=m8) (k:=aW)),(au (show inR .i64 80 from aw (by decide)))⟩}
 {
 have h:=aC hd12 h;refine aP (ae (ah (qM E rfl λa E=>qM E rfl λa E=>qM E rfl λa E=>sp E (aS (k:=(ai .u8)) E rfl rfl underlying24 (ha0.mono hm9)) rfl λa E=>qB E rfl rfl (cY rfl) λa E=>?_)));obtain⟨x20,hx21,h⟩:=ob h;refine st E (dq (k:=(ai .u8)) E rfl underlying24 sizeOf5 (ha0.mono hm9) rfl ⟨_,rfl⟩ hx21 (xl:=none) (xh:=(some (.tmp 38)))) rfl ?_;rintro v23 a _ ⟨rfl,hv22⟩ E;obtain⟨r24,hr25,h⟩:=ob h;refine st E (aA (vs:=[(pz b5),v23]) E rfl call83 (vM (hS:=hS) hv22 hr25)) rfl ?_;rintro _ a w ⟨m26,hm27,c0_28,hS,hc0_29,v0_30,v1_31,v2_32,rfl,hv0_33,hv1_34,hv2_35⟩ E
 obtain⟨rfl,hr37⟩:=aI hv0_33;obtain rfl:=ef hv2_35;refine qM E rfl λa E=>sp E (bE E rfl rfl) rfl λa E=>sp E (bE E rfl rfl) rfl λa E=>sp E (bE E rfl rfl) rfl λa E=>qA E rfl λa E=>qA E rfl λa E=>qA E rfl λa E=>ag (ae (ae ?_));refine ah (qM E rfl λa E=>sp E (j9 E rfl) rfl λa E=>ag (kif E rfl (λhd47=>?_) (λhd47=>?_)))
 {
 have h:=aB hd47 h;refine ae (ah (qA E rfl λa E=>qA E rfl λa E=>ag (bp ?_)));obtain rfl:=oi h
 try dsimp only
 refine f2 E ?_;exact⟨_,(Jj hm9 hm27),(hS.dropL 1),_,_,rfl,(wa (m:=m26) (k:=aW)),(au (show inR .i64 80 from aw (by decide)))⟩}
 {
 have h:=aC hd47 h;refine aP (ae (ah (qM E rfl λa E=>qM E rfl λa E=>?_)));obtain⟨z52,hz53,h⟩:=ob h;refine st E (IF (k:=ab) (o:=2) (sz:=4) (m:=m26) E hS rfl rfl underlying50 type59 rfl rfl rfl (λm=>vo m) hz53 rfl rfl rfl) rfl ?_;rintro v58 a w ⟨b54,cs55,rw56,hc57,hS⟩ E;refine sp E (cj E rfl) rfl λa E=>sp E (aJ E lN rfl) rfl λa E=>?_;refine st0 E (GO E hS Kh QU rfl rfl hc57.1.one (i:=1) rfl (JQ hc0_29)) ?_;rintro _ w ⟨cs61,hc62,hq63,hS⟩ E;refine ag (ae (ae (ah (qM E rfl λa E=>sp E (cj E rfl) rfl λa E=>sp E (aJ E oL rfl) rfl λa E=>?_))))
 refine st E (aD E hS ty3 rfl (i:=1) rfl (Sc.R_drop (aQ hc62))) rfl ?_;rintro v69 a _ ⟨rfl,hv68⟩ E;obtain⟨rfl,hr70⟩:=aI hv68;refine qB E rfl rfl (bn rfl) λa E=>qM E rfl λa E=>ag ?_;refine bL (λa w=>∃x75:(List Int),∃x79:(List aa),lY r24 x75 x79=some r∧∃m',M.le m26 m'∧∃(v76:Value),∃(rw78:List Value),∃(cs80:List Value),RV (kSl (ai .u8)) m' v76 x75∧GR ab 2 m' b54 cs80 v58 x79 rw78∧S W0 m' w ((b54,cs80)::(b5,cs61)::L) (tls 4 rw78++TL)∧Env 120 a [(4,pz b5),(6,v76)]) ?_ ?_
 {
 refine aL ?_;refine cP h (λ(s:List Int×Int×List aa) a w=>∃m',M.le m26 m'∧∃(v253:Value),∃(rw257:List Value),∃(cs259:List Value),RV (kSl (ai .u8)) m' v253 s.1∧inR .i64 s.2.1∧GR ab 2 m' b54 cs259 v58 s.2.2 rw257∧S W0 m' w ((b54,cs259)::(b5,cs61)::L) (tls 4 rw257++TL)∧Env 120 a [(4,pz b5),(5,.int .i64 r24.1),(6,v253),(55,.int .i64 (Z1.wrap (r24.2.2.2.fColumns+3))),(56,.int .i64 s.2.1)]) ?_ ?_
 {exact⟨_,(Z2 _),v1_31,rw56,cs55,hv1_34,(show inR .i64 0 from aw (by decide)),hc57,hS,kut E⟩}
 {
 rintro ⟨x252,x255,x258⟩ a w ⟨m250,hm251,v253,rw257,cs259,hv254,hr256,hc260,hS,E⟩ r261 h hb262;have h:gl r24 x252 x255 x258=some r261:=h;unfold gl at h;refine ae (ah (qB E rfl rfl bw λa E=>ag (ae (kif E rfl (λhd264=>?_) (λhd264=>?_)))))
 {
 have h:=aB hd264 h;refine aP (ae (aL (ae (ah (qM E rfl λa E=>qA E rfl λa E=>ag (ae (ae ?_)))))));refine bL (λa w=>∃x269:Bool,jL r24 x252 x255 x258 x269=some r261∧∃m',M.le m250 m'∧S W0 m' w ((b54,cs259)::(b5,cs61)::L) (tls 4 rw257++TL)∧Env 120 a [(4,pz b5),(5,.int .i64 r24.1),(6,v253),(8,.int .i64 x255),(55,.int .i64 (Z1.wrap (r24.2.2.2.fColumns+3))),(56,.int .i64 x255),(69,.bool x269)]) ?_ ?_
 {
 refine ah (qM E rfl λa E=>sp E (aS (k:=(ai .u8)) E rfl rfl underlying24 hv254) rfl λa E=>qB E rfl rfl bw λa E=>qM E rfl λa E=>?_);rcases Z0 (decide ((x252.length:Int)<4)) with hd349|hd349
 {have h:=aB hd349 h;refine qX E hd349 λa E=>qX E hd349 λa E=>qX E hd349 λa E=>qX E hd349 λa E=>qX E hd349 λa E=>qX E hd349 λa E=>qT E hd349 rfl λa E=>ag ?_;exact⟨true,h,_,(Z2 _),hS,kut E⟩}
 {have h:=aC hd349 h;refine qG E hd349 rfl λa E=>spg E rfl rfl rfl rfl hd349 (aS (k:=(ai .u8)) E rfl rfl underlying24 hv254) rfl λa E=>qG E hd349 rfl λa E=>?_;obtain⟨r354,hr355,h⟩:=ob h;refine stg E rfl rfl rfl rfl hd349 (aA (vs:=[v253]) E rfl call82 (lh (hS:=hS) hv254 hr355)) rfl ?_;rintro v359 a w ⟨m356,hm357,hS,hv358⟩ E;obtain⟨rfl,hr360⟩:=aI hv358;refine spg E rfl rfl rfl rfl hd349 (aR E rfl rfl (bn rfl)) rfl λa E=>spg E rfl rfl rfl rfl hd349 (aR E rfl rfl bw) rfl λa E=>qF E hd349 rfl λa E=>ag ?_;exact⟨(decide ((x252.length:Int)<(Z1.wrap (4+r354)))),h,_,hm357,hS,kut E⟩}}
 {
 rintro a w ⟨x269,h,m267,hm268,hS,E⟩;unfold jL at h;refine kif E rfl (λhd271=>?_) (λhd271=>?_)
 {
 have h:=aB hd271 h;refine ae (ah (qA E rfl λa E=>qA E rfl λa E=>ag (bp ?_)));have h:=bH h hb262;obtain rfl:=oi h
 try dsimp only
 refine f2 E ?_;exact⟨_,(Jj hm9 (Jj hm27 (Jj hm251 hm268))),(S.dropR (hS.dropL 2)),_,_,rfl,(wa (m:=m267) (k:=aW)),(au (show inR .i64 80 from aw (by decide)))⟩}
 {
 have h:=aC hd271 h;refine aP (ae (ah (qM E rfl λa E=>?_)));obtain⟨r275,hr276,h⟩:=ob h;refine st E (aA (vs:=[v253]) E rfl call82 (lh (hS:=hS) (hv254.mono hm268) hr276)) rfl ?_;rintro v280 a w ⟨m277,hm278,hS,hv279⟩ E;obtain⟨rfl,hr281⟩:=aI hv279;refine qA E rfl λa E=>ag (ae (ah (qM E rfl λa E=>qM E rfl λa E=>qB E rfl rfl (bn rfl) λa E=>?_)));obtain⟨x286,hx287,h⟩:=ob h;refine st E (dq (k:=(ai .u8)) E rfl underlying24 sizeOf5 (hv254.mono (Jj hm268 hm278)) ⟨_,rfl⟩ ⟨_,rfl⟩ hx287 (xl:=(some (.const (.int .i64 4)))) (xh:=(some (.tmp 75)))) rfl ?_;rintro v289 a _ ⟨rfl,hv288⟩ E
 refine qM E rfl λa E=>?_;obtain⟨r291,hr292,h⟩:=ob h;refine st E (aA (vs:=[v289,(.int .i64 r24.1)]) E rfl call84 (y2 (hS:=hS) hv288 hr37 hr292)) rfl ?_;rintro _ a w ⟨m293,hm294,hS,v0_295,v1_296,rfl,hv0_297,hv1_298⟩ E;obtain rfl:=ef hv1_298;refine qM E rfl λa E=>sp E (bE E rfl rfl) rfl λa E=>sp E (bE E rfl rfl) rfl λa E=>qA E rfl λa E=>qA E rfl λa E=>ag (ae (ae ?_))
 refine bL (λa w=>∃x307:Bool,∃x309:(List aa),jK x252 x255 r275 x307 x309=some r261∧∃m',M.le m293 m'∧∃(rw308:List Value),∃(cs310:List Value),GR ab 2 m' b54 cs310 v58 x309 rw308∧S W0 m' w ((b54,cs310)::(b5,cs61)::L) (tls 4 rw308++TL)∧Env 120 a [(4,pz b5),(5,.int .i64 r24.1),(6,v253),(9,.int .i64 r275),(55,.int .i64 (Z1.wrap (r24.2.2.2.fColumns+3))),(56,.int .i64 x255),(89,.bool x307)]) ?_ ?_
 {
 refine ah (qM E rfl λa E=>sp E (j9 E rfl) rfl λa E=>qM E rfl λa E=>?_);rcases Z0 (!r291.2) with hd329|hd329
 {have h:=aB hd329 h;refine qX E hd329 λa E=>qX E hd329 λa E=>qX E hd329 λa E=>qX E hd329 λa E=>qX E hd329 λa E=>qT E hd329 rfl λa E=>ag ?_;exact⟨true,x258,h,_,(Z2 _),rw257,cs259,(hc260.mono (Jj hm268 (Jj hm278 hm294))),hS,kut E⟩}
 {
 have h:=aC hd329 h;refine qG E hd329 rfl λa E=>qG E hd329 rfl λa E=>qG E hd329 rfl λa E=>?_;obtain⟨r334,hr335,h⟩:=ob h;refine stg E rfl rfl rfl rfl hd329 (aA (vs:=[(pz b5),(.int .i64 x255),v0_295]) E rfl call85 (vP (hS:=(hS.pickL 2 [1,0] rfl rfl rfl)) (If.mono (Jj hm251 (Jj hm268 (Jj hm278 hm294))) hc62) hq63 (hc260.mono (Jj hm268 (Jj hm278 hm294))) hr256 hv0_297 hr335)) rfl ?_;rintro v342 a w ⟨m336,hm337,cs338,rw339,hS,hc340,hv341⟩ E;obtain rfl:=ef hv341;refine spg E rfl rfl rfl rfl hd329 (j9 E rfl) rfl λa E=>qF E hd329 rfl λa E=>ag ?_
 exact⟨(!r334.1),r334.2,h,_,hm337,rw339,cs338,hc340,(hS.pickL 2 [1,0] rfl rfl rfl),kut E⟩}}
 {
 rintro a w ⟨x307,x309,h,m305,hm306,rw308,cs310,hc311,hS,E⟩;unfold jK at h;refine kif E rfl (λhd313=>?_) (λhd313=>?_)
 {
 have h:=aB hd313 h;refine ae (ah (qA E rfl λa E=>qA E rfl λa E=>ag (bp ?_)));have h:=bH h hb262;obtain rfl:=oi h
 try dsimp only
 refine f2 E ?_;exact⟨_,(Jj hm9 (Jj hm27 (Jj hm251 (Jj hm268 (Jj hm278 (Jj hm294 hm306)))))),(S.dropR (hS.dropL 2)),_,_,rfl,(wa (m:=m305) (k:=aW)),(au (show inR .i64 80 from aw (by decide)))⟩}
 {have h:=aC hd313 h;refine aP (ah (qM E rfl λa E=>qM E rfl λa E=>qB E rfl rfl (bn rfl) λa E=>?_));obtain⟨x319,hx320,h⟩:=ob h;refine st E (dq (k:=(ai .u8)) E rfl underlying24 sizeOf5 (hv254.mono (Jj hm268 (Jj hm278 (Jj hm294 hm306)))) ⟨_,rfl⟩ rfl hx320 (xl:=(some (.tmp 92))) (xh:=none)) rfl ?_;rintro v322 a _ ⟨rfl,hv321⟩ E;refine qA E rfl λa E=>ag (ah (qB E rfl rfl (bn rfl) λa E=>qM E rfl λa E=>ag ?_));exact⟨(x319,Z1.wrap (x255+1),x309),(Option.some.inj h).symm,_,(Jj hm251 (Jj hm268 (Jj hm278 (Jj hm294 hm306)))),v322,rw308,cs310,hv321,(aq _ _),hc311,hS,kut E⟩}}}}}
 {have h:=aC hd264 h;refine cL rfl rfl ?_;have h:=bH h hb262;exact⟨x252,x258,h,_,hm251,v253,rw257,cs259,hv254,hc260,hS,kut E⟩}}}
 {
 rintro a w ⟨x75,x79,h,m73,hm74,v76,rw78,cs80,hv77,hc81,hS,E⟩;unfold lY at h;refine ae (ae ?_);have hS:=S.dropR hS;obtain⟨m83,hm84,hS,hv87⟩:=S.freeze hS hc81.1;obtain⟨m85,hm86,hS,hp88⟩:=S.freezeL (k:=aW) (xx:=({ r24.2.2.2 with fL:=x79 })) hS (LN (If.mono (Jj hm74 hm84) hc62) hq63 hv87);refine bL (λa w=>∃x92:Bool,jJ r24 x79 x92=some r∧∃m',M.le m85 m'∧S W0 m' w L TL∧Env 120 a [(4,pz b5),(118,.bool x92)]) ?_ ?_
 {
 rcases Z0 (decide (0<(x75.length:Int))) with hd100|hd100
 {
 have h:=aB hd100 h
 refine kch (k:=16) (m:=m85) (es:=[]) (Φ:=(λi m ws v=>match i with|0=>v=v76|1=>ei .i64 (x75.length:Int) v|2=>v=(.bool (decide (0<(x75.length:Int))))|3=>v=(.bool (decide (0<(x75.length:Int))))|4=>v=undef|5=>v=undef|6=>v=undef|7=>v=undef|8=>v=undef|9=>v=undef|10=>v=undef|11=>v=undef|12=>v=undef|13=>v=undef|14=>v=undef|15=>v=undef|_=>True)) (Q:=(λc m ws L' TL'=>match c with|0=>L=L'∧TL=TL'|_=>False)) (cs:=[⟨0,0,false,[(6,v76)]⟩,⟨0,0,false,[]⟩,⟨0,0,false,[]⟩,⟨0,0,false,[]⟩,⟨0,0,false,[(4,pz b5)]⟩,⟨0,0,false,[]⟩,⟨0,0,false,[]⟩,⟨0,0,false,[]⟩,⟨0,0,false,[(4,pz b5)]⟩,⟨0,0,false,[]⟩,⟨0,0,false,[]⟩,⟨0,0,false,[]⟩,⟨0,0,false,[(4,pz b5)]⟩,⟨0,0,false,[]⟩,⟨0,0,false,[]⟩,⟨0,0,false,[]⟩]) mixed E hS ⟨rfl,rfl⟩ rfl rfl (by kernel_rfl) ?_ ?_ ?_ ?_
 {
 intro i m_ m2_ ws v n_ q_
 iterate 16 (rcases i with _|i;exact q_)
 exact trivial}
 {
 intro c m_ m2_ ws L_ T_ n_ hq_
 match c,hq_ with
 |0,⟨e1_,e2_⟩=>exact⟨e1_,e2_⟩
 |_+1,hq_=>exact hq_.elim}
 {
 refine⟨?_,?_,?_,?_,?_,?_,?_,?_,?_,?_,?_,?_,?_,?_,?_,?_,trivial⟩
 {exact cmv λ_ _=>rfl}
 {refine cp0 λ_ _ _ _ _ _ _ M' _ Z' E' T'=>?_;have E:=E'.add (T' 0);exact cq (aS (k:=(ai .u8)) E rfl rfl underlying24 (hv77.mono (Jj hm84 (Jj hm86 M')))) Z' ⟨rfl,(dA (g8 (hv77.mono (Jj hm84 (Jj hm86 M')))))⟩}
 {refine cp0 λ_ _ _ _ _ _ _ _ _ Z' E' T'=>?_;have E:=E'.add (T' 1).1;exact cq (aR E rfl rfl iM) Z' rfl}
 {refine cp0 λ_ _ _ _ _ _ _ _ _ Z' E' T'=>?_;have E:=E'.add (T' 2);exact cq (iy E rfl) Z' rfl}
 {exact csk (gz hd100)}
 {exact csk (gz hd100)}
 {exact csk (gz hd100)}
 {exact csk (gz hd100)}
 {exact csk (gz hd100)}
 {exact csk (gz hd100)}
 {exact csk (gz hd100)}
 {exact csk (gz hd100)}
 {exact csk (gz hd100)}
 {exact csk (gz hd100)}
 {exact csk (gz hd100)}
 {exact csk (gz hd100)}}
 {intro ws_ L_ T_ m115 a w hl116 hm117 hq118 hS hd119 hn120 ho121 hT122;obtain rfl:=d3 hl116;obtain⟨rfl,rfl⟩:=hq118;have E:=eof 16 [(4,pz b5),(6,v76)] hd119 hn120 ho121;have E:=(((E.add (hT122 3)).add (hT122 7)).add (hT122 11)).add (hT122 15);refine qX E hd100 λa E=>qX E hd100 λa E=>qT E hd100 rfl λa E=>qM E rfl λa E=>qX E rfl λa E=>qX E rfl λa E=>qX E rfl λa E=>qT E rfl rfl λa E=>ag ?_;exact⟨true,h,_,hm117,hS,kut E⟩}}
 {
 have h:=aC hd100 h;obtain⟨x138,hx139,x144,hx145,h⟩:=ob2 h;obtain⟨x149,hx150,h⟩:=ob h
 refine kch (k:=16) (m:=m85) (es:=[]) (Φ:=(λi m ws v=>match i with|0=>v=v76|1=>ei .i64 (x75.length:Int) v|2=>v=(.bool (decide (0<(x75.length:Int))))|3=>v=(.bool (decide (0<(x75.length:Int))))|4=>v=(pz b5)|5=>v=(pz b5)|6=>PR (ai .i64) m v x138.fColumns|7=>ei .i64 x138.fColumns v|8=>v=(pz b5)|9=>v=(pz b5)|10=>PR (kSl (ai .i64)) m v x144.fSort|11=>RV (kSl (ai .i64)) m v x144.fSort|12=>v=(pz b5)|13=>v=(pz b5)|14=>PR (kSl ab) m v x149.fL|15=>RV (kSl ab) m v x149.fL|_=>True)) (Q:=(λc m ws L' TL'=>match c with|0=>L=L'∧TL=TL'|_=>False)) (cs:=[⟨0,0,false,[(6,v76)]⟩,⟨0,0,false,[]⟩,⟨0,0,false,[]⟩,⟨0,0,false,[]⟩,⟨0,0,false,[(4,pz b5)]⟩,⟨0,0,false,[]⟩,⟨0,0,false,[]⟩,⟨0,0,false,[]⟩,⟨0,0,false,[(4,pz b5)]⟩,⟨0,0,false,[]⟩,⟨0,0,false,[]⟩,⟨0,0,false,[]⟩,⟨0,0,false,[(4,pz b5)]⟩,⟨0,0,false,[]⟩,⟨0,0,false,[]⟩,⟨0,0,false,[]⟩]) mixed E hS ⟨rfl,rfl⟩ rfl rfl (by kernel_rfl) ?_ ?_ ?_ ?_
 {
 intro i m_ m2_ ws v n_ q_
 iterate 16 (rcases i with _|i;first|exact q_|exact PR.mono q_ n_|exact RV.mono q_ n_)
 exact trivial}
 {
 intro c m_ m2_ ws L_ T_ n_ hq_
 match c,hq_ with
 |0,⟨e1_,e2_⟩=>exact⟨e1_,e2_⟩
 |_+1,hq_=>exact hq_.elim}
 {
 refine⟨?_,?_,?_,?_,?_,?_,?_,?_,?_,?_,?_,?_,?_,?_,?_,?_,trivial⟩
 {exact cmv λ_ _=>rfl}
 {refine cp0 λ_ _ _ _ _ _ _ M' _ Z' E' T'=>?_;have E:=E'.add (T' 0);exact cq (aS (k:=(ai .u8)) E rfl rfl underlying24 (hv77.mono (Jj hm84 (Jj hm86 M')))) Z' ⟨rfl,(dA (g8 (hv77.mono (Jj hm84 (Jj hm86 M')))))⟩}
 {refine cp0 λ_ _ _ _ _ _ _ _ _ Z' E' T'=>?_;have E:=E'.add (T' 1).1;exact cq (aR E rfl rfl iM) Z' rfl}
 {refine cp0 λ_ _ _ _ _ _ _ _ _ Z' E' T'=>?_;have E:=E'.add (T' 2);exact cq (iy E rfl) Z' rfl}
 {exact cgm (gz hd100) (λ_ _=>rfl)}
 {refine cg0 (gz hd100) λ_ _ _ _ _ _ _ M' _ Z' E' T'=>?_;have E:=E'.add (T' 4);exact cq (lj E rfl ((sP hp88).mono M') hx139) Z' rfl}
 {refine cg0 (gz hd100) λ_ _ _ _ _ _ _ M' _ Z' E' T'=>?_;have E:=E'.add (T' 5);exact cr (eW E oL Fe rfl ((mt (sP hp88) hx139).mono M')) Z' λ_ h=>h}
 {
 refine cg0 (gz hd100) λ_ _ _ m' a' _ _ _ _ Z' E' T'=>?_;obtain⟨v177,e178,q179⟩:∃v,a'.tmps.getD 101 undef=v∧(PR (ai .i64) m' v x138.fColumns):=⟨_,rfl,T' 6⟩
 have E:=E'.add (e178);exact cr (bg E Z' ty3 rfl q179) Z' λ_ h=>aI h}
 {exact cgm (gz hd100) (λ_ _=>rfl)}
 {refine cg0 (gz hd100) λ_ _ _ _ _ _ _ M' _ Z' E' T'=>?_;have E:=E'.add (T' 8);exact cq (lj E rfl ((sP hp88).mono M') hx145) Z' rfl}
 {refine cg0 (gz hd100) λ_ _ _ _ _ _ _ M' _ Z' E' T'=>?_;have E:=E'.add (T' 9);exact cr (eW E mT uu rfl ((mt (sP hp88) hx145).mono M')) Z' λ_ h=>h}
 {
 refine cg0 (gz hd100) λ_ _ _ m' a' _ _ _ _ Z' E' T'=>?_;obtain⟨v191,e192,q193⟩:∃v,a'.tmps.getD 105 undef=v∧(PR (kSl (ai .i64)) m' v x144.fSort):=⟨_,rfl,T' 10⟩
 have E:=E'.add (e192);exact cr (bg E Z' oy rfl q193) Z' λ_ h=>h}
 {exact cgm (gz hd100) (λ_ _=>rfl)}
 {refine cg0 (gz hd100) λ_ _ _ _ _ _ _ M' _ Z' E' T'=>?_;have E:=E'.add (T' 12);exact cq (lj E rfl ((sP hp88).mono M') hx150) Z' rfl}
 {refine cg0 (gz hd100) λ_ _ _ _ _ _ _ M' _ Z' E' T'=>?_;have E:=E'.add (T' 13);exact cr (eW E lN oK rfl ((mt (sP hp88) hx150).mono M')) Z' λ_ h=>h}
 {
 refine cg0 (gz hd100) λ_ _ _ m' a' _ _ _ _ Z' E' T'=>?_;obtain⟨v204,e205,q206⟩:∃v,a'.tmps.getD 109 undef=v∧(PR (kSl ab) m' v x149.fL):=⟨_,rfl,T' 14⟩
 have E:=E'.add (e205);exact cr (bg E Z' sB rfl q206) Z' λ_ h=>h}}
 {
 intro ws_ L_ T_ m208 a w hl209 hm210 hq211 hS hd212 hn213 ho214 hT215;obtain rfl:=d3 hl209;obtain⟨rfl,rfl⟩:=hq211;have E:=eof 16 [(4,pz b5),(6,v76)] hd212 hn213 ho214;have E:=E.add (hT215 3);obtain⟨q221,hr222⟩:=hT215 7;have E:=E.add q221;obtain⟨v223,E,q225⟩:=adv E (hT215 11);obtain⟨v226,E,q228⟩:=adv E (hT215 15);obtain⟨r229,hr230,h⟩:=ob h;refine stg E rfl rfl rfl rfl hd100 (aA (vs:=[(.int .i64 x138.fColumns),v223,v226]) E rfl call74 (kp (hS:=hS) hr222 q225 q228 hr230)) rfl ?_;rintro v234 a w ⟨m231,hm232,hS,hv233⟩ E;obtain⟨rfl,hr235⟩:=aI hv233
 refine spg E rfl rfl rfl rfl hd100 (aR E rfl rfl lS) rfl λa E=>qF E hd100 rfl λa E=>qM E rfl λa E=>?_;rcases Z0 (r229 != 0) with hd239|hd239
 {have h:=aB hd239 h;refine qX E hd239 λa E=>qX E hd239 λa E=>qX E hd239 λa E=>qT E hd239 rfl λa E=>ag ?_;exact⟨true,h,_,(Jj hm210 hm232),hS,kut E⟩}
 {have h:=aC hd239 h;refine qG E hd239 rfl λa E=>?_;obtain⟨r242,hr243,h⟩:=ob h;refine stg E rfl rfl rfl rfl hd239 (aA (vs:=[(pz b5)]) E rfl call86 (uz (hS:=hS) ((sP hp88).mono (Jj hm210 hm232)) hr243)) rfl ?_;rintro v247 a w ⟨m244,hm245,hS,hv246⟩ E;obtain rfl:=ef hv246;refine spg E rfl rfl rfl rfl hd239 (j9 E rfl) rfl λa E=>qF E hd239 rfl λa E=>ag ?_;exact⟨(!r242),h,_,(Jj hm210 (Jj hm232 hm245)),hS,kut E⟩}}}}
 {
 rintro a w ⟨x92,h,m90,hm91,hS,E⟩;unfold jJ at h;refine kif E rfl (λhd94=>?_) (λhd94=>?_)
 {
 have h:=aB hd94 h;refine ae (ah (qA E rfl λa E=>qA E rfl λa E=>ag (bp ?_)));obtain rfl:=oi h
 try dsimp only
 refine f2 E ?_;exact⟨_,(Jj hm9 (Jj hm27 (Jj hm74 (Jj hm84 (Jj hm86 hm91))))),hS,_,_,rfl,(wa (m:=m90) (k:=aW)),(au (show inR .i64 80 from aw (by decide)))⟩}
 {
 have h:=aC hd94 h;refine aP (ae (ah (qM E rfl λa E=>qA E rfl λa E=>qA E rfl λa E=>ag (bp ?_))));obtain rfl:=oi h
 try dsimp only
 refine f2 E ?_;exact⟨_,(Jj hm9 (Jj hm27 (Jj hm74 (Jj hm84 (Jj hm86 hm91))))),hS,_,_,rfl,((sP hp88).mono hm91),(au (show inR .i64 0 from aw (by decide)))⟩}}}}}}
theorem uB  (hS:S W0 m w L TL) {p0} (ha0:RV ab m v0 p0) {p1} (ha1:PR bA m v1 p1) {r} (h:da p0 p1=some r):
    Calls prog 91 [v0,v1].toArray w (Ret λv w'=>∃m',M.le m m'∧S W0 m' w' L TL∧RV cG m' v r):=by
 refine kc func91 ntmps91 λa E=>?_;have E:Env 8 a [(0,v0),(1,v1)]:=E;unfold da at h;refine ae (ah ?_);refine st E (iz (k:=ab) E hS rfl ha0) rfl ?_;rintro _ a w ⟨b1,cs2,rfl,hc3,hS⟩ E;refine qA E rfl λa E=>ag (ae (ah (sp E (aJ E qH rfl) rfl λa E=>?_)));refine st E (aD E hS yX rfl (i:=0) rfl (Ad.R_drop (aQ hc3))) rfl ?_;rintro v8 a _ ⟨rfl,hv7⟩ E;refine st E (bg E hS yX rfl ha1) rfl ?_;rintro v10 a _ ⟨rfl,hv9⟩ E;refine sp E (za E Np rfl rfl hv7 hv9 rfl) rfl λa E=>qA E rfl λa E=>ag (bp ?_);obtain rfl:=oi h
 try dsimp only
 refine f1 E ?_;exact⟨_,(Z2 _),(hS.dropL 1),cI⟩
theorem QV:Ctr Sz prog 90 [.rd (.sl (.st 59)),.f1 (.st 59) .bool] [.rd (.int .i64)] (fun x=>eM x.1 x.2.1):=
 ncR [] [4] func90 ntmps90 (.s .o (.s (.s .o (.b (.l ⟨[.v 8 1 (.dat (.int .i64) none)],[0,1,7],0,[]⟩ .o))) .o)) λx=>by kernel_rfl
theorem qZ  (hS:S W0 m w L TL) {p0} (ha0:RV (kSl ab) m v0 p0) {p1} (ha1:Fn1 prog ab cG m v1 p1) {r} (h:eM p0 p1=some r):
    Calls prog 90 [v0,v1].toArray w (Ret λv w'=>∃m',M.le m m'∧S W0 m' w' L TL∧RV (ai .i64) m' v r):=by
 refine rm (QV W0 m w L TL [v0,v1] (p0,p1,()) r [] [] hS ⟨ha0,⟨ha1,trivial⟩⟩ h) λv w' he=>?_;obtain⟨m',us,Lr,Lq,Tr,hm,Z',rfl,hR,hO⟩:=he;obtain⟨u0,us,rfl,r0,hR0⟩:=cZ hR;obtain⟨rfl,rfl,rfl⟩:=cl hR0;have hO0:=bG hO;have hO1:=J0 hO0;obtain rfl:=cm hO1;exact⟨m',hm,Z',r0⟩
theorem QW {m0:M}{vc0:Value}{xc0:aM}(hc0:PR bA m0 vc0 xc0):Fn1 prog ab cG m0 (.func (.func 91) [].toArray [vc0].toArray) (λx0=>da x0 xc0):=by
  refine⟨91,_,rfl,call91,?_⟩;intro W0 m w L TL v0 x0 r hm hS h0 hr;refine(uB (hS:=hS) h0 (hc0.mono hm) hr).mono ?_;intro e w' he;cases e with
  |returned v=>obtain⟨m',h1,h2,h3⟩:=he;exact⟨m',h1,h2,h3⟩
  |panicked ch=>exact he.elim
  |outgrown=>exact he.elim
theorem vQ  (hS:S W0 m w L TL) {p0} (ha0:RV (kPt aW) m v0 p0) {p1} (ha1:RV bA m v1 p1) {r} (h:iI p0 p1=some r):
    Calls prog 37 [v0,v1].toArray w (Ret λv w'=>∃m',M.le m m'∧S W0 m' w' L TL∧∃v0_ v1_:Value,v= .tuple #[v0_,v1_]∧RV (ai .i64) m' v0_ r.1∧RV cG m' v1_ r.2):=by
 refine kc func37 ntmps37 λa E=>?_;have E:Env 17 a [(0,v0),(1,v1)]:=E;unfold iI at h;refine ae (ah ?_);refine st E (iz (k:=bA) E hS rfl ha1) rfl ?_;rintro _ a w ⟨b1,cs2,rfl,hc3,hS⟩ E;refine qA E rfl λa E=>qA E rfl λa E=>ag (ae (ah (qM E rfl λa E=>?_)));obtain⟨x8,hx9,h⟩:=ob h;refine sp E (lj E rfl ha0 hx9) rfl λa E=>?_;refine st E (eW E lN oK rfl (mt ha0 hx9)) rfl ?_;rintro v13 a _ ⟨rfl,hp12⟩ E;refine st E (bg E hS sB rfl hp12) rfl ?_;rintro v15 a _ ⟨rfl,hv14⟩ E;obtain⟨m16,hm17,hS,hp18⟩:=S.freezeL (k:=bA) hS hc3;refine sp E (mq E rfl rfl) rfl λa E=>?_
 obtain⟨r20,hr21,h⟩:=ob h;refine st E (aA (vs:=[v15,(.func (.func 91) [].toArray [(pz b1)].toArray)]) E rfl call90 (by have q0_:=(hv14.mono hm17);have q1_:=(QW hp18);exact qZ (p0:=x8.fL) (p1:=(λy0_=>da y0_ p1)) (hS:=hS) q0_ q1_ hr21)) rfl ?_;rintro v25 a w ⟨m22,hm23,hS,hv24⟩ E;obtain⟨rfl,hr26⟩:=aI hv24;refine qA E rfl λa E=>ag (ae (ah (qM E rfl λa E=>sp E (Gx E rfl rfl) rfl λa E=>qM E rfl λa E=>qB E rfl rfl y8 λa E=>qA E rfl λa E=>qA E rfl λa E=>?_)));refine ag (bp ?_);obtain rfl:=oi h
 try dsimp only
 refine f2 E ?_;exact⟨_,(Jj hm17 hm23),hS,_,_,rfl,(au (EC hr26 (show inR .i64 0 from aw (by decide)))),cI⟩
theorem xi  (hS:S W0 m w L TL) {p0} (ha0:RV (kPt aW) m v0 p0) {r} (h:ov p0=some r):
    Calls prog 35 [v0].toArray w (Ret λv w'=>∃m',M.le m m'∧S W0 m' w' L TL∧RV (ai .i64) m' v r):=by
 refine kc func35 ntmps35 λa E=>?_;have E:Env 8 a [(0,v0)]:=E;unfold ov at h;refine ae (ah (qA E rfl λa E=>ag (ae (ah (qM E rfl λa E=>?_)))));obtain⟨x3,hx4,h⟩:=ob h;refine sp E (lj E rfl ha0 hx4) rfl λa E=>?_;refine st E (eW E lN oK rfl (mt ha0 hx4)) rfl ?_;rintro v8 a _ ⟨rfl,hp7⟩ E;refine st E (bg E hS sB rfl hp7) rfl ?_;rintro v10 a _ ⟨rfl,hv9⟩ E;refine sp E (aS (k:=ab) E rfl rfl underlying50 hv9) rfl λa E=>qA E rfl λa E=>ag (bp ?_);obtain rfl:=oi h
 try dsimp only
 refine f1 E ?_;exact⟨_,(Z2 _),hS,(au (dA (g8 hv9)))⟩
theorem Aq  (hS:S W0 m w L TL)  {r} (h:pR=some r):
    Calls prog 29 [].toArray w (Ret λv w'=>∃m',M.le m m'∧S W0 m' w' L TL∧RV cG m' v r):=by
 refine kc func29 ntmps29 λa E=>?_;have E:Env 52 a []:=E;unfold pR at h;refine ae (ah (qA E rfl λa E=>ag (ae (ah ?_))));refine st E (gF (k:=(ai .i64)) (xs:=[0]) (vs:=[(.int .i64 0)]) E hS rfl underlying49 sizeOf3 zeroValue3 ⟨(au (show inR .i64 0 from aw (by decide))),trivial⟩ rfl (by decide)) rfl ?_;rintro v5 a w ⟨m3,hm4,hS,hv2⟩ E;refine st E (jR (m:=m3) (k:=bA) (x0:=aM.zero) (xx:=(⟨1,0⟩:aM)) (pl:=[(0,1),(1,1)]) (pv:=[(0,.int .u64 1)]) E rfl underlying57 rfl zeroValue57 D6 rfl (.cons rfl w8 (au (show inR .u64 1 from aw (by decide))) .nil)) rfl ?_;rintro v7 a _ ⟨rfl,hv6⟩ E
 refine st E (jR (m:=m3) (k:=kAp) (x0:=Ap.zero) (xx:=(⟨2,false,2,[]⟩:Ap)) (pl:=[(0,1),(1,1),(2,1),(3,1)]) (pv:=[(0,.int .i64 2),(2,.int .i64 2)]) E rfl underlying32 rfl zeroValue32 pY rfl (.cons rfl DX (au (show inR .i64 2 from aw (by decide))) (.cons rfl DY (au (show inR .i64 2 from aw (by decide))) .nil))) rfl ?_;rintro v9 a _ ⟨rfl,hv8⟩ E;refine st E (gF (k:=kAp) (xs:=[(⟨2,false,2,[]⟩:Ap)]) (vs:=[v9]) E hS rfl underlying22 sizeOf32 zeroValue32 ⟨hv8,trivial⟩ rfl (by decide)) rfl ?_;rintro v13 a w ⟨m11,hm12,hS,hv10⟩ E
 refine st E (jR (m:=m11) (k:=ab) (x0:=aa.zero) (xx:=(⟨(⟨1,0⟩:aM),[(⟨2,false,2,[]⟩:Ap)],0⟩:aa)) (pl:=[(0,2),(2,1),(3,1)]) (pv:=[(0,v7),(1,v13)]) E rfl underlying59 rfl zeroValue59 vo rfl (.cons rfl w9 (hv6.mono hm12) (.cons rfl Ae hv10 .nil))) rfl ?_;rintro v15 a _ ⟨rfl,hv14⟩ E;refine st E (jR (m:=m11) (k:=bA) (x0:=aM.zero) (xx:=(⟨2,0⟩:aM)) (pl:=[(0,1),(1,1)]) (pv:=[(0,.int .u64 2)]) E rfl underlying57 rfl zeroValue57 D6 rfl (.cons rfl w8 (au (show inR .u64 2 from aw (by decide))) .nil)) rfl ?_;rintro v17 a _ ⟨rfl,hv16⟩ E
 refine st E (jR (m:=m11) (k:=kAp) (x0:=Ap.zero) (xx:=(⟨2,false,1,[]⟩:Ap)) (pl:=[(0,1),(1,1),(2,1),(3,1)]) (pv:=[(0,.int .i64 2),(2,.int .i64 1)]) E rfl underlying32 rfl zeroValue32 pY rfl (.cons rfl DX (au (show inR .i64 2 from aw (by decide))) (.cons rfl DY (au (show inR .i64 1 from aw (by decide))) .nil))) rfl ?_;rintro v19 a _ ⟨rfl,hv18⟩ E;refine st E (gF (k:=kAp) (xs:=[(⟨2,false,1,[]⟩:Ap)]) (vs:=[v19]) E hS rfl underlying22 sizeOf32 zeroValue32 ⟨hv18,trivial⟩ rfl (by decide)) rfl ?_;rintro v23 a w ⟨m21,hm22,hS,hv20⟩ E
 refine st E (jR (m:=m21) (k:=ab) (x0:=aa.zero) (xx:=(⟨(⟨2,0⟩:aM),[(⟨2,false,1,[]⟩:Ap)],0⟩:aa)) (pl:=[(0,2),(2,1),(3,1)]) (pv:=[(0,v17),(1,v23)]) E rfl underlying59 rfl zeroValue59 vo rfl (.cons rfl w9 (hv16.mono hm22) (.cons rfl Ae hv20 .nil))) rfl ?_;rintro v25 a _ ⟨rfl,hv24⟩ E;refine st E (gF (k:=ab) (xs:=[(⟨(⟨1,0⟩:aM),[(⟨2,false,2,[]⟩:Ap)],0⟩:aa),(⟨(⟨2,0⟩:aM),[(⟨2,false,1,[]⟩:Ap)],0⟩:aa)]) (vs:=[v15,v25]) E hS rfl underlying50 sizeOf59 zeroValue59 ⟨(hv14.mono hm22),hv24,trivial⟩ rfl (by decide)) rfl ?_;rintro v29 a w ⟨m27,hm28,hS,hv26⟩ E;obtain⟨r30,hr31,h⟩:=ob h
 refine st E (aA (vs:=[(.int .i64 1),v5,(.slice none 0 0),v29]) E rfl call31 (tp (hS:=hS) (show inR .i64 1 from aw (by decide)) (hv2.mono (Jj hm12 (Jj hm22 hm28))) dF hv26 hr31)) rfl ?_;rintro _ a w ⟨m32,hm33,hS,v0_34,v1_35,rfl,hv0_36,hv1_37⟩ E;obtain⟨rfl,hr39⟩:=aI hv1_37;refine qM E rfl λa E=>sp E (bE E rfl rfl) rfl λa E=>sp E (bE E rfl rfl) rfl λa E=>qA E rfl λa E=>qA E rfl λa E=>ag (ae (ah (qM E rfl λa E=>?_)));obtain⟨r46,hr47,h⟩:=ob h;refine st E (aA (vs:=[v0_34]) E rfl call33 (uA (hS:=hS) hv0_36 hr47)) rfl ?_;rintro _ a w ⟨m48,hm49,hS,v0_50,v1_51,rfl,hv0_52,hv1_53⟩ E
 obtain⟨rfl,hr55⟩:=aI hv1_53;refine qM E rfl λa E=>sp E (bE E rfl rfl) rfl λa E=>sp E (bE E rfl rfl) rfl λa E=>qA E rfl λa E=>qA E rfl λa E=>ag (ae (ae ?_));refine bL (λa w=>∃x63:Bool,lJ r46 x63=some r∧∃m',M.le m48 m'∧S W0 m' w L TL∧Env 52 a [(3,v0_50),(35,.bool x63)]) ?_ ?_
 {
 refine ah (qM E rfl λa E=>qB E rfl rfl lS λa E=>qM E rfl λa E=>?_);rcases Z0 (r30.2 != 0) with hd117|hd117
 {have h:=aB hd117 h;refine qX E hd117 λa E=>qX E hd117 λa E=>qT E hd117 rfl λa E=>qM E rfl λa E=>qX E rfl λa E=>qX E rfl λa E=>qT E rfl rfl λa E=>ag ?_;exact⟨true,h,_,(Z2 _),(hS.pickT 4 [] rfl rfl rfl),kut E⟩}
 {
 have h:=aC hd117 h;refine qG E hd117 rfl λa E=>spg E rfl rfl rfl rfl hd117 (aR E rfl rfl lS) rfl λa E=>qF E hd117 rfl λa E=>qM E rfl λa E=>?_;rcases Z0 (r46.2 != 0) with hd125|hd125
 {have h:=aB hd125 h;refine qX E hd125 λa E=>qX E hd125 λa E=>qT E hd125 rfl λa E=>ag ?_;exact⟨true,h,_,(Z2 _),(hS.pickT 4 [] rfl rfl rfl),kut E⟩}
 {have h:=aC hd125 h;refine qG E hd125 rfl λa E=>spg E rfl rfl rfl rfl hd125 (GI E rfl rfl underlying65 hv0_52) rfl λa E=>qF E hd125 rfl λa E=>ag ?_;exact⟨r46.1.isNone,h,_,(Z2 _),(hS.pickT 4 [] rfl rfl rfl),kut E⟩}}}
 {
 rintro a w ⟨x63,h,m61,hm62,hS,E⟩;unfold lJ at h;refine kif E rfl (λhd65=>?_) (λhd65=>?_)
 {
 have h:=aB hd65 h;refine ae (ah (qA E rfl λa E=>ag (bp ?_)));obtain rfl:=oi h
 try dsimp only
 refine f1 E ?_;exact⟨_,(Jj hm4 (Jj hm12 (Jj hm22 (Jj hm28 (Jj hm33 (Jj hm49 hm62)))))),hS,cI⟩}
 {
 have h:=aC hd65 h;refine aP (ae (ah (qM E rfl λa E=>?_)));refine st E (jR (m:=m61) (k:=bA) (x0:=aM.zero) (xx:=(⟨1,0⟩:aM)) (pl:=[(0,1),(1,1)]) (pv:=[(0,.int .u64 1)]) E rfl underlying57 rfl zeroValue57 D6 rfl (.cons rfl w8 (au (show inR .u64 1 from aw (by decide))) .nil)) rfl ?_;rintro v69 a _ ⟨rfl,hv68⟩ E;obtain⟨r70,hr71,h⟩:=ob h;refine st E (aA (vs:=[v0_50,v69]) E rfl call37 (vQ (hS:=hS) (hv0_52.mono hm62) hv68 hr71)) rfl ?_;rintro _ a w ⟨m72,hm73,hS,v0_74,v1_75,rfl,hv0_76,hv1_77⟩ E;obtain⟨rfl,hr79⟩:=aI hv0_76;obtain rfl:=ef hv1_77
 refine qM E rfl λa E=>sp E (bE E rfl rfl) rfl λa E=>sp E (bE E rfl rfl) rfl λa E=>qA E rfl λa E=>qA E rfl λa E=>ag (ae ?_);refine bL (λa w=>∃x87:Bool,nG x87=some r∧∃m',M.le m72 m'∧S W0 m' w L TL∧Env 52 a [(0,.bool x87)]) ?_ ?_
 {
 refine ah (qM E rfl λa E=>?_);obtain⟨r90,hr91,h⟩:=ob h;refine st E (aA (vs:=[v0_50]) E rfl call35 (xi (hS:=hS) (hv0_52.mono (Jj hm62 hm73)) hr91)) rfl ?_;rintro v95 a w ⟨m92,hm93,hS,hv94⟩ E;obtain⟨rfl,hr96⟩:=aI hv94;refine qB E rfl rfl fX λa E=>qM E rfl λa E=>?_;rcases Z0 (r90==2) with hd99|hd99
 {
 have h:=aB hd99 h;refine qG E hd99 rfl λa E=>spg E rfl rfl rfl rfl hd99 (aR E rfl rfl fX) rfl λa E=>qT E hd99 rfl λa E=>qM E rfl λa E=>?_;rcases Z0 (r70.1==1) with hd104|hd104
 {have h:=aB hd104 h;refine qG E hd104 rfl λa E=>qT E hd104 rfl λa E=>qA E rfl λa E=>ag ?_;exact⟨r70.2,h,_,hm93,hS,kut E⟩}
 {have h:=aC hd104 h;refine qX E hd104 λa E=>qF E hd104 rfl λa E=>qA E rfl λa E=>ag ?_;exact⟨false,h,_,hm93,hS,kut E⟩}}
 {have h:=aC hd99 h;refine qX E hd99 λa E=>qX E hd99 λa E=>qF E hd99 rfl λa E=>qM E rfl λa E=>qX E rfl λa E=>qF E rfl rfl λa E=>qA E rfl λa E=>ag ?_;exact⟨false,h,_,hm93,hS,kut E⟩}}
 {
 rintro a w ⟨x87,h,m85,hm86,hS,E⟩;unfold nG at h;refine bp ?_;obtain rfl:=oi h
 try dsimp only
 refine f1 E ?_;exact⟨_,(Jj hm4 (Jj hm12 (Jj hm22 (Jj hm28 (Jj hm33 (Jj hm49 (Jj hm62 (Jj hm73 hm86)))))))),hS,cI⟩}}}
theorem QX:Ctr Sz prog 18 [.rd (.sl (.st 32)),.rd (.sl (.st 32))] [.rd .bool] (fun x=>rg x.1 x.2.1):=
 ncR [] [4] func18 ntmps18 (.s .o (.s .o (.s (.s .o (.b (.l ⟨[.v 5 1 (.dat (.int .i64) none)],[0,1],0,[]⟩ .o))) .o))) λx=>by kernel_rfl
def QY:=mC QX call18
theorem QZ:Ctr Sz prog 73 [.rd (.st 59),.rd (.st 59)] [.rd .bool] (fun x=>mL x.1 x.2.1):=
 ncR [QY] [4] func73 ntmps73 .o λx=>by kernel_rfl
def Q0:=mC QZ call73
theorem Q1:Ctr Sz prog 30 [.rd (.sl (.st 59)),.rd (.sl (.st 59))] [.rd .bool] (fun x=>jN x.1 x.2.1):=
 ncR [Q0] [4] func30 ntmps30 (.s .o (.s .o (.s (.s .o (.b (.l ⟨[.v 5 1 (.dat (.int .i64) none)],[0,1],0,[]⟩ .o))) .o))) λx=>by kernel_rfl
theorem xS  (hS:S W0 m w L TL) {p0} (ha0:RV (kSl ab) m v0 p0) {p1} (ha1:RV (kSl ab) m v1 p1) {r} (h:jN p0 p1=some r):
    Calls prog 30 [v0,v1].toArray w (Ret λv w'=>∃m',M.le m m'∧S W0 m' w' L TL∧RV cG m' v r):=by
 refine rm (Q1 W0 m w L TL [v0,v1] (p0,p1,()) r [] [] hS ⟨ha0,⟨ha1,trivial⟩⟩ h) λv w' he=>?_;obtain⟨m',us,Lr,Lq,Tr,hm,Z',rfl,hR,hO⟩:=he;obtain⟨u0,us,rfl,r0,hR0⟩:=cZ hR;obtain⟨rfl,rfl,rfl⟩:=cl hR0;have hO0:=bG hO;have hO1:=bG hO0;obtain rfl:=cm hO1;exact⟨m',hm,Z',r0⟩
theorem sK {σ:Type} {I:M→σ→Mem→Tls→Prop} {step:σ→aa→Option (σ×Bool)} {B:σ→Bse} {v0:Value} {m:M} {w:World} {L:Mem} {TL:Tls} {s0_:σ} {Ls_0:Mem} {TLs_0:Tls} (mono: ∀m m' s a b,M.le m m'→I m s a b→I m' s a b) (hy:ze prog (Rv1 ab) B v0 I step) (hI0_:I m s0_ Ls_0 TLs_0) (hS:S (B s0_) m w (Ls_0++L) (TLs_0++TL)) {v1:Value} {p1:(Option ax)} (ha1:PR (kPt aW) m v1 p1) {v2:Value} {p2:Int} (ha2:PR (ai .i64) m v2 p2) {r:σ} (h:dM step s0_ p1 p2=some r):
    Calls prog 140 [v0,v1,v2].toArray w (Ret λ_ w'=>∃m' Ls' TLs',M.le m m'∧I m' r Ls' TLs'∧S (B r) m' w' (Ls'++L) (TLs'++TL)):=by
 refine xq (args:=[v0,v1,v2]) func140 rfl ntmps140 (Nat.le_of_ble_eq_true rfl) λa E=>?_;have E:Env 23 a [(0,v0),(1,v1),(2,v2)]:=E;unfold dM at h;refine ae ?_;obtain⟨x2,hx3,x9,hx10,h⟩:=ob2 h
 refine kch (k:=8) (m:=m) (es:=[]) (Φ:=(λi m ws v=>match i with|0=>RV (kPt aW) m v p1|1=>PR aW m v x2|2=>PR (kSl ab) m v x2.fL|3=>RV (kSl ab) m v x2.fL|4=>ei .i64 p2 v|5=>RV (kSl ab) m v x9|6=>ei .i64 (x9.length:Int) v|7=>ei .i64 0 v|_=>True)) (Q:=(λc m ws L' TL'=>match c with|0=>(Ls_0++L)=L'∧(TLs_0++TL)=TL'|_=>False)) (cs:=[⟨0,0,false,[(1,v1)]⟩,⟨0,0,false,[]⟩,⟨0,0,false,[]⟩,⟨0,0,false,[]⟩,⟨0,0,false,[(2,v2)]⟩,⟨0,0,false,[]⟩,⟨0,0,false,[]⟩,⟨0,0,false,[]⟩]) mixed E hS ⟨rfl,rfl⟩ rfl rfl (by kernel_rfl) ?_ ?_ ?_ ?_
 {
 intro i m_ m2_ ws v n_ q_
 iterate 8 (rcases i with _|i;first|exact q_|exact RV.mono q_ n_|exact PR.mono q_ n_)
 exact trivial}
 {
 intro c m_ m2_ ws L_ T_ n_ hq_
 match c,hq_ with
 |0,⟨e1_,e2_⟩=>exact⟨e1_,e2_⟩
 |_+1,hq_=>exact hq_.elim}
 {
 refine⟨?_,?_,?_,?_,?_,?_,?_,?_,trivial⟩
 {refine cp0 λ_ _ _ _ _ _ _ M' _ Z' E' _=>?_;exact cr (bg E' Z' Rw rfl (ha1.mono M')) Z' λ_ h=>h}
 {refine cp0 λ_ _ _ m' a' _ _ _ _ Z' E' T'=>?_;obtain⟨v13,E,q15⟩:=adv E' (T' 0);exact cq (lj E rfl q15 hx3) Z' ((mt q15 hx3))}
 {
 refine cp0 λ_ _ _ m' a' _ _ _ _ Z' E' T'=>?_;obtain⟨v17,e18,q19⟩:∃v,a'.tmps.getD 7 undef=v∧(PR aW m' v x2):=⟨_,rfl,T' 1⟩
 have E:=E'.add (e18);exact cr (eW E lN oK rfl q19) Z' λ_ h=>h}
 {
 refine cp0 λ_ _ _ m' a' _ _ _ _ Z' E' T'=>?_;obtain⟨v21,e22,q23⟩:∃v,a'.tmps.getD 8 undef=v∧(PR (kSl ab) m' v x2.fL):=⟨_,rfl,T' 2⟩
 have E:=E'.add (e22);exact cr (bg E Z' sB rfl q23) Z' λ_ h=>h}
 {refine cp0 λ_ _ _ _ _ _ _ M' _ Z' E' _=>?_;exact cr (bg E' Z' ty3 rfl (ha2.mono M')) Z' λ_ h=>aI h}
 {
 refine cp0 λ_ _ _ m' a' _ _ _ _ Z' E' T'=>?_;obtain⟨v27,e28,q29⟩:∃v,a'.tmps.getD 9 undef=v∧(RV (kSl ab) m' v x2.fL):=⟨_,rfl,T' 3⟩
 have E:=(E'.add (e28)).add (T' 4).1;exact cr (dq (k:=ab) E rfl underlying50 sizeOf59 q29 ⟨_,rfl⟩ rfl hx10 (xl:=(some (.tmp 10))) (xh:=none)) Z' λ_ h=>h}
 {refine cp0 λ_ _ _ m' a' _ _ _ _ Z' E' T'=>?_;obtain⟨v35,E,q37⟩:=adv E' (T' 5);exact cq (aS (k:=ab) E rfl rfl underlying50 q37) Z' ⟨rfl,(dA (g8 q37))⟩}
 {exact cmv λ_ _=>⟨rfl,(show inR .i64 0 from aw (by decide))⟩}}
 {
 intro ws_ L_ T_ m40 a w hl41 hm42 hq43 hS hd44 hn45 ho46 hT47;obtain rfl:=d3 hl41;obtain⟨rfl,rfl⟩:=hq43;have E:=eof 8 [(0,v0),(1,v1),(2,v2)] hd44 hn45 ho46;obtain⟨v48,e49,q50⟩:∃v,a.tmps.getD 11 undef=v∧(RV (kSl ab) m40 v x9):=⟨_,rfl,hT47 5⟩
 have E:=(E.add (e49)).add (hT47 6).1;obtain⟨q57,hr58⟩:=hT47 7;have E:=E.add q57;refine ag (aL ?_);refine cP h (λ(s:Int×σ) a w=>∃m',M.le m40 m'∧∃(Ls64:Mem),∃(TLs65:Tls),inR .i64 s.1∧I m' s.2 Ls64 TLs65∧S (B s.2) m' w ((Ls64++L)) ((TLs65++TL))∧Env 23 a [(0,v0),(11,v48),(12,.int .i64 (x9.length:Int)),(13,.int .i64 s.1)]) ?_ ?_
 {exact⟨_,(Z2 _),Ls_0,TLs_0,hr58,(mono _ _ _ _ _ hm42 hI0_),hS,kut E⟩}
 {
 rintro ⟨x61,x63⟩ a w ⟨m59,hm60,Ls64,TLs65,hr62,hI66,hS,E⟩ r67 h hb68;have h:cF step x9 x61 x63=some r67:=h;unfold cF at h;refine ae (ah (qB E rfl rfl bw λa E=>ag (ae (kif E rfl (λhd70=>?_) (λhd70=>?_)))))
 {
 have h:=aB hd70 h;refine aP (ae (aL (ae (ah ?_))));obtain⟨x71,hx72,h⟩:=ob h;refine st E (dW (k:=ab) E rfl rfl underlying50 sizeOf59 (q50.mono hm60) hx72) rfl ?_;rintro v74 a _ ⟨rfl,hp73⟩ E;refine st E (bg E hS eC rfl hp73) rfl ?_;rintro v76 a _ ⟨rfl,hv75⟩ E;refine st E (dp hS zeroValue59 rfl (cs:=D4)) rfl ?_;rintro _ a w ⟨b77,rfl,hS⟩ E;refine st0 E (dc E hS eC bq rfl rfl hv75 (i:=0) rfl (vo _)) ?_;rintro _ w ⟨cs79,hc80,hS⟩ E;refine ag (ae (ah (qM E rfl λa E=>?_)));refine st E (aD E hS eC rfl (i:=0) rfl (aQ hc80)) rfl ?_;rintro v84 a _ ⟨rfl,hv83⟩ E;obtain⟨r85,hr86,h⟩:=ob h
 refine st E (aA (vs:=[v84]) E rfl call65 (vJ (hS:=hS) hv83 hr86)) rfl ?_;rintro v90 a w ⟨m87,hm88,hS,hv89⟩ E;obtain⟨r91,hr92,h⟩:=ob h;refine st E (hy _ _ L TL _ _ _ [v90] _ _ _ (mono _ _ _ _ _ hm88 hI66) (hS.dropL 1) ⟨_,rfl,hv89⟩ hr92 _ _ _ _ _ _ _ _ _ (E.eval rfl) (g7 E rfl)) rfl ?_;rintro v99 a w ⟨hq95,m93,Ls96,TLs97,hm94,hI98,hS⟩ E;obtain rfl:=hq95;refine sp E (j9 E rfl) rfl λa E=>ag (kif E rfl (λhd101=>?_) (λhd101=>?_))
 {
 have h:=aB hd101 h;refine bp ?_;have h:=bH h hb68;obtain rfl:=oi h
 try dsimp only
 refine Fin.mk E (rs:=[]) rfl rG.nil ?_;exact⟨_,Ls96,TLs97,(Jj hm42 (Jj hm60 (Jj hm88 hm94))),hI98,hS⟩}
 {have h:=aC hd101 h;refine aP (ah (qB E rfl rfl (bn rfl) λa E=>qM E rfl λa E=>ag ?_));exact⟨(Z1.wrap (x61+1),r91.1),(Option.some.inj h).symm,_,(Jj hm60 (Jj hm88 hm94)),Ls96,TLs97,(aq _ _),hI98,hS,kut E⟩}}
 {
 have h:=aC hd70 h;refine cL rfl rfl ?_;have h:=bH h hb68;obtain rfl:=oi h
 try dsimp only
 refine Fin.mk E (rs:=[]) rfl rG.nil ?_;exact⟨_,Ls64,TLs65,(Jj hm42 hm60),hI66,hS⟩}}}
theorem sF {m:M}{v1:Value}{p1:(Option ax)}(ha1:PR (kPt aW) m v1 p1){v2:Value}{p2:Int}(ha2:PR (ai .i64) m v2 p2){xs:List aa}(h:d4 p1 p2=some xs):zf prog (Rv1 ab) 140 [v1,v2].toArray m xs:=by
 intro σ I step B y m1 w L TL s Ls TLs r mono hle hy hI hS hf;exact sK mono hy hI hS (ha1.mono hle) (ha2.mono hle) (qO h hf)
theorem oM  (hS:S W0 m w L TL) {p0} (ha0:RV (kPt aW) m v0 p0) {p1} (ha1:inR .i64 p1) {r} (h:fc p0 p1=some r):
    Calls prog 89 [v0,(.int .i64 p1)].toArray w (Ret λv w'=>∃m',M.le m m'∧S W0 m' w' L TL∧ItV prog (Rv1 ab) m' v r):=by
 refine kc func89 ntmps89 λa E=>?_;have E:Env 6 a [(0,v0),(1,.int .i64 p1)]:=E;unfold fc at h;refine ae (ah ?_);refine st E (iz (k:=(kPt aW)) E hS rfl ha0) rfl ?_;rintro _ a w ⟨b1,cs2,rfl,hc3,hS⟩ E;refine st E (iz (k:=(ai .i64)) E hS rfl (au ha1)) rfl ?_;rintro _ a w ⟨b5,cs6,rfl,hc7,hS⟩ E;refine qA E rfl λa E=>ag (ae (ah ?_));obtain⟨m10,hm11,hS,hp12⟩:=S.freezeL (k:=(kPt aW)) (hS.pickL 2 [1,0] rfl rfl rfl) hc3;obtain⟨m13,hm14,hS,hp15⟩:=S.freezeL (k:=(ai .i64)) hS ((ai .i64).mono hm11 hc7);obtain⟨x16,hx17,h⟩:=ob h;refine sp E (mq E rfl rfl) rfl λa E=>qA E rfl λa E=>ag (bp ?_)
 obtain rfl:=oi h
 try dsimp only
 refine f1 E ?_;exact⟨_,(Jj hm11 hm14),hS,(⟨140,_,rfl,call140,sF (hp12.mono hm14) hp15 hx17⟩:ItV prog (Rv1 ab) m13 (.func (.func 140) [].toArray [(pz b1),(pz b5)].toArray) x16)⟩
theorem xj  (hS:S W0 m w L TL) {p0} (ha0:RV (kPt aW) m v0 p0) {r} (h:jm p0=some r):
    Calls prog 36 [v0].toArray w (Ret λv w'=>∃m',M.le m m'∧S W0 m' w' L TL∧ItV prog (Rv1 ab) m' v r):=by
 refine kc func36 ntmps36 λa E=>?_;have E:Env 5 a [(0,v0)]:=E;unfold jm at h;refine ae (ah (qA E rfl λa E=>ag (ae (ah (qM E rfl λa E=>?_)))));obtain⟨r3,hr4,h⟩:=ob h;refine st E (aA (vs:=[v0,(.int .i64 0)]) E rfl call89 (oM (hS:=hS) ha0 (show inR .i64 0 from aw (by decide)) hr4)) rfl ?_;rintro v8 a w ⟨m5,hm6,hS,hv7⟩ E;refine qA E rfl λa E=>ag (bp ?_);obtain rfl:=oi h
 try dsimp only
 refine f1 E ?_;exact⟨_,hm6,hS,hv7⟩
theorem y3  (hS:S W0 m w L TL) {p0} (ha0:ItV prog (Rv1 ab) m v0 p0) {r} (h:sy p0=some r):
    Calls prog 38 [v0].toArray w (Ret λv w'=>∃m',M.le m m'∧S W0 m' w' L ((4,v)::TL)∧RV (kSl ab) m' v r):=by
 refine CO func38 rfl ntmps38 (Nat.le_of_ble_eq_true rfl) λa E=>?_;have E:Env 14 a [(0,v0)]:=E;unfold sy at h;refine ae (ah (qA E rfl λa E=>ag (ae (ah ?_))));refine st E (dp hS zeroValue50 rfl (cs:=[(.slice none 0 0)])) rfl ?_;rintro _ a w ⟨b2,rfl,hS⟩ E;refine ag (ae (ae (ah (qM E rfl λa E=>sp E (IA E rfl rfl underlying76 ha0) rfl λa E=>ag (kif E rfl (λhx_=>absurd (hx_.symm.trans rfl) (by decide)) (λhx_=>?_))))));refine aP (ae (ae (ah (qM E rfl λa E=>ag (aL ?_)))));obtain⟨y42,hy43,h⟩:=ob h
 refine AA (Rv:=(Rv1 ab)) (λ(s:List aa) (x:aa)=>mo s x) (λ_=> .ret) [] (λ(m':M) (s:List aa) (Ls_:Mem) (TLs_:Tls)=>∃(v10:Value),M.le m m'∧RV (kSl ab) m' v10 s∧Ls_=[(b2,[v10])]∧TLs_=[(4,v10)]) (Ls:=[(b2,[(.slice none 0 0)])]) (TLs:=[(4,.slice none 0 0)]) (s0:=([]:(List aa))) (sf:=y42.1) (bf:=y42.2) E (hS.tail0 4) rfl ha0 (by decide) (λ_ _ _ h=>Az h) (by rintro m1_ m2_ s_ a_ b_ n_ ⟨v10,hl_,hf0_,e1_,e2_⟩;exact⟨v10,hl_.trans n_,hf0_.mono n_,e1_,e2_⟩) ⟨(.slice none 0 0),Z2 _,dF,rfl,rfl⟩ hy43 ?_ ?_
 {
 intro lid_ W1_ W0 m7 w L TL s_ Ls_ TLs_ vs_ x12 s13 b14 a or_ ob_ hI15 hS hR16 h E hT17;obtain⟨x9,rfl⟩:∃x,x=s_:=⟨_,rfl⟩
 obtain⟨v10,hm8,hc11,rfl,rfl⟩:=hI15;have h:mo x9 x12=some (s13,b14):=h;unfold mo at h;obtain⟨v18,rfl,hv19⟩:=hR16;refine ah ?_;refine st E (dp hS zeroValue59 rfl (cs:=D4)) rfl ?_;rintro _ a w ⟨b20,rfl,hS⟩ E;refine st0 E (dc E hS eC bq rfl rfl hv19 (i:=0) rfl (vo _)) ?_;rintro _ w ⟨cs22,hc23,hS⟩ E;refine ag ?_;obtain⟨hb_,hS⟩:=hT17 _ _ _ _ hS;refine⟨hb_,?_⟩;refine aL (ah (sp E (sO (k:=ab) E hS sB rfl (i:=1) rfl hc11) rfl λa E=>?_));refine st E (aD E hS eC rfl (i:=0) rfl (aQ hc23)) rfl ?_;rintro v28 a _ ⟨rfl,hv27⟩ E
 refine st E (gF (k:=ab) (xs:=[x12]) (vs:=[v28]) E hS rfl underlying50 sizeOf59 zeroValue59 ⟨hv27,trivial⟩ rfl (by decide)) rfl ?_;rintro v32 a w ⟨m30,hm31,hS,hv29⟩ E;obtain⟨z33,hz34,h⟩:=ob h;refine st E (jD (k:=ab) (N:=2932031007402) E hS rfl rfl underlying50 underlying50 JN (i:=1) rfl (hc11.mono hm31) hv29 hz34 rfl rfl) rfl ?_;rintro v38 a w ⟨m36,hm37,hS,hv35⟩ E;refine st0 E (uH (k:=ab) E hS sB rfl rfl hv35 (i:=1) rfl) ?_;rintro _ w hS E;refine ag ?_;cases h
 try dsimp only
 exact⟨rfl,_,[(b2,[v38])],[(4,v38)],(Jj hm31 hm37),⟨v38,(Jj hm8 (Jj hm31 hm37)),hv35,rfl,rfl⟩,((hS.pickL 2 [1] rfl rfl rfl).pickT 2 [1] rfl rfl rfl)⟩}
 {
 intro D44 m48 w a Ls_ TLs_ hm49 E hI15 hS hk46 hB47;obtain⟨cs51,_,hc52,rfl,rfl⟩:=hI15;obtain⟨W0,hW45⟩:∃W9,W9=W0.put D44 (.deferred (some [])):=⟨_,rfl⟩
 rw[←hW45] at hS;rcases Z0 y42.2 with hb50|hb50
 {
 have h:=aB hb50 h;rw[if_pos hb50];refine ae (ah (sp E (sO (k:=ab) E hS sB rfl (i:=0) rfl hc52) rfl λa E=>qA E rfl λa E=>ag (bp ?_)));obtain rfl:=oi h
 try dsimp only
 have hS:=hS;rw[hW45] at hS;refine CN.shut E hS hk46 hB47 λa w hS E=>?_;refine CN.nil E ?_;refine f1 E ?_;exact⟨_,hm49,((hS.dropL 1).pickT 1 [0] rfl rfl rfl),hc52⟩}
 {have h:=aC hb50 h;cases h}}
theorem uC  (hS:S W0 m w L TL) {p0} (ha0:RV ab m v0 p0) {p1} (ha1:RV (kSl kAp) m v1 p1) {p2} (ha2:PR (kSl (ai .i64)) m v2 p2) {r} (h:cJ p0 p1 p2=some r):
    Calls prog 94 [v0,v1,v2].toArray w (Ret λv w'=>∃m',M.le m m'∧S W0 m' w' L TL∧RV (ai .i64) m' v r):=by
 refine kc func94 ntmps94 λa E=>?_;have E:Env 13 a [(0,v0),(1,v1),(2,v2)]:=E;unfold cJ at h;refine ae (ah ?_);refine st E (iz (k:=ab) E hS rfl ha0) rfl ?_;rintro _ a w ⟨b1,cs2,rfl,hc3,hS⟩ E;refine qA E rfl λa E=>ag (ae (ae (ah ?_)));refine st E (bg E hS oy rfl ha2) rfl ?_;rintro v7 a _ ⟨rfl,hv6⟩ E;refine sp E (aJ E sA rfl) rfl λa E=>?_;refine st E (aD E hS tX rfl (i:=0) rfl (HW.R_drop (aQ hc3))) rfl ?_;rintro v10 a _ ⟨rfl,hv9⟩ E;obtain⟨r11,hr12,h⟩:=ob h;refine st E (aA (vs:=[v7,v10]) E rfl call70 (qW (hS:=hS) hv6 hv9 hr12)) rfl ?_;rintro v16 a w ⟨m13,hm14,hS,hv15⟩ E
 refine qM E rfl λa E=>?_;obtain⟨r18,hr19,h⟩:=ob h;refine st E (aA (vs:=[v16,v1]) E rfl call69 (xc (hS:=hS) hv15 (ha1.mono hm14) hr19)) rfl ?_;rintro v23 a w ⟨m20,hm21,hS,hv22⟩ E;obtain⟨rfl,hr24⟩:=aI hv22;refine qB E rfl rfl bw λa E=>ag (kif E rfl (λhd26=>?_) (λhd26=>?_))
 {
 have h:=aB hd26 h;refine ae (ah (qA E rfl λa E=>ag (bp ?_)));obtain rfl:=oi h
 try dsimp only
 refine f1 E ?_;exact⟨_,(Jj hm14 hm21),((hS.dropL 1).dropT 1),(au (show inR .i64 (-1) from aw (by decide)))⟩}
 {
 have h:=aC hd26 h;refine aP (ae (ah (qA E rfl λa E=>ag (bp ?_))));obtain rfl:=oi h
 try dsimp only
 refine f1 E ?_;exact⟨_,(Jj hm14 hm21),((hS.dropL 1).dropT 1),(au (show inR .i64 1 from aw (by decide)))⟩}
theorem Q2:Ctr Sz prog 93 [.rd (.sl (.st 59)),.rd (.sl (.st 32)),.f2 (.st 59) (.sl (.st 32)) (.int .i64)] [.rd (.int .i64),.rd .bool] (fun x=>dH x.1 x.2.1 x.2.2.1):=
 ncR [] [6,7] func93 ntmps93 (.s .o (.s .o (.s .o (.s (.b (.l ⟨[.v 9 1 (.dat (.int .i64) none),.v 10 1 (.dat (.int .i64) none)],[0,1,2,8],0,[]⟩ .o)) .o)))) λx=>by kernel_rfl
theorem oO  (hS:S W0 m w L TL) {p0} (ha0:RV (kSl ab) m v0 p0) {p1} (ha1:RV (kSl kAp) m v1 p1) {p2} (ha2:Fn2 prog ab (kSl kAp) (ai .i64) m v2 p2) {r} (h:dH p0 p1 p2=some r):
    Calls prog 93 [v0,v1,v2].toArray w (Ret λv w'=>∃m',M.le m m'∧S W0 m' w' L TL∧∃v0_ v1_:Value,v= .tuple #[v0_,v1_]∧RV (ai .i64) m' v0_ r.1∧RV cG m' v1_ r.2):=by
 refine rm (Q2 W0 m w L TL [v0,v1,v2] (p0,p1,p2,()) r [] [] hS ⟨ha0,⟨ha1,⟨ha2,trivial⟩⟩⟩ h) λv w' he=>?_;obtain⟨m',us,Lr,Lq,Tr,hm,Z',rfl,hR,hO⟩:=he;obtain⟨u0,us,rfl,r0,hR0⟩:=cZ hR;obtain⟨u1,us,rfl,r1,hR1⟩:=cZ hR0;obtain⟨rfl,rfl,rfl⟩:=cl hR1;have hO0:=bG hO;have hO1:=bG hO0;have hO2:=Cp hO1;obtain rfl:=cm hO2;exact⟨m',hm,Z',u0,u1,rfl,r0,r1⟩
theorem Q3 {m0:M}{vc0:Value}{xc0:List Int}(hc0:PR (kSl (ai .i64)) m0 vc0 xc0):Fn2 prog ab (kSl kAp) (ai .i64) m0 (.func (.func 94) [].toArray [vc0].toArray) (λx0 x1=>cJ x0 x1 xc0):=by
  refine⟨94,_,rfl,call94,?_⟩;intro W0 m w L TL v0 v1 x0 x1 r hm hS h0 h1 hr;refine(uC (hS:=hS) h0 h1 (hc0.mono hm) hr).mono ?_;intro e w' he;cases e with
  |returned v=>obtain⟨m',h1,h2,h3⟩:=he;exact⟨m',h1,h2,h3⟩
  |panicked ch=>exact he.elim
  |outgrown=>exact he.elim
theorem pC  (hS:S W0 m w L TL) {p0} (ha0:RV (kPt aW) m v0 p0) {p1} (ha1:RV (kSl kAp) m v1 p1) {r} (h:gt p0 p1=some r):
    Calls prog 39 [v0,v1].toArray w (Ret λv w'=>∃m',M.le m m'∧S W0 m' w' L TL∧ItV prog (Rv1 ab) m' v r):=by
 refine kc func39 ntmps39 λa E=>?_;have E:Env 37 a [(0,v0),(1,v1)]:=E;unfold gt at h;refine ae (ah (qA E rfl λa E=>ag (ae (ah (qM E rfl λa E=>?_)))));obtain⟨r3,hr4,h⟩:=ob h;refine st E (aA (vs:=[v1]) E rfl call92 (pu (hS:=hS) ha1 hr4)) rfl ?_;rintro v8 a w ⟨m5,hm6,hS,hv7⟩ E;refine qA E rfl λa E=>ag (ae ?_);obtain⟨x10,hx11,x15,hx16,h⟩:=ob2 h;obtain⟨x20,hx21,h⟩:=ob h
 refine kch (k:=14) (m:=m5) (es:=[13]) (Φ:=(λi m ws v=>match i with|0=>v=v0|1=>v=v0|2=>PR (kSl (ai .i64)) m v x10.fSort|3=>RV (kSl (ai .i64)) m v x10.fSort|4=>v=v0|5=>v=v0|6=>PR (kSl (ai .i64)) m v x15.fSort|7=>RV (kSl (ai .i64)) m v x15.fSort|8=>ei .i64 (x15.fSort.length:Int) v|9=>v=v8|10=>ei .i64 (r3.length:Int) v|11=>ei .i64 (if (r3.length:Int)<(x15.fSort.length:Int) then (r3.length:Int) else (x15.fSort.length:Int)) v|12=>RV (kSl (ai .i64)) m v x20|13=>v=(.pointer (some ⟨(wi ws 0).b,0,none⟩))|_=>True)) (Q:=(λc m ws L' TL'=>match c with|0=>L=L'∧(4,v8)::TL=TL'|1=>((wi ws 0).b,[(.slice none 0 0)])::L=L'∧(4,v8)::TL=TL'|_=>False)) (cs:=[⟨0,1,false,[(0,v0)]⟩,⟨0,1,false,[]⟩,⟨0,1,false,[]⟩,⟨0,1,false,[]⟩,⟨0,1,false,[(0,v0)]⟩,⟨0,1,false,[]⟩,⟨0,1,false,[]⟩,⟨0,1,false,[]⟩,⟨0,1,false,[]⟩,⟨0,1,false,[(5,v8)]⟩,⟨0,1,false,[]⟩,⟨0,1,false,[]⟩,⟨0,1,false,[]⟩,⟨0,0,true,[]⟩]) mixed E hS ⟨rfl,rfl⟩ rfl rfl (by kernel_rfl) ?_ ?_ ?_ ?_
 {
 intro i m_ m2_ ws v n_ q_
 iterate 14 (rcases i with _|i;first|exact q_|exact PR.mono q_ n_|exact RV.mono q_ n_)
 exact trivial}
 {
 intro c m_ m2_ ws L_ T_ n_ hq_
 match c,hq_ with
 |0,⟨e1_,e2_⟩=>exact⟨e1_,e2_⟩
 |1,⟨e1_,e2_⟩=>exact⟨e1_,e2_⟩
 |_+2,hq_=>exact hq_.elim}
 {
 refine⟨?_,?_,?_,?_,?_,?_,?_,?_,?_,?_,?_,?_,?_,?_,trivial⟩
 {exact cmv λ_ _=>rfl}
 {refine cp0 λ_ _ _ _ _ _ _ M' _ Z' E' T'=>?_;have E:=E'.add (T' 0);exact cq (lj E rfl (ha0.mono (Jj hm6 M')) hx11) Z' rfl}
 {refine cp0 λ_ _ _ _ _ _ _ M' _ Z' E' T'=>?_;have E:=E'.add (T' 1);exact cr (eW E mT uu rfl ((mt ha0 hx11).mono (Jj hm6 M'))) Z' λ_ h=>h}
 {
 refine cp0 λ_ _ _ m' a' _ _ _ _ Z' E' T'=>?_;obtain⟨v34,e35,q36⟩:∃v,a'.tmps.getD 13 undef=v∧(PR (kSl (ai .i64)) m' v x10.fSort):=⟨_,rfl,T' 2⟩
 have E:=E'.add (e35);exact cr (bg E Z' oy rfl q36) Z' λ_ h=>h}
 {exact cmv λ_ _=>rfl}
 {refine cp0 λ_ _ _ _ _ _ _ M' _ Z' E' T'=>?_;have E:=E'.add (T' 4);exact cq (lj E rfl (ha0.mono (Jj hm6 M')) hx16) Z' rfl}
 {refine cp0 λ_ _ _ _ _ _ _ M' _ Z' E' T'=>?_;have E:=E'.add (T' 5);exact cr (eW E mT uu rfl ((mt ha0 hx16).mono (Jj hm6 M'))) Z' λ_ h=>h}
 {
 refine cp0 λ_ _ _ m' a' _ _ _ _ Z' E' T'=>?_;obtain⟨v47,e48,q49⟩:∃v,a'.tmps.getD 17 undef=v∧(PR (kSl (ai .i64)) m' v x15.fSort):=⟨_,rfl,T' 6⟩
 have E:=E'.add (e48);exact cr (bg E Z' oy rfl q49) Z' λ_ h=>h}
 {refine cp0 λ_ _ _ m' a' _ _ _ _ Z' E' T'=>?_;obtain⟨v51,E,q53⟩:=adv E' (T' 7);exact cq (aS (k:=(ai .i64)) E rfl rfl underlying49 q53) Z' ⟨rfl,(dA (g8 q53))⟩}
 {exact cmv λ_ _=>rfl}
 {refine cp0 λ_ _ _ _ _ _ _ M' _ Z' E' T'=>?_;have E:=E'.add (T' 9);exact cq (aS (k:=kAp) E rfl rfl underlying22 (hv7.mono M')) Z' ⟨rfl,(dA (g8 (hv7.mono M')))⟩}
 {refine cp0 λ_ _ _ _ _ _ _ _ _ Z' E' T'=>?_;obtain⟨q62,hr63⟩:=T' 8;have E:=E'.add q62;obtain⟨q66,hr67⟩:=T' 10;have E:=E.add q66;exact cq (y9 E rfl rfl) Z' ⟨rfl,(ED hr63 hr67)⟩}
 {
 refine cp0 λ_ _ _ m' a' _ _ _ _ Z' E' T'=>?_;obtain⟨v69,e70,q71⟩:∃v,a'.tmps.getD 14 undef=v∧(RV (kSl (ai .i64)) m' v x10.fSort):=⟨_,rfl,T' 3⟩
 have E:=(E'.add (e70)).add (T' 11).1;exact cr (dq (k:=(ai .i64)) E rfl underlying49 sizeOf3 q71 rfl ⟨_,rfl⟩ hx21 (xl:=none) (xh:=(some (.tmp 22)))) Z' λ_ h=>h}
 {refine q9 λpre_ L_ T_ m' a' w' hl' M' Q' Z' E' T'=>?_;obtain rfl:=d3 hl';obtain⟨rfl,rfl⟩:=Q';refine bh.imp (dp Z' zeroValue49 rfl (cs:=[(.slice none 0 0)])) ?_;rintro vv24 w ⟨b23,rfl,hS⟩;exact⟨_,⟨b23,undef,[],[],[]⟩,_,_,Z2 _,hS,⟨rfl,rfl⟩,rfl⟩}}
 {
 intro ws_ L_ T_ m77 a w hl78 hm79 hq80 hS hd81 hn82 ho83 hT84;obtain⟨⟨b23,_,_,_,_⟩,rfl⟩:=tw hl78;obtain⟨rfl,rfl⟩:=hq80;have E:=eof 14 [(0,v0),(1,v1),(4,.nilFunc),(5,v8),(9,v1),(10,v8)] hd81 hn82 ho83;obtain⟨v85,e86,q87⟩:∃v,a.tmps.getD 23 undef=v∧(RV (kSl (ai .i64)) m77 v x20):=⟨_,rfl,hT84 12⟩
 have E:=(E.add (e86)).add (hT84 13);refine st0 E (uH (k:=(ai .i64)) E hS oy rfl rfl q87 (i:=0) rfl) ?_;rintro _ w hS E;refine ag (ae (ah (qM E rfl λa E=>?_)));obtain⟨x95,hx96,h⟩:=ob h;refine sp E (lj E rfl (ha0.mono (Jj hm6 hm79)) hx96) rfl λa E=>?_;refine st E (eW E lN oK rfl ((mt ha0 hx96).mono (Jj hm6 hm79))) rfl ?_;rintro v100 a _ ⟨rfl,hp99⟩ E;refine st E (bg E hS sB rfl hp99) rfl ?_;rintro v102 a _ ⟨rfl,hv101⟩ E;refine qM E rfl λa E=>?_;obtain⟨m104,hm105,hS,hp106⟩:=S.freezeL (k:=(kSl (ai .i64))) hS (vZ q87);refine sp E (mq E rfl rfl) rfl λa E=>?_
 obtain⟨r108,hr109,h⟩:=ob h;refine st E (aA (vs:=[v102,v8,(.func (.func 94) [].toArray [(pz b23)].toArray)]) E rfl call93 (by have q0_:=(hv101.mono hm105);have q1_:=(hv7.mono (Jj hm79 hm105));have q2_:=(Q3 hp106);exact oO (p0:=x95.fL) (p1:=r3) (p2:=(λy0_ y1_=>cJ y0_ y1_ x20)) (hS:=hS) q0_ q1_ q2_ hr109)) rfl ?_;rintro _ a w ⟨m110,hm111,hS,v0_112,v1_113,rfl,hv0_114,hv1_115⟩ E;obtain⟨rfl,hr117⟩:=aI hv0_114;obtain rfl:=ef hv1_115
 refine qM E rfl λa E=>sp E (bE E rfl rfl) rfl λa E=>sp E (bE E rfl rfl) rfl λa E=>qA E rfl λa E=>qA E rfl λa E=>ag (ae (ah (qM E rfl λa E=>qM E rfl λa E=>?_)));obtain⟨r125,hr126,h⟩:=ob h;refine st E (aA (vs:=[v0,(.int .i64 r108.1)]) E rfl call89 (oM (hS:=hS) (ha0.mono (Jj hm6 (Jj hm79 (Jj hm105 hm111)))) hr117 hr126)) rfl ?_;rintro v130 a w ⟨m127,hm128,hS,hv129⟩ E;refine qA E rfl λa E=>ag (bp ?_);obtain rfl:=oi h
 try dsimp only
 refine f1 E ?_;exact⟨_,(Jj hm6 (Jj hm79 (Jj hm105 (Jj hm111 hm128)))),(hS.dropT 1),hv129⟩}
theorem y4  (hS:S W0 m w L TL) {p0} (ha0:RV bT m v0 p0) {p1} (ha1:RV (kSl kAp) m v1 p1) {r} (h:mS p0 p1=some r):
    Calls prog 12 [v0,v1].toArray w (Ret λv w'=>∃m',M.le m m'∧S W0 m' w' L TL∧RV cG m' v r):=by
 refine kc func12 ntmps12 λa E=>?_;have E:Env 118 a [(0,v0),(1,v1)]:=E;unfold mS at h;refine ae (ah ?_);refine st E (iz (k:=bT) E hS rfl ha0) rfl ?_;rintro _ a w ⟨b1,cs2,rfl,hc3,hS⟩ E;refine qA E rfl λa E=>ag (ae (ah (sp E (aJ E H1 rfl) rfl λa E=>?_)));refine st E (aD E hS ty3 rfl (i:=0) rfl (M4.R_drop (aQ hc3))) rfl ?_;rintro v8 a _ ⟨rfl,hv7⟩ E;obtain⟨rfl,hr9⟩:=aI hv7;refine sp E (aJ E D7 rfl) rfl λa E=>?_;refine st E (aD E hS oy rfl (i:=0) rfl (M6.R_drop (aQ hc3))) rfl ?_;rintro v12 a _ ⟨rfl,hv11⟩ E;refine sp E (aJ E H2 rfl) rfl λa E=>?_
 refine st E (aD E hS oy rfl (i:=0) rfl (M8.R_drop (aQ hc3))) rfl ?_;rintro v15 a _ ⟨rfl,hv14⟩ E;refine sp E (aJ E H0 rfl) rfl λa E=>?_;refine st E (aD E hS sB rfl (i:=0) rfl (Na.R_drop (aQ hc3))) rfl ?_;rintro v18 a _ ⟨rfl,hv17⟩ E;obtain⟨r19,hr20,h⟩:=ob h;refine st E (aA (vs:=[(.int .i64 p0.fColumns),v12,v15,v18]) E rfl call31 (tp (hS:=hS) hr9 hv11 hv14 hv17 hr20)) rfl ?_;rintro _ a w ⟨m21,hm22,hS,v0_23,v1_24,rfl,hv0_25,hv1_26⟩ E;obtain⟨rfl,hr28⟩:=aI hv1_26
 refine qM E rfl λa E=>sp E (bE E rfl rfl) rfl λa E=>sp E (bE E rfl rfl) rfl λa E=>qA E rfl λa E=>qA E rfl λa E=>ag (ae (ah (qM E rfl λa E=>?_)));obtain⟨r35,hr36,h⟩:=ob h;refine st E (aA (vs:=[v0_23]) E rfl call33 (uA (hS:=hS) hv0_25 hr36)) rfl ?_;rintro _ a w ⟨m37,hm38,hS,v0_39,v1_40,rfl,hv0_41,hv1_42⟩ E;obtain⟨rfl,hr44⟩:=aI hv1_42;refine qM E rfl λa E=>sp E (bE E rfl rfl) rfl λa E=>sp E (bE E rfl rfl) rfl λa E=>qA E rfl λa E=>qA E rfl λa E=>ag (ae (ae (ah (qM E rfl λa E=>?_))))
 refine qB E rfl rfl lS λa E=>ag (kif E rfl (λhd52=>?_) (λhd52=>?_))
 {
 have h:=aB hd52 h;refine ae (ah ?_);obtain⟨r53,hr54,h⟩:=ob h;refine st E (aA (vs:=[]) E rfl call29 (Aq (hS:=hS) hr54)) rfl ?_;rintro v58 a w ⟨m55,hm56,hS,hv57⟩ E;obtain rfl:=ef hv57;refine qA E rfl λa E=>ag (bp ?_);obtain rfl:=oi h
 try dsimp only
 refine f1 E ?_;exact⟨_,(Jj hm22 (Jj hm38 hm56)),(hS.dropL 1),cI⟩}
 {
 have h:=aC hd52 h;refine aP (ae (ae ?_));refine bL (λa w=>∃x62:Bool,iL p0 p1 r35 x62=some r∧∃m',M.le m37 m'∧S W0 m' w ((b1,cs2)::L) (TL)∧Env 118 a [(1,v1),(2,pz b1),(7,v0_39),(38,.bool x62)]) ?_ ?_
 {
 refine ah (qM E rfl λa E=>qB E rfl rfl lS λa E=>qM E rfl λa E=>?_);rcases Z0 (r35.2 != 0) with hd260|hd260
 {have h:=aB hd260 h;refine qX E hd260 λa E=>qX E hd260 λa E=>qT E hd260 rfl λa E=>ag ?_;exact⟨true,h,_,(Z2 _),hS,kut E⟩}
 {have h:=aC hd260 h;refine qG E hd260 rfl λa E=>spg E rfl rfl rfl rfl hd260 (GI E rfl rfl underlying65 hv0_41) rfl λa E=>qF E hd260 rfl λa E=>ag ?_;exact⟨r35.1.isNone,h,_,(Z2 _),hS,kut E⟩}}
 {
 rintro a w ⟨x62,h,m60,hm61,hS,E⟩;unfold iL at h;refine kif E rfl (λhd64=>?_) (λhd64=>?_)
 {
 have h:=aB hd64 h;refine ae (ah (qA E rfl λa E=>ag (bp ?_)));obtain rfl:=oi h
 try dsimp only
 refine f1 E ?_;exact⟨_,(Jj hm22 (Jj hm38 hm61)),(hS.dropL 1),cI⟩}
 {
 have h:=aC hd64 h;refine aP (ae (ah (qM E rfl λa E=>?_)));obtain⟨r67,hr68,h⟩:=ob h;refine st E (aA (vs:=[v0_39]) E rfl call36 (xj (hS:=hS) (hv0_41.mono hm61) hr68)) rfl ?_;rintro v72 a w ⟨m69,hm70,hS,hv71⟩ E;obtain⟨r73,hr74,h⟩:=ob h;refine st E (aA (vs:=[v72]) E rfl call38 (y3 (hS:=hS) hv71 hr74)) rfl ?_;rintro v78 a w ⟨m75,hm76,hS,hv77⟩ E;refine qA E rfl λa E=>ag (ae (ah (qM E rfl λa E=>qM E rfl λa E=>?_)));obtain⟨r82,hr83,h⟩:=ob h
 refine st E (aA (vs:=[v0_39,v1]) E rfl call39 (pC (hS:=hS) (hv0_41.mono (Jj hm61 (Jj hm70 hm76))) (ha1.mono (Jj hm22 (Jj hm38 (Jj hm61 (Jj hm70 hm76))))) hr83)) rfl ?_;rintro v87 a w ⟨m84,hm85,hS,hv86⟩ E;obtain⟨r88,hr89,h⟩:=ob h;refine st E (aA (vs:=[v87]) E rfl call38 (y3 (hS:=hS) hv86 hr89)) rfl ?_;rintro v93 a w ⟨m90,hm91,hS,hv92⟩ E;refine qA E rfl λa E=>ag (ae (ae ?_));refine bL (λa w=>∃x97:Bool,iK p0 p1 r35 r73 r88 x97=some r∧∃m',M.le m90 m'∧S W0 m' w ((b1,cs2)::L) ((4,v93)::(4,v78)::TL)∧Env 118 a [(1,v1),(2,pz b1),(7,v0_39),(9,v78),(10,v93),(62,.bool x97)]) ?_ ?_
 {
 refine ah (qM E rfl λa E=>sp E (aS (k:=ab) E rfl rfl underlying50 hv92) rfl λa E=>qM E rfl λa E=>sp E (aS (k:=ab) E rfl rfl underlying50 (hv77.mono (Jj hm85 hm91))) rfl λa E=>qB E rfl rfl iM λa E=>qM E rfl λa E=>?_);rcases Z0 (decide ((r73.length:Int)<(r88.length:Int))) with hd236|hd236
 {have h:=aB hd236 h;refine qX E hd236 λa E=>qX E hd236 λa E=>qX E hd236 λa E=>qX E hd236 λa E=>qX E hd236 λa E=>qX E hd236 λa E=>qX E hd236 λa E=>qX E hd236 λa E=>qX E hd236 λa E=>qX E hd236 λa E=>?_;refine qT E hd236 rfl λa E=>ag ?_;exact⟨true,h,_,(Z2 _),hS,kut E⟩}
 {
 have h:=aC hd236 h;refine qG E hd236 rfl λa E=>qG E hd236 rfl λa E=>spg E rfl rfl rfl rfl hd236 (aS (k:=ab) E rfl rfl underlying50 (hv77.mono (Jj hm85 hm91))) rfl λa E=>qG E hd236 rfl λa E=>spg E rfl rfl rfl rfl hd236 (aS (k:=ab) E rfl rfl underlying50 hv92) rfl λa E=>spg E rfl rfl rfl rfl hd236 (aR E rfl rfl (cY rfl)) rfl λa E=>?_;obtain⟨x244,hx245,h⟩:=ob h;refine stg E rfl rfl rfl rfl hd236 (dq (k:=ab) E rfl underlying50 sizeOf59 (hv77.mono (Jj hm85 hm91)) ⟨_,rfl⟩ rfl hx245 (xl:=(some (.tmp 57))) (xh:=none)) rfl ?_;rintro v247 a _ ⟨rfl,hv246⟩ E
 refine qG E hd236 rfl λa E=>?_;obtain⟨r249,hr250,h⟩:=ob h;refine stg E rfl rfl rfl rfl hd236 (aA (vs:=[v247,v93]) E rfl call30 (xS (hS:=hS) hv246 hv92 hr250)) rfl ?_;rintro v254 a w ⟨m251,hm252,hS,hv253⟩ E;obtain rfl:=ef hv253;refine spg E rfl rfl rfl rfl hd236 (j9 E rfl) rfl λa E=>qF E hd236 rfl λa E=>ag ?_;exact⟨(!r249),h,_,hm252,hS,kut E⟩}}
 {
 rintro a w ⟨x97,h,m95,hm96,hS,E⟩;unfold iK at h;refine kif E rfl (λhd99=>?_) (λhd99=>?_)
 {
 have h:=aB hd99 h;refine ae (ah (qA E rfl λa E=>ag (bp ?_)));obtain rfl:=oi h
 try dsimp only
 refine f1 E ?_;exact⟨_,(Jj hm22 (Jj hm38 (Jj hm61 (Jj hm70 (Jj hm76 (Jj hm85 (Jj hm91 hm96))))))),((hS.dropL 1).dropT 2),cI⟩}
 {
 have h:=aC hd99 h;refine aP (ae (ae (ah (qM E rfl λa E=>sp E (aS (k:=ab) E rfl rfl underlying50 (hv77.mono (Jj hm85 (Jj hm91 hm96)))) rfl λa E=>qM E rfl λa E=>ag ?_))));refine bL (λa w=>ko p1 r35 r88=some r∧∃m',M.le m95 m'∧S W0 m' w ((b1,cs2)::L) ((4,v93)::TL)∧Env 118 a [(1,v1),(7,v0_39),(10,v93)]) ?_ ?_
 {
 refine aL ?_;refine cP h (λ(s:Int) a w=>∃m',M.le m95 m'∧inR .i64 s∧S W0 m' w ((b1,cs2)::L) ((4,v93)::(4,v78)::TL)∧Env 118 a [(1,v1),(2,pz b1),(7,v0_39),(9,v78),(10,v93),(64,.int .i64 (r73.length:Int)),(65,.int .i64 s)]) ?_ ?_
 {exact⟨_,(Z2 _),(show inR .i64 0 from aw (by decide)),hS,kut E⟩}
 {
 rintro x159 a w ⟨m157,hm158,hr160,hS,E⟩ r161 h hb162;have h:iJ p0 p1 r35 r73 r88 x159=some r161:=h;unfold iJ at h;refine ae (ah (qB E rfl rfl bw λa E=>ag (ae (kif E rfl (λhd164=>?_) (λhd164=>?_)))))
 {
 have h:=aB hd164 h;refine aP (ae (aL (ae (ah (qM E rfl λa E=>qA E rfl λa E=>ag (ae (ah ?_)))))));refine sp E (aJ E D7 rfl) rfl λa E=>?_;refine st E (aD E hS oy rfl (i:=0) rfl (M6.R_drop (aQ (bT.mono (Jj hm22 (Jj hm38 (Jj hm61 (Jj hm70 (Jj hm76 (Jj hm85 (Jj hm91 (Jj hm96 hm158)))))))) hc3)))) rfl ?_;rintro v169 a _ ⟨rfl,hv168⟩ E
 refine qA E rfl λa E=>ag (ae (ae (ah (qM E rfl λa E=>sp E (aS (k:=kAp) E rfl rfl underlying22 (ha1.mono (Jj hm22 (Jj hm38 (Jj hm61 (Jj hm70 (Jj hm76 (Jj hm85 (Jj hm91 (Jj hm96 hm158)))))))))) rfl λa E=>qM E rfl λa E=>sp E (aS (k:=(ai .i64)) E rfl rfl underlying49 hv168) rfl λa E=>qB E rfl rfl bw λa E=>?_))));refine ag ?_
 refine bL (λa w=>∃x178:(List Int),gv p1 r73 r88 x159 x178=some r161∧∃m',M.le m157 m'∧∃(v179:Value),RV (kSl (ai .i64)) m' v179 x178∧S W0 m' w ((b1,cs2)::L) ((4,v93)::(4,v78)::TL)∧Env 118 a [(1,v1),(2,pz b1),(7,v0_39),(9,v78),(10,v93),(11,.int .i64 x159),(12,v179),(64,.int .i64 (r73.length:Int)),(65,.int .i64 x159)]) ?_ ?_
 {
 refine kif E rfl (λhd221=>?_) (λhd221=>?_)
 {have h:=aB hd221 h;refine ah (qM E rfl λa E=>qM E rfl λa E=>sp E (aS (k:=kAp) E rfl rfl underlying22 (ha1.mono (Jj hm22 (Jj hm38 (Jj hm61 (Jj hm70 (Jj hm76 (Jj hm85 (Jj hm91 (Jj hm96 hm158)))))))))) rfl λa E=>?_);obtain⟨x225,hx226,h⟩:=ob h;refine st E (dq (k:=(ai .i64)) E rfl underlying49 sizeOf3 hv168 rfl ⟨_,rfl⟩ hx226 (xl:=none) (xh:=(some (.tmp 77)))) rfl ?_;rintro v228 a _ ⟨rfl,hv227⟩ E;refine qA E rfl λa E=>ag ?_;exact⟨x225,h,_,(Z2 _),v228,hv227,hS,kut E⟩}
 {have h:=aC hd221 h;refine aP ?_;exact⟨p0.fSort,h,_,(Z2 _),v169,hv168,hS,kut E⟩}}
 {
 rintro a w ⟨x178,h,m176,hm177,v179,hv180,hS,E⟩;unfold gv at h;refine ae (ah (qM E rfl λa E=>qM E rfl λa E=>qM E rfl λa E=>?_));obtain⟨x185,hx186,h⟩:=ob h;refine st E (dW (k:=ab) E rfl rfl underlying50 sizeOf59 (hv77.mono (Jj hm85 (Jj hm91 (Jj hm96 (Jj hm158 hm177))))) hx186) rfl ?_;rintro v188 a _ ⟨rfl,hp187⟩ E;refine st E (eW E sA HW rfl hp187) rfl ?_;rintro v191 a _ ⟨rfl,hp190⟩ E;refine st E (bg E hS tX rfl hp190) rfl ?_;rintro v193 a _ ⟨rfl,hv192⟩ E;obtain⟨r194,hr195,h⟩:=ob h;refine st E (aA (vs:=[v179,v193]) E rfl call41 (JP (hS:=hS) hv180 hv192 hr195)) rfl ?_
 rintro v199 a w ⟨m196,hm197,hS,hv198⟩ E;refine qM E rfl λa E=>?_;obtain⟨r201,hr202,h⟩:=ob h;refine st E (aA (vs:=[v199,v1]) E rfl call40 (Ic (hS:=hS) hv198 (ha1.mono (Jj hm22 (Jj hm38 (Jj hm61 (Jj hm70 (Jj hm76 (Jj hm85 (Jj hm91 (Jj hm96 (Jj hm158 (Jj hm177 hm197))))))))))) hr202)) rfl ?_;rintro v206 a w ⟨m203,hm204,hS,hv205⟩ E;obtain⟨rfl,hr207⟩:=aI hv205
 refine qB E rfl rfl bw λa E=>qM E rfl λa E=>qM E rfl λa E=>sp E (aS (k:=ab) E rfl rfl underlying50 (hv77.mono (Jj hm85 (Jj hm91 (Jj hm96 (Jj hm158 (Jj hm177 (Jj hm197 hm204)))))))) rfl λa E=>qM E rfl λa E=>sp E (aS (k:=ab) E rfl rfl underlying50 (hv92.mono (Jj hm96 (Jj hm158 (Jj hm177 (Jj hm197 hm204)))))) rfl λa E=>qB E rfl rfl (cY rfl) λa E=>qB E rfl rfl bw λa E=>sp E (Gw E rfl rfl underlying4) rfl λa E=>ag ?_;refine kif E rfl (λhd217=>?_) (λhd217=>?_)
 {
 have h:=aB hd217 h;refine ae (ah (qA E rfl λa E=>ag (bp ?_)));have h:=bH h hb162;obtain rfl:=oi h
 try dsimp only
 refine f1 E ?_;exact⟨_,(Jj hm22 (Jj hm38 (Jj hm61 (Jj hm70 (Jj hm76 (Jj hm85 (Jj hm91 (Jj hm96 (Jj hm158 (Jj hm177 (Jj hm197 hm204))))))))))),((hS.dropL 1).dropT 3),cI⟩}
 {have h:=aC hd217 h;refine aP (ah (qB E rfl rfl (bn rfl) λa E=>qM E rfl λa E=>ag ?_));exact⟨Z1.wrap (x159+1),(Option.some.inj h).symm,_,(Jj hm158 (Jj hm177 (Jj hm197 hm204))),(aq _ _),(hS.pickT 3 [1,2] rfl rfl rfl),kut E⟩}}}
 {have h:=aC hd164 h;refine cL rfl rfl ?_;have h:=bH h hb162;exact⟨h,_,hm158,(hS.pickT 2 [0] rfl rfl rfl),kut E⟩}}}
 {
 rintro a w ⟨h,m104,hm105,hS,E⟩;unfold ko at h;refine ae ?_;refine bL (λa w=>∃x109:Bool,gu x109=some r∧∃m',M.le m104 m'∧S W0 m' w ((b1,cs2)::L) (TL)∧Env 118 a [(4,.bool x109)]) ?_ ?_
 {
 refine ah ?_;obtain⟨r111,hr112,h⟩:=ob h;refine st E (aA (vs:=[]) E rfl call29 (Aq (hS:=hS) hr112)) rfl ?_;rintro v116 a w ⟨m113,hm114,hS,hv115⟩ E;obtain rfl:=ef hv115;refine qM E rfl λa E=>?_;rcases Z0 r111 with hd118|hd118
 {
 have h:=aB hd118 h;refine qG E hd118 rfl λa E=>spg E rfl rfl rfl rfl hd118 (aS (k:=kAp) E rfl rfl underlying22 (ha1.mono (Jj hm22 (Jj hm38 (Jj hm61 (Jj hm70 (Jj hm76 (Jj hm85 (Jj hm91 (Jj hm96 (Jj hm105 hm114))))))))))) rfl λa E=>spg E rfl rfl rfl rfl hd118 (aR E rfl rfl fX) rfl λa E=>qG E hd118 rfl λa E=>?_;rcases Z0 ((p1.length:Int)==0) with hd123|hd123
 {have h:=aB hd123 h;refine qX E hd123 λa E=>qX E hd123 λa E=>qX E hd123 λa E=>qX E hd123 λa E=>qX E hd123 λa E=>qX E hd123 λa E=>qX E hd123 λa E=>qX E hd123 λa E=>qX E hd123 λa E=>qX E hd123 λa E=>?_;refine qX E hd123 λa E=>qX E hd123 λa E=>spg E rfl rfl rfl rfl hd118 (ry E rfl hd123 rfl) rfl λa E=>qT E hd118 rfl λa E=>qA E rfl λa E=>ag ?_;exact⟨true,h,_,hm114,(hS.pickT 1 [] rfl rfl rfl),kut E⟩}
 {
 have h:=aC hd123 h;refine qG E hd123 rfl λa E=>qG E hd123 rfl λa E=>qG E hd123 rfl λa E=>spg E rfl rfl rfl rfl hd123 (aS (k:=kAp) E rfl rfl underlying22 (ha1.mono (Jj hm22 (Jj hm38 (Jj hm61 (Jj hm70 (Jj hm76 (Jj hm85 (Jj hm91 (Jj hm96 (Jj hm105 hm114))))))))))) rfl λa E=>spg E rfl rfl rfl rfl hd123 (aR E rfl rfl (cY rfl)) rfl λa E=>?_;obtain⟨x132,hx133,h⟩:=ob h
 refine stg E rfl rfl rfl rfl hd123 (dq (k:=kAp) E rfl underlying22 sizeOf32 (ha1.mono (Jj hm22 (Jj hm38 (Jj hm61 (Jj hm70 (Jj hm76 (Jj hm85 (Jj hm91 (Jj hm96 (Jj hm105 hm114)))))))))) rfl ⟨_,rfl⟩ hx133 (xl:=none) (xh:=(some (.tmp 108)))) rfl ?_;rintro v135 a _ ⟨rfl,hv134⟩ E;obtain⟨r136,hr137,h⟩:=ob h;refine stg E rfl rfl rfl rfl hd123 (aA (vs:=[v0_39,v135]) E rfl call39 (pC (hS:=hS) (hv0_41.mono (Jj hm61 (Jj hm70 (Jj hm76 (Jj hm85 (Jj hm91 (Jj hm96 (Jj hm105 hm114)))))))) hv134 hr137)) rfl ?_;rintro v141 a w ⟨m138,hm139,hS,hv140⟩ E;obtain⟨r142,hr143,h⟩:=ob h
 refine stg E rfl rfl rfl rfl hd123 (aA (vs:=[v141]) E rfl call38 (y3 (hS:=hS) hv140 hr143)) rfl ?_;rintro v147 a w ⟨m144,hm145,hS,hv146⟩ E;refine spg E rfl rfl rfl rfl hd123 (aS (k:=ab) E rfl rfl underlying50 hv146) rfl λa E=>qG E hd123 rfl λa E=>spg E rfl rfl rfl rfl hd123 (aS (k:=ab) E rfl rfl underlying50 (hv92.mono (Jj hm96 (Jj hm105 (Jj hm114 (Jj hm139 hm145)))))) rfl λa E=>spg E rfl rfl rfl rfl hd123 (aR E rfl rfl y8) rfl λa E=>spg E rfl rfl rfl rfl hd118 (rz E rfl hd123 rfl) rfl λa E=>qT E hd118 rfl λa E=>qA E rfl λa E=>ag ?_
 exact⟨(decide ((r88.length:Int)≤(r142.length:Int))),h,_,(Jj hm114 (Jj hm139 hm145)),(hS.pickT 2 [] rfl rfl rfl),kut E⟩}}
 {
 have h:=aC hd118 h;refine qX E hd118 λa E=>qX E hd118 λa E=>qX E hd118 λa E=>qX E hd118 λa E=>sxu E rfl rfl rfl rfl λa E=>sxu E rfl rfl rfl rfl λa E=>sxu E rfl rfl rfl rfl λa E=>sxu E rfl rfl rfl rfl λa E=>sxu E rfl rfl rfl rfl λa E=>sxu E rfl rfl rfl rfl λa E=>?_;refine sxu E rfl rfl rfl rfl λa E=>sxu E rfl rfl rfl rfl λa E=>sxu E rfl rfl rfl rfl λa E=>sxu E rfl rfl rfl rfl λa E=>sxu E rfl rfl rfl rfl λa E=>sxu E rfl rfl rfl rfl λa E=>qX E hd118 λa E=>qF E hd118 rfl λa E=>qA E rfl λa E=>ag ?_
 exact⟨false,h,_,hm114,(hS.pickT 1 [] rfl rfl rfl),kut E⟩}}
 {
 rintro a w ⟨x109,h,m107,hm108,hS,E⟩;unfold gu at h;refine bp ?_;obtain rfl:=oi h
 try dsimp only
 refine f1 E ?_;exact⟨_,(Jj hm22 (Jj hm38 (Jj hm61 (Jj hm70 (Jj hm76 (Jj hm85 (Jj hm91 (Jj hm96 (Jj hm105 hm108))))))))),(hS.dropL 1),cI⟩}}}}}}}
end
open Go.RowKit Go.ChangeShapes Go.ChangeAt Go.WideShapes
section
variable {P:Program}{H:Type}{enc:TypeId×Value→H}
theorem vK (hl:laidOutB P=true) {W W':World} {base:Nat} {sp':Nat→Bool}: ∀{ts:List TypeId} {vs:List Value} {ds:List (DataW H)} {ps:List MemPlace},(∀t∈ts,P.readableRec t=true∧t<P.types.size)→
  DataW.TrodAll enc P W base (λ_=>true) true ts vs ds ps→(∀p∈ps,W.sameAt W' p)→(∀p∈ps,sp' p.block=true)→DataW.TrodAll enc P W' base sp' true ts vs ds ps
 |[],[],[],_,_,h,_,_=>h
 |[],[],_::_,_,_,h,_,_=>h.elim
 |[],_::_,_,_,_,h,_,_=>h.elim
 |_::_,[],_,_,_,h,_,_=>h.elim
 |_::_,_::_,[],_,_,h,_,_=>h.elim
 |t::ts,v::vs,d::ds,ps,ht,h,hs,hp=>by
  obtain⟨p,q,h1,h2,rfl⟩:=h;refine⟨p,q,WideElems.Trod_stays hl (ht t (by simp)).1 (ht t (by simp)).2 h1 (λx hx=>hs x (by simp[hx])) (λx hx=>hp x (by simp[hx])),vK hl (λt h=>ht t (by simp[h])) h2 (λx hx=>hs x (by simp[hx])) (λx hx=>hp x (by simp[hx])),rfl⟩
theorem Ig {f:Func} {s:ChangeSpec} {apart fresh handsOn again:Bool} {W W':World} {args:Array Value} {ds gs:List (DataW H)} {before:List MemPlace} {tb:TypeId}
  (hW:DataW.Whole enc P f.params.toList s.vars apart W args.toList ds gs before) (hl:laidOutB P=true) (ht:∀t∈f.params.toList,P.readableRec t=true∧t<P.types.size)
  (hvars:s.vars=[]) (hr:f.resultTypes= #[tb]) (hb:P.underlying tb=some .bool) (hfn:s.fn H (ds++gs)={ results:=[.lit (.bool true)],args:=ds }) (hB:Below W.heap.size W W'):
  s.post enc P f apart fresh handsOn again W args (.bool true) W':=by
 have hlt:=λp hp=>hW.lt p hp;have hW2:=hW;obtain⟨p,q,hA,hV,hps,hz,hn⟩:=hW2;rw[hvars] at hV;obtain⟨hg,hq⟩:=trodVars_none hV;have hbp:before=p:=by rw[hps,hq];simp
 have hres:∀(b:Nat) (sp:Nat→Bool) (hd:Bool),DataW.TrodAll enc P W' b sp hd f.resultTypes.toList ((Value.bool true).resultList f.resultTypes.size) (s.fn H (ds++gs)).results []:=λb sp hd=>by
  rw[hr,hfn];exact trodAll_cons_mk (shut_bool hb _) trodAll_mk0
 have hargs:∀sp:Nat→Bool,(∀x∈before,sp x.block=true)→DataW.TrodAll enc P W' 0 sp true f.params.toList args.toList (s.fn H (ds++gs)).args p:=λsp hsp=>by
  rw[hfn];refine vK hl ht hA (λx hx=>hB.same (hlt x (by rw[hbp];exact hx))) (λx hx=>hsp x (by rw[hbp];exact hx))
 have hvars':∀sp:Nat→Bool,DataW.TrodVars enc P W' sp s.vars (s.fn H (ds++gs)).vars []:=λsp=>by
  rw[hvars,hfn];exact rfl
 have hold:∀x∈before,(λb=>decide (b<W.heap.size)) x.block=true:=λx hx=>by simpa using hlt x hx
 refine⟨ds,gs,before,[],p,[],hW,hres _ _ _,hargs _ hold,hvars' _,hB.frame _,λ_=>?_⟩;refine⟨ok_one hr rfl (okWide_bool_mk hb _),_,_,([]++p)++[],⟨[]++p,[],trodAll_append (hargs _ (λ_ _=>rfl)) (hres _ _ _),hvars' _,rfl,?_,?_⟩,?_⟩
 ·intro b off hp
  have hm:MemPlace.cell b off∈before:=by rw[hbp];simpa using hp
  have:=hlt _ hm;rw[hB.frozen (p:=⟨b,off,none⟩) this];exact hz b off hm
 ·intro ha
  have:=hn ha;rw[hbp] at this;simpa using this
 ·intro x hx _
  rw[hbp];simpa using hx
structure Okw (P:Program) (W:World) (r:Reach) (b:Nat) (t:TypeId) (v:Value):Prop where
 ok:Value.okWide P W r b t v
theorem Ih {W:World} {r:Reach} {b0:Nat} {ts:Array TypeId} {args:Array Value} (h: ∀(j:Nat) t v,ts[j]? =some t→args[j]? =some v→Value.okWide P W r b0 t v) (j:Nat) {t:TypeId} {v:Value} (h1:ts[j]? =some t) (h2:args[j]? =some v):Okw P W r b0 t v:=
 ⟨h j t v h1 h2⟩
theorem Ii {r:Reach} {b0:Nat} {W:World} {t e:TypeId} {α:Type} {k:Kd α} {sz:List α→Nat} {v:Value} {d:DataW H} {ps:List MemPlace} (B:CL H) (ht:P.underlying t=some (.slice e)) (hrd:Rd P t (kSl k) sz) (hval:Okw P W r b0 t v) (hd:DataW.Trod enc P W 0 (fun _=>true) true t v d ps) (hb:B.b d≤1099511627776):
  ∃xs,RV (kSl k) (m0 W) v xs∧sz xs≤B.b d:=by
 obtain⟨a,len,cap,rfl⟩:=okWide_slice ht hval.ok;obtain⟨fuel,hf⟩:=hd;obtain⟨xs,hx,hs⟩:=hrd enc B W fuel _ d ps hf hb;exact⟨xs,⟨_,hx,rfl⟩,hs⟩
end
theorem LO {α:Type}(xs:List α):(xs.map λ_=>1).sum=xs.length:=by
 induction xs with
 |nil=>rfl
 |cons a r ih=>simp[ih];omega
theorem Eg {α:Type}(f:α→Nat)(xs:List α)(h:∀x,1≤f x):xs.length≤(xs.map f).sum:=by
 induction xs with
 |nil=>simp
 |cons a r ih=>have:=h a;simp;omega
open Go.ChangeShapes Go.WideShapes Go.ChangeAt Go.RowKit
theorem own:ownKnob prog.godebug=none:=by kernel_rfl
theorem LP:laidOutB prog=true:=by kernel_rfl
theorem JR {H:Type}(d:DataW H):1≤Rows.uptoBulk d:=by
 cases d with
 |lit l=>cases l<;>simp[Rows.uptoBulk]
 |nil=>simp[Rows.uptoBulk]
 |ptr d=>simp[Rows.uptoBulk]
 |slice elems spare=>simp[Rows.uptoBulk]
 |agg parts=>simp[Rows.uptoBulk]
 |iface t d=>simp[Rows.uptoBulk]
 |map entries=>simp[Rows.uptoBulk]
 |held h=>simp[Rows.uptoBulk]
def Pv (H:Type):CL H:={
 b:=Rows.uptoBulk
 ba:=Rows.uptoBulkAll
 str:=λs=>by simp[Rows.uptoBulk]
 one:=JR
 slice:=λe s=>by simp[Rows.uptoBulk]
 agg:=λl=>by simp[Rows.uptoBulk]
 nil:=by simp[Rows.uptoBulkAll]
 cons:=λd r=>by simp[Rows.uptoBulkAll]}
theorem rd3:Rd prog 3 (ai .i64) (λ_=>1):=vY underlying3
def Q4:Int×Bool×Int×List Int→Ap:=λx=>⟨x.1,x.2.1,x.2.2.1,x.2.2.2⟩
def Ar:Int×Bool×Int×List Int→Nat:=λx=>1+(1+(1+(x.2.2.2.length+1)))
theorem RU:Rd prog 32 kAp (λy=>Ar (Ap.pr y)+1):=by
 refine sM (gi:=Q4) (sz:=Ar) underlying32 (by kernel_rfl) ?_ (λx=>rfl);show RdF prog (_::_::_::_::[]) 0 (bS (ai .i64) (bS cG (bS (ai .i64) qJ))) (λx=>1+(1+(1+(x.2.2.2.length+1))));refine kI (k:=ai .i64) (sz:=λ_=>1) (k':=bS cG (bS (ai .i64) qJ)) (sz':=λx=>1+(1+(x.2.2.length+1))) (vY underlying3) rfl (by kernel_rfl) ?_;refine kI (k:=cG) (sz:=λ_=>1) (k':=bS (ai .i64) qJ) (sz':=λx=>1+(x.2.length+1)) (Ku underlying4) rfl (by kernel_rfl) ?_;refine kI (k:=ai .i64) (sz:=λ_=>1) (k':=qJ) (sz':=λx=>x.length+1) (vY underlying2) rfl (by kernel_rfl) ?_
 exact xA (k:=qJ) (sz:=λx=>x.length+1) (L3 underlying9) rfl (by kernel_rfl)
def rv (xs:List Ap):Nat:=(xs.map λy=>Ar (Ap.pr y)+1).sum+1
theorem Pw:Rd prog 22 (kSl kAp) rv:=yp underlying22 (by kernel_rfl) RU
theorem Px:Rd prog 54 (ai .u64) (λ_=>1):=vY underlying54
theorem RW:Rd prog 55 (ai .u32) (λ_=>1):=vY underlying55
def RX:Int×Int→aM:=λx=>⟨x.1,x.2⟩
theorem RY:Rd prog 57 bA (λ_=>1+1+1):=by
 refine sM (gi:=RX) (sz:=λ_:Int×Int=>1+1) underlying57 (by kernel_rfl) ?_ (λx=>rfl);show RdF prog (_::_::[]) 0 (bS (ai .u64) (ai .u32)) (λ_=>1+1);refine kI (k:=ai .u64) (sz:=λ_=>1) (k':=ai .u32) (sz':=λ_:Int=>1) Px rfl (by kernel_rfl) ?_;exact xA (k:=ai .u32) (sz:=λ_=>1) RW rfl (by kernel_rfl)
def Q5:aM×List Ap×Int→aa:=λx=>⟨x.1,x.2.1,x.2.2⟩
def rx (y:aa):Nat:=(1+1+1)+(rv y.fRow+1)+1
theorem RZ:Rd prog 59 ab rx:=by
 refine sM (gi:=Q5) (sz:=λx:aM×List Ap×Int=>(1+1+1)+(rv x.2.1+1)) underlying59 (by kernel_rfl) ?_ (λx=>rfl);show RdF prog (_::_::_::[]) 0 (bS bA (bS (kSl kAp) (ai .u64))) (λx=>(1+1+1)+(rv x.2.1+1));refine kI (k:=bA) (sz:=λ_=>1+1+1) (k':=bS (kSl kAp) (ai .u64)) (sz':=λx:List Ap×Int=>rv x.1+1) RY rfl (by kernel_rfl) ?_;refine kI (k:=kSl kAp) (sz:=rv) (k':=ai .u64) (sz':=λ_:Int=>1) Pw rfl (by kernel_rfl) ?_;exact xA (k:=ai .u64) (sz:=λ_=>1) Px rfl (by kernel_rfl)
def mp (xs:List aa):Nat:=(xs.map rx).sum+1
theorem R0:Rd prog 50 (kSl ab) mp:=yp underlying50 (by kernel_rfl) RZ
def jQ (xs:List Int):Nat:=(xs.map λ_=>1).sum+1
theorem Py:Rd prog 49 (kSl (ai .i64)) jQ:=yp underlying49 (by kernel_rfl) rd3
def Pz:Int×List Int×List Int×List aa→bZ:=λx=>⟨x.1,x.2.1,x.2.2.1,x.2.2.2⟩
def Eh (y:bZ):Nat:=1+(jQ y.fSort+(jQ y.fKinds+mp y.fL))+1
theorem R3:Rd prog 62 bT Eh:=by
 refine sM (gi:=Pz) (sz:=λx:Int×List Int×List Int×List aa=>1+(jQ x.2.1+(jQ x.2.2.1+mp x.2.2.2))) underlying62 (by kernel_rfl) ?_ (λx=>rfl);show RdF prog (_::_::_::_::[]) 0 (bS (ai .i64) (bS (kSl (ai .i64)) (bS (kSl (ai .i64)) (kSl ab)))) (λx=>1+(jQ x.2.1+(jQ x.2.2.1+mp x.2.2.2)));refine kI (k:=ai .i64) (sz:=λ_=>1) (k':=bS (kSl (ai .i64)) (bS (kSl (ai .i64)) (kSl ab))) (sz':=λx=>jQ x.1+(jQ x.2.1+mp x.2.2)) rd3 rfl (by kernel_rfl) ?_;refine kI (k:=kSl (ai .i64)) (sz:=jQ) (k':=bS (kSl (ai .i64)) (kSl ab)) (sz':=λx=>jQ x.1+mp x.2) Py rfl (by kernel_rfl) ?_
 refine kI (k:=kSl (ai .i64)) (sz:=jQ) (k':=kSl ab) (sz':=mp) Py rfl (by kernel_rfl) ?_;exact xA (k:=kSl ab) (sz:=mp) R0 rfl (by kernel_rfl)
theorem R4:prog.readableRec 22=true∧22<prog.types.size:=⟨by kernel_rfl,of_decide_eq_true (by kernel_rfl)⟩
theorem R5:prog.readableRec 62=true∧62<prog.types.size:=⟨by kernel_rfl,of_decide_eq_true (by kernel_rfl)⟩
theorem Ij {n:Int}(h:inR .i64 n):cX n:=by
 have:=nj.1 h;have h1:IntKind.min .i64= -9223372036854775808:=by decide
 have h2:IntKind.max .i64=9223372036854775807:=by decide
 unfold cX;omega
theorem Ik {n:Int}(h:inR .u64 n):0≤n∧n<18446744073709551616:=by
 have:=nj.1 h;have h1:IntKind.min .u64=0:=by decide
 have h2:IntKind.max .u64=18446744073709551615:=by decide
 omega
theorem PA {n:Int}(h:inR .u32 n):0≤n∧n<4294967296:=by
 have:=nj.1 h;have h1:IntKind.min .u32=0:=by decide
 have h2:IntKind.max .u32=4294967295:=by decide
 omega
theorem LQ {m:M}{cs:List Value}{x:Ap}(hR:kAp.R m cs x):VOK x:=by
 obtain⟨h1,h2,h3,h4⟩:=hR;exact⟨Ij h1.2,Ij h3.2,h4.2.1⟩
theorem Fj {α:Type}{k:Kd α}{m:M}{cs:List Value}{xs:List α}(hR:(kSl k).R m cs xs):∀x∈xs,∃cs,k.R m cs x:=λx hx=>by
 obtain⟨a,len,cap,h1,h2,h3,h4,h5⟩:=hR;obtain⟨i,hi,rfl⟩:=List.getElem_of_mem hx;cases a with
 |none=>
  have h5':cap=0:=h5;omega
 |some ad=>exact⟨_,h5.2 i hi⟩
theorem Ki {xs:List Int}{n:Nat}(h:jQ xs≤n)(hn:n≤1048576):xs.length≤1048576:=by
 unfold jQ at h;rw[LO] at h;omega
theorem Q6 {xs:List Ap}{n:Nat}(h:rv xs≤n)(hn:n≤1048576):xs.length≤1048576:=by
 have:=Eg (λy=>Ar (Ap.pr y)+1) xs (λy=>by omega);unfold rv at h;omega
theorem Fk {α:Type} (f:α→Nat): ∀(xs:List α) (x:α),x∈xs→f x≤(xs.map f).sum
 |y::ys,x,h=>by
  simp only[List.map_cons,List.sum_cons];rcases List.mem_cons.1 h with rfl|h
  ·omega
  ·have:=Fk f ys x h;omega
theorem Il (xs:List aa):xs.length≤mp xs:=by
 have:=Eg rx xs (λy=>by unfold rx;omega);unfold mp;omega
theorem PB {v:aa}:v.fRow.length≤rx v:=by
 have:=Eg (λy=>Ar (Ap.pr y)+1) v.fRow (λy=>by omega);unfold rx rv;omega
theorem PC {m:M}{cs:List Value}{v:aa}(hR:ab.R m cs v)(hl:rx v≤1048576):lg v:=by
 obtain⟨h1,h2,h3⟩:=hR;obtain⟨h4,h5⟩:=h1;refine⟨Ik h4.2,PA h5.2,Ik h3.2,λx hx=>?_,Nat.le_trans PB hl⟩;obtain⟨cs,h⟩:=Fj h2 x hx;exact LQ h
theorem JS {P:Program} {H:Type} {enc:TypeId×Value→H} {r:Reach} {b0:Nat} {W:World} {t:TypeId} {fs:Array Field} {α:Type} {k:Kd α} {sz:α→Nat} {v:Value} {d:DataW H} {ps:List MemPlace} (B:CL H) (ht:P.underlying t=some (.struct fs)) (hrd:Rd P t k sz) (hk:k.agg=true) (hval:Okw P W r b0 t v) (hd:DataW.Trod enc P W 0 (fun _=>true) true t v d ps) (hb:B.b d≤1099511627776):
  ∃x,RV k (m0 W) v x∧sz x≤B.b d:=by
 obtain⟨cs,rfl,_⟩:=okWide_struct ht hval.ok;obtain⟨fuel,hf⟩:=hd;obtain⟨x,hx,hs⟩:=hrd enc B W fuel _ d ps hf hb;exact⟨x,⟨_,hx,by simp[Kd.val,hk,Value.cells]⟩,hs⟩
theorem LS {m:M}{v:Value}{c:bZ}(h:RV bT m v c){n:Nat}(hs:Eh c≤n)(hn:n≤1048576):DU c:=by
 obtain⟨cs,hR,_⟩:=h;obtain⟨h1,h2,h3,h4⟩:=hR;unfold Eh at hs;refine⟨Ki (n:=n) (by omega) hn,Ki (n:=n) (by omega) hn,?_,λv hv=>?_⟩
 ·have:=Il c.fL;omega
 ·obtain ⟨cs,hc⟩:=Fj h4 v hv
  have h5:=Fk rx c.fL v hv;have h6:(c.fL.map rx).sum+1=mp c.fL:=rfl;exact PC hc (by omega)
end Go.Proofs.YthbonoagbeilkaaGreat.Hay
