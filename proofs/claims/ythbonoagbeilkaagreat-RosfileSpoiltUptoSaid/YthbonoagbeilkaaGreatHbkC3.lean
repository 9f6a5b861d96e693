import Derived.Test.YthbonoagbeilkaaGreatHbkC2
import Derived.Test.YthbonoagbeilkaaGreatHbM
import Derived.Carry
import Derived.ChangeSame
import Derived.OpenShut
import Derived.JoinedCond
import Derived.Test.YthbonoagbeilkaaGreatRows
import Derived.Test.YthbonoagbeilkaaGreatHeE
set_option maxRecDepth 100000
set_option maxHeartbeats 4000000
set_option linter.unusedVariables false
namespace Go.Proofs.YthbonoagbeilkaaGreat.Hay
open Bool renaming eq_false_or_eq_true→Z1
open M.le renaming trans→Z0,refl→Z3
open IntKind renaming i64→Z2,u8→Z4,u64→Z5,u32→Z6
open Go.Proofs Tryz
noncomputable section
variable {W0:Bse}{m:M}{w:World}{L:List (Nat×List Value)}{TL:List (Nat×Value)}{v0 v1 v2 v3 v4 v5 v6 v7 v8 v9:Value}
theorem sm  {b0_:Nat} {c0_:List Value} (hS:S W0 m w ((b0_,c0_)::L) (TL)) {p0} (ha0:i9.R m c0_ p0) {p1} (ha1:inR .i64 p1) {p2} (ha2:inR .i64 p2) {r} (h:dz p0 p1 p2=some r):
    Calls prog 169 [(pz b0_),(.int .i64 p1),(.int .i64 p2)].toArray w (Ret λv w'=>∃m',M.le m m'∧∃q0_:List Value,S W0 m' w' ((b0_,q0_)::L) (TL)∧i9.R m' q0_ r.2∧RV (kSl (ai .u64)) m' v r.1):=by
 refine kc func169 ntmps169 λa E=>?_;have E:Env 63 a [(0,pz b0_),(1,.int .i64 p1),(2,.int .i64 p2)]:=E;unfold dz at h;refine ae (ah (qA E rfl λa E=>ag (ae (ae (ah (qM E rfl λa E=>qB E rfl rfl ju λa E=>ag ?_))))));refine kif E rfl (λhd4=>?_) (λhd4=>?_)
 {
 have h:=aA hd4 h;refine ae (ah (qM E rfl λa E=>sp E (ci E rfl) rfl λa E=>sp E (aM E EZ rfl) rfl λa E=>?_));refine st0 E (dG E hS ty4 ET rfl rfl dt (i:=0) rfl ha0) ?_;rintro _ w ⟨cs8,hc9,hS⟩ E;refine ag (ae (ah (qM E rfl λa E=>?_)));obtain⟨z12,hz13,h⟩:=ob h;refine st E (ry (k:=(ai .u64)) (m:=m) E hS rfl rfl underlying189 type54 rfl rfl rfl (λm=>M7 m) hz13 rfl rfl) rfl ?_;rintro v17 a w ⟨b14,cs15,hc16,hS⟩ E;refine qA E rfl λa E=>ag ?_;obtain⟨m19,hm20,hS,hv21⟩:=S.freeze hS hc16;refine bA ?_;obtain rfl:=oi h
 try dsimp only
 refine f1 E ?_;exact⟨_,hm20,cs8,hS,(i9.mono hm20 hc9),hv21⟩}
 {
 have h:=aB hd4 h;refine aQ (ae (ah (qM E rfl λa E=>qM E rfl λa E=>qM E rfl λa E=>qB E rfl rfl (oI rfl) λa E=>qB E rfl rfl (be rfl) λa E=>qB E rfl rfl (sy rfl (by decide)) λa E=>?_)));obtain⟨r28,hr29,h⟩:=ob h;refine st E (aF (vs:=[(pz b0_),(.int .i64 (Z2.wrap ((Z2.wrap ((Z2.wrap (p1*p2))+7)).tdiv 8)))]) E rfl call165 (vj (hS:=hS) ha0 (ak _ _) hr29)) rfl ?_;rintro v35 a w ⟨m30,hm31,c0_32,hS,hc0_33,hv34⟩ E;refine qA E rfl λa E=>ag (ae (ah (qM E rfl λa E=>?_)));obtain⟨z38,hz39,h⟩:=ob h
 refine st E (ry (k:=(ai .u64)) (m:=m30) E hS rfl rfl underlying189 type54 rfl rfl rfl (λm=>M7 m) hz39 rfl rfl) rfl ?_;rintro v43 a w ⟨b40,cs41,hc42,hS⟩ E;refine qA E rfl λa E=>ag (ae (ae (ah (qM E rfl λa E=>sp E (mb (k:=(ai .u64)) E rfl rfl underlying189 hc42) rfl λa E=>qM E rfl λa E=>ag ?_))));refine bw (λa w=>∃x50:(List Int),f7 r28 x50=some r∧∃m',M.le m30 m'∧∃(v51:Value),RV (kSl (ai .u64)) m' v51 x50∧S W0 m' w ((b0_,c0_32)::L) (TL)∧Env 63 a [(8,v51)]) ?_ ?_
 {
 refine aJ ?_;refine cH h (λ(s:Int×List Int) a w=>∃m',M.le m30 m'∧∃(cs61:List Value),inR .i64 s.1∧GS (ai .u64) m' b40 cs61 v43 s.2∧S W0 m' w ((b40,cs61)::(b0_,c0_32)::L) (TL)∧Env 63 a [(2,.int .i64 p2),(7,v35),(8,v43),(29,.int .i64 (z38.length:Int)),(30,.int .i64 s.1)]) ?_ ?_
 {exact⟨_,(Z3 _),cs41,(show inR .i64 0 from aw (by decide)),hc42,hS,kut E⟩}
 {
 rintro ⟨x58,x60⟩ a w ⟨m56,hm57,cs61,hr59,hc62,hS,E⟩ r63 h hb64;have h:dE p2 r28 z38 x58 x60=some r63:=h;unfold dE at h;refine ae (ah (qB E rfl rfl bn λa E=>ag (ae (kif E rfl (λhd66=>?_) (λhd66=>?_)))))
 {
 have h:=aA hd66 h;refine aQ (ae ?_);refine bw (λa w=>∃x69:(List Int),f9 x58 x69=some r63∧∃m',M.le m56 m'∧∃(cs70:List Value),GS (ai .u64) m' b40 cs70 v43 x69∧S W0 m' w ((b40,cs70)::(b0_,c0_32)::L) (TL)∧Env 63 a [(2,.int .i64 p2),(7,v35),(8,v43),(29,.int .i64 (z38.length:Int)),(30,.int .i64 x58)]) ?_ ?_
 {
 refine aJ (ae (ah (qM E rfl λa E=>qA E rfl λa E=>ag (ae (ah (qM E rfl λa E=>qM E rfl λa E=>?_))))));refine ag (aJ ?_);refine cH h (λ(s:Int×List Int) a w=>∃m',M.le m56 m'∧∃(cs84:List Value),inR .i64 s.1∧GS (ai .u64) m' b40 cs84 v43 s.2∧S W0 m' w ((b40,cs84)::(b0_,c0_32)::L) (TL)∧Env 63 a [(2,.int .i64 p2),(7,v35),(8,v43),(9,.int .i64 x58),(29,.int .i64 (z38.length:Int)),(30,.int .i64 x58),(33,.int .i64 p2),(34,.int .i64 s.1)]) ?_ ?_
 {exact⟨_,(Z3 _),cs61,(show inR .i64 0 from aw (by decide)),hc62,hS,kut E⟩}
 {
 rintro ⟨x81,x83⟩ a w ⟨m79,hm80,cs84,hr82,hc85,hS,E⟩ r86 h hb87;have h:et p2 r28 x58 x81 x83=some r86:=h;unfold et at h;refine ae (ah (qB E rfl rfl bn λa E=>ag (ae (kif E rfl (λhd89=>?_) (λhd89=>?_)))))
 {
 have h:=aA hd89 h;refine aQ (ae (aJ (ae (ah (qM E rfl λa E=>qA E rfl λa E=>ag (ae (ah ?_)))))));refine qM E rfl λa E=>qM E rfl λa E=>qB E rfl rfl (oI rfl) λa E=>qM E rfl λa E=>qB E rfl rfl (be rfl) λa E=>qA E rfl λa E=>ag ?_;obtain⟨j98,hj99,x101,hx102,h⟩:=ob2 h;obtain⟨x104,hx105,u109,hu110,h⟩:=ob2 h;obtain⟨u111,hu112,h⟩:=ob h
 refine kch (k:=16) (m:=m79) (es:=[]) (Φ:=(λi m ws v=>match i with|0=>v=v43|1=>ei .i64 x58 v|2=>v=(.pointer (some ⟨b40,j98*1,none⟩))|3=>ei .u64 x101 v|4=>v=v35|5=>ei .i64 (Z2.wrap ((Z2.wrap (x58*p2))+x81)) v|6=>ei .i64 (Z2.wrap ((Z2.wrap ((Z2.wrap (x58*p2))+x81)).tdiv 8)) v|7=>PR (ai .u8) m v x104|8=>ei .u8 x104 v|9=>ei .i64 (Z2.wrap ((Z2.wrap (x58*p2))+x81)) v|10=>ei .i64 ((Z2.wrap ((Z2.wrap (x58*p2))+x81)).tmod 8) v|11=>ei .u8 (ay .u8 x104 ((Z2.wrap ((Z2.wrap (x58*p2))+x81)).tmod 8)) v|12=>ei .u8 (cL .u8 (ay .u8 x104 ((Z2.wrap ((Z2.wrap (x58*p2))+x81)).tmod 8)) 1) v|13=>ei .u64 (Z5.wrap (cL .u8 (ay .u8 x104 ((Z2.wrap ((Z2.wrap (x58*p2))+x81)).tmod 8)) 1)) v|14=>ei .i64 x81 v|15=>ei .u64 (dx .u64 (Z5.wrap (cL .u8 (ay .u8 x104 ((Z2.wrap ((Z2.wrap (x58*p2))+x81)).tmod 8)) 1)) x81) v|_=>True)) (Q:=(λc m ws L' TL'=>match c with|0=>(b40,cs84)::(b0_,c0_32)::L=L'∧TL=TL'|_=>False)) (cs:=[⟨0,0,false,[(8,v43)]⟩,⟨0,0,false,[(9,.int .i64 x58)]⟩,⟨0,0,false,[]⟩,⟨0,0,false,[]⟩,⟨0,0,false,[(7,v35)]⟩,⟨0,0,false,[(11,.int .i64 (Z2.wrap ((Z2.wrap (x58*p2))+x81)))]⟩,⟨0,0,false,[]⟩,⟨0,0,false,[]⟩,⟨0,0,false,[]⟩,⟨0,0,false,[(11,.int .i64 (Z2.wrap ((Z2.wrap (x58*p2))+x81)))]⟩,⟨0,0,false,[]⟩,⟨0,0,false,[]⟩,⟨0,0,false,[]⟩,⟨0,0,false,[]⟩,⟨0,0,false,[(10,.int .i64 x81)]⟩,⟨0,0,false,[]⟩]) mixed E hS ⟨rfl,rfl⟩ rfl rfl (by kernel_rfl) ?_ ?_ ?_ ?_
 {
 intro i m_ m2_ ws v n_ q_
 iterate 16 (rcases i with _|i;first|exact q_|exact PR.mono q_ n_)
 exact trivial}
 {
 intro c m_ m2_ ws L_ T_ n_ hq_
 match c,hq_ with
 |0,⟨e1_,e2_⟩=>exact⟨e1_,e2_⟩
 |_+1,hq_=>exact hq_.elim}
 {
 refine⟨?_,?_,?_,?_,?_,?_,?_,?_,?_,?_,?_,?_,?_,?_,?_,?_,trivial⟩
 {exact cmv λ_ _=>rfl}
 {exact cmv λ_ _=>⟨rfl,hr59⟩}
 {refine cp1 λ_ _ _ _ _ M' Q' Z' E' T'=>?_;obtain⟨rfl,rfl⟩:=Q';have E:=(E'.add (T' 0)).add (T' 1).1;exact cq (br (k:=(ai .u64)) E rfl rfl underlying189 sizeOf54 (hc85.mono M') hj99 rfl) Z' rfl}
 {refine cp1 λ_ _ _ _ _ M' Q' Z' E' T'=>?_;obtain⟨rfl,rfl⟩:=Q';have E:=E'.add (T' 2);exact cr (aC E Z' yJ rfl (i:=0) rfl (GS.elem (hc85.mono M') hx102)) Z' λ_ h=>aG h}
 {exact cmv λ_ _=>rfl}
 {exact cmv λ_ _=>⟨rfl,(ak _ _)⟩}
 {refine cp0 λ_ _ _ _ _ _ _ _ _ Z' E' T'=>?_;have E:=E'.add (T' 5).1;exact cq (aP E rfl rfl (sy rfl (by decide))) Z' ⟨rfl,(ak _ _)⟩}
 {refine cp0 λ_ _ _ _ _ _ _ M' _ Z' E' T'=>?_;have E:=(E'.add (T' 4)).add (T' 6).1;exact cr (dT (k:=(ai .u8)) E rfl rfl underlying24 sizeOf5 (hv34.mono (Z0 hm57 (Z0 hm80 M'))) hx105) Z' λ_ h=>h}
 {
 refine cp0 λ_ _ _ m' a' _ _ _ _ Z' E' T'=>?_;obtain⟨v143,e144,q145⟩:∃v,a'.tmps.getD 49 undef=v∧(PR (ai .u8) m' v x104):=⟨_,rfl,T' 7⟩
 have E:=E'.add (e144);exact cr (bG E Z' ty5 rfl q145) Z' λ_ h=>aG h}
 {exact cmv λ_ _=>⟨rfl,(ak _ _)⟩}
 {refine cp0 λ_ _ _ _ _ _ _ _ _ Z' E' T'=>?_;obtain⟨q151,hr152⟩:=T' 9;have E:=E'.add q151;exact cq (aP E rfl rfl (yS rfl (by decide))) Z' ⟨rfl,(tS hr152)⟩}
 {refine cp0 λ_ _ _ _ _ _ _ _ _ Z' E' T'=>?_;obtain⟨q156,hr157⟩:=T' 8;have E:=(E'.add q156).add (T' 10).1;exact cq (aP E rfl rfl (kg rfl (of_decide_eq_true (jd hu110)))) Z' ⟨rfl,(xa hr157 _)⟩}
 {refine cp0 λ_ _ _ _ _ _ _ _ _ Z' E' T'=>?_;have E:=E'.add (T' 11).1;exact cq (aP E rfl rfl (xb rfl)) Z' ⟨rfl,(Eb _ _ _)⟩}
 {refine cp0 λ_ _ _ _ _ _ _ _ _ Z' E' T'=>?_;have E:=E'.add (T' 12).1;exact cq (cl E rfl underlying5 underlying54 rfl) Z' ⟨rfl,(ak _ _)⟩}
 {exact cmv λ_ _=>⟨rfl,hr82⟩}
 {refine cp0 λ_ _ _ _ _ _ _ _ _ Z' E' T'=>?_;have E:=(E'.add (T' 13).1).add (T' 14).1;exact cq (aP E rfl rfl (xd rfl (of_decide_eq_true (jd hu112)))) Z' ⟨rfl,(ri _ _ _)⟩}}
 {
 intro ws_ L_ T_ m183 a w hl184 hm185 hq186 hS hd187 hn188 ho189 hT190;obtain rfl:=eh hl184;obtain⟨rfl,rfl⟩:=hq186;have E:=eof 16 [(2,.int .i64 p2),(7,v35),(8,v43),(9,.int .i64 x58),(10,.int .i64 x81),(11,.int .i64 (Z2.wrap ((Z2.wrap (x58*p2))+x81))),(29,.int .i64 (z38.length:Int)),(30,.int .i64 x58),(33,.int .i64 p2),(34,.int .i64 x81),(35,.bool (decide (x81<p2))),(36,.int .i64 x81),(37,.int .i64 x58),(38,.int .i64 p2),(39,.int .i64 (Z2.wrap (x58*p2))),(40,.int .i64 x81),(41,.int .i64 (Z2.wrap ((Z2.wrap (x58*p2))+x81)))] hd187 hn188 ho189
 have E:=(((E.add (hT190 0)).add (hT190 1).1).add (hT190 3).1).add (hT190 15).1;refine qB E rfl rfl (H6 rfl) λa E=>?_;obtain⟨j207,hj208,h⟩:=ob h;refine sp E (br (k:=(ai .u64)) E rfl rfl underlying189 sizeOf54 (hc85.mono hm185) hj208 rfl) rfl λa E=>?_;obtain⟨x212,hx213,h⟩:=ob h;refine st0 E (ef (k:=(ai .u64)) E hS yJ bm (hc85.mono hm185) hx213 rfl rfl (aq (Ch _ _ _)) (i:=0) rfl) ?_;rintro _ w ⟨cs210,hc211,hS⟩ E;refine ag (ah (qB E rfl rfl (be rfl) λa E=>qM E rfl λa E=>ag ?_))
 exact⟨(Z2.wrap (x81+1),(x83.set j207 (bOr .u64 x101 (dx .u64 (Z5.wrap (cL .u8 (ay .u8 x104 ((Z2.wrap ((Z2.wrap (x58*p2))+x81)).tmod 8)) 1)) x81)))),(Option.some.inj h).symm,_,(Z0 hm80 hm185),cs210,(ak _ _),hc211,hS,kut E⟩}}
 {have h:=aB hd89 h;refine cC rfl rfl ?_;have h:=bE h hb87;exact⟨x83,h,_,hm80,cs84,hc85,hS,kut E⟩}}}
 {rintro a w ⟨x69,h,m67,hm68,cs70,hc71,hS,E⟩;unfold f9 at h;refine ah (qB E rfl rfl (be rfl) λa E=>qM E rfl λa E=>ag ?_);exact⟨(Z2.wrap (x58+1),x69),(Option.some.inj h).symm,_,(Z0 hm57 hm68),cs70,(ak _ _),hc71,hS,kut E⟩}}
 {have h:=aB hd66 h;obtain⟨m217,hm218,hS,hv219⟩:=S.freeze hS hc62;refine cC rfl rfl ?_;have h:=bE h hb64;exact⟨x60,h,_,(Z0 hm57 hm218),v43,hv219,hS,kut E⟩}}}
 {
 rintro a w ⟨x50,h,m48,hm49,v51,hv52,hS,E⟩;unfold f7 at h;refine ae (ah (qM E rfl λa E=>qA E rfl λa E=>ag (bA ?_)));obtain rfl:=oi h
 try dsimp only
 refine f1 E ?_;exact⟨_,(Z0 hm31 hm49),c0_32,hS,(i9.mono hm49 hc0_33),hv52⟩}}
theorem O8:Ctr Sz prog 169 [.pt (.st 161),.rd (.int .i64),.rd (.int .i64)] [.rd (.sl (.int .u64))] (λx=>dz x.1 x.2.1 x.2.2.1):=by
 intro W0 m w L TL vs x r Lp Tp hS hP h;obtain⟨b0,c0,vs,Lp,rfl,rfl,a0,hP0⟩:=Ps hP;obtain⟨v1,vs,rfl,a1,hP1⟩:=kN hP0;obtain⟨rfl,n1⟩:=aG a1;obtain⟨v2,vs,rfl,a2,hP2⟩:=kN hP1;obtain⟨rfl,n2⟩:=aG a2;obtain⟨rfl,rfl,rfl⟩:=oL hP2;refine rm (sm (hS:=hS) a0 n1 n2 h) λv w' he=>?_;obtain⟨m',hm,q0,Z',o0,r0⟩:=he;exact⟨m',[v],[],[(b0,q0)],[],hm,Z',rfl,⟨r0,trivial⟩,⟨rfl,o0,trivial⟩⟩
def O9:=mC O8 call169
theorem Pa:Ctr Sz prog 120 [.pt (.st 161),.rd (.int .i64),.rd (.int .i64)] [.ap (.st 32)] (fun x=>bS x.1 x.2.1 x.2.2.1):=
 ncR [zP,OE,OW,DR,O3,O5,O7,O9] [6] func120 ntmps120 (.s .o (.s .o (.s (.s .o (.b (.s .o (.i (.b (.l ⟨[.v 7 1 (.dat (.sl (.st 32)) (some 0)),.b 0 1 (.st 161)],[0,2],1,[4]⟩ .o)) (.s .o (.i (.b (.l ⟨[.v 7 1 (.dat (.sl (.st 32)) (some 0)),.b 0 1 (.st 161)],[0,2],1,[4]⟩ .o)) (.s .o (.i (.s .o (.s .o (.b (.l ⟨[.v 7 1 (.dat (.sl (.st 32)) (some 1)),.v 9 1 (.dat (.int .i64) none),.b 0 1 (.st 161)],[0,2],1,[4,4]⟩ .o)))) (.s .o (.i (.s .o (.s (.s .o (.b (.l ⟨[.v 11 1 (.dat (.sl (.st 32)) (some 0)),.v 131 1 (.dat (.int .u8) none),.b 0 1 (.st 161)],[0,2,7,130],1,[4]⟩ .o))) (.s .o (.b (.l ⟨[.v 7 1 (.dat (.sl (.st 32)) (some 1)),.v 149 1 (.dat (.int .i64) none)],[11,147,148],1,[4,4]⟩ .o))))) (.s .o (.s .o (.b (.l ⟨[.v 7 1 (.dat (.sl (.st 32)) (some 0)),.v 29 1 (.dat (.int .i64) none)],[14,27,28],1,[4]⟩ .o)))))))))))))) .o))) λx=>by kernel_rfl
def Pb:=mC Pa call120
theorem QD:Ctr Sz prog 62 [.rd (.int .i64),.rd (.sl (.int .u8)),.rd (.int .i64)] [.rd (.sl (.st 32)),.rd (.int .i64)] (fun x=>lw x.1 x.2.1 x.2.2.1):=
 ncR [Cb,QC,Pb] [6,7] func62 ntmps62 .o λx=>by kernel_rfl
theorem zV  (hS:S W0 m w L TL) {p0} (ha0:inR .i64 p0) {p1} (ha1:RV (kSl (ai .u8)) m v1 p1) {p2} (ha2:inR .i64 p2) {r} (h:lw p0 p1 p2=some r):
    Calls prog 62 [(.int .i64 p0),v1,(.int .i64 p2)].toArray w (Ret λv w'=>∃m',M.le m m'∧S W0 m' w' L TL∧∃v0_ v1_:Value,v= .tuple #[v0_,v1_]∧RV (kSl kAp) m' v0_ r.1∧RV (ai .i64) m' v1_ r.2):=by
 refine rm (QD W0 m w L TL [(.int .i64 p0),v1,(.int .i64 p2)] (p0,p1,p2,()) r [] [] hS ⟨aq ha0,⟨ha1,⟨aq ha2,trivial⟩⟩⟩ h) λv w' he=>?_;obtain⟨m',us,Lr,Lq,Tr,hm,Z',rfl,hR,hO⟩:=he;obtain⟨u0,us,rfl,r0,hR0⟩:=dC hR;obtain⟨u1,us,rfl,r1,hR1⟩:=dC hR0;obtain⟨rfl,rfl,rfl⟩:=cE hR1;have hO0:=bT hO;have hO1:=bT hO0;have hO2:=bT hO1;obtain rfl:=cF hO2;exact⟨m',hm,Z',u0,u1,rfl,r0,r1⟩
theorem DS  (hS:S W0 m w L TL) {p0} (ha0:RV (kSl (ai .u8)) m v0 p0) {r} (h:k8 p0=some r):
    Calls prog 21 [v0].toArray w (Ret λv w'=>∃m',M.le m m'∧S W0 m' w' L TL∧∃v0_ v1_ v2_:Value,v= .tuple #[v0_,v1_,v2_]∧RV (kSl kAp) m' v0_ r.1∧RV (ai .i64) m' v1_ r.2.1∧RV (ai .i64) m' v2_ r.2.2):=by
 refine kc func21 ntmps21 λa E=>?_;have E:Env 71 a [(0,v0)]:=E;unfold k8 at h;refine ae (ah (qA E rfl λa E=>qA E rfl λa E=>qA E rfl λa E=>ag (ae (ah (qM E rfl λa E=>?_)))));obtain⟨r5,hr6,h⟩:=ob h;refine st E (aF (vs:=[v0]) E rfl call57 (DQ (hS:=hS) ha0 hr6)) rfl ?_;rintro _ a w ⟨m7,hm8,hS,v0_9,v1_10,v2_11,rfl,hv0_12,hv1_13,hv2_14⟩ E;obtain rfl:=eQ hv2_14;refine qM E rfl λa E=>sp E (bM E rfl rfl) rfl λa E=>sp E (bM E rfl rfl) rfl λa E=>sp E (bM E rfl rfl) rfl λa E=>?_;refine st E (dS hS zeroValue34 rfl (cs:=vd)) rfl ?_;rintro _ a w ⟨b20,rfl,hS⟩ E
 refine st0 E (dG E hS yL bm rfl rfl hv0_12 (i:=0) rfl (yK _)) ?_;rintro _ w ⟨cs22,hc23,hS⟩ E;refine qA E rfl λa E=>qA E rfl λa E=>ag (ae (ae (ah (qM E rfl λa E=>sp E (lT E rfl) rfl λa E=>ag (kif E rfl (λhd29=>?_) (λhd29=>?_))))))
 {
 have h:=aA hd29 h;refine ae (ah (qA E rfl λa E=>qA E rfl λa E=>qA E rfl λa E=>ag (bA ?_)));obtain rfl:=oi h
 try dsimp only
 refine Fin.mk E (rs:=[.tmp 2,.tmp 3,.tmp 4]) rfl (rx.tmp E rfl (rx.tmp E rfl (rx.tmp E rfl rx.nil))) ?_;exact⟨_,hm8,(hS.dropL 1),_,_,_,rfl,dL,(aq (show inR .i64 0 from aw (by decide))),(aq (show inR .i64 70 from aw (by decide)))⟩}
 {
 have h:=aB hd29 h;refine aQ (ae (ah (qM E rfl λa E=>sp E (aM E zM rfl) rfl λa E=>?_)));refine st E (aC E hS ty3 rfl (i:=0) rfl (Mx.R_drop (aR hc23))) rfl ?_;rintro v36 a _ ⟨rfl,hv35⟩ E;obtain⟨rfl,hr37⟩:=aG hv35;refine qB E rfl rfl (dq rfl) λa E=>?_;obtain⟨x39,hx40,h⟩:=ob h;refine st E (eD (k:=(ai .u8)) E rfl underlying24 sizeOf5 (ha0.mono hm8) rfl ⟨_,rfl⟩ hx40 (xl:=none) (xh:=(some (.tmp 23)))) rfl ?_;rintro v42 a _ ⟨rfl,hv41⟩ E;obtain⟨r43,hr44,h⟩:=ob h;refine st E (aF (vs:=[v42]) E rfl call60 (vD (hS:=hS) hv41 hr44)) rfl ?_;rintro v48 a w ⟨m45,hm46,hS,hv47⟩ E
 refine qA E rfl λa E=>ag (ae (ae ?_));obtain⟨r50,hr51,x58,hx59,h⟩:=ob2 h
 refine kch (k:=6) (m:=m45) (es:=[1]) (Φ:=(λi m ws v=>match i with|0=>v=v48|1=>v=(wi ws 0).v∧RV (kSl (ai .u8)) m v r50|2=>v=v0|3=>v=(.pointer (some ⟨b20,11,none⟩))|4=>ei .i64 r5.1.fBytes v|5=>RV (kSl (ai .u8)) m v x58|_=>True)) (Q:=(λc m ws L' TL'=>match c with|0=>(b20,cs22)::L=L'∧(1,v48)::TL=TL'|1=>(b20,cs22)::L=L'∧(1,(wi ws 0).v)::TL=TL'|_=>False)) (cs:=[⟨0,0,false,[(8,v48)]⟩,⟨0,0,true,[]⟩,⟨0,1,false,[(0,v0)]⟩,⟨0,1,false,[(5,pz b20)]⟩,⟨0,1,false,[]⟩,⟨0,1,false,[]⟩]) mixed E hS ⟨rfl,rfl⟩ rfl rfl (by kernel_rfl) ?_ ?_ ?_ ?_
 {
 intro i m_ m2_ ws v n_ q_
 iterate 6 (rcases i with _|i;first|exact q_|exact RV.mono q_ n_|exact⟨q_.1,RV.mono q_.2 n_⟩)
 exact trivial}
 {
 intro c m_ m2_ ws L_ T_ n_ hq_
 match c,hq_ with
 |0,⟨e1_,e2_⟩=>exact⟨e1_,e2_⟩
 |1,⟨e1_,e2_⟩=>exact⟨e1_,e2_⟩
 |_+2,hq_=>exact hq_.elim}
 {
 refine⟨?_,?_,?_,?_,?_,?_,trivial⟩
 {exact cmv λ_ _=>rfl}
 {refine sA λpre_ L_ T_ m' a' w' hl' M' Q' Z' E' T'=>?_;obtain rfl:=eh hl';obtain⟨rfl,rfl⟩:=Q';have E:=E'.add (T' 0 (by decide) 26 rfl);refine bg.imp (aF (vs:=[v48]) E rfl call50 (AY (hS:=Z') (hv47.mono M') hr51)) ?_;rintro vv55 w ⟨m52,hm53,hS,hv54⟩;exact⟨_,⟨0,vv55,[],[],[]⟩,_,_,hm53,hS,⟨rfl,rfl⟩,⟨rfl,hv54⟩⟩}
 {exact cmv λ_ _=>rfl}
 {refine cp0 λ_ _ _ _ _ _ _ _ _ Z' E' _=>?_;exact cq (aM E' zM rfl) Z' rfl}
 {
 refine cp0 λ_ _ _ _ _ _ P' M' Q' Z' E' T'=>?_;rcases Po (a:=0) (n:=0) P' with h0_|h0_
 {obtain rfl:=eh h0_;obtain⟨rfl,rfl⟩:=Q';have E:=E'.add (T' 3);exact cr (aC E Z' ty3 rfl (i:=0) rfl (Mx.R_drop (aR (cV.mono (Z0 hm46 M') hc23)))) Z' λ_ h=>aG h}
 {obtain⟨⟨_,vv55,_,_,_⟩,post_',rfl,hp1_⟩:=h0_;obtain rfl:=eh (QL (a:=0) hp1_);obtain⟨rfl,rfl⟩:=Q';have E:=E'.add (T' 3);exact cr (aC E Z' ty3 rfl (i:=0) rfl (Mx.R_drop (aR (cV.mono (Z0 hm46 M') hc23)))) Z' λ_ h=>aG h}}
 {refine cp0 λ_ _ _ _ _ _ _ M' _ Z' E' T'=>?_;have E:=(E'.add (T' 2)).add (T' 4).1;exact cr (eD (k:=(ai .u8)) E rfl underlying24 sizeOf5 (ha0.mono (Z0 hm8 (Z0 hm46 M'))) rfl ⟨_,rfl⟩ hx59 (xl:=none) (xh:=(some (.tmp 30)))) Z' λ_ h=>h}}
 {
 intro ws_ L_ T_ m85 a w hl86 hm87 hq88 hS hd89 hn90 ho91 hT92;obtain⟨⟨_,vv55,_,_,_⟩,rfl⟩:=ux hl86;obtain⟨rfl,rfl⟩:=hq88;have E:=eof 6 [(0,v0),(2,.slice none 0 0),(3,.int .i64 0),(4,.int .i64 0),(5,pz b20),(6,v1_10),(7,.bool r5.2.2),(8,v48),(12,(.tuple #[v0_9,v1_10,(.bool r5.2.2)])),(13,v0),(14,(.tuple #[v0_9,v1_10,(.bool r5.2.2)])),(15,v0_9),(16,v1_10),(17,.bool r5.2.2),(18,.bool r5.2.2),(19,.bool (!r5.2.2)),(20,v0),(21,.pointer (some ⟨b20,11,none⟩)),(22,.int .i64 r5.1.fBytes),(23,.int .i64 (Z2.wrap (r5.1.fBytes - 4))),(24,v42),(25,v48)] hd89 hn90 ho91
 obtain⟨v93,e94,q95⟩:∃v,a.tmps.getD 27 undef=v∧(v=vv55∧RV (kSl (ai .u8)) m85 v r50):=⟨_,rfl,hT92 1⟩
 obtain⟨q96,q95⟩:=q95;rw[q96] at q95;have E:=E.add (e94.trans q96);obtain⟨v97,E,q99⟩:=adv E (hT92 5);obtain⟨r100,hr101,h⟩:=ob h;refine st E (aF (vs:=[vv55,v97]) E rfl call61 (vE (hS:=hS) q95 q99 hr101)) rfl ?_;rintro v105 a w ⟨m102,hm103,hS,hv104⟩ E;obtain rfl:=eQ hv104;refine sp E (lT E rfl) rfl λa E=>ag (kif E rfl (λhd107=>?_) (λhd107=>?_))
 {
 have h:=aA hd107 h;refine ae (ah (qA E rfl λa E=>qA E rfl λa E=>qA E rfl λa E=>ag (bA ?_)));obtain rfl:=oi h
 try dsimp only
 refine Fin.mk E (rs:=[.tmp 2,.tmp 3,.tmp 4]) rfl (rx.tmp E rfl (rx.tmp E rfl (rx.tmp E rfl rx.nil))) ?_;exact⟨_,(Z0 hm8 (Z0 hm46 (Z0 hm87 hm103))),((hS.dropL 1).dropT 1),_,_,_,rfl,dL,(aq (show inR .i64 0 from aw (by decide))),(aq (show inR .i64 71 from aw (by decide)))⟩}
 {
 have h:=aB hd107 h;refine aQ (ae (ah (sp E (aM E DH rfl) rfl λa E=>?_)));refine st E (aC E hS ty3 rfl (i:=0) rfl (Ms.R_drop (aR (cV.mono (Z0 hm46 (Z0 hm87 hm103)) hc23)))) rfl ?_;rintro v113 a _ ⟨rfl,hv112⟩ E;obtain⟨rfl,hr114⟩:=aG hv112;refine qM E rfl λa E=>sp E (aM E HH rfl) rfl λa E=>?_;refine st E (aC E hS ty3 rfl (i:=0) rfl (Mt.R_drop (aR (cV.mono (Z0 hm46 (Z0 hm87 hm103)) hc23)))) rfl ?_;rintro v118 a _ ⟨rfl,hv117⟩ E;obtain⟨rfl,hr119⟩:=aG hv117;obtain⟨r120,hr121,h⟩:=ob h
 refine st E (aF (vs:=[(.int .i64 r5.1.fKind),v1_10,(.int .i64 r5.1.fMany)]) E rfl call62 (zV (hS:=hS) hr114 (hv1_13.mono (Z0 hm46 (Z0 hm87 hm103))) hr119 hr121)) rfl ?_;rintro _ a w ⟨m122,hm123,hS,v0_124,v1_125,rfl,hv0_126,hv1_127⟩ E;obtain⟨rfl,hr129⟩:=aG hv1_127;refine qM E rfl λa E=>sp E (bM E rfl rfl) rfl λa E=>sp E (bM E rfl rfl) rfl λa E=>qA E rfl λa E=>qA E rfl λa E=>ag (ae (ae (ah (qM E rfl λa E=>?_))));refine qB E rfl rfl lS λa E=>ag (kif E rfl (λhd137=>?_) (λhd137=>?_))
 {
 have h:=aA hd137 h;refine ae (ah (qA E rfl λa E=>qA E rfl λa E=>qA E rfl λa E=>ag (bA ?_)));obtain rfl:=oi h
 try dsimp only
 refine Fin.mk E (rs:=[.tmp 2,.tmp 3,.tmp 4]) rfl (rx.tmp E rfl (rx.tmp E rfl (rx.tmp E rfl rx.nil))) ?_;exact⟨_,(Z0 hm8 (Z0 hm46 (Z0 hm87 (Z0 hm103 hm123)))),((hS.dropL 1).dropT 1),_,_,_,rfl,dL,(aq (show inR .i64 0 from aw (by decide))),(aq (show inR .i64 70 from aw (by decide)))⟩}
 {
 have h:=aB hd137 h;refine aQ (ae (ah (sp E (aM E DH rfl) rfl λa E=>?_)));refine st E (aC E hS ty3 rfl (i:=0) rfl (Ms.R_drop (aR (cV.mono (Z0 hm46 (Z0 hm87 (Z0 hm103 hm123))) hc23)))) rfl ?_;rintro v143 a _ ⟨rfl,hv142⟩ E;obtain⟨rfl,hr144⟩:=aG hv142;refine qM E rfl λa E=>?_;obtain⟨r146,hr147,h⟩:=ob h;refine st E (aF (vs:=[(.int .i64 r5.1.fKind),v0_124]) E rfl call48 (wZ (hS:=hS) hr144 hv0_126 hr147)) rfl ?_;rintro v151 a w ⟨m148,hm149,hS,hv150⟩ E;refine st E (dS hS zeroValue34 rfl (cs:=vd)) rfl ?_;rintro _ a w ⟨b152,rfl,hS⟩ E
 refine st0 E (dG E hS yL bm rfl rfl hv150 (i:=0) rfl (yK _)) ?_;rintro _ w ⟨cs154,hc155,hS⟩ E;refine ag (ae (ae ?_));refine bw (λa w=>∃x159:Bool,jE r5 r120 x159=some r∧∃m',M.le m148 m'∧S W0 m' w ((b152,cs154)::(b20,cs22)::L) (TL)∧Env 71 a [(5,pz b20),(9,v0_124),(67,.bool x159)]) ?_ ?_
 {
 refine ah (sp E (aM E wU rfl) rfl λa E=>?_);refine st E (aC E hS ty3 rfl (i:=0) rfl (Mw.R_drop (aR hc155))) rfl ?_;rintro v197 a _ ⟨rfl,hv196⟩ E;obtain⟨rfl,hr198⟩:=aG hv196;refine sp E (aM E wU rfl) rfl λa E=>?_;refine st E (aC E hS ty3 rfl (i:=1) rfl (Mw.R_drop (aR (cV.mono (Z0 hm46 (Z0 hm87 (Z0 hm103 (Z0 hm123 hm149)))) hc23)))) rfl ?_;rintro v201 a _ ⟨rfl,hv200⟩ E;obtain⟨rfl,hr202⟩:=aG hv200;refine qB E rfl rfl lS λa E=>qM E rfl λa E=>?_;rcases Z1 (r146.fNulls != r5.1.fNulls) with hd205|hd205
 {have h:=aA hd205 h;refine qX E hd205 λa E=>qX E hd205 λa E=>qX E hd205 λa E=>qX E hd205 λa E=>qX E hd205 λa E=>qT E hd205 rfl λa E=>qM E rfl λa E=>qX E rfl λa E=>qX E rfl λa E=>qX E rfl λa E=>?_;refine qX E rfl λa E=>qX E rfl λa E=>qT E rfl rfl λa E=>ag ?_;exact⟨true,h,_,(Z3 _),(hS.pickT 1 [] rfl rfl rfl),kut E⟩}
 {
 have h:=aB hd205 h;refine spg E rfl rfl rfl rfl hd205 (aM E DF rfl) rfl λa E=>?_;refine stg E rfl rfl rfl rfl hd205 (aC E hS fh rfl (i:=0) rfl (Mu.R_drop (aR hc155))) rfl ?_;rintro v211 a _ ⟨rfl,hv210⟩ E;refine spg E rfl rfl rfl rfl hd205 (aM E DF rfl) rfl λa E=>?_;refine stg E rfl rfl rfl rfl hd205 (aC E hS fh rfl (i:=1) rfl (Mu.R_drop (aR (cV.mono (Z0 hm46 (Z0 hm87 (Z0 hm103 (Z0 hm123 hm149)))) hc23)))) rfl ?_;rintro v214 a _ ⟨rfl,hv213⟩ E;refine spg E rfl rfl rfl rfl hd205 (vK E AR rfl rfl hv210 hv213 rfl) rfl λa E=>qF E hd205 rfl λa E=>qM E rfl λa E=>?_
 rcases Z1 (!decide (r146.fMin=r5.1.fMin)) with hd218|hd218
 {have h:=aA hd218 h;refine qX E hd218 λa E=>qX E hd218 λa E=>qX E hd218 λa E=>qX E hd218 λa E=>qX E hd218 λa E=>qT E hd218 rfl λa E=>ag ?_;exact⟨true,h,_,(Z3 _),(hS.pickT 1 [] rfl rfl rfl),kut E⟩}
 {
 have h:=aB hd218 h;refine spg E rfl rfl rfl rfl hd218 (aM E DG rfl) rfl λa E=>?_;refine stg E rfl rfl rfl rfl hd218 (aC E hS fh rfl (i:=0) rfl (Mv.R_drop (aR hc155))) rfl ?_;rintro v222 a _ ⟨rfl,hv221⟩ E;refine spg E rfl rfl rfl rfl hd218 (aM E DG rfl) rfl λa E=>?_;refine stg E rfl rfl rfl rfl hd218 (aC E hS fh rfl (i:=1) rfl (Mv.R_drop (aR (cV.mono (Z0 hm46 (Z0 hm87 (Z0 hm103 (Z0 hm123 hm149)))) hc23)))) rfl ?_;rintro v225 a _ ⟨rfl,hv224⟩ E;refine spg E rfl rfl rfl rfl hd218 (vK E AR rfl rfl hv221 hv224 rfl) rfl λa E=>qF E hd218 rfl λa E=>ag ?_
 exact⟨(!decide (r146.fMax=r5.1.fMax)),h,_,(Z3 _),(hS.pickT 1 [] rfl rfl rfl),kut E⟩}}}
 {
 rintro a w ⟨x159,h,m157,hm158,hS,E⟩;unfold jE at h;refine kif E rfl (λhd161=>?_) (λhd161=>?_)
 {
 have h:=aA hd161 h;refine ae (ah (qA E rfl λa E=>qA E rfl λa E=>qA E rfl λa E=>ag (bA ?_)));obtain rfl:=oi h
 try dsimp only
 refine Fin.mk E (rs:=[.tmp 2,.tmp 3,.tmp 4]) rfl (rx.tmp E rfl (rx.tmp E rfl (rx.tmp E rfl rx.nil))) ?_;exact⟨_,(Z0 hm8 (Z0 hm46 (Z0 hm87 (Z0 hm103 (Z0 hm123 (Z0 hm149 hm158)))))),(hS.dropL 2),_,_,_,rfl,dL,(aq (show inR .i64 0 from aw (by decide))),(aq (show inR .i64 70 from aw (by decide)))⟩}
 {
 have h:=aB hd161 h;refine aQ (ae ?_);refine kch (k:=4) (m:=m157) (es:=[]) (Φ:=(λi m ws v=>match i with|0=>v=v0_124|1=>v=(.pointer (some ⟨b20,11,none⟩))|2=>ei .i64 r5.1.fBytes v|3=>v=v0_124|_=>True)) (Q:=(λc m ws L' TL'=>match c with|0=>(b152,cs154)::(b20,cs22)::L=L'∧TL=TL'|_=>False)) (cs:=[⟨0,0,false,[(9,v0_124)]⟩,⟨0,0,false,[(5,pz b20)]⟩,⟨0,0,false,[]⟩,⟨0,0,false,[]⟩]) mixed E hS ⟨rfl,rfl⟩ rfl rfl (by kernel_rfl) ?_ ?_ ?_ ?_
 {
 intro i m_ m2_ ws v n_ q_
 iterate 4 (rcases i with _|i;exact q_)
 exact trivial}
 {
 intro c m_ m2_ ws L_ T_ n_ hq_
 match c,hq_ with
 |0,⟨e1_,e2_⟩=>exact⟨e1_,e2_⟩
 |_+1,hq_=>exact hq_.elim}
 {
 refine⟨?_,?_,?_,?_,trivial⟩
 {exact cmv λ_ _=>rfl}
 {refine cp0 λ_ _ _ _ _ _ _ _ _ Z' E' _=>?_;exact cq (aM E' zM rfl) Z' rfl}
 {refine cp1 λ_ _ _ _ _ M' Q' Z' E' T'=>?_;obtain⟨rfl,rfl⟩:=Q';have E:=E'.add (T' 1);exact cr (aC E Z' ty3 rfl (i:=1) rfl (Mx.R_drop (aR (cV.mono (Z0 hm46 (Z0 hm87 (Z0 hm103 (Z0 hm123 (Z0 hm149 (Z0 hm158 M')))))) hc23)))) Z' λ_ h=>aG h}
 {refine cp0 λ_ _ _ _ _ _ _ _ _ Z' E' T'=>?_;have E:=E'.add (T' 0);exact cq (ma E rfl) Z' rfl}}
 {
 intro ws_ L_ T_ m178 a w hl179 hm180 hq181 hS hd182 hn183 ho184 hT185;obtain rfl:=eh hl179;obtain⟨rfl,rfl⟩:=hq181;have E:=eof 4 [(5,pz b20),(9,v0_124),(67,.bool x159)] hd182 hn183 ho184;obtain⟨q188,hr189⟩:=hT185 2;have E:=(E.add q188).add (hT185 3);refine qA E rfl λa E=>qA E rfl λa E=>ag (bA ?_);obtain rfl:=oi h
 try dsimp only
 refine Fin.mk E (rs:=[.tmp 2,.tmp 3,.tmp 4]) rfl (rx.tmp E rfl (rx.tmp E rfl (rx.tmp E rfl rx.nil))) ?_;exact⟨_,(Z0 hm8 (Z0 hm46 (Z0 hm87 (Z0 hm103 (Z0 hm123 (Z0 hm149 (Z0 hm158 hm180))))))),(hS.dropL 2),_,_,_,rfl,(hv0_126.mono (Z0 hm149 (Z0 hm158 hm180))),(aq hr189),(aq (show inR .i64 0 from aw (by decide)))⟩}}}}}}}
theorem yO  (hS:S W0 m w L TL) {p0} (ha0:RV (kSl (ai .u8)) m v0 p0) {p1} (ha1:inR .i64 p1) {r} (h:i6 p0 p1=some r):
    Calls prog 84 [v0,(.int .i64 p1)].toArray w (Ret λv w'=>∃m',M.le m m'∧S W0 m' w' L TL∧∃v0_ v1_:Value,v= .tuple #[v0_,v1_]∧RV (kSl kAp) m' v0_ r.1∧RV cO m' v1_ r.2):=by
 refine kc func84 ntmps84 λa E=>?_;have E:Env 42 a [(0,v0),(1,.int .i64 p1)]:=E;unfold i6 at h;refine ae (ah (qA E rfl λa E=>qA E rfl λa E=>ag (ae (ah (qA E rfl λa E=>ag (ae ?_))))));refine bw (λa w=>∃x6:(List Ap),ko p1 x6=some r∧∃m',M.le m m'∧∃(v7:Value),RV (kSl kAp) m' v7 x6∧S W0 m' w L ((4,v7)::TL)∧Env 42 a [(1,.int .i64 p1),(6,v7)]) ?_ ?_
 {
 refine aJ ?_;refine cH h (λ(s:List Int×List Ap) a w=>∃m',M.le m m'∧∃(v20:Value),∃(v23:Value),RV (kSl (ai .u8)) m' v20 s.1∧RV (kSl kAp) m' v23 s.2∧S W0 m' w L ((4,v23)::TL)∧Env 42 a [(0,v20),(1,.int .i64 p1),(6,v23)]) ?_ ?_
 {exact⟨_,(Z3 _),v0,(.slice none 0 0),ha0,dL,(hS.tail0 4),kut E⟩}
 {
 rintro ⟨x19,x22⟩ a w ⟨m17,hm18,v20,v23,hv21,hv24,hS,E⟩ r25 h hb26;have h:iN p1 x19 x22=some r25:=h;unfold iN at h;refine ae (ae (ah (qM E rfl λa E=>sp E (bd (k:=(ai .u8)) E rfl rfl underlying24 hv21) rfl λa E=>qB E rfl rfl ju λa E=>ag (kif E rfl (λhd30=>?_) (λhd30=>?_)))))
 {
 have h:=aA hd30 h;refine aQ (aJ (ae (ah (qM E rfl λa E=>?_))));obtain⟨r32,hr33,h⟩:=ob h;refine st E (aF (vs:=[v20]) E rfl call21 (DS (hS:=hS) hv21 hr33)) rfl ?_;rintro _ a w ⟨m34,hm35,hS,v0_36,v1_37,v2_38,rfl,hv0_39,hv1_40,hv2_41⟩ E;obtain⟨rfl,hr43⟩:=aG hv1_40;obtain⟨rfl,hr44⟩:=aG hv2_41;refine qM E rfl λa E=>sp E (bM E rfl rfl) rfl λa E=>sp E (bM E rfl rfl) rfl λa E=>sp E (bM E rfl rfl) rfl λa E=>qA E rfl λa E=>qA E rfl λa E=>qA E rfl λa E=>ag (ae (ae ?_))
 refine bw (λa w=>∃x54:Bool,iM x19 x22 r32 x54=some r25∧∃m',M.le m34 m'∧S W0 m' w L ((4,v23)::TL)∧Env 42 a [(0,v20),(1,.int .i64 p1),(6,v23),(7,v0_36),(8,.int .i64 r32.2.1),(30,.bool x54)]) ?_ ?_
 {
 refine ah (qM E rfl λa E=>qB E rfl rfl lS λa E=>qM E rfl λa E=>?_);rcases Z1 (r32.2.2 != 0) with hd110|hd110
 {have h:=aA hd110 h;refine qX E hd110 λa E=>qX E hd110 λa E=>qX E hd110 λa E=>qX E hd110 λa E=>qX E hd110 λa E=>qX E hd110 λa E=>qX E hd110 λa E=>qX E hd110 λa E=>qT E hd110 rfl λa E=>ag ?_;exact⟨true,h,_,(Z3 _),hS,kut E⟩}
 {
 have h:=aB hd110 h;refine qG E hd110 rfl λa E=>spg E rfl rfl rfl rfl hd110 (bd (k:=kAp) E rfl rfl underlying22 hv0_39) rfl λa E=>qG E hd110 rfl λa E=>qG E hd110 rfl λa E=>spg E rfl rfl rfl rfl hd110 (bd (k:=kAp) E rfl rfl underlying22 (hv24.mono hm35)) rfl λa E=>spg E rfl rfl rfl rfl hd110 (aP E rfl rfl (dq rfl)) rfl λa E=>spg E rfl rfl rfl rfl hd110 (Ci E rfl rfl) rfl λa E=>spg E rfl rfl rfl rfl hd110 (aP E rfl rfl lS) rfl λa E=>qF E hd110 rfl λa E=>ag ?_
 exact⟨((r32.1.length:Int) != (if (Z2.wrap (p1 - (x22.length:Int)))<64 then Z2.wrap (p1 - (x22.length:Int)) else 64)),h,_,(Z3 _),hS,kut E⟩}}
 {
 rintro a w ⟨x54,h,m52,hm53,hS,E⟩;unfold iM at h;refine kif E rfl (λhd56=>?_) (λhd56=>?_)
 {
 have h:=aA hd56 h;refine ae (ah (qA E rfl λa E=>qA E rfl λa E=>ag (bA ?_)));have h:=bE h hb26;obtain rfl:=oi h
 try dsimp only
 refine f2 E ?_;exact⟨_,(Z0 hm18 (Z0 hm35 hm53)),(hS.dropT 1),_,_,rfl,dL,dt⟩}
 {
 have h:=aB hd56 h;refine aQ ?_;obtain⟨z59,hz60,x65,hx66,h⟩:=ob2 h
 refine kch (k:=7) (m:=m52) (es:=[2]) (Φ:=(λi m ws v=>match i with|0=>v=v23|1=>v=v0_36|2=>v=(wi ws 0).v∧RV (kSl kAp) m v z59|3=>v=v20|4=>ei .i64 r32.2.1 v|5=>RV (kSl (ai .u8)) m v x65|6=>v=(wi ws 0).v∧RV (kSl kAp) m v z59|_=>True)) (Q:=(λc m ws L' TL'=>match c with|0=>L=L'∧(4,v23)::TL=TL'|1=>L=L'∧(4,(wi ws 0).v)::TL=TL'|_=>False)) (cs:=[⟨0,0,false,[(6,v23)]⟩,⟨0,0,false,[(7,v0_36)]⟩,⟨0,0,true,[]⟩,⟨0,1,false,[(0,v20)]⟩,⟨0,1,false,[(8,.int .i64 r32.2.1)]⟩,⟨0,1,false,[]⟩,⟨1,1,false,[]⟩]) mixed E hS ⟨rfl,rfl⟩ rfl rfl (by kernel_rfl) ?_ ?_ ?_ ?_
 {
 intro i m_ m2_ ws v n_ q_
 iterate 7 (rcases i with _|i;first|exact q_|exact RV.mono q_ n_|exact⟨q_.1,RV.mono q_.2 n_⟩)
 exact trivial}
 {
 intro c m_ m2_ ws L_ T_ n_ hq_
 match c,hq_ with
 |0,⟨e1_,e2_⟩=>exact⟨e1_,e2_⟩
 |1,⟨e1_,e2_⟩=>exact⟨e1_,e2_⟩
 |_+2,hq_=>exact hq_.elim}
 {
 refine⟨?_,?_,?_,?_,?_,?_,?_,trivial⟩
 {exact cmv λ_ _=>rfl}
 {exact cmv λ_ _=>rfl}
 {refine sA λpre_ L_ T_ m' a' w' hl' M' Q' Z' E' T'=>?_;obtain rfl:=eh hl';obtain⟨rfl,rfl⟩:=Q';have E:=(E'.add (T' 0 (by decide) 31 rfl)).add (T' 1 (by decide) 32 rfl);refine bg.imp (kt (k:=kAp) (N:=3518437208883) E Z' rfl rfl underlying22 underlying22 DD (i:=0) rfl (hv24.mono (Z0 hm35 (Z0 hm53 M'))) (hv0_39.mono (Z0 hm53 M')) hz60 rfl rfl) ?_;rintro vv64 w ⟨m62,hm63,hS,hv61⟩;exact⟨_,⟨0,vv64,[],[],[]⟩,_,_,hm63,hS,⟨rfl,rfl⟩,⟨rfl,hv61⟩⟩}
 {exact cmv λ_ _=>rfl}
 {exact cmv λ_ _=>⟨rfl,hr43⟩}
 {refine cp0 λ_ _ _ _ _ _ _ M' _ Z' E' T'=>?_;have E:=(E'.add (T' 3)).add (T' 4).1;exact cr (eD (k:=(ai .u8)) E rfl underlying24 sizeOf5 (hv21.mono (Z0 hm35 (Z0 hm53 M'))) ⟨_,rfl⟩ rfl hx66 (xl:=(some (.tmp 35))) (xh:=none)) Z' λ_ h=>h}
 {
 refine Gm λpre_ p_ L_ T_ m' a' w' hl' P' M' Q' Z' E' T'=>?_;obtain⟨⟨_,vv64,_,_,_⟩,rfl⟩:=ux hl';obtain⟨v86,e87,q88⟩:∃v,a'.tmps.getD 33 undef=v∧(v=vv64∧RV (kSl kAp) m' v z59):=⟨_,rfl,T' 2 (by decide) 33 rfl⟩
 obtain⟨q89,q88⟩:=q88;rw[q89] at q88;have E:=E'.add (e87.trans q89);refine bg.imp (aD.pure (ma E rfl)) ?_;rintro _ _ ⟨rfl,rfl⟩;exact⟨_,Z3 _,Z',⟨rfl,q88⟩⟩}}
 {
 intro ws_ L_ T_ m91 a w hl92 hm93 hq94 hS hd95 hn96 ho97 hT98;obtain⟨⟨_,vv64,_,_,_⟩,rfl⟩:=ux hl92;obtain⟨rfl,rfl⟩:=hq94;have E:=eof 7 [(0,v20),(1,.int .i64 p1),(7,v0_36),(8,.int .i64 r32.2.1),(30,.bool x54)] hd95 hn96 ho97;obtain⟨v99,E,q101⟩:=adv E (hT98 5);obtain⟨v102,e103,q104⟩:∃v,a.tmps.getD 6 undef=v∧(v=vv64∧RV (kSl kAp) m91 v z59):=⟨_,rfl,hT98 6⟩
 obtain⟨q105,q104⟩:=q104;rw[q105] at q104;have E:=E.add (e103.trans q105);refine qA E rfl λa E=>ag ?_;exact⟨(x65,z59),(Option.some.inj h).symm,_,(Z0 hm18 (Z0 hm35 (Z0 hm53 hm93))),v99,vv64,q101,q104,hS,kut E⟩}}}}
 {have h:=aB hd30 h;refine cC rfl rfl ?_;have h:=bE h hb26;exact⟨x22,h,_,hm18,v23,hv24,hS,kut E⟩}}}
 {
 rintro a w ⟨x6,h,m4,hm5,v7,hv8,hS,E⟩;unfold ko at h;refine ae (ah (qM E rfl λa E=>qM E rfl λa E=>sp E (bd (k:=kAp) E rfl rfl underlying22 hv8) rfl λa E=>qM E rfl λa E=>qB E rfl rfl gg λa E=>qA E rfl λa E=>qA E rfl λa E=>ag ?_));refine bA ?_;obtain rfl:=oi h
 try dsimp only
 refine f2 E ?_;exact⟨_,hm5,(hS.dropT 1),_,_,rfl,hv8,dt⟩}
def HY:Kd aI:=oH (λx:aI=>(x.fColumns,x.fSort,())) (bQ (ai .i64) (bQ (kSl (ai .i64)) yd))
theorem RL:Fld HY (ai .i64) 0 (λx=>x.fColumns):=bZ dm
theorem JY:dy prog 50 yd:=⟨sizeOf50,isAgg50⟩
theorem vF  {b0_ bA_:Nat} {c0_ cA_ rA_:List Value} (hS:S W0 m w ((b0_,c0_)::(bA_,cA_)::L) (tls 4 rA_++TL)) {p0} (ha0:HY.R m c0_ p0) {vA_:Value} (hf0_:c0_[2]? =some vA_) {pA:List aa} (haA:GR ab 2 m bA_ cA_ vA_ pA rA_) {p1} (ha1:inR .i64 p1) {p2} (ha2:RV (kSl kAp) m v2 p2) {r} (h:iO p0 pA p1 p2=some r):
    Calls prog 85 [(pz b0_),(.int .i64 p1),v2].toArray w (Ret λv w'=>∃m',M.le m m'∧∃q1_ rq_:List Value,S W0 m' w' ((b0_,c0_)::(bA_,q1_)::L) (tls 4 rq_++TL)∧GR ab 2 m' bA_ q1_ vA_ r.2 rq_∧RV cO m' v r.1):=by
 refine kc func85 ntmps85 λa E=>?_;have E:Env 85 a [(0,pz b0_),(1,.int .i64 p1),(2,v2)]:=E;unfold iO at h;refine ae (ah (qA E rfl λa E=>ag (ae (ae (ah (qM E rfl λa E=>sp E (bd (k:=kAp) E rfl rfl underlying22 ha2) rfl λa E=>qM E rfl λa E=>?_))))));refine ag ?_;refine bw (λa w=>∃x7:(List aa),iT x7=some r∧∃m',M.le m m'∧∃(cs8 rw8:List Value),GR ab 2 m' bA_ cs8 vA_ x7 rw8∧S W0 m' w ((b0_,c0_)::(bA_,cs8)::L) (tls 4 rw8++TL)∧Env 85 a []) ?_ ?_
 {
 refine aJ ?_;refine cH h (λ(s:Int×List aa) a w=>∃m',M.le m m'∧∃(cs17 rw17:List Value),inR .i64 s.1∧GR ab 2 m' bA_ cs17 vA_ s.2 rw17∧S W0 m' w ((b0_,c0_)::(bA_,cs17)::L) (tls 4 rw17++TL)∧Env 85 a [(0,pz b0_),(1,.int .i64 p1),(10,v2),(11,.int .i64 (p2.length:Int)),(12,.int .i64 s.1)]) ?_ ?_
 {exact⟨_,(Z3 _),cA_,rA_,(show inR .i64 0 from aw (by decide)),haA,hS,kut E⟩}
 {
 rintro ⟨x14,x16⟩ a w ⟨m12,hm13,cs17,rw17,hr15,hc18,hS,E⟩ r19 h hb20;have h:dZ p0 p1 p2 x14 x16=some r19:=h;unfold dZ at h;refine ae (ah (qB E rfl rfl bn λa E=>ag (ae (kif E rfl (λhd22=>?_) (λhd22=>?_)))))
 {
 have h:=aA hd22 h;refine aQ (ae (aJ (ae (ah (qM E rfl λa E=>?_)))));obtain⟨x24,hx25,h⟩:=ob h;refine st E (dT (k:=kAp) E rfl rfl underlying22 sizeOf32 (ha2.mono hm13) hx25) rfl ?_;rintro v27 a _ ⟨rfl,hp26⟩ E;refine st E (bG E hS fh rfl hp26) rfl ?_;rintro v29 a _ ⟨rfl,hv28⟩ E;refine st E (dS hS zeroValue32 rfl (cs:=wS)) rfl ?_;rintro _ a w ⟨b30,rfl,hS⟩ E;refine qA E rfl λa E=>?_;refine st0 E (dG E hS fh bm rfl rfl hv28 (i:=0) rfl (pR _)) ?_;rintro _ w ⟨cs33,hc34,hS⟩ E
 refine ag (ae (ah (qM E rfl λa E=>sp E (ci E rfl) rfl λa E=>sp E (aM E oF rfl) rfl λa E=>sp E (Kb E hS JY rfl (i:=1) rfl hf0_ hc18.1.one) rfl λa E=>qM E rfl λa E=>?_)));obtain⟨j42,hj43,h⟩:=ob h;refine sp E (br (k:=ab) E rfl rfl underlying50 sizeOf59 hc18.1 hj43 rfl) rfl λa E=>qA E rfl λa E=>ag (ae (ae ?_))
 refine bw (λa w=>∃x48:Bool,dY p0 p1 x14 x16 x24 j42 x48=some r19∧∃m',M.le m12 m'∧S W0 m' w ((b30,cs33)::(b0_,c0_)::(bA_,cs17)::L) (tls 4 rw17++TL)∧Env 85 a [(0,pz b0_),(1,.int .i64 p1),(8,pz b30),(9,.pointer (some ⟨bA_,j42*4,none⟩)),(10,v2),(11,.int .i64 (p2.length:Int)),(12,.int .i64 x14),(38,.bool x48)]) ?_ ?_
 {
 refine ah (qM E rfl λa E=>qM E rfl λa E=>sp E (ci E rfl) rfl λa E=>sp E (aM E oE rfl) rfl λa E=>?_);refine st E (aC E hS ty3 rfl (i:=1) rfl (RL.R_drop (aR (HY.mono hm13 ha0)))) rfl ?_;rintro v190 a _ ⟨rfl,hv189⟩ E;obtain⟨rfl,hr191⟩:=aG hv189;refine qB E rfl rfl yT λa E=>qM E rfl λa E=>?_;rcases Z1 (decide (p0.fColumns≤p1)) with hd194|hd194
 {
 have h:=aA hd194 h;refine spg E rfl rfl rfl rfl hd194 (aM E DE rfl) rfl λa E=>?_;refine stg E rfl rfl rfl rfl hd194 (aC E hS ty3 rfl (i:=0) rfl (Mm.R_drop (aR hc34))) rfl ?_;rintro v197 a _ ⟨rfl,hv196⟩ E;obtain⟨rfl,hr198⟩:=aG hv196;refine spg E rfl rfl rfl rfl hd194 (aP E rfl rfl lS) rfl λa E=>qG E hd194 rfl λa E=>?_;rcases Z1 (x24.fKind != 2) with hd201|hd201
 {have h:=aA hd201 h;refine qX E hd201 λa E=>qX E hd201 λa E=>qX E hd201 λa E=>spg E rfl rfl rfl rfl hd194 (tT E rfl hd201 rfl) rfl λa E=>qT E hd194 rfl λa E=>ag ?_;exact⟨true,h,_,(Z3 _),hS,kut E⟩}
 {have h:=aB hd201 h;refine spg E rfl rfl rfl rfl hd201 (aM E uj rfl) rfl λa E=>?_;refine stg E rfl rfl rfl rfl hd201 (aC E hS ty2 rfl (i:=0) rfl (Mp.R_drop (aR hc34))) rfl ?_;rintro v206 a _ ⟨rfl,hv205⟩ E;obtain⟨rfl,hr207⟩:=aG hv205;refine spg E rfl rfl rfl rfl hd201 (aP E rfl rfl bn) rfl λa E=>spg E rfl rfl rfl rfl hd194 (tU E rfl hd201 rfl) rfl λa E=>qT E hd194 rfl λa E=>ag ?_;exact⟨(decide (x24.fInt<0)),h,_,(Z3 _),hS,kut E⟩}}
 {have h:=aB hd194 h;refine qX E hd194 λa E=>qX E hd194 λa E=>qX E hd194 λa E=>qX E hd194 λa E=>sxu E rfl rfl rfl rfl λa E=>sxu E rfl rfl rfl rfl λa E=>sxu E rfl rfl rfl rfl λa E=>qX E hd194 λa E=>qF E hd194 rfl λa E=>ag ?_;exact⟨false,h,_,(Z3 _),hS,kut E⟩}}
 {
 rintro a w ⟨x48,h,m46,hm47,hS,E⟩;unfold dY at h;refine kif E rfl (λhd50=>?_) (λhd50=>?_)
 {
 have h:=aA hd50 h;refine ae (ah (qA E rfl λa E=>ag (bA ?_)));have h:=bE h hb20;obtain rfl:=oi h
 try dsimp only
 refine f1 E ?_;exact⟨_,(Z0 hm13 hm47),cs17,rw17,(hS.pickL 3 [1,2] rfl rfl rfl),(hc18.mono hm47),dt⟩}
 {
 have h:=aB hd50 h;refine aQ (ae (ah (qM E rfl λa E=>qM E rfl λa E=>sp E (ci E rfl) rfl λa E=>sp E (aM E oE rfl) rfl λa E=>?_)));refine st E (aC E hS ty3 rfl (i:=1) rfl (RL.R_drop (aR (HY.mono (Z0 hm13 hm47) ha0)))) rfl ?_;rintro v57 a _ ⟨rfl,hv56⟩ E;obtain⟨rfl,hr58⟩:=aG hv56;refine qB E rfl rfl (dq rfl) λa E=>ag (aJ (ae (ah (qB E rfl rfl gg λa E=>qA E rfl λa E=>ag ?_))))
 refine bw (λa w=>∃x64:(List aa),dw x14 x64=some r19∧∃m',M.le m46 m'∧∃(cs65 rw65:List Value),GR ab 2 m' bA_ cs65 vA_ x64 rw65∧S W0 m' w ((b30,cs33)::(b0_,c0_)::(bA_,cs65)::L) (tls 4 rw65++TL)∧Env 85 a [(0,pz b0_),(1,.int .i64 p1),(10,v2),(11,.int .i64 (p2.length:Int)),(12,.int .i64 x14)]) ?_ ?_
 {
 refine kif E rfl (λhd70=>?_) (λhd70=>?_)
 {
 have h:=aA hd70 h;refine ah (qM E rfl λa E=>sp E (aM E uj rfl) rfl λa E=>?_);refine st E (aC E hS ty2 rfl (i:=0) rfl (Mp.R_drop (aR (kAp.mono hm47 hc34)))) rfl ?_;rintro v74 a _ ⟨rfl,hv73⟩ E;obtain⟨rfl,hr75⟩:=aG hv73;refine sp E (cl E rfl underlying2 underlying54 rfl) rfl λa E=>sp E (ci E rfl) rfl λa E=>sp E (aM E qy rfl) rfl λa E=>sp E (aM E zN rfl) rfl λa E=>?_;obtain⟨x82,hx83,h⟩:=ob h;refine st0 E (vQ (k:=ab) (o:=2) E hS yJ (Cm zK wR wQ) (hc18.mono hm47) hx83 rfl rfl (aq (ak _ _)) (i:=2) rfl (by decide) (by decide)) ?_;rintro _ w ⟨cs80,hc81,hS⟩ E;refine ag ?_
 exact⟨(x16.set j42 ({ x82 with fId:={ x82.fId with fEpoch:=Z5.wrap x24.fInt } })),h,_,(Z3 _),cs80,rw17,hc81,hS,kut E⟩}
 {
 have h:=aB hd70 h;refine ae (ah (qB E rfl rfl gg λa E=>qA E rfl λa E=>ag (kif E rfl (λhd87=>?_) (λhd87=>?_))))
 {
 have h:=aA hd87 h;refine ae (ae (ah (sp E (aM E uj rfl) rfl λa E=>?_)));refine st E (aC E hS ty2 rfl (i:=0) rfl (Mp.R_drop (aR (kAp.mono hm47 hc34)))) rfl ?_;rintro v90 a _ ⟨rfl,hv89⟩ E;obtain⟨rfl,hr91⟩:=aG hv89;refine qB E rfl rfl ju λa E=>ag (kif E rfl (λhd93=>?_) (λhd93=>?_))
 {
 have h:=aA hd93 h;refine ae (ah (qA E rfl λa E=>ag (bA ?_)));have h:=bE h hb20;obtain rfl:=oi h
 try dsimp only
 refine f1 E ?_;exact⟨_,(Z0 hm13 hm47),cs17,rw17,(hS.pickL 3 [1,2] rfl rfl rfl),(hc18.mono hm47),dt⟩}
 {
 have h:=aB hd93 h;refine aQ (ah (qM E rfl λa E=>sp E (aM E uj rfl) rfl λa E=>?_));refine st E (aC E hS ty2 rfl (i:=0) rfl (Mp.R_drop (aR (kAp.mono hm47 hc34)))) rfl ?_;rintro v98 a _ ⟨rfl,hv97⟩ E;obtain⟨rfl,hr99⟩:=aG hv97;refine sp E (cl E rfl underlying2 underlying55 rfl) rfl λa E=>sp E (ci E rfl) rfl λa E=>sp E (aM E qy rfl) rfl λa E=>sp E (aM E zO rfl) rfl λa E=>?_;obtain⟨x106,hx107,h⟩:=ob h;refine st0 E (vQ (k:=ab) (o:=2) E hS AT (Cm zK wR HF) (hc18.mono hm47) hx107 rfl rfl (aq (ak _ _)) (i:=2) rfl (by decide) (by decide)) ?_;rintro _ w ⟨cs104,hc105,hS⟩ E
 refine ag ?_;exact⟨(x16.set j42 ({ x106 with fId:={ x106.fId with fNumber:=Z6.wrap x24.fInt } })),h,_,(Z3 _),cs104,rw17,hc105,hS,kut E⟩}}
 {
 have h:=aB hd87 h;refine ae (ah (qB E rfl rfl gg λa E=>qA E rfl λa E=>ag (kif E rfl (λhd111=>?_) (λhd111=>?_))))
 {
 have h:=aA hd111 h;refine ah (qM E rfl λa E=>sp E (aM E uj rfl) rfl λa E=>?_);refine st E (aC E hS ty2 rfl (i:=0) rfl (Mp.R_drop (aR (kAp.mono hm47 hc34)))) rfl ?_;rintro v115 a _ ⟨rfl,hv114⟩ E;obtain⟨rfl,hr116⟩:=aG hv114;refine sp E (cl E rfl underlying2 underlying54 rfl) rfl λa E=>sp E (ci E rfl) rfl λa E=>sp E (aM E HI rfl) rfl λa E=>?_;obtain⟨x122,hx123,h⟩:=ob h;refine st0 E (vQ (k:=ab) (o:=2) E hS yJ HG (hc18.mono hm47) hx123 rfl rfl (aq (ak _ _)) (i:=2) rfl (by decide) (by decide)) ?_;rintro _ w ⟨cs120,hc121,hS⟩ E;refine ag ?_
 exact⟨(x16.set j42 ({ x122 with fDeleted:=Z5.wrap x24.fInt })),h,_,(Z3 _),cs120,rw17,hc121,hS,kut E⟩}
 {
 have h:=aB hd111 h;obtain⟨x126,hx127,z132,hz133,h⟩:=ob2 h;obtain⟨vr_,hvr_,hcr_⟩:=hc18.row hx127;obtain⟨TLr_,hTLr_⟩:∃T,T=tls 4 (rw17.eraseIdx j42)++TL:=⟨_,rfl⟩
 have hS:=hS.permT (Ij hvr_ TL);rw[←hTLr_] at hS
 refine kch (k:=8) (m:=m46) (es:=[7]) (Φ:=(λi m ws v=>match i with|0=>v=(.pointer (some ⟨bA_,j42*4,none⟩))|1=>v=(.pointer (some ⟨bA_,j42*4,none⟩))|2=>v=(.pointer (some ⟨bA_,j42*4,none⟩))|3=>v=(.pointer (some ⟨bA_,j42*4+2,none⟩))|4=>v=vr_∧RV (kSl kAp) m v x126.fRow|5=>RV kAp m v x24|6=>RV (kSl kAp) m v ([x24])|7=>v=(wi ws 0).v∧RV (kSl kAp) m v z132|_=>True)) (Q:=(λc m ws L' TL'=>match c with|0=>(b30,cs33)::(b0_,c0_)::(bA_,cs17)::L=L'∧(4,vr_)::TLr_=TL'|1=>(b30,cs33)::(b0_,c0_)::(bA_,cs17)::L=L'∧(4,(wi ws 0).v)::TLr_=TL'|_=>False)) (cs:=[⟨0,1,false,[(9,.pointer (some ⟨bA_,j42*4,none⟩))]⟩,⟨0,0,false,[(9,.pointer (some ⟨bA_,j42*4,none⟩))]⟩,⟨0,0,false,[]⟩,⟨0,0,false,[]⟩,⟨0,0,false,[]⟩,⟨0,0,false,[(8,pz b30)]⟩,⟨0,0,false,[]⟩,⟨0,0,true,[]⟩]) mixed E hS ⟨rfl,rfl⟩ rfl rfl (by kernel_rfl) ?_ ?_ ?_ ?_
 {
 intro i m_ m2_ ws v n_ q_
 iterate 8 (rcases i with _|i;first|exact q_|exact RV.mono q_ n_|exact⟨q_.1,RV.mono q_.2 n_⟩)
 exact trivial}
 {
 intro c m_ m2_ ws L_ T_ n_ hq_
 match c,hq_ with
 |0,⟨e1_,e2_⟩=>exact⟨e1_,e2_⟩
 |1,⟨e1_,e2_⟩=>exact⟨e1_,e2_⟩
 |_+2,hq_=>exact hq_.elim}
 {
 refine⟨?_,?_,?_,?_,?_,?_,?_,?_,trivial⟩
 {exact cmv λ_ _=>rfl}
 {exact cmv λ_ _=>rfl}
 {refine cp0 λ_ _ _ _ _ _ _ _ _ Z' E' T'=>?_;have E:=E'.add (T' 1);exact cq (ci E rfl) Z' rfl}
 {refine cp0 λ_ _ _ _ _ _ _ _ _ Z' E' T'=>?_;have E:=E'.add (T' 2);exact cq (aM E wV rfl) Z' rfl}
 {refine cp1 λ_ _ _ _ _ M' Q' Z' E' T'=>?_;obtain⟨rfl,rfl⟩:=Q';have E:=E'.add (T' 3);have hR_:=MO.R_drop (GS.elem (hc18.1.mono (Z0 hm47 M')) hx127);exact cq (uy (k:=kAp) (v:=vr_) E Z' wT rfl (i:=2) rfl hR_ hcr_) Z' ⟨rfl,B5 hR_ hcr_⟩}
 {refine cp1 λ_ _ _ _ _ M' Q' Z' E' _=>?_;obtain⟨rfl,rfl⟩:=Q';exact cr (aC E' Z' fh rfl (i:=0) rfl (aR (kAp.mono (Z0 hm47 M') hc34))) Z' λ_ h=>h}
 {refine cp0 λ_ _ _ m' a' _ _ _ _ Z' E' T'=>?_;obtain⟨v153,E,q155⟩:=adv E' (T' 5);refine bg.imp (fC (k:=kAp) (xs:=[x24]) (vs:=[v153]) E Z' rfl underlying22 sizeOf32 zeroValue32 ⟨q155,trivial⟩ rfl (by decide)) ?_;rintro v156 w ⟨m130,hm131,hS,hv129⟩;exact⟨_,hm131,(hS.dropT 1),hv129⟩}
 {
 refine sA λpre_ L_ T_ m' a' w' hl' M' Q' Z' E' T'=>?_;obtain rfl:=eh hl';obtain⟨rfl,rfl⟩:=Q';obtain⟨v157,e158,q158,q159⟩:∃v,a'.tmps.getD 49 undef=v∧(v=vr_∧RV (kSl kAp) m' v x126.fRow):=⟨_,rfl,T' 4 (by decide) 49 rfl⟩
 subst q158;have E:=E'.add (e158);obtain⟨v160,E,q162⟩:=adv E (T' 6 (by decide) 51 rfl);refine bg.imp (kt (k:=kAp) (N:=3518437208883) E Z' rfl rfl underlying22 underlying22 DD (i:=0) rfl q159 q162 hz133 rfl rfl) ?_;rintro vv137 w ⟨m135,hm136,hS,hv134⟩;exact⟨_,⟨0,vv137,[],[],[]⟩,_,_,hm136,hS,⟨rfl,rfl⟩,⟨rfl,hv134⟩⟩}}
 {
 intro ws_ L_ T_ m163 a w hl164 hm165 hq166 hS hd167 hn168 ho169 hT170;obtain⟨⟨_,vv137,_,_,_⟩,rfl⟩:=ux hl164;obtain⟨rfl,rfl⟩:=hq166
 have E:=eof 8 [(0,pz b0_),(1,.int .i64 p1),(8,pz b30),(9,.pointer (some ⟨bA_,j42*4,none⟩)),(10,v2),(11,.int .i64 (p2.length:Int)),(12,.int .i64 x14),(38,.bool x48),(39,.int .i64 p1),(40,pz b0_),(41,pz b0_),(42,pz b0_),(43,.int .i64 p0.fColumns),(44,.int .i64 (Z2.wrap (p1 - p0.fColumns))),(55,.bool ((Z2.wrap (p1 - p0.fColumns))==0)),(56,.bool ((Z2.wrap (p1 - p0.fColumns))==0)),(64,.bool ((Z2.wrap (p1 - p0.fColumns))==1)),(65,.bool ((Z2.wrap (p1 - p0.fColumns))==1)),(76,.bool ((Z2.wrap (p1 - p0.fColumns))==2)),(77,.bool ((Z2.wrap (p1 - p0.fColumns))==2))] hd167 hn168 ho169
 have E:=E.add (hT170 0);obtain⟨v174,e175,q176⟩:∃v,a.tmps.getD 52 undef=v∧(v=vv137∧RV (kSl kAp) m163 v z132):=⟨_,rfl,hT170 7⟩
 obtain⟨q177,q176⟩:=q176;rw[q177] at q176;have E:=E.add (e175.trans q177);refine sp E (ci E rfl) rfl λa E=>sp E (aM E wV rfl) rfl λa E=>?_;obtain⟨x182,hx183,h⟩:=ob h;refine st0 E (DV (k:=ab) (o:=2) E hS wT zL (hc18.mono (Z0 hm47 hm165)) hx183 rfl rfl q176 (i:=2) rfl) ?_;rintro _ w ⟨cs180,hc181,hS⟩ E;refine ag ?_;rw[hTLr_] at hS;have hS:=hS.permT (Ik (List.getElem?_eq_some_iff.1 hvr_).1 TL);exact⟨(x16.set j42 ({ x182 with fRow:=z132 })),h,_,hm165,cs180,_,hc181,hS,kut E⟩}}}}}
 {rintro a w ⟨x64,h,m62,hm63,cs65,rw65,hc66,hS,E⟩;unfold dw at h;refine ah (qB E rfl rfl (be rfl) λa E=>qM E rfl λa E=>ag ?_);exact⟨(Z2.wrap (x14+1),x64),(Option.some.inj h).symm,_,(Z0 hm13 (Z0 hm47 hm63)),cs65,rw65,(ak _ _),hc66,(hS.pickL 3 [1,2] rfl rfl rfl),kut E⟩}}}}
 {have h:=aB hd22 h;refine cC rfl rfl ?_;have h:=bE h hb20;exact⟨x16,h,_,hm13,cs17,rw17,hc18,hS,E.cut trivial⟩}}}
 {
 rintro a w ⟨x7,h,m5,hm6,cs8,rw8,hc9,hS,E⟩;unfold iT at h;refine ae (ah (qA E rfl λa E=>ag (bA ?_)));obtain rfl:=oi h
 try dsimp only
 refine f1 E ?_;exact⟨_,hm6,cs8,rw8,hS,hc9,dt⟩}
theorem Pc:Ctr Sz prog 138 [.rd (.sl (.st 59)),.rd (.sl (.st 59)),.f2 (.st 59) (.st 59) .bool] [.rd .bool] (fun x=>eL x.1 x.2.1 x.2.2.1):=
 ncR [] [6] func138 ntmps138 (.s .o (.s .o (.s (.s .o (.b (.l ⟨[.v 17 1 (.dat (.int .i64) none)],[1,2,15,16],0,[]⟩ .o))) .o))) λx=>by kernel_rfl
theorem qO  (hS:S W0 m w L TL) {p0} (ha0:RV (kSl ab) m v0 p0) {p1} (ha1:RV (kSl ab) m v1 p1) {p2} (ha2:Fn2 prog ab ab cO m v2 p2) {r} (h:eL p0 p1 p2=some r):
    Calls prog 138 [v0,v1,v2].toArray w (Ret λv w'=>∃m',M.le m m'∧S W0 m' w' L TL∧RV cO m' v r):=by
 refine rm (Pc W0 m w L TL [v0,v1,v2] (p0,p1,p2,()) r [] [] hS ⟨ha0,⟨ha1,⟨ha2,trivial⟩⟩⟩ h) λv w' he=>?_;obtain⟨m',us,Lr,Lq,Tr,hm,Z',rfl,hR,hO⟩:=he;obtain⟨u0,us,rfl,r0,hR0⟩:=dC hR;obtain⟨rfl,rfl,rfl⟩:=cE hR0;have hO0:=bT hO;have hO1:=bT hO0;have hO2:=Fu hO1;obtain rfl:=cF hO2;exact⟨m',hm,Z',r0⟩
theorem Pd:Ctr Sz prog 139 [.rd (.st 59),.rd (.st 59)] [.rd .bool] (fun x=>ez x.1 x.2.1):=
 ncR [] [4] func139 ntmps139 .o λx=>by kernel_rfl
theorem su  (hS:S W0 m w L TL) {p0} (ha0:RV ab m v0 p0) {p1} (ha1:RV ab m v1 p1) {r} (h:ez p0 p1=some r):
    Calls prog 139 [v0,v1].toArray w (Ret λv w'=>∃m',M.le m m'∧S W0 m' w' L TL∧RV cO m' v r):=by
 refine rm (Pd W0 m w L TL [v0,v1] (p0,p1,()) r [] [] hS ⟨ha0,⟨ha1,trivial⟩⟩ h) λv w' he=>?_;obtain⟨m',us,Lr,Lq,Tr,hm,Z',rfl,hR,hO⟩:=he;obtain⟨u0,us,rfl,r0,hR0⟩:=dC hR;obtain⟨rfl,rfl,rfl⟩:=cE hR0;have hO0:=bT hO;have hO1:=bT hO0;obtain rfl:=cF hO1;exact⟨m',hm,Z',r0⟩
theorem Pe {m0:M}:Fn2 prog ab ab cO m0 (.func (.func 139) [].toArray [].toArray) ez:=by
  refine⟨139,_,rfl,call139,?_⟩;intro W0 m w L TL v0 v1 x0 x1 r hm hS h0 h1 hr;refine(su (hS:=hS) h0 h1 hr).mono ?_;intro e w' he;cases e with
  |returned v=>obtain⟨m',h1,h2,h3⟩:=he;exact⟨m',h1,h2,h3⟩
  |panicked ch=>exact he.elim
  |outgrown=>exact he.elim
theorem un  (hS:S W0 m w L TL) {p0} (ha0:RV (kPt cd) m v0 p0) {r} (h:gN p0=some r):
    Calls prog 86 [v0].toArray w (Ret λv w'=>∃m',M.le m m'∧S W0 m' w' L TL∧RV cO m' v r):=by
 refine kc func86 ntmps86 λa E=>?_;have E:Env 19 a [(0,v0)]:=E;unfold gN at h;refine ae (ah (qA E rfl λa E=>ag (ae ?_)));obtain⟨x2,hx3,x7,hx8,h⟩:=ob2 h
 refine kch (k:=8) (m:=m) (es:=[]) (Φ:=(λi m ws v=>match i with|0=>v=v0|1=>v=v0|2=>PR (kSl (ai .i64)) m v x2.fSort|3=>RV (kSl (ai .i64)) m v x2.fSort|4=>v=v0|5=>v=v0|6=>PR (kSl ab) m v x7.fL|7=>RV (kSl ab) m v x7.fL|_=>True)) (Q:=(λc m ws L' TL'=>match c with|0=>L=L'∧TL=TL'|_=>False)) (cs:=[⟨0,0,false,[(0,v0)]⟩,⟨0,0,false,[]⟩,⟨0,0,false,[]⟩,⟨0,0,false,[]⟩,⟨0,0,false,[(0,v0)]⟩,⟨0,0,false,[]⟩,⟨0,0,false,[]⟩,⟨0,0,false,[]⟩]) mixed E hS ⟨rfl,rfl⟩ rfl rfl (by kernel_rfl) ?_ ?_ ?_ ?_
 {
 intro i m_ m2_ ws v n_ q_
 iterate 8 (rcases i with _|i;first|exact q_|exact PR.mono q_ n_|exact RV.mono q_ n_)
 exact trivial}
 {
 intro c m_ m2_ ws L_ T_ n_ hq_
 match c,hq_ with
 |0,⟨e1_,e2_⟩=>exact⟨e1_,e2_⟩
 |_+1,hq_=>exact hq_.elim}
 {
 refine⟨?_,?_,?_,?_,?_,?_,?_,?_,trivial⟩
 {exact cmv λ_ _=>rfl}
 {refine cp0 λ_ _ _ _ _ _ _ M' _ Z' E' T'=>?_;have E:=E'.add (T' 0);exact cq (qm E rfl (ha0.mono M') hx3) Z' rfl}
 {refine cp0 λ_ _ _ _ _ _ _ M' _ Z' E' T'=>?_;have E:=E'.add (T' 1);exact cr (jF E pS AP rfl ((qR ha0 hx3).mono M')) Z' λ_ h=>h}
 {
 refine cp0 λ_ _ _ m' a' _ _ _ _ Z' E' T'=>?_;obtain⟨v21,e22,q23⟩:∃v,a'.tmps.getD 6 undef=v∧(PR (kSl (ai .i64)) m' v x2.fSort):=⟨_,rfl,T' 2⟩
 have E:=E'.add (e22);exact cr (bG E Z' tL rfl q23) Z' λ_ h=>h}
 {exact cmv λ_ _=>rfl}
 {refine cp0 λ_ _ _ _ _ _ _ M' _ Z' E' T'=>?_;have E:=E'.add (T' 4);exact cq (qm E rfl (ha0.mono M') hx8) Z' rfl}
 {refine cp0 λ_ _ _ _ _ _ _ M' _ Z' E' T'=>?_;have E:=E'.add (T' 5);exact cr (jF E oF rv rfl ((qR ha0 hx8).mono M')) Z' λ_ h=>h}
 {
 refine cp0 λ_ _ _ m' a' _ _ _ _ Z' E' T'=>?_;obtain⟨v34,e35,q36⟩:∃v,a'.tmps.getD 10 undef=v∧(PR (kSl ab) m' v x7.fL):=⟨_,rfl,T' 6⟩
 have E:=E'.add (e35);exact cr (bG E Z' AU rfl q36) Z' λ_ h=>h}}
 {
 intro ws_ L_ T_ m38 a w hl39 hm40 hq41 hS hd42 hn43 ho44 hT45;obtain rfl:=eh hl39;obtain⟨rfl,rfl⟩:=hq41;have E:=eof 8 [(0,v0),(2,.bool false)] hd42 hn43 ho44;obtain⟨v46,E,q48⟩:=adv E (hT45 3);obtain⟨v49,E,q51⟩:=adv E (hT45 7);obtain⟨r52,hr53,h⟩:=ob h;refine st E (aF (vs:=[v46,v49]) E rfl call27 (ol (hS:=hS) q48 q51 hr53)) rfl ?_;rintro v57 a w ⟨m54,hm55,hS,hv56⟩ E;refine qA E rfl λa E=>ag (ae (ah (qM E rfl λa E=>qM E rfl λa E=>?_)));obtain⟨x61,hx62,h⟩:=ob h;refine sp E (qm E rfl (ha0.mono (Z0 hm40 hm55)) hx62) rfl λa E=>?_
 refine st E (jF E oF rv rfl ((qR ha0 hx62).mono (Z0 hm40 hm55))) rfl ?_;rintro v66 a _ ⟨rfl,hp65⟩ E;refine st E (bG E hS AU rfl hp65) rfl ?_;rintro v68 a _ ⟨rfl,hv67⟩ E;obtain⟨r69,hr70,h⟩:=ob h;refine st E (aF (vs:=[v57,v68,(.func (.func 139) #[] #[])]) E rfl call138 (qO (hS:=hS) hv56 hv67 (Pe (m0:=m54)) hr70)) rfl ?_;rintro v74 a w ⟨m71,hm72,hS,hv73⟩ E;obtain rfl:=eQ hv73;refine qA E rfl λa E=>ag (bA ?_);obtain rfl:=oi h
 try dsimp only
 refine f1 E ?_;exact⟨_,(Z0 hm40 (Z0 hm55 hm72)),hS,dt⟩}
theorem QE:StF HY yd 2 (λx _=>x):=b8 (aW (aW bm)) (λ_ _=>rfl)
theorem Jx {m:M}{cs:List Value}{x:aI}(h:cd.R m cs x):HY.R m cs x:=by
  obtain⟨h0,h1,h2⟩:=h;refine⟨h0,h1,?_⟩;obtain⟨a,len,cap,h3,_⟩:=h2;exact⟨_,h3,rfl⟩
theorem Lm {m:M}{cs:List Value}{x:aI}{v:Value}{l:List aa}(h:HY.R m cs x)(hc:cs[2]? =some v)(hv:RV (kSl ab) m v l):cd.R m cs { x with fL:=l }:=by
  obtain⟨h0,h1,h2⟩:=h;refine⟨h0,h1,?_⟩;obtain⟨c,h3,_⟩:=h2;have h3:(cs.drop 1).drop 1=[c]:=h3;rw[List.drop_drop] at h3
  have:c=v:=by
    have h4:(cs.drop 2)[0]? =some c:=by rw[show 2=1+1 from rfl,h3];rfl
    rw[List.getElem?_drop,hc] at h4;injection h4 with h4;exact h4.symm
  subst this;show(kSl ab).R m ((cs.drop 1).drop 1) l;rw[List.drop_drop,h3];obtain⟨ds,hR,hvd⟩:=hv;have hl:=(kSl ab).len hR
  match ds,hl,hvd with
  | [d], _, hvd =>
    have:c=d:=hvd;subst this;exact hR
theorem uo  (hS:S W0 m w L TL) {p0} (ha0:RV (kSl (ai .u8)) m v0 p0) {r} (h:fg p0=some r):
    Calls prog 33 [v0].toArray w (Ret λv w'=>∃m',M.le m m'∧S W0 m' w' L TL∧∃v0_ v1_:Value,v= .tuple #[v0_,v1_]∧RV (kPt cd) m' v0_ r.1∧RV (ai .i64) m' v1_ r.2):=by
 refine kc func33 ntmps33 λa E=>?_;have E:Env 120 a [(0,v0)]:=E;unfold fg at h;refine ae (ah (qA E rfl λa E=>qA E rfl λa E=>ag (ae (ah (sp E (Ii E rfl underlying120 (pl:=[(0,1),(1,1),(2,1)]) rfl zeroValue120) rfl λa E=>?_)))));refine st E (Kc (zc:=s6) E hS rfl) rfl ?_;rintro _ a w ⟨b5,rfl,hS⟩ E;refine qA E rfl λa E=>ag (ae (ae ?_));refine bw (λa w=>∃x10:Bool,jP p0 x10=some r∧∃m',M.le m m'∧S W0 m' w ((b5,s6)::L) (TL)∧Env 120 a [(0,v0),(4,pz b5),(32,.bool x10)]) ?_ ?_
 {
 rcases Z1 (decide ((p0.length:Int)<4)) with hd364|hd364
 {
 have h:=aA hd364 h
 refine kch (k:=15) (m:=m) (es:=[]) (Φ:=(λi m ws v=>match i with|0=>v=v0|1=>ei .i64 (p0.length:Int) v|2=>v=(.bool (decide ((p0.length:Int)<4)))|3=>v=(.bool (decide ((p0.length:Int)<4)))|4=>v=undef|5=>v=undef|6=>v=undef|7=>v=undef|8=>v=undef|9=>v=undef|10=>v=undef|11=>v=undef|12=>v=undef|13=>v=undef|14=>v=undef|_=>True)) (Q:=(λc m ws L' TL'=>match c with|0=>(b5,s6)::L=L'∧TL=TL'|_=>False)) (cs:=[⟨0,0,false,[(0,v0)]⟩,⟨0,0,false,[]⟩,⟨0,0,false,[]⟩,⟨0,0,false,[]⟩,⟨0,0,false,[(0,v0)]⟩,⟨0,0,false,[(0,v0)]⟩,⟨0,0,false,[]⟩,⟨0,0,false,[]⟩,⟨0,0,false,[]⟩,⟨0,0,false,[]⟩,⟨0,0,false,[(0,v0)]⟩,⟨0,0,false,[(0,v0)]⟩,⟨0,0,false,[]⟩,⟨0,0,false,[]⟩,⟨0,0,false,[]⟩]) mixed E hS ⟨rfl,rfl⟩ rfl rfl (by kernel_rfl) ?_ ?_ ?_ ?_
 {
 intro i m_ m2_ ws v n_ q_
 iterate 15 (rcases i with _|i;exact q_)
 exact trivial}
 {
 intro c m_ m2_ ws L_ T_ n_ hq_
 match c,hq_ with
 |0,⟨e1_,e2_⟩=>exact⟨e1_,e2_⟩
 |_+1,hq_=>exact hq_.elim}
 {
 refine⟨?_,?_,?_,?_,?_,?_,?_,?_,?_,?_,?_,?_,?_,?_,?_,trivial⟩
 {exact cmv λ_ _=>rfl}
 {refine cp0 λ_ _ _ _ _ _ _ M' _ Z' E' T'=>?_;have E:=E'.add (T' 0);exact cq (bd (k:=(ai .u8)) E rfl rfl underlying24 (ha0.mono M')) Z' ⟨rfl,(dK (iH (ha0.mono M')))⟩}
 {refine cp0 λ_ _ _ _ _ _ _ _ _ Z' E' T'=>?_;have E:=E'.add (T' 1).1;exact cq (aP E rfl rfl bn) Z' rfl}
 {refine cp0 λ_ _ _ _ _ _ _ _ _ Z' E' T'=>?_;have E:=E'.add (T' 2);exact cq (iF E rfl) Z' rfl}
 {exact csk (gz hd364)}
 {exact csk (gz hd364)}
 {exact csk (gz hd364)}
 {exact csk (gz hd364)}
 {exact csk (gz hd364)}
 {exact csk (gz hd364)}
 {exact csk (gz hd364)}
 {exact csk (gz hd364)}
 {exact csk (gz hd364)}
 {exact csk (gz hd364)}
 {exact csk (gz hd364)}}
 {intro ws_ L_ T_ m379 a w hl380 hm381 hq382 hS hd383 hn384 ho385 hT386;obtain rfl:=eh hl380;obtain⟨rfl,rfl⟩:=hq382;have E:=eof 15 [(0,v0),(2,.pointer none),(3,.int .i64 0),(4,pz b5),(12,(.agg s6.toArray)),(13,pz b5)] hd383 hn384 ho385;have E:=((E.add (hT386 3)).add (hT386 9)).add (hT386 14);refine qX E hd364 λa E=>qX E hd364 λa E=>qX E hd364 λa E=>qT E hd364 rfl λa E=>ag ?_;exact⟨true,h,_,hm381,hS,kut E⟩}}
 {
 have h:=aB hd364 h;obtain⟨x397,hx398,r400,hr401,h⟩:=ob2 h;obtain⟨x406,hx407,h⟩:=ob h
 refine kch (k:=15) (m:=m) (es:=[]) (Φ:=(λi m ws v=>match i with|0=>v=v0|1=>ei .i64 (p0.length:Int) v|2=>v=(.bool (decide ((p0.length:Int)<4)))|3=>v=(.bool (decide ((p0.length:Int)<4)))|4=>v=v0|5=>v=v0|6=>ei .i64 (p0.length:Int) v|7=>ei .i64 (Z2.wrap ((p0.length:Int) - 4)) v|8=>RV (kSl (ai .u8)) m v x397|9=>ei .i64 r400 v|10=>v=v0|11=>v=v0|12=>ei .i64 (p0.length:Int) v|13=>ei .i64 (Z2.wrap ((p0.length:Int) - 4)) v|14=>RV (kSl (ai .u8)) m v x406|_=>True)) (Q:=(λc m ws L' TL'=>match c with|0=>(b5,s6)::L=L'∧TL=TL'|_=>False)) (cs:=[⟨0,0,false,[(0,v0)]⟩,⟨0,0,false,[]⟩,⟨0,0,false,[]⟩,⟨0,0,false,[]⟩,⟨0,0,false,[(0,v0)]⟩,⟨0,0,false,[(0,v0)]⟩,⟨0,0,false,[]⟩,⟨0,0,false,[]⟩,⟨0,0,false,[]⟩,⟨0,0,false,[]⟩,⟨0,0,false,[(0,v0)]⟩,⟨0,0,false,[(0,v0)]⟩,⟨0,0,false,[]⟩,⟨0,0,false,[]⟩,⟨0,0,false,[]⟩]) mixed E hS ⟨rfl,rfl⟩ rfl rfl (by kernel_rfl) ?_ ?_ ?_ ?_
 {
 intro i m_ m2_ ws v n_ q_
 iterate 15 (rcases i with _|i;first|exact q_|exact RV.mono q_ n_)
 exact trivial}
 {
 intro c m_ m2_ ws L_ T_ n_ hq_
 match c,hq_ with
 |0,⟨e1_,e2_⟩=>exact⟨e1_,e2_⟩
 |_+1,hq_=>exact hq_.elim}
 {
 refine⟨?_,?_,?_,?_,?_,?_,?_,?_,?_,?_,?_,?_,?_,?_,?_,trivial⟩
 {exact cmv λ_ _=>rfl}
 {refine cp0 λ_ _ _ _ _ _ _ M' _ Z' E' T'=>?_;have E:=E'.add (T' 0);exact cq (bd (k:=(ai .u8)) E rfl rfl underlying24 (ha0.mono M')) Z' ⟨rfl,(dK (iH (ha0.mono M')))⟩}
 {refine cp0 λ_ _ _ _ _ _ _ _ _ Z' E' T'=>?_;have E:=E'.add (T' 1).1;exact cq (aP E rfl rfl bn) Z' rfl}
 {refine cp0 λ_ _ _ _ _ _ _ _ _ Z' E' T'=>?_;have E:=E'.add (T' 2);exact cq (iF E rfl) Z' rfl}
 {exact cgm (gz hd364) (λ_ _=>rfl)}
 {exact cgm (gz hd364) (λ_ _=>rfl)}
 {refine cg0 (gz hd364) λ_ _ _ _ _ _ _ M' _ Z' E' T'=>?_;have E:=E'.add (T' 5);exact cq (bd (k:=(ai .u8)) E rfl rfl underlying24 (ha0.mono M')) Z' ⟨rfl,(dK (iH (ha0.mono M')))⟩}
 {refine cg0 (gz hd364) λ_ _ _ _ _ _ _ _ _ Z' E' T'=>?_;have E:=E'.add (T' 6).1;exact cq (aP E rfl rfl (dq rfl)) Z' ⟨rfl,(ak _ _)⟩}
 {refine cg0 (gz hd364) λ_ _ _ _ _ _ _ M' _ Z' E' T'=>?_;have E:=(E'.add (T' 4)).add (T' 7).1;exact cr (eD (k:=(ai .u8)) E rfl underlying24 sizeOf5 (ha0.mono M') ⟨_,rfl⟩ rfl hx398 (xl:=(some (.tmp 21))) (xh:=none)) Z' λ_ h=>h}
 {refine cg0 (gz hd364) λ_ _ _ m' a' _ _ _ _ Z' E' T'=>?_;obtain⟨v442,E,q444⟩:=adv E' (T' 8);refine bg.imp (aF (vs:=[v442]) E rfl call82 (lm (hS:=Z') q444 hr401)) ?_;rintro v445 w ⟨m402,hm403,hS,hv404⟩;obtain⟨rfl,hr446⟩:=aG hv404;exact⟨_,hm403,hS,⟨rfl,hr446⟩⟩}
 {exact cgm (gz hd364) (λ_ _=>rfl)}
 {exact cgm (gz hd364) (λ_ _=>rfl)}
 {refine cg0 (gz hd364) λ_ _ _ _ _ _ _ M' _ Z' E' T'=>?_;have E:=E'.add (T' 11);exact cq (bd (k:=(ai .u8)) E rfl rfl underlying24 (ha0.mono M')) Z' ⟨rfl,(dK (iH (ha0.mono M')))⟩}
 {refine cg0 (gz hd364) λ_ _ _ _ _ _ _ _ _ Z' E' T'=>?_;have E:=E'.add (T' 12).1;exact cq (aP E rfl rfl (dq rfl)) Z' ⟨rfl,(ak _ _)⟩}
 {refine cg0 (gz hd364) λ_ _ _ _ _ _ _ M' _ Z' E' T'=>?_;have E:=(E'.add (T' 10)).add (T' 13).1;exact cr (eD (k:=(ai .u8)) E rfl underlying24 sizeOf5 (ha0.mono M') rfl ⟨_,rfl⟩ hx407 (xl:=none) (xh:=(some (.tmp 27)))) Z' λ_ h=>h}}
 {
 intro ws_ L_ T_ m466 a w hl467 hm468 hq469 hS hd470 hn471 ho472 hT473;obtain rfl:=eh hl467;obtain⟨rfl,rfl⟩:=hq469;have E:=eof 15 [(0,v0),(2,.pointer none),(3,.int .i64 0),(4,pz b5),(12,(.agg s6.toArray)),(13,pz b5)] hd470 hn471 ho472;have E:=(E.add (hT473 3)).add (hT473 9).1;obtain⟨v481,E,q483⟩:=adv E (hT473 14);obtain⟨r484,hr485,h⟩:=ob h;refine stg E rfl rfl rfl rfl hd364 (aF (vs:=[v481]) E rfl call78 (xU (hS:=hS) q483 hr485)) rfl ?_;rintro v489 a w ⟨m486,hm487,hS,hv488⟩ E;obtain⟨rfl,hr490⟩:=aG hv488
 refine spg E rfl rfl rfl rfl hd364 (cl E rfl underlying55 underlying3 rfl) rfl λa E=>spg E rfl rfl rfl rfl hd364 (aP E rfl rfl lS) rfl λa E=>qF E hd364 rfl λa E=>ag ?_;exact⟨(r400 != (Z2.wrap r484)),h,_,(Z0 hm468 hm487),hS,kut E⟩}}}
 {
 rintro a w ⟨x10,h,m8,hm9,hS,E⟩;unfold jP at h;refine kif E rfl (λhd12=>?_) (λhd12=>?_)
 {
 have h:=aA hd12 h;refine ae (ah (qA E rfl λa E=>qA E rfl λa E=>ag (bA ?_)));obtain rfl:=oi h
 try dsimp only
 refine f2 E ?_;exact⟨_,hm9,(hS.dropL 1),_,_,rfl,(vP (m:=m8) (k:=cd)),(aq (show inR .i64 80 from aw (by decide)))⟩}
 {
 have h:=aB hd12 h;refine aQ (ae (ah (qM E rfl λa E=>qM E rfl λa E=>qM E rfl λa E=>sp E (bd (k:=(ai .u8)) E rfl rfl underlying24 (ha0.mono hm9)) rfl λa E=>qB E rfl rfl (dq rfl) λa E=>?_)));obtain⟨x20,hx21,h⟩:=ob h;refine st E (eD (k:=(ai .u8)) E rfl underlying24 sizeOf5 (ha0.mono hm9) rfl ⟨_,rfl⟩ hx21 (xl:=none) (xh:=(some (.tmp 38)))) rfl ?_;rintro v23 a _ ⟨rfl,hv22⟩ E;obtain⟨r24,hr25,h⟩:=ob h;refine st E (aF (vs:=[(pz b5),v23]) E rfl call83 (vC (hS:=hS) hv22 hr25)) rfl ?_;rintro _ a w ⟨m26,hm27,c0_28,hS,hc0_29,v0_30,v1_31,v2_32,rfl,hv0_33,hv1_34,hv2_35⟩ E
 obtain⟨rfl,hr37⟩:=aG hv0_33;obtain rfl:=eQ hv2_35;refine qM E rfl λa E=>sp E (bM E rfl rfl) rfl λa E=>sp E (bM E rfl rfl) rfl λa E=>sp E (bM E rfl rfl) rfl λa E=>qA E rfl λa E=>qA E rfl λa E=>qA E rfl λa E=>ag (ae (ae ?_));refine ah (qM E rfl λa E=>sp E (lT E rfl) rfl λa E=>ag (kif E rfl (λhd47=>?_) (λhd47=>?_)))
 {
 have h:=aA hd47 h;refine ae (ah (qA E rfl λa E=>qA E rfl λa E=>ag (bA ?_)));obtain rfl:=oi h
 try dsimp only
 refine f2 E ?_;exact⟨_,(Z0 hm9 hm27),(hS.dropL 1),_,_,rfl,(vP (m:=m26) (k:=cd)),(aq (show inR .i64 80 from aw (by decide)))⟩}
 {
 have h:=aB hd47 h;refine aQ (ae (ah (qM E rfl λa E=>qM E rfl λa E=>?_)));obtain⟨z52,hz53,h⟩:=ob h;refine st E (Il (k:=ab) (o:=2) (sz:=4) (m:=m26) E hS rfl rfl underlying50 type59 rfl rfl rfl (λm=>yM m) hz53 rfl rfl rfl) rfl ?_;rintro v58 a w ⟨b54,cs55,rw56,hc57,hS⟩ E;refine sp E (ci E rfl) rfl λa E=>sp E (aM E oF rfl) rfl λa E=>?_;refine st0 E (Gy E hS JY QE rfl rfl hc57.1.one (i:=1) rfl (Jx hc0_29)) ?_;rintro _ w ⟨cs61,hc62,hq63,hS⟩ E;refine ag (ae (ae (ah (qM E rfl λa E=>sp E (ci E rfl) rfl λa E=>sp E (aM E oE rfl) rfl λa E=>?_))))
 refine st E (aC E hS ty3 rfl (i:=1) rfl (RL.R_drop (aR hc62))) rfl ?_;rintro v69 a _ ⟨rfl,hv68⟩ E;obtain⟨rfl,hr70⟩:=aG hv68;refine qB E rfl rfl (be rfl) λa E=>qM E rfl λa E=>ag ?_;refine bw (λa w=>∃x75:(List Int),∃x79:(List aa),lY r24 x75 x79=some r∧∃m',M.le m26 m'∧∃(v76:Value),∃(rw78:List Value),∃(cs80:List Value),RV (kSl (ai .u8)) m' v76 x75∧GR ab 2 m' b54 cs80 v58 x79 rw78∧S W0 m' w ((b54,cs80)::(b5,cs61)::L) (tls 4 rw78++TL)∧Env 120 a [(4,pz b5),(6,v76)]) ?_ ?_
 {
 refine aJ ?_;refine cH h (λ(s:List Int×Int×List aa) a w=>∃m',M.le m26 m'∧∃(v253:Value),∃(rw257:List Value),∃(cs259:List Value),RV (kSl (ai .u8)) m' v253 s.1∧inR .i64 s.2.1∧GR ab 2 m' b54 cs259 v58 s.2.2 rw257∧S W0 m' w ((b54,cs259)::(b5,cs61)::L) (tls 4 rw257++TL)∧Env 120 a [(4,pz b5),(5,.int .i64 r24.1),(6,v253),(55,.int .i64 (Z2.wrap (r24.2.2.2.fColumns+3))),(56,.int .i64 s.2.1)]) ?_ ?_
 {exact⟨_,(Z3 _),v1_31,rw56,cs55,hv1_34,(show inR .i64 0 from aw (by decide)),hc57,hS,kut E⟩}
 {
 rintro ⟨x252,x255,x258⟩ a w ⟨m250,hm251,v253,rw257,cs259,hv254,hr256,hc260,hS,E⟩ r261 h hb262;have h:gv r24 x252 x255 x258=some r261:=h;unfold gv at h;refine ae (ah (qB E rfl rfl bn λa E=>ag (ae (kif E rfl (λhd264=>?_) (λhd264=>?_)))))
 {
 have h:=aA hd264 h;refine aQ (ae (aJ (ae (ah (qM E rfl λa E=>qA E rfl λa E=>ag (ae (ae ?_)))))));refine bw (λa w=>∃x269:Bool,jO r24 x252 x255 x258 x269=some r261∧∃m',M.le m250 m'∧S W0 m' w ((b54,cs259)::(b5,cs61)::L) (tls 4 rw257++TL)∧Env 120 a [(4,pz b5),(5,.int .i64 r24.1),(6,v253),(8,.int .i64 x255),(55,.int .i64 (Z2.wrap (r24.2.2.2.fColumns+3))),(56,.int .i64 x255),(69,.bool x269)]) ?_ ?_
 {
 refine ah (qM E rfl λa E=>sp E (bd (k:=(ai .u8)) E rfl rfl underlying24 hv254) rfl λa E=>qB E rfl rfl bn λa E=>qM E rfl λa E=>?_);rcases Z1 (decide ((x252.length:Int)<4)) with hd349|hd349
 {have h:=aA hd349 h;refine qX E hd349 λa E=>qX E hd349 λa E=>qX E hd349 λa E=>qX E hd349 λa E=>qX E hd349 λa E=>qX E hd349 λa E=>qT E hd349 rfl λa E=>ag ?_;exact⟨true,h,_,(Z3 _),hS,kut E⟩}
 {have h:=aB hd349 h;refine qG E hd349 rfl λa E=>spg E rfl rfl rfl rfl hd349 (bd (k:=(ai .u8)) E rfl rfl underlying24 hv254) rfl λa E=>qG E hd349 rfl λa E=>?_;obtain⟨r354,hr355,h⟩:=ob h;refine stg E rfl rfl rfl rfl hd349 (aF (vs:=[v253]) E rfl call82 (lm (hS:=hS) hv254 hr355)) rfl ?_;rintro v359 a w ⟨m356,hm357,hS,hv358⟩ E;obtain⟨rfl,hr360⟩:=aG hv358;refine spg E rfl rfl rfl rfl hd349 (aP E rfl rfl (be rfl)) rfl λa E=>spg E rfl rfl rfl rfl hd349 (aP E rfl rfl bn) rfl λa E=>qF E hd349 rfl λa E=>ag ?_;exact⟨(decide ((x252.length:Int)<(Z2.wrap (4+r354)))),h,_,hm357,hS,kut E⟩}}
 {
 rintro a w ⟨x269,h,m267,hm268,hS,E⟩;unfold jO at h;refine kif E rfl (λhd271=>?_) (λhd271=>?_)
 {
 have h:=aA hd271 h;refine ae (ah (qA E rfl λa E=>qA E rfl λa E=>ag (bA ?_)));have h:=bE h hb262;obtain rfl:=oi h
 try dsimp only
 refine f2 E ?_;exact⟨_,(Z0 hm9 (Z0 hm27 (Z0 hm251 hm268))),(S.dropR (hS.dropL 2)),_,_,rfl,(vP (m:=m267) (k:=cd)),(aq (show inR .i64 80 from aw (by decide)))⟩}
 {
 have h:=aB hd271 h;refine aQ (ae (ah (qM E rfl λa E=>?_)));obtain⟨r275,hr276,h⟩:=ob h;refine st E (aF (vs:=[v253]) E rfl call82 (lm (hS:=hS) (hv254.mono hm268) hr276)) rfl ?_;rintro v280 a w ⟨m277,hm278,hS,hv279⟩ E;obtain⟨rfl,hr281⟩:=aG hv279;refine qA E rfl λa E=>ag (ae (ah (qM E rfl λa E=>qM E rfl λa E=>qB E rfl rfl (be rfl) λa E=>?_)));obtain⟨x286,hx287,h⟩:=ob h;refine st E (eD (k:=(ai .u8)) E rfl underlying24 sizeOf5 (hv254.mono (Z0 hm268 hm278)) ⟨_,rfl⟩ ⟨_,rfl⟩ hx287 (xl:=(some (.const (.int .i64 4)))) (xh:=(some (.tmp 75)))) rfl ?_;rintro v289 a _ ⟨rfl,hv288⟩ E
 refine qM E rfl λa E=>?_;obtain⟨r291,hr292,h⟩:=ob h;refine st E (aF (vs:=[v289,(.int .i64 r24.1)]) E rfl call84 (yO (hS:=hS) hv288 hr37 hr292)) rfl ?_;rintro _ a w ⟨m293,hm294,hS,v0_295,v1_296,rfl,hv0_297,hv1_298⟩ E;obtain rfl:=eQ hv1_298;refine qM E rfl λa E=>sp E (bM E rfl rfl) rfl λa E=>sp E (bM E rfl rfl) rfl λa E=>qA E rfl λa E=>qA E rfl λa E=>ag (ae (ae ?_))
 refine bw (λa w=>∃x307:Bool,∃x309:(List aa),jN x252 x255 r275 x307 x309=some r261∧∃m',M.le m293 m'∧∃(rw308:List Value),∃(cs310:List Value),GR ab 2 m' b54 cs310 v58 x309 rw308∧S W0 m' w ((b54,cs310)::(b5,cs61)::L) (tls 4 rw308++TL)∧Env 120 a [(4,pz b5),(5,.int .i64 r24.1),(6,v253),(9,.int .i64 r275),(55,.int .i64 (Z2.wrap (r24.2.2.2.fColumns+3))),(56,.int .i64 x255),(89,.bool x307)]) ?_ ?_
 {
 refine ah (qM E rfl λa E=>sp E (lT E rfl) rfl λa E=>qM E rfl λa E=>?_);rcases Z1 (!r291.2) with hd329|hd329
 {have h:=aA hd329 h;refine qX E hd329 λa E=>qX E hd329 λa E=>qX E hd329 λa E=>qX E hd329 λa E=>qX E hd329 λa E=>qT E hd329 rfl λa E=>ag ?_;exact⟨true,x258,h,_,(Z3 _),rw257,cs259,(hc260.mono (Z0 hm268 (Z0 hm278 hm294))),hS,kut E⟩}
 {
 have h:=aB hd329 h;refine qG E hd329 rfl λa E=>qG E hd329 rfl λa E=>qG E hd329 rfl λa E=>?_;obtain⟨r334,hr335,h⟩:=ob h;refine stg E rfl rfl rfl rfl hd329 (aF (vs:=[(pz b5),(.int .i64 x255),v0_295]) E rfl call85 (vF (hS:=(hS.pickL 2 [1,0] rfl rfl rfl)) (HY.mono (Z0 hm251 (Z0 hm268 (Z0 hm278 hm294))) hc62) hq63 (hc260.mono (Z0 hm268 (Z0 hm278 hm294))) hr256 hv0_297 hr335)) rfl ?_;rintro v342 a w ⟨m336,hm337,cs338,rw339,hS,hc340,hv341⟩ E;obtain rfl:=eQ hv341;refine spg E rfl rfl rfl rfl hd329 (lT E rfl) rfl λa E=>qF E hd329 rfl λa E=>ag ?_
 exact⟨(!r334.1),r334.2,h,_,hm337,rw339,cs338,hc340,(hS.pickL 2 [1,0] rfl rfl rfl),kut E⟩}}
 {
 rintro a w ⟨x307,x309,h,m305,hm306,rw308,cs310,hc311,hS,E⟩;unfold jN at h;refine kif E rfl (λhd313=>?_) (λhd313=>?_)
 {
 have h:=aA hd313 h;refine ae (ah (qA E rfl λa E=>qA E rfl λa E=>ag (bA ?_)));have h:=bE h hb262;obtain rfl:=oi h
 try dsimp only
 refine f2 E ?_;exact⟨_,(Z0 hm9 (Z0 hm27 (Z0 hm251 (Z0 hm268 (Z0 hm278 (Z0 hm294 hm306)))))),(S.dropR (hS.dropL 2)),_,_,rfl,(vP (m:=m305) (k:=cd)),(aq (show inR .i64 80 from aw (by decide)))⟩}
 {have h:=aB hd313 h;refine aQ (ah (qM E rfl λa E=>qM E rfl λa E=>qB E rfl rfl (be rfl) λa E=>?_));obtain⟨x319,hx320,h⟩:=ob h;refine st E (eD (k:=(ai .u8)) E rfl underlying24 sizeOf5 (hv254.mono (Z0 hm268 (Z0 hm278 (Z0 hm294 hm306)))) ⟨_,rfl⟩ rfl hx320 (xl:=(some (.tmp 92))) (xh:=none)) rfl ?_;rintro v322 a _ ⟨rfl,hv321⟩ E;refine qA E rfl λa E=>ag (ah (qB E rfl rfl (be rfl) λa E=>qM E rfl λa E=>ag ?_));exact⟨(x319,Z2.wrap (x255+1),x309),(Option.some.inj h).symm,_,(Z0 hm251 (Z0 hm268 (Z0 hm278 (Z0 hm294 hm306)))),v322,rw308,cs310,hv321,(ak _ _),hc311,hS,kut E⟩}}}}}
 {have h:=aB hd264 h;refine cC rfl rfl ?_;have h:=bE h hb262;exact⟨x252,x258,h,_,hm251,v253,rw257,cs259,hv254,hc260,hS,kut E⟩}}}
 {
 rintro a w ⟨x75,x79,h,m73,hm74,v76,rw78,cs80,hv77,hc81,hS,E⟩;unfold lY at h;refine ae (ae ?_);have hS:=S.dropR hS;obtain⟨m83,hm84,hS,hv87⟩:=S.freeze hS hc81.1;obtain⟨m85,hm86,hS,hp88⟩:=S.freezeL (k:=cd) (xx:=({ r24.2.2.2 with fL:=x79 })) hS (Lm (HY.mono (Z0 hm74 hm84) hc62) hq63 hv87);refine bw (λa w=>∃x92:Bool,jM r24 x79 x92=some r∧∃m',M.le m85 m'∧S W0 m' w L TL∧Env 120 a [(4,pz b5),(118,.bool x92)]) ?_ ?_
 {
 rcases Z1 (decide (0<(x75.length:Int))) with hd100|hd100
 {
 have h:=aA hd100 h
 refine kch (k:=16) (m:=m85) (es:=[]) (Φ:=(λi m ws v=>match i with|0=>v=v76|1=>ei .i64 (x75.length:Int) v|2=>v=(.bool (decide (0<(x75.length:Int))))|3=>v=(.bool (decide (0<(x75.length:Int))))|4=>v=undef|5=>v=undef|6=>v=undef|7=>v=undef|8=>v=undef|9=>v=undef|10=>v=undef|11=>v=undef|12=>v=undef|13=>v=undef|14=>v=undef|15=>v=undef|_=>True)) (Q:=(λc m ws L' TL'=>match c with|0=>L=L'∧TL=TL'|_=>False)) (cs:=[⟨0,0,false,[(6,v76)]⟩,⟨0,0,false,[]⟩,⟨0,0,false,[]⟩,⟨0,0,false,[]⟩,⟨0,0,false,[(4,pz b5)]⟩,⟨0,0,false,[]⟩,⟨0,0,false,[]⟩,⟨0,0,false,[]⟩,⟨0,0,false,[(4,pz b5)]⟩,⟨0,0,false,[]⟩,⟨0,0,false,[]⟩,⟨0,0,false,[]⟩,⟨0,0,false,[(4,pz b5)]⟩,⟨0,0,false,[]⟩,⟨0,0,false,[]⟩,⟨0,0,false,[]⟩]) mixed E hS ⟨rfl,rfl⟩ rfl rfl (by kernel_rfl) ?_ ?_ ?_ ?_
 {
 intro i m_ m2_ ws v n_ q_
 iterate 16 (rcases i with _|i;exact q_)
 exact trivial}
 {
 intro c m_ m2_ ws L_ T_ n_ hq_
 match c,hq_ with
 |0,⟨e1_,e2_⟩=>exact⟨e1_,e2_⟩
 |_+1,hq_=>exact hq_.elim}
 {
 refine⟨?_,?_,?_,?_,?_,?_,?_,?_,?_,?_,?_,?_,?_,?_,?_,?_,trivial⟩
 {exact cmv λ_ _=>rfl}
 {refine cp0 λ_ _ _ _ _ _ _ M' _ Z' E' T'=>?_;have E:=E'.add (T' 0);exact cq (bd (k:=(ai .u8)) E rfl rfl underlying24 (hv77.mono (Z0 hm84 (Z0 hm86 M')))) Z' ⟨rfl,(dK (iH (hv77.mono (Z0 hm84 (Z0 hm86 M')))))⟩}
 {refine cp0 λ_ _ _ _ _ _ _ _ _ Z' E' T'=>?_;have E:=E'.add (T' 1).1;exact cq (aP E rfl rfl ju) Z' rfl}
 {refine cp0 λ_ _ _ _ _ _ _ _ _ Z' E' T'=>?_;have E:=E'.add (T' 2);exact cq (iF E rfl) Z' rfl}
 {exact csk (gz hd100)}
 {exact csk (gz hd100)}
 {exact csk (gz hd100)}
 {exact csk (gz hd100)}
 {exact csk (gz hd100)}
 {exact csk (gz hd100)}
 {exact csk (gz hd100)}
 {exact csk (gz hd100)}
 {exact csk (gz hd100)}
 {exact csk (gz hd100)}
 {exact csk (gz hd100)}
 {exact csk (gz hd100)}}
 {intro ws_ L_ T_ m115 a w hl116 hm117 hq118 hS hd119 hn120 ho121 hT122;obtain rfl:=eh hl116;obtain⟨rfl,rfl⟩:=hq118;have E:=eof 16 [(4,pz b5),(6,v76)] hd119 hn120 ho121;have E:=(((E.add (hT122 3)).add (hT122 7)).add (hT122 11)).add (hT122 15);refine qX E hd100 λa E=>qX E hd100 λa E=>qT E hd100 rfl λa E=>qM E rfl λa E=>qX E rfl λa E=>qX E rfl λa E=>qX E rfl λa E=>qT E rfl rfl λa E=>ag ?_;exact⟨true,h,_,hm117,hS,kut E⟩}}
 {
 have h:=aB hd100 h;obtain⟨x138,hx139,x144,hx145,h⟩:=ob2 h;obtain⟨x149,hx150,h⟩:=ob h
 refine kch (k:=16) (m:=m85) (es:=[]) (Φ:=(λi m ws v=>match i with|0=>v=v76|1=>ei .i64 (x75.length:Int) v|2=>v=(.bool (decide (0<(x75.length:Int))))|3=>v=(.bool (decide (0<(x75.length:Int))))|4=>v=(pz b5)|5=>v=(pz b5)|6=>PR (ai .i64) m v x138.fColumns|7=>ei .i64 x138.fColumns v|8=>v=(pz b5)|9=>v=(pz b5)|10=>PR (kSl (ai .i64)) m v x144.fSort|11=>RV (kSl (ai .i64)) m v x144.fSort|12=>v=(pz b5)|13=>v=(pz b5)|14=>PR (kSl ab) m v x149.fL|15=>RV (kSl ab) m v x149.fL|_=>True)) (Q:=(λc m ws L' TL'=>match c with|0=>L=L'∧TL=TL'|_=>False)) (cs:=[⟨0,0,false,[(6,v76)]⟩,⟨0,0,false,[]⟩,⟨0,0,false,[]⟩,⟨0,0,false,[]⟩,⟨0,0,false,[(4,pz b5)]⟩,⟨0,0,false,[]⟩,⟨0,0,false,[]⟩,⟨0,0,false,[]⟩,⟨0,0,false,[(4,pz b5)]⟩,⟨0,0,false,[]⟩,⟨0,0,false,[]⟩,⟨0,0,false,[]⟩,⟨0,0,false,[(4,pz b5)]⟩,⟨0,0,false,[]⟩,⟨0,0,false,[]⟩,⟨0,0,false,[]⟩]) mixed E hS ⟨rfl,rfl⟩ rfl rfl (by kernel_rfl) ?_ ?_ ?_ ?_
 {
 intro i m_ m2_ ws v n_ q_
 iterate 16 (rcases i with _|i;first|exact q_|exact PR.mono q_ n_|exact RV.mono q_ n_)
 exact trivial}
 {
 intro c m_ m2_ ws L_ T_ n_ hq_
 match c,hq_ with
 |0,⟨e1_,e2_⟩=>exact⟨e1_,e2_⟩
 |_+1,hq_=>exact hq_.elim}
 {
 refine⟨?_,?_,?_,?_,?_,?_,?_,?_,?_,?_,?_,?_,?_,?_,?_,?_,trivial⟩
 {exact cmv λ_ _=>rfl}
 {refine cp0 λ_ _ _ _ _ _ _ M' _ Z' E' T'=>?_;have E:=E'.add (T' 0);exact cq (bd (k:=(ai .u8)) E rfl rfl underlying24 (hv77.mono (Z0 hm84 (Z0 hm86 M')))) Z' ⟨rfl,(dK (iH (hv77.mono (Z0 hm84 (Z0 hm86 M')))))⟩}
 {refine cp0 λ_ _ _ _ _ _ _ _ _ Z' E' T'=>?_;have E:=E'.add (T' 1).1;exact cq (aP E rfl rfl ju) Z' rfl}
 {refine cp0 λ_ _ _ _ _ _ _ _ _ Z' E' T'=>?_;have E:=E'.add (T' 2);exact cq (iF E rfl) Z' rfl}
 {exact cgm (gz hd100) (λ_ _=>rfl)}
 {refine cg0 (gz hd100) λ_ _ _ _ _ _ _ M' _ Z' E' T'=>?_;have E:=E'.add (T' 4);exact cq (qm E rfl ((sD hp88).mono M') hx139) Z' rfl}
 {refine cg0 (gz hd100) λ_ _ _ _ _ _ _ M' _ Z' E' T'=>?_;have E:=E'.add (T' 5);exact cr (jF E oE EU rfl ((qR (sD hp88) hx139).mono M')) Z' λ_ h=>h}
 {
 refine cg0 (gz hd100) λ_ _ _ m' a' _ _ _ _ Z' E' T'=>?_;obtain⟨v177,e178,q179⟩:∃v,a'.tmps.getD 101 undef=v∧(PR (ai .i64) m' v x138.fColumns):=⟨_,rfl,T' 6⟩
 have E:=E'.add (e178);exact cr (bG E Z' ty3 rfl q179) Z' λ_ h=>aG h}
 {exact cgm (gz hd100) (λ_ _=>rfl)}
 {refine cg0 (gz hd100) λ_ _ _ _ _ _ _ M' _ Z' E' T'=>?_;have E:=E'.add (T' 8);exact cq (qm E rfl ((sD hp88).mono M') hx145) Z' rfl}
 {refine cg0 (gz hd100) λ_ _ _ _ _ _ _ M' _ Z' E' T'=>?_;have E:=E'.add (T' 9);exact cr (jF E pS AP rfl ((qR (sD hp88) hx145).mono M')) Z' λ_ h=>h}
 {
 refine cg0 (gz hd100) λ_ _ _ m' a' _ _ _ _ Z' E' T'=>?_;obtain⟨v191,e192,q193⟩:∃v,a'.tmps.getD 105 undef=v∧(PR (kSl (ai .i64)) m' v x144.fSort):=⟨_,rfl,T' 10⟩
 have E:=E'.add (e192);exact cr (bG E Z' tL rfl q193) Z' λ_ h=>h}
 {exact cgm (gz hd100) (λ_ _=>rfl)}
 {refine cg0 (gz hd100) λ_ _ _ _ _ _ _ M' _ Z' E' T'=>?_;have E:=E'.add (T' 12);exact cq (qm E rfl ((sD hp88).mono M') hx150) Z' rfl}
 {refine cg0 (gz hd100) λ_ _ _ _ _ _ _ M' _ Z' E' T'=>?_;have E:=E'.add (T' 13);exact cr (jF E oF rv rfl ((qR (sD hp88) hx150).mono M')) Z' λ_ h=>h}
 {
 refine cg0 (gz hd100) λ_ _ _ m' a' _ _ _ _ Z' E' T'=>?_;obtain⟨v204,e205,q206⟩:∃v,a'.tmps.getD 109 undef=v∧(PR (kSl ab) m' v x149.fL):=⟨_,rfl,T' 14⟩
 have E:=E'.add (e205);exact cr (bG E Z' AU rfl q206) Z' λ_ h=>h}}
 {
 intro ws_ L_ T_ m208 a w hl209 hm210 hq211 hS hd212 hn213 ho214 hT215;obtain rfl:=eh hl209;obtain⟨rfl,rfl⟩:=hq211;have E:=eof 16 [(4,pz b5),(6,v76)] hd212 hn213 ho214;have E:=E.add (hT215 3);obtain⟨q221,hr222⟩:=hT215 7;have E:=E.add q221;obtain⟨v223,E,q225⟩:=adv E (hT215 11);obtain⟨v226,E,q228⟩:=adv E (hT215 15);obtain⟨r229,hr230,h⟩:=ob h;refine stg E rfl rfl rfl rfl hd100 (aF (vs:=[(.int .i64 x138.fColumns),v223,v226]) E rfl call74 (iQ (hS:=hS) hr222 q225 q228 hr230)) rfl ?_;rintro v234 a w ⟨m231,hm232,hS,hv233⟩ E;obtain⟨rfl,hr235⟩:=aG hv233
 refine spg E rfl rfl rfl rfl hd100 (aP E rfl rfl lS) rfl λa E=>qF E hd100 rfl λa E=>qM E rfl λa E=>?_;rcases Z1 (r229 != 0) with hd239|hd239
 {have h:=aA hd239 h;refine qX E hd239 λa E=>qX E hd239 λa E=>qX E hd239 λa E=>qT E hd239 rfl λa E=>ag ?_;exact⟨true,h,_,(Z0 hm210 hm232),hS,kut E⟩}
 {have h:=aB hd239 h;refine qG E hd239 rfl λa E=>?_;obtain⟨r242,hr243,h⟩:=ob h;refine stg E rfl rfl rfl rfl hd239 (aF (vs:=[(pz b5)]) E rfl call86 (un (hS:=hS) ((sD hp88).mono (Z0 hm210 hm232)) hr243)) rfl ?_;rintro v247 a w ⟨m244,hm245,hS,hv246⟩ E;obtain rfl:=eQ hv246;refine spg E rfl rfl rfl rfl hd239 (lT E rfl) rfl λa E=>qF E hd239 rfl λa E=>ag ?_;exact⟨(!r242),h,_,(Z0 hm210 (Z0 hm232 hm245)),hS,kut E⟩}}}}
 {
 rintro a w ⟨x92,h,m90,hm91,hS,E⟩;unfold jM at h;refine kif E rfl (λhd94=>?_) (λhd94=>?_)
 {
 have h:=aA hd94 h;refine ae (ah (qA E rfl λa E=>qA E rfl λa E=>ag (bA ?_)));obtain rfl:=oi h
 try dsimp only
 refine f2 E ?_;exact⟨_,(Z0 hm9 (Z0 hm27 (Z0 hm74 (Z0 hm84 (Z0 hm86 hm91))))),hS,_,_,rfl,(vP (m:=m90) (k:=cd)),(aq (show inR .i64 80 from aw (by decide)))⟩}
 {
 have h:=aB hd94 h;refine aQ (ae (ah (qM E rfl λa E=>qA E rfl λa E=>qA E rfl λa E=>ag (bA ?_))));obtain rfl:=oi h
 try dsimp only
 refine f2 E ?_;exact⟨_,(Z0 hm9 (Z0 hm27 (Z0 hm74 (Z0 hm84 (Z0 hm86 hm91))))),hS,_,_,rfl,((sD hp88).mono hm91),(aq (show inR .i64 0 from aw (by decide)))⟩}}}}}}
theorem up  (hS:S W0 m w L TL) {p0} (ha0:RV ab m v0 p0) {p1} (ha1:PR bv m v1 p1) {r} (h:cZ p0 p1=some r):
    Calls prog 91 [v0,v1].toArray w (Ret λv w'=>∃m',M.le m m'∧S W0 m' w' L TL∧RV cO m' v r):=by
 refine kc func91 ntmps91 λa E=>?_;have E:Env 8 a [(0,v0),(1,v1)]:=E;unfold cZ at h;refine ae (ah ?_);refine st E (kq (k:=ab) E hS rfl ha0) rfl ?_;rintro _ a w ⟨b1,cs2,rfl,hc3,hS⟩ E;refine qA E rfl λa E=>ag (ae (ah (sp E (aM E qy rfl) rfl λa E=>?_)));refine st E (aC E hS yN rfl (i:=0) rfl (zK.R_drop (aR hc3))) rfl ?_;rintro v8 a _ ⟨rfl,hv7⟩ E;refine st E (bG E hS yN rfl ha1) rfl ?_;rintro v10 a _ ⟨rfl,hv9⟩ E;refine sp E (yU E Nc rfl rfl hv7 hv9 rfl) rfl λa E=>qA E rfl λa E=>ag (bA ?_);obtain rfl:=oi h
 try dsimp only
 refine f1 E ?_;exact⟨_,(Z3 _),(hS.dropL 1),dt⟩
theorem QF:Ctr Sz prog 90 [.rd (.sl (.st 59)),.f1 (.st 59) .bool] [.rd (.int .i64)] (fun x=>eM x.1 x.2.1):=
 ncR [] [4] func90 ntmps90 (.s .o (.s (.s .o (.b (.l ⟨[.v 8 1 (.dat (.int .i64) none)],[0,1,7],0,[]⟩ .o))) .o)) λx=>by kernel_rfl
theorem qP  (hS:S W0 m w L TL) {p0} (ha0:RV (kSl ab) m v0 p0) {p1} (ha1:Fn1 prog ab cO m v1 p1) {r} (h:eM p0 p1=some r):
    Calls prog 90 [v0,v1].toArray w (Ret λv w'=>∃m',M.le m m'∧S W0 m' w' L TL∧RV (ai .i64) m' v r):=by
 refine rm (QF W0 m w L TL [v0,v1] (p0,p1,()) r [] [] hS ⟨ha0,⟨ha1,trivial⟩⟩ h) λv w' he=>?_;obtain⟨m',us,Lr,Lq,Tr,hm,Z',rfl,hR,hO⟩:=he;obtain⟨u0,us,rfl,r0,hR0⟩:=dC hR;obtain⟨rfl,rfl,rfl⟩:=cE hR0;have hO0:=bT hO;have hO1:=JI hO0;obtain rfl:=cF hO1;exact⟨m',hm,Z',r0⟩
theorem QG {m0:M}{vc0:Value}{xc0:aL}(hc0:PR bv m0 vc0 xc0):Fn1 prog ab cO m0 (.func (.func 91) [].toArray [vc0].toArray) (λx0=>cZ x0 xc0):=by
  refine⟨91,_,rfl,call91,?_⟩;intro W0 m w L TL v0 x0 r hm hS h0 hr;refine(up (hS:=hS) h0 (hc0.mono hm) hr).mono ?_;intro e w' he;cases e with
  |returned v=>obtain⟨m',h1,h2,h3⟩:=he;exact⟨m',h1,h2,h3⟩
  |panicked ch=>exact he.elim
  |outgrown=>exact he.elim
theorem vG  (hS:S W0 m w L TL) {p0} (ha0:RV (kPt cd) m v0 p0) {p1} (ha1:RV bv m v1 p1) {r} (h:iP p0 p1=some r):
    Calls prog 37 [v0,v1].toArray w (Ret λv w'=>∃m',M.le m m'∧S W0 m' w' L TL∧∃v0_ v1_:Value,v= .tuple #[v0_,v1_]∧RV (ai .i64) m' v0_ r.1∧RV cO m' v1_ r.2):=by
 refine kc func37 ntmps37 λa E=>?_;have E:Env 17 a [(0,v0),(1,v1)]:=E;unfold iP at h;refine ae (ah ?_);refine st E (kq (k:=bv) E hS rfl ha1) rfl ?_;rintro _ a w ⟨b1,cs2,rfl,hc3,hS⟩ E;refine qA E rfl λa E=>qA E rfl λa E=>ag (ae (ah (qM E rfl λa E=>?_)));obtain⟨x8,hx9,h⟩:=ob h;refine sp E (qm E rfl ha0 hx9) rfl λa E=>?_;refine st E (jF E oF rv rfl (qR ha0 hx9)) rfl ?_;rintro v13 a _ ⟨rfl,hp12⟩ E;refine st E (bG E hS AU rfl hp12) rfl ?_;rintro v15 a _ ⟨rfl,hv14⟩ E;obtain⟨m16,hm17,hS,hp18⟩:=S.freezeL (k:=bv) hS hc3;refine sp E (qQ E rfl rfl) rfl λa E=>?_
 obtain⟨r20,hr21,h⟩:=ob h;refine st E (aF (vs:=[v15,(.func (.func 91) [].toArray [(pz b1)].toArray)]) E rfl call90 (by have q0_:=(hv14.mono hm17);have q1_:=(QG hp18);exact qP (p0:=x8.fL) (p1:=(λy0_=>cZ y0_ p1)) (hS:=hS) q0_ q1_ hr21)) rfl ?_;rintro v25 a w ⟨m22,hm23,hS,hv24⟩ E;obtain⟨rfl,hr26⟩:=aG hv24;refine qA E rfl λa E=>ag (ae (ah (qM E rfl λa E=>sp E (Gf E rfl rfl) rfl λa E=>qM E rfl λa E=>qB E rfl rfl yT λa E=>qA E rfl λa E=>qA E rfl λa E=>?_)));refine ag (bA ?_);obtain rfl:=oi h
 try dsimp only
 refine f2 E ?_;exact⟨_,(Z0 hm17 hm23),hS,_,_,rfl,(aq (Ef hr26 (show inR .i64 0 from aw (by decide)))),dt⟩
theorem w5  (hS:S W0 m w L TL) {p0} (ha0:RV (kPt cd) m v0 p0) {r} (h:oc p0=some r):
    Calls prog 35 [v0].toArray w (Ret λv w'=>∃m',M.le m m'∧S W0 m' w' L TL∧RV (ai .i64) m' v r):=by
 refine kc func35 ntmps35 λa E=>?_;have E:Env 8 a [(0,v0)]:=E;unfold oc at h;refine ae (ah (qA E rfl λa E=>ag (ae (ah (qM E rfl λa E=>?_)))));obtain⟨x3,hx4,h⟩:=ob h;refine sp E (qm E rfl ha0 hx4) rfl λa E=>?_;refine st E (jF E oF rv rfl (qR ha0 hx4)) rfl ?_;rintro v8 a _ ⟨rfl,hp7⟩ E;refine st E (bG E hS AU rfl hp7) rfl ?_;rintro v10 a _ ⟨rfl,hv9⟩ E;refine sp E (bd (k:=ab) E rfl rfl underlying50 hv9) rfl λa E=>qA E rfl λa E=>ag (bA ?_);obtain rfl:=oi h
 try dsimp only
 refine f1 E ?_;exact⟨_,(Z3 _),hS,(aq (dK (iH hv9)))⟩
theorem zW  (hS:S W0 m w L TL)  {r} (h:pI=some r):
    Calls prog 29 [].toArray w (Ret λv w'=>∃m',M.le m m'∧S W0 m' w' L TL∧RV cO m' v r):=by
 refine kc func29 ntmps29 λa E=>?_;have E:Env 52 a []:=E;unfold pI at h;refine ae (ah (qA E rfl λa E=>ag (ae (ah ?_))));refine st E (fC (k:=(ai .i64)) (xs:=[0]) (vs:=[(.int .i64 0)]) E hS rfl underlying49 sizeOf3 zeroValue3 ⟨(aq (show inR .i64 0 from aw (by decide))),trivial⟩ rfl (by decide)) rfl ?_;rintro v5 a w ⟨m3,hm4,hS,hv2⟩ E;refine st E (jX (m:=m3) (k:=bv) (x0:=aL.zero) (xx:=(⟨1,0⟩:aL)) (pl:=[(0,1),(1,1)]) (pv:=[(0,.int .u64 1)]) E rfl underlying57 rfl zeroValue57 DJ rfl (.cons rfl wQ (aq (show inR .u64 1 from aw (by decide))) .nil)) rfl ?_;rintro v7 a _ ⟨rfl,hv6⟩ E
 refine st E (jX (m:=m3) (k:=kAp) (x0:=Ap.zero) (xx:=(⟨2,false,2,[]⟩:Ap)) (pl:=[(0,1),(1,1),(2,1),(3,1)]) (pv:=[(0,.int .i64 2),(2,.int .i64 2)]) E rfl underlying32 rfl zeroValue32 pR rfl (.cons rfl DB (aq (show inR .i64 2 from aw (by decide))) (.cons rfl DC (aq (show inR .i64 2 from aw (by decide))) .nil))) rfl ?_;rintro v9 a _ ⟨rfl,hv8⟩ E;refine st E (fC (k:=kAp) (xs:=[(⟨2,false,2,[]⟩:Ap)]) (vs:=[v9]) E hS rfl underlying22 sizeOf32 zeroValue32 ⟨hv8,trivial⟩ rfl (by decide)) rfl ?_;rintro v13 a w ⟨m11,hm12,hS,hv10⟩ E
 refine st E (jX (m:=m11) (k:=ab) (x0:=aa.zero) (xx:=(⟨(⟨1,0⟩:aL),[(⟨2,false,2,[]⟩:Ap)],0⟩:aa)) (pl:=[(0,2),(2,1),(3,1)]) (pv:=[(0,v7),(1,v13)]) E rfl underlying59 rfl zeroValue59 yM rfl (.cons rfl wR (hv6.mono hm12) (.cons rfl zL hv10 .nil))) rfl ?_;rintro v15 a _ ⟨rfl,hv14⟩ E;refine st E (jX (m:=m11) (k:=bv) (x0:=aL.zero) (xx:=(⟨2,0⟩:aL)) (pl:=[(0,1),(1,1)]) (pv:=[(0,.int .u64 2)]) E rfl underlying57 rfl zeroValue57 DJ rfl (.cons rfl wQ (aq (show inR .u64 2 from aw (by decide))) .nil)) rfl ?_;rintro v17 a _ ⟨rfl,hv16⟩ E
 refine st E (jX (m:=m11) (k:=kAp) (x0:=Ap.zero) (xx:=(⟨2,false,1,[]⟩:Ap)) (pl:=[(0,1),(1,1),(2,1),(3,1)]) (pv:=[(0,.int .i64 2),(2,.int .i64 1)]) E rfl underlying32 rfl zeroValue32 pR rfl (.cons rfl DB (aq (show inR .i64 2 from aw (by decide))) (.cons rfl DC (aq (show inR .i64 1 from aw (by decide))) .nil))) rfl ?_;rintro v19 a _ ⟨rfl,hv18⟩ E;refine st E (fC (k:=kAp) (xs:=[(⟨2,false,1,[]⟩:Ap)]) (vs:=[v19]) E hS rfl underlying22 sizeOf32 zeroValue32 ⟨hv18,trivial⟩ rfl (by decide)) rfl ?_;rintro v23 a w ⟨m21,hm22,hS,hv20⟩ E
 refine st E (jX (m:=m21) (k:=ab) (x0:=aa.zero) (xx:=(⟨(⟨2,0⟩:aL),[(⟨2,false,1,[]⟩:Ap)],0⟩:aa)) (pl:=[(0,2),(2,1),(3,1)]) (pv:=[(0,v17),(1,v23)]) E rfl underlying59 rfl zeroValue59 yM rfl (.cons rfl wR (hv16.mono hm22) (.cons rfl zL hv20 .nil))) rfl ?_;rintro v25 a _ ⟨rfl,hv24⟩ E;refine st E (fC (k:=ab) (xs:=[(⟨(⟨1,0⟩:aL),[(⟨2,false,2,[]⟩:Ap)],0⟩:aa),(⟨(⟨2,0⟩:aL),[(⟨2,false,1,[]⟩:Ap)],0⟩:aa)]) (vs:=[v15,v25]) E hS rfl underlying50 sizeOf59 zeroValue59 ⟨(hv14.mono hm22),hv24,trivial⟩ rfl (by decide)) rfl ?_;rintro v29 a w ⟨m27,hm28,hS,hv26⟩ E;obtain⟨r30,hr31,h⟩:=ob h
 refine st E (aF (vs:=[(.int .i64 1),v5,(.slice none 0 0),v29]) E rfl call31 (zU (hS:=hS) (show inR .i64 1 from aw (by decide)) (hv2.mono (Z0 hm12 (Z0 hm22 hm28))) dL hv26 hr31)) rfl ?_;rintro _ a w ⟨m32,hm33,hS,v0_34,v1_35,rfl,hv0_36,hv1_37⟩ E;obtain⟨rfl,hr39⟩:=aG hv1_37;refine qM E rfl λa E=>sp E (bM E rfl rfl) rfl λa E=>sp E (bM E rfl rfl) rfl λa E=>qA E rfl λa E=>qA E rfl λa E=>ag (ae (ah (qM E rfl λa E=>?_)));obtain⟨r46,hr47,h⟩:=ob h;refine st E (aF (vs:=[v0_34]) E rfl call33 (uo (hS:=hS) hv0_36 hr47)) rfl ?_;rintro _ a w ⟨m48,hm49,hS,v0_50,v1_51,rfl,hv0_52,hv1_53⟩ E
 obtain⟨rfl,hr55⟩:=aG hv1_53;refine qM E rfl λa E=>sp E (bM E rfl rfl) rfl λa E=>sp E (bM E rfl rfl) rfl λa E=>qA E rfl λa E=>qA E rfl λa E=>ag (ae (ae ?_));refine bw (λa w=>∃x63:Bool,lL r46 x63=some r∧∃m',M.le m48 m'∧S W0 m' w L TL∧Env 52 a [(3,v0_50),(35,.bool x63)]) ?_ ?_
 {
 refine ah (qM E rfl λa E=>qB E rfl rfl lS λa E=>qM E rfl λa E=>?_);rcases Z1 (r30.2 != 0) with hd117|hd117
 {have h:=aA hd117 h;refine qX E hd117 λa E=>qX E hd117 λa E=>qT E hd117 rfl λa E=>qM E rfl λa E=>qX E rfl λa E=>qX E rfl λa E=>qT E rfl rfl λa E=>ag ?_;exact⟨true,h,_,(Z3 _),(hS.pickT 4 [] rfl rfl rfl),kut E⟩}
 {
 have h:=aB hd117 h;refine qG E hd117 rfl λa E=>spg E rfl rfl rfl rfl hd117 (aP E rfl rfl lS) rfl λa E=>qF E hd117 rfl λa E=>qM E rfl λa E=>?_;rcases Z1 (r46.2 != 0) with hd125|hd125
 {have h:=aA hd125 h;refine qX E hd125 λa E=>qX E hd125 λa E=>qT E hd125 rfl λa E=>ag ?_;exact⟨true,h,_,(Z3 _),(hS.pickT 4 [] rfl rfl rfl),kut E⟩}
 {have h:=aB hd125 h;refine qG E hd125 rfl λa E=>spg E rfl rfl rfl rfl hd125 (Gs E rfl rfl underlying65 hv0_52) rfl λa E=>qF E hd125 rfl λa E=>ag ?_;exact⟨r46.1.isNone,h,_,(Z3 _),(hS.pickT 4 [] rfl rfl rfl),kut E⟩}}}
 {
 rintro a w ⟨x63,h,m61,hm62,hS,E⟩;unfold lL at h;refine kif E rfl (λhd65=>?_) (λhd65=>?_)
 {
 have h:=aA hd65 h;refine ae (ah (qA E rfl λa E=>ag (bA ?_)));obtain rfl:=oi h
 try dsimp only
 refine f1 E ?_;exact⟨_,(Z0 hm4 (Z0 hm12 (Z0 hm22 (Z0 hm28 (Z0 hm33 (Z0 hm49 hm62)))))),hS,dt⟩}
 {
 have h:=aB hd65 h;refine aQ (ae (ah (qM E rfl λa E=>?_)));refine st E (jX (m:=m61) (k:=bv) (x0:=aL.zero) (xx:=(⟨1,0⟩:aL)) (pl:=[(0,1),(1,1)]) (pv:=[(0,.int .u64 1)]) E rfl underlying57 rfl zeroValue57 DJ rfl (.cons rfl wQ (aq (show inR .u64 1 from aw (by decide))) .nil)) rfl ?_;rintro v69 a _ ⟨rfl,hv68⟩ E;obtain⟨r70,hr71,h⟩:=ob h;refine st E (aF (vs:=[v0_50,v69]) E rfl call37 (vG (hS:=hS) (hv0_52.mono hm62) hv68 hr71)) rfl ?_;rintro _ a w ⟨m72,hm73,hS,v0_74,v1_75,rfl,hv0_76,hv1_77⟩ E;obtain⟨rfl,hr79⟩:=aG hv0_76;obtain rfl:=eQ hv1_77
 refine qM E rfl λa E=>sp E (bM E rfl rfl) rfl λa E=>sp E (bM E rfl rfl) rfl λa E=>qA E rfl λa E=>qA E rfl λa E=>ag (ae ?_);refine bw (λa w=>∃x87:Bool,nA x87=some r∧∃m',M.le m72 m'∧S W0 m' w L TL∧Env 52 a [(0,.bool x87)]) ?_ ?_
 {
 refine ah (qM E rfl λa E=>?_);obtain⟨r90,hr91,h⟩:=ob h;refine st E (aF (vs:=[v0_50]) E rfl call35 (w5 (hS:=hS) (hv0_52.mono (Z0 hm62 hm73)) hr91)) rfl ?_;rintro v95 a w ⟨m92,hm93,hS,hv94⟩ E;obtain⟨rfl,hr96⟩:=aG hv94;refine qB E rfl rfl gg λa E=>qM E rfl λa E=>?_;rcases Z1 (r90==2) with hd99|hd99
 {
 have h:=aA hd99 h;refine qG E hd99 rfl λa E=>spg E rfl rfl rfl rfl hd99 (aP E rfl rfl gg) rfl λa E=>qT E hd99 rfl λa E=>qM E rfl λa E=>?_;rcases Z1 (r70.1==1) with hd104|hd104
 {have h:=aA hd104 h;refine qG E hd104 rfl λa E=>qT E hd104 rfl λa E=>qA E rfl λa E=>ag ?_;exact⟨r70.2,h,_,hm93,hS,kut E⟩}
 {have h:=aB hd104 h;refine qX E hd104 λa E=>qF E hd104 rfl λa E=>qA E rfl λa E=>ag ?_;exact⟨false,h,_,hm93,hS,kut E⟩}}
 {have h:=aB hd99 h;refine qX E hd99 λa E=>qX E hd99 λa E=>qF E hd99 rfl λa E=>qM E rfl λa E=>qX E rfl λa E=>qF E rfl rfl λa E=>qA E rfl λa E=>ag ?_;exact⟨false,h,_,hm93,hS,kut E⟩}}
 {
 rintro a w ⟨x87,h,m85,hm86,hS,E⟩;unfold nA at h;refine bA ?_;obtain rfl:=oi h
 try dsimp only
 refine f1 E ?_;exact⟨_,(Z0 hm4 (Z0 hm12 (Z0 hm22 (Z0 hm28 (Z0 hm33 (Z0 hm49 (Z0 hm62 (Z0 hm73 hm86)))))))),hS,dt⟩}}}
theorem om  {b0_:Nat} {c0_:List Value} (hS:S W0 m w ((b0_,c0_)::L) (TL)) {p0} (ha0:GS (ai .u8) m b0_ c0_ v0 p0) {p1} (ha1:inR .i64 p1) {r} (h:i7 p0 p1=some r):
    Calls prog 75 [v0,(.int .i64 p1)].toArray w (Ret λv w'=>∃m',M.le m m'∧∃bq_:Nat,∃cq_:List Value,S W0 m' w' ((bq_,cq_)::L) (TL)∧GS (ai .u8) m' bq_ cq_ v r):=by
 refine kc func75 ntmps75 λa E=>?_;have E:Env 19 a [(0,v0),(1,.int .i64 p1)]:=E;unfold i7 at h;refine ae (ah (qA E rfl λa E=>ag (ae (ah (qM E rfl λa E=>qM E rfl λa E=>qB E rfl rfl (kg rfl (by decide)) λa E=>sp E (cl E rfl underlying3 underlying5 rfl) rfl λa E=>?_)))))
 refine qM E rfl λa E=>qB E rfl rfl (kg rfl (by decide)) λa E=>sp E (cl E rfl underlying3 underlying5 rfl) rfl λa E=>qM E rfl λa E=>qB E rfl rfl (kg rfl (by decide)) λa E=>sp E (cl E rfl underlying3 underlying5 rfl) rfl λa E=>qM E rfl λa E=>sp E (cl E rfl underlying3 underlying5 rfl) rfl λa E=>?_
 refine st E (fC (k:=(ai .u8)) (xs:=[Z4.wrap (ay .i64 p1 24),Z4.wrap (ay .i64 p1 16),Z4.wrap (ay .i64 p1 8),Z4.wrap p1]) (vs:=[(.int .u8 (Z4.wrap (ay .i64 p1 24))),(.int .u8 (Z4.wrap (ay .i64 p1 16))),(.int .u8 (Z4.wrap (ay .i64 p1 8))),(.int .u8 (Z4.wrap p1))]) E (hS.void 0) rfl underlying24 sizeOf5 zeroValue5 ⟨(aq (ak _ _)),(aq (ak _ _)),(aq (ak _ _)),(aq (ak _ _)),trivial⟩ rfl (by decide)) rfl ?_;rintro v17 a w ⟨m15,hm16,hS,hv14⟩ E;obtain⟨z18,hz19,h⟩:=ob h
 refine st E (rj (k:=(ai .u8)) (N:=140737488355328) E hS rfl rfl underlying24 el5 (i:=1) rfl (ha0.mono hm16) (ql hS underlying24 hv14) hz19 rfl rfl) rfl ?_;rintro v26 a w ⟨b23,cs24,hc25,hS⟩ E;refine qA E rfl λa E=>ag (bA ?_);obtain rfl:=oi h
 try dsimp only
 refine f1 E ?_;exact⟨_,hm16,b23,cs24,((hS.pickL 2 [1] rfl rfl rfl).dropT 1),hc25⟩
theorem AZ  {b0_:Nat} {c0_:List Value} (hS:S W0 m w ((b0_,c0_)::L) (TL)) {p0} (ha0:GS (ai .u8) m b0_ c0_ v0 p0) {r} (h:o6 p0=some r):
    Calls prog 78 [v0].toArray w (Ret λv w'=>∃m',M.le m m'∧∃q0_:List Value,S W0 m' w' ((b0_,q0_)::L) (TL)∧GS (ai .u8) m' b0_ q0_ v0 r.2∧RV (ai .u32) m' v r.1):=by
 refine kc func78 ntmps78 λa E=>?_;have E:Env 54 a [(0,v0)]:=E;unfold o6 at h;refine ae (ah (qA E rfl λa E=>ag (ae (ah ?_))));refine st E (dS hS zeroValue177 rfl (cs:=F4)) rfl ?_;rintro _ a w ⟨b2,rfl,hS⟩ E;refine ag (ae (ae (ah (qM E rfl λa E=>ag ?_))));refine bw (λa w=>∃x7:(List Int),lZ p0 x7=some r∧∃m',M.le m m'∧∃(cs8:List Value),GS (ai .u32) m' b2 cs8 (.slice (some ⟨b2,0,none⟩) 16 16) x7∧S W0 m' w ((b2,cs8)::(b0_,c0_)::L) (TL)∧Env 54 a [(0,v0),(3,pz b2)]) ?_ ?_
 {
 refine aJ ?_;refine cH h (λ(s:Int×List Int) a w=>∃m',M.le m m'∧∃(cs82:List Value),inR .i64 s.1∧GS (ai .u32) m' b2 cs82 (.slice (some ⟨b2,0,none⟩) 16 16) s.2∧S W0 m' w ((b2,cs82)::(b0_,c0_)::L) (TL)∧Env 54 a [(0,v0),(3,pz b2),(9,.int .i64 s.1)]) ?_ ?_
 {exact⟨_,(Z3 _),F4,(show inR .i64 0 from aw (by decide)),(PQ _ _),hS,kut E⟩}
 {
 rintro ⟨x79,x81⟩ a w ⟨m77,hm78,cs82,hr80,hc83,hS,E⟩ r84 h hb85;have h:iy p0 x79 x81=some r84:=h;unfold iy at h;refine ae (ah (qB E rfl rfl bn λa E=>ag (ae (kif E rfl (λhd87=>?_) (λhd87=>?_)))))
 {
 have h:=aA hd87 h;refine aQ (ae ?_);refine bw (λa w=>∃x90:(List Int),l5 x79 x90=some r84∧∃m',M.le m77 m'∧∃(cs91:List Value),GS (ai .u32) m' b2 cs91 (.slice (some ⟨b2,0,none⟩) 16 16) x90∧S W0 m' w ((b2,cs91)::(b0_,c0_)::L) (TL)∧Env 54 a [(0,v0),(3,pz b2),(9,.int .i64 x79)]) ?_ ?_
 {
 refine aJ (ae (ah (qM E rfl λa E=>qA E rfl λa E=>ag (ae (ah (qM E rfl λa E=>sp E (cl E rfl underlying3 underlying55 rfl) rfl λa E=>?_))))));refine qA E rfl λa E=>ag (ae (ae (ah (qM E rfl λa E=>ag ?_))));refine bw (λa w=>∃x104:Int,l6 x79 x81 x104=some r84∧∃m',M.le m77 m'∧inR .u32 x104∧S W0 m' w ((b2,cs82)::(b0_,c0_)::L) (TL)∧Env 54 a [(0,v0),(3,pz b2),(4,.int .i64 x79),(5,.int .u32 x104),(9,.int .i64 x79)]) ?_ ?_
 {
 refine aJ ?_;refine cH h (λ(s:Int×Int) a w=>∃m',M.le m77 m'∧inR .u32 s.1∧inR .i64 s.2∧S W0 m' w ((b2,cs82)::(b0_,c0_)::L) (TL)∧Env 54 a [(0,v0),(3,pz b2),(4,.int .i64 x79),(5,.int .u32 s.1),(9,.int .i64 x79),(14,.int .i64 s.2)]) ?_ ?_
 {exact⟨_,(Z3 _),(ak _ _),(show inR .i64 0 from aw (by decide)),hS,kut E⟩}
 {
 rintro ⟨x119,x121⟩ a w ⟨m117,hm118,hr120,hr122,hS,E⟩ r123 h hb124;have h:iw x79 x81 x119 x121=some r123:=h;unfold iw at h;refine ae (ah (qB E rfl rfl bn λa E=>ag (ae (kif E rfl (λhd126=>?_) (λhd126=>?_)))))
 {have h:=aA hd126 h;refine aQ (ae (aJ (ah (qM E rfl λa E=>qB E rfl rfl (kg rfl (by decide)) λa E=>qM E rfl λa E=>qB E rfl rfl (xb rfl) λa E=>qB E rfl rfl (oI rfl) λa E=>qB E rfl rfl (xc rfl) λa E=>?_))));refine qA E rfl λa E=>ag (ah (qB E rfl rfl (be rfl) λa E=>qM E rfl λa E=>ag ?_));exact⟨(cx .u32 (ay .u32 x119 1) (Z6.wrap (3988292384*(cL .u32 x119 1))),Z2.wrap (x121+1)),(Option.some.inj h).symm,_,hm118,(w9 _ _ _),(ak _ _),hS,kut E⟩}
 {have h:=aB hd126 h;refine cC rfl rfl ?_;have h:=bE h hb124;exact⟨x119,h,_,hm118,hr120,hS,kut E⟩}}}
 {rintro a w ⟨x104,h,m102,hm103,hr105,hS,E⟩;unfold l6 at h;refine ah (qM E rfl λa E=>qM E rfl λa E=>?_);obtain⟨j109,hj110,h⟩:=ob h;refine sp E (rz (k:=(ai .u32)) E rfl rfl underlying177 sizeOf55 (GS.arr_len (hc83.mono hm103)) hj110 rfl) rfl λa E=>?_;obtain⟨x114,hx115,h⟩:=ob h;refine st0 E (ef (k:=(ai .u32)) E hS AT bm (hc83.mono hm103) hx115 rfl rfl (aq hr105) (i:=0) rfl) ?_;rintro _ w ⟨cs112,hc113,hS⟩ E;refine ag ?_;exact⟨(x81.set j109 x104),h,_,hm103,cs112,hc113,hS,kut E⟩}}
 {rintro a w ⟨x90,h,m88,hm89,cs91,hc92,hS,E⟩;unfold l5 at h;refine ah (qB E rfl rfl (be rfl) λa E=>qM E rfl λa E=>ag ?_);exact⟨(Z2.wrap (x79+1),x90),(Option.some.inj h).symm,_,(Z0 hm78 hm89),cs91,(ak _ _),hc92,hS,kut E⟩}}
 {have h:=aB hd87 h;refine cC rfl rfl ?_;have h:=bE h hb85;exact⟨x81,h,_,hm78,cs82,hc83,hS,kut E⟩}}}
 {
 rintro a w ⟨x7,h,m5,hm6,cs8,hc9,hS,E⟩;unfold lZ at h;refine ae (ah (qA E rfl λa E=>ag (ae (ae (ah (qM E rfl λa E=>sp E (mb (k:=(ai .u8)) E rfl rfl underlying24 (ha0.mono hm6)) rfl λa E=>qM E rfl λa E=>?_))))));refine ag ?_;refine bw (λa w=>∃x17:Int,o5 p0 x17=some r∧∃m',M.le m5 m'∧inR .u32 x17∧S W0 m' w ((b2,cs8)::(b0_,c0_)::L) (TL)∧Env 54 a [(6,.int .u32 x17)]) ?_ ?_
 {
 refine aJ ?_;refine cH h (λ(s:Int×Int) a w=>∃m',M.le m5 m'∧inR .u32 s.1∧inR .i64 s.2∧S W0 m' w ((b2,cs8)::(b0_,c0_)::L) (TL)∧Env 54 a [(3,pz b2),(6,.int .u32 s.1),(27,v0),(28,.int .i64 (p0.length:Int)),(29,.int .i64 s.2)]) ?_ ?_
 {exact⟨_,(Z3 _),(show inR .u32 4294967295 from aw (by decide)),(show inR .i64 0 from aw (by decide)),hS,kut E⟩}
 {
 rintro ⟨x25,x27⟩ a w ⟨m23,hm24,hr26,hr28,hS,E⟩ r29 h hb30;have h:iv p0 x7 x25 x27=some r29:=h;unfold iv at h;refine ae (ah (qB E rfl rfl bn λa E=>ag (ae (kif E rfl (λhd32=>?_) (λhd32=>?_)))))
 {
 have h:=aA hd32 h;refine aQ (ae (aJ (ae (ah ?_))));obtain⟨j33,hj34,h⟩:=ob h;refine sp E (br (k:=(ai .u8)) E rfl rfl underlying24 sizeOf5 (ha0.mono (Z0 hm6 hm24)) hj34 rfl) rfl λa E=>?_;obtain⟨x37,hx38,h⟩:=ob h;refine st E (aC E hS ty5 rfl (i:=1) rfl (GS.elem (ha0.mono (Z0 hm6 hm24)) hx38)) rfl ?_;rintro v39 a _ ⟨rfl,hv36⟩ E;obtain⟨rfl,hr40⟩:=aG hv36;refine qA E rfl λa E=>ag (ae (ah (qM E rfl λa E=>qM E rfl λa E=>sp E (cl E rfl underlying5 underlying55 rfl) rfl λa E=>qB E rfl rfl (xc rfl) λa E=>qA E rfl λa E=>ag ?_)))
 refine ae (ah (qM E rfl λa E=>qB E rfl rfl (xb rfl) λa E=>?_));obtain⟨j49,hj50,h⟩:=ob h;refine sp E (rz (k:=(ai .u32)) E rfl rfl underlying177 sizeOf55 (GS.arr_len (hc9.mono hm24)) hj50 rfl) rfl λa E=>?_;obtain⟨x53,hx54,h⟩:=ob h;refine st E (aC E hS AT rfl (i:=0) rfl (GS.elem (hc9.mono hm24) hx54)) rfl ?_;rintro v55 a _ ⟨rfl,hv52⟩ E;obtain⟨rfl,hr56⟩:=aG hv52;refine qM E rfl λa E=>qB E rfl rfl (kg rfl (by decide)) λa E=>qB E rfl rfl (xc rfl) λa E=>qA E rfl λa E=>ag (ah (qM E rfl λa E=>qB E rfl rfl (xb rfl) λa E=>?_));obtain⟨j63,hj64,h⟩:=ob h
 refine sp E (rz (k:=(ai .u32)) E rfl rfl underlying177 sizeOf55 (GS.arr_len (hc9.mono hm24)) hj64 rfl) rfl λa E=>?_;obtain⟨x67,hx68,h⟩:=ob h;refine st E (aC E hS AT rfl (i:=0) rfl (GS.elem (hc9.mono hm24) hx68)) rfl ?_;rintro v69 a _ ⟨rfl,hv66⟩ E;obtain⟨rfl,hr70⟩:=aG hv66;refine qM E rfl λa E=>qB E rfl rfl (kg rfl (by decide)) λa E=>qB E rfl rfl (xc rfl) λa E=>qA E rfl λa E=>ag (ah (qB E rfl rfl (be rfl) λa E=>qM E rfl λa E=>ag ?_))
 exact⟨(cx .u32 x67 (ay .u32 (cx .u32 x53 (ay .u32 (cx .u32 x25 (Z6.wrap x37)) 4)) 4),Z2.wrap (x27+1)),(Option.some.inj h).symm,_,hm24,(w9 _ _ _),(ak _ _),hS,kut E⟩}
 {have h:=aB hd32 h;refine cC rfl rfl ?_;have h:=bE h hb30;exact⟨x25,h,_,hm24,hr26,hS,kut E⟩}}}
 {
 rintro a w ⟨x17,h,m15,hm16,hr18,hS,E⟩;unfold o5 at h;refine ae (ah (qM E rfl λa E=>sp E (JA E rfl rfl) rfl λa E=>qA E rfl λa E=>ag (bA ?_)));obtain rfl:=oi h
 try dsimp only
 refine f1 E ?_;exact⟨_,(Z0 hm6 hm16),c0_,(hS.pickL 2 [1] rfl rfl rfl),(ha0.mono (Z0 hm6 hm16)),(aq (Ec _ _))⟩}}
theorem xF  (hS:S W0 m w L TL) {p0} (ha0:inR .i64 p0) {p1} (ha1:RV (kSl (ai .i64)) m v1 p1) {p2} (ha2:RV (kSl (ai .i64)) m v2 p2) {p3} (ha3:RV (kSl ab) m v3 p3) {r} (h:jQ p0 p1 p2 p3=some r):
    Calls prog 31 [(.int .i64 p0),v1,v2,v3].toArray w (Ret λv w'=>∃m',M.le m m'∧∃bq_:Nat,∃cq_:List Value,S W0 m' w' ((bq_,cq_)::L) (TL)∧∃v0_ v1_:Value,v= .tuple #[v0_,v1_]∧GS (ai .u8) m' bq_ cq_ v0_ r.1∧RV (ai .i64) m' v1_ r.2):=by
 refine kc func31 ntmps31 λa E=>?_;have E:Env 88 a [(0,.int .i64 p0),(1,v1),(2,v2),(3,v3)]:=E;unfold jQ at h;refine ae (ah (qA E rfl λa E=>qA E rfl λa E=>ag (ae (ah (qM E rfl λa E=>qM E rfl λa E=>qM E rfl λa E=>?_)))));obtain⟨r6,hr7,h⟩:=ob h;refine st E (aF (vs:=[(.int .i64 p0),v1,v3]) E rfl call74 (iQ (hS:=(hS.void 0)) ha0 ha1 ha3 hr7)) rfl ?_;rintro v11 a w ⟨m8,hm9,hS,hv10⟩ E;obtain⟨rfl,hr12⟩:=aG hv10;refine qA E rfl λa E=>ag (ae (ae (ah (qM E rfl λa E=>qB E rfl rfl lS λa E=>ag (kif E rfl (λhd16=>?_) (λhd16=>?_))))))
 {
 have h:=aA hd16 h;refine ae (ah (qM E rfl λa E=>qA E rfl λa E=>qA E rfl λa E=>ag (bA ?_)));obtain rfl:=oi h
 try dsimp only
 refine f2 E ?_;exact⟨_,hm9,0,[],((hS.void 0).pickL 2 [0] rfl rfl rfl),_,_,rfl,GS.void,(aq hr12)⟩}
 {
 have h:=aB hd16 h;refine aQ (ae (ah (qM E rfl λa E=>qM E rfl λa E=>?_)));obtain⟨r22,hr23,h⟩:=ob h;refine st E (aF (vs:=[v1,v3]) E rfl call27 (ol (hS:=hS) (ha1.mono hm9) (ha3.mono hm9) hr23)) rfl ?_;rintro v27 a w ⟨m24,hm25,hS,hv26⟩ E;refine qA E rfl λa E=>ag (ae (ah ?_))
 refine st E (Ek (k:=(ai .u8)) (xs:=[72,65,89,49]) (vs:=[(.int .u8 72),(.int .u8 65),(.int .u8 89),(.int .u8 49)]) E hS rfl underlying24 sizeOf5 zeroValue5 ⟨(aq (show inR .u8 72 from aw (by decide))),(aq (show inR .u8 65 from aw (by decide))),(aq (show inR .u8 89 from aw (by decide))),(aq (show inR .u8 49 from aw (by decide))),trivial⟩ rfl (by decide)) rfl ?_;rintro v36 a w ⟨m30,hm31,hS,hv29,b32,_,he33,hB34,hm35⟩ E;refine st E (Cy E hS rfl underlying24 underlying5 he33 hB34 hm35 (i:=0) rfl) rfl ?_;rintro v37 a _ ⟨rfl,hS⟩ E
 refine qM E rfl λa E=>sp E (cl E rfl underlying3 underlying5 rfl) rfl λa E=>qM E rfl λa E=>sp E (bd (k:=(ai .i64)) E rfl rfl underlying49 (ha1.mono (Z0 hm9 (Z0 hm25 hm31)))) rfl λa E=>sp E (cl E rfl underlying3 underlying5 rfl) rfl λa E=>?_;refine st E (fC (k:=(ai .u8)) (xs:=[Z4.wrap p0,Z4.wrap (p1.length:Int)]) (vs:=[(.int .u8 (Z4.wrap p0)),(.int .u8 (Z4.wrap (p1.length:Int)))]) E hS rfl underlying24 sizeOf5 zeroValue5 ⟨(aq (ak _ _)),(aq (ak _ _)),trivial⟩ rfl (by decide)) rfl ?_;rintro v46 a w ⟨m44,hm45,hS,hv43⟩ E;obtain⟨z47,hz48,h⟩:=ob h
 refine st E (Ke (k:=(ai .u8)) (N:=140737488355328) (ys:=[Z4.wrap p0,Z4.wrap (p1.length:Int)]) E hS rfl rfl underlying24 el5 he33 (hv29.mono hm45) (Nat.succ_pos _) (ql hS underlying24 hv43) hz48 rfl rfl) rfl ?_;rintro v55 a w ⟨b52,cs53,hc54,hS⟩ E;refine qA E rfl λa E=>ag (ae (ae (ah (qM E rfl λa E=>sp E (bd (k:=(ai .i64)) E rfl rfl underlying49 (ha1.mono (Z0 hm9 (Z0 hm25 (Z0 hm31 hm45))))) rfl λa E=>qM E rfl λa E=>ag ?_))))
 refine bw (λa w=>∃x62:(List Int),fP p0 p2 r22 x62=some r∧∃m',M.le m44 m'∧∃(cs63:List Value),∃(b65:Nat),∃(v66:Value),GS (ai .u8) m' b65 cs63 v66 x62∧S W0 m' w ((b65,cs63)::(0,[])::L) (TL)∧Env 88 a [(0,.int .i64 p0),(2,v2),(3,v27),(11,v66)]) ?_ ?_
 {
 refine aJ ?_;refine cH h (λ(s:Int×List Int) a w=>∃m',M.le m44 m'∧∃(cs209:List Value),∃(b211:Nat),∃(v212:Value),inR .i64 s.1∧GS (ai .u8) m' b211 cs209 v212 s.2∧S W0 m' w ((b211,cs209)::(0,[])::L) (TL)∧Env 88 a [(0,.int .i64 p0),(2,v2),(3,v27),(11,v212),(36,v1),(37,.int .i64 (p1.length:Int)),(38,.int .i64 s.1)]) ?_ ?_
 {exact⟨_,(Z3 _),cs53,b52,v55,(show inR .i64 0 from aw (by decide)),hc54,(hS.pickT 2 [] rfl rfl rfl),kut E⟩}
 {
 rintro ⟨x206,x208⟩ a w ⟨m204,hm205,cs209,b211,v212,hr207,hc210,hS,E⟩ r213 h hb214;have h:fQ p0 p1 p2 r22 x206 x208=some r213:=h;unfold fQ at h;refine ae (ah (qB E rfl rfl bn λa E=>ag (ae (kif E rfl (λhd216=>?_) (λhd216=>?_)))))
 {
 have h:=aA hd216 h;refine aQ (ae (aJ (ae (ah ?_))));obtain⟨x217,hx218,h⟩:=ob h;refine st E (dT (k:=(ai .i64)) E rfl rfl underlying49 sizeOf3 (ha1.mono (Z0 hm9 (Z0 hm25 (Z0 hm31 (Z0 hm45 hm205))))) hx218) rfl ?_;rintro v220 a _ ⟨rfl,hp219⟩ E;refine st E (bG E hS ty3 rfl hp219) rfl ?_;rintro v222 a _ ⟨rfl,hv221⟩ E;obtain⟨rfl,hr223⟩:=aG hv221;refine qA E rfl λa E=>ag (ah (qM E rfl λa E=>qM E rfl λa E=>sp E (cl E rfl underlying3 underlying5 rfl) rfl λa E=>?_))
 refine st E (fC (k:=(ai .u8)) (xs:=[Z4.wrap x217]) (vs:=[(.int .u8 (Z4.wrap x217))]) E hS rfl underlying24 sizeOf5 zeroValue5 ⟨(aq (ak _ _)),trivial⟩ rfl (by decide)) rfl ?_;rintro v231 a w ⟨m229,hm230,hS,hv228⟩ E;obtain⟨z232,hz233,h⟩:=ob h;refine st E (rj (k:=(ai .u8)) (N:=140737488355328) E hS rfl rfl underlying24 el5 (i:=0) rfl (hc210.mono hm230) (ql hS underlying24 hv228) hz233 rfl rfl) rfl ?_;rintro v240 a w ⟨b237,cs238,hc239,hS⟩ E;refine qA E rfl λa E=>ag (ah (qB E rfl rfl (be rfl) λa E=>qM E rfl λa E=>ag ?_))
 exact⟨(Z2.wrap (x206+1),z232),(Option.some.inj h).symm,_,(Z0 hm205 hm230),cs238,b237,v240,(ak _ _),hc239,(hS.pickT 1 [] rfl rfl rfl),kut E⟩}
 {have h:=aB hd216 h;refine cC rfl rfl ?_;have h:=bE h hb214;exact⟨x208,h,_,hm205,cs209,b211,v212,hc210,hS,kut E⟩}}}
 {
 rintro a w ⟨x62,h,m60,hm61,cs63,b65,v66,hc64,hS,E⟩;unfold fP at h;refine ae (ah (qM E rfl λa E=>qM E rfl λa E=>sp E (bd (k:=ab) E rfl rfl underlying50 (hv26.mono (Z0 hm31 (Z0 hm45 hm61)))) rfl λa E=>?_));obtain⟨r71,hr72,h⟩:=ob h;refine st E (aF (vs:=[v66,(.int .i64 (r22.length:Int))]) E rfl call75 (om (hS:=hS) hc64 (dK (iH (hv26.mono (Z0 hm31 (Z0 hm45 hm61))))) hr72)) rfl ?_;rintro v79 a w ⟨m73,hm74,b75,cs76,hS,hc77⟩ E;refine qA E rfl λa E=>ag (ae (ae (ah (qM E rfl λa E=>qB E rfl rfl (be rfl) λa E=>qM E rfl λa E=>ag ?_))))
 refine bw (λa w=>∃x86:(List Int),fK x86=some r∧∃m',M.le m73 m'∧∃(cs87:List Value),∃(b89:Nat),∃(v90:Value),GS (ai .u8) m' b89 cs87 v90 x86∧S W0 m' w ((b89,cs87)::(0,[])::L) (TL)∧Env 88 a [(11,v90)]) ?_ ?_
 {
 refine aJ ?_;refine cH h (λ(s:Int×List Int) a w=>∃m',M.le m73 m'∧∃(cs120:List Value),∃(b122:Nat),∃(v123:Value),inR .i64 s.1∧GS (ai .u8) m' b122 cs120 v123 s.2∧S W0 m' w ((b122,cs120)::(0,[])::L) (TL)∧Env 88 a [(0,.int .i64 p0),(2,v2),(3,v27),(11,v123),(53,.int .i64 (Z2.wrap (p0+3))),(54,.int .i64 s.1)]) ?_ ?_
 {exact⟨_,(Z3 _),cs76,b75,v79,(show inR .i64 0 from aw (by decide)),hc77,hS,kut E⟩}
 {
 rintro ⟨x117,x119⟩ a w ⟨m115,hm116,cs120,b122,v123,hr118,hc121,hS,E⟩ r124 h hb125;have h:fO p0 p2 r22 x117 x119=some r124:=h;unfold fO at h;refine ae (ah (qB E rfl rfl bn λa E=>ag (ae (kif E rfl (λhd127=>?_) (λhd127=>?_)))))
 {
 have h:=aA hd127 h;refine aQ (ae (aJ (ae (ah (qM E rfl λa E=>qA E rfl λa E=>ag (ae (ah ?_)))))));refine qA E rfl λa E=>ag (ae (ae ?_));refine bw (λa w=>∃x133:Bool,fN p0 p2 r22 x117 x119 x133=some r124∧∃m',M.le m115 m'∧S W0 m' w ((b122,cs120)::(0,[])::L) (TL)∧Env 88 a [(0,.int .i64 p0),(2,v2),(3,v27),(11,v123),(14,.int .i64 x117),(15,.int .i64 (-1)),(53,.int .i64 (Z2.wrap (p0+3))),(54,.int .i64 x117),(65,.bool x133)]) ?_ ?_
 {
 refine ah (qM E rfl λa E=>qM E rfl λa E=>qB E rfl rfl bn λa E=>qM E rfl λa E=>?_);rcases Z1 (decide (x117<p0)) with hd197|hd197
 {have h:=aA hd197 h;refine qG E hd197 rfl λa E=>qG E hd197 rfl λa E=>spg E rfl rfl rfl rfl hd197 (bd (k:=(ai .i64)) E rfl rfl underlying49 (ha2.mono (Z0 hm9 (Z0 hm25 (Z0 hm31 (Z0 hm45 (Z0 hm61 (Z0 hm74 hm116)))))))) rfl λa E=>spg E rfl rfl rfl rfl hd197 (aP E rfl rfl bn) rfl λa E=>qT E hd197 rfl λa E=>ag ?_;exact⟨(decide (x117<(p2.length:Int))),h,_,(Z3 _),hS,kut E⟩}
 {have h:=aB hd197 h;refine qX E hd197 λa E=>qX E hd197 λa E=>qX E hd197 λa E=>qX E hd197 λa E=>qF E hd197 rfl λa E=>ag ?_;exact⟨false,h,_,(Z3 _),hS,kut E⟩}}
 {
 rintro a w ⟨x133,h,m131,hm132,hS,E⟩;unfold fN at h;refine bw (λa w=>∃x137:Int,fM p0 r22 x117 x119 x137=some r124∧∃m',M.le m131 m'∧inR .i64 x137∧S W0 m' w ((b122,cs120)::(0,[])::L) (TL)∧Env 88 a [(0,.int .i64 p0),(2,v2),(3,v27),(11,v123),(14,.int .i64 x117),(15,.int .i64 x137),(53,.int .i64 (Z2.wrap (p0+3))),(54,.int .i64 x117)]) ?_ ?_
 {
 refine kif E rfl (λhd182=>?_) (λhd182=>?_)
 {have h:=aA hd182 h;refine ah (qM E rfl λa E=>qM E rfl λa E=>?_);obtain⟨x185,hx186,h⟩:=ob h;refine st E (dT (k:=(ai .i64)) E rfl rfl underlying49 sizeOf3 (ha2.mono (Z0 hm9 (Z0 hm25 (Z0 hm31 (Z0 hm45 (Z0 hm61 (Z0 hm74 (Z0 hm116 hm132)))))))) hx186) rfl ?_;rintro v188 a _ ⟨rfl,hp187⟩ E;refine st E (bG E hS ty3 rfl hp187) rfl ?_;rintro v190 a _ ⟨rfl,hv189⟩ E;obtain⟨rfl,hr191⟩:=aG hv189;refine qA E rfl λa E=>ag ?_;exact⟨x185,h,_,(Z3 _),hr191,hS,kut E⟩}
 {have h:=aB hd182 h;refine aQ ?_;exact⟨(-1),h,_,(Z3 _),(show inR .i64 (-1) from aw (by decide)),hS,kut E⟩}}
 {
 rintro a w ⟨x137,h,m135,hm136,hr138,hS,E⟩;unfold fM at h;refine ae (ah (qM E rfl λa E=>qM E rfl λa E=>qM E rfl λa E=>qM E rfl λa E=>?_));obtain⟨r144,hr145,h⟩:=ob h;refine st E (aF (vs:=[(.int .i64 p0),(.int .i64 x117),v27]) E rfl call77 (si (hS:=hS) ha0 hr118 (hv26.mono (Z0 hm31 (Z0 hm45 (Z0 hm61 (Z0 hm74 (Z0 hm116 (Z0 hm132 hm136))))))) hr145)) rfl ?_;rintro v149 a w ⟨m146,hm147,hS,hv148⟩ E;obtain⟨r150,hr151,h⟩:=ob h;refine st E (aF (vs:=[(.int .i64 x137),v149]) E rfl call76 (sk (hS:=hS) hr138 hv148 hr151)) rfl ?_;rintro v155 a w ⟨m152,hm153,hS,hv154⟩ E
 refine qA E rfl λa E=>ag (ah (qM E rfl λa E=>qM E rfl λa E=>sp E (bd (k:=(ai .u8)) E rfl rfl underlying24 hv154) rfl λa E=>?_));obtain⟨r160,hr161,h⟩:=ob h;refine st E (aF (vs:=[v123,(.int .i64 (r150.length:Int))]) E rfl call75 (om (hS:=hS) (hc121.mono (Z0 hm132 (Z0 hm136 (Z0 hm147 hm153)))) (dK (iH hv154)) hr161)) rfl ?_;rintro v168 a w ⟨m162,hm163,b164,cs165,hS,hc166⟩ E;refine qM E rfl λa E=>?_;obtain⟨z170,hz171,h⟩:=ob h
 refine st E (rj (k:=(ai .u8)) (N:=140737488355328) E hS rfl rfl underlying24 el5 (i:=0) rfl hc166 (ql hS underlying24 (hv154.mono hm163)) hz171 rfl rfl) rfl ?_;rintro v178 a w ⟨b175,cs176,hc177,hS⟩ E;refine qA E rfl λa E=>ag (ah (qB E rfl rfl (be rfl) λa E=>qM E rfl λa E=>ag ?_));exact⟨(Z2.wrap (x117+1),z170),(Option.some.inj h).symm,_,(Z0 hm116 (Z0 hm132 (Z0 hm136 (Z0 hm147 (Z0 hm153 hm163))))),cs176,b175,v178,(ak _ _),hc177,(hS.pickT 2 [] rfl rfl rfl),kut E⟩}}}
 {have h:=aB hd127 h;refine cC rfl rfl ?_;have h:=bE h hb125;exact⟨x119,h,_,hm116,cs120,b122,v123,hc121,hS,kut E⟩}}}
 {
 rintro a w ⟨x86,h,m84,hm85,cs87,b89,v90,hc88,hS,E⟩;unfold fK at h;refine ae (ah (qM E rfl λa E=>qM E rfl λa E=>?_));obtain⟨r94,hr95,h⟩:=ob h;refine st E (aF (vs:=[v90]) E rfl call78 (AZ (hS:=hS) hc88 hr95)) rfl ?_;rintro v101 a w ⟨m96,hm97,c0_98,hS,hc0_99,hv100⟩ E;obtain⟨rfl,hr102⟩:=aG hv100;refine sp E (cl E rfl underlying55 underlying3 rfl) rfl λa E=>?_;obtain⟨r104,hr105,h⟩:=ob h;refine st E (aF (vs:=[v90,(.int .i64 (Z2.wrap r94.1))]) E rfl call75 (om (hS:=hS) hc0_99 (ak _ _) hr105)) rfl ?_;rintro v112 a w ⟨m106,hm107,b108,cs109,hS,hc110⟩ E
 refine qA E rfl λa E=>qA E rfl λa E=>ag (bA ?_);obtain rfl:=oi h
 try dsimp only
 refine f2 E ?_;exact⟨_,(Z0 hm9 (Z0 hm25 (Z0 hm31 (Z0 hm45 (Z0 hm61 (Z0 hm74 (Z0 hm85 (Z0 hm97 hm107)))))))),b108,cs109,(hS.pickL 2 [0] rfl rfl rfl),_,_,rfl,hc110,(aq (show inR .i64 0 from aw (by decide)))⟩}}}
theorem w6  (hS:S W0 m w L TL) {p0} (ha0:RV bR m v0 p0) {p1} (ha1:inR .i64 p1) {r} (h:lg p0 p1=some r):
    Calls prog 8 [v0,(.int .i64 p1)].toArray w (Ret λv w'=>∃m',M.le m m'∧S W0 m' w' L TL∧RV cO m' v r):=by
 refine kc func8 ntmps8 λa E=>?_;have E:Env 62 a [(0,v0),(1,.int .i64 p1)]:=E;unfold lg at h;refine ae (ah ?_);refine st E (kq (k:=bR) E hS rfl ha0) rfl ?_;rintro _ a w ⟨b1,cs2,rfl,hc3,hS⟩ E;refine qA E rfl λa E=>ag (ae (ah (sp E (aM E HK rfl) rfl λa E=>?_)));refine st E (aC E hS ty3 rfl (i:=0) rfl (MQ.R_drop (aR hc3))) rfl ?_;rintro v8 a _ ⟨rfl,hv7⟩ E;obtain⟨rfl,hr9⟩:=aG hv7;refine sp E (aM E HL rfl) rfl λa E=>?_;refine st E (aC E hS tL rfl (i:=0) rfl (MS.R_drop (aR hc3))) rfl ?_;rintro v12 a _ ⟨rfl,hv11⟩ E;refine sp E (aM E HM rfl) rfl λa E=>?_
 refine st E (aC E hS tL rfl (i:=0) rfl (MU.R_drop (aR hc3))) rfl ?_;rintro v15 a _ ⟨rfl,hv14⟩ E;refine sp E (aM E HJ rfl) rfl λa E=>?_;refine st E (aC E hS AU rfl (i:=0) rfl (MW.R_drop (aR hc3))) rfl ?_;rintro v18 a _ ⟨rfl,hv17⟩ E;obtain⟨r19,hr20,h⟩:=ob h;refine st E (aF (vs:=[(.int .i64 p0.fColumns),v12,v15,v18]) E rfl call31 (xF (hS:=hS) hr9 hv11 hv14 hv17 hr20)) rfl ?_;rintro _ a w ⟨m21,hm22,b23,cs24,hS,v0_26,v1_27,rfl,hc25,hv1_29⟩ E;obtain⟨rfl,hr31⟩:=aG hv1_29
 refine qM E rfl λa E=>sp E (bM E rfl rfl) rfl λa E=>sp E (bM E rfl rfl) rfl λa E=>qA E rfl λa E=>qA E rfl λa E=>ag (ae (ae ?_));refine bw (λa w=>∃x39:Bool,c8 p1 r19 x39=some r∧∃m',M.le m21 m'∧S W0 m' w ((b23,cs24)::(b1,cs2)::L) (TL)∧Env 62 a [(1,.int .i64 p1),(5,v0_26),(33,.bool x39)]) ?_ ?_
 {
 refine ah (qM E rfl λa E=>qB E rfl rfl lS λa E=>qM E rfl λa E=>?_);rcases Z1 (r19.2 != 0) with hd180|hd180
 {have h:=aA hd180 h;refine qX E hd180 λa E=>qX E hd180 λa E=>qT E hd180 rfl λa E=>qM E rfl λa E=>qX E rfl λa E=>qX E rfl λa E=>qX E rfl λa E=>qX E rfl λa E=>qX E rfl λa E=>qT E rfl rfl λa E=>?_;refine ag ?_;exact⟨true,h,_,(Z3 _),hS,kut E⟩}
 {
 have h:=aB hd180 h;refine qG E hd180 rfl λa E=>spg E rfl rfl rfl rfl hd180 (aP E rfl rfl bn) rfl λa E=>qF E hd180 rfl λa E=>qM E rfl λa E=>?_;rcases Z1 (decide (p1<0)) with hd188|hd188
 {have h:=aA hd188 h;refine qX E hd188 λa E=>qX E hd188 λa E=>qX E hd188 λa E=>qX E hd188 λa E=>qX E hd188 λa E=>qT E hd188 rfl λa E=>ag ?_;exact⟨true,h,_,(Z3 _),hS,kut E⟩}
 {have h:=aB hd188 h;refine qG E hd188 rfl λa E=>qG E hd188 rfl λa E=>spg E rfl rfl rfl rfl hd188 (mb (k:=(ai .u8)) E rfl rfl underlying24 hc25) rfl λa E=>spg E rfl rfl rfl rfl hd188 (aP E rfl rfl (oI rfl)) rfl λa E=>spg E rfl rfl rfl rfl hd188 (aP E rfl rfl yT) rfl λa E=>qF E hd188 rfl λa E=>ag ?_;exact⟨(decide ((Z2.wrap (8*(r19.1.length:Int)))≤p1)),h,_,(Z3 _),hS,kut E⟩}}}
 {
 rintro a w ⟨x39,h,m37,hm38,hS,E⟩;unfold c8 at h;refine kif E rfl (λhd41=>?_) (λhd41=>?_)
 {
 have h:=aA hd41 h;refine ae (ah ?_);obtain⟨r42,hr43,h⟩:=ob h;refine st E (aF (vs:=[]) E rfl call29 (zW (hS:=hS) hr43)) rfl ?_;rintro v47 a w ⟨m44,hm45,hS,hv46⟩ E;obtain rfl:=eQ hv46;refine qA E rfl λa E=>ag (bA ?_);obtain rfl:=oi h
 try dsimp only
 refine f1 E ?_;exact⟨_,(Z0 hm22 (Z0 hm38 hm45)),(hS.dropL 2),dt⟩}
 {
 have h:=aB hd41 h;refine aQ (ae ?_);obtain⟨j49,hj50,x52,hx53,h⟩:=ob2 h;obtain⟨u55,hu56,h⟩:=ob h
 refine kch (k:=12) (m:=m37) (es:=[]) (Φ:=(λi m ws v=>match i with|0=>v=v0_26|1=>ei .i64 p1 v|2=>ei .i64 (Z2.wrap (p1.tdiv 8)) v|3=>v=v0_26|4=>ei .i64 p1 v|5=>ei .i64 (Z2.wrap (p1.tdiv 8)) v|6=>v=(.pointer (some ⟨b23,j49*1,none⟩))|7=>ei .u8 x52 v|8=>ei .i64 p1 v|9=>ei .i64 (p1.tmod 8) v|10=>ei .u8 (dx .u8 1 (p1.tmod 8)) v|11=>ei .u8 (cx .u8 x52 (dx .u8 1 (p1.tmod 8))) v|_=>True)) (Q:=(λc m ws L' TL'=>match c with|0=>(b23,cs24)::(b1,cs2)::L=L'∧TL=TL'|_=>False)) (cs:=[⟨0,0,false,[(5,v0_26)]⟩,⟨0,0,false,[(1,.int .i64 p1)]⟩,⟨0,0,false,[]⟩,⟨0,0,false,[(5,v0_26)]⟩,⟨0,0,false,[(1,.int .i64 p1)]⟩,⟨0,0,false,[]⟩,⟨0,0,false,[]⟩,⟨0,0,false,[]⟩,⟨0,0,false,[(1,.int .i64 p1)]⟩,⟨0,0,false,[]⟩,⟨0,0,false,[]⟩,⟨0,0,false,[]⟩]) mixed E hS ⟨rfl,rfl⟩ rfl rfl (by kernel_rfl) ?_ ?_ ?_ ?_
 {
 intro i m_ m2_ ws v n_ q_
 iterate 12 (rcases i with _|i;exact q_)
 exact trivial}
 {
 intro c m_ m2_ ws L_ T_ n_ hq_
 match c,hq_ with
 |0,⟨e1_,e2_⟩=>exact⟨e1_,e2_⟩
 |_+1,hq_=>exact hq_.elim}
 {
 refine⟨?_,?_,?_,?_,?_,?_,?_,?_,?_,?_,?_,?_,trivial⟩
 {exact cmv λ_ _=>rfl}
 {exact cmv λ_ _=>⟨rfl,ha1⟩}
 {refine cp0 λ_ _ _ _ _ _ _ _ _ Z' E' T'=>?_;have E:=E'.add (T' 1).1;exact cq (aP E rfl rfl (sy rfl (by decide))) Z' ⟨rfl,(ak _ _)⟩}
 {exact cmv λ_ _=>rfl}
 {exact cmv λ_ _=>⟨rfl,ha1⟩}
 {refine cp0 λ_ _ _ _ _ _ _ _ _ Z' E' T'=>?_;have E:=E'.add (T' 4).1;exact cq (aP E rfl rfl (sy rfl (by decide))) Z' ⟨rfl,(ak _ _)⟩}
 {refine cp1 λ_ _ _ _ _ M' Q' Z' E' T'=>?_;obtain⟨rfl,rfl⟩:=Q';have E:=(E'.add (T' 3)).add (T' 5).1;exact cq (br (k:=(ai .u8)) E rfl rfl underlying24 sizeOf5 (hc25.mono (Z0 hm38 M')) hj50 rfl) Z' rfl}
 {refine cp1 λ_ _ _ _ _ M' Q' Z' E' T'=>?_;obtain⟨rfl,rfl⟩:=Q';have E:=E'.add (T' 6);exact cr (aC E Z' ty5 rfl (i:=0) rfl (GS.elem (hc25.mono (Z0 hm38 M')) hx53)) Z' λ_ h=>aG h}
 {exact cmv λ_ _=>⟨rfl,ha1⟩}
 {refine cp0 λ_ _ _ _ _ _ _ _ _ Z' E' T'=>?_;obtain⟨q87,hr88⟩:=T' 8;have E:=E'.add q87;exact cq (aP E rfl rfl (yS rfl (by decide))) Z' ⟨rfl,(tS hr88)⟩}
 {refine cp0 λ_ _ _ _ _ _ _ _ _ Z' E' T'=>?_;have E:=E'.add (T' 9).1;exact cq (aP E rfl rfl (xd rfl (of_decide_eq_true (jd hu56)))) Z' ⟨rfl,(ri _ _ _)⟩}
 {refine cp0 λ_ _ _ _ _ _ _ _ _ Z' E' T'=>?_;have E:=(E'.add (T' 7).1).add (T' 10).1;exact cq (aP E rfl rfl (xc rfl)) Z' ⟨rfl,(w9 _ _ _)⟩}}
 {
 intro ws_ L_ T_ m104 a w hl105 hm106 hq107 hS hd108 hn109 ho110 hT111;obtain rfl:=eh hl105;obtain⟨rfl,rfl⟩:=hq107;have E:=eof 12 [(1,.int .i64 p1),(5,v0_26),(33,.bool x39)] hd108 hn109 ho110;have E:=(E.add (hT111 0)).add (hT111 2).1;obtain⟨q121,hr122⟩:=hT111 11;have E:=E.add q121;obtain⟨j123,hj124,h⟩:=ob h;refine sp E (br (k:=(ai .u8)) E rfl rfl underlying24 sizeOf5 (hc25.mono (Z0 hm38 hm106)) hj124 rfl) rfl λa E=>?_;obtain⟨x128,hx129,h⟩:=ob h;refine st0 E (ef (k:=(ai .u8)) E hS ty5 bm (hc25.mono (Z0 hm38 hm106)) hx129 rfl rfl (aq hr122) (i:=0) rfl) ?_;rintro _ w ⟨cs126,hc127,hS⟩ E
 refine ag (ae ?_);obtain⟨m131,hm132,hS,hv133⟩:=S.freeze hS hc127;refine ah (qM E rfl λa E=>?_);obtain⟨r135,hr136,h⟩:=ob h;refine st E (aF (vs:=[v0_26]) E rfl call33 (uo (hS:=hS) hv133 hr136)) rfl ?_;rintro _ a w ⟨m137,hm138,hS,v0_139,v1_140,rfl,hv0_141,hv1_142⟩ E;obtain⟨rfl,hr144⟩:=aG hv1_142;refine qM E rfl λa E=>sp E (bM E rfl rfl) rfl λa E=>sp E (bM E rfl rfl) rfl λa E=>qA E rfl λa E=>qA E rfl λa E=>ag (ae ?_);refine bw (λa w=>∃x152:Bool,gO x152=some r∧∃m',M.le m137 m'∧S W0 m' w ((b1,cs2)::L) (TL)∧Env 62 a [(4,.bool x152)]) ?_ ?_
 {
 refine ah ?_;obtain⟨r154,hr155,h⟩:=ob h;refine st E (aF (vs:=[]) E rfl call29 (zW (hS:=hS) hr155)) rfl ?_;rintro v159 a w ⟨m156,hm157,hS,hv158⟩ E;obtain rfl:=eQ hv158;refine qM E rfl λa E=>?_;rcases Z1 r154 with hd161|hd161
 {
 have h:=aA hd161 h;refine qG E hd161 rfl λa E=>spg E rfl rfl rfl rfl hd161 (Gs E rfl rfl underlying65 (hv0_141.mono hm157)) rfl λa E=>qT E hd161 rfl λa E=>qM E rfl λa E=>?_;rcases Z1 r135.1.isNone with hd166|hd166
 {have h:=aA hd166 h;refine qG E hd166 rfl λa E=>spg E rfl rfl rfl rfl hd166 (aP E rfl rfl gg) rfl λa E=>qT E hd166 rfl λa E=>qA E rfl λa E=>ag ?_;exact⟨(r135.2==80),h,_,hm157,hS,kut E⟩}
 {have h:=aB hd166 h;refine qX E hd166 λa E=>qX E hd166 λa E=>qF E hd166 rfl λa E=>qA E rfl λa E=>ag ?_;exact⟨false,h,_,hm157,hS,kut E⟩}}
 {have h:=aB hd161 h;refine qX E hd161 λa E=>qX E hd161 λa E=>qF E hd161 rfl λa E=>qM E rfl λa E=>qX E rfl λa E=>qX E rfl λa E=>qF E rfl rfl λa E=>qA E rfl λa E=>ag ?_;exact⟨false,h,_,hm157,hS,kut E⟩}}
 {
 rintro a w ⟨x152,h,m150,hm151,hS,E⟩;unfold gO at h;refine bA ?_;obtain rfl:=oi h
 try dsimp only
 refine f1 E ?_;exact⟨_,(Z0 hm22 (Z0 hm38 (Z0 hm106 (Z0 hm132 (Z0 hm138 hm151))))),(hS.dropL 1),dt⟩}}}}
end
set_option maxRecDepth 100000
set_option maxHeartbeats 4000000
set_option linter.unusedVariables false
open Go.Proofs Tryz
noncomputable section
variable {W0:Bse}{m:M}{w:World}{L:List (Nat×List Value)}{TL:List (Nat×Value)}{v0 v1 v2 v3 v4 v5 v6 v7 v8 v9:Value}
end
open Go.RowKit Go.ChangeShapes Go.ChangeAt Go.WideShapes
section
variable {P:Program}{H:Type}{enc:TypeId×Value→H}
theorem vA (hl:laidOutB P=true) {W W':World} {base:Nat} {sp':Nat→Bool}: ∀{ts:List TypeId} {vs:List Value} {ds:List (DataW H)} {ps:List MemPlace},(∀t∈ts,P.readableRec t=true∧t<P.types.size)→
  DataW.TrodAll enc P W base (λ_=>true) true ts vs ds ps→(∀p∈ps,W.sameAt W' p)→(∀p∈ps,sp' p.block=true)→DataW.TrodAll enc P W' base sp' true ts vs ds ps
 |[],[],[],_,_,h,_,_=>h
 |[],[],_::_,_,_,h,_,_=>h.elim
 |[],_::_,_,_,_,h,_,_=>h.elim
 |_::_,[],_,_,_,h,_,_=>h.elim
 |_::_,_::_,[],_,_,h,_,_=>h.elim
 |t::ts,v::vs,d::ds,ps,ht,h,hs,hp=>by
  obtain⟨p,q,h1,h2,rfl⟩:=h;refine⟨p,q,WideElems.Trod_stays hl (ht t (by simp)).1 (ht t (by simp)).2 h1 (λx hx=>hs x (by simp[hx])) (λx hx=>hp x (by simp[hx])),vA hl (λt h=>ht t (by simp[h])) h2 (λx hx=>hs x (by simp[hx])) (λx hx=>hp x (by simp[hx])),rfl⟩
theorem HZ {f:Func} {s:ChangeSpec} {apart fresh handsOn again:Bool} {W W':World} {args:Array Value} {ds gs:List (DataW H)} {before:List MemPlace} {tb:TypeId}
  (hW:DataW.Whole enc P f.params.toList s.vars apart W args.toList ds gs before) (hl:laidOutB P=true) (ht:∀t∈f.params.toList,P.readableRec t=true∧t<P.types.size)
  (hvars:s.vars=[]) (hr:f.resultTypes= #[tb]) (hb:P.underlying tb=some .bool) (hfn:s.fn H (ds++gs)={ results:=[.lit (.bool true)],args:=ds }) (hB:Below W.heap.size W W'):
  s.post enc P f apart fresh handsOn again W args (.bool true) W':=by
 have hlt:=λp hp=>hW.lt p hp;have hW2:=hW;obtain⟨p,q,hA,hV,hps,hz,hn⟩:=hW2;rw[hvars] at hV;obtain⟨hg,hq⟩:=trodVars_none hV;have hbp:before=p:=by rw[hps,hq];simp
 have hres:∀(b:Nat) (sp:Nat→Bool) (hd:Bool),DataW.TrodAll enc P W' b sp hd f.resultTypes.toList ((Value.bool true).resultList f.resultTypes.size) (s.fn H (ds++gs)).results []:=λb sp hd=>by
  rw[hr,hfn];exact trodAll_cons_mk (shut_bool hb _) trodAll_mk0
 have hargs:∀sp:Nat→Bool,(∀x∈before,sp x.block=true)→DataW.TrodAll enc P W' 0 sp true f.params.toList args.toList (s.fn H (ds++gs)).args p:=λsp hsp=>by
  rw[hfn];refine vA hl ht hA (λx hx=>hB.same (hlt x (by rw[hbp];exact hx))) (λx hx=>hsp x (by rw[hbp];exact hx))
 have hvars':∀sp:Nat→Bool,DataW.TrodVars enc P W' sp s.vars (s.fn H (ds++gs)).vars []:=λsp=>by
  rw[hvars,hfn];exact rfl
 have hold:∀x∈before,(λb=>decide (b<W.heap.size)) x.block=true:=λx hx=>by simpa using hlt x hx
 refine⟨ds,gs,before,[],p,[],hW,hres _ _ _,hargs _ hold,hvars' _,hB.frame _,λ_=>?_⟩;refine⟨ok_one hr rfl (okWide_bool_mk hb _),_,_,([]++p)++[],⟨[]++p,[],trodAll_append (hargs _ (λ_ _=>rfl)) (hres _ _ _),hvars' _,rfl,?_,?_⟩,?_⟩
 ·intro b off hp
  have hm:MemPlace.cell b off∈before:=by rw[hbp];simpa using hp
  have:=hlt _ hm;rw[hB.frozen (p:=⟨b,off,none⟩) this];exact hz b off hm
 ·intro ha
  have:=hn ha;rw[hbp] at this;simpa using this
 ·intro x hx _
  rw[hbp];simpa using hx
structure Okw (P:Program) (W:World) (r:Reach) (b:Nat) (t:TypeId) (v:Value):Prop where
 ok:Value.okWide P W r b t v
theorem H0 {W:World} {r:Reach} {b0:Nat} {ts:Array TypeId} {args:Array Value} (h: ∀(j:Nat) t v,ts[j]? =some t→args[j]? =some v→Value.okWide P W r b0 t v) (j:Nat) {t:TypeId} {v:Value} (h1:ts[j]? =some t) (h2:args[j]? =some v):Okw P W r b0 t v:=
 ⟨h j t v h1 h2⟩
theorem Ln {r:Reach} {b0:Nat} {W:World} {t:TypeId} {k:IntKind} {v:Value} {d:DataW H} {ps:List MemPlace} {base:Nat} {spare:Nat→Bool} {held:Bool} (ht:P.underlying t=some (.int k)) (hval:Okw P W r b0 t v) (hd:DataW.Trod enc P W base spare held t v d ps):
  ∃n,v= .int k n∧inR k n:=by
 obtain⟨n,rfl,_,_,hw⟩:=open_int ht hval.ok hd;refine⟨n,rfl,?_⟩;rw[l9];simpa[Lit.wf] using hw
end
theorem Lo {α:Type}(xs:List α):(xs.map λ_=>1).sum=xs.length:=by
 induction xs with
 |nil=>rfl
 |cons a r ih=>simp[ih];omega
theorem H1 {α:Type}(f:α→Nat)(xs:List α)(h:∀x,1≤f x):xs.length≤(xs.map f).sum:=by
 induction xs with
 |nil=>simp
 |cons a r ih=>have:=h a;simp;omega
open Go.ChangeShapes Go.WideShapes Go.ChangeAt Go.RowKit
theorem own:ownKnob prog.godebug=none:=by kernel_rfl
theorem Lu:laidOutB prog=true:=by kernel_rfl
theorem Jy {H:Type}(d:DataW H):1≤Rows.uptoBulk d:=by
 cases d with
 |lit l=>cases l<;>simp[Rows.uptoBulk]
 |nil=>simp[Rows.uptoBulk]
 |ptr d=>simp[Rows.uptoBulk]
 |slice elems spare=>simp[Rows.uptoBulk]
 |agg parts=>simp[Rows.uptoBulk]
 |iface t d=>simp[Rows.uptoBulk]
 |map entries=>simp[Rows.uptoBulk]
 |held h=>simp[Rows.uptoBulk]
def Ru (H:Type):E5 H:={
 b:=Rows.uptoBulk
 ba:=Rows.uptoBulkAll
 str:=λs=>by simp[Rows.uptoBulk]
 one:=Jy
 slice:=λe s=>by simp[Rows.uptoBulk]
 agg:=λl=>by simp[Rows.uptoBulk]
 nil:=by simp[Rows.uptoBulkAll]
 cons:=λd r=>by simp[Rows.uptoBulkAll]}
theorem rd3:Rd prog 3 (ai .i64) (λ_=>1):=vO underlying3
def QH:Int×Bool×Int×List Int→Ap:=λx=>⟨x.1,x.2.1,x.2.2.1,x.2.2.2⟩
def Cc:Int×Bool×Int×List Int→Nat:=λx=>1+(1+(1+(x.2.2.2.length+1)))
theorem Rw:Rd prog 32 kAp (λy=>Cc (Ap.pr y)+1):=by
 refine sB (gi:=QH) (sz:=Cc) underlying32 (by kernel_rfl) ?_ (λx=>rfl);show RdF prog (_::_::_::_::[]) 0 (bQ (ai .i64) (bQ cO (bQ (ai .i64) qC))) (λx=>1+(1+(1+(x.2.2.2.length+1))));refine kK (k:=ai .i64) (sz:=λ_=>1) (k':=bQ cO (bQ (ai .i64) qC)) (sz':=λx=>1+(1+(x.2.2.length+1))) (vO underlying3) rfl (by kernel_rfl) ?_;refine kK (k:=cO) (sz:=λ_=>1) (k':=bQ (ai .i64) qC) (sz':=λx=>1+(x.2.length+1)) (J9 underlying4) rfl (by kernel_rfl) ?_;refine kK (k:=ai .i64) (sz:=λ_=>1) (k':=qC) (sz':=λx=>x.length+1) (vO underlying2) rfl (by kernel_rfl) ?_
 exact xi (k:=qC) (sz:=λx=>x.length+1) (LJ underlying9) rfl (by kernel_rfl)
def vk (xs:List Ap):Nat:=(xs.map λy=>Cc (Ap.pr y)+1).sum+1
theorem Rx:Rd prog 22 (kSl kAp) vk:=yc underlying22 (by kernel_rfl) Rw
theorem Pf:Rd prog 54 (ai .u64) (λ_=>1):=vO underlying54
theorem Ry:Rd prog 55 (ai .u32) (λ_=>1):=vO underlying55
def Rz:Int×Int→aL:=λx=>⟨x.1,x.2⟩
theorem RA:Rd prog 57 bv (λ_=>1+1+1):=by
 refine sB (gi:=Rz) (sz:=λ_:Int×Int=>1+1) underlying57 (by kernel_rfl) ?_ (λx=>rfl);show RdF prog (_::_::[]) 0 (bQ (ai .u64) (ai .u32)) (λ_=>1+1);refine kK (k:=ai .u64) (sz:=λ_=>1) (k':=ai .u32) (sz':=λ_:Int=>1) Pf rfl (by kernel_rfl) ?_;exact xi (k:=ai .u32) (sz:=λ_=>1) Ry rfl (by kernel_rfl)
def QI:aL×List Ap×Int→aa:=λx=>⟨x.1,x.2.1,x.2.2⟩
def rh (y:aa):Nat:=(1+1+1)+(vk y.fRow+1)+1
theorem RB:Rd prog 59 ab rh:=by
 refine sB (gi:=QI) (sz:=λx:aL×List Ap×Int=>(1+1+1)+(vk x.2.1+1)) underlying59 (by kernel_rfl) ?_ (λx=>rfl);show RdF prog (_::_::_::[]) 0 (bQ bv (bQ (kSl kAp) (ai .u64))) (λx=>(1+1+1)+(vk x.2.1+1));refine kK (k:=bv) (sz:=λ_=>1+1+1) (k':=bQ (kSl kAp) (ai .u64)) (sz':=λx:List Ap×Int=>vk x.1+1) RA rfl (by kernel_rfl) ?_;refine kK (k:=kSl kAp) (sz:=vk) (k':=ai .u64) (sz':=λ_:Int=>1) Rx rfl (by kernel_rfl) ?_;exact xi (k:=ai .u64) (sz:=λ_=>1) Pf rfl (by kernel_rfl)
def mn (xs:List aa):Nat:=(xs.map rh).sum+1
theorem RC:Rd prog 50 (kSl ab) mn:=yc underlying50 (by kernel_rfl) RB
def jW (xs:List Int):Nat:=(xs.map λ_=>1).sum+1
theorem Pg:Rd prog 49 (kSl (ai .i64)) jW:=yc underlying49 (by kernel_rfl) rd3
def Ph:Int×List Int×List Int×List aa→dc:=λx=>⟨x.1,x.2.1,x.2.2.1,x.2.2.2⟩
def DT (y:dc):Nat:=1+(jW y.fSort+(jW y.fKinds+mn y.fL))+1
theorem RD:Rd prog 62 bR DT:=by
 refine sB (gi:=Ph) (sz:=λx:Int×List Int×List Int×List aa=>1+(jW x.2.1+(jW x.2.2.1+mn x.2.2.2))) underlying62 (by kernel_rfl) ?_ (λx=>rfl);show RdF prog (_::_::_::_::[]) 0 (bQ (ai .i64) (bQ (kSl (ai .i64)) (bQ (kSl (ai .i64)) (kSl ab)))) (λx=>1+(jW x.2.1+(jW x.2.2.1+mn x.2.2.2)));refine kK (k:=ai .i64) (sz:=λ_=>1) (k':=bQ (kSl (ai .i64)) (bQ (kSl (ai .i64)) (kSl ab))) (sz':=λx=>jW x.1+(jW x.2.1+mn x.2.2)) rd3 rfl (by kernel_rfl) ?_;refine kK (k:=kSl (ai .i64)) (sz:=jW) (k':=bQ (kSl (ai .i64)) (kSl ab)) (sz':=λx=>jW x.1+mn x.2) Pg rfl (by kernel_rfl) ?_
 refine kK (k:=kSl (ai .i64)) (sz:=jW) (k':=kSl ab) (sz':=mn) Pg rfl (by kernel_rfl) ?_;exact xi (k:=kSl ab) (sz:=mn) RC rfl (by kernel_rfl)
theorem sp3:prog.readableRec 3=true∧3<prog.types.size:=⟨by kernel_rfl,of_decide_eq_true (by kernel_rfl)⟩
theorem RE:prog.readableRec 62=true∧62<prog.types.size:=⟨by kernel_rfl,of_decide_eq_true (by kernel_rfl)⟩
theorem H2 {n:Int}(h:inR .i64 n):cW n:=by
 have:=l9.1 h;have h1:IntKind.min .i64= -9223372036854775808:=by decide
 have h2:IntKind.max .i64=9223372036854775807:=by decide
 unfold cW;omega
theorem H3 {n:Int}(h:inR .u64 n):0≤n∧n<18446744073709551616:=by
 have:=l9.1 h;have h1:IntKind.min .u64=0:=by decide
 have h2:IntKind.max .u64=18446744073709551615:=by decide
 omega
theorem Pi {n:Int}(h:inR .u32 n):0≤n∧n<4294967296:=by
 have:=l9.1 h;have h1:IntKind.min .u32=0:=by decide
 have h2:IntKind.max .u32=4294967295:=by decide
 omega
theorem Lw {m:M}{cs:List Value}{x:Ap}(hR:kAp.R m cs x):VOK x:=by
 obtain⟨h1,h2,h3,h4⟩:=hR;exact⟨H2 h1.2,H2 h3.2,h4.2.1⟩
theorem E0 {α:Type}{k:Kd α}{m:M}{cs:List Value}{xs:List α}(hR:(kSl k).R m cs xs):∀x∈xs,∃cs,k.R m cs x:=λx hx=>by
 obtain⟨a,len,cap,h1,h2,h3,h4,h5⟩:=hR;obtain⟨i,hi,rfl⟩:=List.getElem_of_mem hx;cases a with
 |none=>
  have h5':cap=0:=h5;omega
 |some ad=>exact⟨_,h5.2 i hi⟩
theorem JZ {xs:List Int}{n:Nat}(h:jW xs≤n)(hn:n≤1048576):xs.length≤1048576:=by
 unfold jW at h;rw[Lo] at h;omega
theorem E1 {α:Type} (f:α→Nat): ∀(xs:List α) (x:α),x∈xs→f x≤(xs.map f).sum
 |y::ys,x,h=>by
  simp only[List.map_cons,List.sum_cons];rcases List.mem_cons.1 h with rfl|h
  ·omega
  ·have:=E1 f ys x h;omega
theorem H4 (xs:List aa):xs.length≤mn xs:=by
 have:=H1 rh xs (λy=>by unfold rh;omega);unfold mn;omega
theorem Pj {v:aa}:v.fRow.length≤rh v:=by
 have:=H1 (λy=>Cc (Ap.pr y)+1) v.fRow (λy=>by omega);unfold rh vk;omega
theorem Pk {m:M}{cs:List Value}{v:aa}(hR:ab.R m cs v)(hl:rh v≤1048576):mK v:=by
 obtain⟨h1,h2,h3⟩:=hR;obtain⟨h4,h5⟩:=h1;refine⟨H3 h4.2,Pi h5.2,H3 h3.2,λx hx=>?_,Nat.le_trans Pj hl⟩;obtain⟨cs,h⟩:=E0 h2 x hx;exact Lw h
theorem Jz {P:Program} {H:Type} {enc:TypeId×Value→H} {r:Reach} {b0:Nat} {W:World} {t:TypeId} {fs:Array Field} {α:Type} {k:Kd α} {sz:α→Nat} {v:Value} {d:DataW H} {ps:List MemPlace} (B:E5 H) (ht:P.underlying t=some (.struct fs)) (hrd:Rd P t k sz) (hk:k.agg=true) (hval:Okw P W r b0 t v) (hd:DataW.Trod enc P W 0 (fun _=>true) true t v d ps) (hb:B.b d≤1099511627776):
  ∃x,RV k (m0 W) v x∧sz x≤B.b d:=by
 obtain⟨cs,rfl,_⟩:=okWide_struct ht hval.ok;obtain⟨fuel,hf⟩:=hd;obtain⟨x,hx,hs⟩:=hrd enc B W fuel _ d ps hf hb;exact⟨x,⟨_,hx,by simp[Kd.val,hk,Value.cells]⟩,hs⟩
theorem Lx {m:M}{v:Value}{c:dc}(h:RV bR m v c){n:Nat}(hs:DT c≤n)(hn:n≤1048576):Hy c:=by
 obtain⟨cs,hR,_⟩:=h;obtain⟨h1,h2,h3,h4⟩:=hR;unfold DT at hs;refine⟨JZ (n:=n) (by omega) hn,JZ (n:=n) (by omega) hn,?_,λv hv=>?_⟩
 ·have:=H4 c.fL;omega
 ·obtain ⟨cs,hc⟩:=E0 h4 v hv
  have h5:=E1 rh c.fL v hv;have h6:(c.fL.map rh).sum+1=mn c.fL:=rfl;exact Pk hc (by omega)
end Go.Proofs.YthbonoagbeilkaaGreat.Hay
