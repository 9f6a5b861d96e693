import Derived.Test.YthbonoagbeilkaaGreatHbkC2
import Derived.Test.YthbonoagbeilkaaGreatHbM
import Derived.Carry
import Derived.ChangeSame
import Derived.OpenShut
import Derived.JoinedCond
import Derived.Test.YthbonoagbeilkaaGreatRows
import Derived.Test.YthbonoagbeilkaaGreatHeE
set_option maxRecDepth 100000
set_option maxHeartbeats 4000000
set_option linter.unusedVariables false
namespace Go.Proofs.YthbonoagbeilkaaGreat.Hay
open Bool renaming eq_false_or_eq_true→Z1
open M.le renaming trans→Z0,refl→Z3
open IntKind renaming i64→Z2,u64→Z4
open Go.Proofs Tryz
noncomputable section
variable {W0:Bse} {m:M} {w:World} {L:List (Nat×List Value)} {TL:List (Nat×Value)} {v0 v1 v2 v3 v4 v5 v6 v7 v8 v9:Value}
theorem rT  {b0_:Nat} {c0_:List Value} (hS:S W0 m w ((b0_,c0_)::L) (TL)) {p0} (ha0:iQ.R m c0_ p0) {p1} (ha1:inR .i64 p1) {p2} (ha2:inR .i64 p2) {r} (h:dx p0 p1 p2=some r):
    Calls prog 169 [(pz b0_),(.int .i64 p1),(.int .i64 p2)].toArray w (Ret fun v w'=> ∃m',M.le m m'∧ ∃q0_:List Value,S W0 m' w' ((b0_,q0_)::L) (TL)∧iQ.R m' q0_ r.2∧RV (kSl (ai .u64)) m' v r.1):=by
 refine kc func169 ntmps169 fun a E=> ?_;have E:Env 63 a [(0,pz b0_),(1,.int .i64 p1),(2,.int .i64 p2)]:=E;unfold dx at h;refine ae (ah (qA E rfl fun a E=>ag (ae (ae (ah (qM E rfl fun a E=>qB E rfl rfl jj fun a E=>ag ?_))))));refine kif E rfl (fun hd4=> ?_) (fun hd4=> ?_)
 {
 have h:=aB hd4 h;refine ae (ah (qM E rfl fun a E=>sp E (cm E rfl) rfl fun a E=>sp E (aL E EE rfl) rfl fun a E=> ?_));refine st0 E (bG E hS ty4 Ez rfl rfl ce (i:=0) rfl ha0) ?_;rintro _ w ⟨cs8,hc9,hS⟩ E;refine ag (ae (ah (qM E rfl fun a E=> ?_)));obtain ⟨z12,hz13,h⟩:=ob h;refine st E (rc (k:=(ai .u64)) (m:=m) E hS rfl rfl underlying189 type54 rfl rfl rfl (fun m=>MO m) hz13 rfl rfl) rfl ?_;rintro v17 a w ⟨b14,cs15,hc16,hS⟩ E;refine qA E rfl fun a E=>ag ?_;obtain ⟨m19,hm20,hS,hv21⟩:=S.freeze hS hc16;refine bw ?_;obtain rfl:=oi h
 try dsimp only
 refine f1 E ?_;exact ⟨_,hm20,cs8,hS,(iQ.mono hm20 hc9),hv21⟩}
 {
 have h:=aC hd4 h;refine aQ (ae (ah (qM E rfl fun a E=>qM E rfl fun a E=>qM E rfl fun a E=>qB E rfl rfl (qz rfl) fun a E=>qB E rfl rfl (bn rfl) fun a E=>qB E rfl rfl (wW rfl (by decide)) fun a E=> ?_)));obtain ⟨r28,hr29,h⟩:=ob h;refine st E (aG (vs:=[(pz b0_),(.int .i64 (Z2.wrap ((Z2.wrap ((Z2.wrap (p1*p2))+7)).tdiv 8)))]) E rfl call165 (uZ (hS:=hS) ha0 (am _ _) hr29)) rfl ?_;rintro v35 a w ⟨m30,hm31,c0_32,hS,hc0_33,hv34⟩ E;refine qA E rfl fun a E=>ag (ae (ah (qM E rfl fun a E=> ?_)));obtain ⟨z38,hz39,h⟩:=ob h
 refine st E (rc (k:=(ai .u64)) (m:=m30) E hS rfl rfl underlying189 type54 rfl rfl rfl (fun m=>MO m) hz39 rfl rfl) rfl ?_;rintro v43 a w ⟨b40,cs41,hc42,hS⟩ E;refine qA E rfl fun a E=>ag (ae (ae (ah (qM E rfl fun a E=>sp E (oy (k:=(ai .u64)) E rfl rfl underlying189 hc42) rfl fun a E=>qM E rfl fun a E=>ag ?_))));refine bL (fun a w=> ∃x50:(List Int),fN r28 x50=some r∧ ∃m',M.le m30 m'∧ ∃(v51:Value),RV (kSl (ai .u64)) m' v51 x50∧S W0 m' w ((b0_,c0_32)::L) (TL)∧Env 63 a [(8,v51)]) ?_ ?_
 {
 refine aO ?_;refine cZ h (fun (s:Int×List Int) a w=> ∃m',M.le m30 m'∧ ∃(cs61:List Value),inR .i64 s.1∧GS (ai .u64) m' b40 cs61 v43 s.2∧S W0 m' w ((b40,cs61)::(b0_,c0_32)::L) (TL)∧Env 63 a [(2,.int .i64 p2),(7,v35),(8,v43),(29,.int .i64 (z38.length:Int)),(30,.int .i64 s.1)]) ?_ ?_
 {exact ⟨_,(Z3 _),cs41,(show inR .i64 0 from aw (by decide)),hc42,hS,kut E⟩}
 {
 rintro ⟨x58,x60⟩ a w ⟨m56,hm57,cs61,hr59,hc62,hS,E⟩ r63 h hb64;have h:dB p2 r28 z38 x58 x60=some r63:=h;unfold dB at h;refine ae (ah (qB E rfl rfl bK fun a E=>ag (ae (kif E rfl (fun hd66=> ?_) (fun hd66=> ?_)))))
 {
 have h:=aB hd66 h;refine aQ (ae ?_);refine bL (fun a w=> ∃x69:(List Int),fO x58 x69=some r63∧ ∃m',M.le m56 m'∧ ∃(cs70:List Value),GS (ai .u64) m' b40 cs70 v43 x69∧S W0 m' w ((b40,cs70)::(b0_,c0_32)::L) (TL)∧Env 63 a [(2,.int .i64 p2),(7,v35),(8,v43),(29,.int .i64 (z38.length:Int)),(30,.int .i64 x58)]) ?_ ?_
 {
 refine aO (ae (ah (qM E rfl fun a E=>qA E rfl fun a E=>ag (ae (ah (qM E rfl fun a E=>qM E rfl fun a E=> ?_))))));refine ag (aO ?_);refine cZ h (fun (s:Int×List Int) a w=> ∃m',M.le m56 m'∧ ∃(cs84:List Value),inR .i64 s.1∧GS (ai .u64) m' b40 cs84 v43 s.2∧S W0 m' w ((b40,cs84)::(b0_,c0_32)::L) (TL)∧Env 63 a [(2,.int .i64 p2),(7,v35),(8,v43),(9,.int .i64 x58),(29,.int .i64 (z38.length:Int)),(30,.int .i64 x58),(33,.int .i64 p2),(34,.int .i64 s.1)]) ?_ ?_
 {exact ⟨_,(Z3 _),cs61,(show inR .i64 0 from aw (by decide)),hc62,hS,kut E⟩}
 {
 rintro ⟨x81,x83⟩ a w ⟨m79,hm80,cs84,hr82,hc85,hS,E⟩ r86 h hb87;have h:ej p2 r28 x58 x81 x83=some r86:=h;unfold ej at h;refine ae (ah (qB E rfl rfl bK fun a E=>ag (ae (kif E rfl (fun hd89=> ?_) (fun hd89=> ?_)))))
 {
 have h:=aB hd89 h;refine aQ (ae (aO (ae (ah (qM E rfl fun a E=>qA E rfl fun a E=>ag (ae (ah ?_)))))));refine qM E rfl fun a E=>qM E rfl fun a E=>qB E rfl rfl (qz rfl) fun a E=>qM E rfl fun a E=>qB E rfl rfl (bn rfl) fun a E=>qA E rfl fun a E=>ag ?_;obtain ⟨j98,hj99,x101,hx102,h⟩:=ob2 h;obtain ⟨x104,hx105,u109,hu110,h⟩:=ob2 h;obtain ⟨u111,hu112,h⟩:=ob h
 refine kch (k:=16) (m:=m79) (es:=[]) (Φ:=(fun i m ws v=>match i with|0=>v=v43|1=>ei .i64 x58 v|2=>v=(.pointer (some ⟨b40,j98*1,none⟩))|3=>ei .u64 x101 v|4=>v=v35|5=>ei .i64 (Z2.wrap ((Z2.wrap (x58*p2))+x81)) v|6=>ei .i64 (Z2.wrap ((Z2.wrap ((Z2.wrap (x58*p2))+x81)).tdiv 8)) v|7=>PR (ai .u8) m v x104|8=>ei .u8 x104 v|9=>ei .i64 (Z2.wrap ((Z2.wrap (x58*p2))+x81)) v|10=>ei .i64 ((Z2.wrap ((Z2.wrap (x58*p2))+x81)).tmod 8) v|11=>ei .u8 (aD .u8 x104 ((Z2.wrap ((Z2.wrap (x58*p2))+x81)).tmod 8)) v|12=>ei .u8 (dh .u8 (aD .u8 x104 ((Z2.wrap ((Z2.wrap (x58*p2))+x81)).tmod 8)) 1) v|13=>ei .u64 (Z4.wrap (dh .u8 (aD .u8 x104 ((Z2.wrap ((Z2.wrap (x58*p2))+x81)).tmod 8)) 1)) v|14=>ei .i64 x81 v|15=>ei .u64 (em .u64 (Z4.wrap (dh .u8 (aD .u8 x104 ((Z2.wrap ((Z2.wrap (x58*p2))+x81)).tmod 8)) 1)) x81) v|_=>True)) (Q:=(fun c m ws L' TL'=>match c with|0=>(b40,cs84)::(b0_,c0_32)::L=L'∧TL=TL'|_=>False)) (cs:=[⟨0,0,false,[(8,v43)]⟩,⟨0,0,false,[(9,.int .i64 x58)]⟩,⟨0,0,false,[]⟩,⟨0,0,false,[]⟩,⟨0,0,false,[(7,v35)]⟩,⟨0,0,false,[(11,.int .i64 (Z2.wrap ((Z2.wrap (x58*p2))+x81)))]⟩,⟨0,0,false,[]⟩,⟨0,0,false,[]⟩,⟨0,0,false,[]⟩,⟨0,0,false,[(11,.int .i64 (Z2.wrap ((Z2.wrap (x58*p2))+x81)))]⟩,⟨0,0,false,[]⟩,⟨0,0,false,[]⟩,⟨0,0,false,[]⟩,⟨0,0,false,[]⟩,⟨0,0,false,[(10,.int .i64 x81)]⟩,⟨0,0,false,[]⟩]) mixed E hS ⟨rfl,rfl⟩ rfl rfl (by kernel_rfl) ?_ ?_ ?_ ?_
 {
 intro i m_ m2_ ws v n_ q_
 iterate 16 (rcases i with _|i;first|exact q_|exact PR.mono q_ n_)
 exact trivial}
 {
 intro c m_ m2_ ws L_ T_ n_ hq_
 match c,hq_ with
 |0,⟨e1_,e2_⟩=>exact ⟨e1_,e2_⟩
 |_+1,hq_=>exact hq_.elim}
 {
 refine ⟨?_,?_,?_,?_,?_,?_,?_,?_,?_,?_,?_,?_,?_,?_,?_,?_,trivial⟩
 {exact cmv fun _ _=>rfl}
 {exact cmv fun _ _=>⟨rfl,hr59⟩}
 {refine cp1 fun _ _ _ _ _ M' Q' Z' E' T'=> ?_;obtain ⟨rfl,rfl⟩:=Q';have E:=(E'.add (T' 0)).add (T' 1).1;exact cq (bJ (k:=(ai .u64)) E rfl rfl underlying189 sizeOf54 (hc85.mono M') hj99 rfl) Z' rfl}
 {refine cp1 fun _ _ _ _ _ M' Q' Z' E' T'=> ?_;obtain ⟨rfl,rfl⟩:=Q';have E:=E'.add (T' 2);exact cr (ax E Z' yt rfl (i:=0) rfl (GS.elem (hc85.mono M') hx102)) Z' fun _ h=>aI h}
 {exact cmv fun _ _=>rfl}
 {exact cmv fun _ _=>⟨rfl,(am _ _)⟩}
 {refine cp0 fun _ _ _ _ _ _ _ _ _ Z' E' T'=> ?_;have E:=E'.add (T' 5).1;exact cq (aR E rfl rfl (wW rfl (by decide))) Z' ⟨rfl,(am _ _)⟩}
 {refine cp0 fun _ _ _ _ _ _ _ M' _ Z' E' T'=> ?_;have E:=(E'.add (T' 4)).add (T' 6).1;exact cr (d5 (k:=(ai .u8)) E rfl rfl underlying24 sizeOf5 (hv34.mono (Z0 hm57 (Z0 hm80 M'))) hx105) Z' fun _ h=>h}
 {
 refine cp0 fun _ _ _ m' a' _ _ _ _ Z' E' T'=> ?_;obtain ⟨v143,e144,q145⟩: ∃v,a'.tmps.getD 49 undef=v∧(PR (ai .u8) m' v x104):=⟨_,rfl,T' 7⟩
 have E:=E'.add (e144);exact cr (bA E Z' ty5 rfl q145) Z' fun _ h=>aI h}
 {exact cmv fun _ _=>⟨rfl,(am _ _)⟩}
 {refine cp0 fun _ _ _ _ _ _ _ _ _ Z' E' T'=> ?_;obtain ⟨q151,hr152⟩:=T' 9;have E:=E'.add q151;exact cq (aR E rfl rfl (BG rfl (by decide))) Z' ⟨rfl,(wV hr152)⟩}
 {refine cp0 fun _ _ _ _ _ _ _ _ _ Z' E' T'=> ?_;obtain ⟨q156,hr157⟩:=T' 8;have E:=(E'.add q156).add (T' 10).1;exact cq (aR E rfl rfl (pJ rfl (of_decide_eq_true (jK hu110)))) Z' ⟨rfl,(wU hr157 _)⟩}
 {refine cp0 fun _ _ _ _ _ _ _ _ _ Z' E' T'=> ?_;have E:=E'.add (T' 11).1;exact cq (aR E rfl rfl (EH rfl)) Z' ⟨rfl,(DZ _ _ _)⟩}
 {refine cp0 fun _ _ _ _ _ _ _ _ _ Z' E' T'=> ?_;have E:=E'.add (T' 12).1;exact cq (dC E rfl underlying5 underlying54 rfl) Z' ⟨rfl,(am _ _)⟩}
 {exact cmv fun _ _=>⟨rfl,hr82⟩}
 {refine cp0 fun _ _ _ _ _ _ _ _ _ Z' E' T'=> ?_;have E:=(E'.add (T' 13).1).add (T' 14).1;exact cq (aR E rfl rfl (yC rfl (of_decide_eq_true (jK hu112)))) Z' ⟨rfl,(tB _ _ _)⟩}}
 {
 intro ws_ L_ T_ m183 a w hl184 hm185 hq186 hS hd187 hn188 ho189 hT190;obtain rfl:=d7 hl184;obtain ⟨rfl,rfl⟩:=hq186;have E:=eof 16 [(2,.int .i64 p2),(7,v35),(8,v43),(9,.int .i64 x58),(10,.int .i64 x81),(11,.int .i64 (Z2.wrap ((Z2.wrap (x58*p2))+x81))),(29,.int .i64 (z38.length:Int)),(30,.int .i64 x58),(33,.int .i64 p2),(34,.int .i64 x81),(35,.bool (decide (x81<p2))),(36,.int .i64 x81),(37,.int .i64 x58),(38,.int .i64 p2),(39,.int .i64 (Z2.wrap (x58*p2))),(40,.int .i64 x81),(41,.int .i64 (Z2.wrap ((Z2.wrap (x58*p2))+x81)))] hd187 hn188 ho189
 have E:=(((E.add (hT190 0)).add (hT190 1).1).add (hT190 3).1).add (hT190 15).1;refine qB E rfl rfl (HP rfl) fun a E=> ?_;obtain ⟨j207,hj208,h⟩:=ob h;refine sp E (bJ (k:=(ai .u64)) E rfl rfl underlying189 sizeOf54 (hc85.mono hm185) hj208 rfl) rfl fun a E=> ?_;obtain ⟨x212,hx213,h⟩:=ob h;refine st0 E (eU (k:=(ai .u64)) E hS yt aS (hc85.mono hm185) hx213 rfl rfl (au (B3 _ _ _)) (i:=0) rfl) ?_;rintro _ w ⟨cs210,hc211,hS⟩ E;refine ag (ah (qB E rfl rfl (bn rfl) fun a E=>qM E rfl fun a E=>ag ?_))
 exact ⟨(Z2.wrap (x81+1),(x83.set j207 (bOr .u64 x101 (em .u64 (Z4.wrap (dh .u8 (aD .u8 x104 ((Z2.wrap ((Z2.wrap (x58*p2))+x81)).tmod 8)) 1)) x81)))),(Option.some.inj h).symm,_,(Z0 hm80 hm185),cs210,(am _ _),hc211,hS,kut E⟩}}
 {have h:=aC hd89 h;refine cP rfl rfl ?_;have h:=bP h hb87;exact ⟨x83,h,_,hm80,cs84,hc85,hS,kut E⟩}}}
 {rintro a w ⟨x69,h,m67,hm68,cs70,hc71,hS,E⟩;unfold fO at h;refine ah (qB E rfl rfl (bn rfl) fun a E=>qM E rfl fun a E=>ag ?_);exact ⟨(Z2.wrap (x58+1),x69),(Option.some.inj h).symm,_,(Z0 hm57 hm68),cs70,(am _ _),hc71,hS,kut E⟩}}
 {have h:=aC hd66 h;obtain ⟨m217,hm218,hS,hv219⟩:=S.freeze hS hc62;refine cP rfl rfl ?_;have h:=bP h hb64;exact ⟨x60,h,_,(Z0 hm57 hm218),v43,hv219,hS,kut E⟩}}}
 {
 rintro a w ⟨x50,h,m48,hm49,v51,hv52,hS,E⟩;unfold fN at h;refine ae (ah (qM E rfl fun a E=>qA E rfl fun a E=>ag (bw ?_)));obtain rfl:=oi h
 try dsimp only
 refine f1 E ?_;exact ⟨_,(Z0 hm31 hm49),c0_32,hS,(iQ.mono hm49 hc0_33),hv52⟩}}
theorem OP:Ctr Sz prog 169 [.pt (.st 161),.rd (.int .i64),.rd (.int .i64)] [.rd (.sl (.int .u64))] (fun x=>dx x.1 x.2.1 x.2.2.1):=by
 intro W0 m w L TL vs x r Lp Tp hS hP h;obtain ⟨b0,c0,vs,Lp,rfl,rfl,a0,hP0⟩:=Pb hP;obtain ⟨v1,vs,rfl,a1,hP1⟩:=kC hP0;obtain ⟨rfl,n1⟩:=aI a1;obtain ⟨v2,vs,rfl,a2,hP2⟩:=kC hP1;obtain ⟨rfl,n2⟩:=aI a2;obtain ⟨rfl,rfl,rfl⟩:=oB hP2;refine rm (rT (hS:=hS) a0 n1 n2 h) fun v w' he=> ?_;obtain ⟨m',hm,q0,Z',o0,r0⟩:=he;exact ⟨m',[v],[],[(b0,q0)],[],hm,Z',rfl,⟨r0,trivial⟩,⟨rfl,o0,trivial⟩⟩
def OQ:=mC OP call169
theorem OR:Ctr Sz prog 120 [.pt (.st 161),.rd (.int .i64),.rd (.int .i64)] [.ap (.st 32)] (fun x=>bU x.1 x.2.1 x.2.2.1):=
 ncR [zx,Oi,OD,DH,OK,OM,OO,OQ] [6] func120 ntmps120 (.s .o (.s .o (.s (.s .o (.b (.s .o (.i (.b (.l ⟨[.v 7 1 (.dat (.sl (.st 32)) (some 0)),.b 0 1 (.st 161)],[0,2],1,[4]⟩ .o)) (.s .o (.i (.b (.l ⟨[.v 7 1 (.dat (.sl (.st 32)) (some 0)),.b 0 1 (.st 161)],[0,2],1,[4]⟩ .o)) (.s .o (.i (.s .o (.s .o (.b (.l ⟨[.v 7 1 (.dat (.sl (.st 32)) (some 1)),.v 9 1 (.dat (.int .i64) none),.b 0 1 (.st 161)],[0,2],1,[4,4]⟩ .o)))) (.s .o (.i (.s .o (.s (.s .o (.b (.l ⟨[.v 11 1 (.dat (.sl (.st 32)) (some 0)),.v 131 1 (.dat (.int .u8) none),.b 0 1 (.st 161)],[0,2,7,130],1,[4]⟩ .o))) (.s .o (.b (.l ⟨[.v 7 1 (.dat (.sl (.st 32)) (some 1)),.v 149 1 (.dat (.int .i64) none)],[11,147,148],1,[4,4]⟩ .o))))) (.s .o (.s .o (.b (.l ⟨[.v 7 1 (.dat (.sl (.st 32)) (some 0)),.v 29 1 (.dat (.int .i64) none)],[14,27,28],1,[4]⟩ .o)))))))))))))) .o))) fun x=>by kernel_rfl
def OS:=mC OR call120
theorem Qi:Ctr Sz prog 62 [.rd (.int .i64),.rd (.sl (.int .u8)),.rd (.int .i64)] [.rd (.sl (.st 32)),.rd (.int .i64)] (fun x=>ld x.1 x.2.1 x.2.2.1):=
 ncR [BU,Qh,OS] [6,7] func62 ntmps62 .o fun x=>by kernel_rfl
theorem zD  (hS:S W0 m w L TL) {p0} (ha0:inR .i64 p0) {p1} (ha1:RV (kSl (ai .u8)) m v1 p1) {p2} (ha2:inR .i64 p2) {r} (h:ld p0 p1 p2=some r):
    Calls prog 62 [(.int .i64 p0),v1,(.int .i64 p2)].toArray w (Ret fun v w'=> ∃m',M.le m m'∧S W0 m' w' L TL∧ ∃v0_ v1_:Value,v= .tuple #[v0_,v1_]∧RV (kSl kAp) m' v0_ r.1∧RV (ai .i64) m' v1_ r.2):=by
 refine rm (Qi W0 m w L TL [(.int .i64 p0),v1,(.int .i64 p2)] (p0,p1,p2,()) r [] [] hS ⟨au ha0,⟨ha1,⟨au ha2,trivial⟩⟩⟩ h) fun v w' he=> ?_;obtain ⟨m',us,Lr,Lq,Tr,hm,Z',rfl,hR,hO⟩:=he;obtain ⟨u0,us,rfl,r0,hR0⟩:=dz hR;obtain ⟨u1,us,rfl,r1,hR1⟩:=dz hR0;obtain ⟨rfl,rfl,rfl⟩:=cF hR1;have hO0:=bV hO;have hO1:=bV hO0;have hO2:=bV hO1;obtain rfl:=cG hO2;exact ⟨m',hm,Z',u0,u1,rfl,r0,r1⟩
theorem DI  (hS:S W0 m w L TL) {p0} (ha0:RV (kSl (ai .u8)) m v0 p0) {r} (h:kO p0=some r):
    Calls prog 21 [v0].toArray w (Ret fun v w'=> ∃m',M.le m m'∧S W0 m' w' L TL∧ ∃v0_ v1_ v2_:Value,v= .tuple #[v0_,v1_,v2_]∧RV (kSl kAp) m' v0_ r.1∧RV (ai .i64) m' v1_ r.2.1∧RV (ai .i64) m' v2_ r.2.2):=by
 refine kc func21 ntmps21 fun a E=> ?_;have E:Env 71 a [(0,v0)]:=E;unfold kO at h;refine ae (ah (qA E rfl fun a E=>qA E rfl fun a E=>qA E rfl fun a E=>ag (ae (ah (qM E rfl fun a E=> ?_)))));obtain ⟨r5,hr6,h⟩:=ob h;refine st E (aG (vs:=[v0]) E rfl call57 (DG (hS:=hS) ha0 hr6)) rfl ?_;rintro _ a w ⟨m7,hm8,hS,v0_9,v1_10,v2_11,rfl,hv0_12,hv1_13,hv2_14⟩ E;obtain rfl:=dG hv2_14;refine qM E rfl fun a E=>sp E (br E rfl rfl) rfl fun a E=>sp E (br E rfl rfl) rfl fun a E=>sp E (br E rfl rfl) rfl fun a E=> ?_;refine st E (cQ hS zeroValue34 rfl (cs:=uS)) rfl ?_;rintro _ a w ⟨b20,rfl,hS⟩ E
 refine st0 E (bG E hS yv aS rfl rfl hv0_12 (i:=0) rfl (yu _)) ?_;rintro _ w ⟨cs22,hc23,hS⟩ E;refine qA E rfl fun a E=>qA E rfl fun a E=>ag (ae (ae (ah (qM E rfl fun a E=>sp E (jW E rfl) rfl fun a E=>ag (kif E rfl (fun hd29=> ?_) (fun hd29=> ?_))))))
 {
 have h:=aB hd29 h;refine ae (ah (qA E rfl fun a E=>qA E rfl fun a E=>qA E rfl fun a E=>ag (bw ?_)));obtain rfl:=oi h
 try dsimp only
 refine Fin.mk E (rs:=[.tmp 2,.tmp 3,.tmp 4]) rfl (ra.tmp E rfl (ra.tmp E rfl (ra.tmp E rfl ra.nil))) ?_;exact ⟨_,hm8,(hS.dropL 1),_,_,_,rfl,dH,(au (show inR .i64 0 from aw (by decide))),(au (show inR .i64 70 from aw (by decide)))⟩}
 {
 have h:=aC hd29 h;refine aQ (ae (ah (qM E rfl fun a E=>sp E (aL E zr rfl) rfl fun a E=> ?_)));refine st E (ax E hS ty3 rfl (i:=0) rfl (Mf.R_drop (aH hc23))) rfl ?_;rintro v36 a _ ⟨rfl,hv35⟩ E;obtain ⟨rfl,hr37⟩:=aI hv35;refine qB E rfl rfl (dq rfl) fun a E=> ?_;obtain ⟨x39,hx40,h⟩:=ob h;refine st E (d6 (k:=(ai .u8)) E rfl underlying24 sizeOf5 (ha0.mono hm8) rfl ⟨_,rfl⟩ hx40 (xl:=none) (xh:=(some (.tmp 23)))) rfl ?_;rintro v42 a _ ⟨rfl,hv41⟩ E;obtain ⟨r43,hr44,h⟩:=ob h;refine st E (aG (vs:=[v42]) E rfl call60 (vk (hS:=hS) hv41 hr44)) rfl ?_;rintro v48 a w ⟨m45,hm46,hS,hv47⟩ E
 refine qA E rfl fun a E=>ag (ae (ae ?_));obtain ⟨r50,hr51,x58,hx59,h⟩:=ob2 h
 refine kch (k:=6) (m:=m45) (es:=[1]) (Φ:=(fun i m ws v=>match i with|0=>v=v48|1=>v=(wi ws 0).v∧RV (kSl (ai .u8)) m v r50|2=>v=v0|3=>v=(.pointer (some ⟨b20,11,none⟩))|4=>ei .i64 r5.1.fBytes v|5=>RV (kSl (ai .u8)) m v x58|_=>True)) (Q:=(fun c m ws L' TL'=>match c with|0=>(b20,cs22)::L=L'∧(1,v48)::TL=TL'|1=>(b20,cs22)::L=L'∧(1,(wi ws 0).v)::TL=TL'|_=>False)) (cs:=[⟨0,0,false,[(8,v48)]⟩,⟨0,0,true,[]⟩,⟨0,1,false,[(0,v0)]⟩,⟨0,1,false,[(5,pz b20)]⟩,⟨0,1,false,[]⟩,⟨0,1,false,[]⟩]) mixed E hS ⟨rfl,rfl⟩ rfl rfl (by kernel_rfl) ?_ ?_ ?_ ?_
 {
 intro i m_ m2_ ws v n_ q_
 iterate 6 (rcases i with _|i;first|exact q_|exact RV.mono q_ n_|exact ⟨q_.1,RV.mono q_.2 n_⟩)
 exact trivial}
 {
 intro c m_ m2_ ws L_ T_ n_ hq_
 match c,hq_ with
 |0,⟨e1_,e2_⟩=>exact ⟨e1_,e2_⟩
 |1,⟨e1_,e2_⟩=>exact ⟨e1_,e2_⟩
 |_+2,hq_=>exact hq_.elim}
 {
 refine ⟨?_,?_,?_,?_,?_,?_,trivial⟩
 {exact cmv fun _ _=>rfl}
 {refine sc fun pre_ L_ T_ m' a' w' hl' M' Q' Z' E' T'=> ?_;obtain rfl:=d7 hl';obtain ⟨rfl,rfl⟩:=Q';have E:=E'.add (T' 0 (by decide) 26 rfl);refine bg.imp (aG (vs:=[v48]) E rfl call50 (AL (hS:=Z') (hv47.mono M') hr51)) ?_;rintro vv55 w ⟨m52,hm53,hS,hv54⟩;exact ⟨_,⟨0,vv55,[],[],[]⟩,_,_,hm53,hS,⟨rfl,rfl⟩,⟨rfl,hv54⟩⟩}
 {exact cmv fun _ _=>rfl}
 {refine cp0 fun _ _ _ _ _ _ _ _ _ Z' E' _=> ?_;exact cq (aL E' zr rfl) Z' rfl}
 {
 refine cp0 fun _ _ _ _ _ _ P' M' Q' Z' E' T'=> ?_;rcases O7 (a:=0) (n:=0) P' with h0_|h0_
 {obtain rfl:=d7 h0_;obtain ⟨rfl,rfl⟩:=Q';have E:=E'.add (T' 3);exact cr (ax E Z' ty3 rfl (i:=0) rfl (Mf.R_drop (aH (cX.mono (Z0 hm46 M') hc23)))) Z' fun _ h=>aI h}
 {obtain ⟨⟨_,vv55,_,_,_⟩,post_',rfl,hp1_⟩:=h0_;obtain rfl:=d7 (Qq (a:=0) hp1_);obtain ⟨rfl,rfl⟩:=Q';have E:=E'.add (T' 3);exact cr (ax E Z' ty3 rfl (i:=0) rfl (Mf.R_drop (aH (cX.mono (Z0 hm46 M') hc23)))) Z' fun _ h=>aI h}}
 {refine cp0 fun _ _ _ _ _ _ _ M' _ Z' E' T'=> ?_;have E:=(E'.add (T' 2)).add (T' 4).1;exact cr (d6 (k:=(ai .u8)) E rfl underlying24 sizeOf5 (ha0.mono (Z0 hm8 (Z0 hm46 M'))) rfl ⟨_,rfl⟩ hx59 (xl:=none) (xh:=(some (.tmp 30)))) Z' fun _ h=>h}}
 {
 intro ws_ L_ T_ m85 a w hl86 hm87 hq88 hS hd89 hn90 ho91 hT92;obtain ⟨⟨_,vv55,_,_,_⟩,rfl⟩:=uf hl86;obtain ⟨rfl,rfl⟩:=hq88;have E:=eof 6 [(0,v0),(2,.slice none 0 0),(3,.int .i64 0),(4,.int .i64 0),(5,pz b20),(6,v1_10),(7,.bool r5.2.2),(8,v48),(12,(.tuple #[v0_9,v1_10,(.bool r5.2.2)])),(13,v0),(14,(.tuple #[v0_9,v1_10,(.bool r5.2.2)])),(15,v0_9),(16,v1_10),(17,.bool r5.2.2),(18,.bool r5.2.2),(19,.bool (!r5.2.2)),(20,v0),(21,.pointer (some ⟨b20,11,none⟩)),(22,.int .i64 r5.1.fBytes),(23,.int .i64 (Z2.wrap (r5.1.fBytes - 4))),(24,v42),(25,v48)] hd89 hn90 ho91
 obtain ⟨v93,e94,q95⟩: ∃v,a.tmps.getD 27 undef=v∧(v=vv55∧RV (kSl (ai .u8)) m85 v r50):=⟨_,rfl,hT92 1⟩
 obtain ⟨q96,q95⟩:=q95;rw [q96] at q95;have E:=E.add (e94.trans q96);obtain ⟨v97,E,q99⟩:=adv E (hT92 5);obtain ⟨r100,hr101,h⟩:=ob h;refine st E (aG (vs:=[vv55,v97]) E rfl call61 (vl (hS:=hS) q95 q99 hr101)) rfl ?_;rintro v105 a w ⟨m102,hm103,hS,hv104⟩ E;obtain rfl:=dG hv104;refine sp E (jW E rfl) rfl fun a E=>ag (kif E rfl (fun hd107=> ?_) (fun hd107=> ?_))
 {
 have h:=aB hd107 h;refine ae (ah (qA E rfl fun a E=>qA E rfl fun a E=>qA E rfl fun a E=>ag (bw ?_)));obtain rfl:=oi h
 try dsimp only
 refine Fin.mk E (rs:=[.tmp 2,.tmp 3,.tmp 4]) rfl (ra.tmp E rfl (ra.tmp E rfl (ra.tmp E rfl ra.nil))) ?_;exact ⟨_,(Z0 hm8 (Z0 hm46 (Z0 hm87 hm103))),((hS.dropL 1).dropT 1),_,_,_,rfl,dH,(au (show inR .i64 0 from aw (by decide))),(au (show inR .i64 71 from aw (by decide)))⟩}
 {
 have h:=aC hd107 h;refine aQ (ae (ah (sp E (aL E Dv rfl) rfl fun a E=> ?_)));refine st E (ax E hS ty3 rfl (i:=0) rfl (Ma.R_drop (aH (cX.mono (Z0 hm46 (Z0 hm87 hm103)) hc23)))) rfl ?_;rintro v113 a _ ⟨rfl,hv112⟩ E;obtain ⟨rfl,hr114⟩:=aI hv112;refine qM E rfl fun a E=>sp E (aL E Hr rfl) rfl fun a E=> ?_;refine st E (ax E hS ty3 rfl (i:=0) rfl (Mb.R_drop (aH (cX.mono (Z0 hm46 (Z0 hm87 hm103)) hc23)))) rfl ?_;rintro v118 a _ ⟨rfl,hv117⟩ E;obtain ⟨rfl,hr119⟩:=aI hv117;obtain ⟨r120,hr121,h⟩:=ob h
 refine st E (aG (vs:=[(.int .i64 r5.1.fKind),v1_10,(.int .i64 r5.1.fMany)]) E rfl call62 (zD (hS:=hS) hr114 (hv1_13.mono (Z0 hm46 (Z0 hm87 hm103))) hr119 hr121)) rfl ?_;rintro _ a w ⟨m122,hm123,hS,v0_124,v1_125,rfl,hv0_126,hv1_127⟩ E;obtain ⟨rfl,hr129⟩:=aI hv1_127;refine qM E rfl fun a E=>sp E (br E rfl rfl) rfl fun a E=>sp E (br E rfl rfl) rfl fun a E=>qA E rfl fun a E=>qA E rfl fun a E=>ag (ae (ae (ah (qM E rfl fun a E=> ?_))));refine qB E rfl rfl ky fun a E=>ag (kif E rfl (fun hd137=> ?_) (fun hd137=> ?_))
 {
 have h:=aB hd137 h;refine ae (ah (qA E rfl fun a E=>qA E rfl fun a E=>qA E rfl fun a E=>ag (bw ?_)));obtain rfl:=oi h
 try dsimp only
 refine Fin.mk E (rs:=[.tmp 2,.tmp 3,.tmp 4]) rfl (ra.tmp E rfl (ra.tmp E rfl (ra.tmp E rfl ra.nil))) ?_;exact ⟨_,(Z0 hm8 (Z0 hm46 (Z0 hm87 (Z0 hm103 hm123)))),((hS.dropL 1).dropT 1),_,_,_,rfl,dH,(au (show inR .i64 0 from aw (by decide))),(au (show inR .i64 70 from aw (by decide)))⟩}
 {
 have h:=aC hd137 h;refine aQ (ae (ah (sp E (aL E Dv rfl) rfl fun a E=> ?_)));refine st E (ax E hS ty3 rfl (i:=0) rfl (Ma.R_drop (aH (cX.mono (Z0 hm46 (Z0 hm87 (Z0 hm103 hm123))) hc23)))) rfl ?_;rintro v143 a _ ⟨rfl,hv142⟩ E;obtain ⟨rfl,hr144⟩:=aI hv142;refine qM E rfl fun a E=> ?_;obtain ⟨r146,hr147,h⟩:=ob h;refine st E (aG (vs:=[(.int .i64 r5.1.fKind),v0_124]) E rfl call48 (wO (hS:=hS) hr144 hv0_126 hr147)) rfl ?_;rintro v151 a w ⟨m148,hm149,hS,hv150⟩ E;refine st E (cQ hS zeroValue34 rfl (cs:=uS)) rfl ?_;rintro _ a w ⟨b152,rfl,hS⟩ E
 refine st0 E (bG E hS yv aS rfl rfl hv150 (i:=0) rfl (yu _)) ?_;rintro _ w ⟨cs154,hc155,hS⟩ E;refine ag (ae (ae ?_));refine bL (fun a w=> ∃x159:Bool,ju r5 r120 x159=some r∧ ∃m',M.le m148 m'∧S W0 m' w ((b152,cs154)::(b20,cs22)::L) (TL)∧Env 71 a [(5,pz b20),(9,v0_124),(67,.bool x159)]) ?_ ?_
 {
 refine ah (sp E (aL E wI rfl) rfl fun a E=> ?_);refine st E (ax E hS ty3 rfl (i:=0) rfl (Me.R_drop (aH hc155))) rfl ?_;rintro v197 a _ ⟨rfl,hv196⟩ E;obtain ⟨rfl,hr198⟩:=aI hv196;refine sp E (aL E wI rfl) rfl fun a E=> ?_;refine st E (ax E hS ty3 rfl (i:=1) rfl (Me.R_drop (aH (cX.mono (Z0 hm46 (Z0 hm87 (Z0 hm103 (Z0 hm123 hm149)))) hc23)))) rfl ?_;rintro v201 a _ ⟨rfl,hv200⟩ E;obtain ⟨rfl,hr202⟩:=aI hv200;refine qB E rfl rfl ky fun a E=>qM E rfl fun a E=> ?_;rcases Z1 (r146.fNulls != r5.1.fNulls) with hd205|hd205
 {have h:=aB hd205 h;refine qX E hd205 fun a E=>qX E hd205 fun a E=>qX E hd205 fun a E=>qX E hd205 fun a E=>qX E hd205 fun a E=>qT E hd205 rfl fun a E=>qM E rfl fun a E=>qX E rfl fun a E=>qX E rfl fun a E=>qX E rfl fun a E=> ?_;refine qX E rfl fun a E=>qX E rfl fun a E=>qT E rfl rfl fun a E=>ag ?_;exact ⟨true,h,_,(Z3 _),(hS.pickT 1 [] rfl rfl rfl),kut E⟩}
 {
 have h:=aC hd205 h;refine spg E rfl rfl rfl rfl hd205 (aL E Dt rfl) rfl fun a E=> ?_;refine stg E rfl rfl rfl rfl hd205 (ax E hS fd rfl (i:=0) rfl (Mc.R_drop (aH hc155))) rfl ?_;rintro v211 a _ ⟨rfl,hv210⟩ E;refine spg E rfl rfl rfl rfl hd205 (aL E Dt rfl) rfl fun a E=> ?_;refine stg E rfl rfl rfl rfl hd205 (ax E hS fd rfl (i:=1) rfl (Mc.R_drop (aH (cX.mono (Z0 hm46 (Z0 hm87 (Z0 hm103 (Z0 hm123 hm149)))) hc23)))) rfl ?_;rintro v214 a _ ⟨rfl,hv213⟩ E;refine spg E rfl rfl rfl rfl hd205 (vu E AF rfl rfl hv210 hv213 rfl) rfl fun a E=>qF E hd205 rfl fun a E=>qM E rfl fun a E=> ?_
 rcases Z1 (!decide (r146.fMin=r5.1.fMin)) with hd218|hd218
 {have h:=aB hd218 h;refine qX E hd218 fun a E=>qX E hd218 fun a E=>qX E hd218 fun a E=>qX E hd218 fun a E=>qX E hd218 fun a E=>qT E hd218 rfl fun a E=>ag ?_;exact ⟨true,h,_,(Z3 _),(hS.pickT 1 [] rfl rfl rfl),kut E⟩}
 {
 have h:=aC hd218 h;refine spg E rfl rfl rfl rfl hd218 (aL E Du rfl) rfl fun a E=> ?_;refine stg E rfl rfl rfl rfl hd218 (ax E hS fd rfl (i:=0) rfl (Md.R_drop (aH hc155))) rfl ?_;rintro v222 a _ ⟨rfl,hv221⟩ E;refine spg E rfl rfl rfl rfl hd218 (aL E Du rfl) rfl fun a E=> ?_;refine stg E rfl rfl rfl rfl hd218 (ax E hS fd rfl (i:=1) rfl (Md.R_drop (aH (cX.mono (Z0 hm46 (Z0 hm87 (Z0 hm103 (Z0 hm123 hm149)))) hc23)))) rfl ?_;rintro v225 a _ ⟨rfl,hv224⟩ E;refine spg E rfl rfl rfl rfl hd218 (vu E AF rfl rfl hv221 hv224 rfl) rfl fun a E=>qF E hd218 rfl fun a E=>ag ?_
 exact ⟨(!decide (r146.fMax=r5.1.fMax)),h,_,(Z3 _),(hS.pickT 1 [] rfl rfl rfl),kut E⟩}}}
 {
 rintro a w ⟨x159,h,m157,hm158,hS,E⟩;unfold ju at h;refine kif E rfl (fun hd161=> ?_) (fun hd161=> ?_)
 {
 have h:=aB hd161 h;refine ae (ah (qA E rfl fun a E=>qA E rfl fun a E=>qA E rfl fun a E=>ag (bw ?_)));obtain rfl:=oi h
 try dsimp only
 refine Fin.mk E (rs:=[.tmp 2,.tmp 3,.tmp 4]) rfl (ra.tmp E rfl (ra.tmp E rfl (ra.tmp E rfl ra.nil))) ?_;exact ⟨_,(Z0 hm8 (Z0 hm46 (Z0 hm87 (Z0 hm103 (Z0 hm123 (Z0 hm149 hm158)))))),(hS.dropL 2),_,_,_,rfl,dH,(au (show inR .i64 0 from aw (by decide))),(au (show inR .i64 70 from aw (by decide)))⟩}
 {
 have h:=aC hd161 h;refine aQ (ae ?_);refine kch (k:=4) (m:=m157) (es:=[]) (Φ:=(fun i m ws v=>match i with|0=>v=v0_124|1=>v=(.pointer (some ⟨b20,11,none⟩))|2=>ei .i64 r5.1.fBytes v|3=>v=v0_124|_=>True)) (Q:=(fun c m ws L' TL'=>match c with|0=>(b152,cs154)::(b20,cs22)::L=L'∧TL=TL'|_=>False)) (cs:=[⟨0,0,false,[(9,v0_124)]⟩,⟨0,0,false,[(5,pz b20)]⟩,⟨0,0,false,[]⟩,⟨0,0,false,[]⟩]) mixed E hS ⟨rfl,rfl⟩ rfl rfl (by kernel_rfl) ?_ ?_ ?_ ?_
 {
 intro i m_ m2_ ws v n_ q_
 iterate 4 (rcases i with _|i;exact q_)
 exact trivial}
 {
 intro c m_ m2_ ws L_ T_ n_ hq_
 match c,hq_ with
 |0,⟨e1_,e2_⟩=>exact ⟨e1_,e2_⟩
 |_+1,hq_=>exact hq_.elim}
 {
 refine ⟨?_,?_,?_,?_,trivial⟩
 {exact cmv fun _ _=>rfl}
 {refine cp0 fun _ _ _ _ _ _ _ _ _ Z' E' _=> ?_;exact cq (aL E' zr rfl) Z' rfl}
 {refine cp1 fun _ _ _ _ _ M' Q' Z' E' T'=> ?_;obtain ⟨rfl,rfl⟩:=Q';have E:=E'.add (T' 1);exact cr (ax E Z' ty3 rfl (i:=1) rfl (Mf.R_drop (aH (cX.mono (Z0 hm46 (Z0 hm87 (Z0 hm103 (Z0 hm123 (Z0 hm149 (Z0 hm158 M')))))) hc23)))) Z' fun _ h=>aI h}
 {refine cp0 fun _ _ _ _ _ _ _ _ _ Z' E' T'=> ?_;have E:=E'.add (T' 0);exact cq (lS E rfl) Z' rfl}}
 {
 intro ws_ L_ T_ m178 a w hl179 hm180 hq181 hS hd182 hn183 ho184 hT185;obtain rfl:=d7 hl179;obtain ⟨rfl,rfl⟩:=hq181;have E:=eof 4 [(5,pz b20),(9,v0_124),(67,.bool x159)] hd182 hn183 ho184;obtain ⟨q188,hr189⟩:=hT185 2;have E:=(E.add q188).add (hT185 3);refine qA E rfl fun a E=>qA E rfl fun a E=>ag (bw ?_);obtain rfl:=oi h
 try dsimp only
 refine Fin.mk E (rs:=[.tmp 2,.tmp 3,.tmp 4]) rfl (ra.tmp E rfl (ra.tmp E rfl (ra.tmp E rfl ra.nil))) ?_;exact ⟨_,(Z0 hm8 (Z0 hm46 (Z0 hm87 (Z0 hm103 (Z0 hm123 (Z0 hm149 (Z0 hm158 hm180))))))),(hS.dropL 2),_,_,_,rfl,(hv0_126.mono (Z0 hm149 (Z0 hm158 hm180))),(au hr189),(au (show inR .i64 0 from aw (by decide)))⟩}}}}}}}
theorem yz  (hS:S W0 m w L TL) {p0} (ha0:RV (kSl (ai .u8)) m v0 p0) {p1} (ha1:inR .i64 p1) {r} (h:iO p0 p1=some r):
    Calls prog 84 [v0,(.int .i64 p1)].toArray w (Ret fun v w'=> ∃m',M.le m m'∧S W0 m' w' L TL∧ ∃v0_ v1_:Value,v= .tuple #[v0_,v1_]∧RV (kSl kAp) m' v0_ r.1∧RV cN m' v1_ r.2):=by
 refine kc func84 ntmps84 fun a E=> ?_;have E:Env 42 a [(0,v0),(1,.int .i64 p1)]:=E;unfold iO at h;refine ae (ah (qA E rfl fun a E=>qA E rfl fun a E=>ag (ae (ah (qA E rfl fun a E=>ag (ae ?_))))));refine bL (fun a w=> ∃x6:(List Ap),jY p1 x6=some r∧ ∃m',M.le m m'∧ ∃(v7:Value),RV (kSl kAp) m' v7 x6∧S W0 m' w L ((4,v7)::TL)∧Env 42 a [(1,.int .i64 p1),(6,v7)]) ?_ ?_
 {
 refine aO ?_;refine cZ h (fun (s:List Int×List Ap) a w=> ∃m',M.le m m'∧ ∃(v20:Value),∃(v23:Value),RV (kSl (ai .u8)) m' v20 s.1∧RV (kSl kAp) m' v23 s.2∧S W0 m' w L ((4,v23)::TL)∧Env 42 a [(0,v20),(1,.int .i64 p1),(6,v23)]) ?_ ?_
 {exact ⟨_,(Z3 _),v0,(.slice none 0 0),ha0,dH,(hS.tail0 4),kut E⟩}
 {
 rintro ⟨x19,x22⟩ a w ⟨m17,hm18,v20,v23,hv21,hv24,hS,E⟩ r25 h hb26;have h:iC p1 x19 x22=some r25:=h;unfold iC at h;refine ae (ae (ah (qM E rfl fun a E=>sp E (bh (k:=(ai .u8)) E rfl rfl underlying24 hv21) rfl fun a E=>qB E rfl rfl jj fun a E=>ag (kif E rfl (fun hd30=> ?_) (fun hd30=> ?_)))))
 {
 have h:=aB hd30 h;refine aQ (aO (ae (ah (qM E rfl fun a E=> ?_))));obtain ⟨r32,hr33,h⟩:=ob h;refine st E (aG (vs:=[v20]) E rfl call21 (DI (hS:=hS) hv21 hr33)) rfl ?_;rintro _ a w ⟨m34,hm35,hS,v0_36,v1_37,v2_38,rfl,hv0_39,hv1_40,hv2_41⟩ E;obtain ⟨rfl,hr43⟩:=aI hv1_40;obtain ⟨rfl,hr44⟩:=aI hv2_41;refine qM E rfl fun a E=>sp E (br E rfl rfl) rfl fun a E=>sp E (br E rfl rfl) rfl fun a E=>sp E (br E rfl rfl) rfl fun a E=>qA E rfl fun a E=>qA E rfl fun a E=>qA E rfl fun a E=>ag (ae (ae ?_))
 refine bL (fun a w=> ∃x54:Bool,iB x19 x22 r32 x54=some r25∧ ∃m',M.le m34 m'∧S W0 m' w L ((4,v23)::TL)∧Env 42 a [(0,v20),(1,.int .i64 p1),(6,v23),(7,v0_36),(8,.int .i64 r32.2.1),(30,.bool x54)]) ?_ ?_
 {
 refine ah (qM E rfl fun a E=>qB E rfl rfl ky fun a E=>qM E rfl fun a E=> ?_);rcases Z1 (r32.2.2 != 0) with hd110|hd110
 {have h:=aB hd110 h;refine qX E hd110 fun a E=>qX E hd110 fun a E=>qX E hd110 fun a E=>qX E hd110 fun a E=>qX E hd110 fun a E=>qX E hd110 fun a E=>qX E hd110 fun a E=>qX E hd110 fun a E=>qT E hd110 rfl fun a E=>ag ?_;exact ⟨true,h,_,(Z3 _),hS,kut E⟩}
 {
 have h:=aC hd110 h;refine qG E hd110 rfl fun a E=>spg E rfl rfl rfl rfl hd110 (bh (k:=kAp) E rfl rfl underlying22 hv0_39) rfl fun a E=>qG E hd110 rfl fun a E=>qG E hd110 rfl fun a E=>spg E rfl rfl rfl rfl hd110 (bh (k:=kAp) E rfl rfl underlying22 (hv24.mono hm35)) rfl fun a E=>spg E rfl rfl rfl rfl hd110 (aR E rfl rfl (dq rfl)) rfl fun a E=>spg E rfl rfl rfl rfl hd110 (B4 E rfl rfl) rfl fun a E=>spg E rfl rfl rfl rfl hd110 (aR E rfl rfl ky) rfl fun a E=>qF E hd110 rfl fun a E=>ag ?_
 exact ⟨((r32.1.length:Int) != (if (Z2.wrap (p1 - (x22.length:Int)))<64 then Z2.wrap (p1 - (x22.length:Int)) else 64)),h,_,(Z3 _),hS,kut E⟩}}
 {
 rintro a w ⟨x54,h,m52,hm53,hS,E⟩;unfold iB at h;refine kif E rfl (fun hd56=> ?_) (fun hd56=> ?_)
 {
 have h:=aB hd56 h;refine ae (ah (qA E rfl fun a E=>qA E rfl fun a E=>ag (bw ?_)));have h:=bP h hb26;obtain rfl:=oi h
 try dsimp only
 refine f2 E ?_;exact ⟨_,(Z0 hm18 (Z0 hm35 hm53)),(hS.dropT 1),_,_,rfl,dH,ce⟩}
 {
 have h:=aC hd56 h;refine aQ ?_;obtain ⟨z59,hz60,x65,hx66,h⟩:=ob2 h
 refine kch (k:=7) (m:=m52) (es:=[2]) (Φ:=(fun i m ws v=>match i with|0=>v=v23|1=>v=v0_36|2=>v=(wi ws 0).v∧RV (kSl kAp) m v z59|3=>v=v20|4=>ei .i64 r32.2.1 v|5=>RV (kSl (ai .u8)) m v x65|6=>v=(wi ws 0).v∧RV (kSl kAp) m v z59|_=>True)) (Q:=(fun c m ws L' TL'=>match c with|0=>L=L'∧(4,v23)::TL=TL'|1=>L=L'∧(4,(wi ws 0).v)::TL=TL'|_=>False)) (cs:=[⟨0,0,false,[(6,v23)]⟩,⟨0,0,false,[(7,v0_36)]⟩,⟨0,0,true,[]⟩,⟨0,1,false,[(0,v20)]⟩,⟨0,1,false,[(8,.int .i64 r32.2.1)]⟩,⟨0,1,false,[]⟩,⟨1,1,false,[]⟩]) mixed E hS ⟨rfl,rfl⟩ rfl rfl (by kernel_rfl) ?_ ?_ ?_ ?_
 {
 intro i m_ m2_ ws v n_ q_
 iterate 7 (rcases i with _|i;first|exact q_|exact RV.mono q_ n_|exact ⟨q_.1,RV.mono q_.2 n_⟩)
 exact trivial}
 {
 intro c m_ m2_ ws L_ T_ n_ hq_
 match c,hq_ with
 |0,⟨e1_,e2_⟩=>exact ⟨e1_,e2_⟩
 |1,⟨e1_,e2_⟩=>exact ⟨e1_,e2_⟩
 |_+2,hq_=>exact hq_.elim}
 {
 refine ⟨?_,?_,?_,?_,?_,?_,?_,trivial⟩
 {exact cmv fun _ _=>rfl}
 {exact cmv fun _ _=>rfl}
 {refine sc fun pre_ L_ T_ m' a' w' hl' M' Q' Z' E' T'=> ?_;obtain rfl:=d7 hl';obtain ⟨rfl,rfl⟩:=Q';have E:=(E'.add (T' 0 (by decide) 31 rfl)).add (T' 1 (by decide) 32 rfl);refine bg.imp (j5 (k:=kAp) (N:=3518437208883) E Z' rfl rfl underlying22 underlying22 Dr (i:=0) rfl (hv24.mono (Z0 hm35 (Z0 hm53 M'))) (hv0_39.mono (Z0 hm53 M')) hz60 rfl rfl) ?_;rintro vv64 w ⟨m62,hm63,hS,hv61⟩;exact ⟨_,⟨0,vv64,[],[],[]⟩,_,_,hm63,hS,⟨rfl,rfl⟩,⟨rfl,hv61⟩⟩}
 {exact cmv fun _ _=>rfl}
 {exact cmv fun _ _=>⟨rfl,hr43⟩}
 {refine cp0 fun _ _ _ _ _ _ _ M' _ Z' E' T'=> ?_;have E:=(E'.add (T' 3)).add (T' 4).1;exact cr (d6 (k:=(ai .u8)) E rfl underlying24 sizeOf5 (hv21.mono (Z0 hm35 (Z0 hm53 M'))) ⟨_,rfl⟩ rfl hx66 (xl:=(some (.tmp 35))) (xh:=none)) Z' fun _ h=>h}
 {
 refine F7 fun pre_ p_ L_ T_ m' a' w' hl' P' M' Q' Z' E' T'=> ?_;obtain ⟨⟨_,vv64,_,_,_⟩,rfl⟩:=uf hl';obtain ⟨v86,e87,q88⟩: ∃v,a'.tmps.getD 33 undef=v∧(v=vv64∧RV (kSl kAp) m' v z59):=⟨_,rfl,T' 2 (by decide) 33 rfl⟩
 obtain ⟨q89,q88⟩:=q88;rw [q89] at q88;have E:=E'.add (e87.trans q89);refine bg.imp (aF.pure (lS E rfl)) ?_;rintro _ _ ⟨rfl,rfl⟩;exact ⟨_,Z3 _,Z',⟨rfl,q88⟩⟩}}
 {
 intro ws_ L_ T_ m91 a w hl92 hm93 hq94 hS hd95 hn96 ho97 hT98;obtain ⟨⟨_,vv64,_,_,_⟩,rfl⟩:=uf hl92;obtain ⟨rfl,rfl⟩:=hq94;have E:=eof 7 [(0,v20),(1,.int .i64 p1),(7,v0_36),(8,.int .i64 r32.2.1),(30,.bool x54)] hd95 hn96 ho97;obtain ⟨v99,E,q101⟩:=adv E (hT98 5);obtain ⟨v102,e103,q104⟩: ∃v,a.tmps.getD 6 undef=v∧(v=vv64∧RV (kSl kAp) m91 v z59):=⟨_,rfl,hT98 6⟩
 obtain ⟨q105,q104⟩:=q104;rw [q105] at q104;have E:=E.add (e103.trans q105);refine qA E rfl fun a E=>ag ?_;exact ⟨(x65,z59),(Option.some.inj h).symm,_,(Z0 hm18 (Z0 hm35 (Z0 hm53 hm93))),v99,vv64,q101,q104,hS,kut E⟩}}}}
 {have h:=aC hd30 h;refine cP rfl rfl ?_;have h:=bP h hb26;exact ⟨x22,h,_,hm18,v23,hv24,hS,kut E⟩}}}
 {
 rintro a w ⟨x6,h,m4,hm5,v7,hv8,hS,E⟩;unfold jY at h;refine ae (ah (qM E rfl fun a E=>qM E rfl fun a E=>sp E (bh (k:=kAp) E rfl rfl underlying22 hv8) rfl fun a E=>qM E rfl fun a E=>qB E rfl rfl fR fun a E=>qA E rfl fun a E=>qA E rfl fun a E=>ag ?_));refine bw ?_;obtain rfl:=oi h
 try dsimp only
 refine f2 E ?_;exact ⟨_,hm5,(hS.dropT 1),_,_,rfl,hv8,ce⟩}
def HH:Kd az:=ou (fun x:az=>(x.fColumns,x.fSort,())) (bS (ai .i64) (bS (kSl (ai .i64)) xQ))
theorem Rk:Fld HH (ai .i64) 0 (fun x=>x.fColumns):=cc dn
theorem JG:dt prog 50 xQ:=⟨sizeOf50,isAgg50⟩
theorem vm  {b0_ bA_:Nat} {c0_ cA_ rA_:List Value} (hS:S W0 m w ((b0_,c0_)::(bA_,cA_)::L) (tls 4 rA_++TL)) {p0} (ha0:HH.R m c0_ p0) {vA_:Value} (hf0_:c0_[2]? =some vA_) {pA:List aa} (haA:GR ab 2 m bA_ cA_ vA_ pA rA_) {p1} (ha1:inR .i64 p1) {p2} (ha2:RV (kSl kAp) m v2 p2) {r} (h:iD p0 pA p1 p2=some r):
    Calls prog 85 [(pz b0_),(.int .i64 p1),v2].toArray w (Ret fun v w'=> ∃m',M.le m m'∧ ∃q1_ rq_:List Value,S W0 m' w' ((b0_,c0_)::(bA_,q1_)::L) (tls 4 rq_++TL)∧GR ab 2 m' bA_ q1_ vA_ r.2 rq_∧RV cN m' v r.1):=by
 refine kc func85 ntmps85 fun a E=> ?_;have E:Env 85 a [(0,pz b0_),(1,.int .i64 p1),(2,v2)]:=E;unfold iD at h;refine ae (ah (qA E rfl fun a E=>ag (ae (ae (ah (qM E rfl fun a E=>sp E (bh (k:=kAp) E rfl rfl underlying22 ha2) rfl fun a E=>qM E rfl fun a E=> ?_))))));refine ag ?_;refine bL (fun a w=> ∃x7:(List aa),iG x7=some r∧ ∃m',M.le m m'∧ ∃(cs8 rw8:List Value),GR ab 2 m' bA_ cs8 vA_ x7 rw8∧S W0 m' w ((b0_,c0_)::(bA_,cs8)::L) (tls 4 rw8++TL)∧Env 85 a []) ?_ ?_
 {
 refine aO ?_;refine cZ h (fun (s:Int×List aa) a w=> ∃m',M.le m m'∧ ∃(cs17 rw17:List Value),inR .i64 s.1∧GR ab 2 m' bA_ cs17 vA_ s.2 rw17∧S W0 m' w ((b0_,c0_)::(bA_,cs17)::L) (tls 4 rw17++TL)∧Env 85 a [(0,pz b0_),(1,.int .i64 p1),(10,v2),(11,.int .i64 (p2.length:Int)),(12,.int .i64 s.1)]) ?_ ?_
 {exact ⟨_,(Z3 _),cA_,rA_,(show inR .i64 0 from aw (by decide)),haA,hS,kut E⟩}
 {
 rintro ⟨x14,x16⟩ a w ⟨m12,hm13,cs17,rw17,hr15,hc18,hS,E⟩ r19 h hb20;have h:dT p0 p1 p2 x14 x16=some r19:=h;unfold dT at h;refine ae (ah (qB E rfl rfl bK fun a E=>ag (ae (kif E rfl (fun hd22=> ?_) (fun hd22=> ?_)))))
 {
 have h:=aB hd22 h;refine aQ (ae (aO (ae (ah (qM E rfl fun a E=> ?_)))));obtain ⟨x24,hx25,h⟩:=ob h;refine st E (d5 (k:=kAp) E rfl rfl underlying22 sizeOf32 (ha2.mono hm13) hx25) rfl ?_;rintro v27 a _ ⟨rfl,hp26⟩ E;refine st E (bA E hS fd rfl hp26) rfl ?_;rintro v29 a _ ⟨rfl,hv28⟩ E;refine st E (cQ hS zeroValue32 rfl (cs:=wG)) rfl ?_;rintro _ a w ⟨b30,rfl,hS⟩ E;refine qA E rfl fun a E=> ?_;refine st0 E (bG E hS fd aS rfl rfl hv28 (i:=0) rfl (pF _)) ?_;rintro _ w ⟨cs33,hc34,hS⟩ E
 refine ag (ae (ah (qM E rfl fun a E=>sp E (cm E rfl) rfl fun a E=>sp E (aL E mz rfl) rfl fun a E=>sp E (JW E hS JG rfl (i:=1) rfl hf0_ hc18.1.one) rfl fun a E=>qM E rfl fun a E=> ?_)));obtain ⟨j42,hj43,h⟩:=ob h;refine sp E (bJ (k:=ab) E rfl rfl underlying50 sizeOf59 hc18.1 hj43 rfl) rfl fun a E=>qA E rfl fun a E=>ag (ae (ae ?_))
 refine bL (fun a w=> ∃x48:Bool,dS p0 p1 x14 x16 x24 j42 x48=some r19∧ ∃m',M.le m12 m'∧S W0 m' w ((b30,cs33)::(b0_,c0_)::(bA_,cs17)::L) (tls 4 rw17++TL)∧Env 85 a [(0,pz b0_),(1,.int .i64 p1),(8,pz b30),(9,.pointer (some ⟨bA_,j42*4,none⟩)),(10,v2),(11,.int .i64 (p2.length:Int)),(12,.int .i64 x14),(38,.bool x48)]) ?_ ?_
 {
 refine ah (qM E rfl fun a E=>qM E rfl fun a E=>sp E (cm E rfl) rfl fun a E=>sp E (aL E om rfl) rfl fun a E=> ?_);refine st E (ax E hS ty3 rfl (i:=1) rfl (Rk.R_drop (aH (HH.mono hm13 ha0)))) rfl ?_;rintro v190 a _ ⟨rfl,hv189⟩ E;obtain ⟨rfl,hr191⟩:=aI hv189;refine qB E rfl rfl BJ fun a E=>qM E rfl fun a E=> ?_;rcases Z1 (decide (p0.fColumns≤p1)) with hd194|hd194
 {
 have h:=aB hd194 h;refine spg E rfl rfl rfl rfl hd194 (aL E Ds rfl) rfl fun a E=> ?_;refine stg E rfl rfl rfl rfl hd194 (ax E hS ty3 rfl (i:=0) rfl (L4.R_drop (aH hc34))) rfl ?_;rintro v197 a _ ⟨rfl,hv196⟩ E;obtain ⟨rfl,hr198⟩:=aI hv196;refine spg E rfl rfl rfl rfl hd194 (aR E rfl rfl ky) rfl fun a E=>qG E hd194 rfl fun a E=> ?_;rcases Z1 (x24.fKind != 2) with hd201|hd201
 {have h:=aB hd201 h;refine qX E hd201 fun a E=>qX E hd201 fun a E=>qX E hd201 fun a E=>spg E rfl rfl rfl rfl hd194 (tC E rfl hd201 rfl) rfl fun a E=>qT E hd194 rfl fun a E=>ag ?_;exact ⟨true,h,_,(Z3 _),hS,kut E⟩}
 {have h:=aC hd201 h;refine spg E rfl rfl rfl rfl hd201 (aL E tV rfl) rfl fun a E=> ?_;refine stg E rfl rfl rfl rfl hd201 (ax E hS ty2 rfl (i:=0) rfl (L7.R_drop (aH hc34))) rfl ?_;rintro v206 a _ ⟨rfl,hv205⟩ E;obtain ⟨rfl,hr207⟩:=aI hv205;refine spg E rfl rfl rfl rfl hd201 (aR E rfl rfl bK) rfl fun a E=>spg E rfl rfl rfl rfl hd194 (tD E rfl hd201 rfl) rfl fun a E=>qT E hd194 rfl fun a E=>ag ?_;exact ⟨(decide (x24.fInt<0)),h,_,(Z3 _),hS,kut E⟩}}
 {have h:=aC hd194 h;refine qX E hd194 fun a E=>qX E hd194 fun a E=>qX E hd194 fun a E=>qX E hd194 fun a E=>sxu E rfl rfl rfl rfl fun a E=>sxu E rfl rfl rfl rfl fun a E=>sxu E rfl rfl rfl rfl fun a E=>qX E hd194 fun a E=>qF E hd194 rfl fun a E=>ag ?_;exact ⟨false,h,_,(Z3 _),hS,kut E⟩}}
 {
 rintro a w ⟨x48,h,m46,hm47,hS,E⟩;unfold dS at h;refine kif E rfl (fun hd50=> ?_) (fun hd50=> ?_)
 {
 have h:=aB hd50 h;refine ae (ah (qA E rfl fun a E=>ag (bw ?_)));have h:=bP h hb20;obtain rfl:=oi h
 try dsimp only
 refine f1 E ?_;exact ⟨_,(Z0 hm13 hm47),cs17,rw17,(hS.pickL 3 [1,2] rfl rfl rfl),(hc18.mono hm47),ce⟩}
 {
 have h:=aC hd50 h;refine aQ (ae (ah (qM E rfl fun a E=>qM E rfl fun a E=>sp E (cm E rfl) rfl fun a E=>sp E (aL E om rfl) rfl fun a E=> ?_)));refine st E (ax E hS ty3 rfl (i:=1) rfl (Rk.R_drop (aH (HH.mono (Z0 hm13 hm47) ha0)))) rfl ?_;rintro v57 a _ ⟨rfl,hv56⟩ E;obtain ⟨rfl,hr58⟩:=aI hv56;refine qB E rfl rfl (dq rfl) fun a E=>ag (aO (ae (ah (qB E rfl rfl fR fun a E=>qA E rfl fun a E=>ag ?_))))
 refine bL (fun a w=> ∃x64:(List aa),dw x14 x64=some r19∧ ∃m',M.le m46 m'∧ ∃(cs65 rw65:List Value),GR ab 2 m' bA_ cs65 vA_ x64 rw65∧S W0 m' w ((b30,cs33)::(b0_,c0_)::(bA_,cs65)::L) (tls 4 rw65++TL)∧Env 85 a [(0,pz b0_),(1,.int .i64 p1),(10,v2),(11,.int .i64 (p2.length:Int)),(12,.int .i64 x14)]) ?_ ?_
 {
 refine kif E rfl (fun hd70=> ?_) (fun hd70=> ?_)
 {
 have h:=aB hd70 h;refine ah (qM E rfl fun a E=>sp E (aL E tV rfl) rfl fun a E=> ?_);refine st E (ax E hS ty2 rfl (i:=0) rfl (L7.R_drop (aH (kAp.mono hm47 hc34)))) rfl ?_;rintro v74 a _ ⟨rfl,hv73⟩ E;obtain ⟨rfl,hr75⟩:=aI hv73;refine sp E (dC E rfl underlying2 underlying54 rfl) rfl fun a E=>sp E (cm E rfl) rfl fun a E=>sp E (aL E nq rfl) rfl fun a E=>sp E (aL E zu rfl) rfl fun a E=> ?_;obtain ⟨x82,hx83,h⟩:=ob h;refine st0 E (vC (k:=ab) (o:=2) E hS yt (B8 zp wF wE) (hc18.mono hm47) hx83 rfl rfl (au (am _ _)) (i:=2) rfl (by decide) (by decide)) ?_;rintro _ w ⟨cs80,hc81,hS⟩ E;refine ag ?_
 exact ⟨(x16.set j42 ({ x82 with fId:={ x82.fId with fEpoch:=Z4.wrap x24.fInt } })),h,_,(Z3 _),cs80,rw17,hc81,hS,kut E⟩}
 {
 have h:=aC hd70 h;refine ae (ah (qB E rfl rfl fR fun a E=>qA E rfl fun a E=>ag (kif E rfl (fun hd87=> ?_) (fun hd87=> ?_))))
 {
 have h:=aB hd87 h;refine ae (ae (ah (sp E (aL E tV rfl) rfl fun a E=> ?_)));refine st E (ax E hS ty2 rfl (i:=0) rfl (L7.R_drop (aH (kAp.mono hm47 hc34)))) rfl ?_;rintro v90 a _ ⟨rfl,hv89⟩ E;obtain ⟨rfl,hr91⟩:=aI hv89;refine qB E rfl rfl jj fun a E=>ag (kif E rfl (fun hd93=> ?_) (fun hd93=> ?_))
 {
 have h:=aB hd93 h;refine ae (ah (qA E rfl fun a E=>ag (bw ?_)));have h:=bP h hb20;obtain rfl:=oi h
 try dsimp only
 refine f1 E ?_;exact ⟨_,(Z0 hm13 hm47),cs17,rw17,(hS.pickL 3 [1,2] rfl rfl rfl),(hc18.mono hm47),ce⟩}
 {
 have h:=aC hd93 h;refine aQ (ah (qM E rfl fun a E=>sp E (aL E tV rfl) rfl fun a E=> ?_));refine st E (ax E hS ty2 rfl (i:=0) rfl (L7.R_drop (aH (kAp.mono hm47 hc34)))) rfl ?_;rintro v98 a _ ⟨rfl,hv97⟩ E;obtain ⟨rfl,hr99⟩:=aI hv97;refine sp E (dC E rfl underlying2 underlying55 rfl) rfl fun a E=>sp E (cm E rfl) rfl fun a E=>sp E (aL E nq rfl) rfl fun a E=>sp E (aL E zw rfl) rfl fun a E=> ?_;obtain ⟨x106,hx107,h⟩:=ob h;refine st0 E (vC (k:=ab) (o:=2) E hS Jd (B8 zp wF Hp) (hc18.mono hm47) hx107 rfl rfl (au (am _ _)) (i:=2) rfl (by decide) (by decide)) ?_;rintro _ w ⟨cs104,hc105,hS⟩ E
 refine ag ?_;exact ⟨(x16.set j42 ({ x106 with fId:={ x106.fId with fNumber:=IntKind.u32.wrap x24.fInt } })),h,_,(Z3 _),cs104,rw17,hc105,hS,kut E⟩}}
 {
 have h:=aC hd87 h;refine ae (ah (qB E rfl rfl fR fun a E=>qA E rfl fun a E=>ag (kif E rfl (fun hd111=> ?_) (fun hd111=> ?_))))
 {
 have h:=aB hd111 h;refine ah (qM E rfl fun a E=>sp E (aL E tV rfl) rfl fun a E=> ?_);refine st E (ax E hS ty2 rfl (i:=0) rfl (L7.R_drop (aH (kAp.mono hm47 hc34)))) rfl ?_;rintro v115 a _ ⟨rfl,hv114⟩ E;obtain ⟨rfl,hr116⟩:=aI hv114;refine sp E (dC E rfl underlying2 underlying54 rfl) rfl fun a E=>sp E (cm E rfl) rfl fun a E=>sp E (aL E Hs rfl) rfl fun a E=> ?_;obtain ⟨x122,hx123,h⟩:=ob h;refine st0 E (vC (k:=ab) (o:=2) E hS yt Hq (hc18.mono hm47) hx123 rfl rfl (au (am _ _)) (i:=2) rfl (by decide) (by decide)) ?_;rintro _ w ⟨cs120,hc121,hS⟩ E;refine ag ?_
 exact ⟨(x16.set j42 ({ x122 with fDeleted:=Z4.wrap x24.fInt })),h,_,(Z3 _),cs120,rw17,hc121,hS,kut E⟩}
 {
 have h:=aC hd111 h;obtain ⟨x126,hx127,z132,hz133,h⟩:=ob2 h;obtain ⟨vr_,hvr_,hcr_⟩:=hc18.row hx127;obtain ⟨TLr_,hTLr_⟩: ∃T,T=tls 4 (rw17.eraseIdx j42)++TL:=⟨_,rfl⟩
 have hS:=hS.permT (H4 hvr_ TL);rw [←hTLr_] at hS
 refine kch (k:=8) (m:=m46) (es:=[7]) (Φ:=(fun i m ws v=>match i with|0=>v=(.pointer (some ⟨bA_,j42*4,none⟩))|1=>v=(.pointer (some ⟨bA_,j42*4,none⟩))|2=>v=(.pointer (some ⟨bA_,j42*4,none⟩))|3=>v=(.pointer (some ⟨bA_,j42*4+2,none⟩))|4=>v=vr_∧RV (kSl kAp) m v x126.fRow|5=>RV kAp m v x24|6=>RV (kSl kAp) m v ([x24])|7=>v=(wi ws 0).v∧RV (kSl kAp) m v z132|_=>True)) (Q:=(fun c m ws L' TL'=>match c with|0=>(b30,cs33)::(b0_,c0_)::(bA_,cs17)::L=L'∧(4,vr_)::TLr_=TL'|1=>(b30,cs33)::(b0_,c0_)::(bA_,cs17)::L=L'∧(4,(wi ws 0).v)::TLr_=TL'|_=>False)) (cs:=[⟨0,1,false,[(9,.pointer (some ⟨bA_,j42*4,none⟩))]⟩,⟨0,0,false,[(9,.pointer (some ⟨bA_,j42*4,none⟩))]⟩,⟨0,0,false,[]⟩,⟨0,0,false,[]⟩,⟨0,0,false,[]⟩,⟨0,0,false,[(8,pz b30)]⟩,⟨0,0,false,[]⟩,⟨0,0,true,[]⟩]) mixed E hS ⟨rfl,rfl⟩ rfl rfl (by kernel_rfl) ?_ ?_ ?_ ?_
 {
 intro i m_ m2_ ws v n_ q_
 iterate 8 (rcases i with _|i;first|exact q_|exact RV.mono q_ n_|exact ⟨q_.1,RV.mono q_.2 n_⟩)
 exact trivial}
 {
 intro c m_ m2_ ws L_ T_ n_ hq_
 match c,hq_ with
 |0,⟨e1_,e2_⟩=>exact ⟨e1_,e2_⟩
 |1,⟨e1_,e2_⟩=>exact ⟨e1_,e2_⟩
 |_+2,hq_=>exact hq_.elim}
 {
 refine ⟨?_,?_,?_,?_,?_,?_,?_,?_,trivial⟩
 {exact cmv fun _ _=>rfl}
 {exact cmv fun _ _=>rfl}
 {refine cp0 fun _ _ _ _ _ _ _ _ _ Z' E' T'=> ?_;have E:=E'.add (T' 1);exact cq (cm E rfl) Z' rfl}
 {refine cp0 fun _ _ _ _ _ _ _ _ _ Z' E' T'=> ?_;have E:=E'.add (T' 2);exact cq (aL E wJ rfl) Z' rfl}
 {refine cp1 fun _ _ _ _ _ M' Q' Z' E' T'=> ?_;obtain ⟨rfl,rfl⟩:=Q';have E:=E'.add (T' 3);have hR_:=Mv.R_drop (GS.elem (hc18.1.mono (Z0 hm47 M')) hx127);exact cq (ug (k:=kAp) (v:=vr_) E Z' wH rfl (i:=2) rfl hR_ hcr_) Z' ⟨rfl,BO hR_ hcr_⟩}
 {refine cp1 fun _ _ _ _ _ M' Q' Z' E' _=> ?_;obtain ⟨rfl,rfl⟩:=Q';exact cr (ax E' Z' fd rfl (i:=0) rfl (aH (kAp.mono (Z0 hm47 M') hc34))) Z' fun _ h=>h}
 {refine cp0 fun _ _ _ m' a' _ _ _ _ Z' E' T'=> ?_;obtain ⟨v153,E,q155⟩:=adv E' (T' 5);refine bg.imp (gS (k:=kAp) (xs:=[x24]) (vs:=[v153]) E Z' rfl underlying22 sizeOf32 zeroValue32 ⟨q155,trivial⟩ rfl (by decide)) ?_;rintro v156 w ⟨m130,hm131,hS,hv129⟩;exact ⟨_,hm131,(hS.dropT 1),hv129⟩}
 {
 refine sc fun pre_ L_ T_ m' a' w' hl' M' Q' Z' E' T'=> ?_;obtain rfl:=d7 hl';obtain ⟨rfl,rfl⟩:=Q';obtain ⟨v157,e158,q158,q159⟩: ∃v,a'.tmps.getD 49 undef=v∧(v=vr_∧RV (kSl kAp) m' v x126.fRow):=⟨_,rfl,T' 4 (by decide) 49 rfl⟩
 subst q158;have E:=E'.add (e158);obtain ⟨v160,E,q162⟩:=adv E (T' 6 (by decide) 51 rfl);refine bg.imp (j5 (k:=kAp) (N:=3518437208883) E Z' rfl rfl underlying22 underlying22 Dr (i:=0) rfl q159 q162 hz133 rfl rfl) ?_;rintro vv137 w ⟨m135,hm136,hS,hv134⟩;exact ⟨_,⟨0,vv137,[],[],[]⟩,_,_,hm136,hS,⟨rfl,rfl⟩,⟨rfl,hv134⟩⟩}}
 {
 intro ws_ L_ T_ m163 a w hl164 hm165 hq166 hS hd167 hn168 ho169 hT170;obtain ⟨⟨_,vv137,_,_,_⟩,rfl⟩:=uf hl164;obtain ⟨rfl,rfl⟩:=hq166
 have E:=eof 8 [(0,pz b0_),(1,.int .i64 p1),(8,pz b30),(9,.pointer (some ⟨bA_,j42*4,none⟩)),(10,v2),(11,.int .i64 (p2.length:Int)),(12,.int .i64 x14),(38,.bool x48),(39,.int .i64 p1),(40,pz b0_),(41,pz b0_),(42,pz b0_),(43,.int .i64 p0.fColumns),(44,.int .i64 (Z2.wrap (p1 - p0.fColumns))),(55,.bool ((Z2.wrap (p1 - p0.fColumns))==0)),(56,.bool ((Z2.wrap (p1 - p0.fColumns))==0)),(64,.bool ((Z2.wrap (p1 - p0.fColumns))==1)),(65,.bool ((Z2.wrap (p1 - p0.fColumns))==1)),(76,.bool ((Z2.wrap (p1 - p0.fColumns))==2)),(77,.bool ((Z2.wrap (p1 - p0.fColumns))==2))] hd167 hn168 ho169
 have E:=E.add (hT170 0);obtain ⟨v174,e175,q176⟩: ∃v,a.tmps.getD 52 undef=v∧(v=vv137∧RV (kSl kAp) m163 v z132):=⟨_,rfl,hT170 7⟩
 obtain ⟨q177,q176⟩:=q176;rw [q177] at q176;have E:=E.add (e175.trans q177);refine sp E (cm E rfl) rfl fun a E=>sp E (aL E wJ rfl) rfl fun a E=> ?_;obtain ⟨x182,hx183,h⟩:=ob h;refine st0 E (DM (k:=ab) (o:=2) E hS wH zq (hc18.mono (Z0 hm47 hm165)) hx183 rfl rfl q176 (i:=2) rfl) ?_;rintro _ w ⟨cs180,hc181,hS⟩ E;refine ag ?_;rw [hTLr_] at hS;have hS:=hS.permT (H5 (List.getElem?_eq_some_iff.1 hvr_).1 TL);exact ⟨(x16.set j42 ({ x182 with fRow:=z132 })),h,_,hm165,cs180,_,hc181,hS,kut E⟩}}}}}
 {rintro a w ⟨x64,h,m62,hm63,cs65,rw65,hc66,hS,E⟩;unfold dw at h;refine ah (qB E rfl rfl (bn rfl) fun a E=>qM E rfl fun a E=>ag ?_);exact ⟨(Z2.wrap (x14+1),x64),(Option.some.inj h).symm,_,(Z0 hm13 (Z0 hm47 hm63)),cs65,rw65,(am _ _),hc66,(hS.pickL 3 [1,2] rfl rfl rfl),kut E⟩}}}}
 {have h:=aC hd22 h;refine cP rfl rfl ?_;have h:=bP h hb20;exact ⟨x16,h,_,hm13,cs17,rw17,hc18,hS,E.cut trivial⟩}}}
 {
 rintro a w ⟨x7,h,m5,hm6,cs8,rw8,hc9,hS,E⟩;unfold iG at h;refine ae (ah (qA E rfl fun a E=>ag (bw ?_)));obtain rfl:=oi h
 try dsimp only
 refine f1 E ?_;exact ⟨_,hm6,cs8,rw8,hS,hc9,ce⟩}
theorem OT:Ctr Sz prog 138 [.rd (.sl (.st 59)),.rd (.sl (.st 59)),.f2 (.st 59) (.st 59) .bool] [.rd .bool] (fun x=>eG x.1 x.2.1 x.2.2.1):=
 ncR [] [6] func138 ntmps138 (.s .o (.s .o (.s (.s .o (.b (.l ⟨[.v 17 1 (.dat (.int .i64) none)],[1,2,15,16],0,[]⟩ .o))) .o))) fun x=>by kernel_rfl
theorem qx  (hS:S W0 m w L TL) {p0} (ha0:RV (kSl ab) m v0 p0) {p1} (ha1:RV (kSl ab) m v1 p1) {p2} (ha2:Fn2 prog ab ab cN m v2 p2) {r} (h:eG p0 p1 p2=some r):
    Calls prog 138 [v0,v1,v2].toArray w (Ret fun v w'=> ∃m',M.le m m'∧S W0 m' w' L TL∧RV cN m' v r):=by
 refine rm (OT W0 m w L TL [v0,v1,v2] (p0,p1,p2,()) r [] [] hS ⟨ha0,⟨ha1,⟨ha2,trivial⟩⟩⟩ h) fun v w' he=> ?_;obtain ⟨m',us,Lr,Lq,Tr,hm,Z',rfl,hR,hO⟩:=he;obtain ⟨u0,us,rfl,r0,hR0⟩:=dz hR;obtain ⟨rfl,rfl,rfl⟩:=cF hR0;have hO0:=bV hO;have hO1:=bV hO0;have hO2:=Fa hO1;obtain rfl:=cG hO2;exact ⟨m',hm,Z',r0⟩
theorem OU:Ctr Sz prog 139 [.rd (.st 59),.rd (.st 59)] [.rd .bool] (fun x=>et x.1 x.2.1):=
 ncR [] [4] func139 ntmps139 .o fun x=>by kernel_rfl
theorem rY  (hS:S W0 m w L TL) {p0} (ha0:RV ab m v0 p0) {p1} (ha1:RV ab m v1 p1) {r} (h:et p0 p1=some r):
    Calls prog 139 [v0,v1].toArray w (Ret fun v w'=> ∃m',M.le m m'∧S W0 m' w' L TL∧RV cN m' v r):=by
 refine rm (OU W0 m w L TL [v0,v1] (p0,p1,()) r [] [] hS ⟨ha0,⟨ha1,trivial⟩⟩ h) fun v w' he=> ?_;obtain ⟨m',us,Lr,Lq,Tr,hm,Z',rfl,hR,hO⟩:=he;obtain ⟨u0,us,rfl,r0,hR0⟩:=dz hR;obtain ⟨rfl,rfl,rfl⟩:=cF hR0;have hO0:=bV hO;have hO1:=bV hO0;obtain rfl:=cG hO1;exact ⟨m',hm,Z',r0⟩
theorem OV {m0:M}:Fn2 prog ab ab cN m0 (.func (.func 139) [].toArray [].toArray) et:=by
  refine ⟨139,_,rfl,call139,?_⟩;intro W0 m w L TL v0 v1 x0 x1 r hm hS h0 h1 hr;refine (rY (hS:=hS) h0 h1 hr).mono ?_;intro e w' he;cases e with
  |returned v=>obtain ⟨m',h1,h2,h3⟩:=he;exact ⟨m',h1,h2,h3⟩
  |panicked ch=>exact he.elim
  |outgrown=>exact he.elim
theorem tZ  (hS:S W0 m w L TL) {p0} (ha0:RV (kPt aT) m v0 p0) {r} (h:gA p0=some r):
    Calls prog 86 [v0].toArray w (Ret fun v w'=> ∃m',M.le m m'∧S W0 m' w' L TL∧RV cN m' v r):=by
 refine kc func86 ntmps86 fun a E=> ?_;have E:Env 19 a [(0,v0)]:=E;unfold gA at h;refine ae (ah (qA E rfl fun a E=>ag (ae ?_)));obtain ⟨x2,hx3,x7,hx8,h⟩:=ob2 h
 refine kch (k:=8) (m:=m) (es:=[]) (Φ:=(fun i m ws v=>match i with|0=>v=v0|1=>v=v0|2=>PR (kSl (ai .i64)) m v x2.fSort|3=>RV (kSl (ai .i64)) m v x2.fSort|4=>v=v0|5=>v=v0|6=>PR (kSl ab) m v x7.fL|7=>RV (kSl ab) m v x7.fL|_=>True)) (Q:=(fun c m ws L' TL'=>match c with|0=>L=L'∧TL=TL'|_=>False)) (cs:=[⟨0,0,false,[(0,v0)]⟩,⟨0,0,false,[]⟩,⟨0,0,false,[]⟩,⟨0,0,false,[]⟩,⟨0,0,false,[(0,v0)]⟩,⟨0,0,false,[]⟩,⟨0,0,false,[]⟩,⟨0,0,false,[]⟩]) mixed E hS ⟨rfl,rfl⟩ rfl rfl (by kernel_rfl) ?_ ?_ ?_ ?_
 {
 intro i m_ m2_ ws v n_ q_
 iterate 8 (rcases i with _|i;first|exact q_|exact PR.mono q_ n_|exact RV.mono q_ n_)
 exact trivial}
 {
 intro c m_ m2_ ws L_ T_ n_ hq_
 match c,hq_ with
 |0,⟨e1_,e2_⟩=>exact ⟨e1_,e2_⟩
 |_+1,hq_=>exact hq_.elim}
 {
 refine ⟨?_,?_,?_,?_,?_,?_,?_,?_,trivial⟩
 {exact cmv fun _ _=>rfl}
 {refine cp0 fun _ _ _ _ _ _ _ M' _ Z' E' T'=> ?_;have E:=E'.add (T' 0);exact cq (oz E rfl (ha0.mono M') hx3) Z' rfl}
 {refine cp0 fun _ _ _ _ _ _ _ M' _ Z' E' T'=> ?_;have E:=E'.add (T' 1);exact cr (iK E pG AD rfl ((pL ha0 hx3).mono M')) Z' fun _ h=>h}
 {
 refine cp0 fun _ _ _ m' a' _ _ _ _ Z' E' T'=> ?_;obtain ⟨v21,e22,q23⟩: ∃v,a'.tmps.getD 6 undef=v∧(PR (kSl (ai .i64)) m' v x2.fSort):=⟨_,rfl,T' 2⟩
 have E:=E'.add (e22);exact cr (bA E Z' tp rfl q23) Z' fun _ h=>h}
 {exact cmv fun _ _=>rfl}
 {refine cp0 fun _ _ _ _ _ _ _ M' _ Z' E' T'=> ?_;have E:=E'.add (T' 4);exact cq (oz E rfl (ha0.mono M') hx8) Z' rfl}
 {refine cp0 fun _ _ _ _ _ _ _ M' _ Z' E' T'=> ?_;have E:=E'.add (T' 5);exact cr (iK E mz pE rfl ((pL ha0 hx8).mono M')) Z' fun _ h=>h}
 {
 refine cp0 fun _ _ _ m' a' _ _ _ _ Z' E' T'=> ?_;obtain ⟨v34,e35,q36⟩: ∃v,a'.tmps.getD 10 undef=v∧(PR (kSl ab) m' v x7.fL):=⟨_,rfl,T' 6⟩
 have E:=E'.add (e35);exact cr (bA E Z' wK rfl q36) Z' fun _ h=>h}}
 {
 intro ws_ L_ T_ m38 a w hl39 hm40 hq41 hS hd42 hn43 ho44 hT45;obtain rfl:=d7 hl39;obtain ⟨rfl,rfl⟩:=hq41;have E:=eof 8 [(0,v0),(2,.bool false)] hd42 hn43 ho44;obtain ⟨v46,E,q48⟩:=adv E (hT45 3);obtain ⟨v49,E,q51⟩:=adv E (hT45 7);obtain ⟨r52,hr53,h⟩:=ob h;refine st E (aG (vs:=[v46,v49]) E rfl call27 (rR (hS:=hS) q48 q51 hr53)) rfl ?_;rintro v57 a w ⟨m54,hm55,hS,hv56⟩ E;refine qA E rfl fun a E=>ag (ae (ah (qM E rfl fun a E=>qM E rfl fun a E=> ?_)));obtain ⟨x61,hx62,h⟩:=ob h;refine sp E (oz E rfl (ha0.mono (Z0 hm40 hm55)) hx62) rfl fun a E=> ?_
 refine st E (iK E mz pE rfl ((pL ha0 hx62).mono (Z0 hm40 hm55))) rfl ?_;rintro v66 a _ ⟨rfl,hp65⟩ E;refine st E (bA E hS wK rfl hp65) rfl ?_;rintro v68 a _ ⟨rfl,hv67⟩ E;obtain ⟨r69,hr70,h⟩:=ob h;refine st E (aG (vs:=[v57,v68,(.func (.func 139) #[] #[])]) E rfl call138 (qx (hS:=hS) hv56 hv67 (OV (m0:=m54)) hr70)) rfl ?_;rintro v74 a w ⟨m71,hm72,hS,hv73⟩ E;obtain rfl:=dG hv73;refine qA E rfl fun a E=>ag (bw ?_);obtain rfl:=oi h
 try dsimp only
 refine f1 E ?_;exact ⟨_,(Z0 hm40 (Z0 hm55 hm72)),hS,ce⟩}
theorem Qj:StF HH xQ 2 (fun x _=>x):=cd (aX (aX aS)) (fun _ _=>rfl)
theorem Jh {m:M} {cs:List Value} {x:az} (h:aT.R m cs x):HH.R m cs x:=by
  obtain ⟨h0,h1,h2⟩:=h;refine ⟨h0,h1,?_⟩;obtain ⟨a,len,cap,h3,_⟩:=h2;exact ⟨_,h3,rfl⟩
theorem K6 {m:M} {cs:List Value} {x:az} {v:Value} {l:List aa} (h:HH.R m cs x) (hc:cs[2]? =some v) (hv:RV (kSl ab) m v l):aT.R m cs { x with fL:=l }:=by
  obtain ⟨h0,h1,h2⟩:=h;refine ⟨h0,h1,?_⟩;obtain ⟨c,h3,_⟩:=h2;have h3:(cs.drop 1).drop 1=[c]:=h3;rw [List.drop_drop] at h3
  have:c=v:=by
    have h4:(cs.drop 2)[0]? =some c:=by rw [show 2=1+1 from rfl,h3];rfl
    rw [List.getElem?_drop,hc] at h4;injection h4 with h4;exact h4.symm
  subst this;show (kSl ab).R m ((cs.drop 1).drop 1) l;rw [List.drop_drop,h3];obtain ⟨ds,hR,hvd⟩:=hv;have hl:=(kSl ab).len hR
  match ds,hl,hvd with
  | [d], _, hvd =>
    have:c=d:=hvd;subst this;exact hR
theorem t6  (hS:S W0 m w L TL) {p0} (ha0:RV (kSl (ai .u8)) m v0 p0) {r} (h:fc p0=some r):
    Calls prog 33 [v0].toArray w (Ret fun v w'=> ∃m',M.le m m'∧S W0 m' w' L TL∧ ∃v0_ v1_:Value,v= .tuple #[v0_,v1_]∧RV (kPt aT) m' v0_ r.1∧RV (ai .i64) m' v1_ r.2):=by
 refine kc func33 ntmps33 fun a E=> ?_;have E:Env 120 a [(0,v0)]:=E;unfold fc at h;refine ae (ah (qA E rfl fun a E=>qA E rfl fun a E=>ag (ae (ah (sp E (H2 E rfl underlying120 (pl:=[(0,1),(1,1),(2,1)]) rfl zeroValue120) rfl fun a E=> ?_)))));refine st E (JX (zc:=sM) E hS rfl) rfl ?_;rintro _ a w ⟨b5,rfl,hS⟩ E;refine qA E rfl fun a E=>ag (ae (ae ?_));refine bL (fun a w=> ∃x10:Bool,jE p0 x10=some r∧ ∃m',M.le m m'∧S W0 m' w ((b5,sM)::L) (TL)∧Env 120 a [(0,v0),(4,pz b5),(32,.bool x10)]) ?_ ?_
 {
 rcases Z1 (decide ((p0.length:Int)<4)) with hd364|hd364
 {
 have h:=aB hd364 h
 refine kch (k:=15) (m:=m) (es:=[]) (Φ:=(fun i m ws v=>match i with|0=>v=v0|1=>ei .i64 (p0.length:Int) v|2=>v=(.bool (decide ((p0.length:Int)<4)))|3=>v=(.bool (decide ((p0.length:Int)<4)))|4=>v=undef|5=>v=undef|6=>v=undef|7=>v=undef|8=>v=undef|9=>v=undef|10=>v=undef|11=>v=undef|12=>v=undef|13=>v=undef|14=>v=undef|_=>True)) (Q:=(fun c m ws L' TL'=>match c with|0=>(b5,sM)::L=L'∧TL=TL'|_=>False)) (cs:=[⟨0,0,false,[(0,v0)]⟩,⟨0,0,false,[]⟩,⟨0,0,false,[]⟩,⟨0,0,false,[]⟩,⟨0,0,false,[(0,v0)]⟩,⟨0,0,false,[(0,v0)]⟩,⟨0,0,false,[]⟩,⟨0,0,false,[]⟩,⟨0,0,false,[]⟩,⟨0,0,false,[]⟩,⟨0,0,false,[(0,v0)]⟩,⟨0,0,false,[(0,v0)]⟩,⟨0,0,false,[]⟩,⟨0,0,false,[]⟩,⟨0,0,false,[]⟩]) mixed E hS ⟨rfl,rfl⟩ rfl rfl (by kernel_rfl) ?_ ?_ ?_ ?_
 {
 intro i m_ m2_ ws v n_ q_
 iterate 15 (rcases i with _|i;exact q_)
 exact trivial}
 {
 intro c m_ m2_ ws L_ T_ n_ hq_
 match c,hq_ with
 |0,⟨e1_,e2_⟩=>exact ⟨e1_,e2_⟩
 |_+1,hq_=>exact hq_.elim}
 {
 refine ⟨?_,?_,?_,?_,?_,?_,?_,?_,?_,?_,?_,?_,?_,?_,?_,trivial⟩
 {exact cmv fun _ _=>rfl}
 {refine cp0 fun _ _ _ _ _ _ _ M' _ Z' E' T'=> ?_;have E:=E'.add (T' 0);exact cq (bh (k:=(ai .u8)) E rfl rfl underlying24 (ha0.mono M')) Z' ⟨rfl,(dP (iS (ha0.mono M')))⟩}
 {refine cp0 fun _ _ _ _ _ _ _ _ _ Z' E' T'=> ?_;have E:=E'.add (T' 1).1;exact cq (aR E rfl rfl bK) Z' rfl}
 {refine cp0 fun _ _ _ _ _ _ _ _ _ Z' E' T'=> ?_;have E:=E'.add (T' 2);exact cq (it E rfl) Z' rfl}
 {exact csk (gz hd364)}
 {exact csk (gz hd364)}
 {exact csk (gz hd364)}
 {exact csk (gz hd364)}
 {exact csk (gz hd364)}
 {exact csk (gz hd364)}
 {exact csk (gz hd364)}
 {exact csk (gz hd364)}
 {exact csk (gz hd364)}
 {exact csk (gz hd364)}
 {exact csk (gz hd364)}}
 {intro ws_ L_ T_ m379 a w hl380 hm381 hq382 hS hd383 hn384 ho385 hT386;obtain rfl:=d7 hl380;obtain ⟨rfl,rfl⟩:=hq382;have E:=eof 15 [(0,v0),(2,.pointer none),(3,.int .i64 0),(4,pz b5),(12,(.agg sM.toArray)),(13,pz b5)] hd383 hn384 ho385;have E:=((E.add (hT386 3)).add (hT386 9)).add (hT386 14);refine qX E hd364 fun a E=>qX E hd364 fun a E=>qX E hd364 fun a E=>qT E hd364 rfl fun a E=>ag ?_;exact ⟨true,h,_,hm381,hS,kut E⟩}}
 {
 have h:=aC hd364 h;obtain ⟨x397,hx398,r400,hr401,h⟩:=ob2 h;obtain ⟨x406,hx407,h⟩:=ob h
 refine kch (k:=15) (m:=m) (es:=[]) (Φ:=(fun i m ws v=>match i with|0=>v=v0|1=>ei .i64 (p0.length:Int) v|2=>v=(.bool (decide ((p0.length:Int)<4)))|3=>v=(.bool (decide ((p0.length:Int)<4)))|4=>v=v0|5=>v=v0|6=>ei .i64 (p0.length:Int) v|7=>ei .i64 (Z2.wrap ((p0.length:Int) - 4)) v|8=>RV (kSl (ai .u8)) m v x397|9=>ei .i64 r400 v|10=>v=v0|11=>v=v0|12=>ei .i64 (p0.length:Int) v|13=>ei .i64 (Z2.wrap ((p0.length:Int) - 4)) v|14=>RV (kSl (ai .u8)) m v x406|_=>True)) (Q:=(fun c m ws L' TL'=>match c with|0=>(b5,sM)::L=L'∧TL=TL'|_=>False)) (cs:=[⟨0,0,false,[(0,v0)]⟩,⟨0,0,false,[]⟩,⟨0,0,false,[]⟩,⟨0,0,false,[]⟩,⟨0,0,false,[(0,v0)]⟩,⟨0,0,false,[(0,v0)]⟩,⟨0,0,false,[]⟩,⟨0,0,false,[]⟩,⟨0,0,false,[]⟩,⟨0,0,false,[]⟩,⟨0,0,false,[(0,v0)]⟩,⟨0,0,false,[(0,v0)]⟩,⟨0,0,false,[]⟩,⟨0,0,false,[]⟩,⟨0,0,false,[]⟩]) mixed E hS ⟨rfl,rfl⟩ rfl rfl (by kernel_rfl) ?_ ?_ ?_ ?_
 {
 intro i m_ m2_ ws v n_ q_
 iterate 15 (rcases i with _|i;first|exact q_|exact RV.mono q_ n_)
 exact trivial}
 {
 intro c m_ m2_ ws L_ T_ n_ hq_
 match c,hq_ with
 |0,⟨e1_,e2_⟩=>exact ⟨e1_,e2_⟩
 |_+1,hq_=>exact hq_.elim}
 {
 refine ⟨?_,?_,?_,?_,?_,?_,?_,?_,?_,?_,?_,?_,?_,?_,?_,trivial⟩
 {exact cmv fun _ _=>rfl}
 {refine cp0 fun _ _ _ _ _ _ _ M' _ Z' E' T'=> ?_;have E:=E'.add (T' 0);exact cq (bh (k:=(ai .u8)) E rfl rfl underlying24 (ha0.mono M')) Z' ⟨rfl,(dP (iS (ha0.mono M')))⟩}
 {refine cp0 fun _ _ _ _ _ _ _ _ _ Z' E' T'=> ?_;have E:=E'.add (T' 1).1;exact cq (aR E rfl rfl bK) Z' rfl}
 {refine cp0 fun _ _ _ _ _ _ _ _ _ Z' E' T'=> ?_;have E:=E'.add (T' 2);exact cq (it E rfl) Z' rfl}
 {exact cgm (gz hd364) (fun _ _=>rfl)}
 {exact cgm (gz hd364) (fun _ _=>rfl)}
 {refine cg0 (gz hd364) fun _ _ _ _ _ _ _ M' _ Z' E' T'=> ?_;have E:=E'.add (T' 5);exact cq (bh (k:=(ai .u8)) E rfl rfl underlying24 (ha0.mono M')) Z' ⟨rfl,(dP (iS (ha0.mono M')))⟩}
 {refine cg0 (gz hd364) fun _ _ _ _ _ _ _ _ _ Z' E' T'=> ?_;have E:=E'.add (T' 6).1;exact cq (aR E rfl rfl (dq rfl)) Z' ⟨rfl,(am _ _)⟩}
 {refine cg0 (gz hd364) fun _ _ _ _ _ _ _ M' _ Z' E' T'=> ?_;have E:=(E'.add (T' 4)).add (T' 7).1;exact cr (d6 (k:=(ai .u8)) E rfl underlying24 sizeOf5 (ha0.mono M') ⟨_,rfl⟩ rfl hx398 (xl:=(some (.tmp 21))) (xh:=none)) Z' fun _ h=>h}
 {refine cg0 (gz hd364) fun _ _ _ m' a' _ _ _ _ Z' E' T'=> ?_;obtain ⟨v442,E,q444⟩:=adv E' (T' 8);refine bg.imp (aG (vs:=[v442]) E rfl call82 (kY (hS:=Z') q444 hr401)) ?_;rintro v445 w ⟨m402,hm403,hS,hv404⟩;obtain ⟨rfl,hr446⟩:=aI hv404;exact ⟨_,hm403,hS,⟨rfl,hr446⟩⟩}
 {exact cgm (gz hd364) (fun _ _=>rfl)}
 {exact cgm (gz hd364) (fun _ _=>rfl)}
 {refine cg0 (gz hd364) fun _ _ _ _ _ _ _ M' _ Z' E' T'=> ?_;have E:=E'.add (T' 11);exact cq (bh (k:=(ai .u8)) E rfl rfl underlying24 (ha0.mono M')) Z' ⟨rfl,(dP (iS (ha0.mono M')))⟩}
 {refine cg0 (gz hd364) fun _ _ _ _ _ _ _ _ _ Z' E' T'=> ?_;have E:=E'.add (T' 12).1;exact cq (aR E rfl rfl (dq rfl)) Z' ⟨rfl,(am _ _)⟩}
 {refine cg0 (gz hd364) fun _ _ _ _ _ _ _ M' _ Z' E' T'=> ?_;have E:=(E'.add (T' 10)).add (T' 13).1;exact cr (d6 (k:=(ai .u8)) E rfl underlying24 sizeOf5 (ha0.mono M') rfl ⟨_,rfl⟩ hx407 (xl:=none) (xh:=(some (.tmp 27)))) Z' fun _ h=>h}}
 {
 intro ws_ L_ T_ m466 a w hl467 hm468 hq469 hS hd470 hn471 ho472 hT473;obtain rfl:=d7 hl467;obtain ⟨rfl,rfl⟩:=hq469;have E:=eof 15 [(0,v0),(2,.pointer none),(3,.int .i64 0),(4,pz b5),(12,(.agg sM.toArray)),(13,pz b5)] hd470 hn471 ho472;have E:=(E.add (hT473 3)).add (hT473 9).1;obtain ⟨v481,E,q483⟩:=adv E (hT473 14);obtain ⟨r484,hr485,h⟩:=ob h;refine stg E rfl rfl rfl rfl hd364 (aG (vs:=[v481]) E rfl call78 (xH (hS:=hS) q483 hr485)) rfl ?_;rintro v489 a w ⟨m486,hm487,hS,hv488⟩ E;obtain ⟨rfl,hr490⟩:=aI hv488
 refine spg E rfl rfl rfl rfl hd364 (dC E rfl underlying55 underlying3 rfl) rfl fun a E=>spg E rfl rfl rfl rfl hd364 (aR E rfl rfl ky) rfl fun a E=>qF E hd364 rfl fun a E=>ag ?_;exact ⟨(r400 != (Z2.wrap r484)),h,_,(Z0 hm468 hm487),hS,kut E⟩}}}
 {
 rintro a w ⟨x10,h,m8,hm9,hS,E⟩;unfold jE at h;refine kif E rfl (fun hd12=> ?_) (fun hd12=> ?_)
 {
 have h:=aB hd12 h;refine ae (ah (qA E rfl fun a E=>qA E rfl fun a E=>ag (bw ?_)));obtain rfl:=oi h
 try dsimp only
 refine f2 E ?_;exact ⟨_,hm9,(hS.dropL 1),_,_,rfl,(vB (m:=m8) (k:=aT)),(au (show inR .i64 80 from aw (by decide)))⟩}
 {
 have h:=aC hd12 h;refine aQ (ae (ah (qM E rfl fun a E=>qM E rfl fun a E=>qM E rfl fun a E=>sp E (bh (k:=(ai .u8)) E rfl rfl underlying24 (ha0.mono hm9)) rfl fun a E=>qB E rfl rfl (dq rfl) fun a E=> ?_)));obtain ⟨x20,hx21,h⟩:=ob h;refine st E (d6 (k:=(ai .u8)) E rfl underlying24 sizeOf5 (ha0.mono hm9) rfl ⟨_,rfl⟩ hx21 (xl:=none) (xh:=(some (.tmp 38)))) rfl ?_;rintro v23 a _ ⟨rfl,hv22⟩ E;obtain ⟨r24,hr25,h⟩:=ob h;refine st E (aG (vs:=[(pz b5),v23]) E rfl call83 (vj (hS:=hS) hv22 hr25)) rfl ?_;rintro _ a w ⟨m26,hm27,c0_28,hS,hc0_29,v0_30,v1_31,v2_32,rfl,hv0_33,hv1_34,hv2_35⟩ E
 obtain ⟨rfl,hr37⟩:=aI hv0_33;obtain rfl:=dG hv2_35;refine qM E rfl fun a E=>sp E (br E rfl rfl) rfl fun a E=>sp E (br E rfl rfl) rfl fun a E=>sp E (br E rfl rfl) rfl fun a E=>qA E rfl fun a E=>qA E rfl fun a E=>qA E rfl fun a E=>ag (ae (ae ?_));refine ah (qM E rfl fun a E=>sp E (jW E rfl) rfl fun a E=>ag (kif E rfl (fun hd47=> ?_) (fun hd47=> ?_)))
 {
 have h:=aB hd47 h;refine ae (ah (qA E rfl fun a E=>qA E rfl fun a E=>ag (bw ?_)));obtain rfl:=oi h
 try dsimp only
 refine f2 E ?_;exact ⟨_,(Z0 hm9 hm27),(hS.dropL 1),_,_,rfl,(vB (m:=m26) (k:=aT)),(au (show inR .i64 80 from aw (by decide)))⟩}
 {
 have h:=aC hd47 h;refine aQ (ae (ah (qM E rfl fun a E=>qM E rfl fun a E=> ?_)));obtain ⟨z52,hz53,h⟩:=ob h;refine st E (H6 (k:=ab) (o:=2) (sz:=4) (m:=m26) E hS rfl rfl underlying50 type59 rfl rfl rfl (fun m=>uT m) hz53 rfl rfl rfl) rfl ?_;rintro v58 a w ⟨b54,cs55,rw56,hc57,hS⟩ E;refine sp E (cm E rfl) rfl fun a E=>sp E (aL E mz rfl) rfl fun a E=> ?_;refine st0 E (Gh E hS JG Qj rfl rfl hc57.1.one (i:=1) rfl (Jh hc0_29)) ?_;rintro _ w ⟨cs61,hc62,hq63,hS⟩ E;refine ag (ae (ae (ah (qM E rfl fun a E=>sp E (cm E rfl) rfl fun a E=>sp E (aL E om rfl) rfl fun a E=> ?_))))
 refine st E (ax E hS ty3 rfl (i:=1) rfl (Rk.R_drop (aH hc62))) rfl ?_;rintro v69 a _ ⟨rfl,hv68⟩ E;obtain ⟨rfl,hr70⟩:=aI hv68;refine qB E rfl rfl (bn rfl) fun a E=>qM E rfl fun a E=>ag ?_;refine bL (fun a w=> ∃x75:(List Int),∃x79:(List aa),lN r24 x75 x79=some r∧ ∃m',M.le m26 m'∧ ∃(v76:Value),∃(rw78:List Value),∃(cs80:List Value),RV (kSl (ai .u8)) m' v76 x75∧GR ab 2 m' b54 cs80 v58 x79 rw78∧S W0 m' w ((b54,cs80)::(b5,cs61)::L) (tls 4 rw78++TL)∧Env 120 a [(4,pz b5),(6,v76)]) ?_ ?_
 {
 refine aO ?_;refine cZ h (fun (s:List Int×Int×List aa) a w=> ∃m',M.le m26 m'∧ ∃(v253:Value),∃(rw257:List Value),∃(cs259:List Value),RV (kSl (ai .u8)) m' v253 s.1∧inR .i64 s.2.1∧GR ab 2 m' b54 cs259 v58 s.2.2 rw257∧S W0 m' w ((b54,cs259)::(b5,cs61)::L) (tls 4 rw257++TL)∧Env 120 a [(4,pz b5),(5,.int .i64 r24.1),(6,v253),(55,.int .i64 (Z2.wrap (r24.2.2.2.fColumns+3))),(56,.int .i64 s.2.1)]) ?_ ?_
 {exact ⟨_,(Z3 _),v1_31,rw56,cs55,hv1_34,(show inR .i64 0 from aw (by decide)),hc57,hS,kut E⟩}
 {
 rintro ⟨x252,x255,x258⟩ a w ⟨m250,hm251,v253,rw257,cs259,hv254,hr256,hc260,hS,E⟩ r261 h hb262;have h:gc r24 x252 x255 x258=some r261:=h;unfold gc at h;refine ae (ah (qB E rfl rfl bK fun a E=>ag (ae (kif E rfl (fun hd264=> ?_) (fun hd264=> ?_)))))
 {
 have h:=aB hd264 h;refine aQ (ae (aO (ae (ah (qM E rfl fun a E=>qA E rfl fun a E=>ag (ae (ae ?_)))))));refine bL (fun a w=> ∃x269:Bool,jD r24 x252 x255 x258 x269=some r261∧ ∃m',M.le m250 m'∧S W0 m' w ((b54,cs259)::(b5,cs61)::L) (tls 4 rw257++TL)∧Env 120 a [(4,pz b5),(5,.int .i64 r24.1),(6,v253),(8,.int .i64 x255),(55,.int .i64 (Z2.wrap (r24.2.2.2.fColumns+3))),(56,.int .i64 x255),(69,.bool x269)]) ?_ ?_
 {
 refine ah (qM E rfl fun a E=>sp E (bh (k:=(ai .u8)) E rfl rfl underlying24 hv254) rfl fun a E=>qB E rfl rfl bK fun a E=>qM E rfl fun a E=> ?_);rcases Z1 (decide ((x252.length:Int)<4)) with hd349|hd349
 {have h:=aB hd349 h;refine qX E hd349 fun a E=>qX E hd349 fun a E=>qX E hd349 fun a E=>qX E hd349 fun a E=>qX E hd349 fun a E=>qX E hd349 fun a E=>qT E hd349 rfl fun a E=>ag ?_;exact ⟨true,h,_,(Z3 _),hS,kut E⟩}
 {have h:=aC hd349 h;refine qG E hd349 rfl fun a E=>spg E rfl rfl rfl rfl hd349 (bh (k:=(ai .u8)) E rfl rfl underlying24 hv254) rfl fun a E=>qG E hd349 rfl fun a E=> ?_;obtain ⟨r354,hr355,h⟩:=ob h;refine stg E rfl rfl rfl rfl hd349 (aG (vs:=[v253]) E rfl call82 (kY (hS:=hS) hv254 hr355)) rfl ?_;rintro v359 a w ⟨m356,hm357,hS,hv358⟩ E;obtain ⟨rfl,hr360⟩:=aI hv358;refine spg E rfl rfl rfl rfl hd349 (aR E rfl rfl (bn rfl)) rfl fun a E=>spg E rfl rfl rfl rfl hd349 (aR E rfl rfl bK) rfl fun a E=>qF E hd349 rfl fun a E=>ag ?_;exact ⟨(decide ((x252.length:Int)<(Z2.wrap (4+r354)))),h,_,hm357,hS,kut E⟩}}
 {
 rintro a w ⟨x269,h,m267,hm268,hS,E⟩;unfold jD at h;refine kif E rfl (fun hd271=> ?_) (fun hd271=> ?_)
 {
 have h:=aB hd271 h;refine ae (ah (qA E rfl fun a E=>qA E rfl fun a E=>ag (bw ?_)));have h:=bP h hb262;obtain rfl:=oi h
 try dsimp only
 refine f2 E ?_;exact ⟨_,(Z0 hm9 (Z0 hm27 (Z0 hm251 hm268))),(S.dropR (hS.dropL 2)),_,_,rfl,(vB (m:=m267) (k:=aT)),(au (show inR .i64 80 from aw (by decide)))⟩}
 {
 have h:=aC hd271 h;refine aQ (ae (ah (qM E rfl fun a E=> ?_)));obtain ⟨r275,hr276,h⟩:=ob h;refine st E (aG (vs:=[v253]) E rfl call82 (kY (hS:=hS) (hv254.mono hm268) hr276)) rfl ?_;rintro v280 a w ⟨m277,hm278,hS,hv279⟩ E;obtain ⟨rfl,hr281⟩:=aI hv279;refine qA E rfl fun a E=>ag (ae (ah (qM E rfl fun a E=>qM E rfl fun a E=>qB E rfl rfl (bn rfl) fun a E=> ?_)));obtain ⟨x286,hx287,h⟩:=ob h;refine st E (d6 (k:=(ai .u8)) E rfl underlying24 sizeOf5 (hv254.mono (Z0 hm268 hm278)) ⟨_,rfl⟩ ⟨_,rfl⟩ hx287 (xl:=(some (.const (.int .i64 4)))) (xh:=(some (.tmp 75)))) rfl ?_;rintro v289 a _ ⟨rfl,hv288⟩ E
 refine qM E rfl fun a E=> ?_;obtain ⟨r291,hr292,h⟩:=ob h;refine st E (aG (vs:=[v289,(.int .i64 r24.1)]) E rfl call84 (yz (hS:=hS) hv288 hr37 hr292)) rfl ?_;rintro _ a w ⟨m293,hm294,hS,v0_295,v1_296,rfl,hv0_297,hv1_298⟩ E;obtain rfl:=dG hv1_298;refine qM E rfl fun a E=>sp E (br E rfl rfl) rfl fun a E=>sp E (br E rfl rfl) rfl fun a E=>qA E rfl fun a E=>qA E rfl fun a E=>ag (ae (ae ?_))
 refine bL (fun a w=> ∃x307:Bool,∃x309:(List aa),jC x252 x255 r275 x307 x309=some r261∧ ∃m',M.le m293 m'∧ ∃(rw308:List Value),∃(cs310:List Value),GR ab 2 m' b54 cs310 v58 x309 rw308∧S W0 m' w ((b54,cs310)::(b5,cs61)::L) (tls 4 rw308++TL)∧Env 120 a [(4,pz b5),(5,.int .i64 r24.1),(6,v253),(9,.int .i64 r275),(55,.int .i64 (Z2.wrap (r24.2.2.2.fColumns+3))),(56,.int .i64 x255),(89,.bool x307)]) ?_ ?_
 {
 refine ah (qM E rfl fun a E=>sp E (jW E rfl) rfl fun a E=>qM E rfl fun a E=> ?_);rcases Z1 (!r291.2) with hd329|hd329
 {have h:=aB hd329 h;refine qX E hd329 fun a E=>qX E hd329 fun a E=>qX E hd329 fun a E=>qX E hd329 fun a E=>qX E hd329 fun a E=>qT E hd329 rfl fun a E=>ag ?_;exact ⟨true,x258,h,_,(Z3 _),rw257,cs259,(hc260.mono (Z0 hm268 (Z0 hm278 hm294))),hS,kut E⟩}
 {
 have h:=aC hd329 h;refine qG E hd329 rfl fun a E=>qG E hd329 rfl fun a E=>qG E hd329 rfl fun a E=> ?_;obtain ⟨r334,hr335,h⟩:=ob h;refine stg E rfl rfl rfl rfl hd329 (aG (vs:=[(pz b5),(.int .i64 x255),v0_295]) E rfl call85 (vm (hS:=(hS.pickL 2 [1,0] rfl rfl rfl)) (HH.mono (Z0 hm251 (Z0 hm268 (Z0 hm278 hm294))) hc62) hq63 (hc260.mono (Z0 hm268 (Z0 hm278 hm294))) hr256 hv0_297 hr335)) rfl ?_;rintro v342 a w ⟨m336,hm337,cs338,rw339,hS,hc340,hv341⟩ E;obtain rfl:=dG hv341;refine spg E rfl rfl rfl rfl hd329 (jW E rfl) rfl fun a E=>qF E hd329 rfl fun a E=>ag ?_
 exact ⟨(!r334.1),r334.2,h,_,hm337,rw339,cs338,hc340,(hS.pickL 2 [1,0] rfl rfl rfl),kut E⟩}}
 {
 rintro a w ⟨x307,x309,h,m305,hm306,rw308,cs310,hc311,hS,E⟩;unfold jC at h;refine kif E rfl (fun hd313=> ?_) (fun hd313=> ?_)
 {
 have h:=aB hd313 h;refine ae (ah (qA E rfl fun a E=>qA E rfl fun a E=>ag (bw ?_)));have h:=bP h hb262;obtain rfl:=oi h
 try dsimp only
 refine f2 E ?_;exact ⟨_,(Z0 hm9 (Z0 hm27 (Z0 hm251 (Z0 hm268 (Z0 hm278 (Z0 hm294 hm306)))))),(S.dropR (hS.dropL 2)),_,_,rfl,(vB (m:=m305) (k:=aT)),(au (show inR .i64 80 from aw (by decide)))⟩}
 {have h:=aC hd313 h;refine aQ (ah (qM E rfl fun a E=>qM E rfl fun a E=>qB E rfl rfl (bn rfl) fun a E=> ?_));obtain ⟨x319,hx320,h⟩:=ob h;refine st E (d6 (k:=(ai .u8)) E rfl underlying24 sizeOf5 (hv254.mono (Z0 hm268 (Z0 hm278 (Z0 hm294 hm306)))) ⟨_,rfl⟩ rfl hx320 (xl:=(some (.tmp 92))) (xh:=none)) rfl ?_;rintro v322 a _ ⟨rfl,hv321⟩ E;refine qA E rfl fun a E=>ag (ah (qB E rfl rfl (bn rfl) fun a E=>qM E rfl fun a E=>ag ?_));exact ⟨(x319,Z2.wrap (x255+1),x309),(Option.some.inj h).symm,_,(Z0 hm251 (Z0 hm268 (Z0 hm278 (Z0 hm294 hm306)))),v322,rw308,cs310,hv321,(am _ _),hc311,hS,kut E⟩}}}}}
 {have h:=aC hd264 h;refine cP rfl rfl ?_;have h:=bP h hb262;exact ⟨x252,x258,h,_,hm251,v253,rw257,cs259,hv254,hc260,hS,kut E⟩}}}
 {
 rintro a w ⟨x75,x79,h,m73,hm74,v76,rw78,cs80,hv77,hc81,hS,E⟩;unfold lN at h;refine ae (ae ?_);have hS:=S.dropR hS;obtain ⟨m83,hm84,hS,hv87⟩:=S.freeze hS hc81.1;obtain ⟨m85,hm86,hS,hp88⟩:=S.freezeL (k:=aT) (xx:=({ r24.2.2.2 with fL:=x79 })) hS (K6 (HH.mono (Z0 hm74 hm84) hc62) hq63 hv87);refine bL (fun a w=> ∃x92:Bool,jB r24 x79 x92=some r∧ ∃m',M.le m85 m'∧S W0 m' w L TL∧Env 120 a [(4,pz b5),(118,.bool x92)]) ?_ ?_
 {
 rcases Z1 (decide (0<(x75.length:Int))) with hd100|hd100
 {
 have h:=aB hd100 h
 refine kch (k:=16) (m:=m85) (es:=[]) (Φ:=(fun i m ws v=>match i with|0=>v=v76|1=>ei .i64 (x75.length:Int) v|2=>v=(.bool (decide (0<(x75.length:Int))))|3=>v=(.bool (decide (0<(x75.length:Int))))|4=>v=undef|5=>v=undef|6=>v=undef|7=>v=undef|8=>v=undef|9=>v=undef|10=>v=undef|11=>v=undef|12=>v=undef|13=>v=undef|14=>v=undef|15=>v=undef|_=>True)) (Q:=(fun c m ws L' TL'=>match c with|0=>L=L'∧TL=TL'|_=>False)) (cs:=[⟨0,0,false,[(6,v76)]⟩,⟨0,0,false,[]⟩,⟨0,0,false,[]⟩,⟨0,0,false,[]⟩,⟨0,0,false,[(4,pz b5)]⟩,⟨0,0,false,[]⟩,⟨0,0,false,[]⟩,⟨0,0,false,[]⟩,⟨0,0,false,[(4,pz b5)]⟩,⟨0,0,false,[]⟩,⟨0,0,false,[]⟩,⟨0,0,false,[]⟩,⟨0,0,false,[(4,pz b5)]⟩,⟨0,0,false,[]⟩,⟨0,0,false,[]⟩,⟨0,0,false,[]⟩]) mixed E hS ⟨rfl,rfl⟩ rfl rfl (by kernel_rfl) ?_ ?_ ?_ ?_
 {
 intro i m_ m2_ ws v n_ q_
 iterate 16 (rcases i with _|i;exact q_)
 exact trivial}
 {
 intro c m_ m2_ ws L_ T_ n_ hq_
 match c,hq_ with
 |0,⟨e1_,e2_⟩=>exact ⟨e1_,e2_⟩
 |_+1,hq_=>exact hq_.elim}
 {
 refine ⟨?_,?_,?_,?_,?_,?_,?_,?_,?_,?_,?_,?_,?_,?_,?_,?_,trivial⟩
 {exact cmv fun _ _=>rfl}
 {refine cp0 fun _ _ _ _ _ _ _ M' _ Z' E' T'=> ?_;have E:=E'.add (T' 0);exact cq (bh (k:=(ai .u8)) E rfl rfl underlying24 (hv77.mono (Z0 hm84 (Z0 hm86 M')))) Z' ⟨rfl,(dP (iS (hv77.mono (Z0 hm84 (Z0 hm86 M')))))⟩}
 {refine cp0 fun _ _ _ _ _ _ _ _ _ Z' E' T'=> ?_;have E:=E'.add (T' 1).1;exact cq (aR E rfl rfl jj) Z' rfl}
 {refine cp0 fun _ _ _ _ _ _ _ _ _ Z' E' T'=> ?_;have E:=E'.add (T' 2);exact cq (it E rfl) Z' rfl}
 {exact csk (gz hd100)}
 {exact csk (gz hd100)}
 {exact csk (gz hd100)}
 {exact csk (gz hd100)}
 {exact csk (gz hd100)}
 {exact csk (gz hd100)}
 {exact csk (gz hd100)}
 {exact csk (gz hd100)}
 {exact csk (gz hd100)}
 {exact csk (gz hd100)}
 {exact csk (gz hd100)}
 {exact csk (gz hd100)}}
 {intro ws_ L_ T_ m115 a w hl116 hm117 hq118 hS hd119 hn120 ho121 hT122;obtain rfl:=d7 hl116;obtain ⟨rfl,rfl⟩:=hq118;have E:=eof 16 [(4,pz b5),(6,v76)] hd119 hn120 ho121;have E:=(((E.add (hT122 3)).add (hT122 7)).add (hT122 11)).add (hT122 15);refine qX E hd100 fun a E=>qX E hd100 fun a E=>qT E hd100 rfl fun a E=>qM E rfl fun a E=>qX E rfl fun a E=>qX E rfl fun a E=>qX E rfl fun a E=>qT E rfl rfl fun a E=>ag ?_;exact ⟨true,h,_,hm117,hS,kut E⟩}}
 {
 have h:=aC hd100 h;obtain ⟨x138,hx139,x144,hx145,h⟩:=ob2 h;obtain ⟨x149,hx150,h⟩:=ob h
 refine kch (k:=16) (m:=m85) (es:=[]) (Φ:=(fun i m ws v=>match i with|0=>v=v76|1=>ei .i64 (x75.length:Int) v|2=>v=(.bool (decide (0<(x75.length:Int))))|3=>v=(.bool (decide (0<(x75.length:Int))))|4=>v=(pz b5)|5=>v=(pz b5)|6=>PR (ai .i64) m v x138.fColumns|7=>ei .i64 x138.fColumns v|8=>v=(pz b5)|9=>v=(pz b5)|10=>PR (kSl (ai .i64)) m v x144.fSort|11=>RV (kSl (ai .i64)) m v x144.fSort|12=>v=(pz b5)|13=>v=(pz b5)|14=>PR (kSl ab) m v x149.fL|15=>RV (kSl ab) m v x149.fL|_=>True)) (Q:=(fun c m ws L' TL'=>match c with|0=>L=L'∧TL=TL'|_=>False)) (cs:=[⟨0,0,false,[(6,v76)]⟩,⟨0,0,false,[]⟩,⟨0,0,false,[]⟩,⟨0,0,false,[]⟩,⟨0,0,false,[(4,pz b5)]⟩,⟨0,0,false,[]⟩,⟨0,0,false,[]⟩,⟨0,0,false,[]⟩,⟨0,0,false,[(4,pz b5)]⟩,⟨0,0,false,[]⟩,⟨0,0,false,[]⟩,⟨0,0,false,[]⟩,⟨0,0,false,[(4,pz b5)]⟩,⟨0,0,false,[]⟩,⟨0,0,false,[]⟩,⟨0,0,false,[]⟩]) mixed E hS ⟨rfl,rfl⟩ rfl rfl (by kernel_rfl) ?_ ?_ ?_ ?_
 {
 intro i m_ m2_ ws v n_ q_
 iterate 16 (rcases i with _|i;first|exact q_|exact PR.mono q_ n_|exact RV.mono q_ n_)
 exact trivial}
 {
 intro c m_ m2_ ws L_ T_ n_ hq_
 match c,hq_ with
 |0,⟨e1_,e2_⟩=>exact ⟨e1_,e2_⟩
 |_+1,hq_=>exact hq_.elim}
 {
 refine ⟨?_,?_,?_,?_,?_,?_,?_,?_,?_,?_,?_,?_,?_,?_,?_,?_,trivial⟩
 {exact cmv fun _ _=>rfl}
 {refine cp0 fun _ _ _ _ _ _ _ M' _ Z' E' T'=> ?_;have E:=E'.add (T' 0);exact cq (bh (k:=(ai .u8)) E rfl rfl underlying24 (hv77.mono (Z0 hm84 (Z0 hm86 M')))) Z' ⟨rfl,(dP (iS (hv77.mono (Z0 hm84 (Z0 hm86 M')))))⟩}
 {refine cp0 fun _ _ _ _ _ _ _ _ _ Z' E' T'=> ?_;have E:=E'.add (T' 1).1;exact cq (aR E rfl rfl jj) Z' rfl}
 {refine cp0 fun _ _ _ _ _ _ _ _ _ Z' E' T'=> ?_;have E:=E'.add (T' 2);exact cq (it E rfl) Z' rfl}
 {exact cgm (gz hd100) (fun _ _=>rfl)}
 {refine cg0 (gz hd100) fun _ _ _ _ _ _ _ M' _ Z' E' T'=> ?_;have E:=E'.add (T' 4);exact cq (oz E rfl ((sg hp88).mono M') hx139) Z' rfl}
 {refine cg0 (gz hd100) fun _ _ _ _ _ _ _ M' _ Z' E' T'=> ?_;have E:=E'.add (T' 5);exact cr (iK E om EA rfl ((pL (sg hp88) hx139).mono M')) Z' fun _ h=>h}
 {
 refine cg0 (gz hd100) fun _ _ _ m' a' _ _ _ _ Z' E' T'=> ?_;obtain ⟨v177,e178,q179⟩: ∃v,a'.tmps.getD 101 undef=v∧(PR (ai .i64) m' v x138.fColumns):=⟨_,rfl,T' 6⟩
 have E:=E'.add (e178);exact cr (bA E Z' ty3 rfl q179) Z' fun _ h=>aI h}
 {exact cgm (gz hd100) (fun _ _=>rfl)}
 {refine cg0 (gz hd100) fun _ _ _ _ _ _ _ M' _ Z' E' T'=> ?_;have E:=E'.add (T' 8);exact cq (oz E rfl ((sg hp88).mono M') hx145) Z' rfl}
 {refine cg0 (gz hd100) fun _ _ _ _ _ _ _ M' _ Z' E' T'=> ?_;have E:=E'.add (T' 9);exact cr (iK E pG AD rfl ((pL (sg hp88) hx145).mono M')) Z' fun _ h=>h}
 {
 refine cg0 (gz hd100) fun _ _ _ m' a' _ _ _ _ Z' E' T'=> ?_;obtain ⟨v191,e192,q193⟩: ∃v,a'.tmps.getD 105 undef=v∧(PR (kSl (ai .i64)) m' v x144.fSort):=⟨_,rfl,T' 10⟩
 have E:=E'.add (e192);exact cr (bA E Z' tp rfl q193) Z' fun _ h=>h}
 {exact cgm (gz hd100) (fun _ _=>rfl)}
 {refine cg0 (gz hd100) fun _ _ _ _ _ _ _ M' _ Z' E' T'=> ?_;have E:=E'.add (T' 12);exact cq (oz E rfl ((sg hp88).mono M') hx150) Z' rfl}
 {refine cg0 (gz hd100) fun _ _ _ _ _ _ _ M' _ Z' E' T'=> ?_;have E:=E'.add (T' 13);exact cr (iK E mz pE rfl ((pL (sg hp88) hx150).mono M')) Z' fun _ h=>h}
 {
 refine cg0 (gz hd100) fun _ _ _ m' a' _ _ _ _ Z' E' T'=> ?_;obtain ⟨v204,e205,q206⟩: ∃v,a'.tmps.getD 109 undef=v∧(PR (kSl ab) m' v x149.fL):=⟨_,rfl,T' 14⟩
 have E:=E'.add (e205);exact cr (bA E Z' wK rfl q206) Z' fun _ h=>h}}
 {
 intro ws_ L_ T_ m208 a w hl209 hm210 hq211 hS hd212 hn213 ho214 hT215;obtain rfl:=d7 hl209;obtain ⟨rfl,rfl⟩:=hq211;have E:=eof 16 [(4,pz b5),(6,v76)] hd212 hn213 ho214;have E:=E.add (hT215 3);obtain ⟨q221,hr222⟩:=hT215 7;have E:=E.add q221;obtain ⟨v223,E,q225⟩:=adv E (hT215 11);obtain ⟨v226,E,q228⟩:=adv E (hT215 15);obtain ⟨r229,hr230,h⟩:=ob h;refine stg E rfl rfl rfl rfl hd100 (aG (vs:=[(.int .i64 x138.fColumns),v223,v226]) E rfl call74 (j0 (hS:=hS) hr222 q225 q228 hr230)) rfl ?_;rintro v234 a w ⟨m231,hm232,hS,hv233⟩ E;obtain ⟨rfl,hr235⟩:=aI hv233
 refine spg E rfl rfl rfl rfl hd100 (aR E rfl rfl ky) rfl fun a E=>qF E hd100 rfl fun a E=>qM E rfl fun a E=> ?_;rcases Z1 (r229 != 0) with hd239|hd239
 {have h:=aB hd239 h;refine qX E hd239 fun a E=>qX E hd239 fun a E=>qX E hd239 fun a E=>qT E hd239 rfl fun a E=>ag ?_;exact ⟨true,h,_,(Z0 hm210 hm232),hS,kut E⟩}
 {have h:=aC hd239 h;refine qG E hd239 rfl fun a E=> ?_;obtain ⟨r242,hr243,h⟩:=ob h;refine stg E rfl rfl rfl rfl hd239 (aG (vs:=[(pz b5)]) E rfl call86 (tZ (hS:=hS) ((sg hp88).mono (Z0 hm210 hm232)) hr243)) rfl ?_;rintro v247 a w ⟨m244,hm245,hS,hv246⟩ E;obtain rfl:=dG hv246;refine spg E rfl rfl rfl rfl hd239 (jW E rfl) rfl fun a E=>qF E hd239 rfl fun a E=>ag ?_;exact ⟨(!r242),h,_,(Z0 hm210 (Z0 hm232 hm245)),hS,kut E⟩}}}}
 {
 rintro a w ⟨x92,h,m90,hm91,hS,E⟩;unfold jB at h;refine kif E rfl (fun hd94=> ?_) (fun hd94=> ?_)
 {
 have h:=aB hd94 h;refine ae (ah (qA E rfl fun a E=>qA E rfl fun a E=>ag (bw ?_)));obtain rfl:=oi h
 try dsimp only
 refine f2 E ?_;exact ⟨_,(Z0 hm9 (Z0 hm27 (Z0 hm74 (Z0 hm84 (Z0 hm86 hm91))))),hS,_,_,rfl,(vB (m:=m90) (k:=aT)),(au (show inR .i64 80 from aw (by decide)))⟩}
 {
 have h:=aC hd94 h;refine aQ (ae (ah (qM E rfl fun a E=>qA E rfl fun a E=>qA E rfl fun a E=>ag (bw ?_))));obtain rfl:=oi h
 try dsimp only
 refine f2 E ?_;exact ⟨_,(Z0 hm9 (Z0 hm27 (Z0 hm74 (Z0 hm84 (Z0 hm86 hm91))))),hS,_,_,rfl,((sg hp88).mono hm91),(au (show inR .i64 0 from aw (by decide)))⟩}}}}}}
theorem t7  (hS:S W0 m w L TL) {p0} (ha0:RV ab m v0 p0) {p1} (ha1:PR bp m v1 p1) {r} (h:da p0 p1=some r):
    Calls prog 91 [v0,v1].toArray w (Ret fun v w'=> ∃m',M.le m m'∧S W0 m' w' L TL∧RV cN m' v r):=by
 refine kc func91 ntmps91 fun a E=> ?_;have E:Env 8 a [(0,v0),(1,v1)]:=E;unfold da at h;refine ae (ah ?_);refine st E (iu (k:=ab) E hS rfl ha0) rfl ?_;rintro _ a w ⟨b1,cs2,rfl,hc3,hS⟩ E;refine qA E rfl fun a E=>ag (ae (ah (sp E (aL E nq rfl) rfl fun a E=> ?_)));refine st E (ax E hS rQ rfl (i:=0) rfl (zp.R_drop (aH hc3))) rfl ?_;rintro v8 a _ ⟨rfl,hv7⟩ E;refine st E (bA E hS rQ rfl ha1) rfl ?_;rintro v10 a _ ⟨rfl,hv9⟩ E;refine sp E (vt E Jg rfl rfl hv7 hv9 rfl) rfl fun a E=>qA E rfl fun a E=>ag (bw ?_);obtain rfl:=oi h
 try dsimp only
 refine f1 E ?_;exact ⟨_,(Z3 _),(hS.dropL 1),ce⟩
theorem Qk:Ctr Sz prog 90 [.rd (.sl (.st 59)),.f1 (.st 59) .bool] [.rd (.int .i64)] (fun x=>eH x.1 x.2.1):=
 ncR [] [4] func90 ntmps90 (.s .o (.s (.s .o (.b (.l ⟨[.v 8 1 (.dat (.int .i64) none)],[0,1,7],0,[]⟩ .o))) .o)) fun x=>by kernel_rfl
theorem qy  (hS:S W0 m w L TL) {p0} (ha0:RV (kSl ab) m v0 p0) {p1} (ha1:Fn1 prog ab cN m v1 p1) {r} (h:eH p0 p1=some r):
    Calls prog 90 [v0,v1].toArray w (Ret fun v w'=> ∃m',M.le m m'∧S W0 m' w' L TL∧RV (ai .i64) m' v r):=by
 refine rm (Qk W0 m w L TL [v0,v1] (p0,p1,()) r [] [] hS ⟨ha0,⟨ha1,trivial⟩⟩ h) fun v w' he=> ?_;obtain ⟨m',us,Lr,Lq,Tr,hm,Z',rfl,hR,hO⟩:=he;obtain ⟨u0,us,rfl,r0,hR0⟩:=dz hR;obtain ⟨rfl,rfl,rfl⟩:=cF hR0;have hO0:=bV hO;have hO1:=Jq hO0;obtain rfl:=cG hO1;exact ⟨m',hm,Z',r0⟩
theorem Ql {m0:M} {vc0:Value} {xc0:aK} (hc0:PR bp m0 vc0 xc0):Fn1 prog ab cN m0 (.func (.func 91) [].toArray [vc0].toArray) (fun x0=>da x0 xc0):=by
  refine ⟨91,_,rfl,call91,?_⟩;intro W0 m w L TL v0 x0 r hm hS h0 hr;refine (t7 (hS:=hS) h0 (hc0.mono hm) hr).mono ?_;intro e w' he;cases e with
  |returned v=>obtain ⟨m',h1,h2,h3⟩:=he;exact ⟨m',h1,h2,h3⟩
  |panicked ch=>exact he.elim
  |outgrown=>exact he.elim
theorem lH  (hS:S W0 m w L TL) {p0} (ha0:RV (kPt aT) m v0 p0) {p1} (ha1:RV bp m v1 p1) {r} (h:eT p0 p1=some r):
    Calls prog 37 [v0,v1].toArray w (Ret fun v w'=> ∃m',M.le m m'∧S W0 m' w' L TL∧ ∃v0_ v1_:Value,v= .tuple #[v0_,v1_]∧RV (ai .i64) m' v0_ r.1∧RV cN m' v1_ r.2):=by
 refine kc func37 ntmps37 fun a E=> ?_;have E:Env 17 a [(0,v0),(1,v1)]:=E;unfold eT at h;refine ae (ah ?_);refine st E (iu (k:=bp) E hS rfl ha1) rfl ?_;rintro _ a w ⟨b1,cs2,rfl,hc3,hS⟩ E;refine qA E rfl fun a E=>qA E rfl fun a E=>ag (ae (ah (qM E rfl fun a E=> ?_)));obtain ⟨x8,hx9,h⟩:=ob h;refine sp E (oz E rfl ha0 hx9) rfl fun a E=> ?_;refine st E (iK E mz pE rfl (pL ha0 hx9)) rfl ?_;rintro v13 a _ ⟨rfl,hp12⟩ E;refine st E (bA E hS wK rfl hp12) rfl ?_;rintro v15 a _ ⟨rfl,hv14⟩ E;obtain ⟨m16,hm17,hS,hp18⟩:=S.freezeL (k:=bp) hS hc3;refine sp E (ov E rfl rfl) rfl fun a E=> ?_
 obtain ⟨r20,hr21,h⟩:=ob h;refine st E (aG (vs:=[v15,(.func (.func 91) [].toArray [(pz b1)].toArray)]) E rfl call90 (by have q0_:=(hv14.mono hm17);have q1_:=(Ql hp18);exact qy (p0:=x8.fL) (p1:=(fun y0_=>da y0_ p1)) (hS:=hS) q0_ q1_ hr21)) rfl ?_;rintro v25 a w ⟨m22,hm23,hS,hv24⟩ E;obtain ⟨rfl,hr26⟩:=aI hv24;refine qA E rfl fun a E=>ag (ae (ah (qM E rfl fun a E=>sp E (F0 E rfl rfl) rfl fun a E=>qM E rfl fun a E=>qB E rfl rfl BJ fun a E=>qA E rfl fun a E=>qA E rfl fun a E=> ?_)));refine ag (bw ?_);obtain rfl:=oi h
 try dsimp only
 refine f2 E ?_;exact ⟨_,(Z0 hm17 hm23),hS,_,_,rfl,(au (D1 hr26 (show inR .i64 0 from aw (by decide)))),ce⟩
theorem wP  (hS:S W0 m w L TL) {p0} (ha0:RV (kPt aT) m v0 p0) {r} (h:nU p0=some r):
    Calls prog 35 [v0].toArray w (Ret fun v w'=> ∃m',M.le m m'∧S W0 m' w' L TL∧RV (ai .i64) m' v r):=by
 refine kc func35 ntmps35 fun a E=> ?_;have E:Env 8 a [(0,v0)]:=E;unfold nU at h;refine ae (ah (qA E rfl fun a E=>ag (ae (ah (qM E rfl fun a E=> ?_)))));obtain ⟨x3,hx4,h⟩:=ob h;refine sp E (oz E rfl ha0 hx4) rfl fun a E=> ?_;refine st E (iK E mz pE rfl (pL ha0 hx4)) rfl ?_;rintro v8 a _ ⟨rfl,hp7⟩ E;refine st E (bA E hS wK rfl hp7) rfl ?_;rintro v10 a _ ⟨rfl,hv9⟩ E;refine sp E (bh (k:=ab) E rfl rfl underlying50 hv9) rfl fun a E=>qA E rfl fun a E=>ag (bw ?_);obtain rfl:=oi h
 try dsimp only
 refine f1 E ?_;exact ⟨_,(Z3 _),hS,(au (dP (iS hv9)))⟩
theorem zF  (hS:S W0 m w L TL)  {r} (h:pq=some r):
    Calls prog 29 [].toArray w (Ret fun v w'=> ∃m',M.le m m'∧S W0 m' w' L TL∧RV cN m' v r):=by
 refine kc func29 ntmps29 fun a E=> ?_;have E:Env 52 a []:=E;unfold pq at h;refine ae (ah (qA E rfl fun a E=>ag (ae (ah ?_))));refine st E (gS (k:=(ai .i64)) (xs:=[0]) (vs:=[(.int .i64 0)]) E hS rfl underlying49 sizeOf3 zeroValue3 ⟨(au (show inR .i64 0 from aw (by decide))),trivial⟩ rfl (by decide)) rfl ?_;rintro v5 a w ⟨m3,hm4,hS,hv2⟩ E;refine st E (jJ (m:=m3) (k:=bp) (x0:=aK.zero) (xx:=(⟨1,0⟩:aK)) (pl:=[(0,1),(1,1)]) (pv:=[(0,.int .u64 1)]) E rfl underlying57 rfl zeroValue57 Dy rfl (.cons rfl wE (au (show inR .u64 1 from aw (by decide))) .nil)) rfl ?_;rintro v7 a _ ⟨rfl,hv6⟩ E
 refine st E (jJ (m:=m3) (k:=kAp) (x0:=Ap.zero) (xx:=(⟨2,false,2,[]⟩:Ap)) (pl:=[(0,1),(1,1),(2,1),(3,1)]) (pv:=[(0,.int .i64 2),(2,.int .i64 2)]) E rfl underlying32 rfl zeroValue32 pF rfl (.cons rfl Dp (au (show inR .i64 2 from aw (by decide))) (.cons rfl Dq (au (show inR .i64 2 from aw (by decide))) .nil))) rfl ?_;rintro v9 a _ ⟨rfl,hv8⟩ E;refine st E (gS (k:=kAp) (xs:=[(⟨2,false,2,[]⟩:Ap)]) (vs:=[v9]) E hS rfl underlying22 sizeOf32 zeroValue32 ⟨hv8,trivial⟩ rfl (by decide)) rfl ?_;rintro v13 a w ⟨m11,hm12,hS,hv10⟩ E
 refine st E (jJ (m:=m11) (k:=ab) (x0:=aa.zero) (xx:=(⟨(⟨1,0⟩:aK),[(⟨2,false,2,[]⟩:Ap)],0⟩:aa)) (pl:=[(0,2),(2,1),(3,1)]) (pv:=[(0,v7),(1,v13)]) E rfl underlying59 rfl zeroValue59 uT rfl (.cons rfl wF (hv6.mono hm12) (.cons rfl zq hv10 .nil))) rfl ?_;rintro v15 a _ ⟨rfl,hv14⟩ E;refine st E (jJ (m:=m11) (k:=bp) (x0:=aK.zero) (xx:=(⟨2,0⟩:aK)) (pl:=[(0,1),(1,1)]) (pv:=[(0,.int .u64 2)]) E rfl underlying57 rfl zeroValue57 Dy rfl (.cons rfl wE (au (show inR .u64 2 from aw (by decide))) .nil)) rfl ?_;rintro v17 a _ ⟨rfl,hv16⟩ E
 refine st E (jJ (m:=m11) (k:=kAp) (x0:=Ap.zero) (xx:=(⟨2,false,1,[]⟩:Ap)) (pl:=[(0,1),(1,1),(2,1),(3,1)]) (pv:=[(0,.int .i64 2),(2,.int .i64 1)]) E rfl underlying32 rfl zeroValue32 pF rfl (.cons rfl Dp (au (show inR .i64 2 from aw (by decide))) (.cons rfl Dq (au (show inR .i64 1 from aw (by decide))) .nil))) rfl ?_;rintro v19 a _ ⟨rfl,hv18⟩ E;refine st E (gS (k:=kAp) (xs:=[(⟨2,false,1,[]⟩:Ap)]) (vs:=[v19]) E hS rfl underlying22 sizeOf32 zeroValue32 ⟨hv18,trivial⟩ rfl (by decide)) rfl ?_;rintro v23 a w ⟨m21,hm22,hS,hv20⟩ E
 refine st E (jJ (m:=m21) (k:=ab) (x0:=aa.zero) (xx:=(⟨(⟨2,0⟩:aK),[(⟨2,false,1,[]⟩:Ap)],0⟩:aa)) (pl:=[(0,2),(2,1),(3,1)]) (pv:=[(0,v17),(1,v23)]) E rfl underlying59 rfl zeroValue59 uT rfl (.cons rfl wF (hv16.mono hm22) (.cons rfl zq hv20 .nil))) rfl ?_;rintro v25 a _ ⟨rfl,hv24⟩ E;refine st E (gS (k:=ab) (xs:=[(⟨(⟨1,0⟩:aK),[(⟨2,false,2,[]⟩:Ap)],0⟩:aa),(⟨(⟨2,0⟩:aK),[(⟨2,false,1,[]⟩:Ap)],0⟩:aa)]) (vs:=[v15,v25]) E hS rfl underlying50 sizeOf59 zeroValue59 ⟨(hv14.mono hm22),hv24,trivial⟩ rfl (by decide)) rfl ?_;rintro v29 a w ⟨m27,hm28,hS,hv26⟩ E;obtain ⟨r30,hr31,h⟩:=ob h
 refine st E (aG (vs:=[(.int .i64 1),v5,(.slice none 0 0),v29]) E rfl call31 (sO (hS:=hS) (show inR .i64 1 from aw (by decide)) (hv2.mono (Z0 hm12 (Z0 hm22 hm28))) dH hv26 hr31)) rfl ?_;rintro _ a w ⟨m32,hm33,hS,v0_34,v1_35,rfl,hv0_36,hv1_37⟩ E;obtain ⟨rfl,hr39⟩:=aI hv1_37;refine qM E rfl fun a E=>sp E (br E rfl rfl) rfl fun a E=>sp E (br E rfl rfl) rfl fun a E=>qA E rfl fun a E=>qA E rfl fun a E=>ag (ae (ah (qM E rfl fun a E=> ?_)));obtain ⟨r46,hr47,h⟩:=ob h;refine st E (aG (vs:=[v0_34]) E rfl call33 (t6 (hS:=hS) hv0_36 hr47)) rfl ?_;rintro _ a w ⟨m48,hm49,hS,v0_50,v1_51,rfl,hv0_52,hv1_53⟩ E
 obtain ⟨rfl,hr55⟩:=aI hv1_53;refine qM E rfl fun a E=>sp E (br E rfl rfl) rfl fun a E=>sp E (br E rfl rfl) rfl fun a E=>qA E rfl fun a E=>qA E rfl fun a E=>ag (ae (ae ?_));refine bL (fun a w=> ∃x63:Bool,lz r46 x63=some r∧ ∃m',M.le m48 m'∧S W0 m' w L TL∧Env 52 a [(3,v0_50),(35,.bool x63)]) ?_ ?_
 {
 refine ah (qM E rfl fun a E=>qB E rfl rfl ky fun a E=>qM E rfl fun a E=> ?_);rcases Z1 (r30.2 != 0) with hd117|hd117
 {have h:=aB hd117 h;refine qX E hd117 fun a E=>qX E hd117 fun a E=>qT E hd117 rfl fun a E=>qM E rfl fun a E=>qX E rfl fun a E=>qX E rfl fun a E=>qT E rfl rfl fun a E=>ag ?_;exact ⟨true,h,_,(Z3 _),(hS.pickT 4 [] rfl rfl rfl),kut E⟩}
 {
 have h:=aC hd117 h;refine qG E hd117 rfl fun a E=>spg E rfl rfl rfl rfl hd117 (aR E rfl rfl ky) rfl fun a E=>qF E hd117 rfl fun a E=>qM E rfl fun a E=> ?_;rcases Z1 (r46.2 != 0) with hd125|hd125
 {have h:=aB hd125 h;refine qX E hd125 fun a E=>qX E hd125 fun a E=>qT E hd125 rfl fun a E=>ag ?_;exact ⟨true,h,_,(Z3 _),(hS.pickT 4 [] rfl rfl rfl),kut E⟩}
 {have h:=aC hd125 h;refine qG E hd125 rfl fun a E=>spg E rfl rfl rfl rfl hd125 (Gb E rfl rfl underlying65 hv0_52) rfl fun a E=>qF E hd125 rfl fun a E=>ag ?_;exact ⟨r46.1.isNone,h,_,(Z3 _),(hS.pickT 4 [] rfl rfl rfl),kut E⟩}}}
 {
 rintro a w ⟨x63,h,m61,hm62,hS,E⟩;unfold lz at h;refine kif E rfl (fun hd65=> ?_) (fun hd65=> ?_)
 {
 have h:=aB hd65 h;refine ae (ah (qA E rfl fun a E=>ag (bw ?_)));obtain rfl:=oi h
 try dsimp only
 refine f1 E ?_;exact ⟨_,(Z0 hm4 (Z0 hm12 (Z0 hm22 (Z0 hm28 (Z0 hm33 (Z0 hm49 hm62)))))),hS,ce⟩}
 {
 have h:=aC hd65 h;refine aQ (ae (ah (qM E rfl fun a E=> ?_)));refine st E (jJ (m:=m61) (k:=bp) (x0:=aK.zero) (xx:=(⟨1,0⟩:aK)) (pl:=[(0,1),(1,1)]) (pv:=[(0,.int .u64 1)]) E rfl underlying57 rfl zeroValue57 Dy rfl (.cons rfl wE (au (show inR .u64 1 from aw (by decide))) .nil)) rfl ?_;rintro v69 a _ ⟨rfl,hv68⟩ E;obtain ⟨r70,hr71,h⟩:=ob h;refine st E (aG (vs:=[v0_50,v69]) E rfl call37 (lH (hS:=hS) (hv0_52.mono hm62) hv68 hr71)) rfl ?_;rintro _ a w ⟨m72,hm73,hS,v0_74,v1_75,rfl,hv0_76,hv1_77⟩ E;obtain ⟨rfl,hr79⟩:=aI hv0_76;obtain rfl:=dG hv1_77
 refine qM E rfl fun a E=>sp E (br E rfl rfl) rfl fun a E=>sp E (br E rfl rfl) rfl fun a E=>qA E rfl fun a E=>qA E rfl fun a E=>ag (ae ?_);refine bL (fun a w=> ∃x87:Bool,nh x87=some r∧ ∃m',M.le m72 m'∧S W0 m' w L TL∧Env 52 a [(0,.bool x87)]) ?_ ?_
 {
 refine ah (qM E rfl fun a E=> ?_);obtain ⟨r90,hr91,h⟩:=ob h;refine st E (aG (vs:=[v0_50]) E rfl call35 (wP (hS:=hS) (hv0_52.mono (Z0 hm62 hm73)) hr91)) rfl ?_;rintro v95 a w ⟨m92,hm93,hS,hv94⟩ E;obtain ⟨rfl,hr96⟩:=aI hv94;refine qB E rfl rfl fR fun a E=>qM E rfl fun a E=> ?_;rcases Z1 (r90==2) with hd99|hd99
 {
 have h:=aB hd99 h;refine qG E hd99 rfl fun a E=>spg E rfl rfl rfl rfl hd99 (aR E rfl rfl fR) rfl fun a E=>qT E hd99 rfl fun a E=>qM E rfl fun a E=> ?_;rcases Z1 (r70.1==1) with hd104|hd104
 {have h:=aB hd104 h;refine qG E hd104 rfl fun a E=>qT E hd104 rfl fun a E=>qA E rfl fun a E=>ag ?_;exact ⟨r70.2,h,_,hm93,hS,kut E⟩}
 {have h:=aC hd104 h;refine qX E hd104 fun a E=>qF E hd104 rfl fun a E=>qA E rfl fun a E=>ag ?_;exact ⟨false,h,_,hm93,hS,kut E⟩}}
 {have h:=aC hd99 h;refine qX E hd99 fun a E=>qX E hd99 fun a E=>qF E hd99 rfl fun a E=>qM E rfl fun a E=>qX E rfl fun a E=>qF E rfl rfl fun a E=>qA E rfl fun a E=>ag ?_;exact ⟨false,h,_,hm93,hS,kut E⟩}}
 {
 rintro a w ⟨x87,h,m85,hm86,hS,E⟩;unfold nh at h;refine bw ?_;obtain rfl:=oi h
 try dsimp only
 refine f1 E ?_;exact ⟨_,(Z0 hm4 (Z0 hm12 (Z0 hm22 (Z0 hm28 (Z0 hm33 (Z0 hm49 (Z0 hm62 (Z0 hm73 hm86)))))))),hS,ce⟩}}}
theorem rZ {σ:Type} {I:M→σ→Mem→Tls→Prop} {step:σ→aa→Option (σ×Bool)} {B:σ→Bse} {v0:Value} {m:M} {w:World} {L:Mem} {TL:Tls} {s0_:σ} {Ls_0:Mem} {TLs_0:Tls} (mono: ∀m m' s a b,M.le m m'→I m s a b→I m' s a b) (hy:yF prog (Rv1 ab) B v0 I step) (hI0_:I m s0_ Ls_0 TLs_0) (hS:S (B s0_) m w (Ls_0++L) (TLs_0++TL)) {v1:Value} {p1:(Option az)} (ha1:PR (kPt aT) m v1 p1) {v2:Value} {p2:Int} (ha2:PR (ai .i64) m v2 p2) {r:σ} (h:dJ step s0_ p1 p2=some r):
    Calls prog 140 [v0,v1,v2].toArray w (Ret fun _ w'=> ∃m' Ls' TLs',M.le m m'∧I m' r Ls' TLs'∧S (B r) m' w' (Ls'++L) (TLs'++TL)):=by
 refine wT (args:=[v0,v1,v2]) func140 rfl ntmps140 (Nat.le_of_ble_eq_true rfl) fun a E=> ?_;have E:Env 23 a [(0,v0),(1,v1),(2,v2)]:=E;unfold dJ at h;refine ae ?_;obtain ⟨x2,hx3,x9,hx10,h⟩:=ob2 h
 refine kch (k:=8) (m:=m) (es:=[]) (Φ:=(fun i m ws v=>match i with|0=>RV (kPt aT) m v p1|1=>PR aT m v x2|2=>PR (kSl ab) m v x2.fL|3=>RV (kSl ab) m v x2.fL|4=>ei .i64 p2 v|5=>RV (kSl ab) m v x9|6=>ei .i64 (x9.length:Int) v|7=>ei .i64 0 v|_=>True)) (Q:=(fun c m ws L' TL'=>match c with|0=>(Ls_0++L)=L'∧(TLs_0++TL)=TL'|_=>False)) (cs:=[⟨0,0,false,[(1,v1)]⟩,⟨0,0,false,[]⟩,⟨0,0,false,[]⟩,⟨0,0,false,[]⟩,⟨0,0,false,[(2,v2)]⟩,⟨0,0,false,[]⟩,⟨0,0,false,[]⟩,⟨0,0,false,[]⟩]) mixed E hS ⟨rfl,rfl⟩ rfl rfl (by kernel_rfl) ?_ ?_ ?_ ?_
 {
 intro i m_ m2_ ws v n_ q_
 iterate 8 (rcases i with _|i;first|exact q_|exact RV.mono q_ n_|exact PR.mono q_ n_)
 exact trivial}
 {
 intro c m_ m2_ ws L_ T_ n_ hq_
 match c,hq_ with
 |0,⟨e1_,e2_⟩=>exact ⟨e1_,e2_⟩
 |_+1,hq_=>exact hq_.elim}
 {
 refine ⟨?_,?_,?_,?_,?_,?_,?_,?_,trivial⟩
 {refine cp0 fun _ _ _ _ _ _ _ M' _ Z' E' _=> ?_;exact cr (bA E' Z' AH rfl (ha1.mono M')) Z' fun _ h=>h}
 {refine cp0 fun _ _ _ m' a' _ _ _ _ Z' E' T'=> ?_;obtain ⟨v13,E,q15⟩:=adv E' (T' 0);exact cq (oz E rfl q15 hx3) Z' ((pL q15 hx3))}
 {
 refine cp0 fun _ _ _ m' a' _ _ _ _ Z' E' T'=> ?_;obtain ⟨v17,e18,q19⟩: ∃v,a'.tmps.getD 7 undef=v∧(PR aT m' v x2):=⟨_,rfl,T' 1⟩
 have E:=E'.add (e18);exact cr (iK E mz pE rfl q19) Z' fun _ h=>h}
 {
 refine cp0 fun _ _ _ m' a' _ _ _ _ Z' E' T'=> ?_;obtain ⟨v21,e22,q23⟩: ∃v,a'.tmps.getD 8 undef=v∧(PR (kSl ab) m' v x2.fL):=⟨_,rfl,T' 2⟩
 have E:=E'.add (e22);exact cr (bA E Z' wK rfl q23) Z' fun _ h=>h}
 {refine cp0 fun _ _ _ _ _ _ _ M' _ Z' E' _=> ?_;exact cr (bA E' Z' ty3 rfl (ha2.mono M')) Z' fun _ h=>aI h}
 {
 refine cp0 fun _ _ _ m' a' _ _ _ _ Z' E' T'=> ?_;obtain ⟨v27,e28,q29⟩: ∃v,a'.tmps.getD 9 undef=v∧(RV (kSl ab) m' v x2.fL):=⟨_,rfl,T' 3⟩
 have E:=(E'.add (e28)).add (T' 4).1;exact cr (d6 (k:=ab) E rfl underlying50 sizeOf59 q29 ⟨_,rfl⟩ rfl hx10 (xl:=(some (.tmp 10))) (xh:=none)) Z' fun _ h=>h}
 {refine cp0 fun _ _ _ m' a' _ _ _ _ Z' E' T'=> ?_;obtain ⟨v35,E,q37⟩:=adv E' (T' 5);exact cq (bh (k:=ab) E rfl rfl underlying50 q37) Z' ⟨rfl,(dP (iS q37))⟩}
 {exact cmv fun _ _=>⟨rfl,(show inR .i64 0 from aw (by decide))⟩}}
 {
 intro ws_ L_ T_ m40 a w hl41 hm42 hq43 hS hd44 hn45 ho46 hT47;obtain rfl:=d7 hl41;obtain ⟨rfl,rfl⟩:=hq43;have E:=eof 8 [(0,v0),(1,v1),(2,v2)] hd44 hn45 ho46;obtain ⟨v48,e49,q50⟩: ∃v,a.tmps.getD 11 undef=v∧(RV (kSl ab) m40 v x9):=⟨_,rfl,hT47 5⟩
 have E:=(E.add (e49)).add (hT47 6).1;obtain ⟨q57,hr58⟩:=hT47 7;have E:=E.add q57;refine ag (aO ?_);refine cZ h (fun (s:Int×σ) a w=> ∃m',M.le m40 m'∧ ∃(Ls64:Mem),∃(TLs65:Tls),inR .i64 s.1∧I m' s.2 Ls64 TLs65∧S (B s.2) m' w ((Ls64++L)) ((TLs65++TL))∧Env 23 a [(0,v0),(11,v48),(12,.int .i64 (x9.length:Int)),(13,.int .i64 s.1)]) ?_ ?_
 {exact ⟨_,(Z3 _),Ls_0,TLs_0,hr58,(mono _ _ _ _ _ hm42 hI0_),hS,kut E⟩}
 {
 rintro ⟨x61,x63⟩ a w ⟨m59,hm60,Ls64,TLs65,hr62,hI66,hS,E⟩ r67 h hb68;have h:cI step x9 x61 x63=some r67:=h;unfold cI at h;refine ae (ah (qB E rfl rfl bK fun a E=>ag (ae (kif E rfl (fun hd70=> ?_) (fun hd70=> ?_)))))
 {
 have h:=aB hd70 h;refine aQ (ae (aO (ae (ah ?_))));obtain ⟨x71,hx72,h⟩:=ob h;refine st E (d5 (k:=ab) E rfl rfl underlying50 sizeOf59 (q50.mono hm60) hx72) rfl ?_;rintro v74 a _ ⟨rfl,hp73⟩ E;refine st E (bA E hS eL rfl hp73) rfl ?_;rintro v76 a _ ⟨rfl,hv75⟩ E;refine st E (cQ hS zeroValue59 rfl (cs:=Dw)) rfl ?_;rintro _ a w ⟨b77,rfl,hS⟩ E;refine st0 E (bG E hS eL aS rfl rfl hv75 (i:=0) rfl (uT _)) ?_;rintro _ w ⟨cs79,hc80,hS⟩ E;refine ag (ae (ah (qM E rfl fun a E=> ?_)));refine st E (ax E hS eL rfl (i:=0) rfl (aH hc80)) rfl ?_;rintro v84 a _ ⟨rfl,hv83⟩ E;obtain ⟨r85,hr86,h⟩:=ob h
 refine st E (aG (vs:=[v84]) E rfl call65 (vf (hS:=hS) hv83 hr86)) rfl ?_;rintro v90 a w ⟨m87,hm88,hS,hv89⟩ E;obtain ⟨r91,hr92,h⟩:=ob h;refine st E (hy _ _ L TL _ _ _ [v90] _ _ _ (mono _ _ _ _ _ hm88 hI66) (hS.dropL 1) ⟨_,rfl,hv89⟩ hr92 _ _ _ _ _ _ _ _ _ (E.eval rfl) (gR E rfl)) rfl ?_;rintro v99 a w ⟨hq95,m93,Ls96,TLs97,hm94,hI98,hS⟩ E;obtain rfl:=hq95;refine sp E (jW E rfl) rfl fun a E=>ag (kif E rfl (fun hd101=> ?_) (fun hd101=> ?_))
 {
 have h:=aB hd101 h;refine bw ?_;have h:=bP h hb68;obtain rfl:=oi h
 try dsimp only
 refine Fin.mk E (rs:=[]) rfl ra.nil ?_;exact ⟨_,Ls96,TLs97,(Z0 hm42 (Z0 hm60 (Z0 hm88 hm94))),hI98,hS⟩}
 {have h:=aC hd101 h;refine aQ (ah (qB E rfl rfl (bn rfl) fun a E=>qM E rfl fun a E=>ag ?_));exact ⟨(Z2.wrap (x61+1),r91.1),(Option.some.inj h).symm,_,(Z0 hm60 (Z0 hm88 hm94)),Ls96,TLs97,(am _ _),hI98,hS,kut E⟩}}
 {
 have h:=aC hd70 h;refine cP rfl rfl ?_;have h:=bP h hb68;obtain rfl:=oi h
 try dsimp only
 refine Fin.mk E (rs:=[]) rfl ra.nil ?_;exact ⟨_,Ls64,TLs65,(Z0 hm42 hm60),hI66,hS⟩}}}
theorem rU {m:M} {v1:Value} {p1:(Option az)} (ha1:PR (kPt aT) m v1 p1) {v2:Value} {p2:Int} (ha2:PR (ai .i64) m v2 p2) {xs:List aa} (h:dU p1 p2=some xs):yG prog (Rv1 ab) 140 [v1,v2].toArray m xs:=by
 intro σ I step B y m1 w L TL s Ls TLs r mono hle hy hI hS hf;exact rZ mono hy hI hS (ha1.mono hle) (ha2.mono hle) (qq h hf)
theorem t8  (hS:S W0 m w L TL) {p0} (ha0:RV (kPt aT) m v0 p0) {p1} (ha1:inR .i64 p1) {r} (h:gB p0 p1=some r):
    Calls prog 89 [v0,(.int .i64 p1)].toArray w (Ret fun v w'=> ∃m',M.le m m'∧S W0 m' w' L TL∧ItV prog (Rv1 ab) m' v r):=by
 refine kc func89 ntmps89 fun a E=> ?_;have E:Env 6 a [(0,v0),(1,.int .i64 p1)]:=E;unfold gB at h;refine ae (ah ?_);refine st E (iu (k:=(kPt aT)) E hS rfl ha0) rfl ?_;rintro _ a w ⟨b1,cs2,rfl,hc3,hS⟩ E;refine st E (iu (k:=(ai .i64)) E hS rfl (au ha1)) rfl ?_;rintro _ a w ⟨b5,cs6,rfl,hc7,hS⟩ E;refine qA E rfl fun a E=>ag (ae (ah ?_));obtain ⟨m10,hm11,hS,hp12⟩:=S.freezeL (k:=(kPt aT)) (hS.pickL 2 [1,0] rfl rfl rfl) hc3;obtain ⟨m13,hm14,hS,hp15⟩:=S.freezeL (k:=(ai .i64)) hS ((ai .i64).mono hm11 hc7);obtain ⟨x16,hx17,h⟩:=ob h;refine sp E (ov E rfl rfl) rfl fun a E=>qA E rfl fun a E=>ag (bw ?_)
 obtain rfl:=oi h
 try dsimp only
 refine f1 E ?_;exact ⟨_,(Z0 hm11 hm14),hS,(⟨140,_,rfl,call140,rU (hp12.mono hm14) hp15 hx17⟩:ItV prog (Rv1 ab) m13 (.func (.func 140) [].toArray [(pz b1),(pz b5)].toArray) x16)⟩
theorem wQ  (hS:S W0 m w L TL) {p0} (ha0:RV (kPt aT) m v0 p0) {r} (h:jd p0=some r):
    Calls prog 36 [v0].toArray w (Ret fun v w'=> ∃m',M.le m m'∧S W0 m' w' L TL∧ItV prog (Rv1 ab) m' v r):=by
 refine kc func36 ntmps36 fun a E=> ?_;have E:Env 5 a [(0,v0)]:=E;unfold jd at h;refine ae (ah (qA E rfl fun a E=>ag (ae (ah (qM E rfl fun a E=> ?_)))));obtain ⟨r3,hr4,h⟩:=ob h;refine st E (aG (vs:=[v0,(.int .i64 0)]) E rfl call89 (t8 (hS:=hS) ha0 (show inR .i64 0 from aw (by decide)) hr4)) rfl ?_;rintro v8 a w ⟨m5,hm6,hS,hv7⟩ E;refine qA E rfl fun a E=>ag (bw ?_);obtain rfl:=oi h
 try dsimp only
 refine f1 E ?_;exact ⟨_,hm6,hS,hv7⟩
theorem xq  (hS:S W0 m w L TL) {p0} (ha0:RV bT m v0 p0) {p1} (ha1:RV bp m v1 p1) {r} (h:lR p0 p1=some r):
    Calls prog 10 [v0,v1].toArray w (Ret fun v w'=> ∃m',M.le m m'∧S W0 m' w' L TL∧RV cN m' v r):=by
 refine Ci func10 rfl ntmps10 (Nat.le_of_ble_eq_true rfl) fun a E=> ?_;have E:Env 91 a [(0,v0),(1,v1)]:=E;unfold lR at h;refine ae (ah ?_);refine st E (iu (k:=bT) E hS rfl ha0) rfl ?_;rintro _ a w ⟨b1,cs2,rfl,hc3,hS⟩ E;refine st E (iu (k:=bp) E hS rfl ha1) rfl ?_;rintro _ a w ⟨b5,cs6,rfl,hc7,hS⟩ E;refine st E (cQ hS zeroValue4 rfl (cs:=zc4)) rfl ?_;rintro _ a w ⟨b9,rfl,hS⟩ E;refine ag (ae (ah (sp E (aL E Ht rfl) rfl fun a E=> ?_)));refine st E (ax E hS ty3 rfl (i:=2) rfl (Mx.R_drop (aH hc3))) rfl ?_;rintro v13 a _ ⟨rfl,hv12⟩ E;obtain ⟨rfl,hr14⟩:=aI hv12
 refine sp E (aL E Hu rfl) rfl fun a E=> ?_;refine st E (ax E hS tp rfl (i:=2) rfl (Mz.R_drop (aH hc3))) rfl ?_;rintro v17 a _ ⟨rfl,hv16⟩ E;refine sp E (aL E Hv rfl) rfl fun a E=> ?_;refine st E (ax E hS tp rfl (i:=2) rfl (MB.R_drop (aH hc3))) rfl ?_;rintro v20 a _ ⟨rfl,hv19⟩ E;refine sp E (aL E Dz rfl) rfl fun a E=> ?_;refine st E (ax E hS wK rfl (i:=2) rfl (MD.R_drop (aH hc3))) rfl ?_;rintro v23 a _ ⟨rfl,hv22⟩ E;obtain ⟨r24,hr25,h⟩:=ob h;refine st E (aG (vs:=[(.int .i64 p0.fColumns),v17,v20,v23]) E rfl call31 (sO (hS:=hS) hr14 hv16 hv19 hv22 hr25)) rfl ?_
 rintro _ a w ⟨m26,hm27,hS,v0_28,v1_29,rfl,hv0_30,hv1_31⟩ E;obtain ⟨rfl,hr33⟩:=aI hv1_31;refine qM E rfl fun a E=>sp E (br E rfl rfl) rfl fun a E=>sp E (br E rfl rfl) rfl fun a E=>qA E rfl fun a E=>qA E rfl fun a E=>ag (ae (ah (qM E rfl fun a E=> ?_)));obtain ⟨r40,hr41,h⟩:=ob h;refine st E (aG (vs:=[v0_28]) E rfl call33 (t6 (hS:=hS) hv0_30 hr41)) rfl ?_;rintro _ a w ⟨m42,hm43,hS,v0_44,v1_45,rfl,hv0_46,hv1_47⟩ E;obtain ⟨rfl,hr49⟩:=aI hv1_47;refine qM E rfl fun a E=>sp E (br E rfl rfl) rfl fun a E=>sp E (br E rfl rfl) rfl fun a E=> ?_;refine st E (cQ hS zeroValue65 rfl (cs:=MV)) rfl ?_
 rintro _ a w ⟨b53,rfl,hS⟩ E;refine st0 E (bG E hS AH aS rfl rfl hv0_46 (i:=0) rfl (QH _)) ?_;rintro _ w ⟨cs55,hc56,hS⟩ E;refine qA E rfl fun a E=>ag (ae (ae (ah (qM E rfl fun a E=>qB E rfl rfl ky fun a E=>ag (kif E rfl (fun hd61=> ?_) (fun hd61=> ?_))))))
 {
 have h:=aB hd61 h;refine ae (ah ?_);obtain ⟨r62,hr63,h⟩:=ob h;refine st E (aG (vs:=[]) E rfl call29 (zF (hS:=hS) hr63)) rfl ?_;rintro v67 a w ⟨m64,hm65,hS,hv66⟩ E;obtain rfl:=dG hv66;refine st0 E (bG E hS ty4 aS rfl rfl ce (i:=1) rfl (zr4 _)) ?_;rintro _ w ⟨cs68,hc69,hS⟩ E;refine ag (bw ?_);obtain rfl:=oi h
 try dsimp only
 refine Ch.nil E ?_;refine Fin.mk E (rs:=[.cell 4 4]) rfl (ra.cell E hS ty4 rfl (i:=1) rfl (aH hc69) ra.nil) ?_;exact ⟨_,(Z0 hm27 (Z0 hm43 hm65)),(hS.dropL 4),(qU (aH hc69))⟩}
 {
 have h:=aC hd61 h;refine aQ (ae (ae ?_));refine bL (fun a w=> ∃x73:Bool,ig p0 p1 r40 x73=some r∧ ∃m',M.le m42 m'∧S W0 m' w ((b53,cs55)::(b9,zc4)::(b5,cs6)::(b1,cs2)::L) (TL)∧Env 91 a [(2,pz b1),(3,pz b5),(4,pz b9),(7,pz b53),(42,.bool x73)]) ?_ ?_
 {
 refine ah (qM E rfl fun a E=>qB E rfl rfl ky fun a E=>qM E rfl fun a E=> ?_);rcases Z1 (r40.2 != 0) with hd275|hd275
 {have h:=aB hd275 h;refine qX E hd275 fun a E=>qX E hd275 fun a E=>qT E hd275 rfl fun a E=>ag ?_;exact ⟨true,h,_,(Z3 _),hS,kut E⟩}
 {have h:=aC hd275 h;refine stg E rfl rfl rfl rfl hd275 (ax E hS AH rfl (i:=0) rfl (aH hc56)) rfl ?_;rintro v278 a _ ⟨rfl,hv277⟩ E;refine spg E rfl rfl rfl rfl hd275 (Gb E rfl rfl underlying65 hv277) rfl fun a E=>qF E hd275 rfl fun a E=>ag ?_;exact ⟨r40.1.isNone,h,_,(Z3 _),hS,kut E⟩}}
 {
 rintro a w ⟨x73,h,m71,hm72,hS,E⟩;unfold ig at h;refine kif E rfl (fun hd75=> ?_) (fun hd75=> ?_)
 {
 have h:=aB hd75 h;refine ae (ah ?_);refine st0 E (bG E hS ty4 aS rfl rfl ce (i:=1) rfl (zr4 _)) ?_;rintro _ w ⟨cs76,hc77,hS⟩ E;refine ag (bw ?_);obtain rfl:=oi h
 try dsimp only
 refine Ch.nil E ?_;refine Fin.mk E (rs:=[.cell 4 4]) rfl (ra.cell E hS ty4 rfl (i:=1) rfl (aH hc77) ra.nil) ?_;exact ⟨_,(Z0 hm27 (Z0 hm43 hm72)),(hS.dropL 4),(qU (aH hc77))⟩}
 {
 have h:=aC hd75 h;refine aQ (ae (ah ?_));refine st E (cQ hS zeroValue3 rfl (cs:=zc3)) rfl ?_;rintro _ a w ⟨b79,rfl,hS⟩ E;refine st0 E (bG E hS ty3 aS rfl rfl (au (show inR .i64 0 from aw (by decide))) (i:=0) rfl (zr3 _)) ?_;rintro _ w ⟨cs81,hc82,hS⟩ E;refine ag (ae (ah ?_));refine st E (cQ hS zeroValue4 rfl (cs:=zc4)) rfl ?_;rintro _ a w ⟨b84,rfl,hS⟩ E;refine st0 E (bG E hS ty4 aS rfl rfl ce (i:=0) rfl (zr4 _)) ?_;rintro _ w ⟨cs86,hc87,hS⟩ E;refine ag (ae (ah ?_));refine st E (ax E hS AH rfl (i:=2) rfl (aH ((kPt aT).mono hm72 hc56))) rfl ?_;rintro v90 a _ ⟨rfl,hv89⟩ E
 obtain ⟨r91,hr92,h⟩:=ob h;refine st E (aG (vs:=[v90]) E rfl call36 (wQ (hS:=hS) hv89 hr92)) rfl ?_;rintro v96 a w ⟨m93,hm94,hS,hv95⟩ E;refine qA E rfl fun a E=>ag (ae (ae (ah (qM E rfl fun a E=>sp E (H1 E rfl rfl underlying76 hv95) rfl fun a E=>ag (kif E rfl (fun hx_=>absurd (hx_.symm.trans rfl) (by decide)) (fun hx_=> ?_))))));refine aQ (ae (ae (ah (qM E rfl fun a E=>ag (aO ?_)))));obtain ⟨y195,hy196,h⟩:=ob h
 refine zK (Rv:=(Rv1 ab)) (fun (s:Bool×Int×Bool) (x:aa)=>eK p1 r40 s.1 s.2.1 s.2.2 x) (fun _=> .ret) [] (fun (m':M) (s:Bool×Int×Bool) (Ls_:Mem) (TLs_:Tls)=> ∃(cs104:List Value),∃(cs107:List Value),∃(cs110:List Value),M.le m93 m'∧cN.R m' cs104 s.1∧(ai .i64).R m' cs107 s.2.1∧cN.R m' cs110 s.2.2∧Ls_=[(b84,cs104),(b79,cs107),(b53,cs55),(b9,cs110),(b5,cs6),(b1,cs2)]∧TLs_=[]) (Ls:=[(b84,cs86),(b79,cs81),(b53,cs55),(b9,zc4),(b5,cs6),(b1,cs2)]) (TLs:=[]) (s0:=(false,0,false)) (sf:=y195.1) (bf:=y195.2) E hS rfl hv95 (by decide) (fun _ _ _ h=>zJ h) (by rintro m1_ m2_ s_ a_ b_ n_ ⟨cs104,cs107,cs110,hl_,hf0_,hf1_,hf2_,e1_,e2_⟩;exact ⟨cs104,cs107,cs110,hl_.trans n_,cN.mono n_ hf0_,(ai .i64).mono n_ hf1_,cN.mono n_ hf2_,e1_,e2_⟩) ⟨cs86,cs81,zc4,Z3 _,(cN.mono hm94 hc87),((ai .i64).mono hm94 hc82),(zr4 _),rfl,rfl⟩ hy196 ?_ ?_
 {
 intro lid_ W1_ W0 m101 w L TL s_ Ls_ TLs_ vs_ x112 s113 b114 a or_ ob_ hI115 hS hR116 h E hT117;obtain ⟨x103,x106,x109⟩:=s_;obtain ⟨cs104,cs107,cs110,hm102,hc105,hc108,hc111,rfl,rfl⟩:=hI115;have h:eK p1 r40 x103 x106 x109 x112=some (s113,b114):=h;unfold eK at h;obtain ⟨v118,rfl,hv119⟩:=hR116;refine ah ?_;refine st E (cQ hS zeroValue59 rfl (cs:=Dw)) rfl ?_;rintro _ a w ⟨b120,rfl,hS⟩ E;refine st0 E (bG E hS eL aS rfl rfl hv119 (i:=0) rfl (uT _)) ?_;rintro _ w ⟨cs122,hc123,hS⟩ E;refine ag ?_;obtain ⟨hb_,hS⟩:=hT117 _ _ _ _ hS;refine ⟨hb_,?_⟩;refine aO (ae (ah ?_))
 refine st E (ax E hS AH rfl (i:=3) rfl (aH ((kPt aT).mono (Z0 hm72 (Z0 hm94 hm102)) hc56))) rfl ?_;rintro v126 a _ ⟨rfl,hv125⟩ E;refine sp E (aL E nq rfl) rfl fun a E=> ?_;refine st E (ax E hS rQ rfl (i:=0) rfl (zp.R_drop (aH hc123))) rfl ?_;rintro v129 a _ ⟨rfl,hv128⟩ E;obtain ⟨r130,hr131,h⟩:=ob h;refine st E (aG (vs:=[v126,v129]) E rfl call37 (lH (hS:=hS) hv125 hv128 hr131)) rfl ?_;rintro _ a w ⟨m132,hm133,hS,v0_134,v1_135,rfl,hv0_136,hv1_137⟩ E;obtain ⟨rfl,hr139⟩:=aI hv0_136;obtain rfl:=dG hv1_137
 refine qM E rfl fun a E=>sp E (br E rfl rfl) rfl fun a E=>sp E (br E rfl rfl) rfl fun a E=>qA E rfl fun a E=>qA E rfl fun a E=>ag (ae (ae ?_));refine bL (fun a w=> ∃x147:Bool,ie p1 x103 x106 x109 x112 x147=some (s113,b114)∧ ∃m',M.le m132 m'∧S W0 m' w ((b120,cs122)::(b84,cs104)::(b79,cs107)::(b53,cs55)::(b9,cs110)::(b5,cs6)::(b1,cs2)::L) (TL)∧Env 91 a [(2,pz b1),(3,pz b5),(4,pz b9),(7,pz b53),(9,pz b79),(10,pz b84),(12,pz b120),(47,v96),(62,.bool x147)]) ?_ ?_
 {
 refine ah (qM E rfl fun a E=> ?_);refine st E (ax E hS ty3 rfl (i:=2) rfl (aH ((ai .i64).mono hm133 hc108))) rfl ?_;rintro v186 a _ ⟨rfl,hv185⟩ E;obtain ⟨rfl,hr187⟩:=aI hv185;refine qB E rfl rfl ky fun a E=>qM E rfl fun a E=> ?_;rcases Z1 (r130.1 != x106) with hd190|hd190
 {have h:=aB hd190 h;refine qX E hd190 fun a E=>qX E hd190 fun a E=>qT E hd190 rfl fun a E=>ag ?_;exact ⟨true,h,_,(Z3 _),hS,kut E⟩}
 {have h:=aC hd190 h;refine qG E hd190 rfl fun a E=>spg E rfl rfl rfl rfl hd190 (jW E rfl) rfl fun a E=>qF E hd190 rfl fun a E=>ag ?_;exact ⟨(!r130.2),h,_,(Z3 _),hS,kut E⟩}}
 {
 rintro a w ⟨x147,h,m145,hm146,hS,E⟩;unfold ie at h;refine kif E rfl (fun hd149=> ?_) (fun hd149=> ?_)
 {
 have h:=aB hd149 h;refine ae (ah ?_);refine st0 E (bG E hS ty4 aS rfl rfl ce (i:=4) rfl (cN.mono (Z0 hm133 hm146) hc111)) ?_;rintro _ w ⟨cs150,hc151,hS⟩ E;refine ag (bw ?_);cases h
 try dsimp only
 exact ⟨rfl,rfl,_,[(b84,cs104),(b79,cs107),(b53,cs55),(b9,cs150),(b5,cs6),(b1,cs2)],[],(Z0 hm133 hm146),⟨cs104,cs107,cs150,(Z0 hm102 (Z0 hm133 hm146)),(cN.mono (Z0 hm133 hm146) hc105),((ai .i64).mono (Z0 hm133 hm146) hc108),hc151,rfl,rfl⟩,(hS.pickL 7 [1,2,3,4,5,6] rfl rfl rfl)⟩}
 {
 have h:=aC hd149 h;refine aQ (ae ?_);refine bL (fun a w=> ∃x155:Bool,ic x106 x109 x155=some (s113,b114)∧ ∃m',M.le m145 m'∧ ∃(cs156:List Value),cN.R m' cs156 x155∧S W0 m' w ((b120,cs122)::(b84,cs156)::(b79,cs107)::(b53,cs55)::(b9,cs110)::(b5,cs6)::(b1,cs2)::L) (TL)∧Env 91 a [(2,pz b1),(3,pz b5),(4,pz b9),(7,pz b53),(9,pz b79),(10,pz b84),(47,v96)]) ?_ ?_
 {
 refine ah ?_;refine st E (ax E hS ty4 rfl (i:=1) rfl (aH (cN.mono (Z0 hm133 hm146) hc105))) rfl ?_;rintro v167 a _ ⟨rfl,hv166⟩ E;obtain rfl:=dG hv166;refine qM E rfl fun a E=> ?_;rcases Z1 x103 with hd169|hd169
 {have h:=aB hd169 h;refine qX E hd169 fun a E=>qX E hd169 fun a E=>qX E hd169 fun a E=>qX E hd169 fun a E=>qT E hd169 rfl fun a E=> ?_;refine st0 E (bG E hS ty4 aS rfl rfl ce (i:=1) rfl (cN.mono (Z0 hm133 hm146) hc105)) ?_;rintro _ w ⟨cs171,hc172,hS⟩ E;refine ag ?_;exact ⟨true,h,_,(Z3 _),cs171,hc172,hS,kut E⟩}
 {
 have h:=aC hd169 h;refine spg E rfl rfl rfl rfl hd169 (aL E nq rfl) rfl fun a E=> ?_;refine stg E rfl rfl rfl rfl hd169 (ax E hS rQ rfl (i:=0) rfl (zp.R_drop (aH (ab.mono (Z0 hm133 hm146) hc123)))) rfl ?_;rintro v176 a _ ⟨rfl,hv175⟩ E;refine stg E rfl rfl rfl rfl hd169 (ax E hS rQ rfl (i:=5) rfl (aH (bp.mono (Z0 hm27 (Z0 hm43 (Z0 hm72 (Z0 hm94 (Z0 hm102 (Z0 hm133 hm146)))))) hc7))) rfl ?_;rintro v178 a _ ⟨rfl,hv177⟩ E;refine spg E rfl rfl rfl rfl hd169 (vt E Jg rfl rfl hv175 hv177 rfl) rfl fun a E=>qF E hd169 rfl fun a E=> ?_
 refine st0 E (bG E hS ty4 aS rfl rfl ce (i:=1) rfl (cN.mono (Z0 hm133 hm146) hc105)) ?_;rintro _ w ⟨cs181,hc182,hS⟩ E;refine ag ?_;exact ⟨(decide (x112.fId=p1)),h,_,(Z3 _),cs181,hc182,hS,kut E⟩}}
 {
 rintro a w ⟨x155,h,m153,hm154,cs156,hc157,hS,E⟩;unfold ic at h;refine ah ?_;refine st E (ax E hS ty3 rfl (i:=2) rfl (aH ((ai .i64).mono (Z0 hm133 (Z0 hm146 hm154)) hc108))) rfl ?_;rintro v160 a _ ⟨rfl,hv159⟩ E;obtain ⟨rfl,hr161⟩:=aI hv159;refine qB E rfl rfl (bn rfl) fun a E=> ?_;refine st0 E (bG E hS ty3 aS rfl rfl (au (am _ _)) (i:=2) rfl ((ai .i64).mono (Z0 hm133 (Z0 hm146 hm154)) hc108)) ?_;rintro _ w ⟨cs163,hc164,hS⟩ E;refine ag ?_;cases h
 try dsimp only
 exact ⟨rfl,_,[(b84,cs156),(b79,cs163),(b53,cs55),(b9,cs110),(b5,cs6),(b1,cs2)],[],(Z0 hm133 (Z0 hm146 hm154)),⟨cs156,cs163,cs110,(Z0 hm102 (Z0 hm133 (Z0 hm146 hm154))),hc157,hc164,(cN.mono (Z0 hm133 (Z0 hm146 hm154)) hc111),rfl,rfl⟩,(hS.pickL 7 [1,2,3,4,5,6] rfl rfl rfl)⟩}}}}
 {
 intro D197 m201 w a Ls_ TLs_ hm202 E hI115 hS hk199 hB200;obtain ⟨cs204,cs205,cs206,_,hc207,hc208,hc209,rfl,rfl⟩:=hI115;obtain ⟨W0,hW198⟩: ∃W9,W9=W0.put D197 (.deferred (some [])):=⟨_,rfl⟩
 rw [←hW198] at hS;rcases Z1 y195.2 with hb203|hb203
 {
 have h:=aB hb203 h;rw [if_pos hb203];refine ae (ah ?_);refine st E (ax E hS AH rfl (i:=2) rfl (aH ((kPt aT).mono (Z0 hm72 (Z0 hm94 hm202)) hc56))) rfl ?_;rintro v211 a _ ⟨rfl,hv210⟩ E;refine st E (ax E hS rQ rfl (i:=4) rfl (aH (bp.mono (Z0 hm27 (Z0 hm43 (Z0 hm72 (Z0 hm94 hm202)))) hc7))) rfl ?_;rintro v213 a _ ⟨rfl,hv212⟩ E;obtain ⟨r214,hr215,h⟩:=ob h;refine st E (aG (vs:=[v211,v213]) E rfl call37 (lH (hS:=hS) hv210 hv212 hr215)) rfl ?_;rintro _ a w ⟨m216,hm217,hS,v0_218,v1_219,rfl,hv0_220,hv1_221⟩ E;obtain ⟨rfl,hr223⟩:=aI hv0_220;obtain rfl:=dG hv1_221
 refine qM E rfl fun a E=>sp E (br E rfl rfl) rfl fun a E=>sp E (br E rfl rfl) rfl fun a E=>qA E rfl fun a E=>qA E rfl fun a E=>ag (ae ?_);refine bL (fun a w=> ∃x231:Bool,fF x231=some r∧ ∃m',M.le m216 m'∧ ∃(cs232:List Value),cN.R m' cs232 x231∧S W0 m' w ((b84,cs204)::(b79,cs205)::(b53,cs55)::(b9,cs232)::(b5,cs6)::(b1,cs2)::L) (TL)∧ay [D197] 91 a [(4,pz b9)]) ?_ ?_
 {
 refine ah ?_;obtain ⟨r235,hr236,h⟩:=ob h;refine st E (aG (vs:=[]) E rfl call29 (zF (hS:=hS) hr236)) rfl ?_;rintro v240 a w ⟨m237,hm238,hS,hv239⟩ E;obtain rfl:=dG hv239;refine qM E rfl fun a E=> ?_;rcases Z1 r235 with hd242|hd242
 {
 have h:=aB hd242 h;refine qG E hd242 rfl fun a E=> ?_;refine stg E rfl rfl rfl rfl hd242 (ax E hS ty4 rfl (i:=0) rfl (aH (cN.mono (Z0 hm217 hm238) hc207))) rfl ?_;rintro v245 a _ ⟨rfl,hv244⟩ E;obtain rfl:=dG hv244;refine spg E rfl rfl rfl rfl hd242 (FZ E rfl rfl underlying4) rfl fun a E=>qT E hd242 rfl fun a E=>qM E rfl fun a E=> ?_;rcases Z1 (r214.2==y195.1.1) with hd249|hd249
 {
 have h:=aB hd249 h;refine stg E rfl rfl rfl rfl hd249 (ax E hS ty3 rfl (i:=1) rfl (aH ((ai .i64).mono (Z0 hm217 hm238) hc208))) rfl ?_;rintro v251 a _ ⟨rfl,hv250⟩ E;obtain ⟨rfl,hr252⟩:=aI hv250;refine spg E rfl rfl rfl rfl hd249 (aL E Dz rfl) rfl fun a E=> ?_;refine stg E rfl rfl rfl rfl hd249 (ax E hS wK rfl (i:=5) rfl (MD.R_drop (aH (bT.mono (Z0 hm27 (Z0 hm43 (Z0 hm72 (Z0 hm94 (Z0 hm202 (Z0 hm217 hm238)))))) hc3)))) rfl ?_;rintro v255 a _ ⟨rfl,hv254⟩ E
 refine spg E rfl rfl rfl rfl hd249 (bh (k:=ab) E rfl rfl underlying50 hv254) rfl fun a E=>spg E rfl rfl rfl rfl hd249 (aR E rfl rfl fR) rfl fun a E=>qT E hd249 rfl fun a E=> ?_;refine st0 E (bG E hS ty4 aS rfl rfl ce (i:=3) rfl (cN.mono (Z0 hm217 hm238) hc209)) ?_;rintro _ w ⟨cs259,hc260,hS⟩ E;refine ag ?_;exact ⟨(y195.1.2.1==(p0.fL.length:Int)),h,_,hm238,cs259,hc260,hS,kut E⟩}
 {have h:=aC hd249 h;refine qX E hd249 fun a E=>qX E hd249 fun a E=>qX E hd249 fun a E=>qX E hd249 fun a E=>qX E hd249 fun a E=>qF E hd249 rfl fun a E=> ?_;refine st0 E (bG E hS ty4 aS rfl rfl ce (i:=3) rfl (cN.mono (Z0 hm217 hm238) hc209)) ?_;rintro _ w ⟨cs263,hc264,hS⟩ E;refine ag ?_;exact ⟨false,h,_,hm238,cs263,hc264,hS,kut E⟩}}
 {have h:=aC hd242 h;refine qX E hd242 fun a E=>qX E hd242 fun a E=>qX E hd242 fun a E=>qF E hd242 rfl fun a E=>qM E rfl fun a E=>qX E rfl fun a E=>qX E rfl fun a E=>qX E rfl fun a E=>qX E rfl fun a E=>qX E rfl fun a E=> ?_;refine qF E rfl rfl fun a E=> ?_;refine st0 E (bG E hS ty4 aS rfl rfl ce (i:=3) rfl (cN.mono (Z0 hm217 hm238) hc209)) ?_;rintro _ w ⟨cs269,hc270,hS⟩ E;refine ag ?_;exact ⟨false,h,_,hm238,cs269,hc270,hS,kut E⟩}}
 {
 rintro a w ⟨x231,h,m229,hm230,cs232,hc233,hS,E⟩;unfold fF at h;refine bw ?_;obtain rfl:=oi h
 try dsimp only
 have hS:=hS;rw [hW198] at hS;refine Ch.shut E hS hk199 hB200 fun a w hS E=> ?_;refine Ch.nil E ?_;refine Fin.mk E (rs:=[.cell 4 4]) rfl (ra.cell E hS ty4 rfl (i:=3) rfl (aH hc233) ra.nil) ?_;exact ⟨_,(Z0 hm27 (Z0 hm43 (Z0 hm72 (Z0 hm94 (Z0 hm202 (Z0 hm217 hm230)))))),(hS.dropL 6),(qU (aH hc233))⟩}}
 {
 have h:=aC hb203 h;rw [if_neg (by rw [hb203];decide)]
 try dsimp only
 refine bw ?_;obtain rfl:=oi h
 try dsimp only
 have hS:=hS;rw [hW198] at hS;refine Ch.shut E hS hk199 hB200 fun a w hS E=> ?_;refine Ch.nil E ?_;refine Fin.mk E (rs:=[.cell 4 4]) rfl (ra.cell E hS ty4 rfl (i:=3) rfl (aH hc209) ra.nil) ?_;exact ⟨_,(Z0 hm27 (Z0 hm43 (Z0 hm72 (Z0 hm94 hm202)))),(hS.dropL 6),(qU (aH hc209))⟩}}}}}
end
open Go.RowKit Go.ChangeShapes Go.ChangeAt Go.WideShapes
section
variable {P:Program} {H:Type} {enc:TypeId×Value→H}
theorem vh (hl:laidOutB P=true) {W W':World} {base:Nat} {sp':Nat→Bool}: ∀{ts:List TypeId} {vs:List Value} {ds:List (DataW H)} {ps:List MemPlace},(∀t∈ts,P.readableRec t=true∧t<P.types.size)→
  DataW.TrodAll enc P W base (fun _=>true) true ts vs ds ps→(∀p∈ps,W.sameAt W' p)→(∀p∈ps,sp' p.block=true)→DataW.TrodAll enc P W' base sp' true ts vs ds ps
 |[],[],[],_,_,h,_,_=>h
 |[],[],_::_,_,_,h,_,_=>h.elim
 |[],_::_,_,_,_,h,_,_=>h.elim
 |_::_,[],_,_,_,h,_,_=>h.elim
 |_::_,_::_,[],_,_,h,_,_=>h.elim
 |t::ts,v::vs,d::ds,ps,ht,h,hs,hp=>by
  obtain ⟨p,q,h1,h2,rfl⟩:=h;refine ⟨p,q,WideElems.Trod_stays hl (ht t (by simp)).1 (ht t (by simp)).2 h1 (fun x hx=>hs x (by simp [hx])) (fun x hx=>hp x (by simp [hx])),vh hl (fun t h=>ht t (by simp [h])) h2 (fun x hx=>hs x (by simp [hx])) (fun x hx=>hp x (by simp [hx])),rfl⟩
theorem HI {f:Func} {s:ChangeSpec} {apart fresh handsOn again:Bool} {W W':World} {args:Array Value} {ds gs:List (DataW H)} {before:List MemPlace} {tb:TypeId}
  (hW:DataW.Whole enc P f.params.toList s.vars apart W args.toList ds gs before) (hl:laidOutB P=true) (ht: ∀t∈f.params.toList,P.readableRec t=true∧t<P.types.size)
  (hvars:s.vars=[]) (hr:f.resultTypes= #[tb]) (hb:P.underlying tb=some .bool) (hfn:s.fn H (ds++gs)={ results:=[.lit (.bool true)],args:=ds }) (hB:Below W.heap.size W W'):
  s.post enc P f apart fresh handsOn again W args (.bool true) W':=by
 have hlt:=fun p hp=>hW.lt p hp;have hW2:=hW;obtain ⟨p,q,hA,hV,hps,hz,hn⟩:=hW2;rw [hvars] at hV;obtain ⟨hg,hq⟩:=trodVars_none hV;have hbp:before=p:=by rw [hps,hq];simp
 have hres: ∀(b:Nat) (sp:Nat→Bool) (hd:Bool),DataW.TrodAll enc P W' b sp hd f.resultTypes.toList ((Value.bool true).resultList f.resultTypes.size) (s.fn H (ds++gs)).results []:=fun b sp hd=>by
  rw [hr,hfn];exact trodAll_cons_mk (shut_bool hb _) trodAll_mk0
 have hargs: ∀sp:Nat→Bool,(∀x∈before,sp x.block=true)→DataW.TrodAll enc P W' 0 sp true f.params.toList args.toList (s.fn H (ds++gs)).args p:=fun sp hsp=>by
  rw [hfn];refine vh hl ht hA (fun x hx=>hB.same (hlt x (by rw [hbp];exact hx))) (fun x hx=>hsp x (by rw [hbp];exact hx))
 have hvars': ∀sp:Nat→Bool,DataW.TrodVars enc P W' sp s.vars (s.fn H (ds++gs)).vars []:=fun sp=>by
  rw [hvars,hfn];exact rfl
 have hold: ∀x∈before,(fun b=>decide (b<W.heap.size)) x.block=true:=fun x hx=>by simpa using hlt x hx
 refine ⟨ds,gs,before,[],p,[],hW,hres _ _ _,hargs _ hold,hvars' _,hB.frame _,fun _=> ?_⟩;refine ⟨ok_one hr rfl (okWide_bool_mk hb _),_,_,([]++p)++[],⟨[]++p,[],trodAll_append (hargs _ (fun _ _=>rfl)) (hres _ _ _),hvars' _,rfl,?_,?_⟩,?_⟩
 ·intro b off hp
  have hm:MemPlace.cell b off∈before:=by rw [hbp];simpa using hp
  have:=hlt _ hm;rw [hB.frozen (p:=⟨b,off,none⟩) this];exact hz b off hm
 ·intro ha
  have:=hn ha;rw [hbp] at this;simpa using this
 ·intro x hx _
  rw [hbp];simpa using hx
structure Okw (P:Program) (W:World) (r:Reach) (b:Nat) (t:TypeId) (v:Value):Prop where
 ok:Value.okWide P W r b t v
theorem HJ {W:World} {r:Reach} {b0:Nat} {ts:Array TypeId} {args:Array Value} (h: ∀(j:Nat) t v,ts[j]? =some t→args[j]? =some v→Value.okWide P W r b0 t v) (j:Nat) {t:TypeId} {v:Value} (h1:ts[j]? =some t) (h2:args[j]? =some v):Okw P W r b0 t v:=
 ⟨h j t v h1 h2⟩
end
theorem K7 {α:Type} (xs:List α):(xs.map fun _=>1).sum=xs.length:=by
 induction xs with
 |nil=>rfl
 |cons a r ih=>simp [ih];omega
theorem HK {α:Type} (f:α→Nat) (xs:List α) (h: ∀x,1≤f x):xs.length≤(xs.map f).sum:=by
 induction xs with
 |nil=>simp
 |cons a r ih=>have:=h a;simp;omega
open Go.ChangeShapes Go.WideShapes Go.ChangeAt Go.RowKit
theorem own:ownKnob prog.godebug=none:=by kernel_rfl
theorem K8:laidOutB prog=true:=by kernel_rfl
theorem Ji {H:Type} (d:DataW H):1≤Rows.uptoBulk d:=by
 cases d with
 |lit l=>cases l<;>simp [Rows.uptoBulk]
 |nil=>simp [Rows.uptoBulk]
 |ptr d=>simp [Rows.uptoBulk]
 |slice elems spare=>simp [Rows.uptoBulk]
 |agg parts=>simp [Rows.uptoBulk]
 |iface t d=>simp [Rows.uptoBulk]
 |map entries=>simp [Rows.uptoBulk]
 |held h=>simp [Rows.uptoBulk]
def OW (H:Type):EM H:={
 b:=Rows.uptoBulk
 ba:=Rows.uptoBulkAll
 str:=fun s=>by simp [Rows.uptoBulk]
 one:=Ji
 slice:=fun e s=>by simp [Rows.uptoBulk]
 agg:=fun l=>by simp [Rows.uptoBulk]
 nil:=by simp [Rows.uptoBulkAll]
 cons:=fun d r=>by simp [Rows.uptoBulkAll]}
theorem rd3:Rd prog 3 (ai .i64) (fun _=>1):=vA underlying3
def Qm:Int×Bool×Int×List Int→Ap:=fun x=>⟨x.1,x.2.1,x.2.2.1,x.2.2.2⟩
def BV:Int×Bool×Int×List Int→Nat:=fun x=>1+(1+(1+(x.2.2.2.length+1)))
theorem Q4:Rd prog 32 kAp (fun y=>BV (Ap.pr y)+1):=by
 refine sd (gi:=Qm) (sz:=BV) underlying32 (by kernel_rfl) ?_ (fun x=>rfl);show RdF prog (_::_::_::_::[]) 0 (bS (ai .i64) (bS cN (bS (ai .i64) qn))) (fun x=>1+(1+(1+(x.2.2.2.length+1))));refine kz (k:=ai .i64) (sz:=fun _=>1) (k':=bS cN (bS (ai .i64) qn)) (sz':=fun x=>1+(1+(x.2.2.length+1))) (vA underlying3) rfl (by kernel_rfl) ?_;refine kz (k:=cN) (sz:=fun _=>1) (k':=bS (ai .i64) qn) (sz':=fun x=>1+(x.2.length+1)) (JT underlying4) rfl (by kernel_rfl) ?_;refine kz (k:=ai .i64) (sz:=fun _=>1) (k':=qn) (sz':=fun x=>x.length+1) (vA underlying2) rfl (by kernel_rfl) ?_
 exact w6 (k:=qn) (sz:=fun x=>x.length+1) (Lk underlying9) rfl (by kernel_rfl)
def u3 (xs:List Ap):Nat:=(xs.map fun y=>BV (Ap.pr y)+1).sum+1
theorem Q5:Rd prog 22 (kSl kAp) u3:=xP underlying22 (by kernel_rfl) Q4
theorem OX:Rd prog 54 (ai .u64) (fun _=>1):=vA underlying54
theorem Q6:Rd prog 55 (ai .u32) (fun _=>1):=vA underlying55
def Q7:Int×Int→aK:=fun x=>⟨x.1,x.2⟩
theorem OY:Rd prog 57 bp (fun _=>1+1+1):=by
 refine sd (gi:=Q7) (sz:=fun _:Int×Int=>1+1) underlying57 (by kernel_rfl) ?_ (fun x=>rfl);show RdF prog (_::_::[]) 0 (bS (ai .u64) (ai .u32)) (fun _=>1+1);refine kz (k:=ai .u64) (sz:=fun _=>1) (k':=ai .u32) (sz':=fun _:Int=>1) OX rfl (by kernel_rfl) ?_;exact w6 (k:=ai .u32) (sz:=fun _=>1) Q6 rfl (by kernel_rfl)
def Qn:aK×List Ap×Int→aa:=fun x=>⟨x.1,x.2.1,x.2.2⟩
def qS (y:aa):Nat:=(1+1+1)+(u3 y.fRow+1)+1
theorem Q8:Rd prog 59 ab qS:=by
 refine sd (gi:=Qn) (sz:=fun x:aK×List Ap×Int=>(1+1+1)+(u3 x.2.1+1)) underlying59 (by kernel_rfl) ?_ (fun x=>rfl);show RdF prog (_::_::_::[]) 0 (bS bp (bS (kSl kAp) (ai .u64))) (fun x=>(1+1+1)+(u3 x.2.1+1));refine kz (k:=bp) (sz:=fun _=>1+1+1) (k':=bS (kSl kAp) (ai .u64)) (sz':=fun x:List Ap×Int=>u3 x.1+1) OY rfl (by kernel_rfl) ?_;refine kz (k:=kSl kAp) (sz:=u3) (k':=ai .u64) (sz':=fun _:Int=>1) Q5 rfl (by kernel_rfl) ?_;exact w6 (k:=ai .u64) (sz:=fun _=>1) OX rfl (by kernel_rfl)
def l9 (xs:List aa):Nat:=(xs.map qS).sum+1
theorem Q9:Rd prog 50 (kSl ab) l9:=xP underlying50 (by kernel_rfl) Q8
def jI (xs:List Int):Nat:=(xs.map fun _=>1).sum+1
theorem OZ:Rd prog 49 (kSl (ai .i64)) jI:=xP underlying49 (by kernel_rfl) rd3
def O0:Int×List Int×List Int×List aa→cC:=fun x=>⟨x.1,x.2.1,x.2.2.1,x.2.2.2⟩
def DJ (y:cC):Nat:=1+(jI y.fSort+(jI y.fKinds+l9 y.fL))+1
theorem Ra:Rd prog 62 bT DJ:=by
 refine sd (gi:=O0) (sz:=fun x:Int×List Int×List Int×List aa=>1+(jI x.2.1+(jI x.2.2.1+l9 x.2.2.2))) underlying62 (by kernel_rfl) ?_ (fun x=>rfl);show RdF prog (_::_::_::_::[]) 0 (bS (ai .i64) (bS (kSl (ai .i64)) (bS (kSl (ai .i64)) (kSl ab)))) (fun x=>1+(jI x.2.1+(jI x.2.2.1+l9 x.2.2.2)));refine kz (k:=ai .i64) (sz:=fun _=>1) (k':=bS (kSl (ai .i64)) (bS (kSl (ai .i64)) (kSl ab))) (sz':=fun x=>jI x.1+(jI x.2.1+l9 x.2.2)) rd3 rfl (by kernel_rfl) ?_;refine kz (k:=kSl (ai .i64)) (sz:=jI) (k':=bS (kSl (ai .i64)) (kSl ab)) (sz':=fun x=>jI x.1+l9 x.2) OZ rfl (by kernel_rfl) ?_
 refine kz (k:=kSl (ai .i64)) (sz:=jI) (k':=kSl ab) (sz':=l9) OZ rfl (by kernel_rfl) ?_;exact w6 (k:=kSl ab) (sz:=l9) Q9 rfl (by kernel_rfl)
theorem Rb:prog.readableRec 57=true∧57<prog.types.size:=⟨by kernel_rfl,of_decide_eq_true (by kernel_rfl)⟩
theorem Rc:prog.readableRec 62=true∧62<prog.types.size:=⟨by kernel_rfl,of_decide_eq_true (by kernel_rfl)⟩
theorem HL {n:Int} (h:inR .i64 n):cY n:=by
 have:=mL.1 h;have h1:IntKind.min .i64= -9223372036854775808:=by decide
 have h2:IntKind.max .i64=9223372036854775807:=by decide
 unfold cY;omega
theorem HM {n:Int} (h:inR .u64 n):0≤n∧n<18446744073709551616:=by
 have:=mL.1 h;have h1:IntKind.min .u64=0:=by decide
 have h2:IntKind.max .u64=18446744073709551615:=by decide
 omega
theorem O1 {n:Int} (h:inR .u32 n):0≤n∧n<4294967296:=by
 have:=mL.1 h;have h1:IntKind.min .u32=0:=by decide
 have h2:IntKind.max .u32=4294967295:=by decide
 omega
theorem K9 {m:M} {cs:List Value} {x:Ap} (hR:kAp.R m cs x):VOK x:=by
 obtain ⟨h1,h2,h3,h4⟩:=hR;exact ⟨HL h1.2,HL h3.2,h4.2.1⟩
theorem EF {α:Type} {k:Kd α} {m:M} {cs:List Value} {xs:List α} (hR:(kSl k).R m cs xs): ∀x∈xs,∃cs,k.R m cs x:=fun x hx=>by
 obtain ⟨a,len,cap,h1,h2,h3,h4,h5⟩:=hR;obtain ⟨i,hi,rfl⟩:=List.getElem_of_mem hx;cases a with
 |none=>
  have h5':cap=0:=h5;omega
 |some ad=>exact ⟨_,h5.2 i hi⟩
theorem JH {xs:List Int} {n:Nat} (h:jI xs≤n) (hn:n≤1048576):xs.length≤1048576:=by
 unfold jI at h;rw [K7] at h;omega
theorem EG {α:Type} (f:α→Nat): ∀(xs:List α) (x:α),x∈xs→f x≤(xs.map f).sum
 |y::ys,x,h=>by
  simp only [List.map_cons,List.sum_cons];rcases List.mem_cons.1 h with rfl|h
  ·omega
  ·have:=EG f ys x h;omega
theorem HN (xs:List aa):xs.length≤l9 xs:=by
 have:=HK qS xs (fun y=>by unfold qS;omega);unfold l9;omega
theorem O2 {v:aa}:v.fRow.length≤qS v:=by
 have:=HK (fun y=>BV (Ap.pr y)+1) v.fRow (fun y=>by omega);unfold qS u3;omega
theorem O3 {m:M} {cs:List Value} {v:aa} (hR:ab.R m cs v) (hl:qS v≤1048576):kX v:=by
 obtain ⟨h1,h2,h3⟩:=hR;obtain ⟨h4,h5⟩:=h1;refine ⟨HM h4.2,O1 h5.2,HM h3.2,fun x hx=> ?_,Nat.le_trans O2 hl⟩;obtain ⟨cs,h⟩:=EF h2 x hx;exact K9 h
theorem DK {P:Program} {H:Type} {enc:TypeId×Value→H} {r:Reach} {b0:Nat} {W:World} {t:TypeId} {fs:Array Field} {α:Type} {k:Kd α} {sz:α→Nat} {v:Value} {d:DataW H} {ps:List MemPlace} (B:EM H) (ht:P.underlying t=some (.struct fs)) (hrd:Rd P t k sz) (hk:k.agg=true) (hval:Okw P W r b0 t v) (hd:DataW.Trod enc P W 0 (fun _=>true) true t v d ps) (hb:B.b d≤1099511627776):
  ∃x,RV k (m0 W) v x∧sz x≤B.b d:=by
 obtain ⟨cs,rfl,_⟩:=okWide_struct ht hval.ok;obtain ⟨fuel,hf⟩:=hd;obtain ⟨x,hx,hs⟩:=hrd enc B W fuel _ d ps hf hb;exact ⟨x,⟨_,hx,by simp [Kd.val,hk,Value.cells]⟩,hs⟩
theorem La {m:M} {v:Value} {c:cC} (h:RV bT m v c) {n:Nat} (hs:DJ c≤n) (hn:n≤1048576):Do c:=by
 obtain ⟨cs,hR,_⟩:=h;obtain ⟨h1,h2,h3,h4⟩:=hR;unfold DJ at hs;refine ⟨JH (n:=n) (by omega) hn,JH (n:=n) (by omega) hn,?_,fun v hv=> ?_⟩
 ·have:=HN c.fL;omega
 ·obtain ⟨cs,hc⟩:=EF h4 v hv
  have h5:=EG qS c.fL v hv;have h6:(c.fL.map qS).sum+1=l9 c.fL:=rfl;exact O3 hc (by omega)
end Go.Proofs.YthbonoagbeilkaaGreat.Hay
