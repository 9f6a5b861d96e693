import Derived.Test.YthbonoagbeilkaaGreatHbkX
import Derived.Test.YthbonoagbeilkaaGreatExO
import Derived.Test.YthbonoagbeilkaaGreatHbkM
import Derived.Test.YthbonoagbeilkaaGreatHcY
set_option maxRecDepth 100000
set_option maxHeartbeats 4000000
set_option linter.unusedVariables false
namespace Go.Proofs.YthbonoagbeilkaaGreat.Hay
open Go.Proofs
theorem ct_143 : Ctr Sz Tryz.prog 143 [.rd (.sl (.st 32)), .f1 (.st 32) .bool] [.rd (.int .i64)] (fun x => slices_IndexFunc_Value x.1 x.2.1) :=
 Ctr.nc (Γ := Γ) (D := []) (c := Tryz.f143.body.getD .skip) (res := [4]) (.s .o (.s (.s .o (.b (.l ⟨[.v 8 1 (.dat (.int .i64) none)], [0, 1, 7], 0, []⟩ .o))) .o)) rfl mixed Tryz.func143 rfl Tryz.ntmps143 rfl rfl (fun x => by kernel_rfl)
noncomputable def cs_143 : CS Tryz.prog Sz := ⟨143, _, _, _, ct_143, Tryz.call143⟩
theorem ct_99 : Ctr Sz Tryz.prog 99 [.rd (.sl (.st 32)), .f1 (.st 32) .bool] [.rd .bool] (fun x => slices_ContainsFunc_Value x.1 x.2.1) :=
 Ctr.nc (Γ := Γ) (D := [cs_143]) (c := Tryz.f99.body.getD .skip) (res := [4]) .o rfl mixed Tryz.func99 rfl Tryz.ntmps99 rfl rfl (fun x => by kernel_rfl)
theorem c_slices_ContainsFunc_Value {W0 : Bse} {m : M} {w : World} {L : List (Nat × List Value)} {TL : List (Nat × Value)} (hS : S W0 m w (L) (TL)) {v0 : Value} {p0 : (List Ap)} (ha0 : RV (kSl kAp) m v0 p0) {v1 : Value} {p1 : (Ap → Option Bool)} (ha1 : Fn1 Tryz.prog kAp kBool m v1 p1) {r : Bool} (h : slices_ContainsFunc_Value p0 p1 = some r) :
    Calls Tryz.prog 99 [v0, v1].toArray w (Ret fun v w' => ∃ m', M.le m m' ∧ S W0 m' w' (L) (TL) ∧ RV kBool m' v r) := by
 refine (ct_99 W0 m w L TL [v0, v1] (p0, p1, ()) r [] [] hS ⟨ha0, ⟨ha1, trivial⟩⟩ h).mono ?_
 intro e w' he
 cases e with
 | returned v =>
  obtain ⟨m', us, Lr, Lq, Tr, hm, hS', rfl, hR, hO⟩ := he
  obtain ⟨u0, us, rfl, r0, hR0⟩ := RR_rd hR
  obtain ⟨rfl, rfl, rfl⟩ := RR_nil hR0
  have hO0 := OR_rd hO
  have hO1 := OR_f1 hO0
  obtain rfl := OR_nil hO1
  exact ⟨m', hm, hS', r0⟩
 | panicked ch => exact he.elim
 | outgrown => exact he.elim
theorem ct_128 : Ctr Sz Tryz.prog 128 [] [.rd (.st 32)] (fun x => value_Null ) :=
 Ctr.nX (Γ := Γ) (D := []) (c := Tryz.f128.body.getD .skip) (res := [.cell 0 32]) .o rfl mixed Tryz.func128 rfl Tryz.ntmps128 rfl rfl (fun x => by kernel_rfl)
noncomputable def cs_128 : CS Tryz.prog Sz := ⟨128, _, _, _, ct_128, Tryz.call128⟩
theorem ct_144 : Ctr Sz Tryz.prog 144 [.rd .bool] [.rd (.st 32)] (fun x => value_Bool x.1) :=
 Ctr.nX (Γ := Γ) (D := []) (c := Tryz.f144.body.getD .skip) (res := [.cell 2 32]) .o rfl mixed Tryz.func144 rfl Tryz.ntmps144 rfl rfl (fun x => by kernel_rfl)
noncomputable def cs_144 : CS Tryz.prog Sz := ⟨144, _, _, _, ct_144, Tryz.call144⟩
theorem ct_136 : Ctr Sz Tryz.prog 136 [.rd (.int .i64)] [.rd (.st 32)] (fun x => value_Int x.1) :=
 Ctr.nX (Γ := Γ) (D := []) (c := Tryz.f136.body.getD .skip) (res := [.cell 2 32]) .o rfl mixed Tryz.func136 rfl Tryz.ntmps136 rfl rfl (fun x => by kernel_rfl)
noncomputable def cs_136 : CS Tryz.prog Sz := ⟨136, _, _, _, ct_136, Tryz.call136⟩
theorem ct_145 : Ctr Sz Tryz.prog 145 [.rd .str] [.rd (.st 32)] (fun x => value_Text x.1) :=
 Ctr.nX (Γ := Γ) (D := []) (c := Tryz.f145.body.getD .skip) (res := [.cell 2 32]) .o rfl mixed Tryz.func145 rfl Tryz.ntmps145 rfl rfl (fun x => by kernel_rfl)
noncomputable def cs_145 : CS Tryz.prog Sz := ⟨145, _, _, _, ct_145, Tryz.call145⟩
theorem ct_101 : Ctr Sz Tryz.prog 101 [.rd (.st 32)] [.rd .bool] (fun x => value_Right x.1) :=
 Ctr.nc (Γ := Γ) (D := [cs_128, cs_136, cs_144, cs_145]) (c := Tryz.f101.body.getD .skip) (res := [2]) .o rfl mixed Tryz.func101 rfl Tryz.ntmps101 rfl rfl (fun x => by kernel_rfl)
noncomputable def cs_101 : CS Tryz.prog Sz := ⟨101, _, _, _, ct_101, Tryz.call101⟩
theorem ct_100 : Ctr Sz Tryz.prog 100 [.rd (.st 32)] [.rd .bool] (fun x => encode_Encode_1 x.1) :=
 Ctr.nc (Γ := Γ) (D := [cs_101]) (c := Tryz.f100.body.getD .skip) (res := [2]) .o rfl mixed Tryz.func100 rfl Tryz.ntmps100 rfl rfl (fun x => by kernel_rfl)
theorem c_encode_Encode_1 {W0 : Bse} {m : M} {w : World} {L : List (Nat × List Value)} {TL : List (Nat × Value)} (hS : S W0 m w (L) (TL)) {v0 : Value} {p0 : Ap} (ha0 : RV kAp m v0 p0) {r : Bool} (h : encode_Encode_1 p0 = some r) :
    Calls Tryz.prog 100 [v0].toArray w (Ret fun v w' => ∃ m', M.le m m' ∧ S W0 m' w' (L) (TL) ∧ RV kBool m' v r) := by
 refine (ct_100 W0 m w L TL [v0] (p0, ()) r [] [] hS ⟨ha0, trivial⟩ h).mono ?_
 intro e w' he
 cases e with
 | returned v =>
  obtain ⟨m', us, Lr, Lq, Tr, hm, hS', rfl, hR, hO⟩ := he
  obtain ⟨u0, us, rfl, r0, hR0⟩ := RR_rd hR
  obtain ⟨rfl, rfl, rfl⟩ := RR_nil hR0
  have hO0 := OR_rd hO
  obtain rfl := OR_nil hO0
  exact ⟨m', hm, hS', r0⟩
 | panicked ch => exact he.elim
 | outgrown => exact he.elim
theorem ct_102 : Ctr Sz Tryz.prog 102 [.rd (.sl (.st 32))] [.rd (.sl (.int .i64)), .rd .bool] (fun x => encode_ints x.1) :=
 Ctr.nc (Γ := Γ) (D := []) (c := Tryz.f102.body.getD .skip) (res := [2, 3]) (.s .o (.s .o (.s (.s .o (.b (.l ⟨[.v 4 1 (.dat (.sl (.int .i64)) (some 0)), .v 9 1 (.dat (.int .i64) none)], [7, 8], 0, [1]⟩ .o))) .o))) rfl mixed Tryz.func102 rfl Tryz.ntmps102 rfl rfl (fun x => by kernel_rfl)
theorem c_encode_ints {W0 : Bse} {m : M} {w : World} {L : List (Nat × List Value)} {TL : List (Nat × Value)} (hS : S W0 m w (L) (TL)) {v0 : Value} {p0 : (List Ap)} (ha0 : RV (kSl kAp) m v0 p0) {r : ((List Int) × Bool)} (h : encode_ints p0 = some r) :
    Calls Tryz.prog 102 [v0].toArray w (Ret fun v w' => ∃ m', M.le m m' ∧ S W0 m' w' (L) (TL) ∧ ∃ v0_ v1_ : Value, v = .tuple #[v0_, v1_] ∧ RV (kSl (kInt .i64)) m' v0_ r.1 ∧ RV kBool m' v1_ r.2) := by
 refine (ct_102 W0 m w L TL [v0] (p0, ()) r [] [] hS ⟨ha0, trivial⟩ h).mono ?_
 intro e w' he
 cases e with
 | returned v =>
  obtain ⟨m', us, Lr, Lq, Tr, hm, hS', rfl, hR, hO⟩ := he
  obtain ⟨u0, us, rfl, r0, hR0⟩ := RR_rd hR
  obtain ⟨u1, us, rfl, r1, hR1⟩ := RR_rd hR0
  obtain ⟨rfl, rfl, rfl⟩ := RR_nil hR1
  have hO0 := OR_rd hO
  obtain rfl := OR_nil hO0
  exact ⟨m', hm, hS', u0, u1, rfl, r0, r1⟩
 | panicked ch => exact he.elim
 | outgrown => exact he.elim
theorem c_encode_Runs {W0 : Bse} {m : M} {w : World} {L : List (Nat × List Value)} {TL : List (Nat × Value)} (hS : S W0 m w (L) (TL)) {v0 : Value} {p0 : (List Ap)} (ha0 : RV (kSl kAp) m v0 p0) {r : (List Encode_Run)} (h : encode_Runs p0 = some r) :
    Calls Tryz.prog 146 [v0].toArray w (Ret fun v w' => ∃ m', M.le m m' ∧ S W0 m' w' (L) (TL) ∧ RV (kSl kEncode_Run) m' v r) := by
 refine kcall Tryz.func146 rfl Tryz.ntmps146 (Nat.le_of_ble_eq_true rfl) fun a hE => ?_
 have hE : Env 48 a [(0, v0)] := hE
 unfold encode_Runs at h
 refine kseq (kreg ?_)
 refine qa hE rfl rfl fun a hE => ?_
 refine knil (kscope (kseq (kreg ?_)))
 refine qa hE rfl rfl fun a hE => ?_
 refine knil (kseq (klabel (kseq (kseq (kreg ?_)))))
 refine qm hE rfl rfl fun a hE => ?_
 refine sp hE (r_lenSl (k := kAp) hE rfl rfl Tryz.underlying22 ha0) rfl fun a hE => ?_
 refine qm hE rfl rfl fun a hE => ?_
 refine knil ?_
 refine kcut (fun a w => ∃ x8 : (List Encode_Run), encode_Runs_j1 x8 = some r ∧ ∃ m', M.le m m' ∧ ∃ (v9 : Value), RV (kSl kEncode_Run) m' v9 x8 ∧ S W0 m' w (L) (TL) ∧ Env 48 a [(3, v9)]) ?_ ?_
 {
 refine kblock ?_
 refine kloop h (fun (s : (Int × (List Encode_Run))) a w => ∃ m', M.le m m' ∧ ∃ (cs19 : List Value), ∃ (b21 : Nat), ∃ (v22 : Value), inR .i64 s.1 ∧ GS kEncode_Run m' b21 cs19 v22 s.2 ∧ S W0 m' w ((b21, cs19) :: L) (TL) ∧ Env 48 a [(3, v22), (7, v0), (8, (.int .i64 (p0.length : Int))), (9, (.int .i64 s.1))]) ?_ ?_
 {
 exact ⟨_, (M.le.refl _), [], 0, (.slice none 0 0), (show inR .i64 0 from inR_lit (by decide)), GS.void, (hS.void 0), hE.cut ⟨rfl, rfl, rfl, rfl, trivial⟩⟩
 }
 {
 rintro ⟨x16, x18⟩ a w ⟨m14, hm15, cs19, b21, v22, hr17, hc20, hS, hE⟩ r23 h hb24
 have h : encode_Runs_b1 p0 x16 x18 = some r23 := h
 unfold encode_Runs_b1 at h
 refine kseq (kreg ?_)
 refine sp hE (r_bin hE rfl rfl b_lss) rfl fun a hE => ?_
 refine knil (kseq ?_)
 refine kif hE rfl (fun hd26 => ?_) (fun hd26 => ?_)
 {
 have h := ite_T hd26 h
 refine kskip (kseq ?_)
 refine kcut (fun a w => ∃ x29 : (List Encode_Run), encode_Runs_j2 x16 x29 = some r23 ∧ ∃ m', M.le m14 m' ∧ ∃ (cs30 : List Value), ∃ (b32 : Nat), ∃ (v33 : Value), GS kEncode_Run m' b32 cs30 v33 x29 ∧ S W0 m' w ((b32, cs30) :: L) (TL) ∧ Env 48 a [(3, v33), (7, v0), (8, (.int .i64 (p0.length : Int))), (9, (.int .i64 x16))]) ?_ ?_
 {
 refine kblock (kseq (kreg ?_))
 obtain ⟨x37, hx38, h⟩ := ob h
 refine st hE (st_index (k := kAp) hE rfl rfl Tryz.underlying22 Tryz.sizeOf32 (ha0.mono hm15) hx38) rfl ?_
 rintro v40 a _ ⟨rfl, hp39⟩ hE
 refine st hE (st_loadM hE hS ty32 rfl hp39) rfl ?_
 rintro v42 a _ ⟨rfl, hv41⟩ hE
 refine st hE (st_alloc hS Tryz.zeroValue32 rfl (cs := zc32)) rfl ?_
 rintro _ a w ⟨b43, rfl, hS⟩ hE
 refine st0 hE (st_storeF hE hS ty32 StF_self rfl rfl hv41 (i := 0) rfl (zr32 _)) ?_
 rintro _ w ⟨cs45, hc46, hS⟩ hE
 refine knil (kseq (kseq (kreg ?_)))
 refine qm hE rfl rfl fun a hE => ?_
 refine sp hE (r_lenG (k := kEncode_Run) hE rfl rfl Tryz.underlying185 hc20) rfl fun a hE => ?_
 refine qm hE rfl rfl fun a hE => ?_
 refine knil ?_
 refine kcut (fun a w => encode_Runs_j3 x16 x18 x37 = some r23 ∧ ∃ m', M.le m14 m' ∧ S W0 m' w ((b43, cs45) :: (b21, cs19) :: L) (TL) ∧ Env 48 a [(3, v22), (5, (.pointer (some ⟨b43, 0, none⟩))), (7, v0), (8, (.int .i64 (p0.length : Int))), (9, (.int .i64 x16))]) ?_ ?_
 {
 refine kblock ?_
 refine kloop h (fun (s : Int) a w => ∃ m', M.le m14 m' ∧ inR .i64 s ∧ S W0 m' w ((b43, cs45) :: (b21, cs19) :: L) (TL) ∧ Env 48 a [(3, v22), (5, (.pointer (some ⟨b43, 0, none⟩))), (7, v0), (8, (.int .i64 (p0.length : Int))), (9, (.int .i64 x16)), (14, (.int .i64 (x18.length : Int))), (15, (.int .i64 s))]) ?_ ?_
 {
 exact ⟨_, (M.le.refl _), (show inR .i64 0 from inR_lit (by decide)), hS, hE.cut ⟨rfl, rfl, rfl, rfl, rfl, rfl, rfl, trivial⟩⟩
 }
 {
 rintro x75 a w ⟨m73, hm74, hr76, hS, hE⟩ r77 h hb78
 have h : encode_Runs_b2 x16 x18 x37 x75 = some r77 := h
 unfold encode_Runs_b2 at h
 refine kseq (kreg ?_)
 refine sp hE (r_bin hE rfl rfl b_lss) rfl fun a hE => ?_
 refine knil (kseq ?_)
 refine kif hE rfl (fun hd80 => ?_) (fun hd80 => ?_)
 {
 have h := ite_T hd80 h
 refine kskip (kseq (kblock (kseq (kreg ?_))))
 refine qm hE rfl rfl fun a hE => ?_
 refine qa hE rfl rfl fun a hE => ?_
 refine knil (kseq ?_)
 refine kcut (fun a w => ∃ x85 : Bool, encode_Runs_j4 x16 x18 x75 x85 = some r77 ∧ ∃ m', M.le m73 m' ∧ S W0 m' w ((b43, cs45) :: (b21, cs19) :: L) (TL) ∧ Env 48 a [(3, v22), (5, (.pointer (some ⟨b43, 0, none⟩))), (6, (.int .i64 x75)), (7, v0), (8, (.int .i64 (p0.length : Int))), (9, (.int .i64 x16)), (14, (.int .i64 (x18.length : Int))), (15, (.int .i64 x75)), (31, (.bool x85))]) ?_ ?_
 {
 rcases Bool.eq_false_or_eq_true (x75 == (IntKind.i64.wrap ((x18.length : Int) - 1))) with hd111 | hd111
 {
 have h := ite_T hd111 h
 obtain ⟨j112, hj113, h⟩ := ob h
 obtain ⟨x115, hx116, h⟩ := ob h
 refine kchain (k := 12) (m := m73) (es := []) (Φ := (fun i m ws v => match i with | 0 => v = (.int .i64 x75) ∧ inR .i64 x75 | 1 => v = v22 | 2 => v = (.int .i64 (x18.length : Int)) ∧ inR .i64 (x18.length : Int) | 3 => v = (.int .i64 (IntKind.i64.wrap ((x18.length : Int) - 1))) ∧ inR .i64 (IntKind.i64.wrap ((x18.length : Int) - 1)) | 4 => v = (.bool (x75 == (IntKind.i64.wrap ((x18.length : Int) - 1)))) | 5 => v = (.bool (x75 == (IntKind.i64.wrap ((x18.length : Int) - 1)))) | 6 => v = v22 | 7 => v = (.int .i64 x75) ∧ inR .i64 x75 | 8 => v = (.pointer (some ⟨b21, j112 * 5, none⟩)) | 9 => v = (.pointer (some ⟨b21, j112 * 5 + 1, none⟩)) | 10 => RV kAp m v x115.fValue | 11 => RV kAp m v x37 | _ => True)) (Q := (fun c m ws L' TL' => match c with | 0 => (b43, cs45) :: (b21, cs19) :: L = L' ∧ TL = TL' | _ => False)) (cs := [⟨0, 0, false, [(6, (.int .i64 x75))]⟩, ⟨0, 0, false, [(3, v22)]⟩, ⟨0, 0, false, []⟩, ⟨0, 0, false, []⟩, ⟨0, 0, false, []⟩, ⟨0, 0, false, []⟩, ⟨0, 0, false, [(3, v22)]⟩, ⟨0, 0, false, [(6, (.int .i64 x75))]⟩, ⟨0, 0, false, []⟩, ⟨0, 0, false, []⟩, ⟨0, 0, false, []⟩, ⟨0, 0, false, [(5, (.pointer (some ⟨b43, 0, none⟩)))]⟩]) mixed hE hS ⟨rfl, rfl⟩ rfl rfl ⟨⟨rfl, trivial⟩, ⟨rfl, trivial⟩, trivial, trivial, trivial, trivial, ⟨rfl, trivial⟩, ⟨rfl, trivial⟩, trivial, trivial, trivial, ⟨rfl, trivial⟩, trivial⟩ (by kernel_rfl) ?_ ?_ ?_ ?_
 {
 intro i m_ m2_ ws v hm_ hp_
 match i, hp_ with
 | 0, hp_ => exact hp_
 | 1, hp_ => exact hp_
 | 2, hp_ => exact hp_
 | 3, hp_ => exact hp_
 | 4, hp_ => exact hp_
 | 5, hp_ => exact hp_
 | 6, hp_ => exact hp_
 | 7, hp_ => exact hp_
 | 8, hp_ => exact hp_
 | 9, hp_ => exact hp_
 | 10, hp_ => exact RV.mono hp_ hm_
 | 11, hp_ => exact RV.mono hp_ hm_
 | _ + 12, hp_ => exact trivial
 }
 {
 intro c m_ m2_ ws L_ T_ hm_ hq_
 match c, hq_ with
 | 0, ⟨e1_, e2_⟩ => exact ⟨e1_, e2_⟩
 | _ + 1, hq_ => exact hq_.elim
 }
 {
 refine ⟨?_, ?_, ?_, ?_, ?_, ?_, ?_, ?_, ?_, ?_, ?_, ?_, trivial⟩
 {
 refine cplain fun pre_ post_ L_ T_ m' a' w' hl' hp' hm' hq' hS' hE' hT' => ?_
 obtain rfl := len0 hl'
 refine Step.imp (Run1.pure (r_move hE' rfl)) ?_
 rintro _ _ ⟨rfl, rfl⟩
 exact ⟨_, M.le.refl _, hS', ⟨rfl, hr76⟩⟩
 }
 {
 refine cplain fun pre_ post_ L_ T_ m' a' w' hl' hp' hm' hq' hS' hE' hT' => ?_
 obtain rfl := len0 hl'
 refine Step.imp (Run1.pure (r_move hE' rfl)) ?_
 rintro _ _ ⟨rfl, rfl⟩
 exact ⟨_, M.le.refl _, hS', rfl⟩
 }
 {
 refine cplain fun pre_ post_ L_ T_ m' a' w' hl' hp' hm' hq' hS' hE' hT' => ?_
 obtain rfl := len0 hl'
 obtain rfl := len0 (lenz (a := 0) hp')
 obtain ⟨rfl, rfl⟩ := hq'
 obtain ⟨v120, e121, q122⟩ : ∃ v, a'.tmps.getD 19 undef = v ∧ (v = v22) := ⟨_, rfl, hT' 1 (by decide) 19 rfl⟩
 have hE := hE'.add (e121.trans q122)
 refine Step.imp (Run1.pure (r_lenG (k := kEncode_Run) hE rfl rfl Tryz.underlying185 (hc20.mono (M.le.trans hm74 hm')))) ?_
 rintro _ _ ⟨rfl, rfl⟩
 exact ⟨_, M.le.refl _, hS', ⟨rfl, (inR_len (GS.len (hc20.mono (M.le.trans hm74 hm'))))⟩⟩
 }
 {
 refine cplain fun pre_ post_ L_ T_ m' a' w' hl' hp' hm' hq' hS' hE' hT' => ?_
 obtain rfl := len0 hl'
 obtain ⟨v124, e125, q126⟩ : ∃ v, a'.tmps.getD 20 undef = v ∧ (v = (.int .i64 (x18.length : Int)) ∧ inR .i64 (x18.length : Int)) := ⟨_, rfl, hT' 2 (by decide) 20 rfl⟩
 obtain ⟨q126, hr127⟩ := q126
 have hE := hE'.add (e125.trans q126)
 refine Step.imp (Run1.pure (r_bin hE rfl rfl (b_sub rfl))) ?_
 rintro _ _ ⟨rfl, rfl⟩
 exact ⟨_, M.le.refl _, hS', ⟨rfl, (inR_wrap _ _)⟩⟩
 }
 {
 refine cplain fun pre_ post_ L_ T_ m' a' w' hl' hp' hm' hq' hS' hE' hT' => ?_
 obtain rfl := len0 hl'
 obtain ⟨v129, e130, q131⟩ : ∃ v, a'.tmps.getD 18 undef = v ∧ (v = (.int .i64 x75) ∧ inR .i64 x75) := ⟨_, rfl, hT' 0 (by decide) 18 rfl⟩
 obtain ⟨q131, hr132⟩ := q131
 have hE := hE'.add (e130.trans q131)
 obtain ⟨v133, e134, q135⟩ : ∃ v, a'.tmps.getD 21 undef = v ∧ (v = (.int .i64 (IntKind.i64.wrap ((x18.length : Int) - 1))) ∧ inR .i64 (IntKind.i64.wrap ((x18.length : Int) - 1))) := ⟨_, rfl, hT' 3 (by decide) 21 rfl⟩
 obtain ⟨q135, hr136⟩ := q135
 have hE := hE.add (e134.trans q135)
 refine Step.imp (Run1.pure (r_bin hE rfl rfl b_eql)) ?_
 rintro _ _ ⟨rfl, rfl⟩
 exact ⟨_, M.le.refl _, hS', rfl⟩
 }
 {
 refine cplain fun pre_ post_ L_ T_ m' a' w' hl' hp' hm' hq' hS' hE' hT' => ?_
 obtain rfl := len0 hl'
 obtain ⟨v138, e139, q140⟩ : ∃ v, a'.tmps.getD 22 undef = v ∧ (v = (.bool (x75 == (IntKind.i64.wrap ((x18.length : Int) - 1))))) := ⟨_, rfl, hT' 4 (by decide) 22 rfl⟩
 have hE := hE'.add (e139.trans q140)
 refine Step.imp (Run1.pure (r_move hE rfl)) ?_
 rintro _ _ ⟨rfl, rfl⟩
 exact ⟨_, M.le.refl _, hS', rfl⟩
 }
 {
 refine cguard rfl rfl (by decide) (fun _ _ _ h_ => Eq.trans h_ (cb hd111)) fun pre_ post_ L_ T_ m' a' w' hl' hp' hm' hq' hS' hE' hT' => ?_
 obtain rfl := len0 hl'
 refine Step.imp (Run1.pure (r_move hE' rfl)) ?_
 rintro _ _ ⟨rfl, rfl⟩
 exact ⟨_, M.le.refl _, hS', rfl⟩
 }
 {
 refine cguard rfl rfl (by decide) (fun _ _ _ h_ => Eq.trans h_ (cb hd111)) fun pre_ post_ L_ T_ m' a' w' hl' hp' hm' hq' hS' hE' hT' => ?_
 obtain rfl := len0 hl'
 refine Step.imp (Run1.pure (r_move hE' rfl)) ?_
 rintro _ _ ⟨rfl, rfl⟩
 exact ⟨_, M.le.refl _, hS', ⟨rfl, hr76⟩⟩
 }
 {
 refine cguard rfl rfl (by decide) (fun _ _ _ h_ => Eq.trans h_ (cb hd111)) fun pre_ post_ L_ T_ m' a' w' hl' hp' hm' hq' hS' hE' hT' => ?_
 obtain rfl := len0 hl'
 obtain rfl := len0 (lenz (a := 0) hp')
 obtain ⟨rfl, rfl⟩ := hq'
 obtain ⟨v144, e145, q146⟩ : ∃ v, a'.tmps.getD 24 undef = v ∧ (v = v22) := ⟨_, rfl, hT' 6 (by decide) 24 rfl⟩
 have hE := hE'.add (e145.trans q146)
 obtain ⟨v147, e148, q149⟩ : ∃ v, a'.tmps.getD 25 undef = v ∧ (v = (.int .i64 x75) ∧ inR .i64 x75) := ⟨_, rfl, hT' 7 (by decide) 25 rfl⟩
 obtain ⟨q149, hr150⟩ := q149
 have hE := hE.add (e148.trans q149)
 refine Step.imp (Run1.pure (r_indexG (k := kEncode_Run) hE rfl rfl Tryz.underlying185 Tryz.sizeOf187 (hc20.mono (M.le.trans hm74 hm')) hj113 rfl)) ?_
 rintro _ _ ⟨rfl, rfl⟩
 exact ⟨_, M.le.refl _, hS', rfl⟩
 }
 {
 refine cguard rfl rfl (by decide) (fun _ _ _ h_ => Eq.trans h_ (cb hd111)) fun pre_ post_ L_ T_ m' a' w' hl' hp' hm' hq' hS' hE' hT' => ?_
 obtain rfl := len0 hl'
 obtain ⟨v152, e153, q154⟩ : ∃ v, a'.tmps.getD 26 undef = v ∧ (v = (.pointer (some ⟨b21, j112 * 5, none⟩))) := ⟨_, rfl, hT' 8 (by decide) 26 rfl⟩
 have hE := hE'.add (e153.trans q154)
 refine Step.imp (Run1.pure (r_fieldL hE fo187_1 rfl)) ?_
 rintro _ _ ⟨rfl, rfl⟩
 exact ⟨_, M.le.refl _, hS', rfl⟩
 }
 {
 refine cguard rfl rfl (by decide) (fun _ _ _ h_ => Eq.trans h_ (cb hd111)) fun pre_ post_ L_ T_ m' a' w' hl' hp' hm' hq' hS' hE' hT' => ?_
 obtain rfl := len0 hl'
 obtain rfl := len0 (lenz (a := 0) hp')
 obtain ⟨rfl, rfl⟩ := hq'
 obtain ⟨v156, e157, q158⟩ : ∃ v, a'.tmps.getD 27 undef = v ∧ (v = (.pointer (some ⟨b21, j112 * 5 + 1, none⟩))) := ⟨_, rfl, hT' 9 (by decide) 27 rfl⟩
 have hE := hE'.add (e157.trans q158)
 refine Step.imp (st_loadL hE hS' ty32 rfl (i := 1) rfl (fl187_1.R_drop (GS.elem (hc20.mono (M.le.trans hm74 hm')) hx116))) ?_
 rintro v159 _ ⟨rfl, hv114⟩
 exact ⟨_, M.le.refl _, hS', hv114⟩
 }
 {
 refine cguard rfl rfl (by decide) (fun _ _ _ h_ => Eq.trans h_ (cb hd111)) fun pre_ post_ L_ T_ m' a' w' hl' hp' hm' hq' hS' hE' hT' => ?_
 obtain rfl := len0 hl'
 obtain rfl := len0 (lenz (a := 0) hp')
 obtain ⟨rfl, rfl⟩ := hq'
 refine Step.imp (st_loadL hE' hS' ty32 rfl (i := 0) rfl (R_whole (kAp.mono (M.le.trans hm74 hm') hc46))) ?_
 rintro v160 _ ⟨rfl, hv117⟩
 exact ⟨_, M.le.refl _, hS', hv117⟩
 }
 }
 {
 intro ws_ L_ T_ m161 a w hl162 hm163 hq164 hS hd165 hn166 ho167 hT168
 obtain rfl := len0 hl162
 obtain ⟨rfl, rfl⟩ := hq164
 have hE := EnvD.of (k := 12) (l' := [(3, v22), (5, (.pointer (some ⟨b43, 0, none⟩))), (6, (.int .i64 x75)), (7, v0), (8, (.int .i64 (p0.length : Int))), (9, (.int .i64 x16)), (14, (.int .i64 (x18.length : Int))), (15, (.int .i64 x75)), (16, (.bool (decide (x75 < (x18.length : Int))))), (17, (.int .i64 x75))]) hd165 hn166 ho167 ⟨rfl, rfl, rfl, rfl, rfl, rfl, rfl, rfl, rfl, rfl, trivial⟩ rfl
 obtain ⟨v169, e170, q171⟩ : ∃ v, a.tmps.getD 23 undef = v ∧ (v = (.bool (x75 == (IntKind.i64.wrap ((x18.length : Int) - 1))))) := ⟨_, rfl, hT168 5 (by decide) 23 rfl⟩
 have hE := hE.add (e170.trans q171)
 obtain ⟨v172, e173, q174⟩ : ∃ v, a.tmps.getD 24 undef = v ∧ (v = v22) := ⟨_, rfl, hT168 6 (by decide) 24 rfl⟩
 have hE := hE.add (e173.trans q174)
 obtain ⟨v175, e176, q177⟩ : ∃ v, a.tmps.getD 25 undef = v ∧ (v = (.int .i64 x75) ∧ inR .i64 x75) := ⟨_, rfl, hT168 7 (by decide) 25 rfl⟩
 obtain ⟨q177, hr178⟩ := q177
 have hE := hE.add (e176.trans q177)
 obtain ⟨v179, e180, q181⟩ : ∃ v, a.tmps.getD 26 undef = v ∧ (v = (.pointer (some ⟨b21, j112 * 5, none⟩))) := ⟨_, rfl, hT168 8 (by decide) 26 rfl⟩
 have hE := hE.add (e180.trans q181)
 obtain ⟨v182, e183, q184⟩ : ∃ v, a.tmps.getD 27 undef = v ∧ (v = (.pointer (some ⟨b21, j112 * 5 + 1, none⟩))) := ⟨_, rfl, hT168 9 (by decide) 27 rfl⟩
 have hE := hE.add (e183.trans q184)
 obtain ⟨v185, e186, q187⟩ : ∃ v, a.tmps.getD 28 undef = v ∧ (RV kAp m161 v x115.fValue) := ⟨_, rfl, hT168 10 (by decide) 28 rfl⟩
 have hE := hE.add (e186)
 obtain ⟨v188, e189, q190⟩ : ∃ v, a.tmps.getD 29 undef = v ∧ (RV kAp m161 v x37) := ⟨_, rfl, hT168 11 (by decide) 29 rfl⟩
 have hE := hE.add (e189)
 refine spg hE rfl rfl rfl rfl hd111 (r_eqlK hE eq32 rfl rfl q187 q190 rfl) rfl fun a hE => ?_
 refine sp hE (r_pickT hE rfl hd111 rfl) rfl fun a hE => ?_
 refine knil ?_
 exact ⟨(decide (x115.fValue = x37)), h, _, hm163, hS, hE.cut ⟨rfl, rfl, rfl, rfl, rfl, rfl, rfl, rfl, rfl, trivial⟩⟩
 }
 }
 {
 have h := ite_F hd111 h
 refine kchain (k := 12) (m := m73) (es := []) (Φ := (fun i m ws v => match i with | 0 => v = (.int .i64 x75) ∧ inR .i64 x75 | 1 => v = v22 | 2 => v = (.int .i64 (x18.length : Int)) ∧ inR .i64 (x18.length : Int) | 3 => v = (.int .i64 (IntKind.i64.wrap ((x18.length : Int) - 1))) ∧ inR .i64 (IntKind.i64.wrap ((x18.length : Int) - 1)) | 4 => v = (.bool (x75 == (IntKind.i64.wrap ((x18.length : Int) - 1)))) | 5 => v = (.bool (x75 == (IntKind.i64.wrap ((x18.length : Int) - 1)))) | 6 => v = undef | 7 => v = undef | 8 => v = undef | 9 => v = undef | 10 => v = undef | 11 => v = undef | _ => True)) (Q := (fun c m ws L' TL' => match c with | 0 => (b43, cs45) :: (b21, cs19) :: L = L' ∧ TL = TL' | _ => False)) (cs := [⟨0, 0, false, [(6, (.int .i64 x75))]⟩, ⟨0, 0, false, [(3, v22)]⟩, ⟨0, 0, false, []⟩, ⟨0, 0, false, []⟩, ⟨0, 0, false, []⟩, ⟨0, 0, false, []⟩, ⟨0, 0, false, [(3, v22)]⟩, ⟨0, 0, false, [(6, (.int .i64 x75))]⟩, ⟨0, 0, false, []⟩, ⟨0, 0, false, []⟩, ⟨0, 0, false, []⟩, ⟨0, 0, false, [(5, (.pointer (some ⟨b43, 0, none⟩)))]⟩]) mixed hE hS ⟨rfl, rfl⟩ rfl rfl ⟨⟨rfl, trivial⟩, ⟨rfl, trivial⟩, trivial, trivial, trivial, trivial, ⟨rfl, trivial⟩, ⟨rfl, trivial⟩, trivial, trivial, trivial, ⟨rfl, trivial⟩, trivial⟩ (by kernel_rfl) ?_ ?_ ?_ ?_
 {
 intro i m_ m2_ ws v hm_ hp_
 match i, hp_ with
 | 0, hp_ => exact hp_
 | 1, hp_ => exact hp_
 | 2, hp_ => exact hp_
 | 3, hp_ => exact hp_
 | 4, hp_ => exact hp_
 | 5, hp_ => exact hp_
 | 6, hp_ => exact hp_
 | 7, hp_ => exact hp_
 | 8, hp_ => exact hp_
 | 9, hp_ => exact hp_
 | 10, hp_ => exact hp_
 | 11, hp_ => exact hp_
 | _ + 12, hp_ => exact trivial
 }
 {
 intro c m_ m2_ ws L_ T_ hm_ hq_
 match c, hq_ with
 | 0, ⟨e1_, e2_⟩ => exact ⟨e1_, e2_⟩
 | _ + 1, hq_ => exact hq_.elim
 }
 {
 refine ⟨?_, ?_, ?_, ?_, ?_, ?_, ?_, ?_, ?_, ?_, ?_, ?_, trivial⟩
 {
 refine cplain fun pre_ post_ L_ T_ m' a' w' hl' hp' hm' hq' hS' hE' hT' => ?_
 obtain rfl := len0 hl'
 refine Step.imp (Run1.pure (r_move hE' rfl)) ?_
 rintro _ _ ⟨rfl, rfl⟩
 exact ⟨_, M.le.refl _, hS', ⟨rfl, hr76⟩⟩
 }
 {
 refine cplain fun pre_ post_ L_ T_ m' a' w' hl' hp' hm' hq' hS' hE' hT' => ?_
 obtain rfl := len0 hl'
 refine Step.imp (Run1.pure (r_move hE' rfl)) ?_
 rintro _ _ ⟨rfl, rfl⟩
 exact ⟨_, M.le.refl _, hS', rfl⟩
 }
 {
 refine cplain fun pre_ post_ L_ T_ m' a' w' hl' hp' hm' hq' hS' hE' hT' => ?_
 obtain rfl := len0 hl'
 obtain rfl := len0 (lenz (a := 0) hp')
 obtain ⟨rfl, rfl⟩ := hq'
 obtain ⟨v195, e196, q197⟩ : ∃ v, a'.tmps.getD 19 undef = v ∧ (v = v22) := ⟨_, rfl, hT' 1 (by decide) 19 rfl⟩
 have hE := hE'.add (e196.trans q197)
 refine Step.imp (Run1.pure (r_lenG (k := kEncode_Run) hE rfl rfl Tryz.underlying185 (hc20.mono (M.le.trans hm74 hm')))) ?_
 rintro _ _ ⟨rfl, rfl⟩
 exact ⟨_, M.le.refl _, hS', ⟨rfl, (inR_len (GS.len (hc20.mono (M.le.trans hm74 hm'))))⟩⟩
 }
 {
 refine cplain fun pre_ post_ L_ T_ m' a' w' hl' hp' hm' hq' hS' hE' hT' => ?_
 obtain rfl := len0 hl'
 obtain ⟨v199, e200, q201⟩ : ∃ v, a'.tmps.getD 20 undef = v ∧ (v = (.int .i64 (x18.length : Int)) ∧ inR .i64 (x18.length : Int)) := ⟨_, rfl, hT' 2 (by decide) 20 rfl⟩
 obtain ⟨q201, hr202⟩ := q201
 have hE := hE'.add (e200.trans q201)
 refine Step.imp (Run1.pure (r_bin hE rfl rfl (b_sub rfl))) ?_
 rintro _ _ ⟨rfl, rfl⟩
 exact ⟨_, M.le.refl _, hS', ⟨rfl, (inR_wrap _ _)⟩⟩
 }
 {
 refine cplain fun pre_ post_ L_ T_ m' a' w' hl' hp' hm' hq' hS' hE' hT' => ?_
 obtain rfl := len0 hl'
 obtain ⟨v204, e205, q206⟩ : ∃ v, a'.tmps.getD 18 undef = v ∧ (v = (.int .i64 x75) ∧ inR .i64 x75) := ⟨_, rfl, hT' 0 (by decide) 18 rfl⟩
 obtain ⟨q206, hr207⟩ := q206
 have hE := hE'.add (e205.trans q206)
 obtain ⟨v208, e209, q210⟩ : ∃ v, a'.tmps.getD 21 undef = v ∧ (v = (.int .i64 (IntKind.i64.wrap ((x18.length : Int) - 1))) ∧ inR .i64 (IntKind.i64.wrap ((x18.length : Int) - 1))) := ⟨_, rfl, hT' 3 (by decide) 21 rfl⟩
 obtain ⟨q210, hr211⟩ := q210
 have hE := hE.add (e209.trans q210)
 refine Step.imp (Run1.pure (r_bin hE rfl rfl b_eql)) ?_
 rintro _ _ ⟨rfl, rfl⟩
 exact ⟨_, M.le.refl _, hS', rfl⟩
 }
 {
 refine cplain fun pre_ post_ L_ T_ m' a' w' hl' hp' hm' hq' hS' hE' hT' => ?_
 obtain rfl := len0 hl'
 obtain ⟨v213, e214, q215⟩ : ∃ v, a'.tmps.getD 22 undef = v ∧ (v = (.bool (x75 == (IntKind.i64.wrap ((x18.length : Int) - 1))))) := ⟨_, rfl, hT' 4 (by decide) 22 rfl⟩
 have hE := hE'.add (e214.trans q215)
 refine Step.imp (Run1.pure (r_move hE rfl)) ?_
 rintro _ _ ⟨rfl, rfl⟩
 exact ⟨_, M.le.refl _, hS', rfl⟩
 }
 {
 exact cskip (b := false) rfl rfl (by decide) (fun _ _ _ h_ => Eq.trans h_ (cb hd111)) (by decide) (fun _ _ => rfl)
 }
 {
 exact cskip (b := false) rfl rfl (by decide) (fun _ _ _ h_ => Eq.trans h_ (cb hd111)) (by decide) (fun _ _ => rfl)
 }
 {
 exact cskip (b := false) rfl rfl (by decide) (fun _ _ _ h_ => Eq.trans h_ (cb hd111)) (by decide) (fun _ _ => rfl)
 }
 {
 exact cskip (b := false) rfl rfl (by decide) (fun _ _ _ h_ => Eq.trans h_ (cb hd111)) (by decide) (fun _ _ => rfl)
 }
 {
 exact cskip (b := false) rfl rfl (by decide) (fun _ _ _ h_ => Eq.trans h_ (cb hd111)) (by decide) (fun _ _ => rfl)
 }
 {
 exact cskip (b := false) rfl rfl (by decide) (fun _ _ _ h_ => Eq.trans h_ (cb hd111)) (by decide) (fun _ _ => rfl)
 }
 }
 {
 intro ws_ L_ T_ m217 a w hl218 hm219 hq220 hS hd221 hn222 ho223 hT224
 obtain rfl := len0 hl218
 obtain ⟨rfl, rfl⟩ := hq220
 have hE := EnvD.of (k := 12) (l' := [(3, v22), (5, (.pointer (some ⟨b43, 0, none⟩))), (6, (.int .i64 x75)), (7, v0), (8, (.int .i64 (p0.length : Int))), (9, (.int .i64 x16)), (14, (.int .i64 (x18.length : Int))), (15, (.int .i64 x75)), (16, (.bool (decide (x75 < (x18.length : Int))))), (17, (.int .i64 x75))]) hd221 hn222 ho223 ⟨rfl, rfl, rfl, rfl, rfl, rfl, rfl, rfl, rfl, rfl, trivial⟩ rfl
 obtain ⟨v225, e226, q227⟩ : ∃ v, a.tmps.getD 23 undef = v ∧ (v = (.bool (x75 == (IntKind.i64.wrap ((x18.length : Int) - 1))))) := ⟨_, rfl, hT224 5 (by decide) 23 rfl⟩
 have hE := hE.add (e226.trans q227)
 obtain ⟨v228, e229, q230⟩ : ∃ v, a.tmps.getD 24 undef = v ∧ (v = undef) := ⟨_, rfl, hT224 6 (by decide) 24 rfl⟩
 have hE := hE.add (e229.trans q230)
 obtain ⟨v231, e232, q233⟩ : ∃ v, a.tmps.getD 25 undef = v ∧ (v = undef) := ⟨_, rfl, hT224 7 (by decide) 25 rfl⟩
 have hE := hE.add (e232.trans q233)
 obtain ⟨v234, e235, q236⟩ : ∃ v, a.tmps.getD 26 undef = v ∧ (v = undef) := ⟨_, rfl, hT224 8 (by decide) 26 rfl⟩
 have hE := hE.add (e235.trans q236)
 obtain ⟨v237, e238, q239⟩ : ∃ v, a.tmps.getD 27 undef = v ∧ (v = undef) := ⟨_, rfl, hT224 9 (by decide) 27 rfl⟩
 have hE := hE.add (e238.trans q239)
 obtain ⟨v240, e241, q242⟩ : ∃ v, a.tmps.getD 28 undef = v ∧ (v = undef) := ⟨_, rfl, hT224 10 (by decide) 28 rfl⟩
 have hE := hE.add (e241.trans q242)
 obtain ⟨v243, e244, q245⟩ : ∃ v, a.tmps.getD 29 undef = v ∧ (v = undef) := ⟨_, rfl, hT224 11 (by decide) 29 rfl⟩
 have hE := hE.add (e244.trans q245)
 refine sx hE rfl rfl rfl rfl hd111 rfl fun a hE => ?_
 refine sp hE (r_pickF hE rfl hd111 rfl) rfl fun a hE => ?_
 refine knil ?_
 exact ⟨false, h, _, hm219, hS, hE.cut ⟨rfl, rfl, rfl, rfl, rfl, rfl, rfl, rfl, rfl, trivial⟩⟩
 }
 }
 }
 {
 rintro a w ⟨x85, h, m83, hm84, hS, hE⟩
 unfold encode_Runs_j4 at h
 refine kif hE rfl (fun hd87 => ?_) (fun hd87 => ?_)
 {
 have h := ite_T hd87 h
 refine kseq (kreg ?_)
 refine qm hE rfl rfl fun a hE => ?_
 refine qm hE rfl rfl fun a hE => ?_
 obtain ⟨j90, hj91, h⟩ := ob h
 refine sp hE (r_indexG (k := kEncode_Run) hE rfl rfl Tryz.underlying185 Tryz.sizeOf187 (hc20.mono (M.le.trans hm74 hm84)) hj91 rfl) rfl fun a hE => ?_
 refine sp hE (r_fieldL hE fo187_0 rfl) rfl fun a hE => ?_
 obtain ⟨x95, hx96, h⟩ := ob h
 refine st hE (st_loadL hE hS ty3 rfl (i := 1) rfl (fl187_0.R_drop (GS.elem (hc20.mono (M.le.trans hm74 hm84)) hx96))) rfl ?_
 rintro v97 a _ ⟨rfl, hv94⟩ hE
 obtain ⟨rfl, hr98⟩ := RV_int hv94
 refine sp hE (r_bin hE rfl rfl (b_add rfl)) rfl fun a hE => ?_
 obtain ⟨j100, hj101, h⟩ := ob h
 refine sp hE (r_indexG (k := kEncode_Run) hE rfl rfl Tryz.underlying185 Tryz.sizeOf187 (hc20.mono (M.le.trans hm74 hm84)) hj101 rfl) rfl fun a hE => ?_
 refine sp hE (r_fieldL hE fo187_0 rfl) rfl fun a hE => ?_
 obtain ⟨x106, hx107, h⟩ := ob h
 refine st0 hE (st_storeG (k := kEncode_Run) hE hS ty3 sf187_0 (hc20.mono (M.le.trans hm74 hm84)) hx107 rfl rfl (RV_of_int (inR_wrap _ _)) (i := 1) rfl) ?_
 rintro _ w ⟨cs104, hc105, hS⟩ hE
 refine knil ?_
 refine kexit rfl rfl ?_
 have h := unwrap h hb78
 exact ⟨(x18.set j100 ({ x106 with fMany := IntKind.i64.wrap (x95.fMany + 1) })), h, _, (M.le.trans hm74 hm84), cs104, b21, v22, hc105, (hS.pickL 2 [1] rfl rfl rfl), hE.cut ⟨rfl, rfl, rfl, rfl, trivial⟩⟩
 }
 {
 have h := ite_F hd87 h
 refine kskip (kreg ?_)
 refine sp hE (r_bin hE rfl rfl (b_add rfl)) rfl fun a hE => ?_
 refine qm hE rfl rfl fun a hE => ?_
 refine knil ?_
 exact ⟨IntKind.i64.wrap (x75 + 1), (Option.some.inj h).symm, _, (M.le.trans hm74 hm84), (inR_wrap _ _), hS, hE.cut ⟨rfl, rfl, rfl, rfl, rfl, rfl, rfl, trivial⟩⟩
 }
 }
 }
 {
 have h := ite_F hd80 h
 refine kexit rfl rfl ?_
 have h := unwrap h hb78
 exact ⟨h, _, hm74, hS, hE.cut ⟨rfl, rfl, rfl, rfl, rfl, trivial⟩⟩
 }
 }
 }
 {
 rintro a w ⟨h, m51, hm52, hS, hE⟩
 unfold encode_Runs_j3 at h
 refine kreg ?_
 refine qm hE rfl rfl fun a hE => ?_
 refine st hE (st_loadL hE hS ty32 rfl (i := 0) rfl (R_whole (kAp.mono hm52 hc46))) rfl ?_
 rintro v56 a _ ⟨rfl, hv55⟩ hE
 refine st hE (st_build (m := m51) (k := kEncode_Run) (x0 := Encode_Run.zero) (xx := (⟨1, x37⟩ : Encode_Run)) (pl := [(0, 1), (1, 4)]) (pv := [(0, (.int .i64 1)), (1, v56)]) hE rfl Tryz.underlying187 rfl Tryz.zeroValue187 zr187 rfl (.cons rfl sf187_0 (RV_of_int (show inR .i64 1 from inR_lit (by decide))) (.cons rfl sf187_1 hv55 .nil))) rfl ?_
 rintro v58 a _ ⟨rfl, hv57⟩ hE
 refine st hE (st_lit (k := kEncode_Run) (xs := [(⟨1, x37⟩ : Encode_Run)]) (vs := [v58]) hE hS rfl Tryz.underlying185 Tryz.sizeOf187 Tryz.zeroValue187 ⟨hv57, trivial⟩ rfl (by decide)) rfl ?_
 rintro v62 a w ⟨m60, hm61, hS, hv59⟩ hE
 obtain ⟨z63, hz64, h⟩ := ob h
 refine st hE (st_appG (k := kEncode_Run) (N := 2932031007402) hE hS rfl rfl Tryz.underlying185 el187 (i := 1) rfl (hc20.mono (M.le.trans hm52 hm61)) (src_sl hS Tryz.underlying185 hv59) hz64 rfl rfl) rfl ?_
 rintro v71 a w ⟨b68, cs69, hc70, hS⟩ hE
 refine qa hE rfl rfl fun a hE => ?_
 refine knil ?_
 exact ⟨z63, h, _, (M.le.trans hm52 hm61), cs69, b68, v71, hc70, ((hS.pickL 2 [1] rfl rfl rfl).pickT 1 [] rfl rfl rfl), hE.cut ⟨rfl, rfl, rfl, rfl, trivial⟩⟩
 }
 }
 {
 rintro a w ⟨x29, h, m27, hm28, cs30, b32, v33, hc31, hS, hE⟩
 unfold encode_Runs_j2 at h
 refine kreg ?_
 refine sp hE (r_bin hE rfl rfl (b_add rfl)) rfl fun a hE => ?_
 refine qm hE rfl rfl fun a hE => ?_
 refine knil ?_
 exact ⟨(IntKind.i64.wrap (x16 + 1), x29), (Option.some.inj h).symm, _, (M.le.trans hm15 hm28), cs30, b32, v33, (inR_wrap _ _), hc31, hS, hE.cut ⟨rfl, rfl, rfl, rfl, trivial⟩⟩
 }
 }
 {
 have h := ite_F hd26 h
 obtain ⟨m247, hm248, hS, hv249⟩ := S.freeze hS hc20
 refine kexit rfl rfl ?_
 have h := unwrap h hb24
 exact ⟨x18, h, _, (M.le.trans hm15 hm248), v22, hv249, hS, hE.cut ⟨rfl, trivial⟩⟩
 }
 }
 }
 {
 rintro a w ⟨x8, h, m6, hm7, v9, hv10, hS, hE⟩
 unfold encode_Runs_j1 at h
 refine kseq (kreg ?_)
 refine qm hE rfl rfl fun a hE => ?_
 refine qa hE rfl rfl fun a hE => ?_
 refine knil (kret ?_)
 obtain rfl := oi h
 try dsimp only
 refine Fin.mk hE (rs := [.tmp 2]) rfl (ResL.tmp hE rfl ResL.nil) ?_
 exact ⟨_, hm7, hS, hv10⟩
 }
theorem ct_146 : Ctr Sz Tryz.prog 146 [.rd (.sl (.st 32))] [.rd (.sl (.st 187))] (fun x => encode_Runs x.1) := by
 intro W0 m w L TL vs x r Lp Tp hS hP h
 obtain ⟨v0, vs, rfl, a0, hP0⟩ := PR_rd hP
 obtain ⟨rfl, rfl, rfl⟩ := PR_nil hP0
 refine (c_encode_Runs (hS := hS) a0 h).mono ?_
 intro e w' he
 cases e with
 | returned v =>
  obtain ⟨m', hm, hS', r0⟩ := he
  exact ⟨m', [v], [], [], [], hm, hS', rfl, ⟨r0, trivial⟩, trivial⟩
 | panicked ch => exact he.elim
 | outgrown => exact he.elim
noncomputable def cs_146 : CS Tryz.prog Sz := ⟨146, _, _, _, ct_146, Tryz.call146⟩
theorem ct_158 : Ctr Sz Tryz.prog 158 [.rd (.sl (.st 32))] [.rd .bool] (fun x => rows_may x.1) :=
 Ctr.nc (Γ := Γ) (D := [cs_101]) (c := Tryz.f158.body.getD .skip) (res := [2]) (.s .o (.s (.s .o (.b (.l ⟨[.v 7 1 (.dat (.int .i64) none)], [0, 5, 6], 0, []⟩ .o))) .o)) rfl mixed Tryz.func158 rfl Tryz.ntmps158 rfl rfl (fun x => by kernel_rfl)
noncomputable def cs_158 : CS Tryz.prog Sz := ⟨158, _, _, _, ct_158, Tryz.call158⟩
theorem c_rows_eight {W0 : Bse} {m : M} {w : World} {L : List (Nat × List Value)} {TL : List (Nat × Value)} {v0 : Value} (hS : S W0 m w (L) ((1, v0) :: TL)) {p0 : (List Int)} (ha0 : RV (kSl (kInt .u8)) m v0 p0) {p1 : Int} (ha1 : inR .u64 p1) {r : (List Int)} (h : rows_eight p0 p1 = some r) :
    Calls Tryz.prog 182 [v0, (.int .u64 p1)].toArray w (Ret fun v w' => ∃ m', M.le m m' ∧ S W0 m' w' (L) ((1, v) :: TL) ∧ RV (kSl (kInt .u8)) m' v r) := by
 refine kcall Tryz.func182 rfl Tryz.ntmps182 (Nat.le_of_ble_eq_true rfl) fun a hE => ?_
 have hE : Env 22 a [(0, v0), (1, (.int .u64 p1))] := hE
 unfold rows_eight at h
 refine kseq (kreg ?_)
 refine qa hE rfl rfl fun a hE => ?_
 refine knil (kseq (kreg ?_))
 refine st hE (st_alloc hS Tryz.zeroValue224 rfl (cs := zc224)) rfl ?_
 rintro _ a w ⟨b2, rfl, hS⟩ hE
 refine knil (kseq (kseq (kreg ?_)))
 refine qm hE rfl rfl fun a hE => ?_
 refine knil ?_
 refine kcut (fun a w => ∃ x7 : (List Int), rows_eight_j1 p0 x7 = some r ∧ ∃ m', M.le m m' ∧ ∃ (cs8 : List Value), GS (kInt .u8) m' b2 cs8 (.slice (some ⟨b2, 0, none⟩) 8 8) x7 ∧ S W0 m' w ((b2, cs8) :: L) ((1, v0) :: TL) ∧ Env 22 a [(0, v0), (5, (.pointer (some ⟨b2, 0, none⟩)))]) ?_ ?_
 {
 refine kblock ?_
 refine kloop h (fun (s : (Int × (List Int))) a w => ∃ m', M.le m m' ∧ ∃ (cs25 : List Value), inR .i64 s.1 ∧ GS (kInt .u8) m' b2 cs25 (.slice (some ⟨b2, 0, none⟩) 8 8) s.2 ∧ S W0 m' w ((b2, cs25) :: L) ((1, v0) :: TL) ∧ Env 22 a [(0, v0), (1, (.int .u64 p1)), (5, (.pointer (some ⟨b2, 0, none⟩))), (7, (.int .i64 s.1))]) ?_ ?_
 {
 exact ⟨_, (M.le.refl _), zc224, (show inR .i64 0 from inR_lit (by decide)), (za224 _ _), hS, hE.cut ⟨rfl, rfl, rfl, rfl, trivial⟩⟩
 }
 {
 rintro ⟨x22, x24⟩ a w ⟨m20, hm21, cs25, hr23, hc26, hS, hE⟩ r27 h hb28
 have h : rows_eight_b1 p0 p1 x22 x24 = some r27 := h
 unfold rows_eight_b1 at h
 refine kseq (kreg ?_)
 refine sp hE (r_bin hE rfl rfl b_lss) rfl fun a hE => ?_
 refine knil (kseq ?_)
 refine kif hE rfl (fun hd30 => ?_) (fun hd30 => ?_)
 {
 have h := ite_T hd30 h
 refine kskip (kseq (kblock (kseq (kreg ?_))))
 refine qm hE rfl rfl fun a hE => ?_
 refine qa hE rfl rfl fun a hE => ?_
 refine knil (kreg ?_)
 refine qm hE rfl rfl fun a hE => ?_
 refine qm hE rfl rfl fun a hE => ?_
 refine qm hE rfl rfl fun a hE => ?_
 refine sp hE (r_bin hE rfl rfl (b_mul rfl)) rfl fun a hE => ?_
 refine sp hE (r_bin hE rfl rfl (b_sub rfl)) rfl fun a hE => ?_
 obtain ⟨u38, hu39, h⟩ := ob h
 refine sp hE (r_bin hE rfl rfl (b_shr rfl (of_decide_eq_true (chk_some hu39)))) rfl fun a hE => ?_
 refine sp hE (r_conv hE rfl Tryz.underlying54 Tryz.underlying5 rfl) rfl fun a hE => ?_
 obtain ⟨j42, hj43, h⟩ := ob h
 refine sp hE (r_indexA (k := (kInt .u8)) hE rfl rfl Tryz.underlying224 Tryz.sizeOf5 (GS.arr_len hc26) hj43 rfl) rfl fun a hE => ?_
 obtain ⟨x47, hx48, h⟩ := ob h
 refine st0 hE (st_storeG (k := (kInt .u8)) hE hS ty5 StF_self hc26 hx48 rfl rfl (RV_of_int (inR_wrap _ _)) (i := 0) rfl) ?_
 rintro _ w ⟨cs45, hc46, hS⟩ hE
 refine knil (kreg ?_)
 refine sp hE (r_bin hE rfl rfl (b_add rfl)) rfl fun a hE => ?_
 refine qm hE rfl rfl fun a hE => ?_
 refine knil ?_
 exact ⟨(IntKind.i64.wrap (x22 + 1), (x24.set j42 (IntKind.u8.wrap (iShr .u64 p1 (IntKind.i64.wrap (56 - (IntKind.i64.wrap (8 * x22)))))))), (Option.some.inj h).symm, _, hm21, cs45, (inR_wrap _ _), hc46, hS, hE.cut ⟨rfl, rfl, rfl, rfl, trivial⟩⟩
 }
 {
 have h := ite_F hd30 h
 refine kexit rfl rfl ?_
 have h := unwrap h hb28
 exact ⟨x24, h, _, hm21, cs25, hc26, hS, hE.cut ⟨rfl, rfl, trivial⟩⟩
 }
 }
 }
 {
 rintro a w ⟨x7, h, m5, hm6, cs8, hc9, hS, hE⟩
 unfold rows_eight_j1 at h
 refine kseq (kreg ?_)
 refine qm hE rfl rfl fun a hE => ?_
 refine sp hE (r_sliceA (k := (kInt .u8)) hE rfl Tryz.underlying224 Tryz.sizeOf5) rfl fun a hE => ?_
 obtain ⟨z13, hz14, h⟩ := ob h
 refine st hE (st_appX (k := (kInt .u8)) (N := 140737488355328) hE hS rfl rfl Tryz.underlying24 el5 (i := 0) rfl (ha0.mono hm6) (src_own hS Tryz.underlying24 (i := 0) rfl hc9) hz14 rfl rfl) rfl ?_
 rintro v18 a w ⟨m16, hm17, hS, hv15⟩ hE
 refine qa hE rfl rfl fun a hE => ?_
 refine knil (kret ?_)
 obtain rfl := oi h
 try dsimp only
 refine Fin.mk hE (rs := [.tmp 4]) rfl (ResL.tmp hE rfl ResL.nil) ?_
 exact ⟨_, (M.le.trans hm6 hm17), ((hS.dropL 1).pickT 1 [0] rfl rfl rfl), hv15⟩
 }
theorem ct_182 : Ctr Sz Tryz.prog 182 [.ap (.int .u8), .rd (.int .u64)] [.ap (.int .u8)] (fun x => rows_eight x.1 x.2.1) := by
 intro W0 m w L TL vs x r Lp Tp hS hP h
 obtain ⟨v0, vs, Tp, rfl, rfl, a0, hP0⟩ := PR_ap hP
 obtain ⟨v1, vs, rfl, a1, hP1⟩ := PR_rd hP0
 obtain ⟨rfl, n1⟩ := RV_int a1
 obtain ⟨rfl, rfl, rfl⟩ := PR_nil hP1
 refine (c_rows_eight (hS := hS) a0 n1 h).mono ?_
 intro e w' he
 cases e with
 | returned v =>
  obtain ⟨m', hm, hS', r0⟩ := he
  exact ⟨m', [v], [], [], [(1, v)], hm, hS', rfl, ⟨r0, rfl, trivial⟩, trivial⟩
 | panicked ch => exact he.elim
 | outgrown => exact he.elim
noncomputable def cs_182 : CS Tryz.prog Sz := ⟨182, _, _, _, ct_182, Tryz.call182⟩
theorem ct_159 : Ctr Sz Tryz.prog 159 [.ap (.int .u8), .rd (.st 32)] [.ap (.int .u8)] (fun x => rows_one x.1 x.2.1) :=
 Ctr.nc (Γ := Γ) (D := [cs_182]) (c := Tryz.f159.body.getD .skip) (res := [4]) .o rfl mixed Tryz.func159 rfl Tryz.ntmps159 rfl rfl (fun x => by kernel_rfl)
noncomputable def cs_159 : CS Tryz.prog Sz := ⟨159, _, _, _, ct_159, Tryz.call159⟩
theorem ct_112 : Ctr Sz Tryz.prog 112 [.rd (.sl (.st 32))] [.rd (.sl (.int .u8)), .rd (.int .i64)] (fun x => rows_Encode x.1) :=
 Ctr.nc (Γ := Γ) (D := [cs_158, cs_159]) (c := Tryz.f112.body.getD .skip) (res := [2, 3]) (.s .o (.s .o (.s .o (.s (.s .o (.b (.l ⟨[.v 4 1 (.dat (.sl (.int .u8)) (some 0)), .v 16 1 (.dat (.int .i64) none)], [14, 15], 0, [1]⟩ .o))) .o)))) rfl mixed Tryz.func112 rfl Tryz.ntmps112 rfl rfl (fun x => by kernel_rfl)
noncomputable def cs_112 : CS Tryz.prog Sz := ⟨112, _, _, _, ct_112, Tryz.call112⟩
theorem ct_107 : Ctr Sz Tryz.prog 107 [.rd (.st 32)] [.rd (.sl (.int .u8))] (fun x => encode_one x.1) :=
 Ctr.nc (Γ := Γ) (D := [cs_112]) (c := Tryz.f107.body.getD .skip) (res := [2]) .o rfl mixed Tryz.func107 rfl Tryz.ntmps107 rfl rfl (fun x => by kernel_rfl)
noncomputable def cs_107 : CS Tryz.prog Sz := ⟨107, _, _, _, ct_107, Tryz.call107⟩
theorem c_encode_one {W0 : Bse} {m : M} {w : World} {L : List (Nat × List Value)} {TL : List (Nat × Value)} (hS : S W0 m w (L) (TL)) {v0 : Value} {p0 : Ap} (ha0 : RV kAp m v0 p0) {r : (List Int)} (h : encode_one p0 = some r) :
    Calls Tryz.prog 107 [v0].toArray w (Ret fun v w' => ∃ m', M.le m m' ∧ S W0 m' w' (L) (TL) ∧ RV (kSl (kInt .u8)) m' v r) := by
 refine (ct_107 W0 m w L TL [v0] (p0, ()) r [] [] hS ⟨ha0, trivial⟩ h).mono ?_
 intro e w' he
 cases e with
 | returned v =>
  obtain ⟨m', us, Lr, Lq, Tr, hm, hS', rfl, hR, hO⟩ := he
  obtain ⟨u0, us, rfl, r0, hR0⟩ := RR_rd hR
  obtain ⟨rfl, rfl, rfl⟩ := RR_nil hR0
  have hO0 := OR_rd hO
  obtain rfl := OR_nil hO0
  exact ⟨m', hm, hS', r0⟩
 | panicked ch => exact he.elim
 | outgrown => exact he.elim
theorem ct_103 : Ctr Sz Tryz.prog 103 [.rd (.sl (.st 32))] [.ap (.int .u8)] (fun x => encode_runs x.1) :=
 Ctr.nc (Γ := Γ) (D := [cs_107, cs_146]) (c := Tryz.f103.body.getD .skip) (res := [2]) (.s .o (.s .o (.s (.s .o (.b (.l ⟨[.v 3 1 (.dat (.sl (.int .u8)) (some 0)), .v 9 1 (.dat (.int .i64) none)], [7, 8], 0, [1]⟩ .o))) .o))) rfl mixed Tryz.func103 rfl Tryz.ntmps103 rfl rfl (fun x => by kernel_rfl)
theorem c_encode_runs {W0 : Bse} {m : M} {w : World} {L : List (Nat × List Value)} {TL : List (Nat × Value)} (hS : S W0 m w (L) (TL)) {v0 : Value} {p0 : (List Ap)} (ha0 : RV (kSl kAp) m v0 p0) {r : (List Int)} (h : encode_runs p0 = some r) :
    Calls Tryz.prog 103 [v0].toArray w (Ret fun v w' => ∃ m', M.le m m' ∧ S W0 m' w' (L) ((1, v) :: TL) ∧ RV (kSl (kInt .u8)) m' v r) := by
 refine (ct_103 W0 m w L TL [v0] (p0, ()) r [] [] hS ⟨ha0, trivial⟩ h).mono ?_
 intro e w' he
 cases e with
 | returned v =>
  obtain ⟨m', us, Lr, Lq, Tr, hm, hS', rfl, hR, hO⟩ := he
  obtain ⟨u0, us, Tr, rfl, rfl, r0, hR0⟩ := RR_ap hR
  obtain ⟨rfl, rfl, rfl⟩ := RR_nil hR0
  have hO0 := OR_rd hO
  obtain rfl := OR_nil hO0
  exact ⟨m', hm, hS', r0⟩
 | panicked ch => exact he.elim
 | outgrown => exact he.elim
theorem ct_147 : Ctr Sz Tryz.prog 147 [.rd (.int .u64)] [.ap (.int .u8)] (fun x => encode_eight x.1) :=
 Ctr.nc (Γ := Γ) (D := []) (c := Tryz.f147.body.getD .skip) (res := [2]) (.s .o (.s .o (.s (.s .o (.b (.l ⟨[.v 3 1 (.dat (.sl (.int .u8)) (some 0)), .v 5 1 (.dat (.int .i64) none)], [0], 0, [1]⟩ .o))) .o))) rfl mixed Tryz.func147 rfl Tryz.ntmps147 rfl rfl (fun x => by kernel_rfl)
noncomputable def cs_147 : CS Tryz.prog Sz := ⟨147, _, _, _, ct_147, Tryz.call147⟩
theorem ct_104 : Ctr Sz Tryz.prog 104 [.rd (.sl (.int .i64))] [.ap (.int .u8)] (fun x => encode_delta x.1) :=
 Ctr.nc (Γ := Γ) (D := [cs_147]) (c := Tryz.f104.body.getD .skip) (res := [2]) (.s .o (.s .o (.s (.s .o (.b (.l ⟨[.v 3 1 (.dat (.sl (.int .u8)) (some 0)), .v 16 1 (.dat (.int .i64) none)], [0, 14, 15], 0, [1]⟩ (.s .o (.s .o (.s (.b (.s .o (.s .o (.s .o (.s (.b (.l ⟨[.v 3 2 (.dat (.sl (.int .u8)) (some 0)), .v 7 2 (.dat (.int .u64) none)], [0, 14, 15, 16], 0, [1]⟩ .o)) .o))))) .o)))))) .o))) rfl mixed Tryz.func104 rfl Tryz.ntmps104 rfl rfl (fun x => by kernel_rfl)
theorem c_encode_delta {W0 : Bse} {m : M} {w : World} {L : List (Nat × List Value)} {TL : List (Nat × Value)} (hS : S W0 m w (L) (TL)) {v0 : Value} {p0 : (List Int)} (ha0 : RV (kSl (kInt .i64)) m v0 p0) {r : (List Int)} (h : encode_delta p0 = some r) :
    Calls Tryz.prog 104 [v0].toArray w (Ret fun v w' => ∃ m', M.le m m' ∧ S W0 m' w' (L) ((1, v) :: TL) ∧ RV (kSl (kInt .u8)) m' v r) := by
 refine (ct_104 W0 m w L TL [v0] (p0, ()) r [] [] hS ⟨ha0, trivial⟩ h).mono ?_
 intro e w' he
 cases e with
 | returned v =>
  obtain ⟨m', us, Lr, Lq, Tr, hm, hS', rfl, hR, hO⟩ := he
  obtain ⟨u0, us, Tr, rfl, rfl, r0, hR0⟩ := RR_ap hR
  obtain ⟨rfl, rfl, rfl⟩ := RR_nil hR0
  have hO0 := OR_rd hO
  obtain rfl := OR_nil hO0
  exact ⟨m', hm, hS', r0⟩
 | panicked ch => exact he.elim
 | outgrown => exact he.elim
theorem c_slices_SortFunc_Value {W0 : Bse} {m : M} {w : World} {L : List (Nat × List Value)} {TL : List (Nat × Value)} {b0_ : Nat} {c0_ : List Value} (hS : S W0 m w ((b0_, c0_) :: L) (TL)) {v0 : Value} {p0 : (List Ap)} (ha0 : GS kAp m b0_ c0_ v0 p0) {v1 : Value} {p1 : (Ap → Ap → Option Int)} (ha1 : Fn2 Tryz.prog kAp kAp (kInt .i64) m v1 p1) {r : (List Ap)} (h : slices_SortFunc_Value p0 p1 = some r) :
    Calls Tryz.prog 148 [v0, v1].toArray w (Ret fun v w' => ∃ m', M.le m m' ∧ ∃ q0_ : List Value, S W0 m' w' ((b0_, q0_) :: L) (TL) ∧ GS kAp m' b0_ q0_ v0 r) :=
  sort_calls (ρ := sort148_ren) sort148 Tryz.isAgg32 Tryz.sizeOf32 rfl hS ha0 ha1 h
theorem ct_173 : Ctr Sz Tryz.prog 173 [.rd (.int .i64)] [.rd .bool] (fun x => cmp_isNaN_int x.1) :=
 Ctr.nc (Γ := Γ) (D := []) (c := Tryz.f173.body.getD .skip) (res := [2]) .o rfl mixed Tryz.func173 rfl Tryz.ntmps173 rfl rfl (fun x => by kernel_rfl)
noncomputable def cs_173 : CS Tryz.prog Sz := ⟨173, _, _, _, ct_173, Tryz.call173⟩
theorem ct_127 : Ctr Sz Tryz.prog 127 [.rd (.int .i64), .rd (.int .i64)] [.rd (.int .i64)] (fun x => cmp_Compare_int x.1 x.2.1) :=
 Ctr.nc (Γ := Γ) (D := [cs_173]) (c := Tryz.f127.body.getD .skip) (res := [4]) .o rfl mixed Tryz.func127 rfl Tryz.ntmps127 rfl rfl (fun x => by kernel_rfl)
noncomputable def cs_127 : CS Tryz.prog Sz := ⟨127, _, _, _, ct_127, Tryz.call127⟩
theorem ct_180 : Ctr Sz Tryz.prog 180 [.rd (.int .i64)] [.rd .bool] (fun x => cmp_isNaN_int64 x.1) :=
 Ctr.nc (Γ := Γ) (D := []) (c := Tryz.f180.body.getD .skip) (res := [2]) .o rfl mixed Tryz.func180 rfl Tryz.ntmps180 rfl rfl (fun x => by kernel_rfl)
noncomputable def cs_180 : CS Tryz.prog Sz := ⟨180, _, _, _, ct_180, Tryz.call180⟩
theorem ct_155 : Ctr Sz Tryz.prog 155 [.rd (.int .i64), .rd (.int .i64)] [.rd (.int .i64)] (fun x => cmp_Compare_int64 x.1 x.2.1) :=
 Ctr.nc (Γ := Γ) (D := [cs_180]) (c := Tryz.f155.body.getD .skip) (res := [4]) .o rfl mixed Tryz.func155 rfl Tryz.ntmps155 rfl rfl (fun x => by kernel_rfl)
noncomputable def cs_155 : CS Tryz.prog Sz := ⟨155, _, _, _, ct_155, Tryz.call155⟩
theorem c_bytealg_CompareString {W0 : Bse} {m : M} {w : World} {L : List (Nat × List Value)} {TL : List (Nat × Value)} (hS : S W0 m w (L) (TL)) {p0 : List Int} (ha0 : ∀ n ∈ p0, 0 ≤ n ∧ n < 256) (hl0_ : p0.length ≤ maxSz) {p1 : List Int} (ha1 : ∀ n ∈ p1, 0 ≤ n ∧ n < 256) (hl1_ : p1.length ≤ maxSz) {r : Int} (h : bytealg_CompareString p0 p1 = some r) :
    Calls Tryz.prog 181 [(.string (bts p0)), (.string (bts p1))].toArray w (Ret fun v w' => ∃ m', M.le m m' ∧ S W0 m' w' (L) (TL) ∧ RV (kInt .i64) m' v r) := by
 refine kcall Tryz.func181 rfl Tryz.ntmps181 (Nat.le_of_ble_eq_true rfl) fun a hE => ?_
 have hE : Env 8 a [(0, (.string (bts p0))), (1, (.string (bts p1)))] := hE
 unfold bytealg_CompareString at h
 refine kseq (kreg ?_)
 refine qa hE rfl rfl fun a hE => ?_
 refine knil (kseq (kreg ?_))
 refine qm hE rfl rfl fun a hE => ?_
 refine qm hE rfl rfl fun a hE => ?_
 refine sp hE (st_cmpstr hE Tryz.func194 (by kernel_rfl) (by kernel_rfl) (by kernel_rfl) (by kernel_rfl) rfl ha0 ha1) rfl fun a hE => ?_
 refine qa hE rfl rfl fun a hE => ?_
 refine knil (kret ?_)
 obtain rfl := oi h
 try dsimp only
 refine Fin.mk hE (rs := [.tmp 4]) rfl (ResL.tmp hE rfl ResL.nil) ?_
 exact ⟨_, (M.le.refl _), hS, (RV_of_int (inR_cmpB _ _))⟩
theorem ct_181 : Ctr Sz Tryz.prog 181 [.rd .str, .rd .str] [.rd (.int .i64)] (fun x => bytealg_CompareString x.1 x.2.1) := by
 intro W0 m w L TL vs x r Lp Tp hS hP h
 obtain ⟨v0, vs, rfl, a0, hP0⟩ := PR_rd hP
 obtain ⟨rfl, n0, l0⟩ := RV_str a0
 obtain ⟨v1, vs, rfl, a1, hP1⟩ := PR_rd hP0
 obtain ⟨rfl, n1, l1⟩ := RV_str a1
 obtain ⟨rfl, rfl, rfl⟩ := PR_nil hP1
 refine (c_bytealg_CompareString (hS := hS) n0 l0 n1 l1 h).mono ?_
 intro e w' he
 cases e with
 | returned v =>
  obtain ⟨m', hm, hS', r0⟩ := he
  exact ⟨m', [v], [], [], [], hm, hS', rfl, ⟨r0, trivial⟩, trivial⟩
 | panicked ch => exact he.elim
 | outgrown => exact he.elim
noncomputable def cs_181 : CS Tryz.prog Sz := ⟨181, _, _, _, ct_181, Tryz.call181⟩
theorem ct_156 : Ctr Sz Tryz.prog 156 [.rd .str, .rd .str] [.rd (.int .i64)] (fun x => strings_Compare x.1 x.2.1) :=
 Ctr.nc (Γ := Γ) (D := [cs_181]) (c := Tryz.f156.body.getD .skip) (res := [4]) .o rfl mixed Tryz.func156 rfl Tryz.ntmps156 rfl rfl (fun x => by kernel_rfl)
noncomputable def cs_156 : CS Tryz.prog Sz := ⟨156, _, _, _, ct_156, Tryz.call156⟩
theorem ct_109 : Ctr Sz Tryz.prog 109 [.rd (.st 32), .rd (.st 32)] [.rd (.int .i64)] (fun x => value_Compare x.1 x.2.1) :=
 Ctr.nc (Γ := Γ) (D := [cs_127, cs_155, cs_156]) (c := Tryz.f109.body.getD .skip) (res := [4]) .o rfl mixed Tryz.func109 rfl Tryz.ntmps109 rfl rfl (fun x => by kernel_rfl)
theorem c_value_Compare {W0 : Bse} {m : M} {w : World} {L : List (Nat × List Value)} {TL : List (Nat × Value)} (hS : S W0 m w (L) (TL)) {v0 : Value} {p0 : Ap} (ha0 : RV kAp m v0 p0) {v1 : Value} {p1 : Ap} (ha1 : RV kAp m v1 p1) {r : Int} (h : value_Compare p0 p1 = some r) :
    Calls Tryz.prog 109 [v0, v1].toArray w (Ret fun v w' => ∃ m', M.le m m' ∧ S W0 m' w' (L) (TL) ∧ RV (kInt .i64) m' v r) := by
 refine (ct_109 W0 m w L TL [v0, v1] (p0, p1, ()) r [] [] hS ⟨ha0, ⟨ha1, trivial⟩⟩ h).mono ?_
 intro e w' he
 cases e with
 | returned v =>
  obtain ⟨m', us, Lr, Lq, Tr, hm, hS', rfl, hR, hO⟩ := he
  obtain ⟨u0, us, rfl, r0, hR0⟩ := RR_rd hR
  obtain ⟨rfl, rfl, rfl⟩ := RR_nil hR0
  have hO0 := OR_rd hO
  have hO1 := OR_rd hO0
  obtain rfl := OR_nil hO1
  exact ⟨m', hm, hS', r0⟩
 | panicked ch => exact he.elim
 | outgrown => exact he.elim
theorem ct_150 : Ctr Sz Tryz.prog 150 [.rd (.sl (.st 32)), .rd (.st 32)] [.rd (.int .i64)] (fun x => slices_Index_Value x.1 x.2.1) :=
 Ctr.nc (Γ := Γ) (D := []) (c := Tryz.f150.body.getD .skip) (res := [4]) (.s .o (.s (.s .o (.b (.l ⟨[.v 8 1 (.dat (.int .i64) none)], [0, 3, 7], 1, []⟩ .o))) .o)) rfl mixed Tryz.func150 rfl Tryz.ntmps150 rfl rfl (fun x => by kernel_rfl)
theorem c_slices_Index_Value {W0 : Bse} {m : M} {w : World} {L : List (Nat × List Value)} {TL : List (Nat × Value)} (hS : S W0 m w (L) (TL)) {v0 : Value} {p0 : (List Ap)} (ha0 : RV (kSl kAp) m v0 p0) {v1 : Value} {p1 : Ap} (ha1 : RV kAp m v1 p1) {r : Int} (h : slices_Index_Value p0 p1 = some r) :
    Calls Tryz.prog 150 [v0, v1].toArray w (Ret fun v w' => ∃ m', M.le m m' ∧ S W0 m' w' (L) (TL) ∧ RV (kInt .i64) m' v r) := by
 refine (ct_150 W0 m w L TL [v0, v1] (p0, p1, ()) r [] [] hS ⟨ha0, ⟨ha1, trivial⟩⟩ h).mono ?_
 intro e w' he
 cases e with
 | returned v =>
  obtain ⟨m', us, Lr, Lq, Tr, hm, hS', rfl, hR, hO⟩ := he
  obtain ⟨u0, us, rfl, r0, hR0⟩ := RR_rd hR
  obtain ⟨rfl, rfl, rfl⟩ := RR_nil hR0
  have hO0 := OR_rd hO
  have hO1 := OR_rd hO0
  obtain rfl := OR_nil hO1
  exact ⟨m', hm, hS', r0⟩
 | panicked ch => exact he.elim
 | outgrown => exact he.elim
theorem ct_179 : Ctr Sz Tryz.prog 179 [.rd (.int .u32)] [.rd (.int .i64)] (fun x => bits_Len32 x.1) :=
 Ctr.nc (Γ := Γ) (D := []) (c := Tryz.f179.body.getD .skip) (res := [2]) .o rfl mixed Tryz.func179 rfl Tryz.ntmps179 rfl rfl (fun x => by kernel_rfl)
noncomputable def cs_179 : CS Tryz.prog Sz := ⟨179, _, _, _, ct_179, Tryz.call179⟩
theorem ct_154 : Ctr Sz Tryz.prog 154 [.rd (.int .u64)] [.rd (.int .i64)] (fun x => bits_Len64 x.1) :=
 Ctr.nc (Γ := Γ) (D := []) (c := Tryz.f154.body.getD .skip) (res := [2]) .o rfl mixed Tryz.func154 rfl Tryz.ntmps154 rfl rfl (fun x => by kernel_rfl)
noncomputable def cs_154 : CS Tryz.prog Sz := ⟨154, _, _, _, ct_154, Tryz.call154⟩
theorem ct_152 : Ctr Sz Tryz.prog 152 [.rd (.int .u64)] [.rd (.int .i64)] (fun x => bits_Len x.1) :=
 Ctr.nc (Γ := Γ) (D := [cs_154, cs_179]) (c := Tryz.f152.body.getD .skip) (res := [2]) .o rfl mixed Tryz.func152 rfl Tryz.ntmps152 rfl rfl (fun x => by kernel_rfl)
noncomputable def cs_152 : CS Tryz.prog Sz := ⟨152, _, _, _, ct_152, Tryz.call152⟩
theorem c_bits_Len {W0 : Bse} {m : M} {w : World} {L : List (Nat × List Value)} {TL : List (Nat × Value)} (hS : S W0 m w (L) (TL)) {p0 : Int} (ha0 : inR .u64 p0) {r : Int} (h : bits_Len p0 = some r) :
    Calls Tryz.prog 152 [(.int .u64 p0)].toArray w (Ret fun v w' => ∃ m', M.le m m' ∧ S W0 m' w' (L) (TL) ∧ RV (kInt .i64) m' v r) := by
 refine (ct_152 W0 m w L TL [(.int .u64 p0)] (p0, ()) r [] [] hS ⟨RV_of_int ha0, trivial⟩ h).mono ?_
 intro e w' he
 cases e with
 | returned v =>
  obtain ⟨m', us, Lr, Lq, Tr, hm, hS', rfl, hR, hO⟩ := he
  obtain ⟨u0, us, rfl, r0, hR0⟩ := RR_rd hR
  obtain ⟨rfl, rfl, rfl⟩ := RR_nil hR0
  have hO0 := OR_rd hO
  obtain rfl := OR_nil hO0
  exact ⟨m', hm, hS', r0⟩
 | panicked ch => exact he.elim
 | outgrown => exact he.elim
theorem c_encode_packed {W0 : Bse} {m : M} {w : World} {L : List (Nat × List Value)} {TL : List (Nat × Value)} (hS : S W0 m w (L) (TL)) {v0 : Value} {p0 : (List Int)} (ha0 : RV (kSl (kInt .u64)) m v0 p0) {p1 : Int} (ha1 : inR .i64 p1) {r : (List Int)} (h : encode_packed p0 p1 = some r) :
    Calls Tryz.prog 151 [v0, (.int .i64 p1)].toArray w (Ret fun v w' => ∃ m', M.le m m' ∧ S W0 m' w' (L) (TL) ∧ RV (kSl (kInt .u8)) m' v r) := by
 refine kcall Tryz.func151 rfl Tryz.ntmps151 (Nat.le_of_ble_eq_true rfl) fun a hE => ?_
 have hE : Env 51 a [(0, v0), (1, (.int .i64 p1))] := hE
 unfold encode_packed at h
 refine kseq (kreg ?_)
 refine qa hE rfl rfl fun a hE => ?_
 refine knil (kseq (kreg ?_))
 refine qm hE rfl rfl fun a hE => ?_
 refine sp hE (r_lenSl (k := (kInt .u64)) hE rfl rfl Tryz.underlying189 ha0) rfl fun a hE => ?_
 refine qm hE rfl rfl fun a hE => ?_
 refine sp hE (r_bin hE rfl rfl (b_mul rfl)) rfl fun a hE => ?_
 refine sp hE (r_bin hE rfl rfl (b_add rfl)) rfl fun a hE => ?_
 refine sp hE (r_bin hE rfl rfl (b_quo rfl (by decide))) rfl fun a hE => ?_
 obtain ⟨z8, hz9, h⟩ := ob h
 refine st hE (st_makeG (k := (kInt .u8)) (m := m) hE hS rfl rfl Tryz.underlying24 Tryz.type5 rfl rfl rfl (fun m => zr5 m) hz9 rfl rfl) rfl ?_
 rintro v13 a w ⟨b10, cs11, hc12, hS⟩ hE
 refine qa hE rfl rfl fun a hE => ?_
 refine knil (kseq (kseq (kreg ?_)))
 refine qm hE rfl rfl fun a hE => ?_
 refine sp hE (r_lenSl (k := (kInt .u64)) hE rfl rfl Tryz.underlying189 ha0) rfl fun a hE => ?_
 refine qm hE rfl rfl fun a hE => ?_
 refine knil ?_
 refine kcut (fun a w => ∃ x20 : (List Int), encode_packed_j1 x20 = some r ∧ ∃ m', M.le m m' ∧ ∃ (v21 : Value), RV (kSl (kInt .u8)) m' v21 x20 ∧ S W0 m' w (L) (TL) ∧ Env 51 a [(5, v21)]) ?_ ?_
 {
 refine kblock ?_
 refine kloop h (fun (s : (Int × (List Int))) a w => ∃ m', M.le m m' ∧ ∃ (cs31 : List Value), inR .i64 s.1 ∧ GS (kInt .u8) m' b10 cs31 v13 s.2 ∧ S W0 m' w ((b10, cs31) :: L) (TL) ∧ Env 51 a [(1, (.int .i64 p1)), (5, v13), (17, v0), (18, (.int .i64 (p0.length : Int))), (19, (.int .i64 s.1))]) ?_ ?_
 {
 exact ⟨_, (M.le.refl _), cs11, (show inR .i64 0 from inR_lit (by decide)), hc12, hS, hE.cut ⟨rfl, rfl, rfl, rfl, rfl, trivial⟩⟩
 }
 {
 rintro ⟨x28, x30⟩ a w ⟨m26, hm27, cs31, hr29, hc32, hS, hE⟩ r33 h hb34
 have h : encode_packed_b1 p0 p1 x28 x30 = some r33 := h
 unfold encode_packed_b1 at h
 refine kseq (kreg ?_)
 refine sp hE (r_bin hE rfl rfl b_lss) rfl fun a hE => ?_
 refine knil (kseq ?_)
 refine kif hE rfl (fun hd36 => ?_) (fun hd36 => ?_)
 {
 have h := ite_T hd36 h
 refine kskip (kseq ?_)
 refine kcut (fun a w => ∃ x39 : (List Int), encode_packed_j2 x28 x39 = some r33 ∧ ∃ m', M.le m26 m' ∧ ∃ (cs40 : List Value), GS (kInt .u8) m' b10 cs40 v13 x39 ∧ S W0 m' w ((b10, cs40) :: L) (TL) ∧ Env 51 a [(1, (.int .i64 p1)), (5, v13), (17, v0), (18, (.int .i64 (p0.length : Int))), (19, (.int .i64 x28))]) ?_ ?_
 {
 refine kblock (kseq (kreg ?_))
 refine qm hE rfl rfl fun a hE => ?_
 obtain ⟨x46, hx47, h⟩ := ob h
 refine st hE (st_index (k := (kInt .u64)) hE rfl rfl Tryz.underlying189 Tryz.sizeOf54 (ha0.mono hm27) hx47) rfl ?_
 rintro v49 a _ ⟨rfl, hp48⟩ hE
 refine st hE (st_loadM hE hS ty54 rfl hp48) rfl ?_
 rintro v51 a _ ⟨rfl, hv50⟩ hE
 obtain ⟨rfl, hr52⟩ := RV_int hv50
 refine qa hE rfl rfl fun a hE => ?_
 refine qa hE rfl rfl fun a hE => ?_
 refine knil (kseq (kreg ?_))
 refine qm hE rfl rfl fun a hE => ?_
 refine qm hE rfl rfl fun a hE => ?_
 refine knil (kblock ?_)
 refine kloop h (fun (s : (Int × (List Int))) a w => ∃ m', M.le m26 m' ∧ ∃ (cs62 : List Value), inR .i64 s.1 ∧ GS (kInt .u8) m' b10 cs62 v13 s.2 ∧ S W0 m' w ((b10, cs62) :: L) (TL) ∧ Env 51 a [(1, (.int .i64 p1)), (5, v13), (6, (.int .i64 x28)), (7, (.int .u64 x46)), (17, v0), (18, (.int .i64 (p0.length : Int))), (19, (.int .i64 x28)), (24, (.int .i64 p1)), (25, (.int .i64 s.1))]) ?_ ?_
 {
 exact ⟨_, (M.le.refl _), cs31, (show inR .i64 0 from inR_lit (by decide)), hc32, hS, hE.cut ⟨rfl, rfl, rfl, rfl, rfl, rfl, rfl, rfl, rfl, trivial⟩⟩
 }
 {
 rintro ⟨x59, x61⟩ a w ⟨m57, hm58, cs62, hr60, hc63, hS, hE⟩ r64 h hb65
 have h : encode_packed_b2 p1 x28 x46 x59 x61 = some r64 := h
 unfold encode_packed_b2 at h
 refine kseq (kreg ?_)
 refine sp hE (r_bin hE rfl rfl b_lss) rfl fun a hE => ?_
 refine knil (kseq ?_)
 refine kif hE rfl (fun hd67 => ?_) (fun hd67 => ?_)
 {
 have h := ite_T hd67 h
 refine kskip (kseq (kblock (kseq (kreg ?_))))
 refine qm hE rfl rfl fun a hE => ?_
 refine qa hE rfl rfl fun a hE => ?_
 refine knil (kseq (kreg ?_))
 refine qm hE rfl rfl fun a hE => ?_
 refine qm hE rfl rfl fun a hE => ?_
 obtain ⟨u72, hu73, h⟩ := ob h
 refine sp hE (r_bin hE rfl rfl (b_shr rfl (of_decide_eq_true (chk_some hu73)))) rfl fun a hE => ?_
 refine sp hE (r_bin hE rfl rfl (b_and rfl)) rfl fun a hE => ?_
 refine sp hE (r_bin hE rfl rfl b_eql) rfl fun a hE => ?_
 refine knil ?_
 refine kcut (fun a w => ∃ x79 : (List Int), encode_packed_j3 x59 x79 = some r64 ∧ ∃ m', M.le m57 m' ∧ ∃ (cs80 : List Value), GS (kInt .u8) m' b10 cs80 v13 x79 ∧ S W0 m' w ((b10, cs80) :: L) (TL) ∧ Env 51 a [(1, (.int .i64 p1)), (5, v13), (6, (.int .i64 x28)), (7, (.int .u64 x46)), (17, v0), (18, (.int .i64 (p0.length : Int))), (19, (.int .i64 x28)), (24, (.int .i64 p1)), (25, (.int .i64 x59))]) ?_ ?_
 {
 refine kif hE rfl (fun hd85 => ?_) (fun hd85 => ?_)
 {
 have h := ite_T hd85 h
 refine kseq (kreg ?_)
 refine qm hE rfl rfl fun a hE => ?_
 refine qm hE rfl rfl fun a hE => ?_
 refine sp hE (r_bin hE rfl rfl (b_mul rfl)) rfl fun a hE => ?_
 refine qm hE rfl rfl fun a hE => ?_
 refine sp hE (r_bin hE rfl rfl (b_add rfl)) rfl fun a hE => ?_
 refine qa hE rfl rfl fun a hE => ?_
 refine knil ?_
 obtain ⟨j92, hj93, h⟩ := ob h
 obtain ⟨x95, hx96, h⟩ := ob h
 obtain ⟨u98, hu99, h⟩ := ob h
 refine kchain (k := 8) (m := m57) (es := []) (Φ := (fun i m ws v => match i with | 0 => v = v13 | 1 => v = (.int .i64 (IntKind.i64.wrap ((IntKind.i64.wrap (x28 * p1)) + x59))) ∧ inR .i64 (IntKind.i64.wrap ((IntKind.i64.wrap (x28 * p1)) + x59)) | 2 => v = (.int .i64 (IntKind.i64.wrap ((IntKind.i64.wrap ((IntKind.i64.wrap (x28 * p1)) + x59)).tdiv 8))) ∧ inR .i64 (IntKind.i64.wrap ((IntKind.i64.wrap ((IntKind.i64.wrap (x28 * p1)) + x59)).tdiv 8)) | 3 => v = (.pointer (some ⟨b10, j92 * 1, none⟩)) | 4 => v = (.int .u8 x95) ∧ inR .u8 x95 | 5 => v = (.int .i64 (IntKind.i64.wrap ((IntKind.i64.wrap (x28 * p1)) + x59))) ∧ inR .i64 (IntKind.i64.wrap ((IntKind.i64.wrap (x28 * p1)) + x59)) | 6 => v = (.int .i64 ((IntKind.i64.wrap ((IntKind.i64.wrap (x28 * p1)) + x59)).tmod 8)) ∧ inR .i64 ((IntKind.i64.wrap ((IntKind.i64.wrap (x28 * p1)) + x59)).tmod 8) | 7 => v = (.int .u8 (iShl .u8 1 ((IntKind.i64.wrap ((IntKind.i64.wrap (x28 * p1)) + x59)).tmod 8))) ∧ inR .u8 (iShl .u8 1 ((IntKind.i64.wrap ((IntKind.i64.wrap (x28 * p1)) + x59)).tmod 8)) | _ => True)) (Q := (fun c m ws L' TL' => match c with | 0 => (b10, cs62) :: L = L' ∧ TL = TL' | _ => False)) (cs := [⟨0, 0, false, [(5, v13)]⟩, ⟨0, 0, false, [(9, (.int .i64 (IntKind.i64.wrap ((IntKind.i64.wrap (x28 * p1)) + x59))))]⟩, ⟨0, 0, false, []⟩, ⟨0, 0, false, []⟩, ⟨0, 0, false, []⟩, ⟨0, 0, false, [(9, (.int .i64 (IntKind.i64.wrap ((IntKind.i64.wrap (x28 * p1)) + x59))))]⟩, ⟨0, 0, false, []⟩, ⟨0, 0, false, []⟩]) mixed hE hS ⟨rfl, rfl⟩ rfl rfl ⟨⟨rfl, trivial⟩, ⟨rfl, trivial⟩, trivial, trivial, trivial, ⟨rfl, trivial⟩, trivial, trivial, trivial⟩ (by kernel_rfl) ?_ ?_ ?_ ?_
 {
 intro i m_ m2_ ws v hm_ hp_
 match i, hp_ with
 | 0, hp_ => exact hp_
 | 1, hp_ => exact hp_
 | 2, hp_ => exact hp_
 | 3, hp_ => exact hp_
 | 4, hp_ => exact hp_
 | 5, hp_ => exact hp_
 | 6, hp_ => exact hp_
 | 7, hp_ => exact hp_
 | _ + 8, hp_ => exact trivial
 }
 {
 intro c m_ m2_ ws L_ T_ hm_ hq_
 match c, hq_ with
 | 0, ⟨e1_, e2_⟩ => exact ⟨e1_, e2_⟩
 | _ + 1, hq_ => exact hq_.elim
 }
 {
 refine ⟨?_, ?_, ?_, ?_, ?_, ?_, ?_, ?_, trivial⟩
 {
 refine cplain fun pre_ post_ L_ T_ m' a' w' hl' hp' hm' hq' hS' hE' hT' => ?_
 obtain rfl := len0 hl'
 refine Step.imp (Run1.pure (r_move hE' rfl)) ?_
 rintro _ _ ⟨rfl, rfl⟩
 exact ⟨_, M.le.refl _, hS', rfl⟩
 }
 {
 refine cplain fun pre_ post_ L_ T_ m' a' w' hl' hp' hm' hq' hS' hE' hT' => ?_
 obtain rfl := len0 hl'
 refine Step.imp (Run1.pure (r_move hE' rfl)) ?_
 rintro _ _ ⟨rfl, rfl⟩
 exact ⟨_, M.le.refl _, hS', ⟨rfl, (inR_wrap _ _)⟩⟩
 }
 {
 refine cplain fun pre_ post_ L_ T_ m' a' w' hl' hp' hm' hq' hS' hE' hT' => ?_
 obtain rfl := len0 hl'
 obtain ⟨v102, e103, q104⟩ : ∃ v, a'.tmps.getD 39 undef = v ∧ (v = (.int .i64 (IntKind.i64.wrap ((IntKind.i64.wrap (x28 * p1)) + x59))) ∧ inR .i64 (IntKind.i64.wrap ((IntKind.i64.wrap (x28 * p1)) + x59))) := ⟨_, rfl, hT' 1 (by decide) 39 rfl⟩
 obtain ⟨q104, hr105⟩ := q104
 have hE := hE'.add (e103.trans q104)
 refine Step.imp (Run1.pure (r_bin hE rfl rfl (b_quo rfl (by decide)))) ?_
 rintro _ _ ⟨rfl, rfl⟩
 exact ⟨_, M.le.refl _, hS', ⟨rfl, (inR_wrap _ _)⟩⟩
 }
 {
 refine cplain fun pre_ post_ L_ T_ m' a' w' hl' hp' hm' hq' hS' hE' hT' => ?_
 obtain rfl := len0 hl'
 obtain rfl := len0 (lenz (a := 0) hp')
 obtain ⟨rfl, rfl⟩ := hq'
 obtain ⟨v107, e108, q109⟩ : ∃ v, a'.tmps.getD 38 undef = v ∧ (v = v13) := ⟨_, rfl, hT' 0 (by decide) 38 rfl⟩
 have hE := hE'.add (e108.trans q109)
 obtain ⟨v110, e111, q112⟩ : ∃ v, a'.tmps.getD 40 undef = v ∧ (v = (.int .i64 (IntKind.i64.wrap ((IntKind.i64.wrap ((IntKind.i64.wrap (x28 * p1)) + x59)).tdiv 8))) ∧ inR .i64 (IntKind.i64.wrap ((IntKind.i64.wrap ((IntKind.i64.wrap (x28 * p1)) + x59)).tdiv 8))) := ⟨_, rfl, hT' 2 (by decide) 40 rfl⟩
 obtain ⟨q112, hr113⟩ := q112
 have hE := hE.add (e111.trans q112)
 refine Step.imp (Run1.pure (r_indexG (k := (kInt .u8)) hE rfl rfl Tryz.underlying24 Tryz.sizeOf5 (hc63.mono hm') hj93 rfl)) ?_
 rintro _ _ ⟨rfl, rfl⟩
 exact ⟨_, M.le.refl _, hS', rfl⟩
 }
 {
 refine cplain fun pre_ post_ L_ T_ m' a' w' hl' hp' hm' hq' hS' hE' hT' => ?_
 obtain rfl := len0 hl'
 obtain rfl := len0 (lenz (a := 0) hp')
 obtain ⟨rfl, rfl⟩ := hq'
 obtain ⟨v115, e116, q117⟩ : ∃ v, a'.tmps.getD 41 undef = v ∧ (v = (.pointer (some ⟨b10, j92 * 1, none⟩))) := ⟨_, rfl, hT' 3 (by decide) 41 rfl⟩
 have hE := hE'.add (e116.trans q117)
 refine Step.imp (st_loadL hE hS' ty5 rfl (i := 0) rfl (GS.elem (hc63.mono hm') hx96)) ?_
 rintro v118 _ ⟨rfl, hv94⟩
 obtain ⟨rfl, hr119⟩ := RV_int hv94
 exact ⟨_, M.le.refl _, hS', ⟨rfl, hr119⟩⟩
 }
 {
 refine cplain fun pre_ post_ L_ T_ m' a' w' hl' hp' hm' hq' hS' hE' hT' => ?_
 obtain rfl := len0 hl'
 refine Step.imp (Run1.pure (r_move hE' rfl)) ?_
 rintro _ _ ⟨rfl, rfl⟩
 exact ⟨_, M.le.refl _, hS', ⟨rfl, (inR_wrap _ _)⟩⟩
 }
 {
 refine cplain fun pre_ post_ L_ T_ m' a' w' hl' hp' hm' hq' hS' hE' hT' => ?_
 obtain rfl := len0 hl'
 obtain ⟨v121, e122, q123⟩ : ∃ v, a'.tmps.getD 43 undef = v ∧ (v = (.int .i64 (IntKind.i64.wrap ((IntKind.i64.wrap (x28 * p1)) + x59))) ∧ inR .i64 (IntKind.i64.wrap ((IntKind.i64.wrap (x28 * p1)) + x59))) := ⟨_, rfl, hT' 5 (by decide) 43 rfl⟩
 obtain ⟨q123, hr124⟩ := q123
 have hE := hE'.add (e122.trans q123)
 refine Step.imp (Run1.pure (r_bin hE rfl rfl (b_rem rfl (by decide)))) ?_
 rintro _ _ ⟨rfl, rfl⟩
 exact ⟨_, M.le.refl _, hS', ⟨rfl, (inR_mod hr124)⟩⟩
 }
 {
 refine cplain fun pre_ post_ L_ T_ m' a' w' hl' hp' hm' hq' hS' hE' hT' => ?_
 obtain rfl := len0 hl'
 obtain ⟨v126, e127, q128⟩ : ∃ v, a'.tmps.getD 44 undef = v ∧ (v = (.int .i64 ((IntKind.i64.wrap ((IntKind.i64.wrap (x28 * p1)) + x59)).tmod 8)) ∧ inR .i64 ((IntKind.i64.wrap ((IntKind.i64.wrap (x28 * p1)) + x59)).tmod 8)) := ⟨_, rfl, hT' 6 (by decide) 44 rfl⟩
 obtain ⟨q128, hr129⟩ := q128
 have hE := hE'.add (e127.trans q128)
 refine Step.imp (Run1.pure (r_bin hE rfl rfl (b_shl rfl (of_decide_eq_true (chk_some hu99))))) ?_
 rintro _ _ ⟨rfl, rfl⟩
 exact ⟨_, M.le.refl _, hS', ⟨rfl, (inR_shl _ _ _)⟩⟩
 }
 }
 {
 intro ws_ L_ T_ m131 a w hl132 hm133 hq134 hS hd135 hn136 ho137 hT138
 obtain rfl := len0 hl132
 obtain ⟨rfl, rfl⟩ := hq134
 have hE := EnvD.of (k := 8) (l' := [(1, (.int .i64 p1)), (5, v13), (6, (.int .i64 x28)), (7, (.int .u64 x46)), (8, (.int .i64 x59)), (9, (.int .i64 (IntKind.i64.wrap ((IntKind.i64.wrap (x28 * p1)) + x59)))), (17, v0), (18, (.int .i64 (p0.length : Int))), (19, (.int .i64 x28)), (24, (.int .i64 p1)), (25, (.int .i64 x59)), (26, (.bool (decide (x59 < p1)))), (27, (.int .i64 x59)), (28, (.int .u64 x46)), (29, (.int .i64 x59)), (30, (.int .u64 (iShr .u64 x46 x59))), (31, (.int .u64 (bAnd .u64 (iShr .u64 x46 x59) 1))), (32, (.bool ((bAnd .u64 (iShr .u64 x46 x59) 1) == 1))), (33, (.int .i64 x28)), (34, (.int .i64 p1)), (35, (.int .i64 (IntKind.i64.wrap (x28 * p1)))), (36, (.int .i64 x59)), (37, (.int .i64 (IntKind.i64.wrap ((IntKind.i64.wrap (x28 * p1)) + x59))))]) hd135 hn136 ho137 ⟨rfl, rfl, rfl, rfl, rfl, rfl, rfl, rfl, rfl, rfl, rfl, rfl, rfl, rfl, rfl, rfl, rfl, rfl, rfl, rfl, rfl, rfl, rfl, trivial⟩ rfl
 obtain ⟨v139, e140, q141⟩ : ∃ v, a.tmps.getD 38 undef = v ∧ (v = v13) := ⟨_, rfl, hT138 0 (by decide) 38 rfl⟩
 have hE := hE.add (e140.trans q141)
 obtain ⟨v142, e143, q144⟩ : ∃ v, a.tmps.getD 40 undef = v ∧ (v = (.int .i64 (IntKind.i64.wrap ((IntKind.i64.wrap ((IntKind.i64.wrap (x28 * p1)) + x59)).tdiv 8))) ∧ inR .i64 (IntKind.i64.wrap ((IntKind.i64.wrap ((IntKind.i64.wrap (x28 * p1)) + x59)).tdiv 8))) := ⟨_, rfl, hT138 2 (by decide) 40 rfl⟩
 obtain ⟨q144, hr145⟩ := q144
 have hE := hE.add (e143.trans q144)
 obtain ⟨v146, e147, q148⟩ : ∃ v, a.tmps.getD 42 undef = v ∧ (v = (.int .u8 x95) ∧ inR .u8 x95) := ⟨_, rfl, hT138 4 (by decide) 42 rfl⟩
 obtain ⟨q148, hr149⟩ := q148
 have hE := hE.add (e147.trans q148)
 obtain ⟨v150, e151, q152⟩ : ∃ v, a.tmps.getD 45 undef = v ∧ (v = (.int .u8 (iShl .u8 1 ((IntKind.i64.wrap ((IntKind.i64.wrap (x28 * p1)) + x59)).tmod 8))) ∧ inR .u8 (iShl .u8 1 ((IntKind.i64.wrap ((IntKind.i64.wrap (x28 * p1)) + x59)).tmod 8))) := ⟨_, rfl, hT138 7 (by decide) 45 rfl⟩
 obtain ⟨q152, hr153⟩ := q152
 have hE := hE.add (e151.trans q152)
 refine sp hE (r_bin hE rfl rfl (b_or rfl)) rfl fun a hE => ?_
 obtain ⟨j155, hj156, h⟩ := ob h
 refine sp hE (r_indexG (k := (kInt .u8)) hE rfl rfl Tryz.underlying24 Tryz.sizeOf5 (hc63.mono hm133) hj156 rfl) rfl fun a hE => ?_
 obtain ⟨x160, hx161, h⟩ := ob h
 refine st0 hE (st_storeG (k := (kInt .u8)) hE hS ty5 StF_self (hc63.mono hm133) hx161 rfl rfl (RV_of_int (inR_or _ _ _)) (i := 0) rfl) ?_
 rintro _ w ⟨cs158, hc159, hS⟩ hE
 refine knil ?_
 exact ⟨(x61.set j155 (bOr .u8 x95 (iShl .u8 1 ((IntKind.i64.wrap ((IntKind.i64.wrap (x28 * p1)) + x59)).tmod 8)))), h, _, hm133, cs158, hc159, hS, hE.cut ⟨rfl, rfl, rfl, rfl, rfl, rfl, rfl, rfl, rfl, trivial⟩⟩
 }
 }
 {
 have h := ite_F hd85 h
 refine kskip ?_
 exact ⟨x61, h, _, (M.le.refl _), cs62, hc63, hS, hE.cut ⟨rfl, rfl, rfl, rfl, rfl, rfl, rfl, rfl, rfl, trivial⟩⟩
 }
 }
 {
 rintro a w ⟨x79, h, m77, hm78, cs80, hc81, hS, hE⟩
 unfold encode_packed_j3 at h
 refine kreg ?_
 refine sp hE (r_bin hE rfl rfl (b_add rfl)) rfl fun a hE => ?_
 refine qm hE rfl rfl fun a hE => ?_
 refine knil ?_
 exact ⟨(IntKind.i64.wrap (x59 + 1), x79), (Option.some.inj h).symm, _, (M.le.trans hm58 hm78), cs80, (inR_wrap _ _), hc81, hS, hE.cut ⟨rfl, rfl, rfl, rfl, rfl, rfl, rfl, rfl, rfl, trivial⟩⟩
 }
 }
 {
 have h := ite_F hd67 h
 refine kexit rfl rfl ?_
 have h := unwrap h hb65
 exact ⟨x61, h, _, hm58, cs62, hc63, hS, hE.cut ⟨rfl, rfl, rfl, rfl, rfl, trivial⟩⟩
 }
 }
 }
 {
 rintro a w ⟨x39, h, m37, hm38, cs40, hc41, hS, hE⟩
 unfold encode_packed_j2 at h
 refine kreg ?_
 refine sp hE (r_bin hE rfl rfl (b_add rfl)) rfl fun a hE => ?_
 refine qm hE rfl rfl fun a hE => ?_
 refine knil ?_
 exact ⟨(IntKind.i64.wrap (x28 + 1), x39), (Option.some.inj h).symm, _, (M.le.trans hm27 hm38), cs40, (inR_wrap _ _), hc41, hS, hE.cut ⟨rfl, rfl, rfl, rfl, rfl, trivial⟩⟩
 }
 }
 {
 have h := ite_F hd36 h
 obtain ⟨m163, hm164, hS, hv165⟩ := S.freeze hS hc32
 refine kexit rfl rfl ?_
 have h := unwrap h hb34
 exact ⟨x30, h, _, (M.le.trans hm27 hm164), v13, hv165, hS, hE.cut ⟨rfl, trivial⟩⟩
 }
 }
 }
 {
 rintro a w ⟨x20, h, m18, hm19, v21, hv22, hS, hE⟩
 unfold encode_packed_j1 at h
 refine kseq (kreg ?_)
 refine qm hE rfl rfl fun a hE => ?_
 refine qa hE rfl rfl fun a hE => ?_
 refine knil (kret ?_)
 obtain rfl := oi h
 try dsimp only
 refine Fin.mk hE (rs := [.tmp 4]) rfl (ResL.tmp hE rfl ResL.nil) ?_
 exact ⟨_, hm19, hS, hv22⟩
 }
theorem ct_151 : Ctr Sz Tryz.prog 151 [.rd (.sl (.int .u64)), .rd (.int .i64)] [.rd (.sl (.int .u8))] (fun x => encode_packed x.1 x.2.1) := by
 intro W0 m w L TL vs x r Lp Tp hS hP h
 obtain ⟨v0, vs, rfl, a0, hP0⟩ := PR_rd hP
 obtain ⟨v1, vs, rfl, a1, hP1⟩ := PR_rd hP0
 obtain ⟨rfl, n1⟩ := RV_int a1
 obtain ⟨rfl, rfl, rfl⟩ := PR_nil hP1
 refine (c_encode_packed (hS := hS) a0 n1 h).mono ?_
 intro e w' he
 cases e with
 | returned v =>
  obtain ⟨m', hm, hS', r0⟩ := he
  exact ⟨m', [v], [], [], [], hm, hS', rfl, ⟨r0, trivial⟩, trivial⟩
 | panicked ch => exact he.elim
 | outgrown => exact he.elim
noncomputable def cs_151 : CS Tryz.prog Sz := ⟨151, _, _, _, ct_151, Tryz.call151⟩
theorem c_slices_Compact_Value_g {W0 : Bse} {m : M} {w : World} {L : List (Nat × List Value)} {TL : List (Nat × Value)} {b0_ : Nat} {c0_ : List Value} (hS : S W0 m w ((b0_, c0_) :: L) (TL)) {v0 : Value} {p0 : (List Ap)} (ha0 : GS kAp m b0_ c0_ v0 p0) {r : (List Ap)} (h : slices_Compact_Value_g p0 = some r) :
    Calls Tryz.prog 149 [v0].toArray w (Ret fun v w' => ∃ m', M.le m m' ∧ ∃ bq_ : Nat, ∃ cq_ : List Value, S W0 m' w' ((bq_, cq_) :: L) (TL) ∧ GS kAp m' bq_ cq_ v r) := by
 refine kcall Tryz.func149 rfl Tryz.ntmps149 (Nat.le_of_ble_eq_true rfl) fun a hE => ?_
 have hE : Env 61 a [(0, v0)] := hE
 unfold slices_Compact_Value_g at h
 refine kseq (kreg ?_)
 refine qa hE rfl rfl fun a hE => ?_
 refine knil (kseq (kseq (kreg ?_)))
 refine qm hE rfl rfl fun a hE => ?_
 refine sp hE (r_lenG (k := kAp) hE rfl rfl Tryz.underlying22 ha0) rfl fun a hE => ?_
 refine sp hE (r_bin hE rfl rfl b_lss) rfl fun a hE => ?_
 refine knil ?_
 refine kif hE rfl (fun hd5 => ?_) (fun hd5 => ?_)
 {
 have h := ite_T hd5 h
 refine kseq (kreg ?_)
 refine qm hE rfl rfl fun a hE => ?_
 refine qa hE rfl rfl fun a hE => ?_
 refine knil (kret ?_)
 obtain rfl := oi h
 try dsimp only
 refine Fin.mk hE (rs := [.tmp 2]) rfl (ResL.tmp hE rfl ResL.nil) ?_
 exact ⟨_, (M.le.refl _), b0_, c0_, ((hS.void 0).pickL 2 [1] rfl rfl rfl), ha0⟩
 }
 {
 have h := ite_F hd5 h
 refine kskip (kseq (kseq (kreg ?_)))
 refine qa hE rfl rfl fun a hE => ?_
 refine knil ?_
 refine kcut (fun a w => slices_Compact_Value_g_j1 p0 = some r ∧ ∃ m', M.le m m' ∧ S W0 m' w ((0, []) :: (b0_, c0_) :: L) (TL) ∧ Env 61 a [(0, v0)]) ?_ ?_
 {
 refine kblock ?_
 refine kloop h (fun (s : Int) a w => ∃ m', M.le m m' ∧ inR .i64 s ∧ S W0 m' w ((0, []) :: (b0_, c0_) :: L) (TL) ∧ Env 61 a [(0, v0), (3, (.int .i64 s))]) ?_ ?_
 {
 exact ⟨_, (M.le.refl _), (show inR .i64 1 from inR_lit (by decide)), (hS.void 0), hE.cut ⟨rfl, rfl, trivial⟩⟩
 }
 {
 rintro x16 a w ⟨m14, hm15, hr17, hS, hE⟩ r18 h hb19
 have h : slices_Compact_Value_g_b1 p0 x16 = some r18 := h
 unfold slices_Compact_Value_g_b1 at h
 refine kseq (kseq (kreg ?_))
 refine qm hE rfl rfl fun a hE => ?_
 refine qm hE rfl rfl fun a hE => ?_
 refine sp hE (r_lenG (k := kAp) hE rfl rfl Tryz.underlying22 (ha0.mono hm15)) rfl fun a hE => ?_
 refine sp hE (r_bin hE rfl rfl b_lss) rfl fun a hE => ?_
 refine knil ?_
 refine kif hE rfl (fun hd24 => ?_) (fun hd24 => ?_)
 {
 have h := ite_T hd24 h
 refine kskip (kseq ?_)
 refine kcut (fun a w => slices_Compact_Value_g_j2 x16 = some r18 ∧ ∃ m', M.le m14 m' ∧ S W0 m' w ((0, []) :: (b0_, c0_) :: L) (TL) ∧ Env 61 a [(0, v0), (3, (.int .i64 x16))]) ?_ ?_
 {
 refine kblock (kseq ?_)
 obtain ⟨j31, hj32, h⟩ := ob h
 obtain ⟨x34, hx35, h⟩ := ob h
 obtain ⟨j36, hj37, h⟩ := ob h
 obtain ⟨x39, hx40, h⟩ := ob h
 refine kchain (k := 9) (m := m14) (es := []) (Φ := (fun i m ws v => match i with | 0 => v = v0 | 1 => v = (.int .i64 x16) ∧ inR .i64 x16 | 2 => v = (.pointer (some ⟨b0_, j31 * 4, none⟩)) | 3 => RV kAp m v x34 | 4 => v = v0 | 5 => v = (.int .i64 x16) ∧ inR .i64 x16 | 6 => v = (.int .i64 (IntKind.i64.wrap (x16 - 1))) ∧ inR .i64 (IntKind.i64.wrap (x16 - 1)) | 7 => v = (.pointer (some ⟨b0_, j36 * 4, none⟩)) | 8 => RV kAp m v x39 | _ => True)) (Q := (fun c m ws L' TL' => match c with | 0 => (0, []) :: (b0_, c0_) :: L = L' ∧ TL = TL' | _ => False)) (cs := [⟨0, 0, false, [(0, v0)]⟩, ⟨0, 0, false, [(3, (.int .i64 x16))]⟩, ⟨0, 0, false, []⟩, ⟨0, 0, false, []⟩, ⟨0, 0, false, [(0, v0)]⟩, ⟨0, 0, false, [(3, (.int .i64 x16))]⟩, ⟨0, 0, false, []⟩, ⟨0, 0, false, []⟩, ⟨0, 0, false, []⟩]) mixed hE hS ⟨rfl, rfl⟩ rfl rfl ⟨⟨rfl, trivial⟩, ⟨rfl, trivial⟩, trivial, trivial, ⟨rfl, trivial⟩, ⟨rfl, trivial⟩, trivial, trivial, trivial, trivial⟩ (by kernel_rfl) ?_ ?_ ?_ ?_
 {
 intro i m_ m2_ ws v hm_ hp_
 match i, hp_ with
 | 0, hp_ => exact hp_
 | 1, hp_ => exact hp_
 | 2, hp_ => exact hp_
 | 3, hp_ => exact RV.mono hp_ hm_
 | 4, hp_ => exact hp_
 | 5, hp_ => exact hp_
 | 6, hp_ => exact hp_
 | 7, hp_ => exact hp_
 | 8, hp_ => exact RV.mono hp_ hm_
 | _ + 9, hp_ => exact trivial
 }
 {
 intro c m_ m2_ ws L_ T_ hm_ hq_
 match c, hq_ with
 | 0, ⟨e1_, e2_⟩ => exact ⟨e1_, e2_⟩
 | _ + 1, hq_ => exact hq_.elim
 }
 {
 refine ⟨?_, ?_, ?_, ?_, ?_, ?_, ?_, ?_, ?_, trivial⟩
 {
 refine cplain fun pre_ post_ L_ T_ m' a' w' hl' hp' hm' hq' hS' hE' hT' => ?_
 obtain rfl := len0 hl'
 refine Step.imp (Run1.pure (r_move hE' rfl)) ?_
 rintro _ _ ⟨rfl, rfl⟩
 exact ⟨_, M.le.refl _, hS', rfl⟩
 }
 {
 refine cplain fun pre_ post_ L_ T_ m' a' w' hl' hp' hm' hq' hS' hE' hT' => ?_
 obtain rfl := len0 hl'
 refine Step.imp (Run1.pure (r_move hE' rfl)) ?_
 rintro _ _ ⟨rfl, rfl⟩
 exact ⟨_, M.le.refl _, hS', ⟨rfl, hr17⟩⟩
 }
 {
 refine cplain fun pre_ post_ L_ T_ m' a' w' hl' hp' hm' hq' hS' hE' hT' => ?_
 obtain rfl := len0 hl'
 obtain rfl := len0 (lenz (a := 0) hp')
 obtain ⟨rfl, rfl⟩ := hq'
 obtain ⟨v43, e44, q45⟩ : ∃ v, a'.tmps.getD 16 undef = v ∧ (v = v0) := ⟨_, rfl, hT' 0 (by decide) 16 rfl⟩
 have hE := hE'.add (e44.trans q45)
 obtain ⟨v46, e47, q48⟩ : ∃ v, a'.tmps.getD 17 undef = v ∧ (v = (.int .i64 x16) ∧ inR .i64 x16) := ⟨_, rfl, hT' 1 (by decide) 17 rfl⟩
 obtain ⟨q48, hr49⟩ := q48
 have hE := hE.add (e47.trans q48)
 refine Step.imp (Run1.pure (r_indexG (k := kAp) hE rfl rfl Tryz.underlying22 Tryz.sizeOf32 (ha0.mono (M.le.trans hm15 hm')) hj32 rfl)) ?_
 rintro _ _ ⟨rfl, rfl⟩
 exact ⟨_, M.le.refl _, hS', rfl⟩
 }
 {
 refine cplain fun pre_ post_ L_ T_ m' a' w' hl' hp' hm' hq' hS' hE' hT' => ?_
 obtain rfl := len0 hl'
 obtain rfl := len0 (lenz (a := 0) hp')
 obtain ⟨rfl, rfl⟩ := hq'
 obtain ⟨v51, e52, q53⟩ : ∃ v, a'.tmps.getD 18 undef = v ∧ (v = (.pointer (some ⟨b0_, j31 * 4, none⟩))) := ⟨_, rfl, hT' 2 (by decide) 18 rfl⟩
 have hE := hE'.add (e52.trans q53)
 refine Step.imp (st_loadL hE hS' ty32 rfl (i := 1) rfl (GS.elem (ha0.mono (M.le.trans hm15 hm')) hx35)) ?_
 rintro v54 _ ⟨rfl, hv33⟩
 exact ⟨_, M.le.refl _, hS', hv33⟩
 }
 {
 refine cplain fun pre_ post_ L_ T_ m' a' w' hl' hp' hm' hq' hS' hE' hT' => ?_
 obtain rfl := len0 hl'
 refine Step.imp (Run1.pure (r_move hE' rfl)) ?_
 rintro _ _ ⟨rfl, rfl⟩
 exact ⟨_, M.le.refl _, hS', rfl⟩
 }
 {
 refine cplain fun pre_ post_ L_ T_ m' a' w' hl' hp' hm' hq' hS' hE' hT' => ?_
 obtain rfl := len0 hl'
 refine Step.imp (Run1.pure (r_move hE' rfl)) ?_
 rintro _ _ ⟨rfl, rfl⟩
 exact ⟨_, M.le.refl _, hS', ⟨rfl, hr17⟩⟩
 }
 {
 refine cplain fun pre_ post_ L_ T_ m' a' w' hl' hp' hm' hq' hS' hE' hT' => ?_
 obtain rfl := len0 hl'
 obtain ⟨v57, e58, q59⟩ : ∃ v, a'.tmps.getD 21 undef = v ∧ (v = (.int .i64 x16) ∧ inR .i64 x16) := ⟨_, rfl, hT' 5 (by decide) 21 rfl⟩
 obtain ⟨q59, hr60⟩ := q59
 have hE := hE'.add (e58.trans q59)
 refine Step.imp (Run1.pure (r_bin hE rfl rfl (b_sub rfl))) ?_
 rintro _ _ ⟨rfl, rfl⟩
 exact ⟨_, M.le.refl _, hS', ⟨rfl, (inR_wrap _ _)⟩⟩
 }
 {
 refine cplain fun pre_ post_ L_ T_ m' a' w' hl' hp' hm' hq' hS' hE' hT' => ?_
 obtain rfl := len0 hl'
 obtain rfl := len0 (lenz (a := 0) hp')
 obtain ⟨rfl, rfl⟩ := hq'
 obtain ⟨v62, e63, q64⟩ : ∃ v, a'.tmps.getD 20 undef = v ∧ (v = v0) := ⟨_, rfl, hT' 4 (by decide) 20 rfl⟩
 have hE := hE'.add (e63.trans q64)
 obtain ⟨v65, e66, q67⟩ : ∃ v, a'.tmps.getD 22 undef = v ∧ (v = (.int .i64 (IntKind.i64.wrap (x16 - 1))) ∧ inR .i64 (IntKind.i64.wrap (x16 - 1))) := ⟨_, rfl, hT' 6 (by decide) 22 rfl⟩
 obtain ⟨q67, hr68⟩ := q67
 have hE := hE.add (e66.trans q67)
 refine Step.imp (Run1.pure (r_indexG (k := kAp) hE rfl rfl Tryz.underlying22 Tryz.sizeOf32 (ha0.mono (M.le.trans hm15 hm')) hj37 rfl)) ?_
 rintro _ _ ⟨rfl, rfl⟩
 exact ⟨_, M.le.refl _, hS', rfl⟩
 }
 {
 refine cplain fun pre_ post_ L_ T_ m' a' w' hl' hp' hm' hq' hS' hE' hT' => ?_
 obtain rfl := len0 hl'
 obtain rfl := len0 (lenz (a := 0) hp')
 obtain ⟨rfl, rfl⟩ := hq'
 obtain ⟨v70, e71, q72⟩ : ∃ v, a'.tmps.getD 23 undef = v ∧ (v = (.pointer (some ⟨b0_, j36 * 4, none⟩))) := ⟨_, rfl, hT' 7 (by decide) 23 rfl⟩
 have hE := hE'.add (e71.trans q72)
 refine Step.imp (st_loadL hE hS' ty32 rfl (i := 1) rfl (GS.elem (ha0.mono (M.le.trans hm15 hm')) hx40)) ?_
 rintro v73 _ ⟨rfl, hv38⟩
 exact ⟨_, M.le.refl _, hS', hv38⟩
 }
 }
 {
 intro ws_ L_ T_ m74 a w hl75 hm76 hq77 hS hd78 hn79 ho80 hT81
 obtain rfl := len0 hl75
 obtain ⟨rfl, rfl⟩ := hq77
 have hE := EnvD.of (k := 9) (l' := [(0, v0), (3, (.int .i64 x16)), (10, (.int .i64 x16)), (11, v0), (12, (.int .i64 (p0.length : Int))), (13, (.bool (decide (x16 < (p0.length : Int)))))]) hd78 hn79 ho80 ⟨rfl, rfl, rfl, rfl, rfl, rfl, trivial⟩ rfl
 obtain ⟨v82, e83, q84⟩ : ∃ v, a.tmps.getD 19 undef = v ∧ (RV kAp m74 v x34) := ⟨_, rfl, hT81 3 (by decide) 19 rfl⟩
 have hE := hE.add (e83)
 obtain ⟨v85, e86, q87⟩ : ∃ v, a.tmps.getD 24 undef = v ∧ (RV kAp m74 v x39) := ⟨_, rfl, hT81 8 (by decide) 24 rfl⟩
 have hE := hE.add (e86)
 refine sp hE (r_eqlK hE eq32 rfl rfl q84 q87 rfl) rfl fun a hE => ?_
 refine knil ?_
 refine kif hE rfl (fun hd89 => ?_) (fun hd89 => ?_)
 {
 have h := ite_T hd89 h
 refine kseq (kreg ?_)
 refine qm hE rfl rfl fun a hE => ?_
 refine qm hE rfl rfl fun a hE => ?_
 obtain ⟨q93, hq94, h⟩ := ob h
 refine st hE (st_viewG (k := kAp) hE rfl Tryz.underlying22 Tryz.sizeOf32 (ha0.mono (M.le.trans hm15 hm76)) ⟨_, rfl⟩ rfl hq94 (sz := 4) rfl (xl := (some (.tmp 27))) (xh := none)) rfl ?_
 rintro v95 a _ ⟨rfl, hc92⟩ hE
 refine qa hE rfl rfl fun a hE => ?_
 refine knil (kseq (kseq (kreg ?_)))
 refine qa hE rfl rfl fun a hE => ?_
 refine knil ?_
 refine kcut (fun a w => ∃ x100 : Int, ∃ x102 : (List Ap), slices_Compact_Value_g_j3 x100 x102 = some r18 ∧ ∃ m', M.le m74 m' ∧ ∃ (cs103 : List Value), inR .i64 x100 ∧ GS kAp m' b0_ cs103 v0 x102 ∧ S W0 m' w ((0, []) :: (b0_, cs103) :: L) (TL) ∧ Env 61 a [(0, v0), (3, (.int .i64 x100))]) ?_ ?_
 {
 refine kblock ?_
 refine kloop h (fun (s : (Int × Int × (List Ap))) a w => ∃ m', M.le m74 m' ∧ ∃ (cs131 : List Value), inR .i64 s.1 ∧ inR .i64 s.2.1 ∧ GS kAp m' b0_ cs131 v0 s.2.2 ∧ S W0 m' w ((0, []) :: (b0_, cs131) :: L) (TL) ∧ Env 61 a [(0, v0), (3, (.int .i64 s.1)), (4, v95), (5, (.int .i64 s.2.1))]) ?_ ?_
 {
 exact ⟨_, (M.le.refl _), c0_, hr17, (show inR .i64 1 from inR_lit (by decide)), (ha0.mono (M.le.trans hm15 hm76)), hS, hE.cut ⟨rfl, rfl, rfl, rfl, trivial⟩⟩
 }
 {
 rintro ⟨x126, x128, x130⟩ a w ⟨m124, hm125, cs131, hr127, hr129, hc132, hS, hE⟩ r133 h hb134
 have h : slices_Compact_Value_g_b2 q93 x126 x128 x130 = some r133 := h
 unfold slices_Compact_Value_g_b2 at h
 refine kseq (kseq (kreg ?_))
 refine qm hE rfl rfl fun a hE => ?_
 refine qm hE rfl rfl fun a hE => ?_
 obtain ⟨u137, hu138, h⟩ := ob h
 refine sp hE (r_lenV (sz := 4) hE rfl rfl Tryz.underlying22 hc92) rfl fun a hE => ?_
 refine sp hE (r_bin hE rfl rfl b_lss) rfl fun a hE => ?_
 refine knil ?_
 refine kif hE rfl (fun hd141 => ?_) (fun hd141 => ?_)
 {
 have h := ite_T hd141 h
 refine kskip (kseq (kblock (kseq ?_)))
 obtain ⟨j142, hj143, h⟩ := ob h
 obtain ⟨x145, hx146, h⟩ := ob h
 obtain ⟨j147, hj148, h⟩ := ob h
 obtain ⟨x150, hx151, h⟩ := ob h
 refine kchain (k := 9) (m := m124) (es := []) (Φ := (fun i m ws v => match i with | 0 => v = v95 | 1 => v = (.int .i64 x128) ∧ inR .i64 x128 | 2 => v = (.pointer (some ⟨b0_, j142 * 4, none⟩)) | 3 => RV kAp m v x145 | 4 => v = v95 | 5 => v = (.int .i64 x128) ∧ inR .i64 x128 | 6 => v = (.int .i64 (IntKind.i64.wrap (x128 - 1))) ∧ inR .i64 (IntKind.i64.wrap (x128 - 1)) | 7 => v = (.pointer (some ⟨b0_, j147 * 4, none⟩)) | 8 => RV kAp m v x150 | _ => True)) (Q := (fun c m ws L' TL' => match c with | 0 => (0, []) :: (b0_, cs131) :: L = L' ∧ TL = TL' | _ => False)) (cs := [⟨0, 0, false, [(4, v95)]⟩, ⟨0, 0, false, [(5, (.int .i64 x128))]⟩, ⟨0, 0, false, []⟩, ⟨0, 0, false, []⟩, ⟨0, 0, false, [(4, v95)]⟩, ⟨0, 0, false, [(5, (.int .i64 x128))]⟩, ⟨0, 0, false, []⟩, ⟨0, 0, false, []⟩, ⟨0, 0, false, []⟩]) mixed hE hS ⟨rfl, rfl⟩ rfl rfl ⟨⟨rfl, trivial⟩, ⟨rfl, trivial⟩, trivial, trivial, ⟨rfl, trivial⟩, ⟨rfl, trivial⟩, trivial, trivial, trivial, trivial⟩ (by kernel_rfl) ?_ ?_ ?_ ?_
 {
 intro i m_ m2_ ws v hm_ hp_
 match i, hp_ with
 | 0, hp_ => exact hp_
 | 1, hp_ => exact hp_
 | 2, hp_ => exact hp_
 | 3, hp_ => exact RV.mono hp_ hm_
 | 4, hp_ => exact hp_
 | 5, hp_ => exact hp_
 | 6, hp_ => exact hp_
 | 7, hp_ => exact hp_
 | 8, hp_ => exact RV.mono hp_ hm_
 | _ + 9, hp_ => exact trivial
 }
 {
 intro c m_ m2_ ws L_ T_ hm_ hq_
 match c, hq_ with
 | 0, ⟨e1_, e2_⟩ => exact ⟨e1_, e2_⟩
 | _ + 1, hq_ => exact hq_.elim
 }
 {
 refine ⟨?_, ?_, ?_, ?_, ?_, ?_, ?_, ?_, ?_, trivial⟩
 {
 refine cplain fun pre_ post_ L_ T_ m' a' w' hl' hp' hm' hq' hS' hE' hT' => ?_
 obtain rfl := len0 hl'
 refine Step.imp (Run1.pure (r_move hE' rfl)) ?_
 rintro _ _ ⟨rfl, rfl⟩
 exact ⟨_, M.le.refl _, hS', rfl⟩
 }
 {
 refine cplain fun pre_ post_ L_ T_ m' a' w' hl' hp' hm' hq' hS' hE' hT' => ?_
 obtain rfl := len0 hl'
 refine Step.imp (Run1.pure (r_move hE' rfl)) ?_
 rintro _ _ ⟨rfl, rfl⟩
 exact ⟨_, M.le.refl _, hS', ⟨rfl, hr129⟩⟩
 }
 {
 refine cplain fun pre_ post_ L_ T_ m' a' w' hl' hp' hm' hq' hS' hE' hT' => ?_
 obtain rfl := len0 hl'
 obtain ⟨v154, e155, q156⟩ : ∃ v, a'.tmps.getD 35 undef = v ∧ (v = v95) := ⟨_, rfl, hT' 0 (by decide) 35 rfl⟩
 have hE := hE'.add (e155.trans q156)
 obtain ⟨v157, e158, q159⟩ : ∃ v, a'.tmps.getD 36 undef = v ∧ (v = (.int .i64 x128) ∧ inR .i64 x128) := ⟨_, rfl, hT' 1 (by decide) 36 rfl⟩
 obtain ⟨q159, hr160⟩ := q159
 have hE := hE.add (e158.trans q159)
 refine Step.imp (Run1.pure (r_indexV (sz := 4) hE rfl rfl Tryz.underlying22 Tryz.sizeOf32 hc92 hj143)) ?_
 rintro _ _ ⟨rfl, rfl⟩
 exact ⟨_, M.le.refl _, hS', rfl⟩
 }
 {
 refine cplain fun pre_ post_ L_ T_ m' a' w' hl' hp' hm' hq' hS' hE' hT' => ?_
 obtain rfl := len0 hl'
 obtain rfl := len0 (lenz (a := 0) hp')
 obtain ⟨rfl, rfl⟩ := hq'
 obtain ⟨v162, e163, q164⟩ : ∃ v, a'.tmps.getD 37 undef = v ∧ (v = (.pointer (some ⟨b0_, j142 * 4, none⟩))) := ⟨_, rfl, hT' 2 (by decide) 37 rfl⟩
 have hE := hE'.add (e163.trans q164)
 refine Step.imp (st_loadL hE hS' ty32 rfl (i := 1) rfl (GS.elem (hc132.mono hm') hx146)) ?_
 rintro v165 _ ⟨rfl, hv144⟩
 exact ⟨_, M.le.refl _, hS', hv144⟩
 }
 {
 refine cplain fun pre_ post_ L_ T_ m' a' w' hl' hp' hm' hq' hS' hE' hT' => ?_
 obtain rfl := len0 hl'
 refine Step.imp (Run1.pure (r_move hE' rfl)) ?_
 rintro _ _ ⟨rfl, rfl⟩
 exact ⟨_, M.le.refl _, hS', rfl⟩
 }
 {
 refine cplain fun pre_ post_ L_ T_ m' a' w' hl' hp' hm' hq' hS' hE' hT' => ?_
 obtain rfl := len0 hl'
 refine Step.imp (Run1.pure (r_move hE' rfl)) ?_
 rintro _ _ ⟨rfl, rfl⟩
 exact ⟨_, M.le.refl _, hS', ⟨rfl, hr129⟩⟩
 }
 {
 refine cplain fun pre_ post_ L_ T_ m' a' w' hl' hp' hm' hq' hS' hE' hT' => ?_
 obtain rfl := len0 hl'
 obtain ⟨v168, e169, q170⟩ : ∃ v, a'.tmps.getD 40 undef = v ∧ (v = (.int .i64 x128) ∧ inR .i64 x128) := ⟨_, rfl, hT' 5 (by decide) 40 rfl⟩
 obtain ⟨q170, hr171⟩ := q170
 have hE := hE'.add (e169.trans q170)
 refine Step.imp (Run1.pure (r_bin hE rfl rfl (b_sub rfl))) ?_
 rintro _ _ ⟨rfl, rfl⟩
 exact ⟨_, M.le.refl _, hS', ⟨rfl, (inR_wrap _ _)⟩⟩
 }
 {
 refine cplain fun pre_ post_ L_ T_ m' a' w' hl' hp' hm' hq' hS' hE' hT' => ?_
 obtain rfl := len0 hl'
 obtain ⟨v173, e174, q175⟩ : ∃ v, a'.tmps.getD 39 undef = v ∧ (v = v95) := ⟨_, rfl, hT' 4 (by decide) 39 rfl⟩
 have hE := hE'.add (e174.trans q175)
 obtain ⟨v176, e177, q178⟩ : ∃ v, a'.tmps.getD 41 undef = v ∧ (v = (.int .i64 (IntKind.i64.wrap (x128 - 1))) ∧ inR .i64 (IntKind.i64.wrap (x128 - 1))) := ⟨_, rfl, hT' 6 (by decide) 41 rfl⟩
 obtain ⟨q178, hr179⟩ := q178
 have hE := hE.add (e177.trans q178)
 refine Step.imp (Run1.pure (r_indexV (sz := 4) hE rfl rfl Tryz.underlying22 Tryz.sizeOf32 hc92 hj148)) ?_
 rintro _ _ ⟨rfl, rfl⟩
 exact ⟨_, M.le.refl _, hS', rfl⟩
 }
 {
 refine cplain fun pre_ post_ L_ T_ m' a' w' hl' hp' hm' hq' hS' hE' hT' => ?_
 obtain rfl := len0 hl'
 obtain rfl := len0 (lenz (a := 0) hp')
 obtain ⟨rfl, rfl⟩ := hq'
 obtain ⟨v181, e182, q183⟩ : ∃ v, a'.tmps.getD 42 undef = v ∧ (v = (.pointer (some ⟨b0_, j147 * 4, none⟩))) := ⟨_, rfl, hT' 7 (by decide) 42 rfl⟩
 have hE := hE'.add (e182.trans q183)
 refine Step.imp (st_loadL hE hS' ty32 rfl (i := 1) rfl (GS.elem (hc132.mono hm') hx151)) ?_
 rintro v184 _ ⟨rfl, hv149⟩
 exact ⟨_, M.le.refl _, hS', hv149⟩
 }
 }
 {
 intro ws_ L_ T_ m185 a w hl186 hm187 hq188 hS hd189 hn190 ho191 hT192
 obtain rfl := len0 hl186
 obtain ⟨rfl, rfl⟩ := hq188
 have hE := EnvD.of (k := 9) (l' := [(0, v0), (3, (.int .i64 x126)), (4, v95), (5, (.int .i64 x128)), (29, (.int .i64 x128)), (30, v95), (31, (.int .i64 (q93.2 : Int))), (32, (.bool (decide (x128 < (q93.2 : Int)))))]) hd189 hn190 ho191 ⟨rfl, rfl, rfl, rfl, rfl, rfl, rfl, rfl, trivial⟩ rfl
 obtain ⟨v193, e194, q195⟩ : ∃ v, a.tmps.getD 38 undef = v ∧ (RV kAp m185 v x145) := ⟨_, rfl, hT192 3 (by decide) 38 rfl⟩
 have hE := hE.add (e194)
 obtain ⟨v196, e197, q198⟩ : ∃ v, a.tmps.getD 43 undef = v ∧ (RV kAp m185 v x150) := ⟨_, rfl, hT192 8 (by decide) 43 rfl⟩
 have hE := hE.add (e197)
 refine sp hE (r_neqK hE eq32 rfl rfl q195 q198 rfl) rfl fun a hE => ?_
 refine knil ?_
 refine kcut (fun a w => ∃ x202 : Int, ∃ x204 : (List Ap), slices_Compact_Value_g_j4 x128 x202 x204 = some r133 ∧ ∃ m', M.le m185 m' ∧ ∃ (cs205 : List Value), inR .i64 x202 ∧ GS kAp m' b0_ cs205 v0 x204 ∧ S W0 m' w ((0, []) :: (b0_, cs205) :: L) (TL) ∧ Env 61 a [(0, v0), (3, (.int .i64 x202)), (4, v95), (5, (.int .i64 x128))]) ?_ ?_
 {
 refine kif hE rfl (fun hd211 => ?_) (fun hd211 => ?_)
 {
 have h := ite_T hd211 h
 refine kseq (kreg ?_)
 refine qm hE rfl rfl fun a hE => ?_
 refine qm hE rfl rfl fun a hE => ?_
 refine qm hE rfl rfl fun a hE => ?_
 refine qm hE rfl rfl fun a hE => ?_
 obtain ⟨j216, hj217, h⟩ := ob h
 refine sp hE (r_indexV (sz := 4) hE rfl rfl Tryz.underlying22 Tryz.sizeOf32 hc92 hj217) rfl fun a hE => ?_
 obtain ⟨x220, hx221, h⟩ := ob h
 refine st hE (st_loadL hE hS ty32 rfl (i := 1) rfl (GS.elem (hc132.mono hm187) hx221)) rfl ?_
 rintro v222 a _ ⟨rfl, hv219⟩ hE
 obtain ⟨j223, hj224, h⟩ := ob h
 refine sp hE (r_indexG (k := kAp) hE rfl rfl Tryz.underlying22 Tryz.sizeOf32 (hc132.mono hm187) hj224 rfl) rfl fun a hE => ?_
 obtain ⟨x228, hx229, h⟩ := ob h
 refine st0 hE (st_storeG (k := kAp) hE hS ty32 StF_self (hc132.mono hm187) hx229 rfl rfl hv219 (i := 1) rfl) ?_
 rintro _ w ⟨cs226, hc227, hS⟩ hE
 refine knil (kreg ?_)
 refine qm hE rfl rfl fun a hE => ?_
 refine sp hE (r_bin hE rfl rfl (b_add rfl)) rfl fun a hE => ?_
 refine qa hE rfl rfl fun a hE => ?_
 refine knil ?_
 exact ⟨(IntKind.i64.wrap (x126 + 1)), (x130.set j223 x220), h, _, (M.le.refl _), cs226, (inR_wrap _ _), hc227, hS, hE.cut ⟨rfl, rfl, rfl, rfl, trivial⟩⟩
 }
 {
 have h := ite_F hd211 h
 refine kskip ?_
 exact ⟨x126, x130, h, _, (M.le.refl _), cs131, hr127, (hc132.mono hm187), hS, hE.cut ⟨rfl, rfl, rfl, rfl, trivial⟩⟩
 }
 }
 {
 rintro a w ⟨x202, x204, h, m200, hm201, cs205, hr203, hc206, hS, hE⟩
 unfold slices_Compact_Value_g_j4 at h
 refine kreg ?_
 refine qm hE rfl rfl fun a hE => ?_
 refine sp hE (r_bin hE rfl rfl (b_add rfl)) rfl fun a hE => ?_
 refine qa hE rfl rfl fun a hE => ?_
 refine knil ?_
 exact ⟨(x202, IntKind.i64.wrap (x128 + 1), x204), (Option.some.inj h).symm, _, (M.le.trans hm125 (M.le.trans hm187 hm201)), cs205, hr203, (inR_wrap _ _), hc206, hS, hE.cut ⟨rfl, rfl, rfl, rfl, trivial⟩⟩
 }
 }
 }
 {
 have h := ite_F hd141 h
 refine kexit rfl rfl ?_
 have h := unwrap h hb134
 exact ⟨x126, x130, h, _, hm125, cs131, hr127, hc132, hS, hE.cut ⟨rfl, rfl, trivial⟩⟩
 }
 }
 }
 {
 rintro a w ⟨x100, x102, h, m98, hm99, cs103, hr101, hc104, hS, hE⟩
 unfold slices_Compact_Value_g_j3 at h
 refine kseq (kreg ?_)
 refine qm hE rfl rfl fun a hE => ?_
 refine qm hE rfl rfl fun a hE => ?_
 obtain ⟨q109, hq110, h⟩ := ob h
 refine st hE (st_viewG (k := kAp) hE rfl Tryz.underlying22 Tryz.sizeOf32 hc104 ⟨_, rfl⟩ rfl hq110 (sz := 4) rfl (xl := (some (.tmp 55))) (xh := none)) rfl ?_
 rintro v111 a _ ⟨rfl, hc108⟩ hE
 obtain ⟨z114, hz115, h⟩ := ob h
 refine st0 hE (st_clearV (k := kAp) hE hS rfl rfl Tryz.underlying22 Tryz.zeroValue32 (fun m => zr32 m) (i := 1) rfl hc104 hc108 hz115) ?_
 rintro _ w ⟨cs112, hc113, hS⟩ hE
 refine knil (kseq (kreg ?_))
 refine qm hE rfl rfl fun a hE => ?_
 refine qm hE rfl rfl fun a hE => ?_
 obtain ⟨x120, hx121, h⟩ := ob h
 refine st hE (st_sliceG (k := kAp) hE rfl Tryz.underlying22 Tryz.sizeOf32 hc113 rfl hx121) rfl ?_
 rintro v122 a _ ⟨rfl, hc119⟩ hE
 refine qa hE rfl rfl fun a hE => ?_
 refine knil (kret ?_)
 have h := unwrap h hb19
 obtain rfl := oi h
 try dsimp only
 refine Fin.mk hE (rs := [.tmp 2]) rfl (ResL.tmp hE rfl ResL.nil) ?_
 exact ⟨_, (M.le.trans hm15 (M.le.trans hm76 hm99)), b0_, cs112, (hS.pickL 2 [1] rfl rfl rfl), hc119⟩
 }
 }
 {
 have h := ite_F hd89 h
 refine kskip ?_
 exact ⟨h, _, hm76, hS, hE.cut ⟨rfl, rfl, trivial⟩⟩
 }
 }
 }
 {
 rintro a w ⟨h, m25, hm26, hS, hE⟩
 unfold slices_Compact_Value_g_j2 at h
 refine kreg ?_
 refine qm hE rfl rfl fun a hE => ?_
 refine sp hE (r_bin hE rfl rfl (b_add rfl)) rfl fun a hE => ?_
 refine qa hE rfl rfl fun a hE => ?_
 refine knil ?_
 exact ⟨IntKind.i64.wrap (x16 + 1), (Option.some.inj h).symm, _, (M.le.trans hm15 hm26), (inR_wrap _ _), hS, hE.cut ⟨rfl, rfl, trivial⟩⟩
 }
 }
 {
 have h := ite_F hd24 h
 refine kexit rfl rfl ?_
 have h := unwrap h hb19
 exact ⟨h, _, hm15, hS, hE.cut ⟨rfl, trivial⟩⟩
 }
 }
 }
 {
 rintro a w ⟨h, m9, hm10, hS, hE⟩
 unfold slices_Compact_Value_g_j1 at h
 refine kseq (kreg ?_)
 refine qm hE rfl rfl fun a hE => ?_
 refine qa hE rfl rfl fun a hE => ?_
 refine knil (kret ?_)
 obtain rfl := oi h
 try dsimp only
 refine Fin.mk hE (rs := [.tmp 2]) rfl (ResL.tmp hE rfl ResL.nil) ?_
 exact ⟨_, hm10, b0_, c0_, (hS.pickL 2 [1] rfl rfl rfl), (ha0.mono hm10)⟩
 }
 }
theorem c_slices_Clone_Value_g {W0 : Bse} {m : M} {w : World} {L : List (Nat × List Value)} {TL : List (Nat × Value)} (hS : S W0 m w (L) (TL)) {v0 : Value} {p0 : (List Ap)} (ha0 : RV (kSl kAp) m v0 p0) {r : (List Ap)} (h : slices_Clone_Value_g p0 = some r) :
    Calls Tryz.prog 92 [v0].toArray w (Ret fun v w' => ∃ m', M.le m m' ∧ ∃ bq_ : Nat, ∃ cq_ : List Value, S W0 m' w' ((bq_, cq_) :: L) (TL) ∧ GS kAp m' bq_ cq_ v r) := by
 refine kcall Tryz.func92 rfl Tryz.ntmps92 (Nat.le_of_ble_eq_true rfl) fun a hE => ?_
 have hE : Env 8 a [(0, v0)] := hE
 unfold slices_Clone_Value_g at h
 refine kseq (kreg ?_)
 refine qa hE rfl rfl fun a hE => ?_
 refine knil (kseq (kseq (kreg ?_)))
 refine qm hE rfl rfl fun a hE => ?_
 refine st hE (st_isnil (k := kAp) hE rfl rfl ha0 Tryz.underlying22) rfl ?_
 rintro v5 a _ ⟨rfl, bn3, rfl, hb4⟩ hE
 refine knil ?_
 refine kif hE rfl (fun hd6 => ?_) (fun hd6 => ?_)
 {
 have hx_ := hb4 hd6
 have h : some ([] : List Ap) = some r := by rw [hx_] at h; exact h
 refine kseq (kreg ?_)
 refine qa hE rfl rfl fun a hE => ?_
 refine knil (kret ?_)
 obtain rfl := oi h
 try dsimp only
 refine Fin.mk hE (rs := [.tmp 2]) rfl (ResL.tmp hE rfl ResL.nil) ?_
 exact ⟨_, (M.le.refl _), 0, [], (((hS.void 0).void 0).pickL 2 [0] rfl rfl rfl), GS.void⟩
 }
 {
 refine kskip (kseq (kreg ?_))
 refine st hE (st_litG (k := kAp) (m := m) (xs := []) (vs := []) hE (hS.void 0) rfl Tryz.underlying22 Tryz.sizeOf32 Tryz.zeroValue32 trivial rfl (by decide)) rfl ?_
 rintro v14 a w ⟨b11, cs12, hc13, hS⟩ hE
 refine qm hE rfl rfl fun a hE => ?_
 obtain ⟨z16, hz17, h⟩ := ob h
 refine st hE (st_appG (k := kAp) (N := 3518437208883) hE hS rfl rfl Tryz.underlying22 el32 (i := 0) rfl hc13 (src_sl hS Tryz.underlying22 ha0) hz17 rfl rfl) rfl ?_
 rintro v24 a w ⟨b21, cs22, hc23, hS⟩ hE
 refine qa hE rfl rfl fun a hE => ?_
 refine knil (kret ?_)
 obtain rfl := oi h
 try dsimp only
 refine Fin.mk hE (rs := [.tmp 2]) rfl (ResL.tmp hE rfl ResL.nil) ?_
 exact ⟨_, (M.le.refl _), b21, cs22, (hS.pickL 2 [0] rfl rfl rfl), hc23⟩
 }
theorem fn_109 {m0 : M} : Fn2 Tryz.prog kAp kAp (kInt .i64) m0 (.func (.func 109) [].toArray [].toArray) value_Compare := by
  refine ⟨109, _, rfl, Tryz.call109, ?_⟩
  intro W0 m w L TL v0 v1 x0 x1 r hm hS h0 h1 hr
  refine (c_value_Compare (hS := hS) h0 h1 hr).mono ?_
  intro e w' he
  cases e with
  | returned v => obtain ⟨m', h1, h2, h3⟩ := he; exact ⟨m', h1, h2, h3⟩
  | panicked ch => exact he.elim
  | outgrown => exact he.elim
theorem c_encode_dict {W0 : Bse} {m : M} {w : World} {L : List (Nat × List Value)} {TL : List (Nat × Value)} (hS : S W0 m w (L) (TL)) {v0 : Value} {p0 : (List Ap)} (ha0 : RV (kSl kAp) m v0 p0) {r : (List Int)} (h : encode_dict p0 = some r) :
    Calls Tryz.prog 105 [v0].toArray w (Ret fun v w' => ∃ m', M.le m m' ∧ S W0 m' w' (L) ((1, v) :: TL) ∧ RV (kSl (kInt .u8)) m' v r) := by
 refine kcall Tryz.func105 rfl Tryz.ntmps105 (Nat.le_of_ble_eq_true rfl) fun a hE => ?_
 have hE : Env 54 a [(0, v0)] := hE
 unfold encode_dict at h
 refine kseq (kreg ?_)
 refine qa hE rfl rfl fun a hE => ?_
 refine knil (kseq (kreg ?_))
 refine qm hE rfl rfl fun a hE => ?_
 obtain ⟨r3, hr4, h⟩ := ob h
 refine st hE (st_call (vs := [v0]) hE rfl Tryz.call92 (c_slices_Clone_Value_g (hS := hS) ha0 hr4)) rfl ?_
 rintro v11 a w ⟨m5, hm6, b7, cs8, hS, hc9⟩ hE
 refine qa hE rfl rfl fun a hE => ?_
 refine knil (kseq (kreg ?_))
 refine qm hE rfl rfl fun a hE => ?_
 obtain ⟨r14, hr15, h⟩ := ob h
 refine st hE (st_call (vs := [v11, (.func (.func 109) #[] #[])]) hE rfl Tryz.call148 (c_slices_SortFunc_Value (hS := hS) hc9 (fn_109 (m0 := m5)) hr15)) rfl ?_
 rintro v20 a w ⟨m16, hm17, c0_18, hS, hc0_19⟩ hE
 refine knil (kseq (kreg ?_))
 refine qm hE rfl rfl fun a hE => ?_
 obtain ⟨r22, hr23, h⟩ := ob h
 refine st hE (st_call (vs := [v11]) hE rfl Tryz.call149 (c_slices_Compact_Value_g (hS := hS) hc0_19 hr23)) rfl ?_
 rintro v30 a w ⟨m24, hm25, b26, cs27, hS, hc28⟩ hE
 refine qa hE rfl rfl fun a hE => ?_
 refine knil (kseq ?_)
 obtain ⟨m32, hm33, hS, hv34⟩ := S.freeze hS hc28
 refine kreg ?_
 refine qm hE rfl rfl fun a hE => ?_
 refine sp hE (r_lenSl (k := kAp) hE rfl rfl Tryz.underlying22 hv34) rfl fun a hE => ?_
 refine sp hE (r_conv hE rfl Tryz.underlying3 Tryz.underlying5 rfl) rfl fun a hE => ?_
 refine st hE (st_lit (k := (kInt .u8)) (xs := [IntKind.u8.wrap (r22.length : Int)]) (vs := [(.int .u8 (IntKind.u8.wrap (r22.length : Int)))]) hE hS rfl Tryz.underlying24 Tryz.sizeOf5 Tryz.zeroValue5 ⟨(RV_of_int (inR_wrap _ _)), trivial⟩ rfl (by decide)) rfl ?_
 rintro v41 a w ⟨m39, hm40, hS, hv38⟩ hE
 refine qa hE rfl rfl fun a hE => ?_
 refine knil (kseq (kseq (kreg ?_)))
 refine qm hE rfl rfl fun a hE => ?_
 refine sp hE (r_lenSl (k := kAp) hE rfl rfl Tryz.underlying22 (hv34.mono hm40)) rfl fun a hE => ?_
 refine qm hE rfl rfl fun a hE => ?_
 refine knil ?_
 refine kcut (fun a w => ∃ x48 : (List Int), encode_dict_j1 p0 r22 x48 = some r ∧ ∃ m', M.le m39 m' ∧ ∃ (v49 : Value), RV (kSl (kInt .u8)) m' v49 x48 ∧ S W0 m' w (L) ((1, v49) :: TL) ∧ Env 54 a [(0, v0), (3, v30), (4, v49)]) ?_ ?_
 {
 refine kblock ?_
 refine kloop h (fun (s : ((List Int) × Int)) a w => ∃ m', M.le m39 m' ∧ ∃ (v138 : Value), RV (kSl (kInt .u8)) m' v138 s.1 ∧ inR .i64 s.2 ∧ S W0 m' w (L) ((1, v138) :: TL) ∧ Env 54 a [(0, v0), (3, v30), (4, v138), (20, v30), (21, (.int .i64 (r22.length : Int))), (22, (.int .i64 s.2))]) ?_ ?_
 {
 exact ⟨_, (M.le.refl _), v41, hv38, (show inR .i64 0 from inR_lit (by decide)), hS, hE.cut ⟨rfl, rfl, rfl, rfl, rfl, rfl, trivial⟩⟩
 }
 {
 rintro ⟨x137, x140⟩ a w ⟨m135, hm136, v138, hv139, hr141, hS, hE⟩ r142 h hb143
 have h : encode_dict_b2 p0 r22 x137 x140 = some r142 := h
 unfold encode_dict_b2 at h
 refine kseq (kreg ?_)
 refine sp hE (r_bin hE rfl rfl b_lss) rfl fun a hE => ?_
 refine knil (kseq ?_)
 refine kif hE rfl (fun hd145 => ?_) (fun hd145 => ?_)
 {
 have h := ite_T hd145 h
 refine kskip (kseq (kblock (kseq (kreg ?_))))
 obtain ⟨x146, hx147, h⟩ := ob h
 refine st hE (st_index (k := kAp) hE rfl rfl Tryz.underlying22 Tryz.sizeOf32 (hv34.mono (M.le.trans hm40 hm136)) hx147) rfl ?_
 rintro v149 a _ ⟨rfl, hp148⟩ hE
 refine st hE (st_loadM hE hS ty32 rfl hp148) rfl ?_
 rintro v151 a _ ⟨rfl, hv150⟩ hE
 refine st hE (st_alloc hS Tryz.zeroValue32 rfl (cs := zc32)) rfl ?_
 rintro _ a w ⟨b152, rfl, hS⟩ hE
 refine st0 hE (st_storeF hE hS ty32 StF_self rfl rfl hv150 (i := 0) rfl (zr32 _)) ?_
 rintro _ w ⟨cs154, hc155, hS⟩ hE
 refine knil (kreg ?_)
 refine qm hE rfl rfl fun a hE => ?_
 refine st hE (st_loadL hE hS ty32 rfl (i := 0) rfl (R_whole hc155)) rfl ?_
 rintro v159 a _ ⟨rfl, hv158⟩ hE
 obtain ⟨r160, hr161, h⟩ := ob h
 refine st hE (st_call (vs := [v159]) hE rfl Tryz.call107 (c_encode_one (hS := hS) hv158 hr161)) rfl ?_
 rintro v165 a w ⟨m162, hm163, hS, hv164⟩ hE
 obtain ⟨z166, hz167, h⟩ := ob h
 refine st hE (st_app (k := (kInt .u8)) (N := 140737488355328) hE hS rfl rfl Tryz.underlying24 Tryz.underlying24 el5 (i := 0) rfl (hv139.mono hm163) hv164 hz167 rfl rfl) rfl ?_
 rintro v171 a w ⟨m169, hm170, hS, hv168⟩ hE
 refine qa hE rfl rfl fun a hE => ?_
 refine knil (kreg ?_)
 refine sp hE (r_bin hE rfl rfl (b_add rfl)) rfl fun a hE => ?_
 refine qm hE rfl rfl fun a hE => ?_
 refine knil ?_
 exact ⟨(z166, IntKind.i64.wrap (x140 + 1)), (Option.some.inj h).symm, _, (M.le.trans hm136 (M.le.trans hm163 hm170)), v171, hv168, (inR_wrap _ _), (hS.pickL 1 [] rfl rfl rfl), hE.cut ⟨rfl, rfl, rfl, rfl, rfl, rfl, trivial⟩⟩
 }
 {
 have h := ite_F hd145 h
 refine kexit rfl rfl ?_
 have h := unwrap h hb143
 exact ⟨x137, h, _, hm136, v138, hv139, hS, hE.cut ⟨rfl, rfl, rfl, trivial⟩⟩
 }
 }
 }
 {
 rintro a w ⟨x48, h, m46, hm47, v49, hv50, hS, hE⟩
 unfold encode_dict_j1 at h
 refine kseq (kreg ?_)
 refine qa hE rfl rfl fun a hE => ?_
 refine knil (kseq (kseq (kreg ?_)))
 refine qm hE rfl rfl fun a hE => ?_
 refine sp hE (r_lenSl (k := kAp) hE rfl rfl Tryz.underlying22 (ha0.mono (M.le.trans hm6 (M.le.trans hm17 (M.le.trans hm25 (M.le.trans hm33 (M.le.trans hm40 hm47))))))) rfl fun a hE => ?_
 refine qm hE rfl rfl fun a hE => ?_
 refine knil ?_
 refine kcut (fun a w => ∃ x58 : (List Int), encode_dict_j2 r22 x48 x58 = some r ∧ ∃ m', M.le m46 m' ∧ ∃ (v59 : Value), RV (kSl (kInt .u64)) m' v59 x58 ∧ S W0 m' w (L) ((1, v59) :: (1, v49) :: TL) ∧ Env 54 a [(3, v30), (4, v49), (7, v59)]) ?_ ?_
 {
 refine kblock ?_
 refine kloop h (fun (s : ((List Int) × Int)) a w => ∃ m', M.le m46 m' ∧ ∃ (v91 : Value), RV (kSl (kInt .u64)) m' v91 s.1 ∧ inR .i64 s.2 ∧ S W0 m' w (L) ((1, v91) :: (1, v49) :: TL) ∧ Env 54 a [(3, v30), (4, v49), (7, v91), (31, v0), (32, (.int .i64 (p0.length : Int))), (33, (.int .i64 s.2))]) ?_ ?_
 {
 exact ⟨_, (M.le.refl _), (.slice none 0 0), RV_nil, (show inR .i64 0 from inR_lit (by decide)), (hS.tail0 1), hE.cut ⟨rfl, rfl, rfl, rfl, rfl, rfl, trivial⟩⟩
 }
 {
 rintro ⟨x90, x93⟩ a w ⟨m88, hm89, v91, hv92, hr94, hS, hE⟩ r95 h hb96
 have h : encode_dict_b1 p0 r22 x48 x90 x93 = some r95 := h
 unfold encode_dict_b1 at h
 refine kseq (kreg ?_)
 refine sp hE (r_bin hE rfl rfl b_lss) rfl fun a hE => ?_
 refine knil (kseq ?_)
 refine kif hE rfl (fun hd98 => ?_) (fun hd98 => ?_)
 {
 have h := ite_T hd98 h
 refine kskip (kseq (kblock (kseq (kreg ?_))))
 obtain ⟨x99, hx100, h⟩ := ob h
 refine st hE (st_index (k := kAp) hE rfl rfl Tryz.underlying22 Tryz.sizeOf32 (ha0.mono (M.le.trans hm6 (M.le.trans hm17 (M.le.trans hm25 (M.le.trans hm33 (M.le.trans hm40 (M.le.trans hm47 hm89))))))) hx100) rfl ?_
 rintro v102 a _ ⟨rfl, hp101⟩ hE
 refine st hE (st_loadM hE hS ty32 rfl hp101) rfl ?_
 rintro v104 a _ ⟨rfl, hv103⟩ hE
 refine st hE (st_alloc hS Tryz.zeroValue32 rfl (cs := zc32)) rfl ?_
 rintro _ a w ⟨b105, rfl, hS⟩ hE
 refine st0 hE (st_storeF hE hS ty32 StF_self rfl rfl hv103 (i := 0) rfl (zr32 _)) ?_
 rintro _ w ⟨cs107, hc108, hS⟩ hE
 refine knil (kreg ?_)
 refine qm hE rfl rfl fun a hE => ?_
 refine qm hE rfl rfl fun a hE => ?_
 refine st hE (st_loadL hE hS ty32 rfl (i := 0) rfl (R_whole hc108)) rfl ?_
 rintro v113 a _ ⟨rfl, hv112⟩ hE
 obtain ⟨r114, hr115, h⟩ := ob h
 refine st hE (st_call (vs := [v30, v113]) hE rfl Tryz.call150 (c_slices_Index_Value (hS := hS) (hv34.mono (M.le.trans hm40 (M.le.trans hm47 hm89))) hv112 hr115)) rfl ?_
 rintro v119 a w ⟨m116, hm117, hS, hv118⟩ hE
 obtain ⟨rfl, hr120⟩ := RV_int hv118
 refine sp hE (r_conv hE rfl Tryz.underlying3 Tryz.underlying54 rfl) rfl fun a hE => ?_
 refine st hE (st_lit (k := (kInt .u64)) (xs := [IntKind.u64.wrap r114]) (vs := [(.int .u64 (IntKind.u64.wrap r114))]) hE hS rfl Tryz.underlying189 Tryz.sizeOf54 Tryz.zeroValue54 ⟨(RV_of_int (inR_wrap _ _)), trivial⟩ rfl (by decide)) rfl ?_
 rintro v125 a w ⟨m123, hm124, hS, hv122⟩ hE
 obtain ⟨z126, hz127, h⟩ := ob h
 refine st hE (st_app (k := (kInt .u64)) (N := 17592186044416) hE hS rfl rfl Tryz.underlying189 Tryz.underlying189 el54 (i := 1) rfl (hv92.mono (M.le.trans hm117 hm124)) hv122 hz127 rfl rfl) rfl ?_
 rintro v131 a w ⟨m129, hm130, hS, hv128⟩ hE
 refine qa hE rfl rfl fun a hE => ?_
 refine knil (kreg ?_)
 refine sp hE (r_bin hE rfl rfl (b_add rfl)) rfl fun a hE => ?_
 refine qm hE rfl rfl fun a hE => ?_
 refine knil ?_
 exact ⟨(z126, IntKind.i64.wrap (x93 + 1)), (Option.some.inj h).symm, _, (M.le.trans hm89 (M.le.trans hm117 (M.le.trans hm124 hm130))), v131, hv128, (inR_wrap _ _), ((hS.pickL 1 [] rfl rfl rfl).pickT 3 [1, 2] rfl rfl rfl), hE.cut ⟨rfl, rfl, rfl, rfl, rfl, rfl, trivial⟩⟩
 }
 {
 have h := ite_F hd98 h
 refine kexit rfl rfl ?_
 have h := unwrap h hb96
 exact ⟨x90, h, _, hm89, v91, hv92, hS, hE.cut ⟨rfl, rfl, rfl, trivial⟩⟩
 }
 }
 }
 {
 rintro a w ⟨x58, h, m56, hm57, v59, hv60, hS, hE⟩
 unfold encode_dict_j2 at h
 refine kseq (kreg ?_)
 refine qm hE rfl rfl fun a hE => ?_
 refine qm hE rfl rfl fun a hE => ?_
 refine qm hE rfl rfl fun a hE => ?_
 refine sp hE (r_lenSl (k := kAp) hE rfl rfl Tryz.underlying22 (hv34.mono (M.le.trans hm40 (M.le.trans hm47 hm57)))) rfl fun a hE => ?_
 refine sp hE (r_bin hE rfl rfl (b_sub rfl)) rfl fun a hE => ?_
 refine sp hE (r_conv hE rfl Tryz.underlying3 Tryz.underlying94 rfl) rfl fun a hE => ?_
 obtain ⟨r68, hr69, h⟩ := ob h
 refine st hE (st_call (vs := [(.int .u64 (IntKind.u64.wrap (IntKind.i64.wrap ((r22.length : Int) - 1))))]) hE rfl Tryz.call152 (c_bits_Len (hS := hS) (inR_wrap _ _) hr69)) rfl ?_
 rintro v73 a w ⟨m70, hm71, hS, hv72⟩ hE
 obtain ⟨rfl, hr74⟩ := RV_int hv72
 obtain ⟨r75, hr76, h⟩ := ob h
 refine st hE (st_call (vs := [v59, (.int .i64 r68)]) hE rfl Tryz.call151 (c_encode_packed (hS := hS) (hv60.mono hm71) hr74 hr76)) rfl ?_
 rintro v80 a w ⟨m77, hm78, hS, hv79⟩ hE
 obtain ⟨z81, hz82, h⟩ := ob h
 refine st hE (st_app (k := (kInt .u8)) (N := 140737488355328) hE hS rfl rfl Tryz.underlying24 Tryz.underlying24 el5 (i := 1) rfl (hv50.mono (M.le.trans hm57 (M.le.trans hm71 hm78))) hv79 hz82 rfl rfl) rfl ?_
 rintro v86 a w ⟨m84, hm85, hS, hv83⟩ hE
 refine qa hE rfl rfl fun a hE => ?_
 refine knil (kret ?_)
 obtain rfl := oi h
 try dsimp only
 refine Fin.mk hE (rs := [.tmp 2]) rfl (ResL.tmp hE rfl ResL.nil) ?_
 exact ⟨_, (M.le.trans hm6 (M.le.trans hm17 (M.le.trans hm25 (M.le.trans hm33 (M.le.trans hm40 (M.le.trans hm47 (M.le.trans hm57 (M.le.trans hm71 (M.le.trans hm78 hm85))))))))), (hS.pickT 2 [1] rfl rfl rfl), hv83⟩
 }
 }
theorem ct_153 : Ctr Sz Tryz.prog 153 [.rd (.sl (.int .i64))] [.rd (.int .i64)] (fun x => slices_Min_int64 x.1) :=
 Ctr.nc (Γ := Γ) (D := []) (c := Tryz.f153.body.getD .skip) (res := [2]) (.s .o (.s .o (.s .o (.s (.s .o (.b (.l ⟨[.v 3 1 (.dat (.int .i64) none), .v 4 1 (.dat (.int .i64) none)], [0], 0, []⟩ .o))) .o)))) rfl mixed Tryz.func153 rfl Tryz.ntmps153 rfl rfl (fun x => by kernel_rfl)
noncomputable def cs_153 : CS Tryz.prog Sz := ⟨153, _, _, _, ct_153, Tryz.call153⟩
theorem ct_106 : Ctr Sz Tryz.prog 106 [.rd (.sl (.int .i64))] [.ap (.int .u8)] (fun x => encode_small x.1) :=
 Ctr.nc (Γ := Γ) (D := [cs_147, cs_151, cs_153, cs_154]) (c := Tryz.f106.body.getD .skip) (res := [2]) (.s .o (.s .o (.s .o (.s .o (.s (.s .o (.b (.l ⟨[.v 4 1 (.dat (.sl (.int .u64)) (some 0)), .v 5 1 (.dat (.int .i64) none), .v 13 1 (.dat (.int .i64) none)], [3, 11, 12], 0, [1]⟩ .o))) .o))))) rfl mixed Tryz.func106 rfl Tryz.ntmps106 rfl rfl (fun x => by kernel_rfl)
theorem c_encode_small {W0 : Bse} {m : M} {w : World} {L : List (Nat × List Value)} {TL : List (Nat × Value)} (hS : S W0 m w (L) (TL)) {v0 : Value} {p0 : (List Int)} (ha0 : RV (kSl (kInt .i64)) m v0 p0) {r : (List Int)} (h : encode_small p0 = some r) :
    Calls Tryz.prog 106 [v0].toArray w (Ret fun v w' => ∃ m', M.le m m' ∧ S W0 m' w' (L) ((1, v) :: TL) ∧ RV (kSl (kInt .u8)) m' v r) := by
 refine (ct_106 W0 m w L TL [v0] (p0, ()) r [] [] hS ⟨ha0, trivial⟩ h).mono ?_
 intro e w' he
 cases e with
 | returned v =>
  obtain ⟨m', us, Lr, Lq, Tr, hm, hS', rfl, hR, hO⟩ := he
  obtain ⟨u0, us, Tr, rfl, rfl, r0, hR0⟩ := RR_ap hR
  obtain ⟨rfl, rfl, rfl⟩ := RR_nil hR0
  have hO0 := OR_rd hO
  obtain rfl := OR_nil hO0
  exact ⟨m', hm, hS', r0⟩
 | panicked ch => exact he.elim
 | outgrown => exact he.elim
theorem fn_100 {m0 : M} : Fn1 Tryz.prog kAp kBool m0 (.func (.func 100) [].toArray [].toArray) encode_Encode_1 := by
  refine ⟨100, _, rfl, Tryz.call100, ?_⟩
  intro W0 m w L TL v0 x0 r hm hS h0 hr
  refine (c_encode_Encode_1 (hS := hS) h0 hr).mono ?_
  intro e w' he
  cases e with
  | returned v => obtain ⟨m', h1, h2, h3⟩ := he; exact ⟨m', h1, h2, h3⟩
  | panicked ch => exact he.elim
  | outgrown => exact he.elim
theorem c_encode_Encode {W0 : Bse} {m : M} {w : World} {L : List (Nat × List Value)} {TL : List (Nat × Value)} (hS : S W0 m w (L) (TL)) {p0 : Int} (ha0 : inR .i64 p0) {v1 : Value} {p1 : (List Ap)} (ha1 : RV (kSl kAp) m v1 p1) {r : ((List Int) × Int)} (h : encode_Encode p0 p1 = some r) :
    Calls Tryz.prog 47 [(.int .i64 p0), v1].toArray w (Ret fun v w' => ∃ m', M.le m m' ∧ S W0 m' w' (L) (TL) ∧ ∃ v0_ v1_ : Value, v = .tuple #[v0_, v1_] ∧ RV (kSl (kInt .u8)) m' v0_ r.1 ∧ RV (kInt .i64) m' v1_ r.2) := by
 refine kcall Tryz.func47 rfl Tryz.ntmps47 (Nat.le_of_ble_eq_true rfl) fun a hE => ?_
 have hE : Env 69 a [(0, (.int .i64 p0)), (1, v1)] := hE
 unfold encode_Encode at h
 refine kseq (kreg ?_)
 refine qa hE rfl rfl fun a hE => ?_
 refine qa hE rfl rfl fun a hE => ?_
 refine knil (kseq (kseq ?_))
 refine kcut (fun a w => ∃ x5 : Bool, encode_Encode_j1 p0 p1 x5 = some r ∧ ∃ m', M.le m m' ∧ S W0 m' w (L) (TL) ∧ Env 69 a [(0, (.int .i64 p0)), (1, v1), (16, (.bool x5))]) ?_ ?_
 {
 refine kreg ?_
 refine qm hE rfl rfl fun a hE => ?_
 refine sp hE (r_bin hE rfl rfl b_lss) rfl fun a hE => ?_
 refine qm hE rfl rfl fun a hE => ?_
 rcases Bool.eq_false_or_eq_true (decide (p0 < 0)) with hd174 | hd174
 {
 have h := ite_T hd174 h
 refine sx hE rfl rfl rfl rfl hd174 rfl fun a hE => ?_
 refine sx hE rfl rfl rfl rfl hd174 rfl fun a hE => ?_
 refine sp hE (r_pickT hE rfl hd174 rfl) rfl fun a hE => ?_
 refine knil ?_
 exact ⟨true, h, _, (M.le.refl _), hS, hE.cut ⟨rfl, rfl, rfl, trivial⟩⟩
 }
 {
 have h := ite_F hd174 h
 refine spg hE rfl rfl rfl rfl hd174 (r_move hE rfl) rfl fun a hE => ?_
 refine spg hE rfl rfl rfl rfl hd174 (r_bin hE rfl rfl b_gtr) rfl fun a hE => ?_
 refine sp hE (r_pickF hE rfl hd174 rfl) rfl fun a hE => ?_
 refine knil ?_
 exact ⟨(decide (4 < p0)), h, _, (M.le.refl _), hS, hE.cut ⟨rfl, rfl, rfl, trivial⟩⟩
 }
 }
 {
 rintro a w ⟨x5, h, m3, hm4, hS, hE⟩
 unfold encode_Encode_j1 at h
 refine kif hE rfl (fun hd7 => ?_) (fun hd7 => ?_)
 {
 have h := ite_T hd7 h
 refine kseq (kreg ?_)
 refine qa hE rfl rfl fun a hE => ?_
 refine qa hE rfl rfl fun a hE => ?_
 refine knil (kret ?_)
 obtain rfl := oi h
 try dsimp only
 refine Fin.mk hE (rs := [.tmp 4, .tmp 5]) rfl (ResL.tmp hE rfl (ResL.tmp hE rfl ResL.nil)) ?_
 exact ⟨_, hm4, hS, _, _, rfl, RV_nil, (RV_of_int (show inR .i64 62 from inR_lit (by decide)))⟩
 }
 {
 have h := ite_F hd7 h
 refine kskip (kseq (kseq (kreg ?_)))
 refine qm hE rfl rfl fun a hE => ?_
 refine sp hE (r_lenSl (k := kAp) hE rfl rfl Tryz.underlying22 (ha1.mono hm4)) rfl fun a hE => ?_
 refine sp hE (r_bin hE rfl rfl b_gtr) rfl fun a hE => ?_
 refine knil ?_
 refine kif hE rfl (fun hd13 => ?_) (fun hd13 => ?_)
 {
 have h := ite_T hd13 h
 refine kseq (kreg ?_)
 refine qa hE rfl rfl fun a hE => ?_
 refine qa hE rfl rfl fun a hE => ?_
 refine knil (kret ?_)
 obtain rfl := oi h
 try dsimp only
 refine Fin.mk hE (rs := [.tmp 4, .tmp 5]) rfl (ResL.tmp hE rfl (ResL.tmp hE rfl ResL.nil)) ?_
 exact ⟨_, hm4, hS, _, _, rfl, RV_nil, (RV_of_int (show inR .i64 61 from inR_lit (by decide)))⟩
 }
 {
 have h := ite_F hd13 h
 refine kskip (kseq (kseq (kreg ?_)))
 refine qm hE rfl rfl fun a hE => ?_
 obtain ⟨r17, hr18, h⟩ := ob h
 refine st hE (st_call (vs := [v1, (.func (.func 100) #[] #[])]) hE rfl Tryz.call99 (c_slices_ContainsFunc_Value (hS := hS) (ha1.mono hm4) (fn_100 (m0 := m3)) hr18)) rfl ?_
 rintro v22 a w ⟨m19, hm20, hS, hv21⟩ hE
 obtain rfl := RV_bool hv21
 refine knil ?_
 refine kif hE rfl (fun hd23 => ?_) (fun hd23 => ?_)
 {
 have h := ite_T hd23 h
 refine kseq (kreg ?_)
 refine qa hE rfl rfl fun a hE => ?_
 refine qa hE rfl rfl fun a hE => ?_
 refine knil (kret ?_)
 obtain rfl := oi h
 try dsimp only
 refine Fin.mk hE (rs := [.tmp 4, .tmp 5]) rfl (ResL.tmp hE rfl (ResL.tmp hE rfl ResL.nil)) ?_
 exact ⟨_, (M.le.trans hm4 hm20), hS, _, _, rfl, RV_nil, (RV_of_int (show inR .i64 60 from inR_lit (by decide)))⟩
 }
 {
 have h := ite_F hd23 h
 refine kskip (kseq (kreg ?_))
 refine qm hE rfl rfl fun a hE => ?_
 obtain ⟨r27, hr28, h⟩ := ob h
 refine st hE (st_call (vs := [v1]) hE rfl Tryz.call102 (c_encode_ints (hS := hS) (ha1.mono (M.le.trans hm4 hm20)) hr28)) rfl ?_
 rintro _ a w ⟨m29, hm30, hS, v0_31, v1_32, rfl, hv0_33, hv1_34⟩ hE
 obtain rfl := RV_bool hv1_34
 refine qm hE rfl rfl fun a hE => ?_
 refine sp hE (r_extract hE rfl rfl) rfl fun a hE => ?_
 refine sp hE (r_extract hE rfl rfl) rfl fun a hE => ?_
 refine qa hE rfl rfl fun a hE => ?_
 refine qa hE rfl rfl fun a hE => ?_
 refine knil (kseq (kseq ?_))
 refine kcut (fun a w => ∃ x43 : Bool, encode_Encode_j2 p0 p1 r27 x43 = some r ∧ ∃ m', M.le m29 m' ∧ S W0 m' w (L) (TL) ∧ Env 69 a [(0, (.int .i64 p0)), (1, v1), (6, v0_31), (36, (.bool x43))]) ?_ ?_
 {
 refine kreg ?_
 refine qm hE rfl rfl fun a hE => ?_
 refine sp hE (r_not hE rfl) rfl fun a hE => ?_
 refine qm hE rfl rfl fun a hE => ?_
 rcases Bool.eq_false_or_eq_true (!r27.2) with hd159 | hd159
 {
 have h := ite_T hd159 h
 refine spg hE rfl rfl rfl rfl hd159 (r_move hE rfl) rfl fun a hE => ?_
 refine spg hE rfl rfl rfl rfl hd159 (r_bin hE rfl rfl b_eql) rfl fun a hE => ?_
 refine spg hE rfl rfl rfl rfl hd159 (r_move hE rfl) rfl fun a hE => ?_
 rcases Bool.eq_false_or_eq_true (p0 == 2) with hd163 | hd163
 {
 have h := ite_T hd163 h
 refine sx hE rfl rfl rfl rfl hd163 rfl fun a hE => ?_
 refine sx hE rfl rfl rfl rfl hd163 rfl fun a hE => ?_
 refine spg hE rfl rfl rfl rfl hd159 (r_pickT hE rfl hd163 rfl) rfl fun a hE => ?_
 refine sp hE (r_pickT hE rfl hd159 rfl) rfl fun a hE => ?_
 refine knil ?_
 exact ⟨true, h, _, (M.le.refl _), hS, hE.cut ⟨rfl, rfl, rfl, rfl, trivial⟩⟩
 }
 {
 have h := ite_F hd163 h
 refine spg hE rfl rfl rfl rfl hd163 (r_move hE rfl) rfl fun a hE => ?_
 refine spg hE rfl rfl rfl rfl hd163 (r_bin hE rfl rfl b_eql) rfl fun a hE => ?_
 refine spg hE rfl rfl rfl rfl hd159 (r_pickF hE rfl hd163 rfl) rfl fun a hE => ?_
 refine sp hE (r_pickT hE rfl hd159 rfl) rfl fun a hE => ?_
 refine knil ?_
 exact ⟨(p0 == 4), h, _, (M.le.refl _), hS, hE.cut ⟨rfl, rfl, rfl, rfl, trivial⟩⟩
 }
 }
 {
 have h := ite_F hd159 h
 refine sx hE rfl rfl rfl rfl hd159 rfl fun a hE => ?_
 refine sx hE rfl rfl rfl rfl hd159 rfl fun a hE => ?_
 refine sx hE rfl rfl rfl rfl hd159 rfl fun a hE => ?_
 refine sxu hE rfl rfl rfl rfl fun a hE => ?_
 refine sxu hE rfl rfl rfl rfl fun a hE => ?_
 refine sx hE rfl rfl rfl rfl hd159 rfl fun a hE => ?_
 refine sp hE (r_pickF hE rfl hd159 rfl) rfl fun a hE => ?_
 refine knil ?_
 exact ⟨false, h, _, (M.le.refl _), hS, hE.cut ⟨rfl, rfl, rfl, rfl, trivial⟩⟩
 }
 }
 {
 rintro a w ⟨x43, h, m41, hm42, hS, hE⟩
 unfold encode_Encode_j2 at h
 refine kif hE rfl (fun hd45 => ?_) (fun hd45 => ?_)
 {
 have h := ite_T hd45 h
 refine kseq (kreg ?_)
 refine qa hE rfl rfl fun a hE => ?_
 refine qa hE rfl rfl fun a hE => ?_
 refine knil (kret ?_)
 obtain rfl := oi h
 try dsimp only
 refine Fin.mk hE (rs := [.tmp 4, .tmp 5]) rfl (ResL.tmp hE rfl (ResL.tmp hE rfl ResL.nil)) ?_
 exact ⟨_, (M.le.trans hm4 (M.le.trans hm20 (M.le.trans hm30 hm42))), hS, _, _, rfl, RV_nil, (RV_of_int (show inR .i64 62 from inR_lit (by decide)))⟩
 }
 {
 have h := ite_F hd45 h
 refine kskip (kseq (kseq (kreg ?_)))
 refine qm hE rfl rfl fun a hE => ?_
 refine sp hE (r_lenSl (k := kAp) hE rfl rfl Tryz.underlying22 (ha1.mono (M.le.trans hm4 (M.le.trans hm20 (M.le.trans hm30 hm42))))) rfl fun a hE => ?_
 refine sp hE (r_bin hE rfl rfl b_eql) rfl fun a hE => ?_
 refine knil ?_
 refine kif hE rfl (fun hd51 => ?_) (fun hd51 => ?_)
 {
 have h := ite_T hd51 h
 refine kseq (kreg ?_)
 refine qa hE rfl rfl fun a hE => ?_
 refine qa hE rfl rfl fun a hE => ?_
 refine knil (kret ?_)
 obtain rfl := oi h
 try dsimp only
 refine Fin.mk hE (rs := [.tmp 4, .tmp 5]) rfl (ResL.tmp hE rfl (ResL.tmp hE rfl ResL.nil)) ?_
 exact ⟨_, (M.le.trans hm4 (M.le.trans hm20 (M.le.trans hm30 hm42))), hS, _, _, rfl, RV_nil, (RV_of_int (show inR .i64 0 from inR_lit (by decide)))⟩
 }
 {
 have h := ite_F hd51 h
 refine kskip (kseq (kseq (kreg ?_)))
 refine qm hE rfl rfl fun a hE => ?_
 refine knil (kblock (kseq (kreg ?_)))
 refine sp hE (r_bin hE rfl rfl b_eql) rfl fun a hE => ?_
 refine qa hE rfl rfl fun a hE => ?_
 refine knil ?_
 refine kif hE rfl (fun hd57 => ?_) (fun hd57 => ?_)
 {
 have h := ite_T hd57 h
 refine kseq (kreg ?_)
 refine qm hE rfl rfl fun a hE => ?_
 obtain ⟨r59, hr60, h⟩ := ob h
 refine st hE (st_call (vs := [v1]) hE rfl Tryz.call103 (c_encode_runs (hS := hS) (ha1.mono (M.le.trans hm4 (M.le.trans hm20 (M.le.trans hm30 hm42)))) hr60)) rfl ?_
 rintro v64 a w ⟨m61, hm62, hS, hv63⟩ hE
 refine qa hE rfl rfl fun a hE => ?_
 refine qa hE rfl rfl fun a hE => ?_
 refine knil (kret ?_)
 obtain rfl := oi h
 try dsimp only
 refine Fin.mk hE (rs := [.tmp 4, .tmp 5]) rfl (ResL.tmp hE rfl (ResL.tmp hE rfl ResL.nil)) ?_
 exact ⟨_, (M.le.trans hm4 (M.le.trans hm20 (M.le.trans hm30 (M.le.trans hm42 hm62)))), (hS.dropT 1), _, _, rfl, hv63, (RV_of_int (show inR .i64 0 from inR_lit (by decide)))⟩
 }
 {
 have h := ite_F hd57 h
 refine kseq (kreg ?_)
 refine sp hE (r_bin hE rfl rfl b_eql) rfl fun a hE => ?_
 refine qa hE rfl rfl fun a hE => ?_
 refine knil ?_
 refine kif hE rfl (fun hd69 => ?_) (fun hd69 => ?_)
 {
 have h := ite_T hd69 h
 refine kseq (kreg ?_)
 refine qm hE rfl rfl fun a hE => ?_
 obtain ⟨r71, hr72, h⟩ := ob h
 refine st hE (st_call (vs := [v0_31]) hE rfl Tryz.call104 (c_encode_delta (hS := hS) (hv0_33.mono hm42) hr72)) rfl ?_
 rintro v76 a w ⟨m73, hm74, hS, hv75⟩ hE
 refine qa hE rfl rfl fun a hE => ?_
 refine qa hE rfl rfl fun a hE => ?_
 refine knil (kret ?_)
 obtain rfl := oi h
 try dsimp only
 refine Fin.mk hE (rs := [.tmp 4, .tmp 5]) rfl (ResL.tmp hE rfl (ResL.tmp hE rfl ResL.nil)) ?_
 exact ⟨_, (M.le.trans hm4 (M.le.trans hm20 (M.le.trans hm30 (M.le.trans hm42 hm74)))), (hS.dropT 1), _, _, rfl, hv75, (RV_of_int (show inR .i64 0 from inR_lit (by decide)))⟩
 }
 {
 have h := ite_F hd69 h
 refine kseq (kreg ?_)
 refine sp hE (r_bin hE rfl rfl b_eql) rfl fun a hE => ?_
 refine qa hE rfl rfl fun a hE => ?_
 refine knil ?_
 refine kif hE rfl (fun hd81 => ?_) (fun hd81 => ?_)
 {
 have h := ite_T hd81 h
 refine kseq (kreg ?_)
 refine qm hE rfl rfl fun a hE => ?_
 obtain ⟨r83, hr84, h⟩ := ob h
 refine st hE (st_call (vs := [v1]) hE rfl Tryz.call105 (c_encode_dict (hS := hS) (ha1.mono (M.le.trans hm4 (M.le.trans hm20 (M.le.trans hm30 hm42)))) hr84)) rfl ?_
 rintro v88 a w ⟨m85, hm86, hS, hv87⟩ hE
 refine qa hE rfl rfl fun a hE => ?_
 refine qa hE rfl rfl fun a hE => ?_
 refine knil (kret ?_)
 obtain rfl := oi h
 try dsimp only
 refine Fin.mk hE (rs := [.tmp 4, .tmp 5]) rfl (ResL.tmp hE rfl (ResL.tmp hE rfl ResL.nil)) ?_
 exact ⟨_, (M.le.trans hm4 (M.le.trans hm20 (M.le.trans hm30 (M.le.trans hm42 hm86)))), (hS.dropT 1), _, _, rfl, hv87, (RV_of_int (show inR .i64 0 from inR_lit (by decide)))⟩
 }
 {
 have h := ite_F hd81 h
 refine kseq (kreg ?_)
 refine sp hE (r_bin hE rfl rfl b_eql) rfl fun a hE => ?_
 refine qa hE rfl rfl fun a hE => ?_
 refine knil ?_
 refine kif hE rfl (fun hd93 => ?_) (fun hd93 => ?_)
 {
 have h := ite_T hd93 h
 refine kseq (kreg ?_)
 refine qm hE rfl rfl fun a hE => ?_
 obtain ⟨r95, hr96, h⟩ := ob h
 refine st hE (st_call (vs := [v0_31]) hE rfl Tryz.call106 (c_encode_small (hS := hS) (hv0_33.mono hm42) hr96)) rfl ?_
 rintro v100 a w ⟨m97, hm98, hS, hv99⟩ hE
 refine qa hE rfl rfl fun a hE => ?_
 refine qa hE rfl rfl fun a hE => ?_
 refine knil (kret ?_)
 obtain rfl := oi h
 try dsimp only
 refine Fin.mk hE (rs := [.tmp 4, .tmp 5]) rfl (ResL.tmp hE rfl (ResL.tmp hE rfl ResL.nil)) ?_
 exact ⟨_, (M.le.trans hm4 (M.le.trans hm20 (M.le.trans hm30 (M.le.trans hm42 hm98)))), (hS.dropT 1), _, _, rfl, hv99, (RV_of_int (show inR .i64 0 from inR_lit (by decide)))⟩
 }
 {
 have h := ite_F hd93 h
 refine kskip (kseq (kreg ?_))
 refine qa hE rfl rfl fun a hE => ?_
 refine knil (kseq (kseq (kreg ?_)))
 refine qm hE rfl rfl fun a hE => ?_
 refine sp hE (r_lenSl (k := kAp) hE rfl rfl Tryz.underlying22 (ha1.mono (M.le.trans hm4 (M.le.trans hm20 (M.le.trans hm30 hm42))))) rfl fun a hE => ?_
 refine qm hE rfl rfl fun a hE => ?_
 refine knil ?_
 refine kcut (fun a w => ∃ x109 : (List Int), encode_Encode_j3 x109 = some r ∧ ∃ m', M.le m41 m' ∧ ∃ (v110 : Value), RV (kSl (kInt .u8)) m' v110 x109 ∧ S W0 m' w (L) ((1, v110) :: TL) ∧ Env 69 a [(8, v110)]) ?_ ?_
 {
 refine kblock ?_
 refine kloop h (fun (s : ((List Int) × Int)) a w => ∃ m', M.le m41 m' ∧ ∃ (v119 : Value), RV (kSl (kInt .u8)) m' v119 s.1 ∧ inR .i64 s.2 ∧ S W0 m' w (L) ((1, v119) :: TL) ∧ Env 69 a [(8, v119), (57, v1), (58, (.int .i64 (p1.length : Int))), (59, (.int .i64 s.2))]) ?_ ?_
 {
 exact ⟨_, (M.le.refl _), (.slice none 0 0), RV_nil, (show inR .i64 0 from inR_lit (by decide)), (hS.tail0 1), hE.cut ⟨rfl, rfl, rfl, rfl, trivial⟩⟩
 }
 {
 rintro ⟨x118, x121⟩ a w ⟨m116, hm117, v119, hv120, hr122, hS, hE⟩ r123 h hb124
 have h : encode_Encode_b1 p1 x118 x121 = some r123 := h
 unfold encode_Encode_b1 at h
 refine kseq (kreg ?_)
 refine sp hE (r_bin hE rfl rfl b_lss) rfl fun a hE => ?_
 refine knil (kseq ?_)
 refine kif hE rfl (fun hd126 => ?_) (fun hd126 => ?_)
 {
 have h := ite_T hd126 h
 refine kskip (kseq (kblock (kseq (kreg ?_))))
 obtain ⟨x127, hx128, h⟩ := ob h
 refine st hE (st_index (k := kAp) hE rfl rfl Tryz.underlying22 Tryz.sizeOf32 (ha1.mono (M.le.trans hm4 (M.le.trans hm20 (M.le.trans hm30 (M.le.trans hm42 hm117))))) hx128) rfl ?_
 rintro v130 a _ ⟨rfl, hp129⟩ hE
 refine st hE (st_loadM hE hS ty32 rfl hp129) rfl ?_
 rintro v132 a _ ⟨rfl, hv131⟩ hE
 refine st hE (st_alloc hS Tryz.zeroValue32 rfl (cs := zc32)) rfl ?_
 rintro _ a w ⟨b133, rfl, hS⟩ hE
 refine st0 hE (st_storeF hE hS ty32 StF_self rfl rfl hv131 (i := 0) rfl (zr32 _)) ?_
 rintro _ w ⟨cs135, hc136, hS⟩ hE
 refine knil (kreg ?_)
 refine qm hE rfl rfl fun a hE => ?_
 refine st hE (st_loadL hE hS ty32 rfl (i := 0) rfl (R_whole hc136)) rfl ?_
 rintro v140 a _ ⟨rfl, hv139⟩ hE
 obtain ⟨r141, hr142, h⟩ := ob h
 refine st hE (st_call (vs := [v140]) hE rfl Tryz.call107 (c_encode_one (hS := hS) hv139 hr142)) rfl ?_
 rintro v146 a w ⟨m143, hm144, hS, hv145⟩ hE
 obtain ⟨z147, hz148, h⟩ := ob h
 refine st hE (st_app (k := (kInt .u8)) (N := 140737488355328) hE hS rfl rfl Tryz.underlying24 Tryz.underlying24 el5 (i := 0) rfl (hv120.mono hm144) hv145 hz148 rfl rfl) rfl ?_
 rintro v152 a w ⟨m150, hm151, hS, hv149⟩ hE
 refine qa hE rfl rfl fun a hE => ?_
 refine knil (kreg ?_)
 refine sp hE (r_bin hE rfl rfl (b_add rfl)) rfl fun a hE => ?_
 refine qm hE rfl rfl fun a hE => ?_
 refine knil ?_
 exact ⟨(z147, IntKind.i64.wrap (x121 + 1)), (Option.some.inj h).symm, _, (M.le.trans hm117 (M.le.trans hm144 hm151)), v152, hv149, (inR_wrap _ _), (hS.pickL 1 [] rfl rfl rfl), hE.cut ⟨rfl, rfl, rfl, rfl, trivial⟩⟩
 }
 {
 have h := ite_F hd126 h
 refine kexit rfl rfl ?_
 have h := unwrap h hb124
 exact ⟨x118, h, _, hm117, v119, hv120, hS, hE.cut ⟨rfl, trivial⟩⟩
 }
 }
 }
 {
 rintro a w ⟨x109, h, m107, hm108, v110, hv111, hS, hE⟩
 unfold encode_Encode_j3 at h
 refine kseq (kreg ?_)
 refine qm hE rfl rfl fun a hE => ?_
 refine qa hE rfl rfl fun a hE => ?_
 refine qa hE rfl rfl fun a hE => ?_
 refine knil (kret ?_)
 obtain rfl := oi h
 try dsimp only
 refine Fin.mk hE (rs := [.tmp 4, .tmp 5]) rfl (ResL.tmp hE rfl (ResL.tmp hE rfl ResL.nil)) ?_
 exact ⟨_, (M.le.trans hm4 (M.le.trans hm20 (M.le.trans hm30 (M.le.trans hm42 hm108)))), (hS.dropT 1), _, _, rfl, hv111, (RV_of_int (show inR .i64 0 from inR_lit (by decide)))⟩
 }
 }
 }
 }
 }
 }
 }
 }
 }
 }
 }
 }
theorem ct_47 : Ctr Sz Tryz.prog 47 [.rd (.int .i64), .rd (.sl (.st 32))] [.rd (.sl (.int .u8)), .rd (.int .i64)] (fun x => encode_Encode x.1 x.2.1) := by
 intro W0 m w L TL vs x r Lp Tp hS hP h
 obtain ⟨v0, vs, rfl, a0, hP0⟩ := PR_rd hP
 obtain ⟨rfl, n0⟩ := RV_int a0
 obtain ⟨v1, vs, rfl, a1, hP1⟩ := PR_rd hP0
 obtain ⟨rfl, rfl, rfl⟩ := PR_nil hP1
 refine (c_encode_Encode (hS := hS) n0 a1 h).mono ?_
 intro e w' he
 cases e with
 | returned v =>
  obtain ⟨m', hm, hS', u0, u1, rfl, r0, r1⟩ := he
  exact ⟨m', [u0, u1], [], [], [], hm, hS', rfl, ⟨r0, ⟨r1, trivial⟩⟩, trivial⟩
 | panicked ch => exact he.elim
 | outgrown => exact he.elim
noncomputable def cs_47 : CS Tryz.prog Sz := ⟨47, _, _, _, ct_47, Tryz.call47⟩
theorem ct_46 : Ctr Sz Tryz.prog 46 [.rd (.sl (.st 32))] [.rd (.int .i64)] (fun x => encode_Best x.1) :=
 Ctr.nc (Γ := Γ) (D := [cs_47]) (c := Tryz.f46.body.getD .skip) (res := [2]) (.s .o (.s .o (.s (.s .o (.b (.l ⟨[.v 3 1 (.dat (.int .i64) none), .v 4 1 (.dat (.int .i64) none), .v 5 1 (.dat (.int .i64) none)], [0], 0, []⟩ .o))) .o))) rfl mixed Tryz.func46 rfl Tryz.ntmps46 rfl rfl (fun x => by kernel_rfl)
noncomputable def cs_46 : CS Tryz.prog Sz := ⟨46, _, _, _, ct_46, Tryz.call46⟩
theorem ct_108 : Ctr Sz Tryz.prog 108 [.rd (.sl (.st 32)), .f2 (.st 32) (.st 32) (.int .i64)] [.rd (.st 32)] (fun x => slices_MinFunc_Value x.1 x.2.1) :=
 Ctr.nX (Γ := Γ) (D := []) (c := Tryz.f108.body.getD .skip) (res := [.cell 4 32]) (.s .o (.s .o (.s .o (.s (.s .o (.b (.l ⟨[.v 6 1 (.dat (.int .i64) none), .b 1 1 (.st 32)], [0, 1, 4, 5], 2, []⟩ .o))) .o)))) rfl mixed Tryz.func108 rfl Tryz.ntmps108 rfl rfl (fun x => by kernel_rfl)
theorem c_slices_MinFunc_Value {W0 : Bse} {m : M} {w : World} {L : List (Nat × List Value)} {TL : List (Nat × Value)} (hS : S W0 m w (L) (TL)) {v0 : Value} {p0 : (List Ap)} (ha0 : RV (kSl kAp) m v0 p0) {v1 : Value} {p1 : (Ap → Ap → Option Int)} (ha1 : Fn2 Tryz.prog kAp kAp (kInt .i64) m v1 p1) {r : Ap} (h : slices_MinFunc_Value p0 p1 = some r) :
    Calls Tryz.prog 108 [v0, v1].toArray w (Ret fun v w' => ∃ m', M.le m m' ∧ S W0 m' w' (L) (TL) ∧ RV kAp m' v r) := by
 refine (ct_108 W0 m w L TL [v0, v1] (p0, p1, ()) r [] [] hS ⟨ha0, ⟨ha1, trivial⟩⟩ h).mono ?_
 intro e w' he
 cases e with
 | returned v =>
  obtain ⟨m', us, Lr, Lq, Tr, hm, hS', rfl, hR, hO⟩ := he
  obtain ⟨u0, us, rfl, r0, hR0⟩ := RR_rd hR
  obtain ⟨rfl, rfl, rfl⟩ := RR_nil hR0
  have hO0 := OR_rd hO
  have hO1 := OR_f2 hO0
  obtain rfl := OR_nil hO1
  exact ⟨m', hm, hS', r0⟩
 | panicked ch => exact he.elim
 | outgrown => exact he.elim
theorem ct_110 : Ctr Sz Tryz.prog 110 [.rd (.sl (.st 32)), .f2 (.st 32) (.st 32) (.int .i64)] [.rd (.st 32)] (fun x => slices_MaxFunc_Value x.1 x.2.1) :=
 Ctr.nX (Γ := Γ) (D := []) (c := Tryz.f110.body.getD .skip) (res := [.cell 4 32]) (.s .o (.s .o (.s .o (.s (.s .o (.b (.l ⟨[.v 6 1 (.dat (.int .i64) none), .b 1 1 (.st 32)], [0, 1, 4, 5], 2, []⟩ .o))) .o)))) rfl mixed Tryz.func110 rfl Tryz.ntmps110 rfl rfl (fun x => by kernel_rfl)
theorem c_slices_MaxFunc_Value {W0 : Bse} {m : M} {w : World} {L : List (Nat × List Value)} {TL : List (Nat × Value)} (hS : S W0 m w (L) (TL)) {v0 : Value} {p0 : (List Ap)} (ha0 : RV (kSl kAp) m v0 p0) {v1 : Value} {p1 : (Ap → Ap → Option Int)} (ha1 : Fn2 Tryz.prog kAp kAp (kInt .i64) m v1 p1) {r : Ap} (h : slices_MaxFunc_Value p0 p1 = some r) :
    Calls Tryz.prog 110 [v0, v1].toArray w (Ret fun v w' => ∃ m', M.le m m' ∧ S W0 m' w' (L) (TL) ∧ RV kAp m' v r) := by
 refine (ct_110 W0 m w L TL [v0, v1] (p0, p1, ()) r [] [] hS ⟨ha0, ⟨ha1, trivial⟩⟩ h).mono ?_
 intro e w' he
 cases e with
 | returned v =>
  obtain ⟨m', us, Lr, Lq, Tr, hm, hS', rfl, hR, hO⟩ := he
  obtain ⟨u0, us, rfl, r0, hR0⟩ := RR_rd hR
  obtain ⟨rfl, rfl, rfl⟩ := RR_nil hR0
  have hO0 := OR_rd hO
  have hO1 := OR_f2 hO0
  obtain rfl := OR_nil hO1
  exact ⟨m', hm, hS', r0⟩
 | panicked ch => exact he.elim
 | outgrown => exact he.elim
theorem it_slices_Values_Value {m : M} {v : Value} {p0 : (List Ap)} (ha : PR (kSl kAp) m v p0) : IterC Tryz.prog (Rv1 kAp) 157 [v].toArray m p0 := by
 intro σ I step B y m1 w L TL s Ls TLs r mono hle hy hI hS hf
 refine kcall (args := [y, v]) Tryz.func157 rfl Tryz.ntmps157 (Nat.le_of_ble_eq_true rfl) fun a hE => ?_
 have hE : Env 16 a [(0, y), (1, v)] := hE
 refine kseq (kreg ?_)
 refine st hE (st_loadM hE hS ty22 rfl (ha.mono hle)) rfl ?_
 rintro v5 a _ ⟨rfl, hv5⟩ hE
 refine sp hE (r_lenSl (k := kAp) hE rfl rfl Tryz.underlying22 hv5) rfl fun a hE => ?_
 refine qm hE rfl rfl fun a hE => ?_
 refine knil ?_
 have h := foldY_loop (RV_len hv5) hf
 refine kblock ?_
 refine kloop h (fun (t : Int × σ) a w => ∃ m' Ls' TLs', M.le m1 m' ∧ inR .i64 t.1 ∧ I m' t.2 Ls' TLs' ∧ S (B t.2) m' w (Ls' ++ L) (TLs' ++ TL) ∧ Env 16 a [(0, y), (5, v5), (6, (.int .i64 (p0.length : Int))), (7, (.int .i64 t.1))]) ?_ ?_
 {
 exact ⟨m1, Ls, TLs, M.le.refl _, (show inR .i64 0 from inR_lit (by decide)), hI, hS, hE.cut ⟨rfl, rfl, rfl, rfl, trivial⟩⟩
 }
 {
 rintro ⟨i, s⟩ a w ⟨m2, Ls2, TLs2, hm2, hi, hI, hS, hE⟩ r9 h hb
 unfold valF at h
 refine kseq (kreg ?_)
 refine sp hE (r_bin hE rfl rfl b_lss) rfl fun a hE => ?_
 refine knil (kseq ?_)
 refine kif hE rfl (fun hd => ?_) (fun hd => ?_)
 {
 have h := ite_T hd h
 refine kskip (kseq (kblock (kseq (kreg ?_))))
 obtain ⟨x, hx, h⟩ := ob h
 refine st hE (st_index (k := kAp) hE rfl rfl Tryz.underlying22 Tryz.sizeOf32 (hv5.mono hm2) hx) rfl ?_
 rintro v9 a _ ⟨rfl, hp⟩ hE
 refine st hE (st_loadM hE hS ty32 rfl hp) rfl ?_
 rintro v10 a _ ⟨rfl, hv10⟩ hE
 refine st hE (st_alloc hS Tryz.zeroValue32 rfl (cs := zc32)) rfl ?_
 rintro _ a w ⟨b4, rfl, hS⟩ hE
 refine st0 hE (st_storeF hE hS ty32 StF_self rfl rfl hv10 (i := 0) rfl (zr32 _)) ?_
 rintro _ w ⟨cs, hc, hS⟩ hE
 refine knil (kseq (kreg ?_))
 refine qm hE rfl rfl fun a hE => ?_
 refine st hE (st_loadL hE hS ty32 rfl (i := 0) rfl (R_whole hc)) rfl ?_
 rintro v12 a _ ⟨rfl, hv12⟩ hE
 obtain ⟨q, hq, h⟩ := ob h
 refine st hE (hy m2 _ L TL s Ls2 TLs2 [v12] x q.1 q.2 hI (hS.dropL 1) ⟨_, rfl, hv12⟩ hq _ _ _ _ _ _ _ _ _ (hE.eval rfl) (argl_eval hE rfl)) rfl ?_
 rintro _ a w ⟨rfl, m3, Ls3, TLs3, hm3, hI, hS⟩ hE
 refine sp hE (r_not hE rfl) rfl fun a hE => ?_
 refine knil ?_
 refine kif hE rfl (fun hd => ?_) (fun hd => ?_)
 {
 have h := ite_F (by simpa using hd) h
 obtain rfl := oi h
 refine kret ?_
 have h := hb _ rfl
 subst h
 refine Fin.mk hE (rs := []) rfl ResL.nil ?_
 exact ⟨m3, Ls3, TLs3, hm2.trans hm3, hI, hS⟩
 }
 {
 have h := ite_T (by simpa using hd) h
 obtain rfl := oi h
 refine kskip (kreg ?_)
 refine sp hE (r_bin hE rfl rfl (b_add rfl)) rfl fun a hE => ?_
 refine qm hE rfl rfl fun a hE => ?_
 refine knil ?_
 exact ⟨_, rfl, m3, Ls3, TLs3, hm2.trans hm3, (inR_wrap _ _), hI, hS, hE.cut ⟨rfl, rfl, rfl, rfl, trivial⟩⟩
 }
 }
 {
 have h := ite_F hd h
 obtain rfl := oi h
 have h := hb _ rfl
 subst h
 refine kexit rfl rfl ?_
 dsimp only
 refine Fin.mk hE (rs := []) rfl ResL.nil ?_
 exact ⟨m2, Ls2, TLs2, hm2, hI, hS⟩
 }
 }
theorem c_slices_Values_Value {W0 : Bse} {m : M} {w : World} {L : List (Nat × List Value)} {TL : List (Nat × Value)} (hS : S W0 m w (L) (TL)) {v0 : Value} {p0 : (List Ap)} (ha0 : RV (kSl kAp) m v0 p0) {r : (List Ap)} (h : slices_Values_Value p0 = some r) :
    Calls Tryz.prog 111 [v0].toArray w (Ret fun v w' => ∃ m', M.le m m' ∧ S W0 m' w' (L) (TL) ∧ ItV Tryz.prog (Rv1 kAp) m' v r) := by
 refine kcall Tryz.func111 rfl Tryz.ntmps111 (Nat.le_of_ble_eq_true rfl) fun a hE => ?_
 have hE : Env 4 a [(0, v0)] := hE
 unfold slices_Values_Value at h
 obtain rfl := oi h
 refine kseq (kreg ?_)
 refine st hE (st_box hE hS rfl ha0) rfl ?_
 rintro _ a w ⟨b, cs, rfl, hc, hS⟩ hE
 refine qa hE rfl rfl fun a hE => ?_
 refine knil (kseq (kreg ?_))
 obtain ⟨m1, hm, hS, hp⟩ := S.freezeL (k := (kSl kAp)) hS hc
 refine sp hE (r_makeFunc hE rfl rfl) rfl fun a hE => ?_
 refine qa hE rfl rfl fun a hE => ?_
 refine knil (kret ?_)
 refine Fin.mk hE (rs := [.tmp 2]) rfl (ResL.tmp hE rfl ResL.nil) ?_
 exact ⟨_, hm, hS, 157, _, rfl, Tryz.call157, it_slices_Values_Value hp⟩
theorem c_block_head {W0 : Bse} {m : M} {w : World} {L : List (Nat × List Value)} {TL : List (Nat × Value)} (hS : S W0 m w (L) (TL)) {p0 : Int} (ha0 : inR .i64 p0) {v1 : Value} {p1 : (List Ap)} (ha1 : RV (kSl kAp) m v1 p1) {r : Block_Info} (h : block_head p0 p1 = some r) :
    Calls Tryz.prog 48 [(.int .i64 p0), v1].toArray w (Ret fun v w' => ∃ m', M.le m m' ∧ S W0 m' w' (L) (TL) ∧ RV kBlock_Info m' v r) := by
 refine kcallM Tryz.func48 rfl Tryz.ntmps48 (Nat.le_of_ble_eq_true rfl) fun a hE => ?_
 have hE : Env 26 a [(0, (.int .i64 p0)), (1, v1)] := hE
 unfold block_head at h
 refine kseq (kreg ?_)
 refine st hE (st_alloc hS Tryz.zeroValue34 rfl (cs := zc34)) rfl ?_
 rintro _ a w ⟨b1, rfl, hS⟩ hE
 refine knil (kseq (kreg ?_))
 refine qm hE rfl rfl fun a hE => ?_
 refine qm hE rfl rfl fun a hE => ?_
 refine sp hE (r_lenSl (k := kAp) hE rfl rfl Tryz.underlying22 ha1) rfl fun a hE => ?_
 refine qm hE rfl rfl fun a hE => ?_
 obtain ⟨r7, hr8, h⟩ := ob h
 refine st hE (st_call (vs := [v1, (.func (.func 109) #[] #[])]) hE rfl Tryz.call108 (c_slices_MinFunc_Value (hS := hS) ha1 (fn_109 (m0 := m)) hr8)) rfl ?_
 rintro v12 a w ⟨m9, hm10, hS, hv11⟩ hE
 refine qm hE rfl rfl fun a hE => ?_
 obtain ⟨r14, hr15, h⟩ := ob h
 refine st hE (st_call (vs := [v1, (.func (.func 109) #[] #[])]) hE rfl Tryz.call110 (c_slices_MaxFunc_Value (hS := hS) (ha1.mono hm10) (fn_109 (m0 := m9)) hr15)) rfl ?_
 rintro v19 a w ⟨m16, hm17, hS, hv18⟩ hE
 refine st hE (st_build (m := m16) (k := kBlock_Info) (x0 := Block_Info.zero) (xx := (⟨p0, (p1.length : Int), r7, r14, 0, 0⟩ : Block_Info)) (pl := [(0, 1), (1, 1), (2, 4), (6, 4), (10, 1), (11, 1)]) (pv := [(0, (.int .i64 p0)), (1, (.int .i64 (p1.length : Int))), (2, v12), (3, v19)]) hE rfl Tryz.underlying34 rfl Tryz.zeroValue34 zr34 rfl (.cons rfl sf34_0 (RV_of_int ha0) (.cons rfl sf34_1 (RV_of_int (inR_len (RV_len ha1))) (.cons rfl sf34_2 (hv11.mono hm17) (.cons rfl sf34_3 hv18 .nil))))) rfl ?_
 rintro v21 a _ ⟨rfl, hv20⟩ hE
 refine st hE (st_alloc hS Tryz.zeroValue34 rfl (cs := zc34)) rfl ?_
 rintro _ a w ⟨b22, rfl, hS⟩ hE
 refine st0 hE (st_storeF hE hS ty34 StF_self rfl rfl hv20 (i := 0) rfl (zr34 _)) ?_
 rintro _ w ⟨cs24, hc25, hS⟩ hE
 refine knil (kseq (kseq (kreg ?_)))
 refine qm hE rfl rfl fun a hE => ?_
 obtain ⟨r28, hr29, h⟩ := ob h
 refine st hE (st_call (vs := [v1]) hE rfl Tryz.call111 (c_slices_Values_Value (hS := hS) (ha1.mono (M.le.trans hm10 hm17)) hr29)) rfl ?_
 rintro v33 a w ⟨m30, hm31, hS, hv32⟩ hE
 refine knil (kblock ?_)
 obtain ⟨y67, hy68, h⟩ := ob h
 refine krangeV (Rv := (Rv1 kAp)) (fun (s : Block_Info) (x : Ap) => block_head_b1 s x) (fun _ => .ret) [] (fun (m' : M) (s : Block_Info) (Ls_ : Mem) (TLs_ : Tls) => ∃ (cs37 : List Value), M.le m30 m' ∧ kBlock_Info.R m' cs37 s ∧ Ls_ = [(b22, cs37), (b1, zc34)] ∧ TLs_ = []) (Ls := [(b22, cs24), (b1, zc34)]) (TLs := []) (s0 := (⟨p0, (p1.length : Int), r7, r14, 0, 0⟩ : Block_Info)) (sf := y67.1) (bf := y67.2) hE hS rfl hv32 (by decide) (fun _ _ _ h => Rv1_len h) (by rintro m1_ m2_ s_ a_ b_ hm_ ⟨cs37, hl_, hf0_, e1_, e2_⟩; exact ⟨cs37, hl_.trans hm_, kBlock_Info.mono hm_ hf0_, e1_, e2_⟩) ⟨cs24, M.le.refl _, (kBlock_Info.mono hm31 hc25), rfl, rfl⟩ hy68 ?_ ?_
 {
 intro lid_ W1_ W0 m34 w L TL s_ Ls_ TLs_ vs_ x39 s40 b41 a or_ ob_ hI42 hS hR43 h hE hT44
 obtain ⟨x36, rfl⟩ : ∃ x, x = s_ := ⟨_, rfl⟩
 obtain ⟨cs37, hm35, hc38, rfl, rfl⟩ := hI42
 have h : block_head_b1 x36 x39 = some (s40, b41) := h
 unfold block_head_b1 at h
 obtain ⟨v45, rfl, hv46⟩ := hR43
 refine kreg ?_
 refine st hE (st_alloc hS Tryz.zeroValue32 rfl (cs := zc32)) rfl ?_
 rintro _ a w ⟨b47, rfl, hS⟩ hE
 refine st0 hE (st_storeF hE hS ty32 StF_self rfl rfl hv46 (i := 0) rfl (zr32 _)) ?_
 rintro _ w ⟨cs49, hc50, hS⟩ hE
 refine knil ?_
 obtain ⟨hb_, hS⟩ := hT44 _ _ _ _ hS
 refine ⟨hb_, ?_⟩
 refine kblock (kseq (kreg ?_))
 refine sp hE (r_fieldL hE fo32_0 rfl) rfl fun a hE => ?_
 refine st hE (st_loadL hE hS ty3 rfl (i := 0) rfl (fl32_0.R_drop (R_whole hc50))) rfl ?_
 rintro v54 a _ ⟨rfl, hv53⟩ hE
 obtain ⟨rfl, hr55⟩ := RV_int hv53
 refine sp hE (r_bin hE rfl rfl b_eql) rfl fun a hE => ?_
 refine knil ?_
 refine kif hE rfl (fun hd57 => ?_) (fun hd57 => ?_)
 {
 have h := ite_T hd57 h
 refine kreg ?_
 refine sp hE (r_fieldL hE fo34_4 rfl) rfl fun a hE => ?_
 refine st hE (st_loadL hE hS ty3 rfl (i := 1) rfl (fl34_4.R_drop (R_whole hc38))) rfl ?_
 rintro v60 a _ ⟨rfl, hv59⟩ hE
 obtain ⟨rfl, hr61⟩ := RV_int hv59
 refine sp hE (r_bin hE rfl rfl (b_add rfl)) rfl fun a hE => ?_
 refine sp hE (r_fieldL hE fo34_4 rfl) rfl fun a hE => ?_
 refine st0 hE (st_storeF hE hS ty3 sf34_4 rfl rfl (RV_of_int (inR_wrap _ _)) (i := 1) rfl hc38) ?_
 rintro _ w ⟨cs64, hc65, hS⟩ hE
 refine knil ?_
 cases h
 try dsimp only
 exact ⟨rfl, _, [(b22, cs64), (b1, zc34)], [], (M.le.refl _), ⟨cs64, hm35, hc65, rfl, rfl⟩, (hS.pickL 3 [1, 2] rfl rfl rfl)⟩
 }
 {
 have h := ite_F hd57 h
 refine kskip ?_
 cases h
 try dsimp only
 exact ⟨rfl, _, [(b22, cs37), (b1, zc34)], [], (M.le.refl _), ⟨cs37, hm35, hc38, rfl, rfl⟩, (hS.pickL 3 [1, 2] rfl rfl rfl)⟩
 }
 }
 {
 intro D69 m73 w a Ls_ TLs_ hm74 hE hI42 hS hk71 hB72
 obtain ⟨cs76, _, hc77, rfl, rfl⟩ := hI42
 obtain ⟨W0, hW70⟩ : ∃ W9, W9 = W0.put D69 (.deferred (some [])) := ⟨_, rfl⟩
 rw [← hW70] at hS
 rcases Bool.eq_false_or_eq_true y67.2 with hb75 | hb75
 {
 have h := ite_T hb75 h
 rw [if_pos hb75]
 refine kseq (kreg ?_)
 refine st hE (st_loadL hE hS ty34 rfl (i := 0) rfl (R_whole hc77)) rfl ?_
 rintro v79 a _ ⟨rfl, hv78⟩ hE
 refine st0 hE (st_storeF hE hS ty34 StF_self rfl rfl hv78 (i := 1) rfl (zr34 _)) ?_
 rintro _ w ⟨cs80, hc81, hS⟩ hE
 refine knil (kret ?_)
 obtain rfl := oi h
 try dsimp only
 have hS := hS
 rw [hW70] at hS
 refine FinM.shut hE hS hk71 hB72 fun a w hS hE => ?_
 refine FinM.nil hE ?_
 refine Fin.mk hE (rs := [.cell 4 34]) rfl (ResL.cell hE hS ty34 rfl (i := 1) rfl (R_whole hc81) ResL.nil) ?_
 exact ⟨_, (M.le.trans hm10 (M.le.trans hm17 (M.le.trans hm31 hm74))), (hS.dropL 2), (RV_of_R (R_whole hc81))⟩
 }
 {
 have h := ite_F hb75 h
 cases h
 }
 }
theorem ct_48 : Ctr Sz Tryz.prog 48 [.rd (.int .i64), .rd (.sl (.st 32))] [.rd (.st 34)] (fun x => block_head x.1 x.2.1) := by
 intro W0 m w L TL vs x r Lp Tp hS hP h
 obtain ⟨v0, vs, rfl, a0, hP0⟩ := PR_rd hP
 obtain ⟨rfl, n0⟩ := RV_int a0
 obtain ⟨v1, vs, rfl, a1, hP1⟩ := PR_rd hP0
 obtain ⟨rfl, rfl, rfl⟩ := PR_nil hP1
 refine (c_block_head (hS := hS) n0 a1 h).mono ?_
 intro e w' he
 cases e with
 | returned v =>
  obtain ⟨m', hm, hS', r0⟩ := he
  exact ⟨m', [v], [], [], [], hm, hS', rfl, ⟨r0, trivial⟩, trivial⟩
 | panicked ch => exact he.elim
 | outgrown => exact he.elim
noncomputable def cs_48 : CS Tryz.prog Sz := ⟨48, _, _, _, ct_48, Tryz.call48⟩
theorem ct_49 : Ctr Sz Tryz.prog 49 [.rd (.st 32)] [.rd (.sl (.int .u8))] (fun x => block_one x.1) :=
 Ctr.nc (Γ := Γ) (D := [cs_112]) (c := Tryz.f49.body.getD .skip) (res := [2]) .o rfl mixed Tryz.func49 rfl Tryz.ntmps49 rfl rfl (fun x => by kernel_rfl)
noncomputable def cs_49 : CS Tryz.prog Sz := ⟨49, _, _, _, ct_49, Tryz.call49⟩
theorem ct_78 : Ctr Sz Tryz.prog 78 [.rd (.sl (.int .u8))] [.rd (.int .u32)] (fun x => codec_Sum x.1) :=
 Ctr.nc (Γ := Γ) (D := []) (c := Tryz.f78.body.getD .skip) (res := [2]) (.s .o (.s .o (.s (.s .o (.b (.l ⟨[.v 9 1 (.dat (.int .i64) none), .a 0 1 (.int .u32) (some 16)], [0, 3], 1, []⟩ (.s .o (.s .o (.s (.b (.s .o (.s .o (.s (.s .o (.b (.l ⟨[.v 5 2 (.dat (.int .u32) none), .v 14 2 (.dat (.int .i64) none)], [0, 3, 4, 9], 1, []⟩ .o))) .o)))) .o)))))) (.s .o (.s (.s .o (.b (.l ⟨[.v 6 1 (.dat (.int .u32) none), .v 29 1 (.dat (.int .i64) none)], [3, 27, 28], 1, []⟩ .o))) .o))))) rfl mixed Tryz.func78 rfl Tryz.ntmps78 rfl rfl (fun x => by kernel_rfl)
noncomputable def cs_78 : CS Tryz.prog Sz := ⟨78, _, _, _, ct_78, Tryz.call78⟩
theorem ct_50 : Ctr Sz Tryz.prog 50 [.ap (.int .u8)] [.ap (.int .u8)] (fun x => block_sealed x.1) :=
 Ctr.nc (Γ := Γ) (D := [cs_78]) (c := Tryz.f50.body.getD .skip) (res := [2]) .o rfl mixed Tryz.func50 rfl Tryz.ntmps50 rfl rfl (fun x => by kernel_rfl)
noncomputable def cs_50 : CS Tryz.prog Sz := ⟨50, _, _, _, ct_50, Tryz.call50⟩
theorem c_block_sealed {W0 : Bse} {m : M} {w : World} {L : List (Nat × List Value)} {TL : List (Nat × Value)} {v0 : Value} (hS : S W0 m w (L) ((1, v0) :: TL)) {p0 : (List Int)} (ha0 : RV (kSl (kInt .u8)) m v0 p0) {r : (List Int)} (h : block_sealed p0 = some r) :
    Calls Tryz.prog 50 [v0].toArray w (Ret fun v w' => ∃ m', M.le m m' ∧ S W0 m' w' (L) ((1, v) :: TL) ∧ RV (kSl (kInt .u8)) m' v r) := by
 refine (ct_50 W0 m w L TL [v0] (p0, ()) r [] [(1, v0)] hS ⟨ha0, rfl, trivial⟩ h).mono ?_
 intro e w' he
 cases e with
 | returned v =>
  obtain ⟨m', us, Lr, Lq, Tr, hm, hS', rfl, hR, hO⟩ := he
  obtain ⟨u0, us, Tr, rfl, rfl, r0, hR0⟩ := RR_ap hR
  obtain ⟨rfl, rfl, rfl⟩ := RR_nil hR0
  have hO0 := OR_ap hO
  obtain rfl := OR_nil hO0
  exact ⟨m', hm, hS', r0⟩
 | panicked ch => exact he.elim
 | outgrown => exact he.elim
theorem ct_15 : Ctr Sz Tryz.prog 15 [.rd (.int .i64), .rd (.sl (.st 32))] [.rd (.sl (.int .u8)), .rd (.int .i64)] (fun x => block_Write x.1 x.2.1) :=
 Ctr.nc (Γ := Γ) (D := [cs_46, cs_47, cs_48, cs_49, cs_50]) (c := Tryz.f15.body.getD .skip) (res := [4, 5]) .o rfl mixed Tryz.func15 rfl Tryz.ntmps15 rfl rfl (fun x => by kernel_rfl)
noncomputable def cs_15 : CS Tryz.prog Sz := ⟨15, _, _, _, ct_15, Tryz.call15⟩
theorem ct_137 : Ctr Sz Tryz.prog 137 [.rd (.st 32)] [.rd .bool] (fun x => r2_Right x.1) :=
 Ctr.nc (Γ := Γ) (D := []) (c := Tryz.f137.body.getD .skip) (res := [2]) .o rfl mixed Tryz.func137 rfl Tryz.ntmps137 rfl rfl (fun x => by kernel_rfl)
noncomputable def cs_137 : CS Tryz.prog Sz := ⟨137, _, _, _, ct_137, Tryz.call137⟩
theorem ct_113 : Ctr Sz Tryz.prog 113 [.rd (.int .i64), .rd (.sl (.st 32))] [.rd (.int .i64)] (fun x => r6_refused x.1 x.2.1) :=
 Ctr.nc (Γ := Γ) (D := [cs_137]) (c := Tryz.f113.body.getD .skip) (res := [4]) (.s .o (.s .o (.s .o (.s (.s .o (.b (.l ⟨[.v 5 1 (.dat (.int .i64) none)], [0, 1], 0, []⟩ .o))) (.s (.s .o (.b (.l ⟨[.v 7 1 (.dat (.int .i64) none)], [0, 1], 0, []⟩ .o))) .o))))) rfl mixed Tryz.func113 rfl Tryz.ntmps113 rfl rfl (fun x => by kernel_rfl)
noncomputable def cs_113 : CS Tryz.prog Sz := ⟨113, _, _, _, ct_113, Tryz.call113⟩
theorem c_r6_Runs {W0 : Bse} {m : M} {w : World} {L : List (Nat × List Value)} {TL : List (Nat × Value)} (hS : S W0 m w (L) (TL)) {v0 : Value} {p0 : (List Ap)} (ha0 : RV (kSl kAp) m v0 p0) {r : (List R6_Run)} (h : r6_Runs p0 = some r) :
    Calls Tryz.prog 114 [v0].toArray w (Ret fun v w' => ∃ m', M.le m m' ∧ S W0 m' w' (L) ((5, v) :: TL) ∧ RV (kSl kR6_Run) m' v r) := by
 refine kcall Tryz.func114 rfl Tryz.ntmps114 (Nat.le_of_ble_eq_true rfl) fun a hE => ?_
 have hE : Env 55 a [(0, v0)] := hE
 unfold r6_Runs at h
 refine kseq (kreg ?_)
 refine qa hE rfl rfl fun a hE => ?_
 refine knil (kseq (kreg ?_))
 refine qa hE rfl rfl fun a hE => ?_
 refine knil (kseq (kseq (kreg ?_)))
 refine qa hE rfl rfl fun a hE => ?_
 refine knil ?_
 refine kcut (fun a w => ∃ x6 : (List R6_Run), r6_Runs_j1 x6 = some r ∧ ∃ m', M.le m m' ∧ ∃ (v7 : Value), RV (kSl kR6_Run) m' v7 x6 ∧ S W0 m' w (L) ((5, v7) :: TL) ∧ Env 55 a [(3, v7)]) ?_ ?_
 {
 refine kblock ?_
 refine kloop h (fun (s : ((List R6_Run) × Int)) a w => ∃ m', M.le m m' ∧ ∃ (v15 : Value), RV (kSl kR6_Run) m' v15 s.1 ∧ inR .i64 s.2 ∧ S W0 m' w (L) ((5, v15) :: TL) ∧ Env 55 a [(0, v0), (3, v15), (4, (.int .i64 s.2))]) ?_ ?_
 {
 exact ⟨_, (M.le.refl _), (.slice none 0 0), RV_nil, (show inR .i64 0 from inR_lit (by decide)), (hS.tail0 5), hE.cut ⟨rfl, rfl, rfl, trivial⟩⟩
 }
 {
 rintro ⟨x14, x17⟩ a w ⟨m12, hm13, v15, hv16, hr18, hS, hE⟩ r19 h hb20
 have h : r6_Runs_b1 p0 x14 x17 = some r19 := h
 unfold r6_Runs_b1 at h
 refine kseq (kseq (kreg ?_))
 refine qm hE rfl rfl fun a hE => ?_
 refine qm hE rfl rfl fun a hE => ?_
 refine sp hE (r_lenSl (k := kAp) hE rfl rfl Tryz.underlying22 (ha0.mono hm13)) rfl fun a hE => ?_
 refine sp hE (r_bin hE rfl rfl b_lss) rfl fun a hE => ?_
 refine knil ?_
 refine kif hE rfl (fun hd25 => ?_) (fun hd25 => ?_)
 {
 have h := ite_T hd25 h
 refine kskip (kseq ?_)
 refine kcut (fun a w => ∃ x28 : (List R6_Run), r6_Runs_j2 x17 x28 = some r19 ∧ ∃ m', M.le m12 m' ∧ ∃ (v29 : Value), RV (kSl kR6_Run) m' v29 x28 ∧ S W0 m' w (L) ((5, v29) :: TL) ∧ Env 55 a [(0, v0), (3, v29), (4, (.int .i64 x17))]) ?_ ?_
 {
 refine kblock (kseq (kseq ?_))
 refine kcut (fun a w => ∃ x37 : Bool, r6_Runs_j3 p0 x14 x17 x37 = some r19 ∧ ∃ m', M.le m12 m' ∧ S W0 m' w (L) ((5, v15) :: TL) ∧ Env 55 a [(0, v0), (3, v15), (4, (.int .i64 x17)), (25, (.bool x37))]) ?_ ?_
 {
 rcases Bool.eq_false_or_eq_true (decide (0 < x17)) with hd158 | hd158
 {
 have h := ite_T hd158 h
 obtain ⟨x159, hx160, h⟩ := ob h
 obtain ⟨x163, hx164, h⟩ := ob h
 refine kchain (k := 12) (m := m12) (es := []) (Φ := (fun i m ws v => match i with | 0 => v = (.int .i64 x17) ∧ inR .i64 x17 | 1 => v = (.bool (decide (0 < x17))) | 2 => v = (.bool (decide (0 < x17))) | 3 => v = v0 | 4 => v = (.int .i64 x17) ∧ inR .i64 x17 | 5 => PR kAp m v x159 | 6 => RV kAp m v x159 | 7 => v = v0 | 8 => v = (.int .i64 x17) ∧ inR .i64 x17 | 9 => v = (.int .i64 (IntKind.i64.wrap (x17 - 1))) ∧ inR .i64 (IntKind.i64.wrap (x17 - 1)) | 10 => PR kAp m v x163 | 11 => RV kAp m v x163 | _ => True)) (Q := (fun c m ws L' TL' => match c with | 0 => L = L' ∧ (5, v15) :: TL = TL' | _ => False)) (cs := [⟨0, 0, false, [(4, (.int .i64 x17))]⟩, ⟨0, 0, false, []⟩, ⟨0, 0, false, []⟩, ⟨0, 0, false, [(0, v0)]⟩, ⟨0, 0, false, [(4, (.int .i64 x17))]⟩, ⟨0, 0, false, []⟩, ⟨0, 0, false, []⟩, ⟨0, 0, false, [(0, v0)]⟩, ⟨0, 0, false, [(4, (.int .i64 x17))]⟩, ⟨0, 0, false, []⟩, ⟨0, 0, false, []⟩, ⟨0, 0, false, []⟩]) mixed hE hS ⟨rfl, rfl⟩ rfl rfl ⟨⟨rfl, trivial⟩, trivial, trivial, ⟨rfl, trivial⟩, ⟨rfl, trivial⟩, trivial, trivial, ⟨rfl, trivial⟩, ⟨rfl, trivial⟩, trivial, trivial, trivial, trivial⟩ (by kernel_rfl) ?_ ?_ ?_ ?_
 {
 intro i m_ m2_ ws v hm_ hp_
 match i, hp_ with
 | 0, hp_ => exact hp_
 | 1, hp_ => exact hp_
 | 2, hp_ => exact hp_
 | 3, hp_ => exact hp_
 | 4, hp_ => exact hp_
 | 5, hp_ => exact PR.mono hp_ hm_
 | 6, hp_ => exact RV.mono hp_ hm_
 | 7, hp_ => exact hp_
 | 8, hp_ => exact hp_
 | 9, hp_ => exact hp_
 | 10, hp_ => exact PR.mono hp_ hm_
 | 11, hp_ => exact RV.mono hp_ hm_
 | _ + 12, hp_ => exact trivial
 }
 {
 intro c m_ m2_ ws L_ T_ hm_ hq_
 match c, hq_ with
 | 0, ⟨e1_, e2_⟩ => exact ⟨e1_, e2_⟩
 | _ + 1, hq_ => exact hq_.elim
 }
 {
 refine ⟨?_, ?_, ?_, ?_, ?_, ?_, ?_, ?_, ?_, ?_, ?_, ?_, trivial⟩
 {
 refine cplain fun pre_ post_ L_ T_ m' a' w' hl' hp' hm' hq' hS' hE' hT' => ?_
 obtain rfl := len0 hl'
 refine Step.imp (Run1.pure (r_move hE' rfl)) ?_
 rintro _ _ ⟨rfl, rfl⟩
 exact ⟨_, M.le.refl _, hS', ⟨rfl, hr18⟩⟩
 }
 {
 refine cplain fun pre_ post_ L_ T_ m' a' w' hl' hp' hm' hq' hS' hE' hT' => ?_
 obtain rfl := len0 hl'
 obtain ⟨v168, e169, q170⟩ : ∃ v, a'.tmps.getD 12 undef = v ∧ (v = (.int .i64 x17) ∧ inR .i64 x17) := ⟨_, rfl, hT' 0 (by decide) 12 rfl⟩
 obtain ⟨q170, hr171⟩ := q170
 have hE := hE'.add (e169.trans q170)
 refine Step.imp (Run1.pure (r_bin hE rfl rfl b_gtr)) ?_
 rintro _ _ ⟨rfl, rfl⟩
 exact ⟨_, M.le.refl _, hS', rfl⟩
 }
 {
 refine cplain fun pre_ post_ L_ T_ m' a' w' hl' hp' hm' hq' hS' hE' hT' => ?_
 obtain rfl := len0 hl'
 obtain ⟨v173, e174, q175⟩ : ∃ v, a'.tmps.getD 13 undef = v ∧ (v = (.bool (decide (0 < x17)))) := ⟨_, rfl, hT' 1 (by decide) 13 rfl⟩
 have hE := hE'.add (e174.trans q175)
 refine Step.imp (Run1.pure (r_move hE rfl)) ?_
 rintro _ _ ⟨rfl, rfl⟩
 exact ⟨_, M.le.refl _, hS', rfl⟩
 }
 {
 refine cguard rfl rfl (by decide) (fun _ _ _ h_ => Eq.trans h_ (cb hd158)) fun pre_ post_ L_ T_ m' a' w' hl' hp' hm' hq' hS' hE' hT' => ?_
 obtain rfl := len0 hl'
 refine Step.imp (Run1.pure (r_move hE' rfl)) ?_
 rintro _ _ ⟨rfl, rfl⟩
 exact ⟨_, M.le.refl _, hS', rfl⟩
 }
 {
 refine cguard rfl rfl (by decide) (fun _ _ _ h_ => Eq.trans h_ (cb hd158)) fun pre_ post_ L_ T_ m' a' w' hl' hp' hm' hq' hS' hE' hT' => ?_
 obtain rfl := len0 hl'
 refine Step.imp (Run1.pure (r_move hE' rfl)) ?_
 rintro _ _ ⟨rfl, rfl⟩
 exact ⟨_, M.le.refl _, hS', ⟨rfl, hr18⟩⟩
 }
 {
 refine cguard rfl rfl (by decide) (fun _ _ _ h_ => Eq.trans h_ (cb hd158)) fun pre_ post_ L_ T_ m' a' w' hl' hp' hm' hq' hS' hE' hT' => ?_
 obtain rfl := len0 hl'
 obtain ⟨v179, e180, q181⟩ : ∃ v, a'.tmps.getD 15 undef = v ∧ (v = v0) := ⟨_, rfl, hT' 3 (by decide) 15 rfl⟩
 have hE := hE'.add (e180.trans q181)
 obtain ⟨v182, e183, q184⟩ : ∃ v, a'.tmps.getD 16 undef = v ∧ (v = (.int .i64 x17) ∧ inR .i64 x17) := ⟨_, rfl, hT' 4 (by decide) 16 rfl⟩
 obtain ⟨q184, hr185⟩ := q184
 have hE := hE.add (e183.trans q184)
 refine Step.imp (st_index (k := kAp) hE rfl rfl Tryz.underlying22 Tryz.sizeOf32 (ha0.mono (M.le.trans hm13 hm')) hx160) ?_
 rintro v186 _ ⟨rfl, hp161⟩
 exact ⟨_, M.le.refl _, hS', hp161⟩
 }
 {
 refine cguard rfl rfl (by decide) (fun _ _ _ h_ => Eq.trans h_ (cb hd158)) fun pre_ post_ L_ T_ m' a' w' hl' hp' hm' hq' hS' hE' hT' => ?_
 obtain rfl := len0 hl'
 obtain ⟨v187, e188, q189⟩ : ∃ v, a'.tmps.getD 17 undef = v ∧ (PR kAp m' v x159) := ⟨_, rfl, hT' 5 (by decide) 17 rfl⟩
 have hE := hE'.add (e188)
 refine Step.imp (st_loadM hE hS' ty32 rfl q189) ?_
 rintro v190 _ ⟨rfl, hv162⟩
 exact ⟨_, M.le.refl _, hS', hv162⟩
 }
 {
 refine cguard rfl rfl (by decide) (fun _ _ _ h_ => Eq.trans h_ (cb hd158)) fun pre_ post_ L_ T_ m' a' w' hl' hp' hm' hq' hS' hE' hT' => ?_
 obtain rfl := len0 hl'
 refine Step.imp (Run1.pure (r_move hE' rfl)) ?_
 rintro _ _ ⟨rfl, rfl⟩
 exact ⟨_, M.le.refl _, hS', rfl⟩
 }
 {
 refine cguard rfl rfl (by decide) (fun _ _ _ h_ => Eq.trans h_ (cb hd158)) fun pre_ post_ L_ T_ m' a' w' hl' hp' hm' hq' hS' hE' hT' => ?_
 obtain rfl := len0 hl'
 refine Step.imp (Run1.pure (r_move hE' rfl)) ?_
 rintro _ _ ⟨rfl, rfl⟩
 exact ⟨_, M.le.refl _, hS', ⟨rfl, hr18⟩⟩
 }
 {
 refine cguard rfl rfl (by decide) (fun _ _ _ h_ => Eq.trans h_ (cb hd158)) fun pre_ post_ L_ T_ m' a' w' hl' hp' hm' hq' hS' hE' hT' => ?_
 obtain rfl := len0 hl'
 obtain ⟨v193, e194, q195⟩ : ∃ v, a'.tmps.getD 20 undef = v ∧ (v = (.int .i64 x17) ∧ inR .i64 x17) := ⟨_, rfl, hT' 8 (by decide) 20 rfl⟩
 obtain ⟨q195, hr196⟩ := q195
 have hE := hE'.add (e194.trans q195)
 refine Step.imp (Run1.pure (r_bin hE rfl rfl (b_sub rfl))) ?_
 rintro _ _ ⟨rfl, rfl⟩
 exact ⟨_, M.le.refl _, hS', ⟨rfl, (inR_wrap _ _)⟩⟩
 }
 {
 refine cguard rfl rfl (by decide) (fun _ _ _ h_ => Eq.trans h_ (cb hd158)) fun pre_ post_ L_ T_ m' a' w' hl' hp' hm' hq' hS' hE' hT' => ?_
 obtain rfl := len0 hl'
 obtain ⟨v198, e199, q200⟩ : ∃ v, a'.tmps.getD 19 undef = v ∧ (v = v0) := ⟨_, rfl, hT' 7 (by decide) 19 rfl⟩
 have hE := hE'.add (e199.trans q200)
 obtain ⟨v201, e202, q203⟩ : ∃ v, a'.tmps.getD 21 undef = v ∧ (v = (.int .i64 (IntKind.i64.wrap (x17 - 1))) ∧ inR .i64 (IntKind.i64.wrap (x17 - 1))) := ⟨_, rfl, hT' 9 (by decide) 21 rfl⟩
 obtain ⟨q203, hr204⟩ := q203
 have hE := hE.add (e202.trans q203)
 refine Step.imp (st_index (k := kAp) hE rfl rfl Tryz.underlying22 Tryz.sizeOf32 (ha0.mono (M.le.trans hm13 hm')) hx164) ?_
 rintro v205 _ ⟨rfl, hp165⟩
 exact ⟨_, M.le.refl _, hS', hp165⟩
 }
 {
 refine cguard rfl rfl (by decide) (fun _ _ _ h_ => Eq.trans h_ (cb hd158)) fun pre_ post_ L_ T_ m' a' w' hl' hp' hm' hq' hS' hE' hT' => ?_
 obtain rfl := len0 hl'
 obtain ⟨v206, e207, q208⟩ : ∃ v, a'.tmps.getD 22 undef = v ∧ (PR kAp m' v x163) := ⟨_, rfl, hT' 10 (by decide) 22 rfl⟩
 have hE := hE'.add (e207)
 refine Step.imp (st_loadM hE hS' ty32 rfl q208) ?_
 rintro v209 _ ⟨rfl, hv166⟩
 exact ⟨_, M.le.refl _, hS', hv166⟩
 }
 }
 {
 intro ws_ L_ T_ m210 a w hl211 hm212 hq213 hS hd214 hn215 ho216 hT217
 obtain rfl := len0 hl211
 obtain ⟨rfl, rfl⟩ := hq213
 have hE := EnvD.of (k := 12) (l' := [(0, v0), (3, v15), (4, (.int .i64 x17)), (6, (.int .i64 x17)), (7, v0), (8, (.int .i64 (p0.length : Int))), (9, (.bool (decide (x17 < (p0.length : Int)))))]) hd214 hn215 ho216 ⟨rfl, rfl, rfl, rfl, rfl, rfl, rfl, trivial⟩ rfl
 obtain ⟨v218, e219, q220⟩ : ∃ v, a.tmps.getD 14 undef = v ∧ (v = (.bool (decide (0 < x17)))) := ⟨_, rfl, hT217 2 (by decide) 14 rfl⟩
 have hE := hE.add (e219.trans q220)
 obtain ⟨v221, e222, q223⟩ : ∃ v, a.tmps.getD 15 undef = v ∧ (v = v0) := ⟨_, rfl, hT217 3 (by decide) 15 rfl⟩
 have hE := hE.add (e222.trans q223)
 obtain ⟨v224, e225, q226⟩ : ∃ v, a.tmps.getD 16 undef = v ∧ (v = (.int .i64 x17) ∧ inR .i64 x17) := ⟨_, rfl, hT217 4 (by decide) 16 rfl⟩
 obtain ⟨q226, hr227⟩ := q226
 have hE := hE.add (e225.trans q226)
 obtain ⟨v228, e229, q230⟩ : ∃ v, a.tmps.getD 17 undef = v ∧ (PR kAp m210 v x159) := ⟨_, rfl, hT217 5 (by decide) 17 rfl⟩
 have hE := hE.add (e229)
 obtain ⟨v231, e232, q233⟩ : ∃ v, a.tmps.getD 18 undef = v ∧ (RV kAp m210 v x159) := ⟨_, rfl, hT217 6 (by decide) 18 rfl⟩
 have hE := hE.add (e232)
 obtain ⟨v234, e235, q236⟩ : ∃ v, a.tmps.getD 19 undef = v ∧ (v = v0) := ⟨_, rfl, hT217 7 (by decide) 19 rfl⟩
 have hE := hE.add (e235.trans q236)
 obtain ⟨v237, e238, q239⟩ : ∃ v, a.tmps.getD 20 undef = v ∧ (v = (.int .i64 x17) ∧ inR .i64 x17) := ⟨_, rfl, hT217 8 (by decide) 20 rfl⟩
 obtain ⟨q239, hr240⟩ := q239
 have hE := hE.add (e238.trans q239)
 obtain ⟨v241, e242, q243⟩ : ∃ v, a.tmps.getD 21 undef = v ∧ (v = (.int .i64 (IntKind.i64.wrap (x17 - 1))) ∧ inR .i64 (IntKind.i64.wrap (x17 - 1))) := ⟨_, rfl, hT217 9 (by decide) 21 rfl⟩
 obtain ⟨q243, hr244⟩ := q243
 have hE := hE.add (e242.trans q243)
 obtain ⟨v245, e246, q247⟩ : ∃ v, a.tmps.getD 22 undef = v ∧ (PR kAp m210 v x163) := ⟨_, rfl, hT217 10 (by decide) 22 rfl⟩
 have hE := hE.add (e246)
 obtain ⟨v248, e249, q250⟩ : ∃ v, a.tmps.getD 23 undef = v ∧ (RV kAp m210 v x163) := ⟨_, rfl, hT217 11 (by decide) 23 rfl⟩
 have hE := hE.add (e249)
 refine spg hE rfl rfl rfl rfl hd158 (r_eqlK hE eq32 rfl rfl q233 q250 rfl) rfl fun a hE => ?_
 refine sp hE (r_pickT hE rfl hd158 rfl) rfl fun a hE => ?_
 refine knil ?_
 exact ⟨(decide (x159 = x163)), h, _, hm212, hS, hE.cut ⟨rfl, rfl, rfl, rfl, trivial⟩⟩
 }
 }
 {
 have h := ite_F hd158 h
 refine kchain (k := 12) (m := m12) (es := []) (Φ := (fun i m ws v => match i with | 0 => v = (.int .i64 x17) ∧ inR .i64 x17 | 1 => v = (.bool (decide (0 < x17))) | 2 => v = (.bool (decide (0 < x17))) | 3 => v = undef | 4 => v = undef | 5 => v = undef | 6 => v = undef | 7 => v = undef | 8 => v = undef | 9 => v = undef | 10 => v = undef | 11 => v = undef | _ => True)) (Q := (fun c m ws L' TL' => match c with | 0 => L = L' ∧ (5, v15) :: TL = TL' | _ => False)) (cs := [⟨0, 0, false, [(4, (.int .i64 x17))]⟩, ⟨0, 0, false, []⟩, ⟨0, 0, false, []⟩, ⟨0, 0, false, [(0, v0)]⟩, ⟨0, 0, false, [(4, (.int .i64 x17))]⟩, ⟨0, 0, false, []⟩, ⟨0, 0, false, []⟩, ⟨0, 0, false, [(0, v0)]⟩, ⟨0, 0, false, [(4, (.int .i64 x17))]⟩, ⟨0, 0, false, []⟩, ⟨0, 0, false, []⟩, ⟨0, 0, false, []⟩]) mixed hE hS ⟨rfl, rfl⟩ rfl rfl ⟨⟨rfl, trivial⟩, trivial, trivial, ⟨rfl, trivial⟩, ⟨rfl, trivial⟩, trivial, trivial, ⟨rfl, trivial⟩, ⟨rfl, trivial⟩, trivial, trivial, trivial, trivial⟩ (by kernel_rfl) ?_ ?_ ?_ ?_
 {
 intro i m_ m2_ ws v hm_ hp_
 match i, hp_ with
 | 0, hp_ => exact hp_
 | 1, hp_ => exact hp_
 | 2, hp_ => exact hp_
 | 3, hp_ => exact hp_
 | 4, hp_ => exact hp_
 | 5, hp_ => exact hp_
 | 6, hp_ => exact hp_
 | 7, hp_ => exact hp_
 | 8, hp_ => exact hp_
 | 9, hp_ => exact hp_
 | 10, hp_ => exact hp_
 | 11, hp_ => exact hp_
 | _ + 12, hp_ => exact trivial
 }
 {
 intro c m_ m2_ ws L_ T_ hm_ hq_
 match c, hq_ with
 | 0, ⟨e1_, e2_⟩ => exact ⟨e1_, e2_⟩
 | _ + 1, hq_ => exact hq_.elim
 }
 {
 refine ⟨?_, ?_, ?_, ?_, ?_, ?_, ?_, ?_, ?_, ?_, ?_, ?_, trivial⟩
 {
 refine cplain fun pre_ post_ L_ T_ m' a' w' hl' hp' hm' hq' hS' hE' hT' => ?_
 obtain rfl := len0 hl'
 refine Step.imp (Run1.pure (r_move hE' rfl)) ?_
 rintro _ _ ⟨rfl, rfl⟩
 exact ⟨_, M.le.refl _, hS', ⟨rfl, hr18⟩⟩
 }
 {
 refine cplain fun pre_ post_ L_ T_ m' a' w' hl' hp' hm' hq' hS' hE' hT' => ?_
 obtain rfl := len0 hl'
 obtain ⟨v254, e255, q256⟩ : ∃ v, a'.tmps.getD 12 undef = v ∧ (v = (.int .i64 x17) ∧ inR .i64 x17) := ⟨_, rfl, hT' 0 (by decide) 12 rfl⟩
 obtain ⟨q256, hr257⟩ := q256
 have hE := hE'.add (e255.trans q256)
 refine Step.imp (Run1.pure (r_bin hE rfl rfl b_gtr)) ?_
 rintro _ _ ⟨rfl, rfl⟩
 exact ⟨_, M.le.refl _, hS', rfl⟩
 }
 {
 refine cplain fun pre_ post_ L_ T_ m' a' w' hl' hp' hm' hq' hS' hE' hT' => ?_
 obtain rfl := len0 hl'
 obtain ⟨v259, e260, q261⟩ : ∃ v, a'.tmps.getD 13 undef = v ∧ (v = (.bool (decide (0 < x17)))) := ⟨_, rfl, hT' 1 (by decide) 13 rfl⟩
 have hE := hE'.add (e260.trans q261)
 refine Step.imp (Run1.pure (r_move hE rfl)) ?_
 rintro _ _ ⟨rfl, rfl⟩
 exact ⟨_, M.le.refl _, hS', rfl⟩
 }
 {
 exact cskip (b := false) rfl rfl (by decide) (fun _ _ _ h_ => Eq.trans h_ (cb hd158)) (by decide) (fun _ _ => rfl)
 }
 {
 exact cskip (b := false) rfl rfl (by decide) (fun _ _ _ h_ => Eq.trans h_ (cb hd158)) (by decide) (fun _ _ => rfl)
 }
 {
 exact cskip (b := false) rfl rfl (by decide) (fun _ _ _ h_ => Eq.trans h_ (cb hd158)) (by decide) (fun _ _ => rfl)
 }
 {
 exact cskip (b := false) rfl rfl (by decide) (fun _ _ _ h_ => Eq.trans h_ (cb hd158)) (by decide) (fun _ _ => rfl)
 }
 {
 exact cskip (b := false) rfl rfl (by decide) (fun _ _ _ h_ => Eq.trans h_ (cb hd158)) (by decide) (fun _ _ => rfl)
 }
 {
 exact cskip (b := false) rfl rfl (by decide) (fun _ _ _ h_ => Eq.trans h_ (cb hd158)) (by decide) (fun _ _ => rfl)
 }
 {
 exact cskip (b := false) rfl rfl (by decide) (fun _ _ _ h_ => Eq.trans h_ (cb hd158)) (by decide) (fun _ _ => rfl)
 }
 {
 exact cskip (b := false) rfl rfl (by decide) (fun _ _ _ h_ => Eq.trans h_ (cb hd158)) (by decide) (fun _ _ => rfl)
 }
 {
 exact cskip (b := false) rfl rfl (by decide) (fun _ _ _ h_ => Eq.trans h_ (cb hd158)) (by decide) (fun _ _ => rfl)
 }
 }
 {
 intro ws_ L_ T_ m263 a w hl264 hm265 hq266 hS hd267 hn268 ho269 hT270
 obtain rfl := len0 hl264
 obtain ⟨rfl, rfl⟩ := hq266
 have hE := EnvD.of (k := 12) (l' := [(0, v0), (3, v15), (4, (.int .i64 x17)), (6, (.int .i64 x17)), (7, v0), (8, (.int .i64 (p0.length : Int))), (9, (.bool (decide (x17 < (p0.length : Int)))))]) hd267 hn268 ho269 ⟨rfl, rfl, rfl, rfl, rfl, rfl, rfl, trivial⟩ rfl
 obtain ⟨v271, e272, q273⟩ : ∃ v, a.tmps.getD 14 undef = v ∧ (v = (.bool (decide (0 < x17)))) := ⟨_, rfl, hT270 2 (by decide) 14 rfl⟩
 have hE := hE.add (e272.trans q273)
 obtain ⟨v274, e275, q276⟩ : ∃ v, a.tmps.getD 15 undef = v ∧ (v = undef) := ⟨_, rfl, hT270 3 (by decide) 15 rfl⟩
 have hE := hE.add (e275.trans q276)
 obtain ⟨v277, e278, q279⟩ : ∃ v, a.tmps.getD 16 undef = v ∧ (v = undef) := ⟨_, rfl, hT270 4 (by decide) 16 rfl⟩
 have hE := hE.add (e278.trans q279)
 obtain ⟨v280, e281, q282⟩ : ∃ v, a.tmps.getD 17 undef = v ∧ (v = undef) := ⟨_, rfl, hT270 5 (by decide) 17 rfl⟩
 have hE := hE.add (e281.trans q282)
 obtain ⟨v283, e284, q285⟩ : ∃ v, a.tmps.getD 18 undef = v ∧ (v = undef) := ⟨_, rfl, hT270 6 (by decide) 18 rfl⟩
 have hE := hE.add (e284.trans q285)
 obtain ⟨v286, e287, q288⟩ : ∃ v, a.tmps.getD 19 undef = v ∧ (v = undef) := ⟨_, rfl, hT270 7 (by decide) 19 rfl⟩
 have hE := hE.add (e287.trans q288)
 obtain ⟨v289, e290, q291⟩ : ∃ v, a.tmps.getD 20 undef = v ∧ (v = undef) := ⟨_, rfl, hT270 8 (by decide) 20 rfl⟩
 have hE := hE.add (e290.trans q291)
 obtain ⟨v292, e293, q294⟩ : ∃ v, a.tmps.getD 21 undef = v ∧ (v = undef) := ⟨_, rfl, hT270 9 (by decide) 21 rfl⟩
 have hE := hE.add (e293.trans q294)
 obtain ⟨v295, e296, q297⟩ : ∃ v, a.tmps.getD 22 undef = v ∧ (v = undef) := ⟨_, rfl, hT270 10 (by decide) 22 rfl⟩
 have hE := hE.add (e296.trans q297)
 obtain ⟨v298, e299, q300⟩ : ∃ v, a.tmps.getD 23 undef = v ∧ (v = undef) := ⟨_, rfl, hT270 11 (by decide) 23 rfl⟩
 have hE := hE.add (e299.trans q300)
 refine sx hE rfl rfl rfl rfl hd158 rfl fun a hE => ?_
 refine sp hE (r_pickF hE rfl hd158 rfl) rfl fun a hE => ?_
 refine knil ?_
 exact ⟨false, h, _, hm265, hS, hE.cut ⟨rfl, rfl, rfl, rfl, trivial⟩⟩
 }
 }
 }
 {
 rintro a w ⟨x37, h, m35, hm36, hS, hE⟩
 unfold r6_Runs_j3 at h
 refine kif hE rfl (fun hd39 => ?_) (fun hd39 => ?_)
 {
 have h := ite_T hd39 h
 refine kseq (kreg ?_)
 refine qm hE rfl rfl fun a hE => ?_
 refine qm hE rfl rfl fun a hE => ?_
 refine sp hE (r_lenSl (k := kR6_Run) hE rfl rfl Tryz.underlying152 (hv16.mono hm36)) rfl fun a hE => ?_
 refine sp hE (r_bin hE rfl rfl (b_sub rfl)) rfl fun a hE => ?_
 obtain ⟨x44, hx45, h⟩ := ob h
 refine st hE (st_index (k := kR6_Run) hE rfl rfl Tryz.underlying152 Tryz.sizeOf155 (hv16.mono hm36) hx45) rfl ?_
 rintro v47 a _ ⟨rfl, hp46⟩ hE
 refine st hE (st_loadM hE hS ty155 rfl hp46) rfl ?_
 rintro v49 a _ ⟨rfl, hv48⟩ hE
 refine st hE (st_alloc hS Tryz.zeroValue155 rfl (cs := zc155)) rfl ?_
 rintro _ a w ⟨b50, rfl, hS⟩ hE
 refine st0 hE (st_storeF hE hS ty155 StF_self rfl rfl hv48 (i := 0) rfl (zr155 _)) ?_
 rintro _ w ⟨cs52, hc53, hS⟩ hE
 refine knil (kseq (kreg ?_))
 refine sp hE (r_fieldL hE fo155_0 rfl) rfl fun a hE => ?_
 refine st hE (st_loadL hE hS ty3 rfl (i := 0) rfl (fl155_0.R_drop (R_whole hc53))) rfl ?_
 rintro v57 a _ ⟨rfl, hv56⟩ hE
 obtain ⟨rfl, hr58⟩ := RV_int hv56
 refine sp hE (r_bin hE rfl rfl (b_add rfl)) rfl fun a hE => ?_
 refine sp hE (r_fieldL hE fo155_0 rfl) rfl fun a hE => ?_
 refine st0 hE (st_storeF hE hS ty3 sf155_0 rfl rfl (RV_of_int (inR_wrap _ _)) (i := 0) rfl hc53) ?_
 rintro _ w ⟨cs61, hc62, hS⟩ hE
 refine knil (kseq ?_)
 obtain ⟨x68, hx69, h⟩ := ob h
 obtain ⟨z71, hz72, h⟩ := ob h
 refine kchain (k := 9) (m := m35) (es := [0, 6]) (Φ := (fun i m ws v => match i with | 0 => v = (wi ws 0).v ∧ RV (kSl kR6_Run) m v ([]) | 1 => v = v15 | 2 => v = v15 | 3 => v = (.int .i64 (x14.length : Int)) ∧ inR .i64 (x14.length : Int) | 4 => v = (.int .i64 (IntKind.i64.wrap ((x14.length : Int) - 1))) ∧ inR .i64 (IntKind.i64.wrap ((x14.length : Int) - 1)) | 5 => RV (kSl kR6_Run) m v x68 | 6 => v = (wi ws 1).v ∧ RV (kSl kR6_Run) m v z71 | 7 => RV kR6_Run m v ({ x44 with fMany := IntKind.i64.wrap (x44.fMany + 1) }) | 8 => RV (kSl kR6_Run) m v ([{ x44 with fMany := IntKind.i64.wrap (x44.fMany + 1) }]) | _ => True)) (Q := (fun c m ws L' TL' => match c with | 0 => (b50, cs61) :: L = L' ∧ (5, v15) :: TL = TL' | 1 => (b50, cs61) :: L = L' ∧ (5, (wi ws 0).v) :: (5, v15) :: TL = TL' | 2 => (b50, cs61) :: L = L' ∧ (5, (wi ws 1).v) :: (5, v15) :: TL = TL' | _ => False)) (cs := [⟨0, 0, true, []⟩, ⟨0, 1, false, [(3, v15)]⟩, ⟨0, 1, false, [(3, v15)]⟩, ⟨0, 1, false, []⟩, ⟨0, 1, false, []⟩, ⟨0, 1, false, []⟩, ⟨1, 1, true, []⟩, ⟨0, 2, false, [(5, (.pointer (some ⟨b50, 0, none⟩)))]⟩, ⟨0, 2, false, []⟩]) mixed hE hS ⟨rfl, rfl⟩ rfl rfl ⟨trivial, ⟨rfl, trivial⟩, ⟨rfl, trivial⟩, trivial, trivial, trivial, trivial, ⟨rfl, trivial⟩, trivial, trivial⟩ (by kernel_rfl) ?_ ?_ ?_ ?_
 {
 intro i m_ m2_ ws v hm_ hp_
 match i, hp_ with
 | 0, hp_ => exact ⟨hp_.1, RV.mono hp_.2 hm_⟩
 | 1, hp_ => exact hp_
 | 2, hp_ => exact hp_
 | 3, hp_ => exact hp_
 | 4, hp_ => exact hp_
 | 5, hp_ => exact RV.mono hp_ hm_
 | 6, hp_ => exact ⟨hp_.1, RV.mono hp_.2 hm_⟩
 | 7, hp_ => exact RV.mono hp_ hm_
 | 8, hp_ => exact RV.mono hp_ hm_
 | _ + 9, hp_ => exact trivial
 }
 {
 intro c m_ m2_ ws L_ T_ hm_ hq_
 match c, hq_ with
 | 0, ⟨e1_, e2_⟩ => exact ⟨e1_, e2_⟩
 | 1, ⟨e1_, e2_⟩ => exact ⟨e1_, e2_⟩
 | 2, ⟨e1_, e2_⟩ => exact ⟨e1_, e2_⟩
 | _ + 3, hq_ => exact hq_.elim
 }
 {
 refine ⟨?_, ?_, ?_, ?_, ?_, ?_, ?_, ?_, ?_, trivial⟩
 {
 refine cturn fun pre_ L_ T_ m' a' w' hl' hm' hq' hS' hE' hT' => ?_
 obtain rfl := len0 hl'
 obtain ⟨rfl, rfl⟩ := hq'
 refine Step.imp (st_lit (k := kR6_Run) (xs := []) (vs := []) hE' hS' rfl Tryz.underlying152 Tryz.sizeOf155 Tryz.zeroValue155 trivial rfl (by decide)) ?_
 rintro vv67 w ⟨m65, hm66, hS, hv64⟩
 exact ⟨_, ⟨0, vv67, [], [], []⟩, _, _, hm66, hS, ⟨rfl, rfl⟩, ⟨rfl, hv64⟩⟩
 }
 {
 refine cplain fun pre_ post_ L_ T_ m' a' w' hl' hp' hm' hq' hS' hE' hT' => ?_
 obtain rfl := len0 hl'
 refine Step.imp (Run1.pure (r_move hE' rfl)) ?_
 rintro _ _ ⟨rfl, rfl⟩
 exact ⟨_, M.le.refl _, hS', rfl⟩
 }
 {
 refine cplain fun pre_ post_ L_ T_ m' a' w' hl' hp' hm' hq' hS' hE' hT' => ?_
 obtain rfl := len0 hl'
 refine Step.imp (Run1.pure (r_move hE' rfl)) ?_
 rintro _ _ ⟨rfl, rfl⟩
 exact ⟨_, M.le.refl _, hS', rfl⟩
 }
 {
 refine cplain fun pre_ post_ L_ T_ m' a' w' hl' hp' hm' hq' hS' hE' hT' => ?_
 obtain rfl := len0 hl'
 obtain ⟨v83, e84, q85⟩ : ∃ v, a'.tmps.getD 38 undef = v ∧ (v = v15) := ⟨_, rfl, hT' 2 (by decide) 38 rfl⟩
 have hE := hE'.add (e84.trans q85)
 refine Step.imp (Run1.pure (r_lenSl (k := kR6_Run) hE rfl rfl Tryz.underlying152 (hv16.mono (M.le.trans hm36 hm')))) ?_
 rintro _ _ ⟨rfl, rfl⟩
 exact ⟨_, M.le.refl _, hS', ⟨rfl, (inR_len (RV_len (hv16.mono (M.le.trans hm36 hm'))))⟩⟩
 }
 {
 refine cplain fun pre_ post_ L_ T_ m' a' w' hl' hp' hm' hq' hS' hE' hT' => ?_
 obtain rfl := len0 hl'
 obtain ⟨v87, e88, q89⟩ : ∃ v, a'.tmps.getD 39 undef = v ∧ (v = (.int .i64 (x14.length : Int)) ∧ inR .i64 (x14.length : Int)) := ⟨_, rfl, hT' 3 (by decide) 39 rfl⟩
 obtain ⟨q89, hr90⟩ := q89
 have hE := hE'.add (e88.trans q89)
 refine Step.imp (Run1.pure (r_bin hE rfl rfl (b_sub rfl))) ?_
 rintro _ _ ⟨rfl, rfl⟩
 exact ⟨_, M.le.refl _, hS', ⟨rfl, (inR_wrap _ _)⟩⟩
 }
 {
 refine cplain fun pre_ post_ L_ T_ m' a' w' hl' hp' hm' hq' hS' hE' hT' => ?_
 obtain rfl := len0 hl'
 obtain ⟨v92, e93, q94⟩ : ∃ v, a'.tmps.getD 37 undef = v ∧ (v = v15) := ⟨_, rfl, hT' 1 (by decide) 37 rfl⟩
 have hE := hE'.add (e93.trans q94)
 obtain ⟨v95, e96, q97⟩ : ∃ v, a'.tmps.getD 40 undef = v ∧ (v = (.int .i64 (IntKind.i64.wrap ((x14.length : Int) - 1))) ∧ inR .i64 (IntKind.i64.wrap ((x14.length : Int) - 1))) := ⟨_, rfl, hT' 4 (by decide) 40 rfl⟩
 obtain ⟨q97, hr98⟩ := q97
 have hE := hE.add (e96.trans q97)
 refine Step.imp (st_slice (k := kR6_Run) hE rfl Tryz.underlying152 Tryz.sizeOf155 (hv16.mono (M.le.trans hm36 hm')) rfl ⟨_, rfl⟩ hx69 (xl := none) (xh := (some (.tmp 40)))) ?_
 rintro v99 _ ⟨rfl, hv70⟩
 exact ⟨_, M.le.refl _, hS', hv70⟩
 }
 {
 refine cturn fun pre_ L_ T_ m' a' w' hl' hm' hq' hS' hE' hT' => ?_
 obtain ⟨⟨_, vv67, _, _, _⟩, rfl⟩ := len1 hl'
 obtain ⟨rfl, rfl⟩ := hq'
 obtain ⟨v100, e101, q102⟩ : ∃ v, a'.tmps.getD 36 undef = v ∧ (v = vv67 ∧ RV (kSl kR6_Run) m' v ([])) := ⟨_, rfl, hT' 0 (by decide) 36 rfl⟩
 obtain ⟨q103, q102⟩ := q102
 rw [q103] at q102
 have hE := hE'.add (e101.trans q103)
 obtain ⟨v104, e105, q106⟩ : ∃ v, a'.tmps.getD 41 undef = v ∧ (RV (kSl kR6_Run) m' v x68) := ⟨_, rfl, hT' 5 (by decide) 41 rfl⟩
 have hE := hE.add (e105)
 refine Step.imp (st_app (k := kR6_Run) (N := 2932031007402) hE hS' rfl rfl Tryz.underlying152 Tryz.underlying152 el155 (i := 0) rfl q102 q106 hz72 rfl rfl) ?_
 rintro vv76 w ⟨m74, hm75, hS, hv73⟩
 exact ⟨_, ⟨0, vv76, [], [], []⟩, _, _, hm75, hS, ⟨rfl, rfl⟩, ⟨rfl, hv73⟩⟩
 }
 {
 refine cplain fun pre_ post_ L_ T_ m' a' w' hl' hp' hm' hq' hS' hE' hT' => ?_
 obtain rfl := len0 hl'
 rcases lenle (a := 0) (n := 1) hp' with h0_ | h0_
 {
 obtain rfl := len0 h0_
 obtain ⟨rfl, rfl⟩ := hq'
 refine Step.imp (st_loadL hE' hS' ty155 rfl (i := 0) rfl (R_whole (kR6_Run.mono hm' hc62))) ?_
 rintro v107 _ ⟨rfl, hv77⟩
 exact ⟨_, M.le.refl _, hS', hv77⟩
 }
 {
 obtain ⟨⟨_, vv67, _, _, _⟩, post_', rfl, hp1_⟩ := h0_
 rcases lenle (a := 0) (n := 0) hp1_ with h0_ | h0_
 {
 obtain rfl := len0 h0_
 obtain ⟨rfl, rfl⟩ := hq'
 refine Step.imp (st_loadL hE' hS' ty155 rfl (i := 0) rfl (R_whole (kR6_Run.mono hm' hc62))) ?_
 rintro v108 _ ⟨rfl, hv77⟩
 exact ⟨_, M.le.refl _, hS', hv77⟩
 }
 {
 obtain ⟨⟨_, vv76, _, _, _⟩, post_'', rfl, hp2_⟩ := h0_
 obtain rfl := len0 (lenz (a := 0) hp2_)
 obtain ⟨rfl, rfl⟩ := hq'
 refine Step.imp (st_loadL hE' hS' ty155 rfl (i := 0) rfl (R_whole (kR6_Run.mono hm' hc62))) ?_
 rintro v109 _ ⟨rfl, hv77⟩
 exact ⟨_, M.le.refl _, hS', hv77⟩
 }
 }
 }
 {
 refine cplain fun pre_ post_ L_ T_ m' a' w' hl' hp' hm' hq' hS' hE' hT' => ?_
 obtain rfl := len0 hl'
 obtain ⟨v110, e111, q112⟩ : ∃ v, a'.tmps.getD 43 undef = v ∧ (RV kR6_Run m' v ({ x44 with fMany := IntKind.i64.wrap (x44.fMany + 1) })) := ⟨_, rfl, hT' 7 (by decide) 43 rfl⟩
 have hE := hE'.add (e111)
 refine Step.imp (st_lit (k := kR6_Run) (xs := [{ x44 with fMany := IntKind.i64.wrap (x44.fMany + 1) }]) (vs := [v110]) hE hS' rfl Tryz.underlying152 Tryz.sizeOf155 Tryz.zeroValue155 ⟨q112, trivial⟩ rfl (by decide)) ?_
 rintro v113 w ⟨m79, hm80, hS, hv78⟩
 exact ⟨_, hm80, (hS.dropT 1), hv78⟩
 }
 }
 {
 intro ws_ L_ T_ m114 a w hl115 hm116 hq117 hS hd118 hn119 ho120 hT121
 obtain ⟨⟨_, vv67, _, _, _⟩, ⟨_, vv76, _, _, _⟩, rfl⟩ := len2 hl115
 obtain ⟨rfl, rfl⟩ := hq117
 have hE := EnvD.of (k := 9) (l' := [(0, v0), (3, v15), (4, (.int .i64 x17)), (5, (.pointer (some ⟨b50, 0, none⟩))), (25, (.bool x37)), (26, v15), (27, v15), (28, (.int .i64 (x14.length : Int))), (29, (.int .i64 (IntKind.i64.wrap ((x14.length : Int) - 1)))), (30, v47), (31, v49), (32, (.pointer (some ⟨b50, 0, none⟩))), (33, (.int .i64 x44.fMany)), (34, (.int .i64 (IntKind.i64.wrap (x44.fMany + 1)))), (35, (.pointer (some ⟨b50, 0, none⟩)))]) hd118 hn119 ho120 ⟨rfl, rfl, rfl, rfl, rfl, rfl, rfl, rfl, rfl, rfl, rfl, rfl, rfl, rfl, rfl, trivial⟩ rfl
 obtain ⟨v122, e123, q124⟩ : ∃ v, a.tmps.getD 42 undef = v ∧ (v = vv76 ∧ RV (kSl kR6_Run) m114 v z71) := ⟨_, rfl, hT121 6 (by decide) 42 rfl⟩
 obtain ⟨q125, q124⟩ := q124
 rw [q125] at q124
 have hE := hE.add (e123.trans q125)
 obtain ⟨v126, e127, q128⟩ : ∃ v, a.tmps.getD 44 undef = v ∧ (RV (kSl kR6_Run) m114 v ([{ x44 with fMany := IntKind.i64.wrap (x44.fMany + 1) }])) := ⟨_, rfl, hT121 8 (by decide) 44 rfl⟩
 have hE := hE.add (e127)
 obtain ⟨z129, hz130, h⟩ := ob h
 refine st hE (st_app (k := kR6_Run) (N := 2932031007402) hE hS rfl rfl Tryz.underlying152 Tryz.underlying152 el155 (i := 0) rfl q124 q128 hz130 rfl rfl) rfl ?_
 rintro v134 a w ⟨m132, hm133, hS, hv131⟩ hE
 refine qa hE rfl rfl fun a hE => ?_
 refine knil ?_
 refine kexit rfl rfl ?_
 exact ⟨z129, h, _, (M.le.trans hm36 (M.le.trans hm116 hm133)), v134, hv131, ((hS.pickL 1 [] rfl rfl rfl).pickT 2 [0] rfl rfl rfl), hE.cut ⟨rfl, rfl, rfl, trivial⟩⟩
 }
 }
 {
 have h := ite_F hd39 h
 refine kskip (kreg ?_)
 refine qm hE rfl rfl fun a hE => ?_
 refine qm hE rfl rfl fun a hE => ?_
 refine qm hE rfl rfl fun a hE => ?_
 obtain ⟨x139, hx140, h⟩ := ob h
 refine st hE (st_index (k := kAp) hE rfl rfl Tryz.underlying22 Tryz.sizeOf32 (ha0.mono (M.le.trans hm13 hm36)) hx140) rfl ?_
 rintro v142 a _ ⟨rfl, hp141⟩ hE
 refine st hE (st_loadM hE hS ty32 rfl hp141) rfl ?_
 rintro v144 a _ ⟨rfl, hv143⟩ hE
 refine st hE (st_build (m := m35) (k := kR6_Run) (x0 := R6_Run.zero) (xx := (⟨1, x139⟩ : R6_Run)) (pl := [(0, 1), (1, 4)]) (pv := [(0, (.int .i64 1)), (1, v144)]) hE rfl Tryz.underlying155 rfl Tryz.zeroValue155 zr155 rfl (.cons rfl sf155_0 (RV_of_int (show inR .i64 1 from inR_lit (by decide))) (.cons rfl sf155_1 hv143 .nil))) rfl ?_
 rintro v146 a _ ⟨rfl, hv145⟩ hE
 refine st hE (st_lit (k := kR6_Run) (xs := [(⟨1, x139⟩ : R6_Run)]) (vs := [v146]) hE hS rfl Tryz.underlying152 Tryz.sizeOf155 Tryz.zeroValue155 ⟨hv145, trivial⟩ rfl (by decide)) rfl ?_
 rintro v150 a w ⟨m148, hm149, hS, hv147⟩ hE
 obtain ⟨z151, hz152, h⟩ := ob h
 refine st hE (st_app (k := kR6_Run) (N := 2932031007402) hE hS rfl rfl Tryz.underlying152 Tryz.underlying152 el155 (i := 1) rfl (hv16.mono (M.le.trans hm36 hm149)) hv147 hz152 rfl rfl) rfl ?_
 rintro v156 a w ⟨m154, hm155, hS, hv153⟩ hE
 refine qa hE rfl rfl fun a hE => ?_
 refine knil ?_
 exact ⟨z151, h, _, (M.le.trans hm36 (M.le.trans hm149 hm155)), v156, hv153, (hS.pickT 2 [1] rfl rfl rfl), hE.cut ⟨rfl, rfl, rfl, trivial⟩⟩
 }
 }
 }
 {
 rintro a w ⟨x28, h, m26, hm27, v29, hv30, hS, hE⟩
 unfold r6_Runs_j2 at h
 refine kreg ?_
 refine qm hE rfl rfl fun a hE => ?_
 refine sp hE (r_bin hE rfl rfl (b_add rfl)) rfl fun a hE => ?_
 refine qa hE rfl rfl fun a hE => ?_
 refine knil ?_
 exact ⟨(x28, IntKind.i64.wrap (x17 + 1)), (Option.some.inj h).symm, _, (M.le.trans hm13 hm27), v29, hv30, (inR_wrap _ _), hS, hE.cut ⟨rfl, rfl, rfl, trivial⟩⟩
 }
 }
 {
 have h := ite_F hd25 h
 refine kexit rfl rfl ?_
 have h := unwrap h hb20
 exact ⟨x14, h, _, hm13, v15, hv16, hS, hE.cut ⟨rfl, trivial⟩⟩
 }
 }
 }
 {
 rintro a w ⟨x6, h, m4, hm5, v7, hv8, hS, hE⟩
 unfold r6_Runs_j1 at h
 refine kseq (kreg ?_)
 refine qm hE rfl rfl fun a hE => ?_
 refine qa hE rfl rfl fun a hE => ?_
 refine knil (kret ?_)
 obtain rfl := oi h
 try dsimp only
 refine Fin.mk hE (rs := [.tmp 2]) rfl (ResL.tmp hE rfl ResL.nil) ?_
 exact ⟨_, hm5, (hS.pickT 1 [0] rfl rfl rfl), hv8⟩
 }
theorem ct_114 : Ctr Sz Tryz.prog 114 [.rd (.sl (.st 32))] [.ap (.st 155)] (fun x => r6_Runs x.1) := by
 intro W0 m w L TL vs x r Lp Tp hS hP h
 obtain ⟨v0, vs, rfl, a0, hP0⟩ := PR_rd hP
 obtain ⟨rfl, rfl, rfl⟩ := PR_nil hP0
 refine (c_r6_Runs (hS := hS) a0 h).mono ?_
 intro e w' he
 cases e with
 | returned v =>
  obtain ⟨m', hm, hS', r0⟩ := he
  exact ⟨m', [v], [], [], [(5, v)], hm, hS', rfl, ⟨r0, rfl, trivial⟩, trivial⟩
 | panicked ch => exact he.elim
 | outgrown => exact he.elim
noncomputable def cs_114 : CS Tryz.prog Sz := ⟨114, _, _, _, ct_114, Tryz.call114⟩
theorem ct_118 : Ctr Sz Tryz.prog 118 [.rd (.int .u64)] [.ap (.int .u8)] (fun x => r3_Number x.1) :=
 Ctr.nc (Γ := Γ) (D := []) (c := Tryz.f118.body.getD .skip) (res := [2]) (.s .o (.s .o (.s (.s .o (.b (.l ⟨[.v 3 1 (.dat (.sl (.int .u8)) (some 0)), .v 4 1 (.dat (.int .i64) none)], [0], 0, [1]⟩ .o))) .o))) rfl mixed Tryz.func118 rfl Tryz.ntmps118 rfl rfl (fun x => by kernel_rfl)
noncomputable def cs_118 : CS Tryz.prog Sz := ⟨118, _, _, _, ct_118, Tryz.call118⟩
theorem ct_54 : Ctr Sz Tryz.prog 54 [.rd (.st 32)] [.ap (.int .u8)] (fun x => r3_One x.1) :=
 Ctr.nc (Γ := Γ) (D := [cs_118]) (c := Tryz.f54.body.getD .skip) (res := [2]) .o rfl mixed Tryz.func54 rfl Tryz.ntmps54 rfl rfl (fun x => by kernel_rfl)
noncomputable def cs_54 : CS Tryz.prog Sz := ⟨54, _, _, _, ct_54, Tryz.call54⟩
theorem ct_115 : Ctr Sz Tryz.prog 115 [.rd (.sl (.st 32))] [.ap (.int .u8)] (fun x => r6_delta x.1) :=
 Ctr.nc (Γ := Γ) (D := [cs_118]) (c := Tryz.f115.body.getD .skip) (res := [2]) (.s .o (.s .o (.s (.s .o (.b (.l ⟨[.v 3 1 (.dat (.sl (.int .u8)) (some 0)), .v 4 1 (.dat (.int .i64) none)], [0], 0, [1]⟩ (.s .o (.s (.b (.s .o (.s .o (.s .o (.s (.b (.l ⟨[.v 3 2 (.dat (.sl (.int .u8)) (some 0)), .v 6 2 (.dat (.int .u64) none)], [0, 4], 0, [1]⟩ .o)) .o))))) .o))))) .o))) rfl mixed Tryz.func115 rfl Tryz.ntmps115 rfl rfl (fun x => by kernel_rfl)
noncomputable def cs_115 : CS Tryz.prog Sz := ⟨115, _, _, _, ct_115, Tryz.call115⟩
theorem ct_141 : Ctr Sz Tryz.prog 141 [.rd (.st 32), .rd (.st 32)] [.rd .bool] (fun x => r2_less x.1 x.2.1) :=
 Ctr.nc (Γ := Γ) (D := []) (c := Tryz.f141.body.getD .skip) (res := [4]) .o rfl mixed Tryz.func141 rfl Tryz.ntmps141 rfl rfl (fun x => by kernel_rfl)
noncomputable def cs_141 : CS Tryz.prog Sz := ⟨141, _, _, _, ct_141, Tryz.call141⟩
theorem ct_95 : Ctr Sz Tryz.prog 95 [.rd (.st 32), .rd (.st 32)] [.rd (.int .i64)] (fun x => r2_Compare x.1 x.2.1) :=
 Ctr.nc (Γ := Γ) (D := [cs_141]) (c := Tryz.f95.body.getD .skip) (res := [4]) .o rfl mixed Tryz.func95 rfl Tryz.ntmps95 rfl rfl (fun x => by kernel_rfl)
noncomputable def cs_95 : CS Tryz.prog Sz := ⟨95, _, _, _, ct_95, Tryz.call95⟩
theorem ct_160 : Ctr Sz Tryz.prog 160 [.rd (.sl (.st 32))] [.rd (.sl (.st 32))] (fun x => r6_words x.1) :=
 Ctr.nc (Γ := Γ) (D := [cs_95]) (c := Tryz.f160.body.getD .skip) (res := [2]) (.s .o (.s .o (.s (.s .o (.b (.l ⟨[.v 3 1 (.dat (.sl (.st 32)) none), .v 4 1 (.dat (.int .i64) none)], [0], 0, []⟩ (.s .o (.s (.b (.s .o (.s .o (.s (.s .o (.b (.l ⟨[.v 5 2 (.dat (.sl (.st 32)) (some 0)), .v 6 2 (.dat .bool none), .v 7 2 (.dat (.int .i64) none)], [0, 3, 4], 0, [4]⟩ .o))) .o)))) .o))))) .o))) rfl mixed Tryz.func160 rfl Tryz.ntmps160 rfl rfl (fun x => by kernel_rfl)
noncomputable def cs_160 : CS Tryz.prog Sz := ⟨160, _, _, _, ct_160, Tryz.call160⟩
theorem ct_162 : Ctr Sz Tryz.prog 162 [.rd (.int .u64)] [.rd (.int .i64)] (fun x => r6_width x.1) :=
 Ctr.nc (Γ := Γ) (D := []) (c := Tryz.f162.body.getD .skip) (res := [2]) (.s .o (.s .o (.s (.b (.l ⟨[.v 0 1 (.dat (.int .u64) none), .v 3 1 (.dat (.int .i64) none)], [], 0, []⟩ .o)) .o))) rfl mixed Tryz.func162 rfl Tryz.ntmps162 rfl rfl (fun x => by kernel_rfl)
noncomputable def cs_162 : CS Tryz.prog Sz := ⟨162, _, _, _, ct_162, Tryz.call162⟩
theorem ct_161 : Ctr Sz Tryz.prog 161 [.rd (.sl (.int .u64)), .rd (.int .i64)] [.ap (.int .u8)] (fun x => r6_Packed x.1 x.2.1) :=
 Ctr.nc (Γ := Γ) (D := []) (c := Tryz.f161.body.getD .skip) (res := [4]) (.s .o (.s .o (.s (.s .o (.b (.l ⟨[.v 5 1 (.dat (.sl (.int .u8)) (some 0)), .v 6 1 (.dat (.int .i64) none)], [0, 1], 0, [1]⟩ (.s .o (.s (.b (.s .o (.s .o (.b (.l ⟨[.v 5 2 (.dat (.sl (.int .u8)) (some 0)), .v 7 2 (.dat (.int .u64) none), .v 8 2 (.dat (.int .i64) none)], [0, 1, 6], 0, [1]⟩ .o))))) .o))))) (.s .o (.s (.s .o (.b (.l ⟨[.v 9 1 (.dat (.sl (.int .u8)) (some 1)), .v 10 1 (.dat (.int .i64) none)], [5], 0, [1, 1]⟩ (.s .o (.s (.b (.s .o (.s (.s .o (.b (.l ⟨[.v 11 2 (.dat (.int .u8) none), .v 12 2 (.dat (.int .i64) none)], [5, 9, 10], 0, [1, 1]⟩ .o))) .o))) .o))))) .o))))) rfl mixed Tryz.func161 rfl Tryz.ntmps161 rfl rfl (fun x => by kernel_rfl)
noncomputable def cs_161 : CS Tryz.prog Sz := ⟨161, _, _, _, ct_161, Tryz.call161⟩
theorem ct_116 : Ctr Sz Tryz.prog 116 [.rd (.sl (.st 32))] [.ap (.int .u8)] (fun x => r6_dict x.1) :=
 Ctr.nc (Γ := Γ) (D := [cs_54, cs_160, cs_161, cs_162]) (c := Tryz.f116.body.getD .skip) (res := [2]) (.s .o (.s .o (.s .o (.s (.s .o (.b (.l ⟨[.v 4 1 (.dat (.sl (.int .u8)) (some 0)), .v 5 1 (.dat (.int .i64) none)], [0, 3], 0, [1]⟩ .o))) (.s .o (.s (.s .o (.b (.l ⟨[.v 6 1 (.dat (.sl (.int .u64)) (some 1)), .v 7 1 (.dat (.int .i64) none)], [0, 3, 4], 0, [1, 1]⟩ (.s .o (.s (.b (.s .o (.b (.l ⟨[.v 6 2 (.dat (.sl (.int .u64)) (some 1)), .v 8 2 (.dat (.int .i64) none)], [0, 3, 4, 7], 0, [1, 1]⟩ .o)))) .o))))) .o)))))) rfl mixed Tryz.func116 rfl Tryz.ntmps116 rfl rfl (fun x => by kernel_rfl)
noncomputable def cs_116 : CS Tryz.prog Sz := ⟨116, _, _, _, ct_116, Tryz.call116⟩
theorem ct_117 : Ctr Sz Tryz.prog 117 [.rd (.sl (.st 32))] [.ap (.int .u8)] (fun x => r6_small x.1) :=
 Ctr.nc (Γ := Γ) (D := [cs_118, cs_161, cs_162]) (c := Tryz.f117.body.getD .skip) (res := [2]) (.s .o (.s .o (.s (.s .o (.b (.l ⟨[.v 3 1 (.dat (.int .i64) none), .v 4 1 (.dat (.int .i64) none)], [0], 0, []⟩ .o))) (.s .o (.s .o (.s (.s .o (.b (.l ⟨[.v 5 1 (.dat (.sl (.int .u64)) (some 0)), .v 6 1 (.dat (.int .i64) none), .v 7 1 (.dat (.int .i64) none)], [0, 3], 0, [1]⟩ .o))) .o)))))) rfl mixed Tryz.func117 rfl Tryz.ntmps117 rfl rfl (fun x => by kernel_rfl)
noncomputable def cs_117 : CS Tryz.prog Sz := ⟨117, _, _, _, ct_117, Tryz.call117⟩
theorem ct_52 : Ctr Sz Tryz.prog 52 [.rd (.int .i64), .rd (.sl (.st 32))] [.rd (.sl (.int .u8)), .rd (.int .i64)] (fun x => r6_Encode x.1 x.2.1) :=
 Ctr.nc (Γ := Γ) (D := [cs_54, cs_113, cs_114, cs_115, cs_116, cs_117]) (c := Tryz.f52.body.getD .skip) (res := [4, 5]) (.s .o (.s .o (.s .o (.s .o (.s (.s .o (.b (.s .o (.i (.s .o (.s .o (.b (.l ⟨[.v 7 1 (.dat (.sl (.int .u8)) (some 1)), .v 9 1 (.dat (.int .i64) none)], [8], 0, [1, 5]⟩ .o)))) (.s .o (.i .o (.s .o (.i .o (.s .o (.i .o (.s .o (.b (.l ⟨[.v 7 1 (.dat (.sl (.int .u8)) (some 0)), .v 10 1 (.dat (.int .i64) none)], [1], 0, [1]⟩ .o))))))))))))) .o))))) rfl mixed Tryz.func52 rfl Tryz.ntmps52 rfl rfl (fun x => by kernel_rfl)
noncomputable def cs_52 : CS Tryz.prog Sz := ⟨52, _, _, _, ct_52, Tryz.call52⟩
theorem ct_53 : Ctr Sz Tryz.prog 53 [.rd (.int .i64), .rd (.sl (.st 32))] [.rd (.st 37)] (fun x => r7_facts x.1 x.2.1) :=
 Ctr.nX (Γ := Γ) (D := [cs_95]) (c := Tryz.f53.body.getD .skip) (res := [.cell 4 37]) (.s .o (.s .o (.s (.s .o (.b (.l ⟨[.v 6 1 (.dat (.int .i64) none), .b 1 1 (.st 37)], [1, 4, 5], 2, []⟩ .o))) .o))) rfl mixed Tryz.func53 rfl Tryz.ntmps53 rfl rfl (fun x => by kernel_rfl)
noncomputable def cs_53 : CS Tryz.prog Sz := ⟨53, _, _, _, ct_53, Tryz.call53⟩
theorem ct_56 : Ctr Sz Tryz.prog 56 [.rd (.sl (.int .u8))] [.rd (.int .u32)] (fun x => r1_Sum x.1) :=
 Ctr.nc (Γ := Γ) (D := []) (c := Tryz.f56.body.getD .skip) (res := [2]) (.s .o (.s .o (.s (.s .o (.b (.l ⟨[.v 3 1 (.dat (.int .u32) none), .v 4 1 (.dat (.int .i64) none)], [0], 0, []⟩ (.s .o (.s (.b (.s .o (.s .o (.b (.l ⟨[.v 3 2 (.dat (.int .u32) none), .v 5 2 (.dat (.int .i64) none)], [0, 4], 0, []⟩ .o))))) .o))))) .o))) rfl mixed Tryz.func56 rfl Tryz.ntmps56 rfl rfl (fun x => by kernel_rfl)
noncomputable def cs_56 : CS Tryz.prog Sz := ⟨56, _, _, _, ct_56, Tryz.call56⟩
theorem ct_195 : Ctr Sz Tryz.prog 195 [.rd (.sl (.int .u8))] [.rd (.int .u64)] (fun x => rows_number x.1) :=
 Ctr.nc (Γ := Γ) (D := []) (c := Tryz.f195.body.getD .skip) (res := [2]) (.s .o (.s .o (.s (.s .o (.b (.l ⟨[.v 3 1 (.dat (.int .u64) none), .v 5 1 (.dat (.int .i64) none)], [0], 0, []⟩ .o))) .o))) rfl mixed Tryz.func195 rfl Tryz.ntmps195 rfl rfl (fun x => by kernel_rfl)
noncomputable def cs_195 : CS Tryz.prog Sz := ⟨195, _, _, _, ct_195, Tryz.call195⟩
theorem ct_183 : Ctr Sz Tryz.prog 183 [.rd (.sl (.int .u8))] [.rd (.st 32), .rd (.sl (.int .u8)), .rd .bool] (fun x => rows_read x.1) :=
 Ctr.nX (Γ := Γ) (D := [cs_128, cs_136, cs_144, cs_145, cs_195]) (c := Tryz.f183.body.getD .skip) (res := [.cell 2 32, .tmp 3, .tmp 4]) .o rfl mixed Tryz.func183 rfl Tryz.ntmps183 rfl rfl (fun x => by kernel_rfl)
noncomputable def cs_183 : CS Tryz.prog Sz := ⟨183, _, _, _, ct_183, Tryz.call183⟩
theorem ct_163 : Ctr Sz Tryz.prog 163 [.rd (.sl (.int .u8))] [.rd (.sl (.st 32)), .rd (.int .i64)] (fun x => rows_Decode x.1) :=
 Ctr.nc (Γ := Γ) (D := [cs_183]) (c := Tryz.f163.body.getD .skip) (res := [2, 3]) (.s .o (.s .o (.s .o (.s .o (.s (.s .o (.b (.l ⟨[.v 0 1 (.dat (.sl (.int .u8)) none), .v 4 1 (.dat (.sl (.st 32)) (some 0)), .v 25 1 (.dat (.int .i64) none)], [24], 0, [4]⟩ .o))) .o))))) rfl mixed Tryz.func163 rfl Tryz.ntmps163 rfl rfl (fun x => by kernel_rfl)
noncomputable def cs_163 : CS Tryz.prog Sz := ⟨163, _, _, _, ct_163, Tryz.call163⟩
theorem ct_119 : Ctr Sz Tryz.prog 119 [.rd (.sl (.int .u8))] [.rd (.st 32), .rd (.sl (.int .u8)), .rd .bool] (fun x => block_front x.1) :=
 Ctr.nX (Γ := Γ) (D := [cs_163]) (c := Tryz.f119.body.getD .skip) (res := [.cell 2 32, .tmp 3, .tmp 4]) (.s .o (.s (.s .o (.b (.l ⟨[.v 5 1 (.dat (.int .i64) none)], [0, 2], 1, []⟩ .o))) .o)) rfl mixed Tryz.func119 rfl Tryz.ntmps119 rfl rfl (fun x => by kernel_rfl)
noncomputable def cs_119 : CS Tryz.prog Sz := ⟨119, _, _, _, ct_119, Tryz.call119⟩
theorem ct_57 : Ctr Sz Tryz.prog 57 [.rd (.sl (.int .u8))] [.rd (.st 34), .rd (.sl (.int .u8)), .rd .bool] (fun x => block_read x.1) :=
 Ctr.nX (Γ := Γ) (D := [cs_119]) (c := Tryz.f57.body.getD .skip) (res := [.cell 2 34, .tmp 3, .tmp 4]) .o rfl mixed Tryz.func57 rfl Tryz.ntmps57 rfl rfl (fun x => by kernel_rfl)
noncomputable def cs_57 : CS Tryz.prog Sz := ⟨57, _, _, _, ct_57, Tryz.call57⟩
theorem c_block_read {W0 : Bse} {m : M} {w : World} {L : List (Nat × List Value)} {TL : List (Nat × Value)} (hS : S W0 m w (L) (TL)) {v0 : Value} {p0 : (List Int)} (ha0 : RV (kSl (kInt .u8)) m v0 p0) {r : (Block_Info × (List Int) × Bool)} (h : block_read p0 = some r) :
    Calls Tryz.prog 57 [v0].toArray w (Ret fun v w' => ∃ m', M.le m m' ∧ S W0 m' w' (L) (TL) ∧ ∃ v0_ v1_ v2_ : Value, v = .tuple #[v0_, v1_, v2_] ∧ RV kBlock_Info m' v0_ r.1 ∧ RV (kSl (kInt .u8)) m' v1_ r.2.1 ∧ RV kBool m' v2_ r.2.2) := by
 refine (ct_57 W0 m w L TL [v0] (p0, ()) r [] [] hS ⟨ha0, trivial⟩ h).mono ?_
 intro e w' he
 cases e with
 | returned v =>
  obtain ⟨m', us, Lr, Lq, Tr, hm, hS', rfl, hR, hO⟩ := he
  obtain ⟨u0, us, rfl, r0, hR0⟩ := RR_rd hR
  obtain ⟨u1, us, rfl, r1, hR1⟩ := RR_rd hR0
  obtain ⟨u2, us, rfl, r2, hR2⟩ := RR_rd hR1
  obtain ⟨rfl, rfl, rfl⟩ := RR_nil hR2
  have hO0 := OR_rd hO
  obtain rfl := OR_nil hO0
  exact ⟨m', hm, hS', u0, u1, u2, rfl, r0, r1, r2⟩
 | panicked ch => exact he.elim
 | outgrown => exact he.elim
theorem ct_19 : Ctr Sz Tryz.prog 19 [.rd (.sl (.int .u8))] [.rd (.st 34), .rd (.int .i64)] (fun x => block_Head x.1) :=
 Ctr.nX (Γ := Γ) (D := [cs_57]) (c := Tryz.f19.body.getD .skip) (res := [.cell 2 34, .tmp 3]) .o rfl mixed Tryz.func19 rfl Tryz.ntmps19 rfl rfl (fun x => by kernel_rfl)
noncomputable def cs_19 : CS Tryz.prog Sz := ⟨19, _, _, _, ct_19, Tryz.call19⟩
theorem c_slices_Clone_byte {W0 : Bse} {m : M} {w : World} {L : List (Nat × List Value)} {TL : List (Nat × Value)} (hS : S W0 m w (L) (TL)) {v0 : Value} {p0 : (List Int)} (ha0 : RV (kSl (kInt .u8)) m v0 p0) {r : (List Int)} (h : slices_Clone_byte p0 = some r) :
    Calls Tryz.prog 60 [v0].toArray w (Ret fun v w' => ∃ m', M.le m m' ∧ S W0 m' w' (L) ((1, v) :: TL) ∧ RV (kSl (kInt .u8)) m' v r) := by
 refine kcall Tryz.func60 rfl Tryz.ntmps60 (Nat.le_of_ble_eq_true rfl) fun a hE => ?_
 have hE : Env 8 a [(0, v0)] := hE
 unfold slices_Clone_byte at h
 refine kseq (kreg ?_)
 refine qa hE rfl rfl fun a hE => ?_
 refine knil (kseq (kseq (kreg ?_)))
 refine qm hE rfl rfl fun a hE => ?_
 refine st hE (st_isnil (k := (kInt .u8)) hE rfl rfl ha0 Tryz.underlying24) rfl ?_
 rintro v5 a _ ⟨rfl, bn3, rfl, hb4⟩ hE
 refine knil ?_
 refine kif hE rfl (fun hd6 => ?_) (fun hd6 => ?_)
 {
 have hx_ := hb4 hd6
 have h : some ([]) = some r := by rw [hx_] at h; exact h
 refine kseq (kreg ?_)
 refine qa hE rfl rfl fun a hE => ?_
 refine knil (kret ?_)
 obtain rfl := oi h
 try dsimp only
 refine Fin.mk hE (rs := [.tmp 2]) rfl (ResL.tmp hE rfl ResL.nil) ?_
 exact ⟨_, (M.le.refl _), ((hS.dropT 0).tail0 1), RV_nil⟩
 }
 {
 refine kskip (kseq (kreg ?_))
 refine st hE (st_lit (k := (kInt .u8)) (xs := []) (vs := []) hE hS rfl Tryz.underlying24 Tryz.sizeOf5 Tryz.zeroValue5 trivial rfl (by decide)) rfl ?_
 rintro v11 a w ⟨m9, hm10, hS, hv8⟩ hE
 refine qm hE rfl rfl fun a hE => ?_
 obtain ⟨z13, hz14, h⟩ := ob h
 refine st hE (st_app (k := (kInt .u8)) (N := 140737488355328) hE hS rfl rfl Tryz.underlying24 Tryz.underlying24 el5 (i := 0) rfl hv8 (ha0.mono hm10) hz14 rfl rfl) rfl ?_
 rintro v18 a w ⟨m16, hm17, hS, hv15⟩ hE
 refine qa hE rfl rfl fun a hE => ?_
 refine knil (kret ?_)
 obtain rfl := oi h
 try dsimp only
 refine Fin.mk hE (rs := [.tmp 2]) rfl (ResL.tmp hE rfl ResL.nil) ?_
 exact ⟨_, (M.le.trans hm10 hm17), (hS.pickT 1 [0] rfl rfl rfl), hv15⟩
 }
theorem ct_61 : Ctr Sz Tryz.prog 61 [.rd (.sl (.int .u8)), .rd (.sl (.int .u8))] [.rd .bool] (fun x => slices_Equal_byte x.1 x.2.1) :=
 Ctr.nc (Γ := Γ) (D := []) (c := Tryz.f61.body.getD .skip) (res := [4]) (.s .o (.s .o (.s (.s .o (.b (.l ⟨[.v 13 1 (.dat (.int .i64) none)], [0, 1, 12], 0, []⟩ .o))) .o))) rfl mixed Tryz.func61 rfl Tryz.ntmps61 rfl rfl (fun x => by kernel_rfl)
noncomputable def cs_61 : CS Tryz.prog Sz := ⟨61, _, _, _, ct_61, Tryz.call61⟩
theorem c_slices_Equal_byte {W0 : Bse} {m : M} {w : World} {L : List (Nat × List Value)} {TL : List (Nat × Value)} (hS : S W0 m w (L) (TL)) {v0 : Value} {p0 : (List Int)} (ha0 : RV (kSl (kInt .u8)) m v0 p0) {v1 : Value} {p1 : (List Int)} (ha1 : RV (kSl (kInt .u8)) m v1 p1) {r : Bool} (h : slices_Equal_byte p0 p1 = some r) :
    Calls Tryz.prog 61 [v0, v1].toArray w (Ret fun v w' => ∃ m', M.le m m' ∧ S W0 m' w' (L) (TL) ∧ RV kBool m' v r) := by
 refine (ct_61 W0 m w L TL [v0, v1] (p0, p1, ()) r [] [] hS ⟨ha0, ⟨ha1, trivial⟩⟩ h).mono ?_
 intro e w' he
 cases e with
 | returned v =>
  obtain ⟨m', us, Lr, Lq, Tr, hm, hS', rfl, hR, hO⟩ := he
  obtain ⟨u0, us, rfl, r0, hR0⟩ := RR_rd hR
  obtain ⟨rfl, rfl, rfl⟩ := RR_nil hR0
  have hO0 := OR_rd hO
  have hO1 := OR_rd hO0
  obtain rfl := OR_nil hO1
  exact ⟨m', hm, hS', r0⟩
 | panicked ch => exact he.elim
 | outgrown => exact he.elim
theorem ct_164 : Ctr Sz Tryz.prog 164 [.pt (.st 161)] [.rd (.st 32)] (fun x => encode_reader_value x.1) :=
 Ctr.nX (Γ := Γ) (D := [cs_163]) (c := Tryz.f164.body.getD .skip) (res := [.cell 2 32]) (.s .o (.s (.s .o (.b (.l ⟨[.v 3 1 (.dat (.int .i64) none)], [0, 2], 2, []⟩ .o))) .o)) rfl mixed Tryz.func164 rfl Tryz.ntmps164 rfl rfl (fun x => by kernel_rfl)
noncomputable def cs_164 : CS Tryz.prog Sz := ⟨164, _, _, _, ct_164, Tryz.call164⟩
theorem ct_165 : Ctr Sz Tryz.prog 165 [.pt (.st 161), .rd (.int .i64)] [.rd (.sl (.int .u8))] (fun x => encode_reader_take x.1 x.2.1) :=
 Ctr.nc (Γ := Γ) (D := []) (c := Tryz.f165.body.getD .skip) (res := [4]) .o rfl mixed Tryz.func165 rfl Tryz.ntmps165 rfl rfl (fun x => by kernel_rfl)
noncomputable def cs_165 : CS Tryz.prog Sz := ⟨165, _, _, _, ct_165, Tryz.call165⟩
theorem c_encode_reader_take {W0 : Bse} {m : M} {w : World} {L : List (Nat × List Value)} {TL : List (Nat × Value)} {b0_ : Nat} {c0_ : List Value} (hS : S W0 m w ((b0_, c0_) :: L) (TL)) {p0 : Encode_reader} (ha0 : kEncode_reader.R m c0_ p0) {p1 : Int} (ha1 : inR .i64 p1) {r : ((List Int) × Encode_reader)} (h : encode_reader_take p0 p1 = some r) :
    Calls Tryz.prog 165 [(.pointer (some ⟨b0_, 0, none⟩)), (.int .i64 p1)].toArray w (Ret fun v w' => ∃ m', M.le m m' ∧ ∃ q0_ : List Value, S W0 m' w' ((b0_, q0_) :: L) (TL) ∧ kEncode_reader.R m' q0_ r.2 ∧ RV (kSl (kInt .u8)) m' v r.1) := by
 refine (ct_165 W0 m w L TL [(.pointer (some ⟨b0_, 0, none⟩)), (.int .i64 p1)] (p0, p1, ()) r [(b0_, c0_)] [] hS ⟨ha0, rfl, ⟨RV_of_int ha1, trivial⟩⟩ h).mono ?_
 intro e w' he
 cases e with
 | returned v =>
  obtain ⟨m', us, Lr, Lq, Tr, hm, hS', rfl, hR, hO⟩ := he
  obtain ⟨u0, us, rfl, r0, hR0⟩ := RR_rd hR
  obtain ⟨rfl, rfl, rfl⟩ := RR_nil hR0
  obtain ⟨q0_, Lq, rfl, o0, hO0⟩ := OR_pt hO
  have hO1 := OR_rd hO0
  obtain rfl := OR_nil hO1
  exact ⟨m', hm, q0_, hS', o0, r0⟩
 | panicked ch => exact he.elim
 | outgrown => exact he.elim
theorem ct_196 : Ctr Sz Tryz.prog 196 [.rd (.int .u32), .rd (.int .u32)] [.rd (.int .u32), .rd (.int .u32)] (fun x => bits_Mul32 x.1 x.2.1) :=
 Ctr.nc (Γ := Γ) (D := []) (c := Tryz.f196.body.getD .skip) (res := [4, 5]) .o rfl mixed Tryz.func196 rfl Tryz.ntmps196 rfl rfl (fun x => by kernel_rfl)
noncomputable def cs_196 : CS Tryz.prog Sz := ⟨196, _, _, _, ct_196, Tryz.call196⟩
theorem ct_197 : Ctr Sz Tryz.prog 197 [.rd (.int .u64), .rd (.int .u64)] [.rd (.int .u64), .rd (.int .u64)] (fun x => bits_Mul64 x.1 x.2.1) :=
 Ctr.nc (Γ := Γ) (D := []) (c := Tryz.f197.body.getD .skip) (res := [4, 5]) .o rfl mixed Tryz.func197 rfl Tryz.ntmps197 rfl rfl (fun x => by kernel_rfl)
noncomputable def cs_197 : CS Tryz.prog Sz := ⟨197, _, _, _, ct_197, Tryz.call197⟩
theorem ct_184 : Ctr Sz Tryz.prog 184 [.rd (.int .u64), .rd (.int .u64)] [.rd (.int .u64), .rd (.int .u64)] (fun x => bits_Mul x.1 x.2.1) :=
 Ctr.nc (Γ := Γ) (D := [cs_196, cs_197]) (c := Tryz.f184.body.getD .skip) (res := [4, 5]) .o rfl mixed Tryz.func184 rfl Tryz.ntmps184 rfl rfl (fun x => by kernel_rfl)
theorem c_bits_Mul {W0 : Bse} {m : M} {w : World} {L : List (Nat × List Value)} {TL : List (Nat × Value)} (hS : S W0 m w (L) (TL)) {p0 : Int} (ha0 : inR .u64 p0) {p1 : Int} (ha1 : inR .u64 p1) {r : (Int × Int)} (h : bits_Mul p0 p1 = some r) :
    Calls Tryz.prog 184 [(.int .u64 p0), (.int .u64 p1)].toArray w (Ret fun v w' => ∃ m', M.le m m' ∧ S W0 m' w' (L) (TL) ∧ ∃ v0_ v1_ : Value, v = .tuple #[v0_, v1_] ∧ RV (kInt .u64) m' v0_ r.1 ∧ RV (kInt .u64) m' v1_ r.2) := by
 refine (ct_184 W0 m w L TL [(.int .u64 p0), (.int .u64 p1)] (p0, p1, ()) r [] [] hS ⟨RV_of_int ha0, ⟨RV_of_int ha1, trivial⟩⟩ h).mono ?_
 intro e w' he
 cases e with
 | returned v =>
  obtain ⟨m', us, Lr, Lq, Tr, hm, hS', rfl, hR, hO⟩ := he
  obtain ⟨u0, us, rfl, r0, hR0⟩ := RR_rd hR
  obtain ⟨u1, us, rfl, r1, hR1⟩ := RR_rd hR0
  obtain ⟨rfl, rfl, rfl⟩ := RR_nil hR1
  have hO0 := OR_rd hO
  have hO1 := OR_rd hO0
  obtain rfl := OR_nil hO1
  exact ⟨m', hm, hS', u0, u1, rfl, r0, r1⟩
 | panicked ch => exact he.elim
 | outgrown => exact he.elim
theorem c_slices_Repeat_Value {W0 : Bse} {m : M} {w : World} {L : List (Nat × List Value)} {TL : List (Nat × Value)} (hS : S W0 m w (L) (TL)) {v0 : Value} {p0 : (List Ap)} (ha0 : RV (kSl kAp) m v0 p0) {p1 : Int} (ha1 : inR .i64 p1) {r : (List Ap)} (h : slices_Repeat_Value p0 p1 = some r) :
    Calls Tryz.prog 166 [v0, (.int .i64 p1)].toArray w (Ret fun v w' => ∃ m', M.le m m' ∧ S W0 m' w' (L) (TL) ∧ RV (kSl kAp) m' v r) := by
 refine kcall Tryz.func166 rfl Tryz.ntmps166 (Nat.le_of_ble_eq_true rfl) fun a hE => ?_
 have hE : Env 48 a [(0, v0), (1, (.int .i64 p1))] := hE
 unfold slices_Repeat_Value at h
 refine kseq (kreg ?_)
 refine qa hE rfl rfl fun a hE => ?_
 refine knil (kseq (kseq (kreg ?_)))
 refine qm hE rfl rfl fun a hE => ?_
 refine sp hE (r_bin hE rfl rfl b_lss) rfl fun a hE => ?_
 refine knil ?_
 refine kcut (fun a w => slices_Repeat_Value_j1 p0 p1 = some r ∧ ∃ m', M.le m m' ∧ S W0 m' w (L) (TL) ∧ Env 48 a [(0, v0), (1, (.int .i64 p1))]) ?_ ?_
 {
 refine kif hE rfl (fun hd143 => ?_) (fun hd143 => ?_)
 {
 have h := ite_T hd143 h
 cases h
 }
 {
 have h := ite_F hd143 h
 refine kskip ?_
 exact ⟨h, _, (M.le.refl _), hS, hE.cut ⟨rfl, rfl, trivial⟩⟩
 }
 }
 {
 rintro a w ⟨h, m4, hm5, hS, hE⟩
 unfold slices_Repeat_Value_j1 at h
 refine kseq (kreg ?_)
 refine qm hE rfl rfl fun a hE => ?_
 refine sp hE (r_lenSl (k := kAp) hE rfl rfl Tryz.underlying22 (ha0.mono hm5)) rfl fun a hE => ?_
 refine sp hE (r_conv hE rfl Tryz.underlying3 Tryz.underlying94 rfl) rfl fun a hE => ?_
 refine qm hE rfl rfl fun a hE => ?_
 refine sp hE (r_conv hE rfl Tryz.underlying3 Tryz.underlying94 rfl) rfl fun a hE => ?_
 obtain ⟨r12, hr13, h⟩ := ob h
 refine st hE (st_call (vs := [(.int .u64 (IntKind.u64.wrap (p0.length : Int))), (.int .u64 (IntKind.u64.wrap p1))]) hE rfl Tryz.call184 (c_bits_Mul (hS := hS) (inR_wrap _ _) (inR_wrap _ _) hr13)) rfl ?_
 rintro _ a w ⟨m14, hm15, hS, v0_16, v1_17, rfl, hv0_18, hv1_19⟩ hE
 obtain ⟨rfl, hr21⟩ := RV_int hv0_18
 obtain ⟨rfl, hr22⟩ := RV_int hv1_19
 refine qm hE rfl rfl fun a hE => ?_
 refine sp hE (r_extract hE rfl rfl) rfl fun a hE => ?_
 refine sp hE (r_extract hE rfl rfl) rfl fun a hE => ?_
 refine qa hE rfl rfl fun a hE => ?_
 refine qa hE rfl rfl fun a hE => ?_
 refine knil (kseq (kseq ?_))
 refine kcut (fun a w => ∃ x30 : Bool, slices_Repeat_Value_j2 p0 r12 x30 = some r ∧ ∃ m', M.le m14 m' ∧ S W0 m' w (L) (TL) ∧ Env 48 a [(0, v0), (6, (.int .u64 r12.2)), (26, (.bool x30))]) ?_ ?_
 {
 refine kreg ?_
 refine qm hE rfl rfl fun a hE => ?_
 refine sp hE (r_bin hE rfl rfl b_gtr) rfl fun a hE => ?_
 refine qm hE rfl rfl fun a hE => ?_
 rcases Bool.eq_false_or_eq_true (decide (0 < r12.1)) with hd138 | hd138
 {
 have h := ite_T hd138 h
 refine sx hE rfl rfl rfl rfl hd138 rfl fun a hE => ?_
 refine sx hE rfl rfl rfl rfl hd138 rfl fun a hE => ?_
 refine sp hE (r_pickT hE rfl hd138 rfl) rfl fun a hE => ?_
 refine knil ?_
 exact ⟨true, h, _, (M.le.refl _), hS, hE.cut ⟨rfl, rfl, rfl, trivial⟩⟩
 }
 {
 have h := ite_F hd138 h
 refine spg hE rfl rfl rfl rfl hd138 (r_move hE rfl) rfl fun a hE => ?_
 refine spg hE rfl rfl rfl rfl hd138 (r_bin hE rfl rfl b_gtr) rfl fun a hE => ?_
 refine sp hE (r_pickF hE rfl hd138 rfl) rfl fun a hE => ?_
 refine knil ?_
 exact ⟨(decide (9223372036854775807 < r12.2)), h, _, (M.le.refl _), hS, hE.cut ⟨rfl, rfl, rfl, trivial⟩⟩
 }
 }
 {
 rintro a w ⟨x30, h, m28, hm29, hS, hE⟩
 unfold slices_Repeat_Value_j2 at h
 refine kcut (fun a w => slices_Repeat_Value_j3 p0 r12 = some r ∧ ∃ m', M.le m28 m' ∧ S W0 m' w (L) (TL) ∧ Env 48 a [(0, v0), (6, (.int .u64 r12.2))]) ?_ ?_
 {
 refine kif hE rfl (fun hd134 => ?_) (fun hd134 => ?_)
 {
 have h := ite_T hd134 h
 cases h
 }
 {
 have h := ite_F hd134 h
 refine kskip ?_
 exact ⟨h, _, (M.le.refl _), hS, hE.cut ⟨rfl, rfl, trivial⟩⟩
 }
 }
 {
 rintro a w ⟨h, m32, hm33, hS, hE⟩
 unfold slices_Repeat_Value_j3 at h
 refine kseq (kreg ?_)
 refine qm hE rfl rfl fun a hE => ?_
 refine sp hE (r_conv hE rfl Tryz.underlying94 Tryz.underlying3 rfl) rfl fun a hE => ?_
 obtain ⟨z37, hz38, h⟩ := ob h
 refine st hE (st_makeG (k := kAp) (m := m32) hE hS rfl rfl Tryz.underlying22 Tryz.type32 rfl rfl rfl (fun m => zr32 m) hz38 rfl rfl) rfl ?_
 rintro v42 a w ⟨b39, cs40, hc41, hS⟩ hE
 refine qa hE rfl rfl fun a hE => ?_
 refine knil (kseq (kreg ?_))
 refine qm hE rfl rfl fun a hE => ?_
 refine qm hE rfl rfl fun a hE => ?_
 refine st hE (st_copyG (k := kAp) hE hS rfl rfl Tryz.underlying22 Tryz.sizeOf32 (i := 0) rfl hc41 (ha0.mono (M.le.trans hm5 (M.le.trans hm15 (M.le.trans hm29 hm33))))) rfl ?_
 rintro v48 a _ ⟨rfl, cs46, hc47, hS⟩ hE
 refine qa hE rfl rfl fun a hE => ?_
 refine knil (kseq ?_)
 refine kcut (fun a w => ∃ x52 : (List Ap), slices_Repeat_Value_j4 x52 = some r ∧ ∃ m', M.le m32 m' ∧ ∃ (v53 : Value), RV (kSl kAp) m' v53 x52 ∧ S W0 m' w (L) (TL) ∧ Env 48 a [(7, v53)]) ?_ ?_
 {
 refine kblock ?_
 refine kloop h (fun (s : (Int × (List Ap))) a w => ∃ m', M.le m32 m' ∧ ∃ (cs63 : List Value), inR .i64 s.1 ∧ GS kAp m' b39 cs63 v42 s.2 ∧ S W0 m' w ((b39, cs63) :: L) (TL) ∧ Env 48 a [(7, v42), (8, (.int .i64 s.1))]) ?_ ?_
 {
 exact ⟨_, (M.le.refl _), cs46, (inR_len (Nat.le_trans (Nat.min_le_right _ _) (GS.len hc41))), hc47, hS, hE.cut ⟨rfl, rfl, trivial⟩⟩
 }
 {
 rintro ⟨x60, x62⟩ a w ⟨m58, hm59, cs63, hr61, hc64, hS, hE⟩ r65 h hb66
 have h : slices_Repeat_Value_b1 x60 x62 = some r65 := h
 unfold slices_Repeat_Value_b1 at h
 refine kseq (kseq (kreg ?_))
 refine qm hE rfl rfl fun a hE => ?_
 refine qm hE rfl rfl fun a hE => ?_
 refine sp hE (r_lenG (k := kAp) hE rfl rfl Tryz.underlying22 hc64) rfl fun a hE => ?_
 refine sp hE (r_bin hE rfl rfl b_lss) rfl fun a hE => ?_
 refine knil ?_
 refine kif hE rfl (fun hd71 => ?_) (fun hd71 => ?_)
 {
 have h := ite_T hd71 h
 refine kskip (kblock ?_)
 obtain ⟨q73, hq74, h⟩ := ob h
 obtain ⟨q76, hq77, h⟩ := ob h
 obtain ⟨u82, hu83, h⟩ := ob h
 obtain ⟨z80, hz81, h⟩ := ob h
 refine kchain (k := 8) (m := m58) (es := [7]) (Φ := (fun i m ws v => match i with | 0 => v = (.int .i64 x60) ∧ inR .i64 x60 | 1 => v = v42 | 2 => v = (.int .i64 x60) ∧ inR .i64 x60 | 3 => VS b39 4 v q73.1 q73.2 | 4 => v = v42 | 5 => v = (.int .i64 x60) ∧ inR .i64 x60 | 6 => VS b39 4 v q76.1 q76.2 | 7 => v = (.int .i64 ((min q76.2 q73.2 : Nat) : Int)) ∧ inR .i64 ((min q76.2 q73.2 : Nat) : Int) | _ => True)) (Q := (fun c m ws L' TL' => match c with | 0 => (b39, cs63) :: L = L' ∧ TL = TL' | 1 => (b39, (wi ws 0).c) :: L = L' ∧ TL = TL' ∧ GS kAp m b39 (wi ws 0).c v42 z80 | _ => False)) (cs := [⟨0, 1, false, [(8, (.int .i64 x60))]⟩, ⟨0, 0, false, [(7, v42)]⟩, ⟨0, 0, false, [(8, (.int .i64 x60))]⟩, ⟨0, 0, false, []⟩, ⟨0, 0, false, [(7, v42)]⟩, ⟨0, 0, false, [(8, (.int .i64 x60))]⟩, ⟨0, 0, false, []⟩, ⟨0, 0, true, []⟩]) mixed hE hS ⟨rfl, rfl⟩ rfl rfl ⟨⟨rfl, trivial⟩, ⟨rfl, trivial⟩, ⟨rfl, trivial⟩, trivial, ⟨rfl, trivial⟩, ⟨rfl, trivial⟩, trivial, trivial, trivial⟩ (by kernel_rfl) ?_ ?_ ?_ ?_
 {
 intro i m_ m2_ ws v hm_ hp_
 match i, hp_ with
 | 0, hp_ => exact hp_
 | 1, hp_ => exact hp_
 | 2, hp_ => exact hp_
 | 3, hp_ => exact hp_
 | 4, hp_ => exact hp_
 | 5, hp_ => exact hp_
 | 6, hp_ => exact hp_
 | 7, hp_ => exact hp_
 | _ + 8, hp_ => exact trivial
 }
 {
 intro c m_ m2_ ws L_ T_ hm_ hq_
 match c, hq_ with
 | 0, ⟨e1_, e2_⟩ => exact ⟨e1_, e2_⟩
 | 1, ⟨e1_, e2_, f0_⟩ => exact ⟨e1_, e2_, (GS.mono f0_ hm_)⟩
 | _ + 2, hq_ => exact hq_.elim
 }
 {
 refine ⟨?_, ?_, ?_, ?_, ?_, ?_, ?_, ?_, trivial⟩
 {
 refine cplain fun pre_ post_ L_ T_ m' a' w' hl' hp' hm' hq' hS' hE' hT' => ?_
 obtain rfl := len0 hl'
 refine Step.imp (Run1.pure (r_move hE' rfl)) ?_
 rintro _ _ ⟨rfl, rfl⟩
 exact ⟨_, M.le.refl _, hS', ⟨rfl, hr61⟩⟩
 }
 {
 refine cplain fun pre_ post_ L_ T_ m' a' w' hl' hp' hm' hq' hS' hE' hT' => ?_
 obtain rfl := len0 hl'
 refine Step.imp (Run1.pure (r_move hE' rfl)) ?_
 rintro _ _ ⟨rfl, rfl⟩
 exact ⟨_, M.le.refl _, hS', rfl⟩
 }
 {
 refine cplain fun pre_ post_ L_ T_ m' a' w' hl' hp' hm' hq' hS' hE' hT' => ?_
 obtain rfl := len0 hl'
 refine Step.imp (Run1.pure (r_move hE' rfl)) ?_
 rintro _ _ ⟨rfl, rfl⟩
 exact ⟨_, M.le.refl _, hS', ⟨rfl, hr61⟩⟩
 }
 {
 refine cplain fun pre_ post_ L_ T_ m' a' w' hl' hp' hm' hq' hS' hE' hT' => ?_
 obtain rfl := len0 hl'
 obtain rfl := len0 (lenz (a := 0) hp')
 obtain ⟨rfl, rfl⟩ := hq'
 obtain ⟨v88, e89, q90⟩ : ∃ v, a'.tmps.getD 39 undef = v ∧ (v = v42) := ⟨_, rfl, hT' 1 (by decide) 39 rfl⟩
 have hE := hE'.add (e89.trans q90)
 obtain ⟨v91, e92, q93⟩ : ∃ v, a'.tmps.getD 40 undef = v ∧ (v = (.int .i64 x60) ∧ inR .i64 x60) := ⟨_, rfl, hT' 2 (by decide) 40 rfl⟩
 obtain ⟨q93, hr94⟩ := q93
 have hE := hE.add (e92.trans q93)
 refine Step.imp (st_viewG (k := kAp) hE rfl Tryz.underlying22 Tryz.sizeOf32 (hc64.mono hm') ⟨_, rfl⟩ rfl hq74 (sz := 4) rfl (xl := (some (.tmp 40))) (xh := none)) ?_
 rintro v95 _ ⟨rfl, hc72⟩
 exact ⟨_, M.le.refl _, hS', hc72⟩
 }
 {
 refine cplain fun pre_ post_ L_ T_ m' a' w' hl' hp' hm' hq' hS' hE' hT' => ?_
 obtain rfl := len0 hl'
 refine Step.imp (Run1.pure (r_move hE' rfl)) ?_
 rintro _ _ ⟨rfl, rfl⟩
 exact ⟨_, M.le.refl _, hS', rfl⟩
 }
 {
 refine cplain fun pre_ post_ L_ T_ m' a' w' hl' hp' hm' hq' hS' hE' hT' => ?_
 obtain rfl := len0 hl'
 refine Step.imp (Run1.pure (r_move hE' rfl)) ?_
 rintro _ _ ⟨rfl, rfl⟩
 exact ⟨_, M.le.refl _, hS', ⟨rfl, hr61⟩⟩
 }
 {
 refine cplain fun pre_ post_ L_ T_ m' a' w' hl' hp' hm' hq' hS' hE' hT' => ?_
 obtain rfl := len0 hl'
 obtain rfl := len0 (lenz (a := 0) hp')
 obtain ⟨rfl, rfl⟩ := hq'
 obtain ⟨v98, e99, q100⟩ : ∃ v, a'.tmps.getD 42 undef = v ∧ (v = v42) := ⟨_, rfl, hT' 4 (by decide) 42 rfl⟩
 have hE := hE'.add (e99.trans q100)
 obtain ⟨v101, e102, q103⟩ : ∃ v, a'.tmps.getD 43 undef = v ∧ (v = (.int .i64 x60) ∧ inR .i64 x60) := ⟨_, rfl, hT' 5 (by decide) 43 rfl⟩
 obtain ⟨q103, hr104⟩ := q103
 have hE := hE.add (e102.trans q103)
 refine Step.imp (st_viewG (k := kAp) hE rfl Tryz.underlying22 Tryz.sizeOf32 (hc64.mono hm') rfl ⟨_, rfl⟩ hq77 (sz := 4) rfl (xl := none) (xh := (some (.tmp 43)))) ?_
 rintro v105 _ ⟨rfl, hc75⟩
 exact ⟨_, M.le.refl _, hS', hc75⟩
 }
 {
 refine cturn fun pre_ L_ T_ m' a' w' hl' hm' hq' hS' hE' hT' => ?_
 obtain rfl := len0 hl'
 obtain ⟨rfl, rfl⟩ := hq'
 obtain ⟨v106, e107, q108⟩ : ∃ v, a'.tmps.getD 41 undef = v ∧ (VS b39 4 v q73.1 q73.2) := ⟨_, rfl, hT' 3 (by decide) 41 rfl⟩
 have hE := hE'.add (e107)
 obtain ⟨v109, e110, q111⟩ : ∃ v, a'.tmps.getD 44 undef = v ∧ (VS b39 4 v q76.1 q76.2) := ⟨_, rfl, hT' 6 (by decide) 44 rfl⟩
 have hE := hE.add (e110)
 refine Step.imp (st_copyVV (k := kAp) hE hS' rfl rfl Tryz.underlying22 Tryz.sizeOf32 (i := 0) rfl (hc64.mono hm') q108 q111 hz81) ?_
 rintro _ w ⟨rfl, cs78, hc79, hS⟩
 exact ⟨_, ⟨0, undef, cs78, [], []⟩, _, _, M.le.refl _, hS, ⟨rfl, rfl, hc79⟩, ⟨rfl, (inR_len (Nat.le_of_ble_eq_true (chk_some hu83)))⟩⟩
 }
 }
 {
 intro ws_ L_ T_ m112 a w hl113 hm114 hq115 hS hd116 hn117 ho118 hT119
 obtain ⟨⟨_, _, cs78, _, _⟩, rfl⟩ := len1 hl113
 obtain ⟨rfl, rfl, hc120⟩ := hq115
 have hE := EnvD.of (k := 8) (l' := [(7, v42), (8, (.int .i64 x60)), (34, (.int .i64 x60)), (35, v42), (36, (.int .i64 (x62.length : Int))), (37, (.bool (decide (x60 < (x62.length : Int)))))]) hd116 hn117 ho118 ⟨rfl, rfl, rfl, rfl, rfl, rfl, trivial⟩ rfl
 obtain ⟨v121, e122, q123⟩ : ∃ v, a.tmps.getD 38 undef = v ∧ (v = (.int .i64 x60) ∧ inR .i64 x60) := ⟨_, rfl, hT119 0 (by decide) 38 rfl⟩
 obtain ⟨q123, hr124⟩ := q123
 have hE := hE.add (e122.trans q123)
 obtain ⟨v125, e126, q127⟩ : ∃ v, a.tmps.getD 45 undef = v ∧ (v = (.int .i64 ((min q76.2 q73.2 : Nat) : Int)) ∧ inR .i64 ((min q76.2 q73.2 : Nat) : Int)) := ⟨_, rfl, hT119 7 (by decide) 45 rfl⟩
 obtain ⟨q127, hr128⟩ := q127
 have hE := hE.add (e126.trans q127)
 refine sp hE (r_bin hE rfl rfl (b_add rfl)) rfl fun a hE => ?_
 refine qa hE rfl rfl fun a hE => ?_
 refine knil ?_
 exact ⟨(IntKind.i64.wrap (x60 + ((min q76.2 q73.2 : Nat) : Int)), z80), (Option.some.inj h).symm, _, (M.le.trans hm59 hm114), cs78, (inR_wrap _ _), hc120, hS, hE.cut ⟨rfl, rfl, trivial⟩⟩
 }
 }
 {
 have h := ite_F hd71 h
 obtain ⟨m131, hm132, hS, hv133⟩ := S.freeze hS hc64
 refine kexit rfl rfl ?_
 have h := unwrap h hb66
 exact ⟨x62, h, _, (M.le.trans hm59 hm132), v42, hv133, hS, hE.cut ⟨rfl, trivial⟩⟩
 }
 }
 }
 {
 rintro a w ⟨x52, h, m50, hm51, v53, hv54, hS, hE⟩
 unfold slices_Repeat_Value_j4 at h
 refine kseq (kreg ?_)
 refine qm hE rfl rfl fun a hE => ?_
 refine qa hE rfl rfl fun a hE => ?_
 refine knil (kret ?_)
 obtain rfl := oi h
 try dsimp only
 refine Fin.mk hE (rs := [.tmp 4]) rfl (ResL.tmp hE rfl ResL.nil) ?_
 exact ⟨_, (M.le.trans hm5 (M.le.trans hm15 (M.le.trans hm29 (M.le.trans hm33 hm51)))), hS, hv54⟩
 }
 }
 }
 }
theorem ct_166 : Ctr Sz Tryz.prog 166 [.rd (.sl (.st 32)), .rd (.int .i64)] [.rd (.sl (.st 32))] (fun x => slices_Repeat_Value x.1 x.2.1) := by
 intro W0 m w L TL vs x r Lp Tp hS hP h
 obtain ⟨v0, vs, rfl, a0, hP0⟩ := PR_rd hP
 obtain ⟨v1, vs, rfl, a1, hP1⟩ := PR_rd hP0
 obtain ⟨rfl, n1⟩ := RV_int a1
 obtain ⟨rfl, rfl, rfl⟩ := PR_nil hP1
 refine (c_slices_Repeat_Value (hS := hS) a0 n1 h).mono ?_
 intro e w' he
 cases e with
 | returned v =>
  obtain ⟨m', hm, hS', r0⟩ := he
  exact ⟨m', [v], [], [], [], hm, hS', rfl, ⟨r0, trivial⟩, trivial⟩
 | panicked ch => exact he.elim
 | outgrown => exact he.elim
noncomputable def cs_166 : CS Tryz.prog Sz := ⟨166, _, _, _, ct_166, Tryz.call166⟩
theorem ct_167 : Ctr Sz Tryz.prog 167 [.pt (.st 161)] [.rd (.int .u64)] (fun x => encode_reader_number x.1) :=
 Ctr.nc (Γ := Γ) (D := [cs_165]) (c := Tryz.f167.body.getD .skip) (res := [2]) (.s .o (.s .o (.s (.s .o (.b (.l ⟨[.v 3 1 (.dat (.int .u64) none), .v 9 1 (.dat (.int .i64) none)], [7, 8], 1, []⟩ .o))) .o))) rfl mixed Tryz.func167 rfl Tryz.ntmps167 rfl rfl (fun x => by kernel_rfl)
noncomputable def cs_167 : CS Tryz.prog Sz := ⟨167, _, _, _, ct_167, Tryz.call167⟩
theorem ct_168 : Ctr Sz Tryz.prog 168 [.pt (.st 161)] [.rd (.int .u64)] (fun x => encode_reader_short x.1) :=
 Ctr.nc (Γ := Γ) (D := [cs_165]) (c := Tryz.f168.body.getD .skip) (res := [2]) (.s .o (.s .o (.s (.s .o (.b (.l ⟨[.v 3 1 (.dat (.int .u64) none), .v 4 1 (.dat (.int .i64) none), .b 0 1 (.st 161)], [0], 1, []⟩ .o))) .o))) rfl mixed Tryz.func168 rfl Tryz.ntmps168 rfl rfl (fun x => by kernel_rfl)
noncomputable def cs_168 : CS Tryz.prog Sz := ⟨168, _, _, _, ct_168, Tryz.call168⟩
theorem c_encode_reader_unpacked {W0 : Bse} {m : M} {w : World} {L : List (Nat × List Value)} {TL : List (Nat × Value)} {b0_ : Nat} {c0_ : List Value} (hS : S W0 m w ((b0_, c0_) :: L) (TL)) {p0 : Encode_reader} (ha0 : kEncode_reader.R m c0_ p0) {p1 : Int} (ha1 : inR .i64 p1) {p2 : Int} (ha2 : inR .i64 p2) {r : ((List Int) × Encode_reader)} (h : encode_reader_unpacked p0 p1 p2 = some r) :
    Calls Tryz.prog 169 [(.pointer (some ⟨b0_, 0, none⟩)), (.int .i64 p1), (.int .i64 p2)].toArray w (Ret fun v w' => ∃ m', M.le m m' ∧ ∃ q0_ : List Value, S W0 m' w' ((b0_, q0_) :: L) (TL) ∧ kEncode_reader.R m' q0_ r.2 ∧ RV (kSl (kInt .u64)) m' v r.1) := by
 refine kcall Tryz.func169 rfl Tryz.ntmps169 (Nat.le_of_ble_eq_true rfl) fun a hE => ?_
 have hE : Env 63 a [(0, (.pointer (some ⟨b0_, 0, none⟩))), (1, (.int .i64 p1)), (2, (.int .i64 p2))] := hE
 unfold encode_reader_unpacked at h
 refine kseq (kreg ?_)
 refine qa hE rfl rfl fun a hE => ?_
 refine knil (kseq (kseq (kreg ?_)))
 refine qm hE rfl rfl fun a hE => ?_
 refine sp hE (r_bin hE rfl rfl b_gtr) rfl fun a hE => ?_
 refine knil ?_
 refine kif hE rfl (fun hd4 => ?_) (fun hd4 => ?_)
 {
 have h := ite_T hd4 h
 refine kseq (kreg ?_)
 refine qm hE rfl rfl fun a hE => ?_
 refine sp hE (r_nilCheck hE rfl) rfl fun a hE => ?_
 refine sp hE (r_fieldL hE fo161_1 rfl) rfl fun a hE => ?_
 refine st0 hE (st_storeF hE hS ty4 sf161_1 rfl rfl RV_of_bool (i := 0) rfl ha0) ?_
 rintro _ w ⟨cs8, hc9, hS⟩ hE
 refine knil (kseq (kreg ?_))
 refine qm hE rfl rfl fun a hE => ?_
 obtain ⟨z12, hz13, h⟩ := ob h
 refine st hE (st_makeG (k := (kInt .u64)) (m := m) hE hS rfl rfl Tryz.underlying189 Tryz.type54 rfl rfl rfl (fun m => zr54 m) hz13 rfl rfl) rfl ?_
 rintro v17 a w ⟨b14, cs15, hc16, hS⟩ hE
 refine qa hE rfl rfl fun a hE => ?_
 refine knil ?_
 obtain ⟨m19, hm20, hS, hv21⟩ := S.freeze hS hc16
 refine kret ?_
 obtain rfl := oi h
 try dsimp only
 refine Fin.mk hE (rs := [.tmp 6]) rfl (ResL.tmp hE rfl ResL.nil) ?_
 exact ⟨_, hm20, cs8, hS, (kEncode_reader.mono hm20 hc9), hv21⟩
 }
 {
 have h := ite_F hd4 h
 refine kskip (kseq (kreg ?_))
 refine qm hE rfl rfl fun a hE => ?_
 refine qm hE rfl rfl fun a hE => ?_
 refine qm hE rfl rfl fun a hE => ?_
 refine sp hE (r_bin hE rfl rfl (b_mul rfl)) rfl fun a hE => ?_
 refine sp hE (r_bin hE rfl rfl (b_add rfl)) rfl fun a hE => ?_
 refine sp hE (r_bin hE rfl rfl (b_quo rfl (by decide))) rfl fun a hE => ?_
 obtain ⟨r28, hr29, h⟩ := ob h
 refine st hE (st_call (vs := [(.pointer (some ⟨b0_, 0, none⟩)), (.int .i64 (IntKind.i64.wrap ((IntKind.i64.wrap ((IntKind.i64.wrap (p1 * p2)) + 7)).tdiv 8)))]) hE rfl Tryz.call165 (c_encode_reader_take (hS := hS) ha0 (inR_wrap _ _) hr29)) rfl ?_
 rintro v35 a w ⟨m30, hm31, c0_32, hS, hc0_33, hv34⟩ hE
 refine qa hE rfl rfl fun a hE => ?_
 refine knil (kseq (kreg ?_))
 refine qm hE rfl rfl fun a hE => ?_
 obtain ⟨z38, hz39, h⟩ := ob h
 refine st hE (st_makeG (k := (kInt .u64)) (m := m30) hE hS rfl rfl Tryz.underlying189 Tryz.type54 rfl rfl rfl (fun m => zr54 m) hz39 rfl rfl) rfl ?_
 rintro v43 a w ⟨b40, cs41, hc42, hS⟩ hE
 refine qa hE rfl rfl fun a hE => ?_
 refine knil (kseq (kseq (kreg ?_)))
 refine qm hE rfl rfl fun a hE => ?_
 refine sp hE (r_lenG (k := (kInt .u64)) hE rfl rfl Tryz.underlying189 hc42) rfl fun a hE => ?_
 refine qm hE rfl rfl fun a hE => ?_
 refine knil ?_
 refine kcut (fun a w => ∃ x50 : (List Int), encode_reader_unpacked_j1 r28 x50 = some r ∧ ∃ m', M.le m30 m' ∧ ∃ (v51 : Value), RV (kSl (kInt .u64)) m' v51 x50 ∧ S W0 m' w ((b0_, c0_32) :: L) (TL) ∧ Env 63 a [(8, v51)]) ?_ ?_
 {
 refine kblock ?_
 refine kloop h (fun (s : (Int × (List Int))) a w => ∃ m', M.le m30 m' ∧ ∃ (cs61 : List Value), inR .i64 s.1 ∧ GS (kInt .u64) m' b40 cs61 v43 s.2 ∧ S W0 m' w ((b40, cs61) :: (b0_, c0_32) :: L) (TL) ∧ Env 63 a [(2, (.int .i64 p2)), (7, v35), (8, v43), (29, (.int .i64 (z38.length : Int))), (30, (.int .i64 s.1))]) ?_ ?_
 {
 exact ⟨_, (M.le.refl _), cs41, (show inR .i64 0 from inR_lit (by decide)), hc42, hS, hE.cut ⟨rfl, rfl, rfl, rfl, rfl, trivial⟩⟩
 }
 {
 rintro ⟨x58, x60⟩ a w ⟨m56, hm57, cs61, hr59, hc62, hS, hE⟩ r63 h hb64
 have h : encode_reader_unpacked_b1 p2 r28 z38 x58 x60 = some r63 := h
 unfold encode_reader_unpacked_b1 at h
 refine kseq (kreg ?_)
 refine sp hE (r_bin hE rfl rfl b_lss) rfl fun a hE => ?_
 refine knil (kseq ?_)
 refine kif hE rfl (fun hd66 => ?_) (fun hd66 => ?_)
 {
 have h := ite_T hd66 h
 refine kskip (kseq ?_)
 refine kcut (fun a w => ∃ x69 : (List Int), encode_reader_unpacked_j2 x58 x69 = some r63 ∧ ∃ m', M.le m56 m' ∧ ∃ (cs70 : List Value), GS (kInt .u64) m' b40 cs70 v43 x69 ∧ S W0 m' w ((b40, cs70) :: (b0_, c0_32) :: L) (TL) ∧ Env 63 a [(2, (.int .i64 p2)), (7, v35), (8, v43), (29, (.int .i64 (z38.length : Int))), (30, (.int .i64 x58))]) ?_ ?_
 {
 refine kblock (kseq (kreg ?_))
 refine qm hE rfl rfl fun a hE => ?_
 refine qa hE rfl rfl fun a hE => ?_
 refine knil (kseq (kreg ?_))
 refine qm hE rfl rfl fun a hE => ?_
 refine qm hE rfl rfl fun a hE => ?_
 refine knil (kblock ?_)
 refine kloop h (fun (s : (Int × (List Int))) a w => ∃ m', M.le m56 m' ∧ ∃ (cs84 : List Value), inR .i64 s.1 ∧ GS (kInt .u64) m' b40 cs84 v43 s.2 ∧ S W0 m' w ((b40, cs84) :: (b0_, c0_32) :: L) (TL) ∧ Env 63 a [(2, (.int .i64 p2)), (7, v35), (8, v43), (9, (.int .i64 x58)), (29, (.int .i64 (z38.length : Int))), (30, (.int .i64 x58)), (33, (.int .i64 p2)), (34, (.int .i64 s.1))]) ?_ ?_
 {
 exact ⟨_, (M.le.refl _), cs61, (show inR .i64 0 from inR_lit (by decide)), hc62, hS, hE.cut ⟨rfl, rfl, rfl, rfl, rfl, rfl, rfl, rfl, trivial⟩⟩
 }
 {
 rintro ⟨x81, x83⟩ a w ⟨m79, hm80, cs84, hr82, hc85, hS, hE⟩ r86 h hb87
 have h : encode_reader_unpacked_b2 p2 r28 x58 x81 x83 = some r86 := h
 unfold encode_reader_unpacked_b2 at h
 refine kseq (kreg ?_)
 refine sp hE (r_bin hE rfl rfl b_lss) rfl fun a hE => ?_
 refine knil (kseq ?_)
 refine kif hE rfl (fun hd89 => ?_) (fun hd89 => ?_)
 {
 have h := ite_T hd89 h
 refine kskip (kseq (kblock (kseq (kreg ?_))))
 refine qm hE rfl rfl fun a hE => ?_
 refine qa hE rfl rfl fun a hE => ?_
 refine knil (kseq (kreg ?_))
 refine qm hE rfl rfl fun a hE => ?_
 refine qm hE rfl rfl fun a hE => ?_
 refine sp hE (r_bin hE rfl rfl (b_mul rfl)) rfl fun a hE => ?_
 refine qm hE rfl rfl fun a hE => ?_
 refine sp hE (r_bin hE rfl rfl (b_add rfl)) rfl fun a hE => ?_
 refine qa hE rfl rfl fun a hE => ?_
 refine knil ?_
 obtain ⟨j98, hj99, h⟩ := ob h
 obtain ⟨x101, hx102, h⟩ := ob h
 obtain ⟨x104, hx105, h⟩ := ob h
 obtain ⟨u109, hu110, h⟩ := ob h
 obtain ⟨u111, hu112, h⟩ := ob h
 refine kchain (k := 16) (m := m79) (es := []) (Φ := (fun i m ws v => match i with | 0 => v = v43 | 1 => v = (.int .i64 x58) ∧ inR .i64 x58 | 2 => v = (.pointer (some ⟨b40, j98 * 1, none⟩)) | 3 => v = (.int .u64 x101) ∧ inR .u64 x101 | 4 => v = v35 | 5 => v = (.int .i64 (IntKind.i64.wrap ((IntKind.i64.wrap (x58 * p2)) + x81))) ∧ inR .i64 (IntKind.i64.wrap ((IntKind.i64.wrap (x58 * p2)) + x81)) | 6 => v = (.int .i64 (IntKind.i64.wrap ((IntKind.i64.wrap ((IntKind.i64.wrap (x58 * p2)) + x81)).tdiv 8))) ∧ inR .i64 (IntKind.i64.wrap ((IntKind.i64.wrap ((IntKind.i64.wrap (x58 * p2)) + x81)).tdiv 8)) | 7 => PR (kInt .u8) m v x104 | 8 => v = (.int .u8 x104) ∧ inR .u8 x104 | 9 => v = (.int .i64 (IntKind.i64.wrap ((IntKind.i64.wrap (x58 * p2)) + x81))) ∧ inR .i64 (IntKind.i64.wrap ((IntKind.i64.wrap (x58 * p2)) + x81)) | 10 => v = (.int .i64 ((IntKind.i64.wrap ((IntKind.i64.wrap (x58 * p2)) + x81)).tmod 8)) ∧ inR .i64 ((IntKind.i64.wrap ((IntKind.i64.wrap (x58 * p2)) + x81)).tmod 8) | 11 => v = (.int .u8 (iShr .u8 x104 ((IntKind.i64.wrap ((IntKind.i64.wrap (x58 * p2)) + x81)).tmod 8))) ∧ inR .u8 (iShr .u8 x104 ((IntKind.i64.wrap ((IntKind.i64.wrap (x58 * p2)) + x81)).tmod 8)) | 12 => v = (.int .u8 (bAnd .u8 (iShr .u8 x104 ((IntKind.i64.wrap ((IntKind.i64.wrap (x58 * p2)) + x81)).tmod 8)) 1)) ∧ inR .u8 (bAnd .u8 (iShr .u8 x104 ((IntKind.i64.wrap ((IntKind.i64.wrap (x58 * p2)) + x81)).tmod 8)) 1) | 13 => v = (.int .u64 (IntKind.u64.wrap (bAnd .u8 (iShr .u8 x104 ((IntKind.i64.wrap ((IntKind.i64.wrap (x58 * p2)) + x81)).tmod 8)) 1))) ∧ inR .u64 (IntKind.u64.wrap (bAnd .u8 (iShr .u8 x104 ((IntKind.i64.wrap ((IntKind.i64.wrap (x58 * p2)) + x81)).tmod 8)) 1)) | 14 => v = (.int .i64 x81) ∧ inR .i64 x81 | 15 => v = (.int .u64 (iShl .u64 (IntKind.u64.wrap (bAnd .u8 (iShr .u8 x104 ((IntKind.i64.wrap ((IntKind.i64.wrap (x58 * p2)) + x81)).tmod 8)) 1)) x81)) ∧ inR .u64 (iShl .u64 (IntKind.u64.wrap (bAnd .u8 (iShr .u8 x104 ((IntKind.i64.wrap ((IntKind.i64.wrap (x58 * p2)) + x81)).tmod 8)) 1)) x81) | _ => True)) (Q := (fun c m ws L' TL' => match c with | 0 => (b40, cs84) :: (b0_, c0_32) :: L = L' ∧ TL = TL' | _ => False)) (cs := [⟨0, 0, false, [(8, v43)]⟩, ⟨0, 0, false, [(9, (.int .i64 x58))]⟩, ⟨0, 0, false, []⟩, ⟨0, 0, false, []⟩, ⟨0, 0, false, [(7, v35)]⟩, ⟨0, 0, false, [(11, (.int .i64 (IntKind.i64.wrap ((IntKind.i64.wrap (x58 * p2)) + x81))))]⟩, ⟨0, 0, false, []⟩, ⟨0, 0, false, []⟩, ⟨0, 0, false, []⟩, ⟨0, 0, false, [(11, (.int .i64 (IntKind.i64.wrap ((IntKind.i64.wrap (x58 * p2)) + x81))))]⟩, ⟨0, 0, false, []⟩, ⟨0, 0, false, []⟩, ⟨0, 0, false, []⟩, ⟨0, 0, false, []⟩, ⟨0, 0, false, [(10, (.int .i64 x81))]⟩, ⟨0, 0, false, []⟩]) mixed hE hS ⟨rfl, rfl⟩ rfl rfl ⟨⟨rfl, trivial⟩, ⟨rfl, trivial⟩, trivial, trivial, ⟨rfl, trivial⟩, ⟨rfl, trivial⟩, trivial, trivial, trivial, ⟨rfl, trivial⟩, trivial, trivial, trivial, trivial, ⟨rfl, trivial⟩, trivial, trivial⟩ (by kernel_rfl) ?_ ?_ ?_ ?_
 {
 intro i m_ m2_ ws v hm_ hp_
 match i, hp_ with
 | 0, hp_ => exact hp_
 | 1, hp_ => exact hp_
 | 2, hp_ => exact hp_
 | 3, hp_ => exact hp_
 | 4, hp_ => exact hp_
 | 5, hp_ => exact hp_
 | 6, hp_ => exact hp_
 | 7, hp_ => exact PR.mono hp_ hm_
 | 8, hp_ => exact hp_
 | 9, hp_ => exact hp_
 | 10, hp_ => exact hp_
 | 11, hp_ => exact hp_
 | 12, hp_ => exact hp_
 | 13, hp_ => exact hp_
 | 14, hp_ => exact hp_
 | 15, hp_ => exact hp_
 | _ + 16, hp_ => exact trivial
 }
 {
 intro c m_ m2_ ws L_ T_ hm_ hq_
 match c, hq_ with
 | 0, ⟨e1_, e2_⟩ => exact ⟨e1_, e2_⟩
 | _ + 1, hq_ => exact hq_.elim
 }
 {
 refine ⟨?_, ?_, ?_, ?_, ?_, ?_, ?_, ?_, ?_, ?_, ?_, ?_, ?_, ?_, ?_, ?_, trivial⟩
 {
 refine cplain fun pre_ post_ L_ T_ m' a' w' hl' hp' hm' hq' hS' hE' hT' => ?_
 obtain rfl := len0 hl'
 refine Step.imp (Run1.pure (r_move hE' rfl)) ?_
 rintro _ _ ⟨rfl, rfl⟩
 exact ⟨_, M.le.refl _, hS', rfl⟩
 }
 {
 refine cplain fun pre_ post_ L_ T_ m' a' w' hl' hp' hm' hq' hS' hE' hT' => ?_
 obtain rfl := len0 hl'
 refine Step.imp (Run1.pure (r_move hE' rfl)) ?_
 rintro _ _ ⟨rfl, rfl⟩
 exact ⟨_, M.le.refl _, hS', ⟨rfl, hr59⟩⟩
 }
 {
 refine cplain fun pre_ post_ L_ T_ m' a' w' hl' hp' hm' hq' hS' hE' hT' => ?_
 obtain rfl := len0 hl'
 obtain rfl := len0 (lenz (a := 0) hp')
 obtain ⟨rfl, rfl⟩ := hq'
 obtain ⟨v115, e116, q117⟩ : ∃ v, a'.tmps.getD 42 undef = v ∧ (v = v43) := ⟨_, rfl, hT' 0 (by decide) 42 rfl⟩
 have hE := hE'.add (e116.trans q117)
 obtain ⟨v118, e119, q120⟩ : ∃ v, a'.tmps.getD 43 undef = v ∧ (v = (.int .i64 x58) ∧ inR .i64 x58) := ⟨_, rfl, hT' 1 (by decide) 43 rfl⟩
 obtain ⟨q120, hr121⟩ := q120
 have hE := hE.add (e119.trans q120)
 refine Step.imp (Run1.pure (r_indexG (k := (kInt .u64)) hE rfl rfl Tryz.underlying189 Tryz.sizeOf54 (hc85.mono hm') hj99 rfl)) ?_
 rintro _ _ ⟨rfl, rfl⟩
 exact ⟨_, M.le.refl _, hS', rfl⟩
 }
 {
 refine cplain fun pre_ post_ L_ T_ m' a' w' hl' hp' hm' hq' hS' hE' hT' => ?_
 obtain rfl := len0 hl'
 obtain rfl := len0 (lenz (a := 0) hp')
 obtain ⟨rfl, rfl⟩ := hq'
 obtain ⟨v123, e124, q125⟩ : ∃ v, a'.tmps.getD 44 undef = v ∧ (v = (.pointer (some ⟨b40, j98 * 1, none⟩))) := ⟨_, rfl, hT' 2 (by decide) 44 rfl⟩
 have hE := hE'.add (e124.trans q125)
 refine Step.imp (st_loadL hE hS' ty54 rfl (i := 0) rfl (GS.elem (hc85.mono hm') hx102)) ?_
 rintro v126 _ ⟨rfl, hv100⟩
 obtain ⟨rfl, hr127⟩ := RV_int hv100
 exact ⟨_, M.le.refl _, hS', ⟨rfl, hr127⟩⟩
 }
 {
 refine cplain fun pre_ post_ L_ T_ m' a' w' hl' hp' hm' hq' hS' hE' hT' => ?_
 obtain rfl := len0 hl'
 refine Step.imp (Run1.pure (r_move hE' rfl)) ?_
 rintro _ _ ⟨rfl, rfl⟩
 exact ⟨_, M.le.refl _, hS', rfl⟩
 }
 {
 refine cplain fun pre_ post_ L_ T_ m' a' w' hl' hp' hm' hq' hS' hE' hT' => ?_
 obtain rfl := len0 hl'
 refine Step.imp (Run1.pure (r_move hE' rfl)) ?_
 rintro _ _ ⟨rfl, rfl⟩
 exact ⟨_, M.le.refl _, hS', ⟨rfl, (inR_wrap _ _)⟩⟩
 }
 {
 refine cplain fun pre_ post_ L_ T_ m' a' w' hl' hp' hm' hq' hS' hE' hT' => ?_
 obtain rfl := len0 hl'
 obtain ⟨v130, e131, q132⟩ : ∃ v, a'.tmps.getD 47 undef = v ∧ (v = (.int .i64 (IntKind.i64.wrap ((IntKind.i64.wrap (x58 * p2)) + x81))) ∧ inR .i64 (IntKind.i64.wrap ((IntKind.i64.wrap (x58 * p2)) + x81))) := ⟨_, rfl, hT' 5 (by decide) 47 rfl⟩
 obtain ⟨q132, hr133⟩ := q132
 have hE := hE'.add (e131.trans q132)
 refine Step.imp (Run1.pure (r_bin hE rfl rfl (b_quo rfl (by decide)))) ?_
 rintro _ _ ⟨rfl, rfl⟩
 exact ⟨_, M.le.refl _, hS', ⟨rfl, (inR_wrap _ _)⟩⟩
 }
 {
 refine cplain fun pre_ post_ L_ T_ m' a' w' hl' hp' hm' hq' hS' hE' hT' => ?_
 obtain rfl := len0 hl'
 obtain ⟨v135, e136, q137⟩ : ∃ v, a'.tmps.getD 46 undef = v ∧ (v = v35) := ⟨_, rfl, hT' 4 (by decide) 46 rfl⟩
 have hE := hE'.add (e136.trans q137)
 obtain ⟨v138, e139, q140⟩ : ∃ v, a'.tmps.getD 48 undef = v ∧ (v = (.int .i64 (IntKind.i64.wrap ((IntKind.i64.wrap ((IntKind.i64.wrap (x58 * p2)) + x81)).tdiv 8))) ∧ inR .i64 (IntKind.i64.wrap ((IntKind.i64.wrap ((IntKind.i64.wrap (x58 * p2)) + x81)).tdiv 8))) := ⟨_, rfl, hT' 6 (by decide) 48 rfl⟩
 obtain ⟨q140, hr141⟩ := q140
 have hE := hE.add (e139.trans q140)
 refine Step.imp (st_index (k := (kInt .u8)) hE rfl rfl Tryz.underlying24 Tryz.sizeOf5 (hv34.mono (M.le.trans hm57 (M.le.trans hm80 hm'))) hx105) ?_
 rintro v142 _ ⟨rfl, hp106⟩
 exact ⟨_, M.le.refl _, hS', hp106⟩
 }
 {
 refine cplain fun pre_ post_ L_ T_ m' a' w' hl' hp' hm' hq' hS' hE' hT' => ?_
 obtain rfl := len0 hl'
 obtain ⟨v143, e144, q145⟩ : ∃ v, a'.tmps.getD 49 undef = v ∧ (PR (kInt .u8) m' v x104) := ⟨_, rfl, hT' 7 (by decide) 49 rfl⟩
 have hE := hE'.add (e144)
 refine Step.imp (st_loadM hE hS' ty5 rfl q145) ?_
 rintro v146 _ ⟨rfl, hv107⟩
 obtain ⟨rfl, hr147⟩ := RV_int hv107
 exact ⟨_, M.le.refl _, hS', ⟨rfl, hr147⟩⟩
 }
 {
 refine cplain fun pre_ post_ L_ T_ m' a' w' hl' hp' hm' hq' hS' hE' hT' => ?_
 obtain rfl := len0 hl'
 refine Step.imp (Run1.pure (r_move hE' rfl)) ?_
 rintro _ _ ⟨rfl, rfl⟩
 exact ⟨_, M.le.refl _, hS', ⟨rfl, (inR_wrap _ _)⟩⟩
 }
 {
 refine cplain fun pre_ post_ L_ T_ m' a' w' hl' hp' hm' hq' hS' hE' hT' => ?_
 obtain rfl := len0 hl'
 obtain ⟨v149, e150, q151⟩ : ∃ v, a'.tmps.getD 51 undef = v ∧ (v = (.int .i64 (IntKind.i64.wrap ((IntKind.i64.wrap (x58 * p2)) + x81))) ∧ inR .i64 (IntKind.i64.wrap ((IntKind.i64.wrap (x58 * p2)) + x81))) := ⟨_, rfl, hT' 9 (by decide) 51 rfl⟩
 obtain ⟨q151, hr152⟩ := q151
 have hE := hE'.add (e150.trans q151)
 refine Step.imp (Run1.pure (r_bin hE rfl rfl (b_rem rfl (by decide)))) ?_
 rintro _ _ ⟨rfl, rfl⟩
 exact ⟨_, M.le.refl _, hS', ⟨rfl, (inR_mod hr152)⟩⟩
 }
 {
 refine cplain fun pre_ post_ L_ T_ m' a' w' hl' hp' hm' hq' hS' hE' hT' => ?_
 obtain rfl := len0 hl'
 obtain ⟨v154, e155, q156⟩ : ∃ v, a'.tmps.getD 50 undef = v ∧ (v = (.int .u8 x104) ∧ inR .u8 x104) := ⟨_, rfl, hT' 8 (by decide) 50 rfl⟩
 obtain ⟨q156, hr157⟩ := q156
 have hE := hE'.add (e155.trans q156)
 obtain ⟨v158, e159, q160⟩ : ∃ v, a'.tmps.getD 52 undef = v ∧ (v = (.int .i64 ((IntKind.i64.wrap ((IntKind.i64.wrap (x58 * p2)) + x81)).tmod 8)) ∧ inR .i64 ((IntKind.i64.wrap ((IntKind.i64.wrap (x58 * p2)) + x81)).tmod 8)) := ⟨_, rfl, hT' 10 (by decide) 52 rfl⟩
 obtain ⟨q160, hr161⟩ := q160
 have hE := hE.add (e159.trans q160)
 refine Step.imp (Run1.pure (r_bin hE rfl rfl (b_shr rfl (of_decide_eq_true (chk_some hu110))))) ?_
 rintro _ _ ⟨rfl, rfl⟩
 exact ⟨_, M.le.refl _, hS', ⟨rfl, (inR_shr hr157 _)⟩⟩
 }
 {
 refine cplain fun pre_ post_ L_ T_ m' a' w' hl' hp' hm' hq' hS' hE' hT' => ?_
 obtain rfl := len0 hl'
 obtain ⟨v163, e164, q165⟩ : ∃ v, a'.tmps.getD 53 undef = v ∧ (v = (.int .u8 (iShr .u8 x104 ((IntKind.i64.wrap ((IntKind.i64.wrap (x58 * p2)) + x81)).tmod 8))) ∧ inR .u8 (iShr .u8 x104 ((IntKind.i64.wrap ((IntKind.i64.wrap (x58 * p2)) + x81)).tmod 8))) := ⟨_, rfl, hT' 11 (by decide) 53 rfl⟩
 obtain ⟨q165, hr166⟩ := q165
 have hE := hE'.add (e164.trans q165)
 refine Step.imp (Run1.pure (r_bin hE rfl rfl (b_and rfl))) ?_
 rintro _ _ ⟨rfl, rfl⟩
 exact ⟨_, M.le.refl _, hS', ⟨rfl, (inR_and _ _ _)⟩⟩
 }
 {
 refine cplain fun pre_ post_ L_ T_ m' a' w' hl' hp' hm' hq' hS' hE' hT' => ?_
 obtain rfl := len0 hl'
 obtain ⟨v168, e169, q170⟩ : ∃ v, a'.tmps.getD 54 undef = v ∧ (v = (.int .u8 (bAnd .u8 (iShr .u8 x104 ((IntKind.i64.wrap ((IntKind.i64.wrap (x58 * p2)) + x81)).tmod 8)) 1)) ∧ inR .u8 (bAnd .u8 (iShr .u8 x104 ((IntKind.i64.wrap ((IntKind.i64.wrap (x58 * p2)) + x81)).tmod 8)) 1)) := ⟨_, rfl, hT' 12 (by decide) 54 rfl⟩
 obtain ⟨q170, hr171⟩ := q170
 have hE := hE'.add (e169.trans q170)
 refine Step.imp (Run1.pure (r_conv hE rfl Tryz.underlying5 Tryz.underlying54 rfl)) ?_
 rintro _ _ ⟨rfl, rfl⟩
 exact ⟨_, M.le.refl _, hS', ⟨rfl, (inR_wrap _ _)⟩⟩
 }
 {
 refine cplain fun pre_ post_ L_ T_ m' a' w' hl' hp' hm' hq' hS' hE' hT' => ?_
 obtain rfl := len0 hl'
 refine Step.imp (Run1.pure (r_move hE' rfl)) ?_
 rintro _ _ ⟨rfl, rfl⟩
 exact ⟨_, M.le.refl _, hS', ⟨rfl, hr82⟩⟩
 }
 {
 refine cplain fun pre_ post_ L_ T_ m' a' w' hl' hp' hm' hq' hS' hE' hT' => ?_
 obtain rfl := len0 hl'
 obtain ⟨v174, e175, q176⟩ : ∃ v, a'.tmps.getD 55 undef = v ∧ (v = (.int .u64 (IntKind.u64.wrap (bAnd .u8 (iShr .u8 x104 ((IntKind.i64.wrap ((IntKind.i64.wrap (x58 * p2)) + x81)).tmod 8)) 1))) ∧ inR .u64 (IntKind.u64.wrap (bAnd .u8 (iShr .u8 x104 ((IntKind.i64.wrap ((IntKind.i64.wrap (x58 * p2)) + x81)).tmod 8)) 1))) := ⟨_, rfl, hT' 13 (by decide) 55 rfl⟩
 obtain ⟨q176, hr177⟩ := q176
 have hE := hE'.add (e175.trans q176)
 obtain ⟨v178, e179, q180⟩ : ∃ v, a'.tmps.getD 56 undef = v ∧ (v = (.int .i64 x81) ∧ inR .i64 x81) := ⟨_, rfl, hT' 14 (by decide) 56 rfl⟩
 obtain ⟨q180, hr181⟩ := q180
 have hE := hE.add (e179.trans q180)
 refine Step.imp (Run1.pure (r_bin hE rfl rfl (b_shl rfl (of_decide_eq_true (chk_some hu112))))) ?_
 rintro _ _ ⟨rfl, rfl⟩
 exact ⟨_, M.le.refl _, hS', ⟨rfl, (inR_shl _ _ _)⟩⟩
 }
 }
 {
 intro ws_ L_ T_ m183 a w hl184 hm185 hq186 hS hd187 hn188 ho189 hT190
 obtain rfl := len0 hl184
 obtain ⟨rfl, rfl⟩ := hq186
 have hE := EnvD.of (k := 16) (l' := [(2, (.int .i64 p2)), (7, v35), (8, v43), (9, (.int .i64 x58)), (10, (.int .i64 x81)), (11, (.int .i64 (IntKind.i64.wrap ((IntKind.i64.wrap (x58 * p2)) + x81)))), (29, (.int .i64 (z38.length : Int))), (30, (.int .i64 x58)), (33, (.int .i64 p2)), (34, (.int .i64 x81)), (35, (.bool (decide (x81 < p2)))), (36, (.int .i64 x81)), (37, (.int .i64 x58)), (38, (.int .i64 p2)), (39, (.int .i64 (IntKind.i64.wrap (x58 * p2)))), (40, (.int .i64 x81)), (41, (.int .i64 (IntKind.i64.wrap ((IntKind.i64.wrap (x58 * p2)) + x81))))]) hd187 hn188 ho189 ⟨rfl, rfl, rfl, rfl, rfl, rfl, rfl, rfl, rfl, rfl, rfl, rfl, rfl, rfl, rfl, rfl, rfl, trivial⟩ rfl
 obtain ⟨v191, e192, q193⟩ : ∃ v, a.tmps.getD 42 undef = v ∧ (v = v43) := ⟨_, rfl, hT190 0 (by decide) 42 rfl⟩
 have hE := hE.add (e192.trans q193)
 obtain ⟨v194, e195, q196⟩ : ∃ v, a.tmps.getD 43 undef = v ∧ (v = (.int .i64 x58) ∧ inR .i64 x58) := ⟨_, rfl, hT190 1 (by decide) 43 rfl⟩
 obtain ⟨q196, hr197⟩ := q196
 have hE := hE.add (e195.trans q196)
 obtain ⟨v198, e199, q200⟩ : ∃ v, a.tmps.getD 45 undef = v ∧ (v = (.int .u64 x101) ∧ inR .u64 x101) := ⟨_, rfl, hT190 3 (by decide) 45 rfl⟩
 obtain ⟨q200, hr201⟩ := q200
 have hE := hE.add (e199.trans q200)
 obtain ⟨v202, e203, q204⟩ : ∃ v, a.tmps.getD 57 undef = v ∧ (v = (.int .u64 (iShl .u64 (IntKind.u64.wrap (bAnd .u8 (iShr .u8 x104 ((IntKind.i64.wrap ((IntKind.i64.wrap (x58 * p2)) + x81)).tmod 8)) 1)) x81)) ∧ inR .u64 (iShl .u64 (IntKind.u64.wrap (bAnd .u8 (iShr .u8 x104 ((IntKind.i64.wrap ((IntKind.i64.wrap (x58 * p2)) + x81)).tmod 8)) 1)) x81)) := ⟨_, rfl, hT190 15 (by decide) 57 rfl⟩
 obtain ⟨q204, hr205⟩ := q204
 have hE := hE.add (e203.trans q204)
 refine sp hE (r_bin hE rfl rfl (b_or rfl)) rfl fun a hE => ?_
 obtain ⟨j207, hj208, h⟩ := ob h
 refine sp hE (r_indexG (k := (kInt .u64)) hE rfl rfl Tryz.underlying189 Tryz.sizeOf54 (hc85.mono hm185) hj208 rfl) rfl fun a hE => ?_
 obtain ⟨x212, hx213, h⟩ := ob h
 refine st0 hE (st_storeG (k := (kInt .u64)) hE hS ty54 StF_self (hc85.mono hm185) hx213 rfl rfl (RV_of_int (inR_or _ _ _)) (i := 0) rfl) ?_
 rintro _ w ⟨cs210, hc211, hS⟩ hE
 refine knil (kreg ?_)
 refine sp hE (r_bin hE rfl rfl (b_add rfl)) rfl fun a hE => ?_
 refine qm hE rfl rfl fun a hE => ?_
 refine knil ?_
 exact ⟨(IntKind.i64.wrap (x81 + 1), (x83.set j207 (bOr .u64 x101 (iShl .u64 (IntKind.u64.wrap (bAnd .u8 (iShr .u8 x104 ((IntKind.i64.wrap ((IntKind.i64.wrap (x58 * p2)) + x81)).tmod 8)) 1)) x81)))), (Option.some.inj h).symm, _, (M.le.trans hm80 hm185), cs210, (inR_wrap _ _), hc211, hS, hE.cut ⟨rfl, rfl, rfl, rfl, rfl, rfl, rfl, rfl, trivial⟩⟩
 }
 }
 {
 have h := ite_F hd89 h
 refine kexit rfl rfl ?_
 have h := unwrap h hb87
 exact ⟨x83, h, _, hm80, cs84, hc85, hS, hE.cut ⟨rfl, rfl, rfl, rfl, rfl, trivial⟩⟩
 }
 }
 }
 {
 rintro a w ⟨x69, h, m67, hm68, cs70, hc71, hS, hE⟩
 unfold encode_reader_unpacked_j2 at h
 refine kreg ?_
 refine sp hE (r_bin hE rfl rfl (b_add rfl)) rfl fun a hE => ?_
 refine qm hE rfl rfl fun a hE => ?_
 refine knil ?_
 exact ⟨(IntKind.i64.wrap (x58 + 1), x69), (Option.some.inj h).symm, _, (M.le.trans hm57 hm68), cs70, (inR_wrap _ _), hc71, hS, hE.cut ⟨rfl, rfl, rfl, rfl, rfl, trivial⟩⟩
 }
 }
 {
 have h := ite_F hd66 h
 obtain ⟨m217, hm218, hS, hv219⟩ := S.freeze hS hc62
 refine kexit rfl rfl ?_
 have h := unwrap h hb64
 exact ⟨x60, h, _, (M.le.trans hm57 hm218), v43, hv219, hS, hE.cut ⟨rfl, trivial⟩⟩
 }
 }
 }
 {
 rintro a w ⟨x50, h, m48, hm49, v51, hv52, hS, hE⟩
 unfold encode_reader_unpacked_j1 at h
 refine kseq (kreg ?_)
 refine qm hE rfl rfl fun a hE => ?_
 refine qa hE rfl rfl fun a hE => ?_
 refine knil (kret ?_)
 obtain rfl := oi h
 try dsimp only
 refine Fin.mk hE (rs := [.tmp 6]) rfl (ResL.tmp hE rfl ResL.nil) ?_
 exact ⟨_, (M.le.trans hm31 hm49), c0_32, hS, (kEncode_reader.mono hm49 hc0_33), hv52⟩
 }
 }
theorem ct_169 : Ctr Sz Tryz.prog 169 [.pt (.st 161), .rd (.int .i64), .rd (.int .i64)] [.rd (.sl (.int .u64))] (fun x => encode_reader_unpacked x.1 x.2.1 x.2.2.1) := by
 intro W0 m w L TL vs x r Lp Tp hS hP h
 obtain ⟨b0, c0, vs, Lp, rfl, rfl, a0, hP0⟩ := PR_pt hP
 obtain ⟨v1, vs, rfl, a1, hP1⟩ := PR_rd hP0
 obtain ⟨rfl, n1⟩ := RV_int a1
 obtain ⟨v2, vs, rfl, a2, hP2⟩ := PR_rd hP1
 obtain ⟨rfl, n2⟩ := RV_int a2
 obtain ⟨rfl, rfl, rfl⟩ := PR_nil hP2
 refine (c_encode_reader_unpacked (hS := hS) a0 n1 n2 h).mono ?_
 intro e w' he
 cases e with
 | returned v =>
  obtain ⟨m', hm, q0, hS', o0, r0⟩ := he
  exact ⟨m', [v], [], [(b0, q0)], [], hm, hS', rfl, ⟨r0, trivial⟩, ⟨rfl, o0, trivial⟩⟩
 | panicked ch => exact he.elim
 | outgrown => exact he.elim
noncomputable def cs_169 : CS Tryz.prog Sz := ⟨169, _, _, _, ct_169, Tryz.call169⟩
theorem ct_120 : Ctr Sz Tryz.prog 120 [.pt (.st 161), .rd (.int .i64), .rd (.int .i64)] [.ap (.st 32)] (fun x => encode_reader_guess x.1 x.2.1 x.2.2.1) :=
 Ctr.nc (Γ := Γ) (D := [cs_136, cs_152, cs_164, cs_165, cs_166, cs_167, cs_168, cs_169]) (c := Tryz.f120.body.getD .skip) (res := [6]) (.s .o (.s .o (.s (.s .o (.b (.s .o (.i (.b (.l ⟨[.v 7 1 (.dat (.sl (.st 32)) (some 0)), .b 0 1 (.st 161)], [0, 2], 1, [4]⟩ .o)) (.s .o (.i (.b (.l ⟨[.v 7 1 (.dat (.sl (.st 32)) (some 0)), .b 0 1 (.st 161)], [0, 2], 1, [4]⟩ .o)) (.s .o (.i (.s .o (.s .o (.b (.l ⟨[.v 7 1 (.dat (.sl (.st 32)) (some 1)), .v 9 1 (.dat (.int .i64) none), .b 0 1 (.st 161)], [0, 2], 1, [4, 4]⟩ .o)))) (.s .o (.i (.s .o (.s (.s .o (.b (.l ⟨[.v 11 1 (.dat (.sl (.st 32)) (some 0)), .v 131 1 (.dat (.int .u8) none), .b 0 1 (.st 161)], [0, 2, 7, 130], 1, [4]⟩ .o))) (.s .o (.b (.l ⟨[.v 7 1 (.dat (.sl (.st 32)) (some 1)), .v 149 1 (.dat (.int .i64) none)], [11, 147, 148], 1, [4, 4]⟩ .o))))) (.s .o (.s .o (.b (.l ⟨[.v 7 1 (.dat (.sl (.st 32)) (some 0)), .v 29 1 (.dat (.int .i64) none)], [14, 27, 28], 1, [4]⟩ .o)))))))))))))) .o))) rfl mixed Tryz.func120 rfl Tryz.ntmps120 rfl rfl (fun x => by kernel_rfl)
noncomputable def cs_120 : CS Tryz.prog Sz := ⟨120, _, _, _, ct_120, Tryz.call120⟩
theorem ct_62 : Ctr Sz Tryz.prog 62 [.rd (.int .i64), .rd (.sl (.int .u8)), .rd (.int .i64)] [.rd (.sl (.st 32)), .rd (.int .i64)] (fun x => encode_Decode x.1 x.2.1 x.2.2.1) :=
 Ctr.nc (Γ := Γ) (D := [cs_47, cs_61, cs_120]) (c := Tryz.f62.body.getD .skip) (res := [6, 7]) .o rfl mixed Tryz.func62 rfl Tryz.ntmps62 rfl rfl (fun x => by kernel_rfl)
theorem c_encode_Decode {W0 : Bse} {m : M} {w : World} {L : List (Nat × List Value)} {TL : List (Nat × Value)} (hS : S W0 m w (L) (TL)) {p0 : Int} (ha0 : inR .i64 p0) {v1 : Value} {p1 : (List Int)} (ha1 : RV (kSl (kInt .u8)) m v1 p1) {p2 : Int} (ha2 : inR .i64 p2) {r : ((List Ap) × Int)} (h : encode_Decode p0 p1 p2 = some r) :
    Calls Tryz.prog 62 [(.int .i64 p0), v1, (.int .i64 p2)].toArray w (Ret fun v w' => ∃ m', M.le m m' ∧ S W0 m' w' (L) (TL) ∧ ∃ v0_ v1_ : Value, v = .tuple #[v0_, v1_] ∧ RV (kSl kAp) m' v0_ r.1 ∧ RV (kInt .i64) m' v1_ r.2) := by
 refine (ct_62 W0 m w L TL [(.int .i64 p0), v1, (.int .i64 p2)] (p0, p1, p2, ()) r [] [] hS ⟨RV_of_int ha0, ⟨ha1, ⟨RV_of_int ha2, trivial⟩⟩⟩ h).mono ?_
 intro e w' he
 cases e with
 | returned v =>
  obtain ⟨m', us, Lr, Lq, Tr, hm, hS', rfl, hR, hO⟩ := he
  obtain ⟨u0, us, rfl, r0, hR0⟩ := RR_rd hR
  obtain ⟨u1, us, rfl, r1, hR1⟩ := RR_rd hR0
  obtain ⟨rfl, rfl, rfl⟩ := RR_nil hR1
  have hO0 := OR_rd hO
  have hO1 := OR_rd hO0
  have hO2 := OR_rd hO1
  obtain rfl := OR_nil hO2
  exact ⟨m', hm, hS', u0, u1, rfl, r0, r1⟩
 | panicked ch => exact he.elim
 | outgrown => exact he.elim
end Go.Proofs.YthbonoagbeilkaaGreat.Hay
