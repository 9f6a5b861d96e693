import Derived.Test.YtifobhaccglckaaHbkC5
set_option maxRecDepth 100000
set_option maxHeartbeats 4000000
set_option linter.unusedVariables false
namespace Go.Proofs.Ytifobhaccglckaa.Hay
open Go.Proofs
theorem c_hayloftlaw07_BlockMany {W0 : Bse} {m : M} {w : World} {L : List (Nat × List Value)} {TL : List (Nat × Value)} (hS : S W0 m w (L) (TL)) {v0 : Value} {p0 : (List (List AV))} (ha0 : RV (kSl (kSl kAV)) m v0 p0) {v1 : Value} {p1 : (List Int)} (ha1 : RV (kSl (kInt .i64)) m v1 p1) {r : Bool} (h : hayloftlaw07_BlockMany p0 p1 = some r) :
    Calls Try.prog 13 [v0, v1].toArray w (Ret fun v w' => ∃ m', M.le m m' ∧ S W0 m' w' (L) (TL) ∧ RV kBool m' v r) := by
 refine kcallM Try.func13 rfl Try.ntmps13 (Nat.le_of_ble_eq_true rfl) fun a hE => ?_
 have hE : Env 86 a [(0, v0), (1, v1)] := hE
 unfold hayloftlaw07_BlockMany at h
 refine kseq (kreg ?_)
 refine st hE (st_alloc hS Try.zeroValue4 rfl (cs := zc4)) rfl ?_
 rintro _ a w ⟨b1, rfl, hS⟩ hE
 refine knil (kseq (kreg ?_))
 refine qa hE rfl rfl fun a hE => ?_
 refine knil (kseq (kreg ?_))
 refine st hE (st_alloc hS Try.zeroValue29 rfl (cs := [(.slice none 0 0)])) rfl ?_
 rintro _ a w ⟨b4, rfl, hS⟩ hE
 refine knil (kseq (kseq (kreg ?_)))
 refine qm hE rfl rfl fun a hE => ?_
 refine sp hE (r_lenSl (k := (kSl kAV)) hE rfl rfl Try.underlying65 ha0) rfl fun a hE => ?_
 refine qm hE rfl rfl fun a hE => ?_
 refine knil ?_
 refine kcut (fun a w => ∃ x11 : (List Int), ∃ x14 : (List AV), hayloftlaw07_BlockMany_j1 x11 x14 = some r ∧ ∃ m', M.le m m' ∧ ∃ (v12 : Value), ∃ (v15 : Value), RV (kSl (kInt .u8)) m' v12 x11 ∧ RV (kSl kAV) m' v15 x14 ∧ S W0 m' w ((b4, [v15]) :: (b1, zc4) :: L) ((1, v12) :: (4, v15) :: TL) ∧ Env 86 a [(4, (.pointer (some ⟨b1, 0, none⟩))), (5, v12), (6, (.pointer (some ⟨b4, 0, none⟩)))]) ?_ ?_
 {
 refine kblock ?_
 refine kloop h (fun (s : ((List Int) × Int × (List AV))) a w => ∃ m', M.le m m' ∧ ∃ (v403 : Value), ∃ (v408 : Value), RV (kSl (kInt .u8)) m' v403 s.1 ∧ inR .i64 s.2.1 ∧ RV (kSl kAV) m' v408 s.2.2 ∧ S W0 m' w ((b4, [v408]) :: (b1, zc4) :: L) ((1, v403) :: (4, v408) :: TL) ∧ Env 86 a [(0, v0), (1, v1), (4, (.pointer (some ⟨b1, 0, none⟩))), (5, v403), (6, (.pointer (some ⟨b4, 0, none⟩))), (16, (.int .i64 (p0.length : Int))), (17, (.int .i64 s.2.1))]) ?_ ?_
 {
 exact ⟨_, (M.le.refl _), (.slice none 0 0), (.slice none 0 0), RV_nil, (show inR .i64 0 from inR_lit (by decide)), RV_nil, (((hS.tail0 1).tail0 4).pickT 2 [1, 0] rfl rfl rfl), hE.cut ⟨rfl, rfl, rfl, rfl, rfl, rfl, rfl, trivial⟩⟩
 }
 {
 rintro ⟨x402, x405, x407⟩ a w ⟨m400, hm401, v403, v408, hv404, hr406, hc409, hS, hE⟩ r410 h hb411
 have h : hayloftlaw07_BlockMany_b2 p0 p1 x402 x405 x407 = some r410 := h
 unfold hayloftlaw07_BlockMany_b2 at h
 refine kseq (kreg ?_)
 refine sp hE (r_bin hE rfl rfl b_lss) rfl fun a hE => ?_
 refine knil (kseq ?_)
 refine kif hE rfl (fun hd413 => ?_) (fun hd413 => ?_)
 {
 have h := ite_T hd413 h
 refine kskip (kseq ?_)
 refine kcut (fun a w => ∃ x416 : (List Int), ∃ x419 : (List AV), hayloftlaw07_BlockMany_j5 x405 x416 x419 = some r410 ∧ ∃ m', M.le m400 m' ∧ ∃ (v417 : Value), ∃ (v420 : Value), RV (kSl (kInt .u8)) m' v417 x416 ∧ RV (kSl kAV) m' v420 x419 ∧ S W0 m' w ((b4, [v420]) :: (b1, zc4) :: L) ((1, v417) :: (4, v420) :: TL) ∧ Env 86 a [(0, v0), (1, v1), (4, (.pointer (some ⟨b1, 0, none⟩))), (5, v417), (6, (.pointer (some ⟨b4, 0, none⟩))), (16, (.int .i64 (p0.length : Int))), (17, (.int .i64 x405))]) ?_ ?_
 {
 refine kblock (kseq (kreg ?_))
 refine qm hE rfl rfl fun a hE => ?_
 refine qa hE rfl rfl fun a hE => ?_
 refine knil (kseq (kreg ?_))
 refine qa hE rfl rfl fun a hE => ?_
 refine knil (kseq (kseq (kreg ?_)))
 refine qm hE rfl rfl fun a hE => ?_
 refine qm hE rfl rfl fun a hE => ?_
 refine sp hE (r_lenSl (k := (kInt .i64)) hE rfl rfl Try.underlying22 (ha1.mono hm401)) rfl fun a hE => ?_
 refine sp hE (r_bin hE rfl rfl b_lss) rfl fun a hE => ?_
 refine knil ?_
 refine kcut (fun a w => ∃ x434 : Int, hayloftlaw07_BlockMany_j6 p0 x402 x405 x407 x434 = some r410 ∧ ∃ m', M.le m400 m' ∧ inR .i64 x434 ∧ S W0 m' w ((b4, [v408]) :: (b1, zc4) :: L) ((1, v403) :: (4, v408) :: TL) ∧ Env 86 a [(0, v0), (1, v1), (4, (.pointer (some ⟨b1, 0, none⟩))), (5, v403), (6, (.pointer (some ⟨b4, 0, none⟩))), (7, (.int .i64 x405)), (8, (.int .i64 x434)), (16, (.int .i64 (p0.length : Int))), (17, (.int .i64 x405))]) ?_ ?_
 {
 refine kif hE rfl (fun hd516 => ?_) (fun hd516 => ?_)
 {
 have h := ite_T hd516 h
 refine kreg ?_
 refine qm hE rfl rfl fun a hE => ?_
 refine qm hE rfl rfl fun a hE => ?_
 obtain ⟨x519, hx520, h⟩ := ob h
 refine st hE (st_index (k := (kInt .i64)) hE rfl rfl Try.underlying22 Try.sizeOf3 (ha1.mono hm401) hx520) rfl ?_
 rintro v522 a _ ⟨rfl, hp521⟩ hE
 refine st hE (st_loadM hE hS ty3 rfl hp521) rfl ?_
 rintro v524 a _ ⟨rfl, hv523⟩ hE
 obtain ⟨rfl, hr525⟩ := RV_int hv523
 refine qa hE rfl rfl fun a hE => ?_
 refine knil ?_
 exact ⟨x519, h, _, (M.le.refl _), hr525, hS, hE.cut ⟨rfl, rfl, rfl, rfl, rfl, rfl, rfl, rfl, rfl, trivial⟩⟩
 }
 {
 have h := ite_F hd516 h
 refine kskip ?_
 exact ⟨(-1), h, _, (M.le.refl _), (show inR .i64 (-1) from inR_lit (by decide)), hS, hE.cut ⟨rfl, rfl, rfl, rfl, rfl, rfl, rfl, rfl, rfl, trivial⟩⟩
 }
 }
 {
 rintro a w ⟨x434, h, m432, hm433, hr435, hS, hE⟩
 unfold hayloftlaw07_BlockMany_j6 at h
 refine kseq (kreg ?_)
 refine qm hE rfl rfl fun a hE => ?_
 refine qm hE rfl rfl fun a hE => ?_
 refine qm hE rfl rfl fun a hE => ?_
 obtain ⟨x440, hx441, h⟩ := ob h
 refine st hE (st_index (k := (kSl kAV)) hE rfl rfl Try.underlying65 Try.sizeOf29 (ha0.mono (M.le.trans hm401 hm433)) hx441) rfl ?_
 rintro v443 a _ ⟨rfl, hp442⟩ hE
 refine st hE (st_loadM hE hS ty29 rfl hp442) rfl ?_
 rintro v445 a _ ⟨rfl, hv444⟩ hE
 obtain ⟨r446, hr447, h⟩ := ob h
 refine st hE (st_call (vs := [(.int .i64 x434), v445]) hE rfl Try.call32 (c_block_Write (hS := hS) hr435 hv444 hr447)) rfl ?_
 rintro _ a w ⟨m448, hm449, hS, v0_450, v1_451, rfl, hv0_452, hv1_453⟩ hE
 obtain ⟨rfl, hr455⟩ := RV_int hv1_453
 refine qm hE rfl rfl fun a hE => ?_
 refine sp hE (r_extract hE rfl rfl) rfl fun a hE => ?_
 refine sp hE (r_extract hE rfl rfl) rfl fun a hE => ?_
 refine qa hE rfl rfl fun a hE => ?_
 refine qa hE rfl rfl fun a hE => ?_
 refine knil (kseq (kseq (kreg ?_)))
 refine qm hE rfl rfl fun a hE => ?_
 refine sp hE (r_bin hE rfl rfl b_neq) rfl fun a hE => ?_
 refine knil ?_
 refine kif hE rfl (fun hd463 => ?_) (fun hd463 => ?_)
 {
 have h := ite_T hd463 h
 refine kexit rfl rfl ?_
 exact ⟨x402, x407, h, _, (M.le.trans hm433 hm449), v403, v408, (hv404.mono (M.le.trans hm433 hm449)), (hc409.mono (M.le.trans hm433 hm449)), hS, hE.cut ⟨rfl, rfl, rfl, rfl, rfl, rfl, rfl, trivial⟩⟩
 }
 {
 have h := ite_F hd463 h
 refine kskip (kseq (kreg ?_))
 refine qm hE rfl rfl fun a hE => ?_
 refine qm hE rfl rfl fun a hE => ?_
 obtain ⟨z466, hz467, h⟩ := ob h
 refine st hE (st_app (k := (kInt .u8)) (N := 140737488355328) hE hS rfl rfl Try.underlying37 Try.underlying37 el5 (i := 0) rfl (hv404.mono (M.le.trans hm433 hm449)) hv0_452 hz467 rfl rfl) rfl ?_
 rintro v471 a w ⟨m469, hm470, hS, hv468⟩ hE
 refine qa hE rfl rfl fun a hE => ?_
 refine knil ?_
 obtain ⟨x474, hx475, h⟩ := ob h
 refine kchain (k := 5) (m := m469) (es := []) (Φ := (fun i m ws v => match i with | 0 => v = v408 | 1 => v = v0 | 2 => v = (.int .i64 x405) ∧ inR .i64 x405 | 3 => PR (kSl kAV) m v x474 | 4 => RV (kSl kAV) m v x474 | _ => True)) (Q := (fun c m ws L' TL' => match c with | 0 => (b4, [v408]) :: (b1, zc4) :: L = L' ∧ (1, v471) :: (4, v408) :: TL = TL' | _ => False)) (cs := [⟨0, 0, false, [(6, (.pointer (some ⟨b4, 0, none⟩)))]⟩, ⟨0, 0, false, [(0, v0)]⟩, ⟨0, 0, false, [(7, (.int .i64 x405))]⟩, ⟨0, 0, false, []⟩, ⟨0, 0, false, []⟩]) mixed hE hS ⟨rfl, rfl⟩ rfl rfl ⟨⟨rfl, trivial⟩, ⟨rfl, trivial⟩, ⟨rfl, trivial⟩, trivial, trivial, trivial⟩ (by kernel_rfl) ?_ ?_ ?_ ?_
 {
 intro i m_ m2_ ws v hm_ hp_
 match i, hp_ with
 | 0, hp_ => exact hp_
 | 1, hp_ => exact hp_
 | 2, hp_ => exact hp_
 | 3, hp_ => exact PR.mono hp_ hm_
 | 4, hp_ => exact RV.mono hp_ hm_
 | _ + 5, hp_ => exact trivial
 }
 {
 intro c m_ m2_ ws L_ T_ hm_ hq_
 match c, hq_ with
 | 0, ⟨e1_, e2_⟩ => exact ⟨e1_, e2_⟩
 | _ + 1, hq_ => exact hq_.elim
 }
 {
 refine ⟨?_, ?_, ?_, ?_, ?_, trivial⟩
 {
 refine cplain fun pre_ post_ L_ T_ m' a' w' hl' hp' hm' hq' hS' hE' hT' => ?_
 obtain rfl := len0 hl'
 obtain rfl := len0 (lenz (a := 0) hp')
 obtain ⟨rfl, rfl⟩ := hq'
 refine Step.imp (Run1.pure (st_loadSl (k := kAV) hE' hS' ty29 rfl (i := 0) rfl (hc409.mono (M.le.trans hm433 (M.le.trans hm449 (M.le.trans hm470 hm')))))) ?_
 rintro _ _ ⟨rfl, rfl⟩
 exact ⟨_, M.le.refl _, hS', rfl⟩
 }
 {
 refine cplain fun pre_ post_ L_ T_ m' a' w' hl' hp' hm' hq' hS' hE' hT' => ?_
 obtain rfl := len0 hl'
 refine Step.imp (Run1.pure (r_move hE' rfl)) ?_
 rintro _ _ ⟨rfl, rfl⟩
 exact ⟨_, M.le.refl _, hS', rfl⟩
 }
 {
 refine cplain fun pre_ post_ L_ T_ m' a' w' hl' hp' hm' hq' hS' hE' hT' => ?_
 obtain rfl := len0 hl'
 refine Step.imp (Run1.pure (r_move hE' rfl)) ?_
 rintro _ _ ⟨rfl, rfl⟩
 exact ⟨_, M.le.refl _, hS', ⟨rfl, hr406⟩⟩
 }
 {
 refine cplain fun pre_ post_ L_ T_ m' a' w' hl' hp' hm' hq' hS' hE' hT' => ?_
 obtain rfl := len0 hl'
 obtain ⟨v481, e482, q483⟩ : ∃ v, a'.tmps.getD 43 undef = v ∧ (v = v0) := ⟨_, rfl, hT' 1 (by decide) 43 rfl⟩
 have hE := hE'.add (e482.trans q483)
 obtain ⟨v484, e485, q486⟩ : ∃ v, a'.tmps.getD 44 undef = v ∧ (v = (.int .i64 x405) ∧ inR .i64 x405) := ⟨_, rfl, hT' 2 (by decide) 44 rfl⟩
 obtain ⟨q486, hr487⟩ := q486
 have hE := hE.add (e485.trans q486)
 refine Step.imp (st_index (k := (kSl kAV)) hE rfl rfl Try.underlying65 Try.sizeOf29 (ha0.mono (M.le.trans hm401 (M.le.trans hm433 (M.le.trans hm449 (M.le.trans hm470 hm'))))) hx475) ?_
 rintro v488 _ ⟨rfl, hp476⟩
 exact ⟨_, M.le.refl _, hS', hp476⟩
 }
 {
 refine cplain fun pre_ post_ L_ T_ m' a' w' hl' hp' hm' hq' hS' hE' hT' => ?_
 obtain rfl := len0 hl'
 obtain ⟨v489, e490, q491⟩ : ∃ v, a'.tmps.getD 45 undef = v ∧ (PR (kSl kAV) m' v x474) := ⟨_, rfl, hT' 3 (by decide) 45 rfl⟩
 have hE := hE'.add (e490)
 refine Step.imp (st_loadM hE hS' ty29 rfl q491) ?_
 rintro v492 _ ⟨rfl, hv477⟩
 exact ⟨_, M.le.refl _, hS', hv477⟩
 }
 }
 {
 intro ws_ L_ T_ m493 a w hl494 hm495 hq496 hS hd497 hn498 ho499 hT500
 obtain rfl := len0 hl494
 obtain ⟨rfl, rfl⟩ := hq496
 have hE := EnvD.of (k := 5) (l' := [(0, v0), (1, v1), (4, (.pointer (some ⟨b1, 0, none⟩))), (5, v471), (6, (.pointer (some ⟨b4, 0, none⟩))), (7, (.int .i64 x405)), (8, (.int .i64 x434)), (9, v0_450), (10, (.int .i64 r446.2)), (16, (.int .i64 (p0.length : Int))), (17, (.int .i64 x405)), (28, (.tuple #[v0_450, (.int .i64 r446.2)])), (29, (.int .i64 x434)), (30, v0), (31, (.int .i64 x405)), (32, v443), (33, v445), (34, (.tuple #[v0_450, (.int .i64 r446.2)])), (35, v0_450), (36, (.int .i64 r446.2)), (37, (.int .i64 r446.2)), (38, (.bool (r446.2 != 0))), (39, v403), (40, v0_450), (41, v471)]) hd497 hn498 ho499 ⟨rfl, rfl, rfl, rfl, rfl, rfl, rfl, rfl, rfl, rfl, rfl, rfl, rfl, rfl, rfl, rfl, rfl, rfl, rfl, rfl, rfl, rfl, rfl, rfl, rfl, trivial⟩ rfl
 obtain ⟨v501, e502, q503⟩ : ∃ v, a.tmps.getD 42 undef = v ∧ (v = v408) := ⟨_, rfl, hT500 0 (by decide) 42 rfl⟩
 have hE := hE.add (e502.trans q503)
 obtain ⟨v504, e505, q506⟩ : ∃ v, a.tmps.getD 46 undef = v ∧ (RV (kSl kAV) m493 v x474) := ⟨_, rfl, hT500 4 (by decide) 46 rfl⟩
 have hE := hE.add (e505)
 obtain ⟨z507, hz508, h⟩ := ob h
 refine st hE (st_app (k := kAV) (N := 3518437208883) hE hS rfl rfl Try.underlying29 Try.underlying29 el53 (i := 1) rfl (hc409.mono (M.le.trans hm433 (M.le.trans hm449 (M.le.trans hm470 hm495)))) q506 hz508 rfl rfl) rfl ?_
 rintro v512 a w ⟨m510, hm511, hS, hv509⟩ hE
 refine st0 hE (st_storeSl (k := kAV) hE hS ty29 rfl rfl hv509 (i := 0) rfl) ?_
 rintro _ w hS hE
 refine knil ?_
 exact ⟨z466, z507, h, _, (M.le.trans hm433 (M.le.trans hm449 (M.le.trans hm470 (M.le.trans hm495 hm511)))), v471, v512, (hv468.mono (M.le.trans hm495 hm511)), hv509, hS, hE.cut ⟨rfl, rfl, rfl, rfl, rfl, rfl, rfl, trivial⟩⟩
 }
 }
 }
 }
 {
 rintro a w ⟨x416, x419, h, m414, hm415, v417, v420, hv418, hc421, hS, hE⟩
 unfold hayloftlaw07_BlockMany_j5 at h
 refine kreg ?_
 refine sp hE (r_bin hE rfl rfl (b_add rfl)) rfl fun a hE => ?_
 refine qm hE rfl rfl fun a hE => ?_
 refine knil ?_
 exact ⟨(x416, IntKind.i64.wrap (x405 + 1), x419), (Option.some.inj h).symm, _, (M.le.trans hm401 hm415), v417, v420, hv418, (inR_wrap _ _), hc421, hS, hE.cut ⟨rfl, rfl, rfl, rfl, rfl, rfl, rfl, trivial⟩⟩
 }
 }
 {
 have h := ite_F hd413 h
 refine kexit rfl rfl ?_
 have h := unwrap h hb411
 exact ⟨x402, x407, h, _, hm401, v403, v408, hv404, hc409, hS, hE.cut ⟨rfl, rfl, rfl, trivial⟩⟩
 }
 }
 }
 {
 rintro a w ⟨x11, x14, h, m9, hm10, v12, v15, hv13, hc16, hS, hE⟩
 unfold hayloftlaw07_BlockMany_j1 at h
 refine kseq (kreg ?_)
 refine qm hE rfl rfl fun a hE => ?_
 obtain ⟨r19, hr20, h⟩ := ob h
 refine st hE (st_call (vs := [v12]) hE rfl Try.call35 (c_block_All (hS := hS) hv13 hr20)) rfl ?_
 rintro v24 a w ⟨m21, hm22, hS, hv23⟩ hE
 refine qa hE rfl rfl fun a hE => ?_
 refine knil (kseq (kseq ?_))
 refine kcut (fun a w => ∃ x28 : Bool, hayloftlaw07_BlockMany_j2 x14 r19 x28 = some r ∧ ∃ m', M.le m21 m' ∧ S W0 m' w ((b4, [v15]) :: (b1, zc4) :: L) ((4, v15) :: TL) ∧ Env 86 a [(4, (.pointer (some ⟨b1, 0, none⟩))), (6, (.pointer (some ⟨b4, 0, none⟩))), (11, v24), (56, (.bool x28))]) ?_ ?_
 {
 refine kreg ?_
 refine qm hE rfl rfl fun a hE => ?_
 refine sp hE (r_eqnilF hE rfl rfl Try.underlying67 hv23) rfl fun a hE => ?_
 refine qm hE rfl rfl fun a hE => ?_
 obtain ⟨r392, hr393, h⟩ := ob h
 refine stg hE rfl rfl rfl rfl rfl (st_call (vs := []) hE rfl Try.call31 (c_hayloftlaw07_alive (hS := hS) hr393)) rfl ?_
 rintro v397 a w ⟨m394, hm395, hS, hv396⟩ hE
 obtain rfl := RV_bool hv396
 refine spg hE rfl rfl rfl rfl rfl (r_not hE rfl) rfl fun a hE => ?_
 refine sp hE (r_pickF hE rfl rfl rfl) rfl fun a hE => ?_
 refine knil ?_
 exact ⟨(!r392), h, _, hm395, (hS.pickT 2 [1] rfl rfl rfl), hE.cut ⟨rfl, rfl, rfl, rfl, trivial⟩⟩
 }
 {
 rintro a w ⟨x28, h, m26, hm27, hS, hE⟩
 unfold hayloftlaw07_BlockMany_j2 at h
 refine kif hE rfl (fun hd30 => ?_) (fun hd30 => ?_)
 {
 have h := ite_T hd30 h
 refine kseq (kreg ?_)
 refine st0 hE (st_storeF hE hS ty4 StF_self rfl rfl RV_of_bool (i := 1) rfl (zr4 _)) ?_
 rintro _ w ⟨cs31, hc32, hS⟩ hE
 refine knil (kret ?_)
 obtain rfl := oi h
 try dsimp only
 refine FinM.nil hE ?_
 refine Fin.mk hE (rs := [.cell 4 4]) rfl (ResL.cell hE hS ty4 rfl (i := 1) rfl (R_whole hc32) ResL.nil) ?_
 exact ⟨_, (M.le.trans hm10 (M.le.trans hm22 hm27)), ((hS.dropL 2).dropT 1), (RV_of_R (R_whole hc32))⟩
 }
 {
 have h := ite_F hd30 h
 refine kskip (kseq (kreg ?_))
 refine st hE (st_alloc hS Try.zeroValue3 rfl (cs := zc3)) rfl ?_
 rintro _ a w ⟨b34, rfl, hS⟩ hE
 refine st0 hE (st_storeF hE hS ty3 StF_self rfl rfl (RV_of_int (show inR .i64 0 from inR_lit (by decide))) (i := 0) rfl (zr3 _)) ?_
 rintro _ w ⟨cs36, hc37, hS⟩ hE
 refine knil (kseq (kseq (kreg ?_)))
 refine qm hE rfl rfl fun a hE => ?_
 refine knil (kblock ?_)
 obtain ⟨y347, hy348, h⟩ := ob h
 refine krangeV (Rv := (Rv2 (kInt .i64) kAV)) (fun (s : (Int × Bool)) (x : (Int × AV)) => hayloftlaw07_BlockMany_b1 x14 s.1 s.2 x) (fun _ => .ret) [] (fun (m' : M) (s : (Int × Bool)) (Ls_ : Mem) (TLs_ : Tls) => ∃ (cs43 : List Value), ∃ (cs46 : List Value), M.le m26 m' ∧ (kInt .i64).R m' cs43 s.1 ∧ kBool.R m' cs46 s.2 ∧ Ls_ = [(b34, cs43), (b4, [v15]), (b1, cs46)] ∧ TLs_ = [(4, v15)]) (Ls := [(b34, cs36), (b4, [v15]), (b1, zc4)]) (TLs := [(4, v15)]) (s0 := (0, false)) (sf := y347.1) (bf := y347.2) hE hS rfl (hv23.mono hm27) (by decide) (fun _ _ _ h => Rv2_len h) (by rintro m1_ m2_ s_ a_ b_ hm_ ⟨cs43, cs46, hl_, hf0_, hf1_, e1_, e2_⟩; exact ⟨cs43, cs46, hl_.trans hm_, (kInt .i64).mono hm_ hf0_, kBool.mono hm_ hf1_, e1_, e2_⟩) ⟨cs36, zc4, M.le.refl _, hc37, (zr4 _), rfl, rfl⟩ hy348 ?_ ?_
 {
 intro lid_ W1_ W0 m40 w L TL s_ Ls_ TLs_ vs_ x48 s49 b50 a or_ ob_ hI51 hS hR52 h hE hT53
 obtain ⟨x42, x45⟩ := s_
 obtain ⟨cs43, cs46, hm41, hc44, hc47, rfl, rfl⟩ := hI51
 have h : hayloftlaw07_BlockMany_b1 x14 x42 x45 x48 = some (s49, b50) := h
 unfold hayloftlaw07_BlockMany_b1 at h
 obtain ⟨v54, v55, rfl, hv56, hv57⟩ := hR52
 obtain ⟨rfl, hr58⟩ := RV_int hv56
 refine kseq (kreg ?_)
 refine qa hE rfl rfl fun a hE => ?_
 refine knil (kreg ?_)
 refine st hE (st_alloc hS Try.zeroValue53 rfl (cs := zc53)) rfl ?_
 rintro _ a w ⟨b60, rfl, hS⟩ hE
 refine st0 hE (st_storeF hE hS ty53 StF_self rfl rfl hv57 (i := 0) rfl (zr53 _)) ?_
 rintro _ w ⟨cs62, hc63, hS⟩ hE
 refine knil ?_
 obtain ⟨hb_, hS⟩ := hT53 _ _ _ _ hS
 refine ⟨hb_, ?_⟩
 refine kblock (kseq (kseq ?_))
 refine kcut (fun a w => ∃ x67 : Bool, hayloftlaw07_BlockMany_j3 x42 x45 x67 = some (s49, b50) ∧ ∃ m', M.le m40 m' ∧ S W0 m' w ((b60, cs62) :: (b34, cs43) :: (b4, [v15]) :: (b1, cs46) :: L) ((4, v15) :: TL) ∧ Env 86 a [(4, (.pointer (some ⟨b1, 0, none⟩))), (6, (.pointer (some ⟨b4, 0, none⟩))), (12, (.pointer (some ⟨b34, 0, none⟩))), (57, v24), (76, (.bool x67))]) ?_ ?_
 {
 rcases Bool.eq_false_or_eq_true (x48.1 != x42) with hd82 | hd82
 {
 have h := ite_T hd82 h
 refine kchain (k := 15) (m := m40) (es := []) (Φ := (fun i m ws v => match i with | 0 => v = (.int .i64 x48.1) ∧ inR .i64 x48.1 | 1 => v = (.int .i64 x42) ∧ inR .i64 x42 | 2 => v = (.bool (x48.1 != x42)) | 3 => v = (.bool (x48.1 != x42)) | 4 => v = undef | 5 => v = undef | 6 => v = undef | 7 => v = undef | 8 => v = (.bool true) | 9 => v = (.bool true) | 10 => v = undef | 11 => v = undef | 12 => v = undef | 13 => v = undef | 14 => v = undef | _ => True)) (Q := (fun c m ws L' TL' => match c with | 0 => (b60, cs62) :: (b34, cs43) :: (b4, [v15]) :: (b1, cs46) :: L = L' ∧ (4, v15) :: TL = TL' | _ => False)) (cs := [⟨0, 0, false, [(13, (.int .i64 x48.1))]⟩, ⟨0, 0, false, [(12, (.pointer (some ⟨b34, 0, none⟩)))]⟩, ⟨0, 0, false, []⟩, ⟨0, 0, false, []⟩, ⟨0, 0, false, [(12, (.pointer (some ⟨b34, 0, none⟩)))]⟩, ⟨0, 0, false, [(6, (.pointer (some ⟨b4, 0, none⟩)))]⟩, ⟨0, 0, false, []⟩, ⟨0, 0, false, []⟩, ⟨0, 0, false, []⟩, ⟨0, 0, false, []⟩, ⟨0, 0, false, [(14, (.pointer (some ⟨b60, 0, none⟩)))]⟩, ⟨0, 0, false, [(6, (.pointer (some ⟨b4, 0, none⟩)))]⟩, ⟨0, 0, false, [(12, (.pointer (some ⟨b34, 0, none⟩)))]⟩, ⟨0, 0, false, []⟩, ⟨0, 0, false, []⟩]) mixed hE hS ⟨rfl, rfl⟩ rfl rfl ⟨⟨rfl, trivial⟩, ⟨rfl, trivial⟩, trivial, trivial, ⟨rfl, trivial⟩, ⟨rfl, trivial⟩, trivial, trivial, trivial, trivial, ⟨rfl, trivial⟩, ⟨rfl, trivial⟩, ⟨rfl, trivial⟩, trivial, trivial, trivial⟩ (by kernel_rfl) ?_ ?_ ?_ ?_
 {
 intro i m_ m2_ ws v hm_ hp_
 match i, hp_ with
 | 0, hp_ => exact hp_
 | 1, hp_ => exact hp_
 | 2, hp_ => exact hp_
 | 3, hp_ => exact hp_
 | 4, hp_ => exact hp_
 | 5, hp_ => exact hp_
 | 6, hp_ => exact hp_
 | 7, hp_ => exact hp_
 | 8, hp_ => exact hp_
 | 9, hp_ => exact hp_
 | 10, hp_ => exact hp_
 | 11, hp_ => exact hp_
 | 12, hp_ => exact hp_
 | 13, hp_ => exact hp_
 | 14, hp_ => exact hp_
 | _ + 15, hp_ => exact trivial
 }
 {
 intro c m_ m2_ ws L_ T_ hm_ hq_
 match c, hq_ with
 | 0, ⟨e1_, e2_⟩ => exact ⟨e1_, e2_⟩
 | _ + 1, hq_ => exact hq_.elim
 }
 {
 refine ⟨?_, ?_, ?_, ?_, ?_, ?_, ?_, ?_, ?_, ?_, ?_, ?_, ?_, ?_, ?_, trivial⟩
 {
 refine cplain fun pre_ post_ L_ T_ m' a' w' hl' hp' hm' hq' hS' hE' hT' => ?_
 obtain rfl := len0 hl'
 refine Step.imp (Run1.pure (r_move hE' rfl)) ?_
 rintro _ _ ⟨rfl, rfl⟩
 exact ⟨_, M.le.refl _, hS', ⟨rfl, hr58⟩⟩
 }
 {
 refine cplain fun pre_ post_ L_ T_ m' a' w' hl' hp' hm' hq' hS' hE' hT' => ?_
 obtain rfl := len0 hl'
 obtain rfl := len0 (lenz (a := 0) hp')
 obtain ⟨rfl, rfl⟩ := hq'
 refine Step.imp (st_loadL hE' hS' ty3 rfl (i := 1) rfl (R_whole ((kInt .i64).mono hm' hc44))) ?_
 rintro v84 _ ⟨rfl, hv80⟩
 obtain ⟨rfl, hr85⟩ := RV_int hv80
 exact ⟨_, M.le.refl _, hS', ⟨rfl, hr85⟩⟩
 }
 {
 refine cplain fun pre_ post_ L_ T_ m' a' w' hl' hp' hm' hq' hS' hE' hT' => ?_
 obtain rfl := len0 hl'
 obtain ⟨v86, e87, q88⟩ : ∃ v, a'.tmps.getD 60 undef = v ∧ (v = (.int .i64 x48.1) ∧ inR .i64 x48.1) := ⟨_, rfl, hT' 0 (by decide) 60 rfl⟩
 obtain ⟨q88, hr89⟩ := q88
 have hE := hE'.add (e87.trans q88)
 obtain ⟨v90, e91, q92⟩ : ∃ v, a'.tmps.getD 61 undef = v ∧ (v = (.int .i64 x42) ∧ inR .i64 x42) := ⟨_, rfl, hT' 1 (by decide) 61 rfl⟩
 obtain ⟨q92, hr93⟩ := q92
 have hE := hE.add (e91.trans q92)
 refine Step.imp (Run1.pure (r_bin hE rfl rfl b_neq)) ?_
 rintro _ _ ⟨rfl, rfl⟩
 exact ⟨_, M.le.refl _, hS', rfl⟩
 }
 {
 refine cplain fun pre_ post_ L_ T_ m' a' w' hl' hp' hm' hq' hS' hE' hT' => ?_
 obtain rfl := len0 hl'
 obtain ⟨v95, e96, q97⟩ : ∃ v, a'.tmps.getD 62 undef = v ∧ (v = (.bool (x48.1 != x42))) := ⟨_, rfl, hT' 2 (by decide) 62 rfl⟩
 have hE := hE'.add (e96.trans q97)
 refine Step.imp (Run1.pure (r_move hE rfl)) ?_
 rintro _ _ ⟨rfl, rfl⟩
 exact ⟨_, M.le.refl _, hS', rfl⟩
 }
 {
 exact cskip (b := true) rfl rfl (by decide) (fun _ _ _ h_ => Eq.trans h_ (cb hd82)) (by decide) (fun _ _ => rfl)
 }
 {
 exact cskip (b := true) rfl rfl (by decide) (fun _ _ _ h_ => Eq.trans h_ (cb hd82)) (by decide) (fun _ _ => rfl)
 }
 {
 exact cskip (b := true) rfl rfl (by decide) (fun _ _ _ h_ => Eq.trans h_ (cb hd82)) (by decide) (fun _ _ => rfl)
 }
 {
 exact cskip (b := true) rfl rfl (by decide) (fun _ _ _ h_ => Eq.trans h_ (cb hd82)) (by decide) (fun _ _ => rfl)
 }
 {
 refine cplain fun pre_ post_ L_ T_ m' a' w' hl' hp' hm' hq' hS' hE' hT' => ?_
 obtain rfl := len0 hl'
 obtain ⟨v99, e100, q101⟩ : ∃ v, a'.tmps.getD 63 undef = v ∧ (v = (.bool (x48.1 != x42))) := ⟨_, rfl, hT' 3 (by decide) 63 rfl⟩
 have hE := hE'.add (e100.trans q101)
 obtain ⟨v102, e103, q104⟩ : ∃ v, a'.tmps.getD 67 undef = v ∧ (v = undef) := ⟨_, rfl, hT' 7 (by decide) 67 rfl⟩
 have hE := hE.add (e103.trans q104)
 refine Step.imp (Run1.pure (r_pickT hE rfl hd82 rfl)) ?_
 rintro _ _ ⟨rfl, rfl⟩
 exact ⟨_, M.le.refl _, hS', rfl⟩
 }
 {
 refine cplain fun pre_ post_ L_ T_ m' a' w' hl' hp' hm' hq' hS' hE' hT' => ?_
 obtain rfl := len0 hl'
 obtain ⟨v106, e107, q108⟩ : ∃ v, a'.tmps.getD 68 undef = v ∧ (v = (.bool true)) := ⟨_, rfl, hT' 8 (by decide) 68 rfl⟩
 have hE := hE'.add (e107.trans q108)
 refine Step.imp (Run1.pure (r_move hE rfl)) ?_
 rintro _ _ ⟨rfl, rfl⟩
 exact ⟨_, M.le.refl _, hS', rfl⟩
 }
 {
 exact cskip (b := true) rfl rfl (by decide) (fun _ _ _ h_ => Eq.trans h_ (cb rfl)) (by decide) (fun _ _ => rfl)
 }
 {
 exact cskip (b := true) rfl rfl (by decide) (fun _ _ _ h_ => Eq.trans h_ (cb rfl)) (by decide) (fun _ _ => rfl)
 }
 {
 exact cskip (b := true) rfl rfl (by decide) (fun _ _ _ h_ => Eq.trans h_ (cb rfl)) (by decide) (fun _ _ => rfl)
 }
 {
 exact cskip (b := true) rfl rfl (by decide) (fun _ _ _ h_ => Eq.trans h_ (cb rfl)) (by decide) (fun _ _ => rfl)
 }
 {
 exact cskip (b := true) rfl rfl (by decide) (fun _ _ _ h_ => Eq.trans h_ (cb rfl)) (by decide) (fun _ _ => rfl)
 }
 }
 {
 intro ws_ L_ T_ m110 a w hl111 hm112 hq113 hS hd114 hn115 ho116 hT117
 obtain rfl := len0 hl111
 obtain ⟨rfl, rfl⟩ := hq113
 have hE := EnvD.of (k := 15) (l' := [(4, (.pointer (some ⟨b1, 0, none⟩))), (6, (.pointer (some ⟨b4, 0, none⟩))), (12, (.pointer (some ⟨b34, 0, none⟩))), (13, (.int .i64 x48.1)), (14, (.pointer (some ⟨b60, 0, none⟩))), (57, v24), (58, (.int .i64 x48.1)), (59, v55)]) hd114 hn115 ho116 ⟨rfl, rfl, rfl, rfl, rfl, rfl, rfl, rfl, trivial⟩ rfl
 obtain ⟨v118, e119, q120⟩ : ∃ v, a.tmps.getD 64 undef = v ∧ (v = undef) := ⟨_, rfl, hT117 4 (by decide) 64 rfl⟩
 have hE := hE.add (e119.trans q120)
 obtain ⟨v121, e122, q123⟩ : ∃ v, a.tmps.getD 65 undef = v ∧ (v = undef) := ⟨_, rfl, hT117 5 (by decide) 65 rfl⟩
 have hE := hE.add (e122.trans q123)
 obtain ⟨v124, e125, q126⟩ : ∃ v, a.tmps.getD 66 undef = v ∧ (v = undef) := ⟨_, rfl, hT117 6 (by decide) 66 rfl⟩
 have hE := hE.add (e125.trans q126)
 obtain ⟨v127, e128, q129⟩ : ∃ v, a.tmps.getD 67 undef = v ∧ (v = undef) := ⟨_, rfl, hT117 7 (by decide) 67 rfl⟩
 have hE := hE.add (e128.trans q129)
 obtain ⟨v130, e131, q132⟩ : ∃ v, a.tmps.getD 69 undef = v ∧ (v = (.bool true)) := ⟨_, rfl, hT117 9 (by decide) 69 rfl⟩
 have hE := hE.add (e131.trans q132)
 obtain ⟨v133, e134, q135⟩ : ∃ v, a.tmps.getD 70 undef = v ∧ (v = undef) := ⟨_, rfl, hT117 10 (by decide) 70 rfl⟩
 have hE := hE.add (e134.trans q135)
 obtain ⟨v136, e137, q138⟩ : ∃ v, a.tmps.getD 71 undef = v ∧ (v = undef) := ⟨_, rfl, hT117 11 (by decide) 71 rfl⟩
 have hE := hE.add (e137.trans q138)
 obtain ⟨v139, e140, q141⟩ : ∃ v, a.tmps.getD 72 undef = v ∧ (v = undef) := ⟨_, rfl, hT117 12 (by decide) 72 rfl⟩
 have hE := hE.add (e140.trans q141)
 obtain ⟨v142, e143, q144⟩ : ∃ v, a.tmps.getD 73 undef = v ∧ (v = undef) := ⟨_, rfl, hT117 13 (by decide) 73 rfl⟩
 have hE := hE.add (e143.trans q144)
 obtain ⟨v145, e146, q147⟩ : ∃ v, a.tmps.getD 74 undef = v ∧ (v = undef) := ⟨_, rfl, hT117 14 (by decide) 74 rfl⟩
 have hE := hE.add (e146.trans q147)
 refine sx hE rfl rfl rfl rfl rfl rfl fun a hE => ?_
 refine sp hE (r_pickT hE rfl rfl rfl) rfl fun a hE => ?_
 refine knil ?_
 exact ⟨true, h, _, hm112, hS, hE.cut ⟨rfl, rfl, rfl, rfl, rfl, trivial⟩⟩
 }
 }
 {
 have h := ite_F hd82 h
 rcases Bool.eq_false_or_eq_true (decide ((x14.length : Int) ≤ x42)) with hd152 | hd152
 {
 have h := ite_T hd152 h
 refine kchain (k := 15) (m := m40) (es := []) (Φ := (fun i m ws v => match i with | 0 => v = (.int .i64 x48.1) ∧ inR .i64 x48.1 | 1 => v = (.int .i64 x42) ∧ inR .i64 x42 | 2 => v = (.bool (x48.1 != x42)) | 3 => v = (.bool (x48.1 != x42)) | 4 => v = (.int .i64 x42) ∧ inR .i64 x42 | 5 => v = v15 | 6 => v = (.int .i64 (x14.length : Int)) ∧ inR .i64 (x14.length : Int) | 7 => v = (.bool (decide ((x14.length : Int) ≤ x42))) | 8 => v = (.bool (decide ((x14.length : Int) ≤ x42))) | 9 => v = (.bool (decide ((x14.length : Int) ≤ x42))) | 10 => v = undef | 11 => v = undef | 12 => v = undef | 13 => v = undef | 14 => v = undef | _ => True)) (Q := (fun c m ws L' TL' => match c with | 0 => (b60, cs62) :: (b34, cs43) :: (b4, [v15]) :: (b1, cs46) :: L = L' ∧ (4, v15) :: TL = TL' | _ => False)) (cs := [⟨0, 0, false, [(13, (.int .i64 x48.1))]⟩, ⟨0, 0, false, [(12, (.pointer (some ⟨b34, 0, none⟩)))]⟩, ⟨0, 0, false, []⟩, ⟨0, 0, false, []⟩, ⟨0, 0, false, [(12, (.pointer (some ⟨b34, 0, none⟩)))]⟩, ⟨0, 0, false, [(6, (.pointer (some ⟨b4, 0, none⟩)))]⟩, ⟨0, 0, false, []⟩, ⟨0, 0, false, []⟩, ⟨0, 0, false, []⟩, ⟨0, 0, false, []⟩, ⟨0, 0, false, [(14, (.pointer (some ⟨b60, 0, none⟩)))]⟩, ⟨0, 0, false, [(6, (.pointer (some ⟨b4, 0, none⟩)))]⟩, ⟨0, 0, false, [(12, (.pointer (some ⟨b34, 0, none⟩)))]⟩, ⟨0, 0, false, []⟩, ⟨0, 0, false, []⟩]) mixed hE hS ⟨rfl, rfl⟩ rfl rfl ⟨⟨rfl, trivial⟩, ⟨rfl, trivial⟩, trivial, trivial, ⟨rfl, trivial⟩, ⟨rfl, trivial⟩, trivial, trivial, trivial, trivial, ⟨rfl, trivial⟩, ⟨rfl, trivial⟩, ⟨rfl, trivial⟩, trivial, trivial, trivial⟩ (by kernel_rfl) ?_ ?_ ?_ ?_
 {
 intro i m_ m2_ ws v hm_ hp_
 match i, hp_ with
 | 0, hp_ => exact hp_
 | 1, hp_ => exact hp_
 | 2, hp_ => exact hp_
 | 3, hp_ => exact hp_
 | 4, hp_ => exact hp_
 | 5, hp_ => exact hp_
 | 6, hp_ => exact hp_
 | 7, hp_ => exact hp_
 | 8, hp_ => exact hp_
 | 9, hp_ => exact hp_
 | 10, hp_ => exact hp_
 | 11, hp_ => exact hp_
 | 12, hp_ => exact hp_
 | 13, hp_ => exact hp_
 | 14, hp_ => exact hp_
 | _ + 15, hp_ => exact trivial
 }
 {
 intro c m_ m2_ ws L_ T_ hm_ hq_
 match c, hq_ with
 | 0, ⟨e1_, e2_⟩ => exact ⟨e1_, e2_⟩
 | _ + 1, hq_ => exact hq_.elim
 }
 {
 refine ⟨?_, ?_, ?_, ?_, ?_, ?_, ?_, ?_, ?_, ?_, ?_, ?_, ?_, ?_, ?_, trivial⟩
 {
 refine cplain fun pre_ post_ L_ T_ m' a' w' hl' hp' hm' hq' hS' hE' hT' => ?_
 obtain rfl := len0 hl'
 refine Step.imp (Run1.pure (r_move hE' rfl)) ?_
 rintro _ _ ⟨rfl, rfl⟩
 exact ⟨_, M.le.refl _, hS', ⟨rfl, hr58⟩⟩
 }
 {
 refine cplain fun pre_ post_ L_ T_ m' a' w' hl' hp' hm' hq' hS' hE' hT' => ?_
 obtain rfl := len0 hl'
 obtain rfl := len0 (lenz (a := 0) hp')
 obtain ⟨rfl, rfl⟩ := hq'
 refine Step.imp (st_loadL hE' hS' ty3 rfl (i := 1) rfl (R_whole ((kInt .i64).mono hm' hc44))) ?_
 rintro v154 _ ⟨rfl, hv80⟩
 obtain ⟨rfl, hr155⟩ := RV_int hv80
 exact ⟨_, M.le.refl _, hS', ⟨rfl, hr155⟩⟩
 }
 {
 refine cplain fun pre_ post_ L_ T_ m' a' w' hl' hp' hm' hq' hS' hE' hT' => ?_
 obtain rfl := len0 hl'
 obtain ⟨v156, e157, q158⟩ : ∃ v, a'.tmps.getD 60 undef = v ∧ (v = (.int .i64 x48.1) ∧ inR .i64 x48.1) := ⟨_, rfl, hT' 0 (by decide) 60 rfl⟩
 obtain ⟨q158, hr159⟩ := q158
 have hE := hE'.add (e157.trans q158)
 obtain ⟨v160, e161, q162⟩ : ∃ v, a'.tmps.getD 61 undef = v ∧ (v = (.int .i64 x42) ∧ inR .i64 x42) := ⟨_, rfl, hT' 1 (by decide) 61 rfl⟩
 obtain ⟨q162, hr163⟩ := q162
 have hE := hE.add (e161.trans q162)
 refine Step.imp (Run1.pure (r_bin hE rfl rfl b_neq)) ?_
 rintro _ _ ⟨rfl, rfl⟩
 exact ⟨_, M.le.refl _, hS', rfl⟩
 }
 {
 refine cplain fun pre_ post_ L_ T_ m' a' w' hl' hp' hm' hq' hS' hE' hT' => ?_
 obtain rfl := len0 hl'
 obtain ⟨v165, e166, q167⟩ : ∃ v, a'.tmps.getD 62 undef = v ∧ (v = (.bool (x48.1 != x42))) := ⟨_, rfl, hT' 2 (by decide) 62 rfl⟩
 have hE := hE'.add (e166.trans q167)
 refine Step.imp (Run1.pure (r_move hE rfl)) ?_
 rintro _ _ ⟨rfl, rfl⟩
 exact ⟨_, M.le.refl _, hS', rfl⟩
 }
 {
 refine cguard rfl rfl (by decide) (fun _ _ _ h_ => Eq.trans h_ (cb hd82)) fun pre_ post_ L_ T_ m' a' w' hl' hp' hm' hq' hS' hE' hT' => ?_
 obtain rfl := len0 hl'
 obtain rfl := len0 (lenz (a := 0) hp')
 obtain ⟨rfl, rfl⟩ := hq'
 refine Step.imp (st_loadL hE' hS' ty3 rfl (i := 1) rfl (R_whole ((kInt .i64).mono hm' hc44))) ?_
 rintro v169 _ ⟨rfl, hv149⟩
 obtain ⟨rfl, hr170⟩ := RV_int hv149
 exact ⟨_, M.le.refl _, hS', ⟨rfl, hr170⟩⟩
 }
 {
 refine cguard rfl rfl (by decide) (fun _ _ _ h_ => Eq.trans h_ (cb hd82)) fun pre_ post_ L_ T_ m' a' w' hl' hp' hm' hq' hS' hE' hT' => ?_
 obtain rfl := len0 hl'
 obtain rfl := len0 (lenz (a := 0) hp')
 obtain ⟨rfl, rfl⟩ := hq'
 refine Step.imp (Run1.pure (st_loadSl (k := kAV) hE' hS' ty29 rfl (i := 2) rfl (hc16.mono (M.le.trans hm22 (M.le.trans hm27 (M.le.trans hm41 hm')))))) ?_
 rintro _ _ ⟨rfl, rfl⟩
 exact ⟨_, M.le.refl _, hS', rfl⟩
 }
 {
 refine cguard rfl rfl (by decide) (fun _ _ _ h_ => Eq.trans h_ (cb hd82)) fun pre_ post_ L_ T_ m' a' w' hl' hp' hm' hq' hS' hE' hT' => ?_
 obtain rfl := len0 hl'
 obtain ⟨v172, e173, q174⟩ : ∃ v, a'.tmps.getD 65 undef = v ∧ (v = v15) := ⟨_, rfl, hT' 5 (by decide) 65 rfl⟩
 have hE := hE'.add (e173.trans q174)
 refine Step.imp (Run1.pure (r_lenSl (k := kAV) hE rfl rfl Try.underlying29 (hc16.mono (M.le.trans hm22 (M.le.trans hm27 (M.le.trans hm41 hm')))))) ?_
 rintro _ _ ⟨rfl, rfl⟩
 exact ⟨_, M.le.refl _, hS', ⟨rfl, (inR_len (RV_len (hc16.mono (M.le.trans hm22 (M.le.trans hm27 (M.le.trans hm41 hm'))))))⟩⟩
 }
 {
 refine cguard rfl rfl (by decide) (fun _ _ _ h_ => Eq.trans h_ (cb hd82)) fun pre_ post_ L_ T_ m' a' w' hl' hp' hm' hq' hS' hE' hT' => ?_
 obtain rfl := len0 hl'
 obtain ⟨v176, e177, q178⟩ : ∃ v, a'.tmps.getD 64 undef = v ∧ (v = (.int .i64 x42) ∧ inR .i64 x42) := ⟨_, rfl, hT' 4 (by decide) 64 rfl⟩
 obtain ⟨q178, hr179⟩ := q178
 have hE := hE'.add (e177.trans q178)
 obtain ⟨v180, e181, q182⟩ : ∃ v, a'.tmps.getD 66 undef = v ∧ (v = (.int .i64 (x14.length : Int)) ∧ inR .i64 (x14.length : Int)) := ⟨_, rfl, hT' 6 (by decide) 66 rfl⟩
 obtain ⟨q182, hr183⟩ := q182
 have hE := hE.add (e181.trans q182)
 refine Step.imp (Run1.pure (r_bin hE rfl rfl b_geq)) ?_
 rintro _ _ ⟨rfl, rfl⟩
 exact ⟨_, M.le.refl _, hS', rfl⟩
 }
 {
 refine cplain fun pre_ post_ L_ T_ m' a' w' hl' hp' hm' hq' hS' hE' hT' => ?_
 obtain rfl := len0 hl'
 obtain ⟨v185, e186, q187⟩ : ∃ v, a'.tmps.getD 63 undef = v ∧ (v = (.bool (x48.1 != x42))) := ⟨_, rfl, hT' 3 (by decide) 63 rfl⟩
 have hE := hE'.add (e186.trans q187)
 obtain ⟨v188, e189, q190⟩ : ∃ v, a'.tmps.getD 67 undef = v ∧ (v = (.bool (decide ((x14.length : Int) ≤ x42)))) := ⟨_, rfl, hT' 7 (by decide) 67 rfl⟩
 have hE := hE.add (e189.trans q190)
 refine Step.imp (Run1.pure (r_pickF hE rfl hd82 rfl)) ?_
 rintro _ _ ⟨rfl, rfl⟩
 exact ⟨_, M.le.refl _, hS', rfl⟩
 }
 {
 refine cplain fun pre_ post_ L_ T_ m' a' w' hl' hp' hm' hq' hS' hE' hT' => ?_
 obtain rfl := len0 hl'
 obtain ⟨v192, e193, q194⟩ : ∃ v, a'.tmps.getD 68 undef = v ∧ (v = (.bool (decide ((x14.length : Int) ≤ x42)))) := ⟨_, rfl, hT' 8 (by decide) 68 rfl⟩
 have hE := hE'.add (e193.trans q194)
 refine Step.imp (Run1.pure (r_move hE rfl)) ?_
 rintro _ _ ⟨rfl, rfl⟩
 exact ⟨_, M.le.refl _, hS', rfl⟩
 }
 {
 exact cskip (b := true) rfl rfl (by decide) (fun _ _ _ h_ => Eq.trans h_ (cb hd152)) (by decide) (fun _ _ => rfl)
 }
 {
 exact cskip (b := true) rfl rfl (by decide) (fun _ _ _ h_ => Eq.trans h_ (cb hd152)) (by decide) (fun _ _ => rfl)
 }
 {
 exact cskip (b := true) rfl rfl (by decide) (fun _ _ _ h_ => Eq.trans h_ (cb hd152)) (by decide) (fun _ _ => rfl)
 }
 {
 exact cskip (b := true) rfl rfl (by decide) (fun _ _ _ h_ => Eq.trans h_ (cb hd152)) (by decide) (fun _ _ => rfl)
 }
 {
 exact cskip (b := true) rfl rfl (by decide) (fun _ _ _ h_ => Eq.trans h_ (cb hd152)) (by decide) (fun _ _ => rfl)
 }
 }
 {
 intro ws_ L_ T_ m196 a w hl197 hm198 hq199 hS hd200 hn201 ho202 hT203
 obtain rfl := len0 hl197
 obtain ⟨rfl, rfl⟩ := hq199
 have hE := EnvD.of (k := 15) (l' := [(4, (.pointer (some ⟨b1, 0, none⟩))), (6, (.pointer (some ⟨b4, 0, none⟩))), (12, (.pointer (some ⟨b34, 0, none⟩))), (13, (.int .i64 x48.1)), (14, (.pointer (some ⟨b60, 0, none⟩))), (57, v24), (58, (.int .i64 x48.1)), (59, v55)]) hd200 hn201 ho202 ⟨rfl, rfl, rfl, rfl, rfl, rfl, rfl, rfl, trivial⟩ rfl
 obtain ⟨v204, e205, q206⟩ : ∃ v, a.tmps.getD 64 undef = v ∧ (v = (.int .i64 x42) ∧ inR .i64 x42) := ⟨_, rfl, hT203 4 (by decide) 64 rfl⟩
 obtain ⟨q206, hr207⟩ := q206
 have hE := hE.add (e205.trans q206)
 obtain ⟨v208, e209, q210⟩ : ∃ v, a.tmps.getD 65 undef = v ∧ (v = v15) := ⟨_, rfl, hT203 5 (by decide) 65 rfl⟩
 have hE := hE.add (e209.trans q210)
 obtain ⟨v211, e212, q213⟩ : ∃ v, a.tmps.getD 66 undef = v ∧ (v = (.int .i64 (x14.length : Int)) ∧ inR .i64 (x14.length : Int)) := ⟨_, rfl, hT203 6 (by decide) 66 rfl⟩
 obtain ⟨q213, hr214⟩ := q213
 have hE := hE.add (e212.trans q213)
 obtain ⟨v215, e216, q217⟩ : ∃ v, a.tmps.getD 67 undef = v ∧ (v = (.bool (decide ((x14.length : Int) ≤ x42)))) := ⟨_, rfl, hT203 7 (by decide) 67 rfl⟩
 have hE := hE.add (e216.trans q217)
 obtain ⟨v218, e219, q220⟩ : ∃ v, a.tmps.getD 69 undef = v ∧ (v = (.bool (decide ((x14.length : Int) ≤ x42)))) := ⟨_, rfl, hT203 9 (by decide) 69 rfl⟩
 have hE := hE.add (e219.trans q220)
 obtain ⟨v221, e222, q223⟩ : ∃ v, a.tmps.getD 70 undef = v ∧ (v = undef) := ⟨_, rfl, hT203 10 (by decide) 70 rfl⟩
 have hE := hE.add (e222.trans q223)
 obtain ⟨v224, e225, q226⟩ : ∃ v, a.tmps.getD 71 undef = v ∧ (v = undef) := ⟨_, rfl, hT203 11 (by decide) 71 rfl⟩
 have hE := hE.add (e225.trans q226)
 obtain ⟨v227, e228, q229⟩ : ∃ v, a.tmps.getD 72 undef = v ∧ (v = undef) := ⟨_, rfl, hT203 12 (by decide) 72 rfl⟩
 have hE := hE.add (e228.trans q229)
 obtain ⟨v230, e231, q232⟩ : ∃ v, a.tmps.getD 73 undef = v ∧ (v = undef) := ⟨_, rfl, hT203 13 (by decide) 73 rfl⟩
 have hE := hE.add (e231.trans q232)
 obtain ⟨v233, e234, q235⟩ : ∃ v, a.tmps.getD 74 undef = v ∧ (v = undef) := ⟨_, rfl, hT203 14 (by decide) 74 rfl⟩
 have hE := hE.add (e234.trans q235)
 refine sx hE rfl rfl rfl rfl hd152 rfl fun a hE => ?_
 refine sp hE (r_pickT hE rfl hd152 rfl) rfl fun a hE => ?_
 refine knil ?_
 exact ⟨true, h, _, hm198, hS, hE.cut ⟨rfl, rfl, rfl, rfl, rfl, trivial⟩⟩
 }
 }
 {
 have h := ite_F hd152 h
 obtain ⟨x241, hx242, h⟩ := ob h
 refine kchain (k := 15) (m := m40) (es := []) (Φ := (fun i m ws v => match i with | 0 => v = (.int .i64 x48.1) ∧ inR .i64 x48.1 | 1 => v = (.int .i64 x42) ∧ inR .i64 x42 | 2 => v = (.bool (x48.1 != x42)) | 3 => v = (.bool (x48.1 != x42)) | 4 => v = (.int .i64 x42) ∧ inR .i64 x42 | 5 => v = v15 | 6 => v = (.int .i64 (x14.length : Int)) ∧ inR .i64 (x14.length : Int) | 7 => v = (.bool (decide ((x14.length : Int) ≤ x42))) | 8 => v = (.bool (decide ((x14.length : Int) ≤ x42))) | 9 => v = (.bool (decide ((x14.length : Int) ≤ x42))) | 10 => RV kAV m v x48.2 | 11 => v = v15 | 12 => v = (.int .i64 x42) ∧ inR .i64 x42 | 13 => PR kAV m v x241 | 14 => RV kAV m v x241 | _ => True)) (Q := (fun c m ws L' TL' => match c with | 0 => (b60, cs62) :: (b34, cs43) :: (b4, [v15]) :: (b1, cs46) :: L = L' ∧ (4, v15) :: TL = TL' | _ => False)) (cs := [⟨0, 0, false, [(13, (.int .i64 x48.1))]⟩, ⟨0, 0, false, [(12, (.pointer (some ⟨b34, 0, none⟩)))]⟩, ⟨0, 0, false, []⟩, ⟨0, 0, false, []⟩, ⟨0, 0, false, [(12, (.pointer (some ⟨b34, 0, none⟩)))]⟩, ⟨0, 0, false, [(6, (.pointer (some ⟨b4, 0, none⟩)))]⟩, ⟨0, 0, false, []⟩, ⟨0, 0, false, []⟩, ⟨0, 0, false, []⟩, ⟨0, 0, false, []⟩, ⟨0, 0, false, [(14, (.pointer (some ⟨b60, 0, none⟩)))]⟩, ⟨0, 0, false, [(6, (.pointer (some ⟨b4, 0, none⟩)))]⟩, ⟨0, 0, false, [(12, (.pointer (some ⟨b34, 0, none⟩)))]⟩, ⟨0, 0, false, []⟩, ⟨0, 0, false, []⟩]) mixed hE hS ⟨rfl, rfl⟩ rfl rfl ⟨⟨rfl, trivial⟩, ⟨rfl, trivial⟩, trivial, trivial, ⟨rfl, trivial⟩, ⟨rfl, trivial⟩, trivial, trivial, trivial, trivial, ⟨rfl, trivial⟩, ⟨rfl, trivial⟩, ⟨rfl, trivial⟩, trivial, trivial, trivial⟩ (by kernel_rfl) ?_ ?_ ?_ ?_
 {
 intro i m_ m2_ ws v hm_ hp_
 match i, hp_ with
 | 0, hp_ => exact hp_
 | 1, hp_ => exact hp_
 | 2, hp_ => exact hp_
 | 3, hp_ => exact hp_
 | 4, hp_ => exact hp_
 | 5, hp_ => exact hp_
 | 6, hp_ => exact hp_
 | 7, hp_ => exact hp_
 | 8, hp_ => exact hp_
 | 9, hp_ => exact hp_
 | 10, hp_ => exact RV.mono hp_ hm_
 | 11, hp_ => exact hp_
 | 12, hp_ => exact hp_
 | 13, hp_ => exact PR.mono hp_ hm_
 | 14, hp_ => exact RV.mono hp_ hm_
 | _ + 15, hp_ => exact trivial
 }
 {
 intro c m_ m2_ ws L_ T_ hm_ hq_
 match c, hq_ with
 | 0, ⟨e1_, e2_⟩ => exact ⟨e1_, e2_⟩
 | _ + 1, hq_ => exact hq_.elim
 }
 {
 refine ⟨?_, ?_, ?_, ?_, ?_, ?_, ?_, ?_, ?_, ?_, ?_, ?_, ?_, ?_, ?_, trivial⟩
 {
 refine cplain fun pre_ post_ L_ T_ m' a' w' hl' hp' hm' hq' hS' hE' hT' => ?_
 obtain rfl := len0 hl'
 refine Step.imp (Run1.pure (r_move hE' rfl)) ?_
 rintro _ _ ⟨rfl, rfl⟩
 exact ⟨_, M.le.refl _, hS', ⟨rfl, hr58⟩⟩
 }
 {
 refine cplain fun pre_ post_ L_ T_ m' a' w' hl' hp' hm' hq' hS' hE' hT' => ?_
 obtain rfl := len0 hl'
 obtain rfl := len0 (lenz (a := 0) hp')
 obtain ⟨rfl, rfl⟩ := hq'
 refine Step.imp (st_loadL hE' hS' ty3 rfl (i := 1) rfl (R_whole ((kInt .i64).mono hm' hc44))) ?_
 rintro v246 _ ⟨rfl, hv80⟩
 obtain ⟨rfl, hr247⟩ := RV_int hv80
 exact ⟨_, M.le.refl _, hS', ⟨rfl, hr247⟩⟩
 }
 {
 refine cplain fun pre_ post_ L_ T_ m' a' w' hl' hp' hm' hq' hS' hE' hT' => ?_
 obtain rfl := len0 hl'
 obtain ⟨v248, e249, q250⟩ : ∃ v, a'.tmps.getD 60 undef = v ∧ (v = (.int .i64 x48.1) ∧ inR .i64 x48.1) := ⟨_, rfl, hT' 0 (by decide) 60 rfl⟩
 obtain ⟨q250, hr251⟩ := q250
 have hE := hE'.add (e249.trans q250)
 obtain ⟨v252, e253, q254⟩ : ∃ v, a'.tmps.getD 61 undef = v ∧ (v = (.int .i64 x42) ∧ inR .i64 x42) := ⟨_, rfl, hT' 1 (by decide) 61 rfl⟩
 obtain ⟨q254, hr255⟩ := q254
 have hE := hE.add (e253.trans q254)
 refine Step.imp (Run1.pure (r_bin hE rfl rfl b_neq)) ?_
 rintro _ _ ⟨rfl, rfl⟩
 exact ⟨_, M.le.refl _, hS', rfl⟩
 }
 {
 refine cplain fun pre_ post_ L_ T_ m' a' w' hl' hp' hm' hq' hS' hE' hT' => ?_
 obtain rfl := len0 hl'
 obtain ⟨v257, e258, q259⟩ : ∃ v, a'.tmps.getD 62 undef = v ∧ (v = (.bool (x48.1 != x42))) := ⟨_, rfl, hT' 2 (by decide) 62 rfl⟩
 have hE := hE'.add (e258.trans q259)
 refine Step.imp (Run1.pure (r_move hE rfl)) ?_
 rintro _ _ ⟨rfl, rfl⟩
 exact ⟨_, M.le.refl _, hS', rfl⟩
 }
 {
 refine cguard rfl rfl (by decide) (fun _ _ _ h_ => Eq.trans h_ (cb hd82)) fun pre_ post_ L_ T_ m' a' w' hl' hp' hm' hq' hS' hE' hT' => ?_
 obtain rfl := len0 hl'
 obtain rfl := len0 (lenz (a := 0) hp')
 obtain ⟨rfl, rfl⟩ := hq'
 refine Step.imp (st_loadL hE' hS' ty3 rfl (i := 1) rfl (R_whole ((kInt .i64).mono hm' hc44))) ?_
 rintro v261 _ ⟨rfl, hv149⟩
 obtain ⟨rfl, hr262⟩ := RV_int hv149
 exact ⟨_, M.le.refl _, hS', ⟨rfl, hr262⟩⟩
 }
 {
 refine cguard rfl rfl (by decide) (fun _ _ _ h_ => Eq.trans h_ (cb hd82)) fun pre_ post_ L_ T_ m' a' w' hl' hp' hm' hq' hS' hE' hT' => ?_
 obtain rfl := len0 hl'
 obtain rfl := len0 (lenz (a := 0) hp')
 obtain ⟨rfl, rfl⟩ := hq'
 refine Step.imp (Run1.pure (st_loadSl (k := kAV) hE' hS' ty29 rfl (i := 2) rfl (hc16.mono (M.le.trans hm22 (M.le.trans hm27 (M.le.trans hm41 hm')))))) ?_
 rintro _ _ ⟨rfl, rfl⟩
 exact ⟨_, M.le.refl _, hS', rfl⟩
 }
 {
 refine cguard rfl rfl (by decide) (fun _ _ _ h_ => Eq.trans h_ (cb hd82)) fun pre_ post_ L_ T_ m' a' w' hl' hp' hm' hq' hS' hE' hT' => ?_
 obtain rfl := len0 hl'
 obtain ⟨v264, e265, q266⟩ : ∃ v, a'.tmps.getD 65 undef = v ∧ (v = v15) := ⟨_, rfl, hT' 5 (by decide) 65 rfl⟩
 have hE := hE'.add (e265.trans q266)
 refine Step.imp (Run1.pure (r_lenSl (k := kAV) hE rfl rfl Try.underlying29 (hc16.mono (M.le.trans hm22 (M.le.trans hm27 (M.le.trans hm41 hm')))))) ?_
 rintro _ _ ⟨rfl, rfl⟩
 exact ⟨_, M.le.refl _, hS', ⟨rfl, (inR_len (RV_len (hc16.mono (M.le.trans hm22 (M.le.trans hm27 (M.le.trans hm41 hm'))))))⟩⟩
 }
 {
 refine cguard rfl rfl (by decide) (fun _ _ _ h_ => Eq.trans h_ (cb hd82)) fun pre_ post_ L_ T_ m' a' w' hl' hp' hm' hq' hS' hE' hT' => ?_
 obtain rfl := len0 hl'
 obtain ⟨v268, e269, q270⟩ : ∃ v, a'.tmps.getD 64 undef = v ∧ (v = (.int .i64 x42) ∧ inR .i64 x42) := ⟨_, rfl, hT' 4 (by decide) 64 rfl⟩
 obtain ⟨q270, hr271⟩ := q270
 have hE := hE'.add (e269.trans q270)
 obtain ⟨v272, e273, q274⟩ : ∃ v, a'.tmps.getD 66 undef = v ∧ (v = (.int .i64 (x14.length : Int)) ∧ inR .i64 (x14.length : Int)) := ⟨_, rfl, hT' 6 (by decide) 66 rfl⟩
 obtain ⟨q274, hr275⟩ := q274
 have hE := hE.add (e273.trans q274)
 refine Step.imp (Run1.pure (r_bin hE rfl rfl b_geq)) ?_
 rintro _ _ ⟨rfl, rfl⟩
 exact ⟨_, M.le.refl _, hS', rfl⟩
 }
 {
 refine cplain fun pre_ post_ L_ T_ m' a' w' hl' hp' hm' hq' hS' hE' hT' => ?_
 obtain rfl := len0 hl'
 obtain ⟨v277, e278, q279⟩ : ∃ v, a'.tmps.getD 63 undef = v ∧ (v = (.bool (x48.1 != x42))) := ⟨_, rfl, hT' 3 (by decide) 63 rfl⟩
 have hE := hE'.add (e278.trans q279)
 obtain ⟨v280, e281, q282⟩ : ∃ v, a'.tmps.getD 67 undef = v ∧ (v = (.bool (decide ((x14.length : Int) ≤ x42)))) := ⟨_, rfl, hT' 7 (by decide) 67 rfl⟩
 have hE := hE.add (e281.trans q282)
 refine Step.imp (Run1.pure (r_pickF hE rfl hd82 rfl)) ?_
 rintro _ _ ⟨rfl, rfl⟩
 exact ⟨_, M.le.refl _, hS', rfl⟩
 }
 {
 refine cplain fun pre_ post_ L_ T_ m' a' w' hl' hp' hm' hq' hS' hE' hT' => ?_
 obtain rfl := len0 hl'
 obtain ⟨v284, e285, q286⟩ : ∃ v, a'.tmps.getD 68 undef = v ∧ (v = (.bool (decide ((x14.length : Int) ≤ x42)))) := ⟨_, rfl, hT' 8 (by decide) 68 rfl⟩
 have hE := hE'.add (e285.trans q286)
 refine Step.imp (Run1.pure (r_move hE rfl)) ?_
 rintro _ _ ⟨rfl, rfl⟩
 exact ⟨_, M.le.refl _, hS', rfl⟩
 }
 {
 refine cguard rfl rfl (by decide) (fun _ _ _ h_ => Eq.trans h_ (cb hd152)) fun pre_ post_ L_ T_ m' a' w' hl' hp' hm' hq' hS' hE' hT' => ?_
 obtain rfl := len0 hl'
 obtain rfl := len0 (lenz (a := 0) hp')
 obtain ⟨rfl, rfl⟩ := hq'
 refine Step.imp (st_loadL hE' hS' ty53 rfl (i := 0) rfl (R_whole (kAV.mono hm' hc63))) ?_
 rintro v288 _ ⟨rfl, hv237⟩
 exact ⟨_, M.le.refl _, hS', hv237⟩
 }
 {
 refine cguard rfl rfl (by decide) (fun _ _ _ h_ => Eq.trans h_ (cb hd152)) fun pre_ post_ L_ T_ m' a' w' hl' hp' hm' hq' hS' hE' hT' => ?_
 obtain rfl := len0 hl'
 obtain rfl := len0 (lenz (a := 0) hp')
 obtain ⟨rfl, rfl⟩ := hq'
 refine Step.imp (Run1.pure (st_loadSl (k := kAV) hE' hS' ty29 rfl (i := 2) rfl (hc16.mono (M.le.trans hm22 (M.le.trans hm27 (M.le.trans hm41 hm')))))) ?_
 rintro _ _ ⟨rfl, rfl⟩
 exact ⟨_, M.le.refl _, hS', rfl⟩
 }
 {
 refine cguard rfl rfl (by decide) (fun _ _ _ h_ => Eq.trans h_ (cb hd152)) fun pre_ post_ L_ T_ m' a' w' hl' hp' hm' hq' hS' hE' hT' => ?_
 obtain rfl := len0 hl'
 obtain rfl := len0 (lenz (a := 0) hp')
 obtain ⟨rfl, rfl⟩ := hq'
 refine Step.imp (st_loadL hE' hS' ty3 rfl (i := 1) rfl (R_whole ((kInt .i64).mono hm' hc44))) ?_
 rintro v290 _ ⟨rfl, hv239⟩
 obtain ⟨rfl, hr291⟩ := RV_int hv239
 exact ⟨_, M.le.refl _, hS', ⟨rfl, hr291⟩⟩
 }
 {
 refine cguard rfl rfl (by decide) (fun _ _ _ h_ => Eq.trans h_ (cb hd152)) fun pre_ post_ L_ T_ m' a' w' hl' hp' hm' hq' hS' hE' hT' => ?_
 obtain rfl := len0 hl'
 obtain ⟨v292, e293, q294⟩ : ∃ v, a'.tmps.getD 71 undef = v ∧ (v = v15) := ⟨_, rfl, hT' 11 (by decide) 71 rfl⟩
 have hE := hE'.add (e293.trans q294)
 obtain ⟨v295, e296, q297⟩ : ∃ v, a'.tmps.getD 72 undef = v ∧ (v = (.int .i64 x42) ∧ inR .i64 x42) := ⟨_, rfl, hT' 12 (by decide) 72 rfl⟩
 obtain ⟨q297, hr298⟩ := q297
 have hE := hE.add (e296.trans q297)
 refine Step.imp (st_index (k := kAV) hE rfl rfl Try.underlying29 Try.sizeOf53 (hc16.mono (M.le.trans hm22 (M.le.trans hm27 (M.le.trans hm41 hm')))) hx242) ?_
 rintro v299 _ ⟨rfl, hp243⟩
 exact ⟨_, M.le.refl _, hS', hp243⟩
 }
 {
 refine cguard rfl rfl (by decide) (fun _ _ _ h_ => Eq.trans h_ (cb hd152)) fun pre_ post_ L_ T_ m' a' w' hl' hp' hm' hq' hS' hE' hT' => ?_
 obtain rfl := len0 hl'
 obtain ⟨v300, e301, q302⟩ : ∃ v, a'.tmps.getD 73 undef = v ∧ (PR kAV m' v x241) := ⟨_, rfl, hT' 13 (by decide) 73 rfl⟩
 have hE := hE'.add (e301)
 refine Step.imp (st_loadM hE hS' ty53 rfl q302) ?_
 rintro v303 _ ⟨rfl, hv244⟩
 exact ⟨_, M.le.refl _, hS', hv244⟩
 }
 }
 {
 intro ws_ L_ T_ m304 a w hl305 hm306 hq307 hS hd308 hn309 ho310 hT311
 obtain rfl := len0 hl305
 obtain ⟨rfl, rfl⟩ := hq307
 have hE := EnvD.of (k := 15) (l' := [(4, (.pointer (some ⟨b1, 0, none⟩))), (6, (.pointer (some ⟨b4, 0, none⟩))), (12, (.pointer (some ⟨b34, 0, none⟩))), (13, (.int .i64 x48.1)), (14, (.pointer (some ⟨b60, 0, none⟩))), (57, v24), (58, (.int .i64 x48.1)), (59, v55)]) hd308 hn309 ho310 ⟨rfl, rfl, rfl, rfl, rfl, rfl, rfl, rfl, trivial⟩ rfl
 obtain ⟨v312, e313, q314⟩ : ∃ v, a.tmps.getD 64 undef = v ∧ (v = (.int .i64 x42) ∧ inR .i64 x42) := ⟨_, rfl, hT311 4 (by decide) 64 rfl⟩
 obtain ⟨q314, hr315⟩ := q314
 have hE := hE.add (e313.trans q314)
 obtain ⟨v316, e317, q318⟩ : ∃ v, a.tmps.getD 65 undef = v ∧ (v = v15) := ⟨_, rfl, hT311 5 (by decide) 65 rfl⟩
 have hE := hE.add (e317.trans q318)
 obtain ⟨v319, e320, q321⟩ : ∃ v, a.tmps.getD 66 undef = v ∧ (v = (.int .i64 (x14.length : Int)) ∧ inR .i64 (x14.length : Int)) := ⟨_, rfl, hT311 6 (by decide) 66 rfl⟩
 obtain ⟨q321, hr322⟩ := q321
 have hE := hE.add (e320.trans q321)
 obtain ⟨v323, e324, q325⟩ : ∃ v, a.tmps.getD 67 undef = v ∧ (v = (.bool (decide ((x14.length : Int) ≤ x42)))) := ⟨_, rfl, hT311 7 (by decide) 67 rfl⟩
 have hE := hE.add (e324.trans q325)
 obtain ⟨v326, e327, q328⟩ : ∃ v, a.tmps.getD 69 undef = v ∧ (v = (.bool (decide ((x14.length : Int) ≤ x42)))) := ⟨_, rfl, hT311 9 (by decide) 69 rfl⟩
 have hE := hE.add (e327.trans q328)
 obtain ⟨v329, e330, q331⟩ : ∃ v, a.tmps.getD 70 undef = v ∧ (RV kAV m304 v x48.2) := ⟨_, rfl, hT311 10 (by decide) 70 rfl⟩
 have hE := hE.add (e330)
 obtain ⟨v332, e333, q334⟩ : ∃ v, a.tmps.getD 71 undef = v ∧ (v = v15) := ⟨_, rfl, hT311 11 (by decide) 71 rfl⟩
 have hE := hE.add (e333.trans q334)
 obtain ⟨v335, e336, q337⟩ : ∃ v, a.tmps.getD 72 undef = v ∧ (v = (.int .i64 x42) ∧ inR .i64 x42) := ⟨_, rfl, hT311 12 (by decide) 72 rfl⟩
 obtain ⟨q337, hr338⟩ := q337
 have hE := hE.add (e336.trans q337)
 obtain ⟨v339, e340, q341⟩ : ∃ v, a.tmps.getD 73 undef = v ∧ (PR kAV m304 v x241) := ⟨_, rfl, hT311 13 (by decide) 73 rfl⟩
 have hE := hE.add (e340)
 obtain ⟨v342, e343, q344⟩ : ∃ v, a.tmps.getD 74 undef = v ∧ (RV kAV m304 v x241) := ⟨_, rfl, hT311 14 (by decide) 74 rfl⟩
 have hE := hE.add (e343)
 refine spg hE rfl rfl rfl rfl hd152 (r_neqK hE eq53 rfl rfl q331 q344 rfl) rfl fun a hE => ?_
 refine sp hE (r_pickF hE rfl hd152 rfl) rfl fun a hE => ?_
 refine knil ?_
 exact ⟨(!decide (x48.2 = x241)), h, _, hm306, hS, hE.cut ⟨rfl, rfl, rfl, rfl, rfl, trivial⟩⟩
 }
 }
 }
 }
 {
 rintro a w ⟨x67, h, m65, hm66, hS, hE⟩
 unfold hayloftlaw07_BlockMany_j3 at h
 refine kif hE rfl (fun hd69 => ?_) (fun hd69 => ?_)
 {
 have h := ite_T hd69 h
 refine kseq (kreg ?_)
 refine st0 hE (st_storeF hE hS ty4 StF_self rfl rfl RV_of_bool (i := 3) rfl (kBool.mono hm66 hc47)) ?_
 rintro _ w ⟨cs70, hc71, hS⟩ hE
 refine knil (kret ?_)
 cases h
 try dsimp only
 exact ⟨rfl, rfl, _, [(b34, cs43), (b4, [v15]), (b1, cs70)], [(4, v15)], hm66, ⟨cs43, cs70, (M.le.trans hm41 hm66), ((kInt .i64).mono hm66 hc44), hc71, rfl, rfl⟩, (hS.pickL 4 [1, 2, 3] rfl rfl rfl)⟩
 }
 {
 have h := ite_F hd69 h
 refine kskip (kreg ?_)
 refine st hE (st_loadL hE hS ty3 rfl (i := 1) rfl (R_whole ((kInt .i64).mono hm66 hc44))) rfl ?_
 rintro v74 a _ ⟨rfl, hv73⟩ hE
 obtain ⟨rfl, hr75⟩ := RV_int hv73
 refine sp hE (r_bin hE rfl rfl (b_add rfl)) rfl fun a hE => ?_
 refine st0 hE (st_storeF hE hS ty3 StF_self rfl rfl (RV_of_int (inR_wrap _ _)) (i := 1) rfl ((kInt .i64).mono hm66 hc44)) ?_
 rintro _ w ⟨cs77, hc78, hS⟩ hE
 refine knil ?_
 cases h
 try dsimp only
 exact ⟨rfl, _, [(b34, cs77), (b4, [v15]), (b1, cs46)], [(4, v15)], hm66, ⟨cs77, cs46, (M.le.trans hm41 hm66), hc78, (kBool.mono hm66 hc47), rfl, rfl⟩, (hS.pickL 4 [1, 2, 3] rfl rfl rfl)⟩
 }
 }
 }
 {
 intro D349 m353 w a Ls_ TLs_ hm354 hE hI51 hS hk351 hB352
 obtain ⟨cs356, cs357, _, hc358, hc359, rfl, rfl⟩ := hI51
 obtain ⟨W0, hW350⟩ : ∃ W9, W9 = W0.put D349 (.deferred (some [])) := ⟨_, rfl⟩
 rw [← hW350] at hS
 rcases Bool.eq_false_or_eq_true y347.2 with hb355 | hb355
 {
 have h := ite_T hb355 h
 rw [if_pos hb355]
 refine kseq ?_
 refine kcut (fun a w => ∃ x362 : Bool, hayloftlaw07_BlockMany_j4 x362 = some r ∧ ∃ m', M.le m353 m' ∧ ∃ (cs363 : List Value), kBool.R m' cs363 x362 ∧ S W0 m' w ((b34, cs356) :: (b4, [v15]) :: (b1, cs363) :: L) ((4, v15) :: TL) ∧ EnvD [D349] 86 a [(4, (.pointer (some ⟨b1, 0, none⟩)))]) ?_ ?_
 {
 refine kreg ?_
 obtain ⟨r366, hr367, h⟩ := ob h
 refine st hE (st_call (vs := []) hE rfl Try.call31 (c_hayloftlaw07_alive (hS := hS) hr367)) rfl ?_
 rintro v371 a w ⟨m368, hm369, hS, hv370⟩ hE
 obtain rfl := RV_bool hv370
 refine qm hE rfl rfl fun a hE => ?_
 rcases Bool.eq_false_or_eq_true r366 with hd373 | hd373
 {
 have h := ite_T hd373 h
 refine stg hE rfl rfl rfl rfl hd373 (st_loadL hE hS ty3 rfl (i := 0) rfl (R_whole ((kInt .i64).mono hm369 hc358))) rfl ?_
 rintro v375 a _ ⟨rfl, hv374⟩ hE
 obtain ⟨rfl, hr376⟩ := RV_int hv374
 refine spg hE rfl rfl rfl rfl hd373 (st_loadSl (k := kAV) hE hS ty29 rfl (i := 1) rfl (hc16.mono (M.le.trans hm22 (M.le.trans hm27 (M.le.trans hm354 hm369))))) rfl fun a hE => ?_
 refine spg hE rfl rfl rfl rfl hd373 (r_lenSl (k := kAV) hE rfl rfl Try.underlying29 (hc16.mono (M.le.trans hm22 (M.le.trans hm27 (M.le.trans hm354 hm369))))) rfl fun a hE => ?_
 refine spg hE rfl rfl rfl rfl hd373 (r_bin hE rfl rfl b_eql) rfl fun a hE => ?_
 refine sp hE (r_pickT hE rfl hd373 rfl) rfl fun a hE => ?_
 refine st0 hE (st_storeF hE hS ty4 StF_self rfl rfl RV_of_bool (i := 2) rfl (kBool.mono hm369 hc359)) ?_
 rintro _ w ⟨cs382, hc383, hS⟩ hE
 refine knil ?_
 exact ⟨(y347.1.1 == (x14.length : Int)), h, _, hm369, cs382, hc383, hS, hE.cut ⟨rfl, trivial⟩⟩
 }
 {
 have h := ite_F hd373 h
 refine sx hE rfl rfl rfl rfl hd373 rfl fun a hE => ?_
 refine sx hE rfl rfl rfl rfl hd373 rfl fun a hE => ?_
 refine sx hE rfl rfl rfl rfl hd373 rfl fun a hE => ?_
 refine sx hE rfl rfl rfl rfl hd373 rfl fun a hE => ?_
 refine sp hE (r_pickF hE rfl hd373 rfl) rfl fun a hE => ?_
 refine st0 hE (st_storeF hE hS ty4 StF_self rfl rfl RV_of_bool (i := 2) rfl (kBool.mono hm369 hc359)) ?_
 rintro _ w ⟨cs386, hc387, hS⟩ hE
 refine knil ?_
 exact ⟨false, h, _, hm369, cs386, hc387, hS, hE.cut ⟨rfl, trivial⟩⟩
 }
 }
 {
 rintro a w ⟨x362, h, m360, hm361, cs363, hc364, hS, hE⟩
 unfold hayloftlaw07_BlockMany_j4 at h
 refine kret ?_
 obtain rfl := oi h
 try dsimp only
 have hS := hS
 rw [hW350] at hS
 refine FinM.shut hE hS hk351 hB352 fun a w hS hE => ?_
 refine FinM.nil hE ?_
 refine Fin.mk hE (rs := [.cell 4 4]) rfl (ResL.cell hE hS ty4 rfl (i := 2) rfl (R_whole hc364) ResL.nil) ?_
 exact ⟨_, (M.le.trans hm10 (M.le.trans hm22 (M.le.trans hm27 (M.le.trans hm354 hm361)))), ((hS.dropL 3).dropT 1), (RV_of_R (R_whole hc364))⟩
 }
 }
 {
 have h := ite_F hb355 h
 rw [if_neg (by rw [hb355]; decide)]
 try dsimp only
 refine kret ?_
 obtain rfl := oi h
 try dsimp only
 have hS := hS
 rw [hW350] at hS
 refine FinM.shut hE hS hk351 hB352 fun a w hS hE => ?_
 refine FinM.nil hE ?_
 refine Fin.mk hE (rs := [.cell 4 4]) rfl (ResL.cell hE hS ty4 rfl (i := 2) rfl (R_whole hc359) ResL.nil) ?_
 exact ⟨_, (M.le.trans hm10 (M.le.trans hm22 (M.le.trans hm27 hm354))), ((hS.dropL 3).dropT 1), (RV_of_R (R_whole hc359))⟩
 }
 }
 }
 }
 }
end Go.Proofs.Ytifobhaccglckaa.Hay
