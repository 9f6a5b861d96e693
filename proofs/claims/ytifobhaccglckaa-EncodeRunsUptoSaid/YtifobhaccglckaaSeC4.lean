import Derived.Test.YtifobhaccglckaaSeC3
set_option maxRecDepth 100000
set_option maxHeartbeats 4000000
set_option linter.unusedVariables false
namespace Go.Proofs.Ytifobhaccglckaa.Hay
open Go.Proofs
/- 7 -/
theorem c_hayloftlaw06_EncodeRuns {W0 : World} {m : M} {w : World} {L : List (Nat × List Value)} {TL : List (Nat × Value)} (hS : S W0 m w (L) (TL)) {v0 : Value} {p0 : (List Api_Value)} (ha0 : RV (kSl kApi_Value) m v0 p0) {r : Bool} (h : hayloftlaw06_EncodeRuns p0 = some r) :
    Calls Try.prog 7 [v0].toArray w (Ret fun v w' => ∃ m', M.le m m' ∧ S W0 m' w' (L) (TL) ∧ RV kBool m' v r) := by
 refine kcall Try.func7 rfl Try.ntmps7 (Nat.le_of_ble_eq_true rfl) fun a hE => ?_
 have hE : Env 90 a [(0, v0)] := hE
 unfold hayloftlaw06_EncodeRuns at h
 refine kseq ?_
 refine kreg ?_
 refine sp hE (r_assign hE rfl) rfl fun a hE => ?_
 refine knil ?_
 refine kseq ?_
 refine kreg ?_
 refine sp hE (r_move hE rfl) rfl fun a hE => ?_
 obtain ⟨r3, hr4, h⟩ := ob h
 refine st hE (st_call (vs := [v0]) hE rfl Try.call27 (c_encode_Runs (hS := hS) ha0 hr4)) rfl ?_
 rintro v8 a w ⟨m5, hm6, hS, hv7⟩ hE
 refine sp hE (r_assign hE rfl) rfl fun a hE => ?_
 refine knil ?_
 refine kseq ?_
 refine kreg ?_
 refine sp hE (r_move hE rfl) rfl fun a hE => ?_
 obtain ⟨r11, hr12, h⟩ := ob h
 refine st hE (st_call (vs := [v0]) hE rfl Try.call28 (c_hayloftref06_Runs (hS := hS) (ha0.mono hm6) hr12)) rfl ?_
 rintro v16 a w ⟨m13, hm14, hS, hv15⟩ hE
 refine sp hE (r_assign hE rfl) rfl fun a hE => ?_
 refine knil ?_
 refine kseq ?_
 refine kseq ?_
 refine kcut (fun a w => ∃ x20 : Bool, hayloftlaw06_EncodeRuns_j1 p0 r3 r11 x20 = some r ∧ ∃ m', M.le m13 m' ∧ S W0 m' w (L) ((5, v16) :: TL) ∧ Env 90 a [(0, v0), (3, v8), (4, v16), (20, (.bool x20))]) ?_ ?_
 {
 refine kreg ?_
 obtain ⟨r732, hr733, h⟩ := ob h
 refine st hE (st_call (vs := []) hE rfl Try.call22 (c_hayloftlaw06_alive (hS := hS) hr733)) rfl ?_
 rintro v737 a w ⟨m734, hm735, hS, hv736⟩ hE
 obtain rfl := RV_bool hv736
 refine sp hE (r_not hE rfl) rfl fun a hE => ?_
 refine sp hE (r_move hE rfl) rfl fun a hE => ?_
 rcases Bool.eq_false_or_eq_true (!r732) with hd740 | hd740
 {
 have h := ite_T hd740 h
 refine sx hE rfl rfl rfl rfl hd740 rfl fun a hE => ?_
 refine sx hE rfl rfl rfl rfl hd740 rfl fun a hE => ?_
 refine sx hE rfl rfl rfl rfl hd740 rfl fun a hE => ?_
 refine sx hE rfl rfl rfl rfl hd740 rfl fun a hE => ?_
 refine sx hE rfl rfl rfl rfl hd740 rfl fun a hE => ?_
 refine sp hE (r_pickT hE rfl hd740 rfl) rfl fun a hE => ?_
 refine knil ?_
 exact ⟨true, h, _, hm735, hS, hE.cut ⟨rfl, rfl, rfl, rfl, trivial⟩⟩
 }
 {
 have h := ite_F hd740 h
 refine spg hE rfl rfl rfl rfl hd740 (r_move hE rfl) rfl fun a hE => ?_
 refine spg hE rfl rfl rfl rfl hd740 (r_lenSl (k := kEncode_Run) hE rfl rfl Try.underlying48 (hv7.mono (M.le.trans hm14 hm735))) rfl fun a hE => ?_
 refine spg hE rfl rfl rfl rfl hd740 (r_move hE rfl) rfl fun a hE => ?_
 refine spg hE rfl rfl rfl rfl hd740 (r_lenSl (k := kHayloftref06_Run) hE rfl rfl Try.underlying50 (hv15.mono hm735)) rfl fun a hE => ?_
 refine spg hE rfl rfl rfl rfl hd740 (r_bin hE rfl rfl b_neq) rfl fun a hE => ?_
 refine sp hE (r_pickF hE rfl hd740 rfl) rfl fun a hE => ?_
 refine knil ?_
 exact ⟨((r3.length : Int) != (r11.length : Int)), h, _, hm735, hS, hE.cut ⟨rfl, rfl, rfl, rfl, trivial⟩⟩
 }
 }
 {
 rintro a w ⟨x20, h, m18, hm19, hS, hE⟩
 unfold hayloftlaw06_EncodeRuns_j1 at h
 refine kif hE rfl (fun hd22 => ?_) (fun hd22 => ?_)
 {
 have h := ite_T hd22 h
 refine kseq ?_
 refine kreg ?_
 refine sp hE (r_assign hE rfl) rfl fun a hE => ?_
 refine knil ?_
 refine kret ?_
 obtain rfl := Option.some.inj h
 try dsimp only
 refine Fin.mk (fn := Try.f7) hE (rs := [.tmp 2]) rfl (ResL.tmp hE rfl ResL.nil) ?_
 exact ⟨_, (M.le.trans hm6 (M.le.trans hm14 hm19)), (hS.dropT 1), RV_of_bool⟩
 }
 {
 have h := ite_F hd22 h
 refine kskip ?_
 refine kseq ?_
 refine kreg ?_
 refine sp hE (r_assign hE rfl) rfl fun a hE => ?_
 refine knil ?_
 refine kseq ?_
 refine kseq ?_
 refine kreg ?_
 refine sp hE (r_move hE rfl) rfl fun a hE => ?_
 refine sp hE (r_lenSl (k := kEncode_Run) hE rfl rfl Try.underlying48 (hv7.mono (M.le.trans hm14 hm19))) rfl fun a hE => ?_
 refine sp hE (r_move hE rfl) rfl fun a hE => ?_
 refine knil ?_
 refine kcut (fun a w => ∃ x30 : Int, hayloftlaw06_EncodeRuns_j2 p0 x30 = some r ∧ ∃ m', M.le m18 m' ∧ inR .i64 x30 ∧ S W0 m' w (L) (TL) ∧ Env 90 a [(0, v0), (5, (.int .i64 x30))]) ?_ ?_
 {
 refine kblock ?_
 refine kloop h (fun (s : (Int × Int)) a w => ∃ m', M.le m18 m' ∧ inR .i64 s.1 ∧ inR .i64 s.2 ∧ S W0 m' w (L) ((5, v16) :: TL) ∧ Env 90 a [(0, v0), (3, v8), (4, v16), (5, (.int .i64 s.1)), (22, (.int .i64 (r3.length : Int))), (23, (.int .i64 s.2))]) ?_ ?_
 {
 exact ⟨_, (M.le.refl _), (show inR .i64 0 from inR_lit (by decide)), (show inR .i64 0 from inR_lit (by decide)), hS, hE.cut ⟨rfl, rfl, rfl, rfl, rfl, rfl, trivial⟩⟩
 }
 {
 rintro ⟨x40, x42⟩ a w ⟨m38, hm39, hr41, hr43, hS, hE⟩ r44 h hb45
 have h : hayloftlaw06_EncodeRuns_b1 p0 r3 r11 x40 x42 = some r44 := h
 unfold hayloftlaw06_EncodeRuns_b1 at h
 refine kseq ?_
 refine kreg ?_
 refine sp hE (r_bin hE rfl rfl b_lss) rfl fun a hE => ?_
 refine knil ?_
 refine kseq ?_
 refine kif hE rfl (fun hd47 => ?_) (fun hd47 => ?_)
 {
 have h := ite_T hd47 h
 refine kskip ?_
 refine kseq ?_
 refine kcut (fun a w => ∃ x50 : Int, hayloftlaw06_EncodeRuns_j3 x42 x50 = some r44 ∧ ∃ m', M.le m38 m' ∧ inR .i64 x50 ∧ S W0 m' w (L) ((5, v16) :: TL) ∧ Env 90 a [(0, v0), (3, v8), (4, v16), (5, (.int .i64 x50)), (22, (.int .i64 (r3.length : Int))), (23, (.int .i64 x42))]) ?_ ?_
 {
 refine kblock ?_
 refine kseq ?_
 refine kreg ?_
 refine sp hE (r_move hE rfl) rfl fun a hE => ?_
 refine sp hE (r_assign hE rfl) rfl fun a hE => ?_
 refine knil ?_
 refine kseq ?_
 refine kseq ?_
 refine kcut (fun a w => ∃ x59 : Bool, hayloftlaw06_EncodeRuns_j4 p0 r3 x40 x42 x59 = some r44 ∧ ∃ m', M.le m38 m' ∧ S W0 m' w (L) ((5, v16) :: TL) ∧ Env 90 a [(0, v0), (3, v8), (4, v16), (5, (.int .i64 x40)), (6, (.int .i64 x42)), (22, (.int .i64 (r3.length : Int))), (23, (.int .i64 x42)), (57, (.bool x59))]) ?_ ?_
 {
 obtain ⟨x261, hx262, h⟩ := ob h
 obtain ⟨x268, hx269, h⟩ := ob h
 rcases Bool.eq_false_or_eq_true (x261.fMany != x268.fMany) with hd275 | hd275
 {
 have h := ite_T hd275 h
 refine kchain (k := 27) (m := m38) (es := []) (Φ := (fun i m ws v => match i with | 0 => v = v8 | 1 => v = (.int .i64 x42) ∧ inR .i64 x42 | 2 => PR kEncode_Run m v x261 | 3 => PR (kInt .i64) m v x261.fMany | 4 => v = (.int .i64 x261.fMany) ∧ inR .i64 x261.fMany | 5 => v = v16 | 6 => v = (.int .i64 x42) ∧ inR .i64 x42 | 7 => PR kHayloftref06_Run m v x268 | 8 => PR (kInt .i64) m v x268.fMany | 9 => v = (.int .i64 x268.fMany) ∧ inR .i64 x268.fMany | 10 => v = (.bool (x261.fMany != x268.fMany)) | 11 => v = (.bool (x261.fMany != x268.fMany)) | 12 => v = undef | 13 => v = undef | 14 => v = undef | 15 => v = undef | 16 => v = undef | 17 => v = undef | 18 => v = undef | 19 => v = undef | 20 => v = undef | 21 => v = undef | 22 => v = undef | 23 => v = (.bool true) | 24 => v = (.bool true) | 25 => v = undef | 26 => v = undef | _ => True)) (Q := (fun c m ws L' TL' => match c with | 0 => L = L' ∧ (5, v16) :: TL = TL' | _ => False)) (cs := [⟨0, 0, false, [(3, v8)]⟩, ⟨0, 0, false, [(6, (.int .i64 x42))]⟩, ⟨0, 0, false, []⟩, ⟨0, 0, false, []⟩, ⟨0, 0, false, []⟩, ⟨0, 0, false, [(4, v16)]⟩, ⟨0, 0, false, [(6, (.int .i64 x42))]⟩, ⟨0, 0, false, []⟩, ⟨0, 0, false, []⟩, ⟨0, 0, false, []⟩, ⟨0, 0, false, []⟩, ⟨0, 0, false, []⟩, ⟨0, 0, false, [(3, v8)]⟩, ⟨0, 0, false, [(6, (.int .i64 x42))]⟩, ⟨0, 0, false, []⟩, ⟨0, 0, false, []⟩, ⟨0, 0, false, []⟩, ⟨0, 0, false, [(4, v16)]⟩, ⟨0, 0, false, [(6, (.int .i64 x42))]⟩, ⟨0, 0, false, []⟩, ⟨0, 0, false, []⟩, ⟨0, 0, false, []⟩, ⟨0, 0, false, []⟩, ⟨0, 0, false, []⟩, ⟨0, 0, false, []⟩, ⟨0, 0, false, [(3, v8)]⟩, ⟨0, 0, false, [(6, (.int .i64 x42))]⟩]) mixed hE hS ⟨rfl, rfl⟩ rfl rfl ⟨⟨rfl, trivial⟩, ⟨rfl, trivial⟩, trivial, trivial, trivial, ⟨rfl, trivial⟩, ⟨rfl, trivial⟩, trivial, trivial, trivial, trivial, trivial, ⟨rfl, trivial⟩, ⟨rfl, trivial⟩, trivial, trivial, trivial, ⟨rfl, trivial⟩, ⟨rfl, trivial⟩, trivial, trivial, trivial, trivial, trivial, trivial, ⟨rfl, trivial⟩, ⟨rfl, trivial⟩, trivial⟩ (by kernel_rfl) ?_ ?_ ?_ ?_
 {
 intro i m_ m2_ ws v hm_ hp_
 match i, hp_ with
 | 0, hp_ => exact hp_
 | 1, hp_ => exact hp_
 | 2, hp_ => exact PR.mono hp_ hm_
 | 3, hp_ => exact PR.mono hp_ hm_
 | 4, hp_ => exact hp_
 | 5, hp_ => exact hp_
 | 6, hp_ => exact hp_
 | 7, hp_ => exact PR.mono hp_ hm_
 | 8, hp_ => exact PR.mono hp_ hm_
 | 9, hp_ => exact hp_
 | 10, hp_ => exact hp_
 | 11, hp_ => exact hp_
 | 12, hp_ => exact hp_
 | 13, hp_ => exact hp_
 | 14, hp_ => exact hp_
 | 15, hp_ => exact hp_
 | 16, hp_ => exact hp_
 | 17, hp_ => exact hp_
 | 18, hp_ => exact hp_
 | 19, hp_ => exact hp_
 | 20, hp_ => exact hp_
 | 21, hp_ => exact hp_
 | 22, hp_ => exact hp_
 | 23, hp_ => exact hp_
 | 24, hp_ => exact hp_
 | 25, hp_ => exact hp_
 | 26, hp_ => exact hp_
 | _ + 27, hp_ => exact trivial
 }
 {
 intro c m_ m2_ ws L_ T_ hm_ hq_
 match c, hq_ with
 | 0, ⟨e1_, e2_⟩ => exact ⟨e1_, e2_⟩
 | _ + 1, hq_ => exact hq_.elim
 }
 {
 refine ⟨?_, ?_, ?_, ?_, ?_, ?_, ?_, ?_, ?_, ?_, ?_, ?_, ?_, ?_, ?_, ?_, ?_, ?_, ?_, ?_, ?_, ?_, ?_, ?_, ?_, ?_, ?_, trivial⟩
 {
 refine cplain fun pre_ post_ L_ T_ m' a' w' hl' hp' hm' hq' hS' hE' hT' => ?_
 obtain rfl := len0 hl'
 refine Step.imp (Run1.pure (r_move hE' rfl)) ?_
 rintro _ _ ⟨rfl, rfl⟩
 exact ⟨_, M.le.refl _, hS', rfl⟩
 }
 {
 refine cplain fun pre_ post_ L_ T_ m' a' w' hl' hp' hm' hq' hS' hE' hT' => ?_
 obtain rfl := len0 hl'
 refine Step.imp (Run1.pure (r_move hE' rfl)) ?_
 rintro _ _ ⟨rfl, rfl⟩
 exact ⟨_, M.le.refl _, hS', ⟨rfl, hr43⟩⟩
 }
 {
 refine cplain fun pre_ post_ L_ T_ m' a' w' hl' hp' hm' hq' hS' hE' hT' => ?_
 obtain rfl := len0 hl'
 obtain ⟨v278, e279, q280⟩ : ∃ v, a'.tmps.getD 26 undef = v ∧ (v = v8) := ⟨_, rfl, hT' 0 (by decide) 26 rfl⟩
 have hE := hE'.add (e279.trans q280)
 obtain ⟨v281, e282, q283⟩ : ∃ v, a'.tmps.getD 27 undef = v ∧ (v = (.int .i64 x42) ∧ inR .i64 x42) := ⟨_, rfl, hT' 1 (by decide) 27 rfl⟩
 obtain ⟨q283, hr284⟩ := q283
 have hE := hE.add (e282.trans q283)
 refine Step.imp (st_index (k := kEncode_Run) hE rfl rfl Try.underlying48 Try.sizeOf55 (hv7.mono (M.le.trans hm14 (M.le.trans hm19 (M.le.trans hm39 hm')))) hx262) ?_
 rintro v285 _ ⟨rfl, hp263⟩
 exact ⟨_, M.le.refl _, hS', hp263⟩
 }
 {
 refine cplain fun pre_ post_ L_ T_ m' a' w' hl' hp' hm' hq' hS' hE' hT' => ?_
 obtain rfl := len0 hl'
 obtain ⟨v286, e287, q288⟩ : ∃ v, a'.tmps.getD 28 undef = v ∧ (PR kEncode_Run m' v x261) := ⟨_, rfl, hT' 2 (by decide) 28 rfl⟩
 have hE := hE'.add (e287)
 refine Step.imp (st_fieldM hE fo55_0 fl55_0 rfl q288) ?_
 rintro v289 _ ⟨rfl, hp265⟩
 exact ⟨_, M.le.refl _, hS', hp265⟩
 }
 {
 refine cplain fun pre_ post_ L_ T_ m' a' w' hl' hp' hm' hq' hS' hE' hT' => ?_
 obtain rfl := len0 hl'
 obtain ⟨v290, e291, q292⟩ : ∃ v, a'.tmps.getD 29 undef = v ∧ (PR (kInt .i64) m' v x261.fMany) := ⟨_, rfl, hT' 3 (by decide) 29 rfl⟩
 have hE := hE'.add (e291)
 refine Step.imp (st_loadM hE hS' ty3 rfl q292) ?_
 rintro v293 _ ⟨rfl, hv266⟩
 obtain ⟨rfl, hr294⟩ := RV_int hv266
 exact ⟨_, M.le.refl _, hS', ⟨rfl, hr294⟩⟩
 }
 {
 refine cplain fun pre_ post_ L_ T_ m' a' w' hl' hp' hm' hq' hS' hE' hT' => ?_
 obtain rfl := len0 hl'
 refine Step.imp (Run1.pure (r_move hE' rfl)) ?_
 rintro _ _ ⟨rfl, rfl⟩
 exact ⟨_, M.le.refl _, hS', rfl⟩
 }
 {
 refine cplain fun pre_ post_ L_ T_ m' a' w' hl' hp' hm' hq' hS' hE' hT' => ?_
 obtain rfl := len0 hl'
 refine Step.imp (Run1.pure (r_move hE' rfl)) ?_
 rintro _ _ ⟨rfl, rfl⟩
 exact ⟨_, M.le.refl _, hS', ⟨rfl, hr43⟩⟩
 }
 {
 refine cplain fun pre_ post_ L_ T_ m' a' w' hl' hp' hm' hq' hS' hE' hT' => ?_
 obtain rfl := len0 hl'
 obtain ⟨v297, e298, q299⟩ : ∃ v, a'.tmps.getD 31 undef = v ∧ (v = v16) := ⟨_, rfl, hT' 5 (by decide) 31 rfl⟩
 have hE := hE'.add (e298.trans q299)
 obtain ⟨v300, e301, q302⟩ : ∃ v, a'.tmps.getD 32 undef = v ∧ (v = (.int .i64 x42) ∧ inR .i64 x42) := ⟨_, rfl, hT' 6 (by decide) 32 rfl⟩
 obtain ⟨q302, hr303⟩ := q302
 have hE := hE.add (e301.trans q302)
 refine Step.imp (st_index (k := kHayloftref06_Run) hE rfl rfl Try.underlying50 Try.sizeOf56 (hv15.mono (M.le.trans hm19 (M.le.trans hm39 hm'))) hx269) ?_
 rintro v304 _ ⟨rfl, hp270⟩
 exact ⟨_, M.le.refl _, hS', hp270⟩
 }
 {
 refine cplain fun pre_ post_ L_ T_ m' a' w' hl' hp' hm' hq' hS' hE' hT' => ?_
 obtain rfl := len0 hl'
 obtain ⟨v305, e306, q307⟩ : ∃ v, a'.tmps.getD 33 undef = v ∧ (PR kHayloftref06_Run m' v x268) := ⟨_, rfl, hT' 7 (by decide) 33 rfl⟩
 have hE := hE'.add (e306)
 refine Step.imp (st_fieldM hE fo56_0 fl56_0 rfl q307) ?_
 rintro v308 _ ⟨rfl, hp272⟩
 exact ⟨_, M.le.refl _, hS', hp272⟩
 }
 {
 refine cplain fun pre_ post_ L_ T_ m' a' w' hl' hp' hm' hq' hS' hE' hT' => ?_
 obtain rfl := len0 hl'
 obtain ⟨v309, e310, q311⟩ : ∃ v, a'.tmps.getD 34 undef = v ∧ (PR (kInt .i64) m' v x268.fMany) := ⟨_, rfl, hT' 8 (by decide) 34 rfl⟩
 have hE := hE'.add (e310)
 refine Step.imp (st_loadM hE hS' ty3 rfl q311) ?_
 rintro v312 _ ⟨rfl, hv273⟩
 obtain ⟨rfl, hr313⟩ := RV_int hv273
 exact ⟨_, M.le.refl _, hS', ⟨rfl, hr313⟩⟩
 }
 {
 refine cplain fun pre_ post_ L_ T_ m' a' w' hl' hp' hm' hq' hS' hE' hT' => ?_
 obtain rfl := len0 hl'
 obtain ⟨v314, e315, q316⟩ : ∃ v, a'.tmps.getD 30 undef = v ∧ (v = (.int .i64 x261.fMany) ∧ inR .i64 x261.fMany) := ⟨_, rfl, hT' 4 (by decide) 30 rfl⟩
 obtain ⟨q316, hr317⟩ := q316
 have hE := hE'.add (e315.trans q316)
 obtain ⟨v318, e319, q320⟩ : ∃ v, a'.tmps.getD 35 undef = v ∧ (v = (.int .i64 x268.fMany) ∧ inR .i64 x268.fMany) := ⟨_, rfl, hT' 9 (by decide) 35 rfl⟩
 obtain ⟨q320, hr321⟩ := q320
 have hE := hE.add (e319.trans q320)
 refine Step.imp (Run1.pure (r_bin hE rfl rfl b_neq)) ?_
 rintro _ _ ⟨rfl, rfl⟩
 exact ⟨_, M.le.refl _, hS', rfl⟩
 }
 {
 refine cplain fun pre_ post_ L_ T_ m' a' w' hl' hp' hm' hq' hS' hE' hT' => ?_
 obtain rfl := len0 hl'
 obtain ⟨v323, e324, q325⟩ : ∃ v, a'.tmps.getD 36 undef = v ∧ (v = (.bool (x261.fMany != x268.fMany))) := ⟨_, rfl, hT' 10 (by decide) 36 rfl⟩
 have hE := hE'.add (e324.trans q325)
 refine Step.imp (Run1.pure (r_move hE rfl)) ?_
 rintro _ _ ⟨rfl, rfl⟩
 exact ⟨_, M.le.refl _, hS', rfl⟩
 }
 {
 exact cskip (b := true) rfl rfl (by decide) (fun _ _ _ h_ => Eq.trans h_ (congrArg Value.bool hd275)) (by decide) (fun _ _ => rfl)
 }
 {
 exact cskip (b := true) rfl rfl (by decide) (fun _ _ _ h_ => Eq.trans h_ (congrArg Value.bool hd275)) (by decide) (fun _ _ => rfl)
 }
 {
 exact cskip (b := true) rfl rfl (by decide) (fun _ _ _ h_ => Eq.trans h_ (congrArg Value.bool hd275)) (by decide) (fun _ _ => rfl)
 }
 {
 exact cskip (b := true) rfl rfl (by decide) (fun _ _ _ h_ => Eq.trans h_ (congrArg Value.bool hd275)) (by decide) (fun _ _ => rfl)
 }
 {
 exact cskip (b := true) rfl rfl (by decide) (fun _ _ _ h_ => Eq.trans h_ (congrArg Value.bool hd275)) (by decide) (fun _ _ => rfl)
 }
 {
 exact cskip (b := true) rfl rfl (by decide) (fun _ _ _ h_ => Eq.trans h_ (congrArg Value.bool hd275)) (by decide) (fun _ _ => rfl)
 }
 {
 exact cskip (b := true) rfl rfl (by decide) (fun _ _ _ h_ => Eq.trans h_ (congrArg Value.bool hd275)) (by decide) (fun _ _ => rfl)
 }
 {
 exact cskip (b := true) rfl rfl (by decide) (fun _ _ _ h_ => Eq.trans h_ (congrArg Value.bool hd275)) (by decide) (fun _ _ => rfl)
 }
 {
 exact cskip (b := true) rfl rfl (by decide) (fun _ _ _ h_ => Eq.trans h_ (congrArg Value.bool hd275)) (by decide) (fun _ _ => rfl)
 }
 {
 exact cskip (b := true) rfl rfl (by decide) (fun _ _ _ h_ => Eq.trans h_ (congrArg Value.bool hd275)) (by decide) (fun _ _ => rfl)
 }
 {
 exact cskip (b := true) rfl rfl (by decide) (fun _ _ _ h_ => Eq.trans h_ (congrArg Value.bool hd275)) (by decide) (fun _ _ => rfl)
 }
 {
 refine cplain fun pre_ post_ L_ T_ m' a' w' hl' hp' hm' hq' hS' hE' hT' => ?_
 obtain rfl := len0 hl'
 obtain ⟨v327, e328, q329⟩ : ∃ v, a'.tmps.getD 37 undef = v ∧ (v = (.bool (x261.fMany != x268.fMany))) := ⟨_, rfl, hT' 11 (by decide) 37 rfl⟩
 have hE := hE'.add (e328.trans q329)
 obtain ⟨v330, e331, q332⟩ : ∃ v, a'.tmps.getD 48 undef = v ∧ (v = undef) := ⟨_, rfl, hT' 22 (by decide) 48 rfl⟩
 have hE := hE.add (e331.trans q332)
 refine Step.imp (Run1.pure (r_pickT hE rfl hd275 rfl)) ?_
 rintro _ _ ⟨rfl, rfl⟩
 exact ⟨_, M.le.refl _, hS', rfl⟩
 }
 {
 refine cplain fun pre_ post_ L_ T_ m' a' w' hl' hp' hm' hq' hS' hE' hT' => ?_
 obtain rfl := len0 hl'
 obtain ⟨v334, e335, q336⟩ : ∃ v, a'.tmps.getD 49 undef = v ∧ (v = (.bool true)) := ⟨_, rfl, hT' 23 (by decide) 49 rfl⟩
 have hE := hE'.add (e335.trans q336)
 refine Step.imp (Run1.pure (r_move hE rfl)) ?_
 rintro _ _ ⟨rfl, rfl⟩
 exact ⟨_, M.le.refl _, hS', rfl⟩
 }
 {
 exact cskip (b := true) rfl rfl (by decide) (fun _ _ _ h_ => Eq.trans h_ (congrArg Value.bool rfl)) (by decide) (fun _ _ => rfl)
 }
 {
 exact cskip (b := true) rfl rfl (by decide) (fun _ _ _ h_ => Eq.trans h_ (congrArg Value.bool rfl)) (by decide) (fun _ _ => rfl)
 }
 }
 {
 intro ws_ L_ T_ m338 a w hl339 hm340 hq341 hS hd342 hn343 ho344 hT345
 obtain rfl := len0 hl339
 obtain ⟨rfl, rfl⟩ := hq341
 have hE := Env.of (k := 27) (l' := [(0, v0), (3, v8), (4, v16), (5, (.int .i64 x40)), (6, (.int .i64 x42)), (22, (.int .i64 (r3.length : Int))), (23, (.int .i64 x42)), (24, (.bool (decide (x42 < (r3.length : Int))))), (25, (.int .i64 x42))]) hd342 hn343 ho344 ⟨rfl, rfl, rfl, rfl, rfl, rfl, rfl, rfl, rfl, trivial⟩ rfl
 obtain ⟨v346, e347, q348⟩ : ∃ v, a.tmps.getD 38 undef = v ∧ (v = undef) := ⟨_, rfl, hT345 12 (by decide) 38 rfl⟩
 have hE := hE.add (e347.trans q348)
 obtain ⟨v349, e350, q351⟩ : ∃ v, a.tmps.getD 39 undef = v ∧ (v = undef) := ⟨_, rfl, hT345 13 (by decide) 39 rfl⟩
 have hE := hE.add (e350.trans q351)
 obtain ⟨v352, e353, q354⟩ : ∃ v, a.tmps.getD 40 undef = v ∧ (v = undef) := ⟨_, rfl, hT345 14 (by decide) 40 rfl⟩
 have hE := hE.add (e353.trans q354)
 obtain ⟨v355, e356, q357⟩ : ∃ v, a.tmps.getD 41 undef = v ∧ (v = undef) := ⟨_, rfl, hT345 15 (by decide) 41 rfl⟩
 have hE := hE.add (e356.trans q357)
 obtain ⟨v358, e359, q360⟩ : ∃ v, a.tmps.getD 42 undef = v ∧ (v = undef) := ⟨_, rfl, hT345 16 (by decide) 42 rfl⟩
 have hE := hE.add (e359.trans q360)
 obtain ⟨v361, e362, q363⟩ : ∃ v, a.tmps.getD 43 undef = v ∧ (v = undef) := ⟨_, rfl, hT345 17 (by decide) 43 rfl⟩
 have hE := hE.add (e362.trans q363)
 obtain ⟨v364, e365, q366⟩ : ∃ v, a.tmps.getD 44 undef = v ∧ (v = undef) := ⟨_, rfl, hT345 18 (by decide) 44 rfl⟩
 have hE := hE.add (e365.trans q366)
 obtain ⟨v367, e368, q369⟩ : ∃ v, a.tmps.getD 45 undef = v ∧ (v = undef) := ⟨_, rfl, hT345 19 (by decide) 45 rfl⟩
 have hE := hE.add (e368.trans q369)
 obtain ⟨v370, e371, q372⟩ : ∃ v, a.tmps.getD 46 undef = v ∧ (v = undef) := ⟨_, rfl, hT345 20 (by decide) 46 rfl⟩
 have hE := hE.add (e371.trans q372)
 obtain ⟨v373, e374, q375⟩ : ∃ v, a.tmps.getD 47 undef = v ∧ (v = undef) := ⟨_, rfl, hT345 21 (by decide) 47 rfl⟩
 have hE := hE.add (e374.trans q375)
 obtain ⟨v376, e377, q378⟩ : ∃ v, a.tmps.getD 48 undef = v ∧ (v = undef) := ⟨_, rfl, hT345 22 (by decide) 48 rfl⟩
 have hE := hE.add (e377.trans q378)
 obtain ⟨v379, e380, q381⟩ : ∃ v, a.tmps.getD 50 undef = v ∧ (v = (.bool true)) := ⟨_, rfl, hT345 24 (by decide) 50 rfl⟩
 have hE := hE.add (e380.trans q381)
 obtain ⟨v382, e383, q384⟩ : ∃ v, a.tmps.getD 51 undef = v ∧ (v = undef) := ⟨_, rfl, hT345 25 (by decide) 51 rfl⟩
 have hE := hE.add (e383.trans q384)
 obtain ⟨v385, e386, q387⟩ : ∃ v, a.tmps.getD 52 undef = v ∧ (v = undef) := ⟨_, rfl, hT345 26 (by decide) 52 rfl⟩
 have hE := hE.add (e386.trans q387)
 refine sx hE rfl rfl rfl rfl rfl rfl fun a hE => ?_
 refine sx hE rfl rfl rfl rfl rfl rfl fun a hE => ?_
 refine sx hE rfl rfl rfl rfl rfl rfl fun a hE => ?_
 refine sx hE rfl rfl rfl rfl rfl rfl fun a hE => ?_
 refine sp hE (r_pickT hE rfl rfl rfl) rfl fun a hE => ?_
 refine knil ?_
 exact ⟨true, h, _, hm340, hS, hE.cut ⟨rfl, rfl, rfl, rfl, rfl, rfl, rfl, rfl, trivial⟩⟩
 }
 }
 {
 have h := ite_F hd275 h
 obtain ⟨x389, hx390, h⟩ := ob h
 obtain ⟨x395, hx396, h⟩ := ob h
 rcases Bool.eq_false_or_eq_true (!decide (x389.fValue = x395.fValue)) with hd401 | hd401
 {
 have h := ite_T hd401 h
 refine kchain (k := 27) (m := m38) (es := []) (Φ := (fun i m ws v => match i with | 0 => v = v8 | 1 => v = (.int .i64 x42) ∧ inR .i64 x42 | 2 => PR kEncode_Run m v x261 | 3 => PR (kInt .i64) m v x261.fMany | 4 => v = (.int .i64 x261.fMany) ∧ inR .i64 x261.fMany | 5 => v = v16 | 6 => v = (.int .i64 x42) ∧ inR .i64 x42 | 7 => PR kHayloftref06_Run m v x268 | 8 => PR (kInt .i64) m v x268.fMany | 9 => v = (.int .i64 x268.fMany) ∧ inR .i64 x268.fMany | 10 => v = (.bool (x261.fMany != x268.fMany)) | 11 => v = (.bool (x261.fMany != x268.fMany)) | 12 => v = v8 | 13 => v = (.int .i64 x42) ∧ inR .i64 x42 | 14 => PR kEncode_Run m v x389 | 15 => PR kApi_Value m v x389.fValue | 16 => RV kApi_Value m v x389.fValue | 17 => v = v16 | 18 => v = (.int .i64 x42) ∧ inR .i64 x42 | 19 => PR kHayloftref06_Run m v x395 | 20 => PR kApi_Value m v x395.fValue | 21 => RV kApi_Value m v x395.fValue | 22 => v = (.bool (!decide (x389.fValue = x395.fValue))) | 23 => v = (.bool (!decide (x389.fValue = x395.fValue))) | 24 => v = (.bool (!decide (x389.fValue = x395.fValue))) | 25 => v = undef | 26 => v = undef | _ => True)) (Q := (fun c m ws L' TL' => match c with | 0 => L = L' ∧ (5, v16) :: TL = TL' | _ => False)) (cs := [⟨0, 0, false, [(3, v8)]⟩, ⟨0, 0, false, [(6, (.int .i64 x42))]⟩, ⟨0, 0, false, []⟩, ⟨0, 0, false, []⟩, ⟨0, 0, false, []⟩, ⟨0, 0, false, [(4, v16)]⟩, ⟨0, 0, false, [(6, (.int .i64 x42))]⟩, ⟨0, 0, false, []⟩, ⟨0, 0, false, []⟩, ⟨0, 0, false, []⟩, ⟨0, 0, false, []⟩, ⟨0, 0, false, []⟩, ⟨0, 0, false, [(3, v8)]⟩, ⟨0, 0, false, [(6, (.int .i64 x42))]⟩, ⟨0, 0, false, []⟩, ⟨0, 0, false, []⟩, ⟨0, 0, false, []⟩, ⟨0, 0, false, [(4, v16)]⟩, ⟨0, 0, false, [(6, (.int .i64 x42))]⟩, ⟨0, 0, false, []⟩, ⟨0, 0, false, []⟩, ⟨0, 0, false, []⟩, ⟨0, 0, false, []⟩, ⟨0, 0, false, []⟩, ⟨0, 0, false, []⟩, ⟨0, 0, false, [(3, v8)]⟩, ⟨0, 0, false, [(6, (.int .i64 x42))]⟩]) mixed hE hS ⟨rfl, rfl⟩ rfl rfl ⟨⟨rfl, trivial⟩, ⟨rfl, trivial⟩, trivial, trivial, trivial, ⟨rfl, trivial⟩, ⟨rfl, trivial⟩, trivial, trivial, trivial, trivial, trivial, ⟨rfl, trivial⟩, ⟨rfl, trivial⟩, trivial, trivial, trivial, ⟨rfl, trivial⟩, ⟨rfl, trivial⟩, trivial, trivial, trivial, trivial, trivial, trivial, ⟨rfl, trivial⟩, ⟨rfl, trivial⟩, trivial⟩ (by kernel_rfl) ?_ ?_ ?_ ?_
 {
 intro i m_ m2_ ws v hm_ hp_
 match i, hp_ with
 | 0, hp_ => exact hp_
 | 1, hp_ => exact hp_
 | 2, hp_ => exact PR.mono hp_ hm_
 | 3, hp_ => exact PR.mono hp_ hm_
 | 4, hp_ => exact hp_
 | 5, hp_ => exact hp_
 | 6, hp_ => exact hp_
 | 7, hp_ => exact PR.mono hp_ hm_
 | 8, hp_ => exact PR.mono hp_ hm_
 | 9, hp_ => exact hp_
 | 10, hp_ => exact hp_
 | 11, hp_ => exact hp_
 | 12, hp_ => exact hp_
 | 13, hp_ => exact hp_
 | 14, hp_ => exact PR.mono hp_ hm_
 | 15, hp_ => exact PR.mono hp_ hm_
 | 16, hp_ => exact RV.mono hp_ hm_
 | 17, hp_ => exact hp_
 | 18, hp_ => exact hp_
 | 19, hp_ => exact PR.mono hp_ hm_
 | 20, hp_ => exact PR.mono hp_ hm_
 | 21, hp_ => exact RV.mono hp_ hm_
 | 22, hp_ => exact hp_
 | 23, hp_ => exact hp_
 | 24, hp_ => exact hp_
 | 25, hp_ => exact hp_
 | 26, hp_ => exact hp_
 | _ + 27, hp_ => exact trivial
 }
 {
 intro c m_ m2_ ws L_ T_ hm_ hq_
 match c, hq_ with
 | 0, ⟨e1_, e2_⟩ => exact ⟨e1_, e2_⟩
 | _ + 1, hq_ => exact hq_.elim
 }
 {
 refine ⟨?_, ?_, ?_, ?_, ?_, ?_, ?_, ?_, ?_, ?_, ?_, ?_, ?_, ?_, ?_, ?_, ?_, ?_, ?_, ?_, ?_, ?_, ?_, ?_, ?_, ?_, ?_, trivial⟩
 {
 refine cplain fun pre_ post_ L_ T_ m' a' w' hl' hp' hm' hq' hS' hE' hT' => ?_
 obtain rfl := len0 hl'
 refine Step.imp (Run1.pure (r_move hE' rfl)) ?_
 rintro _ _ ⟨rfl, rfl⟩
 exact ⟨_, M.le.refl _, hS', rfl⟩
 }
 {
 refine cplain fun pre_ post_ L_ T_ m' a' w' hl' hp' hm' hq' hS' hE' hT' => ?_
 obtain rfl := len0 hl'
 refine Step.imp (Run1.pure (r_move hE' rfl)) ?_
 rintro _ _ ⟨rfl, rfl⟩
 exact ⟨_, M.le.refl _, hS', ⟨rfl, hr43⟩⟩
 }
 {
 refine cplain fun pre_ post_ L_ T_ m' a' w' hl' hp' hm' hq' hS' hE' hT' => ?_
 obtain rfl := len0 hl'
 obtain ⟨v404, e405, q406⟩ : ∃ v, a'.tmps.getD 26 undef = v ∧ (v = v8) := ⟨_, rfl, hT' 0 (by decide) 26 rfl⟩
 have hE := hE'.add (e405.trans q406)
 obtain ⟨v407, e408, q409⟩ : ∃ v, a'.tmps.getD 27 undef = v ∧ (v = (.int .i64 x42) ∧ inR .i64 x42) := ⟨_, rfl, hT' 1 (by decide) 27 rfl⟩
 obtain ⟨q409, hr410⟩ := q409
 have hE := hE.add (e408.trans q409)
 refine Step.imp (st_index (k := kEncode_Run) hE rfl rfl Try.underlying48 Try.sizeOf55 (hv7.mono (M.le.trans hm14 (M.le.trans hm19 (M.le.trans hm39 hm')))) hx262) ?_
 rintro v411 _ ⟨rfl, hp263⟩
 exact ⟨_, M.le.refl _, hS', hp263⟩
 }
 {
 refine cplain fun pre_ post_ L_ T_ m' a' w' hl' hp' hm' hq' hS' hE' hT' => ?_
 obtain rfl := len0 hl'
 obtain ⟨v412, e413, q414⟩ : ∃ v, a'.tmps.getD 28 undef = v ∧ (PR kEncode_Run m' v x261) := ⟨_, rfl, hT' 2 (by decide) 28 rfl⟩
 have hE := hE'.add (e413)
 refine Step.imp (st_fieldM hE fo55_0 fl55_0 rfl q414) ?_
 rintro v415 _ ⟨rfl, hp265⟩
 exact ⟨_, M.le.refl _, hS', hp265⟩
 }
 {
 refine cplain fun pre_ post_ L_ T_ m' a' w' hl' hp' hm' hq' hS' hE' hT' => ?_
 obtain rfl := len0 hl'
 obtain ⟨v416, e417, q418⟩ : ∃ v, a'.tmps.getD 29 undef = v ∧ (PR (kInt .i64) m' v x261.fMany) := ⟨_, rfl, hT' 3 (by decide) 29 rfl⟩
 have hE := hE'.add (e417)
 refine Step.imp (st_loadM hE hS' ty3 rfl q418) ?_
 rintro v419 _ ⟨rfl, hv266⟩
 obtain ⟨rfl, hr420⟩ := RV_int hv266
 exact ⟨_, M.le.refl _, hS', ⟨rfl, hr420⟩⟩
 }
 {
 refine cplain fun pre_ post_ L_ T_ m' a' w' hl' hp' hm' hq' hS' hE' hT' => ?_
 obtain rfl := len0 hl'
 refine Step.imp (Run1.pure (r_move hE' rfl)) ?_
 rintro _ _ ⟨rfl, rfl⟩
 exact ⟨_, M.le.refl _, hS', rfl⟩
 }
 {
 refine cplain fun pre_ post_ L_ T_ m' a' w' hl' hp' hm' hq' hS' hE' hT' => ?_
 obtain rfl := len0 hl'
 refine Step.imp (Run1.pure (r_move hE' rfl)) ?_
 rintro _ _ ⟨rfl, rfl⟩
 exact ⟨_, M.le.refl _, hS', ⟨rfl, hr43⟩⟩
 }
 {
 refine cplain fun pre_ post_ L_ T_ m' a' w' hl' hp' hm' hq' hS' hE' hT' => ?_
 obtain rfl := len0 hl'
 obtain ⟨v423, e424, q425⟩ : ∃ v, a'.tmps.getD 31 undef = v ∧ (v = v16) := ⟨_, rfl, hT' 5 (by decide) 31 rfl⟩
 have hE := hE'.add (e424.trans q425)
 obtain ⟨v426, e427, q428⟩ : ∃ v, a'.tmps.getD 32 undef = v ∧ (v = (.int .i64 x42) ∧ inR .i64 x42) := ⟨_, rfl, hT' 6 (by decide) 32 rfl⟩
 obtain ⟨q428, hr429⟩ := q428
 have hE := hE.add (e427.trans q428)
 refine Step.imp (st_index (k := kHayloftref06_Run) hE rfl rfl Try.underlying50 Try.sizeOf56 (hv15.mono (M.le.trans hm19 (M.le.trans hm39 hm'))) hx269) ?_
 rintro v430 _ ⟨rfl, hp270⟩
 exact ⟨_, M.le.refl _, hS', hp270⟩
 }
 {
 refine cplain fun pre_ post_ L_ T_ m' a' w' hl' hp' hm' hq' hS' hE' hT' => ?_
 obtain rfl := len0 hl'
 obtain ⟨v431, e432, q433⟩ : ∃ v, a'.tmps.getD 33 undef = v ∧ (PR kHayloftref06_Run m' v x268) := ⟨_, rfl, hT' 7 (by decide) 33 rfl⟩
 have hE := hE'.add (e432)
 refine Step.imp (st_fieldM hE fo56_0 fl56_0 rfl q433) ?_
 rintro v434 _ ⟨rfl, hp272⟩
 exact ⟨_, M.le.refl _, hS', hp272⟩
 }
 {
 refine cplain fun pre_ post_ L_ T_ m' a' w' hl' hp' hm' hq' hS' hE' hT' => ?_
 obtain rfl := len0 hl'
 obtain ⟨v435, e436, q437⟩ : ∃ v, a'.tmps.getD 34 undef = v ∧ (PR (kInt .i64) m' v x268.fMany) := ⟨_, rfl, hT' 8 (by decide) 34 rfl⟩
 have hE := hE'.add (e436)
 refine Step.imp (st_loadM hE hS' ty3 rfl q437) ?_
 rintro v438 _ ⟨rfl, hv273⟩
 obtain ⟨rfl, hr439⟩ := RV_int hv273
 exact ⟨_, M.le.refl _, hS', ⟨rfl, hr439⟩⟩
 }
 {
 refine cplain fun pre_ post_ L_ T_ m' a' w' hl' hp' hm' hq' hS' hE' hT' => ?_
 obtain rfl := len0 hl'
 obtain ⟨v440, e441, q442⟩ : ∃ v, a'.tmps.getD 30 undef = v ∧ (v = (.int .i64 x261.fMany) ∧ inR .i64 x261.fMany) := ⟨_, rfl, hT' 4 (by decide) 30 rfl⟩
 obtain ⟨q442, hr443⟩ := q442
 have hE := hE'.add (e441.trans q442)
 obtain ⟨v444, e445, q446⟩ : ∃ v, a'.tmps.getD 35 undef = v ∧ (v = (.int .i64 x268.fMany) ∧ inR .i64 x268.fMany) := ⟨_, rfl, hT' 9 (by decide) 35 rfl⟩
 obtain ⟨q446, hr447⟩ := q446
 have hE := hE.add (e445.trans q446)
 refine Step.imp (Run1.pure (r_bin hE rfl rfl b_neq)) ?_
 rintro _ _ ⟨rfl, rfl⟩
 exact ⟨_, M.le.refl _, hS', rfl⟩
 }
 {
 refine cplain fun pre_ post_ L_ T_ m' a' w' hl' hp' hm' hq' hS' hE' hT' => ?_
 obtain rfl := len0 hl'
 obtain ⟨v449, e450, q451⟩ : ∃ v, a'.tmps.getD 36 undef = v ∧ (v = (.bool (x261.fMany != x268.fMany))) := ⟨_, rfl, hT' 10 (by decide) 36 rfl⟩
 have hE := hE'.add (e450.trans q451)
 refine Step.imp (Run1.pure (r_move hE rfl)) ?_
 rintro _ _ ⟨rfl, rfl⟩
 exact ⟨_, M.le.refl _, hS', rfl⟩
 }
 {
 refine cguard rfl rfl (by decide) (fun _ _ _ h_ => Eq.trans h_ (congrArg Value.bool hd275)) fun pre_ post_ L_ T_ m' a' w' hl' hp' hm' hq' hS' hE' hT' => ?_
 obtain rfl := len0 hl'
 refine Step.imp (Run1.pure (r_move hE' rfl)) ?_
 rintro _ _ ⟨rfl, rfl⟩
 exact ⟨_, M.le.refl _, hS', rfl⟩
 }
 {
 refine cguard rfl rfl (by decide) (fun _ _ _ h_ => Eq.trans h_ (congrArg Value.bool hd275)) fun pre_ post_ L_ T_ m' a' w' hl' hp' hm' hq' hS' hE' hT' => ?_
 obtain rfl := len0 hl'
 refine Step.imp (Run1.pure (r_move hE' rfl)) ?_
 rintro _ _ ⟨rfl, rfl⟩
 exact ⟨_, M.le.refl _, hS', ⟨rfl, hr43⟩⟩
 }
 {
 refine cguard rfl rfl (by decide) (fun _ _ _ h_ => Eq.trans h_ (congrArg Value.bool hd275)) fun pre_ post_ L_ T_ m' a' w' hl' hp' hm' hq' hS' hE' hT' => ?_
 obtain rfl := len0 hl'
 obtain ⟨v455, e456, q457⟩ : ∃ v, a'.tmps.getD 38 undef = v ∧ (v = v8) := ⟨_, rfl, hT' 12 (by decide) 38 rfl⟩
 have hE := hE'.add (e456.trans q457)
 obtain ⟨v458, e459, q460⟩ : ∃ v, a'.tmps.getD 39 undef = v ∧ (v = (.int .i64 x42) ∧ inR .i64 x42) := ⟨_, rfl, hT' 13 (by decide) 39 rfl⟩
 obtain ⟨q460, hr461⟩ := q460
 have hE := hE.add (e459.trans q460)
 refine Step.imp (st_index (k := kEncode_Run) hE rfl rfl Try.underlying48 Try.sizeOf55 (hv7.mono (M.le.trans hm14 (M.le.trans hm19 (M.le.trans hm39 hm')))) hx390) ?_
 rintro v462 _ ⟨rfl, hp391⟩
 exact ⟨_, M.le.refl _, hS', hp391⟩
 }
 {
 refine cguard rfl rfl (by decide) (fun _ _ _ h_ => Eq.trans h_ (congrArg Value.bool hd275)) fun pre_ post_ L_ T_ m' a' w' hl' hp' hm' hq' hS' hE' hT' => ?_
 obtain rfl := len0 hl'
 obtain ⟨v463, e464, q465⟩ : ∃ v, a'.tmps.getD 40 undef = v ∧ (PR kEncode_Run m' v x389) := ⟨_, rfl, hT' 14 (by decide) 40 rfl⟩
 have hE := hE'.add (e464)
 refine Step.imp (st_fieldM hE fo55_1 fl55_1 rfl q465) ?_
 rintro v466 _ ⟨rfl, hp393⟩
 exact ⟨_, M.le.refl _, hS', hp393⟩
 }
 {
 refine cguard rfl rfl (by decide) (fun _ _ _ h_ => Eq.trans h_ (congrArg Value.bool hd275)) fun pre_ post_ L_ T_ m' a' w' hl' hp' hm' hq' hS' hE' hT' => ?_
 obtain rfl := len0 hl'
 obtain ⟨v467, e468, q469⟩ : ∃ v, a'.tmps.getD 41 undef = v ∧ (PR kApi_Value m' v x389.fValue) := ⟨_, rfl, hT' 15 (by decide) 41 rfl⟩
 have hE := hE'.add (e468)
 refine Step.imp (st_loadM hE hS' ty53 rfl q469) ?_
 rintro v470 _ ⟨rfl, hv394⟩
 exact ⟨_, M.le.refl _, hS', hv394⟩
 }
 {
 refine cguard rfl rfl (by decide) (fun _ _ _ h_ => Eq.trans h_ (congrArg Value.bool hd275)) fun pre_ post_ L_ T_ m' a' w' hl' hp' hm' hq' hS' hE' hT' => ?_
 obtain rfl := len0 hl'
 refine Step.imp (Run1.pure (r_move hE' rfl)) ?_
 rintro _ _ ⟨rfl, rfl⟩
 exact ⟨_, M.le.refl _, hS', rfl⟩
 }
 {
 refine cguard rfl rfl (by decide) (fun _ _ _ h_ => Eq.trans h_ (congrArg Value.bool hd275)) fun pre_ post_ L_ T_ m' a' w' hl' hp' hm' hq' hS' hE' hT' => ?_
 obtain rfl := len0 hl'
 refine Step.imp (Run1.pure (r_move hE' rfl)) ?_
 rintro _ _ ⟨rfl, rfl⟩
 exact ⟨_, M.le.refl _, hS', ⟨rfl, hr43⟩⟩
 }
 {
 refine cguard rfl rfl (by decide) (fun _ _ _ h_ => Eq.trans h_ (congrArg Value.bool hd275)) fun pre_ post_ L_ T_ m' a' w' hl' hp' hm' hq' hS' hE' hT' => ?_
 obtain rfl := len0 hl'
 obtain ⟨v473, e474, q475⟩ : ∃ v, a'.tmps.getD 43 undef = v ∧ (v = v16) := ⟨_, rfl, hT' 17 (by decide) 43 rfl⟩
 have hE := hE'.add (e474.trans q475)
 obtain ⟨v476, e477, q478⟩ : ∃ v, a'.tmps.getD 44 undef = v ∧ (v = (.int .i64 x42) ∧ inR .i64 x42) := ⟨_, rfl, hT' 18 (by decide) 44 rfl⟩
 obtain ⟨q478, hr479⟩ := q478
 have hE := hE.add (e477.trans q478)
 refine Step.imp (st_index (k := kHayloftref06_Run) hE rfl rfl Try.underlying50 Try.sizeOf56 (hv15.mono (M.le.trans hm19 (M.le.trans hm39 hm'))) hx396) ?_
 rintro v480 _ ⟨rfl, hp397⟩
 exact ⟨_, M.le.refl _, hS', hp397⟩
 }
 {
 refine cguard rfl rfl (by decide) (fun _ _ _ h_ => Eq.trans h_ (congrArg Value.bool hd275)) fun pre_ post_ L_ T_ m' a' w' hl' hp' hm' hq' hS' hE' hT' => ?_
 obtain rfl := len0 hl'
 obtain ⟨v481, e482, q483⟩ : ∃ v, a'.tmps.getD 45 undef = v ∧ (PR kHayloftref06_Run m' v x395) := ⟨_, rfl, hT' 19 (by decide) 45 rfl⟩
 have hE := hE'.add (e482)
 refine Step.imp (st_fieldM hE fo56_1 fl56_1 rfl q483) ?_
 rintro v484 _ ⟨rfl, hp399⟩
 exact ⟨_, M.le.refl _, hS', hp399⟩
 }
 {
 refine cguard rfl rfl (by decide) (fun _ _ _ h_ => Eq.trans h_ (congrArg Value.bool hd275)) fun pre_ post_ L_ T_ m' a' w' hl' hp' hm' hq' hS' hE' hT' => ?_
 obtain rfl := len0 hl'
 obtain ⟨v485, e486, q487⟩ : ∃ v, a'.tmps.getD 46 undef = v ∧ (PR kApi_Value m' v x395.fValue) := ⟨_, rfl, hT' 20 (by decide) 46 rfl⟩
 have hE := hE'.add (e486)
 refine Step.imp (st_loadM hE hS' ty53 rfl q487) ?_
 rintro v488 _ ⟨rfl, hv400⟩
 exact ⟨_, M.le.refl _, hS', hv400⟩
 }
 {
 refine cguard rfl rfl (by decide) (fun _ _ _ h_ => Eq.trans h_ (congrArg Value.bool hd275)) fun pre_ post_ L_ T_ m' a' w' hl' hp' hm' hq' hS' hE' hT' => ?_
 obtain rfl := len0 hl'
 obtain ⟨v489, e490, q491⟩ : ∃ v, a'.tmps.getD 42 undef = v ∧ (RV kApi_Value m' v x389.fValue) := ⟨_, rfl, hT' 16 (by decide) 42 rfl⟩
 have hE := hE'.add (e490)
 obtain ⟨v492, e493, q494⟩ : ∃ v, a'.tmps.getD 47 undef = v ∧ (RV kApi_Value m' v x395.fValue) := ⟨_, rfl, hT' 21 (by decide) 47 rfl⟩
 have hE := hE.add (e493)
 refine Step.imp (Run1.pure (r_neqK hE eq53 rfl rfl q491 q494 rfl)) ?_
 rintro _ _ ⟨rfl, rfl⟩
 exact ⟨_, M.le.refl _, hS', rfl⟩
 }
 {
 refine cplain fun pre_ post_ L_ T_ m' a' w' hl' hp' hm' hq' hS' hE' hT' => ?_
 obtain rfl := len0 hl'
 obtain ⟨v496, e497, q498⟩ : ∃ v, a'.tmps.getD 37 undef = v ∧ (v = (.bool (x261.fMany != x268.fMany))) := ⟨_, rfl, hT' 11 (by decide) 37 rfl⟩
 have hE := hE'.add (e497.trans q498)
 obtain ⟨v499, e500, q501⟩ : ∃ v, a'.tmps.getD 48 undef = v ∧ (v = (.bool (!decide (x389.fValue = x395.fValue)))) := ⟨_, rfl, hT' 22 (by decide) 48 rfl⟩
 have hE := hE.add (e500.trans q501)
 refine Step.imp (Run1.pure (r_pickF hE rfl hd275 rfl)) ?_
 rintro _ _ ⟨rfl, rfl⟩
 exact ⟨_, M.le.refl _, hS', rfl⟩
 }
 {
 refine cplain fun pre_ post_ L_ T_ m' a' w' hl' hp' hm' hq' hS' hE' hT' => ?_
 obtain rfl := len0 hl'
 obtain ⟨v503, e504, q505⟩ : ∃ v, a'.tmps.getD 49 undef = v ∧ (v = (.bool (!decide (x389.fValue = x395.fValue)))) := ⟨_, rfl, hT' 23 (by decide) 49 rfl⟩
 have hE := hE'.add (e504.trans q505)
 refine Step.imp (Run1.pure (r_move hE rfl)) ?_
 rintro _ _ ⟨rfl, rfl⟩
 exact ⟨_, M.le.refl _, hS', rfl⟩
 }
 {
 exact cskip (b := true) rfl rfl (by decide) (fun _ _ _ h_ => Eq.trans h_ (congrArg Value.bool hd401)) (by decide) (fun _ _ => rfl)
 }
 {
 exact cskip (b := true) rfl rfl (by decide) (fun _ _ _ h_ => Eq.trans h_ (congrArg Value.bool hd401)) (by decide) (fun _ _ => rfl)
 }
 }
 {
 intro ws_ L_ T_ m507 a w hl508 hm509 hq510 hS hd511 hn512 ho513 hT514
 obtain rfl := len0 hl508
 obtain ⟨rfl, rfl⟩ := hq510
 have hE := Env.of (k := 27) (l' := [(0, v0), (3, v8), (4, v16), (5, (.int .i64 x40)), (6, (.int .i64 x42)), (22, (.int .i64 (r3.length : Int))), (23, (.int .i64 x42)), (24, (.bool (decide (x42 < (r3.length : Int))))), (25, (.int .i64 x42))]) hd511 hn512 ho513 ⟨rfl, rfl, rfl, rfl, rfl, rfl, rfl, rfl, rfl, trivial⟩ rfl
 obtain ⟨v515, e516, q517⟩ : ∃ v, a.tmps.getD 38 undef = v ∧ (v = v8) := ⟨_, rfl, hT514 12 (by decide) 38 rfl⟩
 have hE := hE.add (e516.trans q517)
 obtain ⟨v518, e519, q520⟩ : ∃ v, a.tmps.getD 39 undef = v ∧ (v = (.int .i64 x42) ∧ inR .i64 x42) := ⟨_, rfl, hT514 13 (by decide) 39 rfl⟩
 obtain ⟨q520, hr521⟩ := q520
 have hE := hE.add (e519.trans q520)
 obtain ⟨v522, e523, q524⟩ : ∃ v, a.tmps.getD 40 undef = v ∧ (PR kEncode_Run m507 v x389) := ⟨_, rfl, hT514 14 (by decide) 40 rfl⟩
 have hE := hE.add (e523)
 obtain ⟨v525, e526, q527⟩ : ∃ v, a.tmps.getD 41 undef = v ∧ (PR kApi_Value m507 v x389.fValue) := ⟨_, rfl, hT514 15 (by decide) 41 rfl⟩
 have hE := hE.add (e526)
 obtain ⟨v528, e529, q530⟩ : ∃ v, a.tmps.getD 42 undef = v ∧ (RV kApi_Value m507 v x389.fValue) := ⟨_, rfl, hT514 16 (by decide) 42 rfl⟩
 have hE := hE.add (e529)
 obtain ⟨v531, e532, q533⟩ : ∃ v, a.tmps.getD 43 undef = v ∧ (v = v16) := ⟨_, rfl, hT514 17 (by decide) 43 rfl⟩
 have hE := hE.add (e532.trans q533)
 obtain ⟨v534, e535, q536⟩ : ∃ v, a.tmps.getD 44 undef = v ∧ (v = (.int .i64 x42) ∧ inR .i64 x42) := ⟨_, rfl, hT514 18 (by decide) 44 rfl⟩
 obtain ⟨q536, hr537⟩ := q536
 have hE := hE.add (e535.trans q536)
 obtain ⟨v538, e539, q540⟩ : ∃ v, a.tmps.getD 45 undef = v ∧ (PR kHayloftref06_Run m507 v x395) := ⟨_, rfl, hT514 19 (by decide) 45 rfl⟩
 have hE := hE.add (e539)
 obtain ⟨v541, e542, q543⟩ : ∃ v, a.tmps.getD 46 undef = v ∧ (PR kApi_Value m507 v x395.fValue) := ⟨_, rfl, hT514 20 (by decide) 46 rfl⟩
 have hE := hE.add (e542)
 obtain ⟨v544, e545, q546⟩ : ∃ v, a.tmps.getD 47 undef = v ∧ (RV kApi_Value m507 v x395.fValue) := ⟨_, rfl, hT514 21 (by decide) 47 rfl⟩
 have hE := hE.add (e545)
 obtain ⟨v547, e548, q549⟩ : ∃ v, a.tmps.getD 48 undef = v ∧ (v = (.bool (!decide (x389.fValue = x395.fValue)))) := ⟨_, rfl, hT514 22 (by decide) 48 rfl⟩
 have hE := hE.add (e548.trans q549)
 obtain ⟨v550, e551, q552⟩ : ∃ v, a.tmps.getD 50 undef = v ∧ (v = (.bool (!decide (x389.fValue = x395.fValue)))) := ⟨_, rfl, hT514 24 (by decide) 50 rfl⟩
 have hE := hE.add (e551.trans q552)
 obtain ⟨v553, e554, q555⟩ : ∃ v, a.tmps.getD 51 undef = v ∧ (v = undef) := ⟨_, rfl, hT514 25 (by decide) 51 rfl⟩
 have hE := hE.add (e554.trans q555)
 obtain ⟨v556, e557, q558⟩ : ∃ v, a.tmps.getD 52 undef = v ∧ (v = undef) := ⟨_, rfl, hT514 26 (by decide) 52 rfl⟩
 have hE := hE.add (e557.trans q558)
 refine sx hE rfl rfl rfl rfl hd401 rfl fun a hE => ?_
 refine sx hE rfl rfl rfl rfl hd401 rfl fun a hE => ?_
 refine sx hE rfl rfl rfl rfl hd401 rfl fun a hE => ?_
 refine sx hE rfl rfl rfl rfl hd401 rfl fun a hE => ?_
 refine sp hE (r_pickT hE rfl hd401 rfl) rfl fun a hE => ?_
 refine knil ?_
 exact ⟨true, h, _, hm509, hS, hE.cut ⟨rfl, rfl, rfl, rfl, rfl, rfl, rfl, rfl, trivial⟩⟩
 }
 }
 {
 have h := ite_F hd401 h
 refine kchain (k := 27) (m := m38) (es := []) (Φ := (fun i m ws v => match i with | 0 => v = v8 | 1 => v = (.int .i64 x42) ∧ inR .i64 x42 | 2 => PR kEncode_Run m v x261 | 3 => PR (kInt .i64) m v x261.fMany | 4 => v = (.int .i64 x261.fMany) ∧ inR .i64 x261.fMany | 5 => v = v16 | 6 => v = (.int .i64 x42) ∧ inR .i64 x42 | 7 => PR kHayloftref06_Run m v x268 | 8 => PR (kInt .i64) m v x268.fMany | 9 => v = (.int .i64 x268.fMany) ∧ inR .i64 x268.fMany | 10 => v = (.bool (x261.fMany != x268.fMany)) | 11 => v = (.bool (x261.fMany != x268.fMany)) | 12 => v = v8 | 13 => v = (.int .i64 x42) ∧ inR .i64 x42 | 14 => PR kEncode_Run m v x389 | 15 => PR kApi_Value m v x389.fValue | 16 => RV kApi_Value m v x389.fValue | 17 => v = v16 | 18 => v = (.int .i64 x42) ∧ inR .i64 x42 | 19 => PR kHayloftref06_Run m v x395 | 20 => PR kApi_Value m v x395.fValue | 21 => RV kApi_Value m v x395.fValue | 22 => v = (.bool (!decide (x389.fValue = x395.fValue))) | 23 => v = (.bool (!decide (x389.fValue = x395.fValue))) | 24 => v = (.bool (!decide (x389.fValue = x395.fValue))) | 25 => v = v8 | 26 => v = (.int .i64 x42) ∧ inR .i64 x42 | _ => True)) (Q := (fun c m ws L' TL' => match c with | 0 => L = L' ∧ (5, v16) :: TL = TL' | _ => False)) (cs := [⟨0, 0, false, [(3, v8)]⟩, ⟨0, 0, false, [(6, (.int .i64 x42))]⟩, ⟨0, 0, false, []⟩, ⟨0, 0, false, []⟩, ⟨0, 0, false, []⟩, ⟨0, 0, false, [(4, v16)]⟩, ⟨0, 0, false, [(6, (.int .i64 x42))]⟩, ⟨0, 0, false, []⟩, ⟨0, 0, false, []⟩, ⟨0, 0, false, []⟩, ⟨0, 0, false, []⟩, ⟨0, 0, false, []⟩, ⟨0, 0, false, [(3, v8)]⟩, ⟨0, 0, false, [(6, (.int .i64 x42))]⟩, ⟨0, 0, false, []⟩, ⟨0, 0, false, []⟩, ⟨0, 0, false, []⟩, ⟨0, 0, false, [(4, v16)]⟩, ⟨0, 0, false, [(6, (.int .i64 x42))]⟩, ⟨0, 0, false, []⟩, ⟨0, 0, false, []⟩, ⟨0, 0, false, []⟩, ⟨0, 0, false, []⟩, ⟨0, 0, false, []⟩, ⟨0, 0, false, []⟩, ⟨0, 0, false, [(3, v8)]⟩, ⟨0, 0, false, [(6, (.int .i64 x42))]⟩]) mixed hE hS ⟨rfl, rfl⟩ rfl rfl ⟨⟨rfl, trivial⟩, ⟨rfl, trivial⟩, trivial, trivial, trivial, ⟨rfl, trivial⟩, ⟨rfl, trivial⟩, trivial, trivial, trivial, trivial, trivial, ⟨rfl, trivial⟩, ⟨rfl, trivial⟩, trivial, trivial, trivial, ⟨rfl, trivial⟩, ⟨rfl, trivial⟩, trivial, trivial, trivial, trivial, trivial, trivial, ⟨rfl, trivial⟩, ⟨rfl, trivial⟩, trivial⟩ (by kernel_rfl) ?_ ?_ ?_ ?_
 {
 intro i m_ m2_ ws v hm_ hp_
 match i, hp_ with
 | 0, hp_ => exact hp_
 | 1, hp_ => exact hp_
 | 2, hp_ => exact PR.mono hp_ hm_
 | 3, hp_ => exact PR.mono hp_ hm_
 | 4, hp_ => exact hp_
 | 5, hp_ => exact hp_
 | 6, hp_ => exact hp_
 | 7, hp_ => exact PR.mono hp_ hm_
 | 8, hp_ => exact PR.mono hp_ hm_
 | 9, hp_ => exact hp_
 | 10, hp_ => exact hp_
 | 11, hp_ => exact hp_
 | 12, hp_ => exact hp_
 | 13, hp_ => exact hp_
 | 14, hp_ => exact PR.mono hp_ hm_
 | 15, hp_ => exact PR.mono hp_ hm_
 | 16, hp_ => exact RV.mono hp_ hm_
 | 17, hp_ => exact hp_
 | 18, hp_ => exact hp_
 | 19, hp_ => exact PR.mono hp_ hm_
 | 20, hp_ => exact PR.mono hp_ hm_
 | 21, hp_ => exact RV.mono hp_ hm_
 | 22, hp_ => exact hp_
 | 23, hp_ => exact hp_
 | 24, hp_ => exact hp_
 | 25, hp_ => exact hp_
 | 26, hp_ => exact hp_
 | _ + 27, hp_ => exact trivial
 }
 {
 intro c m_ m2_ ws L_ T_ hm_ hq_
 match c, hq_ with
 | 0, ⟨e1_, e2_⟩ => exact ⟨e1_, e2_⟩
 | _ + 1, hq_ => exact hq_.elim
 }
 {
 refine ⟨?_, ?_, ?_, ?_, ?_, ?_, ?_, ?_, ?_, ?_, ?_, ?_, ?_, ?_, ?_, ?_, ?_, ?_, ?_, ?_, ?_, ?_, ?_, ?_, ?_, ?_, ?_, trivial⟩
 {
 refine cplain fun pre_ post_ L_ T_ m' a' w' hl' hp' hm' hq' hS' hE' hT' => ?_
 obtain rfl := len0 hl'
 refine Step.imp (Run1.pure (r_move hE' rfl)) ?_
 rintro _ _ ⟨rfl, rfl⟩
 exact ⟨_, M.le.refl _, hS', rfl⟩
 }
 {
 refine cplain fun pre_ post_ L_ T_ m' a' w' hl' hp' hm' hq' hS' hE' hT' => ?_
 obtain rfl := len0 hl'
 refine Step.imp (Run1.pure (r_move hE' rfl)) ?_
 rintro _ _ ⟨rfl, rfl⟩
 exact ⟨_, M.le.refl _, hS', ⟨rfl, hr43⟩⟩
 }
 {
 refine cplain fun pre_ post_ L_ T_ m' a' w' hl' hp' hm' hq' hS' hE' hT' => ?_
 obtain rfl := len0 hl'
 obtain ⟨v562, e563, q564⟩ : ∃ v, a'.tmps.getD 26 undef = v ∧ (v = v8) := ⟨_, rfl, hT' 0 (by decide) 26 rfl⟩
 have hE := hE'.add (e563.trans q564)
 obtain ⟨v565, e566, q567⟩ : ∃ v, a'.tmps.getD 27 undef = v ∧ (v = (.int .i64 x42) ∧ inR .i64 x42) := ⟨_, rfl, hT' 1 (by decide) 27 rfl⟩
 obtain ⟨q567, hr568⟩ := q567
 have hE := hE.add (e566.trans q567)
 refine Step.imp (st_index (k := kEncode_Run) hE rfl rfl Try.underlying48 Try.sizeOf55 (hv7.mono (M.le.trans hm14 (M.le.trans hm19 (M.le.trans hm39 hm')))) hx262) ?_
 rintro v569 _ ⟨rfl, hp263⟩
 exact ⟨_, M.le.refl _, hS', hp263⟩
 }
 {
 refine cplain fun pre_ post_ L_ T_ m' a' w' hl' hp' hm' hq' hS' hE' hT' => ?_
 obtain rfl := len0 hl'
 obtain ⟨v570, e571, q572⟩ : ∃ v, a'.tmps.getD 28 undef = v ∧ (PR kEncode_Run m' v x261) := ⟨_, rfl, hT' 2 (by decide) 28 rfl⟩
 have hE := hE'.add (e571)
 refine Step.imp (st_fieldM hE fo55_0 fl55_0 rfl q572) ?_
 rintro v573 _ ⟨rfl, hp265⟩
 exact ⟨_, M.le.refl _, hS', hp265⟩
 }
 {
 refine cplain fun pre_ post_ L_ T_ m' a' w' hl' hp' hm' hq' hS' hE' hT' => ?_
 obtain rfl := len0 hl'
 obtain ⟨v574, e575, q576⟩ : ∃ v, a'.tmps.getD 29 undef = v ∧ (PR (kInt .i64) m' v x261.fMany) := ⟨_, rfl, hT' 3 (by decide) 29 rfl⟩
 have hE := hE'.add (e575)
 refine Step.imp (st_loadM hE hS' ty3 rfl q576) ?_
 rintro v577 _ ⟨rfl, hv266⟩
 obtain ⟨rfl, hr578⟩ := RV_int hv266
 exact ⟨_, M.le.refl _, hS', ⟨rfl, hr578⟩⟩
 }
 {
 refine cplain fun pre_ post_ L_ T_ m' a' w' hl' hp' hm' hq' hS' hE' hT' => ?_
 obtain rfl := len0 hl'
 refine Step.imp (Run1.pure (r_move hE' rfl)) ?_
 rintro _ _ ⟨rfl, rfl⟩
 exact ⟨_, M.le.refl _, hS', rfl⟩
 }
 {
 refine cplain fun pre_ post_ L_ T_ m' a' w' hl' hp' hm' hq' hS' hE' hT' => ?_
 obtain rfl := len0 hl'
 refine Step.imp (Run1.pure (r_move hE' rfl)) ?_
 rintro _ _ ⟨rfl, rfl⟩
 exact ⟨_, M.le.refl _, hS', ⟨rfl, hr43⟩⟩
 }
 {
 refine cplain fun pre_ post_ L_ T_ m' a' w' hl' hp' hm' hq' hS' hE' hT' => ?_
 obtain rfl := len0 hl'
 obtain ⟨v581, e582, q583⟩ : ∃ v, a'.tmps.getD 31 undef = v ∧ (v = v16) := ⟨_, rfl, hT' 5 (by decide) 31 rfl⟩
 have hE := hE'.add (e582.trans q583)
 obtain ⟨v584, e585, q586⟩ : ∃ v, a'.tmps.getD 32 undef = v ∧ (v = (.int .i64 x42) ∧ inR .i64 x42) := ⟨_, rfl, hT' 6 (by decide) 32 rfl⟩
 obtain ⟨q586, hr587⟩ := q586
 have hE := hE.add (e585.trans q586)
 refine Step.imp (st_index (k := kHayloftref06_Run) hE rfl rfl Try.underlying50 Try.sizeOf56 (hv15.mono (M.le.trans hm19 (M.le.trans hm39 hm'))) hx269) ?_
 rintro v588 _ ⟨rfl, hp270⟩
 exact ⟨_, M.le.refl _, hS', hp270⟩
 }
 {
 refine cplain fun pre_ post_ L_ T_ m' a' w' hl' hp' hm' hq' hS' hE' hT' => ?_
 obtain rfl := len0 hl'
 obtain ⟨v589, e590, q591⟩ : ∃ v, a'.tmps.getD 33 undef = v ∧ (PR kHayloftref06_Run m' v x268) := ⟨_, rfl, hT' 7 (by decide) 33 rfl⟩
 have hE := hE'.add (e590)
 refine Step.imp (st_fieldM hE fo56_0 fl56_0 rfl q591) ?_
 rintro v592 _ ⟨rfl, hp272⟩
 exact ⟨_, M.le.refl _, hS', hp272⟩
 }
 {
 refine cplain fun pre_ post_ L_ T_ m' a' w' hl' hp' hm' hq' hS' hE' hT' => ?_
 obtain rfl := len0 hl'
 obtain ⟨v593, e594, q595⟩ : ∃ v, a'.tmps.getD 34 undef = v ∧ (PR (kInt .i64) m' v x268.fMany) := ⟨_, rfl, hT' 8 (by decide) 34 rfl⟩
 have hE := hE'.add (e594)
 refine Step.imp (st_loadM hE hS' ty3 rfl q595) ?_
 rintro v596 _ ⟨rfl, hv273⟩
 obtain ⟨rfl, hr597⟩ := RV_int hv273
 exact ⟨_, M.le.refl _, hS', ⟨rfl, hr597⟩⟩
 }
 {
 refine cplain fun pre_ post_ L_ T_ m' a' w' hl' hp' hm' hq' hS' hE' hT' => ?_
 obtain rfl := len0 hl'
 obtain ⟨v598, e599, q600⟩ : ∃ v, a'.tmps.getD 30 undef = v ∧ (v = (.int .i64 x261.fMany) ∧ inR .i64 x261.fMany) := ⟨_, rfl, hT' 4 (by decide) 30 rfl⟩
 obtain ⟨q600, hr601⟩ := q600
 have hE := hE'.add (e599.trans q600)
 obtain ⟨v602, e603, q604⟩ : ∃ v, a'.tmps.getD 35 undef = v ∧ (v = (.int .i64 x268.fMany) ∧ inR .i64 x268.fMany) := ⟨_, rfl, hT' 9 (by decide) 35 rfl⟩
 obtain ⟨q604, hr605⟩ := q604
 have hE := hE.add (e603.trans q604)
 refine Step.imp (Run1.pure (r_bin hE rfl rfl b_neq)) ?_
 rintro _ _ ⟨rfl, rfl⟩
 exact ⟨_, M.le.refl _, hS', rfl⟩
 }
 {
 refine cplain fun pre_ post_ L_ T_ m' a' w' hl' hp' hm' hq' hS' hE' hT' => ?_
 obtain rfl := len0 hl'
 obtain ⟨v607, e608, q609⟩ : ∃ v, a'.tmps.getD 36 undef = v ∧ (v = (.bool (x261.fMany != x268.fMany))) := ⟨_, rfl, hT' 10 (by decide) 36 rfl⟩
 have hE := hE'.add (e608.trans q609)
 refine Step.imp (Run1.pure (r_move hE rfl)) ?_
 rintro _ _ ⟨rfl, rfl⟩
 exact ⟨_, M.le.refl _, hS', rfl⟩
 }
 {
 refine cguard rfl rfl (by decide) (fun _ _ _ h_ => Eq.trans h_ (congrArg Value.bool hd275)) fun pre_ post_ L_ T_ m' a' w' hl' hp' hm' hq' hS' hE' hT' => ?_
 obtain rfl := len0 hl'
 refine Step.imp (Run1.pure (r_move hE' rfl)) ?_
 rintro _ _ ⟨rfl, rfl⟩
 exact ⟨_, M.le.refl _, hS', rfl⟩
 }
 {
 refine cguard rfl rfl (by decide) (fun _ _ _ h_ => Eq.trans h_ (congrArg Value.bool hd275)) fun pre_ post_ L_ T_ m' a' w' hl' hp' hm' hq' hS' hE' hT' => ?_
 obtain rfl := len0 hl'
 refine Step.imp (Run1.pure (r_move hE' rfl)) ?_
 rintro _ _ ⟨rfl, rfl⟩
 exact ⟨_, M.le.refl _, hS', ⟨rfl, hr43⟩⟩
 }
 {
 refine cguard rfl rfl (by decide) (fun _ _ _ h_ => Eq.trans h_ (congrArg Value.bool hd275)) fun pre_ post_ L_ T_ m' a' w' hl' hp' hm' hq' hS' hE' hT' => ?_
 obtain rfl := len0 hl'
 obtain ⟨v613, e614, q615⟩ : ∃ v, a'.tmps.getD 38 undef = v ∧ (v = v8) := ⟨_, rfl, hT' 12 (by decide) 38 rfl⟩
 have hE := hE'.add (e614.trans q615)
 obtain ⟨v616, e617, q618⟩ : ∃ v, a'.tmps.getD 39 undef = v ∧ (v = (.int .i64 x42) ∧ inR .i64 x42) := ⟨_, rfl, hT' 13 (by decide) 39 rfl⟩
 obtain ⟨q618, hr619⟩ := q618
 have hE := hE.add (e617.trans q618)
 refine Step.imp (st_index (k := kEncode_Run) hE rfl rfl Try.underlying48 Try.sizeOf55 (hv7.mono (M.le.trans hm14 (M.le.trans hm19 (M.le.trans hm39 hm')))) hx390) ?_
 rintro v620 _ ⟨rfl, hp391⟩
 exact ⟨_, M.le.refl _, hS', hp391⟩
 }
 {
 refine cguard rfl rfl (by decide) (fun _ _ _ h_ => Eq.trans h_ (congrArg Value.bool hd275)) fun pre_ post_ L_ T_ m' a' w' hl' hp' hm' hq' hS' hE' hT' => ?_
 obtain rfl := len0 hl'
 obtain ⟨v621, e622, q623⟩ : ∃ v, a'.tmps.getD 40 undef = v ∧ (PR kEncode_Run m' v x389) := ⟨_, rfl, hT' 14 (by decide) 40 rfl⟩
 have hE := hE'.add (e622)
 refine Step.imp (st_fieldM hE fo55_1 fl55_1 rfl q623) ?_
 rintro v624 _ ⟨rfl, hp393⟩
 exact ⟨_, M.le.refl _, hS', hp393⟩
 }
 {
 refine cguard rfl rfl (by decide) (fun _ _ _ h_ => Eq.trans h_ (congrArg Value.bool hd275)) fun pre_ post_ L_ T_ m' a' w' hl' hp' hm' hq' hS' hE' hT' => ?_
 obtain rfl := len0 hl'
 obtain ⟨v625, e626, q627⟩ : ∃ v, a'.tmps.getD 41 undef = v ∧ (PR kApi_Value m' v x389.fValue) := ⟨_, rfl, hT' 15 (by decide) 41 rfl⟩
 have hE := hE'.add (e626)
 refine Step.imp (st_loadM hE hS' ty53 rfl q627) ?_
 rintro v628 _ ⟨rfl, hv394⟩
 exact ⟨_, M.le.refl _, hS', hv394⟩
 }
 {
 refine cguard rfl rfl (by decide) (fun _ _ _ h_ => Eq.trans h_ (congrArg Value.bool hd275)) fun pre_ post_ L_ T_ m' a' w' hl' hp' hm' hq' hS' hE' hT' => ?_
 obtain rfl := len0 hl'
 refine Step.imp (Run1.pure (r_move hE' rfl)) ?_
 rintro _ _ ⟨rfl, rfl⟩
 exact ⟨_, M.le.refl _, hS', rfl⟩
 }
 {
 refine cguard rfl rfl (by decide) (fun _ _ _ h_ => Eq.trans h_ (congrArg Value.bool hd275)) fun pre_ post_ L_ T_ m' a' w' hl' hp' hm' hq' hS' hE' hT' => ?_
 obtain rfl := len0 hl'
 refine Step.imp (Run1.pure (r_move hE' rfl)) ?_
 rintro _ _ ⟨rfl, rfl⟩
 exact ⟨_, M.le.refl _, hS', ⟨rfl, hr43⟩⟩
 }
 {
 refine cguard rfl rfl (by decide) (fun _ _ _ h_ => Eq.trans h_ (congrArg Value.bool hd275)) fun pre_ post_ L_ T_ m' a' w' hl' hp' hm' hq' hS' hE' hT' => ?_
 obtain rfl := len0 hl'
 obtain ⟨v631, e632, q633⟩ : ∃ v, a'.tmps.getD 43 undef = v ∧ (v = v16) := ⟨_, rfl, hT' 17 (by decide) 43 rfl⟩
 have hE := hE'.add (e632.trans q633)
 obtain ⟨v634, e635, q636⟩ : ∃ v, a'.tmps.getD 44 undef = v ∧ (v = (.int .i64 x42) ∧ inR .i64 x42) := ⟨_, rfl, hT' 18 (by decide) 44 rfl⟩
 obtain ⟨q636, hr637⟩ := q636
 have hE := hE.add (e635.trans q636)
 refine Step.imp (st_index (k := kHayloftref06_Run) hE rfl rfl Try.underlying50 Try.sizeOf56 (hv15.mono (M.le.trans hm19 (M.le.trans hm39 hm'))) hx396) ?_
 rintro v638 _ ⟨rfl, hp397⟩
 exact ⟨_, M.le.refl _, hS', hp397⟩
 }
 {
 refine cguard rfl rfl (by decide) (fun _ _ _ h_ => Eq.trans h_ (congrArg Value.bool hd275)) fun pre_ post_ L_ T_ m' a' w' hl' hp' hm' hq' hS' hE' hT' => ?_
 obtain rfl := len0 hl'
 obtain ⟨v639, e640, q641⟩ : ∃ v, a'.tmps.getD 45 undef = v ∧ (PR kHayloftref06_Run m' v x395) := ⟨_, rfl, hT' 19 (by decide) 45 rfl⟩
 have hE := hE'.add (e640)
 refine Step.imp (st_fieldM hE fo56_1 fl56_1 rfl q641) ?_
 rintro v642 _ ⟨rfl, hp399⟩
 exact ⟨_, M.le.refl _, hS', hp399⟩
 }
 {
 refine cguard rfl rfl (by decide) (fun _ _ _ h_ => Eq.trans h_ (congrArg Value.bool hd275)) fun pre_ post_ L_ T_ m' a' w' hl' hp' hm' hq' hS' hE' hT' => ?_
 obtain rfl := len0 hl'
 obtain ⟨v643, e644, q645⟩ : ∃ v, a'.tmps.getD 46 undef = v ∧ (PR kApi_Value m' v x395.fValue) := ⟨_, rfl, hT' 20 (by decide) 46 rfl⟩
 have hE := hE'.add (e644)
 refine Step.imp (st_loadM hE hS' ty53 rfl q645) ?_
 rintro v646 _ ⟨rfl, hv400⟩
 exact ⟨_, M.le.refl _, hS', hv400⟩
 }
 {
 refine cguard rfl rfl (by decide) (fun _ _ _ h_ => Eq.trans h_ (congrArg Value.bool hd275)) fun pre_ post_ L_ T_ m' a' w' hl' hp' hm' hq' hS' hE' hT' => ?_
 obtain rfl := len0 hl'
 obtain ⟨v647, e648, q649⟩ : ∃ v, a'.tmps.getD 42 undef = v ∧ (RV kApi_Value m' v x389.fValue) := ⟨_, rfl, hT' 16 (by decide) 42 rfl⟩
 have hE := hE'.add (e648)
 obtain ⟨v650, e651, q652⟩ : ∃ v, a'.tmps.getD 47 undef = v ∧ (RV kApi_Value m' v x395.fValue) := ⟨_, rfl, hT' 21 (by decide) 47 rfl⟩
 have hE := hE.add (e651)
 refine Step.imp (Run1.pure (r_neqK hE eq53 rfl rfl q649 q652 rfl)) ?_
 rintro _ _ ⟨rfl, rfl⟩
 exact ⟨_, M.le.refl _, hS', rfl⟩
 }
 {
 refine cplain fun pre_ post_ L_ T_ m' a' w' hl' hp' hm' hq' hS' hE' hT' => ?_
 obtain rfl := len0 hl'
 obtain ⟨v654, e655, q656⟩ : ∃ v, a'.tmps.getD 37 undef = v ∧ (v = (.bool (x261.fMany != x268.fMany))) := ⟨_, rfl, hT' 11 (by decide) 37 rfl⟩
 have hE := hE'.add (e655.trans q656)
 obtain ⟨v657, e658, q659⟩ : ∃ v, a'.tmps.getD 48 undef = v ∧ (v = (.bool (!decide (x389.fValue = x395.fValue)))) := ⟨_, rfl, hT' 22 (by decide) 48 rfl⟩
 have hE := hE.add (e658.trans q659)
 refine Step.imp (Run1.pure (r_pickF hE rfl hd275 rfl)) ?_
 rintro _ _ ⟨rfl, rfl⟩
 exact ⟨_, M.le.refl _, hS', rfl⟩
 }
 {
 refine cplain fun pre_ post_ L_ T_ m' a' w' hl' hp' hm' hq' hS' hE' hT' => ?_
 obtain rfl := len0 hl'
 obtain ⟨v661, e662, q663⟩ : ∃ v, a'.tmps.getD 49 undef = v ∧ (v = (.bool (!decide (x389.fValue = x395.fValue)))) := ⟨_, rfl, hT' 23 (by decide) 49 rfl⟩
 have hE := hE'.add (e662.trans q663)
 refine Step.imp (Run1.pure (r_move hE rfl)) ?_
 rintro _ _ ⟨rfl, rfl⟩
 exact ⟨_, M.le.refl _, hS', rfl⟩
 }
 {
 refine cguard rfl rfl (by decide) (fun _ _ _ h_ => Eq.trans h_ (congrArg Value.bool hd401)) fun pre_ post_ L_ T_ m' a' w' hl' hp' hm' hq' hS' hE' hT' => ?_
 obtain rfl := len0 hl'
 refine Step.imp (Run1.pure (r_move hE' rfl)) ?_
 rintro _ _ ⟨rfl, rfl⟩
 exact ⟨_, M.le.refl _, hS', rfl⟩
 }
 {
 refine cguard rfl rfl (by decide) (fun _ _ _ h_ => Eq.trans h_ (congrArg Value.bool hd401)) fun pre_ post_ L_ T_ m' a' w' hl' hp' hm' hq' hS' hE' hT' => ?_
 obtain rfl := len0 hl'
 refine Step.imp (Run1.pure (r_move hE' rfl)) ?_
 rintro _ _ ⟨rfl, rfl⟩
 exact ⟨_, M.le.refl _, hS', ⟨rfl, hr43⟩⟩
 }
 }
 {
 intro ws_ L_ T_ m667 a w hl668 hm669 hq670 hS hd671 hn672 ho673 hT674
 obtain rfl := len0 hl668
 obtain ⟨rfl, rfl⟩ := hq670
 have hE := Env.of (k := 27) (l' := [(0, v0), (3, v8), (4, v16), (5, (.int .i64 x40)), (6, (.int .i64 x42)), (22, (.int .i64 (r3.length : Int))), (23, (.int .i64 x42)), (24, (.bool (decide (x42 < (r3.length : Int))))), (25, (.int .i64 x42))]) hd671 hn672 ho673 ⟨rfl, rfl, rfl, rfl, rfl, rfl, rfl, rfl, rfl, trivial⟩ rfl
 obtain ⟨v675, e676, q677⟩ : ∃ v, a.tmps.getD 38 undef = v ∧ (v = v8) := ⟨_, rfl, hT674 12 (by decide) 38 rfl⟩
 have hE := hE.add (e676.trans q677)
 obtain ⟨v678, e679, q680⟩ : ∃ v, a.tmps.getD 39 undef = v ∧ (v = (.int .i64 x42) ∧ inR .i64 x42) := ⟨_, rfl, hT674 13 (by decide) 39 rfl⟩
 obtain ⟨q680, hr681⟩ := q680
 have hE := hE.add (e679.trans q680)
 obtain ⟨v682, e683, q684⟩ : ∃ v, a.tmps.getD 40 undef = v ∧ (PR kEncode_Run m667 v x389) := ⟨_, rfl, hT674 14 (by decide) 40 rfl⟩
 have hE := hE.add (e683)
 obtain ⟨v685, e686, q687⟩ : ∃ v, a.tmps.getD 41 undef = v ∧ (PR kApi_Value m667 v x389.fValue) := ⟨_, rfl, hT674 15 (by decide) 41 rfl⟩
 have hE := hE.add (e686)
 obtain ⟨v688, e689, q690⟩ : ∃ v, a.tmps.getD 42 undef = v ∧ (RV kApi_Value m667 v x389.fValue) := ⟨_, rfl, hT674 16 (by decide) 42 rfl⟩
 have hE := hE.add (e689)
 obtain ⟨v691, e692, q693⟩ : ∃ v, a.tmps.getD 43 undef = v ∧ (v = v16) := ⟨_, rfl, hT674 17 (by decide) 43 rfl⟩
 have hE := hE.add (e692.trans q693)
 obtain ⟨v694, e695, q696⟩ : ∃ v, a.tmps.getD 44 undef = v ∧ (v = (.int .i64 x42) ∧ inR .i64 x42) := ⟨_, rfl, hT674 18 (by decide) 44 rfl⟩
 obtain ⟨q696, hr697⟩ := q696
 have hE := hE.add (e695.trans q696)
 obtain ⟨v698, e699, q700⟩ : ∃ v, a.tmps.getD 45 undef = v ∧ (PR kHayloftref06_Run m667 v x395) := ⟨_, rfl, hT674 19 (by decide) 45 rfl⟩
 have hE := hE.add (e699)
 obtain ⟨v701, e702, q703⟩ : ∃ v, a.tmps.getD 46 undef = v ∧ (PR kApi_Value m667 v x395.fValue) := ⟨_, rfl, hT674 20 (by decide) 46 rfl⟩
 have hE := hE.add (e702)
 obtain ⟨v704, e705, q706⟩ : ∃ v, a.tmps.getD 47 undef = v ∧ (RV kApi_Value m667 v x395.fValue) := ⟨_, rfl, hT674 21 (by decide) 47 rfl⟩
 have hE := hE.add (e705)
 obtain ⟨v707, e708, q709⟩ : ∃ v, a.tmps.getD 48 undef = v ∧ (v = (.bool (!decide (x389.fValue = x395.fValue)))) := ⟨_, rfl, hT674 22 (by decide) 48 rfl⟩
 have hE := hE.add (e708.trans q709)
 obtain ⟨v710, e711, q712⟩ : ∃ v, a.tmps.getD 50 undef = v ∧ (v = (.bool (!decide (x389.fValue = x395.fValue)))) := ⟨_, rfl, hT674 24 (by decide) 50 rfl⟩
 have hE := hE.add (e711.trans q712)
 obtain ⟨v713, e714, q715⟩ : ∃ v, a.tmps.getD 51 undef = v ∧ (v = v8) := ⟨_, rfl, hT674 25 (by decide) 51 rfl⟩
 have hE := hE.add (e714.trans q715)
 obtain ⟨v716, e717, q718⟩ : ∃ v, a.tmps.getD 52 undef = v ∧ (v = (.int .i64 x42) ∧ inR .i64 x42) := ⟨_, rfl, hT674 26 (by decide) 52 rfl⟩
 obtain ⟨q718, hr719⟩ := q718
 have hE := hE.add (e717.trans q718)
 obtain ⟨x720, hx721, h⟩ := ob h
 refine stg hE rfl rfl rfl rfl hd401 (st_index (k := kEncode_Run) hE rfl rfl Try.underlying48 Try.sizeOf55 (hv7.mono (M.le.trans hm14 (M.le.trans hm19 (M.le.trans hm39 hm669)))) hx721) rfl ?_
 rintro v723 a _ ⟨rfl, hp722⟩ hE
 refine stg hE rfl rfl rfl rfl hd401 (st_fieldM hE fo55_0 fl55_0 rfl hp722) rfl ?_
 rintro v726 a _ ⟨rfl, hp725⟩ hE
 refine stg hE rfl rfl rfl rfl hd401 (st_loadM hE hS ty3 rfl hp725) rfl ?_
 rintro v728 a _ ⟨rfl, hv727⟩ hE
 obtain ⟨rfl, hr729⟩ := RV_int hv727
 refine spg hE rfl rfl rfl rfl hd401 (r_bin hE rfl rfl b_lss) rfl fun a hE => ?_
 refine sp hE (r_pickF hE rfl hd401 rfl) rfl fun a hE => ?_
 refine knil ?_
 exact ⟨(decide (x720.fMany < 1)), h, _, hm669, hS, hE.cut ⟨rfl, rfl, rfl, rfl, rfl, rfl, rfl, rfl, trivial⟩⟩
 }
 }
 }
 }
 {
 rintro a w ⟨x59, h, m57, hm58, hS, hE⟩
 unfold hayloftlaw06_EncodeRuns_j4 at h
 refine kif hE rfl (fun hd61 => ?_) (fun hd61 => ?_)
 {
 have h := ite_T hd61 h
 refine kseq ?_
 refine kreg ?_
 refine sp hE (r_assign hE rfl) rfl fun a hE => ?_
 refine knil ?_
 refine kret ?_
 have h := unwrap h hb45
 obtain rfl := Option.some.inj h
 try dsimp only
 refine Fin.mk (fn := Try.f7) hE (rs := [.tmp 2]) rfl (ResL.tmp hE rfl ResL.nil) ?_
 exact ⟨_, (M.le.trans hm6 (M.le.trans hm14 (M.le.trans hm19 (M.le.trans hm39 hm58)))), (hS.dropT 1), RV_of_bool⟩
 }
 {
 have h := ite_F hd61 h
 refine kskip ?_
 refine kseq ?_
 refine kreg ?_
 refine sp hE (r_assign hE rfl) rfl fun a hE => ?_
 refine knil ?_
 refine kblock ?_
 refine kloop h (fun (s : (Int × Int)) a w => ∃ m', M.le m57 m' ∧ inR .i64 s.1 ∧ inR .i64 s.2 ∧ S W0 m' w (L) ((5, v16) :: TL) ∧ Env 90 a [(0, v0), (3, v8), (4, v16), (5, (.int .i64 s.1)), (6, (.int .i64 x42)), (7, (.int .i64 s.2)), (22, (.int .i64 (r3.length : Int))), (23, (.int .i64 x42))]) ?_ ?_
 {
 exact ⟨_, (M.le.refl _), hr41, (show inR .i64 0 from inR_lit (by decide)), hS, hE.cut ⟨rfl, rfl, rfl, rfl, rfl, rfl, rfl, rfl, trivial⟩⟩
 }
 {
 rintro ⟨x66, x68⟩ a w ⟨m64, hm65, hr67, hr69, hS, hE⟩ r70 h hb71
 have h : hayloftlaw06_EncodeRuns_b2 p0 r3 x42 x66 x68 = some r70 := h
 unfold hayloftlaw06_EncodeRuns_b2 at h
 refine kseq ?_
 refine kseq ?_
 refine kreg ?_
 refine sp hE (r_move hE rfl) rfl fun a hE => ?_
 refine sp hE (r_move hE rfl) rfl fun a hE => ?_
 refine sp hE (r_move hE rfl) rfl fun a hE => ?_
 obtain ⟨x75, hx76, h⟩ := ob h
 refine st hE (st_index (k := kEncode_Run) hE rfl rfl Try.underlying48 Try.sizeOf55 (hv7.mono (M.le.trans hm14 (M.le.trans hm19 (M.le.trans hm39 (M.le.trans hm58 hm65))))) hx76) rfl ?_
 rintro v78 a _ ⟨rfl, hp77⟩ hE
 refine st hE (st_fieldM hE fo55_0 fl55_0 rfl hp77) rfl ?_
 rintro v81 a _ ⟨rfl, hp80⟩ hE
 refine st hE (st_loadM hE hS ty3 rfl hp80) rfl ?_
 rintro v83 a _ ⟨rfl, hv82⟩ hE
 obtain ⟨rfl, hr84⟩ := RV_int hv82
 refine sp hE (r_bin hE rfl rfl b_lss) rfl fun a hE => ?_
 refine knil ?_
 refine kif hE rfl (fun hd86 => ?_) (fun hd86 => ?_)
 {
 have h := ite_T hd86 h
 refine kskip ?_
 refine kseq ?_
 refine kblock ?_
 refine kseq ?_
 refine kseq ?_
 refine kcut (fun a w => ∃ x89 : Bool, hayloftlaw06_EncodeRuns_j5 x66 x68 x89 = some r70 ∧ ∃ m', M.le m64 m' ∧ S W0 m' w (L) ((5, v16) :: TL) ∧ Env 90 a [(0, v0), (3, v8), (4, v16), (5, (.int .i64 x66)), (6, (.int .i64 x42)), (7, (.int .i64 x68)), (22, (.int .i64 (r3.length : Int))), (23, (.int .i64 x42)), (82, (.bool x89))]) ?_ ?_
 {
 rcases Bool.eq_false_or_eq_true (decide ((p0.length : Int) ≤ x66)) with hd99 | hd99
 {
 have h := ite_T hd99 h
 refine kchain (k := 14) (m := m64) (es := []) (Φ := (fun i m ws v => match i with | 0 => v = (.int .i64 x66) ∧ inR .i64 x66 | 1 => v = v0 | 2 => v = (.int .i64 (p0.length : Int)) ∧ inR .i64 (p0.length : Int) | 3 => v = (.bool (decide ((p0.length : Int) ≤ x66))) | 4 => v = (.bool (decide ((p0.length : Int) ≤ x66))) | 5 => v = undef | 6 => v = undef | 7 => v = undef | 8 => v = undef | 9 => v = undef | 10 => v = undef | 11 => v = undef | 12 => v = undef | 13 => v = undef | _ => True)) (Q := (fun c m ws L' TL' => match c with | 0 => L = L' ∧ (5, v16) :: TL = TL' | _ => False)) (cs := [⟨0, 0, false, [(5, (.int .i64 x66))]⟩, ⟨0, 0, false, [(0, v0)]⟩, ⟨0, 0, false, []⟩, ⟨0, 0, false, []⟩, ⟨0, 0, false, []⟩, ⟨0, 0, false, [(0, v0)]⟩, ⟨0, 0, false, [(5, (.int .i64 x66))]⟩, ⟨0, 0, false, []⟩, ⟨0, 0, false, []⟩, ⟨0, 0, false, [(3, v8)]⟩, ⟨0, 0, false, [(6, (.int .i64 x42))]⟩, ⟨0, 0, false, []⟩, ⟨0, 0, false, []⟩, ⟨0, 0, false, []⟩]) mixed hE hS ⟨rfl, rfl⟩ rfl rfl ⟨⟨rfl, trivial⟩, ⟨rfl, trivial⟩, trivial, trivial, trivial, ⟨rfl, trivial⟩, ⟨rfl, trivial⟩, trivial, trivial, ⟨rfl, trivial⟩, ⟨rfl, trivial⟩, trivial, trivial, trivial, trivial⟩ (by kernel_rfl) ?_ ?_ ?_ ?_
 {
 intro i m_ m2_ ws v hm_ hp_
 match i, hp_ with
 | 0, hp_ => exact hp_
 | 1, hp_ => exact hp_
 | 2, hp_ => exact hp_
 | 3, hp_ => exact hp_
 | 4, hp_ => exact hp_
 | 5, hp_ => exact hp_
 | 6, hp_ => exact hp_
 | 7, hp_ => exact hp_
 | 8, hp_ => exact hp_
 | 9, hp_ => exact hp_
 | 10, hp_ => exact hp_
 | 11, hp_ => exact hp_
 | 12, hp_ => exact hp_
 | 13, hp_ => exact hp_
 | _ + 14, hp_ => exact trivial
 }
 {
 intro c m_ m2_ ws L_ T_ hm_ hq_
 match c, hq_ with
 | 0, ⟨e1_, e2_⟩ => exact ⟨e1_, e2_⟩
 | _ + 1, hq_ => exact hq_.elim
 }
 {
 refine ⟨?_, ?_, ?_, ?_, ?_, ?_, ?_, ?_, ?_, ?_, ?_, ?_, ?_, ?_, trivial⟩
 {
 refine cplain fun pre_ post_ L_ T_ m' a' w' hl' hp' hm' hq' hS' hE' hT' => ?_
 obtain rfl := len0 hl'
 refine Step.imp (Run1.pure (r_move hE' rfl)) ?_
 rintro _ _ ⟨rfl, rfl⟩
 exact ⟨_, M.le.refl _, hS', ⟨rfl, hr67⟩⟩
 }
 {
 refine cplain fun pre_ post_ L_ T_ m' a' w' hl' hp' hm' hq' hS' hE' hT' => ?_
 obtain rfl := len0 hl'
 refine Step.imp (Run1.pure (r_move hE' rfl)) ?_
 rintro _ _ ⟨rfl, rfl⟩
 exact ⟨_, M.le.refl _, hS', rfl⟩
 }
 {
 refine cplain fun pre_ post_ L_ T_ m' a' w' hl' hp' hm' hq' hS' hE' hT' => ?_
 obtain rfl := len0 hl'
 obtain ⟨v102, e103, q104⟩ : ∃ v, a'.tmps.getD 68 undef = v ∧ (v = v0) := ⟨_, rfl, hT' 1 (by decide) 68 rfl⟩
 have hE := hE'.add (e103.trans q104)
 refine Step.imp (Run1.pure (r_lenSl (k := kApi_Value) hE rfl rfl Try.underlying29 (ha0.mono (M.le.trans hm6 (M.le.trans hm14 (M.le.trans hm19 (M.le.trans hm39 (M.le.trans hm58 (M.le.trans hm65 hm'))))))))) ?_
 rintro _ _ ⟨rfl, rfl⟩
 exact ⟨_, M.le.refl _, hS', ⟨rfl, (inR_len (RV_len (ha0.mono (M.le.trans hm6 (M.le.trans hm14 (M.le.trans hm19 (M.le.trans hm39 (M.le.trans hm58 (M.le.trans hm65 hm')))))))))⟩⟩
 }
 {
 refine cplain fun pre_ post_ L_ T_ m' a' w' hl' hp' hm' hq' hS' hE' hT' => ?_
 obtain rfl := len0 hl'
 obtain ⟨v106, e107, q108⟩ : ∃ v, a'.tmps.getD 67 undef = v ∧ (v = (.int .i64 x66) ∧ inR .i64 x66) := ⟨_, rfl, hT' 0 (by decide) 67 rfl⟩
 obtain ⟨q108, hr109⟩ := q108
 have hE := hE'.add (e107.trans q108)
 obtain ⟨v110, e111, q112⟩ : ∃ v, a'.tmps.getD 69 undef = v ∧ (v = (.int .i64 (p0.length : Int)) ∧ inR .i64 (p0.length : Int)) := ⟨_, rfl, hT' 2 (by decide) 69 rfl⟩
 obtain ⟨q112, hr113⟩ := q112
 have hE := hE.add (e111.trans q112)
 refine Step.imp (Run1.pure (r_bin hE rfl rfl b_geq)) ?_
 rintro _ _ ⟨rfl, rfl⟩
 exact ⟨_, M.le.refl _, hS', rfl⟩
 }
 {
 refine cplain fun pre_ post_ L_ T_ m' a' w' hl' hp' hm' hq' hS' hE' hT' => ?_
 obtain rfl := len0 hl'
 obtain ⟨v115, e116, q117⟩ : ∃ v, a'.tmps.getD 70 undef = v ∧ (v = (.bool (decide ((p0.length : Int) ≤ x66)))) := ⟨_, rfl, hT' 3 (by decide) 70 rfl⟩
 have hE := hE'.add (e116.trans q117)
 refine Step.imp (Run1.pure (r_move hE rfl)) ?_
 rintro _ _ ⟨rfl, rfl⟩
 exact ⟨_, M.le.refl _, hS', rfl⟩
 }
 {
 exact cskip (b := true) rfl rfl (by decide) (fun _ _ _ h_ => Eq.trans h_ (congrArg Value.bool hd99)) (by decide) (fun _ _ => rfl)
 }
 {
 exact cskip (b := true) rfl rfl (by decide) (fun _ _ _ h_ => Eq.trans h_ (congrArg Value.bool hd99)) (by decide) (fun _ _ => rfl)
 }
 {
 exact cskip (b := true) rfl rfl (by decide) (fun _ _ _ h_ => Eq.trans h_ (congrArg Value.bool hd99)) (by decide) (fun _ _ => rfl)
 }
 {
 exact cskip (b := true) rfl rfl (by decide) (fun _ _ _ h_ => Eq.trans h_ (congrArg Value.bool hd99)) (by decide) (fun _ _ => rfl)
 }
 {
 exact cskip (b := true) rfl rfl (by decide) (fun _ _ _ h_ => Eq.trans h_ (congrArg Value.bool hd99)) (by decide) (fun _ _ => rfl)
 }
 {
 exact cskip (b := true) rfl rfl (by decide) (fun _ _ _ h_ => Eq.trans h_ (congrArg Value.bool hd99)) (by decide) (fun _ _ => rfl)
 }
 {
 exact cskip (b := true) rfl rfl (by decide) (fun _ _ _ h_ => Eq.trans h_ (congrArg Value.bool hd99)) (by decide) (fun _ _ => rfl)
 }
 {
 exact cskip (b := true) rfl rfl (by decide) (fun _ _ _ h_ => Eq.trans h_ (congrArg Value.bool hd99)) (by decide) (fun _ _ => rfl)
 }
 {
 exact cskip (b := true) rfl rfl (by decide) (fun _ _ _ h_ => Eq.trans h_ (congrArg Value.bool hd99)) (by decide) (fun _ _ => rfl)
 }
 }
 {
 intro ws_ L_ T_ m119 a w hl120 hm121 hq122 hS hd123 hn124 ho125 hT126
 obtain rfl := len0 hl120
 obtain ⟨rfl, rfl⟩ := hq122
 have hE := Env.of (k := 14) (l' := [(0, v0), (3, v8), (4, v16), (5, (.int .i64 x66)), (6, (.int .i64 x42)), (7, (.int .i64 x68)), (22, (.int .i64 (r3.length : Int))), (23, (.int .i64 x42)), (58, (.int .i64 x68)), (59, v8), (60, (.int .i64 x42)), (61, v78), (62, v81), (63, (.int .i64 x75.fMany)), (64, (.bool (decide (x68 < x75.fMany))))]) hd123 hn124 ho125 ⟨rfl, rfl, rfl, rfl, rfl, rfl, rfl, rfl, rfl, rfl, rfl, rfl, rfl, rfl, rfl, trivial⟩ rfl
 obtain ⟨v127, e128, q129⟩ : ∃ v, a.tmps.getD 71 undef = v ∧ (v = (.bool (decide ((p0.length : Int) ≤ x66)))) := ⟨_, rfl, hT126 4 (by decide) 71 rfl⟩
 have hE := hE.add (e128.trans q129)
 obtain ⟨v130, e131, q132⟩ : ∃ v, a.tmps.getD 72 undef = v ∧ (v = undef) := ⟨_, rfl, hT126 5 (by decide) 72 rfl⟩
 have hE := hE.add (e131.trans q132)
 obtain ⟨v133, e134, q135⟩ : ∃ v, a.tmps.getD 73 undef = v ∧ (v = undef) := ⟨_, rfl, hT126 6 (by decide) 73 rfl⟩
 have hE := hE.add (e134.trans q135)
 obtain ⟨v136, e137, q138⟩ : ∃ v, a.tmps.getD 74 undef = v ∧ (v = undef) := ⟨_, rfl, hT126 7 (by decide) 74 rfl⟩
 have hE := hE.add (e137.trans q138)
 obtain ⟨v139, e140, q141⟩ : ∃ v, a.tmps.getD 75 undef = v ∧ (v = undef) := ⟨_, rfl, hT126 8 (by decide) 75 rfl⟩
 have hE := hE.add (e140.trans q141)
 obtain ⟨v142, e143, q144⟩ : ∃ v, a.tmps.getD 76 undef = v ∧ (v = undef) := ⟨_, rfl, hT126 9 (by decide) 76 rfl⟩
 have hE := hE.add (e143.trans q144)
 obtain ⟨v145, e146, q147⟩ : ∃ v, a.tmps.getD 77 undef = v ∧ (v = undef) := ⟨_, rfl, hT126 10 (by decide) 77 rfl⟩
 have hE := hE.add (e146.trans q147)
 obtain ⟨v148, e149, q150⟩ : ∃ v, a.tmps.getD 78 undef = v ∧ (v = undef) := ⟨_, rfl, hT126 11 (by decide) 78 rfl⟩
 have hE := hE.add (e149.trans q150)
 obtain ⟨v151, e152, q153⟩ : ∃ v, a.tmps.getD 79 undef = v ∧ (v = undef) := ⟨_, rfl, hT126 12 (by decide) 79 rfl⟩
 have hE := hE.add (e152.trans q153)
 obtain ⟨v154, e155, q156⟩ : ∃ v, a.tmps.getD 80 undef = v ∧ (v = undef) := ⟨_, rfl, hT126 13 (by decide) 80 rfl⟩
 have hE := hE.add (e155.trans q156)
 refine sx hE rfl rfl rfl rfl hd99 rfl fun a hE => ?_
 refine sp hE (r_pickT hE rfl hd99 rfl) rfl fun a hE => ?_
 refine knil ?_
 exact ⟨true, h, _, hm121, hS, hE.cut ⟨rfl, rfl, rfl, rfl, rfl, rfl, rfl, rfl, rfl, trivial⟩⟩
 }
 }
 {
 have h := ite_F hd99 h
 obtain ⟨x158, hx159, h⟩ := ob h
 obtain ⟨x162, hx163, h⟩ := ob h
 refine kchain (k := 14) (m := m64) (es := []) (Φ := (fun i m ws v => match i with | 0 => v = (.int .i64 x66) ∧ inR .i64 x66 | 1 => v = v0 | 2 => v = (.int .i64 (p0.length : Int)) ∧ inR .i64 (p0.length : Int) | 3 => v = (.bool (decide ((p0.length : Int) ≤ x66))) | 4 => v = (.bool (decide ((p0.length : Int) ≤ x66))) | 5 => v = v0 | 6 => v = (.int .i64 x66) ∧ inR .i64 x66 | 7 => PR kApi_Value m v x158 | 8 => RV kApi_Value m v x158 | 9 => v = v8 | 10 => v = (.int .i64 x42) ∧ inR .i64 x42 | 11 => PR kEncode_Run m v x162 | 12 => PR kApi_Value m v x162.fValue | 13 => RV kApi_Value m v x162.fValue | _ => True)) (Q := (fun c m ws L' TL' => match c with | 0 => L = L' ∧ (5, v16) :: TL = TL' | _ => False)) (cs := [⟨0, 0, false, [(5, (.int .i64 x66))]⟩, ⟨0, 0, false, [(0, v0)]⟩, ⟨0, 0, false, []⟩, ⟨0, 0, false, []⟩, ⟨0, 0, false, []⟩, ⟨0, 0, false, [(0, v0)]⟩, ⟨0, 0, false, [(5, (.int .i64 x66))]⟩, ⟨0, 0, false, []⟩, ⟨0, 0, false, []⟩, ⟨0, 0, false, [(3, v8)]⟩, ⟨0, 0, false, [(6, (.int .i64 x42))]⟩, ⟨0, 0, false, []⟩, ⟨0, 0, false, []⟩, ⟨0, 0, false, []⟩]) mixed hE hS ⟨rfl, rfl⟩ rfl rfl ⟨⟨rfl, trivial⟩, ⟨rfl, trivial⟩, trivial, trivial, trivial, ⟨rfl, trivial⟩, ⟨rfl, trivial⟩, trivial, trivial, ⟨rfl, trivial⟩, ⟨rfl, trivial⟩, trivial, trivial, trivial, trivial⟩ (by kernel_rfl) ?_ ?_ ?_ ?_
 {
 intro i m_ m2_ ws v hm_ hp_
 match i, hp_ with
 | 0, hp_ => exact hp_
 | 1, hp_ => exact hp_
 | 2, hp_ => exact hp_
 | 3, hp_ => exact hp_
 | 4, hp_ => exact hp_
 | 5, hp_ => exact hp_
 | 6, hp_ => exact hp_
 | 7, hp_ => exact PR.mono hp_ hm_
 | 8, hp_ => exact RV.mono hp_ hm_
 | 9, hp_ => exact hp_
 | 10, hp_ => exact hp_
 | 11, hp_ => exact PR.mono hp_ hm_
 | 12, hp_ => exact PR.mono hp_ hm_
 | 13, hp_ => exact RV.mono hp_ hm_
 | _ + 14, hp_ => exact trivial
 }
 {
 intro c m_ m2_ ws L_ T_ hm_ hq_
 match c, hq_ with
 | 0, ⟨e1_, e2_⟩ => exact ⟨e1_, e2_⟩
 | _ + 1, hq_ => exact hq_.elim
 }
 {
 refine ⟨?_, ?_, ?_, ?_, ?_, ?_, ?_, ?_, ?_, ?_, ?_, ?_, ?_, ?_, trivial⟩
 {
 refine cplain fun pre_ post_ L_ T_ m' a' w' hl' hp' hm' hq' hS' hE' hT' => ?_
 obtain rfl := len0 hl'
 refine Step.imp (Run1.pure (r_move hE' rfl)) ?_
 rintro _ _ ⟨rfl, rfl⟩
 exact ⟨_, M.le.refl _, hS', ⟨rfl, hr67⟩⟩
 }
 {
 refine cplain fun pre_ post_ L_ T_ m' a' w' hl' hp' hm' hq' hS' hE' hT' => ?_
 obtain rfl := len0 hl'
 refine Step.imp (Run1.pure (r_move hE' rfl)) ?_
 rintro _ _ ⟨rfl, rfl⟩
 exact ⟨_, M.le.refl _, hS', rfl⟩
 }
 {
 refine cplain fun pre_ post_ L_ T_ m' a' w' hl' hp' hm' hq' hS' hE' hT' => ?_
 obtain rfl := len0 hl'
 obtain ⟨v170, e171, q172⟩ : ∃ v, a'.tmps.getD 68 undef = v ∧ (v = v0) := ⟨_, rfl, hT' 1 (by decide) 68 rfl⟩
 have hE := hE'.add (e171.trans q172)
 refine Step.imp (Run1.pure (r_lenSl (k := kApi_Value) hE rfl rfl Try.underlying29 (ha0.mono (M.le.trans hm6 (M.le.trans hm14 (M.le.trans hm19 (M.le.trans hm39 (M.le.trans hm58 (M.le.trans hm65 hm'))))))))) ?_
 rintro _ _ ⟨rfl, rfl⟩
 exact ⟨_, M.le.refl _, hS', ⟨rfl, (inR_len (RV_len (ha0.mono (M.le.trans hm6 (M.le.trans hm14 (M.le.trans hm19 (M.le.trans hm39 (M.le.trans hm58 (M.le.trans hm65 hm')))))))))⟩⟩
 }
 {
 refine cplain fun pre_ post_ L_ T_ m' a' w' hl' hp' hm' hq' hS' hE' hT' => ?_
 obtain rfl := len0 hl'
 obtain ⟨v174, e175, q176⟩ : ∃ v, a'.tmps.getD 67 undef = v ∧ (v = (.int .i64 x66) ∧ inR .i64 x66) := ⟨_, rfl, hT' 0 (by decide) 67 rfl⟩
 obtain ⟨q176, hr177⟩ := q176
 have hE := hE'.add (e175.trans q176)
 obtain ⟨v178, e179, q180⟩ : ∃ v, a'.tmps.getD 69 undef = v ∧ (v = (.int .i64 (p0.length : Int)) ∧ inR .i64 (p0.length : Int)) := ⟨_, rfl, hT' 2 (by decide) 69 rfl⟩
 obtain ⟨q180, hr181⟩ := q180
 have hE := hE.add (e179.trans q180)
 refine Step.imp (Run1.pure (r_bin hE rfl rfl b_geq)) ?_
 rintro _ _ ⟨rfl, rfl⟩
 exact ⟨_, M.le.refl _, hS', rfl⟩
 }
 {
 refine cplain fun pre_ post_ L_ T_ m' a' w' hl' hp' hm' hq' hS' hE' hT' => ?_
 obtain rfl := len0 hl'
 obtain ⟨v183, e184, q185⟩ : ∃ v, a'.tmps.getD 70 undef = v ∧ (v = (.bool (decide ((p0.length : Int) ≤ x66)))) := ⟨_, rfl, hT' 3 (by decide) 70 rfl⟩
 have hE := hE'.add (e184.trans q185)
 refine Step.imp (Run1.pure (r_move hE rfl)) ?_
 rintro _ _ ⟨rfl, rfl⟩
 exact ⟨_, M.le.refl _, hS', rfl⟩
 }
 {
 refine cguard rfl rfl (by decide) (fun _ _ _ h_ => Eq.trans h_ (congrArg Value.bool hd99)) fun pre_ post_ L_ T_ m' a' w' hl' hp' hm' hq' hS' hE' hT' => ?_
 obtain rfl := len0 hl'
 refine Step.imp (Run1.pure (r_move hE' rfl)) ?_
 rintro _ _ ⟨rfl, rfl⟩
 exact ⟨_, M.le.refl _, hS', rfl⟩
 }
 {
 refine cguard rfl rfl (by decide) (fun _ _ _ h_ => Eq.trans h_ (congrArg Value.bool hd99)) fun pre_ post_ L_ T_ m' a' w' hl' hp' hm' hq' hS' hE' hT' => ?_
 obtain rfl := len0 hl'
 refine Step.imp (Run1.pure (r_move hE' rfl)) ?_
 rintro _ _ ⟨rfl, rfl⟩
 exact ⟨_, M.le.refl _, hS', ⟨rfl, hr67⟩⟩
 }
 {
 refine cguard rfl rfl (by decide) (fun _ _ _ h_ => Eq.trans h_ (congrArg Value.bool hd99)) fun pre_ post_ L_ T_ m' a' w' hl' hp' hm' hq' hS' hE' hT' => ?_
 obtain rfl := len0 hl'
 obtain ⟨v189, e190, q191⟩ : ∃ v, a'.tmps.getD 72 undef = v ∧ (v = v0) := ⟨_, rfl, hT' 5 (by decide) 72 rfl⟩
 have hE := hE'.add (e190.trans q191)
 obtain ⟨v192, e193, q194⟩ : ∃ v, a'.tmps.getD 73 undef = v ∧ (v = (.int .i64 x66) ∧ inR .i64 x66) := ⟨_, rfl, hT' 6 (by decide) 73 rfl⟩
 obtain ⟨q194, hr195⟩ := q194
 have hE := hE.add (e193.trans q194)
 refine Step.imp (st_index (k := kApi_Value) hE rfl rfl Try.underlying29 Try.sizeOf53 (ha0.mono (M.le.trans hm6 (M.le.trans hm14 (M.le.trans hm19 (M.le.trans hm39 (M.le.trans hm58 (M.le.trans hm65 hm'))))))) hx159) ?_
 rintro v196 _ ⟨rfl, hp160⟩
 exact ⟨_, M.le.refl _, hS', hp160⟩
 }
 {
 refine cguard rfl rfl (by decide) (fun _ _ _ h_ => Eq.trans h_ (congrArg Value.bool hd99)) fun pre_ post_ L_ T_ m' a' w' hl' hp' hm' hq' hS' hE' hT' => ?_
 obtain rfl := len0 hl'
 obtain ⟨v197, e198, q199⟩ : ∃ v, a'.tmps.getD 74 undef = v ∧ (PR kApi_Value m' v x158) := ⟨_, rfl, hT' 7 (by decide) 74 rfl⟩
 have hE := hE'.add (e198)
 refine Step.imp (st_loadM hE hS' ty53 rfl q199) ?_
 rintro v200 _ ⟨rfl, hv161⟩
 exact ⟨_, M.le.refl _, hS', hv161⟩
 }
 {
 refine cguard rfl rfl (by decide) (fun _ _ _ h_ => Eq.trans h_ (congrArg Value.bool hd99)) fun pre_ post_ L_ T_ m' a' w' hl' hp' hm' hq' hS' hE' hT' => ?_
 obtain rfl := len0 hl'
 refine Step.imp (Run1.pure (r_move hE' rfl)) ?_
 rintro _ _ ⟨rfl, rfl⟩
 exact ⟨_, M.le.refl _, hS', rfl⟩
 }
 {
 refine cguard rfl rfl (by decide) (fun _ _ _ h_ => Eq.trans h_ (congrArg Value.bool hd99)) fun pre_ post_ L_ T_ m' a' w' hl' hp' hm' hq' hS' hE' hT' => ?_
 obtain rfl := len0 hl'
 refine Step.imp (Run1.pure (r_move hE' rfl)) ?_
 rintro _ _ ⟨rfl, rfl⟩
 exact ⟨_, M.le.refl _, hS', ⟨rfl, hr43⟩⟩
 }
 {
 refine cguard rfl rfl (by decide) (fun _ _ _ h_ => Eq.trans h_ (congrArg Value.bool hd99)) fun pre_ post_ L_ T_ m' a' w' hl' hp' hm' hq' hS' hE' hT' => ?_
 obtain rfl := len0 hl'
 obtain ⟨v203, e204, q205⟩ : ∃ v, a'.tmps.getD 76 undef = v ∧ (v = v8) := ⟨_, rfl, hT' 9 (by decide) 76 rfl⟩
 have hE := hE'.add (e204.trans q205)
 obtain ⟨v206, e207, q208⟩ : ∃ v, a'.tmps.getD 77 undef = v ∧ (v = (.int .i64 x42) ∧ inR .i64 x42) := ⟨_, rfl, hT' 10 (by decide) 77 rfl⟩
 obtain ⟨q208, hr209⟩ := q208
 have hE := hE.add (e207.trans q208)
 refine Step.imp (st_index (k := kEncode_Run) hE rfl rfl Try.underlying48 Try.sizeOf55 (hv7.mono (M.le.trans hm14 (M.le.trans hm19 (M.le.trans hm39 (M.le.trans hm58 (M.le.trans hm65 hm')))))) hx163) ?_
 rintro v210 _ ⟨rfl, hp164⟩
 exact ⟨_, M.le.refl _, hS', hp164⟩
 }
 {
 refine cguard rfl rfl (by decide) (fun _ _ _ h_ => Eq.trans h_ (congrArg Value.bool hd99)) fun pre_ post_ L_ T_ m' a' w' hl' hp' hm' hq' hS' hE' hT' => ?_
 obtain rfl := len0 hl'
 obtain ⟨v211, e212, q213⟩ : ∃ v, a'.tmps.getD 78 undef = v ∧ (PR kEncode_Run m' v x162) := ⟨_, rfl, hT' 11 (by decide) 78 rfl⟩
 have hE := hE'.add (e212)
 refine Step.imp (st_fieldM hE fo55_1 fl55_1 rfl q213) ?_
 rintro v214 _ ⟨rfl, hp166⟩
 exact ⟨_, M.le.refl _, hS', hp166⟩
 }
 {
 refine cguard rfl rfl (by decide) (fun _ _ _ h_ => Eq.trans h_ (congrArg Value.bool hd99)) fun pre_ post_ L_ T_ m' a' w' hl' hp' hm' hq' hS' hE' hT' => ?_
 obtain rfl := len0 hl'
 obtain ⟨v215, e216, q217⟩ : ∃ v, a'.tmps.getD 79 undef = v ∧ (PR kApi_Value m' v x162.fValue) := ⟨_, rfl, hT' 12 (by decide) 79 rfl⟩
 have hE := hE'.add (e216)
 refine Step.imp (st_loadM hE hS' ty53 rfl q217) ?_
 rintro v218 _ ⟨rfl, hv167⟩
 exact ⟨_, M.le.refl _, hS', hv167⟩
 }
 }
 {
 intro ws_ L_ T_ m219 a w hl220 hm221 hq222 hS hd223 hn224 ho225 hT226
 obtain rfl := len0 hl220
 obtain ⟨rfl, rfl⟩ := hq222
 have hE := Env.of (k := 14) (l' := [(0, v0), (3, v8), (4, v16), (5, (.int .i64 x66)), (6, (.int .i64 x42)), (7, (.int .i64 x68)), (22, (.int .i64 (r3.length : Int))), (23, (.int .i64 x42)), (58, (.int .i64 x68)), (59, v8), (60, (.int .i64 x42)), (61, v78), (62, v81), (63, (.int .i64 x75.fMany)), (64, (.bool (decide (x68 < x75.fMany))))]) hd223 hn224 ho225 ⟨rfl, rfl, rfl, rfl, rfl, rfl, rfl, rfl, rfl, rfl, rfl, rfl, rfl, rfl, rfl, trivial⟩ rfl
 obtain ⟨v227, e228, q229⟩ : ∃ v, a.tmps.getD 71 undef = v ∧ (v = (.bool (decide ((p0.length : Int) ≤ x66)))) := ⟨_, rfl, hT226 4 (by decide) 71 rfl⟩
 have hE := hE.add (e228.trans q229)
 obtain ⟨v230, e231, q232⟩ : ∃ v, a.tmps.getD 72 undef = v ∧ (v = v0) := ⟨_, rfl, hT226 5 (by decide) 72 rfl⟩
 have hE := hE.add (e231.trans q232)
 obtain ⟨v233, e234, q235⟩ : ∃ v, a.tmps.getD 73 undef = v ∧ (v = (.int .i64 x66) ∧ inR .i64 x66) := ⟨_, rfl, hT226 6 (by decide) 73 rfl⟩
 obtain ⟨q235, hr236⟩ := q235
 have hE := hE.add (e234.trans q235)
 obtain ⟨v237, e238, q239⟩ : ∃ v, a.tmps.getD 74 undef = v ∧ (PR kApi_Value m219 v x158) := ⟨_, rfl, hT226 7 (by decide) 74 rfl⟩
 have hE := hE.add (e238)
 obtain ⟨v240, e241, q242⟩ : ∃ v, a.tmps.getD 75 undef = v ∧ (RV kApi_Value m219 v x158) := ⟨_, rfl, hT226 8 (by decide) 75 rfl⟩
 have hE := hE.add (e241)
 obtain ⟨v243, e244, q245⟩ : ∃ v, a.tmps.getD 76 undef = v ∧ (v = v8) := ⟨_, rfl, hT226 9 (by decide) 76 rfl⟩
 have hE := hE.add (e244.trans q245)
 obtain ⟨v246, e247, q248⟩ : ∃ v, a.tmps.getD 77 undef = v ∧ (v = (.int .i64 x42) ∧ inR .i64 x42) := ⟨_, rfl, hT226 10 (by decide) 77 rfl⟩
 obtain ⟨q248, hr249⟩ := q248
 have hE := hE.add (e247.trans q248)
 obtain ⟨v250, e251, q252⟩ : ∃ v, a.tmps.getD 78 undef = v ∧ (PR kEncode_Run m219 v x162) := ⟨_, rfl, hT226 11 (by decide) 78 rfl⟩
 have hE := hE.add (e251)
 obtain ⟨v253, e254, q255⟩ : ∃ v, a.tmps.getD 79 undef = v ∧ (PR kApi_Value m219 v x162.fValue) := ⟨_, rfl, hT226 12 (by decide) 79 rfl⟩
 have hE := hE.add (e254)
 obtain ⟨v256, e257, q258⟩ : ∃ v, a.tmps.getD 80 undef = v ∧ (RV kApi_Value m219 v x162.fValue) := ⟨_, rfl, hT226 13 (by decide) 80 rfl⟩
 have hE := hE.add (e257)
 refine spg hE rfl rfl rfl rfl hd99 (r_neqK hE eq53 rfl rfl q242 q258 rfl) rfl fun a hE => ?_
 refine sp hE (r_pickF hE rfl hd99 rfl) rfl fun a hE => ?_
 refine knil ?_
 exact ⟨(!decide (x158 = x162.fValue)), h, _, hm221, hS, hE.cut ⟨rfl, rfl, rfl, rfl, rfl, rfl, rfl, rfl, rfl, trivial⟩⟩
 }
 }
 }
 {
 rintro a w ⟨x89, h, m87, hm88, hS, hE⟩
 unfold hayloftlaw06_EncodeRuns_j5 at h
 refine kif hE rfl (fun hd91 => ?_) (fun hd91 => ?_)
 {
 have h := ite_T hd91 h
 refine kseq ?_
 refine kreg ?_
 refine sp hE (r_assign hE rfl) rfl fun a hE => ?_
 refine knil ?_
 refine kret ?_
 have h := unwrap h hb71
 have h := unwrap h hb45
 obtain rfl := Option.some.inj h
 try dsimp only
 refine Fin.mk (fn := Try.f7) hE (rs := [.tmp 2]) rfl (ResL.tmp hE rfl ResL.nil) ?_
 exact ⟨_, (M.le.trans hm6 (M.le.trans hm14 (M.le.trans hm19 (M.le.trans hm39 (M.le.trans hm58 (M.le.trans hm65 hm88)))))), (hS.dropT 1), RV_of_bool⟩
 }
 {
 have h := ite_F hd91 h
 refine kskip ?_
 refine kreg ?_
 refine sp hE (r_move hE rfl) rfl fun a hE => ?_
 refine sp hE (r_bin hE rfl rfl (b_add rfl)) rfl fun a hE => ?_
 refine sp hE (r_assign hE rfl) rfl fun a hE => ?_
 refine knil ?_
 refine kreg ?_
 refine sp hE (r_move hE rfl) rfl fun a hE => ?_
 refine sp hE (r_bin hE rfl rfl (b_add rfl)) rfl fun a hE => ?_
 refine sp hE (r_assign hE rfl) rfl fun a hE => ?_
 refine knil ?_
 exact ⟨(IntKind.i64.wrap (x66 + 1), IntKind.i64.wrap (x68 + 1)), (Option.some.inj h).symm, _, (M.le.trans hm65 hm88), (inR_wrap _ _), (inR_wrap _ _), hS, hE.cut ⟨rfl, rfl, rfl, rfl, rfl, rfl, rfl, rfl, trivial⟩⟩
 }
 }
 }
 {
 have h := ite_F hd86 h
 refine kexit rfl rfl ?_
 have h := unwrap h hb71
 exact ⟨x66, h, _, (M.le.trans hm58 hm65), hr67, hS, hE.cut ⟨rfl, rfl, rfl, rfl, rfl, rfl, trivial⟩⟩
 }
 }
 }
 }
 }
 {
 rintro a w ⟨x50, h, m48, hm49, hr51, hS, hE⟩
 unfold hayloftlaw06_EncodeRuns_j3 at h
 refine kreg ?_
 refine sp hE (r_bin hE rfl rfl (b_add rfl)) rfl fun a hE => ?_
 refine sp hE (r_move hE rfl) rfl fun a hE => ?_
 refine knil ?_
 exact ⟨(x50, IntKind.i64.wrap (x42 + 1)), (Option.some.inj h).symm, _, (M.le.trans hm39 hm49), hr51, (inR_wrap _ _), hS, hE.cut ⟨rfl, rfl, rfl, rfl, rfl, rfl, trivial⟩⟩
 }
 }
 {
 have h := ite_F hd47 h
 refine kexit rfl rfl ?_
 have h := unwrap h hb45
 exact ⟨x40, h, _, hm39, hr41, (hS.pickT 1 [] rfl rfl rfl), hE.cut ⟨rfl, rfl, trivial⟩⟩
 }
 }
 }
 {
 rintro a w ⟨x30, h, m28, hm29, hr31, hS, hE⟩
 unfold hayloftlaw06_EncodeRuns_j2 at h
 refine kseq ?_
 refine kreg ?_
 refine sp hE (r_move hE rfl) rfl fun a hE => ?_
 refine sp hE (r_move hE rfl) rfl fun a hE => ?_
 refine sp hE (r_lenSl (k := kApi_Value) hE rfl rfl Try.underlying29 (ha0.mono (M.le.trans hm6 (M.le.trans hm14 (M.le.trans hm19 hm29))))) rfl fun a hE => ?_
 refine sp hE (r_bin hE rfl rfl b_eql) rfl fun a hE => ?_
 refine sp hE (r_assign hE rfl) rfl fun a hE => ?_
 refine knil ?_
 refine kret ?_
 obtain rfl := Option.some.inj h
 try dsimp only
 refine Fin.mk (fn := Try.f7) hE (rs := [.tmp 2]) rfl (ResL.tmp hE rfl ResL.nil) ?_
 exact ⟨_, (M.le.trans hm6 (M.le.trans hm14 (M.le.trans hm19 hm29))), hS, RV_of_bool⟩
 }
 }
 }
/- 8 -/
/- 9 -/
/- 15 -/
/- 30 -/
/- 10 -/
end Go.Proofs.Ytifobhaccglckaa.Hay
