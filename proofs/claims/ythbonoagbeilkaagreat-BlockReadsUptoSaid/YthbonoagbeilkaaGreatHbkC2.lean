import Derived.Test.YthbonoagbeilkaaGreatHbkC1
import Derived.Test.YthbonoagbeilkaaGreatHbN
import Derived.Carry
import Derived.ChangeSame
import Derived.OpenShut
import Derived.JoinedCond
import Derived.Test.YthbonoagbeilkaaGreatRows
import Derived.Test.YthbonoagbeilkaaGreatHcZc
import Derived.Test.YthbonoagbeilkaaGreatHcQ
set_option maxRecDepth 100000
set_option maxHeartbeats 4000000
set_option linter.unusedVariables false
namespace Go.Proofs.YthbonoagbeilkaaGreat.Hay
open Go.Proofs
theorem c_block_Read {W0 : Bse} {m : M} {w : World} {L : List (Nat × List Value)} {TL : List (Nat × Value)} (hS : S W0 m w (L) (TL)) {v0 : Value} {p0 : (List Int)} (ha0 : RV (kSl (kInt .u8)) m v0 p0) {r : ((List Ap) × Int × Int)} (h : block_Read p0 = some r) :
    Calls Tryz.prog 21 [v0].toArray w (Ret fun v w' => ∃ m', M.le m m' ∧ S W0 m' w' (L) (TL) ∧ ∃ v0_ v1_ v2_ : Value, v = .tuple #[v0_, v1_, v2_] ∧ RV (kSl kAp) m' v0_ r.1 ∧ RV (kInt .i64) m' v1_ r.2.1 ∧ RV (kInt .i64) m' v2_ r.2.2) := by
 refine kcall Tryz.func21 rfl Tryz.ntmps21 (Nat.le_of_ble_eq_true rfl) fun a hE => ?_
 have hE : Env 71 a [(0, v0)] := hE
 unfold block_Read at h
 refine kseq (kreg ?_)
 refine qa hE rfl rfl fun a hE => ?_
 refine qa hE rfl rfl fun a hE => ?_
 refine qa hE rfl rfl fun a hE => ?_
 refine knil (kseq (kreg ?_))
 refine qm hE rfl rfl fun a hE => ?_
 obtain ⟨r5, hr6, h⟩ := ob h
 refine st hE (st_call (vs := [v0]) hE rfl Tryz.call57 (c_block_read (hS := hS) ha0 hr6)) rfl ?_
 rintro _ a w ⟨m7, hm8, hS, v0_9, v1_10, v2_11, rfl, hv0_12, hv1_13, hv2_14⟩ hE
 obtain rfl := RV_bool hv2_14
 refine qm hE rfl rfl fun a hE => ?_
 refine sp hE (r_extract hE rfl rfl) rfl fun a hE => ?_
 refine sp hE (r_extract hE rfl rfl) rfl fun a hE => ?_
 refine sp hE (r_extract hE rfl rfl) rfl fun a hE => ?_
 refine st hE (st_alloc hS Tryz.zeroValue34 rfl (cs := zc34)) rfl ?_
 rintro _ a w ⟨b20, rfl, hS⟩ hE
 refine st0 hE (st_storeF hE hS ty34 StF_self rfl rfl hv0_12 (i := 0) rfl (zr34 _)) ?_
 rintro _ w ⟨cs22, hc23, hS⟩ hE
 refine qa hE rfl rfl fun a hE => ?_
 refine qa hE rfl rfl fun a hE => ?_
 refine knil (kseq (kseq (kreg ?_)))
 refine qm hE rfl rfl fun a hE => ?_
 refine sp hE (r_not hE rfl) rfl fun a hE => ?_
 refine knil ?_
 refine kif hE rfl (fun hd29 => ?_) (fun hd29 => ?_)
 {
 have h := ite_T hd29 h
 refine kseq (kreg ?_)
 refine qa hE rfl rfl fun a hE => ?_
 refine qa hE rfl rfl fun a hE => ?_
 refine qa hE rfl rfl fun a hE => ?_
 refine knil (kret ?_)
 obtain rfl := oi h
 try dsimp only
 refine Fin.mk hE (rs := [.tmp 2, .tmp 3, .tmp 4]) rfl (ResL.tmp hE rfl (ResL.tmp hE rfl (ResL.tmp hE rfl ResL.nil))) ?_
 exact ⟨_, hm8, (hS.dropL 1), _, _, _, rfl, RV_nil, (RV_of_int (show inR .i64 0 from inR_lit (by decide))), (RV_of_int (show inR .i64 70 from inR_lit (by decide)))⟩
 }
 {
 have h := ite_F hd29 h
 refine kskip (kseq (kreg ?_))
 refine qm hE rfl rfl fun a hE => ?_
 refine sp hE (r_fieldL hE fo34_5 rfl) rfl fun a hE => ?_
 refine st hE (st_loadL hE hS ty3 rfl (i := 0) rfl (fl34_5.R_drop (R_whole hc23))) rfl ?_
 rintro v36 a _ ⟨rfl, hv35⟩ hE
 obtain ⟨rfl, hr37⟩ := RV_int hv35
 refine sp hE (r_bin hE rfl rfl (b_sub rfl)) rfl fun a hE => ?_
 obtain ⟨x39, hx40, h⟩ := ob h
 refine st hE (st_slice (k := (kInt .u8)) hE rfl Tryz.underlying24 Tryz.sizeOf5 (ha0.mono hm8) rfl ⟨_, rfl⟩ hx40 (xl := none) (xh := (some (.tmp 23)))) rfl ?_
 rintro v42 a _ ⟨rfl, hv41⟩ hE
 obtain ⟨r43, hr44, h⟩ := ob h
 refine st hE (st_call (vs := [v42]) hE rfl Tryz.call60 (c_slices_Clone_byte (hS := hS) hv41 hr44)) rfl ?_
 rintro v48 a w ⟨m45, hm46, hS, hv47⟩ hE
 refine qa hE rfl rfl fun a hE => ?_
 refine knil (kseq (kseq ?_))
 obtain ⟨r50, hr51, h⟩ := ob h
 obtain ⟨x58, hx59, h⟩ := ob h
 refine kchain (k := 6) (m := m45) (es := [1]) (Φ := (fun i m ws v => match i with | 0 => v = v48 | 1 => v = (wi ws 0).v ∧ RV (kSl (kInt .u8)) m v r50 | 2 => v = v0 | 3 => v = (.pointer (some ⟨b20, 11, none⟩)) | 4 => v = (.int .i64 r5.1.fBytes) ∧ inR .i64 r5.1.fBytes | 5 => RV (kSl (kInt .u8)) m v x58 | _ => True)) (Q := (fun c m ws L' TL' => match c with | 0 => (b20, cs22) :: L = L' ∧ (1, v48) :: TL = TL' | 1 => (b20, cs22) :: L = L' ∧ (1, (wi ws 0).v) :: TL = TL' | _ => False)) (cs := [⟨0, 0, false, [(8, v48)]⟩, ⟨0, 0, true, []⟩, ⟨0, 1, false, [(0, v0)]⟩, ⟨0, 1, false, [(5, (.pointer (some ⟨b20, 0, none⟩)))]⟩, ⟨0, 1, false, []⟩, ⟨0, 1, false, []⟩]) mixed hE hS ⟨rfl, rfl⟩ rfl rfl ⟨⟨rfl, trivial⟩, trivial, ⟨rfl, trivial⟩, ⟨rfl, trivial⟩, trivial, trivial, trivial⟩ (by kernel_rfl) ?_ ?_ ?_ ?_
 {
 intro i m_ m2_ ws v hm_ hp_
 match i, hp_ with
 | 0, hp_ => exact hp_
 | 1, hp_ => exact ⟨hp_.1, RV.mono hp_.2 hm_⟩
 | 2, hp_ => exact hp_
 | 3, hp_ => exact hp_
 | 4, hp_ => exact hp_
 | 5, hp_ => exact RV.mono hp_ hm_
 | _ + 6, hp_ => exact trivial
 }
 {
 intro c m_ m2_ ws L_ T_ hm_ hq_
 match c, hq_ with
 | 0, ⟨e1_, e2_⟩ => exact ⟨e1_, e2_⟩
 | 1, ⟨e1_, e2_⟩ => exact ⟨e1_, e2_⟩
 | _ + 2, hq_ => exact hq_.elim
 }
 {
 refine ⟨?_, ?_, ?_, ?_, ?_, ?_, trivial⟩
 {
 refine cplain fun pre_ post_ L_ T_ m' a' w' hl' hp' hm' hq' hS' hE' hT' => ?_
 obtain rfl := len0 hl'
 refine Step.imp (Run1.pure (r_move hE' rfl)) ?_
 rintro _ _ ⟨rfl, rfl⟩
 exact ⟨_, M.le.refl _, hS', rfl⟩
 }
 {
 refine cturn fun pre_ L_ T_ m' a' w' hl' hm' hq' hS' hE' hT' => ?_
 obtain rfl := len0 hl'
 obtain ⟨rfl, rfl⟩ := hq'
 obtain ⟨v62, e63, q64⟩ : ∃ v, a'.tmps.getD 26 undef = v ∧ (v = v48) := ⟨_, rfl, hT' 0 (by decide) 26 rfl⟩
 have hE := hE'.add (e63.trans q64)
 refine Step.imp (st_call (vs := [v48]) hE rfl Tryz.call50 (c_block_sealed (hS := hS') (hv47.mono hm') hr51)) ?_
 rintro vv55 w ⟨m52, hm53, hS, hv54⟩
 exact ⟨_, ⟨0, vv55, [], [], []⟩, _, _, hm53, hS, ⟨rfl, rfl⟩, ⟨rfl, hv54⟩⟩
 }
 {
 refine cplain fun pre_ post_ L_ T_ m' a' w' hl' hp' hm' hq' hS' hE' hT' => ?_
 obtain rfl := len0 hl'
 refine Step.imp (Run1.pure (r_move hE' rfl)) ?_
 rintro _ _ ⟨rfl, rfl⟩
 exact ⟨_, M.le.refl _, hS', rfl⟩
 }
 {
 refine cplain fun pre_ post_ L_ T_ m' a' w' hl' hp' hm' hq' hS' hE' hT' => ?_
 obtain rfl := len0 hl'
 refine Step.imp (Run1.pure (r_fieldL hE' fo34_5 rfl)) ?_
 rintro _ _ ⟨rfl, rfl⟩
 exact ⟨_, M.le.refl _, hS', rfl⟩
 }
 {
 refine cplain fun pre_ post_ L_ T_ m' a' w' hl' hp' hm' hq' hS' hE' hT' => ?_
 obtain rfl := len0 hl'
 rcases lenle (a := 0) (n := 0) hp' with h0_ | h0_
 {
 obtain rfl := len0 h0_
 obtain ⟨rfl, rfl⟩ := hq'
 obtain ⟨v67, e68, q69⟩ : ∃ v, a'.tmps.getD 29 undef = v ∧ (v = (.pointer (some ⟨b20, 11, none⟩))) := ⟨_, rfl, hT' 3 (by decide) 29 rfl⟩
 have hE := hE'.add (e68.trans q69)
 refine Step.imp (st_loadL hE hS' ty3 rfl (i := 0) rfl (fl34_5.R_drop (R_whole (kBlock_Info.mono (M.le.trans hm46 hm') hc23)))) ?_
 rintro v70 _ ⟨rfl, hv56⟩
 obtain ⟨rfl, hr71⟩ := RV_int hv56
 exact ⟨_, M.le.refl _, hS', ⟨rfl, hr71⟩⟩
 }
 {
 obtain ⟨⟨_, vv55, _, _, _⟩, post_', rfl, hp1_⟩ := h0_
 obtain rfl := len0 (lenz (a := 0) hp1_)
 obtain ⟨rfl, rfl⟩ := hq'
 obtain ⟨v72, e73, q74⟩ : ∃ v, a'.tmps.getD 29 undef = v ∧ (v = (.pointer (some ⟨b20, 11, none⟩))) := ⟨_, rfl, hT' 3 (by decide) 29 rfl⟩
 have hE := hE'.add (e73.trans q74)
 refine Step.imp (st_loadL hE hS' ty3 rfl (i := 0) rfl (fl34_5.R_drop (R_whole (kBlock_Info.mono (M.le.trans hm46 hm') hc23)))) ?_
 rintro v75 _ ⟨rfl, hv56⟩
 obtain ⟨rfl, hr76⟩ := RV_int hv56
 exact ⟨_, M.le.refl _, hS', ⟨rfl, hr76⟩⟩
 }
 }
 {
 refine cplain fun pre_ post_ L_ T_ m' a' w' hl' hp' hm' hq' hS' hE' hT' => ?_
 obtain rfl := len0 hl'
 obtain ⟨v77, e78, q79⟩ : ∃ v, a'.tmps.getD 28 undef = v ∧ (v = v0) := ⟨_, rfl, hT' 2 (by decide) 28 rfl⟩
 have hE := hE'.add (e78.trans q79)
 obtain ⟨v80, e81, q82⟩ : ∃ v, a'.tmps.getD 30 undef = v ∧ (v = (.int .i64 r5.1.fBytes) ∧ inR .i64 r5.1.fBytes) := ⟨_, rfl, hT' 4 (by decide) 30 rfl⟩
 obtain ⟨q82, hr83⟩ := q82
 have hE := hE.add (e81.trans q82)
 refine Step.imp (st_slice (k := (kInt .u8)) hE rfl Tryz.underlying24 Tryz.sizeOf5 (ha0.mono (M.le.trans hm8 (M.le.trans hm46 hm'))) rfl ⟨_, rfl⟩ hx59 (xl := none) (xh := (some (.tmp 30)))) ?_
 rintro v84 _ ⟨rfl, hv60⟩
 exact ⟨_, M.le.refl _, hS', hv60⟩
 }
 }
 {
 intro ws_ L_ T_ m85 a w hl86 hm87 hq88 hS hd89 hn90 ho91 hT92
 obtain ⟨⟨_, vv55, _, _, _⟩, rfl⟩ := len1 hl86
 obtain ⟨rfl, rfl⟩ := hq88
 have hE := EnvD.of (k := 6) (l' := [(0, v0), (2, (.slice none 0 0)), (3, (.int .i64 0)), (4, (.int .i64 0)), (5, (.pointer (some ⟨b20, 0, none⟩))), (6, v1_10), (7, (.bool r5.2.2)), (8, v48), (12, (.tuple #[v0_9, v1_10, (.bool r5.2.2)])), (13, v0), (14, (.tuple #[v0_9, v1_10, (.bool r5.2.2)])), (15, v0_9), (16, v1_10), (17, (.bool r5.2.2)), (18, (.bool r5.2.2)), (19, (.bool (!r5.2.2))), (20, v0), (21, (.pointer (some ⟨b20, 11, none⟩))), (22, (.int .i64 r5.1.fBytes)), (23, (.int .i64 (IntKind.i64.wrap (r5.1.fBytes - 4)))), (24, v42), (25, v48)]) hd89 hn90 ho91 ⟨rfl, rfl, rfl, rfl, rfl, rfl, rfl, rfl, rfl, rfl, rfl, rfl, rfl, rfl, rfl, rfl, rfl, rfl, rfl, rfl, rfl, rfl, trivial⟩ rfl
 obtain ⟨v93, e94, q95⟩ : ∃ v, a.tmps.getD 27 undef = v ∧ (v = vv55 ∧ RV (kSl (kInt .u8)) m85 v r50) := ⟨_, rfl, hT92 1 (by decide) 27 rfl⟩
 obtain ⟨q96, q95⟩ := q95
 rw [q96] at q95
 have hE := hE.add (e94.trans q96)
 obtain ⟨v97, e98, q99⟩ : ∃ v, a.tmps.getD 31 undef = v ∧ (RV (kSl (kInt .u8)) m85 v x58) := ⟨_, rfl, hT92 5 (by decide) 31 rfl⟩
 have hE := hE.add (e98)
 obtain ⟨r100, hr101, h⟩ := ob h
 refine st hE (st_call (vs := [vv55, v97]) hE rfl Tryz.call61 (c_slices_Equal_byte (hS := hS) q95 q99 hr101)) rfl ?_
 rintro v105 a w ⟨m102, hm103, hS, hv104⟩ hE
 obtain rfl := RV_bool hv104
 refine sp hE (r_not hE rfl) rfl fun a hE => ?_
 refine knil ?_
 refine kif hE rfl (fun hd107 => ?_) (fun hd107 => ?_)
 {
 have h := ite_T hd107 h
 refine kseq (kreg ?_)
 refine qa hE rfl rfl fun a hE => ?_
 refine qa hE rfl rfl fun a hE => ?_
 refine qa hE rfl rfl fun a hE => ?_
 refine knil (kret ?_)
 obtain rfl := oi h
 try dsimp only
 refine Fin.mk hE (rs := [.tmp 2, .tmp 3, .tmp 4]) rfl (ResL.tmp hE rfl (ResL.tmp hE rfl (ResL.tmp hE rfl ResL.nil))) ?_
 exact ⟨_, (M.le.trans hm8 (M.le.trans hm46 (M.le.trans hm87 hm103))), ((hS.dropL 1).dropT 1), _, _, _, rfl, RV_nil, (RV_of_int (show inR .i64 0 from inR_lit (by decide))), (RV_of_int (show inR .i64 71 from inR_lit (by decide)))⟩
 }
 {
 have h := ite_F hd107 h
 refine kskip (kseq (kreg ?_))
 refine sp hE (r_fieldL hE fo34_0 rfl) rfl fun a hE => ?_
 refine st hE (st_loadL hE hS ty3 rfl (i := 0) rfl (fl34_0.R_drop (R_whole (kBlock_Info.mono (M.le.trans hm46 (M.le.trans hm87 hm103)) hc23)))) rfl ?_
 rintro v113 a _ ⟨rfl, hv112⟩ hE
 obtain ⟨rfl, hr114⟩ := RV_int hv112
 refine qm hE rfl rfl fun a hE => ?_
 refine sp hE (r_fieldL hE fo34_1 rfl) rfl fun a hE => ?_
 refine st hE (st_loadL hE hS ty3 rfl (i := 0) rfl (fl34_1.R_drop (R_whole (kBlock_Info.mono (M.le.trans hm46 (M.le.trans hm87 hm103)) hc23)))) rfl ?_
 rintro v118 a _ ⟨rfl, hv117⟩ hE
 obtain ⟨rfl, hr119⟩ := RV_int hv117
 obtain ⟨r120, hr121, h⟩ := ob h
 refine st hE (st_call (vs := [(.int .i64 r5.1.fKind), v1_10, (.int .i64 r5.1.fMany)]) hE rfl Tryz.call62 (c_encode_Decode (hS := hS) hr114 (hv1_13.mono (M.le.trans hm46 (M.le.trans hm87 hm103))) hr119 hr121)) rfl ?_
 rintro _ a w ⟨m122, hm123, hS, v0_124, v1_125, rfl, hv0_126, hv1_127⟩ hE
 obtain ⟨rfl, hr129⟩ := RV_int hv1_127
 refine qm hE rfl rfl fun a hE => ?_
 refine sp hE (r_extract hE rfl rfl) rfl fun a hE => ?_
 refine sp hE (r_extract hE rfl rfl) rfl fun a hE => ?_
 refine qa hE rfl rfl fun a hE => ?_
 refine qa hE rfl rfl fun a hE => ?_
 refine knil (kseq (kseq (kreg ?_)))
 refine qm hE rfl rfl fun a hE => ?_
 refine sp hE (r_bin hE rfl rfl b_neq) rfl fun a hE => ?_
 refine knil ?_
 refine kif hE rfl (fun hd137 => ?_) (fun hd137 => ?_)
 {
 have h := ite_T hd137 h
 refine kseq (kreg ?_)
 refine qa hE rfl rfl fun a hE => ?_
 refine qa hE rfl rfl fun a hE => ?_
 refine qa hE rfl rfl fun a hE => ?_
 refine knil (kret ?_)
 obtain rfl := oi h
 try dsimp only
 refine Fin.mk hE (rs := [.tmp 2, .tmp 3, .tmp 4]) rfl (ResL.tmp hE rfl (ResL.tmp hE rfl (ResL.tmp hE rfl ResL.nil))) ?_
 exact ⟨_, (M.le.trans hm8 (M.le.trans hm46 (M.le.trans hm87 (M.le.trans hm103 hm123)))), ((hS.dropL 1).dropT 1), _, _, _, rfl, RV_nil, (RV_of_int (show inR .i64 0 from inR_lit (by decide))), (RV_of_int (show inR .i64 70 from inR_lit (by decide)))⟩
 }
 {
 have h := ite_F hd137 h
 refine kskip (kseq (kreg ?_))
 refine sp hE (r_fieldL hE fo34_0 rfl) rfl fun a hE => ?_
 refine st hE (st_loadL hE hS ty3 rfl (i := 0) rfl (fl34_0.R_drop (R_whole (kBlock_Info.mono (M.le.trans hm46 (M.le.trans hm87 (M.le.trans hm103 hm123))) hc23)))) rfl ?_
 rintro v143 a _ ⟨rfl, hv142⟩ hE
 obtain ⟨rfl, hr144⟩ := RV_int hv142
 refine qm hE rfl rfl fun a hE => ?_
 obtain ⟨r146, hr147, h⟩ := ob h
 refine st hE (st_call (vs := [(.int .i64 r5.1.fKind), v0_124]) hE rfl Tryz.call48 (c_block_head (hS := hS) hr144 hv0_126 hr147)) rfl ?_
 rintro v151 a w ⟨m148, hm149, hS, hv150⟩ hE
 refine st hE (st_alloc hS Tryz.zeroValue34 rfl (cs := zc34)) rfl ?_
 rintro _ a w ⟨b152, rfl, hS⟩ hE
 refine st0 hE (st_storeF hE hS ty34 StF_self rfl rfl hv150 (i := 0) rfl (zr34 _)) ?_
 rintro _ w ⟨cs154, hc155, hS⟩ hE
 refine knil (kseq (kseq ?_))
 refine kcut (fun a w => ∃ x159 : Bool, block_Read_j1 r5 r120 x159 = some r ∧ ∃ m', M.le m148 m' ∧ S W0 m' w ((b152, cs154) :: (b20, cs22) :: L) (TL) ∧ Env 71 a [(5, (.pointer (some ⟨b20, 0, none⟩))), (9, v0_124), (67, (.bool x159))]) ?_ ?_
 {
 refine kreg ?_
 refine sp hE (r_fieldL hE fo34_4 rfl) rfl fun a hE => ?_
 refine st hE (st_loadL hE hS ty3 rfl (i := 0) rfl (fl34_4.R_drop (R_whole hc155))) rfl ?_
 rintro v197 a _ ⟨rfl, hv196⟩ hE
 obtain ⟨rfl, hr198⟩ := RV_int hv196
 refine sp hE (r_fieldL hE fo34_4 rfl) rfl fun a hE => ?_
 refine st hE (st_loadL hE hS ty3 rfl (i := 1) rfl (fl34_4.R_drop (R_whole (kBlock_Info.mono (M.le.trans hm46 (M.le.trans hm87 (M.le.trans hm103 (M.le.trans hm123 hm149)))) hc23)))) rfl ?_
 rintro v201 a _ ⟨rfl, hv200⟩ hE
 obtain ⟨rfl, hr202⟩ := RV_int hv200
 refine sp hE (r_bin hE rfl rfl b_neq) rfl fun a hE => ?_
 refine qm hE rfl rfl fun a hE => ?_
 rcases Bool.eq_false_or_eq_true (r146.fNulls != r5.1.fNulls) with hd205 | hd205
 {
 have h := ite_T hd205 h
 refine sx hE rfl rfl rfl rfl hd205 rfl fun a hE => ?_
 refine sx hE rfl rfl rfl rfl hd205 rfl fun a hE => ?_
 refine sx hE rfl rfl rfl rfl hd205 rfl fun a hE => ?_
 refine sx hE rfl rfl rfl rfl hd205 rfl fun a hE => ?_
 refine sx hE rfl rfl rfl rfl hd205 rfl fun a hE => ?_
 refine sp hE (r_pickT hE rfl hd205 rfl) rfl fun a hE => ?_
 refine qm hE rfl rfl fun a hE => ?_
 refine sx hE rfl rfl rfl rfl rfl rfl fun a hE => ?_
 refine sx hE rfl rfl rfl rfl rfl rfl fun a hE => ?_
 refine sx hE rfl rfl rfl rfl rfl rfl fun a hE => ?_
 refine sx hE rfl rfl rfl rfl rfl rfl fun a hE => ?_
 refine sx hE rfl rfl rfl rfl rfl rfl fun a hE => ?_
 refine sp hE (r_pickT hE rfl rfl rfl) rfl fun a hE => ?_
 refine knil ?_
 exact ⟨true, h, _, (M.le.refl _), (hS.pickT 1 [] rfl rfl rfl), hE.cut ⟨rfl, rfl, rfl, trivial⟩⟩
 }
 {
 have h := ite_F hd205 h
 refine spg hE rfl rfl rfl rfl hd205 (r_fieldL hE fo34_2 rfl) rfl fun a hE => ?_
 refine stg hE rfl rfl rfl rfl hd205 (st_loadL hE hS ty32 rfl (i := 0) rfl (fl34_2.R_drop (R_whole hc155))) rfl ?_
 rintro v211 a _ ⟨rfl, hv210⟩ hE
 refine spg hE rfl rfl rfl rfl hd205 (r_fieldL hE fo34_2 rfl) rfl fun a hE => ?_
 refine stg hE rfl rfl rfl rfl hd205 (st_loadL hE hS ty32 rfl (i := 1) rfl (fl34_2.R_drop (R_whole (kBlock_Info.mono (M.le.trans hm46 (M.le.trans hm87 (M.le.trans hm103 (M.le.trans hm123 hm149)))) hc23)))) rfl ?_
 rintro v214 a _ ⟨rfl, hv213⟩ hE
 refine spg hE rfl rfl rfl rfl hd205 (r_neqK hE eq32 rfl rfl hv210 hv213 rfl) rfl fun a hE => ?_
 refine sp hE (r_pickF hE rfl hd205 rfl) rfl fun a hE => ?_
 refine qm hE rfl rfl fun a hE => ?_
 rcases Bool.eq_false_or_eq_true (!decide (r146.fMin = r5.1.fMin)) with hd218 | hd218
 {
 have h := ite_T hd218 h
 refine sx hE rfl rfl rfl rfl hd218 rfl fun a hE => ?_
 refine sx hE rfl rfl rfl rfl hd218 rfl fun a hE => ?_
 refine sx hE rfl rfl rfl rfl hd218 rfl fun a hE => ?_
 refine sx hE rfl rfl rfl rfl hd218 rfl fun a hE => ?_
 refine sx hE rfl rfl rfl rfl hd218 rfl fun a hE => ?_
 refine sp hE (r_pickT hE rfl hd218 rfl) rfl fun a hE => ?_
 refine knil ?_
 exact ⟨true, h, _, (M.le.refl _), (hS.pickT 1 [] rfl rfl rfl), hE.cut ⟨rfl, rfl, rfl, trivial⟩⟩
 }
 {
 have h := ite_F hd218 h
 refine spg hE rfl rfl rfl rfl hd218 (r_fieldL hE fo34_3 rfl) rfl fun a hE => ?_
 refine stg hE rfl rfl rfl rfl hd218 (st_loadL hE hS ty32 rfl (i := 0) rfl (fl34_3.R_drop (R_whole hc155))) rfl ?_
 rintro v222 a _ ⟨rfl, hv221⟩ hE
 refine spg hE rfl rfl rfl rfl hd218 (r_fieldL hE fo34_3 rfl) rfl fun a hE => ?_
 refine stg hE rfl rfl rfl rfl hd218 (st_loadL hE hS ty32 rfl (i := 1) rfl (fl34_3.R_drop (R_whole (kBlock_Info.mono (M.le.trans hm46 (M.le.trans hm87 (M.le.trans hm103 (M.le.trans hm123 hm149)))) hc23)))) rfl ?_
 rintro v225 a _ ⟨rfl, hv224⟩ hE
 refine spg hE rfl rfl rfl rfl hd218 (r_neqK hE eq32 rfl rfl hv221 hv224 rfl) rfl fun a hE => ?_
 refine sp hE (r_pickF hE rfl hd218 rfl) rfl fun a hE => ?_
 refine knil ?_
 exact ⟨(!decide (r146.fMax = r5.1.fMax)), h, _, (M.le.refl _), (hS.pickT 1 [] rfl rfl rfl), hE.cut ⟨rfl, rfl, rfl, trivial⟩⟩
 }
 }
 }
 {
 rintro a w ⟨x159, h, m157, hm158, hS, hE⟩
 unfold block_Read_j1 at h
 refine kif hE rfl (fun hd161 => ?_) (fun hd161 => ?_)
 {
 have h := ite_T hd161 h
 refine kseq (kreg ?_)
 refine qa hE rfl rfl fun a hE => ?_
 refine qa hE rfl rfl fun a hE => ?_
 refine qa hE rfl rfl fun a hE => ?_
 refine knil (kret ?_)
 obtain rfl := oi h
 try dsimp only
 refine Fin.mk hE (rs := [.tmp 2, .tmp 3, .tmp 4]) rfl (ResL.tmp hE rfl (ResL.tmp hE rfl (ResL.tmp hE rfl ResL.nil))) ?_
 exact ⟨_, (M.le.trans hm8 (M.le.trans hm46 (M.le.trans hm87 (M.le.trans hm103 (M.le.trans hm123 (M.le.trans hm149 hm158)))))), (hS.dropL 2), _, _, _, rfl, RV_nil, (RV_of_int (show inR .i64 0 from inR_lit (by decide))), (RV_of_int (show inR .i64 70 from inR_lit (by decide)))⟩
 }
 {
 have h := ite_F hd161 h
 refine kskip (kseq ?_)
 refine kchain (k := 4) (m := m157) (es := []) (Φ := (fun i m ws v => match i with | 0 => v = v0_124 | 1 => v = (.pointer (some ⟨b20, 11, none⟩)) | 2 => v = (.int .i64 r5.1.fBytes) ∧ inR .i64 r5.1.fBytes | 3 => v = v0_124 | _ => True)) (Q := (fun c m ws L' TL' => match c with | 0 => (b152, cs154) :: (b20, cs22) :: L = L' ∧ TL = TL' | _ => False)) (cs := [⟨0, 0, false, [(9, v0_124)]⟩, ⟨0, 0, false, [(5, (.pointer (some ⟨b20, 0, none⟩)))]⟩, ⟨0, 0, false, []⟩, ⟨0, 0, false, []⟩]) mixed hE hS ⟨rfl, rfl⟩ rfl rfl ⟨⟨rfl, trivial⟩, ⟨rfl, trivial⟩, trivial, trivial, trivial⟩ (by kernel_rfl) ?_ ?_ ?_ ?_
 {
 intro i m_ m2_ ws v hm_ hp_
 match i, hp_ with
 | 0, hp_ => exact hp_
 | 1, hp_ => exact hp_
 | 2, hp_ => exact hp_
 | 3, hp_ => exact hp_
 | _ + 4, hp_ => exact trivial
 }
 {
 intro c m_ m2_ ws L_ T_ hm_ hq_
 match c, hq_ with
 | 0, ⟨e1_, e2_⟩ => exact ⟨e1_, e2_⟩
 | _ + 1, hq_ => exact hq_.elim
 }
 {
 refine ⟨?_, ?_, ?_, ?_, trivial⟩
 {
 refine cplain fun pre_ post_ L_ T_ m' a' w' hl' hp' hm' hq' hS' hE' hT' => ?_
 obtain rfl := len0 hl'
 refine Step.imp (Run1.pure (r_move hE' rfl)) ?_
 rintro _ _ ⟨rfl, rfl⟩
 exact ⟨_, M.le.refl _, hS', rfl⟩
 }
 {
 refine cplain fun pre_ post_ L_ T_ m' a' w' hl' hp' hm' hq' hS' hE' hT' => ?_
 obtain rfl := len0 hl'
 refine Step.imp (Run1.pure (r_fieldL hE' fo34_5 rfl)) ?_
 rintro _ _ ⟨rfl, rfl⟩
 exact ⟨_, M.le.refl _, hS', rfl⟩
 }
 {
 refine cplain fun pre_ post_ L_ T_ m' a' w' hl' hp' hm' hq' hS' hE' hT' => ?_
 obtain rfl := len0 hl'
 obtain rfl := len0 (lenz (a := 0) hp')
 obtain ⟨rfl, rfl⟩ := hq'
 obtain ⟨v169, e170, q171⟩ : ∃ v, a'.tmps.getD 69 undef = v ∧ (v = (.pointer (some ⟨b20, 11, none⟩))) := ⟨_, rfl, hT' 1 (by decide) 69 rfl⟩
 have hE := hE'.add (e170.trans q171)
 refine Step.imp (st_loadL hE hS' ty3 rfl (i := 1) rfl (fl34_5.R_drop (R_whole (kBlock_Info.mono (M.le.trans hm46 (M.le.trans hm87 (M.le.trans hm103 (M.le.trans hm123 (M.le.trans hm149 (M.le.trans hm158 hm')))))) hc23)))) ?_
 rintro v172 _ ⟨rfl, hv165⟩
 obtain ⟨rfl, hr173⟩ := RV_int hv165
 exact ⟨_, M.le.refl _, hS', ⟨rfl, hr173⟩⟩
 }
 {
 refine cplain fun pre_ post_ L_ T_ m' a' w' hl' hp' hm' hq' hS' hE' hT' => ?_
 obtain rfl := len0 hl'
 obtain ⟨v174, e175, q176⟩ : ∃ v, a'.tmps.getD 68 undef = v ∧ (v = v0_124) := ⟨_, rfl, hT' 0 (by decide) 68 rfl⟩
 have hE := hE'.add (e175.trans q176)
 refine Step.imp (Run1.pure (r_assign hE rfl)) ?_
 rintro _ _ ⟨rfl, rfl⟩
 exact ⟨_, M.le.refl _, hS', rfl⟩
 }
 }
 {
 intro ws_ L_ T_ m178 a w hl179 hm180 hq181 hS hd182 hn183 ho184 hT185
 obtain rfl := len0 hl179
 obtain ⟨rfl, rfl⟩ := hq181
 have hE := EnvD.of (k := 4) (l' := [(5, (.pointer (some ⟨b20, 0, none⟩))), (9, v0_124), (67, (.bool x159))]) hd182 hn183 ho184 ⟨rfl, rfl, rfl, trivial⟩ rfl
 obtain ⟨v186, e187, q188⟩ : ∃ v, a.tmps.getD 70 undef = v ∧ (v = (.int .i64 r5.1.fBytes) ∧ inR .i64 r5.1.fBytes) := ⟨_, rfl, hT185 2 (by decide) 70 rfl⟩
 obtain ⟨q188, hr189⟩ := q188
 have hE := hE.add (e187.trans q188)
 obtain ⟨v190, e191, q192⟩ : ∃ v, a.tmps.getD 2 undef = v ∧ (v = v0_124) := ⟨_, rfl, hT185 3 (by decide) 2 rfl⟩
 have hE := hE.add (e191.trans q192)
 refine qa hE rfl rfl fun a hE => ?_
 refine qa hE rfl rfl fun a hE => ?_
 refine knil (kret ?_)
 obtain rfl := oi h
 try dsimp only
 refine Fin.mk hE (rs := [.tmp 2, .tmp 3, .tmp 4]) rfl (ResL.tmp hE rfl (ResL.tmp hE rfl (ResL.tmp hE rfl ResL.nil))) ?_
 exact ⟨_, (M.le.trans hm8 (M.le.trans hm46 (M.le.trans hm87 (M.le.trans hm103 (M.le.trans hm123 (M.le.trans hm149 (M.le.trans hm158 hm180))))))), (hS.dropL 2), _, _, _, rfl, (hv0_126.mono (M.le.trans hm149 (M.le.trans hm158 hm180))), (RV_of_int hr189), (RV_of_int (show inR .i64 0 from inR_lit (by decide)))⟩
 }
 }
 }
 }
 }
 }
 }
theorem ct_21 : Ctr Sz Tryz.prog 21 [.rd (.sl (.int .u8))] [.rd (.sl (.st 32)), .rd (.int .i64), .rd (.int .i64)] (fun x => block_Read x.1) := by
 intro W0 m w L TL vs x r Lp Tp hS hP h
 obtain ⟨v0, vs, rfl, a0, hP0⟩ := PR_rd hP
 obtain ⟨rfl, rfl, rfl⟩ := PR_nil hP0
 refine (c_block_Read (hS := hS) a0 h).mono ?_
 intro e w' he
 cases e with
 | returned v =>
  obtain ⟨m', hm, hS', u0, u1, u2, rfl, r0, r1, r2⟩ := he
  exact ⟨m', [u0, u1, u2], [], [], [], hm, hS', rfl, ⟨r0, ⟨r1, ⟨r2, trivial⟩⟩⟩, trivial⟩
 | panicked ch => exact he.elim
 | outgrown => exact he.elim
noncomputable def cs_21 : CS Tryz.prog Sz := ⟨21, _, _, _, ct_21, Tryz.call21⟩
theorem ct_17 : Ctr Sz Tryz.prog 17 [] [.rd .bool] (fun x => hayloftlaw07_alive ) :=
 Ctr.nc (Γ := Γ) (D := [cs_15, cs_19, cs_21]) (c := Tryz.f17.body.getD .skip) (res := [0]) .o rfl mixed Tryz.func17 rfl Tryz.ntmps17 rfl rfl (fun x => by kernel_rfl)
noncomputable def cs_17 : CS Tryz.prog Sz := ⟨17, _, _, _, ct_17, Tryz.call17⟩
theorem ct_18 : Ctr Sz Tryz.prog 18 [.rd (.sl (.st 32)), .rd (.sl (.st 32))] [.rd .bool] (fun x => hayloftref02_SameRow x.1 x.2.1) :=
 Ctr.nc (Γ := Γ) (D := []) (c := Tryz.f18.body.getD .skip) (res := [4]) (.s .o (.s .o (.s (.s .o (.b (.l ⟨[.v 5 1 (.dat (.int .i64) none)], [0, 1], 0, []⟩ .o))) .o))) rfl mixed Tryz.func18 rfl Tryz.ntmps18 rfl rfl (fun x => by kernel_rfl)
noncomputable def cs_18 : CS Tryz.prog Sz := ⟨18, _, _, _, ct_18, Tryz.call18⟩
theorem ct_59 : Ctr Sz Tryz.prog 59 [.rd (.sl (.int .u8))] [.rd (.int .u64)] (fun x => hayloftref03_Said x.1) :=
 Ctr.nc (Γ := Γ) (D := []) (c := Tryz.f59.body.getD .skip) (res := [2]) (.s .o (.s .o (.s (.s .o (.b (.l ⟨[.v 3 1 (.dat (.int .u64) none), .v 4 1 (.dat (.int .i64) none)], [0], 0, []⟩ .o))) .o))) rfl mixed Tryz.func59 rfl Tryz.ntmps59 rfl rfl (fun x => by kernel_rfl)
noncomputable def cs_59 : CS Tryz.prog Sz := ⟨59, _, _, _, ct_59, Tryz.call59⟩
theorem c_hayloftref03_Said {W0 : Bse} {m : M} {w : World} {L : List (Nat × List Value)} {TL : List (Nat × Value)} (hS : S W0 m w (L) (TL)) {v0 : Value} {p0 : (List Int)} (ha0 : RV (kSl (kInt .u8)) m v0 p0) {r : Int} (h : hayloftref03_Said p0 = some r) :
    Calls Tryz.prog 59 [v0].toArray w (Ret fun v w' => ∃ m', M.le m m' ∧ S W0 m' w' (L) (TL) ∧ RV (kInt .u64) m' v r) := by
 refine (ct_59 W0 m w L TL [v0] (p0, ()) r [] [] hS ⟨ha0, trivial⟩ h).mono ?_
 intro e w' he
 cases e with
 | returned v =>
  obtain ⟨m', us, Lr, Lq, Tr, hm, hS', rfl, hR, hO⟩ := he
  obtain ⟨u0, us, rfl, r0, hR0⟩ := RR_rd hR
  obtain ⟨rfl, rfl, rfl⟩ := RR_nil hR0
  have hO0 := OR_rd hO
  obtain rfl := OR_nil hO0
  exact ⟨m', hm, hS', r0⟩
 | panicked ch => exact he.elim
 | outgrown => exact he.elim
theorem ct_58 : Ctr Sz Tryz.prog 58 [.rd (.sl (.int .u8))] [.rd (.st 32), .rd (.int .i64)] (fun x => hayloftref03_Front x.1) :=
 Ctr.nX (Γ := Γ) (D := [cs_59]) (c := Tryz.f58.body.getD .skip) (res := [.cell 2 32, .tmp 3]) .o rfl mixed Tryz.func58 rfl Tryz.ntmps58 rfl rfl (fun x => by kernel_rfl)
noncomputable def cs_58 : CS Tryz.prog Sz := ⟨58, _, _, _, ct_58, Tryz.call58⟩
theorem ct_20 : Ctr Sz Tryz.prog 20 [.rd (.sl (.int .u8))] [.rd (.st 37), .rd (.int .i64), .rd (.int .i64)] (fun x => hayloftref07_Head x.1) :=
 Ctr.nX (Γ := Γ) (D := [cs_58, cs_59]) (c := Tryz.f20.body.getD .skip) (res := [.cell 2 37, .tmp 3, .tmp 4]) .o rfl mixed Tryz.func20 rfl Tryz.ntmps20 rfl rfl (fun x => by kernel_rfl)
noncomputable def cs_20 : CS Tryz.prog Sz := ⟨20, _, _, _, ct_20, Tryz.call20⟩
theorem ct_121 : Ctr Sz Tryz.prog 121 [.rd (.sl (.int .u8)), .rd (.int .i64)] [.ap (.st 32)] (fun x => hayloftref06_plain x.1 x.2.1) :=
 Ctr.nc (Γ := Γ) (D := [cs_58]) (c := Tryz.f121.body.getD .skip) (res := [4]) (.s .o (.s .o (.s .o (.s (.s .o (.b (.l ⟨[.v 5 1 (.dat (.sl (.st 32)) (some 0)), .v 6 1 (.dat (.int .i64) none), .v 7 1 (.dat (.int .i64) none)], [0, 1], 0, [4]⟩ .o))) .o)))) rfl mixed Tryz.func121 rfl Tryz.ntmps121 rfl rfl (fun x => by kernel_rfl)
noncomputable def cs_121 : CS Tryz.prog Sz := ⟨121, _, _, _, ct_121, Tryz.call121⟩
theorem ct_122 : Ctr Sz Tryz.prog 122 [.rd (.sl (.int .u8)), .rd (.int .i64)] [.ap (.st 32)] (fun x => hayloftref06_runs x.1 x.2.1) :=
 Ctr.nc (Γ := Γ) (D := [cs_58]) (c := Tryz.f122.body.getD .skip) (res := [4]) (.s .o (.s .o (.s .o (.s (.b (.l ⟨[.v 5 1 (.dat (.sl (.st 32)) (some 0)), .v 6 1 (.dat (.int .i64) none)], [0, 1], 0, [4]⟩ (.s .o (.b (.s .o (.s .o (.s (.s .o (.b (.l ⟨[.v 5 2 (.dat (.sl (.st 32)) (some 0)), .v 9 2 (.dat (.int .i64) none)], [0, 1, 6, 7, 8], 1, [4]⟩ .o))) .o))))))) .o)))) rfl mixed Tryz.func122 rfl Tryz.ntmps122 rfl rfl (fun x => by kernel_rfl)
noncomputable def cs_122 : CS Tryz.prog Sz := ⟨122, _, _, _, ct_122, Tryz.call122⟩
theorem ct_123 : Ctr Sz Tryz.prog 123 [.rd (.sl (.int .u8)), .rd (.int .i64)] [.ap (.st 32)] (fun x => hayloftref06_deltas x.1 x.2.1) :=
 Ctr.nc (Γ := Γ) (D := [cs_59]) (c := Tryz.f123.body.getD .skip) (res := [4]) (.s .o (.s .o (.s .o (.s .o (.s .o (.s .o (.s (.s .o (.b (.l ⟨[.v 5 1 (.dat (.int .i64) none), .v 6 1 (.dat (.sl (.st 32)) (some 0)), .v 7 1 (.dat (.int .u64) none), .v 8 1 (.dat (.int .i64) none), .v 9 1 (.dat (.int .i64) none)], [0, 1], 0, [4]⟩ .o))) .o))))))) rfl mixed Tryz.func123 rfl Tryz.ntmps123 rfl rfl (fun x => by kernel_rfl)
noncomputable def cs_123 : CS Tryz.prog Sz := ⟨123, _, _, _, ct_123, Tryz.call123⟩
theorem ct_170 : Ctr Sz Tryz.prog 170 [.rd (.sl (.int .u8)), .rd (.int .i64), .rd (.int .i64)] [.rd (.int .u64)] (fun x => hayloftref06_unpacked x.1 x.2.1 x.2.2.1) :=
 Ctr.nc (Γ := Γ) (D := []) (c := Tryz.f170.body.getD .skip) (res := [6]) (.s .o (.s .o (.s (.s .o (.b (.l ⟨[.v 7 1 (.dat (.int .u64) none), .v 8 1 (.dat (.int .i64) none)], [0, 1, 2], 0, []⟩ .o))) .o))) rfl mixed Tryz.func170 rfl Tryz.ntmps170 rfl rfl (fun x => by kernel_rfl)
noncomputable def cs_170 : CS Tryz.prog Sz := ⟨170, _, _, _, ct_170, Tryz.call170⟩
theorem c_hayloftref06_unpacked {W0 : Bse} {m : M} {w : World} {L : List (Nat × List Value)} {TL : List (Nat × Value)} (hS : S W0 m w (L) (TL)) {v0 : Value} {p0 : (List Int)} (ha0 : RV (kSl (kInt .u8)) m v0 p0) {p1 : Int} (ha1 : inR .i64 p1) {p2 : Int} (ha2 : inR .i64 p2) {r : Int} (h : hayloftref06_unpacked p0 p1 p2 = some r) :
    Calls Tryz.prog 170 [v0, (.int .i64 p1), (.int .i64 p2)].toArray w (Ret fun v w' => ∃ m', M.le m m' ∧ S W0 m' w' (L) (TL) ∧ RV (kInt .u64) m' v r) := by
 refine (ct_170 W0 m w L TL [v0, (.int .i64 p1), (.int .i64 p2)] (p0, p1, p2, ()) r [] [] hS ⟨ha0, ⟨RV_of_int ha1, ⟨RV_of_int ha2, trivial⟩⟩⟩ h).mono ?_
 intro e w' he
 cases e with
 | returned v =>
  obtain ⟨m', us, Lr, Lq, Tr, hm, hS', rfl, hR, hO⟩ := he
  obtain ⟨u0, us, rfl, r0, hR0⟩ := RR_rd hR
  obtain ⟨rfl, rfl, rfl⟩ := RR_nil hR0
  have hO0 := OR_rd hO
  have hO1 := OR_rd hO0
  have hO2 := OR_rd hO1
  obtain rfl := OR_nil hO2
  exact ⟨m', hm, hS', r0⟩
 | panicked ch => exact he.elim
 | outgrown => exact he.elim
theorem ct_124 : Ctr Sz Tryz.prog 124 [.rd (.sl (.int .u8)), .rd (.int .i64)] [.ap (.st 32)] (fun x => hayloftref06_dicts x.1 x.2.1) :=
 Ctr.nc (Γ := Γ) (D := [cs_58, cs_162, cs_170]) (c := Tryz.f124.body.getD .skip) (res := [4]) (.s .o (.s .o (.s .o (.s .o (.s (.s .o (.b (.l ⟨[.v 5 1 (.dat (.sl (.st 32)) (some 0)), .v 6 1 (.dat (.int .i64) none), .v 7 1 (.dat (.int .i64) none)], [0, 1], 0, [4]⟩ .o))) (.s .o (.s .o (.s .o (.s .o (.s (.s .o (.b (.l ⟨[.v 11 1 (.dat (.sl (.st 32)) (some 1)), .v 12 1 (.dat (.int .i64) none)], [0, 1, 5, 6, 10], 0, [4, 4]⟩ .o))) .o)))))))))) rfl mixed Tryz.func124 rfl Tryz.ntmps124 rfl rfl (fun x => by kernel_rfl)
noncomputable def cs_124 : CS Tryz.prog Sz := ⟨124, _, _, _, ct_124, Tryz.call124⟩
theorem c_hayloftref06_smalls {W0 : Bse} {m : M} {w : World} {L : List (Nat × List Value)} {TL : List (Nat × Value)} (hS : S W0 m w (L) (TL)) {v0 : Value} {p0 : (List Int)} (ha0 : RV (kSl (kInt .u8)) m v0 p0) {p1 : Int} (ha1 : inR .i64 p1) {r : (List Ap)} (h : hayloftref06_smalls p0 p1 = some r) :
    Calls Tryz.prog 125 [v0, (.int .i64 p1)].toArray w (Ret fun v w' => ∃ m', M.le m m' ∧ S W0 m' w' (L) ((4, v) :: TL) ∧ RV (kSl kAp) m' v r) := by
 refine kcall Tryz.func125 rfl Tryz.ntmps125 (Nat.le_of_ble_eq_true rfl) fun a hE => ?_
 have hE : Env 55 a [(0, v0), (1, (.int .i64 p1))] := hE
 unfold hayloftref06_smalls at h
 refine kseq (kreg ?_)
 refine qa hE rfl rfl fun a hE => ?_
 refine knil (kseq (kseq ?_))
 refine kcut (fun a w => ∃ x4 : Bool, hayloftref06_smalls_j1 p0 p1 x4 = some r ∧ ∃ m', M.le m m' ∧ S W0 m' w (L) (TL) ∧ Env 55 a [(0, v0), (1, (.int .i64 p1)), (30, (.bool x4))]) ?_ ?_
 {
 refine kreg ?_
 refine qm hE rfl rfl fun a hE => ?_
 refine sp hE (r_lenSl (k := (kInt .u8)) hE rfl rfl Tryz.underlying24 ha0) rfl fun a hE => ?_
 refine sp hE (r_bin hE rfl rfl b_lss) rfl fun a hE => ?_
 refine qm hE rfl rfl fun a hE => ?_
 rcases Bool.eq_false_or_eq_true (decide ((p0.length : Int) < 9)) with hd149 | hd149
 {
 have h := ite_T hd149 h
 refine sx hE rfl rfl rfl rfl hd149 rfl fun a hE => ?_
 refine sx hE rfl rfl rfl rfl hd149 rfl fun a hE => ?_
 refine sx hE rfl rfl rfl rfl hd149 rfl fun a hE => ?_
 refine sx hE rfl rfl rfl rfl hd149 rfl fun a hE => ?_
 refine sp hE (r_pickT hE rfl hd149 rfl) rfl fun a hE => ?_
 refine qm hE rfl rfl fun a hE => ?_
 refine sx hE rfl rfl rfl rfl rfl rfl fun a hE => ?_
 refine sx hE rfl rfl rfl rfl rfl rfl fun a hE => ?_
 refine sx hE rfl rfl rfl rfl rfl rfl fun a hE => ?_
 refine sx hE rfl rfl rfl rfl rfl rfl fun a hE => ?_
 refine sx hE rfl rfl rfl rfl rfl rfl fun a hE => ?_
 refine sx hE rfl rfl rfl rfl rfl rfl fun a hE => ?_
 refine sx hE rfl rfl rfl rfl rfl rfl fun a hE => ?_
 refine sx hE rfl rfl rfl rfl rfl rfl fun a hE => ?_
 refine sx hE rfl rfl rfl rfl rfl rfl fun a hE => ?_
 refine sx hE rfl rfl rfl rfl rfl rfl fun a hE => ?_
 refine sx hE rfl rfl rfl rfl rfl rfl fun a hE => ?_
 refine sx hE rfl rfl rfl rfl rfl rfl fun a hE => ?_
 refine sp hE (r_pickT hE rfl rfl rfl) rfl fun a hE => ?_
 refine knil ?_
 exact ⟨true, h, _, (M.le.refl _), hS, hE.cut ⟨rfl, rfl, rfl, trivial⟩⟩
 }
 {
 have h := ite_F hd149 h
 refine spg hE rfl rfl rfl rfl hd149 (r_move hE rfl) rfl fun a hE => ?_
 obtain ⟨x154, hx155, h⟩ := ob h
 refine stg hE rfl rfl rfl rfl hd149 (st_index (k := (kInt .u8)) hE rfl rfl Tryz.underlying24 Tryz.sizeOf5 ha0 hx155) rfl ?_
 rintro v157 a _ ⟨rfl, hp156⟩ hE
 refine stg hE rfl rfl rfl rfl hd149 (st_loadM hE hS ty5 rfl hp156) rfl ?_
 rintro v159 a _ ⟨rfl, hv158⟩ hE
 obtain ⟨rfl, hr160⟩ := RV_int hv158
 refine spg hE rfl rfl rfl rfl hd149 (r_bin hE rfl rfl b_gtr) rfl fun a hE => ?_
 refine sp hE (r_pickF hE rfl hd149 rfl) rfl fun a hE => ?_
 refine qm hE rfl rfl fun a hE => ?_
 rcases Bool.eq_false_or_eq_true (decide (64 < x154)) with hd164 | hd164
 {
 have h := ite_T hd164 h
 refine sx hE rfl rfl rfl rfl hd164 rfl fun a hE => ?_
 refine sx hE rfl rfl rfl rfl hd164 rfl fun a hE => ?_
 refine sx hE rfl rfl rfl rfl hd164 rfl fun a hE => ?_
 refine sx hE rfl rfl rfl rfl hd164 rfl fun a hE => ?_
 refine sx hE rfl rfl rfl rfl hd164 rfl fun a hE => ?_
 refine sx hE rfl rfl rfl rfl hd164 rfl fun a hE => ?_
 refine sx hE rfl rfl rfl rfl hd164 rfl fun a hE => ?_
 refine sx hE rfl rfl rfl rfl hd164 rfl fun a hE => ?_
 refine sx hE rfl rfl rfl rfl hd164 rfl fun a hE => ?_
 refine sx hE rfl rfl rfl rfl hd164 rfl fun a hE => ?_
 refine sx hE rfl rfl rfl rfl hd164 rfl fun a hE => ?_
 refine sx hE rfl rfl rfl rfl hd164 rfl fun a hE => ?_
 refine sp hE (r_pickT hE rfl hd164 rfl) rfl fun a hE => ?_
 refine knil ?_
 exact ⟨true, h, _, (M.le.refl _), hS, hE.cut ⟨rfl, rfl, rfl, trivial⟩⟩
 }
 {
 have h := ite_F hd164 h
 refine spg hE rfl rfl rfl rfl hd164 (r_move hE rfl) rfl fun a hE => ?_
 refine spg hE rfl rfl rfl rfl hd164 (r_lenSl (k := (kInt .u8)) hE rfl rfl Tryz.underlying24 ha0) rfl fun a hE => ?_
 refine spg hE rfl rfl rfl rfl hd164 (r_move hE rfl) rfl fun a hE => ?_
 refine spg hE rfl rfl rfl rfl hd164 (r_move hE rfl) rfl fun a hE => ?_
 obtain ⟨x170, hx171, h⟩ := ob h
 refine stg hE rfl rfl rfl rfl hd164 (st_index (k := (kInt .u8)) hE rfl rfl Tryz.underlying24 Tryz.sizeOf5 ha0 hx171) rfl ?_
 rintro v173 a _ ⟨rfl, hp172⟩ hE
 refine stg hE rfl rfl rfl rfl hd164 (st_loadM hE hS ty5 rfl hp172) rfl ?_
 rintro v175 a _ ⟨rfl, hv174⟩ hE
 obtain ⟨rfl, hr176⟩ := RV_int hv174
 refine spg hE rfl rfl rfl rfl hd164 (r_conv hE rfl Tryz.underlying5 Tryz.underlying3 rfl) rfl fun a hE => ?_
 refine spg hE rfl rfl rfl rfl hd164 (r_bin hE rfl rfl (b_mul rfl)) rfl fun a hE => ?_
 refine spg hE rfl rfl rfl rfl hd164 (r_bin hE rfl rfl (b_add rfl)) rfl fun a hE => ?_
 refine spg hE rfl rfl rfl rfl hd164 (r_bin hE rfl rfl (b_quo rfl (by decide))) rfl fun a hE => ?_
 refine spg hE rfl rfl rfl rfl hd164 (r_bin hE rfl rfl (b_add rfl)) rfl fun a hE => ?_
 refine spg hE rfl rfl rfl rfl hd164 (r_bin hE rfl rfl b_neq) rfl fun a hE => ?_
 refine sp hE (r_pickF hE rfl hd164 rfl) rfl fun a hE => ?_
 refine knil ?_
 exact ⟨((p0.length : Int) != (IntKind.i64.wrap (9 + (IntKind.i64.wrap ((IntKind.i64.wrap ((IntKind.i64.wrap (p1 * (IntKind.i64.wrap x170))) + 7)).tdiv 8))))), h, _, (M.le.refl _), hS, hE.cut ⟨rfl, rfl, rfl, trivial⟩⟩
 }
 }
 }
 {
 rintro a w ⟨x4, h, m2, hm3, hS, hE⟩
 unfold hayloftref06_smalls_j1 at h
 refine kif hE rfl (fun hd6 => ?_) (fun hd6 => ?_)
 {
 have h := ite_T hd6 h
 refine kseq (kreg ?_)
 refine qa hE rfl rfl fun a hE => ?_
 refine knil (kret ?_)
 obtain rfl := oi h
 try dsimp only
 refine Fin.mk hE (rs := [.tmp 4]) rfl (ResL.tmp hE rfl ResL.nil) ?_
 exact ⟨_, hm3, ((hS.dropT 0).tail0 4), RV_nil⟩
 }
 {
 have h := ite_F hd6 h
 refine kskip (kseq (kreg ?_))
 refine qm hE rfl rfl fun a hE => ?_
 obtain ⟨x9, hx10, h⟩ := ob h
 refine st hE (st_slice (k := (kInt .u8)) hE rfl Tryz.underlying24 Tryz.sizeOf5 (ha0.mono hm3) rfl ⟨_, rfl⟩ hx10 (xl := none) (xh := (some (.const (.int .i64 8))))) rfl ?_
 rintro v12 a _ ⟨rfl, hv11⟩ hE
 obtain ⟨r13, hr14, h⟩ := ob h
 refine st hE (st_call (vs := [v12]) hE rfl Tryz.call59 (c_hayloftref03_Said (hS := hS) hv11 hr14)) rfl ?_
 rintro v18 a w ⟨m15, hm16, hS, hv17⟩ hE
 obtain ⟨rfl, hr19⟩ := RV_int hv17
 refine qa hE rfl rfl fun a hE => ?_
 refine knil (kseq (kreg ?_))
 refine qa hE rfl rfl fun a hE => ?_
 refine knil (kseq (kseq (kreg ?_)))
 refine qa hE rfl rfl fun a hE => ?_
 refine knil ?_
 refine kcut (fun a w => ∃ x25 : (List Ap), hayloftref06_smalls_j2 x25 = some r ∧ ∃ m', M.le m15 m' ∧ ∃ (v26 : Value), RV (kSl kAp) m' v26 x25 ∧ S W0 m' w (L) ((4, v26) :: TL) ∧ Env 55 a [(6, v26)]) ?_ ?_
 {
 refine kblock ?_
 refine kloop h (fun (s : ((List Ap) × Int)) a w => ∃ m', M.le m15 m' ∧ ∃ (v34 : Value), RV (kSl kAp) m' v34 s.1 ∧ inR .i64 s.2 ∧ S W0 m' w (L) ((4, v34) :: TL) ∧ Env 55 a [(0, v0), (1, (.int .i64 p1)), (5, (.int .u64 r13)), (6, v34), (7, (.int .i64 s.2))]) ?_ ?_
 {
 exact ⟨_, (M.le.refl _), (.slice none 0 0), RV_nil, (show inR .i64 0 from inR_lit (by decide)), (hS.tail0 4), hE.cut ⟨rfl, rfl, rfl, rfl, rfl, trivial⟩⟩
 }
 {
 rintro ⟨x33, x36⟩ a w ⟨m31, hm32, v34, hv35, hr37, hS, hE⟩ r38 h hb39
 have h : hayloftref06_smalls_b1 p0 p1 r13 x33 x36 = some r38 := h
 unfold hayloftref06_smalls_b1 at h
 refine kseq (kseq (kreg ?_))
 refine qm hE rfl rfl fun a hE => ?_
 refine qm hE rfl rfl fun a hE => ?_
 refine sp hE (r_bin hE rfl rfl b_lss) rfl fun a hE => ?_
 refine knil ?_
 refine kif hE rfl (fun hd43 => ?_) (fun hd43 => ?_)
 {
 have h := ite_T hd43 h
 refine kskip (kseq (kblock ?_))
 obtain ⟨x44, hx45, h⟩ := ob h
 obtain ⟨x47, hx48, h⟩ := ob h
 obtain ⟨r52, hr53, h⟩ := ob h
 refine kchain (k := 14) (m := m31) (es := []) (Φ := (fun i m ws v => match i with | 0 => v = v34 | 1 => v = (.int .u64 r13) ∧ inR .u64 r13 | 2 => v = v0 | 3 => RV (kSl (kInt .u8)) m v x44 | 4 => v = v0 | 5 => PR (kInt .u8) m v x47 | 6 => v = (.int .u8 x47) ∧ inR .u8 x47 | 7 => v = (.int .i64 (IntKind.i64.wrap x47)) ∧ inR .i64 (IntKind.i64.wrap x47) | 8 => v = (.int .i64 x36) ∧ inR .i64 x36 | 9 => v = (.int .u64 r52) ∧ inR .u64 r52 | 10 => v = (.int .u64 (IntKind.u64.wrap (r13 + r52))) ∧ inR .u64 (IntKind.u64.wrap (r13 + r52)) | 11 => v = (.int .i64 (IntKind.i64.wrap (IntKind.u64.wrap (r13 + r52)))) ∧ inR .i64 (IntKind.i64.wrap (IntKind.u64.wrap (r13 + r52))) | 12 => RV kAp m v (⟨2, false, IntKind.i64.wrap (IntKind.u64.wrap (r13 + r52)), []⟩ : Ap) | 13 => RV (kSl kAp) m v ([(⟨2, false, IntKind.i64.wrap (IntKind.u64.wrap (r13 + r52)), []⟩ : Ap)]) | _ => True)) (Q := (fun c m ws L' TL' => match c with | 0 => L = L' ∧ (4, v34) :: TL = TL' | _ => False)) (cs := [⟨0, 0, false, [(6, v34)]⟩, ⟨0, 0, false, [(5, (.int .u64 r13))]⟩, ⟨0, 0, false, [(0, v0)]⟩, ⟨0, 0, false, []⟩, ⟨0, 0, false, [(0, v0)]⟩, ⟨0, 0, false, []⟩, ⟨0, 0, false, []⟩, ⟨0, 0, false, []⟩, ⟨0, 0, false, [(7, (.int .i64 x36))]⟩, ⟨0, 0, false, []⟩, ⟨0, 0, false, []⟩, ⟨0, 0, false, []⟩, ⟨0, 0, false, []⟩, ⟨0, 0, false, []⟩]) mixed hE hS ⟨rfl, rfl⟩ rfl rfl ⟨⟨rfl, trivial⟩, ⟨rfl, trivial⟩, ⟨rfl, trivial⟩, trivial, ⟨rfl, trivial⟩, trivial, trivial, trivial, ⟨rfl, trivial⟩, trivial, trivial, trivial, trivial, trivial, trivial⟩ (by kernel_rfl) ?_ ?_ ?_ ?_
 {
 intro i m_ m2_ ws v hm_ hp_
 match i, hp_ with
 | 0, hp_ => exact hp_
 | 1, hp_ => exact hp_
 | 2, hp_ => exact hp_
 | 3, hp_ => exact RV.mono hp_ hm_
 | 4, hp_ => exact hp_
 | 5, hp_ => exact PR.mono hp_ hm_
 | 6, hp_ => exact hp_
 | 7, hp_ => exact hp_
 | 8, hp_ => exact hp_
 | 9, hp_ => exact hp_
 | 10, hp_ => exact hp_
 | 11, hp_ => exact hp_
 | 12, hp_ => exact RV.mono hp_ hm_
 | 13, hp_ => exact RV.mono hp_ hm_
 | _ + 14, hp_ => exact trivial
 }
 {
 intro c m_ m2_ ws L_ T_ hm_ hq_
 match c, hq_ with
 | 0, ⟨e1_, e2_⟩ => exact ⟨e1_, e2_⟩
 | _ + 1, hq_ => exact hq_.elim
 }
 {
 refine ⟨?_, ?_, ?_, ?_, ?_, ?_, ?_, ?_, ?_, ?_, ?_, ?_, ?_, ?_, trivial⟩
 {
 refine cplain fun pre_ post_ L_ T_ m' a' w' hl' hp' hm' hq' hS' hE' hT' => ?_
 obtain rfl := len0 hl'
 refine Step.imp (Run1.pure (r_move hE' rfl)) ?_
 rintro _ _ ⟨rfl, rfl⟩
 exact ⟨_, M.le.refl _, hS', rfl⟩
 }
 {
 refine cplain fun pre_ post_ L_ T_ m' a' w' hl' hp' hm' hq' hS' hE' hT' => ?_
 obtain rfl := len0 hl'
 refine Step.imp (Run1.pure (r_move hE' rfl)) ?_
 rintro _ _ ⟨rfl, rfl⟩
 exact ⟨_, M.le.refl _, hS', ⟨rfl, hr19⟩⟩
 }
 {
 refine cplain fun pre_ post_ L_ T_ m' a' w' hl' hp' hm' hq' hS' hE' hT' => ?_
 obtain rfl := len0 hl'
 refine Step.imp (Run1.pure (r_move hE' rfl)) ?_
 rintro _ _ ⟨rfl, rfl⟩
 exact ⟨_, M.le.refl _, hS', rfl⟩
 }
 {
 refine cplain fun pre_ post_ L_ T_ m' a' w' hl' hp' hm' hq' hS' hE' hT' => ?_
 obtain rfl := len0 hl'
 obtain ⟨v65, e66, q67⟩ : ∃ v, a'.tmps.getD 41 undef = v ∧ (v = v0) := ⟨_, rfl, hT' 2 (by decide) 41 rfl⟩
 have hE := hE'.add (e66.trans q67)
 refine Step.imp (st_slice (k := (kInt .u8)) hE rfl Tryz.underlying24 Tryz.sizeOf5 (ha0.mono (M.le.trans hm3 (M.le.trans hm16 (M.le.trans hm32 hm')))) ⟨_, rfl⟩ rfl hx45 (xl := (some (.const (.int .i64 9)))) (xh := none)) ?_
 rintro v68 _ ⟨rfl, hv46⟩
 exact ⟨_, M.le.refl _, hS', hv46⟩
 }
 {
 refine cplain fun pre_ post_ L_ T_ m' a' w' hl' hp' hm' hq' hS' hE' hT' => ?_
 obtain rfl := len0 hl'
 refine Step.imp (Run1.pure (r_move hE' rfl)) ?_
 rintro _ _ ⟨rfl, rfl⟩
 exact ⟨_, M.le.refl _, hS', rfl⟩
 }
 {
 refine cplain fun pre_ post_ L_ T_ m' a' w' hl' hp' hm' hq' hS' hE' hT' => ?_
 obtain rfl := len0 hl'
 obtain ⟨v70, e71, q72⟩ : ∃ v, a'.tmps.getD 43 undef = v ∧ (v = v0) := ⟨_, rfl, hT' 4 (by decide) 43 rfl⟩
 have hE := hE'.add (e71.trans q72)
 refine Step.imp (st_index (k := (kInt .u8)) hE rfl rfl Tryz.underlying24 Tryz.sizeOf5 (ha0.mono (M.le.trans hm3 (M.le.trans hm16 (M.le.trans hm32 hm')))) hx48) ?_
 rintro v73 _ ⟨rfl, hp49⟩
 exact ⟨_, M.le.refl _, hS', hp49⟩
 }
 {
 refine cplain fun pre_ post_ L_ T_ m' a' w' hl' hp' hm' hq' hS' hE' hT' => ?_
 obtain rfl := len0 hl'
 obtain ⟨v74, e75, q76⟩ : ∃ v, a'.tmps.getD 44 undef = v ∧ (PR (kInt .u8) m' v x47) := ⟨_, rfl, hT' 5 (by decide) 44 rfl⟩
 have hE := hE'.add (e75)
 refine Step.imp (st_loadM hE hS' ty5 rfl q76) ?_
 rintro v77 _ ⟨rfl, hv50⟩
 obtain ⟨rfl, hr78⟩ := RV_int hv50
 exact ⟨_, M.le.refl _, hS', ⟨rfl, hr78⟩⟩
 }
 {
 refine cplain fun pre_ post_ L_ T_ m' a' w' hl' hp' hm' hq' hS' hE' hT' => ?_
 obtain rfl := len0 hl'
 obtain ⟨v79, e80, q81⟩ : ∃ v, a'.tmps.getD 45 undef = v ∧ (v = (.int .u8 x47) ∧ inR .u8 x47) := ⟨_, rfl, hT' 6 (by decide) 45 rfl⟩
 obtain ⟨q81, hr82⟩ := q81
 have hE := hE'.add (e80.trans q81)
 refine Step.imp (Run1.pure (r_conv hE rfl Tryz.underlying5 Tryz.underlying3 rfl)) ?_
 rintro _ _ ⟨rfl, rfl⟩
 exact ⟨_, M.le.refl _, hS', ⟨rfl, (inR_wrap _ _)⟩⟩
 }
 {
 refine cplain fun pre_ post_ L_ T_ m' a' w' hl' hp' hm' hq' hS' hE' hT' => ?_
 obtain rfl := len0 hl'
 refine Step.imp (Run1.pure (r_move hE' rfl)) ?_
 rintro _ _ ⟨rfl, rfl⟩
 exact ⟨_, M.le.refl _, hS', ⟨rfl, hr37⟩⟩
 }
 {
 refine cplain fun pre_ post_ L_ T_ m' a' w' hl' hp' hm' hq' hS' hE' hT' => ?_
 obtain rfl := len0 hl'
 obtain ⟨v85, e86, q87⟩ : ∃ v, a'.tmps.getD 42 undef = v ∧ (RV (kSl (kInt .u8)) m' v x44) := ⟨_, rfl, hT' 3 (by decide) 42 rfl⟩
 have hE := hE'.add (e86)
 obtain ⟨v88, e89, q90⟩ : ∃ v, a'.tmps.getD 46 undef = v ∧ (v = (.int .i64 (IntKind.i64.wrap x47)) ∧ inR .i64 (IntKind.i64.wrap x47)) := ⟨_, rfl, hT' 7 (by decide) 46 rfl⟩
 obtain ⟨q90, hr91⟩ := q90
 have hE := hE.add (e89.trans q90)
 obtain ⟨v92, e93, q94⟩ : ∃ v, a'.tmps.getD 47 undef = v ∧ (v = (.int .i64 x36) ∧ inR .i64 x36) := ⟨_, rfl, hT' 8 (by decide) 47 rfl⟩
 obtain ⟨q94, hr95⟩ := q94
 have hE := hE.add (e93.trans q94)
 refine Step.imp (st_call (vs := [v85, (.int .i64 (IntKind.i64.wrap x47)), (.int .i64 x36)]) hE rfl Tryz.call170 (c_hayloftref06_unpacked (hS := hS') q87 hr91 hr95 hr53)) ?_
 rintro v96 w ⟨m54, hm55, hS, hv56⟩
 obtain ⟨rfl, hr97⟩ := RV_int hv56
 exact ⟨_, hm55, hS, ⟨rfl, hr97⟩⟩
 }
 {
 refine cplain fun pre_ post_ L_ T_ m' a' w' hl' hp' hm' hq' hS' hE' hT' => ?_
 obtain rfl := len0 hl'
 obtain ⟨v98, e99, q100⟩ : ∃ v, a'.tmps.getD 40 undef = v ∧ (v = (.int .u64 r13) ∧ inR .u64 r13) := ⟨_, rfl, hT' 1 (by decide) 40 rfl⟩
 obtain ⟨q100, hr101⟩ := q100
 have hE := hE'.add (e99.trans q100)
 obtain ⟨v102, e103, q104⟩ : ∃ v, a'.tmps.getD 48 undef = v ∧ (v = (.int .u64 r52) ∧ inR .u64 r52) := ⟨_, rfl, hT' 9 (by decide) 48 rfl⟩
 obtain ⟨q104, hr105⟩ := q104
 have hE := hE.add (e103.trans q104)
 refine Step.imp (Run1.pure (r_bin hE rfl rfl (b_add rfl))) ?_
 rintro _ _ ⟨rfl, rfl⟩
 exact ⟨_, M.le.refl _, hS', ⟨rfl, (inR_wrap _ _)⟩⟩
 }
 {
 refine cplain fun pre_ post_ L_ T_ m' a' w' hl' hp' hm' hq' hS' hE' hT' => ?_
 obtain rfl := len0 hl'
 obtain ⟨v107, e108, q109⟩ : ∃ v, a'.tmps.getD 49 undef = v ∧ (v = (.int .u64 (IntKind.u64.wrap (r13 + r52))) ∧ inR .u64 (IntKind.u64.wrap (r13 + r52))) := ⟨_, rfl, hT' 10 (by decide) 49 rfl⟩
 obtain ⟨q109, hr110⟩ := q109
 have hE := hE'.add (e108.trans q109)
 refine Step.imp (Run1.pure (r_conv hE rfl Tryz.underlying54 Tryz.underlying2 rfl)) ?_
 rintro _ _ ⟨rfl, rfl⟩
 exact ⟨_, M.le.refl _, hS', ⟨rfl, (inR_wrap _ _)⟩⟩
 }
 {
 refine cplain fun pre_ post_ L_ T_ m' a' w' hl' hp' hm' hq' hS' hE' hT' => ?_
 obtain rfl := len0 hl'
 obtain ⟨v112, e113, q114⟩ : ∃ v, a'.tmps.getD 50 undef = v ∧ (v = (.int .i64 (IntKind.i64.wrap (IntKind.u64.wrap (r13 + r52)))) ∧ inR .i64 (IntKind.i64.wrap (IntKind.u64.wrap (r13 + r52)))) := ⟨_, rfl, hT' 11 (by decide) 50 rfl⟩
 obtain ⟨q114, hr115⟩ := q114
 have hE := hE'.add (e113.trans q114)
 refine Step.imp (st_build (m := m') (k := kAp) (x0 := Ap.zero) (xx := (⟨2, false, IntKind.i64.wrap (IntKind.u64.wrap (r13 + r52)), []⟩ : Ap)) (pl := [(0, 1), (1, 1), (2, 1), (3, 1)]) (pv := [(0, (.int .i64 2)), (2, (.int .i64 (IntKind.i64.wrap (IntKind.u64.wrap (r13 + r52)))))]) hE rfl Tryz.underlying32 rfl Tryz.zeroValue32 zr32 rfl (.cons rfl sf32_0 (RV_of_int (show inR .i64 2 from inR_lit (by decide))) (.cons rfl sf32_2 (RV_of_int hr115) .nil))) ?_
 rintro v116 _ ⟨rfl, hv58⟩
 exact ⟨_, M.le.refl _, hS', hv58⟩
 }
 {
 refine cplain fun pre_ post_ L_ T_ m' a' w' hl' hp' hm' hq' hS' hE' hT' => ?_
 obtain rfl := len0 hl'
 obtain ⟨v117, e118, q119⟩ : ∃ v, a'.tmps.getD 51 undef = v ∧ (RV kAp m' v (⟨2, false, IntKind.i64.wrap (IntKind.u64.wrap (r13 + r52)), []⟩ : Ap)) := ⟨_, rfl, hT' 12 (by decide) 51 rfl⟩
 have hE := hE'.add (e118)
 refine Step.imp (st_lit (k := kAp) (xs := [(⟨2, false, IntKind.i64.wrap (IntKind.u64.wrap (r13 + r52)), []⟩ : Ap)]) (vs := [v117]) hE hS' rfl Tryz.underlying22 Tryz.sizeOf32 Tryz.zeroValue32 ⟨q119, trivial⟩ rfl (by decide)) ?_
 rintro v120 w ⟨m60, hm61, hS, hv59⟩
 exact ⟨_, hm61, (hS.dropT 1), hv59⟩
 }
 }
 {
 intro ws_ L_ T_ m121 a w hl122 hm123 hq124 hS hd125 hn126 ho127 hT128
 obtain rfl := len0 hl122
 obtain ⟨rfl, rfl⟩ := hq124
 have hE := EnvD.of (k := 14) (l' := [(0, v0), (1, (.int .i64 p1)), (5, (.int .u64 r13)), (6, v34), (7, (.int .i64 x36)), (34, (.int .i64 x36)), (35, (.int .i64 p1)), (36, (.bool (decide (x36 < p1))))]) hd125 hn126 ho127 ⟨rfl, rfl, rfl, rfl, rfl, rfl, rfl, rfl, trivial⟩ rfl
 obtain ⟨v129, e130, q131⟩ : ∃ v, a.tmps.getD 39 undef = v ∧ (v = v34) := ⟨_, rfl, hT128 0 (by decide) 39 rfl⟩
 have hE := hE.add (e130.trans q131)
 obtain ⟨v132, e133, q134⟩ : ∃ v, a.tmps.getD 52 undef = v ∧ (RV (kSl kAp) m121 v ([(⟨2, false, IntKind.i64.wrap (IntKind.u64.wrap (r13 + r52)), []⟩ : Ap)])) := ⟨_, rfl, hT128 13 (by decide) 52 rfl⟩
 have hE := hE.add (e133)
 obtain ⟨z135, hz136, h⟩ := ob h
 refine st hE (st_app (k := kAp) (N := 3518437208883) hE hS rfl rfl Tryz.underlying22 Tryz.underlying22 el32 (i := 0) rfl (hv35.mono hm123) q134 hz136 rfl rfl) rfl ?_
 rintro v140 a w ⟨m138, hm139, hS, hv137⟩ hE
 refine qa hE rfl rfl fun a hE => ?_
 refine knil (kreg ?_)
 refine qm hE rfl rfl fun a hE => ?_
 refine sp hE (r_bin hE rfl rfl (b_add rfl)) rfl fun a hE => ?_
 refine qa hE rfl rfl fun a hE => ?_
 refine knil ?_
 exact ⟨(z135, IntKind.i64.wrap (x36 + 1)), (Option.some.inj h).symm, _, (M.le.trans hm32 (M.le.trans hm123 hm139)), v140, hv137, (inR_wrap _ _), hS, hE.cut ⟨rfl, rfl, rfl, rfl, rfl, trivial⟩⟩
 }
 }
 {
 have h := ite_F hd43 h
 refine kexit rfl rfl ?_
 have h := unwrap h hb39
 exact ⟨x33, h, _, hm32, v34, hv35, hS, hE.cut ⟨rfl, trivial⟩⟩
 }
 }
 }
 {
 rintro a w ⟨x25, h, m23, hm24, v26, hv27, hS, hE⟩
 unfold hayloftref06_smalls_j2 at h
 refine kseq (kreg ?_)
 refine qm hE rfl rfl fun a hE => ?_
 refine qa hE rfl rfl fun a hE => ?_
 refine knil (kret ?_)
 obtain rfl := oi h
 try dsimp only
 refine Fin.mk hE (rs := [.tmp 4]) rfl (ResL.tmp hE rfl ResL.nil) ?_
 exact ⟨_, (M.le.trans hm3 (M.le.trans hm16 hm24)), (hS.pickT 1 [0] rfl rfl rfl), hv27⟩
 }
 }
 }
theorem ct_125 : Ctr Sz Tryz.prog 125 [.rd (.sl (.int .u8)), .rd (.int .i64)] [.ap (.st 32)] (fun x => hayloftref06_smalls x.1 x.2.1) := by
 intro W0 m w L TL vs x r Lp Tp hS hP h
 obtain ⟨v0, vs, rfl, a0, hP0⟩ := PR_rd hP
 obtain ⟨v1, vs, rfl, a1, hP1⟩ := PR_rd hP0
 obtain ⟨rfl, n1⟩ := RV_int a1
 obtain ⟨rfl, rfl, rfl⟩ := PR_nil hP1
 refine (c_hayloftref06_smalls (hS := hS) a0 n1 h).mono ?_
 intro e w' he
 cases e with
 | returned v =>
  obtain ⟨m', hm, hS', r0⟩ := he
  exact ⟨m', [v], [], [], [(4, v)], hm, hS', rfl, ⟨r0, rfl, trivial⟩, trivial⟩
 | panicked ch => exact he.elim
 | outgrown => exact he.elim
noncomputable def cs_125 : CS Tryz.prog Sz := ⟨125, _, _, _, ct_125, Tryz.call125⟩
theorem ct_63 : Ctr Sz Tryz.prog 63 [.rd (.int .i64), .rd (.sl (.int .u8)), .rd (.int .i64)] [.rd (.sl (.st 32)), .rd (.int .i64)] (fun x => hayloftref06_Decode x.1 x.2.1 x.2.2.1) :=
 Ctr.nc (Γ := Γ) (D := [cs_52, cs_121, cs_122, cs_123, cs_124, cs_125]) (c := Tryz.f63.body.getD .skip) (res := [6, 7]) .o rfl mixed Tryz.func63 rfl Tryz.ntmps63 rfl rfl (fun x => by kernel_rfl)
noncomputable def cs_63 : CS Tryz.prog Sz := ⟨63, _, _, _, ct_63, Tryz.call63⟩
theorem ct_22 : Ctr Sz Tryz.prog 22 [.rd (.sl (.int .u8))] [.rd (.sl (.st 32)), .rd (.int .i64), .rd (.int .i64)] (fun x => hayloftref07_Read x.1) :=
 Ctr.nc (Γ := Γ) (D := [cs_20, cs_53, cs_56, cs_59, cs_63]) (c := Tryz.f22.body.getD .skip) (res := [2, 3, 4]) .o rfl mixed Tryz.func22 rfl Tryz.ntmps22 rfl rfl (fun x => by kernel_rfl)
noncomputable def cs_22 : CS Tryz.prog Sz := ⟨22, _, _, _, ct_22, Tryz.call22⟩
theorem ct_23 : Ctr Sz Tryz.prog 23 [.rd (.st 34), .rd (.st 37)] [.rd .bool] (fun x => hayloftlaw07_same x.1 x.2.1) :=
 Ctr.nc (Γ := Γ) (D := []) (c := Tryz.f23.body.getD .skip) (res := [4]) .o rfl mixed Tryz.func23 rfl Tryz.ntmps23 rfl rfl (fun x => by kernel_rfl)
noncomputable def cs_23 : CS Tryz.prog Sz := ⟨23, _, _, _, ct_23, Tryz.call23⟩
theorem ct_4 : Ctr Sz Tryz.prog 4 [.rd (.sl (.int .u8))] [.rd .bool] (fun x => hayloftlaw07_BlockReads x.1) :=
 Ctr.nc (Γ := Γ) (D := [cs_17, cs_18, cs_19, cs_20, cs_21, cs_22, cs_23]) (c := Tryz.f4.body.getD .skip) (res := [2]) .o rfl mixed Tryz.func4 rfl Tryz.ntmps4 rfl rfl (fun x => by kernel_rfl)
theorem c_hayloftlaw07_BlockReads {W0 : Bse} {m : M} {w : World} {L : List (Nat × List Value)} {TL : List (Nat × Value)} (hS : S W0 m w (L) (TL)) {v0 : Value} {p0 : (List Int)} (ha0 : RV (kSl (kInt .u8)) m v0 p0) {r : Bool} (h : hayloftlaw07_BlockReads p0 = some r) :
    Calls Tryz.prog 4 [v0].toArray w (Ret fun v w' => ∃ m', M.le m m' ∧ S W0 m' w' (L) (TL) ∧ RV kBool m' v r) := by
 refine (ct_4 W0 m w L TL [v0] (p0, ()) r [] [] hS ⟨ha0, trivial⟩ h).mono ?_
 intro e w' he
 cases e with
 | returned v =>
  obtain ⟨m', us, Lr, Lq, Tr, hm, hS', rfl, hR, hO⟩ := he
  obtain ⟨u0, us, rfl, r0, hR0⟩ := RR_rd hR
  obtain ⟨rfl, rfl, rfl⟩ := RR_nil hR0
  have hO0 := OR_rd hO
  obtain rfl := OR_nil hO0
  exact ⟨m', hm, hS', r0⟩
 | panicked ch => exact he.elim
 | outgrown => exact he.elim
end Go.Proofs.YthbonoagbeilkaaGreat.Hay
namespace Go.Proofs.YthbonoagbeilkaaGreat.Hay
open Go.RowKit Go.ChangeShapes Go.ChangeAt Go.WideShapes
section
variable {P : Program} {H : Type} {enc : TypeId × Value → H}
theorem trodAll_stays (hl : laidOutB P = true) {W W' : World} {base : Nat} {sp' : Nat → Bool} : ∀ {ts : List TypeId} {vs : List Value} {ds : List (DataW H)} {ps : List MemPlace}, (∀ t ∈ ts, P.readableRec t = true ∧ t < P.types.size) →
  DataW.TrodAll enc P W base (fun _ => true) true ts vs ds ps → (∀ p ∈ ps, W.sameAt W' p) → (∀ p ∈ ps, sp' p.block = true) → DataW.TrodAll enc P W' base sp' true ts vs ds ps
 | [], [], [], _, _, h, _, _ => h
 | [], [], _ :: _, _, _, h, _, _ => h.elim
 | [], _ :: _, _, _, _, h, _, _ => h.elim
 | _ :: _, [], _, _, _, h, _, _ => h.elim
 | _ :: _, _ :: _, [], _, _, h, _, _ => h.elim
 | t :: ts, v :: vs, d :: ds, ps, ht, h, hs, hp => by
  obtain ⟨p, q, h1, h2, rfl⟩ := h
  refine ⟨p, q, WideElems.Trod_stays hl (ht t (by simp)).1 (ht t (by simp)).2 h1 (fun x hx => hs x (by simp [hx])) (fun x hx => hp x (by simp [hx])), trodAll_stays hl (fun t h => ht t (by simp [h])) h2 (fun x hx => hs x (by simp [hx])) (fun x hx => hp x (by simp [hx])), rfl⟩
theorem post_true {f : Func} {s : ChangeSpec} {apart fresh handsOn again : Bool} {W W' : World} {args : Array Value} {ds gs : List (DataW H)} {before : List MemPlace} {tb : TypeId}
  (hW : DataW.Whole enc P f.params.toList s.vars apart W args.toList ds gs before) (hl : laidOutB P = true) (ht : ∀ t ∈ f.params.toList, P.readableRec t = true ∧ t < P.types.size)
  (hvars : s.vars = []) (hr : f.resultTypes = #[tb]) (hb : P.underlying tb = some .bool) (hfn : s.fn H (ds ++ gs) = { results := [.lit (.bool true)], args := ds }) (hB : Below W.heap.size W W') :
  s.post enc P f apart fresh handsOn again W args (.bool true) W' := by
 have hlt := fun p hp => hW.lt p hp
 have hW2 := hW
 obtain ⟨p, q, hA, hV, hps, hz, hn⟩ := hW2
 rw [hvars] at hV
 obtain ⟨hg, hq⟩ := trodVars_none hV
 have hbp : before = p := by rw [hps, hq]; simp
 have hres : ∀ (b : Nat) (sp : Nat → Bool) (hd : Bool), DataW.TrodAll enc P W' b sp hd f.resultTypes.toList ((Value.bool true).resultList f.resultTypes.size) (s.fn H (ds ++ gs)).results [] := fun b sp hd => by
  rw [hr, hfn]
  exact trodAll_cons_mk (shut_bool hb _) trodAll_mk0
 have hargs : ∀ sp : Nat → Bool, (∀ x ∈ before, sp x.block = true) → DataW.TrodAll enc P W' 0 sp true f.params.toList args.toList (s.fn H (ds ++ gs)).args p := fun sp hsp => by
  rw [hfn]
  refine trodAll_stays hl ht hA (fun x hx => hB.same (hlt x (by rw [hbp]; exact hx))) (fun x hx => hsp x (by rw [hbp]; exact hx))
 have hvars' : ∀ sp : Nat → Bool, DataW.TrodVars enc P W' sp s.vars (s.fn H (ds ++ gs)).vars [] := fun sp => by
  rw [hvars, hfn]; exact rfl
 have hold : ∀ x ∈ before, (fun b => decide (b < W.heap.size)) x.block = true := fun x hx => by simpa using hlt x hx
 refine ⟨ds, gs, before, [], p, [], hW, hres _ _ _, hargs _ hold, hvars' _, hB.frame _, fun _ => ?_⟩
 refine ⟨ok_one hr rfl (okWide_bool_mk hb _), _, _, ([] ++ p) ++ [], ⟨[] ++ p, [], trodAll_append (hargs _ (fun _ _ => rfl)) (hres _ _ _), hvars' _, rfl, ?_, ?_⟩, ?_⟩
 ·intro b off hp
  have hm : MemPlace.cell b off ∈ before := by rw [hbp]; simpa using hp
  have := hlt _ hm
  rw [hB.frozen (p := ⟨b, off, none⟩) this]
  exact hz b off hm
 ·intro ha
  have := hn ha
  rw [hbp] at this
  simpa using this
 ·intro x hx _
  rw [hbp]
  simpa using hx
structure Okw (P : Program) (W : World) (r : Reach) (b : Nat) (t : TypeId) (v : Value) : Prop where
 ok : Value.okWide P W r b t v
theorem okw_of {W : World} {r : Reach} {b0 : Nat} {ts : Array TypeId} {args : Array Value} (h : ∀ (j : Nat) t v, ts[j]? = some t → args[j]? = some v → Value.okWide P W r b0 t v) (j : Nat) {t : TypeId} {v : Value} (h1 : ts[j]? = some t) (h2 : args[j]? = some v) : Okw P W r b0 t v :=
 ⟨h j t v h1 h2⟩
theorem arg_slice {r : Reach} {b0 : Nat} {W : World} {t e : TypeId} {α : Type} {k : Kd α} {sz : List α → Nat} {v : Value} {d : DataW H} {ps : List MemPlace} (B : Bulk H) (ht : P.underlying t = some (.slice e)) (hrd : Rd P t (kSl k) sz) (hval : Okw P W r b0 t v) (hd : DataW.Trod enc P W 0 (fun _ => true) true t v d ps) (hb : B.b d ≤ 1099511627776) :
  ∃ xs, RV (kSl k) (m0 W) v xs ∧ sz xs ≤ B.b d := by
 obtain ⟨a, len, cap, rfl⟩ := okWide_slice ht hval.ok
 obtain ⟨fuel, hf⟩ := hd
 obtain ⟨xs, hx, hs⟩ := hrd enc B W fuel _ d ps hf hb
 exact ⟨xs, ⟨_, hx, rfl⟩, hs⟩
end
theorem RV_all {α : Type} {k : Kd α} {m : M} {v : Value} {xs : List α} (h : RV (kSl k) m v xs) : (∀ x ∈ xs, ∃ cs, k.R m cs x) ∧ xs.length ≤ maxSz := by
 obtain ⟨cs, hR, _⟩ := h
 obtain ⟨a, len, cap, h1, h2, h3, h4, h5⟩ := hR
 refine ⟨fun x hx => ?_, h4⟩
 obtain ⟨i, hi, rfl⟩ := List.getElem_of_mem hx
 cases a with
 | none =>
  have h5' : cap = 0 := h5
  omega
 | some ad => exact ⟨_, h5.2 i hi⟩
theorem sum_one {α : Type} (xs : List α) : (xs.map fun _ => 1).sum = xs.length := by
 induction xs with
 | nil => rfl
 | cons a r ih => simp [ih]; omega
end Go.Proofs.YthbonoagbeilkaaGreat.Hay
namespace Go.Proofs.YthbonoagbeilkaaGreat.Hay
open Go.ChangeShapes Go.WideShapes Go.ChangeAt Go.RowKit
theorem own : ownKnob Tryz.prog.godebug = none := by kernel_rfl
theorem laidAll : laidOutB Tryz.prog = true := by kernel_rfl
theorem bulk_one {H : Type} (d : DataW H) : 1 ≤ Rows.uptoBulk d := by
 cases d with
 | lit l => cases l <;> simp [Rows.uptoBulk]
 | nil => simp [Rows.uptoBulk]
 | ptr d => simp [Rows.uptoBulk]
 | slice elems spare => simp [Rows.uptoBulk]
 | agg parts => simp [Rows.uptoBulk]
 | iface t d => simp [Rows.uptoBulk]
 | map entries => simp [Rows.uptoBulk]
 | held h => simp [Rows.uptoBulk]
def bulk (H : Type) : Bulk H := {
 b := Rows.uptoBulk
 ba := Rows.uptoBulkAll
 str := fun s => by simp [Rows.uptoBulk]
 one := bulk_one
 slice := fun e s => by simp [Rows.uptoBulk]
 agg := fun l => by simp [Rows.uptoBulk]
 nil := by simp [Rows.uptoBulkAll]
 cons := fun d r => by simp [Rows.uptoBulkAll]
 }
theorem rd24 : Rd Tryz.prog 24 (kSl (kInt .u8)) (fun xs => (xs.map fun _ => 1).sum + 1) := Rd_slice Tryz.underlying24 (by kernel_rfl) (Rd_int Tryz.underlying5)
theorem sp24 : Tryz.prog.readableRec 24 = true ∧ 24 < Tryz.prog.types.size := ⟨by kernel_rfl, of_decide_eq_true (by kernel_rfl)⟩
theorem byt_of {m : M} {v : Value} {xs : List Int} (h : RV (kSl (kInt .u8)) m v xs) : Byt xs := fun c hc => by
 obtain ⟨cs, hR⟩ := (RV_all h).1 c hc
 have := inR_bd.1 hR.2
 have h1 : IntKind.min .u8 = 0 := by decide
 have h2 : IntKind.max .u8 = 255 := by decide
 omega
theorem len24 {xs : List Int} {n : Nat} (h : (xs.map fun _ => 1).sum + 1 ≤ n) (hn : n ≤ 1048576) : xs.length ≤ 1048576 := by
 rw [sum_one] at h; omega
end Go.Proofs.YthbonoagbeilkaaGreat.Hay
