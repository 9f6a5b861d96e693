import Derived.Test.YthbonoagbeilkaaGreatHbkC1
import Derived.Test.YthbonoagbeilkaaGreatHbN
import Derived.Carry
import Derived.ChangeSame
import Derived.OpenShut
import Derived.JoinedCond
import Derived.Test.YthbonoagbeilkaaGreatRows
import Derived.Test.YthbonoagbeilkaaGreatHcY
import Derived.Test.YthbonoagbeilkaaGreatHbkM
set_option maxRecDepth 100000
set_option maxHeartbeats 4000000
set_option linter.unusedVariables false
namespace Go.Proofs.YthbonoagbeilkaaGreat.Hay
open Go.Proofs
theorem c_block_Read {W0 : Bse} {m : M} {w : World} {L : List (Nat × List Value)} {TL : List (Nat × Value)} (hS : S W0 m w (L) (TL)) {v0 : Value} {p0 : (List Int)} (ha0 : RV (kSl (kInt .u8)) m v0 p0) {r : ((List Ap) × Int × Int)} (h : block_Read p0 = some r) :
    Calls Tryz.prog 21 [v0].toArray w (Ret fun v w' => ∃ m', M.le m m' ∧ S W0 m' w' (L) (TL) ∧ ∃ v0_ v1_ v2_ : Value, v = .tuple #[v0_, v1_, v2_] ∧ RV (kSl kAp) m' v0_ r.1 ∧ RV (kInt .i64) m' v1_ r.2.1 ∧ RV (kInt .i64) m' v2_ r.2.2) := by
 refine kcall Tryz.func21 rfl Tryz.ntmps21 (Nat.le_of_ble_eq_true rfl) fun a hE => ?_
 have hE : Env 71 a [(0, v0)] := hE
 unfold block_Read at h
 refine kseq (kreg ?_)
 refine qa hE rfl rfl fun a hE => ?_
 refine qa hE rfl rfl fun a hE => ?_
 refine qa hE rfl rfl fun a hE => ?_
 refine knil (kseq (kreg ?_))
 refine qm hE rfl rfl fun a hE => ?_
 obtain ⟨r5, hr6, h⟩ := ob h
 refine st hE (st_call (vs := [v0]) hE rfl Tryz.call57 (c_block_read (hS := hS) ha0 hr6)) rfl ?_
 rintro _ a w ⟨m7, hm8, hS, v0_9, v1_10, v2_11, rfl, hv0_12, hv1_13, hv2_14⟩ hE
 obtain rfl := RV_bool hv2_14
 refine qm hE rfl rfl fun a hE => ?_
 refine sp hE (r_extract hE rfl rfl) rfl fun a hE => ?_
 refine sp hE (r_extract hE rfl rfl) rfl fun a hE => ?_
 refine sp hE (r_extract hE rfl rfl) rfl fun a hE => ?_
 refine st hE (st_alloc hS Tryz.zeroValue34 rfl (cs := zc34)) rfl ?_
 rintro _ a w ⟨b20, rfl, hS⟩ hE
 refine st0 hE (st_storeF hE hS ty34 StF_self rfl rfl hv0_12 (i := 0) rfl (zr34 _)) ?_
 rintro _ w ⟨cs22, hc23, hS⟩ hE
 refine qa hE rfl rfl fun a hE => ?_
 refine qa hE rfl rfl fun a hE => ?_
 refine knil (kseq (kseq (kreg ?_)))
 refine qm hE rfl rfl fun a hE => ?_
 refine sp hE (r_not hE rfl) rfl fun a hE => ?_
 refine knil ?_
 refine kif hE rfl (fun hd29 => ?_) (fun hd29 => ?_)
 {
 have h := ite_T hd29 h
 refine kseq (kreg ?_)
 refine qa hE rfl rfl fun a hE => ?_
 refine qa hE rfl rfl fun a hE => ?_
 refine qa hE rfl rfl fun a hE => ?_
 refine knil (kret ?_)
 obtain rfl := oi h
 try dsimp only
 refine Fin.mk hE (rs := [.tmp 2, .tmp 3, .tmp 4]) rfl (ResL.tmp hE rfl (ResL.tmp hE rfl (ResL.tmp hE rfl ResL.nil))) ?_
 exact ⟨_, hm8, (hS.dropL 1), _, _, _, rfl, RV_nil, (RV_of_int (show inR .i64 0 from inR_lit (by decide))), (RV_of_int (show inR .i64 70 from inR_lit (by decide)))⟩
 }
 {
 have h := ite_F hd29 h
 refine kskip (kseq (kreg ?_))
 refine qm hE rfl rfl fun a hE => ?_
 refine sp hE (r_fieldL hE fo34_5 rfl) rfl fun a hE => ?_
 refine st hE (st_loadL hE hS ty3 rfl (i := 0) rfl (fl34_5.R_drop (R_whole hc23))) rfl ?_
 rintro v36 a _ ⟨rfl, hv35⟩ hE
 obtain ⟨rfl, hr37⟩ := RV_int hv35
 refine sp hE (r_bin hE rfl rfl (b_sub rfl)) rfl fun a hE => ?_
 obtain ⟨x39, hx40, h⟩ := ob h
 refine st hE (st_slice (k := (kInt .u8)) hE rfl Tryz.underlying24 Tryz.sizeOf5 (ha0.mono hm8) rfl ⟨_, rfl⟩ hx40 (xl := none) (xh := (some (.tmp 23)))) rfl ?_
 rintro v42 a _ ⟨rfl, hv41⟩ hE
 obtain ⟨r43, hr44, h⟩ := ob h
 refine st hE (st_call (vs := [v42]) hE rfl Tryz.call60 (c_slices_Clone_byte (hS := hS) hv41 hr44)) rfl ?_
 rintro v48 a w ⟨m45, hm46, hS, hv47⟩ hE
 refine qa hE rfl rfl fun a hE => ?_
 refine knil (kseq (kseq ?_))
 obtain ⟨r50, hr51, h⟩ := ob h
 obtain ⟨x58, hx59, h⟩ := ob h
 refine kchain (k := 6) (m := m45) (es := [1]) (Φ := (fun i m ws v => match i with | 0 => v = v48 | 1 => v = (wi ws 0).v ∧ RV (kSl (kInt .u8)) m v r50 | 2 => v = v0 | 3 => v = (.pointer (some ⟨b20, 11, none⟩)) | 4 => v = (.int .i64 r5.1.fBytes) ∧ inR .i64 r5.1.fBytes | 5 => RV (kSl (kInt .u8)) m v x58 | _ => True)) (Q := (fun c m ws L' TL' => match c with | 0 => (b20, cs22) :: L = L' ∧ (1, v48) :: TL = TL' | 1 => (b20, cs22) :: L = L' ∧ (1, (wi ws 0).v) :: TL = TL' | _ => False)) (cs := [⟨0, 0, false, [(8, v48)]⟩, ⟨0, 0, true, []⟩, ⟨0, 1, false, [(0, v0)]⟩, ⟨0, 1, false, [(5, (.pointer (some ⟨b20, 0, none⟩)))]⟩, ⟨0, 1, false, []⟩, ⟨0, 1, false, []⟩]) mixed hE hS ⟨rfl, rfl⟩ rfl rfl ⟨⟨rfl, trivial⟩, trivial, ⟨rfl, trivial⟩, ⟨rfl, trivial⟩, trivial, trivial, trivial⟩ (by kernel_rfl) ?_ ?_ ?_ ?_
 {
 intro i m_ m2_ ws v hm_ hp_
 match i, hp_ with
 | 0, hp_ => exact hp_
 | 1, hp_ => exact ⟨hp_.1, RV.mono hp_.2 hm_⟩
 | 2, hp_ => exact hp_
 | 3, hp_ => exact hp_
 | 4, hp_ => exact hp_
 | 5, hp_ => exact RV.mono hp_ hm_
 | _ + 6, hp_ => exact trivial
 }
 {
 intro c m_ m2_ ws L_ T_ hm_ hq_
 match c, hq_ with
 | 0, ⟨e1_, e2_⟩ => exact ⟨e1_, e2_⟩
 | 1, ⟨e1_, e2_⟩ => exact ⟨e1_, e2_⟩
 | _ + 2, hq_ => exact hq_.elim
 }
 {
 refine ⟨?_, ?_, ?_, ?_, ?_, ?_, trivial⟩
 {
 refine cplain fun pre_ post_ L_ T_ m' a' w' hl' hp' hm' hq' hS' hE' hT' => ?_
 obtain rfl := len0 hl'
 refine Step.imp (Run1.pure (r_move hE' rfl)) ?_
 rintro _ _ ⟨rfl, rfl⟩
 exact ⟨_, M.le.refl _, hS', rfl⟩
 }
 {
 refine cturn fun pre_ L_ T_ m' a' w' hl' hm' hq' hS' hE' hT' => ?_
 obtain rfl := len0 hl'
 obtain ⟨rfl, rfl⟩ := hq'
 obtain ⟨v62, e63, q64⟩ : ∃ v, a'.tmps.getD 26 undef = v ∧ (v = v48) := ⟨_, rfl, hT' 0 (by decide) 26 rfl⟩
 have hE := hE'.add (e63.trans q64)
 refine Step.imp (st_call (vs := [v48]) hE rfl Tryz.call50 (c_block_sealed (hS := hS') (hv47.mono hm') hr51)) ?_
 rintro vv55 w ⟨m52, hm53, hS, hv54⟩
 exact ⟨_, ⟨0, vv55, [], [], []⟩, _, _, hm53, hS, ⟨rfl, rfl⟩, ⟨rfl, hv54⟩⟩
 }
 {
 refine cplain fun pre_ post_ L_ T_ m' a' w' hl' hp' hm' hq' hS' hE' hT' => ?_
 obtain rfl := len0 hl'
 refine Step.imp (Run1.pure (r_move hE' rfl)) ?_
 rintro _ _ ⟨rfl, rfl⟩
 exact ⟨_, M.le.refl _, hS', rfl⟩
 }
 {
 refine cplain fun pre_ post_ L_ T_ m' a' w' hl' hp' hm' hq' hS' hE' hT' => ?_
 obtain rfl := len0 hl'
 refine Step.imp (Run1.pure (r_fieldL hE' fo34_5 rfl)) ?_
 rintro _ _ ⟨rfl, rfl⟩
 exact ⟨_, M.le.refl _, hS', rfl⟩
 }
 {
 refine cplain fun pre_ post_ L_ T_ m' a' w' hl' hp' hm' hq' hS' hE' hT' => ?_
 obtain rfl := len0 hl'
 rcases lenle (a := 0) (n := 0) hp' with h0_ | h0_
 {
 obtain rfl := len0 h0_
 obtain ⟨rfl, rfl⟩ := hq'
 obtain ⟨v67, e68, q69⟩ : ∃ v, a'.tmps.getD 29 undef = v ∧ (v = (.pointer (some ⟨b20, 11, none⟩))) := ⟨_, rfl, hT' 3 (by decide) 29 rfl⟩
 have hE := hE'.add (e68.trans q69)
 refine Step.imp (st_loadL hE hS' ty3 rfl (i := 0) rfl (fl34_5.R_drop (R_whole (kBlock_Info.mono (M.le.trans hm46 hm') hc23)))) ?_
 rintro v70 _ ⟨rfl, hv56⟩
 obtain ⟨rfl, hr71⟩ := RV_int hv56
 exact ⟨_, M.le.refl _, hS', ⟨rfl, hr71⟩⟩
 }
 {
 obtain ⟨⟨_, vv55, _, _, _⟩, post_', rfl, hp1_⟩ := h0_
 obtain rfl := len0 (lenz (a := 0) hp1_)
 obtain ⟨rfl, rfl⟩ := hq'
 obtain ⟨v72, e73, q74⟩ : ∃ v, a'.tmps.getD 29 undef = v ∧ (v = (.pointer (some ⟨b20, 11, none⟩))) := ⟨_, rfl, hT' 3 (by decide) 29 rfl⟩
 have hE := hE'.add (e73.trans q74)
 refine Step.imp (st_loadL hE hS' ty3 rfl (i := 0) rfl (fl34_5.R_drop (R_whole (kBlock_Info.mono (M.le.trans hm46 hm') hc23)))) ?_
 rintro v75 _ ⟨rfl, hv56⟩
 obtain ⟨rfl, hr76⟩ := RV_int hv56
 exact ⟨_, M.le.refl _, hS', ⟨rfl, hr76⟩⟩
 }
 }
 {
 refine cplain fun pre_ post_ L_ T_ m' a' w' hl' hp' hm' hq' hS' hE' hT' => ?_
 obtain rfl := len0 hl'
 obtain ⟨v77, e78, q79⟩ : ∃ v, a'.tmps.getD 28 undef = v ∧ (v = v0) := ⟨_, rfl, hT' 2 (by decide) 28 rfl⟩
 have hE := hE'.add (e78.trans q79)
 obtain ⟨v80, e81, q82⟩ : ∃ v, a'.tmps.getD 30 undef = v ∧ (v = (.int .i64 r5.1.fBytes) ∧ inR .i64 r5.1.fBytes) := ⟨_, rfl, hT' 4 (by decide) 30 rfl⟩
 obtain ⟨q82, hr83⟩ := q82
 have hE := hE.add (e81.trans q82)
 refine Step.imp (st_slice (k := (kInt .u8)) hE rfl Tryz.underlying24 Tryz.sizeOf5 (ha0.mono (M.le.trans hm8 (M.le.trans hm46 hm'))) rfl ⟨_, rfl⟩ hx59 (xl := none) (xh := (some (.tmp 30)))) ?_
 rintro v84 _ ⟨rfl, hv60⟩
 exact ⟨_, M.le.refl _, hS', hv60⟩
 }
 }
 {
 intro ws_ L_ T_ m85 a w hl86 hm87 hq88 hS hd89 hn90 ho91 hT92
 obtain ⟨⟨_, vv55, _, _, _⟩, rfl⟩ := len1 hl86
 obtain ⟨rfl, rfl⟩ := hq88
 have hE := EnvD.of (k := 6) (l' := [(0, v0), (2, (.slice none 0 0)), (3, (.int .i64 0)), (4, (.int .i64 0)), (5, (.pointer (some ⟨b20, 0, none⟩))), (6, v1_10), (7, (.bool r5.2.2)), (8, v48), (12, (.tuple #[v0_9, v1_10, (.bool r5.2.2)])), (13, v0), (14, (.tuple #[v0_9, v1_10, (.bool r5.2.2)])), (15, v0_9), (16, v1_10), (17, (.bool r5.2.2)), (18, (.bool r5.2.2)), (19, (.bool (!r5.2.2))), (20, v0), (21, (.pointer (some ⟨b20, 11, none⟩))), (22, (.int .i64 r5.1.fBytes)), (23, (.int .i64 (IntKind.i64.wrap (r5.1.fBytes - 4)))), (24, v42), (25, v48)]) hd89 hn90 ho91 ⟨rfl, rfl, rfl, rfl, rfl, rfl, rfl, rfl, rfl, rfl, rfl, rfl, rfl, rfl, rfl, rfl, rfl, rfl, rfl, rfl, rfl, rfl, trivial⟩ rfl
 obtain ⟨v93, e94, q95⟩ : ∃ v, a.tmps.getD 27 undef = v ∧ (v = vv55 ∧ RV (kSl (kInt .u8)) m85 v r50) := ⟨_, rfl, hT92 1 (by decide) 27 rfl⟩
 obtain ⟨q96, q95⟩ := q95
 rw [q96] at q95
 have hE := hE.add (e94.trans q96)
 obtain ⟨v97, e98, q99⟩ : ∃ v, a.tmps.getD 31 undef = v ∧ (RV (kSl (kInt .u8)) m85 v x58) := ⟨_, rfl, hT92 5 (by decide) 31 rfl⟩
 have hE := hE.add (e98)
 obtain ⟨r100, hr101, h⟩ := ob h
 refine st hE (st_call (vs := [vv55, v97]) hE rfl Tryz.call61 (c_slices_Equal_byte (hS := hS) q95 q99 hr101)) rfl ?_
 rintro v105 a w ⟨m102, hm103, hS, hv104⟩ hE
 obtain rfl := RV_bool hv104
 refine sp hE (r_not hE rfl) rfl fun a hE => ?_
 refine knil ?_
 refine kif hE rfl (fun hd107 => ?_) (fun hd107 => ?_)
 {
 have h := ite_T hd107 h
 refine kseq (kreg ?_)
 refine qa hE rfl rfl fun a hE => ?_
 refine qa hE rfl rfl fun a hE => ?_
 refine qa hE rfl rfl fun a hE => ?_
 refine knil (kret ?_)
 obtain rfl := oi h
 try dsimp only
 refine Fin.mk hE (rs := [.tmp 2, .tmp 3, .tmp 4]) rfl (ResL.tmp hE rfl (ResL.tmp hE rfl (ResL.tmp hE rfl ResL.nil))) ?_
 exact ⟨_, (M.le.trans hm8 (M.le.trans hm46 (M.le.trans hm87 hm103))), ((hS.dropL 1).dropT 1), _, _, _, rfl, RV_nil, (RV_of_int (show inR .i64 0 from inR_lit (by decide))), (RV_of_int (show inR .i64 71 from inR_lit (by decide)))⟩
 }
 {
 have h := ite_F hd107 h
 refine kskip (kseq (kreg ?_))
 refine sp hE (r_fieldL hE fo34_0 rfl) rfl fun a hE => ?_
 refine st hE (st_loadL hE hS ty3 rfl (i := 0) rfl (fl34_0.R_drop (R_whole (kBlock_Info.mono (M.le.trans hm46 (M.le.trans hm87 hm103)) hc23)))) rfl ?_
 rintro v113 a _ ⟨rfl, hv112⟩ hE
 obtain ⟨rfl, hr114⟩ := RV_int hv112
 refine qm hE rfl rfl fun a hE => ?_
 refine sp hE (r_fieldL hE fo34_1 rfl) rfl fun a hE => ?_
 refine st hE (st_loadL hE hS ty3 rfl (i := 0) rfl (fl34_1.R_drop (R_whole (kBlock_Info.mono (M.le.trans hm46 (M.le.trans hm87 hm103)) hc23)))) rfl ?_
 rintro v118 a _ ⟨rfl, hv117⟩ hE
 obtain ⟨rfl, hr119⟩ := RV_int hv117
 obtain ⟨r120, hr121, h⟩ := ob h
 refine st hE (st_call (vs := [(.int .i64 r5.1.fKind), v1_10, (.int .i64 r5.1.fMany)]) hE rfl Tryz.call62 (c_encode_Decode (hS := hS) hr114 (hv1_13.mono (M.le.trans hm46 (M.le.trans hm87 hm103))) hr119 hr121)) rfl ?_
 rintro _ a w ⟨m122, hm123, hS, v0_124, v1_125, rfl, hv0_126, hv1_127⟩ hE
 obtain ⟨rfl, hr129⟩ := RV_int hv1_127
 refine qm hE rfl rfl fun a hE => ?_
 refine sp hE (r_extract hE rfl rfl) rfl fun a hE => ?_
 refine sp hE (r_extract hE rfl rfl) rfl fun a hE => ?_
 refine qa hE rfl rfl fun a hE => ?_
 refine qa hE rfl rfl fun a hE => ?_
 refine knil (kseq (kseq (kreg ?_)))
 refine qm hE rfl rfl fun a hE => ?_
 refine sp hE (r_bin hE rfl rfl b_neq) rfl fun a hE => ?_
 refine knil ?_
 refine kif hE rfl (fun hd137 => ?_) (fun hd137 => ?_)
 {
 have h := ite_T hd137 h
 refine kseq (kreg ?_)
 refine qa hE rfl rfl fun a hE => ?_
 refine qa hE rfl rfl fun a hE => ?_
 refine qa hE rfl rfl fun a hE => ?_
 refine knil (kret ?_)
 obtain rfl := oi h
 try dsimp only
 refine Fin.mk hE (rs := [.tmp 2, .tmp 3, .tmp 4]) rfl (ResL.tmp hE rfl (ResL.tmp hE rfl (ResL.tmp hE rfl ResL.nil))) ?_
 exact ⟨_, (M.le.trans hm8 (M.le.trans hm46 (M.le.trans hm87 (M.le.trans hm103 hm123)))), ((hS.dropL 1).dropT 1), _, _, _, rfl, RV_nil, (RV_of_int (show inR .i64 0 from inR_lit (by decide))), (RV_of_int (show inR .i64 70 from inR_lit (by decide)))⟩
 }
 {
 have h := ite_F hd137 h
 refine kskip (kseq (kreg ?_))
 refine sp hE (r_fieldL hE fo34_0 rfl) rfl fun a hE => ?_
 refine st hE (st_loadL hE hS ty3 rfl (i := 0) rfl (fl34_0.R_drop (R_whole (kBlock_Info.mono (M.le.trans hm46 (M.le.trans hm87 (M.le.trans hm103 hm123))) hc23)))) rfl ?_
 rintro v143 a _ ⟨rfl, hv142⟩ hE
 obtain ⟨rfl, hr144⟩ := RV_int hv142
 refine qm hE rfl rfl fun a hE => ?_
 obtain ⟨r146, hr147, h⟩ := ob h
 refine st hE (st_call (vs := [(.int .i64 r5.1.fKind), v0_124]) hE rfl Tryz.call48 (c_block_head (hS := hS) hr144 hv0_126 hr147)) rfl ?_
 rintro v151 a w ⟨m148, hm149, hS, hv150⟩ hE
 refine st hE (st_alloc hS Tryz.zeroValue34 rfl (cs := zc34)) rfl ?_
 rintro _ a w ⟨b152, rfl, hS⟩ hE
 refine st0 hE (st_storeF hE hS ty34 StF_self rfl rfl hv150 (i := 0) rfl (zr34 _)) ?_
 rintro _ w ⟨cs154, hc155, hS⟩ hE
 refine knil (kseq (kseq ?_))
 refine kcut (fun a w => ∃ x159 : Bool, block_Read_j1 r5 r120 x159 = some r ∧ ∃ m', M.le m148 m' ∧ S W0 m' w ((b152, cs154) :: (b20, cs22) :: L) (TL) ∧ Env 71 a [(5, (.pointer (some ⟨b20, 0, none⟩))), (9, v0_124), (67, (.bool x159))]) ?_ ?_
 {
 refine kreg ?_
 refine sp hE (r_fieldL hE fo34_4 rfl) rfl fun a hE => ?_
 refine st hE (st_loadL hE hS ty3 rfl (i := 0) rfl (fl34_4.R_drop (R_whole hc155))) rfl ?_
 rintro v197 a _ ⟨rfl, hv196⟩ hE
 obtain ⟨rfl, hr198⟩ := RV_int hv196
 refine sp hE (r_fieldL hE fo34_4 rfl) rfl fun a hE => ?_
 refine st hE (st_loadL hE hS ty3 rfl (i := 1) rfl (fl34_4.R_drop (R_whole (kBlock_Info.mono (M.le.trans hm46 (M.le.trans hm87 (M.le.trans hm103 (M.le.trans hm123 hm149)))) hc23)))) rfl ?_
 rintro v201 a _ ⟨rfl, hv200⟩ hE
 obtain ⟨rfl, hr202⟩ := RV_int hv200
 refine sp hE (r_bin hE rfl rfl b_neq) rfl fun a hE => ?_
 refine qm hE rfl rfl fun a hE => ?_
 rcases Bool.eq_false_or_eq_true (r146.fNulls != r5.1.fNulls) with hd205 | hd205
 {
 have h := ite_T hd205 h
 refine sx hE rfl rfl rfl rfl hd205 rfl fun a hE => ?_
 refine sx hE rfl rfl rfl rfl hd205 rfl fun a hE => ?_
 refine sx hE rfl rfl rfl rfl hd205 rfl fun a hE => ?_
 refine sx hE rfl rfl rfl rfl hd205 rfl fun a hE => ?_
 refine sx hE rfl rfl rfl rfl hd205 rfl fun a hE => ?_
 refine sp hE (r_pickT hE rfl hd205 rfl) rfl fun a hE => ?_
 refine qm hE rfl rfl fun a hE => ?_
 refine sx hE rfl rfl rfl rfl rfl rfl fun a hE => ?_
 refine sx hE rfl rfl rfl rfl rfl rfl fun a hE => ?_
 refine sx hE rfl rfl rfl rfl rfl rfl fun a hE => ?_
 refine sx hE rfl rfl rfl rfl rfl rfl fun a hE => ?_
 refine sx hE rfl rfl rfl rfl rfl rfl fun a hE => ?_
 refine sp hE (r_pickT hE rfl rfl rfl) rfl fun a hE => ?_
 refine knil ?_
 exact ⟨true, h, _, (M.le.refl _), (hS.pickT 1 [] rfl rfl rfl), hE.cut ⟨rfl, rfl, rfl, trivial⟩⟩
 }
 {
 have h := ite_F hd205 h
 refine spg hE rfl rfl rfl rfl hd205 (r_fieldL hE fo34_2 rfl) rfl fun a hE => ?_
 refine stg hE rfl rfl rfl rfl hd205 (st_loadL hE hS ty32 rfl (i := 0) rfl (fl34_2.R_drop (R_whole hc155))) rfl ?_
 rintro v211 a _ ⟨rfl, hv210⟩ hE
 refine spg hE rfl rfl rfl rfl hd205 (r_fieldL hE fo34_2 rfl) rfl fun a hE => ?_
 refine stg hE rfl rfl rfl rfl hd205 (st_loadL hE hS ty32 rfl (i := 1) rfl (fl34_2.R_drop (R_whole (kBlock_Info.mono (M.le.trans hm46 (M.le.trans hm87 (M.le.trans hm103 (M.le.trans hm123 hm149)))) hc23)))) rfl ?_
 rintro v214 a _ ⟨rfl, hv213⟩ hE
 refine spg hE rfl rfl rfl rfl hd205 (r_neqK hE eq32 rfl rfl hv210 hv213 rfl) rfl fun a hE => ?_
 refine sp hE (r_pickF hE rfl hd205 rfl) rfl fun a hE => ?_
 refine qm hE rfl rfl fun a hE => ?_
 rcases Bool.eq_false_or_eq_true (!decide (r146.fMin = r5.1.fMin)) with hd218 | hd218
 {
 have h := ite_T hd218 h
 refine sx hE rfl rfl rfl rfl hd218 rfl fun a hE => ?_
 refine sx hE rfl rfl rfl rfl hd218 rfl fun a hE => ?_
 refine sx hE rfl rfl rfl rfl hd218 rfl fun a hE => ?_
 refine sx hE rfl rfl rfl rfl hd218 rfl fun a hE => ?_
 refine sx hE rfl rfl rfl rfl hd218 rfl fun a hE => ?_
 refine sp hE (r_pickT hE rfl hd218 rfl) rfl fun a hE => ?_
 refine knil ?_
 exact ⟨true, h, _, (M.le.refl _), (hS.pickT 1 [] rfl rfl rfl), hE.cut ⟨rfl, rfl, rfl, trivial⟩⟩
 }
 {
 have h := ite_F hd218 h
 refine spg hE rfl rfl rfl rfl hd218 (r_fieldL hE fo34_3 rfl) rfl fun a hE => ?_
 refine stg hE rfl rfl rfl rfl hd218 (st_loadL hE hS ty32 rfl (i := 0) rfl (fl34_3.R_drop (R_whole hc155))) rfl ?_
 rintro v222 a _ ⟨rfl, hv221⟩ hE
 refine spg hE rfl rfl rfl rfl hd218 (r_fieldL hE fo34_3 rfl) rfl fun a hE => ?_
 refine stg hE rfl rfl rfl rfl hd218 (st_loadL hE hS ty32 rfl (i := 1) rfl (fl34_3.R_drop (R_whole (kBlock_Info.mono (M.le.trans hm46 (M.le.trans hm87 (M.le.trans hm103 (M.le.trans hm123 hm149)))) hc23)))) rfl ?_
 rintro v225 a _ ⟨rfl, hv224⟩ hE
 refine spg hE rfl rfl rfl rfl hd218 (r_neqK hE eq32 rfl rfl hv221 hv224 rfl) rfl fun a hE => ?_
 refine sp hE (r_pickF hE rfl hd218 rfl) rfl fun a hE => ?_
 refine knil ?_
 exact ⟨(!decide (r146.fMax = r5.1.fMax)), h, _, (M.le.refl _), (hS.pickT 1 [] rfl rfl rfl), hE.cut ⟨rfl, rfl, rfl, trivial⟩⟩
 }
 }
 }
 {
 rintro a w ⟨x159, h, m157, hm158, hS, hE⟩
 unfold block_Read_j1 at h
 refine kif hE rfl (fun hd161 => ?_) (fun hd161 => ?_)
 {
 have h := ite_T hd161 h
 refine kseq (kreg ?_)
 refine qa hE rfl rfl fun a hE => ?_
 refine qa hE rfl rfl fun a hE => ?_
 refine qa hE rfl rfl fun a hE => ?_
 refine knil (kret ?_)
 obtain rfl := oi h
 try dsimp only
 refine Fin.mk hE (rs := [.tmp 2, .tmp 3, .tmp 4]) rfl (ResL.tmp hE rfl (ResL.tmp hE rfl (ResL.tmp hE rfl ResL.nil))) ?_
 exact ⟨_, (M.le.trans hm8 (M.le.trans hm46 (M.le.trans hm87 (M.le.trans hm103 (M.le.trans hm123 (M.le.trans hm149 hm158)))))), (hS.dropL 2), _, _, _, rfl, RV_nil, (RV_of_int (show inR .i64 0 from inR_lit (by decide))), (RV_of_int (show inR .i64 70 from inR_lit (by decide)))⟩
 }
 {
 have h := ite_F hd161 h
 refine kskip (kseq ?_)
 refine kchain (k := 4) (m := m157) (es := []) (Φ := (fun i m ws v => match i with | 0 => v = v0_124 | 1 => v = (.pointer (some ⟨b20, 11, none⟩)) | 2 => v = (.int .i64 r5.1.fBytes) ∧ inR .i64 r5.1.fBytes | 3 => v = v0_124 | _ => True)) (Q := (fun c m ws L' TL' => match c with | 0 => (b152, cs154) :: (b20, cs22) :: L = L' ∧ TL = TL' | _ => False)) (cs := [⟨0, 0, false, [(9, v0_124)]⟩, ⟨0, 0, false, [(5, (.pointer (some ⟨b20, 0, none⟩)))]⟩, ⟨0, 0, false, []⟩, ⟨0, 0, false, []⟩]) mixed hE hS ⟨rfl, rfl⟩ rfl rfl ⟨⟨rfl, trivial⟩, ⟨rfl, trivial⟩, trivial, trivial, trivial⟩ (by kernel_rfl) ?_ ?_ ?_ ?_
 {
 intro i m_ m2_ ws v hm_ hp_
 match i, hp_ with
 | 0, hp_ => exact hp_
 | 1, hp_ => exact hp_
 | 2, hp_ => exact hp_
 | 3, hp_ => exact hp_
 | _ + 4, hp_ => exact trivial
 }
 {
 intro c m_ m2_ ws L_ T_ hm_ hq_
 match c, hq_ with
 | 0, ⟨e1_, e2_⟩ => exact ⟨e1_, e2_⟩
 | _ + 1, hq_ => exact hq_.elim
 }
 {
 refine ⟨?_, ?_, ?_, ?_, trivial⟩
 {
 refine cplain fun pre_ post_ L_ T_ m' a' w' hl' hp' hm' hq' hS' hE' hT' => ?_
 obtain rfl := len0 hl'
 refine Step.imp (Run1.pure (r_move hE' rfl)) ?_
 rintro _ _ ⟨rfl, rfl⟩
 exact ⟨_, M.le.refl _, hS', rfl⟩
 }
 {
 refine cplain fun pre_ post_ L_ T_ m' a' w' hl' hp' hm' hq' hS' hE' hT' => ?_
 obtain rfl := len0 hl'
 refine Step.imp (Run1.pure (r_fieldL hE' fo34_5 rfl)) ?_
 rintro _ _ ⟨rfl, rfl⟩
 exact ⟨_, M.le.refl _, hS', rfl⟩
 }
 {
 refine cplain fun pre_ post_ L_ T_ m' a' w' hl' hp' hm' hq' hS' hE' hT' => ?_
 obtain rfl := len0 hl'
 obtain rfl := len0 (lenz (a := 0) hp')
 obtain ⟨rfl, rfl⟩ := hq'
 obtain ⟨v169, e170, q171⟩ : ∃ v, a'.tmps.getD 69 undef = v ∧ (v = (.pointer (some ⟨b20, 11, none⟩))) := ⟨_, rfl, hT' 1 (by decide) 69 rfl⟩
 have hE := hE'.add (e170.trans q171)
 refine Step.imp (st_loadL hE hS' ty3 rfl (i := 1) rfl (fl34_5.R_drop (R_whole (kBlock_Info.mono (M.le.trans hm46 (M.le.trans hm87 (M.le.trans hm103 (M.le.trans hm123 (M.le.trans hm149 (M.le.trans hm158 hm')))))) hc23)))) ?_
 rintro v172 _ ⟨rfl, hv165⟩
 obtain ⟨rfl, hr173⟩ := RV_int hv165
 exact ⟨_, M.le.refl _, hS', ⟨rfl, hr173⟩⟩
 }
 {
 refine cplain fun pre_ post_ L_ T_ m' a' w' hl' hp' hm' hq' hS' hE' hT' => ?_
 obtain rfl := len0 hl'
 obtain ⟨v174, e175, q176⟩ : ∃ v, a'.tmps.getD 68 undef = v ∧ (v = v0_124) := ⟨_, rfl, hT' 0 (by decide) 68 rfl⟩
 have hE := hE'.add (e175.trans q176)
 refine Step.imp (Run1.pure (r_assign hE rfl)) ?_
 rintro _ _ ⟨rfl, rfl⟩
 exact ⟨_, M.le.refl _, hS', rfl⟩
 }
 }
 {
 intro ws_ L_ T_ m178 a w hl179 hm180 hq181 hS hd182 hn183 ho184 hT185
 obtain rfl := len0 hl179
 obtain ⟨rfl, rfl⟩ := hq181
 have hE := EnvD.of (k := 4) (l' := [(5, (.pointer (some ⟨b20, 0, none⟩))), (9, v0_124), (67, (.bool x159))]) hd182 hn183 ho184 ⟨rfl, rfl, rfl, trivial⟩ rfl
 obtain ⟨v186, e187, q188⟩ : ∃ v, a.tmps.getD 70 undef = v ∧ (v = (.int .i64 r5.1.fBytes) ∧ inR .i64 r5.1.fBytes) := ⟨_, rfl, hT185 2 (by decide) 70 rfl⟩
 obtain ⟨q188, hr189⟩ := q188
 have hE := hE.add (e187.trans q188)
 obtain ⟨v190, e191, q192⟩ : ∃ v, a.tmps.getD 2 undef = v ∧ (v = v0_124) := ⟨_, rfl, hT185 3 (by decide) 2 rfl⟩
 have hE := hE.add (e191.trans q192)
 refine qa hE rfl rfl fun a hE => ?_
 refine qa hE rfl rfl fun a hE => ?_
 refine knil (kret ?_)
 obtain rfl := oi h
 try dsimp only
 refine Fin.mk hE (rs := [.tmp 2, .tmp 3, .tmp 4]) rfl (ResL.tmp hE rfl (ResL.tmp hE rfl (ResL.tmp hE rfl ResL.nil))) ?_
 exact ⟨_, (M.le.trans hm8 (M.le.trans hm46 (M.le.trans hm87 (M.le.trans hm103 (M.le.trans hm123 (M.le.trans hm149 (M.le.trans hm158 hm180))))))), (hS.dropL 2), _, _, _, rfl, (hv0_126.mono (M.le.trans hm149 (M.le.trans hm158 hm180))), (RV_of_int hr189), (RV_of_int (show inR .i64 0 from inR_lit (by decide)))⟩
 }
 }
 }
 }
 }
 }
 }
theorem ct_21 : Ctr Sz Tryz.prog 21 [.rd (.sl (.int .u8))] [.rd (.sl (.st 32)), .rd (.int .i64), .rd (.int .i64)] (fun x => block_Read x.1) := by
 intro W0 m w L TL vs x r Lp Tp hS hP h
 obtain ⟨v0, vs, rfl, a0, hP0⟩ := PR_rd hP
 obtain ⟨rfl, rfl, rfl⟩ := PR_nil hP0
 refine (c_block_Read (hS := hS) a0 h).mono ?_
 intro e w' he
 cases e with
 | returned v =>
  obtain ⟨m', hm, hS', u0, u1, u2, rfl, r0, r1, r2⟩ := he
  exact ⟨m', [u0, u1, u2], [], [], [], hm, hS', rfl, ⟨r0, ⟨r1, ⟨r2, trivial⟩⟩⟩, trivial⟩
 | panicked ch => exact he.elim
 | outgrown => exact he.elim
noncomputable def cs_21 : CS Tryz.prog Sz := ⟨21, _, _, _, ct_21, Tryz.call21⟩
theorem ct_17 : Ctr Sz Tryz.prog 17 [] [.rd .bool] (fun x => l7_alive ) :=
 Ctr.nc (Γ := Γ) (D := [cs_15, cs_19, cs_21]) (c := Tryz.f17.body.getD .skip) (res := [0]) .o rfl mixed Tryz.func17 rfl Tryz.ntmps17 rfl rfl (fun x => by kernel_rfl)
theorem c_l7_alive {W0 : Bse} {m : M} {w : World} {L : List (Nat × List Value)} {TL : List (Nat × Value)} (hS : S W0 m w (L) (TL))  {r : Bool} (h : l7_alive = some r) :
    Calls Tryz.prog 17 [].toArray w (Ret fun v w' => ∃ m', M.le m m' ∧ S W0 m' w' (L) (TL) ∧ RV kBool m' v r) := by
 refine (ct_17 W0 m w L TL [] (()) r [] [] hS trivial h).mono ?_
 intro e w' he
 cases e with
 | returned v =>
  obtain ⟨m', us, Lr, Lq, Tr, hm, hS', rfl, hR, hO⟩ := he
  obtain ⟨u0, us, rfl, r0, hR0⟩ := RR_rd hR
  obtain ⟨rfl, rfl, rfl⟩ := RR_nil hR0
  obtain rfl := OR_nil hO
  exact ⟨m', hm, hS', r0⟩
 | panicked ch => exact he.elim
 | outgrown => exact he.elim
theorem ct_59 : Ctr Sz Tryz.prog 59 [.rd (.sl (.int .u8))] [.rd (.int .u64)] (fun x => r3_Said x.1) :=
 Ctr.nc (Γ := Γ) (D := []) (c := Tryz.f59.body.getD .skip) (res := [2]) (.s .o (.s .o (.s (.s .o (.b (.l ⟨[.v 3 1 (.dat (.int .u64) none), .v 4 1 (.dat (.int .i64) none)], [0], 0, []⟩ .o))) .o))) rfl mixed Tryz.func59 rfl Tryz.ntmps59 rfl rfl (fun x => by kernel_rfl)
noncomputable def cs_59 : CS Tryz.prog Sz := ⟨59, _, _, _, ct_59, Tryz.call59⟩
theorem c_r3_Said {W0 : Bse} {m : M} {w : World} {L : List (Nat × List Value)} {TL : List (Nat × Value)} (hS : S W0 m w (L) (TL)) {v0 : Value} {p0 : (List Int)} (ha0 : RV (kSl (kInt .u8)) m v0 p0) {r : Int} (h : r3_Said p0 = some r) :
    Calls Tryz.prog 59 [v0].toArray w (Ret fun v w' => ∃ m', M.le m m' ∧ S W0 m' w' (L) (TL) ∧ RV (kInt .u64) m' v r) := by
 refine (ct_59 W0 m w L TL [v0] (p0, ()) r [] [] hS ⟨ha0, trivial⟩ h).mono ?_
 intro e w' he
 cases e with
 | returned v =>
  obtain ⟨m', us, Lr, Lq, Tr, hm, hS', rfl, hR, hO⟩ := he
  obtain ⟨u0, us, rfl, r0, hR0⟩ := RR_rd hR
  obtain ⟨rfl, rfl, rfl⟩ := RR_nil hR0
  have hO0 := OR_rd hO
  obtain rfl := OR_nil hO0
  exact ⟨m', hm, hS', r0⟩
 | panicked ch => exact he.elim
 | outgrown => exact he.elim
theorem ct_58 : Ctr Sz Tryz.prog 58 [.rd (.sl (.int .u8))] [.rd (.st 32), .rd (.int .i64)] (fun x => r3_Front x.1) :=
 Ctr.nX (Γ := Γ) (D := [cs_59]) (c := Tryz.f58.body.getD .skip) (res := [.cell 2 32, .tmp 3]) .o rfl mixed Tryz.func58 rfl Tryz.ntmps58 rfl rfl (fun x => by kernel_rfl)
noncomputable def cs_58 : CS Tryz.prog Sz := ⟨58, _, _, _, ct_58, Tryz.call58⟩
theorem ct_20 : Ctr Sz Tryz.prog 20 [.rd (.sl (.int .u8))] [.rd (.st 37), .rd (.int .i64), .rd (.int .i64)] (fun x => r7_Head x.1) :=
 Ctr.nX (Γ := Γ) (D := [cs_58, cs_59]) (c := Tryz.f20.body.getD .skip) (res := [.cell 2 37, .tmp 3, .tmp 4]) .o rfl mixed Tryz.func20 rfl Tryz.ntmps20 rfl rfl (fun x => by kernel_rfl)
noncomputable def cs_20 : CS Tryz.prog Sz := ⟨20, _, _, _, ct_20, Tryz.call20⟩
theorem ct_121 : Ctr Sz Tryz.prog 121 [.rd (.sl (.int .u8)), .rd (.int .i64)] [.ap (.st 32)] (fun x => r6_plain x.1 x.2.1) :=
 Ctr.nc (Γ := Γ) (D := [cs_58]) (c := Tryz.f121.body.getD .skip) (res := [4]) (.s .o (.s .o (.s .o (.s (.s .o (.b (.l ⟨[.v 5 1 (.dat (.sl (.st 32)) (some 0)), .v 6 1 (.dat (.int .i64) none), .v 7 1 (.dat (.int .i64) none)], [0, 1], 0, [4]⟩ .o))) .o)))) rfl mixed Tryz.func121 rfl Tryz.ntmps121 rfl rfl (fun x => by kernel_rfl)
noncomputable def cs_121 : CS Tryz.prog Sz := ⟨121, _, _, _, ct_121, Tryz.call121⟩
theorem ct_122 : Ctr Sz Tryz.prog 122 [.rd (.sl (.int .u8)), .rd (.int .i64)] [.ap (.st 32)] (fun x => r6_runs x.1 x.2.1) :=
 Ctr.nc (Γ := Γ) (D := [cs_58]) (c := Tryz.f122.body.getD .skip) (res := [4]) (.s .o (.s .o (.s .o (.s (.b (.l ⟨[.v 5 1 (.dat (.sl (.st 32)) (some 0)), .v 6 1 (.dat (.int .i64) none)], [0, 1], 0, [4]⟩ (.s .o (.b (.s .o (.s .o (.s (.s .o (.b (.l ⟨[.v 5 2 (.dat (.sl (.st 32)) (some 0)), .v 9 2 (.dat (.int .i64) none)], [0, 1, 6, 7, 8], 1, [4]⟩ .o))) .o))))))) .o)))) rfl mixed Tryz.func122 rfl Tryz.ntmps122 rfl rfl (fun x => by kernel_rfl)
noncomputable def cs_122 : CS Tryz.prog Sz := ⟨122, _, _, _, ct_122, Tryz.call122⟩
theorem ct_123 : Ctr Sz Tryz.prog 123 [.rd (.sl (.int .u8)), .rd (.int .i64)] [.ap (.st 32)] (fun x => r6_deltas x.1 x.2.1) :=
 Ctr.nc (Γ := Γ) (D := [cs_59]) (c := Tryz.f123.body.getD .skip) (res := [4]) (.s .o (.s .o (.s .o (.s .o (.s .o (.s .o (.s (.s .o (.b (.l ⟨[.v 5 1 (.dat (.int .i64) none), .v 6 1 (.dat (.sl (.st 32)) (some 0)), .v 7 1 (.dat (.int .u64) none), .v 8 1 (.dat (.int .i64) none), .v 9 1 (.dat (.int .i64) none)], [0, 1], 0, [4]⟩ .o))) .o))))))) rfl mixed Tryz.func123 rfl Tryz.ntmps123 rfl rfl (fun x => by kernel_rfl)
noncomputable def cs_123 : CS Tryz.prog Sz := ⟨123, _, _, _, ct_123, Tryz.call123⟩
theorem ct_170 : Ctr Sz Tryz.prog 170 [.rd (.sl (.int .u8)), .rd (.int .i64), .rd (.int .i64)] [.rd (.int .u64)] (fun x => r6_unpacked x.1 x.2.1 x.2.2.1) :=
 Ctr.nc (Γ := Γ) (D := []) (c := Tryz.f170.body.getD .skip) (res := [6]) (.s .o (.s .o (.s (.s .o (.b (.l ⟨[.v 7 1 (.dat (.int .u64) none), .v 8 1 (.dat (.int .i64) none)], [0, 1, 2], 0, []⟩ .o))) .o))) rfl mixed Tryz.func170 rfl Tryz.ntmps170 rfl rfl (fun x => by kernel_rfl)
noncomputable def cs_170 : CS Tryz.prog Sz := ⟨170, _, _, _, ct_170, Tryz.call170⟩
theorem c_r6_unpacked {W0 : Bse} {m : M} {w : World} {L : List (Nat × List Value)} {TL : List (Nat × Value)} (hS : S W0 m w (L) (TL)) {v0 : Value} {p0 : (List Int)} (ha0 : RV (kSl (kInt .u8)) m v0 p0) {p1 : Int} (ha1 : inR .i64 p1) {p2 : Int} (ha2 : inR .i64 p2) {r : Int} (h : r6_unpacked p0 p1 p2 = some r) :
    Calls Tryz.prog 170 [v0, (.int .i64 p1), (.int .i64 p2)].toArray w (Ret fun v w' => ∃ m', M.le m m' ∧ S W0 m' w' (L) (TL) ∧ RV (kInt .u64) m' v r) := by
 refine (ct_170 W0 m w L TL [v0, (.int .i64 p1), (.int .i64 p2)] (p0, p1, p2, ()) r [] [] hS ⟨ha0, ⟨RV_of_int ha1, ⟨RV_of_int ha2, trivial⟩⟩⟩ h).mono ?_
 intro e w' he
 cases e with
 | returned v =>
  obtain ⟨m', us, Lr, Lq, Tr, hm, hS', rfl, hR, hO⟩ := he
  obtain ⟨u0, us, rfl, r0, hR0⟩ := RR_rd hR
  obtain ⟨rfl, rfl, rfl⟩ := RR_nil hR0
  have hO0 := OR_rd hO
  have hO1 := OR_rd hO0
  have hO2 := OR_rd hO1
  obtain rfl := OR_nil hO2
  exact ⟨m', hm, hS', r0⟩
 | panicked ch => exact he.elim
 | outgrown => exact he.elim
theorem ct_124 : Ctr Sz Tryz.prog 124 [.rd (.sl (.int .u8)), .rd (.int .i64)] [.ap (.st 32)] (fun x => r6_dicts x.1 x.2.1) :=
 Ctr.nc (Γ := Γ) (D := [cs_58, cs_162, cs_170]) (c := Tryz.f124.body.getD .skip) (res := [4]) (.s .o (.s .o (.s .o (.s .o (.s (.s .o (.b (.l ⟨[.v 5 1 (.dat (.sl (.st 32)) (some 0)), .v 6 1 (.dat (.int .i64) none), .v 7 1 (.dat (.int .i64) none)], [0, 1], 0, [4]⟩ .o))) (.s .o (.s .o (.s .o (.s .o (.s (.s .o (.b (.l ⟨[.v 11 1 (.dat (.sl (.st 32)) (some 1)), .v 12 1 (.dat (.int .i64) none)], [0, 1, 5, 6, 10], 0, [4, 4]⟩ .o))) .o)))))))))) rfl mixed Tryz.func124 rfl Tryz.ntmps124 rfl rfl (fun x => by kernel_rfl)
noncomputable def cs_124 : CS Tryz.prog Sz := ⟨124, _, _, _, ct_124, Tryz.call124⟩
theorem c_r6_smalls {W0 : Bse} {m : M} {w : World} {L : List (Nat × List Value)} {TL : List (Nat × Value)} (hS : S W0 m w (L) (TL)) {v0 : Value} {p0 : (List Int)} (ha0 : RV (kSl (kInt .u8)) m v0 p0) {p1 : Int} (ha1 : inR .i64 p1) {r : (List Ap)} (h : r6_smalls p0 p1 = some r) :
    Calls Tryz.prog 125 [v0, (.int .i64 p1)].toArray w (Ret fun v w' => ∃ m', M.le m m' ∧ S W0 m' w' (L) ((4, v) :: TL) ∧ RV (kSl kAp) m' v r) := by
 refine kcall Tryz.func125 rfl Tryz.ntmps125 (Nat.le_of_ble_eq_true rfl) fun a hE => ?_
 have hE : Env 55 a [(0, v0), (1, (.int .i64 p1))] := hE
 unfold r6_smalls at h
 refine kseq (kreg ?_)
 refine qa hE rfl rfl fun a hE => ?_
 refine knil (kseq (kseq ?_))
 refine kcut (fun a w => ∃ x4 : Bool, r6_smalls_j1 p0 p1 x4 = some r ∧ ∃ m', M.le m m' ∧ S W0 m' w (L) (TL) ∧ Env 55 a [(0, v0), (1, (.int .i64 p1)), (30, (.bool x4))]) ?_ ?_
 {
 refine kreg ?_
 refine qm hE rfl rfl fun a hE => ?_
 refine sp hE (r_lenSl (k := (kInt .u8)) hE rfl rfl Tryz.underlying24 ha0) rfl fun a hE => ?_
 refine sp hE (r_bin hE rfl rfl b_lss) rfl fun a hE => ?_
 refine qm hE rfl rfl fun a hE => ?_
 rcases Bool.eq_false_or_eq_true (decide ((p0.length : Int) < 9)) with hd149 | hd149
 {
 have h := ite_T hd149 h
 refine sx hE rfl rfl rfl rfl hd149 rfl fun a hE => ?_
 refine sx hE rfl rfl rfl rfl hd149 rfl fun a hE => ?_
 refine sx hE rfl rfl rfl rfl hd149 rfl fun a hE => ?_
 refine sx hE rfl rfl rfl rfl hd149 rfl fun a hE => ?_
 refine sp hE (r_pickT hE rfl hd149 rfl) rfl fun a hE => ?_
 refine qm hE rfl rfl fun a hE => ?_
 refine sx hE rfl rfl rfl rfl rfl rfl fun a hE => ?_
 refine sx hE rfl rfl rfl rfl rfl rfl fun a hE => ?_
 refine sx hE rfl rfl rfl rfl rfl rfl fun a hE => ?_
 refine sx hE rfl rfl rfl rfl rfl rfl fun a hE => ?_
 refine sx hE rfl rfl rfl rfl rfl rfl fun a hE => ?_
 refine sx hE rfl rfl rfl rfl rfl rfl fun a hE => ?_
 refine sx hE rfl rfl rfl rfl rfl rfl fun a hE => ?_
 refine sx hE rfl rfl rfl rfl rfl rfl fun a hE => ?_
 refine sx hE rfl rfl rfl rfl rfl rfl fun a hE => ?_
 refine sx hE rfl rfl rfl rfl rfl rfl fun a hE => ?_
 refine sx hE rfl rfl rfl rfl rfl rfl fun a hE => ?_
 refine sx hE rfl rfl rfl rfl rfl rfl fun a hE => ?_
 refine sp hE (r_pickT hE rfl rfl rfl) rfl fun a hE => ?_
 refine knil ?_
 exact ⟨true, h, _, (M.le.refl _), hS, hE.cut ⟨rfl, rfl, rfl, trivial⟩⟩
 }
 {
 have h := ite_F hd149 h
 refine spg hE rfl rfl rfl rfl hd149 (r_move hE rfl) rfl fun a hE => ?_
 obtain ⟨x154, hx155, h⟩ := ob h
 refine stg hE rfl rfl rfl rfl hd149 (st_index (k := (kInt .u8)) hE rfl rfl Tryz.underlying24 Tryz.sizeOf5 ha0 hx155) rfl ?_
 rintro v157 a _ ⟨rfl, hp156⟩ hE
 refine stg hE rfl rfl rfl rfl hd149 (st_loadM hE hS ty5 rfl hp156) rfl ?_
 rintro v159 a _ ⟨rfl, hv158⟩ hE
 obtain ⟨rfl, hr160⟩ := RV_int hv158
 refine spg hE rfl rfl rfl rfl hd149 (r_bin hE rfl rfl b_gtr) rfl fun a hE => ?_
 refine sp hE (r_pickF hE rfl hd149 rfl) rfl fun a hE => ?_
 refine qm hE rfl rfl fun a hE => ?_
 rcases Bool.eq_false_or_eq_true (decide (64 < x154)) with hd164 | hd164
 {
 have h := ite_T hd164 h
 refine sx hE rfl rfl rfl rfl hd164 rfl fun a hE => ?_
 refine sx hE rfl rfl rfl rfl hd164 rfl fun a hE => ?_
 refine sx hE rfl rfl rfl rfl hd164 rfl fun a hE => ?_
 refine sx hE rfl rfl rfl rfl hd164 rfl fun a hE => ?_
 refine sx hE rfl rfl rfl rfl hd164 rfl fun a hE => ?_
 refine sx hE rfl rfl rfl rfl hd164 rfl fun a hE => ?_
 refine sx hE rfl rfl rfl rfl hd164 rfl fun a hE => ?_
 refine sx hE rfl rfl rfl rfl hd164 rfl fun a hE => ?_
 refine sx hE rfl rfl rfl rfl hd164 rfl fun a hE => ?_
 refine sx hE rfl rfl rfl rfl hd164 rfl fun a hE => ?_
 refine sx hE rfl rfl rfl rfl hd164 rfl fun a hE => ?_
 refine sx hE rfl rfl rfl rfl hd164 rfl fun a hE => ?_
 refine sp hE (r_pickT hE rfl hd164 rfl) rfl fun a hE => ?_
 refine knil ?_
 exact ⟨true, h, _, (M.le.refl _), hS, hE.cut ⟨rfl, rfl, rfl, trivial⟩⟩
 }
 {
 have h := ite_F hd164 h
 refine spg hE rfl rfl rfl rfl hd164 (r_move hE rfl) rfl fun a hE => ?_
 refine spg hE rfl rfl rfl rfl hd164 (r_lenSl (k := (kInt .u8)) hE rfl rfl Tryz.underlying24 ha0) rfl fun a hE => ?_
 refine spg hE rfl rfl rfl rfl hd164 (r_move hE rfl) rfl fun a hE => ?_
 refine spg hE rfl rfl rfl rfl hd164 (r_move hE rfl) rfl fun a hE => ?_
 obtain ⟨x170, hx171, h⟩ := ob h
 refine stg hE rfl rfl rfl rfl hd164 (st_index (k := (kInt .u8)) hE rfl rfl Tryz.underlying24 Tryz.sizeOf5 ha0 hx171) rfl ?_
 rintro v173 a _ ⟨rfl, hp172⟩ hE
 refine stg hE rfl rfl rfl rfl hd164 (st_loadM hE hS ty5 rfl hp172) rfl ?_
 rintro v175 a _ ⟨rfl, hv174⟩ hE
 obtain ⟨rfl, hr176⟩ := RV_int hv174
 refine spg hE rfl rfl rfl rfl hd164 (r_conv hE rfl Tryz.underlying5 Tryz.underlying3 rfl) rfl fun a hE => ?_
 refine spg hE rfl rfl rfl rfl hd164 (r_bin hE rfl rfl (b_mul rfl)) rfl fun a hE => ?_
 refine spg hE rfl rfl rfl rfl hd164 (r_bin hE rfl rfl (b_add rfl)) rfl fun a hE => ?_
 refine spg hE rfl rfl rfl rfl hd164 (r_bin hE rfl rfl (b_quo rfl (by decide))) rfl fun a hE => ?_
 refine spg hE rfl rfl rfl rfl hd164 (r_bin hE rfl rfl (b_add rfl)) rfl fun a hE => ?_
 refine spg hE rfl rfl rfl rfl hd164 (r_bin hE rfl rfl b_neq) rfl fun a hE => ?_
 refine sp hE (r_pickF hE rfl hd164 rfl) rfl fun a hE => ?_
 refine knil ?_
 exact ⟨((p0.length : Int) != (IntKind.i64.wrap (9 + (IntKind.i64.wrap ((IntKind.i64.wrap ((IntKind.i64.wrap (p1 * (IntKind.i64.wrap x170))) + 7)).tdiv 8))))), h, _, (M.le.refl _), hS, hE.cut ⟨rfl, rfl, rfl, trivial⟩⟩
 }
 }
 }
 {
 rintro a w ⟨x4, h, m2, hm3, hS, hE⟩
 unfold r6_smalls_j1 at h
 refine kif hE rfl (fun hd6 => ?_) (fun hd6 => ?_)
 {
 have h := ite_T hd6 h
 refine kseq (kreg ?_)
 refine qa hE rfl rfl fun a hE => ?_
 refine knil (kret ?_)
 obtain rfl := oi h
 try dsimp only
 refine Fin.mk hE (rs := [.tmp 4]) rfl (ResL.tmp hE rfl ResL.nil) ?_
 exact ⟨_, hm3, ((hS.dropT 0).tail0 4), RV_nil⟩
 }
 {
 have h := ite_F hd6 h
 refine kskip (kseq (kreg ?_))
 refine qm hE rfl rfl fun a hE => ?_
 obtain ⟨x9, hx10, h⟩ := ob h
 refine st hE (st_slice (k := (kInt .u8)) hE rfl Tryz.underlying24 Tryz.sizeOf5 (ha0.mono hm3) rfl ⟨_, rfl⟩ hx10 (xl := none) (xh := (some (.const (.int .i64 8))))) rfl ?_
 rintro v12 a _ ⟨rfl, hv11⟩ hE
 obtain ⟨r13, hr14, h⟩ := ob h
 refine st hE (st_call (vs := [v12]) hE rfl Tryz.call59 (c_r3_Said (hS := hS) hv11 hr14)) rfl ?_
 rintro v18 a w ⟨m15, hm16, hS, hv17⟩ hE
 obtain ⟨rfl, hr19⟩ := RV_int hv17
 refine qa hE rfl rfl fun a hE => ?_
 refine knil (kseq (kreg ?_))
 refine qa hE rfl rfl fun a hE => ?_
 refine knil (kseq (kseq (kreg ?_)))
 refine qa hE rfl rfl fun a hE => ?_
 refine knil ?_
 refine kcut (fun a w => ∃ x25 : (List Ap), r6_smalls_j2 x25 = some r ∧ ∃ m', M.le m15 m' ∧ ∃ (v26 : Value), RV (kSl kAp) m' v26 x25 ∧ S W0 m' w (L) ((4, v26) :: TL) ∧ Env 55 a [(6, v26)]) ?_ ?_
 {
 refine kblock ?_
 refine kloop h (fun (s : ((List Ap) × Int)) a w => ∃ m', M.le m15 m' ∧ ∃ (v34 : Value), RV (kSl kAp) m' v34 s.1 ∧ inR .i64 s.2 ∧ S W0 m' w (L) ((4, v34) :: TL) ∧ Env 55 a [(0, v0), (1, (.int .i64 p1)), (5, (.int .u64 r13)), (6, v34), (7, (.int .i64 s.2))]) ?_ ?_
 {
 exact ⟨_, (M.le.refl _), (.slice none 0 0), RV_nil, (show inR .i64 0 from inR_lit (by decide)), (hS.tail0 4), hE.cut ⟨rfl, rfl, rfl, rfl, rfl, trivial⟩⟩
 }
 {
 rintro ⟨x33, x36⟩ a w ⟨m31, hm32, v34, hv35, hr37, hS, hE⟩ r38 h hb39
 have h : r6_smalls_b1 p0 p1 r13 x33 x36 = some r38 := h
 unfold r6_smalls_b1 at h
 refine kseq (kseq (kreg ?_))
 refine qm hE rfl rfl fun a hE => ?_
 refine qm hE rfl rfl fun a hE => ?_
 refine sp hE (r_bin hE rfl rfl b_lss) rfl fun a hE => ?_
 refine knil ?_
 refine kif hE rfl (fun hd43 => ?_) (fun hd43 => ?_)
 {
 have h := ite_T hd43 h
 refine kskip (kseq (kblock ?_))
 obtain ⟨x44, hx45, h⟩ := ob h
 obtain ⟨x47, hx48, h⟩ := ob h
 obtain ⟨r52, hr53, h⟩ := ob h
 refine kchain (k := 14) (m := m31) (es := []) (Φ := (fun i m ws v => match i with | 0 => v = v34 | 1 => v = (.int .u64 r13) ∧ inR .u64 r13 | 2 => v = v0 | 3 => RV (kSl (kInt .u8)) m v x44 | 4 => v = v0 | 5 => PR (kInt .u8) m v x47 | 6 => v = (.int .u8 x47) ∧ inR .u8 x47 | 7 => v = (.int .i64 (IntKind.i64.wrap x47)) ∧ inR .i64 (IntKind.i64.wrap x47) | 8 => v = (.int .i64 x36) ∧ inR .i64 x36 | 9 => v = (.int .u64 r52) ∧ inR .u64 r52 | 10 => v = (.int .u64 (IntKind.u64.wrap (r13 + r52))) ∧ inR .u64 (IntKind.u64.wrap (r13 + r52)) | 11 => v = (.int .i64 (IntKind.i64.wrap (IntKind.u64.wrap (r13 + r52)))) ∧ inR .i64 (IntKind.i64.wrap (IntKind.u64.wrap (r13 + r52))) | 12 => RV kAp m v (⟨2, false, IntKind.i64.wrap (IntKind.u64.wrap (r13 + r52)), []⟩ : Ap) | 13 => RV (kSl kAp) m v ([(⟨2, false, IntKind.i64.wrap (IntKind.u64.wrap (r13 + r52)), []⟩ : Ap)]) | _ => True)) (Q := (fun c m ws L' TL' => match c with | 0 => L = L' ∧ (4, v34) :: TL = TL' | _ => False)) (cs := [⟨0, 0, false, [(6, v34)]⟩, ⟨0, 0, false, [(5, (.int .u64 r13))]⟩, ⟨0, 0, false, [(0, v0)]⟩, ⟨0, 0, false, []⟩, ⟨0, 0, false, [(0, v0)]⟩, ⟨0, 0, false, []⟩, ⟨0, 0, false, []⟩, ⟨0, 0, false, []⟩, ⟨0, 0, false, [(7, (.int .i64 x36))]⟩, ⟨0, 0, false, []⟩, ⟨0, 0, false, []⟩, ⟨0, 0, false, []⟩, ⟨0, 0, false, []⟩, ⟨0, 0, false, []⟩]) mixed hE hS ⟨rfl, rfl⟩ rfl rfl ⟨⟨rfl, trivial⟩, ⟨rfl, trivial⟩, ⟨rfl, trivial⟩, trivial, ⟨rfl, trivial⟩, trivial, trivial, trivial, ⟨rfl, trivial⟩, trivial, trivial, trivial, trivial, trivial, trivial⟩ (by kernel_rfl) ?_ ?_ ?_ ?_
 {
 intro i m_ m2_ ws v hm_ hp_
 match i, hp_ with
 | 0, hp_ => exact hp_
 | 1, hp_ => exact hp_
 | 2, hp_ => exact hp_
 | 3, hp_ => exact RV.mono hp_ hm_
 | 4, hp_ => exact hp_
 | 5, hp_ => exact PR.mono hp_ hm_
 | 6, hp_ => exact hp_
 | 7, hp_ => exact hp_
 | 8, hp_ => exact hp_
 | 9, hp_ => exact hp_
 | 10, hp_ => exact hp_
 | 11, hp_ => exact hp_
 | 12, hp_ => exact RV.mono hp_ hm_
 | 13, hp_ => exact RV.mono hp_ hm_
 | _ + 14, hp_ => exact trivial
 }
 {
 intro c m_ m2_ ws L_ T_ hm_ hq_
 match c, hq_ with
 | 0, ⟨e1_, e2_⟩ => exact ⟨e1_, e2_⟩
 | _ + 1, hq_ => exact hq_.elim
 }
 {
 refine ⟨?_, ?_, ?_, ?_, ?_, ?_, ?_, ?_, ?_, ?_, ?_, ?_, ?_, ?_, trivial⟩
 {
 refine cplain fun pre_ post_ L_ T_ m' a' w' hl' hp' hm' hq' hS' hE' hT' => ?_
 obtain rfl := len0 hl'
 refine Step.imp (Run1.pure (r_move hE' rfl)) ?_
 rintro _ _ ⟨rfl, rfl⟩
 exact ⟨_, M.le.refl _, hS', rfl⟩
 }
 {
 refine cplain fun pre_ post_ L_ T_ m' a' w' hl' hp' hm' hq' hS' hE' hT' => ?_
 obtain rfl := len0 hl'
 refine Step.imp (Run1.pure (r_move hE' rfl)) ?_
 rintro _ _ ⟨rfl, rfl⟩
 exact ⟨_, M.le.refl _, hS', ⟨rfl, hr19⟩⟩
 }
 {
 refine cplain fun pre_ post_ L_ T_ m' a' w' hl' hp' hm' hq' hS' hE' hT' => ?_
 obtain rfl := len0 hl'
 refine Step.imp (Run1.pure (r_move hE' rfl)) ?_
 rintro _ _ ⟨rfl, rfl⟩
 exact ⟨_, M.le.refl _, hS', rfl⟩
 }
 {
 refine cplain fun pre_ post_ L_ T_ m' a' w' hl' hp' hm' hq' hS' hE' hT' => ?_
 obtain rfl := len0 hl'
 obtain ⟨v65, e66, q67⟩ : ∃ v, a'.tmps.getD 41 undef = v ∧ (v = v0) := ⟨_, rfl, hT' 2 (by decide) 41 rfl⟩
 have hE := hE'.add (e66.trans q67)
 refine Step.imp (st_slice (k := (kInt .u8)) hE rfl Tryz.underlying24 Tryz.sizeOf5 (ha0.mono (M.le.trans hm3 (M.le.trans hm16 (M.le.trans hm32 hm')))) ⟨_, rfl⟩ rfl hx45 (xl := (some (.const (.int .i64 9)))) (xh := none)) ?_
 rintro v68 _ ⟨rfl, hv46⟩
 exact ⟨_, M.le.refl _, hS', hv46⟩
 }
 {
 refine cplain fun pre_ post_ L_ T_ m' a' w' hl' hp' hm' hq' hS' hE' hT' => ?_
 obtain rfl := len0 hl'
 refine Step.imp (Run1.pure (r_move hE' rfl)) ?_
 rintro _ _ ⟨rfl, rfl⟩
 exact ⟨_, M.le.refl _, hS', rfl⟩
 }
 {
 refine cplain fun pre_ post_ L_ T_ m' a' w' hl' hp' hm' hq' hS' hE' hT' => ?_
 obtain rfl := len0 hl'
 obtain ⟨v70, e71, q72⟩ : ∃ v, a'.tmps.getD 43 undef = v ∧ (v = v0) := ⟨_, rfl, hT' 4 (by decide) 43 rfl⟩
 have hE := hE'.add (e71.trans q72)
 refine Step.imp (st_index (k := (kInt .u8)) hE rfl rfl Tryz.underlying24 Tryz.sizeOf5 (ha0.mono (M.le.trans hm3 (M.le.trans hm16 (M.le.trans hm32 hm')))) hx48) ?_
 rintro v73 _ ⟨rfl, hp49⟩
 exact ⟨_, M.le.refl _, hS', hp49⟩
 }
 {
 refine cplain fun pre_ post_ L_ T_ m' a' w' hl' hp' hm' hq' hS' hE' hT' => ?_
 obtain rfl := len0 hl'
 obtain ⟨v74, e75, q76⟩ : ∃ v, a'.tmps.getD 44 undef = v ∧ (PR (kInt .u8) m' v x47) := ⟨_, rfl, hT' 5 (by decide) 44 rfl⟩
 have hE := hE'.add (e75)
 refine Step.imp (st_loadM hE hS' ty5 rfl q76) ?_
 rintro v77 _ ⟨rfl, hv50⟩
 obtain ⟨rfl, hr78⟩ := RV_int hv50
 exact ⟨_, M.le.refl _, hS', ⟨rfl, hr78⟩⟩
 }
 {
 refine cplain fun pre_ post_ L_ T_ m' a' w' hl' hp' hm' hq' hS' hE' hT' => ?_
 obtain rfl := len0 hl'
 obtain ⟨v79, e80, q81⟩ : ∃ v, a'.tmps.getD 45 undef = v ∧ (v = (.int .u8 x47) ∧ inR .u8 x47) := ⟨_, rfl, hT' 6 (by decide) 45 rfl⟩
 obtain ⟨q81, hr82⟩ := q81
 have hE := hE'.add (e80.trans q81)
 refine Step.imp (Run1.pure (r_conv hE rfl Tryz.underlying5 Tryz.underlying3 rfl)) ?_
 rintro _ _ ⟨rfl, rfl⟩
 exact ⟨_, M.le.refl _, hS', ⟨rfl, (inR_wrap _ _)⟩⟩
 }
 {
 refine cplain fun pre_ post_ L_ T_ m' a' w' hl' hp' hm' hq' hS' hE' hT' => ?_
 obtain rfl := len0 hl'
 refine Step.imp (Run1.pure (r_move hE' rfl)) ?_
 rintro _ _ ⟨rfl, rfl⟩
 exact ⟨_, M.le.refl _, hS', ⟨rfl, hr37⟩⟩
 }
 {
 refine cplain fun pre_ post_ L_ T_ m' a' w' hl' hp' hm' hq' hS' hE' hT' => ?_
 obtain rfl := len0 hl'
 obtain ⟨v85, e86, q87⟩ : ∃ v, a'.tmps.getD 42 undef = v ∧ (RV (kSl (kInt .u8)) m' v x44) := ⟨_, rfl, hT' 3 (by decide) 42 rfl⟩
 have hE := hE'.add (e86)
 obtain ⟨v88, e89, q90⟩ : ∃ v, a'.tmps.getD 46 undef = v ∧ (v = (.int .i64 (IntKind.i64.wrap x47)) ∧ inR .i64 (IntKind.i64.wrap x47)) := ⟨_, rfl, hT' 7 (by decide) 46 rfl⟩
 obtain ⟨q90, hr91⟩ := q90
 have hE := hE.add (e89.trans q90)
 obtain ⟨v92, e93, q94⟩ : ∃ v, a'.tmps.getD 47 undef = v ∧ (v = (.int .i64 x36) ∧ inR .i64 x36) := ⟨_, rfl, hT' 8 (by decide) 47 rfl⟩
 obtain ⟨q94, hr95⟩ := q94
 have hE := hE.add (e93.trans q94)
 refine Step.imp (st_call (vs := [v85, (.int .i64 (IntKind.i64.wrap x47)), (.int .i64 x36)]) hE rfl Tryz.call170 (c_r6_unpacked (hS := hS') q87 hr91 hr95 hr53)) ?_
 rintro v96 w ⟨m54, hm55, hS, hv56⟩
 obtain ⟨rfl, hr97⟩ := RV_int hv56
 exact ⟨_, hm55, hS, ⟨rfl, hr97⟩⟩
 }
 {
 refine cplain fun pre_ post_ L_ T_ m' a' w' hl' hp' hm' hq' hS' hE' hT' => ?_
 obtain rfl := len0 hl'
 obtain ⟨v98, e99, q100⟩ : ∃ v, a'.tmps.getD 40 undef = v ∧ (v = (.int .u64 r13) ∧ inR .u64 r13) := ⟨_, rfl, hT' 1 (by decide) 40 rfl⟩
 obtain ⟨q100, hr101⟩ := q100
 have hE := hE'.add (e99.trans q100)
 obtain ⟨v102, e103, q104⟩ : ∃ v, a'.tmps.getD 48 undef = v ∧ (v = (.int .u64 r52) ∧ inR .u64 r52) := ⟨_, rfl, hT' 9 (by decide) 48 rfl⟩
 obtain ⟨q104, hr105⟩ := q104
 have hE := hE.add (e103.trans q104)
 refine Step.imp (Run1.pure (r_bin hE rfl rfl (b_add rfl))) ?_
 rintro _ _ ⟨rfl, rfl⟩
 exact ⟨_, M.le.refl _, hS', ⟨rfl, (inR_wrap _ _)⟩⟩
 }
 {
 refine cplain fun pre_ post_ L_ T_ m' a' w' hl' hp' hm' hq' hS' hE' hT' => ?_
 obtain rfl := len0 hl'
 obtain ⟨v107, e108, q109⟩ : ∃ v, a'.tmps.getD 49 undef = v ∧ (v = (.int .u64 (IntKind.u64.wrap (r13 + r52))) ∧ inR .u64 (IntKind.u64.wrap (r13 + r52))) := ⟨_, rfl, hT' 10 (by decide) 49 rfl⟩
 obtain ⟨q109, hr110⟩ := q109
 have hE := hE'.add (e108.trans q109)
 refine Step.imp (Run1.pure (r_conv hE rfl Tryz.underlying54 Tryz.underlying2 rfl)) ?_
 rintro _ _ ⟨rfl, rfl⟩
 exact ⟨_, M.le.refl _, hS', ⟨rfl, (inR_wrap _ _)⟩⟩
 }
 {
 refine cplain fun pre_ post_ L_ T_ m' a' w' hl' hp' hm' hq' hS' hE' hT' => ?_
 obtain rfl := len0 hl'
 obtain ⟨v112, e113, q114⟩ : ∃ v, a'.tmps.getD 50 undef = v ∧ (v = (.int .i64 (IntKind.i64.wrap (IntKind.u64.wrap (r13 + r52)))) ∧ inR .i64 (IntKind.i64.wrap (IntKind.u64.wrap (r13 + r52)))) := ⟨_, rfl, hT' 11 (by decide) 50 rfl⟩
 obtain ⟨q114, hr115⟩ := q114
 have hE := hE'.add (e113.trans q114)
 refine Step.imp (st_build (m := m') (k := kAp) (x0 := Ap.zero) (xx := (⟨2, false, IntKind.i64.wrap (IntKind.u64.wrap (r13 + r52)), []⟩ : Ap)) (pl := [(0, 1), (1, 1), (2, 1), (3, 1)]) (pv := [(0, (.int .i64 2)), (2, (.int .i64 (IntKind.i64.wrap (IntKind.u64.wrap (r13 + r52)))))]) hE rfl Tryz.underlying32 rfl Tryz.zeroValue32 zr32 rfl (.cons rfl sf32_0 (RV_of_int (show inR .i64 2 from inR_lit (by decide))) (.cons rfl sf32_2 (RV_of_int hr115) .nil))) ?_
 rintro v116 _ ⟨rfl, hv58⟩
 exact ⟨_, M.le.refl _, hS', hv58⟩
 }
 {
 refine cplain fun pre_ post_ L_ T_ m' a' w' hl' hp' hm' hq' hS' hE' hT' => ?_
 obtain rfl := len0 hl'
 obtain ⟨v117, e118, q119⟩ : ∃ v, a'.tmps.getD 51 undef = v ∧ (RV kAp m' v (⟨2, false, IntKind.i64.wrap (IntKind.u64.wrap (r13 + r52)), []⟩ : Ap)) := ⟨_, rfl, hT' 12 (by decide) 51 rfl⟩
 have hE := hE'.add (e118)
 refine Step.imp (st_lit (k := kAp) (xs := [(⟨2, false, IntKind.i64.wrap (IntKind.u64.wrap (r13 + r52)), []⟩ : Ap)]) (vs := [v117]) hE hS' rfl Tryz.underlying22 Tryz.sizeOf32 Tryz.zeroValue32 ⟨q119, trivial⟩ rfl (by decide)) ?_
 rintro v120 w ⟨m60, hm61, hS, hv59⟩
 exact ⟨_, hm61, (hS.dropT 1), hv59⟩
 }
 }
 {
 intro ws_ L_ T_ m121 a w hl122 hm123 hq124 hS hd125 hn126 ho127 hT128
 obtain rfl := len0 hl122
 obtain ⟨rfl, rfl⟩ := hq124
 have hE := EnvD.of (k := 14) (l' := [(0, v0), (1, (.int .i64 p1)), (5, (.int .u64 r13)), (6, v34), (7, (.int .i64 x36)), (34, (.int .i64 x36)), (35, (.int .i64 p1)), (36, (.bool (decide (x36 < p1))))]) hd125 hn126 ho127 ⟨rfl, rfl, rfl, rfl, rfl, rfl, rfl, rfl, trivial⟩ rfl
 obtain ⟨v129, e130, q131⟩ : ∃ v, a.tmps.getD 39 undef = v ∧ (v = v34) := ⟨_, rfl, hT128 0 (by decide) 39 rfl⟩
 have hE := hE.add (e130.trans q131)
 obtain ⟨v132, e133, q134⟩ : ∃ v, a.tmps.getD 52 undef = v ∧ (RV (kSl kAp) m121 v ([(⟨2, false, IntKind.i64.wrap (IntKind.u64.wrap (r13 + r52)), []⟩ : Ap)])) := ⟨_, rfl, hT128 13 (by decide) 52 rfl⟩
 have hE := hE.add (e133)
 obtain ⟨z135, hz136, h⟩ := ob h
 refine st hE (st_app (k := kAp) (N := 3518437208883) hE hS rfl rfl Tryz.underlying22 Tryz.underlying22 el32 (i := 0) rfl (hv35.mono hm123) q134 hz136 rfl rfl) rfl ?_
 rintro v140 a w ⟨m138, hm139, hS, hv137⟩ hE
 refine qa hE rfl rfl fun a hE => ?_
 refine knil (kreg ?_)
 refine qm hE rfl rfl fun a hE => ?_
 refine sp hE (r_bin hE rfl rfl (b_add rfl)) rfl fun a hE => ?_
 refine qa hE rfl rfl fun a hE => ?_
 refine knil ?_
 exact ⟨(z135, IntKind.i64.wrap (x36 + 1)), (Option.some.inj h).symm, _, (M.le.trans hm32 (M.le.trans hm123 hm139)), v140, hv137, (inR_wrap _ _), hS, hE.cut ⟨rfl, rfl, rfl, rfl, rfl, trivial⟩⟩
 }
 }
 {
 have h := ite_F hd43 h
 refine kexit rfl rfl ?_
 have h := unwrap h hb39
 exact ⟨x33, h, _, hm32, v34, hv35, hS, hE.cut ⟨rfl, trivial⟩⟩
 }
 }
 }
 {
 rintro a w ⟨x25, h, m23, hm24, v26, hv27, hS, hE⟩
 unfold r6_smalls_j2 at h
 refine kseq (kreg ?_)
 refine qm hE rfl rfl fun a hE => ?_
 refine qa hE rfl rfl fun a hE => ?_
 refine knil (kret ?_)
 obtain rfl := oi h
 try dsimp only
 refine Fin.mk hE (rs := [.tmp 4]) rfl (ResL.tmp hE rfl ResL.nil) ?_
 exact ⟨_, (M.le.trans hm3 (M.le.trans hm16 hm24)), (hS.pickT 1 [0] rfl rfl rfl), hv27⟩
 }
 }
 }
theorem ct_125 : Ctr Sz Tryz.prog 125 [.rd (.sl (.int .u8)), .rd (.int .i64)] [.ap (.st 32)] (fun x => r6_smalls x.1 x.2.1) := by
 intro W0 m w L TL vs x r Lp Tp hS hP h
 obtain ⟨v0, vs, rfl, a0, hP0⟩ := PR_rd hP
 obtain ⟨v1, vs, rfl, a1, hP1⟩ := PR_rd hP0
 obtain ⟨rfl, n1⟩ := RV_int a1
 obtain ⟨rfl, rfl, rfl⟩ := PR_nil hP1
 refine (c_r6_smalls (hS := hS) a0 n1 h).mono ?_
 intro e w' he
 cases e with
 | returned v =>
  obtain ⟨m', hm, hS', r0⟩ := he
  exact ⟨m', [v], [], [], [(4, v)], hm, hS', rfl, ⟨r0, rfl, trivial⟩, trivial⟩
 | panicked ch => exact he.elim
 | outgrown => exact he.elim
noncomputable def cs_125 : CS Tryz.prog Sz := ⟨125, _, _, _, ct_125, Tryz.call125⟩
theorem ct_63 : Ctr Sz Tryz.prog 63 [.rd (.int .i64), .rd (.sl (.int .u8)), .rd (.int .i64)] [.rd (.sl (.st 32)), .rd (.int .i64)] (fun x => r6_Decode x.1 x.2.1 x.2.2.1) :=
 Ctr.nc (Γ := Γ) (D := [cs_52, cs_121, cs_122, cs_123, cs_124, cs_125]) (c := Tryz.f63.body.getD .skip) (res := [6, 7]) .o rfl mixed Tryz.func63 rfl Tryz.ntmps63 rfl rfl (fun x => by kernel_rfl)
noncomputable def cs_63 : CS Tryz.prog Sz := ⟨63, _, _, _, ct_63, Tryz.call63⟩
theorem ct_22 : Ctr Sz Tryz.prog 22 [.rd (.sl (.int .u8))] [.rd (.sl (.st 32)), .rd (.int .i64), .rd (.int .i64)] (fun x => r7_Read x.1) :=
 Ctr.nc (Γ := Γ) (D := [cs_20, cs_53, cs_56, cs_59, cs_63]) (c := Tryz.f22.body.getD .skip) (res := [2, 3, 4]) .o rfl mixed Tryz.func22 rfl Tryz.ntmps22 rfl rfl (fun x => by kernel_rfl)
noncomputable def cs_22 : CS Tryz.prog Sz := ⟨22, _, _, _, ct_22, Tryz.call22⟩
theorem ct_24 : Ctr Sz Tryz.prog 24 [.rd (.sl (.int .u8))] [.ap (.st 32)] (fun x => r7_All x.1) :=
 Ctr.nc (Γ := Γ) (D := [cs_22]) (c := Tryz.f24.body.getD .skip) (res := [2]) (.s .o (.s .o (.s (.b (.l ⟨[.v 0 1 (.dat (.sl (.int .u8)) none), .v 3 1 (.dat (.sl (.st 32)) (some 0))], [], 0, [4]⟩ .o)) .o))) rfl mixed Tryz.func24 rfl Tryz.ntmps24 rfl rfl (fun x => by kernel_rfl)
theorem c_r7_All {W0 : Bse} {m : M} {w : World} {L : List (Nat × List Value)} {TL : List (Nat × Value)} (hS : S W0 m w (L) (TL)) {v0 : Value} {p0 : (List Int)} (ha0 : RV (kSl (kInt .u8)) m v0 p0) {r : (List Ap)} (h : r7_All p0 = some r) :
    Calls Tryz.prog 24 [v0].toArray w (Ret fun v w' => ∃ m', M.le m m' ∧ S W0 m' w' (L) ((4, v) :: TL) ∧ RV (kSl kAp) m' v r) := by
 refine (ct_24 W0 m w L TL [v0] (p0, ()) r [] [] hS ⟨ha0, trivial⟩ h).mono ?_
 intro e w' he
 cases e with
 | returned v =>
  obtain ⟨m', us, Lr, Lq, Tr, hm, hS', rfl, hR, hO⟩ := he
  obtain ⟨u0, us, Tr, rfl, rfl, r0, hR0⟩ := RR_ap hR
  obtain ⟨rfl, rfl, rfl⟩ := RR_nil hR0
  have hO0 := OR_rd hO
  obtain rfl := OR_nil hO0
  exact ⟨m', hm, hS', r0⟩
 | panicked ch => exact he.elim
 | outgrown => exact he.elim
theorem c_block_All_1 {σ : Type} {I : M → σ → Mem → Tls → Prop} {step : σ → (Int × Ap) → Option (σ × Bool)} {B : σ → Bse} {v0 : Value} {m : M} {w : World} {L : Mem} {TL : Tls} {s0_ : σ} {Ls_0 : Mem} {TLs_0 : Tls} (mono : ∀ m m' s a b, M.le m m' → I m s a b → I m' s a b) (hy : YieldC Tryz.prog (Rv2 (kInt .i64) kAp) B v0 I step) (hI0_ : I m s0_ Ls_0 TLs_0) (hS : S (B s0_) m w (Ls_0 ++ L) (TLs_0 ++ TL)) {v1 : Value} {p1 : (List Int)} (ha1 : PR (kSl (kInt .u8)) m v1 p1) {r : σ} (h : block_All_1 step s0_ p1 = some r) :
    Calls Tryz.prog 64 [v0, v1].toArray w (Ret fun _ w' => ∃ m' Ls' TLs', M.le m m' ∧ I m' r Ls' TLs' ∧ S (B r) m' w' (Ls' ++ L) (TLs' ++ TL)) := by
 refine kcall (args := [v0, v1]) Tryz.func64 rfl Tryz.ntmps64 (Nat.le_of_ble_eq_true rfl) fun a hE => ?_
 have hE : Env 39 a [(0, v0), (1, v1)] := hE
 unfold block_All_1 at h
 refine kseq (kreg ?_)
 refine qa hE rfl rfl fun a hE => ?_
 refine knil (kseq (kreg ?_))
 refine st hE (st_loadM hE hS ty24 rfl ha1) rfl ?_
 rintro v3 a _ ⟨rfl, hv2⟩ hE
 refine qa hE rfl rfl fun a hE => ?_
 refine knil (kblock ?_)
 refine kloop h (fun (s : (Int × (List Int) × σ)) a w => ∃ m', M.le m m' ∧ ∃ (v10 : Value), ∃ (Ls13 : Mem), ∃ (TLs14 : Tls), inR .i64 s.1 ∧ RV (kSl (kInt .u8)) m' v10 s.2.1 ∧ I m' s.2.2 Ls13 TLs14 ∧ S (B s.2.2) m' w ((Ls13 ++ L)) ((TLs14 ++ TL)) ∧ Env 39 a [(0, v0), (3, (.int .i64 s.1)), (4, v10)]) ?_ ?_
 {
 exact ⟨_, (M.le.refl _), v3, Ls_0, TLs_0, (show inR .i64 0 from inR_lit (by decide)), hv2, hI0_, hS, hE.cut ⟨rfl, rfl, rfl, trivial⟩⟩
 }
 {
 rintro ⟨x7, x9, x12⟩ a w ⟨m5, hm6, v10, Ls13, TLs14, hr8, hv11, hI15, hS, hE⟩ r16 h hb17
 have h : block_All_1_b1 step x7 x9 x12 = some r16 := h
 unfold block_All_1_b1 at h
 refine kseq (kseq (kreg ?_))
 refine qm hE rfl rfl fun a hE => ?_
 refine sp hE (r_lenSl (k := (kInt .u8)) hE rfl rfl Tryz.underlying24 hv11) rfl fun a hE => ?_
 refine sp hE (r_bin hE rfl rfl b_gtr) rfl fun a hE => ?_
 refine knil ?_
 refine kif hE rfl (fun hd21 => ?_) (fun hd21 => ?_)
 {
 have h := ite_T hd21 h
 refine kskip (kblock (kseq (kreg ?_)))
 refine qm hE rfl rfl fun a hE => ?_
 obtain ⟨r23, hr24, h⟩ := ob h
 refine st hE (st_call (vs := [v10]) hE rfl Tryz.call21 (c_block_Read (hS := hS) hv11 hr24)) rfl ?_
 rintro _ a w ⟨m25, hm26, hS, v0_27, v1_28, v2_29, rfl, hv0_30, hv1_31, hv2_32⟩ hE
 obtain ⟨rfl, hr34⟩ := RV_int hv1_31
 obtain ⟨rfl, hr35⟩ := RV_int hv2_32
 refine qm hE rfl rfl fun a hE => ?_
 refine sp hE (r_extract hE rfl rfl) rfl fun a hE => ?_
 refine sp hE (r_extract hE rfl rfl) rfl fun a hE => ?_
 refine sp hE (r_extract hE rfl rfl) rfl fun a hE => ?_
 refine qa hE rfl rfl fun a hE => ?_
 refine qa hE rfl rfl fun a hE => ?_
 refine qa hE rfl rfl fun a hE => ?_
 refine knil (kseq (kseq (kreg ?_)))
 refine qm hE rfl rfl fun a hE => ?_
 refine sp hE (r_bin hE rfl rfl b_neq) rfl fun a hE => ?_
 refine knil ?_
 refine kif hE rfl (fun hd45 => ?_) (fun hd45 => ?_)
 {
 have h := ite_T hd45 h
 refine kret ?_
 have h := unwrap h hb17
 obtain rfl := oi h
 try dsimp only
 refine Fin.mk hE (rs := []) rfl ResL.nil ?_
 exact ⟨_, Ls13, TLs14, (M.le.trans hm6 hm26), (mono _ _ _ _ _ hm26 hI15), hS⟩
 }
 {
 have h := ite_F hd45 h
 refine kskip (kseq (kseq (kreg ?_)))
 refine qm hE rfl rfl fun a hE => ?_
 refine sp hE (r_lenSl (k := kAp) hE rfl rfl Tryz.underlying22 hv0_30) rfl fun a hE => ?_
 refine qm hE rfl rfl fun a hE => ?_
 refine knil ?_
 refine kcut (fun a w => ∃ x51 : Int, ∃ x53 : σ, block_All_1_j1 x9 r23 x51 x53 = some r16 ∧ ∃ m', M.le m25 m' ∧ ∃ (Ls54 : Mem), ∃ (TLs55 : Tls), inR .i64 x51 ∧ I m' x53 Ls54 TLs55 ∧ S (B x53) m' w ((Ls54 ++ L)) ((TLs55 ++ TL)) ∧ Env 39 a [(0, v0), (3, (.int .i64 x51)), (4, v10), (6, (.int .i64 r23.2.1))]) ?_ ?_
 {
 refine kblock ?_
 refine kloop h (fun (s : (Int × Int × σ)) a w => ∃ m', M.le m25 m' ∧ ∃ (Ls72 : Mem), ∃ (TLs73 : Tls), inR .i64 s.1 ∧ inR .i64 s.2.1 ∧ I m' s.2.2 Ls72 TLs73 ∧ S (B s.2.2) m' w ((Ls72 ++ L)) ((TLs73 ++ TL)) ∧ Env 39 a [(0, v0), (3, (.int .i64 s.1)), (4, v10), (6, (.int .i64 r23.2.1)), (22, v0_27), (23, (.int .i64 (r23.1.length : Int))), (24, (.int .i64 s.2.1))]) ?_ ?_
 {
 exact ⟨_, (M.le.refl _), Ls13, TLs14, hr8, (show inR .i64 0 from inR_lit (by decide)), (mono _ _ _ _ _ hm26 hI15), hS, hE.cut ⟨rfl, rfl, rfl, rfl, rfl, rfl, rfl, trivial⟩⟩
 }
 {
 rintro ⟨x67, x69, x71⟩ a w ⟨m65, hm66, Ls72, TLs73, hr68, hr70, hI74, hS, hE⟩ r75 h hb76
 have h : block_All_1_b2 step x9 r23 x67 x69 x71 = some r75 := h
 unfold block_All_1_b2 at h
 refine kseq (kreg ?_)
 refine sp hE (r_bin hE rfl rfl b_lss) rfl fun a hE => ?_
 refine knil (kseq ?_)
 refine kif hE rfl (fun hd78 => ?_) (fun hd78 => ?_)
 {
 have h := ite_T hd78 h
 refine kskip (kseq (kblock (kseq (kreg ?_))))
 obtain ⟨x79, hx80, h⟩ := ob h
 refine st hE (st_index (k := kAp) hE rfl rfl Tryz.underlying22 Tryz.sizeOf32 (hv0_30.mono hm66) hx80) rfl ?_
 rintro v82 a _ ⟨rfl, hp81⟩ hE
 refine st hE (st_loadM hE hS ty32 rfl hp81) rfl ?_
 rintro v84 a _ ⟨rfl, hv83⟩ hE
 refine st hE (st_alloc hS Tryz.zeroValue32 rfl (cs := zc32)) rfl ?_
 rintro _ a w ⟨b85, rfl, hS⟩ hE
 refine st0 hE (st_storeF hE hS ty32 StF_self rfl rfl hv83 (i := 0) rfl (zr32 _)) ?_
 rintro _ w ⟨cs87, hc88, hS⟩ hE
 refine knil (kseq (kseq (kreg ?_)))
 refine qm hE rfl rfl fun a hE => ?_
 refine qm hE rfl rfl fun a hE => ?_
 refine st hE (st_loadL hE hS ty32 rfl (i := 0) rfl (R_whole hc88)) rfl ?_
 rintro v93 a _ ⟨rfl, hv92⟩ hE
 obtain ⟨r94, hr95, h⟩ := ob h
 refine st hE (hy _ _ L TL _ _ _ [(.int .i64 x67), v93] _ _ _ hI74 (hS.dropL 1) ⟨_, _, rfl, (RV_of_int hr68), hv92⟩ hr95 _ _ _ _ _ _ _ _ _ (hE.eval rfl) (argl_eval hE rfl)) rfl ?_
 rintro v102 a w ⟨hq98, m96, Ls99, TLs100, hm97, hI101, hS⟩ hE
 obtain rfl := hq98
 refine sp hE (r_not hE rfl) rfl fun a hE => ?_
 refine knil ?_
 refine kif hE rfl (fun hd104 => ?_) (fun hd104 => ?_)
 {
 have h := ite_T hd104 h
 refine kret ?_
 have h := unwrap h hb76
 have h := unwrap h hb17
 obtain rfl := oi h
 try dsimp only
 refine Fin.mk hE (rs := []) rfl ResL.nil ?_
 exact ⟨_, Ls99, TLs100, (M.le.trans hm6 (M.le.trans hm26 (M.le.trans hm66 hm97))), hI101, hS⟩
 }
 {
 have h := ite_F hd104 h
 refine kskip (kreg ?_)
 refine qm hE rfl rfl fun a hE => ?_
 refine sp hE (r_bin hE rfl rfl (b_add rfl)) rfl fun a hE => ?_
 refine qa hE rfl rfl fun a hE => ?_
 refine knil (kreg ?_)
 refine sp hE (r_bin hE rfl rfl (b_add rfl)) rfl fun a hE => ?_
 refine qm hE rfl rfl fun a hE => ?_
 refine knil ?_
 exact ⟨(IntKind.i64.wrap (x67 + 1), IntKind.i64.wrap (x69 + 1), r94.1), (Option.some.inj h).symm, _, (M.le.trans hm66 hm97), Ls99, TLs100, (inR_wrap _ _), (inR_wrap _ _), hI101, hS, hE.cut ⟨rfl, rfl, rfl, rfl, rfl, rfl, rfl, trivial⟩⟩
 }
 }
 {
 have h := ite_F hd78 h
 refine kexit rfl rfl ?_
 have h := unwrap h hb76
 exact ⟨x67, x71, h, _, hm66, Ls72, TLs73, hr68, hI74, hS, hE.cut ⟨rfl, rfl, rfl, rfl, trivial⟩⟩
 }
 }
 }
 {
 rintro a w ⟨x51, x53, h, m49, hm50, Ls54, TLs55, hr52, hI56, hS, hE⟩
 unfold block_All_1_j1 at h
 refine kreg ?_
 refine qm hE rfl rfl fun a hE => ?_
 refine qm hE rfl rfl fun a hE => ?_
 obtain ⟨x60, hx61, h⟩ := ob h
 refine st hE (st_slice (k := (kInt .u8)) hE rfl Tryz.underlying24 Tryz.sizeOf5 (hv11.mono (M.le.trans hm26 hm50)) ⟨_, rfl⟩ rfl hx61 (xl := (some (.tmp 37))) (xh := none)) rfl ?_
 rintro v63 a _ ⟨rfl, hv62⟩ hE
 refine qa hE rfl rfl fun a hE => ?_
 refine knil ?_
 exact ⟨(x51, x60, x53), (Option.some.inj h).symm, _, (M.le.trans hm6 (M.le.trans hm26 hm50)), v63, Ls54, TLs55, hr52, hv62, hI56, hS, hE.cut ⟨rfl, rfl, rfl, trivial⟩⟩
 }
 }
 }
 {
 have h := ite_F hd21 h
 refine kexit rfl rfl ?_
 have h := unwrap h hb17
 obtain rfl := oi h
 try dsimp only
 refine Fin.mk hE (rs := []) rfl ResL.nil ?_
 exact ⟨_, Ls13, TLs14, hm6, hI15, hS⟩
 }
 }
theorem it_block_All_1 {m : M} {v1 : Value} {p1 : (List Int)} (ha1 : PR (kSl (kInt .u8)) m v1 p1) {xs : List (Int × Ap)} (h : block_All_1_list p1 = some xs) : IterC Tryz.prog (Rv2 (kInt .i64) kAp) 64 [v1].toArray m xs := by
 intro σ I step B y m1 w L TL s Ls TLs r mono hle hy hI hS hf
 exact c_block_All_1 mono hy hI hS (ha1.mono hle) (fold_block_All_1 h hf)
theorem c_block_All {W0 : Bse} {m : M} {w : World} {L : List (Nat × List Value)} {TL : List (Nat × Value)} (hS : S W0 m w (L) (TL)) {v0 : Value} {p0 : (List Int)} (ha0 : RV (kSl (kInt .u8)) m v0 p0) {r : (List (Int × Ap))} (h : block_All p0 = some r) :
    Calls Tryz.prog 25 [v0].toArray w (Ret fun v w' => ∃ m', M.le m m' ∧ S W0 m' w' (L) (TL) ∧ ItV Tryz.prog (Rv2 (kInt .i64) kAp) m' v r) := by
 refine kcall Tryz.func25 rfl Tryz.ntmps25 (Nat.le_of_ble_eq_true rfl) fun a hE => ?_
 have hE : Env 7 a [(0, v0)] := hE
 unfold block_All at h
 refine kseq (kreg ?_)
 refine qa hE rfl rfl fun a hE => ?_
 refine knil (kseq (kreg ?_))
 refine qm hE rfl rfl fun a hE => ?_
 obtain ⟨r3, hr4, h⟩ := ob h
 refine st hE (st_call (vs := [v0]) hE rfl Tryz.call60 (c_slices_Clone_byte (hS := hS) ha0 hr4)) rfl ?_
 rintro v8 a w ⟨m5, hm6, hS, hv7⟩ hE
 refine st hE (st_alloc hS Tryz.zeroValue24 rfl (cs := [(.slice none 0 0)])) rfl ?_
 rintro _ a w ⟨b9, rfl, hS⟩ hE
 refine st0 hE (st_storeSl (k := (kInt .u8)) hE hS ty24 rfl rfl hv7 (i := 0) rfl) ?_
 rintro _ w hS hE
 refine knil (kseq (kreg ?_))
 obtain ⟨m14, hm15, hS, hp16⟩ := S.freezeL (k := (kSl (kInt .u8))) hS (R_of_RVsl hv7)
 obtain ⟨x17, hx18, h⟩ := ob h
 refine sp hE (r_makeFunc hE rfl rfl) rfl fun a hE => ?_
 refine qa hE rfl rfl fun a hE => ?_
 refine knil (kret ?_)
 obtain rfl := oi h
 try dsimp only
 refine Fin.mk hE (rs := [.tmp 2]) rfl (ResL.tmp hE rfl ResL.nil) ?_
 exact ⟨_, (M.le.trans hm6 hm15), (hS.dropT 1), (⟨64, _, rfl, Tryz.call64, it_block_All_1 hp16 hx18⟩ : ItV Tryz.prog (Rv2 (kInt .i64) kAp) m14 (.func (.func 64) [].toArray [(.pointer (some ⟨b9, 0, none⟩))].toArray) x17)⟩
theorem c_l7_BlockAll {W0 : Bse} {m : M} {w : World} {L : List (Nat × List Value)} {TL : List (Nat × Value)} (hS : S W0 m w (L) (TL)) {v0 : Value} {p0 : (List Int)} (ha0 : RV (kSl (kInt .u8)) m v0 p0) {p1 : Int} (ha1 : inR .i64 p1) {r : Bool} (h : l7_BlockAll p0 p1 = some r) :
    Calls Tryz.prog 5 [v0, (.int .i64 p1)].toArray w (Ret fun v w' => ∃ m', M.le m m' ∧ S W0 m' w' (L) (TL) ∧ RV kBool m' v r) := by
 refine kcallM Tryz.func5 rfl Tryz.ntmps5 (Nat.le_of_ble_eq_true rfl) fun a hE => ?_
 have hE : Env 69 a [(0, v0), (1, (.int .i64 p1))] := hE
 unfold l7_BlockAll at h
 refine kseq (kreg ?_)
 refine st hE (st_box (k := (kInt .i64)) hE hS rfl (RV_of_int ha1)) rfl ?_
 rintro _ a w ⟨b1, cs2, rfl, hc3, hS⟩ hE
 refine st hE (st_alloc hS Tryz.zeroValue4 rfl (cs := zc4)) rfl ?_
 rintro _ a w ⟨b5, rfl, hS⟩ hE
 refine knil (kseq (kreg ?_))
 refine qm hE rfl rfl fun a hE => ?_
 obtain ⟨r8, hr9, h⟩ := ob h
 refine st hE (st_call (vs := [v0]) hE rfl Tryz.call24 (c_r7_All (hS := hS) ha0 hr9)) rfl ?_
 rintro v13 a w ⟨m10, hm11, hS, hv12⟩ hE
 refine st hE (st_alloc hS Tryz.zeroValue22 rfl (cs := [(.slice none 0 0)])) rfl ?_
 rintro _ a w ⟨b14, rfl, hS⟩ hE
 refine st0 hE (st_storeSl (k := kAp) hE hS ty22 rfl rfl hv12 (i := 0) rfl) ?_
 rintro _ w hS hE
 refine knil (kseq (kreg ?_))
 refine qm hE rfl rfl fun a hE => ?_
 obtain ⟨r20, hr21, h⟩ := ob h
 refine st hE (st_call (vs := [v0]) hE rfl Tryz.call25 (c_block_All (hS := hS) (ha0.mono hm11) hr21)) rfl ?_
 rintro v25 a w ⟨m22, hm23, hS, hv24⟩ hE
 refine qa hE rfl rfl fun a hE => ?_
 refine knil (kseq (kseq ?_))
 refine kcut (fun a w => ∃ x29 : Bool, l7_BlockAll_j1 p1 r8 r20 x29 = some r ∧ ∃ m', M.le m22 m' ∧ S W0 m' w ((b14, [v13]) :: (b5, zc4) :: (b1, cs2) :: L) ((4, v13) :: TL) ∧ Env 69 a [(3, (.pointer (some ⟨b1, 0, none⟩))), (4, (.pointer (some ⟨b5, 0, none⟩))), (5, (.pointer (some ⟨b14, 0, none⟩))), (6, v25), (21, (.bool x29))]) ?_ ?_
 {
 refine kreg ?_
 refine qm hE rfl rfl fun a hE => ?_
 refine sp hE (r_eqnilF hE rfl rfl Tryz.underlying46 hv24) rfl fun a hE => ?_
 refine qm hE rfl rfl fun a hE => ?_
 obtain ⟨r582, hr583, h⟩ := ob h
 refine stg hE rfl rfl rfl rfl rfl (st_call (vs := []) hE rfl Tryz.call17 (c_l7_alive (hS := hS) hr583)) rfl ?_
 rintro v587 a w ⟨m584, hm585, hS, hv586⟩ hE
 obtain rfl := RV_bool hv586
 refine spg hE rfl rfl rfl rfl rfl (r_not hE rfl) rfl fun a hE => ?_
 refine sp hE (r_pickF hE rfl rfl rfl) rfl fun a hE => ?_
 refine knil ?_
 exact ⟨(!r582), h, _, hm585, hS, hE.cut ⟨rfl, rfl, rfl, rfl, rfl, trivial⟩⟩
 }
 {
 rintro a w ⟨x29, h, m27, hm28, hS, hE⟩
 unfold l7_BlockAll_j1 at h
 refine kif hE rfl (fun hd31 => ?_) (fun hd31 => ?_)
 {
 have h := ite_T hd31 h
 refine kseq (kreg ?_)
 refine st0 hE (st_storeF hE hS ty4 StF_self rfl rfl RV_of_bool (i := 1) rfl (zr4 _)) ?_
 rintro _ w ⟨cs32, hc33, hS⟩ hE
 refine knil (kret ?_)
 obtain rfl := oi h
 try dsimp only
 refine FinM.nil hE ?_
 refine Fin.mk hE (rs := [.cell 4 4]) rfl (ResL.cell hE hS ty4 rfl (i := 1) rfl (R_whole hc33) ResL.nil) ?_
 exact ⟨_, (M.le.trans hm11 (M.le.trans hm23 hm28)), ((hS.dropL 3).dropT 1), (RV_of_R (R_whole hc33))⟩
 }
 {
 have h := ite_F hd31 h
 refine kskip (kseq (kreg ?_))
 refine st hE (st_alloc hS Tryz.zeroValue3 rfl (cs := zc3)) rfl ?_
 rintro _ a w ⟨b35, rfl, hS⟩ hE
 refine st0 hE (st_storeF hE hS ty3 StF_self rfl rfl (RV_of_int (show inR .i64 0 from inR_lit (by decide))) (i := 0) rfl (zr3 _)) ?_
 rintro _ w ⟨cs37, hc38, hS⟩ hE
 refine knil (kseq (kseq (kreg ?_)))
 refine qm hE rfl rfl fun a hE => ?_
 refine knil (kblock ?_)
 obtain ⟨y348, hy349, h⟩ := ob h
 refine krangeV (Rv := (Rv2 (kInt .i64) kAp)) (fun (s : (Int × Bool)) (x : (Int × Ap)) => l7_BlockAll_b1 r8 s.1 s.2 x) (fun _ => .ret) [] (fun (m' : M) (s : (Int × Bool)) (Ls_ : Mem) (TLs_ : Tls) => ∃ (cs44 : List Value), ∃ (cs47 : List Value), M.le m27 m' ∧ (kInt .i64).R m' cs44 s.1 ∧ kBool.R m' cs47 s.2 ∧ Ls_ = [(b35, cs44), (b14, [v13]), (b5, cs47), (b1, cs2)] ∧ TLs_ = [(4, v13)]) (Ls := [(b35, cs37), (b14, [v13]), (b5, zc4), (b1, cs2)]) (TLs := [(4, v13)]) (s0 := (0, false)) (sf := y348.1) (bf := y348.2) hE hS rfl (hv24.mono hm28) (by decide) (fun _ _ _ h => Rv2_len h) (by rintro m1_ m2_ s_ a_ b_ hm_ ⟨cs44, cs47, hl_, hf0_, hf1_, e1_, e2_⟩; exact ⟨cs44, cs47, hl_.trans hm_, (kInt .i64).mono hm_ hf0_, kBool.mono hm_ hf1_, e1_, e2_⟩) ⟨cs37, zc4, M.le.refl _, hc38, (zr4 _), rfl, rfl⟩ hy349 ?_ ?_
 {
 intro lid_ W1_ W0 m41 w L TL s_ Ls_ TLs_ vs_ x49 s50 b51 a or_ ob_ hI52 hS hR53 h hE hT54
 obtain ⟨x43, x46⟩ := s_
 obtain ⟨cs44, cs47, hm42, hc45, hc48, rfl, rfl⟩ := hI52
 have h : l7_BlockAll_b1 r8 x43 x46 x49 = some (s50, b51) := h
 unfold l7_BlockAll_b1 at h
 obtain ⟨v55, v56, rfl, hv57, hv58⟩ := hR53
 obtain ⟨rfl, hr59⟩ := RV_int hv57
 refine kseq (kreg ?_)
 refine qa hE rfl rfl fun a hE => ?_
 refine knil (kreg ?_)
 refine st hE (st_alloc hS Tryz.zeroValue32 rfl (cs := zc32)) rfl ?_
 rintro _ a w ⟨b61, rfl, hS⟩ hE
 refine st0 hE (st_storeF hE hS ty32 StF_self rfl rfl hv58 (i := 0) rfl (zr32 _)) ?_
 rintro _ w ⟨cs63, hc64, hS⟩ hE
 refine knil ?_
 obtain ⟨hb_, hS⟩ := hT54 _ _ _ _ hS
 refine ⟨hb_, ?_⟩
 refine kblock (kseq (kseq ?_))
 refine kcut (fun a w => ∃ x68 : Bool, l7_BlockAll_j2 x43 x46 x68 = some (s50, b51) ∧ ∃ m', M.le m41 m' ∧ S W0 m' w ((b61, cs63) :: (b35, cs44) :: (b14, [v13]) :: (b5, cs47) :: (b1, cs2) :: L) ((4, v13) :: TL) ∧ Env 69 a [(3, (.pointer (some ⟨b1, 0, none⟩))), (4, (.pointer (some ⟨b5, 0, none⟩))), (5, (.pointer (some ⟨b14, 0, none⟩))), (6, v25), (7, (.pointer (some ⟨b35, 0, none⟩))), (22, v25), (41, (.bool x68))]) ?_ ?_
 {
 rcases Bool.eq_false_or_eq_true (x49.1 != x43) with hd83 | hd83
 {
 have h := ite_T hd83 h
 refine kchain (k := 15) (m := m41) (es := []) (Φ := (fun i m ws v => match i with | 0 => v = (.int .i64 x49.1) ∧ inR .i64 x49.1 | 1 => v = (.int .i64 x43) ∧ inR .i64 x43 | 2 => v = (.bool (x49.1 != x43)) | 3 => v = (.bool (x49.1 != x43)) | 4 => v = undef | 5 => v = undef | 6 => v = undef | 7 => v = undef | 8 => v = (.bool true) | 9 => v = (.bool true) | 10 => v = undef | 11 => v = undef | 12 => v = undef | 13 => v = undef | 14 => v = undef | _ => True)) (Q := (fun c m ws L' TL' => match c with | 0 => (b61, cs63) :: (b35, cs44) :: (b14, [v13]) :: (b5, cs47) :: (b1, cs2) :: L = L' ∧ (4, v13) :: TL = TL' | _ => False)) (cs := [⟨0, 0, false, [(8, (.int .i64 x49.1))]⟩, ⟨0, 0, false, [(7, (.pointer (some ⟨b35, 0, none⟩)))]⟩, ⟨0, 0, false, []⟩, ⟨0, 0, false, []⟩, ⟨0, 0, false, [(7, (.pointer (some ⟨b35, 0, none⟩)))]⟩, ⟨0, 0, false, [(5, (.pointer (some ⟨b14, 0, none⟩)))]⟩, ⟨0, 0, false, []⟩, ⟨0, 0, false, []⟩, ⟨0, 0, false, []⟩, ⟨0, 0, false, []⟩, ⟨0, 0, false, [(9, (.pointer (some ⟨b61, 0, none⟩)))]⟩, ⟨0, 0, false, [(5, (.pointer (some ⟨b14, 0, none⟩)))]⟩, ⟨0, 0, false, [(7, (.pointer (some ⟨b35, 0, none⟩)))]⟩, ⟨0, 0, false, []⟩, ⟨0, 0, false, []⟩]) mixed hE hS ⟨rfl, rfl⟩ rfl rfl ⟨⟨rfl, trivial⟩, ⟨rfl, trivial⟩, trivial, trivial, ⟨rfl, trivial⟩, ⟨rfl, trivial⟩, trivial, trivial, trivial, trivial, ⟨rfl, trivial⟩, ⟨rfl, trivial⟩, ⟨rfl, trivial⟩, trivial, trivial, trivial⟩ (by kernel_rfl) ?_ ?_ ?_ ?_
 {
 intro i m_ m2_ ws v hm_ hp_
 match i, hp_ with
 | 0, hp_ => exact hp_
 | 1, hp_ => exact hp_
 | 2, hp_ => exact hp_
 | 3, hp_ => exact hp_
 | 4, hp_ => exact hp_
 | 5, hp_ => exact hp_
 | 6, hp_ => exact hp_
 | 7, hp_ => exact hp_
 | 8, hp_ => exact hp_
 | 9, hp_ => exact hp_
 | 10, hp_ => exact hp_
 | 11, hp_ => exact hp_
 | 12, hp_ => exact hp_
 | 13, hp_ => exact hp_
 | 14, hp_ => exact hp_
 | _ + 15, hp_ => exact trivial
 }
 {
 intro c m_ m2_ ws L_ T_ hm_ hq_
 match c, hq_ with
 | 0, ⟨e1_, e2_⟩ => exact ⟨e1_, e2_⟩
 | _ + 1, hq_ => exact hq_.elim
 }
 {
 refine ⟨?_, ?_, ?_, ?_, ?_, ?_, ?_, ?_, ?_, ?_, ?_, ?_, ?_, ?_, ?_, trivial⟩
 {
 refine cplain fun pre_ post_ L_ T_ m' a' w' hl' hp' hm' hq' hS' hE' hT' => ?_
 obtain rfl := len0 hl'
 refine Step.imp (Run1.pure (r_move hE' rfl)) ?_
 rintro _ _ ⟨rfl, rfl⟩
 exact ⟨_, M.le.refl _, hS', ⟨rfl, hr59⟩⟩
 }
 {
 refine cplain fun pre_ post_ L_ T_ m' a' w' hl' hp' hm' hq' hS' hE' hT' => ?_
 obtain rfl := len0 hl'
 obtain rfl := len0 (lenz (a := 0) hp')
 obtain ⟨rfl, rfl⟩ := hq'
 refine Step.imp (st_loadL hE' hS' ty3 rfl (i := 1) rfl (R_whole ((kInt .i64).mono hm' hc45))) ?_
 rintro v85 _ ⟨rfl, hv81⟩
 obtain ⟨rfl, hr86⟩ := RV_int hv81
 exact ⟨_, M.le.refl _, hS', ⟨rfl, hr86⟩⟩
 }
 {
 refine cplain fun pre_ post_ L_ T_ m' a' w' hl' hp' hm' hq' hS' hE' hT' => ?_
 obtain rfl := len0 hl'
 obtain ⟨v87, e88, q89⟩ : ∃ v, a'.tmps.getD 25 undef = v ∧ (v = (.int .i64 x49.1) ∧ inR .i64 x49.1) := ⟨_, rfl, hT' 0 (by decide) 25 rfl⟩
 obtain ⟨q89, hr90⟩ := q89
 have hE := hE'.add (e88.trans q89)
 obtain ⟨v91, e92, q93⟩ : ∃ v, a'.tmps.getD 26 undef = v ∧ (v = (.int .i64 x43) ∧ inR .i64 x43) := ⟨_, rfl, hT' 1 (by decide) 26 rfl⟩
 obtain ⟨q93, hr94⟩ := q93
 have hE := hE.add (e92.trans q93)
 refine Step.imp (Run1.pure (r_bin hE rfl rfl b_neq)) ?_
 rintro _ _ ⟨rfl, rfl⟩
 exact ⟨_, M.le.refl _, hS', rfl⟩
 }
 {
 refine cplain fun pre_ post_ L_ T_ m' a' w' hl' hp' hm' hq' hS' hE' hT' => ?_
 obtain rfl := len0 hl'
 obtain ⟨v96, e97, q98⟩ : ∃ v, a'.tmps.getD 27 undef = v ∧ (v = (.bool (x49.1 != x43))) := ⟨_, rfl, hT' 2 (by decide) 27 rfl⟩
 have hE := hE'.add (e97.trans q98)
 refine Step.imp (Run1.pure (r_move hE rfl)) ?_
 rintro _ _ ⟨rfl, rfl⟩
 exact ⟨_, M.le.refl _, hS', rfl⟩
 }
 {
 exact cskip (b := true) rfl rfl (by decide) (fun _ _ _ h_ => Eq.trans h_ (cb hd83)) (by decide) (fun _ _ => rfl)
 }
 {
 exact cskip (b := true) rfl rfl (by decide) (fun _ _ _ h_ => Eq.trans h_ (cb hd83)) (by decide) (fun _ _ => rfl)
 }
 {
 exact cskip (b := true) rfl rfl (by decide) (fun _ _ _ h_ => Eq.trans h_ (cb hd83)) (by decide) (fun _ _ => rfl)
 }
 {
 exact cskip (b := true) rfl rfl (by decide) (fun _ _ _ h_ => Eq.trans h_ (cb hd83)) (by decide) (fun _ _ => rfl)
 }
 {
 refine cplain fun pre_ post_ L_ T_ m' a' w' hl' hp' hm' hq' hS' hE' hT' => ?_
 obtain rfl := len0 hl'
 obtain ⟨v100, e101, q102⟩ : ∃ v, a'.tmps.getD 28 undef = v ∧ (v = (.bool (x49.1 != x43))) := ⟨_, rfl, hT' 3 (by decide) 28 rfl⟩
 have hE := hE'.add (e101.trans q102)
 obtain ⟨v103, e104, q105⟩ : ∃ v, a'.tmps.getD 32 undef = v ∧ (v = undef) := ⟨_, rfl, hT' 7 (by decide) 32 rfl⟩
 have hE := hE.add (e104.trans q105)
 refine Step.imp (Run1.pure (r_pickT hE rfl hd83 rfl)) ?_
 rintro _ _ ⟨rfl, rfl⟩
 exact ⟨_, M.le.refl _, hS', rfl⟩
 }
 {
 refine cplain fun pre_ post_ L_ T_ m' a' w' hl' hp' hm' hq' hS' hE' hT' => ?_
 obtain rfl := len0 hl'
 obtain ⟨v107, e108, q109⟩ : ∃ v, a'.tmps.getD 33 undef = v ∧ (v = (.bool true)) := ⟨_, rfl, hT' 8 (by decide) 33 rfl⟩
 have hE := hE'.add (e108.trans q109)
 refine Step.imp (Run1.pure (r_move hE rfl)) ?_
 rintro _ _ ⟨rfl, rfl⟩
 exact ⟨_, M.le.refl _, hS', rfl⟩
 }
 {
 exact cskip (b := true) rfl rfl (by decide) (fun _ _ _ h_ => Eq.trans h_ (cb rfl)) (by decide) (fun _ _ => rfl)
 }
 {
 exact cskip (b := true) rfl rfl (by decide) (fun _ _ _ h_ => Eq.trans h_ (cb rfl)) (by decide) (fun _ _ => rfl)
 }
 {
 exact cskip (b := true) rfl rfl (by decide) (fun _ _ _ h_ => Eq.trans h_ (cb rfl)) (by decide) (fun _ _ => rfl)
 }
 {
 exact cskip (b := true) rfl rfl (by decide) (fun _ _ _ h_ => Eq.trans h_ (cb rfl)) (by decide) (fun _ _ => rfl)
 }
 {
 exact cskip (b := true) rfl rfl (by decide) (fun _ _ _ h_ => Eq.trans h_ (cb rfl)) (by decide) (fun _ _ => rfl)
 }
 }
 {
 intro ws_ L_ T_ m111 a w hl112 hm113 hq114 hS hd115 hn116 ho117 hT118
 obtain rfl := len0 hl112
 obtain ⟨rfl, rfl⟩ := hq114
 have hE := EnvD.of (k := 15) (l' := [(3, (.pointer (some ⟨b1, 0, none⟩))), (4, (.pointer (some ⟨b5, 0, none⟩))), (5, (.pointer (some ⟨b14, 0, none⟩))), (6, v25), (7, (.pointer (some ⟨b35, 0, none⟩))), (8, (.int .i64 x49.1)), (9, (.pointer (some ⟨b61, 0, none⟩))), (22, v25), (23, (.int .i64 x49.1)), (24, v56)]) hd115 hn116 ho117 ⟨rfl, rfl, rfl, rfl, rfl, rfl, rfl, rfl, rfl, rfl, trivial⟩ rfl
 obtain ⟨v119, e120, q121⟩ : ∃ v, a.tmps.getD 29 undef = v ∧ (v = undef) := ⟨_, rfl, hT118 4 (by decide) 29 rfl⟩
 have hE := hE.add (e120.trans q121)
 obtain ⟨v122, e123, q124⟩ : ∃ v, a.tmps.getD 30 undef = v ∧ (v = undef) := ⟨_, rfl, hT118 5 (by decide) 30 rfl⟩
 have hE := hE.add (e123.trans q124)
 obtain ⟨v125, e126, q127⟩ : ∃ v, a.tmps.getD 31 undef = v ∧ (v = undef) := ⟨_, rfl, hT118 6 (by decide) 31 rfl⟩
 have hE := hE.add (e126.trans q127)
 obtain ⟨v128, e129, q130⟩ : ∃ v, a.tmps.getD 32 undef = v ∧ (v = undef) := ⟨_, rfl, hT118 7 (by decide) 32 rfl⟩
 have hE := hE.add (e129.trans q130)
 obtain ⟨v131, e132, q133⟩ : ∃ v, a.tmps.getD 34 undef = v ∧ (v = (.bool true)) := ⟨_, rfl, hT118 9 (by decide) 34 rfl⟩
 have hE := hE.add (e132.trans q133)
 obtain ⟨v134, e135, q136⟩ : ∃ v, a.tmps.getD 35 undef = v ∧ (v = undef) := ⟨_, rfl, hT118 10 (by decide) 35 rfl⟩
 have hE := hE.add (e135.trans q136)
 obtain ⟨v137, e138, q139⟩ : ∃ v, a.tmps.getD 36 undef = v ∧ (v = undef) := ⟨_, rfl, hT118 11 (by decide) 36 rfl⟩
 have hE := hE.add (e138.trans q139)
 obtain ⟨v140, e141, q142⟩ : ∃ v, a.tmps.getD 37 undef = v ∧ (v = undef) := ⟨_, rfl, hT118 12 (by decide) 37 rfl⟩
 have hE := hE.add (e141.trans q142)
 obtain ⟨v143, e144, q145⟩ : ∃ v, a.tmps.getD 38 undef = v ∧ (v = undef) := ⟨_, rfl, hT118 13 (by decide) 38 rfl⟩
 have hE := hE.add (e144.trans q145)
 obtain ⟨v146, e147, q148⟩ : ∃ v, a.tmps.getD 39 undef = v ∧ (v = undef) := ⟨_, rfl, hT118 14 (by decide) 39 rfl⟩
 have hE := hE.add (e147.trans q148)
 refine sx hE rfl rfl rfl rfl rfl rfl fun a hE => ?_
 refine sp hE (r_pickT hE rfl rfl rfl) rfl fun a hE => ?_
 refine knil ?_
 exact ⟨true, h, _, hm113, hS, hE.cut ⟨rfl, rfl, rfl, rfl, rfl, rfl, rfl, trivial⟩⟩
 }
 }
 {
 have h := ite_F hd83 h
 rcases Bool.eq_false_or_eq_true (decide ((r8.length : Int) ≤ x43)) with hd153 | hd153
 {
 have h := ite_T hd153 h
 refine kchain (k := 15) (m := m41) (es := []) (Φ := (fun i m ws v => match i with | 0 => v = (.int .i64 x49.1) ∧ inR .i64 x49.1 | 1 => v = (.int .i64 x43) ∧ inR .i64 x43 | 2 => v = (.bool (x49.1 != x43)) | 3 => v = (.bool (x49.1 != x43)) | 4 => v = (.int .i64 x43) ∧ inR .i64 x43 | 5 => v = v13 | 6 => v = (.int .i64 (r8.length : Int)) ∧ inR .i64 (r8.length : Int) | 7 => v = (.bool (decide ((r8.length : Int) ≤ x43))) | 8 => v = (.bool (decide ((r8.length : Int) ≤ x43))) | 9 => v = (.bool (decide ((r8.length : Int) ≤ x43))) | 10 => v = undef | 11 => v = undef | 12 => v = undef | 13 => v = undef | 14 => v = undef | _ => True)) (Q := (fun c m ws L' TL' => match c with | 0 => (b61, cs63) :: (b35, cs44) :: (b14, [v13]) :: (b5, cs47) :: (b1, cs2) :: L = L' ∧ (4, v13) :: TL = TL' | _ => False)) (cs := [⟨0, 0, false, [(8, (.int .i64 x49.1))]⟩, ⟨0, 0, false, [(7, (.pointer (some ⟨b35, 0, none⟩)))]⟩, ⟨0, 0, false, []⟩, ⟨0, 0, false, []⟩, ⟨0, 0, false, [(7, (.pointer (some ⟨b35, 0, none⟩)))]⟩, ⟨0, 0, false, [(5, (.pointer (some ⟨b14, 0, none⟩)))]⟩, ⟨0, 0, false, []⟩, ⟨0, 0, false, []⟩, ⟨0, 0, false, []⟩, ⟨0, 0, false, []⟩, ⟨0, 0, false, [(9, (.pointer (some ⟨b61, 0, none⟩)))]⟩, ⟨0, 0, false, [(5, (.pointer (some ⟨b14, 0, none⟩)))]⟩, ⟨0, 0, false, [(7, (.pointer (some ⟨b35, 0, none⟩)))]⟩, ⟨0, 0, false, []⟩, ⟨0, 0, false, []⟩]) mixed hE hS ⟨rfl, rfl⟩ rfl rfl ⟨⟨rfl, trivial⟩, ⟨rfl, trivial⟩, trivial, trivial, ⟨rfl, trivial⟩, ⟨rfl, trivial⟩, trivial, trivial, trivial, trivial, ⟨rfl, trivial⟩, ⟨rfl, trivial⟩, ⟨rfl, trivial⟩, trivial, trivial, trivial⟩ (by kernel_rfl) ?_ ?_ ?_ ?_
 {
 intro i m_ m2_ ws v hm_ hp_
 match i, hp_ with
 | 0, hp_ => exact hp_
 | 1, hp_ => exact hp_
 | 2, hp_ => exact hp_
 | 3, hp_ => exact hp_
 | 4, hp_ => exact hp_
 | 5, hp_ => exact hp_
 | 6, hp_ => exact hp_
 | 7, hp_ => exact hp_
 | 8, hp_ => exact hp_
 | 9, hp_ => exact hp_
 | 10, hp_ => exact hp_
 | 11, hp_ => exact hp_
 | 12, hp_ => exact hp_
 | 13, hp_ => exact hp_
 | 14, hp_ => exact hp_
 | _ + 15, hp_ => exact trivial
 }
 {
 intro c m_ m2_ ws L_ T_ hm_ hq_
 match c, hq_ with
 | 0, ⟨e1_, e2_⟩ => exact ⟨e1_, e2_⟩
 | _ + 1, hq_ => exact hq_.elim
 }
 {
 refine ⟨?_, ?_, ?_, ?_, ?_, ?_, ?_, ?_, ?_, ?_, ?_, ?_, ?_, ?_, ?_, trivial⟩
 {
 refine cplain fun pre_ post_ L_ T_ m' a' w' hl' hp' hm' hq' hS' hE' hT' => ?_
 obtain rfl := len0 hl'
 refine Step.imp (Run1.pure (r_move hE' rfl)) ?_
 rintro _ _ ⟨rfl, rfl⟩
 exact ⟨_, M.le.refl _, hS', ⟨rfl, hr59⟩⟩
 }
 {
 refine cplain fun pre_ post_ L_ T_ m' a' w' hl' hp' hm' hq' hS' hE' hT' => ?_
 obtain rfl := len0 hl'
 obtain rfl := len0 (lenz (a := 0) hp')
 obtain ⟨rfl, rfl⟩ := hq'
 refine Step.imp (st_loadL hE' hS' ty3 rfl (i := 1) rfl (R_whole ((kInt .i64).mono hm' hc45))) ?_
 rintro v155 _ ⟨rfl, hv81⟩
 obtain ⟨rfl, hr156⟩ := RV_int hv81
 exact ⟨_, M.le.refl _, hS', ⟨rfl, hr156⟩⟩
 }
 {
 refine cplain fun pre_ post_ L_ T_ m' a' w' hl' hp' hm' hq' hS' hE' hT' => ?_
 obtain rfl := len0 hl'
 obtain ⟨v157, e158, q159⟩ : ∃ v, a'.tmps.getD 25 undef = v ∧ (v = (.int .i64 x49.1) ∧ inR .i64 x49.1) := ⟨_, rfl, hT' 0 (by decide) 25 rfl⟩
 obtain ⟨q159, hr160⟩ := q159
 have hE := hE'.add (e158.trans q159)
 obtain ⟨v161, e162, q163⟩ : ∃ v, a'.tmps.getD 26 undef = v ∧ (v = (.int .i64 x43) ∧ inR .i64 x43) := ⟨_, rfl, hT' 1 (by decide) 26 rfl⟩
 obtain ⟨q163, hr164⟩ := q163
 have hE := hE.add (e162.trans q163)
 refine Step.imp (Run1.pure (r_bin hE rfl rfl b_neq)) ?_
 rintro _ _ ⟨rfl, rfl⟩
 exact ⟨_, M.le.refl _, hS', rfl⟩
 }
 {
 refine cplain fun pre_ post_ L_ T_ m' a' w' hl' hp' hm' hq' hS' hE' hT' => ?_
 obtain rfl := len0 hl'
 obtain ⟨v166, e167, q168⟩ : ∃ v, a'.tmps.getD 27 undef = v ∧ (v = (.bool (x49.1 != x43))) := ⟨_, rfl, hT' 2 (by decide) 27 rfl⟩
 have hE := hE'.add (e167.trans q168)
 refine Step.imp (Run1.pure (r_move hE rfl)) ?_
 rintro _ _ ⟨rfl, rfl⟩
 exact ⟨_, M.le.refl _, hS', rfl⟩
 }
 {
 refine cguard rfl rfl (by decide) (fun _ _ _ h_ => Eq.trans h_ (cb hd83)) fun pre_ post_ L_ T_ m' a' w' hl' hp' hm' hq' hS' hE' hT' => ?_
 obtain rfl := len0 hl'
 obtain rfl := len0 (lenz (a := 0) hp')
 obtain ⟨rfl, rfl⟩ := hq'
 refine Step.imp (st_loadL hE' hS' ty3 rfl (i := 1) rfl (R_whole ((kInt .i64).mono hm' hc45))) ?_
 rintro v170 _ ⟨rfl, hv150⟩
 obtain ⟨rfl, hr171⟩ := RV_int hv150
 exact ⟨_, M.le.refl _, hS', ⟨rfl, hr171⟩⟩
 }
 {
 refine cguard rfl rfl (by decide) (fun _ _ _ h_ => Eq.trans h_ (cb hd83)) fun pre_ post_ L_ T_ m' a' w' hl' hp' hm' hq' hS' hE' hT' => ?_
 obtain rfl := len0 hl'
 obtain rfl := len0 (lenz (a := 0) hp')
 obtain ⟨rfl, rfl⟩ := hq'
 refine Step.imp (Run1.pure (st_loadSl (k := kAp) hE' hS' ty22 rfl (i := 2) rfl (hv12.mono (M.le.trans hm23 (M.le.trans hm28 (M.le.trans hm42 hm')))))) ?_
 rintro _ _ ⟨rfl, rfl⟩
 exact ⟨_, M.le.refl _, hS', rfl⟩
 }
 {
 refine cguard rfl rfl (by decide) (fun _ _ _ h_ => Eq.trans h_ (cb hd83)) fun pre_ post_ L_ T_ m' a' w' hl' hp' hm' hq' hS' hE' hT' => ?_
 obtain rfl := len0 hl'
 obtain ⟨v173, e174, q175⟩ : ∃ v, a'.tmps.getD 30 undef = v ∧ (v = v13) := ⟨_, rfl, hT' 5 (by decide) 30 rfl⟩
 have hE := hE'.add (e174.trans q175)
 refine Step.imp (Run1.pure (r_lenSl (k := kAp) hE rfl rfl Tryz.underlying22 (hv12.mono (M.le.trans hm23 (M.le.trans hm28 (M.le.trans hm42 hm')))))) ?_
 rintro _ _ ⟨rfl, rfl⟩
 exact ⟨_, M.le.refl _, hS', ⟨rfl, (inR_len (RV_len (hv12.mono (M.le.trans hm23 (M.le.trans hm28 (M.le.trans hm42 hm'))))))⟩⟩
 }
 {
 refine cguard rfl rfl (by decide) (fun _ _ _ h_ => Eq.trans h_ (cb hd83)) fun pre_ post_ L_ T_ m' a' w' hl' hp' hm' hq' hS' hE' hT' => ?_
 obtain rfl := len0 hl'
 obtain ⟨v177, e178, q179⟩ : ∃ v, a'.tmps.getD 29 undef = v ∧ (v = (.int .i64 x43) ∧ inR .i64 x43) := ⟨_, rfl, hT' 4 (by decide) 29 rfl⟩
 obtain ⟨q179, hr180⟩ := q179
 have hE := hE'.add (e178.trans q179)
 obtain ⟨v181, e182, q183⟩ : ∃ v, a'.tmps.getD 31 undef = v ∧ (v = (.int .i64 (r8.length : Int)) ∧ inR .i64 (r8.length : Int)) := ⟨_, rfl, hT' 6 (by decide) 31 rfl⟩
 obtain ⟨q183, hr184⟩ := q183
 have hE := hE.add (e182.trans q183)
 refine Step.imp (Run1.pure (r_bin hE rfl rfl b_geq)) ?_
 rintro _ _ ⟨rfl, rfl⟩
 exact ⟨_, M.le.refl _, hS', rfl⟩
 }
 {
 refine cplain fun pre_ post_ L_ T_ m' a' w' hl' hp' hm' hq' hS' hE' hT' => ?_
 obtain rfl := len0 hl'
 obtain ⟨v186, e187, q188⟩ : ∃ v, a'.tmps.getD 28 undef = v ∧ (v = (.bool (x49.1 != x43))) := ⟨_, rfl, hT' 3 (by decide) 28 rfl⟩
 have hE := hE'.add (e187.trans q188)
 obtain ⟨v189, e190, q191⟩ : ∃ v, a'.tmps.getD 32 undef = v ∧ (v = (.bool (decide ((r8.length : Int) ≤ x43)))) := ⟨_, rfl, hT' 7 (by decide) 32 rfl⟩
 have hE := hE.add (e190.trans q191)
 refine Step.imp (Run1.pure (r_pickF hE rfl hd83 rfl)) ?_
 rintro _ _ ⟨rfl, rfl⟩
 exact ⟨_, M.le.refl _, hS', rfl⟩
 }
 {
 refine cplain fun pre_ post_ L_ T_ m' a' w' hl' hp' hm' hq' hS' hE' hT' => ?_
 obtain rfl := len0 hl'
 obtain ⟨v193, e194, q195⟩ : ∃ v, a'.tmps.getD 33 undef = v ∧ (v = (.bool (decide ((r8.length : Int) ≤ x43)))) := ⟨_, rfl, hT' 8 (by decide) 33 rfl⟩
 have hE := hE'.add (e194.trans q195)
 refine Step.imp (Run1.pure (r_move hE rfl)) ?_
 rintro _ _ ⟨rfl, rfl⟩
 exact ⟨_, M.le.refl _, hS', rfl⟩
 }
 {
 exact cskip (b := true) rfl rfl (by decide) (fun _ _ _ h_ => Eq.trans h_ (cb hd153)) (by decide) (fun _ _ => rfl)
 }
 {
 exact cskip (b := true) rfl rfl (by decide) (fun _ _ _ h_ => Eq.trans h_ (cb hd153)) (by decide) (fun _ _ => rfl)
 }
 {
 exact cskip (b := true) rfl rfl (by decide) (fun _ _ _ h_ => Eq.trans h_ (cb hd153)) (by decide) (fun _ _ => rfl)
 }
 {
 exact cskip (b := true) rfl rfl (by decide) (fun _ _ _ h_ => Eq.trans h_ (cb hd153)) (by decide) (fun _ _ => rfl)
 }
 {
 exact cskip (b := true) rfl rfl (by decide) (fun _ _ _ h_ => Eq.trans h_ (cb hd153)) (by decide) (fun _ _ => rfl)
 }
 }
 {
 intro ws_ L_ T_ m197 a w hl198 hm199 hq200 hS hd201 hn202 ho203 hT204
 obtain rfl := len0 hl198
 obtain ⟨rfl, rfl⟩ := hq200
 have hE := EnvD.of (k := 15) (l' := [(3, (.pointer (some ⟨b1, 0, none⟩))), (4, (.pointer (some ⟨b5, 0, none⟩))), (5, (.pointer (some ⟨b14, 0, none⟩))), (6, v25), (7, (.pointer (some ⟨b35, 0, none⟩))), (8, (.int .i64 x49.1)), (9, (.pointer (some ⟨b61, 0, none⟩))), (22, v25), (23, (.int .i64 x49.1)), (24, v56)]) hd201 hn202 ho203 ⟨rfl, rfl, rfl, rfl, rfl, rfl, rfl, rfl, rfl, rfl, trivial⟩ rfl
 obtain ⟨v205, e206, q207⟩ : ∃ v, a.tmps.getD 29 undef = v ∧ (v = (.int .i64 x43) ∧ inR .i64 x43) := ⟨_, rfl, hT204 4 (by decide) 29 rfl⟩
 obtain ⟨q207, hr208⟩ := q207
 have hE := hE.add (e206.trans q207)
 obtain ⟨v209, e210, q211⟩ : ∃ v, a.tmps.getD 30 undef = v ∧ (v = v13) := ⟨_, rfl, hT204 5 (by decide) 30 rfl⟩
 have hE := hE.add (e210.trans q211)
 obtain ⟨v212, e213, q214⟩ : ∃ v, a.tmps.getD 31 undef = v ∧ (v = (.int .i64 (r8.length : Int)) ∧ inR .i64 (r8.length : Int)) := ⟨_, rfl, hT204 6 (by decide) 31 rfl⟩
 obtain ⟨q214, hr215⟩ := q214
 have hE := hE.add (e213.trans q214)
 obtain ⟨v216, e217, q218⟩ : ∃ v, a.tmps.getD 32 undef = v ∧ (v = (.bool (decide ((r8.length : Int) ≤ x43)))) := ⟨_, rfl, hT204 7 (by decide) 32 rfl⟩
 have hE := hE.add (e217.trans q218)
 obtain ⟨v219, e220, q221⟩ : ∃ v, a.tmps.getD 34 undef = v ∧ (v = (.bool (decide ((r8.length : Int) ≤ x43)))) := ⟨_, rfl, hT204 9 (by decide) 34 rfl⟩
 have hE := hE.add (e220.trans q221)
 obtain ⟨v222, e223, q224⟩ : ∃ v, a.tmps.getD 35 undef = v ∧ (v = undef) := ⟨_, rfl, hT204 10 (by decide) 35 rfl⟩
 have hE := hE.add (e223.trans q224)
 obtain ⟨v225, e226, q227⟩ : ∃ v, a.tmps.getD 36 undef = v ∧ (v = undef) := ⟨_, rfl, hT204 11 (by decide) 36 rfl⟩
 have hE := hE.add (e226.trans q227)
 obtain ⟨v228, e229, q230⟩ : ∃ v, a.tmps.getD 37 undef = v ∧ (v = undef) := ⟨_, rfl, hT204 12 (by decide) 37 rfl⟩
 have hE := hE.add (e229.trans q230)
 obtain ⟨v231, e232, q233⟩ : ∃ v, a.tmps.getD 38 undef = v ∧ (v = undef) := ⟨_, rfl, hT204 13 (by decide) 38 rfl⟩
 have hE := hE.add (e232.trans q233)
 obtain ⟨v234, e235, q236⟩ : ∃ v, a.tmps.getD 39 undef = v ∧ (v = undef) := ⟨_, rfl, hT204 14 (by decide) 39 rfl⟩
 have hE := hE.add (e235.trans q236)
 refine sx hE rfl rfl rfl rfl hd153 rfl fun a hE => ?_
 refine sp hE (r_pickT hE rfl hd153 rfl) rfl fun a hE => ?_
 refine knil ?_
 exact ⟨true, h, _, hm199, hS, hE.cut ⟨rfl, rfl, rfl, rfl, rfl, rfl, rfl, trivial⟩⟩
 }
 }
 {
 have h := ite_F hd153 h
 obtain ⟨x242, hx243, h⟩ := ob h
 refine kchain (k := 15) (m := m41) (es := []) (Φ := (fun i m ws v => match i with | 0 => v = (.int .i64 x49.1) ∧ inR .i64 x49.1 | 1 => v = (.int .i64 x43) ∧ inR .i64 x43 | 2 => v = (.bool (x49.1 != x43)) | 3 => v = (.bool (x49.1 != x43)) | 4 => v = (.int .i64 x43) ∧ inR .i64 x43 | 5 => v = v13 | 6 => v = (.int .i64 (r8.length : Int)) ∧ inR .i64 (r8.length : Int) | 7 => v = (.bool (decide ((r8.length : Int) ≤ x43))) | 8 => v = (.bool (decide ((r8.length : Int) ≤ x43))) | 9 => v = (.bool (decide ((r8.length : Int) ≤ x43))) | 10 => RV kAp m v x49.2 | 11 => v = v13 | 12 => v = (.int .i64 x43) ∧ inR .i64 x43 | 13 => PR kAp m v x242 | 14 => RV kAp m v x242 | _ => True)) (Q := (fun c m ws L' TL' => match c with | 0 => (b61, cs63) :: (b35, cs44) :: (b14, [v13]) :: (b5, cs47) :: (b1, cs2) :: L = L' ∧ (4, v13) :: TL = TL' | _ => False)) (cs := [⟨0, 0, false, [(8, (.int .i64 x49.1))]⟩, ⟨0, 0, false, [(7, (.pointer (some ⟨b35, 0, none⟩)))]⟩, ⟨0, 0, false, []⟩, ⟨0, 0, false, []⟩, ⟨0, 0, false, [(7, (.pointer (some ⟨b35, 0, none⟩)))]⟩, ⟨0, 0, false, [(5, (.pointer (some ⟨b14, 0, none⟩)))]⟩, ⟨0, 0, false, []⟩, ⟨0, 0, false, []⟩, ⟨0, 0, false, []⟩, ⟨0, 0, false, []⟩, ⟨0, 0, false, [(9, (.pointer (some ⟨b61, 0, none⟩)))]⟩, ⟨0, 0, false, [(5, (.pointer (some ⟨b14, 0, none⟩)))]⟩, ⟨0, 0, false, [(7, (.pointer (some ⟨b35, 0, none⟩)))]⟩, ⟨0, 0, false, []⟩, ⟨0, 0, false, []⟩]) mixed hE hS ⟨rfl, rfl⟩ rfl rfl ⟨⟨rfl, trivial⟩, ⟨rfl, trivial⟩, trivial, trivial, ⟨rfl, trivial⟩, ⟨rfl, trivial⟩, trivial, trivial, trivial, trivial, ⟨rfl, trivial⟩, ⟨rfl, trivial⟩, ⟨rfl, trivial⟩, trivial, trivial, trivial⟩ (by kernel_rfl) ?_ ?_ ?_ ?_
 {
 intro i m_ m2_ ws v hm_ hp_
 match i, hp_ with
 | 0, hp_ => exact hp_
 | 1, hp_ => exact hp_
 | 2, hp_ => exact hp_
 | 3, hp_ => exact hp_
 | 4, hp_ => exact hp_
 | 5, hp_ => exact hp_
 | 6, hp_ => exact hp_
 | 7, hp_ => exact hp_
 | 8, hp_ => exact hp_
 | 9, hp_ => exact hp_
 | 10, hp_ => exact RV.mono hp_ hm_
 | 11, hp_ => exact hp_
 | 12, hp_ => exact hp_
 | 13, hp_ => exact PR.mono hp_ hm_
 | 14, hp_ => exact RV.mono hp_ hm_
 | _ + 15, hp_ => exact trivial
 }
 {
 intro c m_ m2_ ws L_ T_ hm_ hq_
 match c, hq_ with
 | 0, ⟨e1_, e2_⟩ => exact ⟨e1_, e2_⟩
 | _ + 1, hq_ => exact hq_.elim
 }
 {
 refine ⟨?_, ?_, ?_, ?_, ?_, ?_, ?_, ?_, ?_, ?_, ?_, ?_, ?_, ?_, ?_, trivial⟩
 {
 refine cplain fun pre_ post_ L_ T_ m' a' w' hl' hp' hm' hq' hS' hE' hT' => ?_
 obtain rfl := len0 hl'
 refine Step.imp (Run1.pure (r_move hE' rfl)) ?_
 rintro _ _ ⟨rfl, rfl⟩
 exact ⟨_, M.le.refl _, hS', ⟨rfl, hr59⟩⟩
 }
 {
 refine cplain fun pre_ post_ L_ T_ m' a' w' hl' hp' hm' hq' hS' hE' hT' => ?_
 obtain rfl := len0 hl'
 obtain rfl := len0 (lenz (a := 0) hp')
 obtain ⟨rfl, rfl⟩ := hq'
 refine Step.imp (st_loadL hE' hS' ty3 rfl (i := 1) rfl (R_whole ((kInt .i64).mono hm' hc45))) ?_
 rintro v247 _ ⟨rfl, hv81⟩
 obtain ⟨rfl, hr248⟩ := RV_int hv81
 exact ⟨_, M.le.refl _, hS', ⟨rfl, hr248⟩⟩
 }
 {
 refine cplain fun pre_ post_ L_ T_ m' a' w' hl' hp' hm' hq' hS' hE' hT' => ?_
 obtain rfl := len0 hl'
 obtain ⟨v249, e250, q251⟩ : ∃ v, a'.tmps.getD 25 undef = v ∧ (v = (.int .i64 x49.1) ∧ inR .i64 x49.1) := ⟨_, rfl, hT' 0 (by decide) 25 rfl⟩
 obtain ⟨q251, hr252⟩ := q251
 have hE := hE'.add (e250.trans q251)
 obtain ⟨v253, e254, q255⟩ : ∃ v, a'.tmps.getD 26 undef = v ∧ (v = (.int .i64 x43) ∧ inR .i64 x43) := ⟨_, rfl, hT' 1 (by decide) 26 rfl⟩
 obtain ⟨q255, hr256⟩ := q255
 have hE := hE.add (e254.trans q255)
 refine Step.imp (Run1.pure (r_bin hE rfl rfl b_neq)) ?_
 rintro _ _ ⟨rfl, rfl⟩
 exact ⟨_, M.le.refl _, hS', rfl⟩
 }
 {
 refine cplain fun pre_ post_ L_ T_ m' a' w' hl' hp' hm' hq' hS' hE' hT' => ?_
 obtain rfl := len0 hl'
 obtain ⟨v258, e259, q260⟩ : ∃ v, a'.tmps.getD 27 undef = v ∧ (v = (.bool (x49.1 != x43))) := ⟨_, rfl, hT' 2 (by decide) 27 rfl⟩
 have hE := hE'.add (e259.trans q260)
 refine Step.imp (Run1.pure (r_move hE rfl)) ?_
 rintro _ _ ⟨rfl, rfl⟩
 exact ⟨_, M.le.refl _, hS', rfl⟩
 }
 {
 refine cguard rfl rfl (by decide) (fun _ _ _ h_ => Eq.trans h_ (cb hd83)) fun pre_ post_ L_ T_ m' a' w' hl' hp' hm' hq' hS' hE' hT' => ?_
 obtain rfl := len0 hl'
 obtain rfl := len0 (lenz (a := 0) hp')
 obtain ⟨rfl, rfl⟩ := hq'
 refine Step.imp (st_loadL hE' hS' ty3 rfl (i := 1) rfl (R_whole ((kInt .i64).mono hm' hc45))) ?_
 rintro v262 _ ⟨rfl, hv150⟩
 obtain ⟨rfl, hr263⟩ := RV_int hv150
 exact ⟨_, M.le.refl _, hS', ⟨rfl, hr263⟩⟩
 }
 {
 refine cguard rfl rfl (by decide) (fun _ _ _ h_ => Eq.trans h_ (cb hd83)) fun pre_ post_ L_ T_ m' a' w' hl' hp' hm' hq' hS' hE' hT' => ?_
 obtain rfl := len0 hl'
 obtain rfl := len0 (lenz (a := 0) hp')
 obtain ⟨rfl, rfl⟩ := hq'
 refine Step.imp (Run1.pure (st_loadSl (k := kAp) hE' hS' ty22 rfl (i := 2) rfl (hv12.mono (M.le.trans hm23 (M.le.trans hm28 (M.le.trans hm42 hm')))))) ?_
 rintro _ _ ⟨rfl, rfl⟩
 exact ⟨_, M.le.refl _, hS', rfl⟩
 }
 {
 refine cguard rfl rfl (by decide) (fun _ _ _ h_ => Eq.trans h_ (cb hd83)) fun pre_ post_ L_ T_ m' a' w' hl' hp' hm' hq' hS' hE' hT' => ?_
 obtain rfl := len0 hl'
 obtain ⟨v265, e266, q267⟩ : ∃ v, a'.tmps.getD 30 undef = v ∧ (v = v13) := ⟨_, rfl, hT' 5 (by decide) 30 rfl⟩
 have hE := hE'.add (e266.trans q267)
 refine Step.imp (Run1.pure (r_lenSl (k := kAp) hE rfl rfl Tryz.underlying22 (hv12.mono (M.le.trans hm23 (M.le.trans hm28 (M.le.trans hm42 hm')))))) ?_
 rintro _ _ ⟨rfl, rfl⟩
 exact ⟨_, M.le.refl _, hS', ⟨rfl, (inR_len (RV_len (hv12.mono (M.le.trans hm23 (M.le.trans hm28 (M.le.trans hm42 hm'))))))⟩⟩
 }
 {
 refine cguard rfl rfl (by decide) (fun _ _ _ h_ => Eq.trans h_ (cb hd83)) fun pre_ post_ L_ T_ m' a' w' hl' hp' hm' hq' hS' hE' hT' => ?_
 obtain rfl := len0 hl'
 obtain ⟨v269, e270, q271⟩ : ∃ v, a'.tmps.getD 29 undef = v ∧ (v = (.int .i64 x43) ∧ inR .i64 x43) := ⟨_, rfl, hT' 4 (by decide) 29 rfl⟩
 obtain ⟨q271, hr272⟩ := q271
 have hE := hE'.add (e270.trans q271)
 obtain ⟨v273, e274, q275⟩ : ∃ v, a'.tmps.getD 31 undef = v ∧ (v = (.int .i64 (r8.length : Int)) ∧ inR .i64 (r8.length : Int)) := ⟨_, rfl, hT' 6 (by decide) 31 rfl⟩
 obtain ⟨q275, hr276⟩ := q275
 have hE := hE.add (e274.trans q275)
 refine Step.imp (Run1.pure (r_bin hE rfl rfl b_geq)) ?_
 rintro _ _ ⟨rfl, rfl⟩
 exact ⟨_, M.le.refl _, hS', rfl⟩
 }
 {
 refine cplain fun pre_ post_ L_ T_ m' a' w' hl' hp' hm' hq' hS' hE' hT' => ?_
 obtain rfl := len0 hl'
 obtain ⟨v278, e279, q280⟩ : ∃ v, a'.tmps.getD 28 undef = v ∧ (v = (.bool (x49.1 != x43))) := ⟨_, rfl, hT' 3 (by decide) 28 rfl⟩
 have hE := hE'.add (e279.trans q280)
 obtain ⟨v281, e282, q283⟩ : ∃ v, a'.tmps.getD 32 undef = v ∧ (v = (.bool (decide ((r8.length : Int) ≤ x43)))) := ⟨_, rfl, hT' 7 (by decide) 32 rfl⟩
 have hE := hE.add (e282.trans q283)
 refine Step.imp (Run1.pure (r_pickF hE rfl hd83 rfl)) ?_
 rintro _ _ ⟨rfl, rfl⟩
 exact ⟨_, M.le.refl _, hS', rfl⟩
 }
 {
 refine cplain fun pre_ post_ L_ T_ m' a' w' hl' hp' hm' hq' hS' hE' hT' => ?_
 obtain rfl := len0 hl'
 obtain ⟨v285, e286, q287⟩ : ∃ v, a'.tmps.getD 33 undef = v ∧ (v = (.bool (decide ((r8.length : Int) ≤ x43)))) := ⟨_, rfl, hT' 8 (by decide) 33 rfl⟩
 have hE := hE'.add (e286.trans q287)
 refine Step.imp (Run1.pure (r_move hE rfl)) ?_
 rintro _ _ ⟨rfl, rfl⟩
 exact ⟨_, M.le.refl _, hS', rfl⟩
 }
 {
 refine cguard rfl rfl (by decide) (fun _ _ _ h_ => Eq.trans h_ (cb hd153)) fun pre_ post_ L_ T_ m' a' w' hl' hp' hm' hq' hS' hE' hT' => ?_
 obtain rfl := len0 hl'
 obtain rfl := len0 (lenz (a := 0) hp')
 obtain ⟨rfl, rfl⟩ := hq'
 refine Step.imp (st_loadL hE' hS' ty32 rfl (i := 0) rfl (R_whole (kAp.mono hm' hc64))) ?_
 rintro v289 _ ⟨rfl, hv238⟩
 exact ⟨_, M.le.refl _, hS', hv238⟩
 }
 {
 refine cguard rfl rfl (by decide) (fun _ _ _ h_ => Eq.trans h_ (cb hd153)) fun pre_ post_ L_ T_ m' a' w' hl' hp' hm' hq' hS' hE' hT' => ?_
 obtain rfl := len0 hl'
 obtain rfl := len0 (lenz (a := 0) hp')
 obtain ⟨rfl, rfl⟩ := hq'
 refine Step.imp (Run1.pure (st_loadSl (k := kAp) hE' hS' ty22 rfl (i := 2) rfl (hv12.mono (M.le.trans hm23 (M.le.trans hm28 (M.le.trans hm42 hm')))))) ?_
 rintro _ _ ⟨rfl, rfl⟩
 exact ⟨_, M.le.refl _, hS', rfl⟩
 }
 {
 refine cguard rfl rfl (by decide) (fun _ _ _ h_ => Eq.trans h_ (cb hd153)) fun pre_ post_ L_ T_ m' a' w' hl' hp' hm' hq' hS' hE' hT' => ?_
 obtain rfl := len0 hl'
 obtain rfl := len0 (lenz (a := 0) hp')
 obtain ⟨rfl, rfl⟩ := hq'
 refine Step.imp (st_loadL hE' hS' ty3 rfl (i := 1) rfl (R_whole ((kInt .i64).mono hm' hc45))) ?_
 rintro v291 _ ⟨rfl, hv240⟩
 obtain ⟨rfl, hr292⟩ := RV_int hv240
 exact ⟨_, M.le.refl _, hS', ⟨rfl, hr292⟩⟩
 }
 {
 refine cguard rfl rfl (by decide) (fun _ _ _ h_ => Eq.trans h_ (cb hd153)) fun pre_ post_ L_ T_ m' a' w' hl' hp' hm' hq' hS' hE' hT' => ?_
 obtain rfl := len0 hl'
 obtain ⟨v293, e294, q295⟩ : ∃ v, a'.tmps.getD 36 undef = v ∧ (v = v13) := ⟨_, rfl, hT' 11 (by decide) 36 rfl⟩
 have hE := hE'.add (e294.trans q295)
 obtain ⟨v296, e297, q298⟩ : ∃ v, a'.tmps.getD 37 undef = v ∧ (v = (.int .i64 x43) ∧ inR .i64 x43) := ⟨_, rfl, hT' 12 (by decide) 37 rfl⟩
 obtain ⟨q298, hr299⟩ := q298
 have hE := hE.add (e297.trans q298)
 refine Step.imp (st_index (k := kAp) hE rfl rfl Tryz.underlying22 Tryz.sizeOf32 (hv12.mono (M.le.trans hm23 (M.le.trans hm28 (M.le.trans hm42 hm')))) hx243) ?_
 rintro v300 _ ⟨rfl, hp244⟩
 exact ⟨_, M.le.refl _, hS', hp244⟩
 }
 {
 refine cguard rfl rfl (by decide) (fun _ _ _ h_ => Eq.trans h_ (cb hd153)) fun pre_ post_ L_ T_ m' a' w' hl' hp' hm' hq' hS' hE' hT' => ?_
 obtain rfl := len0 hl'
 obtain ⟨v301, e302, q303⟩ : ∃ v, a'.tmps.getD 38 undef = v ∧ (PR kAp m' v x242) := ⟨_, rfl, hT' 13 (by decide) 38 rfl⟩
 have hE := hE'.add (e302)
 refine Step.imp (st_loadM hE hS' ty32 rfl q303) ?_
 rintro v304 _ ⟨rfl, hv245⟩
 exact ⟨_, M.le.refl _, hS', hv245⟩
 }
 }
 {
 intro ws_ L_ T_ m305 a w hl306 hm307 hq308 hS hd309 hn310 ho311 hT312
 obtain rfl := len0 hl306
 obtain ⟨rfl, rfl⟩ := hq308
 have hE := EnvD.of (k := 15) (l' := [(3, (.pointer (some ⟨b1, 0, none⟩))), (4, (.pointer (some ⟨b5, 0, none⟩))), (5, (.pointer (some ⟨b14, 0, none⟩))), (6, v25), (7, (.pointer (some ⟨b35, 0, none⟩))), (8, (.int .i64 x49.1)), (9, (.pointer (some ⟨b61, 0, none⟩))), (22, v25), (23, (.int .i64 x49.1)), (24, v56)]) hd309 hn310 ho311 ⟨rfl, rfl, rfl, rfl, rfl, rfl, rfl, rfl, rfl, rfl, trivial⟩ rfl
 obtain ⟨v313, e314, q315⟩ : ∃ v, a.tmps.getD 29 undef = v ∧ (v = (.int .i64 x43) ∧ inR .i64 x43) := ⟨_, rfl, hT312 4 (by decide) 29 rfl⟩
 obtain ⟨q315, hr316⟩ := q315
 have hE := hE.add (e314.trans q315)
 obtain ⟨v317, e318, q319⟩ : ∃ v, a.tmps.getD 30 undef = v ∧ (v = v13) := ⟨_, rfl, hT312 5 (by decide) 30 rfl⟩
 have hE := hE.add (e318.trans q319)
 obtain ⟨v320, e321, q322⟩ : ∃ v, a.tmps.getD 31 undef = v ∧ (v = (.int .i64 (r8.length : Int)) ∧ inR .i64 (r8.length : Int)) := ⟨_, rfl, hT312 6 (by decide) 31 rfl⟩
 obtain ⟨q322, hr323⟩ := q322
 have hE := hE.add (e321.trans q322)
 obtain ⟨v324, e325, q326⟩ : ∃ v, a.tmps.getD 32 undef = v ∧ (v = (.bool (decide ((r8.length : Int) ≤ x43)))) := ⟨_, rfl, hT312 7 (by decide) 32 rfl⟩
 have hE := hE.add (e325.trans q326)
 obtain ⟨v327, e328, q329⟩ : ∃ v, a.tmps.getD 34 undef = v ∧ (v = (.bool (decide ((r8.length : Int) ≤ x43)))) := ⟨_, rfl, hT312 9 (by decide) 34 rfl⟩
 have hE := hE.add (e328.trans q329)
 obtain ⟨v330, e331, q332⟩ : ∃ v, a.tmps.getD 35 undef = v ∧ (RV kAp m305 v x49.2) := ⟨_, rfl, hT312 10 (by decide) 35 rfl⟩
 have hE := hE.add (e331)
 obtain ⟨v333, e334, q335⟩ : ∃ v, a.tmps.getD 36 undef = v ∧ (v = v13) := ⟨_, rfl, hT312 11 (by decide) 36 rfl⟩
 have hE := hE.add (e334.trans q335)
 obtain ⟨v336, e337, q338⟩ : ∃ v, a.tmps.getD 37 undef = v ∧ (v = (.int .i64 x43) ∧ inR .i64 x43) := ⟨_, rfl, hT312 12 (by decide) 37 rfl⟩
 obtain ⟨q338, hr339⟩ := q338
 have hE := hE.add (e337.trans q338)
 obtain ⟨v340, e341, q342⟩ : ∃ v, a.tmps.getD 38 undef = v ∧ (PR kAp m305 v x242) := ⟨_, rfl, hT312 13 (by decide) 38 rfl⟩
 have hE := hE.add (e341)
 obtain ⟨v343, e344, q345⟩ : ∃ v, a.tmps.getD 39 undef = v ∧ (RV kAp m305 v x242) := ⟨_, rfl, hT312 14 (by decide) 39 rfl⟩
 have hE := hE.add (e344)
 refine spg hE rfl rfl rfl rfl hd153 (r_neqK hE eq32 rfl rfl q332 q345 rfl) rfl fun a hE => ?_
 refine sp hE (r_pickF hE rfl hd153 rfl) rfl fun a hE => ?_
 refine knil ?_
 exact ⟨(!decide (x49.2 = x242)), h, _, hm307, hS, hE.cut ⟨rfl, rfl, rfl, rfl, rfl, rfl, rfl, trivial⟩⟩
 }
 }
 }
 }
 {
 rintro a w ⟨x68, h, m66, hm67, hS, hE⟩
 unfold l7_BlockAll_j2 at h
 refine kif hE rfl (fun hd70 => ?_) (fun hd70 => ?_)
 {
 have h := ite_T hd70 h
 refine kseq (kreg ?_)
 refine st0 hE (st_storeF hE hS ty4 StF_self rfl rfl RV_of_bool (i := 3) rfl (kBool.mono hm67 hc48)) ?_
 rintro _ w ⟨cs71, hc72, hS⟩ hE
 refine knil (kret ?_)
 cases h
 try dsimp only
 exact ⟨rfl, rfl, _, [(b35, cs44), (b14, [v13]), (b5, cs71), (b1, cs2)], [(4, v13)], hm67, ⟨cs44, cs71, (M.le.trans hm42 hm67), ((kInt .i64).mono hm67 hc45), hc72, rfl, rfl⟩, (hS.pickL 5 [1, 2, 3, 4] rfl rfl rfl)⟩
 }
 {
 have h := ite_F hd70 h
 refine kskip (kreg ?_)
 refine st hE (st_loadL hE hS ty3 rfl (i := 1) rfl (R_whole ((kInt .i64).mono hm67 hc45))) rfl ?_
 rintro v75 a _ ⟨rfl, hv74⟩ hE
 obtain ⟨rfl, hr76⟩ := RV_int hv74
 refine sp hE (r_bin hE rfl rfl (b_add rfl)) rfl fun a hE => ?_
 refine st0 hE (st_storeF hE hS ty3 StF_self rfl rfl (RV_of_int (inR_wrap _ _)) (i := 1) rfl ((kInt .i64).mono hm67 hc45)) ?_
 rintro _ w ⟨cs78, hc79, hS⟩ hE
 refine knil ?_
 cases h
 try dsimp only
 exact ⟨rfl, _, [(b35, cs78), (b14, [v13]), (b5, cs47), (b1, cs2)], [(4, v13)], hm67, ⟨cs78, cs47, (M.le.trans hm42 hm67), hc79, (kBool.mono hm67 hc48), rfl, rfl⟩, (hS.pickL 5 [1, 2, 3, 4] rfl rfl rfl)⟩
 }
 }
 }
 {
 intro D350 m354 w a Ls_ TLs_ hm355 hE hI52 hS hk352 hB353
 obtain ⟨cs357, cs358, _, hc359, hc360, rfl, rfl⟩ := hI52
 obtain ⟨W0, hW351⟩ : ∃ W9, W9 = W0.put D350 (.deferred (some [])) := ⟨_, rfl⟩
 rw [← hW351] at hS
 rcases Bool.eq_false_or_eq_true y348.2 with hb356 | hb356
 {
 have h := ite_T hb356 h
 rw [if_pos hb356]
 refine kseq (kreg ?_)
 refine st hE (st_alloc hS Tryz.zeroValue3 rfl (cs := zc3)) rfl ?_
 rintro _ a w ⟨b361, rfl, hS⟩ hE
 refine st0 hE (st_storeF hE hS ty3 StF_self rfl rfl (RV_of_int (show inR .i64 0 from inR_lit (by decide))) (i := 0) rfl (zr3 _)) ?_
 rintro _ w ⟨cs363, hc364, hS⟩ hE
 refine knil (kseq (kseq (kreg ?_)))
 refine qm hE rfl rfl fun a hE => ?_
 refine knil (kblock ?_)
 obtain ⟨y398, hy399, h⟩ := ob h
 refine krangeV (Rv := (Rv2 (kInt .i64) kAp)) (fun (s : Int) (x : (Int × Ap)) => l7_BlockAll_b2 p1 s x) (fun _ => .exit 2) [2] (fun (m' : M) (s : Int) (Ls_ : Mem) (TLs_ : Tls) => ∃ (cs370 : List Value), M.le m354 m' ∧ (kInt .i64).R m' cs370 s ∧ Ls_ = [(b361, cs370), (b35, cs357), (b14, [v13]), (b5, cs358), (b1, cs2)] ∧ TLs_ = [(4, v13)]) (Ls := [(b361, cs363), (b35, cs357), (b14, [v13]), (b5, cs358), (b1, cs2)]) (TLs := [(4, v13)]) (s0 := 0) (sf := y398.1) (bf := y398.2) hE hS rfl (hv24.mono (M.le.trans hm28 hm355)) (by decide) (fun _ _ _ h => Rv2_len h) (by rintro m1_ m2_ s_ a_ b_ hm_ ⟨cs370, hl_, hf0_, e1_, e2_⟩; exact ⟨cs370, hl_.trans hm_, (kInt .i64).mono hm_ hf0_, e1_, e2_⟩) ⟨cs363, M.le.refl _, hc364, rfl, rfl⟩ hy399 ?_ ?_
 {
 intro lid_ W1_ W0 m367 w L TL s_ Ls_ TLs_ vs_ x372 s373 b374 a or_ ob_ hI375 hS hR376 h hE hT377
 obtain ⟨x369, rfl⟩ : ∃ x, x = s_ := ⟨_, rfl⟩
 obtain ⟨cs370, hm368, hc371, rfl, rfl⟩ := hI375
 have h : l7_BlockAll_b2 p1 x369 x372 = some (s373, b374) := h
 unfold l7_BlockAll_b2 at h
 obtain ⟨v378, v379, rfl, hv380, hv381⟩ := hR376
 obtain ⟨rfl, hr382⟩ := RV_int hv380
 refine kskip ?_
 obtain ⟨hb_, hS⟩ := hT377 _ _ _ _ hS
 refine ⟨hb_, ?_⟩
 refine kblock (kseq (kseq (kreg ?_)))
 refine st hE (st_loadL hE hS ty3 rfl (i := 0) rfl (R_whole hc371)) rfl ?_
 rintro v384 a _ ⟨rfl, hv383⟩ hE
 obtain ⟨rfl, hr385⟩ := RV_int hv383
 refine st hE (st_loadL hE hS ty3 rfl (i := 4) rfl (R_whole ((kInt .i64).mono (M.le.trans hm11 (M.le.trans hm23 (M.le.trans hm28 (M.le.trans hm355 hm368)))) hc3))) rfl ?_
 rintro v387 a _ ⟨rfl, hv386⟩ hE
 obtain ⟨rfl, hr388⟩ := RV_int hv386
 refine sp hE (r_bin hE rfl rfl b_eql) rfl fun a hE => ?_
 refine knil ?_
 refine kif hE rfl (fun hd390 => ?_) (fun hd390 => ?_)
 {
 have h := ite_T hd390 h
 refine kexit rfl rfl ?_
 cases h
 try dsimp only
 exact ⟨rfl, rfl, _, [(b361, cs370), (b35, cs357), (b14, [v13]), (b5, cs358), (b1, cs2)], [(4, v13)], (M.le.refl _), ⟨cs370, hm368, hc371, rfl, rfl⟩, hS⟩
 }
 {
 have h := ite_F hd390 h
 refine kskip (kreg ?_)
 refine st hE (st_loadL hE hS ty3 rfl (i := 0) rfl (R_whole hc371)) rfl ?_
 rintro v392 a _ ⟨rfl, hv391⟩ hE
 obtain ⟨rfl, hr393⟩ := RV_int hv391
 refine sp hE (r_bin hE rfl rfl (b_add rfl)) rfl fun a hE => ?_
 refine st0 hE (st_storeF hE hS ty3 StF_self rfl rfl (RV_of_int (inR_wrap _ _)) (i := 0) rfl hc371) ?_
 rintro _ w ⟨cs395, hc396, hS⟩ hE
 refine knil ?_
 cases h
 try dsimp only
 exact ⟨rfl, _, [(b361, cs395), (b35, cs357), (b14, [v13]), (b5, cs358), (b1, cs2)], [(4, v13)], (M.le.refl _), ⟨cs395, hm368, hc396, rfl, rfl⟩, hS⟩
 }
 }
 {
 intro D400 m404 w a Ls_ TLs_ hm405 hE hI375 hS hk402 hB403
 obtain ⟨cs407, _, hc408, rfl, rfl⟩ := hI375
 obtain ⟨W0, hW401⟩ : ∃ W9, W9 = W0.put D400 (.deferred (some [])) := ⟨_, rfl⟩
 rw [← hW401] at hS
 rcases Bool.eq_false_or_eq_true y398.2 with hb406 | hb406
 {
 have h := ite_T hb406 h
 rw [if_pos hb406]
 refine kseq (kreg ?_)
 refine st hE (st_alloc hS Tryz.zeroValue3 rfl (cs := zc3)) rfl ?_
 rintro _ a w ⟨b409, rfl, hS⟩ hE
 refine st0 hE (st_storeF hE hS ty3 StF_self rfl rfl (RV_of_int (show inR .i64 0 from inR_lit (by decide))) (i := 0) rfl (zr3 _)) ?_
 rintro _ w ⟨cs411, hc412, hS⟩ hE
 refine knil (kseq (kseq (kreg ?_)))
 refine qm hE rfl rfl fun a hE => ?_
 refine knil (kblock ?_)
 obtain ⟨y438, hy439, h⟩ := ob h
 refine krangeV (Rv := (Rv2 (kInt .i64) kAp)) (fun (s : Int) (x : (Int × Ap)) => l7_BlockAll_b3 s x) (fun _ => .ret) [] (fun (m' : M) (s : Int) (Ls_ : Mem) (TLs_ : Tls) => ∃ (cs418 : List Value), M.le m404 m' ∧ (kInt .i64).R m' cs418 s ∧ Ls_ = [(b409, cs418), (b361, cs407), (b35, cs357), (b14, [v13]), (b5, cs358), (b1, cs2)] ∧ TLs_ = [(4, v13)]) (Ls := [(b409, cs411), (b361, cs407), (b35, cs357), (b14, [v13]), (b5, cs358), (b1, cs2)]) (TLs := [(4, v13)]) (s0 := 0) (sf := y438.1) (bf := y438.2) hE hS rfl (hv24.mono (M.le.trans hm28 (M.le.trans hm355 hm405))) (by decide) (fun _ _ _ h => Rv2_len h) (by rintro m1_ m2_ s_ a_ b_ hm_ ⟨cs418, hl_, hf0_, e1_, e2_⟩; exact ⟨cs418, hl_.trans hm_, (kInt .i64).mono hm_ hf0_, e1_, e2_⟩) ⟨cs411, M.le.refl _, hc412, rfl, rfl⟩ hy439 ?_ ?_
 {
 intro lid_ W1_ W0 m415 w L TL s_ Ls_ TLs_ vs_ x420 s421 b422 a or_ ob_ hI423 hS hR424 h hE hT425
 obtain ⟨x417, rfl⟩ : ∃ x, x = s_ := ⟨_, rfl⟩
 obtain ⟨cs418, hm416, hc419, rfl, rfl⟩ := hI423
 have h : l7_BlockAll_b3 x417 x420 = some (s421, b422) := h
 unfold l7_BlockAll_b3 at h
 obtain ⟨v426, v427, rfl, hv428, hv429⟩ := hR424
 obtain ⟨rfl, hr430⟩ := RV_int hv428
 refine kskip ?_
 obtain ⟨hb_, hS⟩ := hT425 _ _ _ _ hS
 refine ⟨hb_, ?_⟩
 refine kblock (kreg ?_)
 refine st hE (st_loadL hE hS ty3 rfl (i := 0) rfl (R_whole hc419)) rfl ?_
 rintro v432 a _ ⟨rfl, hv431⟩ hE
 obtain ⟨rfl, hr433⟩ := RV_int hv431
 refine sp hE (r_bin hE rfl rfl (b_add rfl)) rfl fun a hE => ?_
 refine st0 hE (st_storeF hE hS ty3 StF_self rfl rfl (RV_of_int (inR_wrap _ _)) (i := 0) rfl hc419) ?_
 rintro _ w ⟨cs435, hc436, hS⟩ hE
 refine knil ?_
 cases h
 try dsimp only
 exact ⟨rfl, _, [(b409, cs435), (b361, cs407), (b35, cs357), (b14, [v13]), (b5, cs358), (b1, cs2)], [(4, v13)], (M.le.refl _), ⟨cs435, hm416, hc436, rfl, rfl⟩, hS⟩
 }
 {
 intro D440 m444 w a Ls_ TLs_ hm445 hE hI423 hS hk442 hB443
 obtain ⟨cs447, _, hc448, rfl, rfl⟩ := hI423
 obtain ⟨W0, hW441⟩ : ∃ W9, W9 = W0.put D440 (.deferred (some [])) := ⟨_, rfl⟩
 rw [← hW441] at hS
 rcases Bool.eq_false_or_eq_true y438.2 with hb446 | hb446
 {
 have h := ite_T hb446 h
 rw [if_pos hb446]
 refine kseq ?_
 refine kcut (fun a w => ∃ x451 : Bool, l7_BlockAll_j3 x451 = some r ∧ ∃ m', M.le m444 m' ∧ ∃ (cs452 : List Value), kBool.R m' cs452 x451 ∧ S W0 m' w ((b409, cs447) :: (b361, cs407) :: (b35, cs357) :: (b14, [v13]) :: (b5, cs452) :: (b1, cs2) :: L) ((4, v13) :: TL) ∧ EnvD [D440, D400, D350] 69 a [(4, (.pointer (some ⟨b5, 0, none⟩)))]) ?_ ?_
 {
 refine kreg ?_
 obtain ⟨r455, hr456, h⟩ := ob h
 refine st hE (st_call (vs := []) hE rfl Tryz.call17 (c_l7_alive (hS := hS) hr456)) rfl ?_
 rintro v460 a w ⟨m457, hm458, hS, hv459⟩ hE
 obtain rfl := RV_bool hv459
 refine qm hE rfl rfl fun a hE => ?_
 rcases Bool.eq_false_or_eq_true r455 with hd462 | hd462
 {
 have h := ite_T hd462 h
 refine stg hE rfl rfl rfl rfl hd462 (st_loadL hE hS ty3 rfl (i := 2) rfl (R_whole ((kInt .i64).mono (M.le.trans hm405 (M.le.trans hm445 hm458)) hc359))) rfl ?_
 rintro v464 a _ ⟨rfl, hv463⟩ hE
 obtain ⟨rfl, hr465⟩ := RV_int hv463
 refine spg hE rfl rfl rfl rfl hd462 (st_loadSl (k := kAp) hE hS ty22 rfl (i := 3) rfl (hv12.mono (M.le.trans hm23 (M.le.trans hm28 (M.le.trans hm355 (M.le.trans hm405 (M.le.trans hm445 hm458))))))) rfl fun a hE => ?_
 refine spg hE rfl rfl rfl rfl hd462 (r_lenSl (k := kAp) hE rfl rfl Tryz.underlying22 (hv12.mono (M.le.trans hm23 (M.le.trans hm28 (M.le.trans hm355 (M.le.trans hm405 (M.le.trans hm445 hm458))))))) rfl fun a hE => ?_
 refine spg hE rfl rfl rfl rfl hd462 (r_bin hE rfl rfl b_eql) rfl fun a hE => ?_
 refine sp hE (r_pickT hE rfl hd462 rfl) rfl fun a hE => ?_
 refine qm hE rfl rfl fun a hE => ?_
 rcases Bool.eq_false_or_eq_true (y348.1.1 == (r8.length : Int)) with hd472 | hd472
 {
 have h := ite_T hd472 h
 refine stg hE rfl rfl rfl rfl hd472 (st_loadL hE hS ty3 rfl (i := 0) rfl (R_whole ((kInt .i64).mono hm458 hc448))) rfl ?_
 rintro v474 a _ ⟨rfl, hv473⟩ hE
 obtain ⟨rfl, hr475⟩ := RV_int hv473
 refine stg hE rfl rfl rfl rfl hd472 (st_loadL hE hS ty3 rfl (i := 2) rfl (R_whole ((kInt .i64).mono (M.le.trans hm405 (M.le.trans hm445 hm458)) hc359))) rfl ?_
 rintro v477 a _ ⟨rfl, hv476⟩ hE
 obtain ⟨rfl, hr478⟩ := RV_int hv476
 refine spg hE rfl rfl rfl rfl hd472 (r_bin hE rfl rfl b_eql) rfl fun a hE => ?_
 refine sp hE (r_pickT hE rfl hd472 rfl) rfl fun a hE => ?_
 refine st0 hE (st_storeF hE hS ty4 StF_self rfl rfl RV_of_bool (i := 4) rfl (kBool.mono (M.le.trans hm405 (M.le.trans hm445 hm458)) hc360)) ?_
 rintro _ w ⟨cs481, hc482, hS⟩ hE
 refine knil ?_
 exact ⟨(y438.1 == y348.1.1), h, _, hm458, cs481, hc482, hS, hE.cut ⟨rfl, trivial⟩⟩
 }
 {
 have h := ite_F hd472 h
 refine sx hE rfl rfl rfl rfl hd472 rfl fun a hE => ?_
 refine sx hE rfl rfl rfl rfl hd472 rfl fun a hE => ?_
 refine sx hE rfl rfl rfl rfl hd472 rfl fun a hE => ?_
 refine sp hE (r_pickF hE rfl hd472 rfl) rfl fun a hE => ?_
 refine st0 hE (st_storeF hE hS ty4 StF_self rfl rfl RV_of_bool (i := 4) rfl (kBool.mono (M.le.trans hm405 (M.le.trans hm445 hm458)) hc360)) ?_
 rintro _ w ⟨cs485, hc486, hS⟩ hE
 refine knil ?_
 exact ⟨false, h, _, hm458, cs485, hc486, hS, hE.cut ⟨rfl, trivial⟩⟩
 }
 }
 {
 have h := ite_F hd462 h
 refine sx hE rfl rfl rfl rfl hd462 rfl fun a hE => ?_
 refine sx hE rfl rfl rfl rfl hd462 rfl fun a hE => ?_
 refine sx hE rfl rfl rfl rfl hd462 rfl fun a hE => ?_
 refine sx hE rfl rfl rfl rfl hd462 rfl fun a hE => ?_
 refine sp hE (r_pickF hE rfl hd462 rfl) rfl fun a hE => ?_
 refine qm hE rfl rfl fun a hE => ?_
 refine sx hE rfl rfl rfl rfl rfl rfl fun a hE => ?_
 refine sx hE rfl rfl rfl rfl rfl rfl fun a hE => ?_
 refine sx hE rfl rfl rfl rfl rfl rfl fun a hE => ?_
 refine sp hE (r_pickF hE rfl rfl rfl) rfl fun a hE => ?_
 refine st0 hE (st_storeF hE hS ty4 StF_self rfl rfl RV_of_bool (i := 4) rfl (kBool.mono (M.le.trans hm405 (M.le.trans hm445 hm458)) hc360)) ?_
 rintro _ w ⟨cs491, hc492, hS⟩ hE
 refine knil ?_
 exact ⟨false, h, _, hm458, cs491, hc492, hS, hE.cut ⟨rfl, trivial⟩⟩
 }
 }
 {
 rintro a w ⟨x451, h, m449, hm450, cs452, hc453, hS, hE⟩
 unfold l7_BlockAll_j3 at h
 refine kret ?_
 obtain rfl := oi h
 try dsimp only
 have hS := hS
 rw [hW441] at hS
 refine FinM.shut hE hS hk442 hB443 fun a w hS hE => ?_
 rw [hW401] at hS
 refine FinM.shut hE hS hk402 hB403 fun a w hS hE => ?_
 rw [hW351] at hS
 refine FinM.shut hE hS hk352 hB353 fun a w hS hE => ?_
 refine FinM.nil hE ?_
 refine Fin.mk hE (rs := [.cell 4 4]) rfl (ResL.cell hE hS ty4 rfl (i := 4) rfl (R_whole hc453) ResL.nil) ?_
 exact ⟨_, (M.le.trans hm11 (M.le.trans hm23 (M.le.trans hm28 (M.le.trans hm355 (M.le.trans hm405 (M.le.trans hm445 hm450)))))), ((hS.dropL 6).dropT 1), (RV_of_R (R_whole hc453))⟩
 }
 }
 {
 have h := ite_F hb446 h
 cases h
 }
 }
 }
 {
 have h := ite_F hb406 h
 rw [if_neg (by rw [hb406]; decide)]
 try dsimp only
 refine kexit rfl rfl ?_
 refine kseq (kreg ?_)
 refine st hE (st_alloc hS Tryz.zeroValue3 rfl (cs := zc3)) rfl ?_
 rintro _ a w ⟨b494, rfl, hS⟩ hE
 refine st0 hE (st_storeF hE hS ty3 StF_self rfl rfl (RV_of_int (show inR .i64 0 from inR_lit (by decide))) (i := 0) rfl (zr3 _)) ?_
 rintro _ w ⟨cs496, hc497, hS⟩ hE
 refine knil (kseq (kseq (kreg ?_)))
 refine qm hE rfl rfl fun a hE => ?_
 refine knil (kblock ?_)
 obtain ⟨y523, hy524, h⟩ := ob h
 refine krangeV (Rv := (Rv2 (kInt .i64) kAp)) (fun (s : Int) (x : (Int × Ap)) => l7_BlockAll_b4 s x) (fun _ => .ret) [] (fun (m' : M) (s : Int) (Ls_ : Mem) (TLs_ : Tls) => ∃ (cs503 : List Value), M.le m404 m' ∧ (kInt .i64).R m' cs503 s ∧ Ls_ = [(b494, cs503), (b361, cs407), (b35, cs357), (b14, [v13]), (b5, cs358), (b1, cs2)] ∧ TLs_ = [(4, v13)]) (Ls := [(b494, cs496), (b361, cs407), (b35, cs357), (b14, [v13]), (b5, cs358), (b1, cs2)]) (TLs := [(4, v13)]) (s0 := 0) (sf := y523.1) (bf := y523.2) hE hS rfl (hv24.mono (M.le.trans hm28 (M.le.trans hm355 hm405))) (by decide) (fun _ _ _ h => Rv2_len h) (by rintro m1_ m2_ s_ a_ b_ hm_ ⟨cs503, hl_, hf0_, e1_, e2_⟩; exact ⟨cs503, hl_.trans hm_, (kInt .i64).mono hm_ hf0_, e1_, e2_⟩) ⟨cs496, M.le.refl _, hc497, rfl, rfl⟩ hy524 ?_ ?_
 {
 intro lid_ W1_ W0 m500 w L TL s_ Ls_ TLs_ vs_ x505 s506 b507 a or_ ob_ hI508 hS hR509 h hE hT510
 obtain ⟨x502, rfl⟩ : ∃ x, x = s_ := ⟨_, rfl⟩
 obtain ⟨cs503, hm501, hc504, rfl, rfl⟩ := hI508
 have h : l7_BlockAll_b4 x502 x505 = some (s506, b507) := h
 unfold l7_BlockAll_b4 at h
 obtain ⟨v511, v512, rfl, hv513, hv514⟩ := hR509
 obtain ⟨rfl, hr515⟩ := RV_int hv513
 refine kskip ?_
 obtain ⟨hb_, hS⟩ := hT510 _ _ _ _ hS
 refine ⟨hb_, ?_⟩
 refine kblock (kreg ?_)
 refine st hE (st_loadL hE hS ty3 rfl (i := 0) rfl (R_whole hc504)) rfl ?_
 rintro v517 a _ ⟨rfl, hv516⟩ hE
 obtain ⟨rfl, hr518⟩ := RV_int hv516
 refine sp hE (r_bin hE rfl rfl (b_add rfl)) rfl fun a hE => ?_
 refine st0 hE (st_storeF hE hS ty3 StF_self rfl rfl (RV_of_int (inR_wrap _ _)) (i := 0) rfl hc504) ?_
 rintro _ w ⟨cs520, hc521, hS⟩ hE
 refine knil ?_
 cases h
 try dsimp only
 exact ⟨rfl, _, [(b494, cs520), (b361, cs407), (b35, cs357), (b14, [v13]), (b5, cs358), (b1, cs2)], [(4, v13)], (M.le.refl _), ⟨cs520, hm501, hc521, rfl, rfl⟩, hS⟩
 }
 {
 intro D525 m529 w a Ls_ TLs_ hm530 hE hI508 hS hk527 hB528
 obtain ⟨cs532, _, hc533, rfl, rfl⟩ := hI508
 obtain ⟨W0, hW526⟩ : ∃ W9, W9 = W0.put D525 (.deferred (some [])) := ⟨_, rfl⟩
 rw [← hW526] at hS
 rcases Bool.eq_false_or_eq_true y523.2 with hb531 | hb531
 {
 have h := ite_T hb531 h
 rw [if_pos hb531]
 refine kseq ?_
 refine kcut (fun a w => ∃ x536 : Bool, l7_BlockAll_j4 x536 = some r ∧ ∃ m', M.le m529 m' ∧ ∃ (cs537 : List Value), kBool.R m' cs537 x536 ∧ S W0 m' w ((b494, cs532) :: (b361, cs407) :: (b35, cs357) :: (b14, [v13]) :: (b5, cs537) :: (b1, cs2) :: L) ((4, v13) :: TL) ∧ EnvD [D525, D400, D350] 69 a [(4, (.pointer (some ⟨b5, 0, none⟩)))]) ?_ ?_
 {
 refine kreg ?_
 obtain ⟨r540, hr541, h⟩ := ob h
 refine st hE (st_call (vs := []) hE rfl Tryz.call17 (c_l7_alive (hS := hS) hr541)) rfl ?_
 rintro v545 a w ⟨m542, hm543, hS, hv544⟩ hE
 obtain rfl := RV_bool hv544
 refine qm hE rfl rfl fun a hE => ?_
 rcases Bool.eq_false_or_eq_true r540 with hd547 | hd547
 {
 have h := ite_T hd547 h
 refine stg hE rfl rfl rfl rfl hd547 (st_loadL hE hS ty3 rfl (i := 2) rfl (R_whole ((kInt .i64).mono (M.le.trans hm405 (M.le.trans hm530 hm543)) hc359))) rfl ?_
 rintro v549 a _ ⟨rfl, hv548⟩ hE
 obtain ⟨rfl, hr550⟩ := RV_int hv548
 refine spg hE rfl rfl rfl rfl hd547 (st_loadSl (k := kAp) hE hS ty22 rfl (i := 3) rfl (hv12.mono (M.le.trans hm23 (M.le.trans hm28 (M.le.trans hm355 (M.le.trans hm405 (M.le.trans hm530 hm543))))))) rfl fun a hE => ?_
 refine spg hE rfl rfl rfl rfl hd547 (r_lenSl (k := kAp) hE rfl rfl Tryz.underlying22 (hv12.mono (M.le.trans hm23 (M.le.trans hm28 (M.le.trans hm355 (M.le.trans hm405 (M.le.trans hm530 hm543))))))) rfl fun a hE => ?_
 refine spg hE rfl rfl rfl rfl hd547 (r_bin hE rfl rfl b_eql) rfl fun a hE => ?_
 refine sp hE (r_pickT hE rfl hd547 rfl) rfl fun a hE => ?_
 refine qm hE rfl rfl fun a hE => ?_
 rcases Bool.eq_false_or_eq_true (y348.1.1 == (r8.length : Int)) with hd557 | hd557
 {
 have h := ite_T hd557 h
 refine stg hE rfl rfl rfl rfl hd557 (st_loadL hE hS ty3 rfl (i := 0) rfl (R_whole ((kInt .i64).mono hm543 hc533))) rfl ?_
 rintro v559 a _ ⟨rfl, hv558⟩ hE
 obtain ⟨rfl, hr560⟩ := RV_int hv558
 refine stg hE rfl rfl rfl rfl hd557 (st_loadL hE hS ty3 rfl (i := 2) rfl (R_whole ((kInt .i64).mono (M.le.trans hm405 (M.le.trans hm530 hm543)) hc359))) rfl ?_
 rintro v562 a _ ⟨rfl, hv561⟩ hE
 obtain ⟨rfl, hr563⟩ := RV_int hv561
 refine spg hE rfl rfl rfl rfl hd557 (r_bin hE rfl rfl b_eql) rfl fun a hE => ?_
 refine sp hE (r_pickT hE rfl hd557 rfl) rfl fun a hE => ?_
 refine st0 hE (st_storeF hE hS ty4 StF_self rfl rfl RV_of_bool (i := 4) rfl (kBool.mono (M.le.trans hm405 (M.le.trans hm530 hm543)) hc360)) ?_
 rintro _ w ⟨cs566, hc567, hS⟩ hE
 refine knil ?_
 exact ⟨(y523.1 == y348.1.1), h, _, hm543, cs566, hc567, hS, hE.cut ⟨rfl, trivial⟩⟩
 }
 {
 have h := ite_F hd557 h
 refine sx hE rfl rfl rfl rfl hd557 rfl fun a hE => ?_
 refine sx hE rfl rfl rfl rfl hd557 rfl fun a hE => ?_
 refine sx hE rfl rfl rfl rfl hd557 rfl fun a hE => ?_
 refine sp hE (r_pickF hE rfl hd557 rfl) rfl fun a hE => ?_
 refine st0 hE (st_storeF hE hS ty4 StF_self rfl rfl RV_of_bool (i := 4) rfl (kBool.mono (M.le.trans hm405 (M.le.trans hm530 hm543)) hc360)) ?_
 rintro _ w ⟨cs570, hc571, hS⟩ hE
 refine knil ?_
 exact ⟨false, h, _, hm543, cs570, hc571, hS, hE.cut ⟨rfl, trivial⟩⟩
 }
 }
 {
 have h := ite_F hd547 h
 refine sx hE rfl rfl rfl rfl hd547 rfl fun a hE => ?_
 refine sx hE rfl rfl rfl rfl hd547 rfl fun a hE => ?_
 refine sx hE rfl rfl rfl rfl hd547 rfl fun a hE => ?_
 refine sx hE rfl rfl rfl rfl hd547 rfl fun a hE => ?_
 refine sp hE (r_pickF hE rfl hd547 rfl) rfl fun a hE => ?_
 refine qm hE rfl rfl fun a hE => ?_
 refine sx hE rfl rfl rfl rfl rfl rfl fun a hE => ?_
 refine sx hE rfl rfl rfl rfl rfl rfl fun a hE => ?_
 refine sx hE rfl rfl rfl rfl rfl rfl fun a hE => ?_
 refine sp hE (r_pickF hE rfl rfl rfl) rfl fun a hE => ?_
 refine st0 hE (st_storeF hE hS ty4 StF_self rfl rfl RV_of_bool (i := 4) rfl (kBool.mono (M.le.trans hm405 (M.le.trans hm530 hm543)) hc360)) ?_
 rintro _ w ⟨cs576, hc577, hS⟩ hE
 refine knil ?_
 exact ⟨false, h, _, hm543, cs576, hc577, hS, hE.cut ⟨rfl, trivial⟩⟩
 }
 }
 {
 rintro a w ⟨x536, h, m534, hm535, cs537, hc538, hS, hE⟩
 unfold l7_BlockAll_j4 at h
 refine kret ?_
 obtain rfl := oi h
 try dsimp only
 have hS := hS
 rw [hW526] at hS
 refine FinM.shut hE hS hk527 hB528 fun a w hS hE => ?_
 rw [hW401] at hS
 refine FinM.shut hE hS hk402 hB403 fun a w hS hE => ?_
 rw [hW351] at hS
 refine FinM.shut hE hS hk352 hB353 fun a w hS hE => ?_
 refine FinM.nil hE ?_
 refine Fin.mk hE (rs := [.cell 4 4]) rfl (ResL.cell hE hS ty4 rfl (i := 4) rfl (R_whole hc538) ResL.nil) ?_
 exact ⟨_, (M.le.trans hm11 (M.le.trans hm23 (M.le.trans hm28 (M.le.trans hm355 (M.le.trans hm405 (M.le.trans hm530 hm535)))))), ((hS.dropL 6).dropT 1), (RV_of_R (R_whole hc538))⟩
 }
 }
 {
 have h := ite_F hb531 h
 cases h
 }
 }
 }
 }
 }
 {
 have h := ite_F hb356 h
 rw [if_neg (by rw [hb356]; decide)]
 try dsimp only
 refine kret ?_
 obtain rfl := oi h
 try dsimp only
 have hS := hS
 rw [hW351] at hS
 refine FinM.shut hE hS hk352 hB353 fun a w hS hE => ?_
 refine FinM.nil hE ?_
 refine Fin.mk hE (rs := [.cell 4 4]) rfl (ResL.cell hE hS ty4 rfl (i := 2) rfl (R_whole hc360) ResL.nil) ?_
 exact ⟨_, (M.le.trans hm11 (M.le.trans hm23 (M.le.trans hm28 hm355))), ((hS.dropL 4).dropT 1), (RV_of_R (R_whole hc360))⟩
 }
 }
 }
 }
end Go.Proofs.YthbonoagbeilkaaGreat.Hay
namespace Go.Proofs.YthbonoagbeilkaaGreat.Hay
open Go.RowKit Go.ChangeShapes Go.ChangeAt Go.WideShapes
section
variable {P : Program} {H : Type} {enc : TypeId × Value → H}
theorem trodAll_stays (hl : laidOutB P = true) {W W' : World} {base : Nat} {sp' : Nat → Bool} : ∀ {ts : List TypeId} {vs : List Value} {ds : List (DataW H)} {ps : List MemPlace}, (∀ t ∈ ts, P.readableRec t = true ∧ t < P.types.size) →
  DataW.TrodAll enc P W base (fun _ => true) true ts vs ds ps → (∀ p ∈ ps, W.sameAt W' p) → (∀ p ∈ ps, sp' p.block = true) → DataW.TrodAll enc P W' base sp' true ts vs ds ps
 | [], [], [], _, _, h, _, _ => h
 | [], [], _ :: _, _, _, h, _, _ => h.elim
 | [], _ :: _, _, _, _, h, _, _ => h.elim
 | _ :: _, [], _, _, _, h, _, _ => h.elim
 | _ :: _, _ :: _, [], _, _, h, _, _ => h.elim
 | t :: ts, v :: vs, d :: ds, ps, ht, h, hs, hp => by
  obtain ⟨p, q, h1, h2, rfl⟩ := h
  refine ⟨p, q, WideElems.Trod_stays hl (ht t (by simp)).1 (ht t (by simp)).2 h1 (fun x hx => hs x (by simp [hx])) (fun x hx => hp x (by simp [hx])), trodAll_stays hl (fun t h => ht t (by simp [h])) h2 (fun x hx => hs x (by simp [hx])) (fun x hx => hp x (by simp [hx])), rfl⟩
theorem post_true {f : Func} {s : ChangeSpec} {apart fresh handsOn again : Bool} {W W' : World} {args : Array Value} {ds gs : List (DataW H)} {before : List MemPlace} {tb : TypeId}
  (hW : DataW.Whole enc P f.params.toList s.vars apart W args.toList ds gs before) (hl : laidOutB P = true) (ht : ∀ t ∈ f.params.toList, P.readableRec t = true ∧ t < P.types.size)
  (hvars : s.vars = []) (hr : f.resultTypes = #[tb]) (hb : P.underlying tb = some .bool) (hfn : s.fn H (ds ++ gs) = { results := [.lit (.bool true)], args := ds }) (hB : Below W.heap.size W W') :
  s.post enc P f apart fresh handsOn again W args (.bool true) W' := by
 have hlt := fun p hp => hW.lt p hp
 have hW2 := hW
 obtain ⟨p, q, hA, hV, hps, hz, hn⟩ := hW2
 rw [hvars] at hV
 obtain ⟨hg, hq⟩ := trodVars_none hV
 have hbp : before = p := by rw [hps, hq]; simp
 have hres : ∀ (b : Nat) (sp : Nat → Bool) (hd : Bool), DataW.TrodAll enc P W' b sp hd f.resultTypes.toList ((Value.bool true).resultList f.resultTypes.size) (s.fn H (ds ++ gs)).results [] := fun b sp hd => by
  rw [hr, hfn]
  exact trodAll_cons_mk (shut_bool hb _) trodAll_mk0
 have hargs : ∀ sp : Nat → Bool, (∀ x ∈ before, sp x.block = true) → DataW.TrodAll enc P W' 0 sp true f.params.toList args.toList (s.fn H (ds ++ gs)).args p := fun sp hsp => by
  rw [hfn]
  refine trodAll_stays hl ht hA (fun x hx => hB.same (hlt x (by rw [hbp]; exact hx))) (fun x hx => hsp x (by rw [hbp]; exact hx))
 have hvars' : ∀ sp : Nat → Bool, DataW.TrodVars enc P W' sp s.vars (s.fn H (ds ++ gs)).vars [] := fun sp => by
  rw [hvars, hfn]; exact rfl
 have hold : ∀ x ∈ before, (fun b => decide (b < W.heap.size)) x.block = true := fun x hx => by simpa using hlt x hx
 refine ⟨ds, gs, before, [], p, [], hW, hres _ _ _, hargs _ hold, hvars' _, hB.frame _, fun _ => ?_⟩
 refine ⟨ok_one hr rfl (okWide_bool_mk hb _), _, _, ([] ++ p) ++ [], ⟨[] ++ p, [], trodAll_append (hargs _ (fun _ _ => rfl)) (hres _ _ _), hvars' _, rfl, ?_, ?_⟩, ?_⟩
 ·intro b off hp
  have hm : MemPlace.cell b off ∈ before := by rw [hbp]; simpa using hp
  have := hlt _ hm
  rw [hB.frozen (p := ⟨b, off, none⟩) this]
  exact hz b off hm
 ·intro ha
  have := hn ha
  rw [hbp] at this
  simpa using this
 ·intro x hx _
  rw [hbp]
  simpa using hx
structure Okw (P : Program) (W : World) (r : Reach) (b : Nat) (t : TypeId) (v : Value) : Prop where
 ok : Value.okWide P W r b t v
theorem okw_of {W : World} {r : Reach} {b0 : Nat} {ts : Array TypeId} {args : Array Value} (h : ∀ (j : Nat) t v, ts[j]? = some t → args[j]? = some v → Value.okWide P W r b0 t v) (j : Nat) {t : TypeId} {v : Value} (h1 : ts[j]? = some t) (h2 : args[j]? = some v) : Okw P W r b0 t v :=
 ⟨h j t v h1 h2⟩
theorem arg_int {r : Reach} {b0 : Nat} {W : World} {t : TypeId} {k : IntKind} {v : Value} {d : DataW H} {ps : List MemPlace} {base : Nat} {spare : Nat → Bool} {held : Bool} (ht : P.underlying t = some (.int k)) (hval : Okw P W r b0 t v) (hd : DataW.Trod enc P W base spare held t v d ps) :
  ∃ n, v = .int k n ∧ inR k n := by
 obtain ⟨n, rfl, _, _, hw⟩ := open_int ht hval.ok hd
 refine ⟨n, rfl, ?_⟩
 rw [inR_bd]
 simpa [Lit.wf] using hw
theorem arg_slice {r : Reach} {b0 : Nat} {W : World} {t e : TypeId} {α : Type} {k : Kd α} {sz : List α → Nat} {v : Value} {d : DataW H} {ps : List MemPlace} (B : Bulk H) (ht : P.underlying t = some (.slice e)) (hrd : Rd P t (kSl k) sz) (hval : Okw P W r b0 t v) (hd : DataW.Trod enc P W 0 (fun _ => true) true t v d ps) (hb : B.b d ≤ 1099511627776) :
  ∃ xs, RV (kSl k) (m0 W) v xs ∧ sz xs ≤ B.b d := by
 obtain ⟨a, len, cap, rfl⟩ := okWide_slice ht hval.ok
 obtain ⟨fuel, hf⟩ := hd
 obtain ⟨xs, hx, hs⟩ := hrd enc B W fuel _ d ps hf hb
 exact ⟨xs, ⟨_, hx, rfl⟩, hs⟩
end
theorem RV_all {α : Type} {k : Kd α} {m : M} {v : Value} {xs : List α} (h : RV (kSl k) m v xs) : (∀ x ∈ xs, ∃ cs, k.R m cs x) ∧ xs.length ≤ maxSz := by
 obtain ⟨cs, hR, _⟩ := h
 obtain ⟨a, len, cap, h1, h2, h3, h4, h5⟩ := hR
 refine ⟨fun x hx => ?_, h4⟩
 obtain ⟨i, hi, rfl⟩ := List.getElem_of_mem hx
 cases a with
 | none =>
  have h5' : cap = 0 := h5
  omega
 | some ad => exact ⟨_, h5.2 i hi⟩
theorem sum_one {α : Type} (xs : List α) : (xs.map fun _ => 1).sum = xs.length := by
 induction xs with
 | nil => rfl
 | cons a r ih => simp [ih]; omega
end Go.Proofs.YthbonoagbeilkaaGreat.Hay
namespace Go.Proofs.YthbonoagbeilkaaGreat.Hay
open Go.ChangeShapes Go.WideShapes Go.ChangeAt Go.RowKit
theorem own : ownKnob Tryz.prog.godebug = none := by kernel_rfl
theorem laidAll : laidOutB Tryz.prog = true := by kernel_rfl
theorem bulk_one {H : Type} (d : DataW H) : 1 ≤ Rows.uptoBulk d := by
 cases d with
 | lit l => cases l <;> simp [Rows.uptoBulk]
 | nil => simp [Rows.uptoBulk]
 | ptr d => simp [Rows.uptoBulk]
 | slice elems spare => simp [Rows.uptoBulk]
 | agg parts => simp [Rows.uptoBulk]
 | iface t d => simp [Rows.uptoBulk]
 | map entries => simp [Rows.uptoBulk]
 | held h => simp [Rows.uptoBulk]
def bulk (H : Type) : Bulk H := {
 b := Rows.uptoBulk
 ba := Rows.uptoBulkAll
 str := fun s => by simp [Rows.uptoBulk]
 one := bulk_one
 slice := fun e s => by simp [Rows.uptoBulk]
 agg := fun l => by simp [Rows.uptoBulk]
 nil := by simp [Rows.uptoBulkAll]
 cons := fun d r => by simp [Rows.uptoBulkAll]
 }
theorem rd24 : Rd Tryz.prog 24 (kSl (kInt .u8)) (fun xs => (xs.map fun _ => 1).sum + 1) := Rd_slice Tryz.underlying24 (by kernel_rfl) (Rd_int Tryz.underlying5)
theorem sp3 : Tryz.prog.readableRec 3 = true ∧ 3 < Tryz.prog.types.size := ⟨by kernel_rfl, of_decide_eq_true (by kernel_rfl)⟩
theorem sp24 : Tryz.prog.readableRec 24 = true ∧ 24 < Tryz.prog.types.size := ⟨by kernel_rfl, of_decide_eq_true (by kernel_rfl)⟩
theorem byt_of {m : M} {v : Value} {xs : List Int} (h : RV (kSl (kInt .u8)) m v xs) : Byt xs := fun c hc => by
 obtain ⟨cs, hR⟩ := (RV_all h).1 c hc
 have := inR_bd.1 hR.2
 have h1 : IntKind.min .u8 = 0 := by decide
 have h2 : IntKind.max .u8 = 255 := by decide
 omega
theorem len24 {xs : List Int} {n : Nat} (h : (xs.map fun _ => 1).sum + 1 ≤ n) (hn : n ≤ 1048576) : xs.length ≤ 1048576 := by
 rw [sum_one] at h; omega
end Go.Proofs.YthbonoagbeilkaaGreat.Hay
