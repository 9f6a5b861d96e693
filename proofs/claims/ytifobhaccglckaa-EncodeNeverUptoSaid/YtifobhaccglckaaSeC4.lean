import Derived.Test.YtifobhaccglckaaSeC3
set_option maxRecDepth 100000
set_option maxHeartbeats 4000000
set_option linter.unusedVariables false
namespace Go.Proofs.Ytifobhaccglckaa.Hay
open Go.Proofs
/- 7 -/
/- 8 -/
/- 9 -/
theorem c_hayloftlaw06_EncodeNever {W0 : World} {m : M} {w : World} {L : List (Nat × List Value)} {TL : List (Nat × Value)} (hS : S W0 m w (L) (TL)) {v0 : Value} {p0 : (List Api_Value)} (ha0 : RV (kSl kApi_Value) m v0 p0) {r : Bool} (h : hayloftlaw06_EncodeNever p0 = some r) :
    Calls Try.prog 9 [v0].toArray w (Ret fun v w' => ∃ m', M.le m m' ∧ S W0 m' w' (L) (TL) ∧ RV kBool m' v r) := by
 refine kcall Try.func9 rfl Try.ntmps9 (Nat.le_of_ble_eq_true rfl) fun a hE => ?_
 have hE : Env 76 a [(0, v0)] := hE
 unfold hayloftlaw06_EncodeNever at h
 refine kseq ?_
 refine kreg ?_
 refine sp hE (r_assign hE rfl) rfl fun a hE => ?_
 refine knil ?_
 refine kseq ?_
 refine kreg ?_
 refine sp hE (r_move hE rfl) rfl fun a hE => ?_
 obtain ⟨r3, hr4, h⟩ := ob h
 refine st hE (st_call (vs := [v0]) hE rfl Try.call25 (c_encode_Best (hS := hS) ha0 hr4)) rfl ?_
 rintro v8 a w ⟨m5, hm6, hS, hv7⟩ hE
 obtain ⟨rfl, hr9⟩ := RV_int hv7
 refine sp hE (r_move hE rfl) rfl fun a hE => ?_
 obtain ⟨r11, hr12, h⟩ := ob h
 refine st hE (st_call (vs := [(.int .i64 r3), v0]) hE rfl Try.call24 (c_encode_Encode (hS := hS) hr9 (ha0.mono hm6) hr12)) rfl ?_
 rintro _ a w ⟨m13, hm14, hS, v0_15, v1_16, rfl, hv0_17, hv1_18⟩ hE
 obtain ⟨rfl, hr20⟩ := RV_int hv1_18
 refine sp hE (r_move hE rfl) rfl fun a hE => ?_
 refine sp hE (r_extract hE rfl rfl) rfl fun a hE => ?_
 refine sp hE (r_extract hE rfl rfl) rfl fun a hE => ?_
 refine sp hE (r_assign hE rfl) rfl fun a hE => ?_
 refine sp hE (r_assign hE rfl) rfl fun a hE => ?_
 refine knil ?_
 refine kseq ?_
 refine kreg ?_
 refine sp hE (r_move hE rfl) rfl fun a hE => ?_
 obtain ⟨r27, hr28, h⟩ := ob h
 refine st hE (st_call (vs := [(.int .i64 0), v0]) hE rfl Try.call24 (c_encode_Encode (hS := hS) (show inR .i64 0 from inR_lit (by decide)) (ha0.mono (M.le.trans hm6 hm14)) hr28)) rfl ?_
 rintro _ a w ⟨m29, hm30, hS, v0_31, v1_32, rfl, hv0_33, hv1_34⟩ hE
 obtain ⟨rfl, hr36⟩ := RV_int hv1_34
 refine sp hE (r_move hE rfl) rfl fun a hE => ?_
 refine sp hE (r_extract hE rfl rfl) rfl fun a hE => ?_
 refine sp hE (r_extract hE rfl rfl) rfl fun a hE => ?_
 refine sp hE (r_assign hE rfl) rfl fun a hE => ?_
 refine sp hE (r_assign hE rfl) rfl fun a hE => ?_
 refine knil ?_
 refine kseq ?_
 refine kseq ?_
 refine kcut (fun a w => ∃ x44 : Bool, hayloftlaw06_EncodeNever_j1 p0 x44 = some r ∧ ∃ m', M.le m29 m' ∧ S W0 m' w (L) (TL) ∧ Env 76 a [(0, v0), (37, (.bool x44))]) ?_ ?_
 {
 refine kreg ?_
 obtain ⟨r172, hr173, h⟩ := ob h
 refine st hE (st_call (vs := []) hE rfl Try.call22 (c_hayloftlaw06_alive (hS := hS) hr173)) rfl ?_
 rintro v177 a w ⟨m174, hm175, hS, hv176⟩ hE
 obtain rfl := RV_bool hv176
 refine sp hE (r_not hE rfl) rfl fun a hE => ?_
 refine sp hE (r_move hE rfl) rfl fun a hE => ?_
 rcases Bool.eq_false_or_eq_true (!r172) with hd180 | hd180
 {
 have h := ite_T hd180 h
 refine sx hE rfl rfl rfl rfl hd180 rfl fun a hE => ?_
 refine sx hE rfl rfl rfl rfl hd180 rfl fun a hE => ?_
 refine sx hE rfl rfl rfl rfl hd180 rfl fun a hE => ?_
 refine sp hE (r_pickT hE rfl hd180 rfl) rfl fun a hE => ?_
 refine sp hE (r_move hE rfl) rfl fun a hE => ?_
 refine sx hE rfl rfl rfl rfl rfl rfl fun a hE => ?_
 refine sx hE rfl rfl rfl rfl rfl rfl fun a hE => ?_
 refine sx hE rfl rfl rfl rfl rfl rfl fun a hE => ?_
 refine sx hE rfl rfl rfl rfl rfl rfl fun a hE => ?_
 refine sx hE rfl rfl rfl rfl rfl rfl fun a hE => ?_
 refine sp hE (r_pickT hE rfl rfl rfl) rfl fun a hE => ?_
 refine knil ?_
 exact ⟨true, h, _, hm175, hS, hE.cut ⟨rfl, rfl, trivial⟩⟩
 }
 {
 have h := ite_F hd180 h
 refine spg hE rfl rfl rfl rfl hd180 (r_move hE rfl) rfl fun a hE => ?_
 refine spg hE rfl rfl rfl rfl hd180 (r_move hE rfl) rfl fun a hE => ?_
 refine spg hE rfl rfl rfl rfl hd180 (r_bin hE rfl rfl b_neq) rfl fun a hE => ?_
 refine sp hE (r_pickF hE rfl hd180 rfl) rfl fun a hE => ?_
 refine sp hE (r_move hE rfl) rfl fun a hE => ?_
 rcases Bool.eq_false_or_eq_true (r11.2 != r27.2) with hd189 | hd189
 {
 have h := ite_T hd189 h
 refine sx hE rfl rfl rfl rfl hd189 rfl fun a hE => ?_
 refine sx hE rfl rfl rfl rfl hd189 rfl fun a hE => ?_
 refine sx hE rfl rfl rfl rfl hd189 rfl fun a hE => ?_
 refine sx hE rfl rfl rfl rfl hd189 rfl fun a hE => ?_
 refine sx hE rfl rfl rfl rfl hd189 rfl fun a hE => ?_
 refine sp hE (r_pickT hE rfl hd189 rfl) rfl fun a hE => ?_
 refine knil ?_
 exact ⟨true, h, _, hm175, hS, hE.cut ⟨rfl, rfl, trivial⟩⟩
 }
 {
 have h := ite_F hd189 h
 refine spg hE rfl rfl rfl rfl hd189 (r_move hE rfl) rfl fun a hE => ?_
 refine spg hE rfl rfl rfl rfl hd189 (r_lenSl (k := (kInt .u8)) hE rfl rfl Try.underlying37 (hv0_17.mono (M.le.trans hm30 hm175))) rfl fun a hE => ?_
 refine spg hE rfl rfl rfl rfl hd189 (r_move hE rfl) rfl fun a hE => ?_
 refine spg hE rfl rfl rfl rfl hd189 (r_lenSl (k := (kInt .u8)) hE rfl rfl Try.underlying37 (hv0_33.mono hm175)) rfl fun a hE => ?_
 refine spg hE rfl rfl rfl rfl hd189 (r_bin hE rfl rfl b_gtr) rfl fun a hE => ?_
 refine sp hE (r_pickF hE rfl hd189 rfl) rfl fun a hE => ?_
 refine knil ?_
 exact ⟨(decide ((r27.1.length : Int) < (r11.1.length : Int))), h, _, hm175, hS, hE.cut ⟨rfl, rfl, trivial⟩⟩
 }
 }
 }
 {
 rintro a w ⟨x44, h, m42, hm43, hS, hE⟩
 unfold hayloftlaw06_EncodeNever_j1 at h
 refine kif hE rfl (fun hd46 => ?_) (fun hd46 => ?_)
 {
 have h := ite_T hd46 h
 refine kseq ?_
 refine kreg ?_
 refine sp hE (r_assign hE rfl) rfl fun a hE => ?_
 refine knil ?_
 refine kret ?_
 obtain rfl := Option.some.inj h
 try dsimp only
 refine Fin.mk (fn := Try.f9) hE (rs := [.tmp 2]) rfl (ResL.tmp hE rfl ResL.nil) ?_
 exact ⟨_, (M.le.trans hm6 (M.le.trans hm14 (M.le.trans hm30 hm43))), hS, RV_of_bool⟩
 }
 {
 have h := ite_F hd46 h
 refine kskip ?_
 refine kseq ?_
 refine kseq ?_
 refine kreg ?_
 refine sp hE (r_move hE rfl) rfl fun a hE => ?_
 refine sp hE (r_lenSl (k := kApi_Value) hE rfl rfl Try.underlying29 (ha0.mono (M.le.trans hm6 (M.le.trans hm14 (M.le.trans hm30 hm43))))) rfl fun a hE => ?_
 refine sp hE (r_move hE rfl) rfl fun a hE => ?_
 refine knil ?_
 refine kcut (fun a w => hayloftlaw06_EncodeNever_j2 p0 = some r ∧ ∃ m', M.le m42 m' ∧ S W0 m' w (L) (TL) ∧ Env 76 a [(0, v0)]) ?_ ?_
 {
 refine kblock ?_
 refine kloop h (fun (s : Int) a w => ∃ m', M.le m42 m' ∧ inR .i64 s ∧ S W0 m' w (L) (TL) ∧ Env 76 a [(0, v0), (39, (.int .i64 (p0.length : Int))), (40, (.int .i64 s))]) ?_ ?_
 {
 exact ⟨_, (M.le.refl _), (show inR .i64 0 from inR_lit (by decide)), hS, hE.cut ⟨rfl, rfl, rfl, trivial⟩⟩
 }
 {
 rintro x114 a w ⟨m112, hm113, hr115, hS, hE⟩ r116 h hb117
 have h : hayloftlaw06_EncodeNever_b1 p0 x114 = some r116 := h
 unfold hayloftlaw06_EncodeNever_b1 at h
 refine kseq ?_
 refine kreg ?_
 refine sp hE (r_bin hE rfl rfl b_lss) rfl fun a hE => ?_
 refine knil ?_
 refine kseq ?_
 refine kif hE rfl (fun hd119 => ?_) (fun hd119 => ?_)
 {
 have h := ite_T hd119 h
 refine kskip ?_
 refine kseq ?_
 refine kblock ?_
 refine kseq ?_
 refine kreg ?_
 refine sp hE (r_move hE rfl) rfl fun a hE => ?_
 refine sp hE (r_assign hE rfl) rfl fun a hE => ?_
 refine knil ?_
 refine kseq ?_
 obtain ⟨x122, hx123, h⟩ := ob h
 obtain ⟨x126, hx127, h⟩ := ob h
 refine kchain (k := 7) (m := m112) (es := []) (Φ := (fun i m ws v => match i with | 0 => v = v0 | 1 => v = (.int .i64 x114) ∧ inR .i64 x114 | 2 => PR kApi_Value m v x122 | 3 => RV kApi_Value m v x122 | 4 => v = v0 | 5 => PR kApi_Value m v x126 | 6 => RV kApi_Value m v x126 | _ => True)) (Q := (fun c m ws L' TL' => match c with | 0 => L = L' ∧ TL = TL' | _ => False)) (cs := [⟨0, 0, false, [(0, v0)]⟩, ⟨0, 0, false, [(7, (.int .i64 x114))]⟩, ⟨0, 0, false, []⟩, ⟨0, 0, false, []⟩, ⟨0, 0, false, [(0, v0)]⟩, ⟨0, 0, false, []⟩, ⟨0, 0, false, []⟩]) mixed hE hS ⟨rfl, rfl⟩ rfl rfl ⟨⟨rfl, trivial⟩, ⟨rfl, trivial⟩, trivial, trivial, ⟨rfl, trivial⟩, trivial, trivial, trivial⟩ (by kernel_rfl) ?_ ?_ ?_ ?_
 {
 intro i m_ m2_ ws v hm_ hp_
 match i, hp_ with
 | 0, hp_ => exact hp_
 | 1, hp_ => exact hp_
 | 2, hp_ => exact PR.mono hp_ hm_
 | 3, hp_ => exact RV.mono hp_ hm_
 | 4, hp_ => exact hp_
 | 5, hp_ => exact PR.mono hp_ hm_
 | 6, hp_ => exact RV.mono hp_ hm_
 | _ + 7, hp_ => exact trivial
 }
 {
 intro c m_ m2_ ws L_ T_ hm_ hq_
 match c, hq_ with
 | 0, ⟨e1_, e2_⟩ => exact ⟨e1_, e2_⟩
 | _ + 1, hq_ => exact hq_.elim
 }
 {
 refine ⟨?_, ?_, ?_, ?_, ?_, ?_, ?_, trivial⟩
 {
 refine cplain fun pre_ post_ L_ T_ m' a' w' hl' hp' hm' hq' hS' hE' hT' => ?_
 obtain rfl := len0 hl'
 refine Step.imp (Run1.pure (r_move hE' rfl)) ?_
 rintro _ _ ⟨rfl, rfl⟩
 exact ⟨_, M.le.refl _, hS', rfl⟩
 }
 {
 refine cplain fun pre_ post_ L_ T_ m' a' w' hl' hp' hm' hq' hS' hE' hT' => ?_
 obtain rfl := len0 hl'
 refine Step.imp (Run1.pure (r_move hE' rfl)) ?_
 rintro _ _ ⟨rfl, rfl⟩
 exact ⟨_, M.le.refl _, hS', ⟨rfl, hr115⟩⟩
 }
 {
 refine cplain fun pre_ post_ L_ T_ m' a' w' hl' hp' hm' hq' hS' hE' hT' => ?_
 obtain rfl := len0 hl'
 obtain ⟨v132, e133, q134⟩ : ∃ v, a'.tmps.getD 43 undef = v ∧ (v = v0) := ⟨_, rfl, hT' 0 (by decide) 43 rfl⟩
 have hE := hE'.add (e133.trans q134)
 obtain ⟨v135, e136, q137⟩ : ∃ v, a'.tmps.getD 44 undef = v ∧ (v = (.int .i64 x114) ∧ inR .i64 x114) := ⟨_, rfl, hT' 1 (by decide) 44 rfl⟩
 obtain ⟨q137, hr138⟩ := q137
 have hE := hE.add (e136.trans q137)
 refine Step.imp (st_index (k := kApi_Value) hE rfl rfl Try.underlying29 Try.sizeOf53 (ha0.mono (M.le.trans hm6 (M.le.trans hm14 (M.le.trans hm30 (M.le.trans hm43 (M.le.trans hm113 hm')))))) hx123) ?_
 rintro v139 _ ⟨rfl, hp124⟩
 exact ⟨_, M.le.refl _, hS', hp124⟩
 }
 {
 refine cplain fun pre_ post_ L_ T_ m' a' w' hl' hp' hm' hq' hS' hE' hT' => ?_
 obtain rfl := len0 hl'
 obtain ⟨v140, e141, q142⟩ : ∃ v, a'.tmps.getD 45 undef = v ∧ (PR kApi_Value m' v x122) := ⟨_, rfl, hT' 2 (by decide) 45 rfl⟩
 have hE := hE'.add (e141)
 refine Step.imp (st_loadM hE hS' ty53 rfl q142) ?_
 rintro v143 _ ⟨rfl, hv125⟩
 exact ⟨_, M.le.refl _, hS', hv125⟩
 }
 {
 refine cplain fun pre_ post_ L_ T_ m' a' w' hl' hp' hm' hq' hS' hE' hT' => ?_
 obtain rfl := len0 hl'
 refine Step.imp (Run1.pure (r_move hE' rfl)) ?_
 rintro _ _ ⟨rfl, rfl⟩
 exact ⟨_, M.le.refl _, hS', rfl⟩
 }
 {
 refine cplain fun pre_ post_ L_ T_ m' a' w' hl' hp' hm' hq' hS' hE' hT' => ?_
 obtain rfl := len0 hl'
 obtain ⟨v145, e146, q147⟩ : ∃ v, a'.tmps.getD 47 undef = v ∧ (v = v0) := ⟨_, rfl, hT' 4 (by decide) 47 rfl⟩
 have hE := hE'.add (e146.trans q147)
 refine Step.imp (st_index (k := kApi_Value) hE rfl rfl Try.underlying29 Try.sizeOf53 (ha0.mono (M.le.trans hm6 (M.le.trans hm14 (M.le.trans hm30 (M.le.trans hm43 (M.le.trans hm113 hm')))))) hx127) ?_
 rintro v148 _ ⟨rfl, hp128⟩
 exact ⟨_, M.le.refl _, hS', hp128⟩
 }
 {
 refine cplain fun pre_ post_ L_ T_ m' a' w' hl' hp' hm' hq' hS' hE' hT' => ?_
 obtain rfl := len0 hl'
 obtain ⟨v149, e150, q151⟩ : ∃ v, a'.tmps.getD 48 undef = v ∧ (PR kApi_Value m' v x126) := ⟨_, rfl, hT' 5 (by decide) 48 rfl⟩
 have hE := hE'.add (e150)
 refine Step.imp (st_loadM hE hS' ty53 rfl q151) ?_
 rintro v152 _ ⟨rfl, hv129⟩
 exact ⟨_, M.le.refl _, hS', hv129⟩
 }
 }
 {
 intro ws_ L_ T_ m153 a w hl154 hm155 hq156 hS hd157 hn158 ho159 hT160
 obtain rfl := len0 hl154
 obtain ⟨rfl, rfl⟩ := hq156
 have hE := Env.of (k := 7) (l' := [(0, v0), (7, (.int .i64 x114)), (39, (.int .i64 (p0.length : Int))), (40, (.int .i64 x114)), (41, (.bool (decide (x114 < (p0.length : Int))))), (42, (.int .i64 x114))]) hd157 hn158 ho159 ⟨rfl, rfl, rfl, rfl, rfl, rfl, trivial⟩ rfl
 obtain ⟨v161, e162, q163⟩ : ∃ v, a.tmps.getD 46 undef = v ∧ (RV kApi_Value m153 v x122) := ⟨_, rfl, hT160 3 (by decide) 46 rfl⟩
 have hE := hE.add (e162)
 obtain ⟨v164, e165, q166⟩ : ∃ v, a.tmps.getD 49 undef = v ∧ (RV kApi_Value m153 v x126) := ⟨_, rfl, hT160 6 (by decide) 49 rfl⟩
 have hE := hE.add (e165)
 refine sp hE (r_neqK hE eq53 rfl rfl q163 q166 rfl) rfl fun a hE => ?_
 refine knil ?_
 refine kif hE rfl (fun hd168 => ?_) (fun hd168 => ?_)
 {
 have h := ite_T hd168 h
 refine kseq ?_
 refine kreg ?_
 refine sp hE (r_assign hE rfl) rfl fun a hE => ?_
 refine knil ?_
 refine kret ?_
 have h := unwrap h hb117
 obtain rfl := Option.some.inj h
 try dsimp only
 refine Fin.mk (fn := Try.f9) hE (rs := [.tmp 2]) rfl (ResL.tmp hE rfl ResL.nil) ?_
 exact ⟨_, (M.le.trans hm6 (M.le.trans hm14 (M.le.trans hm30 (M.le.trans hm43 (M.le.trans hm113 hm155))))), hS, RV_of_bool⟩
 }
 {
 have h := ite_F hd168 h
 refine kskip ?_
 refine kreg ?_
 refine sp hE (r_bin hE rfl rfl (b_add rfl)) rfl fun a hE => ?_
 refine sp hE (r_move hE rfl) rfl fun a hE => ?_
 refine knil ?_
 exact ⟨IntKind.i64.wrap (x114 + 1), (Option.some.inj h).symm, _, (M.le.trans hm113 hm155), (inR_wrap _ _), hS, hE.cut ⟨rfl, rfl, rfl, trivial⟩⟩
 }
 }
 }
 {
 have h := ite_F hd119 h
 refine kexit rfl rfl ?_
 have h := unwrap h hb117
 exact ⟨h, _, hm113, hS, hE.cut ⟨rfl, trivial⟩⟩
 }
 }
 }
 {
 rintro a w ⟨h, m51, hm52, hS, hE⟩
 unfold hayloftlaw06_EncodeNever_j2 at h
 refine kseq ?_
 refine kreg ?_
 refine sp hE (r_move hE rfl) rfl fun a hE => ?_
 obtain ⟨r55, hr56, h⟩ := ob h
 refine st hE (st_call (vs := [(.int .i64 1), v0]) hE rfl Try.call24 (c_encode_Encode (hS := hS) (show inR .i64 1 from inR_lit (by decide)) (ha0.mono (M.le.trans hm6 (M.le.trans hm14 (M.le.trans hm30 (M.le.trans hm43 hm52))))) hr56)) rfl ?_
 rintro _ a w ⟨m57, hm58, hS, v0_59, v1_60, rfl, hv0_61, hv1_62⟩ hE
 obtain ⟨rfl, hr64⟩ := RV_int hv1_62
 refine sp hE (r_move hE rfl) rfl fun a hE => ?_
 refine sp hE (r_extract hE rfl rfl) rfl fun a hE => ?_
 refine sp hE (r_extract hE rfl rfl) rfl fun a hE => ?_
 refine sp hE (r_assign hE rfl) rfl fun a hE => ?_
 refine sp hE (r_assign hE rfl) rfl fun a hE => ?_
 refine knil ?_
 refine kseq ?_
 refine kseq ?_
 refine kcut (fun a w => ∃ x72 : Bool, hayloftlaw06_EncodeNever_j3 p0 r55 x72 = some r ∧ ∃ m', M.le m57 m' ∧ S W0 m' w (L) (TL) ∧ Env 76 a [(0, v0), (8, v0_59), (63, (.bool x72))]) ?_ ?_
 {
 refine kreg ?_
 refine sp hE (r_move hE rfl) rfl fun a hE => ?_
 refine sp hE (r_bin hE rfl rfl b_neq) rfl fun a hE => ?_
 refine sp hE (r_move hE rfl) rfl fun a hE => ?_
 rcases Bool.eq_false_or_eq_true (r55.2 != 0) with hd106 | hd106
 {
 have h := ite_T hd106 h
 refine sx hE rfl rfl rfl rfl hd106 rfl fun a hE => ?_
 refine sx hE rfl rfl rfl rfl hd106 rfl fun a hE => ?_
 refine sx hE rfl rfl rfl rfl hd106 rfl fun a hE => ?_
 refine sp hE (r_pickT hE rfl hd106 rfl) rfl fun a hE => ?_
 refine knil ?_
 exact ⟨true, h, _, (M.le.refl _), hS, hE.cut ⟨rfl, rfl, rfl, trivial⟩⟩
 }
 {
 have h := ite_F hd106 h
 refine spg hE rfl rfl rfl rfl hd106 (r_move hE rfl) rfl fun a hE => ?_
 refine spg hE rfl rfl rfl rfl hd106 (r_lenSl (k := kApi_Value) hE rfl rfl Try.underlying29 (ha0.mono (M.le.trans hm6 (M.le.trans hm14 (M.le.trans hm30 (M.le.trans hm43 (M.le.trans hm52 hm58))))))) rfl fun a hE => ?_
 refine spg hE rfl rfl rfl rfl hd106 (r_bin hE rfl rfl b_eql) rfl fun a hE => ?_
 refine sp hE (r_pickF hE rfl hd106 rfl) rfl fun a hE => ?_
 refine knil ?_
 exact ⟨((p0.length : Int) == 0), h, _, (M.le.refl _), hS, hE.cut ⟨rfl, rfl, rfl, trivial⟩⟩
 }
 }
 {
 rintro a w ⟨x72, h, m70, hm71, hS, hE⟩
 unfold hayloftlaw06_EncodeNever_j3 at h
 refine kif hE rfl (fun hd74 => ?_) (fun hd74 => ?_)
 {
 have h := ite_T hd74 h
 refine kseq ?_
 refine kreg ?_
 refine sp hE (r_assign hE rfl) rfl fun a hE => ?_
 refine knil ?_
 refine kret ?_
 obtain rfl := Option.some.inj h
 try dsimp only
 refine Fin.mk (fn := Try.f9) hE (rs := [.tmp 2]) rfl (ResL.tmp hE rfl ResL.nil) ?_
 exact ⟨_, (M.le.trans hm6 (M.le.trans hm14 (M.le.trans hm30 (M.le.trans hm43 (M.le.trans hm52 (M.le.trans hm58 hm71)))))), hS, RV_of_bool⟩
 }
 {
 have h := ite_F hd74 h
 refine kskip ?_
 refine kseq ?_
 refine kreg ?_
 refine sp hE (r_move hE rfl) rfl fun a hE => ?_
 obtain ⟨x77, hx78, h⟩ := ob h
 refine st hE (st_slice (k := kApi_Value) hE rfl Try.underlying29 Try.sizeOf53 (ha0.mono (M.le.trans hm6 (M.le.trans hm14 (M.le.trans hm30 (M.le.trans hm43 (M.le.trans hm52 (M.le.trans hm58 hm71))))))) rfl ⟨_, rfl⟩ hx78 (xl := none) (xh := (some (.const (.int .i64 1))))) rfl ?_
 rintro v80 a _ ⟨rfl, hv79⟩ hE
 obtain ⟨r81, hr82, h⟩ := ob h
 refine st hE (st_call (vs := [(.int .i64 0), v80]) hE rfl Try.call24 (c_encode_Encode (hS := hS) (show inR .i64 0 from inR_lit (by decide)) hv79 hr82)) rfl ?_
 rintro _ a w ⟨m83, hm84, hS, v0_85, v1_86, rfl, hv0_87, hv1_88⟩ hE
 obtain ⟨rfl, hr90⟩ := RV_int hv1_88
 refine sp hE (r_move hE rfl) rfl fun a hE => ?_
 refine sp hE (r_extract hE rfl rfl) rfl fun a hE => ?_
 refine sp hE (r_extract hE rfl rfl) rfl fun a hE => ?_
 refine sp hE (r_assign hE rfl) rfl fun a hE => ?_
 refine sp hE (r_assign hE rfl) rfl fun a hE => ?_
 refine knil ?_
 refine kseq ?_
 refine kreg ?_
 refine sp hE (r_move hE rfl) rfl fun a hE => ?_
 refine sp hE (r_lenSl (k := (kInt .u8)) hE rfl rfl Try.underlying37 (hv0_61.mono (M.le.trans hm71 hm84))) rfl fun a hE => ?_
 refine sp hE (r_move hE rfl) rfl fun a hE => ?_
 refine sp hE (r_lenSl (k := (kInt .u8)) hE rfl rfl Try.underlying37 hv0_87) rfl fun a hE => ?_
 refine sp hE (r_bin hE rfl rfl (b_add rfl)) rfl fun a hE => ?_
 refine sp hE (r_bin hE rfl rfl b_eql) rfl fun a hE => ?_
 refine sp hE (r_assign hE rfl) rfl fun a hE => ?_
 refine knil ?_
 refine kret ?_
 obtain rfl := Option.some.inj h
 try dsimp only
 refine Fin.mk (fn := Try.f9) hE (rs := [.tmp 2]) rfl (ResL.tmp hE rfl ResL.nil) ?_
 exact ⟨_, (M.le.trans hm6 (M.le.trans hm14 (M.le.trans hm30 (M.le.trans hm43 (M.le.trans hm52 (M.le.trans hm58 (M.le.trans hm71 hm84))))))), hS, RV_of_bool⟩
 }
 }
 }
 }
 }
/- 15 -/
/- 30 -/
/- 10 -/
end Go.Proofs.Ytifobhaccglckaa.Hay
