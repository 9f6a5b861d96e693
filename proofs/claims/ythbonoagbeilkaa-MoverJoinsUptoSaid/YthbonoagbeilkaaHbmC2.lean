import Derived.Test.YthbonoagbeilkaaHbmC1
import Derived.Test.YthbonoagbeilkaaHbA
import Derived.Carry
import Derived.ChangeSame
import Derived.OpenShut
import Derived.JoinedCond
import Derived.Test.YthbonoagbeilkaaRows
import Derived.Test.YthbonoagbeilkaaHbmM
set_option maxRecDepth 100000
set_option maxHeartbeats 4000000
set_option linter.unusedVariables false
namespace Go.Proofs.Ythbonoagbeilkaa.Hay
open Go.Proofs
theorem c_mover_Join  {W0 : Bse} {m : M} {w : World} {L : List (Nat × List Value)} {TL : List (Nat × Value)} (hS : S W0 m w (L) (TL)) {v0 : Value} {p0 : (List Int)} (ha0 : RV (kSl (kInt .i64)) m v0 p0) {v1 : Value} {p1 : (List (List Api_Version))} (ha1 : RV (kSl (kSl kApi_Version)) m v1 p1) {p2 : Int} (ha2 : inR .u64 p2) {r : (List Api_Version)} (h : mover_Join p0 p1 p2 = some r) :
    Calls Try.prog 7 [v0, v1, (.int .u64 p2)].toArray w (Ret fun v w' => ∃ m', M.le m m' ∧ S W0 m' w' (L) (TL) ∧ RV (kSl kApi_Version) m' v r) := by
 refine kcallM Try.func7 rfl Try.ntmps7 (Nat.le_of_ble_eq_true rfl) fun a hE => ?_
 have hE : Env 29 a [(0, v0), (1, v1), (2, (.int .u64 p2))] := hE
 unfold mover_Join at h
 refine kseq (kreg ?_)
 refine st hE (st_box (k := (kInt .u64)) hE hS rfl (RV_of_int ha2)) rfl ?_
 rintro _ a w ⟨b1, cs2, rfl, hc3, hS⟩ hE
 refine qa hE rfl rfl fun a hE => ?_
 refine knil (kseq (kreg ?_))
 refine st hE (st_alloc hS Try.zeroValue25 rfl (cs := [(.slice none 0 0)])) rfl ?_
 rintro _ a w ⟨b6, rfl, hS⟩ hE
 refine knil (kseq (kseq (kreg ?_)))
 refine qm hE rfl rfl fun a hE => ?_
 obtain ⟨r9, hr10, h⟩ := ob h
 refine st hE (st_call (vs := [v1]) hE rfl Try.call11 (c_slices_Concat_Version (hS := hS) ha1 hr10)) rfl ?_
 rintro v14 a w ⟨m11, hm12, hS, hv13⟩ hE
 obtain ⟨r15, hr16, h⟩ := ob h
 refine st hE (st_call (vs := [v14]) hE rfl Try.call10 (c_slices_Values_Version (hS := hS) hv13 hr16)) rfl ?_
 rintro v20 a w ⟨m17, hm18, hS, hv19⟩ hE
 refine knil (kblock ?_)
 obtain ⟨y78, hy79, h⟩ := ob h
 refine krangeV (Rv := (Rv1 kApi_Version)) (fun (s : (List Api_Version)) (x : Api_Version) => mover_Join_b1 p2 s x) (fun _ => .ret) [] (fun (m' : M) (s : (List Api_Version)) (Ls_ : Mem) (TLs_ : Tls) => ∃ (v24 : Value), M.le m17 m' ∧ RV (kSl kApi_Version) m' v24 s ∧ Ls_ = [(b6, [v24]), (b1, cs2)] ∧ TLs_ = [(4, v24)]) (Ls := [(b6, [(.slice none 0 0)]), (b1, cs2)]) (TLs := [(4, (.slice none 0 0))]) (s0 := ([] : (List Api_Version))) (sf := y78.1) (bf := y78.2) hE ((hS.tail0 4).pickT 2 [0] rfl rfl rfl) rfl hv19 (by decide) (fun _ _ _ h => Rv1_len h) (by rintro m1_ m2_ s_ a_ b_ hm_ ⟨v24, hl_, hf0_, e1_, e2_⟩; exact ⟨v24, hl_.trans hm_, hf0_.mono hm_, e1_, e2_⟩) ⟨(.slice none 0 0), M.le.refl _, RV_nil, rfl, rfl⟩ hy79 ?_ ?_
 {
 intro lid_ W1_ W0 m21 w L TL s_ Ls_ TLs_ vs_ x26 s27 b28 a or_ ob_ hI29 hS hR30 h hE hT31
 obtain ⟨x23, rfl⟩ : ∃ x, x = s_ := ⟨_, rfl⟩
 obtain ⟨v24, hm22, hc25, rfl, rfl⟩ := hI29
 have h : mover_Join_b1 p2 x23 x26 = some (s27, b28) := h
 unfold mover_Join_b1 at h
 obtain ⟨v32, rfl, hv33⟩ := hR30
 refine kreg ?_
 refine st hE (st_alloc hS Try.zeroValue31 rfl (cs := zc31)) rfl ?_
 rintro _ a w ⟨b34, rfl, hS⟩ hE
 refine st0 hE (st_storeF hE hS ty31 StF_self rfl rfl hv33 (i := 0) rfl (zr31 _)) ?_
 rintro _ w ⟨cs36, hc37, hS⟩ hE
 refine knil ?_
 obtain ⟨hb_, hS⟩ := hT31 _ _ _ _ hS
 refine ⟨hb_, ?_⟩
 refine kblock (kseq ?_)
 refine kcut (fun a w => ∃ x41 : Bool, mover_Join_j1 x23 x26 x41 = some (s27, b28) ∧ ∃ m', M.le m21 m' ∧ S W0 m' w ((b34, cs36) :: (b6, [v24]) :: (b1, cs2) :: L) ((4, v24) :: TL) ∧ Env 29 a [(0, v0), (5, (.pointer (some ⟨b1, 0, none⟩))), (7, (.pointer (some ⟨b6, 0, none⟩))), (8, (.pointer (some ⟨b34, 0, none⟩))), (11, v20), (21, (.bool x41))]) ?_ ?_
 {
 refine kreg ?_
 refine sp hE (r_fieldL hE fo31_2 rfl) rfl fun a hE => ?_
 refine st hE (st_loadL hE hS ty24 rfl (i := 0) rfl (fl31_2.R_drop (R_whole hc37))) rfl ?_
 rintro v63 a _ ⟨rfl, hv62⟩ hE
 obtain ⟨rfl, hr64⟩ := RV_int hv62
 refine sp hE (r_bin hE rfl rfl b_eql) rfl fun a hE => ?_
 refine qm hE rfl rfl fun a hE => ?_
 rcases Bool.eq_false_or_eq_true (x26.fDeleted == 0) with hd67 | hd67
 {
 have h := ite_T hd67 h
 refine sx hE rfl rfl rfl rfl hd67 rfl fun a hE => ?_
 refine sx hE rfl rfl rfl rfl hd67 rfl fun a hE => ?_
 refine sx hE rfl rfl rfl rfl hd67 rfl fun a hE => ?_
 refine sx hE rfl rfl rfl rfl hd67 rfl fun a hE => ?_
 refine sp hE (r_pickT hE rfl hd67 rfl) rfl fun a hE => ?_
 refine knil ?_
 exact ⟨true, h, _, (M.le.refl _), hS, hE.cut ⟨rfl, rfl, rfl, rfl, rfl, rfl, trivial⟩⟩
 }
 {
 have h := ite_F hd67 h
 refine spg hE rfl rfl rfl rfl hd67 (r_fieldL hE fo31_2 rfl) rfl fun a hE => ?_
 refine stg hE rfl rfl rfl rfl hd67 (st_loadL hE hS ty24 rfl (i := 0) rfl (fl31_2.R_drop (R_whole hc37))) rfl ?_
 rintro v71 a _ ⟨rfl, hv70⟩ hE
 obtain ⟨rfl, hr72⟩ := RV_int hv70
 refine stg hE rfl rfl rfl rfl hd67 (st_loadL hE hS ty24 rfl (i := 2) rfl (R_whole ((kInt .u64).mono (M.le.trans hm12 (M.le.trans hm18 hm22)) hc3))) rfl ?_
 rintro v74 a _ ⟨rfl, hv73⟩ hE
 obtain ⟨rfl, hr75⟩ := RV_int hv73
 refine spg hE rfl rfl rfl rfl hd67 (r_bin hE rfl rfl b_gtr) rfl fun a hE => ?_
 refine sp hE (r_pickF hE rfl hd67 rfl) rfl fun a hE => ?_
 refine knil ?_
 exact ⟨(decide (p2 < x26.fDeleted)), h, _, (M.le.refl _), hS, hE.cut ⟨rfl, rfl, rfl, rfl, rfl, rfl, trivial⟩⟩
 }
 }
 {
 rintro a w ⟨x41, h, m39, hm40, hS, hE⟩
 unfold mover_Join_j1 at h
 refine kif hE rfl (fun hd43 => ?_) (fun hd43 => ?_)
 {
 have h := ite_T hd43 h
 refine kreg ?_
 refine sp hE (st_loadSl (k := kApi_Version) hE hS ty25 rfl (i := 1) rfl (hc25.mono hm40)) rfl fun a hE => ?_
 refine st hE (st_loadL hE hS ty31 rfl (i := 0) rfl (R_whole (kApi_Version.mono hm40 hc37))) rfl ?_
 rintro v47 a _ ⟨rfl, hv46⟩ hE
 refine st hE (st_lit (k := kApi_Version) (xs := [x26]) (vs := [v47]) hE hS rfl Try.underlying25 Try.sizeOf31 Try.zeroValue31 ⟨hv46, trivial⟩ rfl (by decide)) rfl ?_
 rintro v51 a w ⟨m49, hm50, hS, hv48⟩ hE
 obtain ⟨z52, hz53, h⟩ := ob h
 refine st hE (st_app (k := kApi_Version) (N := 2932031007402) hE hS rfl rfl Try.underlying25 Try.underlying25 el31 (i := 1) rfl (hc25.mono (M.le.trans hm40 hm50)) hv48 hz53 rfl rfl) rfl ?_
 rintro v57 a w ⟨m55, hm56, hS, hv54⟩ hE
 refine st0 hE (st_storeSl (k := kApi_Version) hE hS ty25 rfl rfl hv54 (i := 1) rfl) ?_
 rintro _ w hS hE
 refine knil ?_
 cases h
 try dsimp only
 exact ⟨rfl, _, [(b6, [v57]), (b1, cs2)], [(4, v57)], (M.le.trans hm40 (M.le.trans hm50 hm56)), ⟨v57, (M.le.trans hm22 (M.le.trans hm40 (M.le.trans hm50 hm56))), hv54, rfl, rfl⟩, ((hS.pickL 3 [1, 2] rfl rfl rfl).pickT 2 [1] rfl rfl rfl)⟩
 }
 {
 have h := ite_F hd43 h
 refine kskip ?_
 cases h
 try dsimp only
 exact ⟨rfl, _, [(b6, [v24]), (b1, cs2)], [(4, v24)], hm40, ⟨v24, (M.le.trans hm22 hm40), (hc25.mono hm40), rfl, rfl⟩, (hS.pickL 3 [1, 2] rfl rfl rfl)⟩
 }
 }
 }
 {
 intro D80 m84 w a Ls_ TLs_ hm85 hE hI29 hS hk82 hB83
 obtain ⟨cs87, _, hc88, rfl, rfl⟩ := hI29
 obtain ⟨W0, hW81⟩ : ∃ W9, W9 = W0.put D80 (.deferred (some [])) := ⟨_, rfl⟩
 rw [← hW81] at hS
 rcases Bool.eq_false_or_eq_true y78.2 with hb86 | hb86
 {
 have h := ite_T hb86 h
 rw [if_pos hb86]
 refine kseq (kreg ?_)
 refine qm hE rfl rfl fun a hE => ?_
 refine sp hE (st_loadSl (k := kApi_Version) hE hS ty25 rfl (i := 0) rfl hc88) rfl fun a hE => ?_
 obtain ⟨r92, hr93, h⟩ := ob h
 refine st hE (st_call (vs := [v0, cs87]) hE rfl Try.call12 (c_rosfile_Sorted (hS := hS) (ha0.mono (M.le.trans hm12 (M.le.trans hm18 hm85))) hc88 hr93)) rfl ?_
 rintro v97 a w ⟨m94, hm95, hS, hv96⟩ hE
 refine qa hE rfl rfl fun a hE => ?_
 refine knil (kret ?_)
 obtain rfl := oi h
 try dsimp only
 have hS := hS
 rw [hW81] at hS
 refine FinM.shut hE hS hk82 hB83 fun a w hS hE => ?_
 refine FinM.nil hE ?_
 refine Fin.mk hE (rs := [.tmp 6]) rfl (ResL.tmp hE rfl ResL.nil) ?_
 exact ⟨_, (M.le.trans hm12 (M.le.trans hm18 (M.le.trans hm85 hm95))), ((hS.dropL 2).dropT 1), hv96⟩
 }
 {
 have h := ite_F hb86 h
 cases h
 }
 }
theorem c_hayloftlaw12_alive  {W0 : Bse} {m : M} {w : World} {L : List (Nat × List Value)} {TL : List (Nat × Value)} (hS : S W0 m w (L) (TL))  {r : Bool} (h : hayloftlaw12_alive = some r) :
    Calls Try.prog 5 [].toArray w (Ret fun v w' => ∃ m', M.le m m' ∧ S W0 m' w' (L) (TL) ∧ RV kBool m' v r) := by
 refine kcall Try.func5 rfl Try.ntmps5 (Nat.le_of_ble_eq_true rfl) fun a hE => ?_
 have hE : Env 28 a [] := hE
 unfold hayloftlaw12_alive at h
 refine kseq (kreg ?_)
 refine qa hE rfl rfl fun a hE => ?_
 refine knil (kseq (kreg ?_))
 refine st hE (st_lit (k := (kInt .i64)) (xs := [0]) (vs := [(.int .i64 0)]) hE hS rfl Try.underlying22 Try.sizeOf3 Try.zeroValue3 ⟨(RV_of_int (show inR .i64 0 from inR_lit (by decide))), trivial⟩ rfl (by decide)) rfl ?_
 rintro v5 a w ⟨m3, hm4, hS, hv2⟩ hE
 refine st hE (st_build (m := m3) (k := kApi_RowId) (x0 := Api_RowId.zero) (xx := (⟨1, 0⟩ : Api_RowId)) (pl := [(0, 1), (1, 1)]) (pv := [(0, (.int .u64 1))]) hE rfl Try.underlying28 rfl Try.zeroValue28 zr28 rfl (.cons rfl sf28_0 (RV_of_int (show inR .u64 1 from inR_lit (by decide))) .nil)) rfl ?_
 rintro v7 a _ ⟨rfl, hv6⟩ hE
 refine st hE (st_build (m := m3) (k := kAp) (x0 := Ap.zero) (xx := (⟨2, false, 2, []⟩ : Ap)) (pl := [(0, 1), (1, 1), (2, 1), (3, 1)]) (pv := [(0, (.int .i64 2)), (2, (.int .i64 2))]) hE rfl Try.underlying38 rfl Try.zeroValue38 zr38 rfl (.cons rfl sf38_0 (RV_of_int (show inR .i64 2 from inR_lit (by decide))) (.cons rfl sf38_2 (RV_of_int (show inR .i64 2 from inR_lit (by decide))) .nil))) rfl ?_
 rintro v9 a _ ⟨rfl, hv8⟩ hE
 refine st hE (st_lit (k := kAp) (xs := [(⟨2, false, 2, []⟩ : Ap)]) (vs := [v9]) hE hS rfl Try.underlying29 Try.sizeOf38 Try.zeroValue38 ⟨hv8, trivial⟩ rfl (by decide)) rfl ?_
 rintro v13 a w ⟨m11, hm12, hS, hv10⟩ hE
 refine st hE (st_build (m := m11) (k := kApi_Version) (x0 := Api_Version.zero) (xx := (⟨(⟨1, 0⟩ : Api_RowId), [(⟨2, false, 2, []⟩ : Ap)], 0⟩ : Api_Version)) (pl := [(0, 2), (2, 1), (3, 1)]) (pv := [(0, v7), (1, v13)]) hE rfl Try.underlying31 rfl Try.zeroValue31 zr31 rfl (.cons rfl sf31_0 (hv6.mono hm12) (.cons rfl sf31_1 hv10 .nil))) rfl ?_
 rintro v15 a _ ⟨rfl, hv14⟩ hE
 refine st hE (st_lit (k := kApi_Version) (xs := [(⟨(⟨1, 0⟩ : Api_RowId), [(⟨2, false, 2, []⟩ : Ap)], 0⟩ : Api_Version)]) (vs := [v15]) hE hS rfl Try.underlying25 Try.sizeOf31 Try.zeroValue31 ⟨hv14, trivial⟩ rfl (by decide)) rfl ?_
 rintro v19 a w ⟨m17, hm18, hS, hv16⟩ hE
 refine st hE (st_build (m := m17) (k := kApi_RowId) (x0 := Api_RowId.zero) (xx := (⟨2, 0⟩ : Api_RowId)) (pl := [(0, 1), (1, 1)]) (pv := [(0, (.int .u64 2))]) hE rfl Try.underlying28 rfl Try.zeroValue28 zr28 rfl (.cons rfl sf28_0 (RV_of_int (show inR .u64 2 from inR_lit (by decide))) .nil)) rfl ?_
 rintro v21 a _ ⟨rfl, hv20⟩ hE
 refine st hE (st_build (m := m17) (k := kAp) (x0 := Ap.zero) (xx := (⟨2, false, 1, []⟩ : Ap)) (pl := [(0, 1), (1, 1), (2, 1), (3, 1)]) (pv := [(0, (.int .i64 2)), (2, (.int .i64 1))]) hE rfl Try.underlying38 rfl Try.zeroValue38 zr38 rfl (.cons rfl sf38_0 (RV_of_int (show inR .i64 2 from inR_lit (by decide))) (.cons rfl sf38_2 (RV_of_int (show inR .i64 1 from inR_lit (by decide))) .nil))) rfl ?_
 rintro v23 a _ ⟨rfl, hv22⟩ hE
 refine st hE (st_lit (k := kAp) (xs := [(⟨2, false, 1, []⟩ : Ap)]) (vs := [v23]) hE hS rfl Try.underlying29 Try.sizeOf38 Try.zeroValue38 ⟨hv22, trivial⟩ rfl (by decide)) rfl ?_
 rintro v27 a w ⟨m25, hm26, hS, hv24⟩ hE
 refine st hE (st_build (m := m25) (k := kApi_Version) (x0 := Api_Version.zero) (xx := (⟨(⟨2, 0⟩ : Api_RowId), [(⟨2, false, 1, []⟩ : Ap)], 0⟩ : Api_Version)) (pl := [(0, 2), (2, 1), (3, 1)]) (pv := [(0, v21), (1, v27)]) hE rfl Try.underlying31 rfl Try.zeroValue31 zr31 rfl (.cons rfl sf31_0 (hv20.mono hm26) (.cons rfl sf31_1 hv24 .nil))) rfl ?_
 rintro v29 a _ ⟨rfl, hv28⟩ hE
 refine st hE (st_build (m := m25) (k := kApi_RowId) (x0 := Api_RowId.zero) (xx := (⟨1, 1⟩ : Api_RowId)) (pl := [(0, 1), (1, 1)]) (pv := [(0, (.int .u64 1)), (1, (.int .u32 1))]) hE rfl Try.underlying28 rfl Try.zeroValue28 zr28 rfl (.cons rfl sf28_0 (RV_of_int (show inR .u64 1 from inR_lit (by decide))) (.cons rfl sf28_1 (RV_of_int (show inR .u32 1 from inR_lit (by decide))) .nil))) rfl ?_
 rintro v31 a _ ⟨rfl, hv30⟩ hE
 refine st hE (st_build (m := m25) (k := kApi_Version) (x0 := Api_Version.zero) (xx := (⟨(⟨1, 1⟩ : Api_RowId), [], 2⟩ : Api_Version)) (pl := [(0, 2), (2, 1), (3, 1)]) (pv := [(0, v31), (2, (.int .u64 2))]) hE rfl Try.underlying31 rfl Try.zeroValue31 zr31 rfl (.cons rfl sf31_0 hv30 (.cons rfl sf31_2 (RV_of_int (show inR .u64 2 from inR_lit (by decide))) .nil))) rfl ?_
 rintro v33 a _ ⟨rfl, hv32⟩ hE
 refine st hE (st_lit (k := kApi_Version) (xs := [(⟨(⟨2, 0⟩ : Api_RowId), [(⟨2, false, 1, []⟩ : Ap)], 0⟩ : Api_Version), (⟨(⟨1, 1⟩ : Api_RowId), [], 2⟩ : Api_Version)]) (vs := [v29, v33]) hE hS rfl Try.underlying25 Try.sizeOf31 Try.zeroValue31 ⟨hv28, hv32, trivial⟩ rfl (by decide)) rfl ?_
 rintro v37 a w ⟨m35, hm36, hS, hv34⟩ hE
 refine st hE (st_lit (k := (kSl kApi_Version)) (xs := [[(⟨(⟨1, 0⟩ : Api_RowId), [(⟨2, false, 2, []⟩ : Ap)], 0⟩ : Api_Version)], [(⟨(⟨2, 0⟩ : Api_RowId), [(⟨2, false, 1, []⟩ : Ap)], 0⟩ : Api_Version), (⟨(⟨1, 1⟩ : Api_RowId), [], 2⟩ : Api_Version)]]) (vs := [v19, v37]) hE hS rfl Try.underlying23 Try.sizeOf25 Try.zeroValue25 ⟨(hv16.mono (M.le.trans hm26 hm36)), hv34, trivial⟩ rfl (by decide)) rfl ?_
 rintro v41 a w ⟨m39, hm40, hS, hv38⟩ hE
 obtain ⟨r42, hr43, h⟩ := ob h
 refine st hE (st_call (vs := [v5, v41, (.int .u64 2)]) hE rfl Try.call7 (c_mover_Join (hS := hS) (hv2.mono (M.le.trans hm12 (M.le.trans hm18 (M.le.trans hm26 (M.le.trans hm36 hm40))))) hv38 (show inR .u64 2 from inR_lit (by decide)) hr43)) rfl ?_
 rintro v47 a w ⟨m44, hm45, hS, hv46⟩ hE
 refine qa hE rfl rfl fun a hE => ?_
 refine knil (kseq ?_)
 refine kcut (fun a w => ∃ x51 : Bool, hayloftlaw12_alive_j1 x51 = some r ∧ ∃ m', M.le m44 m' ∧ S W0 m' w (L) (TL) ∧ Env 28 a [(0, (.bool x51))]) ?_ ?_
 {
 refine kreg ?_
 refine qm hE rfl rfl fun a hE => ?_
 refine sp hE (r_lenSl (k := kApi_Version) hE rfl rfl Try.underlying25 hv46) rfl fun a hE => ?_
 refine sp hE (r_bin hE rfl rfl b_eql) rfl fun a hE => ?_
 refine qm hE rfl rfl fun a hE => ?_
 rcases Bool.eq_false_or_eq_true ((r42.length : Int) == 2) with hd57 | hd57
 {
 have h := ite_T hd57 h
 refine spg hE rfl rfl rfl rfl hd57 (r_move hE rfl) rfl fun a hE => ?_
 obtain ⟨x59, hx60, h⟩ := ob h
 refine stg hE rfl rfl rfl rfl hd57 (st_index (k := kApi_Version) hE rfl rfl Try.underlying25 Try.sizeOf31 hv46 hx60) rfl ?_
 rintro v62 a _ ⟨rfl, hp61⟩ hE
 refine stg hE rfl rfl rfl rfl hd57 (st_fieldM hE fo31_0 fl31_0 rfl hp61) rfl ?_
 rintro v65 a _ ⟨rfl, hp64⟩ hE
 refine stg hE rfl rfl rfl rfl hd57 (st_fieldM hE fo28_0 fl28_0 rfl hp64) rfl ?_
 rintro v68 a _ ⟨rfl, hp67⟩ hE
 refine stg hE rfl rfl rfl rfl hd57 (st_loadM hE hS ty24 rfl hp67) rfl ?_
 rintro v70 a _ ⟨rfl, hv69⟩ hE
 obtain ⟨rfl, hr71⟩ := RV_int hv69
 refine spg hE rfl rfl rfl rfl hd57 (r_bin hE rfl rfl b_eql) rfl fun a hE => ?_
 refine sp hE (r_pickT hE rfl hd57 rfl) rfl fun a hE => ?_
 refine qa hE rfl rfl fun a hE => ?_
 refine knil ?_
 exact ⟨(x59.fId.fEpoch == 2), h, _, (M.le.refl _), (hS.pickT 6 [] rfl rfl rfl), hE.cut ⟨rfl, trivial⟩⟩
 }
 {
 have h := ite_F hd57 h
 refine sx hE rfl rfl rfl rfl hd57 rfl fun a hE => ?_
 refine sx hE rfl rfl rfl rfl hd57 rfl fun a hE => ?_
 refine sx hE rfl rfl rfl rfl hd57 rfl fun a hE => ?_
 refine sx hE rfl rfl rfl rfl hd57 rfl fun a hE => ?_
 refine sx hE rfl rfl rfl rfl hd57 rfl fun a hE => ?_
 refine sx hE rfl rfl rfl rfl hd57 rfl fun a hE => ?_
 refine sp hE (r_pickF hE rfl hd57 rfl) rfl fun a hE => ?_
 refine qa hE rfl rfl fun a hE => ?_
 refine knil ?_
 exact ⟨false, h, _, (M.le.refl _), (hS.pickT 6 [] rfl rfl rfl), hE.cut ⟨rfl, trivial⟩⟩
 }
 }
 {
 rintro a w ⟨x51, h, m49, hm50, hS, hE⟩
 unfold hayloftlaw12_alive_j1 at h
 refine kret ?_
 obtain rfl := oi h
 try dsimp only
 refine Fin.mk hE (rs := [.tmp 0]) rfl (ResL.tmp hE rfl ResL.nil) ?_
 exact ⟨_, (M.le.trans hm4 (M.le.trans hm12 (M.le.trans hm18 (M.le.trans hm26 (M.le.trans hm36 (M.le.trans hm40 (M.le.trans hm45 hm50))))))), hS, RV_of_bool⟩
 }
theorem c_r8_Key  {W0 : Bse} {m : M} {w : World} {L : List (Nat × List Value)} {TL : List (Nat × Value)} (hS : S W0 m w (L) (TL)) {v0 : Value} {p0 : (List Int)} (ha0 : RV (kSl (kInt .i64)) m v0 p0) {v1 : Value} {p1 : (List Ap)} (ha1 : RV (kSl kAp) m v1 p1) {r : (List Ap)} (h : r8_Key p0 p1 = some r) :
    Calls Try.prog 33 [v0, v1].toArray w (Ret fun v w' => ∃ m', M.le m m' ∧ S W0 m' w' (L) ((4, v) :: TL) ∧ RV (kSl kAp) m' v r) := by
 refine kcall Try.func33 rfl Try.ntmps33 (Nat.le_of_ble_eq_true rfl) fun a hE => ?_
 have hE : Env 41 a [(0, v0), (1, v1)] := hE
 unfold r8_Key at h
 refine kseq (kreg ?_)
 refine qa hE rfl rfl fun a hE => ?_
 refine knil (kseq (kreg ?_))
 refine qa hE rfl rfl fun a hE => ?_
 refine knil (kseq (kseq (kreg ?_)))
 refine qa hE rfl rfl fun a hE => ?_
 refine knil ?_
 refine kcut (fun a w => ∃ x6 : (List Ap), r8_Key_j1 x6 = some r ∧ ∃ m', M.le m m' ∧ ∃ (v7 : Value), RV (kSl kAp) m' v7 x6 ∧ S W0 m' w (L) ((4, v7) :: TL) ∧ Env 41 a [(5, v7)]) ?_ ?_
 {
 refine kblock ?_
 refine kloop h (fun (s : ((List Ap) × Int)) a w => ∃ m', M.le m m' ∧ ∃ (v15 : Value), RV (kSl kAp) m' v15 s.1 ∧ inR .i64 s.2 ∧ S W0 m' w (L) ((4, v15) :: TL) ∧ Env 41 a [(0, v0), (1, v1), (5, v15), (6, (.int .i64 s.2))]) ?_ ?_
 {
 exact ⟨_, (M.le.refl _), (.slice none 0 0), RV_nil, (show inR .i64 0 from inR_lit (by decide)), (hS.tail0 4), hE.cut ⟨rfl, rfl, rfl, rfl, trivial⟩⟩
 }
 {
 rintro ⟨x14, x17⟩ a w ⟨m12, hm13, v15, hv16, hr18, hS, hE⟩ r19 h hb20
 have h : r8_Key_b1 p0 p1 x14 x17 = some r19 := h
 unfold r8_Key_b1 at h
 refine kseq (kseq (kreg ?_))
 refine qm hE rfl rfl fun a hE => ?_
 refine qm hE rfl rfl fun a hE => ?_
 refine sp hE (r_lenSl (k := (kInt .i64)) hE rfl rfl Try.underlying22 (ha0.mono hm13)) rfl fun a hE => ?_
 refine sp hE (r_bin hE rfl rfl b_lss) rfl fun a hE => ?_
 refine knil ?_
 refine kif hE rfl (fun hd25 => ?_) (fun hd25 => ?_)
 {
 have h := ite_T hd25 h
 refine kskip (kseq (kblock (kseq (kreg ?_))))
 refine st hE (st_build (m := m12) (k := kAp) (x0 := Ap.zero) (xx := (⟨0, false, 0, []⟩ : Ap)) (pl := [(0, 1), (1, 1), (2, 1), (3, 1)]) (pv := []) hE rfl Try.underlying38 rfl Try.zeroValue38 zr38 rfl .nil) rfl ?_
 rintro v27 a _ ⟨rfl, hv26⟩ hE
 refine st hE (st_alloc hS Try.zeroValue38 rfl (cs := zc38)) rfl ?_
 rintro _ a w ⟨b28, rfl, hS⟩ hE
 refine st0 hE (st_storeF hE hS ty38 StF_self rfl rfl hv26 (i := 0) rfl (zr38 _)) ?_
 rintro _ w ⟨cs30, hc31, hS⟩ hE
 refine knil (kseq (kseq ?_))
 refine kcut (fun a w => ∃ x35 : Bool, r8_Key_j2 p0 p1 x14 x17 x35 = some r19 ∧ ∃ m', M.le m12 m' ∧ S W0 m' w ((b28, cs30) :: L) ((4, v15) :: TL) ∧ Env 41 a [(0, v0), (1, v1), (5, v15), (6, (.int .i64 x17)), (7, (.pointer (some ⟨b28, 0, none⟩))), (28, (.bool x35))]) ?_ ?_
 {
 refine kreg ?_
 refine qm hE rfl rfl fun a hE => ?_
 refine qm hE rfl rfl fun a hE => ?_
 obtain ⟨x82, hx83, h⟩ := ob h
 refine st hE (st_index (k := (kInt .i64)) hE rfl rfl Try.underlying22 Try.sizeOf3 (ha0.mono hm13) hx83) rfl ?_
 rintro v85 a _ ⟨rfl, hp84⟩ hE
 refine st hE (st_loadM hE hS ty3 rfl hp84) rfl ?_
 rintro v87 a _ ⟨rfl, hv86⟩ hE
 obtain ⟨rfl, hr88⟩ := RV_int hv86
 refine sp hE (r_bin hE rfl rfl b_geq) rfl fun a hE => ?_
 refine qm hE rfl rfl fun a hE => ?_
 rcases Bool.eq_false_or_eq_true (decide (0 ≤ x82)) with hd91 | hd91
 {
 have h := ite_T hd91 h
 refine spg hE rfl rfl rfl rfl hd91 (r_move hE rfl) rfl fun a hE => ?_
 refine spg hE rfl rfl rfl rfl hd91 (r_move hE rfl) rfl fun a hE => ?_
 obtain ⟨x94, hx95, h⟩ := ob h
 refine stg hE rfl rfl rfl rfl hd91 (st_index (k := (kInt .i64)) hE rfl rfl Try.underlying22 Try.sizeOf3 (ha0.mono hm13) hx95) rfl ?_
 rintro v97 a _ ⟨rfl, hp96⟩ hE
 refine stg hE rfl rfl rfl rfl hd91 (st_loadM hE hS ty3 rfl hp96) rfl ?_
 rintro v99 a _ ⟨rfl, hv98⟩ hE
 obtain ⟨rfl, hr100⟩ := RV_int hv98
 refine spg hE rfl rfl rfl rfl hd91 (r_move hE rfl) rfl fun a hE => ?_
 refine spg hE rfl rfl rfl rfl hd91 (r_lenSl (k := kAp) hE rfl rfl Try.underlying29 (ha1.mono hm13)) rfl fun a hE => ?_
 refine spg hE rfl rfl rfl rfl hd91 (r_bin hE rfl rfl b_lss) rfl fun a hE => ?_
 refine sp hE (r_pickT hE rfl hd91 rfl) rfl fun a hE => ?_
 refine knil ?_
 exact ⟨(decide (x94 < (p1.length : Int))), h, _, (M.le.refl _), hS, hE.cut ⟨rfl, rfl, rfl, rfl, rfl, rfl, trivial⟩⟩
 }
 {
 have h := ite_F hd91 h
 refine sx hE rfl rfl rfl rfl hd91 rfl fun a hE => ?_
 refine sx hE rfl rfl rfl rfl hd91 rfl fun a hE => ?_
 refine sx hE rfl rfl rfl rfl hd91 rfl fun a hE => ?_
 refine sx hE rfl rfl rfl rfl hd91 rfl fun a hE => ?_
 refine sx hE rfl rfl rfl rfl hd91 rfl fun a hE => ?_
 refine sx hE rfl rfl rfl rfl hd91 rfl fun a hE => ?_
 refine sx hE rfl rfl rfl rfl hd91 rfl fun a hE => ?_
 refine sp hE (r_pickF hE rfl hd91 rfl) rfl fun a hE => ?_
 refine knil ?_
 exact ⟨false, h, _, (M.le.refl _), hS, hE.cut ⟨rfl, rfl, rfl, rfl, rfl, rfl, trivial⟩⟩
 }
 }
 {
 rintro a w ⟨x35, h, m33, hm34, hS, hE⟩
 unfold r8_Key_j2 at h
 refine kcut (fun a w => ∃ x39 : Ap, r8_Key_j3 x14 x17 x39 = some r19 ∧ ∃ m', M.le m33 m' ∧ ∃ (cs40 : List Value), kAp.R m' cs40 x39 ∧ S W0 m' w ((b28, cs40) :: L) ((4, v15) :: TL) ∧ Env 41 a [(0, v0), (1, v1), (5, v15), (6, (.int .i64 x17)), (7, (.pointer (some ⟨b28, 0, none⟩)))]) ?_ ?_
 {
 refine kif hE rfl (fun hd60 => ?_) (fun hd60 => ?_)
 {
 have h := ite_T hd60 h
 refine kreg ?_
 refine qm hE rfl rfl fun a hE => ?_
 refine qm hE rfl rfl fun a hE => ?_
 refine qm hE rfl rfl fun a hE => ?_
 obtain ⟨x64, hx65, h⟩ := ob h
 refine st hE (st_index (k := (kInt .i64)) hE rfl rfl Try.underlying22 Try.sizeOf3 (ha0.mono (M.le.trans hm13 hm34)) hx65) rfl ?_
 rintro v67 a _ ⟨rfl, hp66⟩ hE
 refine st hE (st_loadM hE hS ty3 rfl hp66) rfl ?_
 rintro v69 a _ ⟨rfl, hv68⟩ hE
 obtain ⟨rfl, hr70⟩ := RV_int hv68
 obtain ⟨x71, hx72, h⟩ := ob h
 refine st hE (st_index (k := kAp) hE rfl rfl Try.underlying29 Try.sizeOf38 (ha1.mono (M.le.trans hm13 hm34)) hx72) rfl ?_
 rintro v74 a _ ⟨rfl, hp73⟩ hE
 refine st hE (st_loadM hE hS ty38 rfl hp73) rfl ?_
 rintro v76 a _ ⟨rfl, hv75⟩ hE
 refine st0 hE (st_storeF hE hS ty38 StF_self rfl rfl hv75 (i := 0) rfl (kAp.mono hm34 hc31)) ?_
 rintro _ w ⟨cs77, hc78, hS⟩ hE
 refine knil ?_
 exact ⟨x71, h, _, (M.le.refl _), cs77, hc78, hS, hE.cut ⟨rfl, rfl, rfl, rfl, rfl, trivial⟩⟩
 }
 {
 have h := ite_F hd60 h
 refine kskip ?_
 exact ⟨(⟨0, false, 0, []⟩ : Ap), h, _, (M.le.refl _), cs30, (kAp.mono hm34 hc31), hS, hE.cut ⟨rfl, rfl, rfl, rfl, rfl, trivial⟩⟩
 }
 }
 {
 rintro a w ⟨x39, h, m37, hm38, cs40, hc41, hS, hE⟩
 unfold r8_Key_j3 at h
 refine kreg ?_
 refine qm hE rfl rfl fun a hE => ?_
 refine st hE (st_loadL hE hS ty38 rfl (i := 0) rfl (R_whole hc41)) rfl ?_
 rintro v45 a _ ⟨rfl, hv44⟩ hE
 refine st hE (st_lit (k := kAp) (xs := [x39]) (vs := [v45]) hE hS rfl Try.underlying29 Try.sizeOf38 Try.zeroValue38 ⟨hv44, trivial⟩ rfl (by decide)) rfl ?_
 rintro v49 a w ⟨m47, hm48, hS, hv46⟩ hE
 obtain ⟨z50, hz51, h⟩ := ob h
 refine st hE (st_app (k := kAp) (N := 3518437208883) hE hS rfl rfl Try.underlying29 Try.underlying29 el38 (i := 1) rfl (hv16.mono (M.le.trans hm34 (M.le.trans hm38 hm48))) hv46 hz51 rfl rfl) rfl ?_
 rintro v55 a w ⟨m53, hm54, hS, hv52⟩ hE
 refine qa hE rfl rfl fun a hE => ?_
 refine knil (kreg ?_)
 refine qm hE rfl rfl fun a hE => ?_
 refine sp hE (r_bin hE rfl rfl (b_add rfl)) rfl fun a hE => ?_
 refine qa hE rfl rfl fun a hE => ?_
 refine knil ?_
 exact ⟨(z50, IntKind.i64.wrap (x17 + 1)), (Option.some.inj h).symm, _, (M.le.trans hm13 (M.le.trans hm34 (M.le.trans hm38 (M.le.trans hm48 hm54)))), v55, hv52, (inR_wrap _ _), ((hS.pickL 1 [] rfl rfl rfl).pickT 2 [1] rfl rfl rfl), hE.cut ⟨rfl, rfl, rfl, rfl, trivial⟩⟩
 }
 }
 }
 {
 have h := ite_F hd25 h
 refine kexit rfl rfl ?_
 have h := unwrap h hb20
 exact ⟨x14, h, _, hm13, v15, hv16, hS, hE.cut ⟨rfl, trivial⟩⟩
 }
 }
 }
 {
 rintro a w ⟨x6, h, m4, hm5, v7, hv8, hS, hE⟩
 unfold r8_Key_j1 at h
 refine kseq (kreg ?_)
 refine qm hE rfl rfl fun a hE => ?_
 refine qa hE rfl rfl fun a hE => ?_
 refine knil (kret ?_)
 obtain rfl := oi h
 try dsimp only
 refine Fin.mk hE (rs := [.tmp 4]) rfl (ResL.tmp hE rfl ResL.nil) ?_
 exact ⟨_, hm5, (hS.pickT 1 [0] rfl rfl rfl), hv8⟩
 }
theorem c_r2_less  {W0 : Bse} {m : M} {w : World} {L : List (Nat × List Value)} {TL : List (Nat × Value)} (hS : S W0 m w (L) (TL)) {v0 : Value} {p0 : Ap} (ha0 : RV kAp m v0 p0) {v1 : Value} {p1 : Ap} (ha1 : RV kAp m v1 p1) {r : Bool} (h : r2_less p0 p1 = some r) :
    Calls Try.prog 46 [v0, v1].toArray w (Ret fun v w' => ∃ m', M.le m m' ∧ S W0 m' w' (L) (TL) ∧ RV kBool m' v r) := by
 refine kcall Try.func46 rfl Try.ntmps46 (Nat.le_of_ble_eq_true rfl) fun a hE => ?_
 have hE : Env 43 a [(0, v0), (1, v1)] := hE
 unfold r2_less at h
 refine kseq (kreg ?_)
 refine st hE (st_box (k := kAp) hE hS rfl ha0) rfl ?_
 rintro _ a w ⟨b1, cs2, rfl, hc3, hS⟩ hE
 refine st hE (st_box (k := kAp) hE hS rfl ha1) rfl ?_
 rintro _ a w ⟨b5, cs6, rfl, hc7, hS⟩ hE
 refine qa hE rfl rfl fun a hE => ?_
 refine knil (kseq (kseq (kreg ?_)))
 refine sp hE (r_fieldL hE fo38_0 rfl) rfl fun a hE => ?_
 refine st hE (st_loadL hE hS ty3 rfl (i := 1) rfl (fl38_0.R_drop (R_whole hc3))) rfl ?_
 rintro v12 a _ ⟨rfl, hv11⟩ hE
 obtain ⟨rfl, hr13⟩ := RV_int hv11
 refine sp hE (r_fieldL hE fo38_0 rfl) rfl fun a hE => ?_
 refine st hE (st_loadL hE hS ty3 rfl (i := 0) rfl (fl38_0.R_drop (R_whole hc7))) rfl ?_
 rintro v16 a _ ⟨rfl, hv15⟩ hE
 obtain ⟨rfl, hr17⟩ := RV_int hv15
 refine sp hE (r_bin hE rfl rfl b_neq) rfl fun a hE => ?_
 refine knil ?_
 refine kif hE rfl (fun hd19 => ?_) (fun hd19 => ?_)
 {
 have h := ite_T hd19 h
 refine kseq (kreg ?_)
 refine sp hE (r_fieldL hE fo38_0 rfl) rfl fun a hE => ?_
 refine st hE (st_loadL hE hS ty3 rfl (i := 1) rfl (fl38_0.R_drop (R_whole hc3))) rfl ?_
 rintro v22 a _ ⟨rfl, hv21⟩ hE
 obtain ⟨rfl, hr23⟩ := RV_int hv21
 refine sp hE (r_fieldL hE fo38_0 rfl) rfl fun a hE => ?_
 refine st hE (st_loadL hE hS ty3 rfl (i := 0) rfl (fl38_0.R_drop (R_whole hc7))) rfl ?_
 rintro v26 a _ ⟨rfl, hv25⟩ hE
 obtain ⟨rfl, hr27⟩ := RV_int hv25
 refine sp hE (r_bin hE rfl rfl b_lss) rfl fun a hE => ?_
 refine qa hE rfl rfl fun a hE => ?_
 refine knil (kret ?_)
 obtain rfl := oi h
 try dsimp only
 refine Fin.mk hE (rs := [.tmp 4]) rfl (ResL.tmp hE rfl ResL.nil) ?_
 exact ⟨_, (M.le.refl _), (hS.dropL 2), RV_of_bool⟩
 }
 {
 have h := ite_F hd19 h
 refine kskip (kseq (kseq (kreg ?_)))
 refine sp hE (r_fieldL hE fo38_0 rfl) rfl fun a hE => ?_
 refine st hE (st_loadL hE hS ty3 rfl (i := 1) rfl (fl38_0.R_drop (R_whole hc3))) rfl ?_
 rintro v32 a _ ⟨rfl, hv31⟩ hE
 obtain ⟨rfl, hr33⟩ := RV_int hv31
 refine sp hE (r_bin hE rfl rfl b_eql) rfl fun a hE => ?_
 refine knil ?_
 refine kif hE rfl (fun hd35 => ?_) (fun hd35 => ?_)
 {
 have h := ite_T hd35 h
 refine kseq ?_
 refine kcut (fun a w => ∃ x38 : Bool, r2_less_j1 x38 = some r ∧ ∃ m', M.le m m' ∧ S W0 m' w ((b5, cs6) :: (b1, cs2) :: L) (TL) ∧ Env 43 a [(4, (.bool x38))]) ?_ ?_
 {
 refine kreg ?_
 refine sp hE (r_fieldL hE fo38_1 rfl) rfl fun a hE => ?_
 refine st hE (st_loadL hE hS ty4 rfl (i := 1) rfl (fl38_1.R_drop (R_whole hc3))) rfl ?_
 rintro v42 a _ ⟨rfl, hv41⟩ hE
 obtain rfl := RV_bool hv41
 refine sp hE (r_not hE rfl) rfl fun a hE => ?_
 refine qm hE rfl rfl fun a hE => ?_
 rcases Bool.eq_false_or_eq_true (!p0.fBool) with hd45 | hd45
 {
 have h := ite_T hd45 h
 refine spg hE rfl rfl rfl rfl hd45 (r_fieldL hE fo38_1 rfl) rfl fun a hE => ?_
 refine stg hE rfl rfl rfl rfl hd45 (st_loadL hE hS ty4 rfl (i := 0) rfl (fl38_1.R_drop (R_whole hc7))) rfl ?_
 rintro v48 a _ ⟨rfl, hv47⟩ hE
 obtain rfl := RV_bool hv47
 refine sp hE (r_pickT hE rfl hd45 rfl) rfl fun a hE => ?_
 refine qa hE rfl rfl fun a hE => ?_
 refine knil ?_
 exact ⟨p1.fBool, h, _, (M.le.refl _), hS, hE.cut ⟨rfl, trivial⟩⟩
 }
 {
 have h := ite_F hd45 h
 refine sx hE rfl rfl rfl rfl hd45 rfl fun a hE => ?_
 refine sx hE rfl rfl rfl rfl hd45 rfl fun a hE => ?_
 refine sp hE (r_pickF hE rfl hd45 rfl) rfl fun a hE => ?_
 refine qa hE rfl rfl fun a hE => ?_
 refine knil ?_
 exact ⟨false, h, _, (M.le.refl _), hS, hE.cut ⟨rfl, trivial⟩⟩
 }
 }
 {
 rintro a w ⟨x38, h, m36, hm37, hS, hE⟩
 unfold r2_less_j1 at h
 refine kret ?_
 obtain rfl := oi h
 try dsimp only
 refine Fin.mk hE (rs := [.tmp 4]) rfl (ResL.tmp hE rfl ResL.nil) ?_
 exact ⟨_, hm37, (hS.dropL 2), RV_of_bool⟩
 }
 }
 {
 have h := ite_F hd35 h
 refine kskip (kseq (kseq (kreg ?_)))
 refine sp hE (r_fieldL hE fo38_0 rfl) rfl fun a hE => ?_
 refine st hE (st_loadL hE hS ty3 rfl (i := 1) rfl (fl38_0.R_drop (R_whole hc3))) rfl ?_
 rintro v55 a _ ⟨rfl, hv54⟩ hE
 obtain ⟨rfl, hr56⟩ := RV_int hv54
 refine sp hE (r_bin hE rfl rfl b_eql) rfl fun a hE => ?_
 refine knil ?_
 refine kif hE rfl (fun hd58 => ?_) (fun hd58 => ?_)
 {
 have h := ite_T hd58 h
 refine kseq (kreg ?_)
 refine sp hE (r_fieldL hE fo38_2 rfl) rfl fun a hE => ?_
 refine st hE (st_loadL hE hS ty2 rfl (i := 1) rfl (fl38_2.R_drop (R_whole hc3))) rfl ?_
 rintro v61 a _ ⟨rfl, hv60⟩ hE
 obtain ⟨rfl, hr62⟩ := RV_int hv60
 refine sp hE (r_fieldL hE fo38_2 rfl) rfl fun a hE => ?_
 refine st hE (st_loadL hE hS ty2 rfl (i := 0) rfl (fl38_2.R_drop (R_whole hc7))) rfl ?_
 rintro v65 a _ ⟨rfl, hv64⟩ hE
 obtain ⟨rfl, hr66⟩ := RV_int hv64
 refine sp hE (r_bin hE rfl rfl b_lss) rfl fun a hE => ?_
 refine qa hE rfl rfl fun a hE => ?_
 refine knil (kret ?_)
 obtain rfl := oi h
 try dsimp only
 refine Fin.mk hE (rs := [.tmp 4]) rfl (ResL.tmp hE rfl ResL.nil) ?_
 exact ⟨_, (M.le.refl _), (hS.dropL 2), RV_of_bool⟩
 }
 {
 have h := ite_F hd58 h
 refine kskip (kseq ?_)
 refine kcut (fun a w => ∃ x71 : Bool, r2_less_j2 x71 = some r ∧ ∃ m', M.le m m' ∧ S W0 m' w ((b5, cs6) :: (b1, cs2) :: L) (TL) ∧ Env 43 a [(4, (.bool x71))]) ?_ ?_
 {
 refine kreg ?_
 refine sp hE (r_fieldL hE fo38_0 rfl) rfl fun a hE => ?_
 refine st hE (st_loadL hE hS ty3 rfl (i := 1) rfl (fl38_0.R_drop (R_whole hc3))) rfl ?_
 rintro v75 a _ ⟨rfl, hv74⟩ hE
 obtain ⟨rfl, hr76⟩ := RV_int hv74
 refine sp hE (r_bin hE rfl rfl b_eql) rfl fun a hE => ?_
 refine qm hE rfl rfl fun a hE => ?_
 rcases Bool.eq_false_or_eq_true (p0.fKind == 3) with hd79 | hd79
 {
 have h := ite_T hd79 h
 refine spg hE rfl rfl rfl rfl hd79 (r_fieldL hE fo38_3 rfl) rfl fun a hE => ?_
 refine stg hE rfl rfl rfl rfl hd79 (st_loadL hE hS ty9 rfl (i := 1) rfl (fl38_3.R_drop (R_whole hc3))) rfl ?_
 rintro v82 a _ ⟨rfl, hv81⟩ hE
 obtain ⟨rfl, hb83, hl84⟩ := RV_str hv81
 refine spg hE rfl rfl rfl rfl hd79 (r_fieldL hE fo38_3 rfl) rfl fun a hE => ?_
 refine stg hE rfl rfl rfl rfl hd79 (st_loadL hE hS ty9 rfl (i := 0) rfl (fl38_3.R_drop (R_whole hc7))) rfl ?_
 rintro v87 a _ ⟨rfl, hv86⟩ hE
 obtain ⟨rfl, hb88, hl89⟩ := RV_str hv86
 refine spg hE rfl rfl rfl rfl hd79 (r_lssS hE rfl rfl hb83 hb88) rfl fun a hE => ?_
 refine sp hE (r_pickT hE rfl hd79 rfl) rfl fun a hE => ?_
 refine qa hE rfl rfl fun a hE => ?_
 refine knil ?_
 exact ⟨(ltB p0.fText p1.fText), h, _, (M.le.refl _), hS, hE.cut ⟨rfl, trivial⟩⟩
 }
 {
 have h := ite_F hd79 h
 refine sx hE rfl rfl rfl rfl hd79 rfl fun a hE => ?_
 refine sx hE rfl rfl rfl rfl hd79 rfl fun a hE => ?_
 refine sx hE rfl rfl rfl rfl hd79 rfl fun a hE => ?_
 refine sx hE rfl rfl rfl rfl hd79 rfl fun a hE => ?_
 refine sx hE rfl rfl rfl rfl hd79 rfl fun a hE => ?_
 refine sp hE (r_pickF hE rfl hd79 rfl) rfl fun a hE => ?_
 refine qa hE rfl rfl fun a hE => ?_
 refine knil ?_
 exact ⟨false, h, _, (M.le.refl _), hS, hE.cut ⟨rfl, trivial⟩⟩
 }
 }
 {
 rintro a w ⟨x71, h, m69, hm70, hS, hE⟩
 unfold r2_less_j2 at h
 refine kret ?_
 obtain rfl := oi h
 try dsimp only
 refine Fin.mk hE (rs := [.tmp 4]) rfl (ResL.tmp hE rfl ResL.nil) ?_
 exact ⟨_, hm70, (hS.dropL 2), RV_of_bool⟩
 }
 }
 }
 }
theorem c_r2_Compare  {W0 : Bse} {m : M} {w : World} {L : List (Nat × List Value)} {TL : List (Nat × Value)} (hS : S W0 m w (L) (TL)) {v0 : Value} {p0 : Ap} (ha0 : RV kAp m v0 p0) {v1 : Value} {p1 : Ap} (ha1 : RV kAp m v1 p1) {r : Int} (h : r2_Compare p0 p1 = some r) :
    Calls Try.prog 42 [v0, v1].toArray w (Ret fun v w' => ∃ m', M.le m m' ∧ S W0 m' w' (L) (TL) ∧ RV (kInt .i64) m' v r) := by
 refine kcall Try.func42 rfl Try.ntmps42 (Nat.le_of_ble_eq_true rfl) fun a hE => ?_
 have hE : Env 15 a [(0, v0), (1, v1)] := hE
 unfold r2_Compare at h
 refine kseq (kreg ?_)
 refine st hE (st_box (k := kAp) hE hS rfl ha0) rfl ?_
 rintro _ a w ⟨b1, cs2, rfl, hc3, hS⟩ hE
 refine st hE (st_box (k := kAp) hE hS rfl ha1) rfl ?_
 rintro _ a w ⟨b5, cs6, rfl, hc7, hS⟩ hE
 refine qa hE rfl rfl fun a hE => ?_
 refine knil (kseq (kreg ?_))
 refine st hE (st_loadL hE hS ty38 rfl (i := 1) rfl (R_whole hc3)) rfl ?_
 rintro v11 a _ ⟨rfl, hv10⟩ hE
 refine st hE (st_loadL hE hS ty38 rfl (i := 0) rfl (R_whole hc7)) rfl ?_
 rintro v13 a _ ⟨rfl, hv12⟩ hE
 obtain ⟨r14, hr15, h⟩ := ob h
 refine st hE (st_call (vs := [v11, v13]) hE rfl Try.call46 (c_r2_less (hS := hS) hv10 hv12 hr15)) rfl ?_
 rintro v19 a w ⟨m16, hm17, hS, hv18⟩ hE
 obtain rfl := RV_bool hv18
 refine qa hE rfl rfl fun a hE => ?_
 refine knil (kseq (kreg ?_))
 refine st hE (st_loadL hE hS ty38 rfl (i := 0) rfl (R_whole (kAp.mono hm17 hc7))) rfl ?_
 rintro v22 a _ ⟨rfl, hv21⟩ hE
 refine st hE (st_loadL hE hS ty38 rfl (i := 1) rfl (R_whole (kAp.mono hm17 hc3))) rfl ?_
 rintro v24 a _ ⟨rfl, hv23⟩ hE
 obtain ⟨r25, hr26, h⟩ := ob h
 refine st hE (st_call (vs := [v22, v24]) hE rfl Try.call46 (c_r2_less (hS := hS) hv21 hv23 hr26)) rfl ?_
 rintro v30 a w ⟨m27, hm28, hS, hv29⟩ hE
 obtain rfl := RV_bool hv29
 refine qa hE rfl rfl fun a hE => ?_
 refine knil (kseq (kseq (kreg ?_)))
 refine qm hE rfl rfl fun a hE => ?_
 refine knil ?_
 refine kif hE rfl (fun hd33 => ?_) (fun hd33 => ?_)
 {
 have h := ite_T hd33 h
 refine kseq (kreg ?_)
 refine qa hE rfl rfl fun a hE => ?_
 refine knil (kret ?_)
 obtain rfl := oi h
 try dsimp only
 refine Fin.mk hE (rs := [.tmp 4]) rfl (ResL.tmp hE rfl ResL.nil) ?_
 exact ⟨_, (M.le.trans hm17 hm28), (hS.dropL 2), (RV_of_int (show inR .i64 (-1) from inR_lit (by decide)))⟩
 }
 {
 have h := ite_F hd33 h
 refine kskip (kseq (kseq (kreg ?_)))
 refine qm hE rfl rfl fun a hE => ?_
 refine knil ?_
 refine kif hE rfl (fun hd36 => ?_) (fun hd36 => ?_)
 {
 have h := ite_T hd36 h
 refine kseq (kreg ?_)
 refine qa hE rfl rfl fun a hE => ?_
 refine knil (kret ?_)
 obtain rfl := oi h
 try dsimp only
 refine Fin.mk hE (rs := [.tmp 4]) rfl (ResL.tmp hE rfl ResL.nil) ?_
 exact ⟨_, (M.le.trans hm17 hm28), (hS.dropL 2), (RV_of_int (show inR .i64 1 from inR_lit (by decide)))⟩
 }
 {
 have h := ite_F hd36 h
 refine kskip (kseq (kreg ?_))
 refine qa hE rfl rfl fun a hE => ?_
 refine knil (kret ?_)
 obtain rfl := oi h
 try dsimp only
 refine Fin.mk hE (rs := [.tmp 4]) rfl (ResL.tmp hE rfl ResL.nil) ?_
 exact ⟨_, (M.le.trans hm17 hm28), (hS.dropL 2), (RV_of_int (show inR .i64 0 from inR_lit (by decide)))⟩
 }
 }
theorem c_r2_Rows  {W0 : Bse} {m : M} {w : World} {L : List (Nat × List Value)} {TL : List (Nat × Value)} (hS : S W0 m w (L) (TL)) {v0 : Value} {p0 : (List Ap)} (ha0 : RV (kSl kAp) m v0 p0) {v1 : Value} {p1 : (List Ap)} (ha1 : RV (kSl kAp) m v1 p1) {r : Int} (h : r2_Rows p0 p1 = some r) :
    Calls Try.prog 32 [v0, v1].toArray w (Ret fun v w' => ∃ m', M.le m m' ∧ S W0 m' w' (L) (TL) ∧ RV (kInt .i64) m' v r) := by
 refine kcall Try.func32 rfl Try.ntmps32 (Nat.le_of_ble_eq_true rfl) fun a hE => ?_
 have hE : Env 34 a [(0, v0), (1, v1)] := hE
 unfold r2_Rows at h
 refine kseq (kreg ?_)
 refine qa hE rfl rfl fun a hE => ?_
 refine knil (kseq (kseq (kreg ?_)))
 refine qa hE rfl rfl fun a hE => ?_
 refine knil ?_
 refine kcut (fun a w => r2_Rows_j1 p0 p1 = some r ∧ ∃ m', M.le m m' ∧ S W0 m' w (L) (TL) ∧ Env 34 a [(0, v0), (1, v1)]) ?_ ?_
 {
 refine kblock ?_
 refine kloop h (fun (s : Int) a w => ∃ m', M.le m m' ∧ inR .i64 s ∧ S W0 m' w (L) (TL) ∧ Env 34 a [(0, v0), (1, v1), (5, (.int .i64 s))]) ?_ ?_
 {
 exact ⟨_, (M.le.refl _), (show inR .i64 0 from inR_lit (by decide)), hS, hE.cut ⟨rfl, rfl, rfl, trivial⟩⟩
 }
 {
 rintro x16 a w ⟨m14, hm15, hr17, hS, hE⟩ r18 h hb19
 have h : r2_Rows_b1 p0 p1 x16 = some r18 := h
 unfold r2_Rows_b1 at h
 refine kseq (kseq (kreg ?_))
 refine qm hE rfl rfl fun a hE => ?_
 refine qm hE rfl rfl fun a hE => ?_
 refine sp hE (r_lenSl (k := kAp) hE rfl rfl Try.underlying29 (ha0.mono hm15)) rfl fun a hE => ?_
 refine sp hE (r_bin hE rfl rfl b_lss) rfl fun a hE => ?_
 refine knil ?_
 refine kif hE rfl (fun hd24 => ?_) (fun hd24 => ?_)
 {
 have h := ite_T hd24 h
 refine kskip (kseq (kblock (kseq (kseq (kreg ?_)))))
 refine qm hE rfl rfl fun a hE => ?_
 refine qm hE rfl rfl fun a hE => ?_
 refine sp hE (r_lenSl (k := kAp) hE rfl rfl Try.underlying29 (ha1.mono hm15)) rfl fun a hE => ?_
 refine sp hE (r_bin hE rfl rfl b_eql) rfl fun a hE => ?_
 refine knil ?_
 refine kif hE rfl (fun hd29 => ?_) (fun hd29 => ?_)
 {
 have h := ite_T hd29 h
 refine kseq (kreg ?_)
 refine qa hE rfl rfl fun a hE => ?_
 refine knil (kret ?_)
 have h := unwrap h hb19
 obtain rfl := oi h
 try dsimp only
 refine Fin.mk hE (rs := [.tmp 4]) rfl (ResL.tmp hE rfl ResL.nil) ?_
 exact ⟨_, hm15, hS, (RV_of_int (show inR .i64 1 from inR_lit (by decide)))⟩
 }
 {
 have h := ite_F hd29 h
 refine kskip (kseq ?_)
 obtain ⟨x31, hx32, h⟩ := ob h
 obtain ⟨x35, hx36, h⟩ := ob h
 refine kchain (k := 8) (m := m14) (es := []) (Φ := (fun i m ws v => match i with | 0 => v = v0 | 1 => v = (.int .i64 x16) ∧ inR .i64 x16 | 2 => PR kAp m v x31 | 3 => RV kAp m v x31 | 4 => v = v1 | 5 => v = (.int .i64 x16) ∧ inR .i64 x16 | 6 => PR kAp m v x35 | 7 => RV kAp m v x35 | _ => True)) (Q := (fun c m ws L' TL' => match c with | 0 => L = L' ∧ TL = TL' | _ => False)) (cs := [⟨0, 0, false, [(0, v0)]⟩, ⟨0, 0, false, [(5, (.int .i64 x16))]⟩, ⟨0, 0, false, []⟩, ⟨0, 0, false, []⟩, ⟨0, 0, false, [(1, v1)]⟩, ⟨0, 0, false, [(5, (.int .i64 x16))]⟩, ⟨0, 0, false, []⟩, ⟨0, 0, false, []⟩]) mixed hE hS ⟨rfl, rfl⟩ rfl rfl ⟨⟨rfl, trivial⟩, ⟨rfl, trivial⟩, trivial, trivial, ⟨rfl, trivial⟩, ⟨rfl, trivial⟩, trivial, trivial, trivial⟩ (by kernel_rfl) ?_ ?_ ?_ ?_
 {
 intro i m_ m2_ ws v hm_ hp_
 match i, hp_ with
 | 0, hp_ => exact hp_
 | 1, hp_ => exact hp_
 | 2, hp_ => exact PR.mono hp_ hm_
 | 3, hp_ => exact RV.mono hp_ hm_
 | 4, hp_ => exact hp_
 | 5, hp_ => exact hp_
 | 6, hp_ => exact PR.mono hp_ hm_
 | 7, hp_ => exact RV.mono hp_ hm_
 | _ + 8, hp_ => exact trivial
 }
 {
 intro c m_ m2_ ws L_ T_ hm_ hq_
 match c, hq_ with
 | 0, ⟨e1_, e2_⟩ => exact ⟨e1_, e2_⟩
 | _ + 1, hq_ => exact hq_.elim
 }
 {
 refine ⟨?_, ?_, ?_, ?_, ?_, ?_, ?_, ?_, trivial⟩
 {
 refine cplain fun pre_ post_ L_ T_ m' a' w' hl' hp' hm' hq' hS' hE' hT' => ?_
 obtain rfl := len0 hl'
 refine Step.imp (Run1.pure (r_move hE' rfl)) ?_
 rintro _ _ ⟨rfl, rfl⟩
 exact ⟨_, M.le.refl _, hS', rfl⟩
 }
 {
 refine cplain fun pre_ post_ L_ T_ m' a' w' hl' hp' hm' hq' hS' hE' hT' => ?_
 obtain rfl := len0 hl'
 refine Step.imp (Run1.pure (r_move hE' rfl)) ?_
 rintro _ _ ⟨rfl, rfl⟩
 exact ⟨_, M.le.refl _, hS', ⟨rfl, hr17⟩⟩
 }
 {
 refine cplain fun pre_ post_ L_ T_ m' a' w' hl' hp' hm' hq' hS' hE' hT' => ?_
 obtain rfl := len0 hl'
 obtain ⟨v41, e42, q43⟩ : ∃ v, a'.tmps.getD 17 undef = v ∧ (v = v0) := ⟨_, rfl, hT' 0 (by decide) 17 rfl⟩
 have hE := hE'.add (e42.trans q43)
 obtain ⟨v44, e45, q46⟩ : ∃ v, a'.tmps.getD 18 undef = v ∧ (v = (.int .i64 x16) ∧ inR .i64 x16) := ⟨_, rfl, hT' 1 (by decide) 18 rfl⟩
 obtain ⟨q46, hr47⟩ := q46
 have hE := hE.add (e45.trans q46)
 refine Step.imp (st_index (k := kAp) hE rfl rfl Try.underlying29 Try.sizeOf38 (ha0.mono (M.le.trans hm15 hm')) hx32) ?_
 rintro v48 _ ⟨rfl, hp33⟩
 exact ⟨_, M.le.refl _, hS', hp33⟩
 }
 {
 refine cplain fun pre_ post_ L_ T_ m' a' w' hl' hp' hm' hq' hS' hE' hT' => ?_
 obtain rfl := len0 hl'
 obtain ⟨v49, e50, q51⟩ : ∃ v, a'.tmps.getD 19 undef = v ∧ (PR kAp m' v x31) := ⟨_, rfl, hT' 2 (by decide) 19 rfl⟩
 have hE := hE'.add (e50)
 refine Step.imp (st_loadM hE hS' ty38 rfl q51) ?_
 rintro v52 _ ⟨rfl, hv34⟩
 exact ⟨_, M.le.refl _, hS', hv34⟩
 }
 {
 refine cplain fun pre_ post_ L_ T_ m' a' w' hl' hp' hm' hq' hS' hE' hT' => ?_
 obtain rfl := len0 hl'
 refine Step.imp (Run1.pure (r_move hE' rfl)) ?_
 rintro _ _ ⟨rfl, rfl⟩
 exact ⟨_, M.le.refl _, hS', rfl⟩
 }
 {
 refine cplain fun pre_ post_ L_ T_ m' a' w' hl' hp' hm' hq' hS' hE' hT' => ?_
 obtain rfl := len0 hl'
 refine Step.imp (Run1.pure (r_move hE' rfl)) ?_
 rintro _ _ ⟨rfl, rfl⟩
 exact ⟨_, M.le.refl _, hS', ⟨rfl, hr17⟩⟩
 }
 {
 refine cplain fun pre_ post_ L_ T_ m' a' w' hl' hp' hm' hq' hS' hE' hT' => ?_
 obtain rfl := len0 hl'
 obtain ⟨v55, e56, q57⟩ : ∃ v, a'.tmps.getD 21 undef = v ∧ (v = v1) := ⟨_, rfl, hT' 4 (by decide) 21 rfl⟩
 have hE := hE'.add (e56.trans q57)
 obtain ⟨v58, e59, q60⟩ : ∃ v, a'.tmps.getD 22 undef = v ∧ (v = (.int .i64 x16) ∧ inR .i64 x16) := ⟨_, rfl, hT' 5 (by decide) 22 rfl⟩
 obtain ⟨q60, hr61⟩ := q60
 have hE := hE.add (e59.trans q60)
 refine Step.imp (st_index (k := kAp) hE rfl rfl Try.underlying29 Try.sizeOf38 (ha1.mono (M.le.trans hm15 hm')) hx36) ?_
 rintro v62 _ ⟨rfl, hp37⟩
 exact ⟨_, M.le.refl _, hS', hp37⟩
 }
 {
 refine cplain fun pre_ post_ L_ T_ m' a' w' hl' hp' hm' hq' hS' hE' hT' => ?_
 obtain rfl := len0 hl'
 obtain ⟨v63, e64, q65⟩ : ∃ v, a'.tmps.getD 23 undef = v ∧ (PR kAp m' v x35) := ⟨_, rfl, hT' 6 (by decide) 23 rfl⟩
 have hE := hE'.add (e64)
 refine Step.imp (st_loadM hE hS' ty38 rfl q65) ?_
 rintro v66 _ ⟨rfl, hv38⟩
 exact ⟨_, M.le.refl _, hS', hv38⟩
 }
 }
 {
 intro ws_ L_ T_ m67 a w hl68 hm69 hq70 hS hd71 hn72 ho73 hT74
 obtain rfl := len0 hl68
 obtain ⟨rfl, rfl⟩ := hq70
 have hE := EnvD.of (k := 8) (l' := [(0, v0), (1, v1), (5, (.int .i64 x16)), (7, (.int .i64 x16)), (8, v0), (9, (.int .i64 (p0.length : Int))), (10, (.bool (decide (x16 < (p0.length : Int))))), (13, (.int .i64 x16)), (14, v1), (15, (.int .i64 (p1.length : Int))), (16, (.bool (x16 == (p1.length : Int))))]) hd71 hn72 ho73 ⟨rfl, rfl, rfl, rfl, rfl, rfl, rfl, rfl, rfl, rfl, rfl, trivial⟩ rfl
 obtain ⟨v75, e76, q77⟩ : ∃ v, a.tmps.getD 20 undef = v ∧ (RV kAp m67 v x31) := ⟨_, rfl, hT74 3 (by decide) 20 rfl⟩
 have hE := hE.add (e76)
 obtain ⟨v78, e79, q80⟩ : ∃ v, a.tmps.getD 24 undef = v ∧ (RV kAp m67 v x35) := ⟨_, rfl, hT74 7 (by decide) 24 rfl⟩
 have hE := hE.add (e79)
 obtain ⟨r81, hr82, h⟩ := ob h
 refine st hE (st_call (vs := [v75, v78]) hE rfl Try.call42 (c_r2_Compare (hS := hS) q77 q80 hr82)) rfl ?_
 rintro v86 a w ⟨m83, hm84, hS, hv85⟩ hE
 obtain ⟨rfl, hr87⟩ := RV_int hv85
 refine qa hE rfl rfl fun a hE => ?_
 refine knil (kseq (kreg ?_))
 refine qm hE rfl rfl fun a hE => ?_
 refine sp hE (r_bin hE rfl rfl b_neq) rfl fun a hE => ?_
 refine knil ?_
 refine kif hE rfl (fun hd91 => ?_) (fun hd91 => ?_)
 {
 have h := ite_T hd91 h
 refine kseq (kreg ?_)
 refine qm hE rfl rfl fun a hE => ?_
 refine qa hE rfl rfl fun a hE => ?_
 refine knil (kret ?_)
 have h := unwrap h hb19
 obtain rfl := oi h
 try dsimp only
 refine Fin.mk hE (rs := [.tmp 4]) rfl (ResL.tmp hE rfl ResL.nil) ?_
 exact ⟨_, (M.le.trans hm15 (M.le.trans hm69 hm84)), hS, (RV_of_int hr87)⟩
 }
 {
 have h := ite_F hd91 h
 refine kskip (kreg ?_)
 refine qm hE rfl rfl fun a hE => ?_
 refine sp hE (r_bin hE rfl rfl (b_add rfl)) rfl fun a hE => ?_
 refine qa hE rfl rfl fun a hE => ?_
 refine knil ?_
 exact ⟨IntKind.i64.wrap (x16 + 1), (Option.some.inj h).symm, _, (M.le.trans hm15 (M.le.trans hm69 hm84)), (inR_wrap _ _), hS, hE.cut ⟨rfl, rfl, rfl, trivial⟩⟩
 }
 }
 }
 }
 {
 have h := ite_F hd24 h
 refine kexit rfl rfl ?_
 have h := unwrap h hb19
 exact ⟨h, _, hm15, hS, hE.cut ⟨rfl, rfl, trivial⟩⟩
 }
 }
 }
 {
 rintro a w ⟨h, m3, hm4, hS, hE⟩
 unfold r2_Rows_j1 at h
 refine kseq (kseq (kreg ?_))
 refine qm hE rfl rfl fun a hE => ?_
 refine sp hE (r_lenSl (k := kAp) hE rfl rfl Try.underlying29 (ha0.mono hm4)) rfl fun a hE => ?_
 refine qm hE rfl rfl fun a hE => ?_
 refine sp hE (r_lenSl (k := kAp) hE rfl rfl Try.underlying29 (ha1.mono hm4)) rfl fun a hE => ?_
 refine sp hE (r_bin hE rfl rfl b_lss) rfl fun a hE => ?_
 refine knil ?_
 refine kif hE rfl (fun hd11 => ?_) (fun hd11 => ?_)
 {
 have h := ite_T hd11 h
 refine kseq (kreg ?_)
 refine qa hE rfl rfl fun a hE => ?_
 refine knil (kret ?_)
 obtain rfl := oi h
 try dsimp only
 refine Fin.mk hE (rs := [.tmp 4]) rfl (ResL.tmp hE rfl ResL.nil) ?_
 exact ⟨_, hm4, hS, (RV_of_int (show inR .i64 (-1) from inR_lit (by decide)))⟩
 }
 {
 have h := ite_F hd11 h
 refine kskip (kseq (kreg ?_))
 refine qa hE rfl rfl fun a hE => ?_
 refine knil (kret ?_)
 obtain rfl := oi h
 try dsimp only
 refine Fin.mk hE (rs := [.tmp 4]) rfl (ResL.tmp hE rfl ResL.nil) ?_
 exact ⟨_, hm4, hS, (RV_of_int (show inR .i64 0 from inR_lit (by decide)))⟩
 }
 }
theorem c_r2_Before  {W0 : Bse} {m : M} {w : World} {L : List (Nat × List Value)} {TL : List (Nat × Value)} (hS : S W0 m w (L) (TL)) {v0 : Value} {p0 : Api_RowId} (ha0 : RV kApi_RowId m v0 p0) {v1 : Value} {p1 : Api_RowId} (ha1 : RV kApi_RowId m v1 p1) {r : Bool} (h : r2_Before p0 p1 = some r) :
    Calls Try.prog 34 [v0, v1].toArray w (Ret fun v w' => ∃ m', M.le m m' ∧ S W0 m' w' (L) (TL) ∧ RV kBool m' v r) := by
 refine kcall Try.func34 rfl Try.ntmps34 (Nat.le_of_ble_eq_true rfl) fun a hE => ?_
 have hE : Env 20 a [(0, v0), (1, v1)] := hE
 unfold r2_Before at h
 refine kseq (kreg ?_)
 refine st hE (st_box (k := kApi_RowId) hE hS rfl ha0) rfl ?_
 rintro _ a w ⟨b1, cs2, rfl, hc3, hS⟩ hE
 refine st hE (st_box (k := kApi_RowId) hE hS rfl ha1) rfl ?_
 rintro _ a w ⟨b5, cs6, rfl, hc7, hS⟩ hE
 refine qa hE rfl rfl fun a hE => ?_
 refine knil (kseq (kseq (kreg ?_)))
 refine sp hE (r_fieldL hE fo28_0 rfl) rfl fun a hE => ?_
 refine st hE (st_loadL hE hS ty24 rfl (i := 1) rfl (fl28_0.R_drop (R_whole hc3))) rfl ?_
 rintro v12 a _ ⟨rfl, hv11⟩ hE
 obtain ⟨rfl, hr13⟩ := RV_int hv11
 refine sp hE (r_fieldL hE fo28_0 rfl) rfl fun a hE => ?_
 refine st hE (st_loadL hE hS ty24 rfl (i := 0) rfl (fl28_0.R_drop (R_whole hc7))) rfl ?_
 rintro v16 a _ ⟨rfl, hv15⟩ hE
 obtain ⟨rfl, hr17⟩ := RV_int hv15
 refine sp hE (r_bin hE rfl rfl b_neq) rfl fun a hE => ?_
 refine knil ?_
 refine kif hE rfl (fun hd19 => ?_) (fun hd19 => ?_)
 {
 have h := ite_T hd19 h
 refine kseq (kreg ?_)
 refine sp hE (r_fieldL hE fo28_0 rfl) rfl fun a hE => ?_
 refine st hE (st_loadL hE hS ty24 rfl (i := 1) rfl (fl28_0.R_drop (R_whole hc3))) rfl ?_
 rintro v22 a _ ⟨rfl, hv21⟩ hE
 obtain ⟨rfl, hr23⟩ := RV_int hv21
 refine sp hE (r_fieldL hE fo28_0 rfl) rfl fun a hE => ?_
 refine st hE (st_loadL hE hS ty24 rfl (i := 0) rfl (fl28_0.R_drop (R_whole hc7))) rfl ?_
 rintro v26 a _ ⟨rfl, hv25⟩ hE
 obtain ⟨rfl, hr27⟩ := RV_int hv25
 refine sp hE (r_bin hE rfl rfl b_lss) rfl fun a hE => ?_
 refine qa hE rfl rfl fun a hE => ?_
 refine knil (kret ?_)
 obtain rfl := oi h
 try dsimp only
 refine Fin.mk hE (rs := [.tmp 4]) rfl (ResL.tmp hE rfl ResL.nil) ?_
 exact ⟨_, (M.le.refl _), (hS.dropL 2), RV_of_bool⟩
 }
 {
 have h := ite_F hd19 h
 refine kskip (kseq (kreg ?_))
 refine sp hE (r_fieldL hE fo28_1 rfl) rfl fun a hE => ?_
 refine st hE (st_loadL hE hS ty26 rfl (i := 1) rfl (fl28_1.R_drop (R_whole hc3))) rfl ?_
 rintro v32 a _ ⟨rfl, hv31⟩ hE
 obtain ⟨rfl, hr33⟩ := RV_int hv31
 refine sp hE (r_fieldL hE fo28_1 rfl) rfl fun a hE => ?_
 refine st hE (st_loadL hE hS ty26 rfl (i := 0) rfl (fl28_1.R_drop (R_whole hc7))) rfl ?_
 rintro v36 a _ ⟨rfl, hv35⟩ hE
 obtain ⟨rfl, hr37⟩ := RV_int hv35
 refine sp hE (r_bin hE rfl rfl b_lss) rfl fun a hE => ?_
 refine qa hE rfl rfl fun a hE => ?_
 refine knil (kret ?_)
 obtain rfl := oi h
 try dsimp only
 refine Fin.mk hE (rs := [.tmp 4]) rfl (ResL.tmp hE rfl ResL.nil) ?_
 exact ⟨_, (M.le.refl _), (hS.dropL 2), RV_of_bool⟩
 }
theorem c_r8_before  {W0 : Bse} {m : M} {w : World} {L : List (Nat × List Value)} {TL : List (Nat × Value)} (hS : S W0 m w (L) (TL)) {v0 : Value} {p0 : (List Int)} (ha0 : RV (kSl (kInt .i64)) m v0 p0) {v1 : Value} {p1 : Api_Version} (ha1 : RV kApi_Version m v1 p1) {v2 : Value} {p2 : Api_Version} (ha2 : RV kApi_Version m v2 p2) {r : Bool} (h : r8_before p0 p1 p2 = some r) :
    Calls Try.prog 24 [v0, v1, v2].toArray w (Ret fun v w' => ∃ m', M.le m m' ∧ S W0 m' w' (L) (TL) ∧ RV kBool m' v r) := by
 refine kcall Try.func24 rfl Try.ntmps24 (Nat.le_of_ble_eq_true rfl) fun a hE => ?_
 have hE : Env 26 a [(0, v0), (1, v1), (2, v2)] := hE
 unfold r8_before at h
 refine kseq (kreg ?_)
 refine st hE (st_box (k := kApi_Version) hE hS rfl ha1) rfl ?_
 rintro _ a w ⟨b1, cs2, rfl, hc3, hS⟩ hE
 refine st hE (st_box (k := kApi_Version) hE hS rfl ha2) rfl ?_
 rintro _ a w ⟨b5, cs6, rfl, hc7, hS⟩ hE
 refine qa hE rfl rfl fun a hE => ?_
 refine knil (kseq ?_)
 obtain ⟨r11, hr12, h⟩ := ob h
 refine kchain (k := 7) (m := m) (es := []) (Φ := (fun i m ws v => match i with | 0 => v = v0 | 1 => v = (.pointer (some ⟨b1, 2, none⟩)) | 2 => RV (kSl kAp) m v p1.fRow | 3 => RV (kSl kAp) m v r11 | 4 => v = v0 | 5 => v = (.pointer (some ⟨b5, 2, none⟩)) | 6 => RV (kSl kAp) m v p2.fRow | _ => True)) (Q := (fun c m ws L' TL' => match c with | 0 => (b5, cs6) :: (b1, cs2) :: L = L' ∧ TL = TL' | _ => False)) (cs := [⟨0, 0, false, [(0, v0)]⟩, ⟨0, 0, false, [(4, (.pointer (some ⟨b1, 0, none⟩)))]⟩, ⟨0, 0, false, []⟩, ⟨0, 0, false, []⟩, ⟨0, 0, false, [(0, v0)]⟩, ⟨0, 0, false, [(5, (.pointer (some ⟨b5, 0, none⟩)))]⟩, ⟨0, 0, false, []⟩]) mixed hE hS ⟨rfl, rfl⟩ rfl rfl ⟨⟨rfl, trivial⟩, ⟨rfl, trivial⟩, trivial, trivial, ⟨rfl, trivial⟩, ⟨rfl, trivial⟩, trivial, trivial⟩ (by kernel_rfl) ?_ ?_ ?_ ?_
 {
 intro i m_ m2_ ws v hm_ hp_
 match i, hp_ with
 | 0, hp_ => exact hp_
 | 1, hp_ => exact hp_
 | 2, hp_ => exact RV.mono hp_ hm_
 | 3, hp_ => exact RV.mono hp_ hm_
 | 4, hp_ => exact hp_
 | 5, hp_ => exact hp_
 | 6, hp_ => exact RV.mono hp_ hm_
 | _ + 7, hp_ => exact trivial
 }
 {
 intro c m_ m2_ ws L_ T_ hm_ hq_
 match c, hq_ with
 | 0, ⟨e1_, e2_⟩ => exact ⟨e1_, e2_⟩
 | _ + 1, hq_ => exact hq_.elim
 }
 {
 refine ⟨?_, ?_, ?_, ?_, ?_, ?_, ?_, trivial⟩
 {
 refine cplain fun pre_ post_ L_ T_ m' a' w' hl' hp' hm' hq' hS' hE' hT' => ?_
 obtain rfl := len0 hl'
 refine Step.imp (Run1.pure (r_move hE' rfl)) ?_
 rintro _ _ ⟨rfl, rfl⟩
 exact ⟨_, M.le.refl _, hS', rfl⟩
 }
 {
 refine cplain fun pre_ post_ L_ T_ m' a' w' hl' hp' hm' hq' hS' hE' hT' => ?_
 obtain rfl := len0 hl'
 refine Step.imp (Run1.pure (r_fieldL hE' fo31_1 rfl)) ?_
 rintro _ _ ⟨rfl, rfl⟩
 exact ⟨_, M.le.refl _, hS', rfl⟩
 }
 {
 refine cplain fun pre_ post_ L_ T_ m' a' w' hl' hp' hm' hq' hS' hE' hT' => ?_
 obtain rfl := len0 hl'
 obtain rfl := len0 (lenz (a := 0) hp')
 obtain ⟨rfl, rfl⟩ := hq'
 obtain ⟨v19, e20, q21⟩ : ∃ v, a'.tmps.getD 9 undef = v ∧ (v = (.pointer (some ⟨b1, 2, none⟩))) := ⟨_, rfl, hT' 1 (by decide) 9 rfl⟩
 have hE := hE'.add (e20.trans q21)
 refine Step.imp (st_loadL hE hS' ty29 rfl (i := 1) rfl (fl31_1.R_drop (R_whole (kApi_Version.mono hm' hc3)))) ?_
 rintro v22 _ ⟨rfl, hv10⟩
 exact ⟨_, M.le.refl _, hS', hv10⟩
 }
 {
 refine cplain fun pre_ post_ L_ T_ m' a' w' hl' hp' hm' hq' hS' hE' hT' => ?_
 obtain rfl := len0 hl'
 obtain ⟨v23, e24, q25⟩ : ∃ v, a'.tmps.getD 8 undef = v ∧ (v = v0) := ⟨_, rfl, hT' 0 (by decide) 8 rfl⟩
 have hE := hE'.add (e24.trans q25)
 obtain ⟨v26, e27, q28⟩ : ∃ v, a'.tmps.getD 10 undef = v ∧ (RV (kSl kAp) m' v p1.fRow) := ⟨_, rfl, hT' 2 (by decide) 10 rfl⟩
 have hE := hE.add (e27)
 refine Step.imp (st_call (vs := [v0, v26]) hE rfl Try.call33 (c_r8_Key (hS := hS') (ha0.mono hm') q28 hr12)) ?_
 rintro v29 w ⟨m13, hm14, hS, hv15⟩
 exact ⟨_, hm14, (hS.dropT 1), hv15⟩
 }
 {
 refine cplain fun pre_ post_ L_ T_ m' a' w' hl' hp' hm' hq' hS' hE' hT' => ?_
 obtain rfl := len0 hl'
 refine Step.imp (Run1.pure (r_move hE' rfl)) ?_
 rintro _ _ ⟨rfl, rfl⟩
 exact ⟨_, M.le.refl _, hS', rfl⟩
 }
 {
 refine cplain fun pre_ post_ L_ T_ m' a' w' hl' hp' hm' hq' hS' hE' hT' => ?_
 obtain rfl := len0 hl'
 refine Step.imp (Run1.pure (r_fieldL hE' fo31_1 rfl)) ?_
 rintro _ _ ⟨rfl, rfl⟩
 exact ⟨_, M.le.refl _, hS', rfl⟩
 }
 {
 refine cplain fun pre_ post_ L_ T_ m' a' w' hl' hp' hm' hq' hS' hE' hT' => ?_
 obtain rfl := len0 hl'
 obtain rfl := len0 (lenz (a := 0) hp')
 obtain ⟨rfl, rfl⟩ := hq'
 obtain ⟨v32, e33, q34⟩ : ∃ v, a'.tmps.getD 13 undef = v ∧ (v = (.pointer (some ⟨b5, 2, none⟩))) := ⟨_, rfl, hT' 5 (by decide) 13 rfl⟩
 have hE := hE'.add (e33.trans q34)
 refine Step.imp (st_loadL hE hS' ty29 rfl (i := 0) rfl (fl31_1.R_drop (R_whole (kApi_Version.mono hm' hc7)))) ?_
 rintro v35 _ ⟨rfl, hv16⟩
 exact ⟨_, M.le.refl _, hS', hv16⟩
 }
 }
 {
 intro ws_ L_ T_ m36 a w hl37 hm38 hq39 hS hd40 hn41 ho42 hT43
 obtain rfl := len0 hl37
 obtain ⟨rfl, rfl⟩ := hq39
 have hE := EnvD.of (k := 7) (l' := [(0, v0), (1, v1), (2, v2), (4, (.pointer (some ⟨b1, 0, none⟩))), (5, (.pointer (some ⟨b5, 0, none⟩))), (6, (.bool false))]) hd40 hn41 ho42 ⟨rfl, rfl, rfl, rfl, rfl, rfl, trivial⟩ rfl
 obtain ⟨v44, e45, q46⟩ : ∃ v, a.tmps.getD 11 undef = v ∧ (RV (kSl kAp) m36 v r11) := ⟨_, rfl, hT43 3 (by decide) 11 rfl⟩
 have hE := hE.add (e45)
 obtain ⟨v47, e48, q49⟩ : ∃ v, a.tmps.getD 12 undef = v ∧ (v = v0) := ⟨_, rfl, hT43 4 (by decide) 12 rfl⟩
 have hE := hE.add (e48.trans q49)
 obtain ⟨v50, e51, q52⟩ : ∃ v, a.tmps.getD 14 undef = v ∧ (RV (kSl kAp) m36 v p2.fRow) := ⟨_, rfl, hT43 6 (by decide) 14 rfl⟩
 have hE := hE.add (e51)
 obtain ⟨r53, hr54, h⟩ := ob h
 refine st hE (st_call (vs := [v0, v50]) hE rfl Try.call33 (c_r8_Key (hS := hS) (ha0.mono hm38) q52 hr54)) rfl ?_
 rintro v58 a w ⟨m55, hm56, hS, hv57⟩ hE
 obtain ⟨r59, hr60, h⟩ := ob h
 refine st hE (st_call (vs := [v44, v58]) hE rfl Try.call32 (c_r2_Rows (hS := hS) (q46.mono hm56) hv57 hr60)) rfl ?_
 rintro v64 a w ⟨m61, hm62, hS, hv63⟩ hE
 obtain ⟨rfl, hr65⟩ := RV_int hv63
 refine qa hE rfl rfl fun a hE => ?_
 refine knil (kseq (kseq (kreg ?_)))
 refine qm hE rfl rfl fun a hE => ?_
 refine sp hE (r_bin hE rfl rfl b_neq) rfl fun a hE => ?_
 refine knil ?_
 refine kif hE rfl (fun hd69 => ?_) (fun hd69 => ?_)
 {
 have h := ite_T hd69 h
 refine kseq (kreg ?_)
 refine qm hE rfl rfl fun a hE => ?_
 refine sp hE (r_bin hE rfl rfl b_lss) rfl fun a hE => ?_
 refine qa hE rfl rfl fun a hE => ?_
 refine knil (kret ?_)
 obtain rfl := oi h
 try dsimp only
 refine Fin.mk hE (rs := [.tmp 6]) rfl (ResL.tmp hE rfl ResL.nil) ?_
 exact ⟨_, (M.le.trans hm38 (M.le.trans hm56 hm62)), ((hS.dropL 2).dropT 1), RV_of_bool⟩
 }
 {
 have h := ite_F hd69 h
 refine kskip (kseq (kreg ?_))
 refine sp hE (r_fieldL hE fo31_0 rfl) rfl fun a hE => ?_
 refine st hE (st_loadL hE hS ty28 rfl (i := 1) rfl (fl31_0.R_drop (R_whole (kApi_Version.mono (M.le.trans hm38 (M.le.trans hm56 hm62)) hc3)))) rfl ?_
 rintro v75 a _ ⟨rfl, hv74⟩ hE
 refine sp hE (r_fieldL hE fo31_0 rfl) rfl fun a hE => ?_
 refine st hE (st_loadL hE hS ty28 rfl (i := 0) rfl (fl31_0.R_drop (R_whole (kApi_Version.mono (M.le.trans hm38 (M.le.trans hm56 hm62)) hc7)))) rfl ?_
 rintro v78 a _ ⟨rfl, hv77⟩ hE
 obtain ⟨r79, hr80, h⟩ := ob h
 refine st hE (st_call (vs := [v75, v78]) hE rfl Try.call34 (c_r2_Before (hS := hS) hv74 hv77 hr80)) rfl ?_
 rintro v84 a w ⟨m81, hm82, hS, hv83⟩ hE
 obtain rfl := RV_bool hv83
 refine qa hE rfl rfl fun a hE => ?_
 refine knil (kret ?_)
 obtain rfl := oi h
 try dsimp only
 refine Fin.mk hE (rs := [.tmp 6]) rfl (ResL.tmp hE rfl ResL.nil) ?_
 exact ⟨_, (M.le.trans hm38 (M.le.trans hm56 (M.le.trans hm62 hm82))), ((hS.dropL 2).dropT 1), RV_of_bool⟩
 }
 }
theorem c_r8_Sorted  {W0 : Bse} {m : M} {w : World} {L : List (Nat × List Value)} {TL : List (Nat × Value)} (hS : S W0 m w (L) (TL)) {v0 : Value} {p0 : (List Int)} (ha0 : RV (kSl (kInt .i64)) m v0 p0) {v1 : Value} {p1 : (List Api_Version)} (ha1 : RV (kSl kApi_Version) m v1 p1) {r : (List Api_Version)} (h : r8_Sorted p0 p1 = some r) :
    Calls Try.prog 13 [v0, v1].toArray w (Ret fun v w' => ∃ m', M.le m m' ∧ S W0 m' w' (L) (TL) ∧ RV (kSl kApi_Version) m' v r) := by
 refine kcall Try.func13 rfl Try.ntmps13 (Nat.le_of_ble_eq_true rfl) fun a hE => ?_
 have hE : Env 54 a [(0, v0), (1, v1)] := hE
 unfold r8_Sorted at h
 refine kseq (kreg ?_)
 refine qa hE rfl rfl fun a hE => ?_
 refine knil (kseq (kreg ?_))
 refine qa hE rfl rfl fun a hE => ?_
 refine knil (kseq (kseq (kreg ?_)))
 refine qa hE rfl rfl fun a hE => ?_
 refine knil ?_
 refine kcut (fun a w => ∃ x6 : (List Api_Version), r8_Sorted_j1 x6 = some r ∧ ∃ m', M.le m m' ∧ ∃ (v7 : Value), RV (kSl kApi_Version) m' v7 x6 ∧ S W0 m' w (L) (TL) ∧ Env 54 a [(5, v7)]) ?_ ?_
 {
 refine kblock ?_
 refine kloop h (fun (s : ((List Api_Version) × Int)) a w => ∃ m', M.le m m' ∧ ∃ (v15 : Value), RV (kSl kApi_Version) m' v15 s.1 ∧ inR .i64 s.2 ∧ S W0 m' w (L) (TL) ∧ Env 54 a [(0, v0), (1, v1), (5, v15), (6, (.int .i64 s.2))]) ?_ ?_
 {
 exact ⟨_, (M.le.refl _), (.slice none 0 0), RV_nil, (show inR .i64 0 from inR_lit (by decide)), hS, hE.cut ⟨rfl, rfl, rfl, rfl, trivial⟩⟩
 }
 {
 rintro ⟨x14, x17⟩ a w ⟨m12, hm13, v15, hv16, hr18, hS, hE⟩ r19 h hb20
 have h : r8_Sorted_b1 p0 p1 x14 x17 = some r19 := h
 unfold r8_Sorted_b1 at h
 refine kseq (kseq (kreg ?_))
 refine qm hE rfl rfl fun a hE => ?_
 refine qm hE rfl rfl fun a hE => ?_
 refine sp hE (r_lenSl (k := kApi_Version) hE rfl rfl Try.underlying25 (ha1.mono hm13)) rfl fun a hE => ?_
 refine sp hE (r_bin hE rfl rfl b_lss) rfl fun a hE => ?_
 refine knil ?_
 refine kif hE rfl (fun hd25 => ?_) (fun hd25 => ?_)
 {
 have h := ite_T hd25 h
 refine kskip (kseq ?_)
 refine kcut (fun a w => ∃ x28 : (List Api_Version), r8_Sorted_j2 x17 x28 = some r19 ∧ ∃ m', M.le m12 m' ∧ ∃ (v29 : Value), RV (kSl kApi_Version) m' v29 x28 ∧ S W0 m' w (L) (TL) ∧ Env 54 a [(0, v0), (1, v1), (5, v29), (6, (.int .i64 x17))]) ?_ ?_
 {
 refine kblock (kseq (kreg ?_))
 refine qm hE rfl rfl fun a hE => ?_
 refine sp hE (r_lenSl (k := kApi_Version) hE rfl rfl Try.underlying25 hv16) rfl fun a hE => ?_
 refine qa hE rfl rfl fun a hE => ?_
 refine knil (kseq ?_)
 refine kcut (fun a w => ∃ x40 : Int, r8_Sorted_j3 p1 x14 x17 x40 = some r19 ∧ ∃ m', M.le m12 m' ∧ inR .i64 x40 ∧ S W0 m' w (L) (TL) ∧ Env 54 a [(0, v0), (1, v1), (5, v15), (6, (.int .i64 x17)), (7, (.int .i64 x40))]) ?_ ?_
 {
 refine kblock ?_
 refine kloop h (fun (s : Int) a w => ∃ m', M.le m12 m' ∧ inR .i64 s ∧ S W0 m' w (L) (TL) ∧ Env 54 a [(0, v0), (1, v1), (5, v15), (6, (.int .i64 x17)), (7, (.int .i64 s))]) ?_ ?_
 {
 exact ⟨_, (M.le.refl _), (inR_len (RV_len hv16)), hS, hE.cut ⟨rfl, rfl, rfl, rfl, rfl, trivial⟩⟩
 }
 {
 rintro x96 a w ⟨m94, hm95, hr97, hS, hE⟩ r98 h hb99
 have h : r8_Sorted_b2 p0 p1 x14 x17 x96 = some r98 := h
 unfold r8_Sorted_b2 at h
 refine kseq (kseq (kreg ?_))
 refine qm hE rfl rfl fun a hE => ?_
 refine sp hE (r_bin hE rfl rfl b_gtr) rfl fun a hE => ?_
 refine knil ?_
 refine kif hE rfl (fun hd102 => ?_) (fun hd102 => ?_)
 {
 have h := ite_T hd102 h
 refine kskip (kblock (kseq ?_))
 obtain ⟨x103, hx104, h⟩ := ob h
 obtain ⟨x107, hx108, h⟩ := ob h
 refine kchain (k := 10) (m := m94) (es := []) (Φ := (fun i m ws v => match i with | 0 => v = v0 | 1 => v = v1 | 2 => v = (.int .i64 x17) ∧ inR .i64 x17 | 3 => PR kApi_Version m v x103 | 4 => RV kApi_Version m v x103 | 5 => v = v15 | 6 => v = (.int .i64 x96) ∧ inR .i64 x96 | 7 => v = (.int .i64 (IntKind.i64.wrap (x96 - 1))) ∧ inR .i64 (IntKind.i64.wrap (x96 - 1)) | 8 => PR kApi_Version m v x107 | 9 => RV kApi_Version m v x107 | _ => True)) (Q := (fun c m ws L' TL' => match c with | 0 => L = L' ∧ TL = TL' | _ => False)) (cs := [⟨0, 0, false, [(0, v0)]⟩, ⟨0, 0, false, [(1, v1)]⟩, ⟨0, 0, false, [(6, (.int .i64 x17))]⟩, ⟨0, 0, false, []⟩, ⟨0, 0, false, []⟩, ⟨0, 0, false, [(5, v15)]⟩, ⟨0, 0, false, [(7, (.int .i64 x96))]⟩, ⟨0, 0, false, []⟩, ⟨0, 0, false, []⟩, ⟨0, 0, false, []⟩]) mixed hE hS ⟨rfl, rfl⟩ rfl rfl ⟨⟨rfl, trivial⟩, ⟨rfl, trivial⟩, ⟨rfl, trivial⟩, trivial, trivial, ⟨rfl, trivial⟩, ⟨rfl, trivial⟩, trivial, trivial, trivial, trivial⟩ (by kernel_rfl) ?_ ?_ ?_ ?_
 {
 intro i m_ m2_ ws v hm_ hp_
 match i, hp_ with
 | 0, hp_ => exact hp_
 | 1, hp_ => exact hp_
 | 2, hp_ => exact hp_
 | 3, hp_ => exact PR.mono hp_ hm_
 | 4, hp_ => exact RV.mono hp_ hm_
 | 5, hp_ => exact hp_
 | 6, hp_ => exact hp_
 | 7, hp_ => exact hp_
 | 8, hp_ => exact PR.mono hp_ hm_
 | 9, hp_ => exact RV.mono hp_ hm_
 | _ + 10, hp_ => exact trivial
 }
 {
 intro c m_ m2_ ws L_ T_ hm_ hq_
 match c, hq_ with
 | 0, ⟨e1_, e2_⟩ => exact ⟨e1_, e2_⟩
 | _ + 1, hq_ => exact hq_.elim
 }
 {
 refine ⟨?_, ?_, ?_, ?_, ?_, ?_, ?_, ?_, ?_, ?_, trivial⟩
 {
 refine cplain fun pre_ post_ L_ T_ m' a' w' hl' hp' hm' hq' hS' hE' hT' => ?_
 obtain rfl := len0 hl'
 refine Step.imp (Run1.pure (r_move hE' rfl)) ?_
 rintro _ _ ⟨rfl, rfl⟩
 exact ⟨_, M.le.refl _, hS', rfl⟩
 }
 {
 refine cplain fun pre_ post_ L_ T_ m' a' w' hl' hp' hm' hq' hS' hE' hT' => ?_
 obtain rfl := len0 hl'
 refine Step.imp (Run1.pure (r_move hE' rfl)) ?_
 rintro _ _ ⟨rfl, rfl⟩
 exact ⟨_, M.le.refl _, hS', rfl⟩
 }
 {
 refine cplain fun pre_ post_ L_ T_ m' a' w' hl' hp' hm' hq' hS' hE' hT' => ?_
 obtain rfl := len0 hl'
 refine Step.imp (Run1.pure (r_move hE' rfl)) ?_
 rintro _ _ ⟨rfl, rfl⟩
 exact ⟨_, M.le.refl _, hS', ⟨rfl, hr18⟩⟩
 }
 {
 refine cplain fun pre_ post_ L_ T_ m' a' w' hl' hp' hm' hq' hS' hE' hT' => ?_
 obtain rfl := len0 hl'
 obtain ⟨v114, e115, q116⟩ : ∃ v, a'.tmps.getD 21 undef = v ∧ (v = v1) := ⟨_, rfl, hT' 1 (by decide) 21 rfl⟩
 have hE := hE'.add (e115.trans q116)
 obtain ⟨v117, e118, q119⟩ : ∃ v, a'.tmps.getD 22 undef = v ∧ (v = (.int .i64 x17) ∧ inR .i64 x17) := ⟨_, rfl, hT' 2 (by decide) 22 rfl⟩
 obtain ⟨q119, hr120⟩ := q119
 have hE := hE.add (e118.trans q119)
 refine Step.imp (st_index (k := kApi_Version) hE rfl rfl Try.underlying25 Try.sizeOf31 (ha1.mono (M.le.trans hm13 (M.le.trans hm95 hm'))) hx104) ?_
 rintro v121 _ ⟨rfl, hp105⟩
 exact ⟨_, M.le.refl _, hS', hp105⟩
 }
 {
 refine cplain fun pre_ post_ L_ T_ m' a' w' hl' hp' hm' hq' hS' hE' hT' => ?_
 obtain rfl := len0 hl'
 obtain ⟨v122, e123, q124⟩ : ∃ v, a'.tmps.getD 23 undef = v ∧ (PR kApi_Version m' v x103) := ⟨_, rfl, hT' 3 (by decide) 23 rfl⟩
 have hE := hE'.add (e123)
 refine Step.imp (st_loadM hE hS' ty31 rfl q124) ?_
 rintro v125 _ ⟨rfl, hv106⟩
 exact ⟨_, M.le.refl _, hS', hv106⟩
 }
 {
 refine cplain fun pre_ post_ L_ T_ m' a' w' hl' hp' hm' hq' hS' hE' hT' => ?_
 obtain rfl := len0 hl'
 refine Step.imp (Run1.pure (r_move hE' rfl)) ?_
 rintro _ _ ⟨rfl, rfl⟩
 exact ⟨_, M.le.refl _, hS', rfl⟩
 }
 {
 refine cplain fun pre_ post_ L_ T_ m' a' w' hl' hp' hm' hq' hS' hE' hT' => ?_
 obtain rfl := len0 hl'
 refine Step.imp (Run1.pure (r_move hE' rfl)) ?_
 rintro _ _ ⟨rfl, rfl⟩
 exact ⟨_, M.le.refl _, hS', ⟨rfl, hr97⟩⟩
 }
 {
 refine cplain fun pre_ post_ L_ T_ m' a' w' hl' hp' hm' hq' hS' hE' hT' => ?_
 obtain rfl := len0 hl'
 obtain ⟨v128, e129, q130⟩ : ∃ v, a'.tmps.getD 26 undef = v ∧ (v = (.int .i64 x96) ∧ inR .i64 x96) := ⟨_, rfl, hT' 6 (by decide) 26 rfl⟩
 obtain ⟨q130, hr131⟩ := q130
 have hE := hE'.add (e129.trans q130)
 refine Step.imp (Run1.pure (r_bin hE rfl rfl (b_sub rfl))) ?_
 rintro _ _ ⟨rfl, rfl⟩
 exact ⟨_, M.le.refl _, hS', ⟨rfl, (inR_wrap _ _)⟩⟩
 }
 {
 refine cplain fun pre_ post_ L_ T_ m' a' w' hl' hp' hm' hq' hS' hE' hT' => ?_
 obtain rfl := len0 hl'
 obtain ⟨v133, e134, q135⟩ : ∃ v, a'.tmps.getD 25 undef = v ∧ (v = v15) := ⟨_, rfl, hT' 5 (by decide) 25 rfl⟩
 have hE := hE'.add (e134.trans q135)
 obtain ⟨v136, e137, q138⟩ : ∃ v, a'.tmps.getD 27 undef = v ∧ (v = (.int .i64 (IntKind.i64.wrap (x96 - 1))) ∧ inR .i64 (IntKind.i64.wrap (x96 - 1))) := ⟨_, rfl, hT' 7 (by decide) 27 rfl⟩
 obtain ⟨q138, hr139⟩ := q138
 have hE := hE.add (e137.trans q138)
 refine Step.imp (st_index (k := kApi_Version) hE rfl rfl Try.underlying25 Try.sizeOf31 (hv16.mono (M.le.trans hm95 hm')) hx108) ?_
 rintro v140 _ ⟨rfl, hp109⟩
 exact ⟨_, M.le.refl _, hS', hp109⟩
 }
 {
 refine cplain fun pre_ post_ L_ T_ m' a' w' hl' hp' hm' hq' hS' hE' hT' => ?_
 obtain rfl := len0 hl'
 obtain ⟨v141, e142, q143⟩ : ∃ v, a'.tmps.getD 28 undef = v ∧ (PR kApi_Version m' v x107) := ⟨_, rfl, hT' 8 (by decide) 28 rfl⟩
 have hE := hE'.add (e142)
 refine Step.imp (st_loadM hE hS' ty31 rfl q143) ?_
 rintro v144 _ ⟨rfl, hv110⟩
 exact ⟨_, M.le.refl _, hS', hv110⟩
 }
 }
 {
 intro ws_ L_ T_ m145 a w hl146 hm147 hq148 hS hd149 hn150 ho151 hT152
 obtain rfl := len0 hl146
 obtain ⟨rfl, rfl⟩ := hq148
 have hE := EnvD.of (k := 10) (l' := [(0, v0), (1, v1), (5, v15), (6, (.int .i64 x17)), (7, (.int .i64 x96)), (18, (.int .i64 x96)), (19, (.bool (decide (0 < x96))))]) hd149 hn150 ho151 ⟨rfl, rfl, rfl, rfl, rfl, rfl, rfl, trivial⟩ rfl
 obtain ⟨v153, e154, q155⟩ : ∃ v, a.tmps.getD 20 undef = v ∧ (v = v0) := ⟨_, rfl, hT152 0 (by decide) 20 rfl⟩
 have hE := hE.add (e154.trans q155)
 obtain ⟨v156, e157, q158⟩ : ∃ v, a.tmps.getD 24 undef = v ∧ (RV kApi_Version m145 v x103) := ⟨_, rfl, hT152 4 (by decide) 24 rfl⟩
 have hE := hE.add (e157)
 obtain ⟨v159, e160, q161⟩ : ∃ v, a.tmps.getD 29 undef = v ∧ (RV kApi_Version m145 v x107) := ⟨_, rfl, hT152 9 (by decide) 29 rfl⟩
 have hE := hE.add (e160)
 obtain ⟨r162, hr163, h⟩ := ob h
 refine st hE (st_call (vs := [v0, v156, v159]) hE rfl Try.call24 (c_r8_before (hS := hS) (ha0.mono (M.le.trans hm13 (M.le.trans hm95 hm147))) q158 q161 hr163)) rfl ?_
 rintro v167 a w ⟨m164, hm165, hS, hv166⟩ hE
 obtain rfl := RV_bool hv166
 refine qa hE rfl rfl fun a hE => ?_
 refine knil (kseq (kseq (kreg ?_)))
 refine qm hE rfl rfl fun a hE => ?_
 refine sp hE (r_not hE rfl) rfl fun a hE => ?_
 refine knil ?_
 refine kif hE rfl (fun hd171 => ?_) (fun hd171 => ?_)
 {
 have h := ite_T hd171 h
 refine kexit rfl rfl ?_
 have h := unwrap h hb99
 exact ⟨x96, h, _, (M.le.trans hm95 (M.le.trans hm147 hm165)), hr97, hS, hE.cut ⟨rfl, rfl, rfl, rfl, rfl, trivial⟩⟩
 }
 {
 have h := ite_F hd171 h
 refine kskip (kreg ?_)
 refine qm hE rfl rfl fun a hE => ?_
 refine sp hE (r_bin hE rfl rfl (b_sub rfl)) rfl fun a hE => ?_
 refine qa hE rfl rfl fun a hE => ?_
 refine knil ?_
 exact ⟨IntKind.i64.wrap (x96 - 1), (Option.some.inj h).symm, _, (M.le.trans hm95 (M.le.trans hm147 hm165)), (inR_wrap _ _), hS, hE.cut ⟨rfl, rfl, rfl, rfl, rfl, trivial⟩⟩
 }
 }
 }
 {
 have h := ite_F hd102 h
 refine kexit rfl rfl ?_
 have h := unwrap h hb99
 exact ⟨x96, h, _, hm95, hr97, hS, hE.cut ⟨rfl, rfl, rfl, rfl, rfl, trivial⟩⟩
 }
 }
 }
 {
 rintro a w ⟨x40, h, m38, hm39, hr41, hS, hE⟩
 unfold r8_Sorted_j3 at h
 refine kseq (kreg ?_)
 refine qa hE rfl rfl fun a hE => ?_
 refine knil (kseq (kreg ?_))
 refine qm hE rfl rfl fun a hE => ?_
 refine qm hE rfl rfl fun a hE => ?_
 refine qm hE rfl rfl fun a hE => ?_
 obtain ⟨x47, hx48, h⟩ := ob h
 refine st hE (st_slice (k := kApi_Version) hE rfl Try.underlying25 Try.sizeOf31 (hv16.mono hm39) rfl ⟨_, rfl⟩ hx48 (xl := none) (xh := (some (.tmp 37)))) rfl ?_
 rintro v50 a _ ⟨rfl, hv49⟩ hE
 obtain ⟨z51, hz52, h⟩ := ob h
 refine st hE (st_app (k := kApi_Version) (N := 2932031007402) hE (hS.tail0 4) rfl rfl Try.underlying25 Try.underlying25 el31 (i := 0) rfl RV_nil hv49 hz52 rfl rfl) rfl ?_
 rintro v56 a w ⟨m54, hm55, hS, hv53⟩ hE
 refine qa hE rfl rfl fun a hE => ?_
 refine knil (kseq (kreg ?_))
 refine qm hE rfl rfl fun a hE => ?_
 refine qm hE rfl rfl fun a hE => ?_
 refine qm hE rfl rfl fun a hE => ?_
 obtain ⟨x61, hx62, h⟩ := ob h
 refine st hE (st_index (k := kApi_Version) hE rfl rfl Try.underlying25 Try.sizeOf31 (ha1.mono (M.le.trans hm13 (M.le.trans hm39 hm55))) hx62) rfl ?_
 rintro v64 a _ ⟨rfl, hp63⟩ hE
 refine st hE (st_loadM hE hS ty31 rfl hp63) rfl ?_
 rintro v66 a _ ⟨rfl, hv65⟩ hE
 refine st hE (st_lit (k := kApi_Version) (xs := [x61]) (vs := [v66]) hE hS rfl Try.underlying25 Try.sizeOf31 Try.zeroValue31 ⟨hv65, trivial⟩ rfl (by decide)) rfl ?_
 rintro v70 a w ⟨m68, hm69, hS, hv67⟩ hE
 obtain ⟨z71, hz72, h⟩ := ob h
 refine st hE (st_app (k := kApi_Version) (N := 2932031007402) hE hS rfl rfl Try.underlying25 Try.underlying25 el31 (i := 1) rfl (hv53.mono hm69) hv67 hz72 rfl rfl) rfl ?_
 rintro v76 a w ⟨m74, hm75, hS, hv73⟩ hE
 refine qa hE rfl rfl fun a hE => ?_
 refine knil (kseq (kreg ?_))
 refine qm hE rfl rfl fun a hE => ?_
 refine qm hE rfl rfl fun a hE => ?_
 refine qm hE rfl rfl fun a hE => ?_
 obtain ⟨x81, hx82, h⟩ := ob h
 refine st hE (st_slice (k := kApi_Version) hE rfl Try.underlying25 Try.sizeOf31 (hv16.mono (M.le.trans hm39 (M.le.trans hm55 (M.le.trans hm69 hm75)))) ⟨_, rfl⟩ rfl hx82 (xl := (some (.tmp 49))) (xh := none)) rfl ?_
 rintro v84 a _ ⟨rfl, hv83⟩ hE
 obtain ⟨z85, hz86, h⟩ := ob h
 refine st hE (st_app (k := kApi_Version) (N := 2932031007402) hE hS rfl rfl Try.underlying25 Try.underlying25 el31 (i := 1) rfl hv73 hv83 hz86 rfl rfl) rfl ?_
 rintro v90 a w ⟨m88, hm89, hS, hv87⟩ hE
 refine qa hE rfl rfl fun a hE => ?_
 refine knil (kreg ?_)
 refine qm hE rfl rfl fun a hE => ?_
 refine qa hE rfl rfl fun a hE => ?_
 refine knil ?_
 exact ⟨z85, h, _, (M.le.trans hm39 (M.le.trans hm55 (M.le.trans hm69 (M.le.trans hm75 hm89)))), v90, hv87, (hS.pickT 2 [] rfl rfl rfl), hE.cut ⟨rfl, rfl, rfl, rfl, trivial⟩⟩
 }
 }
 {
 rintro a w ⟨x28, h, m26, hm27, v29, hv30, hS, hE⟩
 unfold r8_Sorted_j2 at h
 refine kreg ?_
 refine qm hE rfl rfl fun a hE => ?_
 refine sp hE (r_bin hE rfl rfl (b_add rfl)) rfl fun a hE => ?_
 refine qa hE rfl rfl fun a hE => ?_
 refine knil ?_
 exact ⟨(x28, IntKind.i64.wrap (x17 + 1)), (Option.some.inj h).symm, _, (M.le.trans hm13 hm27), v29, hv30, (inR_wrap _ _), hS, hE.cut ⟨rfl, rfl, rfl, rfl, trivial⟩⟩
 }
 }
 {
 have h := ite_F hd25 h
 refine kexit rfl rfl ?_
 have h := unwrap h hb20
 exact ⟨x14, h, _, hm13, v15, hv16, hS, hE.cut ⟨rfl, trivial⟩⟩
 }
 }
 }
 {
 rintro a w ⟨x6, h, m4, hm5, v7, hv8, hS, hE⟩
 unfold r8_Sorted_j1 at h
 refine kseq (kreg ?_)
 refine qm hE rfl rfl fun a hE => ?_
 refine qa hE rfl rfl fun a hE => ?_
 refine knil (kret ?_)
 obtain rfl := oi h
 try dsimp only
 refine Fin.mk hE (rs := [.tmp 4]) rfl (ResL.tmp hE rfl ResL.nil) ?_
 exact ⟨_, hm5, hS, hv8⟩
 }
theorem c_hayloftref12_Join  {W0 : Bse} {m : M} {w : World} {L : List (Nat × List Value)} {TL : List (Nat × Value)} (hS : S W0 m w (L) (TL)) {v0 : Value} {p0 : (List Int)} (ha0 : RV (kSl (kInt .i64)) m v0 p0) {v1 : Value} {p1 : (List (List Api_Version))} (ha1 : RV (kSl (kSl kApi_Version)) m v1 p1) {p2 : Int} (ha2 : inR .u64 p2) {r : (List Api_Version)} (h : hayloftref12_Join p0 p1 p2 = some r) :
    Calls Try.prog 8 [v0, v1, (.int .u64 p2)].toArray w (Ret fun v w' => ∃ m', M.le m m' ∧ S W0 m' w' (L) (TL) ∧ RV (kSl kApi_Version) m' v r) := by
 refine kcall Try.func8 rfl Try.ntmps8 (Nat.le_of_ble_eq_true rfl) fun a hE => ?_
 have hE : Env 59 a [(0, v0), (1, v1), (2, (.int .u64 p2))] := hE
 unfold hayloftref12_Join at h
 refine kseq (kreg ?_)
 refine qa hE rfl rfl fun a hE => ?_
 refine knil (kseq (kreg ?_))
 refine qa hE rfl rfl fun a hE => ?_
 refine knil (kseq (kseq (kreg ?_)))
 refine qa hE rfl rfl fun a hE => ?_
 refine knil ?_
 refine kcut (fun a w => ∃ x6 : (List Api_Version), hayloftref12_Join_j1 p0 x6 = some r ∧ ∃ m', M.le m m' ∧ ∃ (v7 : Value), RV (kSl kApi_Version) m' v7 x6 ∧ S W0 m' w (L) ((4, v7) :: TL) ∧ Env 59 a [(0, v0), (7, v7)]) ?_ ?_
 {
 refine kblock ?_
 refine kloop h (fun (s : ((List Api_Version) × Int)) a w => ∃ m', M.le m m' ∧ ∃ (v22 : Value), RV (kSl kApi_Version) m' v22 s.1 ∧ inR .i64 s.2 ∧ S W0 m' w (L) ((4, v22) :: TL) ∧ Env 59 a [(0, v0), (1, v1), (2, (.int .u64 p2)), (7, v22), (8, (.int .i64 s.2))]) ?_ ?_
 {
 exact ⟨_, (M.le.refl _), (.slice none 0 0), RV_nil, (show inR .i64 0 from inR_lit (by decide)), (hS.tail0 4), hE.cut ⟨rfl, rfl, rfl, rfl, rfl, trivial⟩⟩
 }
 {
 rintro ⟨x21, x24⟩ a w ⟨m19, hm20, v22, hv23, hr25, hS, hE⟩ r26 h hb27
 have h : hayloftref12_Join_b1 p0 p1 p2 x21 x24 = some r26 := h
 unfold hayloftref12_Join_b1 at h
 refine kseq (kseq (kreg ?_))
 refine qm hE rfl rfl fun a hE => ?_
 refine qm hE rfl rfl fun a hE => ?_
 refine sp hE (r_lenSl (k := (kSl kApi_Version)) hE rfl rfl Try.underlying23 (ha1.mono hm20)) rfl fun a hE => ?_
 refine sp hE (r_bin hE rfl rfl b_lss) rfl fun a hE => ?_
 refine knil ?_
 refine kif hE rfl (fun hd32 => ?_) (fun hd32 => ?_)
 {
 have h := ite_T hd32 h
 refine kskip (kseq ?_)
 refine kcut (fun a w => ∃ x35 : (List Api_Version), hayloftref12_Join_j2 x24 x35 = some r26 ∧ ∃ m', M.le m19 m' ∧ ∃ (v36 : Value), RV (kSl kApi_Version) m' v36 x35 ∧ S W0 m' w (L) ((4, v36) :: TL) ∧ Env 59 a [(0, v0), (1, v1), (2, (.int .u64 p2)), (7, v36), (8, (.int .i64 x24))]) ?_ ?_
 {
 refine kblock (kseq (kreg ?_))
 refine qa hE rfl rfl fun a hE => ?_
 refine knil (kblock ?_)
 refine kloop h (fun (s : ((List Api_Version) × Int)) a w => ∃ m', M.le m19 m' ∧ ∃ (v46 : Value), RV (kSl kApi_Version) m' v46 s.1 ∧ inR .i64 s.2 ∧ S W0 m' w (L) ((4, v46) :: TL) ∧ Env 59 a [(0, v0), (1, v1), (2, (.int .u64 p2)), (7, v46), (8, (.int .i64 x24)), (9, (.int .i64 s.2))]) ?_ ?_
 {
 exact ⟨_, (M.le.refl _), v22, hv23, (show inR .i64 0 from inR_lit (by decide)), hS, hE.cut ⟨rfl, rfl, rfl, rfl, rfl, rfl, trivial⟩⟩
 }
 {
 rintro ⟨x45, x48⟩ a w ⟨m43, hm44, v46, hv47, hr49, hS, hE⟩ r50 h hb51
 have h : hayloftref12_Join_b2 p1 p2 x24 x45 x48 = some r50 := h
 unfold hayloftref12_Join_b2 at h
 refine kseq (kseq (kreg ?_))
 refine qm hE rfl rfl fun a hE => ?_
 refine qm hE rfl rfl fun a hE => ?_
 refine qm hE rfl rfl fun a hE => ?_
 obtain ⟨x55, hx56, h⟩ := ob h
 refine st hE (st_index (k := (kSl kApi_Version)) hE rfl rfl Try.underlying23 Try.sizeOf25 (ha1.mono (M.le.trans hm20 hm44)) hx56) rfl ?_
 rintro v58 a _ ⟨rfl, hp57⟩ hE
 refine st hE (st_loadM hE hS ty25 rfl hp57) rfl ?_
 rintro v60 a _ ⟨rfl, hv59⟩ hE
 refine sp hE (r_lenSl (k := kApi_Version) hE rfl rfl Try.underlying25 hv59) rfl fun a hE => ?_
 refine sp hE (r_bin hE rfl rfl b_lss) rfl fun a hE => ?_
 refine knil ?_
 refine kif hE rfl (fun hd63 => ?_) (fun hd63 => ?_)
 {
 have h := ite_T hd63 h
 refine kskip (kseq (kblock (kseq ?_)))
 refine kcut (fun a w => ∃ x66 : Bool, hayloftref12_Join_j3 p1 x24 x45 x48 x66 = some r50 ∧ ∃ m', M.le m43 m' ∧ S W0 m' w (L) ((4, v46) :: TL) ∧ Env 59 a [(0, v0), (1, v1), (2, (.int .u64 p2)), (7, v46), (8, (.int .i64 x24)), (9, (.int .i64 x48)), (45, (.bool x66))]) ?_ ?_
 {
 refine kreg ?_
 refine qm hE rfl rfl fun a hE => ?_
 refine qm hE rfl rfl fun a hE => ?_
 obtain ⟨x107, hx108, h⟩ := ob h
 refine st hE (st_index (k := (kSl kApi_Version)) hE rfl rfl Try.underlying23 Try.sizeOf25 (ha1.mono (M.le.trans hm20 hm44)) hx108) rfl ?_
 rintro v110 a _ ⟨rfl, hp109⟩ hE
 refine st hE (st_loadM hE hS ty25 rfl hp109) rfl ?_
 rintro v112 a _ ⟨rfl, hv111⟩ hE
 refine qm hE rfl rfl fun a hE => ?_
 obtain ⟨x114, hx115, h⟩ := ob h
 refine st hE (st_index (k := kApi_Version) hE rfl rfl Try.underlying25 Try.sizeOf31 hv111 hx115) rfl ?_
 rintro v117 a _ ⟨rfl, hp116⟩ hE
 refine st hE (st_fieldM hE fo31_2 fl31_2 rfl hp116) rfl ?_
 rintro v120 a _ ⟨rfl, hp119⟩ hE
 refine st hE (st_loadM hE hS ty24 rfl hp119) rfl ?_
 rintro v122 a _ ⟨rfl, hv121⟩ hE
 obtain ⟨rfl, hr123⟩ := RV_int hv121
 refine sp hE (r_bin hE rfl rfl b_eql) rfl fun a hE => ?_
 refine qm hE rfl rfl fun a hE => ?_
 rcases Bool.eq_false_or_eq_true (x114.fDeleted == 0) with hd126 | hd126
 {
 have h := ite_T hd126 h
 refine sx hE rfl rfl rfl rfl hd126 rfl fun a hE => ?_
 refine sx hE rfl rfl rfl rfl hd126 rfl fun a hE => ?_
 refine sx hE rfl rfl rfl rfl hd126 rfl fun a hE => ?_
 refine sx hE rfl rfl rfl rfl hd126 rfl fun a hE => ?_
 refine sx hE rfl rfl rfl rfl hd126 rfl fun a hE => ?_
 refine sx hE rfl rfl rfl rfl hd126 rfl fun a hE => ?_
 refine sx hE rfl rfl rfl rfl hd126 rfl fun a hE => ?_
 refine sx hE rfl rfl rfl rfl hd126 rfl fun a hE => ?_
 refine sx hE rfl rfl rfl rfl hd126 rfl fun a hE => ?_
 refine sx hE rfl rfl rfl rfl hd126 rfl fun a hE => ?_
 refine sp hE (r_pickT hE rfl hd126 rfl) rfl fun a hE => ?_
 refine knil ?_
 exact ⟨true, h, _, (M.le.refl _), hS, hE.cut ⟨rfl, rfl, rfl, rfl, rfl, rfl, rfl, trivial⟩⟩
 }
 {
 have h := ite_F hd126 h
 refine spg hE rfl rfl rfl rfl hd126 (r_move hE rfl) rfl fun a hE => ?_
 refine spg hE rfl rfl rfl rfl hd126 (r_move hE rfl) rfl fun a hE => ?_
 obtain ⟨x130, hx131, h⟩ := ob h
 refine stg hE rfl rfl rfl rfl hd126 (st_index (k := (kSl kApi_Version)) hE rfl rfl Try.underlying23 Try.sizeOf25 (ha1.mono (M.le.trans hm20 hm44)) hx131) rfl ?_
 rintro v133 a _ ⟨rfl, hp132⟩ hE
 refine stg hE rfl rfl rfl rfl hd126 (st_loadM hE hS ty25 rfl hp132) rfl ?_
 rintro v135 a _ ⟨rfl, hv134⟩ hE
 refine spg hE rfl rfl rfl rfl hd126 (r_move hE rfl) rfl fun a hE => ?_
 obtain ⟨x137, hx138, h⟩ := ob h
 refine stg hE rfl rfl rfl rfl hd126 (st_index (k := kApi_Version) hE rfl rfl Try.underlying25 Try.sizeOf31 hv134 hx138) rfl ?_
 rintro v140 a _ ⟨rfl, hp139⟩ hE
 refine stg hE rfl rfl rfl rfl hd126 (st_fieldM hE fo31_2 fl31_2 rfl hp139) rfl ?_
 rintro v143 a _ ⟨rfl, hp142⟩ hE
 refine stg hE rfl rfl rfl rfl hd126 (st_loadM hE hS ty24 rfl hp142) rfl ?_
 rintro v145 a _ ⟨rfl, hv144⟩ hE
 obtain ⟨rfl, hr146⟩ := RV_int hv144
 refine spg hE rfl rfl rfl rfl hd126 (r_move hE rfl) rfl fun a hE => ?_
 refine spg hE rfl rfl rfl rfl hd126 (r_bin hE rfl rfl b_gtr) rfl fun a hE => ?_
 refine sp hE (r_pickF hE rfl hd126 rfl) rfl fun a hE => ?_
 refine knil ?_
 exact ⟨(decide (p2 < x137.fDeleted)), h, _, (M.le.refl _), hS, hE.cut ⟨rfl, rfl, rfl, rfl, rfl, rfl, rfl, trivial⟩⟩
 }
 }
 {
 rintro a w ⟨x66, h, m64, hm65, hS, hE⟩
 unfold hayloftref12_Join_j3 at h
 refine kcut (fun a w => ∃ x70 : (List Api_Version), hayloftref12_Join_j4 x48 x70 = some r50 ∧ ∃ m', M.le m64 m' ∧ ∃ (v71 : Value), RV (kSl kApi_Version) m' v71 x70 ∧ S W0 m' w (L) ((4, v71) :: TL) ∧ Env 59 a [(0, v0), (1, v1), (2, (.int .u64 p2)), (7, v71), (8, (.int .i64 x24)), (9, (.int .i64 x48))]) ?_ ?_
 {
 refine kif hE rfl (fun hd77 => ?_) (fun hd77 => ?_)
 {
 have h := ite_T hd77 h
 refine kreg ?_
 refine qm hE rfl rfl fun a hE => ?_
 refine qm hE rfl rfl fun a hE => ?_
 refine qm hE rfl rfl fun a hE => ?_
 obtain ⟨x81, hx82, h⟩ := ob h
 refine st hE (st_index (k := (kSl kApi_Version)) hE rfl rfl Try.underlying23 Try.sizeOf25 (ha1.mono (M.le.trans hm20 (M.le.trans hm44 hm65))) hx82) rfl ?_
 rintro v84 a _ ⟨rfl, hp83⟩ hE
 refine st hE (st_loadM hE hS ty25 rfl hp83) rfl ?_
 rintro v86 a _ ⟨rfl, hv85⟩ hE
 refine qm hE rfl rfl fun a hE => ?_
 obtain ⟨x88, hx89, h⟩ := ob h
 refine st hE (st_index (k := kApi_Version) hE rfl rfl Try.underlying25 Try.sizeOf31 hv85 hx89) rfl ?_
 rintro v91 a _ ⟨rfl, hp90⟩ hE
 refine st hE (st_loadM hE hS ty31 rfl hp90) rfl ?_
 rintro v93 a _ ⟨rfl, hv92⟩ hE
 refine st hE (st_lit (k := kApi_Version) (xs := [x88]) (vs := [v93]) hE hS rfl Try.underlying25 Try.sizeOf31 Try.zeroValue31 ⟨hv92, trivial⟩ rfl (by decide)) rfl ?_
 rintro v97 a w ⟨m95, hm96, hS, hv94⟩ hE
 obtain ⟨z98, hz99, h⟩ := ob h
 refine st hE (st_app (k := kApi_Version) (N := 2932031007402) hE hS rfl rfl Try.underlying25 Try.underlying25 el31 (i := 1) rfl (hv47.mono (M.le.trans hm65 hm96)) hv94 hz99 rfl rfl) rfl ?_
 rintro v103 a w ⟨m101, hm102, hS, hv100⟩ hE
 refine qa hE rfl rfl fun a hE => ?_
 refine knil ?_
 exact ⟨z98, h, _, (M.le.trans hm96 hm102), v103, hv100, (hS.pickT 2 [1] rfl rfl rfl), hE.cut ⟨rfl, rfl, rfl, rfl, rfl, rfl, trivial⟩⟩
 }
 {
 have h := ite_F hd77 h
 refine kskip ?_
 exact ⟨x45, h, _, (M.le.refl _), v46, (hv47.mono hm65), hS, hE.cut ⟨rfl, rfl, rfl, rfl, rfl, rfl, trivial⟩⟩
 }
 }
 {
 rintro a w ⟨x70, h, m68, hm69, v71, hv72, hS, hE⟩
 unfold hayloftref12_Join_j4 at h
 refine kreg ?_
 refine qm hE rfl rfl fun a hE => ?_
 refine sp hE (r_bin hE rfl rfl (b_add rfl)) rfl fun a hE => ?_
 refine qa hE rfl rfl fun a hE => ?_
 refine knil ?_
 exact ⟨(x70, IntKind.i64.wrap (x48 + 1)), (Option.some.inj h).symm, _, (M.le.trans hm44 (M.le.trans hm65 hm69)), v71, hv72, (inR_wrap _ _), hS, hE.cut ⟨rfl, rfl, rfl, rfl, rfl, rfl, trivial⟩⟩
 }
 }
 }
 {
 have h := ite_F hd63 h
 refine kexit rfl rfl ?_
 have h := unwrap h hb51
 exact ⟨x45, h, _, hm44, v46, hv47, hS, hE.cut ⟨rfl, rfl, rfl, rfl, rfl, trivial⟩⟩
 }
 }
 }
 {
 rintro a w ⟨x35, h, m33, hm34, v36, hv37, hS, hE⟩
 unfold hayloftref12_Join_j2 at h
 refine kreg ?_
 refine qm hE rfl rfl fun a hE => ?_
 refine sp hE (r_bin hE rfl rfl (b_add rfl)) rfl fun a hE => ?_
 refine qa hE rfl rfl fun a hE => ?_
 refine knil ?_
 exact ⟨(x35, IntKind.i64.wrap (x24 + 1)), (Option.some.inj h).symm, _, (M.le.trans hm20 hm34), v36, hv37, (inR_wrap _ _), hS, hE.cut ⟨rfl, rfl, rfl, rfl, rfl, trivial⟩⟩
 }
 }
 {
 have h := ite_F hd32 h
 refine kexit rfl rfl ?_
 have h := unwrap h hb27
 exact ⟨x21, h, _, hm20, v22, hv23, hS, hE.cut ⟨rfl, rfl, trivial⟩⟩
 }
 }
 }
 {
 rintro a w ⟨x6, h, m4, hm5, v7, hv8, hS, hE⟩
 unfold hayloftref12_Join_j1 at h
 refine kseq (kreg ?_)
 refine qm hE rfl rfl fun a hE => ?_
 refine qm hE rfl rfl fun a hE => ?_
 obtain ⟨r12, hr13, h⟩ := ob h
 refine st hE (st_call (vs := [v0, v7]) hE rfl Try.call13 (c_r8_Sorted (hS := hS) (ha0.mono hm5) hv8 hr13)) rfl ?_
 rintro v17 a w ⟨m14, hm15, hS, hv16⟩ hE
 refine qa hE rfl rfl fun a hE => ?_
 refine knil (kret ?_)
 obtain rfl := oi h
 try dsimp only
 refine Fin.mk hE (rs := [.tmp 6]) rfl (ResL.tmp hE rfl ResL.nil) ?_
 exact ⟨_, (M.le.trans hm5 hm15), (hS.dropT 1), hv16⟩
 }
theorem c_r2_SameRow  {W0 : Bse} {m : M} {w : World} {L : List (Nat × List Value)} {TL : List (Nat × Value)} (hS : S W0 m w (L) (TL)) {v0 : Value} {p0 : (List Ap)} (ha0 : RV (kSl kAp) m v0 p0) {v1 : Value} {p1 : (List Ap)} (ha1 : RV (kSl kAp) m v1 p1) {r : Bool} (h : r2_SameRow p0 p1 = some r) :
    Calls Try.prog 14 [v0, v1].toArray w (Ret fun v w' => ∃ m', M.le m m' ∧ S W0 m' w' (L) (TL) ∧ RV kBool m' v r) := by
 refine kcall Try.func14 rfl Try.ntmps14 (Nat.le_of_ble_eq_true rfl) fun a hE => ?_
 have hE : Env 26 a [(0, v0), (1, v1)] := hE
 unfold r2_SameRow at h
 refine kseq (kreg ?_)
 refine qa hE rfl rfl fun a hE => ?_
 refine knil (kseq (kseq (kreg ?_)))
 refine qm hE rfl rfl fun a hE => ?_
 refine sp hE (r_lenSl (k := kAp) hE rfl rfl Try.underlying29 ha0) rfl fun a hE => ?_
 refine qm hE rfl rfl fun a hE => ?_
 refine sp hE (r_lenSl (k := kAp) hE rfl rfl Try.underlying29 ha1) rfl fun a hE => ?_
 refine sp hE (r_bin hE rfl rfl b_neq) rfl fun a hE => ?_
 refine knil ?_
 refine kif hE rfl (fun hd7 => ?_) (fun hd7 => ?_)
 {
 have h := ite_T hd7 h
 refine kseq (kreg ?_)
 refine qa hE rfl rfl fun a hE => ?_
 refine knil (kret ?_)
 obtain rfl := oi h
 try dsimp only
 refine Fin.mk hE (rs := [.tmp 4]) rfl (ResL.tmp hE rfl ResL.nil) ?_
 exact ⟨_, (M.le.refl _), hS, RV_of_bool⟩
 }
 {
 have h := ite_F hd7 h
 refine kskip (kseq (kseq (kreg ?_)))
 refine qa hE rfl rfl fun a hE => ?_
 refine knil ?_
 refine kcut (fun a w => r2_SameRow_j1 = some r ∧ ∃ m', M.le m m' ∧ S W0 m' w (L) (TL) ∧ Env 26 a []) ?_ ?_
 {
 refine kblock ?_
 refine kloop h (fun (s : Int) a w => ∃ m', M.le m m' ∧ inR .i64 s ∧ S W0 m' w (L) (TL) ∧ Env 26 a [(0, v0), (1, v1), (5, (.int .i64 s))]) ?_ ?_
 {
 exact ⟨_, (M.le.refl _), (show inR .i64 0 from inR_lit (by decide)), hS, hE.cut ⟨rfl, rfl, rfl, trivial⟩⟩
 }
 {
 rintro x16 a w ⟨m14, hm15, hr17, hS, hE⟩ r18 h hb19
 have h : r2_SameRow_b1 p0 p1 x16 = some r18 := h
 unfold r2_SameRow_b1 at h
 refine kseq (kseq (kreg ?_))
 refine qm hE rfl rfl fun a hE => ?_
 refine qm hE rfl rfl fun a hE => ?_
 refine sp hE (r_lenSl (k := kAp) hE rfl rfl Try.underlying29 (ha0.mono hm15)) rfl fun a hE => ?_
 refine sp hE (r_bin hE rfl rfl b_lss) rfl fun a hE => ?_
 refine knil ?_
 refine kif hE rfl (fun hd24 => ?_) (fun hd24 => ?_)
 {
 have h := ite_T hd24 h
 refine kskip (kseq (kblock (kseq ?_)))
 obtain ⟨x25, hx26, h⟩ := ob h
 obtain ⟨x29, hx30, h⟩ := ob h
 refine kchain (k := 8) (m := m14) (es := []) (Φ := (fun i m ws v => match i with | 0 => v = v0 | 1 => v = (.int .i64 x16) ∧ inR .i64 x16 | 2 => PR kAp m v x25 | 3 => RV kAp m v x25 | 4 => v = v1 | 5 => v = (.int .i64 x16) ∧ inR .i64 x16 | 6 => PR kAp m v x29 | 7 => RV kAp m v x29 | _ => True)) (Q := (fun c m ws L' TL' => match c with | 0 => L = L' ∧ TL = TL' | _ => False)) (cs := [⟨0, 0, false, [(0, v0)]⟩, ⟨0, 0, false, [(5, (.int .i64 x16))]⟩, ⟨0, 0, false, []⟩, ⟨0, 0, false, []⟩, ⟨0, 0, false, [(1, v1)]⟩, ⟨0, 0, false, [(5, (.int .i64 x16))]⟩, ⟨0, 0, false, []⟩, ⟨0, 0, false, []⟩]) mixed hE hS ⟨rfl, rfl⟩ rfl rfl ⟨⟨rfl, trivial⟩, ⟨rfl, trivial⟩, trivial, trivial, ⟨rfl, trivial⟩, ⟨rfl, trivial⟩, trivial, trivial, trivial⟩ (by kernel_rfl) ?_ ?_ ?_ ?_
 {
 intro i m_ m2_ ws v hm_ hp_
 match i, hp_ with
 | 0, hp_ => exact hp_
 | 1, hp_ => exact hp_
 | 2, hp_ => exact PR.mono hp_ hm_
 | 3, hp_ => exact RV.mono hp_ hm_
 | 4, hp_ => exact hp_
 | 5, hp_ => exact hp_
 | 6, hp_ => exact PR.mono hp_ hm_
 | 7, hp_ => exact RV.mono hp_ hm_
 | _ + 8, hp_ => exact trivial
 }
 {
 intro c m_ m2_ ws L_ T_ hm_ hq_
 match c, hq_ with
 | 0, ⟨e1_, e2_⟩ => exact ⟨e1_, e2_⟩
 | _ + 1, hq_ => exact hq_.elim
 }
 {
 refine ⟨?_, ?_, ?_, ?_, ?_, ?_, ?_, ?_, trivial⟩
 {
 refine cplain fun pre_ post_ L_ T_ m' a' w' hl' hp' hm' hq' hS' hE' hT' => ?_
 obtain rfl := len0 hl'
 refine Step.imp (Run1.pure (r_move hE' rfl)) ?_
 rintro _ _ ⟨rfl, rfl⟩
 exact ⟨_, M.le.refl _, hS', rfl⟩
 }
 {
 refine cplain fun pre_ post_ L_ T_ m' a' w' hl' hp' hm' hq' hS' hE' hT' => ?_
 obtain rfl := len0 hl'
 refine Step.imp (Run1.pure (r_move hE' rfl)) ?_
 rintro _ _ ⟨rfl, rfl⟩
 exact ⟨_, M.le.refl _, hS', ⟨rfl, hr17⟩⟩
 }
 {
 refine cplain fun pre_ post_ L_ T_ m' a' w' hl' hp' hm' hq' hS' hE' hT' => ?_
 obtain rfl := len0 hl'
 obtain ⟨v35, e36, q37⟩ : ∃ v, a'.tmps.getD 17 undef = v ∧ (v = v0) := ⟨_, rfl, hT' 0 (by decide) 17 rfl⟩
 have hE := hE'.add (e36.trans q37)
 obtain ⟨v38, e39, q40⟩ : ∃ v, a'.tmps.getD 18 undef = v ∧ (v = (.int .i64 x16) ∧ inR .i64 x16) := ⟨_, rfl, hT' 1 (by decide) 18 rfl⟩
 obtain ⟨q40, hr41⟩ := q40
 have hE := hE.add (e39.trans q40)
 refine Step.imp (st_index (k := kAp) hE rfl rfl Try.underlying29 Try.sizeOf38 (ha0.mono (M.le.trans hm15 hm')) hx26) ?_
 rintro v42 _ ⟨rfl, hp27⟩
 exact ⟨_, M.le.refl _, hS', hp27⟩
 }
 {
 refine cplain fun pre_ post_ L_ T_ m' a' w' hl' hp' hm' hq' hS' hE' hT' => ?_
 obtain rfl := len0 hl'
 obtain ⟨v43, e44, q45⟩ : ∃ v, a'.tmps.getD 19 undef = v ∧ (PR kAp m' v x25) := ⟨_, rfl, hT' 2 (by decide) 19 rfl⟩
 have hE := hE'.add (e44)
 refine Step.imp (st_loadM hE hS' ty38 rfl q45) ?_
 rintro v46 _ ⟨rfl, hv28⟩
 exact ⟨_, M.le.refl _, hS', hv28⟩
 }
 {
 refine cplain fun pre_ post_ L_ T_ m' a' w' hl' hp' hm' hq' hS' hE' hT' => ?_
 obtain rfl := len0 hl'
 refine Step.imp (Run1.pure (r_move hE' rfl)) ?_
 rintro _ _ ⟨rfl, rfl⟩
 exact ⟨_, M.le.refl _, hS', rfl⟩
 }
 {
 refine cplain fun pre_ post_ L_ T_ m' a' w' hl' hp' hm' hq' hS' hE' hT' => ?_
 obtain rfl := len0 hl'
 refine Step.imp (Run1.pure (r_move hE' rfl)) ?_
 rintro _ _ ⟨rfl, rfl⟩
 exact ⟨_, M.le.refl _, hS', ⟨rfl, hr17⟩⟩
 }
 {
 refine cplain fun pre_ post_ L_ T_ m' a' w' hl' hp' hm' hq' hS' hE' hT' => ?_
 obtain rfl := len0 hl'
 obtain ⟨v49, e50, q51⟩ : ∃ v, a'.tmps.getD 21 undef = v ∧ (v = v1) := ⟨_, rfl, hT' 4 (by decide) 21 rfl⟩
 have hE := hE'.add (e50.trans q51)
 obtain ⟨v52, e53, q54⟩ : ∃ v, a'.tmps.getD 22 undef = v ∧ (v = (.int .i64 x16) ∧ inR .i64 x16) := ⟨_, rfl, hT' 5 (by decide) 22 rfl⟩
 obtain ⟨q54, hr55⟩ := q54
 have hE := hE.add (e53.trans q54)
 refine Step.imp (st_index (k := kAp) hE rfl rfl Try.underlying29 Try.sizeOf38 (ha1.mono (M.le.trans hm15 hm')) hx30) ?_
 rintro v56 _ ⟨rfl, hp31⟩
 exact ⟨_, M.le.refl _, hS', hp31⟩
 }
 {
 refine cplain fun pre_ post_ L_ T_ m' a' w' hl' hp' hm' hq' hS' hE' hT' => ?_
 obtain rfl := len0 hl'
 obtain ⟨v57, e58, q59⟩ : ∃ v, a'.tmps.getD 23 undef = v ∧ (PR kAp m' v x29) := ⟨_, rfl, hT' 6 (by decide) 23 rfl⟩
 have hE := hE'.add (e58)
 refine Step.imp (st_loadM hE hS' ty38 rfl q59) ?_
 rintro v60 _ ⟨rfl, hv32⟩
 exact ⟨_, M.le.refl _, hS', hv32⟩
 }
 }
 {
 intro ws_ L_ T_ m61 a w hl62 hm63 hq64 hS hd65 hn66 ho67 hT68
 obtain rfl := len0 hl62
 obtain ⟨rfl, rfl⟩ := hq64
 have hE := EnvD.of (k := 8) (l' := [(0, v0), (1, v1), (5, (.int .i64 x16)), (11, (.int .i64 x16)), (12, v0), (13, (.int .i64 (p0.length : Int))), (14, (.bool (decide (x16 < (p0.length : Int)))))]) hd65 hn66 ho67 ⟨rfl, rfl, rfl, rfl, rfl, rfl, rfl, trivial⟩ rfl
 obtain ⟨v69, e70, q71⟩ : ∃ v, a.tmps.getD 20 undef = v ∧ (RV kAp m61 v x25) := ⟨_, rfl, hT68 3 (by decide) 20 rfl⟩
 have hE := hE.add (e70)
 obtain ⟨v72, e73, q74⟩ : ∃ v, a.tmps.getD 24 undef = v ∧ (RV kAp m61 v x29) := ⟨_, rfl, hT68 7 (by decide) 24 rfl⟩
 have hE := hE.add (e73)
 refine sp hE (r_neqK hE eq38 rfl rfl q71 q74 rfl) rfl fun a hE => ?_
 refine knil ?_
 refine kif hE rfl (fun hd76 => ?_) (fun hd76 => ?_)
 {
 have h := ite_T hd76 h
 refine kseq (kreg ?_)
 refine qa hE rfl rfl fun a hE => ?_
 refine knil (kret ?_)
 have h := unwrap h hb19
 obtain rfl := oi h
 try dsimp only
 refine Fin.mk hE (rs := [.tmp 4]) rfl (ResL.tmp hE rfl ResL.nil) ?_
 exact ⟨_, (M.le.trans hm15 hm63), hS, RV_of_bool⟩
 }
 {
 have h := ite_F hd76 h
 refine kskip (kreg ?_)
 refine qm hE rfl rfl fun a hE => ?_
 refine sp hE (r_bin hE rfl rfl (b_add rfl)) rfl fun a hE => ?_
 refine qa hE rfl rfl fun a hE => ?_
 refine knil ?_
 exact ⟨IntKind.i64.wrap (x16 + 1), (Option.some.inj h).symm, _, (M.le.trans hm15 hm63), (inR_wrap _ _), hS, hE.cut ⟨rfl, rfl, rfl, trivial⟩⟩
 }
 }
 }
 {
 have h := ite_F hd24 h
 refine kexit rfl rfl ?_
 have h := unwrap h hb19
 exact ⟨h, _, hm15, hS, hE.cut trivial⟩
 }
 }
 }
 {
 rintro a w ⟨h, m10, hm11, hS, hE⟩
 unfold r2_SameRow_j1 at h
 refine kseq (kreg ?_)
 refine qa hE rfl rfl fun a hE => ?_
 refine knil (kret ?_)
 obtain rfl := oi h
 try dsimp only
 refine Fin.mk hE (rs := [.tmp 4]) rfl (ResL.tmp hE rfl ResL.nil) ?_
 exact ⟨_, hm11, hS, RV_of_bool⟩
 }
 }
theorem c_r2_SameVersion  {W0 : Bse} {m : M} {w : World} {L : List (Nat × List Value)} {TL : List (Nat × Value)} (hS : S W0 m w (L) (TL)) {v0 : Value} {p0 : Api_Version} (ha0 : RV kApi_Version m v0 p0) {v1 : Value} {p1 : Api_Version} (ha1 : RV kApi_Version m v1 p1) {r : Bool} (h : r2_SameVersion p0 p1 = some r) :
    Calls Try.prog 9 [v0, v1].toArray w (Ret fun v w' => ∃ m', M.le m m' ∧ S W0 m' w' (L) (TL) ∧ RV kBool m' v r) := by
 refine kcall Try.func9 rfl Try.ntmps9 (Nat.le_of_ble_eq_true rfl) fun a hE => ?_
 have hE : Env 26 a [(0, v0), (1, v1)] := hE
 unfold r2_SameVersion at h
 refine kseq (kreg ?_)
 refine st hE (st_box (k := kApi_Version) hE hS rfl ha0) rfl ?_
 rintro _ a w ⟨b1, cs2, rfl, hc3, hS⟩ hE
 refine st hE (st_box (k := kApi_Version) hE hS rfl ha1) rfl ?_
 rintro _ a w ⟨b5, cs6, rfl, hc7, hS⟩ hE
 refine qa hE rfl rfl fun a hE => ?_
 refine knil (kseq (kreg ?_))
 refine sp hE (r_fieldL hE fo31_1 rfl) rfl fun a hE => ?_
 refine st hE (st_loadL hE hS ty29 rfl (i := 1) rfl (fl31_1.R_drop (R_whole hc3))) rfl ?_
 rintro v12 a _ ⟨rfl, hv11⟩ hE
 refine sp hE (r_fieldL hE fo31_1 rfl) rfl fun a hE => ?_
 refine st hE (st_loadL hE hS ty29 rfl (i := 0) rfl (fl31_1.R_drop (R_whole hc7))) rfl ?_
 rintro v15 a _ ⟨rfl, hv14⟩ hE
 obtain ⟨r16, hr17, h⟩ := ob h
 refine st hE (st_call (vs := [v12, v15]) hE rfl Try.call14 (c_r2_SameRow (hS := hS) hv11 hv14 hr17)) rfl ?_
 rintro v21 a w ⟨m18, hm19, hS, hv20⟩ hE
 obtain rfl := RV_bool hv20
 refine qa hE rfl rfl fun a hE => ?_
 refine knil (kseq ?_)
 refine kcut (fun a w => ∃ x25 : Bool, r2_SameVersion_j1 x25 = some r ∧ ∃ m', M.le m18 m' ∧ S W0 m' w ((b5, cs6) :: (b1, cs2) :: L) (TL) ∧ Env 26 a [(4, (.bool x25))]) ?_ ?_
 {
 refine kreg ?_
 refine qm hE rfl rfl fun a hE => ?_
 refine qm hE rfl rfl fun a hE => ?_
 rcases Bool.eq_false_or_eq_true r16 with hd29 | hd29
 {
 have h := ite_T hd29 h
 refine spg hE rfl rfl rfl rfl hd29 (r_fieldL hE fo31_0 rfl) rfl fun a hE => ?_
 refine stg hE rfl rfl rfl rfl hd29 (st_loadL hE hS ty28 rfl (i := 1) rfl (fl31_0.R_drop (R_whole (kApi_Version.mono hm19 hc3)))) rfl ?_
 rintro v32 a _ ⟨rfl, hv31⟩ hE
 refine spg hE rfl rfl rfl rfl hd29 (r_fieldL hE fo31_0 rfl) rfl fun a hE => ?_
 refine stg hE rfl rfl rfl rfl hd29 (st_loadL hE hS ty28 rfl (i := 0) rfl (fl31_0.R_drop (R_whole (kApi_Version.mono hm19 hc7)))) rfl ?_
 rintro v35 a _ ⟨rfl, hv34⟩ hE
 refine spg hE rfl rfl rfl rfl hd29 (r_eqlK hE eq28 rfl rfl hv31 hv34 rfl) rfl fun a hE => ?_
 refine sp hE (r_pickT hE rfl hd29 rfl) rfl fun a hE => ?_
 refine qm hE rfl rfl fun a hE => ?_
 rcases Bool.eq_false_or_eq_true (decide (p0.fId = p1.fId)) with hd39 | hd39
 {
 have h := ite_T hd39 h
 refine spg hE rfl rfl rfl rfl hd39 (r_fieldL hE fo31_2 rfl) rfl fun a hE => ?_
 refine stg hE rfl rfl rfl rfl hd39 (st_loadL hE hS ty24 rfl (i := 1) rfl (fl31_2.R_drop (R_whole (kApi_Version.mono hm19 hc3)))) rfl ?_
 rintro v42 a _ ⟨rfl, hv41⟩ hE
 obtain ⟨rfl, hr43⟩ := RV_int hv41
 refine spg hE rfl rfl rfl rfl hd39 (r_fieldL hE fo31_2 rfl) rfl fun a hE => ?_
 refine stg hE rfl rfl rfl rfl hd39 (st_loadL hE hS ty24 rfl (i := 0) rfl (fl31_2.R_drop (R_whole (kApi_Version.mono hm19 hc7)))) rfl ?_
 rintro v46 a _ ⟨rfl, hv45⟩ hE
 obtain ⟨rfl, hr47⟩ := RV_int hv45
 refine spg hE rfl rfl rfl rfl hd39 (r_bin hE rfl rfl b_eql) rfl fun a hE => ?_
 refine sp hE (r_pickT hE rfl hd39 rfl) rfl fun a hE => ?_
 refine qa hE rfl rfl fun a hE => ?_
 refine knil ?_
 exact ⟨(p0.fDeleted == p1.fDeleted), h, _, (M.le.refl _), hS, hE.cut ⟨rfl, trivial⟩⟩
 }
 {
 have h := ite_F hd39 h
 refine sx hE rfl rfl rfl rfl hd39 rfl fun a hE => ?_
 refine sx hE rfl rfl rfl rfl hd39 rfl fun a hE => ?_
 refine sx hE rfl rfl rfl rfl hd39 rfl fun a hE => ?_
 refine sx hE rfl rfl rfl rfl hd39 rfl fun a hE => ?_
 refine sx hE rfl rfl rfl rfl hd39 rfl fun a hE => ?_
 refine sp hE (r_pickF hE rfl hd39 rfl) rfl fun a hE => ?_
 refine qa hE rfl rfl fun a hE => ?_
 refine knil ?_
 exact ⟨false, h, _, (M.le.refl _), hS, hE.cut ⟨rfl, trivial⟩⟩
 }
 }
 {
 have h := ite_F hd29 h
 refine sx hE rfl rfl rfl rfl hd29 rfl fun a hE => ?_
 refine sx hE rfl rfl rfl rfl hd29 rfl fun a hE => ?_
 refine sx hE rfl rfl rfl rfl hd29 rfl fun a hE => ?_
 refine sx hE rfl rfl rfl rfl hd29 rfl fun a hE => ?_
 refine sx hE rfl rfl rfl rfl hd29 rfl fun a hE => ?_
 refine sp hE (r_pickF hE rfl hd29 rfl) rfl fun a hE => ?_
 refine qm hE rfl rfl fun a hE => ?_
 refine sx hE rfl rfl rfl rfl rfl rfl fun a hE => ?_
 refine sx hE rfl rfl rfl rfl rfl rfl fun a hE => ?_
 refine sx hE rfl rfl rfl rfl rfl rfl fun a hE => ?_
 refine sx hE rfl rfl rfl rfl rfl rfl fun a hE => ?_
 refine sx hE rfl rfl rfl rfl rfl rfl fun a hE => ?_
 refine sp hE (r_pickF hE rfl rfl rfl) rfl fun a hE => ?_
 refine qa hE rfl rfl fun a hE => ?_
 refine knil ?_
 exact ⟨false, h, _, (M.le.refl _), hS, hE.cut ⟨rfl, trivial⟩⟩
 }
 }
 {
 rintro a w ⟨x25, h, m23, hm24, hS, hE⟩
 unfold r2_SameVersion_j1 at h
 refine kret ?_
 obtain rfl := oi h
 try dsimp only
 refine Fin.mk hE (rs := [.tmp 4]) rfl (ResL.tmp hE rfl ResL.nil) ?_
 exact ⟨_, (M.le.trans hm19 hm24), (hS.dropL 2), RV_of_bool⟩
 }
theorem c_r2_SameVersions  {W0 : Bse} {m : M} {w : World} {L : List (Nat × List Value)} {TL : List (Nat × Value)} (hS : S W0 m w (L) (TL)) {v0 : Value} {p0 : (List Api_Version)} (ha0 : RV (kSl kApi_Version) m v0 p0) {v1 : Value} {p1 : (List Api_Version)} (ha1 : RV (kSl kApi_Version) m v1 p1) {r : Bool} (h : r2_SameVersions p0 p1 = some r) :
    Calls Try.prog 6 [v0, v1].toArray w (Ret fun v w' => ∃ m', M.le m m' ∧ S W0 m' w' (L) (TL) ∧ RV kBool m' v r) := by
 refine kcall Try.func6 rfl Try.ntmps6 (Nat.le_of_ble_eq_true rfl) fun a hE => ?_
 have hE : Env 29 a [(0, v0), (1, v1)] := hE
 unfold r2_SameVersions at h
 refine kseq (kreg ?_)
 refine qa hE rfl rfl fun a hE => ?_
 refine knil (kseq (kseq (kreg ?_)))
 refine qm hE rfl rfl fun a hE => ?_
 refine sp hE (r_lenSl (k := kApi_Version) hE rfl rfl Try.underlying25 ha0) rfl fun a hE => ?_
 refine qm hE rfl rfl fun a hE => ?_
 refine sp hE (r_lenSl (k := kApi_Version) hE rfl rfl Try.underlying25 ha1) rfl fun a hE => ?_
 refine sp hE (r_bin hE rfl rfl b_neq) rfl fun a hE => ?_
 refine knil ?_
 refine kif hE rfl (fun hd7 => ?_) (fun hd7 => ?_)
 {
 have h := ite_T hd7 h
 refine kseq (kreg ?_)
 refine qa hE rfl rfl fun a hE => ?_
 refine knil (kret ?_)
 obtain rfl := oi h
 try dsimp only
 refine Fin.mk hE (rs := [.tmp 4]) rfl (ResL.tmp hE rfl ResL.nil) ?_
 exact ⟨_, (M.le.refl _), hS, RV_of_bool⟩
 }
 {
 have h := ite_F hd7 h
 refine kskip (kseq (kseq (kreg ?_)))
 refine qa hE rfl rfl fun a hE => ?_
 refine knil ?_
 refine kcut (fun a w => r2_SameVersions_j1 = some r ∧ ∃ m', M.le m m' ∧ S W0 m' w (L) (TL) ∧ Env 29 a []) ?_ ?_
 {
 refine kblock ?_
 refine kloop h (fun (s : Int) a w => ∃ m', M.le m m' ∧ inR .i64 s ∧ S W0 m' w (L) (TL) ∧ Env 29 a [(0, v0), (1, v1), (5, (.int .i64 s))]) ?_ ?_
 {
 exact ⟨_, (M.le.refl _), (show inR .i64 0 from inR_lit (by decide)), hS, hE.cut ⟨rfl, rfl, rfl, trivial⟩⟩
 }
 {
 rintro x16 a w ⟨m14, hm15, hr17, hS, hE⟩ r18 h hb19
 have h : r2_SameVersions_b1 p0 p1 x16 = some r18 := h
 unfold r2_SameVersions_b1 at h
 refine kseq (kseq (kreg ?_))
 refine qm hE rfl rfl fun a hE => ?_
 refine qm hE rfl rfl fun a hE => ?_
 refine sp hE (r_lenSl (k := kApi_Version) hE rfl rfl Try.underlying25 (ha0.mono hm15)) rfl fun a hE => ?_
 refine sp hE (r_bin hE rfl rfl b_lss) rfl fun a hE => ?_
 refine knil ?_
 refine kif hE rfl (fun hd24 => ?_) (fun hd24 => ?_)
 {
 have h := ite_T hd24 h
 refine kskip (kseq (kblock (kseq ?_)))
 obtain ⟨x25, hx26, h⟩ := ob h
 obtain ⟨x29, hx30, h⟩ := ob h
 refine kchain (k := 8) (m := m14) (es := []) (Φ := (fun i m ws v => match i with | 0 => v = v0 | 1 => v = (.int .i64 x16) ∧ inR .i64 x16 | 2 => PR kApi_Version m v x25 | 3 => RV kApi_Version m v x25 | 4 => v = v1 | 5 => v = (.int .i64 x16) ∧ inR .i64 x16 | 6 => PR kApi_Version m v x29 | 7 => RV kApi_Version m v x29 | _ => True)) (Q := (fun c m ws L' TL' => match c with | 0 => L = L' ∧ TL = TL' | _ => False)) (cs := [⟨0, 0, false, [(0, v0)]⟩, ⟨0, 0, false, [(5, (.int .i64 x16))]⟩, ⟨0, 0, false, []⟩, ⟨0, 0, false, []⟩, ⟨0, 0, false, [(1, v1)]⟩, ⟨0, 0, false, [(5, (.int .i64 x16))]⟩, ⟨0, 0, false, []⟩, ⟨0, 0, false, []⟩]) mixed hE hS ⟨rfl, rfl⟩ rfl rfl ⟨⟨rfl, trivial⟩, ⟨rfl, trivial⟩, trivial, trivial, ⟨rfl, trivial⟩, ⟨rfl, trivial⟩, trivial, trivial, trivial⟩ (by kernel_rfl) ?_ ?_ ?_ ?_
 {
 intro i m_ m2_ ws v hm_ hp_
 match i, hp_ with
 | 0, hp_ => exact hp_
 | 1, hp_ => exact hp_
 | 2, hp_ => exact PR.mono hp_ hm_
 | 3, hp_ => exact RV.mono hp_ hm_
 | 4, hp_ => exact hp_
 | 5, hp_ => exact hp_
 | 6, hp_ => exact PR.mono hp_ hm_
 | 7, hp_ => exact RV.mono hp_ hm_
 | _ + 8, hp_ => exact trivial
 }
 {
 intro c m_ m2_ ws L_ T_ hm_ hq_
 match c, hq_ with
 | 0, ⟨e1_, e2_⟩ => exact ⟨e1_, e2_⟩
 | _ + 1, hq_ => exact hq_.elim
 }
 {
 refine ⟨?_, ?_, ?_, ?_, ?_, ?_, ?_, ?_, trivial⟩
 {
 refine cplain fun pre_ post_ L_ T_ m' a' w' hl' hp' hm' hq' hS' hE' hT' => ?_
 obtain rfl := len0 hl'
 refine Step.imp (Run1.pure (r_move hE' rfl)) ?_
 rintro _ _ ⟨rfl, rfl⟩
 exact ⟨_, M.le.refl _, hS', rfl⟩
 }
 {
 refine cplain fun pre_ post_ L_ T_ m' a' w' hl' hp' hm' hq' hS' hE' hT' => ?_
 obtain rfl := len0 hl'
 refine Step.imp (Run1.pure (r_move hE' rfl)) ?_
 rintro _ _ ⟨rfl, rfl⟩
 exact ⟨_, M.le.refl _, hS', ⟨rfl, hr17⟩⟩
 }
 {
 refine cplain fun pre_ post_ L_ T_ m' a' w' hl' hp' hm' hq' hS' hE' hT' => ?_
 obtain rfl := len0 hl'
 obtain ⟨v35, e36, q37⟩ : ∃ v, a'.tmps.getD 18 undef = v ∧ (v = v0) := ⟨_, rfl, hT' 0 (by decide) 18 rfl⟩
 have hE := hE'.add (e36.trans q37)
 obtain ⟨v38, e39, q40⟩ : ∃ v, a'.tmps.getD 19 undef = v ∧ (v = (.int .i64 x16) ∧ inR .i64 x16) := ⟨_, rfl, hT' 1 (by decide) 19 rfl⟩
 obtain ⟨q40, hr41⟩ := q40
 have hE := hE.add (e39.trans q40)
 refine Step.imp (st_index (k := kApi_Version) hE rfl rfl Try.underlying25 Try.sizeOf31 (ha0.mono (M.le.trans hm15 hm')) hx26) ?_
 rintro v42 _ ⟨rfl, hp27⟩
 exact ⟨_, M.le.refl _, hS', hp27⟩
 }
 {
 refine cplain fun pre_ post_ L_ T_ m' a' w' hl' hp' hm' hq' hS' hE' hT' => ?_
 obtain rfl := len0 hl'
 obtain ⟨v43, e44, q45⟩ : ∃ v, a'.tmps.getD 20 undef = v ∧ (PR kApi_Version m' v x25) := ⟨_, rfl, hT' 2 (by decide) 20 rfl⟩
 have hE := hE'.add (e44)
 refine Step.imp (st_loadM hE hS' ty31 rfl q45) ?_
 rintro v46 _ ⟨rfl, hv28⟩
 exact ⟨_, M.le.refl _, hS', hv28⟩
 }
 {
 refine cplain fun pre_ post_ L_ T_ m' a' w' hl' hp' hm' hq' hS' hE' hT' => ?_
 obtain rfl := len0 hl'
 refine Step.imp (Run1.pure (r_move hE' rfl)) ?_
 rintro _ _ ⟨rfl, rfl⟩
 exact ⟨_, M.le.refl _, hS', rfl⟩
 }
 {
 refine cplain fun pre_ post_ L_ T_ m' a' w' hl' hp' hm' hq' hS' hE' hT' => ?_
 obtain rfl := len0 hl'
 refine Step.imp (Run1.pure (r_move hE' rfl)) ?_
 rintro _ _ ⟨rfl, rfl⟩
 exact ⟨_, M.le.refl _, hS', ⟨rfl, hr17⟩⟩
 }
 {
 refine cplain fun pre_ post_ L_ T_ m' a' w' hl' hp' hm' hq' hS' hE' hT' => ?_
 obtain rfl := len0 hl'
 obtain ⟨v49, e50, q51⟩ : ∃ v, a'.tmps.getD 22 undef = v ∧ (v = v1) := ⟨_, rfl, hT' 4 (by decide) 22 rfl⟩
 have hE := hE'.add (e50.trans q51)
 obtain ⟨v52, e53, q54⟩ : ∃ v, a'.tmps.getD 23 undef = v ∧ (v = (.int .i64 x16) ∧ inR .i64 x16) := ⟨_, rfl, hT' 5 (by decide) 23 rfl⟩
 obtain ⟨q54, hr55⟩ := q54
 have hE := hE.add (e53.trans q54)
 refine Step.imp (st_index (k := kApi_Version) hE rfl rfl Try.underlying25 Try.sizeOf31 (ha1.mono (M.le.trans hm15 hm')) hx30) ?_
 rintro v56 _ ⟨rfl, hp31⟩
 exact ⟨_, M.le.refl _, hS', hp31⟩
 }
 {
 refine cplain fun pre_ post_ L_ T_ m' a' w' hl' hp' hm' hq' hS' hE' hT' => ?_
 obtain rfl := len0 hl'
 obtain ⟨v57, e58, q59⟩ : ∃ v, a'.tmps.getD 24 undef = v ∧ (PR kApi_Version m' v x29) := ⟨_, rfl, hT' 6 (by decide) 24 rfl⟩
 have hE := hE'.add (e58)
 refine Step.imp (st_loadM hE hS' ty31 rfl q59) ?_
 rintro v60 _ ⟨rfl, hv32⟩
 exact ⟨_, M.le.refl _, hS', hv32⟩
 }
 }
 {
 intro ws_ L_ T_ m61 a w hl62 hm63 hq64 hS hd65 hn66 ho67 hT68
 obtain rfl := len0 hl62
 obtain ⟨rfl, rfl⟩ := hq64
 have hE := EnvD.of (k := 8) (l' := [(0, v0), (1, v1), (5, (.int .i64 x16)), (12, (.int .i64 x16)), (13, v0), (14, (.int .i64 (p0.length : Int))), (15, (.bool (decide (x16 < (p0.length : Int)))))]) hd65 hn66 ho67 ⟨rfl, rfl, rfl, rfl, rfl, rfl, rfl, trivial⟩ rfl
 obtain ⟨v69, e70, q71⟩ : ∃ v, a.tmps.getD 21 undef = v ∧ (RV kApi_Version m61 v x25) := ⟨_, rfl, hT68 3 (by decide) 21 rfl⟩
 have hE := hE.add (e70)
 obtain ⟨v72, e73, q74⟩ : ∃ v, a.tmps.getD 25 undef = v ∧ (RV kApi_Version m61 v x29) := ⟨_, rfl, hT68 7 (by decide) 25 rfl⟩
 have hE := hE.add (e73)
 obtain ⟨r75, hr76, h⟩ := ob h
 refine st hE (st_call (vs := [v69, v72]) hE rfl Try.call9 (c_r2_SameVersion (hS := hS) q71 q74 hr76)) rfl ?_
 rintro v80 a w ⟨m77, hm78, hS, hv79⟩ hE
 obtain rfl := RV_bool hv79
 refine qa hE rfl rfl fun a hE => ?_
 refine knil (kseq (kreg ?_))
 refine qm hE rfl rfl fun a hE => ?_
 refine sp hE (r_not hE rfl) rfl fun a hE => ?_
 refine knil ?_
 refine kif hE rfl (fun hd84 => ?_) (fun hd84 => ?_)
 {
 have h := ite_T hd84 h
 refine kseq (kreg ?_)
 refine qa hE rfl rfl fun a hE => ?_
 refine knil (kret ?_)
 have h := unwrap h hb19
 obtain rfl := oi h
 try dsimp only
 refine Fin.mk hE (rs := [.tmp 4]) rfl (ResL.tmp hE rfl ResL.nil) ?_
 exact ⟨_, (M.le.trans hm15 (M.le.trans hm63 hm78)), hS, RV_of_bool⟩
 }
 {
 have h := ite_F hd84 h
 refine kskip (kreg ?_)
 refine qm hE rfl rfl fun a hE => ?_
 refine sp hE (r_bin hE rfl rfl (b_add rfl)) rfl fun a hE => ?_
 refine qa hE rfl rfl fun a hE => ?_
 refine knil ?_
 exact ⟨IntKind.i64.wrap (x16 + 1), (Option.some.inj h).symm, _, (M.le.trans hm15 (M.le.trans hm63 hm78)), (inR_wrap _ _), hS, hE.cut ⟨rfl, rfl, rfl, trivial⟩⟩
 }
 }
 }
 {
 have h := ite_F hd24 h
 refine kexit rfl rfl ?_
 have h := unwrap h hb19
 exact ⟨h, _, hm15, hS, hE.cut trivial⟩
 }
 }
 }
 {
 rintro a w ⟨h, m10, hm11, hS, hE⟩
 unfold r2_SameVersions_j1 at h
 refine kseq (kreg ?_)
 refine qa hE rfl rfl fun a hE => ?_
 refine knil (kret ?_)
 obtain rfl := oi h
 try dsimp only
 refine Fin.mk hE (rs := [.tmp 4]) rfl (ResL.tmp hE rfl ResL.nil) ?_
 exact ⟨_, hm11, hS, RV_of_bool⟩
 }
 }
theorem c_hayloftlaw12_MoverJoins  {W0 : Bse} {m : M} {w : World} {L : List (Nat × List Value)} {TL : List (Nat × Value)} (hS : S W0 m w (L) (TL)) {v0 : Value} {p0 : (List Int)} (ha0 : RV (kSl (kInt .i64)) m v0 p0) {v1 : Value} {p1 : (List (List Api_Version))} (ha1 : RV (kSl (kSl kApi_Version)) m v1 p1) {p2 : Int} (ha2 : inR .u64 p2) {r : Bool} (h : hayloftlaw12_MoverJoins p0 p1 p2 = some r) :
    Calls Try.prog 3 [v0, v1, (.int .u64 p2)].toArray w (Ret fun v w' => ∃ m', M.le m m' ∧ S W0 m' w' (L) (TL) ∧ RV kBool m' v r) := by
 refine kcall Try.func3 rfl Try.ntmps3 (Nat.le_of_ble_eq_true rfl) fun a hE => ?_
 have hE : Env 71 a [(0, v0), (1, v1), (2, (.int .u64 p2))] := hE
 unfold hayloftlaw12_MoverJoins at h
 refine kseq (kreg ?_)
 refine qa hE rfl rfl fun a hE => ?_
 refine knil (kseq (kreg ?_))
 refine qa hE rfl rfl fun a hE => ?_
 refine knil (kseq (kseq (kreg ?_)))
 refine qm hE rfl rfl fun a hE => ?_
 refine sp hE (r_lenSl (k := (kSl kApi_Version)) hE rfl rfl Try.underlying23 ha1) rfl fun a hE => ?_
 refine qm hE rfl rfl fun a hE => ?_
 refine knil ?_
 refine kcut (fun a w => ∃ x8 : (List (List Api_Version)), hayloftlaw12_MoverJoins_j1 p0 p1 p2 x8 = some r ∧ ∃ m', M.le m m' ∧ ∃ (v9 : Value), RV (kSl (kSl kApi_Version)) m' v9 x8 ∧ S W0 m' w (L) ((1, v9) :: TL) ∧ Env 71 a [(0, v0), (1, v1), (2, (.int .u64 p2)), (7, v9)]) ?_ ?_
 {
 refine kblock ?_
 refine kloop h (fun (s : ((List (List Api_Version)) × Int)) a w => ∃ m', M.le m m' ∧ ∃ (v135 : Value), RV (kSl (kSl kApi_Version)) m' v135 s.1 ∧ inR .i64 s.2 ∧ S W0 m' w (L) ((1, v135) :: TL) ∧ Env 71 a [(0, v0), (1, v1), (2, (.int .u64 p2)), (7, v135), (14, (.int .i64 (p1.length : Int))), (15, (.int .i64 s.2))]) ?_ ?_
 {
 exact ⟨_, (M.le.refl _), (.slice none 0 0), RV_nil, (show inR .i64 0 from inR_lit (by decide)), (hS.tail0 1), hE.cut ⟨rfl, rfl, rfl, rfl, rfl, rfl, trivial⟩⟩
 }
 {
 rintro ⟨x134, x137⟩ a w ⟨m132, hm133, v135, hv136, hr138, hS, hE⟩ r139 h hb140
 have h : hayloftlaw12_MoverJoins_b2 p0 p1 p2 x134 x137 = some r139 := h
 unfold hayloftlaw12_MoverJoins_b2 at h
 refine kseq (kreg ?_)
 refine sp hE (r_bin hE rfl rfl b_lss) rfl fun a hE => ?_
 refine knil (kseq ?_)
 refine kif hE rfl (fun hd142 => ?_) (fun hd142 => ?_)
 {
 have h := ite_T hd142 h
 refine kskip (kseq ?_)
 refine kcut (fun a w => ∃ x145 : (List (List Api_Version)), hayloftlaw12_MoverJoins_j4 x137 x145 = some r139 ∧ ∃ m', M.le m132 m' ∧ ∃ (v146 : Value), RV (kSl (kSl kApi_Version)) m' v146 x145 ∧ S W0 m' w (L) ((1, v146) :: TL) ∧ Env 71 a [(0, v0), (1, v1), (2, (.int .u64 p2)), (7, v146), (14, (.int .i64 (p1.length : Int))), (15, (.int .i64 x137))]) ?_ ?_
 {
 refine kblock (kseq (kreg ?_))
 refine qm hE rfl rfl fun a hE => ?_
 refine qa hE rfl rfl fun a hE => ?_
 refine knil (kseq (kreg ?_))
 refine qa hE rfl rfl fun a hE => ?_
 refine knil (kseq (kseq (kreg ?_)))
 refine qm hE rfl rfl fun a hE => ?_
 refine qm hE rfl rfl fun a hE => ?_
 obtain ⟨x156, hx157, h⟩ := ob h
 refine st hE (st_index (k := (kSl kApi_Version)) hE rfl rfl Try.underlying23 Try.sizeOf25 (ha1.mono hm133) hx157) rfl ?_
 rintro v159 a _ ⟨rfl, hp158⟩ hE
 refine st hE (st_loadM hE hS ty25 rfl hp158) rfl ?_
 rintro v161 a _ ⟨rfl, hv160⟩ hE
 refine sp hE (r_lenSl (k := kApi_Version) hE rfl rfl Try.underlying25 hv160) rfl fun a hE => ?_
 refine qm hE rfl rfl fun a hE => ?_
 refine knil ?_
 refine kcut (fun a w => ∃ x166 : (List Api_Version), hayloftlaw12_MoverJoins_j5 x134 x137 x166 = some r139 ∧ ∃ m', M.le m132 m' ∧ ∃ (v167 : Value), RV (kSl kApi_Version) m' v167 x166 ∧ S W0 m' w (L) ((4, v167) :: (1, v135) :: TL) ∧ Env 71 a [(0, v0), (1, v1), (2, (.int .u64 p2)), (7, v135), (9, v167), (14, (.int .i64 (p1.length : Int))), (15, (.int .i64 x137))]) ?_ ?_
 {
 refine kblock ?_
 refine kloop h (fun (s : ((List Api_Version) × Int)) a w => ∃ m', M.le m132 m' ∧ ∃ (v186 : Value), RV (kSl kApi_Version) m' v186 s.1 ∧ inR .i64 s.2 ∧ S W0 m' w (L) ((4, v186) :: (1, v135) :: TL) ∧ Env 71 a [(0, v0), (1, v1), (2, (.int .u64 p2)), (7, v135), (9, v186), (14, (.int .i64 (p1.length : Int))), (15, (.int .i64 x137)), (21, v161), (22, (.int .i64 (x156.length : Int))), (23, (.int .i64 s.2))]) ?_ ?_
 {
 exact ⟨_, (M.le.refl _), (.slice none 0 0), RV_nil, (show inR .i64 0 from inR_lit (by decide)), (hS.tail0 4), hE.cut ⟨rfl, rfl, rfl, rfl, rfl, rfl, rfl, rfl, rfl, rfl, trivial⟩⟩
 }
 {
 rintro ⟨x185, x188⟩ a w ⟨m183, hm184, v186, hv187, hr189, hS, hE⟩ r190 h hb191
 have h : hayloftlaw12_MoverJoins_b3 x134 x137 x156 x185 x188 = some r190 := h
 unfold hayloftlaw12_MoverJoins_b3 at h
 refine kseq (kreg ?_)
 refine sp hE (r_bin hE rfl rfl b_lss) rfl fun a hE => ?_
 refine knil (kseq ?_)
 refine kif hE rfl (fun hd193 => ?_) (fun hd193 => ?_)
 {
 have h := ite_T hd193 h
 refine kskip (kseq (kblock (kseq (kreg ?_))))
 obtain ⟨x194, hx195, h⟩ := ob h
 refine st hE (st_index (k := kApi_Version) hE rfl rfl Try.underlying25 Try.sizeOf31 (hv160.mono hm184) hx195) rfl ?_
 rintro v197 a _ ⟨rfl, hp196⟩ hE
 refine st hE (st_loadM hE hS ty31 rfl hp196) rfl ?_
 rintro v199 a _ ⟨rfl, hv198⟩ hE
 refine st hE (st_alloc hS Try.zeroValue31 rfl (cs := zc31)) rfl ?_
 rintro _ a w ⟨b200, rfl, hS⟩ hE
 refine st0 hE (st_storeF hE hS ty31 StF_self rfl rfl hv198 (i := 0) rfl (zr31 _)) ?_
 rintro _ w ⟨cs202, hc203, hS⟩ hE
 refine knil (kseq (kreg ?_))
 refine sp hE (r_fieldL hE fo31_1 rfl) rfl fun a hE => ?_
 refine st hE (st_loadL hE hS ty29 rfl (i := 0) rfl (fl31_1.R_drop (R_whole hc203))) rfl ?_
 rintro v207 a _ ⟨rfl, hv206⟩ hE
 obtain ⟨r208, hr209, h⟩ := ob h
 refine st hE (st_call (vs := [v207]) hE rfl Try.call4 (c_r2_Copy (hS := hS) hv206 hr209)) rfl ?_
 rintro v213 a w ⟨m210, hm211, hS, hv212⟩ hE
 refine sp hE (r_fieldL hE fo31_1 rfl) rfl fun a hE => ?_
 refine st0 hE (st_storeF hE hS ty29 sf31_1 rfl rfl hv212 (i := 0) rfl (kApi_Version.mono hm211 hc203)) ?_
 rintro _ w ⟨cs215, hc216, hS⟩ hE
 refine knil (kreg ?_)
 refine qm hE rfl rfl fun a hE => ?_
 refine st hE (st_loadL hE hS ty31 rfl (i := 0) rfl (R_whole hc216)) rfl ?_
 rintro v220 a _ ⟨rfl, hv219⟩ hE
 refine st hE (st_lit (k := kApi_Version) (xs := [{ x194 with fRow := r208 }]) (vs := [v220]) hE hS rfl Try.underlying25 Try.sizeOf31 Try.zeroValue31 ⟨hv219, trivial⟩ rfl (by decide)) rfl ?_
 rintro v224 a w ⟨m222, hm223, hS, hv221⟩ hE
 obtain ⟨z225, hz226, h⟩ := ob h
 refine st hE (st_app (k := kApi_Version) (N := 2932031007402) hE hS rfl rfl Try.underlying25 Try.underlying25 el31 (i := 2) rfl (hv187.mono (M.le.trans hm211 hm223)) hv221 hz226 rfl rfl) rfl ?_
 rintro v230 a w ⟨m228, hm229, hS, hv227⟩ hE
 refine qa hE rfl rfl fun a hE => ?_
 refine knil (kreg ?_)
 refine sp hE (r_bin hE rfl rfl (b_add rfl)) rfl fun a hE => ?_
 refine qm hE rfl rfl fun a hE => ?_
 refine knil ?_
 exact ⟨(z225, IntKind.i64.wrap (x188 + 1)), (Option.some.inj h).symm, _, (M.le.trans hm184 (M.le.trans hm211 (M.le.trans hm223 hm229))), v230, hv227, (inR_wrap _ _), ((hS.pickL 1 [] rfl rfl rfl).pickT 4 [2, 3] rfl rfl rfl), hE.cut ⟨rfl, rfl, rfl, rfl, rfl, rfl, rfl, rfl, rfl, rfl, trivial⟩⟩
 }
 {
 have h := ite_F hd193 h
 refine kexit rfl rfl ?_
 have h := unwrap h hb191
 exact ⟨x185, h, _, hm184, v186, hv187, hS, hE.cut ⟨rfl, rfl, rfl, rfl, rfl, rfl, rfl, trivial⟩⟩
 }
 }
 }
 {
 rintro a w ⟨x166, h, m164, hm165, v167, hv168, hS, hE⟩
 unfold hayloftlaw12_MoverJoins_j5 at h
 refine kreg ?_
 refine qm hE rfl rfl fun a hE => ?_
 refine qm hE rfl rfl fun a hE => ?_
 refine st hE (st_lit (k := (kSl kApi_Version)) (xs := [x166]) (vs := [v167]) hE hS rfl Try.underlying23 Try.sizeOf25 Try.zeroValue25 ⟨hv168, trivial⟩ rfl (by decide)) rfl ?_
 rintro v175 a w ⟨m173, hm174, hS, hv172⟩ hE
 obtain ⟨z176, hz177, h⟩ := ob h
 refine st hE (st_app (k := (kSl kApi_Version)) (N := 5864062014805) hE hS rfl rfl Try.underlying23 Try.underlying23 el25 (i := 2) rfl (hv136.mono (M.le.trans hm165 hm174)) hv172 hz177 rfl rfl) rfl ?_
 rintro v181 a w ⟨m179, hm180, hS, hv178⟩ hE
 refine qa hE rfl rfl fun a hE => ?_
 refine knil ?_
 exact ⟨z176, h, _, (M.le.trans hm165 (M.le.trans hm174 hm180)), v181, hv178, (hS.pickT 3 [2] rfl rfl rfl), hE.cut ⟨rfl, rfl, rfl, rfl, rfl, rfl, trivial⟩⟩
 }
 }
 {
 rintro a w ⟨x145, h, m143, hm144, v146, hv147, hS, hE⟩
 unfold hayloftlaw12_MoverJoins_j4 at h
 refine kreg ?_
 refine sp hE (r_bin hE rfl rfl (b_add rfl)) rfl fun a hE => ?_
 refine qm hE rfl rfl fun a hE => ?_
 refine knil ?_
 exact ⟨(x145, IntKind.i64.wrap (x137 + 1)), (Option.some.inj h).symm, _, (M.le.trans hm133 hm144), v146, hv147, (inR_wrap _ _), hS, hE.cut ⟨rfl, rfl, rfl, rfl, rfl, rfl, trivial⟩⟩
 }
 }
 {
 have h := ite_F hd142 h
 refine kexit rfl rfl ?_
 have h := unwrap h hb140
 exact ⟨x134, h, _, hm133, v135, hv136, hS, hE.cut ⟨rfl, rfl, rfl, rfl, trivial⟩⟩
 }
 }
 }
 {
 rintro a w ⟨x8, h, m6, hm7, v9, hv10, hS, hE⟩
 unfold hayloftlaw12_MoverJoins_j1 at h
 refine kseq (kseq ?_)
 refine kcut (fun a w => ∃ x14 : Bool, hayloftlaw12_MoverJoins_j2 p1 x8 x14 = some r ∧ ∃ m', M.le m6 m' ∧ S W0 m' w (L) ((1, v9) :: TL) ∧ Env 71 a [(1, v1), (7, v9), (54, (.bool x14))]) ?_ ?_
 {
 refine kreg ?_
 obtain ⟨r96, hr97, h⟩ := ob h
 refine st hE (st_call (vs := []) hE rfl Try.call5 (c_hayloftlaw12_alive (hS := hS) hr97)) rfl ?_
 rintro v101 a w ⟨m98, hm99, hS, hv100⟩ hE
 obtain rfl := RV_bool hv100
 refine sp hE (r_not hE rfl) rfl fun a hE => ?_
 refine qm hE rfl rfl fun a hE => ?_
 rcases Bool.eq_false_or_eq_true (!r96) with hd104 | hd104
 {
 have h := ite_T hd104 h
 refine sx hE rfl rfl rfl rfl hd104 rfl fun a hE => ?_
 refine sx hE rfl rfl rfl rfl hd104 rfl fun a hE => ?_
 refine sx hE rfl rfl rfl rfl hd104 rfl fun a hE => ?_
 refine sx hE rfl rfl rfl rfl hd104 rfl fun a hE => ?_
 refine sx hE rfl rfl rfl rfl hd104 rfl fun a hE => ?_
 refine sx hE rfl rfl rfl rfl hd104 rfl fun a hE => ?_
 refine sx hE rfl rfl rfl rfl hd104 rfl fun a hE => ?_
 refine sx hE rfl rfl rfl rfl hd104 rfl fun a hE => ?_
 refine sx hE rfl rfl rfl rfl hd104 rfl fun a hE => ?_
 refine sx hE rfl rfl rfl rfl hd104 rfl fun a hE => ?_
 refine sp hE (r_pickT hE rfl hd104 rfl) rfl fun a hE => ?_
 refine knil ?_
 exact ⟨true, h, _, hm99, hS, hE.cut ⟨rfl, rfl, rfl, trivial⟩⟩
 }
 {
 have h := ite_F hd104 h
 refine spg hE rfl rfl rfl rfl hd104 (r_move hE rfl) rfl fun a hE => ?_
 refine spg hE rfl rfl rfl rfl hd104 (r_move hE rfl) rfl fun a hE => ?_
 refine spg hE rfl rfl rfl rfl hd104 (r_move hE rfl) rfl fun a hE => ?_
 obtain ⟨r109, hr110, h⟩ := ob h
 refine stg hE rfl rfl rfl rfl hd104 (st_call (vs := [v0, v9, (.int .u64 p2)]) hE rfl Try.call7 (c_mover_Join (hS := hS) (ha0.mono (M.le.trans hm7 hm99)) (hv10.mono hm99) ha2 hr110)) rfl ?_
 rintro v114 a w ⟨m111, hm112, hS, hv113⟩ hE
 refine spg hE rfl rfl rfl rfl hd104 (r_move hE rfl) rfl fun a hE => ?_
 refine spg hE rfl rfl rfl rfl hd104 (r_move hE rfl) rfl fun a hE => ?_
 refine spg hE rfl rfl rfl rfl hd104 (r_move hE rfl) rfl fun a hE => ?_
 obtain ⟨r118, hr119, h⟩ := ob h
 refine stg hE rfl rfl rfl rfl hd104 (st_call (vs := [v0, v1, (.int .u64 p2)]) hE rfl Try.call8 (c_hayloftref12_Join (hS := hS) (ha0.mono (M.le.trans hm7 (M.le.trans hm99 hm112))) (ha1.mono (M.le.trans hm7 (M.le.trans hm99 hm112))) ha2 hr119)) rfl ?_
 rintro v123 a w ⟨m120, hm121, hS, hv122⟩ hE
 obtain ⟨r124, hr125, h⟩ := ob h
 refine stg hE rfl rfl rfl rfl hd104 (st_call (vs := [v114, v123]) hE rfl Try.call6 (c_r2_SameVersions (hS := hS) (hv113.mono hm121) hv122 hr125)) rfl ?_
 rintro v129 a w ⟨m126, hm127, hS, hv128⟩ hE
 obtain rfl := RV_bool hv128
 refine spg hE rfl rfl rfl rfl hd104 (r_not hE rfl) rfl fun a hE => ?_
 refine sp hE (r_pickF hE rfl hd104 rfl) rfl fun a hE => ?_
 refine knil ?_
 exact ⟨(!r124), h, _, (M.le.trans hm99 (M.le.trans hm112 (M.le.trans hm121 hm127))), hS, hE.cut ⟨rfl, rfl, rfl, trivial⟩⟩
 }
 }
 {
 rintro a w ⟨x14, h, m12, hm13, hS, hE⟩
 unfold hayloftlaw12_MoverJoins_j2 at h
 refine kif hE rfl (fun hd16 => ?_) (fun hd16 => ?_)
 {
 have h := ite_T hd16 h
 refine kseq (kreg ?_)
 refine qa hE rfl rfl fun a hE => ?_
 refine knil (kret ?_)
 obtain rfl := oi h
 try dsimp only
 refine Fin.mk hE (rs := [.tmp 6]) rfl (ResL.tmp hE rfl ResL.nil) ?_
 exact ⟨_, (M.le.trans hm7 hm13), (hS.dropT 1), RV_of_bool⟩
 }
 {
 have h := ite_F hd16 h
 refine kskip (kseq (kseq (kreg ?_)))
 refine qm hE rfl rfl fun a hE => ?_
 refine sp hE (r_lenSl (k := (kSl kApi_Version)) hE rfl rfl Try.underlying23 (ha1.mono (M.le.trans hm7 hm13))) rfl fun a hE => ?_
 refine qm hE rfl rfl fun a hE => ?_
 refine knil ?_
 refine kcut (fun a w => hayloftlaw12_MoverJoins_j3 = some r ∧ ∃ m', M.le m12 m' ∧ S W0 m' w (L) (TL) ∧ Env 71 a []) ?_ ?_
 {
 refine kblock ?_
 refine kloop h (fun (s : Int) a w => ∃ m', M.le m12 m' ∧ inR .i64 s ∧ S W0 m' w (L) ((1, v9) :: TL) ∧ Env 71 a [(1, v1), (7, v9), (56, (.int .i64 (p1.length : Int))), (57, (.int .i64 s))]) ?_ ?_
 {
 exact ⟨_, (M.le.refl _), (show inR .i64 0 from inR_lit (by decide)), hS, hE.cut ⟨rfl, rfl, rfl, rfl, trivial⟩⟩
 }
 {
 rintro x27 a w ⟨m25, hm26, hr28, hS, hE⟩ r29 h hb30
 have h : hayloftlaw12_MoverJoins_b1 p1 x8 x27 = some r29 := h
 unfold hayloftlaw12_MoverJoins_b1 at h
 refine kseq (kreg ?_)
 refine sp hE (r_bin hE rfl rfl b_lss) rfl fun a hE => ?_
 refine knil (kseq ?_)
 refine kif hE rfl (fun hd32 => ?_) (fun hd32 => ?_)
 {
 have h := ite_T hd32 h
 refine kskip (kseq (kblock (kseq (kreg ?_))))
 refine qm hE rfl rfl fun a hE => ?_
 refine qa hE rfl rfl fun a hE => ?_
 refine knil (kseq ?_)
 obtain ⟨x35, hx36, h⟩ := ob h
 obtain ⟨x39, hx40, h⟩ := ob h
 refine kchain (k := 8) (m := m25) (es := []) (Φ := (fun i m ws v => match i with | 0 => v = v9 | 1 => v = (.int .i64 x27) ∧ inR .i64 x27 | 2 => PR (kSl kApi_Version) m v x35 | 3 => RV (kSl kApi_Version) m v x35 | 4 => v = v1 | 5 => v = (.int .i64 x27) ∧ inR .i64 x27 | 6 => PR (kSl kApi_Version) m v x39 | 7 => RV (kSl kApi_Version) m v x39 | _ => True)) (Q := (fun c m ws L' TL' => match c with | 0 => L = L' ∧ (1, v9) :: TL = TL' | _ => False)) (cs := [⟨0, 0, false, [(7, v9)]⟩, ⟨0, 0, false, [(12, (.int .i64 x27))]⟩, ⟨0, 0, false, []⟩, ⟨0, 0, false, []⟩, ⟨0, 0, false, [(1, v1)]⟩, ⟨0, 0, false, [(12, (.int .i64 x27))]⟩, ⟨0, 0, false, []⟩, ⟨0, 0, false, []⟩]) mixed hE hS ⟨rfl, rfl⟩ rfl rfl ⟨⟨rfl, trivial⟩, ⟨rfl, trivial⟩, trivial, trivial, ⟨rfl, trivial⟩, ⟨rfl, trivial⟩, trivial, trivial, trivial⟩ (by kernel_rfl) ?_ ?_ ?_ ?_
 {
 intro i m_ m2_ ws v hm_ hp_
 match i, hp_ with
 | 0, hp_ => exact hp_
 | 1, hp_ => exact hp_
 | 2, hp_ => exact PR.mono hp_ hm_
 | 3, hp_ => exact RV.mono hp_ hm_
 | 4, hp_ => exact hp_
 | 5, hp_ => exact hp_
 | 6, hp_ => exact PR.mono hp_ hm_
 | 7, hp_ => exact RV.mono hp_ hm_
 | _ + 8, hp_ => exact trivial
 }
 {
 intro c m_ m2_ ws L_ T_ hm_ hq_
 match c, hq_ with
 | 0, ⟨e1_, e2_⟩ => exact ⟨e1_, e2_⟩
 | _ + 1, hq_ => exact hq_.elim
 }
 {
 refine ⟨?_, ?_, ?_, ?_, ?_, ?_, ?_, ?_, trivial⟩
 {
 refine cplain fun pre_ post_ L_ T_ m' a' w' hl' hp' hm' hq' hS' hE' hT' => ?_
 obtain rfl := len0 hl'
 refine Step.imp (Run1.pure (r_move hE' rfl)) ?_
 rintro _ _ ⟨rfl, rfl⟩
 exact ⟨_, M.le.refl _, hS', rfl⟩
 }
 {
 refine cplain fun pre_ post_ L_ T_ m' a' w' hl' hp' hm' hq' hS' hE' hT' => ?_
 obtain rfl := len0 hl'
 refine Step.imp (Run1.pure (r_move hE' rfl)) ?_
 rintro _ _ ⟨rfl, rfl⟩
 exact ⟨_, M.le.refl _, hS', ⟨rfl, hr28⟩⟩
 }
 {
 refine cplain fun pre_ post_ L_ T_ m' a' w' hl' hp' hm' hq' hS' hE' hT' => ?_
 obtain rfl := len0 hl'
 obtain ⟨v45, e46, q47⟩ : ∃ v, a'.tmps.getD 60 undef = v ∧ (v = v9) := ⟨_, rfl, hT' 0 (by decide) 60 rfl⟩
 have hE := hE'.add (e46.trans q47)
 obtain ⟨v48, e49, q50⟩ : ∃ v, a'.tmps.getD 61 undef = v ∧ (v = (.int .i64 x27) ∧ inR .i64 x27) := ⟨_, rfl, hT' 1 (by decide) 61 rfl⟩
 obtain ⟨q50, hr51⟩ := q50
 have hE := hE.add (e49.trans q50)
 refine Step.imp (st_index (k := (kSl kApi_Version)) hE rfl rfl Try.underlying23 Try.sizeOf25 (hv10.mono (M.le.trans hm13 (M.le.trans hm26 hm'))) hx36) ?_
 rintro v52 _ ⟨rfl, hp37⟩
 exact ⟨_, M.le.refl _, hS', hp37⟩
 }
 {
 refine cplain fun pre_ post_ L_ T_ m' a' w' hl' hp' hm' hq' hS' hE' hT' => ?_
 obtain rfl := len0 hl'
 obtain ⟨v53, e54, q55⟩ : ∃ v, a'.tmps.getD 62 undef = v ∧ (PR (kSl kApi_Version) m' v x35) := ⟨_, rfl, hT' 2 (by decide) 62 rfl⟩
 have hE := hE'.add (e54)
 refine Step.imp (st_loadM hE hS' ty25 rfl q55) ?_
 rintro v56 _ ⟨rfl, hv38⟩
 exact ⟨_, M.le.refl _, hS', hv38⟩
 }
 {
 refine cplain fun pre_ post_ L_ T_ m' a' w' hl' hp' hm' hq' hS' hE' hT' => ?_
 obtain rfl := len0 hl'
 refine Step.imp (Run1.pure (r_move hE' rfl)) ?_
 rintro _ _ ⟨rfl, rfl⟩
 exact ⟨_, M.le.refl _, hS', rfl⟩
 }
 {
 refine cplain fun pre_ post_ L_ T_ m' a' w' hl' hp' hm' hq' hS' hE' hT' => ?_
 obtain rfl := len0 hl'
 refine Step.imp (Run1.pure (r_move hE' rfl)) ?_
 rintro _ _ ⟨rfl, rfl⟩
 exact ⟨_, M.le.refl _, hS', ⟨rfl, hr28⟩⟩
 }
 {
 refine cplain fun pre_ post_ L_ T_ m' a' w' hl' hp' hm' hq' hS' hE' hT' => ?_
 obtain rfl := len0 hl'
 obtain ⟨v59, e60, q61⟩ : ∃ v, a'.tmps.getD 64 undef = v ∧ (v = v1) := ⟨_, rfl, hT' 4 (by decide) 64 rfl⟩
 have hE := hE'.add (e60.trans q61)
 obtain ⟨v62, e63, q64⟩ : ∃ v, a'.tmps.getD 65 undef = v ∧ (v = (.int .i64 x27) ∧ inR .i64 x27) := ⟨_, rfl, hT' 5 (by decide) 65 rfl⟩
 obtain ⟨q64, hr65⟩ := q64
 have hE := hE.add (e63.trans q64)
 refine Step.imp (st_index (k := (kSl kApi_Version)) hE rfl rfl Try.underlying23 Try.sizeOf25 (ha1.mono (M.le.trans hm7 (M.le.trans hm13 (M.le.trans hm26 hm')))) hx40) ?_
 rintro v66 _ ⟨rfl, hp41⟩
 exact ⟨_, M.le.refl _, hS', hp41⟩
 }
 {
 refine cplain fun pre_ post_ L_ T_ m' a' w' hl' hp' hm' hq' hS' hE' hT' => ?_
 obtain rfl := len0 hl'
 obtain ⟨v67, e68, q69⟩ : ∃ v, a'.tmps.getD 66 undef = v ∧ (PR (kSl kApi_Version) m' v x39) := ⟨_, rfl, hT' 6 (by decide) 66 rfl⟩
 have hE := hE'.add (e68)
 refine Step.imp (st_loadM hE hS' ty25 rfl q69) ?_
 rintro v70 _ ⟨rfl, hv42⟩
 exact ⟨_, M.le.refl _, hS', hv42⟩
 }
 }
 {
 intro ws_ L_ T_ m71 a w hl72 hm73 hq74 hS hd75 hn76 ho77 hT78
 obtain rfl := len0 hl72
 obtain ⟨rfl, rfl⟩ := hq74
 have hE := EnvD.of (k := 8) (l' := [(1, v1), (7, v9), (12, (.int .i64 x27)), (56, (.int .i64 (p1.length : Int))), (57, (.int .i64 x27)), (58, (.bool (decide (x27 < (p1.length : Int))))), (59, (.int .i64 x27))]) hd75 hn76 ho77 ⟨rfl, rfl, rfl, rfl, rfl, rfl, rfl, trivial⟩ rfl
 obtain ⟨v79, e80, q81⟩ : ∃ v, a.tmps.getD 63 undef = v ∧ (RV (kSl kApi_Version) m71 v x35) := ⟨_, rfl, hT78 3 (by decide) 63 rfl⟩
 have hE := hE.add (e80)
 obtain ⟨v82, e83, q84⟩ : ∃ v, a.tmps.getD 67 undef = v ∧ (RV (kSl kApi_Version) m71 v x39) := ⟨_, rfl, hT78 7 (by decide) 67 rfl⟩
 have hE := hE.add (e83)
 obtain ⟨r85, hr86, h⟩ := ob h
 refine st hE (st_call (vs := [v79, v82]) hE rfl Try.call6 (c_r2_SameVersions (hS := hS) q81 q84 hr86)) rfl ?_
 rintro v90 a w ⟨m87, hm88, hS, hv89⟩ hE
 obtain rfl := RV_bool hv89
 refine sp hE (r_not hE rfl) rfl fun a hE => ?_
 refine knil ?_
 refine kif hE rfl (fun hd92 => ?_) (fun hd92 => ?_)
 {
 have h := ite_T hd92 h
 refine kseq (kreg ?_)
 refine qa hE rfl rfl fun a hE => ?_
 refine knil (kret ?_)
 have h := unwrap h hb30
 obtain rfl := oi h
 try dsimp only
 refine Fin.mk hE (rs := [.tmp 6]) rfl (ResL.tmp hE rfl ResL.nil) ?_
 exact ⟨_, (M.le.trans hm7 (M.le.trans hm13 (M.le.trans hm26 (M.le.trans hm73 hm88)))), (hS.dropT 1), RV_of_bool⟩
 }
 {
 have h := ite_F hd92 h
 refine kskip (kreg ?_)
 refine sp hE (r_bin hE rfl rfl (b_add rfl)) rfl fun a hE => ?_
 refine qm hE rfl rfl fun a hE => ?_
 refine knil ?_
 exact ⟨IntKind.i64.wrap (x27 + 1), (Option.some.inj h).symm, _, (M.le.trans hm26 (M.le.trans hm73 hm88)), (inR_wrap _ _), hS, hE.cut ⟨rfl, rfl, rfl, rfl, trivial⟩⟩
 }
 }
 }
 {
 have h := ite_F hd32 h
 refine kexit rfl rfl ?_
 have h := unwrap h hb30
 exact ⟨h, _, hm26, (hS.pickT 1 [] rfl rfl rfl), hE.cut trivial⟩
 }
 }
 }
 {
 rintro a w ⟨h, m21, hm22, hS, hE⟩
 unfold hayloftlaw12_MoverJoins_j3 at h
 refine kseq (kreg ?_)
 refine qa hE rfl rfl fun a hE => ?_
 refine knil (kret ?_)
 obtain rfl := oi h
 try dsimp only
 refine Fin.mk hE (rs := [.tmp 6]) rfl (ResL.tmp hE rfl ResL.nil) ?_
 exact ⟨_, (M.le.trans hm7 (M.le.trans hm13 hm22)), hS, RV_of_bool⟩
 }
 }
 }
 }
end Go.Proofs.Ythbonoagbeilkaa.Hay
namespace Go.Proofs.Ythbonoagbeilkaa.Hay
open Go.RowKit Go.ChangeShapes Go.ChangeAt Go.WideShapes
section
variable {P : Program} {H : Type} {enc : TypeId × Value → H}
theorem trodAll_stays (hl : laidOutB P = true) {W W' : World} {base : Nat} {sp' : Nat → Bool} : ∀ {ts : List TypeId} {vs : List Value} {ds : List (DataW H)} {ps : List MemPlace}, (∀ t ∈ ts, P.readableRec t = true ∧ t < P.types.size) →
    DataW.TrodAll enc P W base (fun _ => true) true ts vs ds ps → (∀ p ∈ ps, W.sameAt W' p) → (∀ p ∈ ps, sp' p.block = true) → DataW.TrodAll enc P W' base sp' true ts vs ds ps
  | [], [], [], _, _, h, _, _ => h
  | [], [], _ :: _, _, _, h, _, _ => h.elim
  | [], _ :: _, _, _, _, h, _, _ => h.elim
  | _ :: _, [], _, _, _, h, _, _ => h.elim
  | _ :: _, _ :: _, [], _, _, h, _, _ => h.elim
  | t :: ts, v :: vs, d :: ds, ps, ht, h, hs, hp => by
    obtain ⟨p, q, h1, h2, rfl⟩ := h
    refine ⟨p, q, WideElems.Trod_stays hl (ht t (by simp)).1 (ht t (by simp)).2 h1 (fun x hx => hs x (by simp [hx])) (fun x hx => hp x (by simp [hx])), trodAll_stays hl (fun t h => ht t (by simp [h])) h2 (fun x hx => hs x (by simp [hx])) (fun x hx => hp x (by simp [hx])), rfl⟩
theorem post_true {f : Func} {s : ChangeSpec} {apart fresh handsOn again : Bool} {W W' : World} {args : Array Value} {ds gs : List (DataW H)} {before : List MemPlace} {tb : TypeId}
    (hW : DataW.Whole enc P f.params.toList s.vars apart W args.toList ds gs before) (hl : laidOutB P = true) (ht : ∀ t ∈ f.params.toList, P.readableRec t = true ∧ t < P.types.size)
    (hvars : s.vars = []) (hr : f.resultTypes = #[tb]) (hb : P.underlying tb = some .bool) (hfn : s.fn H (ds ++ gs) = { results := [.lit (.bool true)], args := ds }) (hB : Below W.heap.size W W') :
    s.post enc P f apart fresh handsOn again W args (.bool true) W' := by
  have hlt := fun p hp => hW.lt p hp
  have hW2 := hW
  obtain ⟨p, q, hA, hV, hps, hz, hn⟩ := hW2
  rw [hvars] at hV
  obtain ⟨hg, hq⟩ := trodVars_none hV
  have hbp : before = p := by rw [hps, hq]; simp
  have hres : ∀ (b : Nat) (sp : Nat → Bool) (hd : Bool), DataW.TrodAll enc P W' b sp hd f.resultTypes.toList ((Value.bool true).resultList f.resultTypes.size) (s.fn H (ds ++ gs)).results [] := fun b sp hd => by
    rw [hr, hfn]
    exact trodAll_cons_mk (shut_bool hb _) trodAll_mk0
  have hargs : ∀ sp : Nat → Bool, (∀ x ∈ before, sp x.block = true) → DataW.TrodAll enc P W' 0 sp true f.params.toList args.toList (s.fn H (ds ++ gs)).args p := fun sp hsp => by
    rw [hfn]
    refine trodAll_stays hl ht hA (fun x hx => hB.same (hlt x (by rw [hbp]; exact hx))) (fun x hx => hsp x (by rw [hbp]; exact hx))
  have hvars' : ∀ sp : Nat → Bool, DataW.TrodVars enc P W' sp s.vars (s.fn H (ds ++ gs)).vars [] := fun sp => by
    rw [hvars, hfn]; exact rfl
  have hold : ∀ x ∈ before, (fun b => decide (b < W.heap.size)) x.block = true := fun x hx => by simpa using hlt x hx
  refine ⟨ds, gs, before, [], p, [], hW, hres _ _ _, hargs _ hold, hvars' _, hB.frame _, fun _ => ?_⟩
  refine ⟨ok_one hr rfl (okWide_bool_mk hb _), _, _, ([] ++ p) ++ [], ⟨[] ++ p, [], trodAll_append (hargs _ (fun _ _ => rfl)) (hres _ _ _), hvars' _, rfl, ?_, ?_⟩, ?_⟩
  · intro b off hp
    have hm : MemPlace.cell b off ∈ before := by rw [hbp]; simpa using hp
    have := hlt _ hm
    rw [hB.frozen (p := ⟨b, off, none⟩) this]
    exact hz b off hm
  · intro ha
    have := hn ha
    rw [hbp] at this
    simpa using this
  · intro x hx _
    rw [hbp]
    simpa using hx
structure Okw (P : Program) (W : World) (r : Reach) (b : Nat) (t : TypeId) (v : Value) : Prop where
  ok : Value.okWide P W r b t v
theorem okw_of {W : World} {r : Reach} {b0 : Nat} {ts : Array TypeId} {args : Array Value} (h : ∀ (j : Nat) t v, ts[j]? = some t → args[j]? = some v → Value.okWide P W r b0 t v) (j : Nat) {t : TypeId} {v : Value} (h1 : ts[j]? = some t) (h2 : args[j]? = some v) : Okw P W r b0 t v :=
  ⟨h j t v h1 h2⟩
theorem arg_int {r : Reach} {b0 : Nat} {W : World} {t : TypeId} {k : IntKind} {v : Value} {d : DataW H} {ps : List MemPlace} {base : Nat} {spare : Nat → Bool} {held : Bool} (ht : P.underlying t = some (.int k)) (hval : Okw P W r b0 t v) (hd : DataW.Trod enc P W base spare held t v d ps) :
    ∃ n, v = .int k n ∧ inR k n := by
  obtain ⟨n, rfl, _, _, hw⟩ := open_int ht hval.ok hd
  refine ⟨n, rfl, ?_⟩
  rw [inR_bd]
  simpa [Lit.wf] using hw
theorem arg_slice {r : Reach} {b0 : Nat} {W : World} {t e : TypeId} {α : Type} {k : Kd α} {sz : List α → Nat} {v : Value} {d : DataW H} {ps : List MemPlace} (B : Bulk H) (ht : P.underlying t = some (.slice e)) (hrd : Rd P t (kSl k) sz) (hval : Okw P W r b0 t v) (hd : DataW.Trod enc P W 0 (fun _ => true) true t v d ps) (hb : B.b d ≤ 1099511627776) :
    ∃ xs, RV (kSl k) (m0 W) v xs ∧ sz xs ≤ B.b d := by
  obtain ⟨a, len, cap, rfl⟩ := okWide_slice ht hval.ok
  obtain ⟨fuel, hf⟩ := hd
  obtain ⟨xs, hx, hs⟩ := hrd enc B W fuel _ d ps hf hb
  exact ⟨xs, ⟨_, hx, rfl⟩, hs⟩
end
theorem sum_one {α : Type} (xs : List α) : (xs.map fun _ => 1).sum = xs.length := by
  induction xs with
  | nil => rfl
  | cons a r ih => simp [ih]; omega
theorem sum_ge {α : Type} (f : α → Nat) (xs : List α) (h : ∀ x, 1 ≤ f x) : xs.length ≤ (xs.map f).sum := by
  induction xs with
  | nil => simp
  | cons a r ih => have := h a; simp; omega
end Go.Proofs.Ythbonoagbeilkaa.Hay
namespace Go.Proofs.Ythbonoagbeilkaa.Hay
open Go.ChangeShapes Go.WideShapes Go.ChangeAt Go.RowKit
theorem own : ownKnob Try.prog.godebug = none := by kernel_rfl
theorem laidAll : laidOutB Try.prog = true := by kernel_rfl
theorem bulk_one {H : Type} (d : DataW H) : 1 ≤ Rows.uptoBulk d := by
  cases d with
  | lit l => cases l <;> simp [Rows.uptoBulk]
  | nil => simp [Rows.uptoBulk]
  | ptr d => simp [Rows.uptoBulk]
  | slice elems spare => simp [Rows.uptoBulk]
  | agg parts => simp [Rows.uptoBulk]
  | iface t d => simp [Rows.uptoBulk]
  | map entries => simp [Rows.uptoBulk]
  | held h => simp [Rows.uptoBulk]
def bulk (H : Type) : Bulk H := {
  b := Rows.uptoBulk
  ba := Rows.uptoBulkAll
  str := fun s => by simp [Rows.uptoBulk]
  one := bulk_one
  slice := fun e s => by simp [Rows.uptoBulk]
  agg := fun l => by simp [Rows.uptoBulk]
  nil := by simp [Rows.uptoBulkAll]
  cons := fun d r => by simp [Rows.uptoBulkAll]
  }
theorem rd3 : Rd Try.prog 3 (kInt .i64) (fun _ => 1) := Rd_int Try.underlying3
theorem rd24 : Rd Try.prog 24 (kInt .u64) (fun _ => 1) := Rd_int Try.underlying24
theorem rd26 : Rd Try.prog 26 (kInt .u32) (fun _ => 1) := Rd_int Try.underlying26
theorem rd22 : Rd Try.prog 22 (kSl (kInt .i64)) (fun xs => (xs.map fun _ => 1).sum + 1) := Rd_slice Try.underlying22 (by kernel_rfl) rd3
def unApi : Int × Bool × Int × List Int → Ap := fun x => ⟨x.1, x.2.1, x.2.2.1, x.2.2.2⟩
def szApi : Int × Bool × Int × List Int → Nat := fun x => 1 + (1 + (1 + (x.2.2.2.length + 1)))
theorem rd38 : Rd Try.prog 38 kAp (fun y => szApi (Ap.pr y) + 1) := by
  refine Rd_struct (gi := unApi) (sz := szApi) Try.underlying38 (by kernel_rfl) ?_ (fun x => rfl)
  show RdF Try.prog (_ :: _ :: _ :: _ :: []) 0 (kPair (kInt .i64) (kPair kBool (kPair (kInt .i64) kStr))) (fun x => 1 + (1 + (1 + (x.2.2.2.length + 1))))
  refine RdF_cons (k := kInt .i64) (sz := fun _ => 1) (k' := kPair kBool (kPair (kInt .i64) kStr)) (sz' := fun x => 1 + (1 + (x.2.2.length + 1))) (Rd_int Try.underlying3) rfl (by kernel_rfl) ?_
  refine RdF_cons (k := kBool) (sz := fun _ => 1) (k' := kPair (kInt .i64) kStr) (sz' := fun x => 1 + (x.2.length + 1)) (Rd_bool Try.underlying4) rfl (by kernel_rfl) ?_
  refine RdF_cons (k := kInt .i64) (sz := fun _ => 1) (k' := kStr) (sz' := fun x => x.length + 1) (Rd_int Try.underlying2) rfl (by kernel_rfl) ?_
  exact RdF_one (k := kStr) (sz := fun x => x.length + 1) (Rd_str Try.underlying9) rfl (by kernel_rfl)
def szRow (xs : List Ap) : Nat := (xs.map fun y => szApi (Ap.pr y) + 1).sum + 1
theorem rd29 : Rd Try.prog 29 (kSl kAp) szRow := Rd_slice Try.underlying29 (by kernel_rfl) rd38
def unId : Int × Int → Api_RowId := fun x => ⟨x.1, x.2⟩
theorem rd28 : Rd Try.prog 28 kApi_RowId (fun _ => 1 + 1 + 1) := by
  refine Rd_struct (gi := unId) (sz := fun _ : Int × Int => 1 + 1) Try.underlying28 (by kernel_rfl) ?_ (fun x => rfl)
  show RdF Try.prog (_ :: _ :: []) 0 (kPair (kInt .u64) (kInt .u32)) (fun _ => 1 + 1)
  refine RdF_cons (k := kInt .u64) (sz := fun _ => 1) (k' := kInt .u32) (sz' := fun _ : Int => 1) rd24 rfl (by kernel_rfl) ?_
  exact RdF_one (k := kInt .u32) (sz := fun _ => 1) rd26 rfl (by kernel_rfl)
def unVer : Api_RowId × List Ap × Int → Api_Version := fun x => ⟨x.1, x.2.1, x.2.2⟩
def szVer (y : Api_Version) : Nat := (1 + 1 + 1) + (szRow y.fRow + 1) + 1
theorem rd31 : Rd Try.prog 31 kApi_Version szVer := by
  refine Rd_struct (gi := unVer) (sz := fun x : Api_RowId × List Ap × Int => (1 + 1 + 1) + (szRow x.2.1 + 1)) Try.underlying31 (by kernel_rfl) ?_ (fun x => rfl)
  show RdF Try.prog (_ :: _ :: _ :: []) 0 (kPair kApi_RowId (kPair (kSl kAp) (kInt .u64))) (fun x => (1 + 1 + 1) + (szRow x.2.1 + 1))
  refine RdF_cons (k := kApi_RowId) (sz := fun _ => 1 + 1 + 1) (k' := kPair (kSl kAp) (kInt .u64)) (sz' := fun x : List Ap × Int => szRow x.1 + 1) rd28 rfl (by kernel_rfl) ?_
  refine RdF_cons (k := kSl kAp) (sz := szRow) (k' := kInt .u64) (sz' := fun _ : Int => 1) rd29 rfl (by kernel_rfl) ?_
  exact RdF_one (k := kInt .u64) (sz := fun _ => 1) rd24 rfl (by kernel_rfl)
def szVers (xs : List Api_Version) : Nat := (xs.map szVer).sum + 1
theorem rd25 : Rd Try.prog 25 (kSl kApi_Version) szVers := Rd_slice Try.underlying25 (by kernel_rfl) rd31
theorem rd23 : Rd Try.prog 23 (kSl (kSl kApi_Version)) (fun xs => (xs.map szVers).sum + 1) := Rd_slice Try.underlying23 (by kernel_rfl) rd25
theorem sp22 : Try.prog.readableRec 22 = true ∧ 22 < Try.prog.types.size := ⟨by kernel_rfl, of_decide_eq_true (by kernel_rfl)⟩
theorem sp23 : Try.prog.readableRec 23 = true ∧ 23 < Try.prog.types.size := ⟨by kernel_rfl, of_decide_eq_true (by kernel_rfl)⟩
theorem sp24 : Try.prog.readableRec 24 = true ∧ 24 < Try.prog.types.size := ⟨by kernel_rfl, of_decide_eq_true (by kernel_rfl)⟩
theorem sum_mem {α : Type} (f : α → Nat) : ∀ (xs : List α) (x : α), x ∈ xs → f x ≤ (xs.map f).sum
  | y :: ys, x, h => by
    simp only [List.map_cons, List.sum_cons]
    rcases List.mem_cons.1 h with rfl | h
    · omega
    · have := sum_mem f ys x h; omega
theorem len22 {xs : List Int} {n : Nat} (h : (xs.map fun _ => 1).sum + 1 ≤ n) (hn : n ≤ 1048576) : xs.length ≤ 1048576 := by
  rw [sum_one] at h; omega
theorem szVers_ge (xs : List Api_Version) : xs.length ≤ szVers xs := by
  have := sum_ge szVer xs (fun y => by unfold szVer; omega)
  unfold szVers; omega
theorem flat_sum : ∀ xs : List (List Api_Version), xs.flatten.length ≤ (xs.map szVers).sum
  | [] => by simp
  | x :: xs => by
    have h1 := flat_sum xs
    have h2 := szVers_ge x
    simp only [List.flatten_cons, List.length_append, List.map_cons, List.sum_cons]
    omega
theorem len23 {xs : List (List Api_Version)} {n : Nat} (h : (xs.map szVers).sum + 1 ≤ n) (hn : n ≤ 1048576) : xs.length ≤ 1048576 ∧ xs.flatten.length ≤ 1048576 ∧ ∀ l ∈ xs, Rok l := by
  have h1 := sum_ge szVers xs (fun y => by unfold szVers; omega)
  have h2 := flat_sum xs
  refine ⟨by omega, by omega, fun l hl v hv => ?_⟩
  have h3 := sum_mem szVers xs l hl
  have h4 := sum_mem szVer l v hv
  have h5 := sum_ge (fun y => szApi (Ap.pr y) + 1) v.fRow (fun y => by omega)
  have h6 : v.fRow.length + 1 ≤ szVer v := by
    unfold szVer szRow; omega
  have h7 : (l.map szVer).sum + 1 ≤ (xs.map szVers).sum := h3
  omega
end Go.Proofs.Ythbonoagbeilkaa.Hay
