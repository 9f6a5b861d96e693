import Derived.Test.YthbonoagbeilkaaHbA
import Derived.Test.YthbonoagbeilkaaProg
set_option linter.unusedVariables false
namespace Go.Proofs.Ythbonoagbeilkaa.Hay
noncomputable section
structure Ap where
  fKind : Int
  fBool : Bool
  fInt : Int
  fText : (List Int)
  deriving DecidableEq
def Ap.zero : Ap := ⟨0, false, 0, []⟩
structure Api_RowId where
  fEpoch : Int
  fNumber : Int
  deriving DecidableEq
def Api_RowId.zero : Api_RowId := ⟨0, 0⟩
structure Api_Version where
  fId : Api_RowId
  fRow : (List Ap)
  fDeleted : Int
  deriving DecidableEq
def Api_Version.zero : Api_Version := ⟨Api_RowId.zero, [], 0⟩
def r2_Copy (p0 : (List Ap)) : Option (List Ap) :=
  (app 3518437208883 ([]) p0).bind fun z7 =>
  some z7
def slices_Grow_Version_n0_j2 (x19 : (List Api_Version)) : Option (List Api_Version) :=
  some x19
def slices_Grow_Version_n0_j1 (p1 : Int) : Option (List Api_Version) :=
  if decide (0 < (IntKind.i64.wrap (p1 - (IntKind.i64.wrap (0 - 0))))) then
    (chk (decide (0 < (IntKind.i64.wrap (p1 - (IntKind.i64.wrap (0 - 0)))) ∧ (IntKind.i64.wrap (p1 - (IntKind.i64.wrap (0 - 0)))) * 48 ≤ 140737488355328 ∧ (IntKind.i64.wrap (p1 - (IntKind.i64.wrap (0 - 0)))) ≤ 281474976710656))).bind fun u35 =>
    slices_Grow_Version_n0_j2 ([] : List Api_Version)
  else
    slices_Grow_Version_n0_j2 ([])
def slices_Grow_Version_n0 (p1 : Int) : Option (List Api_Version) :=
  if decide (p1 < 0) then
    none
  else
    slices_Grow_Version_n0_j1 p1
def slices_Concat_Version_j2 (x24 : (List Api_Version)) : Option (List Api_Version) :=
  some x24
def slices_Concat_Version_b1 (p0 : (List (List Api_Version))) (x32 : (List Api_Version)) (x35 : Int) : Option (((List Api_Version) × Int) ⊕ (List Api_Version)) :=
  if decide (x35 < (p0.length : Int)) then
    (idx p0 x35).bind fun x41 =>
    (app 2932031007402 x32 x41).bind fun z50 =>
    some (.inl (z50, IntKind.i64.wrap (x35 + 1)))
  else
    (slices_Concat_Version_j2 x32).map Sum.inr
def slices_Concat_Version_j1 (p0 : (List (List Api_Version))) (x8 : Int) : Option (List Api_Version) :=
  (slices_Grow_Version_n0 x8).bind fun r12 =>
  loopO (fun s : ((List Api_Version) × Int) => slices_Concat_Version_b1 p0 s.1 s.2) (r12, 0)
def slices_Concat_Version_j3 (x61 : Int) (x63 : Int) (x69 : (List Api_Version)) : Option ((Int × Int) ⊕ (List Api_Version)) :=
  some (.inl (IntKind.i64.wrap (x61 + (x69.length : Int)), IntKind.i64.wrap (x63 + 1)))
def slices_Concat_Version_b2 (p0 : (List (List Api_Version))) (x61 : Int) (x63 : Int) : Option ((Int × Int) ⊕ (List Api_Version)) :=
  if decide (x63 < (p0.length : Int)) then
    (idx p0 x63).bind fun x69 =>
    if decide ((IntKind.i64.wrap (x61 + (x69.length : Int))) < 0) then
      none
    else
      slices_Concat_Version_j3 x61 x63 x69
  else
    (slices_Concat_Version_j1 p0 x61).map Sum.inr
def slices_Concat_Version (p0 : (List (List Api_Version))) : Option (List Api_Version) :=
  loopO (fun s : (Int × Int) => slices_Concat_Version_b2 p0 s.1 s.2) (0, 0)
def slices_Values_Version (p0 : (List Api_Version)) : Option (List Api_Version) :=
  some p0
def slices_Clone_Value (p0 : (List Ap)) : Option (List Ap) :=
  (app 3518437208883 ([]) p0).bind fun z13 =>
  some z13
def rosfile_own (p0 : Api_Version) : Option Api_Version :=
  (slices_Clone_Value p0.fRow).bind fun r10 =>
  some ({ p0 with fRow := r10 })
def value_Null  : Option Ap :=
  some (⟨0, false, 0, []⟩ : Ap)
def rosfile_key_j1 (x8 : (List Ap)) : Option (List Ap) :=
  some x8
def rosfile_key_j3 (x16 : (List Ap)) (x19 : Int) (x50 : Ap) : Option (((List Ap) × Int) ⊕ (List Ap)) :=
  (app 3518437208883 x16 ([x50])).bind fun z61 =>
  some (.inl (z61, IntKind.i64.wrap (x19 + 1)))
def rosfile_key_j2 (p1 : (List Ap)) (x16 : (List Ap)) (x19 : Int) (x25 : Int) (r33 : Ap) (x46 : Bool) : Option (((List Ap) × Int) ⊕ (List Ap)) :=
  if x46 then
    (idx p1 x25).bind fun x73 =>
    rosfile_key_j3 x16 x19 x73
  else
    rosfile_key_j3 x16 x19 r33
def rosfile_key_b1 (p0 : (List Int)) (p1 : (List Ap)) (x16 : (List Ap)) (x19 : Int) : Option (((List Ap) × Int) ⊕ (List Ap)) :=
  if decide (x19 < (p0.length : Int)) then
    (idx p0 x19).bind fun x25 =>
    (value_Null).bind fun r33 =>
    if decide (0 ≤ x25) then
      rosfile_key_j2 p1 x16 x19 x25 r33 (decide (x25 < (p1.length : Int)))
    else
      rosfile_key_j2 p1 x16 x19 x25 r33 false
  else
    (rosfile_key_j1 x16).map Sum.inr
def rosfile_key (p0 : (List Int)) (p1 : (List Ap)) : Option (List Ap) :=
  loopO (fun s : ((List Ap) × Int) => rosfile_key_b1 p0 p1 s.1 s.2) ([], 0)
def cmp_isNaN_int (p0 : Int) : Option Bool :=
  some (p0 != p0)
def cmp_Compare_int (p0 : Int) (p1 : Int) : Option Int :=
  (cmp_isNaN_int p0).bind fun r3 =>
  (cmp_isNaN_int p1).bind fun r11 =>
  if r3 then
    if r11 then
      some 0
    else
      some (-1)
  else
    if r11 then
      some 1
    else
      if decide (p0 < p1) then
        some (-1)
      else
        if decide (p1 < p0) then
          some 1
        else
          some 0
def cmp_isNaN_int64 (p0 : Int) : Option Bool :=
  some (p0 != p0)
def cmp_Compare_int64 (p0 : Int) (p1 : Int) : Option Int :=
  (cmp_isNaN_int64 p0).bind fun r3 =>
  (cmp_isNaN_int64 p1).bind fun r11 =>
  if r3 then
    if r11 then
      some 0
    else
      some (-1)
  else
    if r11 then
      some 1
    else
      if decide (p0 < p1) then
        some (-1)
      else
        if decide (p1 < p0) then
          some 1
        else
          some 0
def bytealg_CompareString (p0 : (List Int)) (p1 : (List Int)) : Option Int :=
  some (cmpB p0 p1)
def strings_Compare (p0 : (List Int)) (p1 : (List Int)) : Option Int :=
  (bytealg_CompareString p0 p1).bind fun r4 =>
  some r4
def value_Compare_j1 (p0 : Ap) (p1 : Ap) (x39 : Bool) : Option Int :=
  if x39 then
    if p1.fBool then
      some (-1)
    else
      some 1
  else
    if p0.fKind == 2 then
      (cmp_Compare_int64 p0.fInt p1.fInt).bind fun r63 =>
      some r63
    else
      if p0.fKind == 3 then
        (strings_Compare p0.fText p1.fText).bind fun r88 =>
        some r88
      else
        some 0
def value_Compare (p0 : Ap) (p1 : Ap) : Option Int :=
  if p0.fKind != p1.fKind then
    (cmp_Compare_int p0.fKind p1.fKind).bind fun r29 =>
    some r29
  else
    if p0.fKind == 1 then
      value_Compare_j1 p0 p1 (!(p0.fBool == p1.fBool))
    else
      value_Compare_j1 p0 p1 false
def value_Rows_j1 (p0 : (List Ap)) (p1 : (List Ap)) : Option Int :=
  (cmp_Compare_int (p0.length : Int) (p1.length : Int)).bind fun r15 =>
  some r15
def value_Rows_b1 (p0 : (List Ap)) (p1 : (List Ap)) (x25 : Int) : Option (Int ⊕ Int) :=
  if decide (x25 < (if (p1.length : Int) < (p0.length : Int) then (p1.length : Int) else (p0.length : Int))) then
    (idx p0 x25).bind fun x33 =>
    (idx p1 x25).bind fun x37 =>
    (value_Compare x33 x37).bind fun r83 =>
    if r83 != 0 then
      (some r83).map Sum.inr
    else
      some (.inl (IntKind.i64.wrap (x25 + 1)))
  else
    (value_Rows_j1 p0 p1).map Sum.inr
def value_Rows (p0 : (List Ap)) (p1 : (List Ap)) : Option Int :=
  loopO (fun s : Int => value_Rows_b1 p0 p1 s) 0
def cmp_isNaN_uint64 (p0 : Int) : Option Bool :=
  some (p0 != p0)
def cmp_Compare_uint64 (p0 : Int) (p1 : Int) : Option Int :=
  (cmp_isNaN_uint64 p0).bind fun r3 =>
  (cmp_isNaN_uint64 p1).bind fun r11 =>
  if r3 then
    if r11 then
      some 0
    else
      some (-1)
  else
    if r11 then
      some 1
    else
      if decide (p0 < p1) then
        some (-1)
      else
        if decide (p1 < p0) then
          some 1
        else
          some 0
def cmp_isNaN_uint32 (p0 : Int) : Option Bool :=
  some (p0 != p0)
def cmp_Compare_uint32 (p0 : Int) (p1 : Int) : Option Int :=
  (cmp_isNaN_uint32 p0).bind fun r3 =>
  (cmp_isNaN_uint32 p1).bind fun r11 =>
  if r3 then
    if r11 then
      some 0
    else
      some (-1)
  else
    if r11 then
      some 1
    else
      if decide (p0 < p1) then
        some (-1)
      else
        if decide (p1 < p0) then
          some 1
        else
          some 0
def cmp_Or_int_j1  : Option Int :=
  some 0
def cmp_Or_int_b1 (p0 : (List Int)) (x13 : Int) : Option (Int ⊕ Int) :=
  if decide (x13 < (p0.length : Int)) then
    (idx p0 x13).bind fun x19 =>
    if x19 != 0 then
      (some x19).map Sum.inr
    else
      some (.inl (IntKind.i64.wrap (x13 + 1)))
  else
    (cmp_Or_int_j1).map Sum.inr
def cmp_Or_int (p0 : (List Int)) : Option Int :=
  loopO (fun s : Int => cmp_Or_int_b1 p0 s) 0
def rosfile_order (p0 : Api_RowId) (p1 : Api_RowId) : Option Int :=
  (cmp_Compare_uint64 p0.fEpoch p1.fEpoch).bind fun r14 =>
  (cmp_Compare_uint32 p0.fNumber p1.fNumber).bind fun r78 =>
  (cmp_Or_int ([r14, r78])).bind fun r89 =>
  some r89
def rosfile_Sorted_1 (p0 : Api_Version) (p1 : Api_Version) (p2 : (List Int)) : Option Int :=
  (rosfile_key p2 p0.fRow).bind fun r12 =>
  (rosfile_key p2 p1.fRow).bind fun r19 =>
  (value_Rows r12 r19).bind fun r24 =>
  (rosfile_order p0.fId p1.fId).bind fun r94 =>
  (cmp_Or_int ([r24, r94])).bind fun r105 =>
  some r105
def slices_insertionSortCmpFunc_Version_j1 (x6 : Int) (x19 : (List Api_Version)) : Option ((Int × (List Api_Version)) ⊕ (List Api_Version)) :=
  some (.inl (IntKind.i64.wrap (x6 + 1), x19))
def slices_insertionSortCmpFunc_Version_j2 (x6 : Int) (x30 : Int) (x32 : (List Api_Version)) (x39 : Bool) : Option ((Int × (List Api_Version)) ⊕ ((Int × (List Api_Version)) ⊕ (List Api_Version))) :=
  if x39 then
    (ix x32 (IntKind.i64.wrap (x30 - 1))).bind fun j42 =>
    (x32[j42]?).bind fun x45 =>
    (ix x32 x30).bind fun j47 =>
    (x32[j47]?).bind fun x50 =>
    (ix x32 x30).bind fun j52 =>
    (x32[j52]?).bind fun x56 =>
    (ix (x32.set j52 x45) (IntKind.i64.wrap (x30 - 1))).bind fun j134 =>
    ((x32.set j52 x45)[j134]?).bind fun x139 =>
    some (.inl (IntKind.i64.wrap (x30 - 1), ((x32.set j52 x45).set j134 x50)))
  else
    (slices_insertionSortCmpFunc_Version_j1 x6 x32).map Sum.inr
def slices_insertionSortCmpFunc_Version_b2 (p1 : Int) (p3 : (Api_Version → Api_Version → Option Int)) (x6 : Int) (x30 : Int) (x32 : (List Api_Version)) : Option ((Int × (List Api_Version)) ⊕ ((Int × (List Api_Version)) ⊕ (List Api_Version))) :=
  if decide (p1 < x30) then
    (ix x32 x30).bind fun j146 =>
    (x32[j146]?).bind fun x149 =>
    (ix x32 (IntKind.i64.wrap (x30 - 1))).bind fun j151 =>
    (x32[j151]?).bind fun x154 =>
    (p3 x149 x154).bind fun r249 =>
    slices_insertionSortCmpFunc_Version_j2 x6 x30 x32 (decide (r249 < 0))
  else
    slices_insertionSortCmpFunc_Version_j2 x6 x30 x32 false
def slices_insertionSortCmpFunc_Version_b1 (p1 : Int) (p2 : Int) (p3 : (Api_Version → Api_Version → Option Int)) (x6 : Int) (x8 : (List Api_Version)) : Option ((Int × (List Api_Version)) ⊕ (List Api_Version)) :=
  if decide (x6 < p2) then
    loopO (fun s : (Int × (List Api_Version)) => slices_insertionSortCmpFunc_Version_b2 p1 p3 x6 s.1 s.2) (x6, x8)
  else
    (some x8).map Sum.inr
def slices_insertionSortCmpFunc_Version (p0 : (List Api_Version)) (p1 : Int) (p2 : Int) (p3 : (Api_Version → Api_Version → Option Int)) : Option (List Api_Version) :=
  loopO (fun s : (Int × (List Api_Version)) => slices_insertionSortCmpFunc_Version_b1 p1 p2 p3 s.1 s.2) (IntKind.i64.wrap (p1 + 1), p0)
def slices_swapRangeCmpFunc_Version_b1 (p1 : Int) (p2 : Int) (p3 : Int) (x4 : Int) (x6 : (List Api_Version)) : Option ((Int × (List Api_Version)) ⊕ (List Api_Version)) :=
  if decide (x4 < p3) then
    (ix x6 (IntKind.i64.wrap (p2 + x4))).bind fun j15 =>
    (x6[j15]?).bind fun x18 =>
    (ix x6 (IntKind.i64.wrap (p1 + x4))).bind fun j20 =>
    (x6[j20]?).bind fun x23 =>
    (ix x6 (IntKind.i64.wrap (p1 + x4))).bind fun j25 =>
    (x6[j25]?).bind fun x29 =>
    (ix (x6.set j25 x18) (IntKind.i64.wrap (p2 + x4))).bind fun j137 =>
    ((x6.set j25 x18)[j137]?).bind fun x142 =>
    some (.inl (IntKind.i64.wrap (x4 + 1), ((x6.set j25 x18).set j137 x23)))
  else
    (some x6).map Sum.inr
def slices_swapRangeCmpFunc_Version (p0 : (List Api_Version)) (p1 : Int) (p2 : Int) (p3 : Int) (p4 : (Api_Version → Api_Version → Option Int)) : Option (List Api_Version) :=
  loopO (fun s : (Int × (List Api_Version)) => slices_swapRangeCmpFunc_Version_b1 p1 p2 p3 s.1 s.2) (0, p0)
def slices_rotateCmpFunc_Version_j1 (p2 : Int) (p4 : (Api_Version → Api_Version → Option Int)) (x11 : Int) (x13 : (List Api_Version)) : Option (List Api_Version) :=
  (slices_swapRangeCmpFunc_Version x13 (IntKind.i64.wrap (p2 - x11)) p2 x11 p4).bind fun r24 =>
  some r24
def slices_rotateCmpFunc_Version_b1 (p2 : Int) (p4 : (Api_Version → Api_Version → Option Int)) (x33 : Int) (x35 : Int) (x37 : (List Api_Version)) : Option ((Int × Int × (List Api_Version)) ⊕ (List Api_Version)) :=
  if x33 != x35 then
    if decide (x35 < x33) then
      (slices_swapRangeCmpFunc_Version x37 (IntKind.i64.wrap (p2 - x33)) p2 x35 p4).bind fun r57 =>
      some (.inl (IntKind.i64.wrap (x33 - x35), x35, r57))
    else
      (slices_swapRangeCmpFunc_Version x37 (IntKind.i64.wrap (p2 - x33)) (IntKind.i64.wrap ((IntKind.i64.wrap (p2 + x35)) - x33)) x33 p4).bind fun r79 =>
      some (.inl (x33, IntKind.i64.wrap (x35 - x33), r79))
  else
    (slices_rotateCmpFunc_Version_j1 p2 p4 x33 x37).map Sum.inr
def slices_rotateCmpFunc_Version (p0 : (List Api_Version)) (p1 : Int) (p2 : Int) (p3 : Int) (p4 : (Api_Version → Api_Version → Option Int)) : Option (List Api_Version) :=
  loopO (fun s : (Int × Int × (List Api_Version)) => slices_rotateCmpFunc_Version_b1 p2 p4 s.1 s.2.1 s.2.2) (IntKind.i64.wrap (p2 - p1), IntKind.i64.wrap (p3 - p2), p0)
def slices_symMergeCmpFunc_Version_j2 (x19 : (List Api_Version)) : Option (List Api_Version) :=
  some x19
def slices_symMergeCmpFunc_Version_b1 (x12 : Int) (x25 : Int) (x27 : (List Api_Version)) : Option ((Int × (List Api_Version)) ⊕ (List Api_Version)) :=
  if decide (x25 < (IntKind.i64.wrap (x12 - 1))) then
    (ix x27 (IntKind.i64.wrap (x25 + 1))).bind fun j37 =>
    (x27[j37]?).bind fun x40 =>
    (ix x27 x25).bind fun j42 =>
    (x27[j42]?).bind fun x45 =>
    (ix x27 x25).bind fun j47 =>
    (x27[j47]?).bind fun x51 =>
    (ix (x27.set j47 x40) (IntKind.i64.wrap (x25 + 1))).bind fun j129 =>
    ((x27.set j47 x40)[j129]?).bind fun x134 =>
    some (.inl (IntKind.i64.wrap (x25 + 1), ((x27.set j47 x40).set j129 x45)))
  else
    (slices_symMergeCmpFunc_Version_j2 x27).map Sum.inr
def slices_symMergeCmpFunc_Version_j1 (p0 : (List Api_Version)) (p1 : Int) (x12 : Int) : Option (List Api_Version) :=
  loopO (fun s : (Int × (List Api_Version)) => slices_symMergeCmpFunc_Version_b1 x12 s.1 s.2) (p1, p0)
def slices_symMergeCmpFunc_Version_b2 (p0 : (List Api_Version)) (p1 : Int) (p4 : (Api_Version → Api_Version → Option Int)) (x142 : Int) (x144 : Int) : Option ((Int × Int) ⊕ (List Api_Version)) :=
  if decide (x142 < x144) then
    (ix p0 (IntKind.i64.wrap (iShr .u64 (IntKind.u64.wrap (IntKind.i64.wrap (x142 + x144))) 1))).bind fun j159 =>
    (p0[j159]?).bind fun x162 =>
    (ix p0 p1).bind fun j164 =>
    (p0[j164]?).bind fun x167 =>
    (p4 x162 x167).bind fun r215 =>
    if decide (r215 < 0) then
      some (.inl (IntKind.i64.wrap ((IntKind.i64.wrap (iShr .u64 (IntKind.u64.wrap (IntKind.i64.wrap (x142 + x144))) 1)) + 1), x144))
    else
      some (.inl (x142, IntKind.i64.wrap (iShr .u64 (IntKind.u64.wrap (IntKind.i64.wrap (x142 + x144))) 1)))
  else
    (slices_symMergeCmpFunc_Version_j1 p0 p1 x142).map Sum.inr
def slices_symMergeCmpFunc_Version_j4 (x247 : (List Api_Version)) : Option (List Api_Version) :=
  some x247
def slices_symMergeCmpFunc_Version_b3 (x240 : Int) (x253 : Int) (x255 : (List Api_Version)) : Option ((Int × (List Api_Version)) ⊕ (List Api_Version)) :=
  if decide (x240 < x253) then
    (ix x255 (IntKind.i64.wrap (x253 - 1))).bind fun j264 =>
    (x255[j264]?).bind fun x267 =>
    (ix x255 x253).bind fun j269 =>
    (x255[j269]?).bind fun x272 =>
    (ix x255 x253).bind fun j274 =>
    (x255[j274]?).bind fun x278 =>
    (ix (x255.set j274 x267) (IntKind.i64.wrap (x253 - 1))).bind fun j356 =>
    ((x255.set j274 x267)[j356]?).bind fun x361 =>
    some (.inl (IntKind.i64.wrap (x253 - 1), ((x255.set j274 x267).set j356 x272)))
  else
    (slices_symMergeCmpFunc_Version_j4 x255).map Sum.inr
def slices_symMergeCmpFunc_Version_j3 (p0 : (List Api_Version)) (p2 : Int) (x240 : Int) : Option (List Api_Version) :=
  loopO (fun s : (Int × (List Api_Version)) => slices_symMergeCmpFunc_Version_b3 x240 s.1 s.2) (p2, p0)
def slices_symMergeCmpFunc_Version_b4 (p0 : (List Api_Version)) (p2 : Int) (p4 : (Api_Version → Api_Version → Option Int)) (x369 : Int) (x371 : Int) : Option ((Int × Int) ⊕ (List Api_Version)) :=
  if decide (x369 < x371) then
    (ix p0 p2).bind fun j386 =>
    (p0[j386]?).bind fun x389 =>
    (ix p0 (IntKind.i64.wrap (iShr .u64 (IntKind.u64.wrap (IntKind.i64.wrap (x369 + x371))) 1))).bind fun j391 =>
    (p0[j391]?).bind fun x394 =>
    (p4 x389 x394).bind fun r442 =>
    if !(decide (r442 < 0)) then
      some (.inl (IntKind.i64.wrap ((IntKind.i64.wrap (iShr .u64 (IntKind.u64.wrap (IntKind.i64.wrap (x369 + x371))) 1)) + 1), x371))
    else
      some (.inl (x369, IntKind.i64.wrap (iShr .u64 (IntKind.u64.wrap (IntKind.i64.wrap (x369 + x371))) 1)))
  else
    (slices_symMergeCmpFunc_Version_j3 p0 p2 x369).map Sum.inr
def slices_symMergeCmpFunc_Version_j11 (p1 : Int) (p2 : Int) (p3 : Int) (p4 : (Api_Version → Api_Version → Option Int)) (self_ : ((List Api_Version) → Int → Int → Int → (Api_Version → Api_Version → Option Int) → Option (List Api_Version))) (x485 : Int) (x508 : (List Api_Version)) (x514 : Bool) : Option (List Api_Version) :=
  if x514 then
    (self_ x508 (IntKind.i64.wrap (iShr .u64 (IntKind.u64.wrap (IntKind.i64.wrap (p1 + p3))) 1)) (IntKind.i64.wrap ((IntKind.i64.wrap ((IntKind.i64.wrap (iShr .u64 (IntKind.u64.wrap (IntKind.i64.wrap (p1 + p3))) 1)) + p2)) - x485)) p3 p4).bind fun r522 =>
    some r522
  else
    some x508
def slices_symMergeCmpFunc_Version_j10 (p1 : Int) (p2 : Int) (p3 : Int) (p4 : (Api_Version → Api_Version → Option Int)) (self_ : ((List Api_Version) → Int → Int → Int → (Api_Version → Api_Version → Option Int) → Option (List Api_Version))) (x485 : Int) (x508 : (List Api_Version)) : Option (List Api_Version) :=
  if decide ((IntKind.i64.wrap (iShr .u64 (IntKind.u64.wrap (IntKind.i64.wrap (p1 + p3))) 1)) < (IntKind.i64.wrap ((IntKind.i64.wrap ((IntKind.i64.wrap (iShr .u64 (IntKind.u64.wrap (IntKind.i64.wrap (p1 + p3))) 1)) + p2)) - x485))) then
    slices_symMergeCmpFunc_Version_j11 p1 p2 p3 p4 self_ x485 x508 (decide ((IntKind.i64.wrap ((IntKind.i64.wrap ((IntKind.i64.wrap (iShr .u64 (IntKind.u64.wrap (IntKind.i64.wrap (p1 + p3))) 1)) + p2)) - x485)) < p3))
  else
    slices_symMergeCmpFunc_Version_j11 p1 p2 p3 p4 self_ x485 x508 false
def slices_symMergeCmpFunc_Version_j9 (p1 : Int) (p2 : Int) (p3 : Int) (p4 : (Api_Version → Api_Version → Option Int)) (self_ : ((List Api_Version) → Int → Int → Int → (Api_Version → Api_Version → Option Int) → Option (List Api_Version))) (x485 : Int) (x498 : (List Api_Version)) (x504 : Bool) : Option (List Api_Version) :=
  if x504 then
    (self_ x498 p1 x485 (IntKind.i64.wrap (iShr .u64 (IntKind.u64.wrap (IntKind.i64.wrap (p1 + p3))) 1)) p4).bind fun r545 =>
    slices_symMergeCmpFunc_Version_j10 p1 p2 p3 p4 self_ x485 r545
  else
    slices_symMergeCmpFunc_Version_j10 p1 p2 p3 p4 self_ x485 x498
def slices_symMergeCmpFunc_Version_j8 (p1 : Int) (p2 : Int) (p3 : Int) (p4 : (Api_Version → Api_Version → Option Int)) (self_ : ((List Api_Version) → Int → Int → Int → (Api_Version → Api_Version → Option Int) → Option (List Api_Version))) (x485 : Int) (x498 : (List Api_Version)) : Option (List Api_Version) :=
  if decide (p1 < x485) then
    slices_symMergeCmpFunc_Version_j9 p1 p2 p3 p4 self_ x485 x498 (decide (x485 < (IntKind.i64.wrap (iShr .u64 (IntKind.u64.wrap (IntKind.i64.wrap (p1 + p3))) 1))))
  else
    slices_symMergeCmpFunc_Version_j9 p1 p2 p3 p4 self_ x485 x498 false
def slices_symMergeCmpFunc_Version_j7 (p0 : (List Api_Version)) (p1 : Int) (p2 : Int) (p3 : Int) (p4 : (Api_Version → Api_Version → Option Int)) (self_ : ((List Api_Version) → Int → Int → Int → (Api_Version → Api_Version → Option Int) → Option (List Api_Version))) (x485 : Int) (x494 : Bool) : Option (List Api_Version) :=
  if x494 then
    (slices_rotateCmpFunc_Version p0 x485 p2 (IntKind.i64.wrap ((IntKind.i64.wrap ((IntKind.i64.wrap (iShr .u64 (IntKind.u64.wrap (IntKind.i64.wrap (p1 + p3))) 1)) + p2)) - x485)) p4).bind fun r568 =>
    slices_symMergeCmpFunc_Version_j8 p1 p2 p3 p4 self_ x485 r568
  else
    slices_symMergeCmpFunc_Version_j8 p1 p2 p3 p4 self_ x485 p0
def slices_symMergeCmpFunc_Version_j6 (p0 : (List Api_Version)) (p1 : Int) (p2 : Int) (p3 : Int) (p4 : (Api_Version → Api_Version → Option Int)) (self_ : ((List Api_Version) → Int → Int → Int → (Api_Version → Api_Version → Option Int) → Option (List Api_Version))) (x485 : Int) : Option (List Api_Version) :=
  if decide (x485 < p2) then
    slices_symMergeCmpFunc_Version_j7 p0 p1 p2 p3 p4 self_ x485 (decide (p2 < (IntKind.i64.wrap ((IntKind.i64.wrap ((IntKind.i64.wrap (iShr .u64 (IntKind.u64.wrap (IntKind.i64.wrap (p1 + p3))) 1)) + p2)) - x485))))
  else
    slices_symMergeCmpFunc_Version_j7 p0 p1 p2 p3 p4 self_ x485 false
def slices_symMergeCmpFunc_Version_b5 (p0 : (List Api_Version)) (p1 : Int) (p2 : Int) (p3 : Int) (p4 : (Api_Version → Api_Version → Option Int)) (self_ : ((List Api_Version) → Int → Int → Int → (Api_Version → Api_Version → Option Int) → Option (List Api_Version))) (x587 : Int) (x589 : Int) : Option ((Int × Int) ⊕ (List Api_Version)) :=
  if decide (x587 < x589) then
    (ix p0 (IntKind.i64.wrap ((IntKind.i64.wrap ((IntKind.i64.wrap ((IntKind.i64.wrap (iShr .u64 (IntKind.u64.wrap (IntKind.i64.wrap (p1 + p3))) 1)) + p2)) - 1)) - (IntKind.i64.wrap (iShr .u64 (IntKind.u64.wrap (IntKind.i64.wrap (x587 + x589))) 1))))).bind fun j604 =>
    (p0[j604]?).bind fun x607 =>
    (ix p0 (IntKind.i64.wrap (iShr .u64 (IntKind.u64.wrap (IntKind.i64.wrap (x587 + x589))) 1))).bind fun j609 =>
    (p0[j609]?).bind fun x612 =>
    (p4 x607 x612).bind fun r670 =>
    if !(decide (r670 < 0)) then
      some (.inl (IntKind.i64.wrap ((IntKind.i64.wrap (iShr .u64 (IntKind.u64.wrap (IntKind.i64.wrap (x587 + x589))) 1)) + 1), x589))
    else
      some (.inl (x587, IntKind.i64.wrap (iShr .u64 (IntKind.u64.wrap (IntKind.i64.wrap (x587 + x589))) 1)))
  else
    (slices_symMergeCmpFunc_Version_j6 p0 p1 p2 p3 p4 self_ x587).map Sum.inr
def slices_symMergeCmpFunc_Version_j5 (p0 : (List Api_Version)) (p1 : Int) (p2 : Int) (p3 : Int) (p4 : (Api_Version → Api_Version → Option Int)) (self_ : ((List Api_Version) → Int → Int → Int → (Api_Version → Api_Version → Option Int) → Option (List Api_Version))) (x475 : Int) (x477 : Int) : Option (List Api_Version) :=
  loopO (fun s : (Int × Int) => slices_symMergeCmpFunc_Version_b5 p0 p1 p2 p3 p4 self_ s.1 s.2) (x475, x477)
def slices_symMergeCmpFunc_Version_F (self_ : ((List Api_Version) → Int → Int → Int → (Api_Version → Api_Version → Option Int) → Option (List Api_Version))) (p0 : (List Api_Version)) (p1 : Int) (p2 : Int) (p3 : Int) (p4 : (Api_Version → Api_Version → Option Int)) : Option (List Api_Version) :=
  if (IntKind.i64.wrap (p2 - p1)) == 1 then
    loopO (fun s : (Int × Int) => slices_symMergeCmpFunc_Version_b2 p0 p1 p4 s.1 s.2) (p2, p3)
  else
    if (IntKind.i64.wrap (p3 - p2)) == 1 then
      loopO (fun s : (Int × Int) => slices_symMergeCmpFunc_Version_b4 p0 p2 p4 s.1 s.2) (p1, p2)
    else
      if decide ((IntKind.i64.wrap (iShr .u64 (IntKind.u64.wrap (IntKind.i64.wrap (p1 + p3))) 1)) < p2) then
        slices_symMergeCmpFunc_Version_j5 p0 p1 p2 p3 p4 self_ (IntKind.i64.wrap ((IntKind.i64.wrap ((IntKind.i64.wrap (iShr .u64 (IntKind.u64.wrap (IntKind.i64.wrap (p1 + p3))) 1)) + p2)) - p3)) (IntKind.i64.wrap (iShr .u64 (IntKind.u64.wrap (IntKind.i64.wrap (p1 + p3))) 1))
      else
        slices_symMergeCmpFunc_Version_j5 p0 p1 p2 p3 p4 self_ p1 p2
def slices_symMergeCmpFunc_Version_n : Nat → (List Api_Version) → Int → Int → Int → (Api_Version → Api_Version → Option Int) → Option (List Api_Version)
  | 0 => fun _ _ _ _ _ => none
  | n + 1 => slices_symMergeCmpFunc_Version_F (slices_symMergeCmpFunc_Version_n n)
def slices_symMergeCmpFunc_Version (p0 : (List Api_Version)) (p1 : Int) (p2 : Int) (p3 : Int) (p4 : (Api_Version → Api_Version → Option Int)) : Option (List Api_Version) := slices_symMergeCmpFunc_Version_n (p0.length + 1) p0 p1 p2 p3 p4
def slices_stableCmpFunc_Version_j3 (x26 : Int) (x58 : (List Api_Version)) : Option ((Int × (List Api_Version)) ⊕ (List Api_Version)) :=
  some (.inl (IntKind.i64.wrap (x26 * 2), x58))
def slices_stableCmpFunc_Version_j2 (p1 : Int) (p2 : (Api_Version → Api_Version → Option Int)) (x26 : Int) (x43 : Int) (x45 : (List Api_Version)) : Option ((Int × (List Api_Version)) ⊕ (List Api_Version)) :=
  if decide ((IntKind.i64.wrap (x43 + x26)) < p1) then
    (slices_symMergeCmpFunc_Version x45 x43 (IntKind.i64.wrap (x43 + x26)) p1 p2).bind fun r71 =>
    slices_stableCmpFunc_Version_j3 x26 r71
  else
    slices_stableCmpFunc_Version_j3 x26 x45
def slices_stableCmpFunc_Version_b2 (p1 : Int) (p2 : (Api_Version → Api_Version → Option Int)) (x26 : Int) (x80 : Int) (x82 : Int) (x84 : (List Api_Version)) : Option ((Int × Int × (List Api_Version)) ⊕ ((Int × (List Api_Version)) ⊕ (List Api_Version))) :=
  if decide (x82 ≤ p1) then
    (slices_symMergeCmpFunc_Version x84 x80 (IntKind.i64.wrap (x80 + x26)) x82 p2).bind fun r100 =>
    some (.inl (x82, IntKind.i64.wrap (x82 + (IntKind.i64.wrap (2 * x26))), r100))
  else
    (slices_stableCmpFunc_Version_j2 p1 p2 x26 x80 x84).map Sum.inr
def slices_stableCmpFunc_Version_b1 (p1 : Int) (p2 : (Api_Version → Api_Version → Option Int)) (x26 : Int) (x28 : (List Api_Version)) : Option ((Int × (List Api_Version)) ⊕ (List Api_Version)) :=
  if decide (x26 < p1) then
    loopO (fun s : (Int × Int × (List Api_Version)) => slices_stableCmpFunc_Version_b2 p1 p2 x26 s.1 s.2.1 s.2.2) (0, IntKind.i64.wrap (2 * x26), x28)
  else
    (some x28).map Sum.inr
def slices_stableCmpFunc_Version_j1 (p1 : Int) (p2 : (Api_Version → Api_Version → Option Int)) (x7 : Int) (x9 : (List Api_Version)) : Option (List Api_Version) :=
  (slices_insertionSortCmpFunc_Version x9 x7 p1 p2).bind fun r17 =>
  loopO (fun s : (Int × (List Api_Version)) => slices_stableCmpFunc_Version_b1 p1 p2 s.1 s.2) (20, r17)
def slices_stableCmpFunc_Version_b3 (p1 : Int) (p2 : (Api_Version → Api_Version → Option Int)) (x116 : Int) (x118 : Int) (x120 : (List Api_Version)) : Option ((Int × Int × (List Api_Version)) ⊕ (List Api_Version)) :=
  if decide (x118 ≤ p1) then
    (slices_insertionSortCmpFunc_Version x120 x116 x118 p2).bind fun r133 =>
    some (.inl (x118, IntKind.i64.wrap (x118 + 20), r133))
  else
    (slices_stableCmpFunc_Version_j1 p1 p2 x116 x120).map Sum.inr
def slices_stableCmpFunc_Version (p0 : (List Api_Version)) (p1 : Int) (p2 : (Api_Version → Api_Version → Option Int)) : Option (List Api_Version) :=
  loopO (fun s : (Int × Int × (List Api_Version)) => slices_stableCmpFunc_Version_b3 p1 p2 s.1 s.2.1 s.2.2) (0, 20, p0)
def slices_SortStableFunc_Version (p0 : (List Api_Version)) (p1 : (Api_Version → Api_Version → Option Int)) : Option (List Api_Version) :=
  (slices_stableCmpFunc_Version p0 (p0.length : Int) p1).bind fun r5 =>
  some r5
def rosfile_Sorted_j1 (p0 : (List Int)) (x12 : (List Api_Version)) : Option (List Api_Version) :=
  (slices_SortStableFunc_Version x12 (fun y0_ y1_ => rosfile_Sorted_1 y0_ y1_ p0)).bind fun r23 =>
  some r23
def rosfile_Sorted_b1 (p0 : (List Int)) (p1 : (List Api_Version)) (x43 : Int) (x45 : (List Api_Version)) : Option ((Int × (List Api_Version)) ⊕ (List Api_Version)) :=
  if decide (x43 < (p1.length : Int)) then
    (idx p1 x43).bind fun x54 =>
    (rosfile_own x54).bind fun r68 =>
    (app 2932031007402 x45 ([r68])).bind fun z78 =>
    some (.inl (IntKind.i64.wrap (x43 + 1), z78))
  else
    (rosfile_Sorted_j1 p0 x45).map Sum.inr
def rosfile_Sorted (p0 : (List Int)) (p1 : (List Api_Version)) : Option (List Api_Version) :=
  loopO (fun s : (Int × (List Api_Version)) => rosfile_Sorted_b1 p0 p1 s.1 s.2) (0, ([] : List Api_Version))
def mover_Join_j1 (x23 : (List Api_Version)) (x26 : Api_Version) (x41 : Bool) : Option ((List Api_Version) × Bool) :=
  if x41 then
    (app 2932031007402 x23 ([x26])).bind fun z52 =>
    some (z52, true)
  else
    some (x23, true)
def mover_Join_b1 (p2 : Int) (x23 : (List Api_Version)) (x26 : Api_Version) : Option ((List Api_Version) × Bool) :=
  if x26.fDeleted == 0 then
    mover_Join_j1 x23 x26 true
  else
    mover_Join_j1 x23 x26 (decide (p2 < x26.fDeleted))
def mover_Join (p0 : (List Int)) (p1 : (List (List Api_Version))) (p2 : Int) : Option (List Api_Version) :=
  (slices_Concat_Version p1).bind fun r9 =>
  (slices_Values_Version r9).bind fun r15 =>
  (foldY (fun (s : (List Api_Version)) (x : Api_Version) => mover_Join_b1 p2 s x) ([] : (List Api_Version)) r15).bind fun y78 =>
  if y78.2 then
    (rosfile_Sorted p0 y78.1).bind fun r92 =>
    some r92
  else
    none
def hayloftlaw12_alive_j1 (x51 : Bool) : Option Bool :=
  some x51
def hayloftlaw12_alive  : Option Bool :=
  (mover_Join ([0]) ([[(⟨(⟨1, 0⟩ : Api_RowId), [(⟨2, false, 2, []⟩ : Ap)], 0⟩ : Api_Version)], [(⟨(⟨2, 0⟩ : Api_RowId), [(⟨2, false, 1, []⟩ : Ap)], 0⟩ : Api_Version), (⟨(⟨1, 1⟩ : Api_RowId), [], 2⟩ : Api_Version)]]) 2).bind fun r42 =>
  if (r42.length : Int) == 2 then
    (idx r42 0).bind fun x59 =>
    hayloftlaw12_alive_j1 (x59.fId.fEpoch == 2)
  else
    hayloftlaw12_alive_j1 false
def r8_Key_j1 (x6 : (List Ap)) : Option (List Ap) :=
  some x6
def r8_Key_j3 (x14 : (List Ap)) (x17 : Int) (x39 : Ap) : Option (((List Ap) × Int) ⊕ (List Ap)) :=
  (app 3518437208883 x14 ([x39])).bind fun z50 =>
  some (.inl (z50, IntKind.i64.wrap (x17 + 1)))
def r8_Key_j2 (p0 : (List Int)) (p1 : (List Ap)) (x14 : (List Ap)) (x17 : Int) (x35 : Bool) : Option (((List Ap) × Int) ⊕ (List Ap)) :=
  if x35 then
    (idx p0 x17).bind fun x64 =>
    (idx p1 x64).bind fun x71 =>
    r8_Key_j3 x14 x17 x71
  else
    r8_Key_j3 x14 x17 (⟨0, false, 0, []⟩ : Ap)
def r8_Key_b1 (p0 : (List Int)) (p1 : (List Ap)) (x14 : (List Ap)) (x17 : Int) : Option (((List Ap) × Int) ⊕ (List Ap)) :=
  if decide (x17 < (p0.length : Int)) then
    (idx p0 x17).bind fun x82 =>
    if decide (0 ≤ x82) then
      (idx p0 x17).bind fun x94 =>
      r8_Key_j2 p0 p1 x14 x17 (decide (x94 < (p1.length : Int)))
    else
      r8_Key_j2 p0 p1 x14 x17 false
  else
    (r8_Key_j1 x14).map Sum.inr
def r8_Key (p0 : (List Int)) (p1 : (List Ap)) : Option (List Ap) :=
  loopO (fun s : ((List Ap) × Int) => r8_Key_b1 p0 p1 s.1 s.2) ([], 0)
def r2_less_j1 (x38 : Bool) : Option Bool :=
  some x38
def r2_less_j2 (x71 : Bool) : Option Bool :=
  some x71
def r2_less (p0 : Ap) (p1 : Ap) : Option Bool :=
  if p0.fKind != p1.fKind then
    some (decide (p0.fKind < p1.fKind))
  else
    if p0.fKind == 1 then
      if !p0.fBool then
        r2_less_j1 p1.fBool
      else
        r2_less_j1 false
    else
      if p0.fKind == 2 then
        some (decide (p0.fInt < p1.fInt))
      else
        if p0.fKind == 3 then
          r2_less_j2 (ltB p0.fText p1.fText)
        else
          r2_less_j2 false
def r2_Compare (p0 : Ap) (p1 : Ap) : Option Int :=
  (r2_less p0 p1).bind fun r14 =>
  (r2_less p1 p0).bind fun r25 =>
  if r14 then
    some (-1)
  else
    if r25 then
      some 1
    else
      some 0
def r2_Rows_j1 (p0 : (List Ap)) (p1 : (List Ap)) : Option Int :=
  if decide ((p0.length : Int) < (p1.length : Int)) then
    some (-1)
  else
    some 0
def r2_Rows_b1 (p0 : (List Ap)) (p1 : (List Ap)) (x16 : Int) : Option (Int ⊕ Int) :=
  if decide (x16 < (p0.length : Int)) then
    if x16 == (p1.length : Int) then
      (some 1).map Sum.inr
    else
      (idx p0 x16).bind fun x31 =>
      (idx p1 x16).bind fun x35 =>
      (r2_Compare x31 x35).bind fun r81 =>
      if r81 != 0 then
        (some r81).map Sum.inr
      else
        some (.inl (IntKind.i64.wrap (x16 + 1)))
  else
    (r2_Rows_j1 p0 p1).map Sum.inr
def r2_Rows (p0 : (List Ap)) (p1 : (List Ap)) : Option Int :=
  loopO (fun s : Int => r2_Rows_b1 p0 p1 s) 0
def r2_Before (p0 : Api_RowId) (p1 : Api_RowId) : Option Bool :=
  if p0.fEpoch != p1.fEpoch then
    some (decide (p0.fEpoch < p1.fEpoch))
  else
    some (decide (p0.fNumber < p1.fNumber))
def r8_before (p0 : (List Int)) (p1 : Api_Version) (p2 : Api_Version) : Option Bool :=
  (r8_Key p0 p1.fRow).bind fun r11 =>
  (r8_Key p0 p2.fRow).bind fun r53 =>
  (r2_Rows r11 r53).bind fun r59 =>
  if r59 != 0 then
    some (decide (r59 < 0))
  else
    (r2_Before p1.fId p2.fId).bind fun r79 =>
    some r79
def r8_Sorted_j1 (x6 : (List Api_Version)) : Option (List Api_Version) :=
  some x6
def r8_Sorted_j2 (x17 : Int) (x28 : (List Api_Version)) : Option (((List Api_Version) × Int) ⊕ (List Api_Version)) :=
  some (.inl (x28, IntKind.i64.wrap (x17 + 1)))
def r8_Sorted_j3 (p1 : (List Api_Version)) (x14 : (List Api_Version)) (x17 : Int) (x40 : Int) : Option (((List Api_Version) × Int) ⊕ (List Api_Version)) :=
  (sub x14 0 x40).bind fun x47 =>
  (app 2932031007402 ([]) x47).bind fun z51 =>
  (idx p1 x17).bind fun x61 =>
  (app 2932031007402 z51 ([x61])).bind fun z71 =>
  (sub x14 x40 x14.length).bind fun x81 =>
  (app 2932031007402 z71 x81).bind fun z85 =>
  r8_Sorted_j2 x17 z85
def r8_Sorted_b2 (p0 : (List Int)) (p1 : (List Api_Version)) (x14 : (List Api_Version)) (x17 : Int) (x96 : Int) : Option (Int ⊕ (((List Api_Version) × Int) ⊕ (List Api_Version))) :=
  if decide (0 < x96) then
    (idx p1 x17).bind fun x103 =>
    (idx x14 (IntKind.i64.wrap (x96 - 1))).bind fun x107 =>
    (r8_before p0 x103 x107).bind fun r162 =>
    if !r162 then
      (r8_Sorted_j3 p1 x14 x17 x96).map Sum.inr
    else
      some (.inl (IntKind.i64.wrap (x96 - 1)))
  else
    (r8_Sorted_j3 p1 x14 x17 x96).map Sum.inr
def r8_Sorted_b1 (p0 : (List Int)) (p1 : (List Api_Version)) (x14 : (List Api_Version)) (x17 : Int) : Option (((List Api_Version) × Int) ⊕ (List Api_Version)) :=
  if decide (x17 < (p1.length : Int)) then
    loopO (fun s : Int => r8_Sorted_b2 p0 p1 x14 x17 s) (x14.length : Int)
  else
    (r8_Sorted_j1 x14).map Sum.inr
def r8_Sorted (p0 : (List Int)) (p1 : (List Api_Version)) : Option (List Api_Version) :=
  loopO (fun s : ((List Api_Version) × Int) => r8_Sorted_b1 p0 p1 s.1 s.2) ([], 0)
def hayloftref12_Join_j1 (p0 : (List Int)) (x6 : (List Api_Version)) : Option (List Api_Version) :=
  (r8_Sorted p0 x6).bind fun r12 =>
  some r12
def hayloftref12_Join_j2 (x24 : Int) (x35 : (List Api_Version)) : Option (((List Api_Version) × Int) ⊕ (List Api_Version)) :=
  some (.inl (x35, IntKind.i64.wrap (x24 + 1)))
def hayloftref12_Join_j4 (x48 : Int) (x70 : (List Api_Version)) : Option (((List Api_Version) × Int) ⊕ (((List Api_Version) × Int) ⊕ (List Api_Version))) :=
  some (.inl (x70, IntKind.i64.wrap (x48 + 1)))
def hayloftref12_Join_j3 (p1 : (List (List Api_Version))) (x24 : Int) (x45 : (List Api_Version)) (x48 : Int) (x66 : Bool) : Option (((List Api_Version) × Int) ⊕ (((List Api_Version) × Int) ⊕ (List Api_Version))) :=
  if x66 then
    (idx p1 x24).bind fun x81 =>
    (idx x81 x48).bind fun x88 =>
    (app 2932031007402 x45 ([x88])).bind fun z98 =>
    hayloftref12_Join_j4 x48 z98
  else
    hayloftref12_Join_j4 x48 x45
def hayloftref12_Join_b2 (p1 : (List (List Api_Version))) (p2 : Int) (x24 : Int) (x45 : (List Api_Version)) (x48 : Int) : Option (((List Api_Version) × Int) ⊕ (((List Api_Version) × Int) ⊕ (List Api_Version))) :=
  (idx p1 x24).bind fun x55 =>
  if decide (x48 < (x55.length : Int)) then
    (idx p1 x24).bind fun x107 =>
    (idx x107 x48).bind fun x114 =>
    if x114.fDeleted == 0 then
      hayloftref12_Join_j3 p1 x24 x45 x48 true
    else
      (idx p1 x24).bind fun x130 =>
      (idx x130 x48).bind fun x137 =>
      hayloftref12_Join_j3 p1 x24 x45 x48 (decide (p2 < x137.fDeleted))
  else
    (hayloftref12_Join_j2 x24 x45).map Sum.inr
def hayloftref12_Join_b1 (p0 : (List Int)) (p1 : (List (List Api_Version))) (p2 : Int) (x21 : (List Api_Version)) (x24 : Int) : Option (((List Api_Version) × Int) ⊕ (List Api_Version)) :=
  if decide (x24 < (p1.length : Int)) then
    loopO (fun s : ((List Api_Version) × Int) => hayloftref12_Join_b2 p1 p2 x24 s.1 s.2) (x21, 0)
  else
    (hayloftref12_Join_j1 p0 x21).map Sum.inr
def hayloftref12_Join (p0 : (List Int)) (p1 : (List (List Api_Version))) (p2 : Int) : Option (List Api_Version) :=
  loopO (fun s : ((List Api_Version) × Int) => hayloftref12_Join_b1 p0 p1 p2 s.1 s.2) ([], 0)
def r2_SameRow_j1  : Option Bool :=
  some true
def r2_SameRow_b1 (p0 : (List Ap)) (p1 : (List Ap)) (x16 : Int) : Option (Int ⊕ Bool) :=
  if decide (x16 < (p0.length : Int)) then
    (idx p0 x16).bind fun x25 =>
    (idx p1 x16).bind fun x29 =>
    if !decide (x25 = x29) then
      (some false).map Sum.inr
    else
      some (.inl (IntKind.i64.wrap (x16 + 1)))
  else
    (r2_SameRow_j1).map Sum.inr
def r2_SameRow (p0 : (List Ap)) (p1 : (List Ap)) : Option Bool :=
  if (p0.length : Int) != (p1.length : Int) then
    some false
  else
    loopO (fun s : Int => r2_SameRow_b1 p0 p1 s) 0
def r2_SameVersion_j1 (x25 : Bool) : Option Bool :=
  some x25
def r2_SameVersion (p0 : Api_Version) (p1 : Api_Version) : Option Bool :=
  (r2_SameRow p0.fRow p1.fRow).bind fun r16 =>
  if r16 then
    if decide (p0.fId = p1.fId) then
      r2_SameVersion_j1 (p0.fDeleted == p1.fDeleted)
    else
      r2_SameVersion_j1 false
  else
    r2_SameVersion_j1 false
def r2_SameVersions_j1  : Option Bool :=
  some true
def r2_SameVersions_b1 (p0 : (List Api_Version)) (p1 : (List Api_Version)) (x16 : Int) : Option (Int ⊕ Bool) :=
  if decide (x16 < (p0.length : Int)) then
    (idx p0 x16).bind fun x25 =>
    (idx p1 x16).bind fun x29 =>
    (r2_SameVersion x25 x29).bind fun r75 =>
    if !r75 then
      (some false).map Sum.inr
    else
      some (.inl (IntKind.i64.wrap (x16 + 1)))
  else
    (r2_SameVersions_j1).map Sum.inr
def r2_SameVersions (p0 : (List Api_Version)) (p1 : (List Api_Version)) : Option Bool :=
  if (p0.length : Int) != (p1.length : Int) then
    some false
  else
    loopO (fun s : Int => r2_SameVersions_b1 p0 p1 s) 0
def hayloftlaw12_MoverJoins_j3  : Option Bool :=
  some true
def hayloftlaw12_MoverJoins_b1 (p1 : (List (List Api_Version))) (x8 : (List (List Api_Version))) (x27 : Int) : Option (Int ⊕ Bool) :=
  if decide (x27 < (p1.length : Int)) then
    (idx x8 x27).bind fun x35 =>
    (idx p1 x27).bind fun x39 =>
    (r2_SameVersions x35 x39).bind fun r85 =>
    if !r85 then
      (some false).map Sum.inr
    else
      some (.inl (IntKind.i64.wrap (x27 + 1)))
  else
    (hayloftlaw12_MoverJoins_j3).map Sum.inr
def hayloftlaw12_MoverJoins_j2 (p1 : (List (List Api_Version))) (x8 : (List (List Api_Version))) (x14 : Bool) : Option Bool :=
  if x14 then
    some false
  else
    loopO (fun s : Int => hayloftlaw12_MoverJoins_b1 p1 x8 s) 0
def hayloftlaw12_MoverJoins_j1 (p0 : (List Int)) (p1 : (List (List Api_Version))) (p2 : Int) (x8 : (List (List Api_Version))) : Option Bool :=
  (hayloftlaw12_alive).bind fun r96 =>
  if !r96 then
    hayloftlaw12_MoverJoins_j2 p1 x8 true
  else
    (mover_Join p0 x8 p2).bind fun r109 =>
    (hayloftref12_Join p0 p1 p2).bind fun r118 =>
    (r2_SameVersions r109 r118).bind fun r124 =>
    hayloftlaw12_MoverJoins_j2 p1 x8 (!r124)
def hayloftlaw12_MoverJoins_j4 (x137 : Int) (x145 : (List (List Api_Version))) : Option (((List (List Api_Version)) × Int) ⊕ Bool) :=
  some (.inl (x145, IntKind.i64.wrap (x137 + 1)))
def hayloftlaw12_MoverJoins_j5 (x134 : (List (List Api_Version))) (x137 : Int) (x166 : (List Api_Version)) : Option (((List (List Api_Version)) × Int) ⊕ Bool) :=
  (app 5864062014805 x134 ([x166])).bind fun z176 =>
  hayloftlaw12_MoverJoins_j4 x137 z176
def hayloftlaw12_MoverJoins_b3 (x134 : (List (List Api_Version))) (x137 : Int) (x156 : (List Api_Version)) (x185 : (List Api_Version)) (x188 : Int) : Option (((List Api_Version) × Int) ⊕ (((List (List Api_Version)) × Int) ⊕ Bool)) :=
  if decide (x188 < (x156.length : Int)) then
    (idx x156 x188).bind fun x194 =>
    (r2_Copy x194.fRow).bind fun r208 =>
    (app 2932031007402 x185 ([{ x194 with fRow := r208 }])).bind fun z225 =>
    some (.inl (z225, IntKind.i64.wrap (x188 + 1)))
  else
    (hayloftlaw12_MoverJoins_j5 x134 x137 x185).map Sum.inr
def hayloftlaw12_MoverJoins_b2 (p0 : (List Int)) (p1 : (List (List Api_Version))) (p2 : Int) (x134 : (List (List Api_Version))) (x137 : Int) : Option (((List (List Api_Version)) × Int) ⊕ Bool) :=
  if decide (x137 < (p1.length : Int)) then
    (idx p1 x137).bind fun x156 =>
    loopO (fun s : ((List Api_Version) × Int) => hayloftlaw12_MoverJoins_b3 x134 x137 x156 s.1 s.2) ([], 0)
  else
    (hayloftlaw12_MoverJoins_j1 p0 p1 p2 x134).map Sum.inr
def hayloftlaw12_MoverJoins (p0 : (List Int)) (p1 : (List (List Api_Version))) (p2 : Int) : Option Bool :=
  loopO (fun s : ((List (List Api_Version)) × Int) => hayloftlaw12_MoverJoins_b2 p0 p1 p2 s.1 s.2) ([], 0)
end
end Go.Proofs.Ythbonoagbeilkaa.Hay
namespace Go.Proofs.Ythbonoagbeilkaa.Hay
theorem loopO_inv {σ β : Type} {f : σ → Option (σ ⊕ β)} (I : σ → Prop) (μ : σ → Nat) (Q : β → Prop)
    (step : ∀ s, I s → (∃ s', f s = some (.inl s') ∧ I s' ∧ μ s' < μ s) ∨ ∃ b, f s = some (.inr b) ∧ Q b) {s : σ} (h : I s) : ∃ b, loopO f s = some b ∧ Q b := by
  generalize hn : μ s = n
  induction n using Nat.strongRecOn generalizing s with
  | _ n ih =>
    rcases step s h with ⟨s', h1, h2, h3⟩ | ⟨b, h1, h2⟩
    · obtain ⟨b, h4, h5⟩ := ih (μ s') (by omega) h2 rfl
      exact ⟨b, by rw [loopO_go h1]; exact h4, h5⟩
    · exact ⟨b, loopO_end h1, h2⟩
theorem loopO_eqv {σ β : Type} {f : σ → Option (σ ⊕ β)} (I : σ → Prop) (μ : σ → Nat) {b : β}
    (step : ∀ s, I s → (∃ s', f s = some (.inl s') ∧ I s' ∧ μ s' < μ s) ∨ f s = some (.inr b)) {s : σ} (h : I s) : loopO f s = some b := by
  obtain ⟨c, h1, rfl⟩ := loopO_inv I μ (fun c => c = b) (fun s hs => (step s hs).imp id fun h => ⟨b, h, rfl⟩) h
  exact h1
theorem wrap64 {n : Int} (h : -9223372036854775808 ≤ n ∧ n ≤ 9223372036854775807) : IntKind.i64.wrap n = n := by
  have : inR .i64 n := by rw [inR_bd]; exact h
  exact this
theorem idx_of {α : Type} {xs : List α} {i : Nat} (h : i < xs.length) : idx xs (i : Int) = some xs[i] := by
  unfold idx
  rw [if_pos (by omega)]
  simp [h]
theorem app_of {α : Type} {N : Nat} {xs ys : List α} (h : xs.length + ys.length ≤ N) : app N xs ys = some (xs ++ ys) := by
  unfold app; rw [if_pos h]
theorem sub_of {α : Type} {xs : List α} {lo hi : Nat} (h : lo ≤ hi) (h' : hi ≤ xs.length) : sub xs (lo : Int) (hi : Int) = some ((xs.take hi).drop lo) := by
  unfold sub
  rw [if_pos (by omega)]
  simp
theorem wrapu64 (n : Int) : IntKind.u64.wrap n = n % 18446744073709551616 := by
  simp [IntKind.wrap, IntKind.bits, IntKind.signed]
theorem shr64 {x : Int} {k : Nat} (hk : k ≤ 64) : iShr .u64 x (k : Int) = x / 2 ^ k := by
  unfold iShr
  rw [Int.fdiv_eq_ediv_of_nonneg _ (Int.le_of_lt (Int.pow_pos (by decide)))]
  congr 2
  simp [IntKind.bits]; omega
end Go.Proofs.Ythbonoagbeilkaa.Hay
set_option linter.unusedVariables false
set_option linter.unusedSimpArgs false
namespace Go.Proofs.Ythbonoagbeilkaa.Hay
structure Swo {α : Type} (lt : α → α → Bool) : Prop where
  irr : ∀ a, lt a a = false
  tr : ∀ a b c, lt a b = true → lt b c = true → lt a c = true
  inc : ∀ a b c, lt a b = false → lt b c = false → lt a c = false
section
variable {α : Type} {lt : α → α → Bool}
def eqv (lt : α → α → Bool) (a b : α) : Bool := !lt a b && !lt b a
def Srt (lt : α → α → Bool) (l : List α) : Prop := l.Pairwise fun a b => lt b a = false
theorem eqv_refl (h : Swo lt) (a : α) : eqv lt a a = true := by simp [eqv, h.irr]
theorem Srt_unique (h : Swo lt) : ∀ {l l' : List α}, Srt lt l → Srt lt l' → (∀ a, l.filter (eqv lt a) = l'.filter (eqv lt a)) → l = l' := by
  intro l
  induction l with
  | nil =>
    intro l' _ _ hf
    cases l' with
    | nil => rfl
    | cons b t =>
      have := hf b
      rw [List.filter_cons, if_pos (eqv_refl h b)] at this
      cases this
  | cons a t ih =>
    intro l' hs hs' hf
    cases l' with
    | nil =>
      have := hf a
      rw [List.filter_cons, if_pos (eqv_refl h a)] at this
      cases this
    | cons b t' =>
      unfold Srt at hs hs'
      rw [List.pairwise_cons] at hs hs'
      have ha : a ∈ b :: t' := by
        have h1 : a ∈ (a :: t).filter (eqv lt a) := List.mem_filter.2 ⟨by simp, eqv_refl h a⟩
        rw [hf a] at h1
        exact (List.mem_filter.1 h1).1
      have hb : b ∈ a :: t := by
        have h1 : b ∈ (b :: t').filter (eqv lt b) := List.mem_filter.2 ⟨by simp, eqv_refl h b⟩
        rw [← hf b] at h1
        exact (List.mem_filter.1 h1).1
      have h1 : lt a b = false := by
        rcases List.mem_cons.1 ha with rfl | ha
        · exact h.irr _
        · exact hs'.1 a ha
      have h2 : lt b a = false := by
        rcases List.mem_cons.1 hb with rfl | hb
        · exact h.irr _
        · exact hs.1 b hb
      have hab : a = b := by
        have := hf a
        rw [List.filter_cons, if_pos (eqv_refl h a), List.filter_cons, if_pos (by simp [eqv, h1, h2])] at this
        exact (List.cons.inj this).1
      subst hab
      congr 1
      refine ih hs.2 hs'.2 fun c => ?_
      have := hf c
      rw [List.filter_cons, List.filter_cons] at this
      split at this
      · exact (List.cons.inj this).2
      · exact this
structure Stb (lt : α → α → Bool) (l l' : List α) : Prop where
  srt : Srt lt l'
  flt : ∀ a, l'.filter (eqv lt a) = l.filter (eqv lt a)
theorem Stb.unique (h : Swo lt) {l l1 l2 : List α} (h1 : Stb lt l l1) (h2 : Stb lt l l2) : l1 = l2 :=
  Srt_unique h h1.srt h2.srt fun a => (h1.flt a).trans (h2.flt a).symm
theorem Stb.mem (h : Swo lt) {l l' : List α} (hs : Stb lt l l') {x : α} : x ∈ l' ↔ x ∈ l := by
  constructor
  · intro hx
    have : x ∈ l'.filter (eqv lt x) := List.mem_filter.2 ⟨hx, eqv_refl h x⟩
    rw [hs.flt x] at this
    exact (List.mem_filter.1 this).1
  · intro hx
    have : x ∈ l.filter (eqv lt x) := List.mem_filter.2 ⟨hx, eqv_refl h x⟩
    rw [← hs.flt x] at this
    exact (List.mem_filter.1 this).1
theorem Swo.asym (h : Swo lt) {a b : α} (hab : lt a b = true) : lt b a = false := by
  cases hb : lt b a with
  | false => rfl
  | true => have := h.tr a b a hab hb; rw [h.irr] at this; cases this
theorem Stb.cat (h : Swo lt) {A1 A2 B1 B2 R1 R2 : List α} (h1 : Stb lt (A1 ++ B1) R1) (h2 : Stb lt (A2 ++ B2) R2) (hA : Srt lt (A1 ++ A2)) (hB : Srt lt (B1 ++ B2)) (c1 : ∀ b ∈ B1, ∀ a ∈ A2, lt b a = true) (c2 : ∀ a ∈ A1, ∀ b ∈ B2, lt b a = false) :
    Stb lt ((A1 ++ A2) ++ (B1 ++ B2)) (R1 ++ R2) := by
  unfold Srt at hA hB
  rw [List.pairwise_append] at hA hB
  refine ⟨?_, fun c => ?_⟩
  · unfold Srt
    rw [List.pairwise_append]
    refine ⟨h1.srt, h2.srt, fun x hx y hy => ?_⟩
    have hx := (h1.mem h).1 hx
    have hy := (h2.mem h).1 hy
    rcases List.mem_append.1 hx with hx | hx <;> rcases List.mem_append.1 hy with hy | hy
    · exact hA.2.2 x hx y hy
    · exact c2 x hx y hy
    · exact h.asym (c1 x hx y hy)
    · exact hB.2.2 x hx y hy
  · have key : A2.filter (eqv lt c) ++ B1.filter (eqv lt c) = B1.filter (eqv lt c) ++ A2.filter (eqv lt c) := by
      cases ha : A2.filter (eqv lt c) with
      | nil => simp
      | cons a s =>
        cases hb : B1.filter (eqv lt c) with
        | nil => simp
        | cons b s' =>
          exfalso
          have ha' : a ∈ A2.filter (eqv lt c) := by rw [ha]; simp
          have hb' : b ∈ B1.filter (eqv lt c) := by rw [hb]; simp
          obtain ⟨ha1, ha2⟩ := List.mem_filter.1 ha'
          obtain ⟨hb1, hb2⟩ := List.mem_filter.1 hb'
          have hl := c1 b hb1 a ha1
          simp only [eqv, Bool.and_eq_true, Bool.not_eq_true'] at ha2 hb2
          rw [h.inc b c a hb2.2 ha2.1] at hl
          cases hl
    simp only [List.filter_append, h1.flt, h2.flt, List.append_assoc]
    rw [← List.append_assoc (B1.filter _), ← key, List.append_assoc]
theorem Stb.refl {l : List α} (hs : Srt lt l) : Stb lt l l := ⟨hs, fun _ => rfl⟩
theorem Stb.trans {l l' l2 : List α} (h1 : ∀ a, l'.filter (eqv lt a) = l.filter (eqv lt a)) (h2 : Stb lt l' l2) : Stb lt l l2 := ⟨h2.srt, fun a => (h2.flt a).trans (h1 a)⟩
theorem Stb.ins (h : Swo lt) {S1 S2 : List α} {v : α} (hS : Srt lt (S1 ++ S2)) (h2 : ∀ s ∈ S2, lt v s = true) (h1 : ∀ s ∈ S1, lt v s = false) : Stb lt (S1 ++ S2 ++ [v]) (S1 ++ v :: S2) := by
  unfold Srt at hS
  rw [List.pairwise_append] at hS
  refine ⟨?_, fun c => ?_⟩
  · unfold Srt
    rw [List.pairwise_append, List.pairwise_cons]
    refine ⟨hS.1, ⟨fun s hs => h.asym (h2 s hs), hS.2.1⟩, fun x hx y hy => ?_⟩
    rcases List.mem_cons.1 hy with rfl | hy
    · exact h1 x hx
    · exact hS.2.2 x hx y hy
  · simp only [List.filter_append, List.filter_cons, List.filter_nil, List.append_assoc]
    split
    · rename_i hv
      have hn : S2.filter (eqv lt c) = [] := by
        rw [List.filter_eq_nil_iff]
        intro s hs hc
        have hl := h2 s hs
        simp only [eqv, Bool.and_eq_true, Bool.not_eq_true'] at hv hc
        rw [h.inc v c s hv.2 hc.1] at hl
        cases hl
      rw [hn]; simp
    · simp
theorem srt_last (h : Swo lt) {S : List α} {s v : α} (hS : Srt lt (S ++ [s])) (hv : lt v s = false) : ∀ x ∈ S ++ [s], lt v x = false := by
  intro x hx
  unfold Srt at hS
  rw [List.pairwise_append] at hS
  rcases List.mem_append.1 hx with hx | hx
  · exact h.inc v s x hv (hS.2.2 x hx s (by simp))
  · simp only [List.mem_singleton] at hx; subst hx; exact hv
end
end Go.Proofs.Ythbonoagbeilkaa.Hay
set_option linter.unusedVariables false
set_option linter.unusedSimpArgs false
namespace Go.Proofs.Ythbonoagbeilkaa.Hay
section
variable {α : Type}
theorem ix_nat {xs : List α} {i : Nat} (h : i < xs.length) : ix xs (i : Int) = some i := by
  unfold ix; rw [if_pos (by omega)]; simp
theorem ix_at {xs A B : List α} {x : α} {i : Int} (e : xs = A ++ x :: B) (hi : i = (A.length : Int)) : ix xs i = some A.length := by
  subst e hi; unfold ix; rw [if_pos (by simp; omega)]; simp
theorem get_at {xs A B : List α} {x : α} (e : xs = A ++ x :: B) : xs[A.length]? = some x := by subst e; simp
theorem set_at {xs A B : List α} {x : α} (y : α) (e : xs = A ++ x :: B) : xs.set A.length y = A ++ y :: B := by subst e; simp
theorem rd_at {β : Type} {xs A B : List α} {x : α} {i : Int} {k : Nat → α → Option β} (e : xs = A ++ x :: B) (hi : i = (A.length : Int)) : ((ix xs i).bind fun j => (xs[j]?).bind fun x => k j x) = k A.length x := by
  rw [ix_at e hi, Option.bind_some, get_at e, Option.bind_some]
def swp (xs : List α) (i j : Int) : Option (List α) :=
  (ix xs i).bind fun a => (xs[a]?).bind fun x => (ix xs j).bind fun b => (xs[b]?).bind fun y => (ix xs j).bind fun c => (xs[c]?).bind fun _ =>
  (ix (xs.set c x) i).bind fun d => ((xs.set c x)[d]?).bind fun _ => some ((xs.set c x).set d y)
theorem swp_lo {A B C xs : List α} {x y : α} {i j : Int} (e : xs = A ++ x :: (B ++ y :: C)) (hi : i = (A.length : Int)) (hj : j = (A.length : Int) + 1 + B.length) : swp xs i j = some (A ++ y :: (B ++ x :: C)) := by
  have e2 : xs = (A ++ x :: B) ++ y :: C := by rw [e]; simp
  have hj : j = ((A ++ x :: B).length : Int) := by rw [hj]; simp; omega
  unfold swp
  rw [ix_at e hi, Option.bind_some, get_at e, Option.bind_some, ix_at e2 hj, Option.bind_some, get_at e2, Option.bind_some, Option.bind_some, get_at e2, Option.bind_some]
  have e3 := set_at x e2
  rw [e3]
  have e4 : (A ++ x :: B) ++ x :: C = A ++ x :: (B ++ x :: C) := by simp
  rw [ix_at e4 hi, Option.bind_some, get_at e4, Option.bind_some, set_at y e4]
theorem swp_hi {A B C xs : List α} {x y : α} {i j : Int} (e : xs = A ++ x :: (B ++ y :: C)) (hi : i = (A.length : Int)) (hj : j = (A.length : Int) + 1 + B.length) : swp xs j i = some (A ++ y :: (B ++ x :: C)) := by
  have e2 : xs = (A ++ x :: B) ++ y :: C := by rw [e]; simp
  have hj : j = ((A ++ x :: B).length : Int) := by rw [hj]; simp; omega
  unfold swp
  rw [ix_at e2 hj, Option.bind_some, get_at e2, Option.bind_some, ix_at e hi, Option.bind_some, get_at e, Option.bind_some, Option.bind_some, get_at e, Option.bind_some]
  have e3 := set_at y e
  rw [e3]
  have e4 : A ++ y :: (B ++ y :: C) = (A ++ y :: B) ++ y :: C := by simp
  have hj2 : j = ((A ++ y :: B).length : Int) := by rw [hj]; simp
  have e5 : (A ++ x :: B).length = (A ++ y :: B).length := by simp
  rw [ix_at e4 hj2, Option.bind_some, get_at e4, Option.bind_some, set_at x e4]
  simp
theorem snoc_of {n : Nat} {S : List α} (h : S.length = n + 1) : ∃ S' s, S = S' ++ [s] ∧ S'.length = n := by
  have hn : S ≠ [] := by intro e; rw [e] at h; cases h
  refine ⟨S.dropLast, S.getLast hn, (List.dropLast_concat_getLast hn).symm, by simp [h]⟩
theorem Stb.perm {lt : α → α → Bool} (h : Swo lt) {l l' : List α} (hs : Stb lt l l') : l'.Perm l := by
  classical
  rw [List.perm_iff_count]
  intro a
  rw [← List.count_filter (p := eqv lt a) (eqv_refl h a), hs.flt a, List.count_filter (eqv_refl h a)]
theorem Stb.len {lt : α → α → Bool} (h : Swo lt) {l l' : List α} (hs : Stb lt l l') : l'.length = l.length := (hs.perm h).length_eq
theorem Stb.app {lt : α → α → Bool} {l l' m m' : List α} (h1 : Stb lt l l') (h2 : Stb lt (l' ++ m) m') : Stb lt (l ++ m) m' :=
  h2.trans fun a => by simp [h1.flt]
end
def Cmp {α : Type} (lt : α → α → Bool) (p : α → α → Option Int) : Prop := ∀ x y, ∃ c, p x y = some c ∧ decide (c < 0) = lt x y
section
variable {lt : Api_Version → Api_Version → Bool} {p : Api_Version → Api_Version → Option Int}
theorem ins_in (h : Swo lt) (hp : Cmp lt p) (L R : List Api_Version) (v : Api_Version) (a x6 : Int) (ha : a = (L.length : Int)) (hx : -9223372036854775808 ≤ x6 + 1 ∧ x6 + 1 ≤ 9223372036854775807) :
    ∀ (n : Nat) (S1 S2 : List Api_Version) (j : Int) (xs : List Api_Version), S1.length = n → j = (L.length : Int) + S1.length → xs = L ++ S1 ++ v :: (S2 ++ R) → Srt lt (S1 ++ S2) → (∀ s ∈ S2, lt v s = true) → j < 4611686018427387904 →
    ∃ T, loopO (fun s : (Int × (List Api_Version)) => slices_insertionSortCmpFunc_Version_b2 a p x6 s.1 s.2) (j, xs) = some (.inl (x6 + 1, L ++ T ++ R)) ∧ Stb lt (S1 ++ S2 ++ [v]) T := by
  intro n
  induction n with
  | zero =>
    intro S1 S2 j xs hn hj hxs hs hv hb
    obtain rfl := List.eq_nil_of_length_eq_zero hn
    refine ⟨v :: S2, ?_, ?_⟩
    · apply loopO_end
      simp only [slices_insertionSortCmpFunc_Version_b2]
      rw [if_neg (by simp; simp at hj; omega)]
      simp only [slices_insertionSortCmpFunc_Version_j2, slices_insertionSortCmpFunc_Version_j1, wrap64 hx]
      simp [hxs]
    · simpa using Stb.ins h (S1 := []) hs hv (by simp)
  | succ n ih =>
    intro S1 S2 j xs hn hj hxs hs hv hb
    obtain ⟨S1', s, rfl, hn'⟩ := snoc_of hn
    rw [List.length_append, List.length_singleton] at hj
    have e1 : xs = (L ++ S1') ++ s :: ([] ++ v :: (S2 ++ R)) := by rw [hxs]; simp
    have e2 : xs = (L ++ (S1' ++ [s])) ++ v :: (S2 ++ R) := hxs
    have hj1 : j - 1 = ((L ++ S1').length : Int) := by rw [List.length_append]; omega
    have hj2 : j = ((L ++ (S1' ++ [s])).length : Int) := by simp; omega
    have hw : IntKind.i64.wrap (j - 1) = j - 1 := wrap64 (by omega)
    obtain ⟨c, hc, hd⟩ := hp v s
    have hb2 : slices_insertionSortCmpFunc_Version_b2 a p x6 j xs = slices_insertionSortCmpFunc_Version_j2 x6 j xs (lt v s) := by
      simp only [slices_insertionSortCmpFunc_Version_b2]
      rw [if_pos (by simp; omega), rd_at e2 hj2, hw, rd_at e1 hj1, hc, Option.bind_some, hd]
    cases hl : lt v s with
    | true =>
      have hst : slices_insertionSortCmpFunc_Version_b2 a p x6 j xs = some (.inl (j - 1, (L ++ S1') ++ v :: ([] ++ s :: (S2 ++ R)))) := by
        have h1 : (swp xs (j - 1) j) = _ := swp_lo e1 hj1 (by rw [← hj1]; simp)
        have h2 : slices_insertionSortCmpFunc_Version_j2 x6 j xs true = (swp xs (j - 1) j).bind fun r => some (.inl (j - 1, r)) := by
          simp only [slices_insertionSortCmpFunc_Version_j2, swp, Option.bind_assoc, Option.bind_some, hw, if_true]
        rw [hb2, hl, h2, h1, Option.bind_some]
      obtain ⟨T, h1, h2⟩ := ih S1' (s :: S2) (j - 1) _ hn' (by omega) rfl (by simpa using hs) (by
        intro x hx
        rcases List.mem_cons.1 hx with rfl | hx
        · exact hl
        · exact hv x hx) (by omega)
      refine ⟨T, ?_, by simpa using h2⟩
      rw [loopO_go hst]
      simpa using h1
    | false =>
      refine ⟨S1' ++ [s] ++ v :: S2, ?_, ?_⟩
      · apply loopO_end
        show slices_insertionSortCmpFunc_Version_b2 a p x6 j xs = _
        rw [hb2, hl]
        simp only [slices_insertionSortCmpFunc_Version_j2, slices_insertionSortCmpFunc_Version_j1, wrap64 hx]
        simp [hxs]
      · refine Stb.ins h hs hv (srt_last h ?_ hl)
        unfold Srt at hs ⊢
        rw [List.pairwise_append] at hs
        exact hs.1
theorem ins_out (h : Swo lt) (hp : Cmp lt p) (L R : List Api_Version) (a b : Int) (ha : a = (L.length : Int)) (hb : b < 4611686018427387904) :
    ∀ (Y S0 S : List Api_Version) (j : Int) (xs : List Api_Version), Stb lt S0 S → j = (L.length : Int) + S.length → b = (L.length : Int) + S.length + Y.length → xs = L ++ S ++ (Y ++ R) →
    ∃ T, loopO (fun s : (Int × (List Api_Version)) => slices_insertionSortCmpFunc_Version_b1 a b p s.1 s.2) (j, xs) = some (L ++ T ++ R) ∧ Stb lt (S0 ++ Y) T := by
  intro Y
  induction Y with
  | nil =>
    intro S0 S j xs hs hj hb' hxs
    refine ⟨S, ?_, by simpa using hs⟩
    apply loopO_end
    simp only [slices_insertionSortCmpFunc_Version_b1]
    rw [if_neg (by simp; simp at hb'; omega)]
    simp [hxs]
  | cons v Y ih =>
    intro S0 S j xs hs hj hb' hxs
    rw [List.length_cons] at hb'
    obtain ⟨T, h1, h2⟩ := ins_in h hp L (Y ++ R) v a j ha (by omega) S.length S [] j xs rfl hj (by rw [hxs]; simp) (by simpa using hs.srt) (by simp) (by omega)
    have hst : slices_insertionSortCmpFunc_Version_b1 a b p j xs = some (.inl (j + 1, L ++ T ++ (Y ++ R))) := by
      simp only [slices_insertionSortCmpFunc_Version_b1]
      rw [if_pos (by simp; omega)]
      exact h1
    rw [List.append_nil] at h2
    have hlT := h2.len h
    rw [List.length_append, List.length_singleton] at hlT
    obtain ⟨T', h3, h4⟩ := ih (S0 ++ [v]) T (j + 1) _ (hs.app h2) (by omega) (by omega) rfl
    refine ⟨T', ?_, by simpa using h4⟩
    rw [loopO_go hst, h3]
theorem ins_eq (h : Swo lt) (hp : Cmp lt p) (L X R : List Api_Version) {a b : Int} {xs : List Api_Version} (ha : a = (L.length : Int)) (hb : b = (L.length : Int) + X.length) (hn : b < 4611686018427387904) (hxs : xs = L ++ X ++ R) :
    ∃ T, slices_insertionSortCmpFunc_Version xs a b p = some (L ++ T ++ R) ∧ Stb lt X T := by
  unfold slices_insertionSortCmpFunc_Version
  rw [wrap64 (by omega)]
  cases X with
  | nil =>
    refine ⟨[], ?_, ⟨List.Pairwise.nil, fun _ => rfl⟩⟩
    apply loopO_end
    simp only [slices_insertionSortCmpFunc_Version_b1]
    rw [if_neg (by simp; simp at hb; omega)]
    simp [hxs]
  | cons v X =>
    rw [List.length_cons] at hb
    obtain ⟨T, h1, h2⟩ := ins_out h hp L R a b ha hn X [v] [v] (a + 1) xs ⟨by simp [Srt], fun _ => rfl⟩ (by simp; omega) (by simp; omega) (by rw [hxs]; simp)
    exact ⟨T, h1, by simpa using h2⟩
end
end Go.Proofs.Ythbonoagbeilkaa.Hay
set_option linter.unusedVariables false
set_option linter.unusedSimpArgs false
namespace Go.Proofs.Ythbonoagbeilkaa.Hay
section
variable {lt : Api_Version → Api_Version → Bool} {p : Api_Version → Api_Version → Option Int}
theorem swr_loop (p1 p2 p3 : Int) : ∀ (U2 V2 A V1 B U1 C : List Api_Version) (i : Int) (xs : List Api_Version), V2.length = U2.length → V1.length = U1.length → i = (V1.length : Int) → p1 = (A.length : Int) →
    p2 = (A.length : Int) + V1.length + U2.length + B.length → p3 = i + U2.length → xs = A ++ V1 ++ U2 ++ B ++ U1 ++ V2 ++ C → p2 + p3 < 4611686018427387904 →
    loopO (fun s : (Int × (List Api_Version)) => slices_swapRangeCmpFunc_Version_b1 p1 p2 p3 s.1 s.2) (i, xs) = some (A ++ (V1 ++ V2) ++ B ++ (U1 ++ U2) ++ C) := by
  intro U2
  induction U2 with
  | nil =>
    intro V2 A V1 B U1 C i xs h1 h2 h3 h4 h5 h6 hxs hb
    obtain rfl := List.eq_nil_of_length_eq_zero (h1.trans rfl)
    apply loopO_end
    simp only [slices_swapRangeCmpFunc_Version_b1]
    rw [if_neg (by simp; simp at h6; omega)]
    simp [hxs]
  | cons u U2 ih =>
    intro V2 A V1 B U1 C i xs h1 h2 h3 h4 h5 h6 hxs hb
    cases V2 with
    | nil => cases h1
    | cons v V2 =>
      rw [List.length_cons, List.length_cons] at h1
      rw [List.length_cons] at h5 h6
      have e1 : xs = (A ++ V1) ++ u :: ((U2 ++ B ++ U1) ++ v :: (V2 ++ C)) := by rw [hxs]; simp
      have hi : p1 + i = ((A ++ V1).length : Int) := by rw [List.length_append]; omega
      have hj : p2 + i = ((A ++ V1).length : Int) + 1 + (U2 ++ B ++ U1).length := by simp only [List.length_append]; omega
      have hst : slices_swapRangeCmpFunc_Version_b1 p1 p2 p3 i xs = some (.inl (i + 1, (A ++ V1) ++ v :: ((U2 ++ B ++ U1) ++ u :: (V2 ++ C)))) := by
        have h1 := swp_hi e1 hi hj
        have h2 : slices_swapRangeCmpFunc_Version_b1 p1 p2 p3 i xs = (swp xs (p2 + i) (p1 + i)).bind fun r => some (.inl (i + 1, r)) := by
          simp only [slices_swapRangeCmpFunc_Version_b1, swp, Option.bind_assoc, Option.bind_some]
          rw [if_pos (by simp; omega), wrap64 (by omega), wrap64 (by omega), wrap64 (by omega)]
        rw [h2, h1, Option.bind_some]
      rw [loopO_go hst, ih V2 A (V1 ++ [v]) B (U1 ++ [u]) C (i + 1) _ (by omega) (by simp; omega) (by simp; omega) h4 (by simp; omega) (by omega) (by simp) hb]
      simp
theorem swr_eq {A U B V C xs : List Api_Version} {p1 p2 p3 : Int} (h1 : V.length = U.length) (h2 : p1 = (A.length : Int)) (h3 : p2 = (A.length : Int) + U.length + B.length) (h4 : p3 = (U.length : Int)) (hxs : xs = A ++ U ++ B ++ V ++ C) (hb : p2 + p3 < 4611686018427387904) :
    slices_swapRangeCmpFunc_Version xs p1 p2 p3 p = some (A ++ V ++ B ++ U ++ C) := by
  unfold slices_swapRangeCmpFunc_Version
  have := swr_loop p1 p2 p3 U V A [] B [] C 0 xs h1 rfl rfl h2 (by simp; omega) (by omega) (by simpa using hxs) hb
  simpa using this
theorem rot_loop (m : Int) : ∀ (n : Nat) (X Y A C : List Api_Version) (i j : Int) (xs : List Api_Version), X.length + Y.length = n → 0 < X.length → 0 < Y.length → i = (X.length : Int) → j = (Y.length : Int) → m = (A.length : Int) + X.length →
    xs = A ++ X ++ Y ++ C → m + j < 2305843009213693952 → i < 2305843009213693952 →
    loopO (fun s : (Int × Int × (List Api_Version)) => slices_rotateCmpFunc_Version_b1 m p s.1 s.2.1 s.2.2) (i, j, xs) = some (A ++ Y ++ X ++ C) := by
  intro n
  induction n using Nat.strongRecOn with
  | _ n ih =>
    intro X Y A C i j xs hn hX hY hi hj hm hxs hb hb2
    by_cases hij : i = j
    · apply loopO_end
      simp only [slices_rotateCmpFunc_Version_b1]
      rw [if_neg (by simp [hij])]
      simp only [slices_rotateCmpFunc_Version_j1]
      rw [wrap64 (by omega), swr_eq (A := A) (U := X) (B := []) (V := Y) (C := C) (by omega) (by omega) (by simp; omega) hi (by simp [hxs]) (by omega)]
      simp
    · by_cases hlt : j < i
      · have hX2 : X = X.take Y.length ++ X.drop Y.length := (List.take_append_drop _ _).symm
        have hst : slices_rotateCmpFunc_Version_b1 m p i j xs = some (.inl (i - j, j, (A ++ Y) ++ X.drop Y.length ++ X.take Y.length ++ C)) := by
          simp only [slices_rotateCmpFunc_Version_b1]
          rw [if_pos (by simp [hij]), if_pos (by simp [hlt]), wrap64 (by omega), swr_eq (A := A) (U := X.take Y.length) (B := X.drop Y.length) (V := Y) (C := C) (by simp; omega) (by omega) (by simp; omega) (by simp; omega)
            (by rw [hxs]; simp) (by omega), Option.bind_some, wrap64 (by omega)]
        rw [loopO_go hst, ih (n - Y.length) (by omega) (X.drop Y.length) (X.take Y.length) (A ++ Y) C (i - j) j _ (by simp; omega) (by simp; omega) (by simp; omega) (by simp; omega) (by simp; omega) (by simp; omega) rfl (by omega) (by omega)]
        simp
      · have hY2 : Y = Y.take (Y.length - X.length) ++ Y.drop (Y.length - X.length) := (List.take_append_drop _ _).symm
        have hst : slices_rotateCmpFunc_Version_b1 m p i j xs = some (.inl (i, j - i, A ++ Y.drop (Y.length - X.length) ++ Y.take (Y.length - X.length) ++ (X ++ C))) := by
          simp only [slices_rotateCmpFunc_Version_b1]
          rw [if_pos (by simp [hij]), if_neg (by simp; omega), wrap64 (n := m - i) (by omega), wrap64 (n := m + j) (by omega), wrap64 (n := m + j - i) (by omega),
            swr_eq (A := A) (U := X) (B := Y.take (Y.length - X.length)) (V := Y.drop (Y.length - X.length)) (C := C) (by simp; omega) (by omega) (by simp; omega) (by omega)
            (by rw [hxs]; simp) (by omega), Option.bind_some, wrap64 (by omega)]
          simp
        rw [loopO_go hst, ih (n - X.length) (by omega) (Y.drop (Y.length - X.length)) (Y.take (Y.length - X.length)) A (X ++ C) i (j - i) _ (by simp; omega) (by simp; omega) (by simp; omega) (by simp; omega) (by simp; omega) (by simp; omega) rfl (by omega) (by omega)]
        simp
theorem rot_eq {A X Y C xs : List Api_Version} {a m b : Int} (hX : 0 < X.length) (hY : 0 < Y.length) (ha : a = (A.length : Int)) (hm : m = a + X.length) (hb : b = m + Y.length) (hxs : xs = A ++ X ++ Y ++ C) (hn : b < 2305843009213693952) :
    slices_rotateCmpFunc_Version xs a m b p = some (A ++ Y ++ X ++ C) := by
  unfold slices_rotateCmpFunc_Version
  rw [wrap64 (by omega), wrap64 (by omega)]
  exact rot_loop m _ X Y A C _ _ xs rfl hX hY (by omega) (by omega) (by omega) hxs (by omega) (by omega)
theorem mvr_loop (e : Int) (he : e < 4611686018427387904) (x : Api_Version) (Q : List Api_Version) : ∀ (Bs pre : List Api_Version) (k : Int) (xs : List Api_Version), k = (pre.length : Int) → e - 1 = k + Bs.length → xs = pre ++ x :: (Bs ++ Q) →
    loopO (fun s : (Int × (List Api_Version)) => slices_symMergeCmpFunc_Version_b1 e s.1 s.2) (k, xs) = some (pre ++ Bs ++ x :: Q) := by
  intro Bs
  induction Bs with
  | nil =>
    intro pre k xs hk h1 hxs
    apply loopO_end
    simp only [slices_symMergeCmpFunc_Version_b1]
    rw [wrap64 (by omega), if_neg (by simp; simp at h1; omega)]
    simp [slices_symMergeCmpFunc_Version_j2, hxs]
  | cons b Bs ih =>
    intro pre k xs hk h1 hxs
    rw [List.length_cons] at h1
    have e1 : xs = pre ++ x :: ([] ++ b :: (Bs ++ Q)) := by rw [hxs]; simp
    have hst : slices_symMergeCmpFunc_Version_b1 e k xs = some (.inl (k + 1, pre ++ b :: ([] ++ x :: (Bs ++ Q)))) := by
      have h2 := swp_hi e1 hk (j := k + 1) (by simp; omega)
      have h3 : slices_symMergeCmpFunc_Version_b1 e k xs = (swp xs (k + 1) k).bind fun r => some (.inl (k + 1, r)) := by
        simp only [slices_symMergeCmpFunc_Version_b1, swp, Option.bind_assoc, Option.bind_some]
        rw [wrap64 (n := e - 1) (by omega), if_pos (by simp; omega), wrap64 (by omega)]
      rw [h3, h2, Option.bind_some]
    rw [loopO_go hst, ih (pre ++ [b]) (k + 1) _ (by simp; omega) (by omega) (by simp)]
    simp
theorem mvl_loop (e : Int) (y : Api_Version) (pre : List Api_Version) (he : e = (pre.length : Int)) : ∀ (n : Nat) (As Q : List Api_Version) (k : Int) (xs : List Api_Version), As.length = n → k = e + As.length → xs = pre ++ As ++ y :: Q → k < 4611686018427387904 →
    loopO (fun s : (Int × (List Api_Version)) => slices_symMergeCmpFunc_Version_b3 e s.1 s.2) (k, xs) = some (pre ++ y :: (As ++ Q)) := by
  intro n
  induction n with
  | zero =>
    intro As Q k xs hn hk hxs hb
    obtain rfl := List.eq_nil_of_length_eq_zero hn
    apply loopO_end
    simp only [slices_symMergeCmpFunc_Version_b3]
    rw [if_neg (by simp; simp at hk; omega)]
    simp [slices_symMergeCmpFunc_Version_j4, hxs]
  | succ n ih =>
    intro As Q k xs hn hk hxs hb
    obtain ⟨As', s, rfl, hn'⟩ := snoc_of hn
    rw [List.length_append, List.length_singleton] at hk
    have e1 : xs = (pre ++ As') ++ s :: ([] ++ y :: Q) := by rw [hxs]; simp
    have hst : slices_symMergeCmpFunc_Version_b3 e k xs = some (.inl (k - 1, (pre ++ As') ++ y :: ([] ++ s :: Q))) := by
      have h2 := swp_lo e1 (i := k - 1) (j := k) (by simp; omega) (by simp; omega)
      have h3 : slices_symMergeCmpFunc_Version_b3 e k xs = (swp xs (k - 1) k).bind fun r => some (.inl (k - 1, r)) := by
        simp only [slices_symMergeCmpFunc_Version_b3, swp, Option.bind_assoc, Option.bind_some]
        rw [if_pos (by simp; omega), wrap64 (by omega)]
      rw [h3, h2, Option.bind_some]
    rw [loopO_go hst, ih As' (s :: Q) (k - 1) _ hn' (by omega) (by simp) (by omega)]
    simp
end
theorem bsearch {β : Type} {F : Int × Int → Option ((Int × Int) ⊕ β)} (g : Nat → Bool) (lo0 hi0 : Nat) (K : Nat → Option β)
    (hgo : ∀ lo hi : Nat, lo0 ≤ lo → lo < hi → hi ≤ hi0 → F (lo, hi) = some (.inl (if g ((lo + hi) / 2) then (((lo + hi) / 2 + 1 : Nat), hi) else (lo, ((lo + hi) / 2 : Nat)))))
    (hend : ∀ s : Nat, lo0 ≤ s → s ≤ hi0 → F (s, s) = (K s).map Sum.inr) (h : lo0 ≤ hi0) :
    ∃ s : Nat, lo0 ≤ s ∧ s ≤ hi0 ∧ (s = lo0 ∨ g (s - 1) = true) ∧ (s = hi0 ∨ g s = false) ∧ loopO F ((lo0 : Int), (hi0 : Int)) = K s := by
  have key : ∀ (n lo hi : Nat), hi - lo = n → lo0 ≤ lo → lo ≤ hi → hi ≤ hi0 → (lo = lo0 ∨ g (lo - 1) = true) → (hi = hi0 ∨ g hi = false) →
      ∃ s : Nat, lo0 ≤ s ∧ s ≤ hi0 ∧ (s = lo0 ∨ g (s - 1) = true) ∧ (s = hi0 ∨ g s = false) ∧ loopO F ((lo : Int), (hi : Int)) = K s := by
    intro n
    induction n using Nat.strongRecOn with
    | _ n ih =>
      intro lo hi hn h1 h2 h3 h4 h5
      by_cases hlt : lo < hi
      · have hst := hgo lo hi h1 hlt h3
        cases hg : g ((lo + hi) / 2) with
        | true =>
          rw [hg, if_pos rfl] at hst
          rw [loopO_go hst]
          exact ih (hi - ((lo + hi) / 2 + 1)) (by omega) _ _ rfl (by omega) (by omega) h3 (Or.inr (by simpa using hg)) h5
        | false =>
          rw [hg, if_neg (by simp)] at hst
          rw [loopO_go hst]
          exact ih ((lo + hi) / 2 - lo) (by omega) _ _ rfl h1 (by omega) (by omega) h4 (Or.inr hg)
      · obtain rfl : lo = hi := by omega
        refine ⟨lo, h1, h3, h4, h5, ?_⟩
        rw [loopO_eq, hend lo h1 h3]
        cases K lo <;> rfl
  exact key _ lo0 hi0 rfl (Nat.le_refl _) h (Nat.le_refl _) (Or.inl rfl) (Or.inl rfl)
theorem mid_of {x : Int} (h : 0 ≤ x ∧ x < 9223372036854775808) : IntKind.i64.wrap (iShr .u64 (IntKind.u64.wrap (IntKind.i64.wrap x)) 1) = x / 2 := by
  rw [wrap64 (n := x) (by omega), wrapu64, Int.emod_eq_of_lt (by omega) (by omega)]
  have : iShr .u64 x ((1 : Nat) : Int) = x / 2 ^ 1 := shr64 (by decide)
  rw [show (1 : Int) = ((1 : Nat) : Int) from rfl, this, wrap64 (by omega)]
  rfl
section
variable {α : Type}
theorem rd_get {β : Type} {xs : List α} {x : α} {i : Int} {h : Nat} {k : Nat → α → Option β} (e : xs[h]? = some x) (hi : i = (h : Int)) : ((ix xs i).bind fun j => (xs[j]?).bind fun x => k j x) = k h x := by
  obtain ⟨hl, hx⟩ := List.getElem?_eq_some_iff.1 e
  rw [hi, ix_nat hl, Option.bind_some, e, Option.bind_some]
theorem xsA {L A B R : List α} {k : Nat} (h : k < A.length) : (L ++ A ++ B ++ R)[L.length + k]? = A[k]? := by
  rw [List.append_assoc, List.append_assoc, List.getElem?_append_right (by omega), show L.length + k - L.length = k by omega, List.getElem?_append_left h]
theorem xsB {L A B R : List α} {k : Nat} (h : k < B.length) : (L ++ A ++ B ++ R)[L.length + A.length + k]? = B[k]? := by
  rw [List.append_assoc, List.getElem?_append_right (by simp), show L.length + A.length + k - (L ++ A).length = k by simp, List.getElem?_append_left h]
theorem take_last {A : List α} {k : Nat} (h : k < A.length) {x : α} (e : A[k]? = some x) : ∃ A', A.take (k + 1) = A' ++ [x] := by
  obtain ⟨hl, hx⟩ := List.getElem?_eq_some_iff.1 e
  exact ⟨A.take k, by rw [List.take_add_one, e]; rfl⟩
theorem drop_first {A : List α} {k : Nat} {x : α} (e : A[k]? = some x) : ∃ A', A.drop k = x :: A' := by
  obtain ⟨hl, hx⟩ := List.getElem?_eq_some_iff.1 e
  exact ⟨A.drop (k + 1), by rw [List.drop_eq_getElem_cons hl, hx]⟩
theorem cut_ok {lt : α → α → Bool} (h : Swo lt) {A1 A2 B1 B2 : List α} (hA : Srt lt (A1 ++ A2)) (hB : Srt lt (B1 ++ B2))
    (h1 : B1 = [] ∨ A2 = [] ∨ ∃ B' b a A', B1 = B' ++ [b] ∧ A2 = a :: A' ∧ lt b a = true)
    (h2 : A1 = [] ∨ B2 = [] ∨ ∃ A' a b B', A1 = A' ++ [a] ∧ B2 = b :: B' ∧ lt b a = false) :
    (∀ b ∈ B1, ∀ a ∈ A2, lt b a = true) ∧ (∀ a ∈ A1, ∀ b ∈ B2, lt b a = false) := by
  unfold Srt at hA hB
  rw [List.pairwise_append] at hA hB
  constructor
  · rcases h1 with rfl | rfl | ⟨B', bl, af, A', rfl, rfl, hl⟩
    · simp
    · simp
    · intro b hb a ha
      cases hba : lt b a with
      | true => rfl
      | false =>
        exfalso
        have hb1 : lt bl b = false := by
          rcases List.mem_append.1 hb with hb | hb
          · exact (List.pairwise_append.1 hB.1).2.2 b hb bl (by simp)
          · simp at hb; subst hb; exact h.irr _
        have ha1 : lt a af = false := by
          rcases List.mem_cons.1 ha with rfl | ha
          · exact h.irr _
          · exact (List.pairwise_cons.1 hA.2.1).1 a ha
        have := h.inc bl a af (h.inc bl b a hb1 hba) ha1
        rw [hl] at this; cases this
  · rcases h2 with rfl | rfl | ⟨A', al, bf, B', rfl, rfl, hl⟩
    · simp
    · simp
    · intro a ha b hb
      have hb1 : lt b bf = false := by
        rcases List.mem_cons.1 hb with rfl | hb
        · exact h.irr _
        · exact (List.pairwise_cons.1 hB.2.1).1 b hb
      have ha1 : lt al a = false := by
        rcases List.mem_append.1 ha with ha | ha
        · exact (List.pairwise_append.1 hA.1).2.2 a ha al (by simp)
        · simp at ha; subst ha; exact h.irr _
      exact h.inc b bf a hb1 (h.inc bf al a hl ha1)
theorem Srt.take {lt : α → α → Bool} {A : List α} (h : Srt lt A) (k : Nat) : Srt lt (A.take k) := List.Pairwise.sublist (List.take_sublist k A) h
theorem Srt.drop {lt : α → α → Bool} {A : List α} (h : Srt lt A) (k : Nat) : Srt lt (A.drop k) := List.Pairwise.sublist (List.drop_sublist k A) h
end
end Go.Proofs.Ythbonoagbeilkaa.Hay
set_option linter.unusedVariables false
set_option linter.unusedSimpArgs false
namespace Go.Proofs.Ythbonoagbeilkaa.Hay
section
variable {lt : Api_Version → Api_Version → Bool} {p : Api_Version → Api_Version → Option Int}
def SymOk (lt : Api_Version → Api_Version → Bool) (p : Api_Version → Api_Version → Option Int) (self_ : List Api_Version → Int → Int → Int → (Api_Version → Api_Version → Option Int) → Option (List Api_Version)) (N : Nat) : Prop :=
  ∀ (L A B R : List Api_Version) (a m b : Int) (xs : List Api_Version), 0 < A.length → 0 < B.length → a = (L.length : Int) → m = (L.length : Int) + A.length → b = (L.length : Int) + A.length + B.length → xs = L ++ A ++ B ++ R →
    A.length + B.length ≤ N → xs.length < 1152921504606846976 → Srt lt A → Srt lt B → ∃ T, self_ xs a m b p = some (L ++ T ++ R) ∧ Stb lt (A ++ B) T
def gx (lt : Api_Version → Api_Version → Bool) (xs : List Api_Version) (i j : Nat) : Bool := match xs[i]?, xs[j]? with
  | some x, some y => lt x y
  | _, _ => false
theorem gx_of {xs : List Api_Version} {i j : Nat} {x y : Api_Version} (h1 : xs[i]? = some x) (h2 : xs[j]? = some y) : gx lt xs i j = lt x y := by simp [gx, h1, h2]
theorem cut_of (h : Swo lt) {L A B R xs : List Api_Version} (hxs : xs = L ++ A ++ B ++ R) (hA : Srt lt A) (hB : Srt lt B) (k1 k2 : Nat) (h1 : k1 ≤ A.length) (h2 : k2 ≤ B.length)
    (c1 : k2 = 0 ∨ k1 = A.length ∨ (0 < k2 ∧ k1 < A.length ∧ gx lt xs (L.length + A.length + (k2 - 1)) (L.length + k1) = true))
    (c2 : k1 = 0 ∨ k2 = B.length ∨ (0 < k1 ∧ k2 < B.length ∧ gx lt xs (L.length + A.length + k2) (L.length + (k1 - 1)) = false)) :
    (∀ b ∈ B.take k2, ∀ a ∈ A.drop k1, lt b a = true) ∧ (∀ a ∈ A.take k1, ∀ b ∈ B.drop k2, lt b a = false) := by
  have hA' : Srt lt (A.take k1 ++ A.drop k1) := by rw [List.take_append_drop]; exact hA
  have hB' : Srt lt (B.take k2 ++ B.drop k2) := by rw [List.take_append_drop]; exact hB
  refine cut_ok h hA' hB' ?_ ?_
  · rcases c1 with rfl | rfl | ⟨hk, hk1, hg⟩
    · simp
    · simp
    · right; right
      have eb : B[k2 - 1]? = some B[k2 - 1] := List.getElem?_eq_getElem (by omega)
      have ea : A[k1]? = some A[k1] := List.getElem?_eq_getElem hk1
      obtain ⟨B', hB'⟩ := take_last (by omega) eb
      obtain ⟨A', hA'⟩ := drop_first ea
      rw [show k2 - 1 + 1 = k2 by omega] at hB'
      refine ⟨B', _, _, A', hB', hA', ?_⟩
      rw [← hg, hxs, gx_of ((xsB (by omega)).trans eb) ?_]
      exact (xsA hk1).trans ea
  · rcases c2 with rfl | rfl | ⟨hk, hk2, hg⟩
    · simp
    · simp
    · right; right
      have ea : A[k1 - 1]? = some A[k1 - 1] := List.getElem?_eq_getElem (by omega)
      have eb : B[k2]? = some B[k2] := List.getElem?_eq_getElem hk2
      obtain ⟨A', hA'⟩ := take_last (by omega) ea
      obtain ⟨B', hB'⟩ := drop_first eb
      rw [show k1 - 1 + 1 = k1 by omega] at hA'
      refine ⟨A', _, _, B', hA', hB', ?_⟩
      rw [← hg, hxs, gx_of ((xsB hk2).trans eb) ?_]
      exact (xsA (by omega)).trans ea
theorem sym_one (h : Swo lt) (hp : Cmp lt p) {L B R xs : List Api_Version} {x : Api_Version} {a m b : Int} (hB0 : 0 < B.length) (ha : a = (L.length : Int)) (hm : m = (L.length : Int) + 1) (hb : b = (L.length : Int) + 1 + B.length)
    (hxs : xs = L ++ [x] ++ B ++ R) (hn : xs.length < 1152921504606846976) (hB : Srt lt B) :
    ∃ T, loopO (fun s : (Int × Int) => slices_symMergeCmpFunc_Version_b2 xs a p s.1 s.2) (m, b) = some (L ++ T ++ R) ∧ Stb lt ([x] ++ B) T := by
  have hlen : xs.length = L.length + 1 + B.length + R.length := by rw [hxs]; simp; omega
  have ex : xs[L.length]? = some x := by rw [hxs]; simp
  have hm' : m = ((L.length + 1 : Nat) : Int) := by omega
  have hb' : b = ((L.length + 1 + B.length : Nat) : Int) := by omega
  obtain ⟨s, h1, h2, h3, h4, h5⟩ := bsearch (F := fun s : (Int × Int) => slices_symMergeCmpFunc_Version_b2 xs a p s.1 s.2) (fun c => gx lt xs c L.length) (L.length + 1) (L.length + 1 + B.length)
    (fun s => slices_symMergeCmpFunc_Version_j1 xs a (s : Int)) (fun lo hi h1 h2 h3 => by
      have hc : (lo + hi) / 2 < xs.length := by omega
      have ec : xs[(lo + hi) / 2]? = some xs[(lo + hi) / 2] := List.getElem?_eq_getElem hc
      obtain ⟨c, hc1, hc2⟩ := hp xs[(lo + hi) / 2] x
      simp only [slices_symMergeCmpFunc_Version_b2]
      rw [if_pos (by simp; omega), mid_of (by omega), rd_get ec (by omega), rd_get ex ha, hc1, Option.bind_some, hc2, gx_of ec ex, wrap64 (by omega)]
      split <;> rfl)
    (fun s h1 h2 => by
      simp only [slices_symMergeCmpFunc_Version_b2]
      rw [if_neg (by simp)]) (by omega)
  obtain ⟨k, rfl⟩ : ∃ k, s = L.length + 1 + k := ⟨s - (L.length + 1), by omega⟩
  have hcut := cut_of h (A := [x]) hxs (by simp [Srt]) hB 0 k (by simp) (by omega)
    (by rcases h3 with h3 | h3
        · left; omega
        · by_cases hk : k = 0
          · left; exact hk
          · right; right; refine ⟨by omega, by simp, ?_⟩
            rw [← h3]; congr 1; simp; omega)
    (Or.inl rfl)
  have hcut2 : ∀ b ∈ B.drop k, lt b x = false := by
    have := cut_of h (A := [x]) hxs (by simp [Srt]) hB 1 k (by simp) (by omega) (Or.inr (Or.inl rfl))
      (by rcases h4 with h4 | h4
          · right; left; omega
          · by_cases hk : k = B.length
            · right; left; exact hk
            · right; right; refine ⟨by omega, by omega, ?_⟩
              rw [← h4]; congr 1)
    intro b hb
    exact this.2 x (by simp) b hb
  refine ⟨B.take k ++ x :: B.drop k, ?_, ?_⟩
  · rw [hm', hb', h5]
    unfold slices_symMergeCmpFunc_Version_j1
    rw [mvr_loop _ (by omega) x (B.drop k ++ R) (B.take k) L a xs ha (by simp; omega) (by rw [hxs, ← List.append_assoc (B.take k), List.take_append_drop]; simp)]
    simp
  · have hB' : Srt lt (B.take k ++ B.drop k) := by rw [List.take_append_drop]; exact hB
    have := Stb.cat h (A1 := []) (A2 := [x]) (B1 := B.take k) (B2 := B.drop k) (R1 := B.take k) (R2 := x :: B.drop k) (Stb.refl (hB.take k))
      (Stb.refl (by
        unfold Srt
        rw [List.singleton_append, List.pairwise_cons]
        exact ⟨hcut2, hB.drop k⟩)) (by simp [Srt]) hB' (fun b hb a ha => hcut.1 b hb a ha) (by simp)
    simpa using this
theorem sym_last (h : Swo lt) (hp : Cmp lt p) {L A R xs : List Api_Version} {y : Api_Version} {a m : Int} (hA0 : 0 < A.length) (ha : a = (L.length : Int)) (hm : m = (L.length : Int) + A.length)
    (hxs : xs = L ++ A ++ [y] ++ R) (hn : xs.length < 1152921504606846976) (hA : Srt lt A) :
    ∃ T, loopO (fun s : (Int × Int) => slices_symMergeCmpFunc_Version_b4 xs m p s.1 s.2) (a, m) = some (L ++ T ++ R) ∧ Stb lt (A ++ [y]) T := by
  have hlen : xs.length = L.length + A.length + 1 + R.length := by rw [hxs]; simp; omega
  have ey : xs[L.length + A.length]? = some y := by
    rw [hxs]; simp
  have hm' : m = ((L.length + A.length : Nat) : Int) := by omega
  obtain ⟨s, h1, h2, h3, h4, h5⟩ := bsearch (F := fun s : (Int × Int) => slices_symMergeCmpFunc_Version_b4 xs m p s.1 s.2) (fun c => !gx lt xs (L.length + A.length) c) L.length (L.length + A.length)
    (fun s => slices_symMergeCmpFunc_Version_j3 xs m (s : Int)) (fun lo hi h1 h2 h3 => by
      have hc : (lo + hi) / 2 < xs.length := by omega
      have ec : xs[(lo + hi) / 2]? = some xs[(lo + hi) / 2] := List.getElem?_eq_getElem hc
      obtain ⟨c, hc1, hc2⟩ := hp y xs[(lo + hi) / 2]
      simp only [slices_symMergeCmpFunc_Version_b4]
      rw [if_pos (by simp; omega), mid_of (by omega), rd_get ey hm', rd_get ec (by omega), hc1, Option.bind_some, hc2, gx_of ey ec, wrap64 (by omega)]
      split <;> rfl)
    (fun s h1 h2 => by
      simp only [slices_symMergeCmpFunc_Version_b4]
      rw [if_neg (by simp)]) (by omega)
  obtain ⟨k, rfl⟩ : ∃ k, s = L.length + k := ⟨s - L.length, by omega⟩
  have hk : k ≤ A.length := by omega
  have hcut1 : ∀ a ∈ A.drop k, lt y a = true := by
    have := cut_of h hxs hA (by simp [Srt] : Srt lt [y]) k 1 hk (by simp)
      (by rcases h4 with h4 | h4
          · right; left; omega
          · by_cases hk' : k = A.length
            · right; left; exact hk'
            · right; right; refine ⟨by omega, by omega, ?_⟩
              simpa using h4)
      (Or.inr (Or.inl rfl))
    intro a ha
    exact this.1 y (by simp) a ha
  have hcut2 : ∀ a ∈ A.take k, lt y a = false := by
    have := cut_of h hxs hA (by simp [Srt] : Srt lt [y]) k 0 hk (by simp) (Or.inl rfl)
      (by rcases h3 with h3 | h3
          · left; omega
          · by_cases hk' : k = 0
            · left; exact hk'
            · right; right; refine ⟨by omega, by simp, ?_⟩
              rw [show L.length + (k - 1) = L.length + k - 1 by omega]
              simpa using h3)
    intro a ha
    exact this.2 a ha y (by simp)
  refine ⟨A.take k ++ y :: A.drop k, ?_, ?_⟩
  · rw [ha, hm']
    rw [← hm', ← ha] at h5 ⊢
    rw [h5]
    unfold slices_symMergeCmpFunc_Version_j3
    rw [mvl_loop _ y (L ++ A.take k) (by simp; omega) _ (A.drop k) R m xs rfl (by simp; omega) (by rw [hxs]; simp) (by omega)]
    simp
  · have hA' : Srt lt (A.take k ++ A.drop k) := by rw [List.take_append_drop]; exact hA
    have := Stb.cat h (A1 := A.take k) (A2 := A.drop k) (B1 := [y]) (B2 := []) (R1 := A.take k ++ [y]) (R2 := A.drop k) (Stb.refl (by
        unfold Srt
        rw [List.pairwise_append]
        refine ⟨hA.take k, by simp, fun a ha b hb => ?_⟩
        rw [List.mem_singleton] at hb; subst hb
        exact hcut2 a ha)) (by simpa using Stb.refl (hA.drop k)) hA' (by simp [Srt]) (fun b hb a ha => by
          rw [List.mem_singleton] at hb; subst hb
          exact hcut1 a ha) (by simp)
    simpa using this
theorem j6_eq {self_ : List Api_Version → Int → Int → Int → (Api_Version → Api_Version → Option Int) → Option (List Api_Version)} {xs : List Api_Version} {a m b s mid e : Int}
    (hmid : mid = (a + b) / 2) (he : e = mid + m - s) (h0 : 0 ≤ a) (h1 : 0 ≤ m) (h2 : 0 ≤ b) (h3 : 0 ≤ s) (ha : a < 1152921504606846976) (hb : b < 1152921504606846976) (hm : m < 1152921504606846976) (hs : s < 1152921504606846976) :
    slices_symMergeCmpFunc_Version_j6 xs a m b p self_ s = (if s < m ∧ m < e then slices_rotateCmpFunc_Version xs s m e p else some xs).bind fun r =>
      (if a < s ∧ s < mid then self_ r a s mid p else some r).bind fun r2 => (if mid < e ∧ e < b then self_ r2 mid e b p else some r2) := by
  have hM : IntKind.i64.wrap (iShr .u64 (IntKind.u64.wrap (IntKind.i64.wrap (a + b))) 1) = mid := by rw [mid_of (by omega), hmid]
  have hN : IntKind.i64.wrap (mid + m) = mid + m := wrap64 (by omega)
  have hE : IntKind.i64.wrap (mid + m - s) = e := by rw [wrap64 (by omega), he]
  have h11 : ∀ r2, slices_symMergeCmpFunc_Version_j10 a m b p self_ s r2 = (if mid < e ∧ e < b then self_ r2 mid e b p else some r2) := by
    intro r2
    simp only [slices_symMergeCmpFunc_Version_j10, slices_symMergeCmpFunc_Version_j11, hM, hN, hE]
    by_cases c1 : mid < e <;> by_cases c2 : e < b <;> simp [c1, c2]
  have h9 : ∀ r, slices_symMergeCmpFunc_Version_j8 a m b p self_ s r = (if a < s ∧ s < mid then self_ r a s mid p else some r).bind fun r2 => (if mid < e ∧ e < b then self_ r2 mid e b p else some r2) := by
    intro r
    simp only [slices_symMergeCmpFunc_Version_j8, slices_symMergeCmpFunc_Version_j9, hM, h11]
    by_cases c1 : a < s <;> by_cases c2 : s < mid <;> simp [c1, c2]
  simp only [slices_symMergeCmpFunc_Version_j6, slices_symMergeCmpFunc_Version_j7, hM, hN, hE, h9]
  by_cases c1 : s < m <;> by_cases c2 : m < e <;> simp [c1, c2]
end
end Go.Proofs.Ythbonoagbeilkaa.Hay
set_option linter.unusedVariables false
set_option linter.unusedSimpArgs false
namespace Go.Proofs.Ythbonoagbeilkaa.Hay
section
variable {lt : Api_Version → Api_Version → Bool} {p : Api_Version → Api_Version → Option Int}
theorem sym_F (h : Swo lt) (hp : Cmp lt p) {self_ : List Api_Version → Int → Int → Int → (Api_Version → Api_Version → Option Int) → Option (List Api_Version)} {N : Nat} (hself : SymOk lt p self_ N) :
    SymOk lt p (slices_symMergeCmpFunc_Version_F self_) (N + 1) := by
  intro L A B R a m b xs hA0 hB0 ha hm hb hxs hN hn hA hB
  have hlen : xs.length = L.length + A.length + B.length + R.length := by rw [hxs]; simp; omega
  simp only [slices_symMergeCmpFunc_Version_F]
  by_cases hA1 : A.length = 1
  · rw [wrap64 (n := m - a) (by omega), if_pos (by simp; omega)]
    obtain ⟨x, rfl⟩ := List.length_eq_one_iff.1 hA1
    exact sym_one h hp hB0 ha (by simpa using hm) (by simpa using hb) hxs hn hB
  rw [wrap64 (n := m - a) (by omega), if_neg (by simp; omega)]
  by_cases hB1 : B.length = 1
  · rw [wrap64 (n := b - m) (by omega), if_pos (by simp; omega)]
    obtain ⟨y, rfl⟩ := List.length_eq_one_iff.1 hB1
    exact sym_last h hp hA0 ha hm hxs hn hA
  rw [wrap64 (n := b - m) (by omega), if_neg (by simp; omega)]
  have hM : IntKind.i64.wrap (iShr .u64 (IntKind.u64.wrap (IntKind.i64.wrap (a + b))) 1) = (a + b) / 2 := mid_of (by omega)
  have hNn : IntKind.i64.wrap ((a + b) / 2 + m) = (a + b) / 2 + m := wrap64 (by omega)
  -- numbers
  obtain ⟨aN, haN⟩ : ∃ n : Nat, n = L.length := ⟨_, rfl⟩
  obtain ⟨mN, hmN⟩ : ∃ n : Nat, n = L.length + A.length := ⟨_, rfl⟩
  obtain ⟨bN, hbN⟩ : ∃ n : Nat, n = L.length + A.length + B.length := ⟨_, rfl⟩
  have ha' : a = (aN : Int) := by omega
  have hm' : m = (mN : Int) := by omega
  have hb' : b = (bN : Int) := by omega
  obtain ⟨mid, hmid⟩ : ∃ n : Nat, n = (aN + bN) / 2 := ⟨_, rfl⟩
  have hmid' : (a + b) / 2 = (mid : Int) := by omega
  rw [hmid'] at hM hNn
  -- the search
  have key : ∀ lo0 hi0 : Nat, aN ≤ lo0 → lo0 ≤ hi0 → hi0 ≤ mN → hi0 ≤ mid → (lo0 = aN ∨ lo0 + bN = mid + mN) → (hi0 = mN ∨ hi0 = mid) → mid + mN ≤ lo0 + bN →
      ∃ T, slices_symMergeCmpFunc_Version_j5 xs a m b p self_ (lo0 : Int) (hi0 : Int) = some (L ++ T ++ R) ∧ Stb lt (A ++ B) T := by
    intro lo0 hi0 q1 q2 q3 q4 q5 q6 q7
    obtain ⟨s, h1, h2, h3, h4, h5⟩ := bsearch (F := fun s : (Int × Int) => slices_symMergeCmpFunc_Version_b5 xs a m b p self_ s.1 s.2) (fun c => !gx lt xs (mid + mN - 1 - c) c) lo0 hi0
      (fun s => slices_symMergeCmpFunc_Version_j6 xs a m b p self_ (s : Int)) (fun lo hi g1 g2 g3 => by
        have hc : (lo + hi) / 2 < xs.length := by omega
        have hd : mid + mN - 1 - (lo + hi) / 2 < xs.length := by omega
        have ec : xs[(lo + hi) / 2]? = some xs[(lo + hi) / 2] := List.getElem?_eq_getElem hc
        have ed : xs[mid + mN - 1 - (lo + hi) / 2]? = some xs[mid + mN - 1 - (lo + hi) / 2] := List.getElem?_eq_getElem hd
        obtain ⟨c, hc1, hc2⟩ := hp xs[mid + mN - 1 - (lo + hi) / 2] xs[(lo + hi) / 2]
        simp only [slices_symMergeCmpFunc_Version_b5]
        rw [if_pos (by simp; omega), hM, mid_of (by omega), hNn, wrap64 (n := (mid : Int) + m - 1) (by omega), wrap64 (n := (mid : Int) + m - 1 - ((lo : Int) + hi) / 2) (by omega), rd_get ed (by omega), rd_get ec (by omega), hc1, Option.bind_some, hc2, gx_of ed ec, wrap64 (by omega)]
        split <;> rfl)
      (fun s g1 g2 => by
        simp only [slices_symMergeCmpFunc_Version_b5]
        rw [if_neg (by simp)]) q2
    unfold slices_symMergeCmpFunc_Version_j5
    rw [h5, j6_eq (mid := (mid : Int)) (e := ((mid + mN - s : Nat) : Int)) hmid'.symm (by omega) (by omega) (by omega) (by omega) (by omega) (by omega) (by omega) (by omega) (by omega)]
    obtain ⟨k1, hk1⟩ : ∃ k, s = L.length + k := ⟨s - L.length, by omega⟩
    obtain ⟨k2, hk2⟩ : ∃ k, mid + mN - s = L.length + A.length + k := ⟨mid + mN - s - (L.length + A.length), by omega⟩
    have hkA : k1 ≤ A.length := by omega
    have hkB : k2 ≤ B.length := by omega
    obtain ⟨c1, c2⟩ := cut_of h hxs hA hB k1 k2 hkA hkB
      (by rcases h4 with h4 | h4
          · rcases q6 with q6 | q6
            · right; left; omega
            · left; omega
          · by_cases e1 : k2 = 0
            · left; exact e1
            by_cases e2 : k1 = A.length
            · right; left; exact e2
            right; right
            refine ⟨by omega, by omega, ?_⟩
            rw [show L.length + A.length + (k2 - 1) = mid + mN - 1 - s by omega, ← hk1]
            simpa using h4)
      (by rcases h3 with h3 | h3
          · rcases q5 with q5 | q5
            · left; omega
            · right; left; omega
          · by_cases e1 : k1 = 0
            · left; exact e1
            by_cases e2 : k2 = B.length
            · right; left; exact e2
            right; right
            refine ⟨by omega, by omega, ?_⟩
            rw [show L.length + A.length + k2 = mid + mN - 1 - (s - 1) by omega, show L.length + (k1 - 1) = s - 1 by omega]
            simpa using h3)
    have eA : A.take k1 ++ A.drop k1 = A := List.take_append_drop _ _
    have eB : B.take k2 ++ B.drop k2 = B := List.take_append_drop _ _
    have lA1 : (A.take k1).length = k1 := by simp; omega
    have lA2 : (A.drop k1).length = A.length - k1 := by simp
    have lB1 : (B.take k2).length = k2 := by simp; omega
    have lB2 : (B.drop k2).length = B.length - k2 := by simp
    have hx4 : xs = L ++ A.take k1 ++ A.drop k1 ++ B.take k2 ++ (B.drop k2 ++ R) := by
      rw [hxs]
      conv => lhs; rw [← eA, ← eB]
      simp only [List.append_assoc]
    -- the turn
    have hrot : (if (s : Int) < m ∧ m < ((mid + mN - s : Nat) : Int) then slices_rotateCmpFunc_Version xs s m ((mid + mN - s : Nat) : Int) p else some xs) = some (L ++ A.take k1 ++ B.take k2 ++ (A.drop k1 ++ B.drop k2 ++ R)) := by
      split
      · rename_i hc
        rw [rot_eq (A := L ++ A.take k1) (X := A.drop k1) (Y := B.take k2) (C := B.drop k2 ++ R) (by rw [lA2]; omega) (by rw [lB1]; omega) (by rw [List.length_append, lA1]; omega) (by rw [lA2]; omega) (by rw [lB1]; omega)
          hx4 (by omega)]
        simp
      · rename_i hc
        rw [hx4]
        by_cases e1 : k1 = A.length
        · have : A.drop k1 = [] := List.drop_of_length_le (by omega)
          rw [this]
          simp only [List.append_assoc, List.nil_append, List.append_nil]
        · have e2 : k2 = 0 := by omega
          have : B.take k2 = [] := by rw [e2]; rfl
          rw [this]
          simp only [List.append_assoc, List.nil_append, List.append_nil]
    rw [hrot, Option.bind_some]
    -- ahead
    have h1' : ∃ T1, (if a < (s : Int) ∧ (s : Int) < (mid : Int) then self_ (L ++ A.take k1 ++ B.take k2 ++ (A.drop k1 ++ B.drop k2 ++ R)) a s mid p else some (L ++ A.take k1 ++ B.take k2 ++ (A.drop k1 ++ B.drop k2 ++ R))) = some (L ++ T1 ++ (A.drop k1 ++ B.drop k2 ++ R)) ∧ Stb lt (A.take k1 ++ B.take k2) T1 := by
      split
      · rename_i hc
        exact hself L (A.take k1) (B.take k2) _ a s mid _ (by omega) (by omega) ha (by rw [lA1]; omega) (by rw [lA1, lB1]; omega) rfl (by omega) (by simp only [List.length_append, lA1, lB1, lA2, lB2]; omega) (hA.take _) (hB.take _)
      · rename_i hc
        refine ⟨A.take k1 ++ B.take k2, by simp, Stb.refl ?_⟩
        by_cases e1 : k1 = 0
        · rw [e1]; simpa using hB.take k2
        · have e2 : k2 = 0 := by omega
          rw [e2]; simpa using hA.take k1
    obtain ⟨T1, e1, s1⟩ := h1'
    rw [e1, Option.bind_some]
    have lT1 : T1.length = k1 + k2 := by rw [s1.len h, List.length_append, lA1, lB1]
    have h2' : ∃ T2, (if (mid : Int) < ((mid + mN - s : Nat) : Int) ∧ ((mid + mN - s : Nat) : Int) < b then self_ (L ++ T1 ++ (A.drop k1 ++ B.drop k2 ++ R)) mid ((mid + mN - s : Nat) : Int) b p else some (L ++ T1 ++ (A.drop k1 ++ B.drop k2 ++ R))) = some (L ++ T1 ++ T2 ++ R) ∧ Stb lt (A.drop k1 ++ B.drop k2) T2 := by
      split
      · rename_i hc
        exact hself (L ++ T1) (A.drop k1) (B.drop k2) R mid _ b _ (by omega) (by omega) (by rw [List.length_append, lT1]; omega) (by rw [List.length_append, lT1, lA2]; omega) (by rw [List.length_append, lT1, lA2, lB2]; omega) (by simp) (by omega) (by simp only [List.length_append, lA2, lB2, lT1]; omega) (hA.drop _) (hB.drop _)
      · rename_i hc
        refine ⟨A.drop k1 ++ B.drop k2, by simp, Stb.refl ?_⟩
        by_cases e1 : k1 = A.length
        · rw [e1]; simpa using hB.drop k2
        · have e2 : k2 = B.length := by omega
          rw [e2]; simpa using hA.drop k1
    obtain ⟨T2, e2, s2⟩ := h2'
    rw [e2]
    refine ⟨T1 ++ T2, by simp, ?_⟩
    have := Stb.cat h s1 s2 (by rw [eA]; exact hA) (by rw [eB]; exact hB) c1 c2
    rw [eA, eB] at this
    exact this
  rw [hM]
  by_cases hmm : mid < mN
  · rw [if_pos (by simp; omega), hNn, wrap64 (by omega)]
    have := key (mid + mN - bN) mid (by omega) (by omega) (by omega) (by omega) (Or.inr (by omega)) (Or.inr rfl) (by omega)
    rw [show ((mid + mN - bN : Nat) : Int) = (mid : Int) + m - b by omega] at this
    exact this
  · rw [if_neg (by simp; omega)]
    have := key aN mN (by omega) (by omega) (by omega) (by omega) (Or.inl rfl) (Or.inl rfl) (by omega)
    rw [← ha', ← hm'] at this
    exact this
theorem sym_n (h : Swo lt) (hp : Cmp lt p) : ∀ n, SymOk lt p (slices_symMergeCmpFunc_Version_n n) n := by
  intro n
  induction n with
  | zero => intro L A B R a m b xs hA hB _ _ _ _ hN; omega
  | succ n ih => exact sym_F h hp ih
theorem sym_eq (h : Swo lt) (hp : Cmp lt p) {L A B R xs : List Api_Version} {a m b : Int} (hA0 : 0 < A.length) (hB0 : 0 < B.length) (ha : a = (L.length : Int)) (hm : m = (L.length : Int) + A.length) (hb : b = (L.length : Int) + A.length + B.length)
    (hxs : xs = L ++ A ++ B ++ R) (hn : xs.length < 1152921504606846976) (hA : Srt lt A) (hB : Srt lt B) :
    ∃ T, slices_symMergeCmpFunc_Version xs a m b p = some (L ++ T ++ R) ∧ Stb lt (A ++ B) T := by
  unfold slices_symMergeCmpFunc_Version
  exact sym_n h hp _ L A B R a m b xs hA0 hB0 ha hm hb hxs (by rw [hxs]; simp; omega) hn hA hB
end
end Go.Proofs.Ythbonoagbeilkaa.Hay
set_option linter.unusedVariables false
set_option linter.unusedSimpArgs false
namespace Go.Proofs.Ythbonoagbeilkaa.Hay
inductive Bls {α : Type} (lt : α → α → Bool) (k : Nat) : List α → List α → Prop
  | last {l l' : List α} (h : l.length ≤ k) (s : Stb lt l l') : Bls lt k l l'
  | more {l l' t t' : List α} (h : l.length = k) (s : Stb lt l l') (ht : Bls lt k t t') : Bls lt k (l ++ t) (l' ++ t')
section
variable {α : Type} {lt : α → α → Bool}
theorem Stb.nil : Stb lt ([] : List α) [] := ⟨List.Pairwise.nil, fun _ => rfl⟩
theorem Bls.len (h : Swo lt) {k : Nat} {l l' : List α} (hb : Bls lt k l l') : l'.length = l.length := by
  induction hb with
  | last _ s => exact s.len h
  | more _ s _ ih => rw [List.length_append, List.length_append, s.len h, ih]
theorem Bls.done (h : Swo lt) {k : Nat} (hk : 0 < k) {l l' : List α} (hb : Bls lt k l l') (hl : l.length ≤ k) : Stb lt l l' := by
  cases hb with
  | last _ s => exact s
  | @more l l' t t' h1 s ht =>
    rw [List.length_append] at hl
    have : t = [] := List.eq_nil_of_length_eq_zero (by omega)
    subst this
    have : t' = [] := List.eq_nil_of_length_eq_zero (by rw [ht.len h]; rfl)
    subst this
    simpa using s
theorem Bls.split (h : Swo lt) {k : Nat} {l l' : List α} (hb : Bls lt k l l') (hl : k ≤ l.length) : ∃ l1 l2 l1' l2', l = l1 ++ l2 ∧ l' = l1' ++ l2' ∧ l1.length = k ∧ Stb lt l1 l1' ∧ Bls lt k l2 l2' := by
  cases hb with
  | last h1 s => exact ⟨l, [], l', [], by simp, by simp, by omega, s, .last (by simp) Stb.nil⟩
  | @more l l' t t' h1 s ht => exact ⟨l, t, l', t', rfl, rfl, h1, s, ht⟩
end
section
variable {lt : Api_Version → Api_Version → Bool} {p : Api_Version → Api_Version → Option Int}
theorem st_b3 (h : Swo lt) (hp : Cmp lt p) (n : Int) (hn : n < 1152921504606846976) : ∀ (k : Nat) (X D : List Api_Version) (a : Int) (xs : List Api_Version), X.length = k → a = (D.length : Int) → n = (D.length : Int) + X.length → xs = D ++ X →
    ∃ X', Bls lt 20 X X' ∧ loopO (fun s : (Int × Int × (List Api_Version)) => slices_stableCmpFunc_Version_b3 n p s.1 s.2.1 s.2.2) (a, a + 20, xs) =
      loopO (fun s : (Int × (List Api_Version)) => slices_stableCmpFunc_Version_b1 n p s.1 s.2) (20, D ++ X') := by
  intro k
  induction k using Nat.strongRecOn with
  | _ k ih =>
    intro X D a xs hk ha hN hxs
    by_cases hX : 20 ≤ X.length
    · have e : X = X.take 20 ++ X.drop 20 := (List.take_append_drop _ _).symm
      obtain ⟨T, h1, h2⟩ := ins_eq h hp D (X.take 20) (X.drop 20) (a := a) (b := a + 20) (xs := xs) ha (by simp; omega) (by omega) (by rw [hxs]; simp)
      have hlT := h2.len h
      rw [List.length_take] at hlT
      have hst : slices_stableCmpFunc_Version_b3 n p a (a + 20) xs = some (.inl (a + 20, a + 20 + 20, (D ++ T) ++ X.drop 20)) := by
        simp only [slices_stableCmpFunc_Version_b3]
        rw [if_pos (by simp; omega), h1, Option.bind_some, wrap64 (by omega)]
      obtain ⟨X', h3, h4⟩ := ih (X.length - 20) (by omega) (X.drop 20) (D ++ T) (a + 20) _ (by simp) (by rw [List.length_append]; omega) (by rw [List.length_append, List.length_drop]; omega) rfl
      refine ⟨T ++ X', ?_, ?_⟩
      · have := Bls.more (by rw [List.length_take]; omega) h2 h3
        rw [← e] at this
        exact this
      · rw [loopO_go hst, h4, List.append_assoc]
    · obtain ⟨T, h1, h2⟩ := ins_eq h hp D X [] (a := a) (b := n) (xs := xs) ha hN (by omega) (by rw [hxs]; simp)
      refine ⟨T, .last (by omega) h2, ?_⟩
      rw [loopO_eq]
      have : slices_stableCmpFunc_Version_b3 n p a (a + 20) xs = (loopO (fun s : (Int × (List Api_Version)) => slices_stableCmpFunc_Version_b1 n p s.1 s.2) (20, D ++ T)).map Sum.inr := by
        simp only [slices_stableCmpFunc_Version_b3, slices_stableCmpFunc_Version_j1]
        rw [if_neg (by simp; omega), h1, Option.bind_some, List.append_nil]
      simp only [this]
      cases loopO (fun s : (Int × (List Api_Version)) => slices_stableCmpFunc_Version_b1 n p s.1 s.2) (20, D ++ T) <;> rfl
theorem st_b2 (h : Swo lt) (hp : Cmp lt p) (n : Int) (hn : n < 288230376151711744) (bs : Nat) (h0 : 0 < bs) (hbs : (bs : Int) < n) : ∀ (k : Nat) (X0 X D : List Api_Version) (a b : Int) (xs : List Api_Version), X.length = k → a = (D.length : Int) → b = a + 2 * bs → n = (D.length : Int) + X.length → xs = D ++ X → Bls lt bs X0 X →
    ∃ X', Bls lt (2 * bs) X0 X' ∧ loopO (fun s : (Int × Int × (List Api_Version)) => slices_stableCmpFunc_Version_b2 n p bs s.1 s.2.1 s.2.2) (a, b, xs) = some (.inl (((2 * bs : Nat) : Int), D ++ X')) := by
  intro k
  induction k using Nat.strongRecOn with
  | _ k ih =>
    intro X0 X D a b xs hk ha hb hN hxs hbl
    have hl := hbl.len h
    have hxl : xs.length < 1152921504606846976 := by rw [hxs, List.length_append]; omega
    by_cases hX : 2 * bs ≤ X.length
    · obtain ⟨l1, l2, l1', l2', e1, e1', hl1, s1, hb2⟩ := hbl.split h (by omega)
      have hl2 := hb2.len h
      have q1 : l1'.length = bs := by rw [s1.len h, hl1]
      have q2 : X.length = l1'.length + l2'.length := by rw [e1', List.length_append]
      obtain ⟨l3, l4, l3', l4', e2, e2', hl3, s3, hb4⟩ := hb2.split h (by omega)
      have q3 : l3'.length = bs := by rw [s3.len h, hl3]
      have q4 : l2'.length = l3'.length + l4'.length := by rw [e2', List.length_append]
      obtain ⟨T, h1, h2⟩ := sym_eq h hp (L := D) (A := l1') (B := l3') (R := l4') (a := a) (m := a + bs) (b := b) (xs := xs) (by omega) (by omega) ha (by omega) (by omega) (by rw [hxs, e1', e2']; simp) hxl s1.srt s3.srt
      have hlT := h2.len h
      rw [List.length_append] at hlT
      have hst : slices_stableCmpFunc_Version_b2 n p bs a b xs = some (.inl (b, b + 2 * bs, (D ++ T) ++ l4')) := by
        simp only [slices_stableCmpFunc_Version_b2]
        rw [if_pos (by simp; omega), wrap64 (n := a + bs) (by omega), h1, Option.bind_some, wrap64 (n := 2 * (bs : Int)) (by omega), wrap64 (by omega)]
      obtain ⟨X', h3, h4⟩ := ih l4'.length (by omega) l4 l4' (D ++ T) b (b + 2 * bs) _ rfl (by rw [List.length_append]; omega) rfl (by rw [List.length_append]; omega) rfl hb4
      refine ⟨T ++ X', ?_, ?_⟩
      · rw [e1, e2, ← List.append_assoc]
        exact Bls.more (by rw [List.length_append]; omega) (h2.trans fun c => by simp [s1.flt, s3.flt]) h3
      · rw [loopO_go hst, h4, List.append_assoc]
    · by_cases hX2 : bs < X.length
      · obtain ⟨l1, l2, l1', l2', e1, e1', hl1, s1, hb2⟩ := hbl.split h (by omega)
        have hl2 := hb2.len h
        have q1 : l1'.length = bs := by rw [s1.len h, hl1]
        have q2 : X.length = l1'.length + l2'.length := by rw [e1', List.length_append]
        have s2 := hb2.done h h0 (by omega)
        obtain ⟨T, h1, h2⟩ := sym_eq h hp (L := D) (A := l1') (B := l2') (R := []) (a := a) (m := a + bs) (b := n) (xs := xs) (by omega) (by omega) ha (by omega) (by omega) (by rw [hxs, e1']; simp) hxl s1.srt s2.srt
        refine ⟨T, .last (by omega) ?_, ?_⟩
        · rw [e1]
          exact h2.trans fun c => by simp [s1.flt, s2.flt]
        · apply loopO_end
          simp only [slices_stableCmpFunc_Version_b2, slices_stableCmpFunc_Version_j2, slices_stableCmpFunc_Version_j3]
          rw [if_neg (by simp; omega), wrap64 (n := a + bs) (by omega), if_pos (by simp; omega), h1, Option.bind_some, wrap64 (by omega)]
          simp [Int.mul_comm]
      · refine ⟨X, .last (by omega) (hbl.done h h0 (by omega)), ?_⟩
        apply loopO_end
        simp only [slices_stableCmpFunc_Version_b2, slices_stableCmpFunc_Version_j2, slices_stableCmpFunc_Version_j3]
        rw [if_neg (by simp; omega), wrap64 (n := a + bs) (by omega), if_neg (by simp; omega), wrap64 (by omega), hxs]
        simp [Int.mul_comm]
theorem st_b1 (h : Swo lt) (hp : Cmp lt p) (n : Int) (hn : n < 288230376151711744) (X0 : List Api_Version) (hX0 : n = (X0.length : Int)) : ∀ (k bs : Nat) (X : List Api_Version), (X0.length - bs) = k → 0 < bs → Bls lt bs X0 X →
    ∃ X', loopO (fun s : (Int × (List Api_Version)) => slices_stableCmpFunc_Version_b1 n p s.1 s.2) ((bs : Int), X) = some X' ∧ Stb lt X0 X' := by
  intro k
  induction k using Nat.strongRecOn with
  | _ k ih =>
    intro bs X hk h0 hbl
    have hl := hbl.len h
    by_cases hb : (bs : Int) < n
    · obtain ⟨X', h1, h2⟩ := st_b2 h hp n hn bs h0 hb X.length X0 X [] 0 (2 * bs) X rfl rfl (by simp) (by simp; omega) (by simp) hbl
      have hst : slices_stableCmpFunc_Version_b1 n p bs X = some (.inl (((2 * bs : Nat) : Int), X')) := by
        simp only [slices_stableCmpFunc_Version_b1]
        rw [if_pos (by simp; omega), wrap64 (by omega), h2, List.nil_append]
      obtain ⟨X2, h3, h4⟩ := ih (X0.length - 2 * bs) (by omega) (2 * bs) X' rfl (by omega) h1
      exact ⟨X2, by rw [loopO_go hst]; exact h3, h4⟩
    · refine ⟨X, ?_, hbl.done h h0 (by omega)⟩
      apply loopO_end
      simp only [slices_stableCmpFunc_Version_b1]
      rw [if_neg (by simp; omega)]
      rfl
theorem stable_eq (h : Swo lt) (hp : Cmp lt p) (X : List Api_Version) (hn : X.length < 288230376151711744) : ∃ X', slices_SortStableFunc_Version X p = some X' ∧ Stb lt X X' := by
  obtain ⟨X1, h1, h2⟩ := st_b3 h hp (X.length : Int) (by omega) X.length X [] 0 X rfl rfl (by simp) rfl
  obtain ⟨X2, h3, h4⟩ := st_b1 h hp (X.length : Int) (by omega) X rfl _ 20 X1 rfl (by omega) h1
  refine ⟨X2, ?_, h4⟩
  unfold slices_SortStableFunc_Version slices_stableCmpFunc_Version
  have h2 : loopO (fun s : (Int × Int × (List Api_Version)) => slices_stableCmpFunc_Version_b3 (X.length : Int) p s.1 s.2.1 s.2.2) (0, 20, X) = _ := h2
  rw [h2, List.nil_append]
  have h3 : loopO (fun s : (Int × (List Api_Version)) => slices_stableCmpFunc_Version_b1 (X.length : Int) p s.1 s.2) (20, X1) = _ := h3
  rw [h3]
  rfl
end
end Go.Proofs.Ythbonoagbeilkaa.Hay
set_option linter.unusedVariables false
set_option linter.unusedSimpArgs false
namespace Go.Proofs.Ythbonoagbeilkaa.Hay
theorem lp_seq {σ β : Type} {f : σ → Option (σ ⊕ β)} {s : σ} {b : Option β} (S : Nat → σ) (n : Nat) (h0 : s = S 0) (step : ∀ i, i < n → f (S i) = some (.inl (S (i + 1)))) (fin : f (S n) = b.map Sum.inr) : loopO f s = b := by
  have key : ∀ i, i ≤ n → loopO f s = loopO f (S i) := by
    intro i
    induction i with
    | zero => intro _; rw [h0]
    | succ i ih => intro h; rw [ih (by omega), loopO_go (step i (by omega))]
  rw [key n (Nat.le_refl n), loopO_eq, fin]
  cases b <;> rfl
section
variable {α β : Type}
theorem Swo.comap {lt : α → α → Bool} (h : Swo lt) (f : β → α) : Swo fun a b => lt (f a) (f b) :=
  ⟨fun a => h.irr _, fun a b c => h.tr _ _ _, fun a b c => h.inc _ _ _⟩
def lexB (l1 l2 : α → α → Bool) (a b : α) : Bool := l1 a b || (!l1 b a && l2 a b)
theorem Swo.lex {l1 l2 : α → α → Bool} (h1 : Swo l1) (h2 : Swo l2) : Swo (lexB l1 l2) := by
  refine ⟨fun a => by simp [lexB, h1.irr, h2.irr], fun a b c hab hbc => ?_, fun a b c hab hbc => ?_⟩
  · simp only [lexB, Bool.or_eq_true, Bool.and_eq_true, Bool.not_eq_true'] at *
    rcases hab with hab | ⟨nba, hab⟩ <;> rcases hbc with hbc | ⟨ncb, hbc⟩
    · exact Or.inl (h1.tr _ _ _ hab hbc)
    · left
      cases hac : l1 a c with
      | true => rfl
      | false => rw [h1.inc a c b hac ncb] at hab; cases hab
    · left
      cases hac : l1 a c with
      | true => rfl
      | false => rw [h1.inc b a c nba hac] at hbc; cases hbc
    · exact Or.inr ⟨h1.inc c b a ncb nba, h2.tr _ _ _ hab hbc⟩
  · simp only [lexB, Bool.or_eq_false_iff, Bool.and_eq_false_iff, Bool.not_eq_false'] at *
    refine ⟨h1.inc _ _ _ hab.1 hbc.1, ?_⟩
    rcases hab.2 with h3 | h3
    · left
      cases hca : l1 c a with
      | true => rfl
      | false => rw [h1.inc b c a hbc.1 hca] at h3; cases h3
    · rcases hbc.2 with h4 | h4
      · left
        cases hca : l1 c a with
        | true => rfl
        | false => rw [h1.inc c a b hca hab.1] at h4; cases h4
      · right; exact h2.inc _ _ _ h3 h4
def lexL (lt : α → α → Bool) : List α → List α → Bool
  | _, [] => false
  | [], _ :: _ => true
  | a :: x, b :: y => lt a b || (!lt b a && lexL lt x y)
theorem Swo.lexL {lt : α → α → Bool} (h : Swo lt) : Swo (lexL lt) := by
  refine ⟨?_, ?_, ?_⟩
  · intro a
    induction a with
    | nil => rfl
    | cons a x ih => simp [Hay.lexL, h.irr, ih]
  · intro a
    induction a with
    | nil =>
      intro b c hab hbc
      cases c with
      | nil => cases b <;> simp [Hay.lexL] at hbc
      | cons c z => rfl
    | cons a x ih =>
      intro b c hab hbc
      cases b with
      | nil => simp [Hay.lexL] at hab
      | cons b y =>
        cases c with
        | nil => simp [Hay.lexL] at hbc
        | cons c z =>
          simp only [Hay.lexL, Bool.or_eq_true, Bool.and_eq_true, Bool.not_eq_true'] at *
          rcases hab with hab | ⟨nba, hab⟩ <;> rcases hbc with hbc | ⟨ncb, hbc⟩
          · exact Or.inl (h.tr _ _ _ hab hbc)
          · left
            cases hac : lt a c with
            | true => rfl
            | false => rw [h.inc a c b hac ncb] at hab; cases hab
          · left
            cases hac : lt a c with
            | true => rfl
            | false => rw [h.inc b a c nba hac] at hbc; cases hbc
          · exact Or.inr ⟨h.inc c b a ncb nba, ih _ _ hab hbc⟩
  · intro a
    induction a with
    | nil =>
      intro b c hab hbc
      cases b with
      | nil => exact hbc
      | cons b y => simp [Hay.lexL] at hab
    | cons a x ih =>
      intro b c hab hbc
      cases c with
      | nil => rfl
      | cons c z =>
        cases b with
        | nil => simp [Hay.lexL] at hbc
        | cons b y =>
          simp only [Hay.lexL, Bool.or_eq_false_iff, Bool.and_eq_false_iff, Bool.not_eq_false'] at *
          refine ⟨h.inc _ _ _ hab.1 hbc.1, ?_⟩
          rcases hab.2 with h3 | h3
          · left
            cases hca : lt c a with
            | true => rfl
            | false => rw [h.inc b c a hbc.1 hca] at h3; cases h3
          · rcases hbc.2 with h4 | h4
            · left
              cases hca : lt c a with
              | true => rfl
              | false => rw [h.inc c a b hca hab.1] at h4; cases h4
            · right; exact ih _ _ h3 h4
theorem swo_int : Swo fun a b : Int => decide (a < b) :=
  ⟨fun a => by simp, fun a b c h1 h2 => by simp at *; omega, fun a b c h1 h2 => by simp at *; omega⟩
theorem ltB_lex : ∀ s u : List Int, ltB s u = lexL (fun a b : Int => decide (a < b)) s u
  | s, [] => by cases s <;> rfl
  | [], _ :: _ => rfl
  | a :: x, b :: y => by
    simp only [ltB, lexL, ltB_lex x y]
    by_cases h1 : a < b
    · simp [h1]
    · by_cases h2 : b < a
      · have : a ≠ b := by omega
        simp [h1, h2, this]
      · have : a = b := by omega
        simp [this]
theorem swo_ltB : Swo ltB := by
  have h := swo_int.lexL
  exact ⟨fun a => by rw [ltB_lex]; exact h.irr a, fun a b c => by simp only [ltB_lex]; exact h.tr a b c, fun a b c => by simp only [ltB_lex]; exact h.inc a b c⟩
def sgn (lt : α → α → Bool) (a b : α) : Int := if lt a b then -1 else if lt b a then 1 else 0
theorem sgn_lt {lt : α → α → Bool} {a b : α} : decide (sgn lt a b < 0) = lt a b := by
  unfold sgn
  cases lt a b
  · cases lt b a <;> simp
  · simp
theorem sgn_lexB {l1 l2 : α → α → Bool} (h1 : Swo l1) {a b : α} : sgn (lexB l1 l2) a b = if sgn l1 a b ≠ 0 then sgn l1 a b else sgn l2 a b := by
  unfold sgn lexB
  cases e1 : l1 a b
  · cases e2 : l1 b a
    · simp
    · simp
  · simp
theorem sgn_lexL {lt : α → α → Bool} (h : Swo lt) {a b : α} {x y : List α} : sgn (lexL lt) (a :: x) (b :: y) = if sgn lt a b ≠ 0 then sgn lt a b else sgn (lexL lt) x y := by
  by_cases e1 : lt a b = true
  · simp [sgn, lexL, e1]
  · by_cases e2 : lt b a = true
    · simp [sgn, lexL, e1, e2]
    · simp [sgn, lexL, e1, e2]
end
def vk2 (v : Ap) : Int := if v.fKind = 1 then (if v.fBool then 1 else 0) else if v.fKind = 2 then v.fInt else 0
def vk3 (v : Ap) : List Int := if v.fKind = 3 then v.fText else []
def vlt : Ap → Ap → Bool :=
  lexB (fun a b => decide (a.fKind < b.fKind)) (lexB (fun a b => decide (vk2 a < vk2 b)) (fun a b => ltB (vk3 a) (vk3 b)))
theorem swo_vlt : Swo vlt := (swo_int.comap fun v : Ap => v.fKind).lex ((swo_int.comap vk2).lex (swo_ltB.comap vk3))
theorem less_eq (a b : Ap) : r2_less a b = some (vlt a b) := by
  unfold r2_less vlt lexB
  by_cases hk : a.fKind = b.fKind
  · rw [if_neg (by simp [hk])]
    by_cases h1 : b.fKind = 1
    · simp only [r2_less_j1, vk2, vk3, hk, h1]
      cases ha : a.fBool <;> cases hb : b.fBool <;> simp [ltB]
    · by_cases h2 : b.fKind = 2
      · simp only [r2_less_j1, vk2, vk3, hk, h2]
        simp [ltB]
      · by_cases h3 : b.fKind = 3
        · simp only [r2_less_j1, r2_less_j2, vk2, vk3, hk, h3]
          simp
        · simp only [r2_less_j1, r2_less_j2, vk2, vk3, hk]
          simp [h1, h2, h3, ltB]
  · rw [if_pos (by simp [hk])]
    by_cases hl : a.fKind < b.fKind
    · simp [hl]
    · have : b.fKind < a.fKind := by omega
      simp [hl, this]
theorem refCompare_eq (a b : Ap) : r2_Compare a b = some (sgn vlt a b) := by
  unfold r2_Compare sgn
  rw [less_eq, less_eq, Option.bind_some, Option.bind_some]
  cases vlt a b <;> cases vlt b a <;> rfl
theorem ccInt (a b : Int) : cmp_Compare_int a b = some (sgn (fun a b : Int => decide (a < b)) a b) := by
  simp only [cmp_Compare_int, cmp_isNaN_int, sgn, Option.bind_some, bne_self_eq_false]
  by_cases h1 : a < b <;> by_cases h2 : b < a <;> simp [h1, h2]
theorem ccInt64 (a b : Int) : cmp_Compare_int64 a b = some (sgn (fun a b : Int => decide (a < b)) a b) := by
  simp only [cmp_Compare_int64, cmp_isNaN_int64, sgn, Option.bind_some, bne_self_eq_false]
  by_cases h1 : a < b <;> by_cases h2 : b < a <;> simp [h1, h2]
theorem ccU64 (a b : Int) : cmp_Compare_uint64 a b = some (sgn (fun a b : Int => decide (a < b)) a b) := by
  simp only [cmp_Compare_uint64, cmp_isNaN_uint64, sgn, Option.bind_some, bne_self_eq_false]
  by_cases h1 : a < b <;> by_cases h2 : b < a <;> simp [h1, h2]
theorem ccU32 (a b : Int) : cmp_Compare_uint32 a b = some (sgn (fun a b : Int => decide (a < b)) a b) := by
  simp only [cmp_Compare_uint32, cmp_isNaN_uint32, sgn, Option.bind_some, bne_self_eq_false]
  by_cases h1 : a < b <;> by_cases h2 : b < a <;> simp [h1, h2]
theorem valCompare_eq (a b : Ap) : value_Compare a b = some (sgn vlt a b) := by
  unfold value_Compare vlt
  rw [sgn_lexB (swo_int.comap fun v : Ap => v.fKind), sgn_lexB (swo_int.comap vk2)]
  by_cases hk : a.fKind = b.fKind
  · rw [if_neg (by simp [hk])]
    have e0 : sgn (fun a b : Ap => decide (a.fKind < b.fKind)) a b = 0 := by simp [sgn, hk]
    rw [e0]
    simp only [ne_eq, not_true_eq_false, if_false]
    by_cases h1 : b.fKind = 1
    · simp only [value_Compare_j1, vk2, vk3, hk, h1, sgn]
      cases ha : a.fBool <;> cases hb : b.fBool <;> simp [ltB]
    · by_cases h2 : b.fKind = 2
      · have ka : a.fKind = 2 := hk.trans h2
        have a2 : vk2 a = a.fInt := by simp [vk2, ka]
        have b2 : vk2 b = b.fInt := by simp [vk2, h2]
        have a3 : vk3 a = [] := by simp [vk3, ka]
        have b3 : vk3 b = [] := by simp [vk3, h2]
        rw [if_neg (by simp [ka]), value_Compare_j1, if_neg (by simp), if_pos (by simp [ka]), ccInt64]
        simp only [sgn, a2, b2, a3, b3, ltB]
        by_cases q1 : a.fInt < b.fInt <;> by_cases q2 : b.fInt < a.fInt <;> simp [q1, q2]
      · by_cases h3 : b.fKind = 3
        · have ka : a.fKind = 3 := hk.trans h3
          have a2 : vk2 a = 0 := by simp [vk2, ka]
          have b2 : vk2 b = 0 := by simp [vk2, h3]
          have a3 : vk3 a = a.fText := by simp [vk3, ka]
          have b3 : vk3 b = b.fText := by simp [vk3, h3]
          rw [if_neg (by simp [ka]), value_Compare_j1, if_neg (by simp), if_neg (by simp [ka]), if_pos (by simp [ka]), strings_Compare, bytealg_CompareString, Option.bind_some, Option.bind_some, cmpB]
          simp only [sgn, a2, b2, a3, b3]
          simp
        · have ka : a.fKind ≠ 1 ∧ a.fKind ≠ 2 ∧ a.fKind ≠ 3 := by rw [hk]; exact ⟨h1, h2, h3⟩
          have a2 : vk2 a = 0 := by simp [vk2, ka]
          have b2 : vk2 b = 0 := by simp [vk2, h1, h2]
          have a3 : vk3 a = [] := by simp [vk3, ka]
          have b3 : vk3 b = [] := by simp [vk3, h3]
          rw [if_neg (by simp [ka]), value_Compare_j1, if_neg (by simp), if_neg (by simp [ka]), if_neg (by simp [ka])]
          simp only [sgn, a2, b2, a3, b3, ltB]
          simp
  · rw [if_pos (by simp [hk]), ccInt, Option.bind_some]
    have : sgn (fun a b : Ap => decide (a.fKind < b.fKind)) a b ≠ 0 := by
      unfold sgn
      by_cases hl : a.fKind < b.fKind
      · simp [hl]
      · have : b.fKind < a.fKind := by omega
        simp [hl, this]
    rw [if_pos this]
    rfl
def rlt : List Ap → List Ap → Bool := lexL vlt
theorem swo_rlt : Swo rlt := swo_vlt.lexL
theorem valRows_eq {s t : List Ap} (hs : s.length < 4611686018427387904) (ht : t.length < 4611686018427387904) : value_Rows s t = some (sgn rlt s t) := by
  unfold value_Rows
  refine loopO_eqv (fun i => ∃ k : Nat, i = (k : Int) ∧ k ≤ s.length ∧ k ≤ t.length ∧ sgn rlt (s.drop k) (t.drop k) = sgn rlt s t) (fun i => s.length - i.toNat) ?_ ⟨0, rfl, by simp, by simp, by simp⟩
  rintro i ⟨k, rfl, h1, h2, h3⟩
  simp only [value_Rows_b1]
  by_cases hk : k < s.length ∧ k < t.length
  · obtain ⟨hk1, hk2⟩ := hk
    rw [if_pos (by split <;> simp <;> omega), idx_of hk1, Option.bind_some, idx_of hk2, Option.bind_some, valCompare_eq, Option.bind_some]
    rw [List.drop_eq_getElem_cons hk1, List.drop_eq_getElem_cons hk2, rlt, sgn_lexL swo_vlt] at h3
    by_cases hc : sgn vlt s[k] t[k] = 0
    · left
      rw [if_neg (by simp [hc])]
      refine ⟨_, rfl, ⟨k + 1, by rw [wrap64 (by omega)]; rfl, by omega, by omega, ?_⟩, ?_⟩
      · rw [if_neg (by simp [hc])] at h3; exact h3
      · rw [wrap64 (by omega)]; omega
    · right
      rw [if_pos (by simp [hc])]
      rw [if_pos hc] at h3
      rw [h3]; rfl
  · right
    rw [if_neg (by split <;> simp <;> omega), value_Rows_j1, ccInt, Option.bind_some, ← h3]
    have key : ∀ (x y : List Ap), (x = [] ∨ y = []) → sgn rlt x y = sgn (fun a b : Int => decide (a < b)) (x.length : Int) (y.length : Int) := by
      intro x y hxy
      rcases hxy with rfl | rfl
      · cases y <;> simp [sgn, rlt, lexL] <;> omega
      · cases x <;> simp [sgn, rlt, lexL] <;> omega
    rw [key]
    · have e1 : ((s.length : Int) < t.length) ↔ (((s.length - k : Nat) : Int) < ((t.length - k : Nat) : Int)) := by omega
      have e2 : ((t.length : Int) < s.length) ↔ (((t.length - k : Nat) : Int) < ((s.length - k : Nat) : Int)) := by omega
      simp only [sgn, List.length_drop, decide_eq_true_eq, e1, e2, Option.map_some]
    · by_cases q : k < s.length
      · right; exact List.drop_of_length_le (by omega)
      · left; exact List.drop_of_length_le (by omega)
theorem refRows_eq {s t : List Ap} (hs : s.length < 4611686018427387904) (ht : t.length < 4611686018427387904) : r2_Rows s t = some (sgn rlt s t) := by
  unfold r2_Rows
  refine loopO_eqv (fun i => ∃ k : Nat, i = (k : Int) ∧ k ≤ s.length ∧ k ≤ t.length ∧ sgn rlt (s.drop k) (t.drop k) = sgn rlt s t) (fun i => s.length - i.toNat) ?_ ⟨0, rfl, by simp, by simp, by simp⟩
  rintro i ⟨k, rfl, h1, h2, h3⟩
  simp only [r2_Rows_b1]
  by_cases hk1 : k < s.length
  · rw [if_pos (by simp; omega)]
    by_cases hk2 : k < t.length
    · rw [if_neg (by simp; omega), idx_of hk1, Option.bind_some, idx_of hk2, Option.bind_some, refCompare_eq, Option.bind_some]
      rw [List.drop_eq_getElem_cons hk1, List.drop_eq_getElem_cons hk2, rlt, sgn_lexL swo_vlt] at h3
      by_cases hc : sgn vlt s[k] t[k] = 0
      · left
        rw [if_neg (by simp [hc])]
        refine ⟨_, rfl, ⟨k + 1, by rw [wrap64 (by omega)]; rfl, by omega, by omega, ?_⟩, ?_⟩
        · rw [if_neg (by simp [hc])] at h3; exact h3
        · rw [wrap64 (by omega)]; omega
      · right
        rw [if_pos (by simp [hc])]
        rw [if_pos hc] at h3
        rw [h3]; rfl
    · right
      have : k = t.length := by omega
      rw [if_pos (by simp; omega), ← h3, this, List.drop_length, List.drop_eq_getElem_cons (by omega)]
      simp [sgn, rlt, lexL]
  · right
    rw [if_neg (by simp; omega), ← h3, List.drop_of_length_le (by omega : s.length ≤ k), r2_Rows_j1]
    by_cases hk2 : k < t.length
    · rw [if_pos (by simp; omega), List.drop_eq_getElem_cons hk2]
      simp [sgn, rlt, lexL]
    · rw [if_neg (by simp; omega), List.drop_of_length_le (by omega : t.length ≤ k)]
      simp [sgn, rlt, lexL]
def keyOf (cs : List Int) (row : List Ap) : List Ap := cs.map fun c => if 0 ≤ c ∧ c < (row.length : Int) then row.getD c.toNat Ap.zero else Ap.zero
theorem keyOf_len (cs : List Int) (row : List Ap) : (keyOf cs row).length = cs.length := by simp [keyOf]
theorem idx_in {α : Type} {xs : List α} {i : Int} (d : α) (h : 0 ≤ i ∧ i < (xs.length : Int)) : idx xs i = some (xs.getD i.toNat d) := by
  obtain ⟨n, rfl⟩ := Int.eq_ofNat_of_zero_le h.1
  have hn : n < xs.length := by omega
  rw [idx_of hn]
  simp [hn]
theorem key_step {f : List Ap × Int → Option ((List Ap × Int) ⊕ List Ap)} {cs : List Int} {row : List Ap} {g : Int → Ap}
    (step : ∀ (i : Nat) (l : List Ap) (h : i < cs.length), l.length = i → f (l, (i : Int)) = some (.inl (l ++ [g cs[i]], ((i + 1 : Nat) : Int)))) (fin : ∀ l, f (l, (cs.length : Int)) = some (.inr l)) : loopO f ([], 0) = some (cs.map g) := by
  refine lp_seq (fun i => ((cs.take i).map g, (i : Int))) cs.length (by simp) (fun i hi => ?_) ?_
  · show f ((cs.take i).map g, (i : Int)) = _
    have e : (cs.take (i + 1)).map g = (cs.take i).map g ++ [g cs[i]] := by rw [List.take_add_one, List.getElem?_eq_getElem hi, List.map_append]; rfl
    rw [step i _ hi (by simp; omega), e]
  · show f ((cs.take cs.length).map g, (cs.length : Int)) = _
    rw [fin, List.take_length]; rfl
theorem key_eq {cs : List Int} {row : List Ap} (hc : cs.length ≤ 3518437208883) : rosfile_key cs row = some (keyOf cs row) := by
  unfold rosfile_key keyOf
  refine key_step (row := row) (fun i l hi hl => ?_) (fun l => ?_)
  · simp only [rosfile_key_b1]
    rw [if_pos (by simpa using hi), idx_of hi, Option.bind_some, value_Null, Option.bind_some]
    have hj : ∀ x, rosfile_key_j3 l (i : Int) x = some (.inl (l ++ [x], ((i + 1 : Nat) : Int))) := by
      intro x
      unfold rosfile_key_j3
      rw [app_of (by simp; omega), Option.bind_some, wrap64 (by omega)]
      rfl
    by_cases h0 : 0 ≤ cs[i]
    · rw [if_pos (by simp [h0])]
      unfold rosfile_key_j2
      by_cases h1 : cs[i] < (row.length : Int)
      · rw [if_pos (by simp [h1]), idx_in Ap.zero ⟨h0, h1⟩, Option.bind_some, hj, if_pos ⟨h0, h1⟩]
      · rw [if_neg (by simp; omega), hj, if_neg (by omega)]; rfl
    · rw [if_neg (by simp; omega)]
      unfold rosfile_key_j2
      rw [if_neg (by simp), hj, if_neg (by omega)]; rfl
  · simp only [rosfile_key_b1]
    rw [if_neg (by simp)]; rfl
theorem refKey_eq {cs : List Int} {row : List Ap} (hc : cs.length ≤ 3518437208883) : r8_Key cs row = some (keyOf cs row) := by
  unfold r8_Key keyOf
  refine key_step (row := row) (fun i l hi hl => ?_) (fun l => ?_)
  · simp only [r8_Key_b1]
    rw [if_pos (by simpa using hi), idx_of hi, Option.bind_some]
    have hj : ∀ x, r8_Key_j3 l (i : Int) x = some (.inl (l ++ [x], ((i + 1 : Nat) : Int))) := by
      intro x
      unfold r8_Key_j3
      rw [app_of (by simp; omega), Option.bind_some, wrap64 (by omega)]
      rfl
    by_cases h0 : 0 ≤ cs[i]
    · rw [if_pos (by simp [h0]), Option.bind_some]
      unfold r8_Key_j2
      by_cases h1 : cs[i] < (row.length : Int)
      · rw [if_pos (by simp [h1]), idx_of hi, Option.bind_some, idx_in Ap.zero ⟨h0, h1⟩, Option.bind_some, hj, if_pos ⟨h0, h1⟩]
      · rw [if_neg (by simp; omega), hj, if_neg (by omega)]; rfl
    · rw [if_neg (by simp; omega)]
      unfold r8_Key_j2
      rw [if_neg (by simp), hj, if_neg (by omega)]; rfl
  · simp only [r8_Key_b1]
    rw [if_neg (by simp)]; rfl
def ilt : Api_RowId → Api_RowId → Bool := lexB (fun a b => decide (a.fEpoch < b.fEpoch)) (fun a b => decide (a.fNumber < b.fNumber))
theorem swo_ilt : Swo ilt := (swo_int.comap fun v : Api_RowId => v.fEpoch).lex (swo_int.comap fun v : Api_RowId => v.fNumber)
def qlt (cs : List Int) : Api_Version → Api_Version → Bool := lexB (fun a b => rlt (keyOf cs a.fRow) (keyOf cs b.fRow)) (fun a b => ilt a.fId b.fId)
theorem swo_qlt (cs : List Int) : Swo (qlt cs) := (swo_rlt.comap fun v : Api_Version => keyOf cs v.fRow).lex (swo_ilt.comap fun v : Api_Version => v.fId)
theorem cmpOr_two (a b : Int) : cmp_Or_int [a, b] = some (if a ≠ 0 then a else b) := by
  unfold cmp_Or_int
  have e0 : idx [a, b] 0 = some a := rfl
  have e1 : idx [a, b] 1 = some b := rfl
  by_cases ha : a = 0
  · have h0 : cmp_Or_int_b1 [a, b] 0 = some (.inl 1) := by
      simp only [cmp_Or_int_b1]
      rw [if_pos (by simp), e0, Option.bind_some, if_neg (by simp [ha])]; rfl
    rw [loopO_go h0]
    by_cases hb : b = 0
    · have h1 : cmp_Or_int_b1 [a, b] 1 = some (.inl 2) := by
        simp only [cmp_Or_int_b1]
        rw [if_pos (by simp), e1, Option.bind_some, if_neg (by simp [hb])]; rfl
      rw [loopO_go h1]
      apply loopO_end
      simp only [cmp_Or_int_b1]
      rw [if_neg (by simp), ha, hb]; rfl
    · apply loopO_end
      simp only [cmp_Or_int_b1]
      rw [if_pos (by simp), e1, Option.bind_some, if_pos (by simp [hb]), if_neg (by simp [ha])]; rfl
  · apply loopO_end
    simp only [cmp_Or_int_b1]
    rw [if_pos (by simp), e0, Option.bind_some, if_pos (by simp [ha]), if_pos ha]; rfl
theorem order_eq (a b : Api_RowId) : rosfile_order a b = some (sgn ilt a b) := by
  unfold rosfile_order ilt
  rw [ccU64, Option.bind_some, ccU32, Option.bind_some, cmpOr_two, Option.bind_some, sgn_lexB (swo_int.comap fun v : Api_RowId => v.fEpoch)]
  rfl
theorem sorted1_eq {cs : List Int} (hc : cs.length ≤ 3518437208883) (a b : Api_Version) : rosfile_Sorted_1 a b cs = some (sgn (qlt cs) a b) := by
  unfold rosfile_Sorted_1 qlt
  rw [key_eq hc, Option.bind_some, key_eq hc, Option.bind_some, valRows_eq (by rw [keyOf_len]; omega) (by rw [keyOf_len]; omega), Option.bind_some, order_eq, Option.bind_some, cmpOr_two, Option.bind_some, sgn_lexB (swo_rlt.comap fun v : Api_Version => keyOf cs v.fRow)]
  rfl
theorem cmp_sorted {cs : List Int} (hc : cs.length ≤ 3518437208883) : Cmp (qlt cs) (fun a b => rosfile_Sorted_1 a b cs) := fun a b => ⟨_, sorted1_eq hc a b, sgn_lt⟩
theorem refBefore_eq (a b : Api_RowId) : r2_Before a b = some (ilt a b) := by
  unfold r2_Before ilt lexB
  by_cases h : a.fEpoch = b.fEpoch
  · rw [if_neg (by simp [h])]; simp [h]
  · rw [if_pos (by simp [h])]
    by_cases hl : a.fEpoch < b.fEpoch
    · simp [hl]
    · have : b.fEpoch < a.fEpoch := by omega
      simp [hl, this]
theorem before_eq {cs : List Int} (hc : cs.length ≤ 3518437208883) (a b : Api_Version) : r8_before cs a b = some (qlt cs a b) := by
  unfold r8_before qlt lexB
  rw [refKey_eq hc, Option.bind_some, refKey_eq hc, Option.bind_some, refRows_eq (by rw [keyOf_len]; omega) (by rw [keyOf_len]; omega), Option.bind_some, refBefore_eq]
  unfold sgn
  cases e1 : rlt (keyOf cs a.fRow) (keyOf cs b.fRow)
  · cases e2 : rlt (keyOf cs b.fRow) (keyOf cs a.fRow)
    · simp [e1, e2]
    · simp [e1, e2]
  · simp [e1]
end Go.Proofs.Ythbonoagbeilkaa.Hay
set_option linter.unusedVariables false
set_option linter.unusedSimpArgs false
namespace Go.Proofs.Ythbonoagbeilkaa.Hay
def Rok (l : List Api_Version) : Prop := ∀ v ∈ l, v.fRow.length ≤ 1048576
theorem own_eq {v : Api_Version} (h : v.fRow.length ≤ 1048576) : rosfile_own v = some v := by
  unfold rosfile_own slices_Clone_Value
  rw [app_of (by simp; omega)]
  simp
theorem take_snoc {α : Type} {xs : List α} {i : Nat} (h : i < xs.length) : xs.take (i + 1) = xs.take i ++ [xs[i]] := by
  rw [List.take_add_one, List.getElem?_eq_getElem h]; rfl
theorem sorted_eq {cs : List Int} {xs : List Api_Version} (hc : cs.length ≤ 1048576) (hx : xs.length ≤ 1048576) (hr : Rok xs) : ∃ T, rosfile_Sorted cs xs = some T ∧ Stb (qlt cs) xs T := by
  obtain ⟨T, h1, h2⟩ := stable_eq (swo_qlt cs) (cmp_sorted (cs := cs) (by omega)) xs (by omega)
  refine ⟨T, ?_, h2⟩
  unfold rosfile_Sorted
  refine (lp_seq (fun i => ((i : Int), xs.take i)) xs.length (by simp) (fun i hi => ?_) (b := rosfile_Sorted_j1 cs xs) ?_).trans ?_
  · simp only [rosfile_Sorted_b1]
    rw [if_pos (by simpa using hi), idx_of hi, Option.bind_some, own_eq (hr _ (List.getElem_mem hi)), Option.bind_some, app_of (by simp; omega), Option.bind_some, take_snoc hi, wrap64 (by omega)]
    rfl
  · simp only [rosfile_Sorted_b1]
    rw [if_neg (by simp), List.take_length]
  · unfold rosfile_Sorted_j1
    rw [h1]; rfl
theorem refSorted_eq {cs : List Int} {xs : List Api_Version} (hc : cs.length ≤ 1048576) (hx : xs.length ≤ 1048576) : ∃ T, r8_Sorted cs xs = some T ∧ Stb (qlt cs) xs T := by
  unfold r8_Sorted
  refine loopO_inv (fun s => ∃ k : Nat, s.2 = (k : Int) ∧ k ≤ xs.length ∧ Stb (qlt cs) (xs.take k) s.1) (fun s => xs.length - s.2.toNat) (fun T => Stb (qlt cs) xs T) ?_ ⟨0, rfl, by simp, Stb.nil⟩
  rintro ⟨out, i⟩ ⟨k, rfl, hk, hs⟩
  simp only at hk hs
  have hol := hs.len (swo_qlt cs)
  rw [List.length_take] at hol
  simp only [r8_Sorted_b1]
  by_cases hkx : k < xs.length
  · left
    rw [if_pos (by simpa using hkx)]
    have inner : ∀ (n : Nat) (S1 S2 : List Api_Version), S1.length = n → out = S1 ++ S2 → (∀ s ∈ S2, qlt cs xs[k] s = true) →
        ∃ T, loopO (fun s : Int => r8_Sorted_b2 cs xs out (k : Int) s) (n : Int) = some (.inl (T, ((k + 1 : Nat) : Int))) ∧ Stb (qlt cs) (out ++ [xs[k]]) T := by
      intro n
      induction n with
      | zero =>
        intro S1 S2 hn ho h2
        obtain rfl := List.eq_nil_of_length_eq_zero hn
        have hst := Stb.ins (swo_qlt cs) (S1 := []) (S2 := S2) (v := xs[k]) (by rw [← ho]; exact hs.srt) h2 (by simp)
        rw [← ho] at hst
        refine ⟨_, ?_, hst⟩
        apply loopO_end
        simp only [r8_Sorted_b2]
        rw [if_neg (by simp), r8_Sorted_j3]
        have e1 : sub out 0 ((0 : Nat) : Int) = some ((out.take 0).drop 0) := sub_of (lo := 0) (hi := 0) (by omega) (by omega)
        have e2 : sub out ((0 : Nat) : Int) (out.length : Int) = some ((out.take out.length).drop 0) := sub_of (lo := 0) (hi := out.length) (by omega) (by omega)
        rw [e1, Option.bind_some, app_of (by simp), Option.bind_some, idx_of hkx, Option.bind_some, app_of (by simp), Option.bind_some, e2, Option.bind_some, app_of (by simp; omega), Option.bind_some, r8_Sorted_j2, wrap64 (by omega)]
        simp [ho]
      | succ n ih =>
        intro S1 S2 hn ho h2
        obtain ⟨S1', s, rfl, hn'⟩ := snoc_of hn
        have hol2 : out.length = n + 1 + S2.length := by rw [ho]; simp; omega
        have hs1 : out[n]? = some s := by rw [ho, ← hn']; simp
        obtain ⟨hsl, hsx⟩ := List.getElem?_eq_some_iff.1 hs1
        cases hl : qlt cs xs[k] s with
        | true =>
          have hst : r8_Sorted_b2 cs xs out (k : Int) ((n + 1 : Nat) : Int) = some (.inl (n : Int)) := by
            simp only [r8_Sorted_b2]
            rw [if_pos (by simp), idx_of hkx, Option.bind_some, wrap64 (by omega), show ((n + 1 : Nat) : Int) - 1 = (n : Int) by omega, idx_of hsl, Option.bind_some, hsx, before_eq (by omega), Option.bind_some, hl]
            rfl
          rw [loopO_go hst]
          exact ih S1' (s :: S2) hn' (by rw [ho]; simp) (by
            intro x hx
            rcases List.mem_cons.1 hx with rfl | hx
            · exact hl
            · exact h2 x hx)
        | false =>
          have hsrt : Srt (qlt cs) ((S1' ++ [s]) ++ S2) := by rw [← ho]; exact hs.srt
          have hst := Stb.ins (swo_qlt cs) (v := xs[k]) hsrt h2 (srt_last (swo_qlt cs) (List.Pairwise.sublist (List.sublist_append_left _ _) hsrt) hl)
          rw [← ho] at hst
          refine ⟨_, ?_, hst⟩
          apply loopO_end
          simp only [r8_Sorted_b2]
          rw [if_pos (by simp), idx_of hkx, Option.bind_some, wrap64 (by omega), show ((n + 1 : Nat) : Int) - 1 = (n : Int) by omega, idx_of hsl, Option.bind_some, hsx, before_eq (by omega), Option.bind_some, hl]
          rw [if_pos (by rfl), r8_Sorted_j3]
          have e1 : sub out 0 ((n + 1 : Nat) : Int) = some ((out.take (n + 1)).drop 0) := sub_of (lo := 0) (hi := n + 1) (by omega) (by omega)
          have e2 : sub out ((n + 1 : Nat) : Int) (out.length : Int) = some ((out.take out.length).drop (n + 1)) := sub_of (lo := n + 1) (hi := out.length) (by omega) (by omega)
          rw [e1, Option.bind_some, app_of (by simp; omega), Option.bind_some, idx_of hkx, Option.bind_some, app_of (by simp; omega), Option.bind_some, e2, Option.bind_some, app_of (by simp; omega), Option.bind_some, r8_Sorted_j2, wrap64 (by omega)]
          have t1 : out.take (n + 1) = S1' ++ [s] := by rw [ho]; exact List.take_left' hn
          have t2 : out.drop (n + 1) = S2 := by rw [ho]; exact List.drop_left' hn
          rw [List.take_length, t2, List.drop_zero, t1]
          simp
    obtain ⟨T, h1, h2⟩ := inner out.length out [] rfl (by simp) (by simp)
    refine ⟨(T, ((k + 1 : Nat) : Int)), h1, ⟨k + 1, rfl, hkx, ?_⟩, by simp; omega⟩
    rw [take_snoc hkx]
    exact hs.app h2
  · right
    rw [if_neg (by simp; omega)]
    refine ⟨out, rfl, ?_⟩
    rwa [List.take_of_length_le (by omega)] at hs
def keepV (h : Int) (v : Api_Version) : Bool := v.fDeleted == 0 || decide (h < v.fDeleted)
theorem flat_snoc {α : Type} {ls : List (List α)} {i : Nat} (h : i < ls.length) : (ls.take (i + 1)).flatten = (ls.take i).flatten ++ ls[i] := by
  rw [take_snoc h, List.flatten_append, List.flatten_singleton]
theorem flat_le {α : Type} {ls : List (List α)} (i : Nat) : (ls.take i).flatten.length ≤ ls.flatten.length := by
  conv => rhs; rw [← List.take_append_drop i ls]
  rw [List.flatten_append, List.length_append]; omega
theorem concat_eq {ls : List (List Api_Version)} (hl : ls.length ≤ 1048576) (hf : ls.flatten.length ≤ 1048576) : slices_Concat_Version ls = some ls.flatten := by
  unfold slices_Concat_Version
  have hs : ∀ i, i < ls.length → (ls.take i).flatten.length + ls[i]!.length = (ls.take (i + 1)).flatten.length := by
    intro i hi
    rw [flat_snoc hi, List.length_append, getElem!_pos ls i hi]
  refine (lp_seq (fun i => (((ls.take i).flatten.length : Int), (i : Int))) ls.length (by simp) (fun i hi => ?_) (b := slices_Concat_Version_j1 ls (ls.flatten.length : Int)) ?_).trans ?_
  · simp only [slices_Concat_Version_b2]
    have h1 := flat_le (ls := ls) (i + 1)
    have h2 : (ls.take (i + 1)).flatten.length = (ls.take i).flatten.length + ls[i].length := by rw [flat_snoc hi, List.length_append]
    rw [if_pos (by simpa using hi), idx_of hi, Option.bind_some, wrap64 (by omega), if_neg (by simp; omega), slices_Concat_Version_j3, wrap64 (by omega), wrap64 (by omega), h2]
    simp
  · simp only [slices_Concat_Version_b2]
    rw [if_neg (by simp), List.take_length]
  · unfold slices_Concat_Version_j1
    have hg : slices_Grow_Version_n0 (ls.flatten.length : Int) = some [] := by
      unfold slices_Grow_Version_n0 slices_Grow_Version_n0_j1
      rw [if_neg (by simp), wrap64 (n := (0 : Int) - 0) (by omega), wrap64 (by omega)]
      split
      · rename_i hp
        have : 0 < (ls.flatten.length : Int) := by simpa using hp
        rw [chk, if_pos (by simp only [decide_eq_true_eq]; omega)]
        rfl
      · rfl
    rw [hg, Option.bind_some]
    refine lp_seq (fun i => ((ls.take i).flatten, (i : Int))) ls.length (by simp) (fun i hi => ?_) ?_
    · simp only [slices_Concat_Version_b1]
      have h1 := flat_le (ls := ls) (i + 1)
      rw [flat_snoc hi, List.length_append] at h1
      rw [if_pos (by simpa using hi), idx_of hi, Option.bind_some, app_of (by omega), Option.bind_some, wrap64 (by omega), flat_snoc hi]
      rfl
    · simp only [slices_Concat_Version_b1]
      rw [if_neg (by simp), List.take_length]; rfl
theorem join_fold {h : Int} : ∀ (xs out : List Api_Version), out.length + xs.length ≤ 1048576 → foldY (fun (s : List Api_Version) (x : Api_Version) => mover_Join_b1 h s x) out xs = some (out ++ xs.filter (keepV h), true) := by
  intro xs
  induction xs with
  | nil => intro out _; simp [foldY]
  | cons x xs ih =>
    intro out hl
    rw [List.length_cons] at hl
    have hst : mover_Join_b1 h out x = some (if keepV h x then out ++ [x] else out, true) := by
      have hj : ∀ b, mover_Join_j1 out x b = some (if b then out ++ [x] else out, true) := by
        intro b
        unfold mover_Join_j1
        cases b
        · rfl
        · rw [if_pos rfl, app_of (by simp; omega)]; rfl
      simp only [mover_Join_b1, hj, keepV]
      by_cases h0 : x.fDeleted = 0
      · simp [h0]
      · simp [h0]
    simp only [foldY, hst, Option.bind_some, if_true]
    rw [List.filter_cons]
    split
    · rw [ih _ (by simp; omega)]; simp
    · rw [ih _ (by omega)]
theorem Rok.flat {ls : List (List Api_Version)} (h : ∀ l ∈ ls, Rok l) : Rok ls.flatten := by
  intro v hv
  obtain ⟨l, hl, hv⟩ := List.mem_flatten.1 hv
  exact h l hl v hv
theorem join_eq {cs : List Int} {ls : List (List Api_Version)} {h : Int} (hc : cs.length ≤ 1048576) (hl : ls.length ≤ 1048576) (hf : ls.flatten.length ≤ 1048576) (hr : ∀ l ∈ ls, Rok l) :
    ∃ T, mover_Join cs ls h = some T ∧ Stb (qlt cs) (ls.flatten.filter (keepV h)) T := by
  obtain ⟨T, h1, h2⟩ := sorted_eq (xs := ls.flatten.filter (keepV h)) hc (Nat.le_trans (List.length_filter_le _ _) hf) (fun v hv => Rok.flat hr v (List.mem_filter.1 hv).1)
  refine ⟨T, ?_, h2⟩
  unfold mover_Join
  rw [concat_eq hl hf, Option.bind_some, slices_Values_Version, Option.bind_some, join_fold _ _ (by simpa using hf), Option.bind_some]
  simp only [if_true, List.nil_append]
  rw [h1]; rfl
theorem refJoin_eq {cs : List Int} {ls : List (List Api_Version)} {h : Int} (hc : cs.length ≤ 1048576) (hl : ls.length ≤ 1048576) (hf : ls.flatten.length ≤ 1048576) :
    ∃ T, hayloftref12_Join cs ls h = some T ∧ Stb (qlt cs) (ls.flatten.filter (keepV h)) T := by
  obtain ⟨T, h1, h2⟩ := refSorted_eq (xs := ls.flatten.filter (keepV h)) hc (Nat.le_trans (List.length_filter_le _ _) hf)
  refine ⟨T, ?_, h2⟩
  unfold hayloftref12_Join
  refine (lp_seq (fun i => (((ls.take i).flatten).filter (keepV h), (i : Int))) ls.length (by simp) (fun i hi => ?_) (b := hayloftref12_Join_j1 cs (ls.flatten.filter (keepV h))) ?_).trans ?_
  · simp only [hayloftref12_Join_b1]
    rw [if_pos (by simpa using hi)]
    have hlen : (ls.take i).flatten.length + ls[i].length ≤ 1048576 := by
      have h1 := flat_le (ls := ls) (i + 1)
      rw [flat_snoc hi, List.length_append] at h1
      omega
    have hfl := List.length_filter_le (keepV h) (ls.take i).flatten
    refine lp_seq (fun j => ((ls.take i).flatten.filter (keepV h) ++ (ls[i].take j).filter (keepV h), (j : Int))) ls[i].length (by simp) (fun j hj => ?_) ?_
    · have hj4 : ∀ x, hayloftref12_Join_j4 (j : Int) x = some (.inl (x, ((j + 1 : Nat) : Int))) := by
        intro x; unfold hayloftref12_Join_j4; rw [wrap64 (by omega)]; rfl
      have hfj := List.length_filter_le (keepV h) (ls[i].take j)
      rw [List.length_take] at hfj
      have hj3 : ∀ b, hayloftref12_Join_j3 ls (i : Int) ((ls.take i).flatten.filter (keepV h) ++ (ls[i].take j).filter (keepV h)) (j : Int) b =
          some (.inl ((ls.take i).flatten.filter (keepV h) ++ (ls[i].take j).filter (keepV h) ++ (if b then [ls[i][j]] else []), ((j + 1 : Nat) : Int))) := by
        intro b
        unfold hayloftref12_Join_j3
        cases b
        · rw [if_neg (by simp), hj4]; simp
        · rw [if_pos rfl, idx_of hi, Option.bind_some, idx_of hj, Option.bind_some, app_of (by simp only [List.length_append, List.length_singleton]; omega), Option.bind_some, hj4]; simp
      simp only [hayloftref12_Join_b2]
      rw [idx_of hi, Option.bind_some, if_pos (by simpa using hj), Option.bind_some, idx_of hj, Option.bind_some, Option.bind_some]
      simp only [idx_of hj, Option.bind_some, hj3]
      rw [take_snoc hj, List.filter_append, List.append_assoc]
      by_cases h0 : ls[i][j].fDeleted = 0
      · simp [h0, keepV]
      · by_cases h5 : h < ls[i][j].fDeleted <;> simp [h0, h5, keepV]
    · simp only [hayloftref12_Join_b2]
      rw [idx_of hi, Option.bind_some, if_neg (by simp), List.take_length, hayloftref12_Join_j2, wrap64 (by omega), flat_snoc hi, List.filter_append]
      rfl
  · simp only [hayloftref12_Join_b1]
    rw [if_neg (by simp), List.take_length]
  · unfold hayloftref12_Join_j1
    rw [h1]; rfl
theorem sameRow_refl {r : List Ap} (h : r.length ≤ 1048576) : r2_SameRow r r = some true := by
  unfold r2_SameRow
  rw [if_neg (by simp)]
  refine lp_seq (fun i => (i : Int)) r.length rfl (fun i hi => ?_) ?_
  · simp only [r2_SameRow_b1]
    rw [if_pos (by simpa using hi), idx_of hi, Option.bind_some, Option.bind_some, if_neg (by simp), wrap64 (by omega)]; rfl
  · simp only [r2_SameRow_b1]
    rw [if_neg (by simp)]; rfl
theorem sameVersions_refl {xs : List Api_Version} (h : xs.length ≤ 1048576) (hr : Rok xs) : r2_SameVersions xs xs = some true := by
  unfold r2_SameVersions
  rw [if_neg (by simp)]
  refine lp_seq (fun i => (i : Int)) xs.length rfl (fun i hi => ?_) ?_
  · have hv : r2_SameVersion xs[i] xs[i] = some true := by
      unfold r2_SameVersion
      rw [sameRow_refl (hr _ (List.getElem_mem hi)), Option.bind_some, if_pos rfl, if_pos (by simp)]
      simp [r2_SameVersion_j1]
    simp only [r2_SameVersions_b1]
    rw [if_pos (by simpa using hi), idx_of hi, Option.bind_some, Option.bind_some, hv, Option.bind_some, if_neg (by simp), wrap64 (by omega)]; rfl
  · simp only [r2_SameVersions_b1]
    rw [if_neg (by simp)]; rfl
theorem copy_eq {r : List Ap} (h : r.length ≤ 1048576) : r2_Copy r = some r := by
  unfold r2_Copy
  rw [app_of (by simp; omega)]; simp
theorem alive_eq : hayloftlaw12_alive = some true := by
  unfold hayloftlaw12_alive
  let v1 : Api_Version := ⟨⟨1, 0⟩, [⟨2, false, 2, []⟩], 0⟩
  let v2 : Api_Version := ⟨⟨2, 0⟩, [⟨2, false, 1, []⟩], 0⟩
  let v3 : Api_Version := ⟨⟨1, 1⟩, [], 2⟩
  obtain ⟨T, h1, h2⟩ := join_eq (cs := [0]) (ls := [[v1], [v2, v3]]) (h := 2) (by simp) (by simp) (by simp) (by
    intro l hl v hv
    simp only [List.mem_cons, List.not_mem_nil, or_false] at hl
    rcases hl with rfl | rfl
    · simp only [List.mem_cons, List.not_mem_nil, or_false] at hv
      subst hv; decide
    · simp only [List.mem_cons, List.not_mem_nil, or_false] at hv
      rcases hv with rfl | rfl <;> decide)
  have hf : [[v1], [v2, v3]].flatten.filter (keepV 2) = [v1, v2] := by decide
  rw [hf] at h2
  have hi : Stb (qlt [0]) ([] ++ [v1] ++ [v2]) ([] ++ v2 :: [v1]) := Stb.ins (swo_qlt [0]) (by simp [Srt]) (by
    intro s hs
    rw [List.mem_singleton] at hs; subst hs; decide) (by simp)
  have : T = [v2, v1] := Stb.unique (swo_qlt [0]) h2 hi
  rw [h1, this]
  rfl
theorem law_Joins {p0 : List Int} {p1 : List (List Api_Version)} {p2 : Int} (hc : p0.length ≤ 1048576) (hl : p1.length ≤ 1048576) (hf : p1.flatten.length ≤ 1048576) (hr : ∀ l ∈ p1, Rok l) :
    hayloftlaw12_MoverJoins p0 p1 p2 = some true := by
  have hlen : ∀ l ∈ p1, l.length ≤ 1048576 := by
    intro l hl
    obtain ⟨i, hi, rfl⟩ := List.getElem_of_mem hl
    have h1 := flat_le (ls := p1) (i + 1)
    rw [flat_snoc hi, List.length_append] at h1
    omega
  unfold hayloftlaw12_MoverJoins
  refine (lp_seq (fun i => (p1.take i, (i : Int))) p1.length (by simp) (fun i hi => ?_) (b := hayloftlaw12_MoverJoins_j1 p0 p1 p2 p1) ?_).trans ?_
  · simp only [hayloftlaw12_MoverJoins_b2]
    have hm := List.getElem_mem hi
    have hll := hlen _ hm
    rw [if_pos (by simpa using hi), idx_of hi, Option.bind_some]
    refine lp_seq (fun j => (p1[i].take j, (j : Int))) p1[i].length (by simp) (fun j hj => ?_) ?_
    · simp only [hayloftlaw12_MoverJoins_b3]
      rw [if_pos (by simpa using hj), idx_of hj, Option.bind_some, copy_eq (hr _ hm _ (List.getElem_mem hj)), Option.bind_some, app_of (by simp; omega), Option.bind_some, wrap64 (by omega), take_snoc hj]
      rfl
    · simp only [hayloftlaw12_MoverJoins_b3]
      rw [if_neg (by simp), List.take_length, hayloftlaw12_MoverJoins_j5, app_of (by simp; omega), Option.bind_some, hayloftlaw12_MoverJoins_j4, wrap64 (by omega), take_snoc hi]
      rfl
  · simp only [hayloftlaw12_MoverJoins_b2]
    rw [if_neg (by simp), List.take_length]
  · unfold hayloftlaw12_MoverJoins_j1
    rw [alive_eq, Option.bind_some, if_neg (by simp)]
    obtain ⟨T, h1, h2⟩ := join_eq (h := p2) hc hl hf hr
    obtain ⟨T', h3, h4⟩ := refJoin_eq (h := p2) hc hl hf
    have e := h4.unique (swo_qlt p0) h2
    have hT : ∀ x ∈ T, x ∈ p1.flatten := fun x hx => (List.mem_filter.1 ((h2.mem (swo_qlt p0)).1 hx)).1
    rw [h1, Option.bind_some, h3, Option.bind_some, e, sameVersions_refl (by
      rw [h2.len (swo_qlt p0)]; exact Nat.le_trans (List.length_filter_le _ _) hf) (fun v hv => Rok.flat hr v (hT v hv)), Option.bind_some]
    unfold hayloftlaw12_MoverJoins_j2
    rw [if_neg (by simp)]
    refine lp_seq (fun i => (i : Int)) p1.length rfl (fun i hi => ?_) ?_
    · have hm := List.getElem_mem hi
      simp only [hayloftlaw12_MoverJoins_b1]
      rw [if_pos (by simpa using hi), idx_of hi, Option.bind_some, Option.bind_some, sameVersions_refl (hlen _ hm) (hr _ hm), Option.bind_some, if_neg (by simp), wrap64 (by omega)]; rfl
    · simp only [hayloftlaw12_MoverJoins_b1]
      rw [if_neg (by simp)]; rfl
end Go.Proofs.Ythbonoagbeilkaa.Hay
set_option maxRecDepth 100000
set_option linter.unusedSimpArgs false
namespace Go.Proofs.Ythbonoagbeilkaa.Hay
open Go.Proofs
theorem mixed : Try.prog.follows .mixedOrders = true := by kernel_rfl
def Ap.pr (x : Ap) : Int × Bool × Int × (List Int) := (x.fKind, x.fBool, x.fInt, x.fText)
def kAp : Kd Ap := kMap Ap.pr (kPair (kInt .i64) (kPair kBool (kPair (kInt .i64) kStr)))
theorem fl38_0 : Fld kAp (kInt .i64) 0 (fun x => x.fKind) := Fld_map Fld_fst
theorem sf38_0 : StF kAp (kInt .i64) 0 (fun x y => { x with fKind := y }) := StF_map StF_fst (fun _ _ => rfl)
theorem fl38_1 : Fld kAp kBool 1 (fun x => x.fBool) := Fld_map (Fld_snd Fld_fst)
theorem fl38_2 : Fld kAp (kInt .i64) 2 (fun x => x.fInt) := Fld_map (Fld_snd (Fld_snd Fld_fst))
theorem sf38_2 : StF kAp (kInt .i64) 2 (fun x y => { x with fInt := y }) := StF_map (StF_snd (StF_snd StF_fst)) (fun _ _ => rfl)
theorem fl38_3 : Fld kAp kStr 3 (fun x => x.fText) := Fld_map (Fld_snd (Fld_snd (Fld_snd Fld_self)))
def Api_RowId.pr (x : Api_RowId) : Int × Int := (x.fEpoch, x.fNumber)
def kApi_RowId : Kd Api_RowId := kMap Api_RowId.pr (kPair (kInt .u64) (kInt .u32))
theorem fl28_0 : Fld kApi_RowId (kInt .u64) 0 (fun x => x.fEpoch) := Fld_map Fld_fst
theorem sf28_0 : StF kApi_RowId (kInt .u64) 0 (fun x y => { x with fEpoch := y }) := StF_map StF_fst (fun _ _ => rfl)
theorem fl28_1 : Fld kApi_RowId (kInt .u32) 1 (fun x => x.fNumber) := Fld_map (Fld_snd Fld_self)
theorem sf28_1 : StF kApi_RowId (kInt .u32) 1 (fun x y => { x with fNumber := y }) := StF_map (StF_snd StF_self) (fun _ _ => rfl)
def Api_Version.pr (x : Api_Version) : Api_RowId × (List Ap) × Int := (x.fId, x.fRow, x.fDeleted)
def kApi_Version : Kd Api_Version := kMap Api_Version.pr (kPair kApi_RowId (kPair (kSl kAp) (kInt .u64)))
theorem fl31_0 : Fld kApi_Version kApi_RowId 0 (fun x => x.fId) := Fld_map Fld_fst
theorem sf31_0 : StF kApi_Version kApi_RowId 0 (fun x y => { x with fId := y }) := StF_map StF_fst (fun _ _ => rfl)
theorem fl31_1 : Fld kApi_Version (kSl kAp) 2 (fun x => x.fRow) := Fld_map (Fld_snd Fld_fst)
theorem sf31_1 : StF kApi_Version (kSl kAp) 2 (fun x y => { x with fRow := y }) := StF_map (StF_snd StF_fst) (fun _ _ => rfl)
theorem fl31_2 : Fld kApi_Version (kInt .u64) 3 (fun x => x.fDeleted) := Fld_map (Fld_snd (Fld_snd Fld_self))
theorem sf31_2 : StF kApi_Version (kInt .u64) 3 (fun x y => { x with fDeleted := y }) := StF_map (StF_snd (StF_snd StF_self)) (fun _ _ => rfl)
theorem el38 : ElOK Try.prog 38 4 40 := ⟨⟨Try.t38, _, Try.type38, rfl, rfl, rfl, rfl⟩⟩
theorem ty25 : TyOK Try.prog 25 (kSl kApi_Version) := ⟨Try.sizeOf25, Try.isAgg25⟩
theorem el31 : ElOK Try.prog 31 4 48 := ⟨⟨Try.t31, _, Try.type31, rfl, rfl, rfl, rfl⟩⟩
theorem ty31 : TyOK Try.prog 31 kApi_Version := ⟨Try.sizeOf31, Try.isAgg31⟩
def zc31 : List Value := [.int .u64 0, .int .u32 0, .slice none 0 0, .int .u64 0]
theorem zr31 : ∀ m, kApi_Version.R m zc31 Api_Version.zero := fun _ => ⟨⟨⟨rfl, inR_lit (by decide)⟩, ⟨rfl, inR_lit (by decide)⟩⟩, ⟨⟨none, 0, 0, rfl, rfl, Nat.le_refl _, (by decide), rfl⟩, ⟨rfl, inR_lit (by decide)⟩⟩⟩
theorem fo31_1 : FldOK Try.prog 31 1 2 := fld_ok Try.underlying31 rfl Try.sizeOf29 (by decide) rfl
theorem ty29 : TyOK Try.prog 29 (kSl kAp) := ⟨Try.sizeOf29, Try.isAgg29⟩
def zc38 : List Value := [.int .i64 0, .bool false, .int .i64 0, .string (bts [])]
theorem zr38 : ∀ m, kAp.R m zc38 Ap.zero := fun _ => ⟨⟨rfl, inR_lit (by decide)⟩, ⟨rfl, ⟨⟨rfl, inR_lit (by decide)⟩, ⟨rfl, (by decide), (by decide)⟩⟩⟩⟩
theorem ty38 : TyOK Try.prog 38 kAp := ⟨Try.sizeOf38, Try.isAgg38⟩
theorem ty3 : TyOK Try.prog 3 (kInt .i64) := ⟨Try.sizeOf3, Try.isAgg3⟩
theorem fo38_0 : FldOK Try.prog 38 0 0 := fld_ok Try.underlying38 rfl Try.sizeOf3 (by decide) rfl
theorem fo38_1 : FldOK Try.prog 38 1 1 := fld_ok Try.underlying38 rfl Try.sizeOf4 (by decide) rfl
theorem ty4 : TyOK Try.prog 4 kBool := ⟨Try.sizeOf4, Try.isAgg4⟩
theorem fo38_2 : FldOK Try.prog 38 2 2 := fld_ok Try.underlying38 rfl Try.sizeOf2 (by decide) rfl
theorem ty2 : TyOK Try.prog 2 (kInt .i64) := ⟨Try.sizeOf2, Try.isAgg2⟩
theorem fo38_3 : FldOK Try.prog 38 3 3 := fld_ok Try.underlying38 rfl Try.sizeOf9 (by decide) rfl
theorem ty9 : TyOK Try.prog 9 kStr := ⟨Try.sizeOf9, Try.isAgg9⟩
theorem fo28_0 : FldOK Try.prog 28 0 0 := fld_ok Try.underlying28 rfl Try.sizeOf24 (by decide) rfl
theorem ty24 : TyOK Try.prog 24 (kInt .u64) := ⟨Try.sizeOf24, Try.isAgg24⟩
theorem fo28_1 : FldOK Try.prog 28 1 1 := fld_ok Try.underlying28 rfl Try.sizeOf26 (by decide) rfl
theorem ty26 : TyOK Try.prog 26 (kInt .u32) := ⟨Try.sizeOf26, Try.isAgg26⟩
theorem ty22 : TyOK Try.prog 22 (kSl (kInt .i64)) := ⟨Try.sizeOf22, Try.isAgg22⟩
theorem fo31_0 : FldOK Try.prog 31 0 0 := fld_ok Try.underlying31 rfl Try.sizeOf28 (by decide) rfl
theorem ty28 : TyOK Try.prog 28 kApi_RowId := ⟨Try.sizeOf28, Try.isAgg28⟩
theorem fo31_2 : FldOK Try.prog 31 2 3 := fld_ok Try.underlying31 rfl Try.sizeOf24 (by decide) rfl
def zc28 : List Value := [.int .u64 0, .int .u32 0]
theorem zr28 : ∀ m, kApi_RowId.R m zc28 Api_RowId.zero := fun _ => ⟨⟨rfl, inR_lit (by decide)⟩, ⟨rfl, inR_lit (by decide)⟩⟩
theorem cl38 {m : M} {cs : List Value} {x : Ap} (h : kAp.R m cs x) : cs = [.int .i64 x.fKind, .bool x.fBool, .int .i64 x.fInt, .string (bts x.fText)] ∧ (∀ n ∈ x.fText, 0 ≤ n ∧ n < 256) := by
  obtain ⟨h0, h1, h2, h3⟩ := h
  refine ⟨?_, h3.2.1⟩
  rw [← List.take_append_drop 1 cs, show (cs).take 1 = _ from h0.1, ← List.take_append_drop 1 ((cs).drop 1), show ((cs).drop 1).take 1 = _ from h1, ← List.take_append_drop 1 (((cs).drop 1).drop 1), show (((cs).drop 1).drop 1).take 1 = _ from h2.1, show (((cs).drop 1).drop 1).drop 1 = _ from h3.1]
  rfl
theorem eq38 : EqOK Try.prog 38 kAp := by
  refine ⟨fun m cs ds x y d w hx hy => ?_, fun op o o' cs ds w => ?_⟩
  · obtain ⟨rfl, p3⟩ := cl38 hx
    obtain ⟨rfl, q3⟩ := cl38 hy
    have e : x = y ↔ x.fKind = y.fKind ∧ x.fBool = y.fBool ∧ x.fInt = y.fInt ∧ x.fText = y.fText := by cases x; cases y; simp
    show (Op.equalIn (d + 20) 38 (.agg #[_, _, _, _]) (.agg #[_, _, _, _])).run _ _ = _
    rw [run_equalIn_struct w (d + 19) 38 _ _ Try.underlying38 Try.stoodInHeld38]
    simp only [Program.fieldsOf, Try.underlying38, Op.eqFields]
    simp [part, run_equalIn_int, run_equalIn_bool', run_equalIn_string, bts_inj p3 q3]
    repeat' split
    all_goals simp_all
  · show (eqGuard op 38 o o' (.agg _) (.agg _)).run _ _ = _
    cases op <;> simp [eqGuard]
theorem cl28 {m : M} {cs : List Value} {x : Api_RowId} (h : kApi_RowId.R m cs x) : cs = [.int .u64 x.fEpoch, .int .u32 x.fNumber] := by
  obtain ⟨h0, h1⟩ := h
  skip
  rw [← List.take_append_drop 1 cs, show (cs).take 1 = _ from h0.1, show (cs).drop 1 = _ from h1.1]
  rfl
theorem eq28 : EqOK Try.prog 28 kApi_RowId := by
  refine ⟨fun m cs ds x y d w hx hy => ?_, fun op o o' cs ds w => ?_⟩
  · obtain rfl := cl28 hx
    obtain rfl := cl28 hy
    have e : x = y ↔ x.fEpoch = y.fEpoch ∧ x.fNumber = y.fNumber := by cases x; cases y; simp
    show (Op.equalIn (d + 20) 28 (.agg #[_, _]) (.agg #[_, _])).run _ _ = _
    rw [run_equalIn_struct w (d + 19) 28 _ _ Try.underlying28 Try.stoodInHeld28]
    simp only [Program.fieldsOf, Try.underlying28, Op.eqFields]
    simp [part, run_equalIn_int, run_equalIn_bool', run_equalIn_string]
    repeat' split
    all_goals simp_all
  · show (eqGuard op 28 o o' (.agg _) (.agg _)).run _ _ = _
    cases op <;> simp [eqGuard]
theorem el25 : ElOK Try.prog 25 1 24 := ⟨⟨Try.t25, _, Try.type25, rfl, rfl, rfl, rfl⟩⟩
end Go.Proofs.Ythbonoagbeilkaa.Hay
