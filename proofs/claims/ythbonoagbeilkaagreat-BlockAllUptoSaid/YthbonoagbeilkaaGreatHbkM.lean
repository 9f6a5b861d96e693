import Derived.Test.YthbonoagbeilkaaGreatHbN
set_option linter.unusedVariables false
namespace Go.Proofs.YthbonoagbeilkaaGreat.Hay
noncomputable section
structure Ap where
 fKind : Int
 fBool : Bool
 fInt : Int
 fText : (List Int)
 deriving DecidableEq
def Ap.zero : Ap := ⟨0, false, 0, []⟩
structure Encode_Run where
 fMany : Int
 fValue : Ap
 deriving DecidableEq
def Encode_Run.zero : Encode_Run := ⟨0, Ap.zero⟩
structure Block_Info where
 fKind : Int
 fMany : Int
 fMin : Ap
 fMax : Ap
 fNulls : Int
 fBytes : Int
 deriving DecidableEq
def Block_Info.zero : Block_Info := ⟨0, 0, Ap.zero, Ap.zero, 0, 0⟩
structure R6_Run where
 fMany : Int
 fValue : Ap
 deriving DecidableEq
def R6_Run.zero : R6_Run := ⟨0, Ap.zero⟩
structure R7_Info where
 fKind : Int
 fMany : Int
 fMin : Ap
 fMax : Ap
 fNulls : Int
 fBytes : Int
 deriving DecidableEq
def R7_Info.zero : R7_Info := ⟨0, 0, Ap.zero, Ap.zero, 0, 0⟩
structure Encode_reader where
 fB : (List Int)
 fOk : Bool
 deriving DecidableEq
def Encode_reader.zero : Encode_reader := ⟨[], false⟩
def slices_IndexFunc_Value_j1  : Option Int :=
 some (-1)
def slices_IndexFunc_Value_b1 (p0 : (List Ap)) (p1 : (Ap → Option Bool)) (x11 : Int) : Option (Int ⊕ Int) :=
 if decide (x11 < (p0.length : Int)) then
  (idx p0 x11).bind fun x22 =>
  (p1 x22).bind fun r28 =>
  if r28 then
   (some x11).map Sum.inr
  else
   some (.inl (IntKind.i64.wrap (x11 + 1)))
 else
  (slices_IndexFunc_Value_j1).map Sum.inr
def slices_IndexFunc_Value (p0 : (List Ap)) (p1 : (Ap → Option Bool)) : Option Int :=
 loopO (fun s : Int => slices_IndexFunc_Value_b1 p0 p1 s) 0
def slices_ContainsFunc_Value (p0 : (List Ap)) (p1 : (Ap → Option Bool)) : Option Bool :=
 (slices_IndexFunc_Value p0 p1).bind fun r4 =>
 some (decide (0 ≤ r4))
def value_Null  : Option Ap :=
 some (⟨0, false, 0, []⟩ : Ap)
def value_Bool (p0 : Bool) : Option Ap :=
 some (⟨1, p0, 0, []⟩ : Ap)
def value_Int (p0 : Int) : Option Ap :=
 some (⟨2, false, p0, []⟩ : Ap)
def value_Text (p0 : (List Int)) : Option Ap :=
 some (⟨3, false, 0, p0⟩ : Ap)
def value_Right_j1 (x129 : Bool) : Option Bool :=
 some x129
def value_Right (p0 : Ap) : Option Bool :=
 if p0.fKind == 0 then
  (value_Null).bind fun r14 =>
  some (decide (p0 = r14))
 else
  if p0.fKind == 1 then
   (value_Bool p0.fBool).bind fun r46 =>
   some (decide (p0 = r46))
  else
   if p0.fKind == 2 then
    (value_Int p0.fInt).bind fun r87 =>
    some (decide (p0 = r87))
   else
    if p0.fKind == 3 then
     (value_Text p0.fText).bind fun r135 =>
     if decide (p0 = r135) then
      value_Right_j1 (decide ((p0.fText.length : Int) ≤ 64))
     else
      value_Right_j1 false
    else
     some false
def encode_Encode_1 (p0 : Ap) : Option Bool :=
 (value_Right p0).bind fun r8 =>
 some (!r8)
def encode_ints_j1 (x9 : (List Int)) : Option ((List Int) × Bool) :=
 some (x9, true)
def encode_ints_b1 (p0 : (List Ap)) (x18 : (List Int)) (x21 : Int) : Option (((List Int) × Int) ⊕ ((List Int) × Bool)) :=
 if decide (x21 < (p0.length : Int)) then
  (idx p0 x21).bind fun x27 =>
  if x27.fKind != 2 then
   (some ([], false)).map Sum.inr
  else
   (app 17592186044416 x18 ([x27.fInt])).bind fun z55 =>
   some (.inl (z55, IntKind.i64.wrap (x21 + 1)))
 else
  (encode_ints_j1 x18).map Sum.inr
def encode_ints (p0 : (List Ap)) : Option ((List Int) × Bool) :=
 loopO (fun s : ((List Int) × Int) => encode_ints_b1 p0 s.1 s.2) ([], 0)
def encode_Runs_j1 (x8 : (List Encode_Run)) : Option (List Encode_Run) :=
 some x8
def encode_Runs_j2 (x16 : Int) (x29 : (List Encode_Run)) : Option ((Int × (List Encode_Run)) ⊕ (List Encode_Run)) :=
 some (.inl (IntKind.i64.wrap (x16 + 1), x29))
def encode_Runs_j3 (x16 : Int) (x18 : (List Encode_Run)) (x37 : Ap) : Option ((Int × (List Encode_Run)) ⊕ (List Encode_Run)) :=
 (app 2932031007402 x18 ([(⟨1, x37⟩ : Encode_Run)])).bind fun z63 =>
 encode_Runs_j2 x16 z63
def encode_Runs_j4 (x16 : Int) (x18 : (List Encode_Run)) (x75 : Int) (x85 : Bool) : Option (Int ⊕ ((Int × (List Encode_Run)) ⊕ (List Encode_Run))) :=
 if x85 then
  (ix x18 x75).bind fun j90 =>
  (x18[j90]?).bind fun x95 =>
  (ix x18 x75).bind fun j100 =>
  (x18[j100]?).bind fun x106 =>
  (encode_Runs_j2 x16 (x18.set j100 ({ x106 with fMany := IntKind.i64.wrap (x95.fMany + 1) }))).map Sum.inr
 else
  some (.inl (IntKind.i64.wrap (x75 + 1)))
def encode_Runs_b2 (x16 : Int) (x18 : (List Encode_Run)) (x37 : Ap) (x75 : Int) : Option (Int ⊕ ((Int × (List Encode_Run)) ⊕ (List Encode_Run))) :=
 if decide (x75 < (x18.length : Int)) then
  if x75 == (IntKind.i64.wrap ((x18.length : Int) - 1)) then
   (ix x18 x75).bind fun j112 =>
   (x18[j112]?).bind fun x115 =>
   encode_Runs_j4 x16 x18 x75 (decide (x115.fValue = x37))
  else
   encode_Runs_j4 x16 x18 x75 false
 else
  (encode_Runs_j3 x16 x18 x37).map Sum.inr
def encode_Runs_b1 (p0 : (List Ap)) (x16 : Int) (x18 : (List Encode_Run)) : Option ((Int × (List Encode_Run)) ⊕ (List Encode_Run)) :=
 if decide (x16 < (p0.length : Int)) then
  (idx p0 x16).bind fun x37 =>
  loopO (fun s : Int => encode_Runs_b2 x16 x18 x37 s) 0
 else
  (encode_Runs_j1 x18).map Sum.inr
def encode_Runs (p0 : (List Ap)) : Option (List Encode_Run) :=
 loopO (fun s : (Int × (List Encode_Run)) => encode_Runs_b1 p0 s.1 s.2) (0, ([] : List Encode_Run))
def rows_may_j1 (p0 : (List Ap)) : Option Bool :=
 some (decide ((p0.length : Int) ≤ 16))
def rows_may_b1 (p0 : (List Ap)) (x14 : Int) : Option (Int ⊕ Bool) :=
 if decide (x14 < (p0.length : Int)) then
  (idx p0 x14).bind fun x20 =>
  (value_Right x20).bind fun r33 =>
  if !r33 then
   (some false).map Sum.inr
  else
   some (.inl (IntKind.i64.wrap (x14 + 1)))
 else
  (rows_may_j1 p0).map Sum.inr
def rows_may (p0 : (List Ap)) : Option Bool :=
 loopO (fun s : Int => rows_may_b1 p0 s) 0
def rows_eight_j1 (p0 : (List Int)) (x7 : (List Int)) : Option (List Int) :=
 (app 140737488355328 p0 x7).bind fun z13 =>
 some z13
def rows_eight_b1 (p0 : (List Int)) (p1 : Int) (x22 : Int) (x24 : (List Int)) : Option ((Int × (List Int)) ⊕ (List Int)) :=
 if decide (x22 < 8) then
  (chk (decide (0 ≤ (IntKind.i64.wrap (56 - (IntKind.i64.wrap (8 * x22))))))).bind fun u38 =>
  (ix x24 x22).bind fun j42 =>
  (x24[j42]?).bind fun x47 =>
  some (.inl (IntKind.i64.wrap (x22 + 1), (x24.set j42 (IntKind.u8.wrap (iShr .u64 p1 (IntKind.i64.wrap (56 - (IntKind.i64.wrap (8 * x22)))))))))
 else
  (rows_eight_j1 p0 x24).map Sum.inr
def rows_eight (p0 : (List Int)) (p1 : Int) : Option (List Int) :=
 loopO (fun s : (Int × (List Int)) => rows_eight_b1 p0 p1 s.1 s.2) (0, (List.replicate 8 0 : List Int))
def rows_one (p0 : (List Int)) (p1 : Ap) : Option (List Int) :=
 (app 140737488355328 p0 ([IntKind.u8.wrap p1.fKind])).bind fun z16 =>
 if p1.fKind == 1 then
  if p1.fBool then
   (app 140737488355328 z16 ([1])).bind fun z39 =>
   some z39
  else
   (app 140737488355328 z16 ([0])).bind fun z51 =>
   some z51
 else
  if p1.fKind == 2 then
   (rows_eight z16 (IntKind.u64.wrap p1.fInt)).bind fun r67 =>
   some r67
  else
   if p1.fKind == 3 then
    (app 140737488355328 z16 ([IntKind.u8.wrap (p1.fText.length : Int)])).bind fun z89 =>
    (app 140737488355328 z89 p1.fText).bind fun z102 =>
    some z102
   else
    some z16
def rows_Encode_j1 (x27 : (List Int)) : Option ((List Int) × Int) :=
 some (x27, 0)
def rows_Encode_b1 (p0 : (List Ap)) (x36 : (List Int)) (x39 : Int) : Option (((List Int) × Int) ⊕ ((List Int) × Int)) :=
 if decide (x39 < (p0.length : Int)) then
  (idx p0 x39).bind fun x45 =>
  (rows_one x36 x45).bind fun r59 =>
  some (.inl (r59, IntKind.i64.wrap (x39 + 1)))
 else
  (rows_Encode_j1 x36).map Sum.inr
def rows_Encode (p0 : (List Ap)) : Option ((List Int) × Int) :=
 (rows_may p0).bind fun r4 =>
 if !r4 then
  some ([], 30)
 else
  loopO (fun s : ((List Int) × Int) => rows_Encode_b1 p0 s.1 s.2) ([IntKind.u8.wrap (p0.length : Int)], 0)
def encode_one (p0 : Ap) : Option (List Int) :=
 (rows_Encode ([p0])).bind fun r12 =>
 (sub r12.1 1 r12.1.length).bind fun x28 =>
 some x28
def encode_runs_j1 (x14 : (List Int)) : Option (List Int) :=
 some x14
def encode_runs_b1 (r4 : (List Encode_Run)) (x22 : (List Int)) (x25 : Int) : Option (((List Int) × Int) ⊕ (List Int)) :=
 if decide (x25 < (r4.length : Int)) then
  (idx r4 x25).bind fun x31 =>
  (app 140737488355328 x22 ([IntKind.u8.wrap x31.fMany])).bind fun z52 =>
  (encode_one x31.fValue).bind fun r63 =>
  (app 140737488355328 z52 r63).bind fun z69 =>
  some (.inl (z69, IntKind.i64.wrap (x25 + 1)))
 else
  (encode_runs_j1 x22).map Sum.inr
def encode_runs (p0 : (List Ap)) : Option (List Int) :=
 (encode_Runs p0).bind fun r4 =>
 loopO (fun s : ((List Int) × Int) => encode_runs_b1 r4 s.1 s.2) ([], 0)
def encode_eight_j1 (x6 : (List Int)) : Option (List Int) :=
 some x6
def encode_eight_b1 (p0 : Int) (x14 : (List Int)) (x17 : Int) : Option (((List Int) × Int) ⊕ (List Int)) :=
 if decide (x17 < 8) then
  (chk (decide (0 ≤ (IntKind.i64.wrap (56 - (IntKind.i64.wrap (8 * x17))))))).bind fun u30 =>
  (app 140737488355328 x14 ([IntKind.u8.wrap (iShr .u64 p0 (IntKind.i64.wrap (56 - (IntKind.i64.wrap (8 * x17)))))])).bind fun z38 =>
  some (.inl (z38, IntKind.i64.wrap (x17 + 1)))
 else
  (encode_eight_j1 x14).map Sum.inr
def encode_eight (p0 : Int) : Option (List Int) :=
 loopO (fun s : ((List Int) × Int) => encode_eight_b1 p0 s.1 s.2) ([], 0)
def encode_delta_j1 (x27 : (List Int)) : Option (List Int) :=
 some x27
def encode_delta_j2 (x38 : Int) (x46 : (List Int)) : Option (((List Int) × Int) ⊕ (List Int)) :=
 some (.inl (x46, IntKind.i64.wrap (x38 + 1)))
def encode_delta_j3 (x38 : Int) (x84 : (List Int)) (x87 : Int) : Option (((List Int) × Int) ⊕ (List Int)) :=
 (app 140737488355328 x84 ([IntKind.u8.wrap x87])).bind fun z97 =>
 encode_delta_j2 x38 z97
def encode_delta_b2 (x38 : Int) (x106 : (List Int)) (x109 : Int) : Option (((List Int) × Int) ⊕ (((List Int) × Int) ⊕ (List Int))) :=
 if decide (127 < x109) then
  (app 140737488355328 x106 ([bOr .u8 (IntKind.u8.wrap x109) 128])).bind fun z124 =>
  some (.inl (z124, iShr .u64 x109 7))
 else
  (encode_delta_j3 x38 x106 x109).map Sum.inr
def encode_delta_b1 (p0 : (List Int)) (x19 : (List Int)) (x35 : (List Int)) (x38 : Int) : Option (((List Int) × Int) ⊕ (List Int)) :=
 if decide (x38 < (x19.length : Int)) then
  (idx x19 x38).bind fun x53 =>
  (idx p0 x38).bind fun x65 =>
  loopO (fun s : ((List Int) × Int) => encode_delta_b2 x38 s.1 s.2) (x35, bXor .u64 (iShl .u64 (IntKind.u64.wrap (IntKind.i64.wrap (x53 - x65))) 1) (IntKind.u64.wrap (iShr .i64 (IntKind.i64.wrap (x53 - x65)) 63)))
 else
  (encode_delta_j1 x35).map Sum.inr
def encode_delta (p0 : (List Int)) : Option (List Int) :=
 (idx p0 0).bind fun x3 =>
 (encode_eight (IntKind.u64.wrap x3)).bind fun r11 =>
 (sub p0 1 p0.length).bind fun x19 =>
 loopO (fun s : ((List Int) × Int) => encode_delta_b1 p0 x19 s.1 s.2) (r11, 0)
def slices_SortFunc_Value (p0 : (List Ap)) (p1 : (Ap → Ap → Option Int)) : Option (List Ap) :=
 sortM p1 p0
def cmp_isNaN_int (p0 : Int) : Option Bool :=
 some (p0 != p0)
def cmp_Compare_int (p0 : Int) (p1 : Int) : Option Int :=
 (cmp_isNaN_int p0).bind fun r3 =>
 (cmp_isNaN_int p1).bind fun r11 =>
 if r3 then
  if r11 then
   some 0
  else
   some (-1)
 else
  if r11 then
   some 1
  else
   if decide (p0 < p1) then
    some (-1)
   else
    if decide (p1 < p0) then
     some 1
    else
     some 0
def cmp_isNaN_int64 (p0 : Int) : Option Bool :=
 some (p0 != p0)
def cmp_Compare_int64 (p0 : Int) (p1 : Int) : Option Int :=
 (cmp_isNaN_int64 p0).bind fun r3 =>
 (cmp_isNaN_int64 p1).bind fun r11 =>
 if r3 then
  if r11 then
   some 0
  else
   some (-1)
 else
  if r11 then
   some 1
  else
   if decide (p0 < p1) then
    some (-1)
   else
    if decide (p1 < p0) then
     some 1
    else
     some 0
def bytealg_CompareString (p0 : (List Int)) (p1 : (List Int)) : Option Int :=
 some (cmpB p0 p1)
def strings_Compare (p0 : (List Int)) (p1 : (List Int)) : Option Int :=
 (bytealg_CompareString p0 p1).bind fun r4 =>
 some r4
def value_Compare_j1 (p0 : Ap) (p1 : Ap) (x39 : Bool) : Option Int :=
 if x39 then
  if p1.fBool then
   some (-1)
  else
   some 1
 else
  if p0.fKind == 2 then
   (cmp_Compare_int64 p0.fInt p1.fInt).bind fun r63 =>
   some r63
  else
   if p0.fKind == 3 then
    (strings_Compare p0.fText p1.fText).bind fun r88 =>
    some r88
   else
    some 0
def value_Compare (p0 : Ap) (p1 : Ap) : Option Int :=
 if p0.fKind != p1.fKind then
  (cmp_Compare_int p0.fKind p1.fKind).bind fun r29 =>
  some r29
 else
  if p0.fKind == 1 then
   value_Compare_j1 p0 p1 (!(p0.fBool == p1.fBool))
  else
   value_Compare_j1 p0 p1 false
def slices_Index_Value_j1  : Option Int :=
 some (-1)
def slices_Index_Value_b1 (p0 : (List Ap)) (p1 : Ap) (x15 : Int) : Option (Int ⊕ Int) :=
 if decide (x15 < (p0.length : Int)) then
  (idx p0 x15).bind fun x24 =>
  if decide (p1 = x24) then
   (some x15).map Sum.inr
  else
   some (.inl (IntKind.i64.wrap (x15 + 1)))
 else
  (slices_Index_Value_j1).map Sum.inr
def slices_Index_Value (p0 : (List Ap)) (p1 : Ap) : Option Int :=
 loopO (fun s : Int => slices_Index_Value_b1 p0 p1 s) 0
def bits_Len32_j2 (x15 : Int) (x17 : Int) : Option Int :=
 (idx ([0, 1, 2, 2, 3, 3, 3, 3, 4, 4, 4, 4, 4, 4, 4, 4, 5, 5, 5, 5, 5, 5, 5, 5, 5, 5, 5, 5, 5, 5, 5, 5, 6, 6, 6, 6, 6, 6, 6, 6, 6, 6, 6, 6, 6, 6, 6, 6, 6, 6, 6, 6, 6, 6, 6, 6, 6, 6, 6, 6, 6, 6, 6, 6, 7, 7, 7, 7, 7, 7, 7, 7, 7, 7, 7, 7, 7, 7, 7, 7, 7, 7, 7, 7, 7, 7, 7, 7, 7, 7, 7, 7, 7, 7, 7, 7, 7, 7, 7, 7, 7, 7, 7, 7, 7, 7, 7, 7, 7, 7, 7, 7, 7, 7, 7, 7, 7, 7, 7, 7, 7, 7, 7, 7, 7, 7, 7, 7, 8, 8, 8, 8, 8, 8, 8, 8, 8, 8, 8, 8, 8, 8, 8, 8, 8, 8, 8, 8, 8, 8, 8, 8, 8, 8, 8, 8, 8, 8, 8, 8, 8, 8, 8, 8, 8, 8, 8, 8, 8, 8, 8, 8, 8, 8, 8, 8, 8, 8, 8, 8, 8, 8, 8, 8, 8, 8, 8, 8, 8, 8, 8, 8, 8, 8, 8, 8, 8, 8, 8, 8, 8, 8, 8, 8, 8, 8, 8, 8, 8, 8, 8, 8, 8, 8, 8, 8, 8, 8, 8, 8, 8, 8, 8, 8, 8, 8, 8, 8, 8, 8, 8, 8, 8, 8, 8, 8, 8, 8, 8, 8, 8, 8, 8, 8, 8, 8, 8, 8, 8, 8, 8, 8, 8, 8, 8, 8]) (IntKind.u8.wrap x15)).bind fun x23 =>
 some (IntKind.i64.wrap (x17 + (IntKind.i64.wrap x23)))
def bits_Len32_j1 (x6 : Int) (x8 : Int) : Option Int :=
 if decide (256 ≤ x6) then
  bits_Len32_j2 (iShr .u32 x6 8) (IntKind.i64.wrap (x8 + 8))
 else
  bits_Len32_j2 x6 x8
def bits_Len32 (p0 : Int) : Option Int :=
 if decide (65536 ≤ p0) then
  bits_Len32_j1 (iShr .u32 p0 16) 16
 else
  bits_Len32_j1 p0 0
def bits_Len64_j3 (x24 : Int) (x26 : Int) : Option Int :=
 (idx ([0, 1, 2, 2, 3, 3, 3, 3, 4, 4, 4, 4, 4, 4, 4, 4, 5, 5, 5, 5, 5, 5, 5, 5, 5, 5, 5, 5, 5, 5, 5, 5, 6, 6, 6, 6, 6, 6, 6, 6, 6, 6, 6, 6, 6, 6, 6, 6, 6, 6, 6, 6, 6, 6, 6, 6, 6, 6, 6, 6, 6, 6, 6, 6, 7, 7, 7, 7, 7, 7, 7, 7, 7, 7, 7, 7, 7, 7, 7, 7, 7, 7, 7, 7, 7, 7, 7, 7, 7, 7, 7, 7, 7, 7, 7, 7, 7, 7, 7, 7, 7, 7, 7, 7, 7, 7, 7, 7, 7, 7, 7, 7, 7, 7, 7, 7, 7, 7, 7, 7, 7, 7, 7, 7, 7, 7, 7, 7, 8, 8, 8, 8, 8, 8, 8, 8, 8, 8, 8, 8, 8, 8, 8, 8, 8, 8, 8, 8, 8, 8, 8, 8, 8, 8, 8, 8, 8, 8, 8, 8, 8, 8, 8, 8, 8, 8, 8, 8, 8, 8, 8, 8, 8, 8, 8, 8, 8, 8, 8, 8, 8, 8, 8, 8, 8, 8, 8, 8, 8, 8, 8, 8, 8, 8, 8, 8, 8, 8, 8, 8, 8, 8, 8, 8, 8, 8, 8, 8, 8, 8, 8, 8, 8, 8, 8, 8, 8, 8, 8, 8, 8, 8, 8, 8, 8, 8, 8, 8, 8, 8, 8, 8, 8, 8, 8, 8, 8, 8, 8, 8, 8, 8, 8, 8, 8, 8, 8, 8, 8, 8, 8, 8, 8, 8, 8, 8]) (IntKind.u8.wrap x24)).bind fun x32 =>
 some (IntKind.i64.wrap (x26 + (IntKind.i64.wrap x32)))
def bits_Len64_j2 (x15 : Int) (x17 : Int) : Option Int :=
 if decide (256 ≤ x15) then
  bits_Len64_j3 (iShr .u64 x15 8) (IntKind.i64.wrap (x17 + 8))
 else
  bits_Len64_j3 x15 x17
def bits_Len64_j1 (x6 : Int) (x8 : Int) : Option Int :=
 if decide (65536 ≤ x6) then
  bits_Len64_j2 (iShr .u64 x6 16) (IntKind.i64.wrap (x8 + 16))
 else
  bits_Len64_j2 x6 x8
def bits_Len64 (p0 : Int) : Option Int :=
 if decide (4294967296 ≤ p0) then
  bits_Len64_j1 (iShr .u64 p0 32) 32
 else
  bits_Len64_j1 p0 0
def bits_Len (p0 : Int) : Option Int :=
 (bits_Len64 p0).bind fun r3 =>
 some r3
def encode_packed_j1 (x20 : (List Int)) : Option (List Int) :=
 some x20
def encode_packed_j2 (x28 : Int) (x39 : (List Int)) : Option ((Int × (List Int)) ⊕ (List Int)) :=
 some (.inl (IntKind.i64.wrap (x28 + 1), x39))
def encode_packed_j3 (x59 : Int) (x79 : (List Int)) : Option ((Int × (List Int)) ⊕ ((Int × (List Int)) ⊕ (List Int))) :=
 some (.inl (IntKind.i64.wrap (x59 + 1), x79))
def encode_packed_b2 (p1 : Int) (x28 : Int) (x46 : Int) (x59 : Int) (x61 : (List Int)) : Option ((Int × (List Int)) ⊕ ((Int × (List Int)) ⊕ (List Int))) :=
 if decide (x59 < p1) then
  (chk (decide (0 ≤ x59))).bind fun u72 =>
  if (bAnd .u64 (iShr .u64 x46 x59) 1) == 1 then
   (ix x61 (IntKind.i64.wrap ((IntKind.i64.wrap ((IntKind.i64.wrap (x28 * p1)) + x59)).tdiv 8))).bind fun j92 =>
   (x61[j92]?).bind fun x95 =>
   (chk (decide (0 ≤ ((IntKind.i64.wrap ((IntKind.i64.wrap (x28 * p1)) + x59)).tmod 8)))).bind fun u98 =>
   (ix x61 (IntKind.i64.wrap ((IntKind.i64.wrap ((IntKind.i64.wrap (x28 * p1)) + x59)).tdiv 8))).bind fun j155 =>
   (x61[j155]?).bind fun x160 =>
   encode_packed_j3 x59 (x61.set j155 (bOr .u8 x95 (iShl .u8 1 ((IntKind.i64.wrap ((IntKind.i64.wrap (x28 * p1)) + x59)).tmod 8))))
  else
   encode_packed_j3 x59 x61
 else
  (encode_packed_j2 x28 x61).map Sum.inr
def encode_packed_b1 (p0 : (List Int)) (p1 : Int) (x28 : Int) (x30 : (List Int)) : Option ((Int × (List Int)) ⊕ (List Int)) :=
 if decide (x28 < (p0.length : Int)) then
  (idx p0 x28).bind fun x46 =>
  loopO (fun s : (Int × (List Int)) => encode_packed_b2 p1 x28 x46 s.1 s.2) (0, x30)
 else
  (encode_packed_j1 x30).map Sum.inr
def encode_packed (p0 : (List Int)) (p1 : Int) : Option (List Int) :=
 (mk 281474976710656 (IntKind.i64.wrap ((IntKind.i64.wrap ((IntKind.i64.wrap ((p0.length : Int) * p1)) + 7)).tdiv 8)) 0).bind fun z8 =>
 loopO (fun s : (Int × (List Int)) => encode_packed_b1 p0 p1 s.1 s.2) (0, z8)
def slices_Compact_Value_g_j1 (p0 : (List Ap)) : Option (List Ap) :=
 some p0
def slices_Compact_Value_g_j2 (x16 : Int) : Option (Int ⊕ (List Ap)) :=
 some (.inl (IntKind.i64.wrap (x16 + 1)))
def slices_Compact_Value_g_j3 (x100 : Int) (x102 : (List Ap)) : Option (Int ⊕ (List Ap)) :=
 (vw x102 x100 x102.length).bind fun q109 =>
 (clr x102 q109.1 q109.2 Ap.zero).bind fun z114 =>
 (sub z114 0 x100).bind fun x120 =>
 (some x120).map Sum.inr
def slices_Compact_Value_g_j4 (x128 : Int) (x202 : Int) (x204 : (List Ap)) : Option ((Int × Int × (List Ap)) ⊕ (Int ⊕ (List Ap))) :=
 some (.inl (x202, IntKind.i64.wrap (x128 + 1), x204))
def slices_Compact_Value_g_b2 (q93 : (Nat × Nat)) (x126 : Int) (x128 : Int) (x130 : (List Ap)) : Option ((Int × Int × (List Ap)) ⊕ (Int ⊕ (List Ap))) :=
 (chk (Nat.ble q93.2 maxSz)).bind fun u137 =>
 if decide (x128 < (q93.2 : Int)) then
  (ixv q93.1 q93.2 x128).bind fun j142 =>
  (x130[j142]?).bind fun x145 =>
  (ixv q93.1 q93.2 (IntKind.i64.wrap (x128 - 1))).bind fun j147 =>
  (x130[j147]?).bind fun x150 =>
  if !decide (x145 = x150) then
   (ixv q93.1 q93.2 x128).bind fun j216 =>
   (x130[j216]?).bind fun x220 =>
   (ix x130 x126).bind fun j223 =>
   (x130[j223]?).bind fun x228 =>
   slices_Compact_Value_g_j4 x128 (IntKind.i64.wrap (x126 + 1)) (x130.set j223 x220)
  else
   slices_Compact_Value_g_j4 x128 x126 x130
 else
  (slices_Compact_Value_g_j3 x126 x130).map Sum.inr
def slices_Compact_Value_g_b1 (p0 : (List Ap)) (x16 : Int) : Option (Int ⊕ (List Ap)) :=
 if decide (x16 < (p0.length : Int)) then
  (ix p0 x16).bind fun j31 =>
  (p0[j31]?).bind fun x34 =>
  (ix p0 (IntKind.i64.wrap (x16 - 1))).bind fun j36 =>
  (p0[j36]?).bind fun x39 =>
  if decide (x34 = x39) then
   (vw p0 x16 p0.length).bind fun q93 =>
   loopO (fun s : (Int × Int × (List Ap)) => slices_Compact_Value_g_b2 q93 s.1 s.2.1 s.2.2) (x16, 1, p0)
  else
   slices_Compact_Value_g_j2 x16
 else
  (slices_Compact_Value_g_j1 p0).map Sum.inr
def slices_Compact_Value_g (p0 : (List Ap)) : Option (List Ap) :=
 if decide ((p0.length : Int) < 2) then
  some p0
 else
  loopO (fun s : Int => slices_Compact_Value_g_b1 p0 s) 1
def slices_Clone_Value_g (p0 : (List Ap)) : Option (List Ap) :=
 (app 3518437208883 ([] : List Ap) p0).bind fun z16 =>
 some z16
def encode_dict_j2 (r22 : (List Ap)) (x48 : (List Int)) (x58 : (List Int)) : Option (List Int) :=
 (bits_Len (IntKind.u64.wrap (IntKind.i64.wrap ((r22.length : Int) - 1)))).bind fun r68 =>
 (encode_packed x58 r68).bind fun r75 =>
 (app 140737488355328 x48 r75).bind fun z81 =>
 some z81
def encode_dict_b1 (p0 : (List Ap)) (r22 : (List Ap)) (x48 : (List Int)) (x90 : (List Int)) (x93 : Int) : Option (((List Int) × Int) ⊕ (List Int)) :=
 if decide (x93 < (p0.length : Int)) then
  (idx p0 x93).bind fun x99 =>
  (slices_Index_Value r22 x99).bind fun r114 =>
  (app 17592186044416 x90 ([IntKind.u64.wrap r114])).bind fun z126 =>
  some (.inl (z126, IntKind.i64.wrap (x93 + 1)))
 else
  (encode_dict_j2 r22 x48 x90).map Sum.inr
def encode_dict_j1 (p0 : (List Ap)) (r22 : (List Ap)) (x48 : (List Int)) : Option (List Int) :=
 loopO (fun s : ((List Int) × Int) => encode_dict_b1 p0 r22 x48 s.1 s.2) ([], 0)
def encode_dict_b2 (p0 : (List Ap)) (r22 : (List Ap)) (x137 : (List Int)) (x140 : Int) : Option (((List Int) × Int) ⊕ (List Int)) :=
 if decide (x140 < (r22.length : Int)) then
  (idx r22 x140).bind fun x146 =>
  (encode_one x146).bind fun r160 =>
  (app 140737488355328 x137 r160).bind fun z166 =>
  some (.inl (z166, IntKind.i64.wrap (x140 + 1)))
 else
  (encode_dict_j1 p0 r22 x137).map Sum.inr
def encode_dict (p0 : (List Ap)) : Option (List Int) :=
 (slices_Clone_Value_g p0).bind fun r3 =>
 (slices_SortFunc_Value r3 value_Compare).bind fun r14 =>
 (slices_Compact_Value_g r14).bind fun r22 =>
 loopO (fun s : ((List Int) × Int) => encode_dict_b2 p0 r22 s.1 s.2) ([IntKind.u8.wrap (r22.length : Int)], 0)
def slices_Min_int64_j2 (x20 : Int) : Option Int :=
 some x20
def slices_Min_int64_b1 (p0 : (List Int)) (x27 : Int) (x29 : Int) : Option ((Int × Int) ⊕ Int) :=
 if decide (x29 < (p0.length : Int)) then
  (idx p0 x29).bind fun x41 =>
  some (.inl ((if x41 < x27 then x41 else x27), IntKind.i64.wrap (x29 + 1)))
 else
  (slices_Min_int64_j2 x27).map Sum.inr
def slices_Min_int64_j1 (p0 : (List Int)) : Option Int :=
 (idx p0 0).bind fun x9 =>
 loopO (fun s : (Int × Int) => slices_Min_int64_b1 p0 s.1 s.2) (x9, 1)
def slices_Min_int64 (p0 : (List Int)) : Option Int :=
 if decide ((p0.length : Int) < 1) then
  none
 else
  slices_Min_int64_j1 p0
def encode_small_j1 (r3 : Int) (x18 : (List Int)) (x21 : Int) : Option (List Int) :=
 (encode_eight (IntKind.u64.wrap r3)).bind fun r26 =>
 (app 140737488355328 r26 ([IntKind.u8.wrap x21])).bind fun z38 =>
 (encode_packed x18 x21).bind fun r46 =>
 (app 140737488355328 z38 r46).bind fun z52 =>
 some z52
def encode_small_b1 (p0 : (List Int)) (r3 : Int) (x61 : (List Int)) (x64 : Int) (x66 : Int) : Option (((List Int) × Int × Int) ⊕ (List Int)) :=
 if decide (x66 < (p0.length : Int)) then
  (idx p0 x66).bind fun x72 =>
  (app 17592186044416 x61 ([IntKind.u64.wrap ((IntKind.u64.wrap x72) - (IntKind.u64.wrap r3))])).bind fun z92 =>
  (bits_Len64 (IntKind.u64.wrap ((IntKind.u64.wrap x72) - (IntKind.u64.wrap r3)))).bind fun r101 =>
  some (.inl (z92, (if x64 < r101 then r101 else x64), IntKind.i64.wrap (x66 + 1)))
 else
  (encode_small_j1 r3 x61 x64).map Sum.inr
def encode_small (p0 : (List Int)) : Option (List Int) :=
 (slices_Min_int64 p0).bind fun r3 =>
 loopO (fun s : ((List Int) × Int × Int) => encode_small_b1 p0 r3 s.1 s.2.1 s.2.2) ([], 0, 0)
def encode_Encode_j3 (x109 : (List Int)) : Option ((List Int) × Int) :=
 some (x109, 0)
def encode_Encode_b1 (p1 : (List Ap)) (x118 : (List Int)) (x121 : Int) : Option (((List Int) × Int) ⊕ ((List Int) × Int)) :=
 if decide (x121 < (p1.length : Int)) then
  (idx p1 x121).bind fun x127 =>
  (encode_one x127).bind fun r141 =>
  (app 140737488355328 x118 r141).bind fun z147 =>
  some (.inl (z147, IntKind.i64.wrap (x121 + 1)))
 else
  (encode_Encode_j3 x118).map Sum.inr
def encode_Encode_j2 (p0 : Int) (p1 : (List Ap)) (r27 : ((List Int) × Bool)) (x43 : Bool) : Option ((List Int) × Int) :=
 if x43 then
  some ([], 62)
 else
  if (p1.length : Int) == 0 then
   some ([], 0)
  else
   if p0 == 1 then
    (encode_runs p1).bind fun r59 =>
    some (r59, 0)
   else
    if p0 == 2 then
     (encode_delta r27.1).bind fun r71 =>
     some (r71, 0)
    else
     if p0 == 3 then
      (encode_dict p1).bind fun r83 =>
      some (r83, 0)
     else
      if p0 == 4 then
       (encode_small r27.1).bind fun r95 =>
       some (r95, 0)
      else
       loopO (fun s : ((List Int) × Int) => encode_Encode_b1 p1 s.1 s.2) ([], 0)
def encode_Encode_j1 (p0 : Int) (p1 : (List Ap)) (x5 : Bool) : Option ((List Int) × Int) :=
 if x5 then
  some ([], 62)
 else
  if decide (64 < (p1.length : Int)) then
   some ([], 61)
  else
   (slices_ContainsFunc_Value p1 encode_Encode_1).bind fun r17 =>
   if r17 then
    some ([], 60)
   else
    (encode_ints p1).bind fun r27 =>
    if !r27.2 then
     if p0 == 2 then
      encode_Encode_j2 p0 p1 r27 true
     else
      encode_Encode_j2 p0 p1 r27 (p0 == 4)
    else
     encode_Encode_j2 p0 p1 r27 false
def encode_Encode (p0 : Int) (p1 : (List Ap)) : Option ((List Int) × Int) :=
 if decide (p0 < 0) then
  encode_Encode_j1 p0 p1 true
 else
  encode_Encode_j1 p0 p1 (decide (4 < p0))
def encode_Best_j1 (x7 : Int) : Option Int :=
 some x7
def encode_Best_j3 (x18 : Int) (x48 : Int) (x50 : Int) : Option ((Int × Int × Int) ⊕ Int) :=
 some (.inl (x48, x50, IntKind.i64.wrap (x18 + 1)))
def encode_Best_j2 (x14 : Int) (x16 : Int) (x18 : Int) (r27 : ((List Int) × Int)) (x44 : Bool) : Option ((Int × Int × Int) ⊕ Int) :=
 if x44 then
  encode_Best_j3 x18 x18 (r27.1.length : Int)
 else
  encode_Best_j3 x18 x14 x16
def encode_Best_b1 (p0 : (List Ap)) (x14 : Int) (x16 : Int) (x18 : Int) : Option ((Int × Int × Int) ⊕ Int) :=
 if decide (x18 ≤ 4) then
  (encode_Encode x18 p0).bind fun r27 =>
  if r27.2 == 0 then
   if decide (x16 < 0) then
    encode_Best_j2 x14 x16 x18 r27 true
   else
    encode_Best_j2 x14 x16 x18 r27 (decide ((r27.1.length : Int) < x16))
  else
   encode_Best_j2 x14 x16 x18 r27 false
 else
  (encode_Best_j1 x14).map Sum.inr
def encode_Best (p0 : (List Ap)) : Option Int :=
 loopO (fun s : (Int × Int × Int) => encode_Best_b1 p0 s.1 s.2.1 s.2.2) (0, (-1), 0)
def slices_MinFunc_Value_j2 (x24 : Ap) : Option Ap :=
 some x24
def slices_MinFunc_Value_j3 (x35 : Int) (x95 : Ap) : Option ((Int × Ap) ⊕ Ap) :=
 some (.inl (IntKind.i64.wrap (x35 + 1), x95))
def slices_MinFunc_Value_b1 (p0 : (List Ap)) (p1 : (Ap → Ap → Option Int)) (x35 : Int) (x37 : Ap) : Option ((Int × Ap) ⊕ Ap) :=
 if decide (x35 < (p0.length : Int)) then
  (idx p0 x35).bind fun x47 =>
  (p1 x47 x37).bind fun r85 =>
  if decide (r85 < 0) then
   (idx p0 x35).bind fun x105 =>
   slices_MinFunc_Value_j3 x35 x105
  else
   slices_MinFunc_Value_j3 x35 x37
 else
  (slices_MinFunc_Value_j2 x37).map Sum.inr
def slices_MinFunc_Value_j1 (p0 : (List Ap)) (p1 : (Ap → Ap → Option Int)) : Option Ap :=
 (idx p0 0).bind fun x10 =>
 loopO (fun s : (Int × Ap) => slices_MinFunc_Value_b1 p0 p1 s.1 s.2) (1, x10)
def slices_MinFunc_Value (p0 : (List Ap)) (p1 : (Ap → Ap → Option Int)) : Option Ap :=
 if decide ((p0.length : Int) < 1) then
  none
 else
  slices_MinFunc_Value_j1 p0 p1
def slices_MaxFunc_Value_j2 (x24 : Ap) : Option Ap :=
 some x24
def slices_MaxFunc_Value_j3 (x35 : Int) (x95 : Ap) : Option ((Int × Ap) ⊕ Ap) :=
 some (.inl (IntKind.i64.wrap (x35 + 1), x95))
def slices_MaxFunc_Value_b1 (p0 : (List Ap)) (p1 : (Ap → Ap → Option Int)) (x35 : Int) (x37 : Ap) : Option ((Int × Ap) ⊕ Ap) :=
 if decide (x35 < (p0.length : Int)) then
  (idx p0 x35).bind fun x47 =>
  (p1 x47 x37).bind fun r85 =>
  if decide (0 < r85) then
   (idx p0 x35).bind fun x105 =>
   slices_MaxFunc_Value_j3 x35 x105
  else
   slices_MaxFunc_Value_j3 x35 x37
 else
  (slices_MaxFunc_Value_j2 x37).map Sum.inr
def slices_MaxFunc_Value_j1 (p0 : (List Ap)) (p1 : (Ap → Ap → Option Int)) : Option Ap :=
 (idx p0 0).bind fun x10 =>
 loopO (fun s : (Int × Ap) => slices_MaxFunc_Value_b1 p0 p1 s.1 s.2) (1, x10)
def slices_MaxFunc_Value (p0 : (List Ap)) (p1 : (Ap → Ap → Option Int)) : Option Ap :=
 if decide ((p0.length : Int) < 1) then
  none
 else
  slices_MaxFunc_Value_j1 p0 p1
def slices_Values_Value (p0 : (List Ap)) : Option (List Ap) :=
 some p0
def block_head_b1 (x36 : Block_Info) (x39 : Ap) : Option (Block_Info × Bool) :=
 if x39.fKind == 0 then
  some (({ x36 with fNulls := IntKind.i64.wrap (x36.fNulls + 1) }), true)
 else
  some (x36, true)
def block_head (p0 : Int) (p1 : (List Ap)) : Option Block_Info :=
 (slices_MinFunc_Value p1 value_Compare).bind fun r7 =>
 (slices_MaxFunc_Value p1 value_Compare).bind fun r14 =>
 (slices_Values_Value p1).bind fun r28 =>
 (foldY (fun (s : Block_Info) (x : Ap) => block_head_b1 s x) (⟨p0, (p1.length : Int), r7, r14, 0, 0⟩ : Block_Info) r28).bind fun y67 =>
 if y67.2 then
  some y67.1
 else
  none
def block_one (p0 : Ap) : Option (List Int) :=
 (rows_Encode ([p0])).bind fun r12 =>
 (sub r12.1 1 r12.1.length).bind fun x28 =>
 some x28
def codec_Sum_j2 (x17 : Int) : Option Int :=
 some (iNot .u32 x17)
def codec_Sum_b1 (p0 : (List Int)) (x7 : (List Int)) (x25 : Int) (x27 : Int) : Option ((Int × Int) ⊕ Int) :=
 if decide (x27 < (p0.length : Int)) then
  (idx p0 x27).bind fun x33 =>
  (ix x7 (bAnd .u32 (bXor .u32 x25 (IntKind.u32.wrap x33)) 15)).bind fun j48 =>
  (x7[j48]?).bind fun x52 =>
  (ix x7 (bAnd .u32 (bXor .u32 x52 (iShr .u32 (bXor .u32 x25 (IntKind.u32.wrap x33)) 4)) 15)).bind fun j62 =>
  (x7[j62]?).bind fun x66 =>
  some (.inl (bXor .u32 x66 (iShr .u32 (bXor .u32 x52 (iShr .u32 (bXor .u32 x25 (IntKind.u32.wrap x33)) 4)) 4), IntKind.i64.wrap (x27 + 1)))
 else
  (codec_Sum_j2 x25).map Sum.inr
def codec_Sum_j1 (p0 : (List Int)) (x7 : (List Int)) : Option Int :=
 loopO (fun s : (Int × Int) => codec_Sum_b1 p0 x7 s.1 s.2) (4294967295, 0)
def codec_Sum_j3 (x78 : Int) (x89 : (List Int)) : Option ((Int × (List Int)) ⊕ Int) :=
 some (.inl (IntKind.i64.wrap (x78 + 1), x89))
def codec_Sum_j4 (x78 : Int) (x80 : (List Int)) (x103 : Int) : Option ((Int × (List Int)) ⊕ Int) :=
 (ix x80 x78).bind fun j108 =>
 (x80[j108]?).bind fun x113 =>
 codec_Sum_j3 x78 (x80.set j108 x103)
def codec_Sum_b3 (x78 : Int) (x80 : (List Int)) (x118 : Int) (x120 : Int) : Option ((Int × Int) ⊕ ((Int × (List Int)) ⊕ Int)) :=
 if decide (x120 < 4) then
  some (.inl (bXor .u32 (iShr .u32 x118 1) (IntKind.u32.wrap (3988292384 * (bAnd .u32 x118 1))), IntKind.i64.wrap (x120 + 1)))
 else
  (codec_Sum_j4 x78 x80 x118).map Sum.inr
def codec_Sum_b2 (p0 : (List Int)) (x78 : Int) (x80 : (List Int)) : Option ((Int × (List Int)) ⊕ Int) :=
 if decide (x78 < 16) then
  loopO (fun s : (Int × Int) => codec_Sum_b3 x78 x80 s.1 s.2) (IntKind.u32.wrap x78, 0)
 else
  (codec_Sum_j1 p0 x80).map Sum.inr
def codec_Sum (p0 : (List Int)) : Option Int :=
 loopO (fun s : (Int × (List Int)) => codec_Sum_b2 p0 s.1 s.2) (0, (List.replicate 16 0 : List Int))
def block_sealed (p0 : (List Int)) : Option (List Int) :=
 (codec_Sum p0).bind fun r3 =>
 (app 140737488355328 p0 ([IntKind.u8.wrap (iShr .u32 r3 24), IntKind.u8.wrap (iShr .u32 r3 16), IntKind.u8.wrap (iShr .u32 r3 8), IntKind.u8.wrap r3])).bind fun z27 =>
 some z27
def block_Write_j1 (p1 : (List Ap)) (x13 : Int) : Option ((List Int) × Int) :=
 (encode_Encode x13 p1).bind fun r18 =>
 if r18.2 != 0 then
  some ([], r18.2)
 else
  (block_head x13 p1).bind fun r41 =>
  (block_one r41.fMin).bind fun r73 =>
  (app 140737488355328 ([IntKind.u8.wrap x13, IntKind.u8.wrap r41.fMany, IntKind.u8.wrap r41.fNulls]) r73).bind fun z79 =>
  (block_one r41.fMax).bind fun r90 =>
  (app 140737488355328 z79 r90).bind fun z96 =>
  (app 140737488355328 z96 ([IntKind.u8.wrap (iShr .i64 (r18.1.length : Int) 8), IntKind.u8.wrap (r18.1.length : Int)])).bind fun z115 =>
  (app 140737488355328 z115 r18.1).bind fun z124 =>
  (block_sealed z124).bind fun r132 =>
  some (r132, 0)
def block_Write (p0 : Int) (p1 : (List Ap)) : Option ((List Int) × Int) :=
 if (p1.length : Int) == 0 then
  some ([], 70)
 else
  if p0 == (-1) then
   (encode_Best p1).bind fun r142 =>
   block_Write_j1 p1 r142
  else
   block_Write_j1 p1 p0
def r2_Right_j4 (x52 : Bool) : Option Bool :=
 some x52
def r2_Right_j3 (p0 : Ap) (x46 : Ap) : Option Bool :=
 if decide (0 ≤ p0.fKind) then
  if decide (p0.fKind ≤ 3) then
   if decide (p0 = x46) then
    r2_Right_j4 (decide ((p0.fText.length : Int) ≤ 64))
   else
    r2_Right_j4 false
  else
   r2_Right_j4 false
 else
  r2_Right_j4 false
def r2_Right_j2 (p0 : Ap) (x35 : Ap) : Option Bool :=
 if p0.fKind == 3 then
  r2_Right_j3 p0 ({ x35 with fText := p0.fText })
 else
  r2_Right_j3 p0 x35
def r2_Right_j1 (p0 : Ap) (x24 : Ap) : Option Bool :=
 if p0.fKind == 2 then
  r2_Right_j2 p0 ({ x24 with fInt := p0.fInt })
 else
  r2_Right_j2 p0 x24
def r2_Right (p0 : Ap) : Option Bool :=
 if p0.fKind == 1 then
  r2_Right_j1 p0 ({ (⟨p0.fKind, false, 0, []⟩ : Ap) with fBool := p0.fBool })
 else
  r2_Right_j1 p0 (⟨p0.fKind, false, 0, []⟩ : Ap)
def r6_refused_j3  : Option Int :=
 some 0
def r6_refused_j4 (x24 : Int) (x35 : Bool) : Option (Int ⊕ Int) :=
 if x35 then
  (some 62).map Sum.inr
 else
  some (.inl (IntKind.i64.wrap (x24 + 1)))
def r6_refused_b1 (p0 : Int) (p1 : (List Ap)) (x24 : Int) : Option (Int ⊕ Int) :=
 if decide (x24 < (p1.length : Int)) then
  if p0 == 2 then
   (idx p1 x24).bind fun x50 =>
   r6_refused_j4 x24 (x50.fKind != 2)
  else
   if p0 == 4 then
    (idx p1 x24).bind fun x69 =>
    r6_refused_j4 x24 (x69.fKind != 2)
   else
    r6_refused_j4 x24 false
 else
  (r6_refused_j3).map Sum.inr
def r6_refused_j2 (p0 : Int) (p1 : (List Ap)) : Option Int :=
 loopO (fun s : Int => r6_refused_b1 p0 p1 s) 0
def r6_refused_b2 (p0 : Int) (p1 : (List Ap)) (x84 : Int) : Option (Int ⊕ Int) :=
 if decide (x84 < (p1.length : Int)) then
  (idx p1 x84).bind fun x95 =>
  (r2_Right x95).bind fun r101 =>
  if !r101 then
   (some 60).map Sum.inr
  else
   some (.inl (IntKind.i64.wrap (x84 + 1)))
 else
  (r6_refused_j2 p0 p1).map Sum.inr
def r6_refused_j1 (p0 : Int) (p1 : (List Ap)) (x4 : Bool) : Option Int :=
 if x4 then
  some 62
 else
  if decide (64 < (p1.length : Int)) then
   some 61
  else
   loopO (fun s : Int => r6_refused_b2 p0 p1 s) 0
def r6_refused (p0 : Int) (p1 : (List Ap)) : Option Int :=
 if decide (p0 < 0) then
  r6_refused_j1 p0 p1 true
 else
  r6_refused_j1 p0 p1 (decide (4 < p0))
def r6_Runs_j1 (x6 : (List R6_Run)) : Option (List R6_Run) :=
 some x6
def r6_Runs_j2 (x17 : Int) (x28 : (List R6_Run)) : Option (((List R6_Run) × Int) ⊕ (List R6_Run)) :=
 some (.inl (x28, IntKind.i64.wrap (x17 + 1)))
def r6_Runs_j3 (p0 : (List Ap)) (x14 : (List R6_Run)) (x17 : Int) (x37 : Bool) : Option (((List R6_Run) × Int) ⊕ (List R6_Run)) :=
 if x37 then
  (idx x14 (IntKind.i64.wrap ((x14.length : Int) - 1))).bind fun x44 =>
  (sub x14 0 (IntKind.i64.wrap ((x14.length : Int) - 1))).bind fun x68 =>
  (app 2932031007402 ([]) x68).bind fun z71 =>
  (app 2932031007402 z71 ([{ x44 with fMany := IntKind.i64.wrap (x44.fMany + 1) }])).bind fun z129 =>
  r6_Runs_j2 x17 z129
 else
  (idx p0 x17).bind fun x139 =>
  (app 2932031007402 x14 ([(⟨1, x139⟩ : R6_Run)])).bind fun z151 =>
  r6_Runs_j2 x17 z151
def r6_Runs_b1 (p0 : (List Ap)) (x14 : (List R6_Run)) (x17 : Int) : Option (((List R6_Run) × Int) ⊕ (List R6_Run)) :=
 if decide (x17 < (p0.length : Int)) then
  if decide (0 < x17) then
   (idx p0 x17).bind fun x159 =>
   (idx p0 (IntKind.i64.wrap (x17 - 1))).bind fun x163 =>
   r6_Runs_j3 p0 x14 x17 (decide (x159 = x163))
  else
   r6_Runs_j3 p0 x14 x17 false
 else
  (r6_Runs_j1 x14).map Sum.inr
def r6_Runs (p0 : (List Ap)) : Option (List R6_Run) :=
 loopO (fun s : ((List R6_Run) × Int) => r6_Runs_b1 p0 s.1 s.2) ([], 0)
def r3_Number_j1 (x6 : (List Int)) : Option (List Int) :=
 some x6
def r3_Number_b1 (p0 : Int) (x14 : (List Int)) (x17 : Int) : Option (((List Int) × Int) ⊕ (List Int)) :=
 if decide (0 ≤ x17) then
  (chk (decide (0 ≤ x17))).bind fun u27 =>
  (app 140737488355328 x14 ([IntKind.u8.wrap (iShr .u64 p0 x17)])).bind fun z35 =>
  some (.inl (z35, IntKind.i64.wrap (x17 - 8)))
 else
  (r3_Number_j1 x14).map Sum.inr
def r3_Number (p0 : Int) : Option (List Int) :=
 loopO (fun s : ((List Int) × Int) => r3_Number_b1 p0 s.1 s.2) ([], 56)
def r3_One_j1 (p0 : Ap) (x18 : Bool) : Option (List Int) :=
 if x18 then
  (app 140737488355328 ([IntKind.u8.wrap p0.fKind]) ([1])).bind fun z26 =>
  some z26
 else
  if p0.fKind == 1 then
   (app 140737488355328 ([IntKind.u8.wrap p0.fKind]) ([0])).bind fun z44 =>
   some z44
  else
   if p0.fKind == 2 then
    (r3_Number (IntKind.u64.wrap p0.fInt)).bind fun r63 =>
    (app 140737488355328 ([IntKind.u8.wrap p0.fKind]) r63).bind fun z69 =>
    some z69
   else
    if p0.fKind == 3 then
     (app 140737488355328 ([IntKind.u8.wrap p0.fKind]) ([IntKind.u8.wrap (p0.fText.length : Int)])).bind fun z94 =>
     (app 140737488355328 z94 p0.fText).bind fun z107 =>
     some z107
    else
     some ([IntKind.u8.wrap p0.fKind])
def r3_One (p0 : Ap) : Option (List Int) :=
 if p0.fKind == 1 then
  r3_One_j1 p0 p0.fBool
 else
  r3_One_j1 p0 false
def r6_delta_j1 (x24 : (List Int)) : Option (List Int) :=
 some x24
def r6_delta_j2 (x35 : Int) (x46 : (List Int)) : Option (((List Int) × Int) ⊕ (List Int)) :=
 some (.inl (x46, IntKind.i64.wrap (x35 + 1)))
def r6_delta_j4 (x35 : Int) (x141 : (List Int)) (x144 : Int) : Option (((List Int) × Int) ⊕ (List Int)) :=
 (app 140737488355328 x141 ([IntKind.u8.wrap x144])).bind fun z154 =>
 r6_delta_j2 x35 z154
def r6_delta_b2 (x35 : Int) (x163 : (List Int)) (x166 : Int) : Option (((List Int) × Int) ⊕ (((List Int) × Int) ⊕ (List Int))) :=
 if decide (128 ≤ x166) then
  (app 140737488355328 x163 ([IntKind.u8.wrap (IntKind.u64.wrap ((x166.tmod 128) + 128))])).bind fun z182 =>
  some (.inl (z182, IntKind.u64.wrap (x166.tdiv 128)))
 else
  (r6_delta_j4 x35 x163 x166).map Sum.inr
def r6_delta_j3 (x32 : (List Int)) (x35 : Int) (x136 : Int) : Option (((List Int) × Int) ⊕ (List Int)) :=
 loopO (fun s : ((List Int) × Int) => r6_delta_b2 x35 s.1 s.2) (x32, x136)
def r6_delta_b1 (p0 : (List Ap)) (x32 : (List Int)) (x35 : Int) : Option (((List Int) × Int) ⊕ (List Int)) :=
 if decide (x35 < (p0.length : Int)) then
  (idx p0 x35).bind fun x53 =>
  (idx p0 (IntKind.i64.wrap (x35 - 1))).bind fun x60 =>
  if decide ((IntKind.i64.wrap (x53.fInt - x60.fInt)) < 0) then
   r6_delta_j3 x32 x35 (IntKind.u64.wrap (IntKind.i64.wrap ((IntKind.i64.wrap ((-2) * (IntKind.i64.wrap (x53.fInt - x60.fInt)))) - 1)))
  else
   r6_delta_j3 x32 x35 (IntKind.u64.wrap (IntKind.i64.wrap (2 * (IntKind.i64.wrap (x53.fInt - x60.fInt)))))
 else
  (r6_delta_j1 x32).map Sum.inr
def r6_delta (p0 : (List Ap)) : Option (List Int) :=
 (idx p0 0).bind fun x3 =>
 (r3_Number (IntKind.u64.wrap x3.fInt)).bind fun r14 =>
 loopO (fun s : ((List Int) × Int) => r6_delta_b1 p0 s.1 s.2) (r14, 1)
def r2_less_j1 (x38 : Bool) : Option Bool :=
 some x38
def r2_less_j2 (x71 : Bool) : Option Bool :=
 some x71
def r2_less (p0 : Ap) (p1 : Ap) : Option Bool :=
 if p0.fKind != p1.fKind then
  some (decide (p0.fKind < p1.fKind))
 else
  if p0.fKind == 1 then
   if !p0.fBool then
    r2_less_j1 p1.fBool
   else
    r2_less_j1 false
  else
   if p0.fKind == 2 then
    some (decide (p0.fInt < p1.fInt))
   else
    if p0.fKind == 3 then
     r2_less_j2 (ltB p0.fText p1.fText)
    else
     r2_less_j2 false
def r2_Compare (p0 : Ap) (p1 : Ap) : Option Int :=
 (r2_less p0 p1).bind fun r14 =>
 (r2_less p1 p0).bind fun r25 =>
 if r14 then
  some (-1)
 else
  if r25 then
   some 1
  else
   some 0
def r6_words_j1 (x6 : (List Ap)) : Option (List Ap) :=
 some x6
def r6_words_j2 (x17 : Int) (x28 : (List Ap)) : Option (((List Ap) × Int) ⊕ (List Ap)) :=
 some (.inl (x28, IntKind.i64.wrap (x17 + 1)))
def r6_words_j4 (x17 : Int) (x49 : (List Ap)) : Option (((List Ap) × Int) ⊕ (List Ap)) :=
 r6_words_j2 x17 x49
def r6_words_j3 (p0 : (List Ap)) (x17 : Int) (x40 : (List Ap)) (x43 : Bool) : Option (((List Ap) × Int) ⊕ (List Ap)) :=
 if !x43 then
  (idx p0 x17).bind fun x59 =>
  (app 3518437208883 x40 ([x59])).bind fun z69 =>
  r6_words_j4 x17 z69
 else
  r6_words_j4 x17 x40
def r6_words_j5 (x82 : Int) (x93 : (List Ap)) (x96 : Bool) : Option (((List Ap) × Bool × Int) ⊕ (((List Ap) × Int) ⊕ (List Ap))) :=
 some (.inl (x93, x96, IntKind.i64.wrap (x82 + 1)))
def r6_words_j7 (x14 : (List Ap)) (x82 : Int) (x165 : (List Ap)) (x168 : Bool) : Option (((List Ap) × Bool × Int) ⊕ (((List Ap) × Int) ⊕ (List Ap))) :=
 (idx x14 x82).bind fun x173 =>
 (app 3518437208883 x165 ([x173])).bind fun z183 =>
 r6_words_j5 x82 z183 x168
def r6_words_j6 (p0 : (List Ap)) (x14 : (List Ap)) (x17 : Int) (x78 : (List Ap)) (x81 : Bool) (x82 : Int) (r151 : Int) (x161 : Bool) : Option (((List Ap) × Bool × Int) ⊕ (((List Ap) × Int) ⊕ (List Ap))) :=
 if x161 then
  (idx p0 x17).bind fun x194 =>
  (app 3518437208883 x78 ([x194])).bind fun z204 =>
  if r151 == 0 then
   r6_words_j5 x82 z204 true
  else
   r6_words_j7 x14 x82 z204 true
 else
  r6_words_j7 x14 x82 x78 x81
def r6_words_b2 (p0 : (List Ap)) (x14 : (List Ap)) (x17 : Int) (x78 : (List Ap)) (x81 : Bool) (x82 : Int) : Option (((List Ap) × Bool × Int) ⊕ (((List Ap) × Int) ⊕ (List Ap))) :=
 if decide (x82 < (x14.length : Int)) then
  (idx p0 x17).bind fun x101 =>
  (idx x14 x82).bind fun x105 =>
  (r2_Compare x101 x105).bind fun r151 =>
  if !x81 then
   r6_words_j6 p0 x14 x17 x78 x81 x82 r151 (decide (r151 ≤ 0))
  else
   r6_words_j6 p0 x14 x17 x78 x81 x82 r151 false
 else
  (r6_words_j3 p0 x17 x78 x81).map Sum.inr
def r6_words_b1 (p0 : (List Ap)) (x14 : (List Ap)) (x17 : Int) : Option (((List Ap) × Int) ⊕ (List Ap)) :=
 if decide (x17 < (p0.length : Int)) then
  loopO (fun s : ((List Ap) × Bool × Int) => r6_words_b2 p0 x14 x17 s.1 s.2.1 s.2.2) ([], false, 0)
 else
  (r6_words_j1 x14).map Sum.inr
def r6_words (p0 : (List Ap)) : Option (List Ap) :=
 loopO (fun s : ((List Ap) × Int) => r6_words_b1 p0 s.1 s.2) ([], 0)
def r6_width_j1 (x5 : Int) : Option Int :=
 some x5
def r6_width_b1 (x12 : Int) (x14 : Int) : Option ((Int × Int) ⊕ Int) :=
 if decide (0 < x12) then
  some (.inl (IntKind.u64.wrap (x12.tdiv 2), IntKind.i64.wrap (x14 + 1)))
 else
  (r6_width_j1 x14).map Sum.inr
def r6_width (p0 : Int) : Option Int :=
 loopO (fun s : (Int × Int) => r6_width_b1 s.1 s.2) (p0, 0)
def r6_Packed_j2 (x14 : (List Int)) : Option (List Int) :=
 some x14
def r6_Packed_j3 (x25 : Int) (x36 : (List Int)) : Option (((List Int) × Int) ⊕ (List Int)) :=
 some (.inl (x36, IntKind.i64.wrap (x25 + 8)))
def r6_Packed_j4 (x22 : (List Int)) (x25 : Int) (x47 : Int) : Option (((List Int) × Int) ⊕ (List Int)) :=
 (app 140737488355328 x22 ([x47])).bind fun z56 =>
 r6_Packed_j3 x25 z56
def r6_Packed_j5 (x67 : Int) (x85 : Int) : Option ((Int × Int) ⊕ (((List Int) × Int) ⊕ (List Int))) :=
 some (.inl (x85, IntKind.i64.wrap (x67 - 1)))
def r6_Packed_b2 (x6 : (List Int)) (x22 : (List Int)) (x25 : Int) (x65 : Int) (x67 : Int) : Option ((Int × Int) ⊕ (((List Int) × Int) ⊕ (List Int))) :=
 if decide (0 ≤ x67) then
  if decide ((IntKind.i64.wrap (x25 + x67)) < (x6.length : Int)) then
   (idx x6 (IntKind.i64.wrap (x25 + x67))).bind fun x97 =>
   r6_Packed_j5 x67 (IntKind.u8.wrap ((IntKind.u8.wrap (x65 * 2)) + x97))
  else
   r6_Packed_j5 x67 (IntKind.u8.wrap (x65 * 2))
 else
  (r6_Packed_j4 x22 x25 x65).map Sum.inr
def r6_Packed_b1 (x6 : (List Int)) (x22 : (List Int)) (x25 : Int) : Option (((List Int) × Int) ⊕ (List Int)) :=
 if decide (x25 < (x6.length : Int)) then
  loopO (fun s : (Int × Int) => r6_Packed_b2 x6 x22 x25 s.1 s.2) (0, 7)
 else
  (r6_Packed_j2 x22).map Sum.inr
def r6_Packed_j1 (x6 : (List Int)) : Option (List Int) :=
 loopO (fun s : ((List Int) × Int) => r6_Packed_b1 x6 s.1 s.2) ([], 0)
def r6_Packed_j6 (x111 : Int) (x122 : (List Int)) : Option (((List Int) × Int) ⊕ (List Int)) :=
 some (.inl (x122, IntKind.i64.wrap (x111 + 1)))
def r6_Packed_b4 (p1 : Int) (x111 : Int) (x142 : (List Int)) (x145 : Int) (x147 : Int) : Option (((List Int) × Int × Int) ⊕ (((List Int) × Int) ⊕ (List Int))) :=
 if decide (x147 < p1) then
  (app 140737488355328 x142 ([IntKind.u8.wrap (x145.tmod 2)])).bind fun z163 =>
  some (.inl (z163, IntKind.u64.wrap (x145.tdiv 2), IntKind.i64.wrap (x147 + 1)))
 else
  (r6_Packed_j6 x111 x142).map Sum.inr
def r6_Packed_b3 (p0 : (List Int)) (p1 : Int) (x108 : (List Int)) (x111 : Int) : Option (((List Int) × Int) ⊕ (List Int)) :=
 if decide (x111 < (p0.length : Int)) then
  (idx p0 x111).bind fun x131 =>
  loopO (fun s : ((List Int) × Int × Int) => r6_Packed_b4 p1 x111 s.1 s.2.1 s.2.2) (x108, x131, 0)
 else
  (r6_Packed_j1 x108).map Sum.inr
def r6_Packed (p0 : (List Int)) (p1 : Int) : Option (List Int) :=
 loopO (fun s : ((List Int) × Int) => r6_Packed_b3 p0 p1 s.1 s.2) ([], 0)
def r6_dict_j2 (r3 : (List Ap)) (x21 : (List Int)) (x29 : (List Int)) : Option (List Int) :=
 (r6_width (IntKind.u64.wrap (IntKind.i64.wrap ((r3.length : Int) - 1)))).bind fun r39 =>
 (r6_Packed x29 r39).bind fun r46 =>
 (app 140737488355328 x21 r46).bind fun z52 =>
 some z52
def r6_dict_j3 (x64 : Int) (x75 : (List Int)) : Option (((List Int) × Int) ⊕ (List Int)) :=
 some (.inl (x75, IntKind.i64.wrap (x64 + 1)))
def r6_dict_j4 (x88 : Int) (x150 : (List Int)) : Option (((List Int) × Int) ⊕ (((List Int) × Int) ⊕ (List Int))) :=
 some (.inl (x150, IntKind.i64.wrap (x88 + 1)))
def r6_dict_b2 (p0 : (List Ap)) (r3 : (List Ap)) (x64 : Int) (x85 : (List Int)) (x88 : Int) : Option (((List Int) × Int) ⊕ (((List Int) × Int) ⊕ (List Int))) :=
 if decide (x88 < (r3.length : Int)) then
  (idx r3 x88).bind fun x97 =>
  (idx p0 x64).bind fun x101 =>
  if decide (x97 = x101) then
   (app 17592186044416 x85 ([IntKind.u64.wrap x88])).bind fun z165 =>
   r6_dict_j4 x88 z165
  else
   r6_dict_j4 x88 x85
 else
  (r6_dict_j3 x64 x85).map Sum.inr
def r6_dict_b1 (p0 : (List Ap)) (r3 : (List Ap)) (x21 : (List Int)) (x61 : (List Int)) (x64 : Int) : Option (((List Int) × Int) ⊕ (List Int)) :=
 if decide (x64 < (p0.length : Int)) then
  loopO (fun s : ((List Int) × Int) => r6_dict_b2 p0 r3 x64 s.1 s.2) (x61, 0)
 else
  (r6_dict_j2 r3 x21 x61).map Sum.inr
def r6_dict_j1 (p0 : (List Ap)) (r3 : (List Ap)) (x21 : (List Int)) : Option (List Int) :=
 loopO (fun s : ((List Int) × Int) => r6_dict_b1 p0 r3 x21 s.1 s.2) ([], 0)
def r6_dict_b3 (p0 : (List Ap)) (r3 : (List Ap)) (x174 : (List Int)) (x177 : Int) : Option (((List Int) × Int) ⊕ (List Int)) :=
 if decide (x177 < (r3.length : Int)) then
  (idx r3 x177).bind fun x189 =>
  (r3_One x189).bind fun r195 =>
  (app 140737488355328 x174 r195).bind fun z201 =>
  some (.inl (z201, IntKind.i64.wrap (x177 + 1)))
 else
  (r6_dict_j1 p0 r3 x174).map Sum.inr
def r6_dict (p0 : (List Ap)) : Option (List Int) :=
 (r6_words p0).bind fun r3 =>
 loopO (fun s : ((List Int) × Int) => r6_dict_b3 p0 r3 s.1 s.2) ([IntKind.u8.wrap (r3.length : Int)], 0)
def r6_small_j2 (x17 : Int) (x25 : (List Int)) (x28 : Int) : Option (List Int) :=
 (r3_Number (IntKind.u64.wrap x17)).bind fun r33 =>
 (app 140737488355328 r33 ([IntKind.u8.wrap x28])).bind fun z45 =>
 (r6_Packed x25 x28).bind fun r55 =>
 (app 140737488355328 z45 r55).bind fun z61 =>
 some z61
def r6_small_b1 (p0 : (List Ap)) (x17 : Int) (x70 : (List Int)) (x73 : Int) (x75 : Int) : Option (((List Int) × Int × Int) ⊕ (List Int)) :=
 if decide (x75 < (p0.length : Int)) then
  (idx p0 x75).bind fun x86 =>
  (app 17592186044416 x70 ([IntKind.u64.wrap ((IntKind.u64.wrap x86.fInt) - (IntKind.u64.wrap x17))])).bind fun z107 =>
  (r6_width (IntKind.u64.wrap ((IntKind.u64.wrap x86.fInt) - (IntKind.u64.wrap x17)))).bind fun r116 =>
  some (.inl (z107, (if x73 < r116 then r116 else x73), IntKind.i64.wrap (x75 + 1)))
 else
  (r6_small_j2 x17 x70 x73).map Sum.inr
def r6_small_j1 (p0 : (List Ap)) (x17 : Int) : Option (List Int) :=
 loopO (fun s : ((List Int) × Int × Int) => r6_small_b1 p0 x17 s.1 s.2.1 s.2.2) ([], 0, 0)
def r6_small_b2 (p0 : (List Ap)) (x130 : Int) (x132 : Int) : Option ((Int × Int) ⊕ (List Int)) :=
 if decide (x132 < (p0.length : Int)) then
  (idx p0 x132).bind fun x144 =>
  some (.inl ((if x144.fInt < x130 then x144.fInt else x130), IntKind.i64.wrap (x132 + 1)))
 else
  (r6_small_j1 p0 x130).map Sum.inr
def r6_small (p0 : (List Ap)) : Option (List Int) :=
 (idx p0 0).bind fun x3 =>
 loopO (fun s : (Int × Int) => r6_small_b2 p0 s.1 s.2) (x3.fInt, 0)
def r6_Encode_j2 (x25 : (List Int)) : Option ((List Int) × Int) :=
 some (x25, 0)
def r6_Encode_b1 (r36 : (List R6_Run)) (x46 : (List Int)) (x49 : Int) : Option (((List Int) × Int) ⊕ ((List Int) × Int)) :=
 if decide (x49 < (r36.length : Int)) then
  (idx r36 x49).bind fun x61 =>
  (app 140737488355328 x46 ([IntKind.u8.wrap x61.fMany])).bind fun z76 =>
  (idx r36 x49).bind fun x86 =>
  (r3_One x86.fValue).bind fun r95 =>
  (app 140737488355328 z76 r95).bind fun z101 =>
  some (.inl (z101, IntKind.i64.wrap (x49 + 1)))
 else
  (r6_Encode_j2 x46).map Sum.inr
def r6_Encode_b2 (p1 : (List Ap)) (x147 : (List Int)) (x150 : Int) : Option (((List Int) × Int) ⊕ ((List Int) × Int)) :=
 if decide (x150 < (p1.length : Int)) then
  (idx p1 x150).bind fun x162 =>
  (r3_One x162).bind fun r168 =>
  (app 140737488355328 x147 r168).bind fun z174 =>
  some (.inl (z174, IntKind.i64.wrap (x150 + 1)))
 else
  (r6_Encode_j2 x147).map Sum.inr
def r6_Encode_j1 (p0 : Int) (p1 : (List Ap)) (r5 : Int) (x15 : Bool) : Option ((List Int) × Int) :=
 if x15 then
  some ([], r5)
 else
  if p0 == 1 then
   (r6_Runs p1).bind fun r36 =>
   loopO (fun s : ((List Int) × Int) => r6_Encode_b1 r36 s.1 s.2) ([], 0)
  else
   if p0 == 2 then
    (r6_delta p1).bind fun r115 =>
    r6_Encode_j2 r115
   else
    if p0 == 3 then
     (r6_dict p1).bind fun r126 =>
     r6_Encode_j2 r126
    else
     if p0 == 4 then
      (r6_small p1).bind fun r137 =>
      r6_Encode_j2 r137
     else
      loopO (fun s : ((List Int) × Int) => r6_Encode_b2 p1 s.1 s.2) ([], 0)
def r6_Encode (p0 : Int) (p1 : (List Ap)) : Option ((List Int) × Int) :=
 (r6_refused p0 p1).bind fun r5 =>
 if r5 != 0 then
  r6_Encode_j1 p0 p1 r5 true
 else
  r6_Encode_j1 p0 p1 r5 ((p1.length : Int) == 0)
def r7_facts_j1 (x73 : R7_Info) : Option R7_Info :=
 some x73
def r7_facts_j4 (x84 : Int) (x215 : R7_Info) : Option ((Int × R7_Info) ⊕ R7_Info) :=
 some (.inl (IntKind.i64.wrap (x84 + 1), x215))
def r7_facts_j3 (p1 : (List Ap)) (x84 : Int) (x196 : R7_Info) : Option ((Int × R7_Info) ⊕ R7_Info) :=
 (idx p1 x84).bind fun x202 =>
 if x202.fKind == 0 then
  r7_facts_j4 x84 ({ x196 with fNulls := IntKind.i64.wrap (x196.fNulls + 1) })
 else
  r7_facts_j4 x84 x196
def r7_facts_j2 (p1 : (List Ap)) (x84 : Int) (x144 : R7_Info) : Option ((Int × R7_Info) ⊕ R7_Info) :=
 (idx p1 x84).bind fun x148 =>
 (r2_Compare x148 x144.fMax).bind fun r186 =>
 if decide (0 < r186) then
  (idx p1 x84).bind fun x235 =>
  r7_facts_j3 p1 x84 ({ x144 with fMax := x235 })
 else
  r7_facts_j3 p1 x84 x144
def r7_facts_b1 (p1 : (List Ap)) (x84 : Int) (x86 : R7_Info) : Option ((Int × R7_Info) ⊕ R7_Info) :=
 if decide (x84 < (p1.length : Int)) then
  (idx p1 x84).bind fun x96 =>
  (r2_Compare x96 x86.fMin).bind fun r134 =>
  if decide (r134 < 0) then
   (idx p1 x84).bind fun x248 =>
   r7_facts_j2 p1 x84 ({ x86 with fMin := x248 })
  else
   r7_facts_j2 p1 x84 x86
 else
  (r7_facts_j1 x86).map Sum.inr
def r7_facts (p0 : Int) (p1 : (List Ap)) : Option R7_Info :=
 (idx p1 0).bind fun x3 =>
 (idx p1 0).bind fun x7 =>
 loopO (fun s : (Int × R7_Info) => r7_facts_b1 p1 s.1 s.2) (0, (⟨p0, (p1.length : Int), x3, x7, 0, 0⟩ : R7_Info))
def r1_Sum_j1 (x6 : Int) : Option Int :=
 some (bXor .u32 x6 4294967295)
def r1_Sum_j2 (x16 : Int) (x27 : Int) : Option ((Int × Int) ⊕ Int) :=
 some (.inl (x27, IntKind.i64.wrap (x16 + 1)))
def r1_Sum_j3 (x51 : Int) (x63 : Int) : Option ((Int × Int) ⊕ ((Int × Int) ⊕ Int)) :=
 some (.inl (x63, IntKind.i64.wrap (x51 + 1)))
def r1_Sum_b2 (x16 : Int) (x49 : Int) (x51 : Int) : Option ((Int × Int) ⊕ ((Int × Int) ⊕ Int)) :=
 if decide (x51 < 8) then
  if (x49.tmod 2) == 1 then
   r1_Sum_j3 x51 (bXor .u32 (IntKind.u32.wrap (x49.tdiv 2)) 3988292384)
  else
   r1_Sum_j3 x51 (IntKind.u32.wrap (x49.tdiv 2))
 else
  (r1_Sum_j2 x16 x49).map Sum.inr
def r1_Sum_b1 (p0 : (List Int)) (x14 : Int) (x16 : Int) : Option ((Int × Int) ⊕ Int) :=
 if decide (x16 < (p0.length : Int)) then
  (idx p0 x16).bind fun x36 =>
  loopO (fun s : (Int × Int) => r1_Sum_b2 x16 s.1 s.2) (bXor .u32 x14 (IntKind.u32.wrap x36), 0)
 else
  (r1_Sum_j1 x14).map Sum.inr
def r1_Sum (p0 : (List Int)) : Option Int :=
 loopO (fun s : (Int × Int) => r1_Sum_b1 p0 s.1 s.2) (4294967295, 0)
def rows_number_j1 (x6 : Int) : Option Int :=
 some x6
def rows_number_b1 (p0 : (List Int)) (x13 : Int) (x15 : Int) : Option ((Int × Int) ⊕ Int) :=
 if decide (x15 < 8) then
  (idx p0 x15).bind fun x27 =>
  some (.inl (bOr .u64 (iShl .u64 x13 8) (IntKind.u64.wrap x27), IntKind.i64.wrap (x15 + 1)))
 else
  (rows_number_j1 x13).map Sum.inr
def rows_number (p0 : (List Int)) : Option Int :=
 loopO (fun s : (Int × Int) => rows_number_b1 p0 s.1 s.2) (0, 0)
def rows_read_j3 (x21 : (List Int)) (x205 : Bool) : Option (Ap × (List Int) × Bool) :=
 if x205 then
  (idx x21 0).bind fun x208 =>
  (sub x21 1 (IntKind.u8.wrap (1 + x208))).bind fun x213 =>
  (value_Text x213).bind fun r216 =>
  (idx x21 0).bind fun x221 =>
  (sub x21 (IntKind.u8.wrap (1 + x221)) x21.length).bind fun x226 =>
  some (r216, x226, true)
 else
  some ((⟨0, false, 0, []⟩ : Ap), [], false)
def rows_read_j2 (x16 : Int) (x21 : (List Int)) (x145 : Bool) : Option (Ap × (List Int) × Bool) :=
 if x145 then
  (rows_number x21).bind fun r148 =>
  (value_Int (IntKind.i64.wrap r148)).bind fun r154 =>
  (sub x21 8 x21.length).bind fun x159 =>
  some (r154, x159, true)
 else
  if (IntKind.i64.wrap x16) == 3 then
   if decide (1 ≤ (x21.length : Int)) then
    (idx x21 0).bind fun x325 =>
    if decide (x325 ≤ 64) then
     (idx x21 0).bind fun x339 =>
     rows_read_j3 x21 (decide ((IntKind.i64.wrap x339) < (x21.length : Int)))
    else
     rows_read_j3 x21 false
   else
    rows_read_j3 x21 false
  else
   rows_read_j3 x21 false
def rows_read_j1 (x16 : Int) (x21 : (List Int)) (x83 : Bool) : Option (Ap × (List Int) × Bool) :=
 if x83 then
  (idx x21 0).bind fun x86 =>
  (value_Bool (x86 == 1)).bind fun r91 =>
  (sub x21 1 x21.length).bind fun x96 =>
  some (r91, x96, true)
 else
  if (IntKind.i64.wrap x16) == 2 then
   rows_read_j2 x16 x21 (decide (8 ≤ (x21.length : Int)))
  else
   rows_read_j2 x16 x21 false
def rows_read (p0 : (List Int)) : Option (Ap × (List Int) × Bool) :=
 if (p0.length : Int) == 0 then
  some ((⟨0, false, 0, []⟩ : Ap), [], false)
 else
  (idx p0 0).bind fun x16 =>
  (sub p0 1 p0.length).bind fun x21 =>
  if (IntKind.i64.wrap x16) == 0 then
   (value_Null).bind fun r69 =>
   some (r69, x21, true)
  else
   if (IntKind.i64.wrap x16) == 1 then
    if decide (1 ≤ (x21.length : Int)) then
     (idx x21 0).bind fun x384 =>
     rows_read_j1 x16 x21 (decide (x384 ≤ 1))
    else
     rows_read_j1 x16 x21 false
   else
    rows_read_j1 x16 x21 false
def rows_Decode_j2 (x64 : (List Int)) (x67 : (List Ap)) : Option ((List Ap) × Int) :=
 if decide (0 < (x64.length : Int)) then
  some ([], 30)
 else
  some (x67, 0)
def rows_Decode_b1 (x11 : Int) (x82 : (List Int)) (x85 : (List Ap)) (x88 : Int) : Option (((List Int) × (List Ap) × Int) ⊕ ((List Ap) × Int)) :=
 if decide (x88 < (IntKind.i64.wrap x11)) then
  (rows_read x82).bind fun r95 =>
  if !r95.2.2 then
   (some ([], 30)).map Sum.inr
  else
   (app 3518437208883 x85 ([r95.1])).bind fun z129 =>
   some (.inl (r95.2.1, z129, IntKind.i64.wrap (x88 + 1)))
 else
  (rows_Decode_j2 x82 x85).map Sum.inr
def rows_Decode_j1 (p0 : (List Int)) (x5 : Bool) : Option ((List Ap) × Int) :=
 if x5 then
  some ([], 30)
 else
  (idx p0 0).bind fun x11 =>
  (sub p0 1 p0.length).bind fun x16 =>
  loopO (fun s : ((List Int) × (List Ap) × Int) => rows_Decode_b1 x11 s.1 s.2.1 s.2.2) (x16, [], 0)
def rows_Decode (p0 : (List Int)) : Option ((List Ap) × Int) :=
 if (p0.length : Int) == 0 then
  rows_Decode_j1 p0 true
 else
  (idx p0 0).bind fun x147 =>
  rows_Decode_j1 p0 (decide (16 < x147))
def block_front_j1  : Option (Ap × (List Int) × Bool) :=
 some ((⟨0, false, 0, []⟩ : Ap), [], false)
def block_front_j2 (p0 : (List Int)) (x18 : Int) (x24 : Bool) : Option (Int ⊕ (Ap × (List Int) × Bool)) :=
 if x24 then
  (sub p0 0 x18).bind fun x33 =>
  (app 140737488355328 ([1]) x33).bind fun z37 =>
  (rows_Decode z37).bind fun r43 =>
  if r43.2 == 0 then
   (idx r43.1 0).bind fun x61 =>
   (sub p0 x18 p0.length).bind fun x65 =>
   (some (x61, x65, true)).map Sum.inr
  else
   some (.inl (IntKind.i64.wrap (x18 + 1)))
 else
  (block_front_j1).map Sum.inr
def block_front_b1 (p0 : (List Int)) (x18 : Int) : Option (Int ⊕ (Ap × (List Int) × Bool)) :=
 if decide (x18 ≤ (p0.length : Int)) then
  block_front_j2 p0 x18 (decide (x18 ≤ 66))
 else
  block_front_j2 p0 x18 false
def block_front (p0 : (List Int)) : Option (Ap × (List Int) × Bool) :=
 loopO (fun s : Int => block_front_b1 p0 s) 1
def block_read_j2 (p0 : (List Int)) (x17 : Int) (x22 : Int) (x27 : Int) (r118 : (Ap × (List Int) × Bool)) (r140 : (Ap × (List Int) × Bool)) (x163 : Bool) : Option (Block_Info × (List Int) × Bool) :=
 if x163 then
  some ((⟨0, 0, Ap.zero, Ap.zero, 0, 0⟩ : Block_Info), [], false)
 else
  (idx r140.2.1 0).bind fun x173 =>
  (idx r140.2.1 1).bind fun x178 =>
  (sub r140.2.1 2 r140.2.1.length).bind fun x237 =>
  if decide ((x237.length : Int) < (IntKind.i64.wrap ((bOr .i64 (iShl .i64 (IntKind.i64.wrap x173) 8) (IntKind.i64.wrap x178)) + 4))) then
   some ((⟨0, 0, Ap.zero, Ap.zero, 0, 0⟩ : Block_Info), [], false)
  else
   (sub x237 0 (bOr .i64 (iShl .i64 (IntKind.i64.wrap x173) 8) (IntKind.i64.wrap x178))).bind fun x268 =>
   some ({ { { (⟨IntKind.i64.wrap x17, IntKind.i64.wrap x22, Ap.zero, Ap.zero, IntKind.i64.wrap x27, 0⟩ : Block_Info) with fMin := r118.1 } with fMax := r140.1 } with fBytes := IntKind.i64.wrap ((IntKind.i64.wrap ((IntKind.i64.wrap ((p0.length : Int) - (x237.length : Int))) + (bOr .i64 (iShl .i64 (IntKind.i64.wrap x173) 8) (IntKind.i64.wrap x178)))) + 4) }, x268, true)
def block_read_j1 (p0 : (List Int)) (x7 : Bool) : Option (Block_Info × (List Int) × Bool) :=
 if x7 then
  some ((⟨0, 0, Ap.zero, Ap.zero, 0, 0⟩ : Block_Info), [], false)
 else
  (idx p0 0).bind fun x17 =>
  (idx p0 1).bind fun x22 =>
  (idx p0 2).bind fun x27 =>
  (sub p0 3 p0.length).bind fun x114 =>
  (block_front x114).bind fun r118 =>
  (block_front r118.2.1).bind fun r140 =>
  if !r118.2.2 then
   block_read_j2 p0 x17 x22 x27 r118 r140 true
  else
   if !r140.2.2 then
    block_read_j2 p0 x17 x22 x27 r118 r140 true
   else
    block_read_j2 p0 x17 x22 x27 r118 r140 (decide ((r140.2.1.length : Int) < 2))
def block_read (p0 : (List Int)) : Option (Block_Info × (List Int) × Bool) :=
 if decide ((p0.length : Int) < 3) then
  block_read_j1 p0 true
 else
  (idx p0 0).bind fun x385 =>
  if decide (4 < x385) then
   block_read_j1 p0 true
  else
   (idx p0 1).bind fun x471 =>
   if x471 == 0 then
    block_read_j1 p0 true
   else
    (idx p0 1).bind fun x572 =>
    if decide (64 < x572) then
     block_read_j1 p0 true
    else
     (idx p0 2).bind fun x688 =>
     (idx p0 1).bind fun x693 =>
     block_read_j1 p0 (decide (x693 < x688))
def block_Head (p0 : (List Int)) : Option (Block_Info × Int) :=
 (block_read p0).bind fun r5 =>
 if !r5.2.2 then
  some ((⟨0, 0, Ap.zero, Ap.zero, 0, 0⟩ : Block_Info), 70)
 else
  some (r5.1, 0)
def slices_Clone_byte (p0 : (List Int)) : Option (List Int) :=
 (app 140737488355328 ([]) p0).bind fun z13 =>
 some z13
def slices_Equal_byte_j1  : Option Bool :=
 some true
def slices_Equal_byte_b1 (p0 : (List Int)) (p1 : (List Int)) (x18 : Int) : Option (Int ⊕ Bool) :=
 if decide (x18 < (p0.length : Int)) then
  (idx p0 x18).bind fun x26 =>
  (idx p1 x18).bind fun x31 =>
  if x26 != x31 then
   (some false).map Sum.inr
  else
   some (.inl (IntKind.i64.wrap (x18 + 1)))
 else
  (slices_Equal_byte_j1).map Sum.inr
def slices_Equal_byte (p0 : (List Int)) (p1 : (List Int)) : Option Bool :=
 if (p0.length : Int) != (p1.length : Int) then
  some false
 else
  loopO (fun s : Int => slices_Equal_byte_b1 p0 p1 s) 0
def encode_reader_value_j1 (p0 : Encode_reader) : Option (Ap × Encode_reader) :=
 some ((⟨0, false, 0, []⟩ : Ap), { p0 with fOk := false })
def encode_reader_value_j2 (p0 : Encode_reader) (x20 : Int) (x26 : Bool) : Option (Int ⊕ (Ap × Encode_reader)) :=
 if x26 then
  (sub p0.fB 0 x20).bind fun x39 =>
  (app 140737488355328 ([1]) x39).bind fun z43 =>
  (rows_Decode z43).bind fun r49 =>
  if r49.2 == 0 then
   (sub p0.fB x20 p0.fB.length).bind fun x74 =>
   (idx r49.1 0).bind fun x84 =>
   (some (x84, { p0 with fB := x74 })).map Sum.inr
  else
   some (.inl (IntKind.i64.wrap (x20 + 1)))
 else
  (encode_reader_value_j1 p0).map Sum.inr
def encode_reader_value_b1 (p0 : Encode_reader) (x20 : Int) : Option (Int ⊕ (Ap × Encode_reader)) :=
 if decide (x20 ≤ (p0.fB.length : Int)) then
  encode_reader_value_j2 p0 x20 (decide (x20 ≤ 66))
 else
  encode_reader_value_j2 p0 x20 false
def encode_reader_value (p0 : Encode_reader) : Option (Ap × Encode_reader) :=
 loopO (fun s : Int => encode_reader_value_b1 p0 s) 1
def encode_reader_take (p0 : Encode_reader) (p1 : Int) : Option ((List Int) × Encode_reader) :=
 if decide ((p0.fB.length : Int) < p1) then
  (mk 281474976710656 p1 0).bind fun z24 =>
  some (z24, { { p0 with fB := [] } with fOk := false })
 else
  (mk 281474976710656 p1 0).bind fun z35 =>
  (sub p0.fB p1 p0.fB.length).bind fun x61 =>
  some ((cpy z35 p0.fB), { p0 with fB := x61 })
def bits_Mul32 (p0 : Int) (p1 : Int) : Option (Int × Int) :=
 some (IntKind.u32.wrap (iShr .u64 (IntKind.u64.wrap ((IntKind.u64.wrap p0) * (IntKind.u64.wrap p1))) 32), IntKind.u32.wrap (IntKind.u64.wrap ((IntKind.u64.wrap p0) * (IntKind.u64.wrap p1))))
def bits_Mul64 (p0 : Int) (p1 : Int) : Option (Int × Int) :=
 some (IntKind.u64.wrap ((IntKind.u64.wrap ((IntKind.u64.wrap ((iShr .u64 p0 32) * (iShr .u64 p1 32))) + (iShr .u64 (IntKind.u64.wrap ((IntKind.u64.wrap ((iShr .u64 p0 32) * (bAnd .u64 p1 4294967295))) + (iShr .u64 (IntKind.u64.wrap ((bAnd .u64 p0 4294967295) * (bAnd .u64 p1 4294967295))) 32))) 32))) + (iShr .u64 (IntKind.u64.wrap ((bAnd .u64 (IntKind.u64.wrap ((IntKind.u64.wrap ((iShr .u64 p0 32) * (bAnd .u64 p1 4294967295))) + (iShr .u64 (IntKind.u64.wrap ((bAnd .u64 p0 4294967295) * (bAnd .u64 p1 4294967295))) 32))) 4294967295) + (IntKind.u64.wrap ((bAnd .u64 p0 4294967295) * (iShr .u64 p1 32))))) 32)), IntKind.u64.wrap (p0 * p1))
def bits_Mul (p0 : Int) (p1 : Int) : Option (Int × Int) :=
 (bits_Mul64 p0 p1).bind fun r5 =>
 some (r5.1, r5.2)
def slices_Repeat_Value_j4 (x52 : (List Ap)) : Option (List Ap) :=
 some x52
def slices_Repeat_Value_b1 (x60 : Int) (x62 : (List Ap)) : Option ((Int × (List Ap)) ⊕ (List Ap)) :=
 if decide (x60 < (x62.length : Int)) then
  (vw x62 x60 x62.length).bind fun q73 =>
  (vw x62 0 x60).bind fun q76 =>
  (chk (Nat.ble (min q76.2 q73.2) maxSz)).bind fun u82 =>
  (cpv x62 q73 q76).bind fun z80 =>
  some (.inl (IntKind.i64.wrap (x60 + ((min q76.2 q73.2 : Nat) : Int)), z80))
 else
  (slices_Repeat_Value_j4 x62).map Sum.inr
def slices_Repeat_Value_j3 (p0 : (List Ap)) (r12 : (Int × Int)) : Option (List Ap) :=
 (mk 7036874417766 (IntKind.i64.wrap r12.2) Ap.zero).bind fun z37 =>
 loopO (fun s : (Int × (List Ap)) => slices_Repeat_Value_b1 s.1 s.2) (((min p0.length z37.length : Nat) : Int), (cpy z37 p0))
def slices_Repeat_Value_j2 (p0 : (List Ap)) (r12 : (Int × Int)) (x30 : Bool) : Option (List Ap) :=
 if x30 then
  none
 else
  slices_Repeat_Value_j3 p0 r12
def slices_Repeat_Value_j1 (p0 : (List Ap)) (p1 : Int) : Option (List Ap) :=
 (bits_Mul (IntKind.u64.wrap (p0.length : Int)) (IntKind.u64.wrap p1)).bind fun r12 =>
 if decide (0 < r12.1) then
  slices_Repeat_Value_j2 p0 r12 true
 else
  slices_Repeat_Value_j2 p0 r12 (decide (9223372036854775807 < r12.2))
def slices_Repeat_Value (p0 : (List Ap)) (p1 : Int) : Option (List Ap) :=
 if decide (p1 < 0) then
  none
 else
  slices_Repeat_Value_j1 p0 p1
def encode_reader_number_j1 (r4 : ((List Int) × Encode_reader)) (x16 : Int) : Option (Int × Encode_reader) :=
 some (x16, r4.2)
def encode_reader_number_b1 (r4 : ((List Int) × Encode_reader)) (x23 : Int) (x25 : Int) : Option ((Int × Int) ⊕ (Int × Encode_reader)) :=
 if decide (x25 < (r4.1.length : Int)) then
  (idx r4.1 x25).bind fun x31 =>
  some (.inl (bOr .u64 (iShl .u64 x23 8) (IntKind.u64.wrap x31), IntKind.i64.wrap (x25 + 1)))
 else
  (encode_reader_number_j1 r4 x23).map Sum.inr
def encode_reader_number (p0 : Encode_reader) : Option (Int × Encode_reader) :=
 (encode_reader_take p0 8).bind fun r4 =>
 loopO (fun s : (Int × Int) => encode_reader_number_b1 r4 s.1 s.2) (0, 0)
def encode_reader_short_j1 (x6 : Encode_reader) : Option (Int × Encode_reader) :=
 some (0, { x6 with fOk := false })
def encode_reader_short_j2 (x19 : Int) (x21 : Int) (x23 : Encode_reader) (x30 : Bool) : Option ((Int × Int × Encode_reader) ⊕ (Int × Encode_reader)) :=
 if x30 then
  (encode_reader_take x23 1).bind fun r34 =>
  (idx r34.1 0).bind fun x42 =>
  (chk (decide (0 ≤ x21))).bind fun u55 =>
  if decide (x42 < 128) then
   (some (bOr .u64 x19 (iShl .u64 (IntKind.u64.wrap (bAnd .u8 x42 127)) x21), r34.2)).map Sum.inr
  else
   some (.inl (bOr .u64 x19 (iShl .u64 (IntKind.u64.wrap (bAnd .u8 x42 127)) x21), IntKind.i64.wrap (x21 + 7), r34.2))
 else
  (encode_reader_short_j1 x23).map Sum.inr
def encode_reader_short_b1 (x19 : Int) (x21 : Int) (x23 : Encode_reader) : Option ((Int × Int × Encode_reader) ⊕ (Int × Encode_reader)) :=
 if decide (x21 < 70) then
  encode_reader_short_j2 x19 x21 x23 x23.fOk
 else
  encode_reader_short_j2 x19 x21 x23 false
def encode_reader_short (p0 : Encode_reader) : Option (Int × Encode_reader) :=
 loopO (fun s : (Int × Int × Encode_reader) => encode_reader_short_b1 s.1 s.2.1 s.2.2) (0, 0, p0)
def encode_reader_unpacked_j1 (r28 : ((List Int) × Encode_reader)) (x50 : (List Int)) : Option ((List Int) × Encode_reader) :=
 some (x50, r28.2)
def encode_reader_unpacked_j2 (x58 : Int) (x69 : (List Int)) : Option ((Int × (List Int)) ⊕ ((List Int) × Encode_reader)) :=
 some (.inl (IntKind.i64.wrap (x58 + 1), x69))
def encode_reader_unpacked_b2 (p2 : Int) (r28 : ((List Int) × Encode_reader)) (x58 : Int) (x81 : Int) (x83 : (List Int)) : Option ((Int × (List Int)) ⊕ ((Int × (List Int)) ⊕ ((List Int) × Encode_reader))) :=
 if decide (x81 < p2) then
  (ix x83 x58).bind fun j98 =>
  (x83[j98]?).bind fun x101 =>
  (idx r28.1 (IntKind.i64.wrap ((IntKind.i64.wrap ((IntKind.i64.wrap (x58 * p2)) + x81)).tdiv 8))).bind fun x104 =>
  (chk (decide (0 ≤ ((IntKind.i64.wrap ((IntKind.i64.wrap (x58 * p2)) + x81)).tmod 8)))).bind fun u109 =>
  (chk (decide (0 ≤ x81))).bind fun u111 =>
  (ix x83 x58).bind fun j207 =>
  (x83[j207]?).bind fun x212 =>
  some (.inl (IntKind.i64.wrap (x81 + 1), (x83.set j207 (bOr .u64 x101 (iShl .u64 (IntKind.u64.wrap (bAnd .u8 (iShr .u8 x104 ((IntKind.i64.wrap ((IntKind.i64.wrap (x58 * p2)) + x81)).tmod 8)) 1)) x81)))))
 else
  (encode_reader_unpacked_j2 x58 x83).map Sum.inr
def encode_reader_unpacked_b1 (p2 : Int) (r28 : ((List Int) × Encode_reader)) (z38 : (List Int)) (x58 : Int) (x60 : (List Int)) : Option ((Int × (List Int)) ⊕ ((List Int) × Encode_reader)) :=
 if decide (x58 < (z38.length : Int)) then
  loopO (fun s : (Int × (List Int)) => encode_reader_unpacked_b2 p2 r28 x58 s.1 s.2) (0, x60)
 else
  (encode_reader_unpacked_j1 r28 x60).map Sum.inr
def encode_reader_unpacked (p0 : Encode_reader) (p1 : Int) (p2 : Int) : Option ((List Int) × Encode_reader) :=
 if decide (64 < p2) then
  (mk 35184372088832 p1 0).bind fun z12 =>
  some (z12, { p0 with fOk := false })
 else
  (encode_reader_take p0 (IntKind.i64.wrap ((IntKind.i64.wrap ((IntKind.i64.wrap (p1 * p2)) + 7)).tdiv 8))).bind fun r28 =>
  (mk 35184372088832 p1 0).bind fun z38 =>
  loopO (fun s : (Int × (List Int)) => encode_reader_unpacked_b1 p2 r28 z38 s.1 s.2) (0, z38)
def encode_reader_guess_j1 (x6 : (List Ap)) (x9 : Encode_reader) : Option ((List Ap) × Encode_reader) :=
 some (x6, x9)
def encode_reader_guess_j2 (x20 : (List Ap)) (x23 : Encode_reader) (x30 : Bool) : Option (((List Ap) × Encode_reader) ⊕ ((List Ap) × Encode_reader)) :=
 if x30 then
  (encode_reader_value x23).bind fun r35 =>
  (app 3518437208883 x20 ([r35.1])).bind fun z47 =>
  some (.inl (z47, r35.2))
 else
  (encode_reader_guess_j1 x20 x23).map Sum.inr
def encode_reader_guess_b1 (p2 : Int) (x20 : (List Ap)) (x23 : Encode_reader) : Option (((List Ap) × Encode_reader) ⊕ ((List Ap) × Encode_reader)) :=
 if decide ((x20.length : Int) < p2) then
  encode_reader_guess_j2 x20 x23 x23.fOk
 else
  encode_reader_guess_j2 x20 x23 false
def encode_reader_guess_j3 (p2 : Int) (x72 : (List Ap)) (x75 : Encode_reader) (x82 : Bool) : Option (((List Ap) × Encode_reader) ⊕ ((List Ap) × Encode_reader)) :=
 if x82 then
  (encode_reader_take x75 1).bind fun r86 =>
  (idx r86.1 0).bind fun x94 =>
  (encode_reader_value r86.2).bind fun r110 =>
  (slices_Repeat_Value ([r110.1]) (if (IntKind.i64.wrap (p2 - (x72.length : Int))) < (IntKind.i64.wrap x94) then IntKind.i64.wrap (p2 - (x72.length : Int)) else IntKind.i64.wrap x94)).bind fun r123 =>
  (app 3518437208883 x72 r123).bind fun z129 =>
  some (.inl (z129, r110.2))
 else
  (encode_reader_guess_j1 x72 x75).map Sum.inr
def encode_reader_guess_b2 (p2 : Int) (x72 : (List Ap)) (x75 : Encode_reader) : Option (((List Ap) × Encode_reader) ⊕ ((List Ap) × Encode_reader)) :=
 if decide ((x72.length : Int) < p2) then
  encode_reader_guess_j3 p2 x72 x75 x75.fOk
 else
  encode_reader_guess_j3 p2 x72 x75 false
def encode_reader_guess_j4 (x185 : (List Ap)) (x188 : Int) (x190 : Encode_reader) (x197 : Bool) : Option (((List Ap) × Int × Encode_reader) ⊕ ((List Ap) × Encode_reader)) :=
 if x197 then
  (encode_reader_short x190).bind fun r201 =>
  (value_Int (IntKind.i64.wrap (x188 + (bXor .i64 (IntKind.i64.wrap (iShr .u64 r201.1 1)) (IntKind.i64.wrap (0 - (IntKind.i64.wrap (bAnd .u64 r201.1 1)))))))).bind fun r224 =>
  (app 3518437208883 x185 ([r224])).bind fun z234 =>
  some (.inl (z234, IntKind.i64.wrap (x188 + (bXor .i64 (IntKind.i64.wrap (iShr .u64 r201.1 1)) (IntKind.i64.wrap (0 - (IntKind.i64.wrap (bAnd .u64 r201.1 1)))))), r201.2))
 else
  (encode_reader_guess_j1 x185 x190).map Sum.inr
def encode_reader_guess_b3 (p2 : Int) (x185 : (List Ap)) (x188 : Int) (x190 : Encode_reader) : Option (((List Ap) × Int × Encode_reader) ⊕ ((List Ap) × Encode_reader)) :=
 if decide ((x185.length : Int) < p2) then
  encode_reader_guess_j4 x185 x188 x190 x190.fOk
 else
  encode_reader_guess_j4 x185 x188 x190 false
def encode_reader_guess_b4 (x277 : (List Ap)) (r298 : ((List Int) × Encode_reader)) (x310 : (List Ap)) (x313 : Int) : Option (((List Ap) × Int) ⊕ ((List Ap) × Encode_reader)) :=
 if decide (x313 < (r298.1.length : Int)) then
  (idx r298.1 x313).bind fun x319 =>
  if decide ((IntKind.u64.wrap (x277.length : Int)) ≤ x319) then
   (some ([], r298.2)).map Sum.inr
  else
   (idx x277 x319).bind fun x337 =>
   (app 3518437208883 x310 ([x337])).bind fun z347 =>
   some (.inl (z347, IntKind.i64.wrap (x313 + 1)))
 else
  (encode_reader_guess_j1 x310 r298.2).map Sum.inr
def encode_reader_guess_j5 (p2 : Int) (x277 : (List Ap)) (x280 : Encode_reader) : Option ((List Ap) × Encode_reader) :=
 (bits_Len (IntKind.u64.wrap (IntKind.i64.wrap ((if (x277.length : Int) < 1 then 1 else (x277.length : Int)) - 1)))).bind fun r291 =>
 (encode_reader_unpacked x280 p2 r291).bind fun r298 =>
 loopO (fun s : ((List Ap) × Int) => encode_reader_guess_b4 x277 r298 s.1 s.2) ([], 0)
def encode_reader_guess_b5 (p2 : Int) (x267 : Int) (x358 : (List Ap)) (x361 : Int) (x363 : Encode_reader) : Option (((List Ap) × Int × Encode_reader) ⊕ ((List Ap) × Encode_reader)) :=
 if decide (x361 < x267) then
  (encode_reader_value x363).bind fun r372 =>
  (app 3518437208883 x358 ([r372.1])).bind fun z384 =>
  some (.inl (z384, IntKind.u8.wrap (x361 + 1), r372.2))
 else
  (encode_reader_guess_j5 p2 x358 x363).map Sum.inr
def encode_reader_guess_b6 (r394 : (Int × Encode_reader)) (r423 : ((List Int) × Encode_reader)) (x435 : (List Ap)) (x438 : Int) : Option (((List Ap) × Int) ⊕ ((List Ap) × Encode_reader)) :=
 if decide (x438 < (r423.1.length : Int)) then
  (idx r423.1 x438).bind fun x444 =>
  (value_Int (IntKind.i64.wrap (IntKind.u64.wrap (r394.1 + x444)))).bind fun r457 =>
  (app 3518437208883 x435 ([r457])).bind fun z467 =>
  some (.inl (z467, IntKind.i64.wrap (x438 + 1)))
 else
  (encode_reader_guess_j1 x435 r423.2).map Sum.inr
def encode_reader_guess (p0 : Encode_reader) (p1 : Int) (p2 : Int) : Option ((List Ap) × Encode_reader) :=
 if p1 == 0 then
  loopO (fun s : ((List Ap) × Encode_reader) => encode_reader_guess_b1 p2 s.1 s.2) ([], p0)
 else
  if p1 == 1 then
   loopO (fun s : ((List Ap) × Encode_reader) => encode_reader_guess_b2 p2 s.1 s.2) ([], p0)
  else
   if p1 == 2 then
    (encode_reader_number p0).bind fun r153 =>
    (value_Int (IntKind.i64.wrap r153.1)).bind fun r166 =>
    (app 3518437208883 ([]) ([r166])).bind fun z176 =>
    loopO (fun s : ((List Ap) × Int × Encode_reader) => encode_reader_guess_b3 p2 s.1 s.2.1 s.2.2) (z176, IntKind.i64.wrap r153.1, r153.2)
   else
    if p1 == 3 then
     (encode_reader_take p0 1).bind fun r259 =>
     (idx r259.1 0).bind fun x267 =>
     loopO (fun s : ((List Ap) × Int × Encode_reader) => encode_reader_guess_b5 p2 x267 s.1 s.2.1 s.2.2) ([], 0, r259.2)
    else
     (encode_reader_number p0).bind fun r394 =>
     (encode_reader_take r394.2 1).bind fun r407 =>
     (idx r407.1 0).bind fun x415 =>
     (encode_reader_unpacked r407.2 p2 (IntKind.i64.wrap x415)).bind fun r423 =>
     loopO (fun s : ((List Ap) × Int) => encode_reader_guess_b6 r394 r423 s.1 s.2) ([], 0)
def encode_Decode_j4 (x30 : (List Ap)) (x56 : Bool) : Option ((List Ap) × Int) :=
 if x56 then
  some ([], 60)
 else
  some (x30, 0)
def encode_Decode_j3 (p0 : Int) (p1 : (List Int)) (p2 : Int) (x30 : (List Ap)) (x33 : Encode_reader) : Option ((List Ap) × Int) :=
 (encode_Encode p0 x30).bind fun r39 =>
 if !x33.fOk then
  encode_Decode_j4 x30 true
 else
  if r39.2 != 0 then
   encode_Decode_j4 x30 true
  else
   if (x30.length : Int) != p2 then
    encode_Decode_j4 x30 true
   else
    (slices_Equal_byte r39.1 p1).bind fun r95 =>
    encode_Decode_j4 x30 (!r95)
def encode_Decode_j2 (p0 : Int) (p1 : (List Int)) (p2 : Int) (x12 : Bool) : Option ((List Ap) × Int) :=
 if x12 then
  some ([], 61)
 else
  if decide (0 < p2) then
   (encode_reader_guess (⟨p1, true⟩ : Encode_reader) p0 p2).bind fun r107 =>
   encode_Decode_j3 p0 p1 p2 r107.1 r107.2
  else
   encode_Decode_j3 p0 p1 p2 ([]) (⟨p1, true⟩ : Encode_reader)
def encode_Decode_j1 (p0 : Int) (p1 : (List Int)) (p2 : Int) (x5 : Bool) : Option ((List Ap) × Int) :=
 if x5 then
  some ([], 62)
 else
  if decide (p2 < 0) then
   encode_Decode_j2 p0 p1 p2 true
  else
   encode_Decode_j2 p0 p1 p2 (decide (64 < p2))
def encode_Decode (p0 : Int) (p1 : (List Int)) (p2 : Int) : Option ((List Ap) × Int) :=
 if decide (p0 < 0) then
  encode_Decode_j1 p0 p1 p2 true
 else
  encode_Decode_j1 p0 p1 p2 (decide (4 < p0))
def block_Read_j1 (r5 : (Block_Info × (List Int) × Bool)) (r120 : ((List Ap) × Int)) (x159 : Bool) : Option ((List Ap) × Int × Int) :=
 if x159 then
  some ([], 0, 70)
 else
  some (r120.1, r5.1.fBytes, 0)
def block_Read (p0 : (List Int)) : Option ((List Ap) × Int × Int) :=
 (block_read p0).bind fun r5 =>
 if !r5.2.2 then
  some ([], 0, 70)
 else
  (sub p0 0 (IntKind.i64.wrap (r5.1.fBytes - 4))).bind fun x39 =>
  (slices_Clone_byte x39).bind fun r43 =>
  (block_sealed r43).bind fun r50 =>
  (sub p0 0 r5.1.fBytes).bind fun x58 =>
  (slices_Equal_byte r50 x58).bind fun r100 =>
  if !r100 then
   some ([], 0, 71)
  else
   (encode_Decode r5.1.fKind r5.2.1 r5.1.fMany).bind fun r120 =>
   if r120.2 != 0 then
    some ([], 0, 70)
   else
    (block_head r5.1.fKind r120.1).bind fun r146 =>
    if r146.fNulls != r5.1.fNulls then
     block_Read_j1 r5 r120 true
    else
     if !decide (r146.fMin = r5.1.fMin) then
      block_Read_j1 r5 r120 true
     else
      block_Read_j1 r5 r120 (!decide (r146.fMax = r5.1.fMax))
def l7_alive_j1 (x66 : Bool) : Option Bool :=
 some x66
def l7_alive  : Option Bool :=
 (block_Write 0 ([(⟨1, true, 0, []⟩ : Ap)])).bind fun r8 =>
 (block_Head r8.1).bind fun r24 =>
 (block_Read r8.1).bind fun r44 =>
 if r8.2 == 0 then
  if (r8.1.length : Int) == 15 then
   if r24.2 == 0 then
    if r24.1.fMany == 1 then
     if r44.2.2 == 0 then
      if r44.2.1 == 15 then
       if (r44.1.length : Int) == 1 then
        (idx r44.1 0).bind fun x108 =>
        l7_alive_j1 x108.fBool
       else
        l7_alive_j1 false
      else
       l7_alive_j1 false
     else
      l7_alive_j1 false
    else
     l7_alive_j1 false
   else
    l7_alive_j1 false
  else
   l7_alive_j1 false
 else
  l7_alive_j1 false
def r3_Said_j1 (x6 : Int) : Option Int :=
 some x6
def r3_Said_b1 (p0 : (List Int)) (x13 : Int) (x15 : Int) : Option ((Int × Int) ⊕ Int) :=
 if decide (x15 < (p0.length : Int)) then
  (idx p0 x15).bind fun x28 =>
  some (.inl (IntKind.u64.wrap ((IntKind.u64.wrap (x13 * 256)) + (IntKind.u64.wrap x28)), IntKind.i64.wrap (x15 + 1)))
 else
  (r3_Said_j1 x13).map Sum.inr
def r3_Said (p0 : (List Int)) : Option Int :=
 loopO (fun s : (Int × Int) => r3_Said_b1 p0 s.1 s.2) (0, 0)
def r3_Front_j4 (p0 : (List Int)) (x61 : Bool) : Option (Ap × Int) :=
 if x61 then
  (idx p0 1).bind fun x65 =>
  (sub p0 2 (IntKind.i64.wrap (2 + (IntKind.i64.wrap x65)))).bind fun x77 =>
  some ((⟨3, false, 0, x77⟩ : Ap), IntKind.i64.wrap (2 + (IntKind.i64.wrap x65)))
 else
  some ((⟨0, false, 0, []⟩ : Ap), 0)
def r3_Front_j3 (p0 : (List Int)) (x37 : Bool) : Option (Ap × Int) :=
 if x37 then
  (sub p0 1 9).bind fun x41 =>
  (r3_Said x41).bind fun r45 =>
  some ((⟨2, false, IntKind.i64.wrap r45, []⟩ : Ap), 9)
 else
  if decide (1 < (p0.length : Int)) then
   (idx p0 0).bind fun x101 =>
   if x101 == 3 then
    (idx p0 1).bind fun x113 =>
    if decide (x113 ≤ 64) then
     (idx p0 1).bind fun x127 =>
     r3_Front_j4 p0 (decide ((IntKind.i64.wrap (2 + (IntKind.i64.wrap x127))) ≤ (p0.length : Int)))
    else
     r3_Front_j4 p0 false
   else
    r3_Front_j4 p0 false
  else
   r3_Front_j4 p0 false
def r3_Front_j2 (p0 : (List Int)) (x17 : Bool) : Option (Ap × Int) :=
 if x17 then
  (idx p0 1).bind fun x21 =>
  some ((⟨1, x21 == 1, 0, []⟩ : Ap), 2)
 else
  if decide (8 < (p0.length : Int)) then
   (idx p0 0).bind fun x153 =>
   r3_Front_j3 p0 (x153 == 2)
  else
   r3_Front_j3 p0 false
def r3_Front_j1 (p0 : (List Int)) (x6 : Bool) : Option (Ap × Int) :=
 if x6 then
  some ((⟨0, false, 0, []⟩ : Ap), 1)
 else
  if decide (1 < (p0.length : Int)) then
   (idx p0 0).bind fun x169 =>
   if x169 == 1 then
    (idx p0 1).bind fun x181 =>
    r3_Front_j2 p0 (decide (x181 < 2))
   else
    r3_Front_j2 p0 false
  else
   r3_Front_j2 p0 false
def r3_Front (p0 : (List Int)) : Option (Ap × Int) :=
 if decide (0 < (p0.length : Int)) then
  (idx p0 0).bind fun x200 =>
  r3_Front_j1 p0 (x200 == 0)
 else
  r3_Front_j1 p0 false
def r7_Head_j2 (p0 : (List Int)) (x17 : Int) (x22 : Int) (x27 : Int) (r115 : (Ap × Int)) (r151 : (Ap × Int)) (x177 : Bool) : Option (R7_Info × Int × Int) :=
 if x177 then
  some ((⟨0, 0, Ap.zero, Ap.zero, 0, 0⟩ : R7_Info), 0, 70)
 else
  (sub p0 (IntKind.i64.wrap ((IntKind.i64.wrap (3 + r115.2)) + r151.2)) (IntKind.i64.wrap ((IntKind.i64.wrap ((IntKind.i64.wrap (3 + r115.2)) + r151.2)) + 2))).bind fun x205 =>
  (r3_Said x205).bind fun r209 =>
  if decide ((p0.length : Int) < (({ { { (⟨IntKind.i64.wrap x17, IntKind.i64.wrap x22, Ap.zero, Ap.zero, IntKind.i64.wrap x27, 0⟩ : R7_Info) with fMin := r115.1 } with fMax := r151.1 } with fBytes := IntKind.i64.wrap ((IntKind.i64.wrap ((IntKind.i64.wrap ((IntKind.i64.wrap ((IntKind.i64.wrap (3 + r115.2)) + r151.2)) + 2)) + (IntKind.i64.wrap r209))) + 4) }).fBytes)) then
   some ((⟨0, 0, Ap.zero, Ap.zero, 0, 0⟩ : R7_Info), 0, 70)
  else
   some ({ { { (⟨IntKind.i64.wrap x17, IntKind.i64.wrap x22, Ap.zero, Ap.zero, IntKind.i64.wrap x27, 0⟩ : R7_Info) with fMin := r115.1 } with fMax := r151.1 } with fBytes := IntKind.i64.wrap ((IntKind.i64.wrap ((IntKind.i64.wrap ((IntKind.i64.wrap ((IntKind.i64.wrap (3 + r115.2)) + r151.2)) + 2)) + (IntKind.i64.wrap r209))) + 4) }, IntKind.i64.wrap ((IntKind.i64.wrap ((IntKind.i64.wrap (3 + r115.2)) + r151.2)) + 2), 0)
def r7_Head_j1 (p0 : (List Int)) (x7 : Bool) : Option (R7_Info × Int × Int) :=
 if x7 then
  some ((⟨0, 0, Ap.zero, Ap.zero, 0, 0⟩ : R7_Info), 0, 70)
 else
  (idx p0 0).bind fun x17 =>
  (idx p0 1).bind fun x22 =>
  (idx p0 2).bind fun x27 =>
  (sub p0 3 p0.length).bind fun x111 =>
  (r3_Front x111).bind fun r115 =>
  if r115.2 == 0 then
   some ((⟨0, 0, Ap.zero, Ap.zero, 0, 0⟩ : R7_Info), 0, 70)
  else
   (sub p0 (IntKind.i64.wrap (3 + r115.2)) p0.length).bind fun x147 =>
   (r3_Front x147).bind fun r151 =>
   if r151.2 == 0 then
    r7_Head_j2 p0 x17 x22 x27 r115 r151 true
   else
    r7_Head_j2 p0 x17 x22 x27 r115 r151 (decide ((p0.length : Int) < (IntKind.i64.wrap ((IntKind.i64.wrap ((IntKind.i64.wrap (3 + r115.2)) + r151.2)) + 2))))
def r7_Head (p0 : (List Int)) : Option (R7_Info × Int × Int) :=
 if decide ((p0.length : Int) < 3) then
  r7_Head_j1 p0 true
 else
  (idx p0 0).bind fun x324 =>
  if decide (4 < x324) then
   r7_Head_j1 p0 true
  else
   (idx p0 1).bind fun x410 =>
   if x410 == 0 then
    r7_Head_j1 p0 true
   else
    (idx p0 1).bind fun x511 =>
    if decide (64 < x511) then
     r7_Head_j1 p0 true
    else
     (idx p0 2).bind fun x627 =>
     (idx p0 1).bind fun x632 =>
     r7_Head_j1 p0 (decide (x632 < x627))
def r6_plain_j1 (x7 : (List Ap)) : Option (List Ap) :=
 some x7
def r6_plain_b1 (p0 : (List Int)) (p1 : Int) (x15 : (List Ap)) (x18 : Int) (x20 : Int) : Option (((List Ap) × Int × Int) ⊕ (List Ap)) :=
 if decide (x20 < p1) then
  (sub p0 x18 p0.length).bind fun x30 =>
  (r3_Front x30).bind fun r34 =>
  if r34.2 == 0 then
   (some ([])).map Sum.inr
  else
   (app 3518437208883 x15 ([r34.1])).bind fun z64 =>
   some (.inl (z64, IntKind.i64.wrap (x18 + r34.2), IntKind.i64.wrap (x20 + 1)))
 else
  (r6_plain_j1 x15).map Sum.inr
def r6_plain (p0 : (List Int)) (p1 : Int) : Option (List Ap) :=
 loopO (fun s : ((List Ap) × Int × Int) => r6_plain_b1 p0 p1 s.1 s.2.1 s.2.2) ([], 0, 0)
def r6_runs_j1 (x6 : (List Ap)) : Option (List Ap) :=
 some x6
def r6_runs_j3 (x17 : Int) (r33 : (Ap × Int)) (x59 : (List Ap)) : Option (((List Ap) × Int) ⊕ (List Ap)) :=
 some (.inl (x59, IntKind.i64.wrap ((IntKind.i64.wrap (x17 + 1)) + r33.2)))
def r6_runs_b2 (p0 : (List Int)) (x17 : Int) (r33 : (Ap × Int)) (x70 : (List Ap)) (x73 : Int) : Option (((List Ap) × Int) ⊕ (((List Ap) × Int) ⊕ (List Ap))) :=
 (idx p0 x17).bind fun x80 =>
 if decide (x73 < (IntKind.i64.wrap x80)) then
  (app 3518437208883 x70 ([r33.1])).bind fun z97 =>
  some (.inl (z97, IntKind.i64.wrap (x73 + 1)))
 else
  (r6_runs_j3 x17 r33 x70).map Sum.inr
def r6_runs_j2 (p0 : (List Int)) (x14 : (List Ap)) (x17 : Int) (x23 : Bool) : Option (((List Ap) × Int) ⊕ (List Ap)) :=
 if x23 then
  (sub p0 (IntKind.i64.wrap (x17 + 1)) p0.length).bind fun x29 =>
  (r3_Front x29).bind fun r33 =>
  if r33.2 == 0 then
   (some ([])).map Sum.inr
  else
   loopO (fun s : ((List Ap) × Int) => r6_runs_b2 p0 x17 r33 s.1 s.2) (x14, 0)
 else
  (r6_runs_j1 x14).map Sum.inr
def r6_runs_b1 (p0 : (List Int)) (p1 : Int) (x14 : (List Ap)) (x17 : Int) : Option (((List Ap) × Int) ⊕ (List Ap)) :=
 if decide (x17 < (p0.length : Int)) then
  r6_runs_j2 p0 x14 x17 (decide ((x14.length : Int) < p1))
 else
  r6_runs_j2 p0 x14 x17 false
def r6_runs (p0 : (List Int)) (p1 : Int) : Option (List Ap) :=
 loopO (fun s : ((List Ap) × Int) => r6_runs_b1 p0 p1 s.1 s.2) ([], 0)
def r6_deltas_j1 (x34 : (List Ap)) : Option (List Ap) :=
 some x34
def r6_deltas_j3 (x51 : Int) (x62 : Int) (x64 : (List Ap)) (x67 : Int) (x69 : Int) : Option ((Int × (List Ap) × Int × Int × Int) ⊕ (List Ap)) :=
 some (.inl (x62, x64, x67, x69, IntKind.i64.wrap (x51 + 1)))
def r6_deltas_j4 (x44 : (List Ap)) (x51 : Int) (x112 : Int) : Option ((Int × (List Ap) × Int × Int × Int) ⊕ (List Ap)) :=
 (app 3518437208883 x44 ([(⟨2, false, x112, []⟩ : Ap)])).bind fun z123 =>
 r6_deltas_j3 x51 x112 z123 0 0
def r6_deltas_j2 (p0 : (List Int)) (x42 : Int) (x44 : (List Ap)) (x47 : Int) (x49 : Int) (x51 : Int) (x57 : Bool) : Option ((Int × (List Ap) × Int × Int × Int) ⊕ (List Ap)) :=
 if x57 then
  (idx p0 x51).bind fun x78 =>
  (chk (decide (0 ≤ x49))).bind fun u88 =>
  (idx p0 x51).bind fun x98 =>
  if decide (128 ≤ x98) then
   r6_deltas_j3 x51 x42 x44 (IntKind.u64.wrap (x47 + (iShl .u64 (IntKind.u64.wrap (x78.tmod 128)) x49))) (IntKind.i64.wrap (x49 + 7))
  else
   if ((IntKind.u64.wrap (x47 + (iShl .u64 (IntKind.u64.wrap (x78.tmod 128)) x49))).tmod 2) == 0 then
    r6_deltas_j4 x44 x51 (IntKind.i64.wrap (x42 + (IntKind.i64.wrap (IntKind.u64.wrap ((IntKind.u64.wrap (x47 + (iShl .u64 (IntKind.u64.wrap (x78.tmod 128)) x49))).tdiv 2)))))
   else
    r6_deltas_j4 x44 x51 (IntKind.i64.wrap ((IntKind.i64.wrap (x42 - (IntKind.i64.wrap (IntKind.u64.wrap ((IntKind.u64.wrap (x47 + (iShl .u64 (IntKind.u64.wrap (x78.tmod 128)) x49))).tdiv 2))))) - 1))
 else
  (r6_deltas_j1 x44).map Sum.inr
def r6_deltas_b1 (p0 : (List Int)) (p1 : Int) (x42 : Int) (x44 : (List Ap)) (x47 : Int) (x49 : Int) (x51 : Int) : Option ((Int × (List Ap) × Int × Int × Int) ⊕ (List Ap)) :=
 if decide (x51 < (p0.length : Int)) then
  r6_deltas_j2 p0 x42 x44 x47 x49 x51 (decide ((x44.length : Int) < p1))
 else
  r6_deltas_j2 p0 x42 x44 x47 x49 x51 false
def r6_deltas (p0 : (List Int)) (p1 : Int) : Option (List Ap) :=
 if decide ((p0.length : Int) < 8) then
  some ([])
 else
  (sub p0 0 8).bind fun x8 =>
  (r3_Said x8).bind fun r12 =>
  loopO (fun s : (Int × (List Ap) × Int × Int × Int) => r6_deltas_b1 p0 p1 s.1 s.2.1 s.2.2.1 s.2.2.2.1 s.2.2.2.2) (IntKind.i64.wrap r12, [(⟨2, false, IntKind.i64.wrap r12, []⟩ : Ap)], 0, 0, 8)
def r6_unpacked_j1 (x8 : Int) : Option Int :=
 some x8
def r6_unpacked_b1 (p0 : (List Int)) (p1 : Int) (p2 : Int) (x15 : Int) (x17 : Int) : Option ((Int × Int) ⊕ Int) :=
 if decide (0 ≤ x17) then
  (idx p0 (IntKind.i64.wrap ((IntKind.i64.wrap ((IntKind.i64.wrap (p2 * p1)) + x17)).tdiv 8))).bind fun x33 =>
  (chk (decide (0 ≤ ((IntKind.i64.wrap ((IntKind.i64.wrap (p2 * p1)) + x17)).tmod 8)))).bind fun u42 =>
  some (.inl (IntKind.u64.wrap ((IntKind.u64.wrap (x15 * 2)) + (IntKind.u64.wrap ((iShr .u8 x33 ((IntKind.i64.wrap ((IntKind.i64.wrap (p2 * p1)) + x17)).tmod 8)).tmod 2))), IntKind.i64.wrap (x17 - 1)))
 else
  (r6_unpacked_j1 x15).map Sum.inr
def r6_unpacked (p0 : (List Int)) (p1 : Int) (p2 : Int) : Option Int :=
 loopO (fun s : (Int × Int) => r6_unpacked_b1 p0 p1 p2 s.1 s.2) (0, IntKind.i64.wrap (p1 - 1))
def r6_dicts_j2 (x51 : (List Ap)) : Option (List Ap) :=
 some x51
def r6_dicts_b1 (p0 : (List Int)) (p1 : Int) (x12 : (List Ap)) (x15 : Int) (r27 : Int) (x59 : (List Ap)) (x62 : Int) : Option (((List Ap) × Int) ⊕ (List Ap)) :=
 if decide (x62 < p1) then
  (sub p0 x15 p0.length).bind fun x72 =>
  (r6_unpacked x72 r27 x62).bind fun r78 =>
  if decide ((IntKind.u64.wrap (x12.length : Int)) ≤ r78) then
   (some ([])).map Sum.inr
  else
   (idx x12 r78).bind fun x96 =>
   (app 3518437208883 x59 ([x96])).bind fun z106 =>
   some (.inl (z106, IntKind.i64.wrap (x62 + 1)))
 else
  (r6_dicts_j2 x59).map Sum.inr
def r6_dicts_j1 (p0 : (List Int)) (p1 : Int) (x12 : (List Ap)) (x15 : Int) : Option (List Ap) :=
 if (x12.length : Int) == 0 then
  some ([])
 else
  (r6_width (IntKind.u64.wrap (IntKind.i64.wrap ((x12.length : Int) - 1)))).bind fun r27 =>
  if (p0.length : Int) != (IntKind.i64.wrap (x15 + (IntKind.i64.wrap ((IntKind.i64.wrap ((IntKind.i64.wrap (p1 * r27)) + 7)).tdiv 8)))) then
   some ([])
  else
   loopO (fun s : ((List Ap) × Int) => r6_dicts_b1 p0 p1 x12 x15 r27 s.1 s.2) ([], 0)
def r6_dicts_b2 (p0 : (List Int)) (p1 : Int) (x118 : (List Ap)) (x121 : Int) (x123 : Int) : Option (((List Ap) × Int × Int) ⊕ (List Ap)) :=
 (idx p0 0).bind fun x129 =>
 if decide (x123 < (IntKind.i64.wrap x129)) then
  (sub p0 x121 p0.length).bind fun x141 =>
  (r3_Front x141).bind fun r145 =>
  if r145.2 == 0 then
   (some ([])).map Sum.inr
  else
   (app 3518437208883 x118 ([r145.1])).bind fun z175 =>
   some (.inl (z175, IntKind.i64.wrap (x121 + r145.2), IntKind.i64.wrap (x123 + 1)))
 else
  (r6_dicts_j1 p0 p1 x118 x121).map Sum.inr
def r6_dicts (p0 : (List Int)) (p1 : Int) : Option (List Ap) :=
 if (p0.length : Int) == 0 then
  some ([])
 else
  loopO (fun s : ((List Ap) × Int × Int) => r6_dicts_b2 p0 p1 s.1 s.2.1 s.2.2) ([], 1, 0)
def r6_smalls_j2 (x25 : (List Ap)) : Option (List Ap) :=
 some x25
def r6_smalls_b1 (p0 : (List Int)) (p1 : Int) (r13 : Int) (x33 : (List Ap)) (x36 : Int) : Option (((List Ap) × Int) ⊕ (List Ap)) :=
 if decide (x36 < p1) then
  (sub p0 9 p0.length).bind fun x44 =>
  (idx p0 8).bind fun x47 =>
  (r6_unpacked x44 (IntKind.i64.wrap x47) x36).bind fun r52 =>
  (app 3518437208883 x33 ([(⟨2, false, IntKind.i64.wrap (IntKind.u64.wrap (r13 + r52)), []⟩ : Ap)])).bind fun z135 =>
  some (.inl (z135, IntKind.i64.wrap (x36 + 1)))
 else
  (r6_smalls_j2 x33).map Sum.inr
def r6_smalls_j1 (p0 : (List Int)) (p1 : Int) (x4 : Bool) : Option (List Ap) :=
 if x4 then
  some ([])
 else
  (sub p0 0 8).bind fun x9 =>
  (r3_Said x9).bind fun r13 =>
  loopO (fun s : ((List Ap) × Int) => r6_smalls_b1 p0 p1 r13 s.1 s.2) ([], 0)
def r6_smalls (p0 : (List Int)) (p1 : Int) : Option (List Ap) :=
 if decide ((p0.length : Int) < 9) then
  r6_smalls_j1 p0 p1 true
 else
  (idx p0 8).bind fun x154 =>
  if decide (64 < x154) then
   r6_smalls_j1 p0 p1 true
  else
   (idx p0 8).bind fun x170 =>
   r6_smalls_j1 p0 p1 ((p0.length : Int) != (IntKind.i64.wrap (9 + (IntKind.i64.wrap ((IntKind.i64.wrap ((IntKind.i64.wrap (p1 * (IntKind.i64.wrap x170))) + 7)).tdiv 8)))))
def r6_Decode_j4 (x22 : (List Ap)) (x45 : Bool) : Option ((List Ap) × Int) :=
 if x45 then
  some ([], 60)
 else
  some (x22, 0)
def r6_Decode_j3 (p0 : Int) (p1 : (List Int)) (p2 : Int) (x22 : (List Ap)) : Option ((List Ap) × Int) :=
 (r6_Encode p0 x22).bind fun r28 =>
 if r28.2 != 0 then
  r6_Decode_j4 x22 true
 else
  if (x22.length : Int) != p2 then
   r6_Decode_j4 x22 true
  else
   r6_Decode_j4 x22 (!decide (r28.1 = p1))
def r6_Decode_j2 (p0 : Int) (p1 : (List Int)) (p2 : Int) (x12 : Bool) : Option ((List Ap) × Int) :=
 if x12 then
  some ([], 61)
 else
  if decide (0 < p2) then
   if p0 == 0 then
    (r6_plain p1 p2).bind fun r81 =>
    r6_Decode_j3 p0 p1 p2 r81
   else
    if p0 == 1 then
     (r6_runs p1 p2).bind fun r93 =>
     r6_Decode_j3 p0 p1 p2 r93
    else
     if p0 == 2 then
      (r6_deltas p1 p2).bind fun r105 =>
      r6_Decode_j3 p0 p1 p2 r105
     else
      if p0 == 3 then
       (r6_dicts p1 p2).bind fun r117 =>
       r6_Decode_j3 p0 p1 p2 r117
      else
       (r6_smalls p1 p2).bind fun r126 =>
       r6_Decode_j3 p0 p1 p2 r126
  else
   r6_Decode_j3 p0 p1 p2 ([])
def r6_Decode_j1 (p0 : Int) (p1 : (List Int)) (p2 : Int) (x5 : Bool) : Option ((List Ap) × Int) :=
 if x5 then
  some ([], 62)
 else
  if decide (p2 < 0) then
   r6_Decode_j2 p0 p1 p2 true
  else
   r6_Decode_j2 p0 p1 p2 (decide (64 < p2))
def r6_Decode (p0 : Int) (p1 : (List Int)) (p2 : Int) : Option ((List Ap) × Int) :=
 if decide (p0 < 0) then
  r6_Decode_j1 p0 p1 p2 true
 else
  r6_Decode_j1 p0 p1 p2 (decide (4 < p0))
def r7_Read (p0 : (List Int)) : Option ((List Ap) × Int × Int) :=
 (r7_Head p0).bind fun r5 =>
 if r5.2.2 != 0 then
  some ([], 0, r5.2.2)
 else
  (sub p0 (IntKind.i64.wrap (r5.1.fBytes - 4)) r5.1.fBytes).bind fun x44 =>
  (r3_Said x44).bind fun r47 =>
  (sub p0 0 (IntKind.i64.wrap (r5.1.fBytes - 4))).bind fun x53 =>
  (r1_Sum x53).bind fun r106 =>
  if r47 != (IntKind.u64.wrap r106) then
   some ([], 0, 71)
  else
   (sub p0 r5.2.1 (IntKind.i64.wrap (r5.1.fBytes - 4))).bind fun x121 =>
   (r6_Decode r5.1.fKind x121 r5.1.fMany).bind fun r126 =>
   if r126.2 != 0 then
    some ([], 0, 70)
   else
    (r7_facts r5.1.fKind r126.1).bind fun r233 =>
    if !decide ({ r233 with fBytes := r5.1.fBytes } = r5.1) then
     some ([], 0, 70)
    else
     some (r126.1, r5.1.fBytes, 0)
def r7_All_j1 (x5 : (List Ap)) : Option (List Ap) :=
 some x5
def r7_All_b1 (x13 : (List Int)) (x16 : (List Ap)) : Option (((List Int) × (List Ap)) ⊕ (List Ap)) :=
 if decide (0 < (x13.length : Int)) then
  (r7_Read x13).bind fun r26 =>
  if r26.2.2 != 0 then
   (some x16).map Sum.inr
  else
   (app 3518437208883 x16 r26.1).bind fun z53 =>
   (sub x13 r26.2.1 x13.length).bind fun x62 =>
   some (.inl (x62, z53))
 else
  (r7_All_j1 x16).map Sum.inr
def r7_All (p0 : (List Int)) : Option (List Ap) :=
 loopO (fun s : ((List Int) × (List Ap)) => r7_All_b1 s.1 s.2) (p0, [])
def block_All_1_j1 {σ : Type} (x9 : (List Int)) (r23 : ((List Ap) × Int × Int)) (x51 : Int) (x53 : σ) : Option ((Int × (List Int) × σ) ⊕ σ) :=
 (sub x9 r23.2.1 x9.length).bind fun x60 =>
 some (.inl (x51, x60, x53))
def block_All_1_b2 {σ : Type} (step : (σ → (Int × Ap) → Option (σ × Bool))) (x9 : (List Int)) (r23 : ((List Ap) × Int × Int)) (x67 : Int) (x69 : Int) (x71 : σ) : Option ((Int × Int × σ) ⊕ ((Int × (List Int) × σ) ⊕ σ)) :=
 if decide (x69 < (r23.1.length : Int)) then
  (idx r23.1 x69).bind fun x79 =>
  (step x71 (x67, x79)).bind fun r94 =>
  if !r94.2 then
   ((some r94.1).map Sum.inr).map Sum.inr
  else
   some (.inl (IntKind.i64.wrap (x67 + 1), IntKind.i64.wrap (x69 + 1), r94.1))
 else
  (block_All_1_j1 x9 r23 x67 x71).map Sum.inr
def block_All_1_b1 {σ : Type} (step : (σ → (Int × Ap) → Option (σ × Bool))) (x7 : Int) (x9 : (List Int)) (x12 : σ) : Option ((Int × (List Int) × σ) ⊕ σ) :=
 if decide (0 < (x9.length : Int)) then
  (block_Read x9).bind fun r23 =>
  if r23.2.2 != 0 then
   (some x12).map Sum.inr
  else
   loopO (fun s : (Int × Int × σ) => block_All_1_b2 step x9 r23 s.1 s.2.1 s.2.2) (x7, 0, x12)
 else
  (some x12).map Sum.inr
def block_All_1 {σ : Type} (step : (σ → (Int × Ap) → Option (σ × Bool))) (s0_ : σ) (p1 : (List Int)) : Option σ :=
 loopO (fun s : (Int × (List Int) × σ) => block_All_1_b1 step s.1 s.2.1 s.2.2) (0, p1, s0_)
def block_All_1_list (p1 : (List Int)) : Option (List (Int × Ap)) :=
 block_All_1 (fun (s : List (Int × Ap)) x => some (s ++ [x], true)) [] p1
def block_All (p0 : (List Int)) : Option (List (Int × Ap)) :=
 (slices_Clone_byte p0).bind fun r3 =>
 (block_All_1_list r3).bind fun x17 =>
 some x17
def l7_BlockAll_j2 (x43 : Int) (x46 : Bool) (x68 : Bool) : Option ((Int × Bool) × Bool) :=
 if x68 then
  some ((x43, false), false)
 else
  some ((IntKind.i64.wrap (x43 + 1), x46), true)
def l7_BlockAll_b1 (r8 : (List Ap)) (x43 : Int) (x46 : Bool) (x49 : (Int × Ap)) : Option ((Int × Bool) × Bool) :=
 if x49.1 != x43 then
  l7_BlockAll_j2 x43 x46 true
 else
  if decide ((r8.length : Int) ≤ x43) then
   l7_BlockAll_j2 x43 x46 true
  else
   (idx r8 x43).bind fun x242 =>
   l7_BlockAll_j2 x43 x46 (!decide (x49.2 = x242))
def l7_BlockAll_b2 (p1 : Int) (x369 : Int) (x372 : (Int × Ap)) : Option (Int × Bool) :=
 if x369 == p1 then
  some (x369, false)
 else
  some ((IntKind.i64.wrap (x369 + 1)), true)
def l7_BlockAll_b3 (x417 : Int) (x420 : (Int × Ap)) : Option (Int × Bool) :=
 some ((IntKind.i64.wrap (x417 + 1)), true)
def l7_BlockAll_j3 (x451 : Bool) : Option Bool :=
 some x451
def l7_BlockAll_b4 (x502 : Int) (x505 : (Int × Ap)) : Option (Int × Bool) :=
 some ((IntKind.i64.wrap (x502 + 1)), true)
def l7_BlockAll_j4 (x536 : Bool) : Option Bool :=
 some x536
def l7_BlockAll_j1 (p1 : Int) (r8 : (List Ap)) (r20 : (List (Int × Ap))) (x29 : Bool) : Option Bool :=
 if x29 then
  some false
 else
  (foldY (fun (s : (Int × Bool)) (x : (Int × Ap)) => l7_BlockAll_b1 r8 s.1 s.2 x) (0, false) r20).bind fun y348 =>
  if y348.2 then
   (foldY (fun (s : Int) (x : (Int × Ap)) => l7_BlockAll_b2 p1 s x) 0 r20).bind fun y398 =>
   if y398.2 then
    (foldY (fun (s : Int) (x : (Int × Ap)) => l7_BlockAll_b3 s x) 0 r20).bind fun y438 =>
    if y438.2 then
     (l7_alive).bind fun r455 =>
     if r455 then
      if y348.1.1 == (r8.length : Int) then
       l7_BlockAll_j3 (y438.1 == y348.1.1)
      else
       l7_BlockAll_j3 false
     else
      l7_BlockAll_j3 false
    else
     none
   else
    (foldY (fun (s : Int) (x : (Int × Ap)) => l7_BlockAll_b4 s x) 0 r20).bind fun y523 =>
    if y523.2 then
     (l7_alive).bind fun r540 =>
     if r540 then
      if y348.1.1 == (r8.length : Int) then
       l7_BlockAll_j4 (y523.1 == y348.1.1)
      else
       l7_BlockAll_j4 false
     else
      l7_BlockAll_j4 false
    else
     none
  else
   some y348.1.2
def l7_BlockAll (p0 : (List Int)) (p1 : Int) : Option Bool :=
 (r7_All p0).bind fun r8 =>
 (block_All p0).bind fun r20 =>
 (l7_alive).bind fun r582 =>
 l7_BlockAll_j1 p1 r8 r20 (!r582)
end
end Go.Proofs.YthbonoagbeilkaaGreat.Hay
namespace Go.Proofs.YthbonoagbeilkaaGreat.Hay
theorem foldY_app {σ α : Type} {step : σ → α → Option (σ × Bool)} : ∀ (xs ys : List α) (s : σ), foldY step s (xs ++ ys) = (foldY step s xs).bind fun r => if r.2 then foldY step r.1 ys else some r
 | [], ys, s => by simp [foldY]
 | x :: xs, ys, s => by
  simp only [List.cons_append, foldY]
  cases h : step s x with
  | none => rfl
  | some r =>
   simp only [Option.bind_some]
   cases hr : r.2 with
   | true => simp only [if_true]; exact foldY_app xs ys r.1
   | false => simp
theorem iterN_some {σ β : Type} {f : σ → Option (σ ⊕ β)} {n : Nat} {s : σ} {b : β} (h : iterN f n s = some b) : ∃ k, n = k + 1 ∧ ((f s = some (.inr b)) ∨ ∃ s', f s = some (.inl s') ∧ iterN f k s' = some b) := by
 cases n with
 | zero => cases h
 | succ k =>
  rw [iterN] at h
  cases hf : f s with
  | none => rw [hf] at h; cases h
  | some r =>
   rw [hf] at h
   cases r with
   | inl s' => exact ⟨k, rfl, .inr ⟨s', rfl, h⟩⟩
   | inr b' => injection h with h; subst h; exact ⟨k, rfl, .inl rfl⟩
abbrev coll {α : Type} : List α → α → Option (List α × Bool) := fun s x => some (s ++ [x], true)
theorem inner_All {σ : Type} {step : σ → Int × Ap → Option (σ × Bool)} (rest : List Int) (rr : List Ap × Int × Int) : ∀ (k : Nat) (n i : Int) (acc : List (Int × Ap)) (out : (Int × List Int × List (Int × Ap)) ⊕ List (Int × Ap)),
  iterN (fun s : Int × Int × List (Int × Ap) => block_All_1_b2 coll rest rr s.1 s.2.1 s.2.2) k (n, i, acc) = some out →
  ∃ n' rest' ys, out = .inl (n', rest', acc ++ ys) ∧ ∀ (s : σ) r, foldY step s ys = some r → loopO (fun s : Int × Int × σ => block_All_1_b2 step rest rr s.1 s.2.1 s.2.2) (n, i, s) = some (if r.2 then .inl (n', rest', r.1) else .inr r.1) := by
 intro k
 induction k with
 | zero => intro n i acc out h; cases h
 | succ k ih =>
  intro n i acc out h
  obtain ⟨k', hk, g⟩ := iterN_some h
  obtain rfl : k' = k := by omega
  clear h
  have h := g
  clear g
  unfold block_All_1_b2 at h
  dsimp only at h
  by_cases hlt : decide (i < (rr.1.length : Int)) = true
  ·rw [if_pos hlt] at h
   cases hx : idx rr.1 i with
   | none => rw [hx] at h; rcases h with h | ⟨_, h, _⟩ <;> cases h
   | some x =>
    rw [hx] at h
    simp only [Option.bind_some, Bool.not_true, Bool.false_eq_true, if_false] at h
    rcases h with h | ⟨s', h1, h2⟩
    ·cases h
    ·simp only [Option.some.injEq, Sum.inl.injEq] at h1
     subst h1
     obtain ⟨n', rest', ys, e, hall⟩ := ih _ _ _ _ h2
     refine ⟨n', rest', (n, x) :: ys, by rw [e]; simp, fun s r hf => ?_⟩
     simp only [foldY] at hf
     cases hst : step s (n, x) with
     | none => rw [hst] at hf; cases hf
     | some q =>
      rw [hst] at hf
      simp only [Option.bind_some] at hf
      cases hq : q.2 with
      | true =>
       rw [hq] at hf
       simp only [if_true] at hf
       rw [loopO_go (s' := (IntKind.i64.wrap (n + 1), IntKind.i64.wrap (i + 1), q.1))]
       ·exact hall _ _ hf
       ·unfold block_All_1_b2
        simp only
        rw [if_pos hlt, hx, Option.bind_some, hst, Option.bind_some, hq]
        rfl
      | false =>
       rw [hq] at hf
       simp only [Bool.false_eq_true, if_false, Option.some.injEq] at hf
       subst hf
       refine loopO_end ?_
       unfold block_All_1_b2
       simp only
       rw [if_pos hlt, hx, Option.bind_some, hst, Option.bind_some, hq]
       rfl
  ·rw [if_neg hlt] at h
   unfold block_All_1_j1 at h
   cases hx : sub rest rr.2.1 rest.length with
   | none => rw [hx] at h; rcases h with h | ⟨_, h, _⟩ <;> cases h
   | some x =>
    rw [hx] at h
    simp only [Option.bind_some, Option.map_some, Option.some.injEq, Sum.inr.injEq] at h
    rcases h with h | ⟨s', h, _⟩
    ·subst h
     refine ⟨n, x, [], by simp, fun s r hf => ?_⟩
     simp only [foldY, Option.some.injEq] at hf
     subst hf
     refine loopO_end ?_
     unfold block_All_1_b2 block_All_1_j1
     simp only
     rw [if_neg hlt, hx]
     rfl
    ·cases h
theorem fold_block_All_1 {σ : Type} {step : σ → Int × Ap → Option (σ × Bool)} {s : σ} {xs : List (Int × Ap)} {p : List Int} {r : σ × Bool} (h : block_All_1_list p = some xs) (hf : foldY step s xs = some r) : block_All_1 step s p = some r.1 := by
 have key : ∀ (k : Nat) (n : Int) (rest : List Int) (acc : List (Int × Ap)) (xs : List (Int × Ap)),
   iterN (fun s : Int × List Int × List (Int × Ap) => block_All_1_b1 coll s.1 s.2.1 s.2.2) k (n, rest, acc) = some xs →
   ∃ ys, xs = acc ++ ys ∧ ∀ (s : σ) r, foldY step s ys = some r → loopO (fun s : Int × List Int × σ => block_All_1_b1 step s.1 s.2.1 s.2.2) (n, rest, s) = some r.1 := by
  intro k
  induction k with
  | zero => intro n rest acc xs h; cases h
  | succ k ih =>
   intro n rest acc xs h
   obtain ⟨k', hk, g⟩ := iterN_some h
   obtain rfl : k' = k := by omega
   clear h
   have h := g
   clear g
   unfold block_All_1_b1 at h
   dsimp only at h
   by_cases hlt : decide (0 < (rest.length : Int)) = true
   ·rw [if_pos hlt] at h
    cases hx : block_Read rest with
    | none => rw [hx] at h; rcases h with h | ⟨_, h, _⟩ <;> cases h
    | some rr =>
     rw [hx] at h
     simp only [Option.bind_some] at h
     by_cases he : (rr.2.2 != 0) = true
     ·rw [if_pos he] at h
      rcases h with h | ⟨s', h, _⟩
      ·simp only [Option.map_some, Option.some.injEq, Sum.inr.injEq] at h
       subst h
       refine ⟨[], by simp, fun s r hf => ?_⟩
       simp only [foldY, Option.some.injEq] at hf
       subst hf
       refine loopO_end ?_
       unfold block_All_1_b1
       simp only
       rw [if_pos hlt, hx, Option.bind_some, if_pos he]
       rfl
      ·cases h
     ·rw [if_neg he] at h
      rcases h with h | ⟨s', h, h2⟩
      ·obtain ⟨k2, hk2⟩ := loopO_iff.1 h
       obtain ⟨n', rest', ys, e, _⟩ := inner_All (step := step) rest rr k2 _ _ _ _ hk2
       cases e
      ·obtain ⟨k2, hk2⟩ := loopO_iff.1 h
       obtain ⟨n', rest', ys, e, hall⟩ := inner_All (step := step) rest rr k2 _ _ _ _ hk2
       simp only [Sum.inl.injEq] at e
       subst e
       obtain ⟨zs, e2, hz⟩ := ih _ _ _ _ h2
       refine ⟨ys ++ zs, by rw [e2]; simp, fun s r hf => ?_⟩
       rw [foldY_app] at hf
       cases hy : foldY step s ys with
       | none => rw [hy] at hf; cases hf
       | some q =>
        rw [hy] at hf
        simp only [Option.bind_some] at hf
        have hin := hall s q hy
        have hb : block_All_1_b1 step n rest s = some (if q.2 then .inl (n', rest', q.1) else .inr q.1) := by
         unfold block_All_1_b1
         rw [if_pos hlt, hx, Option.bind_some, if_neg he]
         exact hin
        cases hq : q.2 with
        | true =>
         rw [hq] at hf hb
         simp only [if_true] at hf hb
         rw [loopO_go (s' := (n', rest', q.1)) hb]
         exact hz _ _ hf
        | false =>
         rw [hq] at hf hb
         simp only [Bool.false_eq_true, if_false, Option.some.injEq] at hf hb
         subst hf
         exact loopO_end hb
   ·rw [if_neg hlt] at h
    rcases h with h | ⟨s', h, _⟩
    ·simp only [Option.map_some, Option.some.injEq, Sum.inr.injEq] at h
     subst h
     refine ⟨[], by simp, fun s r hf => ?_⟩
     simp only [foldY, Option.some.injEq] at hf
     subst hf
     refine loopO_end ?_
     unfold block_All_1_b1
     simp only
     rw [if_neg hlt]
     rfl
    ·cases h
 obtain ⟨k, hk⟩ := loopO_iff.1 h
 obtain ⟨ys, e, hall⟩ := key k _ _ _ _ hk
 simp only [List.nil_append] at e
 subst e
 exact hall _ _ hf
end Go.Proofs.YthbonoagbeilkaaGreat.Hay
namespace Go.Proofs.YthbonoagbeilkaaGreat.Hay
theorem loopO_inv {σ β : Type} {f : σ → Option (σ ⊕ β)} (I : σ → Prop) (μ : σ → Nat) (Q : β → Prop)
  (step : ∀ s, I s → (∃ s', f s = some (.inl s') ∧ I s' ∧ μ s' < μ s) ∨ ∃ b, f s = some (.inr b) ∧ Q b) {s : σ} (h : I s) : ∃ b, loopO f s = some b ∧ Q b := by
 generalize hn : μ s = n
 induction n using Nat.strongRecOn generalizing s with
 | _ n ih =>
  rcases step s h with ⟨s', h1, h2, h3⟩ | ⟨b, h1, h2⟩
  ·obtain ⟨b, h4, h5⟩ := ih (μ s') (by omega) h2 rfl
   exact ⟨b, by rw [loopO_go h1]; exact h4, h5⟩
  ·exact ⟨b, loopO_end h1, h2⟩
theorem loopO_eqv {σ β : Type} {f : σ → Option (σ ⊕ β)} (I : σ → Prop) (μ : σ → Nat) {b : β}
  (step : ∀ s, I s → (∃ s', f s = some (.inl s') ∧ I s' ∧ μ s' < μ s) ∨ f s = some (.inr b)) {s : σ} (h : I s) : loopO f s = some b := by
 obtain ⟨c, h1, rfl⟩ := loopO_inv I μ (fun c => c = b) (fun s hs => (step s hs).imp id fun h => ⟨b, h, rfl⟩) h
 exact h1
theorem wrap64 {n : Int} (h : -9223372036854775808 ≤ n ∧ n ≤ 9223372036854775807) : IntKind.i64.wrap n = n := by
 have : inR .i64 n := by rw [inR_bd]; exact h
 exact this
theorem idx_of {α : Type} {xs : List α} {i : Nat} (h : i < xs.length) : idx xs (i : Int) = some xs[i] := by
 unfold idx
 rw [if_pos (by omega)]
 simp [h]
theorem app_of {α : Type} {N : Nat} {xs ys : List α} (h : xs.length + ys.length ≤ N) : app N xs ys = some (xs ++ ys) := by
 unfold app; rw [if_pos h]
theorem sub_of {α : Type} {xs : List α} {lo hi : Nat} (h : lo ≤ hi) (h' : hi ≤ xs.length) : sub xs (lo : Int) (hi : Int) = some ((xs.take hi).drop lo) := by
 unfold sub
 rw [if_pos (by omega)]
 simp
theorem wrapu64 (n : Int) : IntKind.u64.wrap n = n % 18446744073709551616 := by
 simp [IntKind.wrap, IntKind.bits, IntKind.signed]
theorem wrapu32 (n : Int) : IntKind.u32.wrap n = n % 4294967296 := by
 simp [IntKind.wrap, IntKind.bits, IntKind.signed]
theorem wrapu8 (n : Int) : IntKind.u8.wrap n = n % 256 := by
 simp [IntKind.wrap, IntKind.bits, IntKind.signed]
theorem shr64 {x : Int} {k : Nat} (hk : k ≤ 64) : iShr .u64 x (k : Int) = x / 2 ^ k := by
 unfold iShr
 rw [Int.fdiv_eq_ediv_of_nonneg _ (Int.le_of_lt (Int.pow_pos (by decide)))]
 congr 2
 simp [IntKind.bits]; omega
theorem shr8 {x : Int} {k : Nat} (hk : k ≤ 8) : iShr .u8 x (k : Int) = x / 2 ^ k := by
 unfold iShr
 rw [Int.fdiv_eq_ediv_of_nonneg _ (Int.le_of_lt (Int.pow_pos (by decide)))]
 congr 2
 simp [IntKind.bits]; omega
theorem shl64 {x : Int} {k : Nat} (hk : k ≤ 64) : iShl .u64 x (k : Int) = (x * 2 ^ k) % 18446744073709551616 := by
 unfold iShl
 rw [wrapu64]
 congr 3
 simp [IntKind.bits]; omega
theorem and64 {a b : Nat} (ha : a < 18446744073709551616) (hb : b < 18446744073709551616) : bAnd .u64 (a : Int) (b : Int) = ((a &&& b : Nat) : Int) := by
 unfold bAnd
 rw [wrapu64]
 have h1 : (BitVec.ofInt IntKind.u64.bits (a : Int)).toNat = a := by
  show (BitVec.ofInt 64 (a : Int)).toNat = a
  rw [BitVec.toNat_ofInt]; omega
 have h2 : (BitVec.ofInt IntKind.u64.bits (b : Int)).toNat = b := by
  show (BitVec.ofInt 64 (b : Int)).toNat = b
  rw [BitVec.toNat_ofInt]; omega
 rw [BitVec.toNat_and, h1, h2]
 have : a &&& b ≤ a := Nat.and_le_left
 omega
theorem or64 {a b : Nat} (ha : a < 18446744073709551616) (hb : b < 18446744073709551616) : bOr .u64 (a : Int) (b : Int) = ((a ||| b : Nat) : Int) := by
 unfold bOr
 rw [wrapu64]
 have h1 : (BitVec.ofInt IntKind.u64.bits (a : Int)).toNat = a := by
  show (BitVec.ofInt 64 (a : Int)).toNat = a
  rw [BitVec.toNat_ofInt]; omega
 have h2 : (BitVec.ofInt IntKind.u64.bits (b : Int)).toNat = b := by
  show (BitVec.ofInt 64 (b : Int)).toNat = b
  rw [BitVec.toNat_ofInt]; omega
 rw [BitVec.toNat_or, h1, h2]
 have : a ||| b < 2 ^ 64 := Nat.or_lt_two_pow (by simpa using ha) (by simpa using hb)
 have e : (2 : Nat) ^ 64 = 18446744073709551616 := by decide
 omega
end Go.Proofs.YthbonoagbeilkaaGreat.Hay
namespace Go.Proofs.YthbonoagbeilkaaGreat.Hay
def be8 (n : Int) : List Int := [n / 2 ^ 56 % 256, n / 2 ^ 48 % 256, n / 2 ^ 40 % 256, n / 2 ^ 32 % 256, n / 2 ^ 24 % 256, n / 2 ^ 16 % 256, n / 2 ^ 8 % 256, n % 256]
theorem encode_eight_eq (n : Int) : encode_eight n = some (be8 n) := by
 unfold encode_eight
 have step : ∀ (l : List Int) (i : Nat), i < 8 → l.length ≤ 8 → encode_eight_b1 n l (i : Int) = some (.inl (l ++ [n / 2 ^ (56 - 8 * i) % 256], ((i + 1 : Nat) : Int))) := by
  intro l i hi hl
  unfold encode_eight_b1
  have h1 : decide ((i : Int) < 8) = true := by simpa using by omega
  have h2 : IntKind.i64.wrap (8 * (i : Int)) = ((8 * i : Nat) : Int) := by rw [wrap64 (by omega)]; omega
  have h3 : IntKind.i64.wrap (56 - ((8 * i : Nat) : Int)) = ((56 - 8 * i : Nat) : Int) := by rw [wrap64 (by omega)]; omega
  have h4 : IntKind.i64.wrap ((i : Int) + 1) = ((i + 1 : Nat) : Int) := by rw [wrap64 (by omega)]; omega
  rw [if_pos h1, h2, h3, shr64 (by omega), wrapu8, h4]
  have h5 : chk (decide (0 ≤ ((56 - 8 * i : Nat) : Int))) = some () := by simp [chk]
  rw [h5, Option.bind_some, app_of (by simp; omega), Option.bind_some]
 have e8 : ∀ l : List Int, encode_eight_b1 n l 8 = some (.inr l) := fun l => by
  unfold encode_eight_b1
  rw [if_neg (by decide)]; rfl
 have s : ∀ (l : List Int) (i : Nat), i < 8 → l.length ≤ 8 → loopO (fun s : (List Int × Int) => encode_eight_b1 n s.1 s.2) (l, (i : Int)) = loopO (fun s : (List Int × Int) => encode_eight_b1 n s.1 s.2) (l ++ [n / 2 ^ (56 - 8 * i) % 256], ((i + 1 : Nat) : Int)) := fun l i hi hl => loopO_go (step l i hi hl)
 have := s [] 0 (by omega) (by simp)
 rw [show ((0 : Nat) : Int) = 0 from rfl] at this
 rw [this, s _ 1 (by omega) (by simp), s _ 2 (by omega) (by simp), s _ 3 (by omega) (by simp), s _ 4 (by omega) (by simp), s _ 5 (by omega) (by simp), s _ 6 (by omega) (by simp), s _ 7 (by omega) (by simp)]
 rw [show ((7 + 1 : Nat) : Int) = 8 from rfl, loopO_end (e8 _)]
 simp [be8]
theorem number_eq (n : Int) : r3_Number n = some (be8 n) := by
 unfold r3_Number
 have step : ∀ (l : List Int) (i : Nat), i < 8 → l.length ≤ 8 → r3_Number_b1 n l ((8 * i : Nat) : Int) = some (.inl (l ++ [n / 2 ^ (8 * i) % 256], (8 * i : Nat) - 8)) := by
  intro l i hi hl
  unfold r3_Number_b1
  have h1 : decide (0 ≤ ((8 * i : Nat) : Int)) = true := by simp; omega
  have h4 : IntKind.i64.wrap (((8 * i : Nat) : Int) - 8) = ((8 * i : Nat) : Int) - 8 := by rw [wrap64 (by omega)]
  rw [if_pos h1, shr64 (by omega), wrapu8, h4]
  have h5 : chk (decide (0 ≤ ((8 * i : Nat) : Int))) = some () := by rw [h1]; rfl
  rw [h5, Option.bind_some, app_of (by simp; omega), Option.bind_some]
 have e8 : ∀ l : List Int, r3_Number_b1 n l (-8) = some (.inr l) := fun l => by
  unfold r3_Number_b1
  rw [if_neg (by decide)]; rfl
 have s : ∀ (l : List Int) (i : Nat), i < 8 → l.length ≤ 8 → loopO (fun s : (List Int × Int) => r3_Number_b1 n s.1 s.2) (l, ((8 * i : Nat) : Int)) = loopO (fun s : (List Int × Int) => r3_Number_b1 n s.1 s.2) (l ++ [n / 2 ^ (8 * i) % 256], ((8 * i : Nat) : Int) - 8) := fun l i hi hl => loopO_go (step l i hi hl)
 have e : ∀ i : Nat, ((8 * (i + 1) : Nat) : Int) - 8 = ((8 * i : Nat) : Int) := fun i => by omega
 have := s [] 7 (by omega) (by simp)
 rw [show ((8 * 7 : Nat) : Int) = 56 from rfl] at this
 rw [this, show (56 : Int) - 8 = ((8 * 6 : Nat) : Int) from rfl, s _ 6 (by omega) (by simp), e 5, s _ 5 (by omega) (by simp), e 4, s _ 4 (by omega) (by simp), e 3, s _ 3 (by omega) (by simp), e 2, s _ 2 (by omega) (by simp), e 1, s _ 1 (by omega) (by simp), e 0, s _ 0 (by omega) (by simp)]
 rw [show ((8 * 0 : Nat) : Int) - 8 = -8 from rfl, loopO_end (e8 _)]
 simp [be8]
def said (l : List Int) : Int := l.foldl (fun a c => a * 256 + c) 0
theorem said_append (l : List Int) (c : Int) : said (l ++ [c]) = said l * 256 + c := by simp [said]
theorem said_bd (l : List Int) (h : ∀ c ∈ l, 0 ≤ c ∧ c < 256) : 0 ≤ said l ∧ said l < 256 ^ l.length := by
 have key : ∀ (r : List Int), (∀ c ∈ r, 0 ≤ c ∧ c < 256) → 0 ≤ said r.reverse ∧ said r.reverse < 256 ^ r.length := by
  intro r
  induction r with
  | nil => intro _; simp [said]
  | cons c r ih =>
   intro h
   obtain ⟨h1, h2⟩ := ih (fun x hx => h x (by simp [hx]))
   have hc := h c (by simp)
   rw [List.reverse_cons, said_append, List.length_cons, Int.pow_succ]
   omega
 have := key l.reverse (fun c hc => h c (by simpa using hc))
 simpa using this
theorem said_be8 {n : Int} (h0 : 0 ≤ n) (h1 : n < 18446744073709551616) : said (be8 n) = n := by
 simp only [said, be8, List.foldl_cons, List.foldl_nil]
 omega
theorem be8_bytes (n : Int) : ∀ c ∈ be8 n, 0 ≤ c ∧ c < 256 := by
 intro c hc
 simp only [be8, List.mem_cons, List.not_mem_nil, or_false] at hc
 rcases hc with rfl | rfl | rfl | rfl | rfl | rfl | rfl | rfl <;> omega
theorem be8_length (n : Int) : (be8 n).length = 8 := rfl
theorem Said_eq (l : List Int) (h : ∀ c ∈ l, 0 ≤ c ∧ c < 256) (hl : l.length ≤ 8) : r3_Said l = some (said l) := by
 unfold r3_Said
 refine loopO_eqv (I := fun s : Int × Int => ∃ i : Nat, i ≤ l.length ∧ s = (said (l.take i), (i : Int))) (μ := fun s => l.length - s.2.toNat) ?_ ⟨0, by omega, by simp [said]⟩
 rintro _ ⟨i, hi, rfl⟩
 by_cases hlt : i < l.length
 ·left
  have hb := said_bd (l.take i) (fun c hc => h c (List.mem_of_mem_take hc))
  have hci := h l[i] (List.getElem_mem hlt)
  have hp : (256 : Int) ^ (l.take i).length ≤ 256 ^ 7 := by
   have : (l.take i).length ≤ 7 := by simp; omega
   have h9 := Nat.pow_le_pow_right (show 0 < 256 by omega) this
   have h8 := Int.ofNat_le.2 h9
   simpa [Int.natCast_pow] using h8
  refine ⟨(said (l.take (i + 1)), ((i + 1 : Nat) : Int)), ?_, ⟨i + 1, by omega, rfl⟩, by simp; omega⟩
  unfold r3_Said_b1
  rw [if_pos (by simpa using hlt), idx_of hlt, Option.bind_some]
  have e : said (l.take (i + 1)) = said (l.take i) * 256 + l[i] := by
   rw [List.take_succ_eq_append_getElem hlt, said_append]
  rw [e, wrapu64, wrapu64, wrapu64, wrap64 (by omega)]
  congr 3
  omega
 ·right
  have : i = l.length := by omega
  subst this
  unfold r3_Said_b1
  rw [if_neg (by simp)]
  simp [r3_Said_j1]
end Go.Proofs.YthbonoagbeilkaaGreat.Hay
namespace Go.Proofs.YthbonoagbeilkaaGreat.Hay
theorem loop_seq {σ β : Type} {f : σ → Option (σ ⊕ β)} {s : σ} {b : β} (S : Nat → σ) (n : Nat) (h0 : s = S 0) (step : ∀ i, i < n → f (S i) = some (.inl (S (i + 1)))) (fin : f (S n) = some (.inr b)) : loopO f s = some b := by
 have key : ∀ i, i ≤ n → loopO f s = loopO f (S i) := by
  intro i
  induction i with
  | zero => intro _; rw [h0]
  | succ i ih => intro h; rw [ih (by omega), loopO_go (step i (by omega))]
 rw [key n (Nat.le_refl n), loopO_end fin]
theorem loop_all {α β : Type} {f : Int → Option (Int ⊕ β)} (xs : List α) (p : α → Bool) (b0 b1 : β) (step : ∀ (i : Nat) (h : i < xs.length), p xs[i] = true → f (i : Int) = some (.inl ((i + 1 : Nat) : Int)))
  (out : ∀ (i : Nat) (h : i < xs.length), p xs[i] = false → f (i : Int) = some (.inr b0)) (fin : f (xs.length : Int) = some (.inr b1)) : loopO f 0 = some (if xs.all p then b1 else b0) := by
 have key : ∀ k i : Nat, i + k = xs.length → loopO f (i : Int) = some (if (xs.drop i).all p then b1 else b0) := by
  intro k
  induction k with
  | zero =>
   intro i hi
   have : i = xs.length := by omega
   subst this
   rw [loopO_end fin]; simp
  | succ k ih =>
   intro i hi
   have hlt : i < xs.length := by omega
   rw [List.drop_eq_getElem_cons hlt, List.all_cons]
   cases hp : p xs[i] with
   | true => rw [loopO_go (step i hlt hp), ih (i + 1) (by omega)]; simp
   | false => rw [loopO_end (out i hlt hp)]; simp
 have := key xs.length 0 (by omega)
 simpa using this
theorem loop_find {α β : Type} {f : Int → Option (Int ⊕ β)} (xs : List α) (p : α → Bool) (b0 : Nat → β) (b1 : β) (step : ∀ (i : Nat) (h : i < xs.length), p xs[i] = false → f (i : Int) = some (.inl ((i + 1 : Nat) : Int)))
  (out : ∀ (i : Nat) (h : i < xs.length), p xs[i] = true → f (i : Int) = some (.inr (b0 i))) (fin : f (xs.length : Int) = some (.inr b1)) : loopO f 0 = some (if xs.any p then b0 (xs.findIdx p) else b1) := by
 have key : ∀ k i : Nat, i + k = xs.length → loopO f (i : Int) = some (if (xs.drop i).any p then b0 (i + (xs.drop i).findIdx p) else b1) := by
  intro k
  induction k with
  | zero =>
   intro i hi
   have : i = xs.length := by omega
   subst this
   rw [loopO_end fin]; simp
  | succ k ih =>
   intro i hi
   have hlt : i < xs.length := by omega
   rw [List.drop_eq_getElem_cons hlt, List.any_cons, List.findIdx_cons]
   cases hp : p xs[i] with
   | false =>
    rw [loopO_go (step i hlt hp), ih (i + 1) (by omega)]
    simp only [Bool.false_or, cond_false]
    congr 2
    congr 1
    omega
   | true => rw [loopO_end (out i hlt hp)]; simp
 have := key xs.length 0 (by omega)
 simpa using this
theorem succ64 {i : Nat} (h : i < 4611686018427387904) : IntKind.i64.wrap ((i : Int) + 1) = ((i + 1 : Nat) : Int) := by rw [wrap64 (by omega)]; rfl
theorem chk_true {b : Bool} (h : b = true) : chk b = some () := by subst h; rfl

def Byt (l : List Int) : Prop := ∀ c ∈ l, 0 ≤ c ∧ c < 256
theorem Byt.nil : Byt [] := fun c h => by cases h
theorem Byt.cons {c : Int} {l : List Int} (h0 : 0 ≤ c ∧ c < 256) (h : Byt l) : Byt (c :: l) := fun d hd => by
 rcases List.mem_cons.1 hd with rfl | hd
 ·exact h0
 ·exact h d hd
theorem Byt.head {c : Int} {l : List Int} (h : Byt (c :: l)) : 0 ≤ c ∧ c < 256 := h c (by simp)
theorem Byt.tail {c : Int} {l : List Int} (h : Byt (c :: l)) : Byt l := fun d hd => h d (by simp [hd])
theorem Byt.app {a b : List Int} (h : Byt a) (k : Byt b) : Byt (a ++ b) := fun c hc => by
 rcases List.mem_append.1 hc with hc | hc
 ·exact h c hc
 ·exact k c hc
theorem Byt.take {a : List Int} (h : Byt a) (n : Nat) : Byt (a.take n) := fun c hc => h c (List.mem_of_mem_take hc)
theorem Byt.drop {a : List Int} (h : Byt a) (n : Nat) : Byt (a.drop n) := fun c hc => h c (List.mem_of_mem_drop hc)
theorem Byt.left {a b : List Int} (h : Byt (a ++ b)) : Byt a := fun c hc => h c (by simp [hc])
theorem Byt.right {a b : List Int} (h : Byt (a ++ b)) : Byt b := fun c hc => h c (by simp [hc])
def i64r (n : Int) : Prop := -9223372036854775808 ≤ n ∧ n ≤ 9223372036854775807
structure VOK (v : Ap) : Prop where
 kind : i64r v.fKind
 int : i64r v.fInt
 text : Byt v.fText
abbrev vNull : Ap := ⟨0, false, 0, []⟩
abbrev vBool (b : Bool) : Ap := ⟨1, b, 0, []⟩
abbrev vInt (n : Int) : Ap := ⟨2, false, n, []⟩
abbrev vText (t : List Int) : Ap := ⟨3, false, 0, t⟩
def right (v : Ap) : Bool :=
 if v.fKind == 0 then decide (v = vNull) else if v.fKind == 1 then decide (v = vBool v.fBool) else if v.fKind == 2 then decide (v = vInt v.fInt) else
 if v.fKind == 3 then decide (v = vText v.fText) && decide ((v.fText.length : Int) ≤ 64) else false
theorem value_Right_eq (v : Ap) : value_Right v = some (right v) := by
 obtain ⟨k, b, n, t⟩ := v
 unfold value_Right right value_Null value_Bool value_Int value_Text value_Right_j1
 simp only [Option.bind_some]
 by_cases h0 : k = 0
 ·subst h0; rfl
 by_cases h1 : k = 1
 ·subst h1; rfl
 by_cases h2 : k = 2
 ·subst h2; rfl
 by_cases h3 : k = 3
 ·subst h3
  by_cases h : (⟨3, b, n, t⟩ : Ap) = vText t
  ·simp [h]
  ·simp [h]
 have e0 : (k == 0) = false := by simpa using h0
 have e1 : (k == 1) = false := by simpa using h1
 have e2 : (k == 2) = false := by simpa using h2
 have e3 : (k == 3) = false := by simpa using h3
 simp only [e0, e1, e2, e3]; rfl
theorem ref_Right_eq (v : Ap) : r2_Right v = some (right v) := by
 obtain ⟨k, b, n, t⟩ := v
 unfold r2_Right r2_Right_j1 r2_Right_j2 r2_Right_j3 r2_Right_j4 right
 by_cases h0 : k = 0
 ·subst h0
  by_cases h : b = false ∧ n = 0 ∧ t = []
  ·simp [h]
  ·simp [h]
 by_cases h1 : k = 1
 ·subst h1
  by_cases h : n = 0 ∧ t = []
  ·simp [h]
  ·simp [h]
 by_cases h2 : k = 2
 ·subst h2
  by_cases h : b = false ∧ t = []
  ·simp [h]
  ·simp [h]
 by_cases h3 : k = 3
 ·subst h3; simp
  by_cases h : b = false ∧ n = 0
  ·simp [h]
  ·rw [if_neg h]; simp; intro h5 h6; exact absurd ⟨h5, h6⟩ h
 have e0 : (k == 0) = false := by simpa using h0
 have e1 : (k == 1) = false := by simpa using h1
 have e2 : (k == 2) = false := by simpa using h2
 have e3 : (k == 3) = false := by simpa using h3
 simp only [e0, e1, e2, e3, Bool.false_eq_true, if_false]
 by_cases h4 : 0 ≤ k
 ·by_cases h5 : k ≤ 3
  ·omega
  ·simp [h5]
 ·simp [h4]
inductive Rgt : Ap → Prop
 | null : Rgt vNull
 | bool (b : Bool) : Rgt (vBool b)
 | int (n : Int) (h : i64r n) : Rgt (vInt n)
 | text (t : List Int) (h : Byt t) (hl : t.length ≤ 64) : Rgt (vText t)
theorem Rgt.of {v : Ap} (h : VOK v) (hr : right v = true) : Rgt v := by
 unfold right at hr
 split at hr
 ·have := of_decide_eq_true hr; rw [this]; exact .null
 split at hr
 ·have := of_decide_eq_true hr; rw [this]; exact .bool _
 split at hr
 ·have := of_decide_eq_true hr; rw [this]; exact .int _ h.int
 split at hr
 ·simp only [Bool.and_eq_true, decide_eq_true_eq] at hr
  rw [hr.1]; exact .text _ h.text (by omega)
 ·cases hr
theorem Rgt.right {v : Ap} (h : Rgt v) : right v = true := by
 cases h with
 | null => rfl
 | bool b => cases b <;> rfl
 | int n _ => simp [Go.Proofs.YthbonoagbeilkaaGreat.Hay.right]
 | text t _ hl => simp [Go.Proofs.YthbonoagbeilkaaGreat.Hay.right]; omega
theorem Rgt.ok {v : Ap} (h : Rgt v) : VOK v := by
 cases h with
 | null => exact ⟨by simp [i64r], by simp [i64r], Byt.nil⟩
 | bool b => exact ⟨by simp [i64r], by simp [i64r], Byt.nil⟩
 | int n h => exact ⟨by simp [i64r], h, Byt.nil⟩
 | text t h _ => exact ⟨by simp [i64r], by simp [i64r], h⟩
def oneB (v : Ap) : List Int :=
 if v.fKind = 1 then [1, if v.fBool then 1 else 0] else if v.fKind = 2 then 2 :: be8 (v.fInt % 18446744073709551616) else if v.fKind = 3 then 3 :: (v.fText.length : Int) :: v.fText else [v.fKind]
theorem oneB_null : oneB vNull = [0] := rfl
theorem oneB_bool (b : Bool) : oneB (vBool b) = [1, if b then 1 else 0] := rfl
theorem oneB_int (n : Int) : oneB (vInt n) = 2 :: be8 (n % 18446744073709551616) := rfl
theorem oneB_text (t : List Int) : oneB (vText t) = 3 :: (t.length : Int) :: t := rfl
theorem oneB_byt {v : Ap} (h : Rgt v) : Byt (oneB v) := by
 cases h with
 | null => exact .cons (by decide) .nil
 | bool b => exact .cons (by decide) (.cons (by cases b <;> decide) .nil)
 | int n h => exact .cons (by decide) (be8_bytes _)
 | text t h hl => exact .cons (by decide) (.cons (by show 0 ≤ (t.length : Int) ∧ (t.length : Int) < 256; omega) h)
theorem oneB_len {v : Ap} (h : Rgt v) : 1 ≤ (oneB v).length ∧ (oneB v).length ≤ 66 := by
 cases h with
 | null => decide
 | bool b => cases b <;> decide
 | int n h => rw [oneB_int]; simp [be8_length]
 | text t h hl => rw [oneB_text]; simp; omega
theorem rows_eight_eq {p : List Int} (n : Int) (hp : p.length + 8 ≤ 140737488355328) : rows_eight p n = some (p ++ be8 n) := by
 unfold rows_eight
 refine loop_seq (fun i => ((i : Int), (be8 n).take i ++ List.replicate (8 - i) 0)) 8 rfl ?_ ?_
 ·intro i hi
  dsimp only
  unfold rows_eight_b1
  have h1 : decide ((i : Int) < 8) = true := by simpa using by omega
  have h2 : IntKind.i64.wrap (8 * (i : Int)) = ((8 * i : Nat) : Int) := by rw [wrap64 (by omega)]; omega
  have h3 : IntKind.i64.wrap (56 - ((8 * i : Nat) : Int)) = ((56 - 8 * i : Nat) : Int) := by rw [wrap64 (by omega)]; omega
  rw [if_pos h1, h2, h3, shr64 (by omega), wrapu8, succ64 (by omega), chk_true (by simp), Option.bind_some]
  have hl : ((be8 n).take i ++ List.replicate (8 - i) (0 : Int)).length = 8 := by simp [be8_length]; omega
  have hj : ix ((be8 n).take i ++ List.replicate (8 - i) (0 : Int)) (i : Int) = some i := by unfold ix; rw [if_pos (by rw [hl]; omega)]; simp
  rw [hj, Option.bind_some, List.getElem?_eq_getElem (by omega), Option.bind_some]
  have : i = 0 ∨ i = 1 ∨ i = 2 ∨ i = 3 ∨ i = 4 ∨ i = 5 ∨ i = 6 ∨ i = 7 := by omega
  rcases this with rfl | rfl | rfl | rfl | rfl | rfl | rfl | rfl <;> simp [be8, List.replicate]
 ·unfold rows_eight_b1 rows_eight_j1
  have e : (be8 n).take 8 ++ List.replicate (8 - 8) (0 : Int) = be8 n := by simp [be8]
  dsimp only
  rw [if_neg (by simp)]
  rw [e, app_of (by simp [be8_length]; omega)]; rfl
theorem rows_one_eq {p : List Int} {v : Ap} (h : Rgt v) (hp : p.length + 66 ≤ 140737488355328) : rows_one p v = some (p ++ oneB v) := by
 unfold rows_one
 rw [app_of (by simp; omega), Option.bind_some]
 cases h with
 | null => simp [oneB, wrapu8]
 | bool b =>
  cases b
  ·simp only [oneB, wrapu8]
   rw [if_pos (by decide), if_neg (by decide), app_of (by simp; omega)]; simp
  ·simp only [oneB, wrapu8]
   rw [if_pos (by decide), if_pos (by decide), app_of (by simp; omega)]; simp
 | int n h =>
  simp only [wrapu8, wrapu64, oneB]
  rw [if_neg (by decide), if_pos (by decide), rows_eight_eq _ (by simp; omega)]
  simp
 | text t h hl =>
  simp only [wrapu8, oneB]
  rw [if_neg (by decide), if_neg (by decide), if_pos (by decide), app_of (by simp; omega), Option.bind_some, app_of (by simp; omega)]
  simp
  omega
theorem rows_may_eq (l : List Ap) (hl : l.length ≤ 281474976710656) : rows_may l = some (l.all right && decide (l.length ≤ 16)) := by
 have h : rows_may l = some (if l.all right then decide ((l.length : Int) ≤ 16) else false) := by
  unfold rows_may
  refine loop_all l right _ _ (fun i h hp => ?_) (fun i h hp => ?_) ?_
  ·unfold rows_may_b1
   rw [if_pos (by simpa using h), idx_of h, Option.bind_some, value_Right_eq, Option.bind_some, hp, if_neg (by decide), succ64 (by omega)]
  ·unfold rows_may_b1
   rw [if_pos (by simpa using h), idx_of h, Option.bind_some, value_Right_eq, Option.bind_some, hp]; rfl
  ·unfold rows_may_b1 rows_may_j1
   rw [if_neg (by simp)]; rfl
 rw [h]
 cases l.all right <;> simp
 omega
def rowB (l : List Ap) : List Int := (l.length : Int) :: l.flatMap oneB
theorem flat_len {l : List Ap} (h : ∀ v ∈ l, Rgt v) : (l.flatMap oneB).length ≤ 66 * l.length := by
 induction l with
 | nil => simp
 | cons v r ih =>
  have := (oneB_len (h v (by simp))).2
  have := ih (fun x hx => h x (by simp [hx]))
  rw [List.flatMap_cons, List.length_append, List.length_cons]; omega
theorem take_flat {α : Type} {l : List α} {f : α → List Int} {i : Nat} (h : i < l.length) : (l.take (i + 1)).flatMap f = (l.take i).flatMap f ++ f l[i] := by
 rw [List.take_succ_eq_append_getElem h, List.flatMap_append, List.flatMap_singleton]
theorem rows_Encode_eq {l : List Ap} (h : ∀ v ∈ l, Rgt v) (hl : l.length ≤ 16) : rows_Encode l = some (rowB l, 0) := by
 unfold rows_Encode
 rw [rows_may_eq l (by omega), Option.bind_some]
 have ha : l.all right = true := by rw [List.all_eq_true]; exact fun v hv => (h v hv).right
 rw [ha, if_neg (by simpa using hl)]
 refine loop_seq (fun i => ((l.length : Int) :: (l.take i).flatMap oneB, (i : Int))) l.length (by simp [wrapu8]; omega) (fun i hi => ?_) ?_
 ·dsimp only
  unfold rows_Encode_b1
  have := flat_len (l := l.take i) fun v hv => h v (List.mem_of_mem_take hv)
  rw [if_pos (by simpa using hi), idx_of hi, Option.bind_some, rows_one_eq (h _ (List.getElem_mem hi)) (by simp at this ⊢; omega), Option.bind_some, succ64 (by omega), take_flat hi]
  rfl
 ·unfold rows_Encode_b1 rows_Encode_j1
  rw [if_neg (by simp)]; simp [rowB]
theorem encode_one_eq {v : Ap} (h : Rgt v) : encode_one v = some (oneB v) := by
 unfold encode_one
 rw [rows_Encode_eq (l := [v]) (by simpa using h) (by simp), Option.bind_some]
 have : sub (rowB [v]) 1 ((rowB [v]).length : Int) = some (oneB v) := by
  have := sub_of (xs := rowB [v]) (lo := 1) (hi := (rowB [v]).length) (by simp [rowB]) (Nat.le_refl _)
  rw [show ((1 : Nat) : Int) = 1 from rfl] at this
  rw [this]; simp [rowB]
 dsimp only
 rw [this]; rfl
theorem ref_One_eq {v : Ap} (h : Rgt v) : r3_One v = some (oneB v) := by
 unfold r3_One r3_One_j1
 cases h with
 | null => simp [oneB, wrapu8]
 | bool b => cases b <;> simp [oneB, wrapu8, app]
 | int n h =>
  simp only [wrapu8, wrapu64, oneB]
  rw [if_neg (by decide), if_neg (by decide), if_neg (by decide), if_pos (by decide), number_eq, Option.bind_some, app_of (by simp [be8_length])]
  simp
 | text t h hl =>
  simp only [wrapu8, oneB]
  rw [if_neg (by decide), if_neg (by decide), if_neg (by decide), if_neg (by decide), if_pos (by decide), app_of (by simp), Option.bind_some, app_of (by simp; omega)]
  simp
  omega
end Go.Proofs.YthbonoagbeilkaaGreat.Hay
namespace Go.Proofs.YthbonoagbeilkaaGreat.Hay
def parse : List Int → Option (Ap × Nat)
 | [] => none
 | k :: b =>
  if k = 0 then some (vNull, 1) else
  if k = 1 then (match b with | c :: _ => if c ≤ 1 then some (vBool (c == 1), 2) else none | [] => none) else
  if k = 2 then (if 8 ≤ b.length then some (vInt (IntKind.i64.wrap (said (b.take 8))), 9) else none) else
  if k = 3 then (match b with | c :: r => if c ≤ 64 ∧ c ≤ (r.length : Int) then some (vText (r.take c.toNat), 2 + c.toNat) else none | [] => none) else none
theorem be8_said {l : List Int} (h : Byt l) (hl : l.length = 8) : be8 (said l) = l := by
 match l, hl with
 | [a, b, c, d, e, f, g, i], _ =>
  have ha := h a (by simp); have hb := h b (by simp); have hc := h c (by simp); have hd := h d (by simp)
  have he := h e (by simp); have hf := h f (by simp); have hg := h g (by simp); have hi := h i (by simp)
  simp only [be8, said, List.foldl_cons, List.foldl_nil, List.cons.injEq, and_true]
  refine ⟨?_, ?_, ?_, ?_, ?_, ?_, ?_, ?_⟩ <;> omega
theorem wrap_i64 (n : Int) : IntKind.i64.wrap n = (n + 9223372036854775808) % 18446744073709551616 - 9223372036854775808 := by
 simp only [IntKind.wrap, IntKind.bits, IntKind.signed]; simp; omega
theorem wrap_mod {n : Int} (h : 0 ≤ n ∧ n < 18446744073709551616) : IntKind.i64.wrap n % 18446744073709551616 = n := by
 rw [wrap_i64]; omega
theorem mod_wrap {n : Int} (h : i64r n) : IntKind.i64.wrap (n % 18446744073709551616) = n := by
 rw [wrap_i64]; unfold i64r at h; omega
theorem wrap_r (n : Int) : i64r (IntKind.i64.wrap n) := by rw [wrap_i64]; unfold i64r; omega
theorem parse_one {v : Ap} (h : Rgt v) (r : List Int) : parse (oneB v ++ r) = some (v, (oneB v).length) := by
 cases h with
 | null => simp [oneB_null, parse]
 | bool b => cases b <;> simp [oneB_bool, parse]
 | int n h =>
  rw [oneB_int]
  have h1 : ¬ ((2 : Int) = 0) := by decide
  have h2 : ¬ ((2 : Int) = 1) := by decide
  have h3 : 8 ≤ (be8 (n % 18446744073709551616) ++ r).length := by simp [be8_length]
  have h4 : (be8 (n % 18446744073709551616) ++ r).take 8 = be8 (n % 18446744073709551616) := List.take_left' (be8_length _)
  simp only [List.cons_append, parse]
  rw [if_neg h1, if_neg h2, if_pos trivial, if_pos h3, h4, said_be8 (by omega) (by omega), mod_wrap h]
  simp [be8_length]
 | text t h hl =>
  rw [oneB_text]
  simp only [List.cons_append, parse]
  rw [if_neg (by decide), if_neg (by decide), if_neg (by decide), if_pos trivial, if_pos (by simp; omega)]
  simp
  omega
theorem parse_some {b : List Int} {v : Ap} {n : Nat} (hb : Byt b) (h : parse b = some (v, n)) : Rgt v ∧ ∃ r, b = oneB v ++ r ∧ n = (oneB v).length := by
 cases b with
 | nil => cases h
 | cons k b =>
  simp only [parse] at h
  split at h
  ·rename_i hk; subst hk
   simp only [Option.some.injEq, Prod.mk.injEq] at h
   obtain ⟨rfl, rfl⟩ := h
   exact ⟨.null, b, rfl, rfl⟩
  split at h
  ·rename_i hk; subst hk
   cases b with
   | nil => cases h
   | cons c r =>
    simp only at h
    split at h
    ·rename_i hc
     simp only [Option.some.injEq, Prod.mk.injEq] at h
     obtain ⟨rfl, rfl⟩ := h
     have h0 := hb.tail.head
     have : c = 0 ∨ c = 1 := by omega
     rcases this with rfl | rfl
     ·exact ⟨.bool _, r, rfl, rfl⟩
     ·exact ⟨.bool _, r, rfl, rfl⟩
    ·cases h
  split at h
  ·rename_i hk; subst hk
   split at h
   ·rename_i hl
    simp only [Option.some.injEq, Prod.mk.injEq] at h
    obtain ⟨rfl, rfl⟩ := h
    have h8 : (b.take 8).length = 8 := by simp; omega
    have hbd := said_bd (b.take 8) (hb.tail.take 8)
    rw [h8] at hbd
    refine ⟨.int _ (wrap_r _), b.drop 8, ?_, ?_⟩
    ·rw [oneB_int, wrap_mod (by omega), be8_said (hb.tail.take 8) h8]
     simp
    ·rw [oneB_int]; simp [be8_length]
   ·cases h
  split at h
  ·rename_i hk; subst hk
   cases b with
   | nil => cases h
   | cons c r =>
    simp only at h
    split at h
    ·rename_i hc
     simp only [Option.some.injEq, Prod.mk.injEq] at h
     obtain ⟨rfl, rfl⟩ := h
     have h0 := hb.tail.head
     refine ⟨.text _ (hb.tail.tail.take _) (by simp; omega), r.drop c.toNat, ?_, ?_⟩
     ·rw [oneB_text]
      have : ((r.take c.toNat).length : Int) = c := by simp; omega
      rw [this]; simp
     ·rw [oneB_text]; simp; omega
    ·cases h
  ·cases h
theorem parse_bd {b : List Int} {v : Ap} {n : Nat} (hb : Byt b) (h : parse b = some (v, n)) : 1 ≤ n ∧ n ≤ 66 ∧ n ≤ b.length := by
 obtain ⟨h1, r, rfl, rfl⟩ := parse_some hb h
 have := oneB_len h1
 simp; omega
theorem parse_take {b : List Int} {v : Ap} {n k : Nat} (hb : Byt b) (h : parse (b.take k) = some (v, n)) : parse b = some (v, n) ∧ n ≤ k := by
 obtain ⟨h1, r, h2, rfl⟩ := parse_some (hb.take k) h
 have h3 : b = oneB v ++ (r ++ b.drop k) := by rw [← List.append_assoc, ← h2]; simp
 refine ⟨by rw [h3]; exact parse_one h1 _, ?_⟩
 have := congrArg List.length h2
 simp at this; omega
theorem parse_take_ge {b : List Int} {v : Ap} {n k : Nat} (hb : Byt b) (h : parse b = some (v, n)) (hk : n ≤ k) : parse (b.take k) = some (v, n) := by
 obtain ⟨h1, r, rfl, rfl⟩ := parse_some hb h
 rw [List.take_append, List.take_of_length_le hk]
 exact parse_one h1 _
theorem or_add {x y : Int} (k : Nat) (hx : 0 ≤ x) (h0 : 0 ≤ y) (hy : y < 2 ^ k) (hs : x * 2 ^ k + y < 18446744073709551616) : bOr .u64 (x * 2 ^ k) y = x * 2 ^ k + y := by
 obtain ⟨a, rfl⟩ := Int.eq_ofNat_of_zero_le hx
 obtain ⟨b, rfl⟩ := Int.eq_ofNat_of_zero_le h0
 have e : (a : Int) * 2 ^ k = ((2 ^ k * a : Nat) : Int) := by rw [Int.natCast_mul, Int.natCast_pow, Int.mul_comm]; rfl
 have e2 : ((2 : Int) ^ k) = ((2 ^ k : Nat) : Int) := by rw [Int.natCast_pow]; rfl
 rw [e2] at hy
 rw [e] at hs ⊢
 have hb : b < 2 ^ k := by omega
 rw [or64 (by omega) (by omega), ← Nat.two_pow_add_eq_or_of_lt hb]
 omega
theorem rows_number_eq {b : List Int} (hb : Byt b) (hl : 8 ≤ b.length) : rows_number b = some (said (b.take 8)) := by
 unfold rows_number
 refine loop_seq (fun i => (said (b.take i), (i : Int))) 8 (by simp [said]) (fun i hi => ?_) ?_
 ·dsimp only
  unfold rows_number_b1
  have hi' : i < b.length := by omega
  have hbd := said_bd (b.take i) (hb.take i)
  have hci := hb b[i] (List.getElem_mem hi')
  have hp : (256 : Int) ^ (b.take i).length ≤ 256 ^ 7 := by
   have : (b.take i).length ≤ 7 := by simp; omega
   have h9 := Nat.pow_le_pow_right (show 0 < 256 by omega) this
   have h8 := Int.ofNat_le.2 h9
   simpa [Int.natCast_pow] using h8
  have hsh := shl64 (x := said (b.take i)) (k := 8) (by omega)
  rw [show ((8 : Nat) : Int) = 8 from rfl] at hsh
  have e : said (b.take (i + 1)) = said (b.take i) * 256 + b[i] := by
   rw [List.take_succ_eq_append_getElem hi', said_append]
  have e1 : said (b.take i) * 2 ^ 8 % 18446744073709551616 = said (b.take i) * 2 ^ 8 := by omega
  have e2 : b[i] % 18446744073709551616 = b[i] := by omega
  rw [if_pos (by simpa using by omega), idx_of hi', Option.bind_some, succ64 (by omega), hsh, wrapu64, e, e1, e2, or_add 8 (by omega) (by omega) (by omega) (by omega)]
  rfl
 ·unfold rows_number_b1 rows_number_j1
  dsimp only
  rw [if_neg (by simp)]; rfl
theorem idx_cons0 {α : Type} (a : α) (l : List α) : idx (a :: l) 0 = some a := idx_of (xs := a :: l) (i := 0) (by simp)
theorem idx_cons1 {α : Type} (a b : α) (l : List α) : idx (a :: b :: l) 1 = some b := idx_of (xs := a :: b :: l) (i := 1) (by simp)
theorem sub_from {α : Type} {xs : List α} {k : Nat} (h : k ≤ xs.length) : sub xs (k : Int) (xs.length : Int) = some (xs.drop k) := by
 rw [sub_of h (Nat.le_refl _), List.take_length]
theorem sub_from1 {α : Type} (a : α) (l : List α) : sub (a :: l) 1 ((a :: l).length : Int) = some l := by
 have := sub_from (xs := a :: l) (k := 1) (by simp)
 simpa using this
theorem byte64 {c : Int} (h : 0 ≤ c ∧ c < 256) : IntKind.i64.wrap c = c := wrap64 (by omega)
theorem rows_read_eq {b : List Int} (hb : Byt b) : rows_read b = some (match parse b with | some (v, n) => (v, b.drop n, true) | none => (vNull, [], false)) := by
 cases b with
 | nil => rfl
 | cons k r =>
  have hk := hb.head
  have hr := hb.tail
  unfold rows_read
  rw [if_neg (by simp; omega), idx_cons0, Option.bind_some, sub_from1, Option.bind_some, byte64 hk]
  by_cases h0 : k = 0
  ·subst h0; simp [parse, value_Null]
  rw [if_neg (by simpa using h0)]
  have e0 : rows_read_j3 r false = some (vNull, [], false) := rfl
  by_cases h1 : k = 1
  ·subst h1
   have e2 : rows_read_j1 1 r false = some (vNull, [], false) := rfl
   rw [if_pos (by simp)]
   cases r with
   | nil => simp [parse, e2]
   | cons c r =>
    rw [if_pos (by simp; omega), idx_cons0, Option.bind_some]
    by_cases hc : c ≤ 1
    ·unfold rows_read_j1
     rw [if_pos (by simpa using hc), idx_cons0, Option.bind_some, sub_from1]
     simp [parse, hc, value_Bool]
    ·have : decide (c ≤ 1) = false := by simpa using hc
     rw [this, e2]
     simp [parse, hc]
  rw [if_neg (by simpa using h1)]
  unfold rows_read_j1
  rw [if_neg (by decide), byte64 hk]
  by_cases h2 : k = 2
  ·subst h2
   rw [if_pos (by simp)]
   unfold rows_read_j2
   by_cases hl : 8 ≤ r.length
   ·have hs := sub_from (xs := r) (k := 8) hl
    rw [show ((8 : Nat) : Int) = 8 from rfl] at hs
    rw [if_pos (by simpa using by omega), rows_number_eq hr hl, Option.bind_some]
    unfold value_Int
    rw [Option.bind_some, hs]
    simp [parse, hl]
   ·rw [if_neg (by simpa using by omega), if_neg (by decide), e0]
    simp [parse, hl]
  rw [if_neg (by simpa using h2)]
  unfold rows_read_j2
  rw [if_neg (by decide), byte64 hk]
  by_cases h3 : k = 3
  ·subst h3
   rw [if_pos (by simp)]
   cases r with
   | nil => simp [parse, e0]
   | cons c r =>
    have hc := hr.head
    rw [if_pos (by simp; omega), idx_cons0, Option.bind_some]
    by_cases hc64 : c ≤ 64
    ·rw [if_pos (by simpa using hc64), Option.bind_some, byte64 hc]
     by_cases hl : c ≤ (r.length : Int)
     ·obtain ⟨n, rfl⟩ := Int.eq_ofNat_of_zero_le hc.1
      have e3 : IntKind.u8.wrap (1 + (n : Int)) = ((1 + n : Nat) : Int) := by rw [wrapu8]; omega
      have hs := sub_of (xs := (n : Int) :: r) (lo := 1) (hi := 1 + n) (by omega) (by simp; omega)
      rw [show ((1 : Nat) : Int) = 1 from rfl] at hs
      have hs2 := sub_from (xs := (n : Int) :: r) (k := 1 + n) (by simp; omega)
      unfold rows_read_j3
      rw [if_pos (by simp; omega), idx_cons0, Option.bind_some, e3, hs, Option.bind_some]
      unfold value_Text
      rw [Option.bind_some, Option.bind_some, e3, hs2]
      have e5 : parse (3 :: (n : Int) :: r) = some (vText (r.take n), 2 + n) := by
       simp only [parse]
       rw [if_neg (by decide), if_neg (by decide), if_neg (by decide), if_pos trivial, if_pos ⟨hc64, hl⟩]; simp
      rw [e5]
      simp only [Option.bind_some, Option.some.injEq, Prod.mk.injEq, and_true]
      have e6 : 1 + n = n + 1 := by omega
      have e7 : 2 + n = n + 1 + 1 := by omega
      rw [e6, e7]; simp
     ·have : decide (c < (((c :: r).length : Nat) : Int)) = false := by simp; omega
      rw [this, e0]; simp [parse, hl]
    ·rw [if_neg (by simpa using hc64), e0]; simp [parse, hc64]
  rw [if_neg (by simpa using h3), e0]
  simp [parse, h0, h1, h2, h3]
def parseN : Nat → List Int → Option (List Ap × List Int)
 | 0, b => some ([], b)
 | n + 1, b => match parse b with
  | some (v, k) => (parseN n (b.drop k)).map fun x => (v :: x.1, x.2)
  | none => none
theorem rows_Decode_loop (many : Nat) (hm : many ≤ 255) : ∀ (n i : Nat) (b : List Int) (acc : List Ap), i + n = many → Byt b → acc.length = i →
  loopO (fun s : ((List Int) × (List Ap) × Int) => rows_Decode_b1 (many : Int) s.1 s.2.1 s.2.2) (b, acc, (i : Int)) = some (match parseN n b with | some (l, []) => (acc ++ l, 0) | _ => ([], 30)) := by
 intro n
 induction n with
 | zero =>
  intro i b acc hi hb ha
  apply loopO_end
  dsimp only
  unfold rows_Decode_b1 rows_Decode_j2
  rw [if_neg (by rw [wrap64 (by omega)]; simp; omega)]
  cases b with
  | nil => simp [parseN]
  | cons c r => simp [parseN]
 | succ n ih =>
  intro i b acc hi hb ha
  have step : rows_Decode_b1 (many : Int) b acc (i : Int) = match parse b with | some (v, k) => some (.inl (b.drop k, acc ++ [v], ((i + 1 : Nat) : Int))) | none => some (.inr ([], 30)) := by
   unfold rows_Decode_b1
   rw [if_pos (by rw [wrap64 (by omega)]; simp; omega), rows_read_eq hb, Option.bind_some]
   cases hp : parse b with
   | none => rfl
   | some x =>
    obtain ⟨v, k⟩ := x
    simp only [Bool.not_true, Bool.false_eq_true, if_false]
    rw [app_of (by simp; omega), Option.bind_some, succ64 (by omega)]
  simp only [parseN]
  cases hp : parse b with
  | none => rw [hp] at step; rw [loopO_end (by dsimp only; exact step)]
  | some x =>
   obtain ⟨v, k⟩ := x
   rw [hp] at step
   rw [loopO_go (by dsimp only; exact step), ih (i + 1) _ _ (by omega) (hb.drop _) (by simp; omega)]
   dsimp only
   cases hq : parseN n (b.drop k) with
   | none => rfl
   | some y =>
    obtain ⟨l, r⟩ := y
    cases r <;> simp
theorem rows_Decode_eq {b : List Int} (hb : Byt b) : rows_Decode b = some (match b with | [] => ([], 30) | c :: r => if c ≤ 16 then (match parseN c.toNat r with | some (l, []) => (l, 0) | _ => ([], 30)) else ([], 30)) := by
 cases b with
 | nil => rfl
 | cons c r =>
  have hc := hb.head
  unfold rows_Decode
  rw [if_neg (by simp; omega), idx_cons0, Option.bind_some]
  unfold rows_Decode_j1
  by_cases h : c ≤ 16
  ·rw [if_neg (by simpa using h), idx_cons0, Option.bind_some, sub_from1, Option.bind_some]
   have := rows_Decode_loop c.toNat (by omega) c.toNat 0 r [] (by omega) hb.tail rfl
   rw [show ((c.toNat : Nat) : Int) = c by omega] at this
   rw [show ((0 : Nat) : Int) = 0 from rfl] at this
   rw [this]
   simp [h]
  ·rw [if_pos (by simpa using by omega)]; simp [h]
theorem rows_Decode_one {c : List Int} (hb : Byt c) : rows_Decode (1 :: c) = some (match parse c with | some (v, k) => if k = c.length then ([v], 0) else ([], 30) | none => ([], 30)) := by
 rw [rows_Decode_eq (hb.cons (by decide))]
 simp only [show ((1 : Int) ≤ 16) = True by simp, if_true, show (1 : Int).toNat = 1 from rfl, parseN]
 cases hp : parse c with
 | none => rfl
 | some x =>
  obtain ⟨v, k⟩ := x
  have := (parse_bd hb hp).2.2
  simp only [Option.map_some]
  by_cases h : k = c.length
  ·subst h; simp
  ·rw [if_neg h]
   cases hd : c.drop k with
   | nil => have := List.drop_eq_nil_iff.1 hd; omega
   | cons _ _ => rfl
theorem value_eq {r : Encode_reader} (hb : Byt r.fB) (hl : r.fB.length < 140737488355328) : encode_reader_value r = some (match parse r.fB with | some (v, n) => (v, ⟨r.fB.drop n, r.fOk⟩) | none => (vNull, ⟨r.fB, false⟩)) := by
 unfold encode_reader_value
 have step : ∀ k, 1 ≤ k → k ≤ r.fB.length → k ≤ 66 → encode_reader_value_b1 r (k : Int) = match parse (r.fB.take k) with | some (v, n) => (if n = k then some (.inr (v, ⟨r.fB.drop k, r.fOk⟩)) else some (.inl ((k + 1 : Nat) : Int))) | none => some (.inl ((k + 1 : Nat) : Int)) := by
  intro k h1 h2 h3
  have hs := sub_of (xs := r.fB) (lo := 0) (hi := k) (by omega) h2
  rw [show ((0 : Nat) : Int) = 0 from rfl] at hs
  unfold encode_reader_value_b1 encode_reader_value_j2
  rw [if_pos (by simpa using by omega), if_pos (by simp; omega), hs, Option.bind_some, app_of (by simp; omega), Option.bind_some, List.drop_zero, List.singleton_append, rows_Decode_one (hb.take _), Option.bind_some, sub_from h2, succ64 (by omega)]
  have hlen : (r.fB.take k).length = k := by simp; omega
  cases hp : parse (r.fB.take k) with
  | none => rfl
  | some x =>
   obtain ⟨v, n⟩ := x
   simp only [hlen]
   by_cases e : n = k
   ·rw [if_pos e, if_pos e]; rfl
   ·rw [if_neg e, if_neg e]; rfl
 cases hp : parse r.fB with
 | some x =>
  obtain ⟨v, n⟩ := x
  have hn := parse_bd hb hp
  refine loop_seq (fun i => ((i + 1 : Nat) : Int)) (n - 1) rfl (fun i hi => ?_) ?_
  ·rw [step (i + 1) (by omega) (by omega) (by omega)]
   cases hq : parse (r.fB.take (i + 1)) with
   | none => rfl
   | some y =>
    obtain ⟨v', n'⟩ := y
    obtain ⟨h1, h2⟩ := parse_take hb hq
    rw [hp] at h1
    simp only [Option.some.injEq, Prod.mk.injEq] at h1
    omega
  ·have e : n - 1 + 1 = n := by omega
   rw [e, step n (by omega) (by omega) (by omega), parse_take_ge hb hp (Nat.le_refl _)]
   simp
 | none =>
  refine loop_seq (fun i => ((i + 1 : Nat) : Int)) (min r.fB.length 66) rfl (fun i hi => ?_) ?_
  ·rw [step (i + 1) (by omega) (by omega) (by omega)]
   cases hq : parse (r.fB.take (i + 1)) with
   | none => rfl
   | some y =>
    obtain ⟨v', n'⟩ := y
    obtain ⟨h1, h2⟩ := parse_take hb hq
    rw [hp] at h1; cases h1
  ·have e0 : encode_reader_value_j2 r ((min r.fB.length 66 + 1 : Nat) : Int) false = some (.inr (vNull, ⟨r.fB, false⟩)) := rfl
   unfold encode_reader_value_b1
   split
   ·have : decide (((min r.fB.length 66 + 1 : Nat) : Int) ≤ 66) = false := by
     rename_i h; simp at h ⊢; omega
    rw [this, e0]
   ·exact e0
theorem Front_eq {b : List Int} (hb : Byt b) : r3_Front b = some (match parse b with | some (v, n) => (v, (n : Int)) | none => (vNull, 0)) := by
 cases b with
 | nil => rfl
 | cons k r =>
  have hk := hb.head
  have hr := hb.tail
  have f4 : r3_Front_j4 (k :: r) false = some (vNull, 0) := rfl
  have hf3 : r3_Front_j3 (k :: r) false = if k = 3 then some (match r with | c :: r' => if c ≤ 64 ∧ c ≤ (r'.length : Int) then (vText (r'.take c.toNat), ((2 + c.toNat : Nat) : Int)) else (vNull, 0) | [] => (vNull, 0)) else some (vNull, 0) := by
   unfold r3_Front_j3
   rw [if_neg (by decide)]
   cases r with
   | nil => rw [if_neg (by simp), f4]; simp
   | cons c r' =>
    rw [if_pos (by simp; omega), idx_cons0, Option.bind_some]
    by_cases h3 : k = 3
    ·subst h3
     rw [if_pos (by simp), if_pos rfl, idx_cons1, Option.bind_some]
     have hc := hr.head
     by_cases hc64 : c ≤ 64
     ·obtain ⟨n, rfl⟩ := Int.eq_ofNat_of_zero_le hc.1
      have e3 : IntKind.i64.wrap (2 + IntKind.i64.wrap (n : Int)) = ((2 + n : Nat) : Int) := by rw [byte64 hc, wrap64 (by omega)]; omega
      rw [if_pos (by simpa using hc64), Option.bind_some, e3]
      by_cases hl : (n : Int) ≤ (r'.length : Int)
      ·unfold r3_Front_j4
       have hs := sub_of (xs := 3 :: (n : Int) :: r') (lo := 2) (hi := 2 + n) (by omega) (by simp; omega)
       rw [show ((2 : Nat) : Int) = 2 from rfl] at hs
       rw [if_pos (by simp; omega), idx_cons1, Option.bind_some, e3, hs, Option.bind_some]
       have e7 : 2 + n = n + 1 + 1 := by omega
       simp [hc64, hl, e7]
      ·have : decide (((2 + n : Nat) : Int) ≤ (((3 :: (n : Int) :: r').length : Nat) : Int)) = false := by simp; omega
       rw [this, f4]; simp [hl]
     ·rw [if_neg (by simpa using hc64), f4]; simp [hc64]
    ·rw [if_neg (by simpa using h3), if_neg h3, f4]
  have hf2 : r3_Front_j2 (k :: r) false = if k = 2 ∧ 8 ≤ r.length then some (vInt (IntKind.i64.wrap (said (r.take 8))), 9) else r3_Front_j3 (k :: r) false := by
   unfold r3_Front_j2
   rw [if_neg (by decide)]
   by_cases hl : 8 ≤ r.length
   ·rw [if_pos (by simp; omega), idx_cons0, Option.bind_some]
    by_cases h2 : k = 2
    ·subst h2
     rw [if_pos ⟨rfl, hl⟩]
     unfold r3_Front_j3
     have hs := sub_of (xs := (2 : Int) :: r) (lo := 1) (hi := 9) (by omega) (by simp; omega)
     rw [show ((1 : Nat) : Int) = 1 from rfl, show ((9 : Nat) : Int) = 9 from rfl] at hs
     rw [if_pos (by simp), hs, Option.bind_some]
     have e : (((2 : Int) :: r).take 9).drop 1 = r.take 8 := by simp
     rw [e, Said_eq _ (hr.take 8) (by simp; omega)]; rfl
    ·have : (k == 2) = false := by simpa using h2
     rw [this, if_neg (fun h => h2 h.1)]
   ·rw [if_neg (by simp; omega), if_neg (fun h => hl h.2)]
  have hf1 : r3_Front_j1 (k :: r) false = match r with | c :: _ => if k = 1 ∧ c ≤ 1 then some (vBool (c == 1), 2) else r3_Front_j2 (k :: r) false | [] => r3_Front_j2 (k :: r) false := by
   unfold r3_Front_j1
   rw [if_neg (by decide)]
   cases r with
   | nil => rw [if_neg (by simp)]
   | cons c r' =>
    rw [if_pos (by simp; omega), idx_cons0, Option.bind_some]
    dsimp only
    by_cases h1 : k = 1
    ·subst h1
     rw [if_pos (by simp), idx_cons1, Option.bind_some]
     by_cases hc : c ≤ 1
     ·rw [if_pos ⟨rfl, hc⟩]
      unfold r3_Front_j2
      rw [if_pos (by simp; omega), idx_cons1]; rfl
     ·have : decide (c < 2) = false := by simp; omega
      rw [this, if_neg (fun h => hc h.2)]
    ·rw [if_neg (by simpa using h1), if_neg (fun h => h1 h.1)]
  unfold r3_Front
  rw [if_pos (by simp), idx_cons0, Option.bind_some]
  by_cases h0 : k = 0
  ·subst h0; simp [r3_Front_j1, parse]
  have e0 : (k == 0) = false := by simpa using h0
  rw [e0, hf1, hf2, hf3]
  simp only [parse]
  rw [if_neg h0]
  by_cases h1 : k = 1
  ·subst h1
   cases r with
   | nil => rfl
   | cons c r' =>
    by_cases hc : c ≤ 1
    ·simp [hc]
    ·simp [hc]
  rw [if_neg h1]
  by_cases h2 : k = 2
  ·subst h2
   by_cases hl : 8 ≤ r.length
   ·cases r with
    | nil => simp at hl
    | cons c r' => rw [if_pos rfl, if_pos hl]; simp; simp at hl; omega
   ·cases r with
    | nil => rfl
    | cons c r' => rw [if_pos rfl, if_neg hl]; simp; simp at hl; omega
  rw [if_neg h2]
  by_cases h3 : k = 3
  ·subst h3
   cases r with
   | nil => rfl
   | cons c r' =>
    by_cases hc : c ≤ 64 ∧ c ≤ (r'.length : Int)
    ·simp [hc]
    ·simp [hc]
  ·cases r with
   | nil => simp [h2, h3]
   | cons c r' => simp [h1, h2, h3]
end Go.Proofs.YthbonoagbeilkaaGreat.Hay
namespace Go.Proofs.YthbonoagbeilkaaGreat.Hay
def bnum (f : Nat → Bool) : Nat → Nat
 | 0 => 0
 | n + 1 => 2 ^ n * (f n).toNat + bnum f n
theorem bnum_lt (f : Nat → Bool) : ∀ n, bnum f n < 2 ^ n
 | 0 => by simp [bnum]
 | n + 1 => by
  have := bnum_lt f n
  simp only [bnum]
  cases f n <;> simp [Nat.pow_succ] <;> omega
theorem bnum_bit (f : Nat → Bool) : ∀ n k, (bnum f n).testBit k = (decide (k < n) && f k)
 | 0, k => by simp [bnum]
 | n + 1, k => by
  simp only [bnum]
  rw [Nat.testBit_two_pow_mul_add _ (bnum_lt f n), bnum_bit f n k]
  by_cases h : k < n
  ·rw [if_pos h]; simp [h]; intro _; omega
  ·rw [if_neg h]
   by_cases h' : k = n
   ·subst h'; simp; cases f k <;> rfl
   ·have : ¬ k < n + 1 := by omega
    simp [this]
    have : k - n ≠ 0 := by omega
    cases f n
    ·simp
    ·simp only [Bool.toNat_true]
     obtain ⟨j, hj⟩ : ∃ j, k - n = j + 1 := ⟨k - n - 1, by omega⟩
     rw [hj, Nat.testBit_succ]; simp
theorem bnum_congr {f g : Nat → Bool} {n : Nat} (h : ∀ k, k < n → f k = g k) : bnum f n = bnum g n := by
 apply Nat.eq_of_testBit_eq
 intro k
 rw [bnum_bit, bnum_bit]
 by_cases hk : k < n
 ·rw [h k hk]
 ·simp [hk]
theorem bnum_self {x n : Nat} (h : x < 2 ^ n) : bnum (fun k => x.testBit k) n = x := by
 apply Nat.eq_of_testBit_eq
 intro k
 rw [bnum_bit]
 by_cases hk : k < n
 ·simp [hk]
 ·have := Nat.testBit_lt_two_pow (Nat.lt_of_lt_of_le h (Nat.pow_le_pow_right (by decide) (Nat.le_of_not_lt hk)))
  simp [this]
theorem div_bit (x k : Nat) : x / 2 ^ k = 2 * (x / 2 ^ (k + 1)) + (x.testBit k).toNat := by
 have h1 : x / 2 ^ (k + 1) = x / 2 ^ k / 2 := by rw [Nat.pow_succ, Nat.div_div_eq_div_mul]
 rw [h1, Nat.testBit_eq_decide_div_mod_eq]
 have : x / 2 ^ k % 2 = 0 ∨ x / 2 ^ k % 2 = 1 := by omega
 rcases this with h | h <;> simp [h] <;> omega
def bitOf (l : List Int) (w p : Nat) : Bool := decide (p < l.length * w) && (l.getD (p / w) 0).toNat.testBit (p % w)
def packB (l : List Int) (w q : Nat) : List Int := (List.range ((l.length * w + 7) / 8)).map fun j => ((bnum (fun k => decide (8 * j + k < q) && bitOf l w (8 * j + k)) 8 : Nat) : Int)
def packed (l : List Int) (w : Nat) : List Int := packB l w (l.length * w)
theorem packB_len (l : List Int) (w q : Nat) : (packB l w q).length = (l.length * w + 7) / 8 := by simp [packB]
theorem packB_get (l : List Int) (w q j : Nat) (h : j < (packB l w q).length) : (packB l w q)[j] = ((bnum (fun k => decide (8 * j + k < q) && bitOf l w (8 * j + k)) 8 : Nat) : Int) := by simp [packB]
theorem packed_byt (l : List Int) (w : Nat) : Byt (packed l w) := fun c hc => by
 simp only [packed, packB, List.mem_map] at hc
 obtain ⟨j, _, rfl⟩ := hc
 have := bnum_lt (fun k => decide (8 * j + k < l.length * w) && bitOf l w (8 * j + k)) 8
 omega
theorem packB_set (l : List Int) (w q : Nat) (hq : q < l.length * w) (hb : bitOf l w q = true) :
  ∃ x : Nat, x < 256 ∧ (packB l w q)[q / 8]? = some (x : Int) ∧ (packB l w q).set (q / 8) (((x ||| 2 ^ (q % 8) : Nat)) : Int) = packB l w (q + 1) := by
 have hlt : q / 8 < (packB l w q).length := by rw [packB_len]; omega
 refine ⟨_, bnum_lt _ 8, by rw [List.getElem?_eq_getElem hlt, packB_get], ?_⟩
 apply List.ext_getElem
 ·simp [packB_len]
 intro j h1 h2
 rw [List.getElem_set, packB_get]
 split
 ·rename_i e
  subst e
  rw [packB_get]
  congr 1
  apply Nat.eq_of_testBit_eq
  intro k
  rw [Nat.testBit_or, bnum_bit, bnum_bit, Nat.testBit_two_pow]
  by_cases hk : k < 8
  ·by_cases e : q % 8 = k
   ·have : 8 * (q / 8) + k = q := by omega
    simp [hk, e, this, hb]
   ·have h3 : (8 * (q / 8) + k < q + 1) = (8 * (q / 8) + k < q) := by apply propext; omega
    simp [e, h3]
  ·have : q % 8 ≠ k := by omega
   simp [hk, this]
 ·rename_i e
  rw [packB_get]
  congr 1
  apply bnum_congr
  intro k hk
  have h3 : (8 * j + k < q + 1) = (8 * j + k < q) := by apply propext; omega
  simp [h3]
theorem packB_skip (l : List Int) (w q : Nat) (hb : bitOf l w q = false) : packB l w q = packB l w (q + 1) := by
 unfold packB
 apply List.map_congr_left
 intro j _
 congr 1
 apply bnum_congr
 intro k hk
 by_cases e : 8 * j + k = q
 ·rw [e, hb]; simp
 ·have h3 : (8 * j + k < q + 1) = (8 * j + k < q) := by apply propext; omega
  simp [h3]
theorem packB_zero (l : List Int) (w : Nat) : packB l w 0 = List.replicate ((l.length * w + 7) / 8) 0 := by
 apply List.ext_getElem
 ·simp [packB_len]
 intro j h1 h2
 rw [packB_get]
 have : bnum (fun k => decide (8 * j + k < 0) && bitOf l w (8 * j + k)) 8 = bnum (fun _ => false) 8 := bnum_congr fun k _ => by simp
 rw [this]
 simp [bnum]
def byteBit (b : List Int) (p : Nat) : Bool := (b.getD (p / 8) 0).toNat.testBit (p % 8)
def unp (b : List Int) (w i : Nat) : Nat := bnum (fun k => byteBit b (i * w + k)) w
theorem byteBit_packed (l : List Int) (w p : Nat) (r : List Int) (hp : p < l.length * w) : byteBit (packed l w ++ r) p = bitOf l w p := by
 have hlt : p / 8 < (packed l w).length := by unfold packed; rw [packB_len]; omega
 unfold byteBit
 rw [List.getD_eq_getElem?_getD, List.getElem?_append_left hlt, List.getElem?_eq_getElem hlt]
 simp only [Option.getD_some]
 have e : (packed l w)[p / 8] = _ := packB_get l w (l.length * w) (p / 8) hlt
 rw [e]
 simp only [Int.toNat_natCast]
 rw [bnum_bit]
 have h1 : 8 * (p / 8) + p % 8 = p := by omega
 have h2 : p % 8 < 8 := by omega
 simp [h1, h2, hp]
theorem bitOf_at (l : List Int) (w i k : Nat) (hi : i < l.length) (hk : k < w) : i * w + k < l.length * w ∧ bitOf l w (i * w + k) = (l[i]).toNat.testBit k := by
 have h0 : i * w + k < l.length * w := by
  have : (i + 1) * w ≤ l.length * w := Nat.mul_le_mul_right _ hi
  rw [Nat.add_mul] at this; omega
 refine ⟨h0, ?_⟩
 unfold bitOf
 have h1 : (i * w + k) / w = i := by
  rw [Nat.mul_comm, Nat.mul_add_div (by omega), Nat.div_eq_of_lt hk]; rfl
 have h2 : (i * w + k) % w = k := by
  rw [Nat.mul_comm, Nat.mul_add_mod, Nat.mod_eq_of_lt hk]
 rw [h1, h2, List.getD_eq_getElem?_getD, List.getElem?_eq_getElem hi]
 simp [h0]
theorem unp_packed (l : List Int) (w i : Nat) (r : List Int) (hi : i < l.length) (hb : 0 ≤ l[i] ∧ l[i] < 2 ^ w) : (unp (packed l w ++ r) w i : Int) = l[i] := by
 have h1 : unp (packed l w ++ r) w i = bnum (fun k => (l[i]).toNat.testBit k) w := bnum_congr fun k hk => by
  obtain ⟨h2, h3⟩ := bitOf_at l w i k hi hk
  rw [byteBit_packed _ _ _ _ h2, h3]
 rw [h1, bnum_self]
 ·omega
 ·have : ((l[i].toNat : Nat) : Int) < ((2 ^ w : Nat) : Int) := by
   rw [Int.natCast_pow]
   have : ((l[i].toNat : Nat) : Int) = l[i] := by omega
   rw [this]; exact hb.2
  exact Int.ofNat_lt.1 this
theorem chk_nat (n : Nat) : chk (decide (0 ≤ (n : Int))) = some () := chk_true (decide_eq_true (Int.natCast_nonneg n))
theorem or8 {a b : Nat} (ha : a < 256) (hb : b < 256) : bOr .u8 (a : Int) (b : Int) = ((a ||| b : Nat) : Int) := by
 unfold bOr
 rw [wrapu8]
 have h1 : (BitVec.ofInt IntKind.u8.bits (a : Int)).toNat = a := by
  show (BitVec.ofInt 8 (a : Int)).toNat = a
  rw [BitVec.toNat_ofInt]; omega
 have h2 : (BitVec.ofInt IntKind.u8.bits (b : Int)).toNat = b := by
  show (BitVec.ofInt 8 (b : Int)).toNat = b
  rw [BitVec.toNat_ofInt]; omega
 rw [BitVec.toNat_or, h1, h2]
 have : a ||| b < 2 ^ 8 := Nat.or_lt_two_pow (by simpa using ha) (by simpa using hb)
 omega
theorem and8 {a b : Nat} (ha : a < 256) (hb : b < 256) : bAnd .u8 (a : Int) (b : Int) = ((a &&& b : Nat) : Int) := by
 unfold bAnd
 rw [wrapu8]
 have h1 : (BitVec.ofInt IntKind.u8.bits (a : Int)).toNat = a := by
  show (BitVec.ofInt 8 (a : Int)).toNat = a
  rw [BitVec.toNat_ofInt]; omega
 have h2 : (BitVec.ofInt IntKind.u8.bits (b : Int)).toNat = b := by
  show (BitVec.ofInt 8 (b : Int)).toNat = b
  rw [BitVec.toNat_ofInt]; omega
 rw [BitVec.toNat_and, h1, h2]
 have : a &&& b ≤ a := Nat.and_le_left
 omega
theorem and_one (x : Nat) (k : Nat) : x / 2 ^ k &&& 1 = (x.testBit k).toNat := by
 rw [Nat.and_one_is_mod, Nat.testBit_eq_decide_div_mod_eq]
 have : x / 2 ^ k % 2 = 0 ∨ x / 2 ^ k % 2 = 1 := by omega
 rcases this with h | h <;> simp [h]
theorem bitNum {x : Int} {k : Nat} (h : 0 ≤ x ∧ x < 18446744073709551616) (hk : k ≤ 64) : bAnd .u64 (iShr .u64 x (k : Int)) 1 = (x.toNat.testBit k).toNat := by
 obtain ⟨n, rfl⟩ := Int.eq_ofNat_of_zero_le h.1
 rw [shr64 hk]
 have h1 : ((n : Int) / 2 ^ k) = ((n / 2 ^ k : Nat) : Int) := by simp [Int.natCast_pow]
 have h2 : n / 2 ^ k ≤ n := Nat.div_le_self _ _
 rw [h1, show (1 : Int) = ((1 : Nat) : Int) from rfl, and64 (by omega) (by omega), and_one]
 simp
theorem bitByte {x : Int} {k : Nat} (h : 0 ≤ x ∧ x < 256) (hk : k ≤ 8) : bAnd .u8 (iShr .u8 x (k : Int)) 1 = (x.toNat.testBit k).toNat := by
 obtain ⟨n, rfl⟩ := Int.eq_ofNat_of_zero_le h.1
 rw [shr8 hk]
 have h1 : ((n : Int) / 2 ^ k) = ((n / 2 ^ k : Nat) : Int) := by simp [Int.natCast_pow]
 have h2 : n / 2 ^ k ≤ n := Nat.div_le_self _ _
 rw [h1, show (1 : Int) = ((1 : Nat) : Int) from rfl, and8 (by omega) (by omega), and_one]
 simp
theorem at64 {i w k : Nat} (hi : i < 1048576) (hw : w ≤ 64) (hk : k ≤ 64) : IntKind.i64.wrap ((IntKind.i64.wrap ((i : Int) * (w : Int))) + (k : Int)) = ((i * w + k : Nat) : Int) := by
 have : i * w ≤ 1048576 * 64 := Nat.mul_le_mul (by omega) hw
 have e : (i : Int) * (w : Int) = ((i * w : Nat) : Int) := by simp
 rw [e, wrap64 (n := ((i * w : Nat) : Int)) (by omega), wrap64 (by omega)]; omega
theorem tdiv8 (n : Nat) : ((n : Int)).tdiv 8 = ((n / 8 : Nat) : Int) := by
 rw [Int.tdiv_eq_ediv_of_nonneg (by omega)]; rfl
theorem tmod8 (n : Nat) : ((n : Int)).tmod 8 = ((n % 8 : Nat) : Int) := by
 rw [Int.tmod_eq_emod_of_nonneg (by omega)]; rfl
theorem ceil8 {i w : Nat} (hi : i < 1048576) (hw : w ≤ 64) : IntKind.i64.wrap ((IntKind.i64.wrap ((IntKind.i64.wrap ((i : Int) * (w : Int))) + 7)).tdiv 8) = (((i * w + 7) / 8 : Nat) : Int) := by
 have : i * w ≤ 1048576 * 64 := Nat.mul_le_mul (by omega) hw
 have e := at64 (i := i) (w := w) (k := 7) hi hw (by omega)
 rw [show ((7 : Nat) : Int) = 7 from rfl] at e
 rw [e, tdiv8, wrap64 (by omega)]
def U64 (l : List Int) : Prop := ∀ x ∈ l, 0 ≤ x ∧ x < 18446744073709551616
theorem mk_of {α : Type} {N n : Nat} {z : α} (h : n ≤ N) : mk N (n : Int) z = some (List.replicate n z) := by
 unfold mk; rw [if_pos (by omega)]; simp
theorem ix_of {α : Type} {xs : List α} {i : Nat} (h : i < xs.length) : ix xs (i : Int) = some i := by
 unfold ix; rw [if_pos (by omega)]; simp
theorem packed_eq {l : List Int} {w : Nat} (hu : U64 l) (hl : l.length < 1048576) (hw : w ≤ 64) : encode_packed l (w : Int) = some (packed l w) := by
 have hlw : l.length * w ≤ 1048576 * 64 := Nat.mul_le_mul (by omega) hw
 unfold encode_packed
 rw [ceil8 hl hw, mk_of (by omega), Option.bind_some]
 refine loop_seq (fun i => ((i : Int), packB l w (i * w))) l.length (by simp [packB_zero]) (fun i hi => ?_) ?_
 ·dsimp only
  unfold encode_packed_b1
  rw [if_pos (by simpa using hi), idx_of hi, Option.bind_some]
  have hx := hu l[i] (List.getElem_mem hi)
  refine loop_seq (fun k => ((k : Int), packB l w (i * w + k))) w rfl (fun k hk => ?_) ?_
  ·dsimp only
   unfold encode_packed_b2 encode_packed_j3
   obtain ⟨h1, h2⟩ := bitOf_at l w i k hi hk
   rw [if_pos (by simpa using hk), chk_true (by simp), Option.bind_some, bitNum hx (by omega), at64 (by omega) hw (by omega), tdiv8, tmod8, wrap64 (by omega), succ64 (by omega)]
   cases hb : l[i].toNat.testBit k with
   | false =>
    rw [hb] at h2
    rw [if_neg (by decide), packB_skip l w _ h2]; rfl
   | true =>
    rw [hb] at h2
    obtain ⟨x, hx1, hx2, hx3⟩ := packB_set l w _ h1 h2
    have hlt : (i * w + k) / 8 < (packB l w (i * w + k)).length := by rw [packB_len]; omega
    rw [if_pos (by decide), ix_of hlt, Option.bind_some, hx2, Option.bind_some, chk_nat, Option.bind_some, Option.bind_some, hx2, Option.bind_some]
    have h8 : iShl .u8 1 (((i * w + k) % 8 : Nat) : Int) = ((2 ^ ((i * w + k) % 8) : Nat) : Int) := by
     unfold iShl
     rw [wrapu8]
     have hm : min (((i * w + k) % 8 : Nat) : Int).toNat IntKind.u8.bits = (i * w + k) % 8 := by simp [IntKind.bits]; omega
     rw [hm]
     have : (2 : Nat) ^ ((i * w + k) % 8) ≤ 2 ^ 7 := Nat.pow_le_pow_right (by decide) (by omega)
     rw [Int.natCast_pow]
     have e : ((2 : Int) ^ ((i * w + k) % 8)) = (((2 : Nat) ^ ((i * w + k) % 8) : Nat) : Int) := by simp [Int.natCast_pow]
     rw [show ((2 : Nat) : Int) = 2 from rfl, e]
     generalize (2 : Nat) ^ ((i * w + k) % 8) = m at *
     omega
    have : (2 : Nat) ^ ((i * w + k) % 8) ≤ 2 ^ 7 := Nat.pow_le_pow_right (by decide) (by omega)
    rw [h8, or8 hx1 (by omega), hx3]; rfl
  ·dsimp only
   unfold encode_packed_b2 encode_packed_j2
   rw [if_neg (by simp), succ64 (by omega)]
   simp [Nat.add_mul]
 ·unfold encode_packed_b1 encode_packed_j1
  rw [if_neg (by simp)]; rfl
end Go.Proofs.YthbonoagbeilkaaGreat.Hay
namespace Go.Proofs.YthbonoagbeilkaaGreat.Hay
theorem take_eq {r : Encode_reader} {n : Nat} (hn : n ≤ 281474976710656) : encode_reader_take r (n : Int) = some (if r.fB.length < n then (List.replicate n 0, ⟨[], false⟩) else (r.fB.take n, ⟨r.fB.drop n, r.fOk⟩)) := by
 unfold encode_reader_take
 by_cases h : r.fB.length < n
 ·rw [if_pos (by simpa using h), if_pos h, mk_of hn]; rfl
 ·rw [if_neg (by simpa using h), if_neg h, mk_of hn, Option.bind_some, sub_of (by omega) (Nat.le_refl _)]
  simp only [Option.bind_some, List.take_length]
  unfold cpy
  simp
  omega
theorem bnum_or (f : Nat → Bool) (k : Nat) : bnum f k ||| 2 ^ k * (f k).toNat = bnum f (k + 1) := by
 rw [Nat.or_comm, ← Nat.two_pow_add_eq_or_of_lt (bnum_lt f k)]; rfl
theorem shlBit {b : Bool} {k : Nat} (hk : k < 64) : iShl .u64 ((b.toNat : Nat) : Int) (k : Int) = ((2 ^ k * b.toNat : Nat) : Int) := by
 rw [shl64 (by omega)]
 have h1 : (2 : Nat) ^ k < 2 ^ 64 := Nat.pow_lt_pow_right (by decide) hk
 have e : ((2 : Int) ^ k) = (((2 : Nat) ^ k : Nat) : Int) := by simp [Int.natCast_pow]
 rw [e]
 cases b
 ·simp
 ·simp only [Bool.toNat_true, Nat.mul_one]
  have : (2 : Nat) ^ 64 = 18446744073709551616 := by decide
  generalize (2 : Nat) ^ k = m at *
  omega
def unpR (r : Encode_reader) (many w : Nat) : List Int × Encode_reader :=
 if 64 < w then (List.replicate many 0, ⟨r.fB, false⟩) else
 if r.fB.length < (many * w + 7) / 8 then (List.replicate many 0, ⟨[], false⟩) else
 ((List.range many).map fun i => ((unp r.fB w i : Nat) : Int), ⟨r.fB.drop ((many * w + 7) / 8), r.fOk⟩)
theorem getD_take {l : List Int} {n i : Nat} (h : i < n) : (l.take n).getD i 0 = l.getD i 0 := by
 rw [List.getD_eq_getElem?_getD, List.getD_eq_getElem?_getD, List.getElem?_take, if_pos h]
theorem unp_take (b : List Int) (w i n : Nat) (h : (i + 1) * w ≤ 8 * n) : unp (b.take n) w i = unp b w i := bnum_congr fun k hk => by
 rw [Nat.add_mul] at h
 unfold byteBit
 rw [getD_take (by omega)]
theorem unp_zero (n w i : Nat) : unp (List.replicate n 0) w i = 0 := by
 have : unp (List.replicate n 0) w i = bnum (fun _ => false) w := bnum_congr fun k hk => by
  unfold byteBit
  rw [List.getD_eq_getElem?_getD, List.getElem?_replicate]
  split <;> simp
 rw [this]
 have : ∀ w, bnum (fun _ => false) w = 0 := by intro w; induction w with | zero => rfl | succ w ih => simp [bnum, ih]
 exact this w
theorem unpacked_eq {r : Encode_reader} {many w : Nat} (hb : Byt r.fB) (hm : many < 1048576) : encode_reader_unpacked r (many : Int) (w : Int) = some (unpR r many w) := by
 unfold encode_reader_unpacked unpR
 by_cases hw : 64 < w
 ·rw [if_pos (by simpa using by omega), if_pos hw, mk_of (by omega)]; rfl
 rw [if_neg (by simpa using by omega), if_neg hw]
 have hw' : w ≤ 64 := by omega
 have hlw : many * w ≤ 1048576 * 64 := Nat.mul_le_mul (by omega) hw'
 rw [ceil8 hm hw', take_eq (by omega), Option.bind_some, mk_of (by omega), Option.bind_some]
 have key : ∀ (b : List Int) (r' : Encode_reader), Byt b → b.length = (many * w + 7) / 8 →
   loopO (fun s : (Int × (List Int)) => encode_reader_unpacked_b1 (w : Int) (b, r') (List.replicate many 0) s.1 s.2) (0, List.replicate many 0) = some ((List.range many).map fun i => ((unp b w i : Nat) : Int), r') := by
  intro b r' hb hl
  refine loop_seq (fun i => ((i : Int), (List.range i).map (fun i => ((unp b w i : Nat) : Int)) ++ List.replicate (many - i) 0)) many (by simp) (fun i hi => ?_) ?_
  ·dsimp only
   unfold encode_reader_unpacked_b1
   rw [if_pos (by simpa using hi)]
   have hi1 : (i + 1) * w ≤ many * w := Nat.mul_le_mul_right _ hi
   rw [Nat.add_mul] at hi1
   have h64 : ∀ k, k ≤ 64 → bnum (fun k => byteBit b (i * w + k)) k < 18446744073709551616 := fun k hk => by
    have := bnum_lt (fun k => byteBit b (i * w + k)) k
    have h2 : (2 : Nat) ^ k ≤ 2 ^ 64 := Nat.pow_le_pow_right (by decide) hk
    have : (2 : Nat) ^ 64 = 18446744073709551616 := by decide
    omega
   refine loop_seq (fun k => ((k : Int), (List.range i).map (fun i => ((unp b w i : Nat) : Int)) ++ ((bnum (fun k => byteBit b (i * w + k)) k : Nat) : Int) :: List.replicate (many - i - 1) 0)) w ?_ (fun k hk => ?_) ?_
   ·have : many - i = (many - i - 1) + 1 := by omega
    rw [this, List.replicate_succ]; simp [bnum]
   ·dsimp only
    unfold encode_reader_unpacked_b2
    have hat : (i * w + k) / 8 < b.length := by omega
    have hlen : i < ((List.range i).map (fun i => ((unp b w i : Nat) : Int)) ++ ((bnum (fun k => byteBit b (i * w + k)) k : Nat) : Int) :: List.replicate (many - i - 1) 0).length := by simp
    have hget : ((List.range i).map (fun i => ((unp b w i : Nat) : Int)) ++ ((bnum (fun k => byteBit b (i * w + k)) k : Nat) : Int) :: List.replicate (many - i - 1) 0)[i]? = some ((bnum (fun k => byteBit b (i * w + k)) k : Nat) : Int) := by simp
    rw [if_pos (by simpa using hk), ix_of hlen, Option.bind_some, hget, Option.bind_some, at64 (by omega) hw' (by omega), tdiv8, tmod8, wrap64 (by omega), idx_of hat, Option.bind_some, chk_nat, Option.bind_some, chk_nat, Option.bind_some, Option.bind_some, hget, Option.bind_some, succ64 (by omega)]
    have hbb := hb b[(i * w + k) / 8] (List.getElem_mem hat)
    rw [bitByte hbb (by omega)]
    have e : b[(i * w + k) / 8].toNat.testBit ((i * w + k) % 8) = byteBit b (i * w + k) := by
     unfold byteBit; rw [List.getD_eq_getElem?_getD, List.getElem?_eq_getElem hat]; rfl
    rw [e, wrapu64]
    have e2 : (((byteBit b (i * w + k)).toNat : Nat) : Int) % 18446744073709551616 = (((byteBit b (i * w + k)).toNat : Nat) : Int) := by cases byteBit b (i * w + k) <;> rfl
    have h3 : 2 ^ k * (byteBit b (i * w + k)).toNat < 18446744073709551616 := by
     have h1 : (2 : Nat) ^ k < 2 ^ 64 := Nat.pow_lt_pow_right (by decide) (by omega)
     have : (2 : Nat) ^ 64 = 18446744073709551616 := by decide
     cases byteBit b (i * w + k) <;> simp <;> omega
    rw [e2, shlBit (by omega), or64 (h64 k (by omega)) h3, bnum_or (fun k => byteBit b (i * w + k)) k]
    congr 3
    rw [List.set_append_right _ _ (by simp)]
    simp
   ·dsimp only
    unfold encode_reader_unpacked_b2 encode_reader_unpacked_j2
    rw [if_neg (by simp), succ64 (by omega)]
    have : many - i - 1 = many - (i + 1) := by omega
    rw [this]
    simp [List.range_succ, unp]
  ·dsimp only
   unfold encode_reader_unpacked_b1 encode_reader_unpacked_j1
   rw [if_neg (by simp)]; simp
 by_cases hl : r.fB.length < (many * w + 7) / 8
 ·rw [if_pos hl, if_pos hl, key _ _ (fun c hc => by rw [List.eq_of_mem_replicate hc]; decide) (by simp)]
  congr 2
  apply List.ext_getElem
  ·simp
  ·intro j h1 h2; simp [unp_zero]
 ·rw [if_neg hl, if_neg hl, key _ _ (hb.take _) (by simp; omega)]
  congr 2
  apply List.ext_getElem
  ·simp
  ·intro j h1 h2
   simp only [List.getElem_map, List.getElem_range]
   rw [unp_take]
   simp at h1
   have : (j + 1) * w ≤ many * w := Nat.mul_le_mul_right _ h1
   omega
theorem ref_unpacked_eq {b : List Int} {w i : Nat} (hb : Byt b) (hi : i < 1048576) (hw : w ≤ 64) (hl : (i + 1) * w ≤ 8 * b.length) : r6_unpacked b (w : Int) (i : Int) = some ((unp b w i : Nat) : Int) := by
 unfold r6_unpacked
 have hiw : i * w ≤ 1048576 * 64 := Nat.mul_le_mul (by omega) hw
 rw [Nat.add_mul] at hl
 have h64 := bnum_lt (fun k => byteBit b (i * w + k)) w
 have h65 : (2 : Nat) ^ w ≤ 2 ^ 64 := Nat.pow_le_pow_right (by decide) hw
 have h66 : (2 : Nat) ^ 64 = 18446744073709551616 := by decide
 refine loop_seq (fun t => (((unp b w i / 2 ^ (w - t) : Nat) : Int), (w : Int) - 1 - (t : Int))) w ?_ (fun t ht => ?_) ?_
 ·rw [wrap64 (by omega)]
  have : unp b w i / 2 ^ (w - 0) = 0 := Nat.div_eq_of_lt h64
  rw [this]; simp
 ·dsimp only
  unfold r6_unpacked_b1
  obtain ⟨k, hk⟩ : ∃ k, w = t + 1 + k := ⟨w - t - 1, by omega⟩
  have e : (w : Int) - 1 - (t : Int) = (k : Int) := by omega
  have hat : (i * w + k) / 8 < b.length := by omega
  have hbb := hb b[(i * w + k) / 8] (List.getElem_mem hat)
  rw [e, if_pos (by simp), at64 hi hw (by omega), tdiv8, tmod8, wrap64 (n := (((i * w + k) / 8 : Nat) : Int)) (by omega), idx_of hat, Option.bind_some, chk_nat, Option.bind_some, wrap64 (by omega)]
  have e1 : w - t = k + 1 := by omega
  have e2 : w - (t + 1) = k := by omega
  rw [e1, e2, div_bit (unp b w i) k]
  have e3 : (iShr .u8 b[(i * w + k) / 8] (((i * w + k) % 8 : Nat) : Int)).tmod 2 = (((unp b w i).testBit k).toNat : Int) := by
   obtain ⟨n, hn⟩ := Int.eq_ofNat_of_zero_le hbb.1
   rw [hn, shr8 (by omega)]
   have h1 : ((n : Int) / 2 ^ ((i * w + k) % 8)) = ((n / 2 ^ ((i * w + k) % 8) : Nat) : Int) := by simp [Int.natCast_pow]
   rw [h1, Int.tmod_eq_emod_of_nonneg (Int.natCast_nonneg _)]
   have h2 : (unp b w i).testBit k = n.testBit ((i * w + k) % 8) := by
    unfold unp
    rw [bnum_bit]
    have : byteBit b (i * w + k) = n.testBit ((i * w + k) % 8) := by
     unfold byteBit; rw [List.getD_eq_getElem?_getD, List.getElem?_eq_getElem hat]; simp [hn]
    rw [this]
    have : k < w := by omega
    simp [this]
   rw [h2, ← and_one, Nat.and_one_is_mod]; rfl
  rw [e3, wrapu64, wrapu64, wrapu64]
  have h5 : unp b w i / 2 ^ (k + 1) * 2 + ((unp b w i).testBit k).toNat < 18446744073709551616 := by
   have := div_bit (unp b w i) k
   have h6 : unp b w i / 2 ^ k ≤ unp b w i := Nat.div_le_self _ _
   have h7 : unp b w i = bnum (fun k => byteBit b (i * w + k)) w := rfl
   omega
  congr 3
  ·omega
  ·omega
 ·dsimp only
  unfold r6_unpacked_b1 r6_unpacked_j1
  rw [if_neg (by simp; omega)]
  simp
def bitsL (l : List Int) (w q : Nat) : List Int := (List.range q).map fun p => ((bitOf l w p).toNat : Int)
theorem bitsL_succ (l : List Int) (w q : Nat) : bitsL l w (q + 1) = bitsL l w q ++ [((bitOf l w q).toNat : Int)] := by simp [bitsL, List.range_succ]
theorem ref_Packed_j1_eq (l : List Int) {w : Nat} (hl : l.length < 1048576) (hw : w ≤ 64) : r6_Packed_j1 (bitsL l w (l.length * w)) = some (packed l w) := by
 have hlw : l.length * w ≤ 1048576 * 64 := Nat.mul_le_mul (by omega) hw
 unfold r6_Packed_j1
 have hlen : (bitsL l w (l.length * w)).length = l.length * w := by simp [bitsL]
 refine loop_seq (fun j => ((packed l w).take j, ((8 * j : Nat) : Int))) ((l.length * w + 7) / 8) (by simp) (fun j hj => ?_) ?_
 ·dsimp only
  unfold r6_Packed_b1
  rw [hlen, if_pos (by simpa using by omega)]
  have hpl : (packed l w).length = (l.length * w + 7) / 8 := packB_len _ _ _
  refine loop_seq (fun t => (((bnum (fun k => decide (8 * j + k < l.length * w) && bitOf l w (8 * j + k)) 8 / 2 ^ (8 - t) : Nat) : Int), 7 - (t : Int))) 8 ?_ (fun t ht => ?_) ?_
  ·have := bnum_lt (fun k => decide (8 * j + k < l.length * w) && bitOf l w (8 * j + k)) 8
   rw [Nat.div_eq_of_lt (by simpa using this)]; simp
  ·dsimp only
   unfold r6_Packed_b2 r6_Packed_j5
   obtain ⟨k, hk⟩ : ∃ k, 8 = t + 1 + k := ⟨8 - t - 1, by omega⟩
   have e : 7 - (t : Int) = (k : Int) := by omega
   have e1 : 8 - t = k + 1 := by omega
   have e2 : 8 - (t + 1) = k := by omega
   have e4 : IntKind.i64.wrap ((k : Int) - 1) = 7 - ((t + 1 : Nat) : Int) := by rw [wrap64 (by omega)]; omega
   have e5 : IntKind.i64.wrap (((8 * j : Nat) : Int) + (k : Int)) = ((8 * j + k : Nat) : Int) := by rw [wrap64 (by omega)]; omega
   rw [e, if_pos (by simp), e1, e2, e4, e5, div_bit _ k]
   have hN := bnum_lt (fun k => decide (8 * j + k < l.length * w) && bitOf l w (8 * j + k)) 8
   have hN2 : bnum (fun k => decide (8 * j + k < l.length * w) && bitOf l w (8 * j + k)) 8 / 2 ^ k ≤ bnum (fun k => decide (8 * j + k < l.length * w) && bitOf l w (8 * j + k)) 8 := Nat.div_le_self _ _
   have hN3 := div_bit (bnum (fun k => decide (8 * j + k < l.length * w) && bitOf l w (8 * j + k)) 8) k
   have hbk := bnum_bit (fun k => decide (8 * j + k < l.length * w) && bitOf l w (8 * j + k)) 8 k
   have hk8 : k < 8 := by omega
   by_cases hp : 8 * j + k < l.length * w
   ·rw [if_pos (by simpa using by omega), idx_of (by rw [hlen]; exact hp), Option.bind_some]
    have hg : (bitsL l w (l.length * w))[8 * j + k]'(by rw [hlen]; exact hp) = (((bnum (fun k => decide (8 * j + k < l.length * w) && bitOf l w (8 * j + k)) 8).testBit k).toNat : Int) := by
     rw [hbk]; simp [bitsL, hp, hk8]
    rw [hg, wrapu8, wrapu8]
    congr 3
    omega
   ·rw [if_neg (by simpa using by omega)]
    have hg : (bnum (fun k => decide (8 * j + k < l.length * w) && bitOf l w (8 * j + k)) 8).testBit k = false := by
     rw [hbk]; simp [hp]
    rw [hg] at hN3 ⊢
    rw [wrapu8]
    simp only [Bool.toNat_false, Nat.add_zero] at hN3 ⊢
    congr 3
    omega
  ·dsimp only
   unfold r6_Packed_b2 r6_Packed_j4 r6_Packed_j3
   rw [if_neg (by decide), app_of (by simp; omega), Option.bind_some]
   have h1 : j < (packed l w).length := by omega
   rw [List.take_succ_eq_append_getElem h1]
   have h2 : (packed l w)[j] = ((bnum (fun k => decide (8 * j + k < l.length * w) && bitOf l w (8 * j + k)) 8 : Nat) : Int) := packB_get _ _ _ _ _
   have e9 : ((8 * j : Nat) : Int) + 8 = ((8 * (j + 1) : Nat) : Int) := by omega
   rw [h2, wrap64 (by omega), e9]
   simp
 ·dsimp only
  unfold r6_Packed_b1 r6_Packed_j2
  rw [hlen, if_neg (by simp; omega)]
  rw [List.take_of_length_le (by unfold packed; rw [packB_len]; omega)]; rfl
theorem ref_Packed_eq {l : List Int} {w : Nat} (hu : U64 l) (hl : l.length < 1048576) (hw : w ≤ 64) : r6_Packed l (w : Int) = some (packed l w) := by
 have hlw : l.length * w ≤ 1048576 * 64 := Nat.mul_le_mul (by omega) hw
 unfold r6_Packed
 refine loop_seq (fun i => (bitsL l w (i * w), (i : Int))) l.length (by simp [bitsL]) (fun i hi => ?_) ?_
 ·dsimp only
  unfold r6_Packed_b3
  have hx := hu l[i] (List.getElem_mem hi)
  have hi1 : (i + 1) * w ≤ l.length * w := Nat.mul_le_mul_right _ hi
  rw [Nat.add_mul] at hi1
  rw [if_pos (by simpa using hi), idx_of hi, Option.bind_some]
  refine loop_seq (fun k => (bitsL l w (i * w + k), ((l[i].toNat / 2 ^ k : Nat) : Int), (k : Int))) w ?_ (fun k hk => ?_) ?_
  ·simp; omega
  ·dsimp only
   unfold r6_Packed_b4
   obtain ⟨h1, h2⟩ := bitOf_at l w i k hi hk
   have h3 : l[i].toNat / 2 ^ k ≤ l[i].toNat := Nat.div_le_self _ _
   have h4 : l[i].toNat / 2 ^ (k + 1) = l[i].toNat / 2 ^ k / 2 := by rw [Nat.pow_succ, Nat.div_div_eq_div_mul]
   have h5 : (((l[i].toNat / 2 ^ k : Nat) : Int)).tmod 2 = ((bitOf l w (i * w + k)).toNat : Int) := by
    rw [h2, ← and_one, Nat.and_one_is_mod, Int.tmod_eq_emod_of_nonneg (Int.natCast_nonneg _)]; rfl
   rw [if_pos (by simpa using hk), h5, wrapu8]
   have h6 : ((bitOf l w (i * w + k)).toNat : Int) % 256 = ((bitOf l w (i * w + k)).toNat : Int) := by cases bitOf l w (i * w + k) <;> rfl
   rw [h6, app_of (by simp [bitsL]; omega), Option.bind_some, ← Nat.add_assoc, bitsL_succ, succ64 (by omega), wrapu64, Int.tdiv_eq_ediv_of_nonneg (Int.natCast_nonneg _), h4]
   congr 4
   generalize l[i].toNat / 2 ^ k = q at *
   omega
  ·dsimp only
   unfold r6_Packed_b4 r6_Packed_j6
   rw [if_neg (by simp), succ64 (by omega)]
   simp [Nat.add_mul]
 ·dsimp only
  unfold r6_Packed_b3
  rw [if_neg (by simp), ref_Packed_j1_eq l hl hw]; rfl
def wid (n : Nat) : Nat := if n = 0 then 0 else n.log2 + 1
theorem wid_lt (n : Nat) : n < 2 ^ wid n := by
 unfold wid
 split
 ·omega
 ·exact Nat.lt_log2_self
theorem wid_half {n : Nat} (h : n ≠ 0) : wid n = wid (n / 2) + 1 := by
 unfold wid
 rw [if_neg h]
 by_cases h1 : n / 2 = 0
 ·have : n = 1 := by omega
  subst this; rfl
 ·rw [if_neg h1, Nat.log2_def, if_pos (by omega)]
theorem wid_shift {n k : Nat} (h : 2 ^ k ≤ n) : wid n = wid (n / 2 ^ k) + k := by
 induction k generalizing n with
 | zero => simp
 | succ k ih =>
  rw [Nat.pow_succ] at h
  have : 0 < 2 ^ k := Nat.pow_pos (by decide)
  rw [wid_half (n := n) (by omega), ih (n := n / 2) (by omega), Nat.pow_succ, Nat.mul_comm (2 ^ k) 2, ← Nat.div_div_eq_div_mul]
  omega
theorem wid_le {n w : Nat} (h : n < 2 ^ w) : wid n ≤ w := by
 unfold wid
 split
 ·omega
 ·rename_i h0
  have := Nat.log2_lt h0 |>.2 h
  omega
theorem width_eq {n : Nat} (h : n < 18446744073709551616) : r6_width (n : Int) = some ((wid n : Nat) : Int) := by
 unfold r6_width
 have h64 : wid n ≤ 64 := wid_le (by simpa using h)
 refine loop_seq (fun i => (((n / 2 ^ i : Nat) : Int), (i : Int))) (wid n) (by simp) (fun i hi => ?_) ?_
 ·dsimp only
  unfold r6_width_b1
  have h0 : 0 < n / 2 ^ i := by
   rcases Nat.eq_zero_or_pos (n / 2 ^ i) with h1 | h1
   ·have : n < 2 ^ i := by
     have := Nat.div_eq_zero_iff.1 h1
     have h2 : 0 < 2 ^ i := Nat.pow_pos (by decide)
     omega
    have := wid_le this; omega
   ·exact h1
  have h3 : n / 2 ^ i ≤ n := Nat.div_le_self _ _
  have h4 : n / 2 ^ (i + 1) = n / 2 ^ i / 2 := by rw [Nat.pow_succ, Nat.div_div_eq_div_mul]
  generalize n / 2 ^ i = q at *
  rw [if_pos (decide_eq_true (by omega)), Int.tdiv_eq_ediv_of_nonneg (Int.natCast_nonneg _), wrapu64, succ64 (by omega), h4]
  congr 3
  omega
 ·dsimp only
  unfold r6_width_b1 r6_width_j1
  have : n / 2 ^ wid n = 0 := Nat.div_eq_of_lt (wid_lt n)
  rw [this, if_neg (by decide)]; rfl
def tab8 : List Int := [0, 1, 2, 2, 3, 3, 3, 3, 4, 4, 4, 4, 4, 4, 4, 4, 5, 5, 5, 5, 5, 5, 5, 5, 5, 5, 5, 5, 5, 5, 5, 5, 6, 6, 6, 6, 6, 6, 6, 6, 6, 6, 6, 6, 6, 6, 6, 6, 6, 6, 6, 6, 6, 6, 6, 6, 6, 6, 6, 6, 6, 6, 6, 6, 7, 7, 7, 7, 7, 7, 7, 7, 7, 7, 7, 7, 7, 7, 7, 7, 7, 7, 7, 7, 7, 7, 7, 7, 7, 7, 7, 7, 7, 7, 7, 7, 7, 7, 7, 7, 7, 7, 7, 7, 7, 7, 7, 7, 7, 7, 7, 7, 7, 7, 7, 7, 7, 7, 7, 7, 7, 7, 7, 7, 7, 7, 7, 7, 8, 8, 8, 8, 8, 8, 8, 8, 8, 8, 8, 8, 8, 8, 8, 8, 8, 8, 8, 8, 8, 8, 8, 8, 8, 8, 8, 8, 8, 8, 8, 8, 8, 8, 8, 8, 8, 8, 8, 8, 8, 8, 8, 8, 8, 8, 8, 8, 8, 8, 8, 8, 8, 8, 8, 8, 8, 8, 8, 8, 8, 8, 8, 8, 8, 8, 8, 8, 8, 8, 8, 8, 8, 8, 8, 8, 8, 8, 8, 8, 8, 8, 8, 8, 8, 8, 8, 8, 8, 8, 8, 8, 8, 8, 8, 8, 8, 8, 8, 8, 8, 8, 8, 8, 8, 8, 8, 8, 8, 8, 8, 8, 8, 8, 8, 8, 8, 8, 8, 8, 8, 8, 8, 8, 8, 8, 8, 8]
theorem wid_tab : ∀ n : _root_.Fin 256, idx tab8 ((n.val : Nat) : Int) = some ((wid n.val : Nat) : Int) := by decide +kernel
set_option maxRecDepth 100000 in
theorem len64_j3_tab (x y : Int) : bits_Len64_j3 x y = (idx tab8 (IntKind.u8.wrap x)).bind fun r => some (IntKind.i64.wrap (y + IntKind.i64.wrap r)) := rfl
theorem len64_j3 {n k : Nat} (h : n < 256) (hk : k ≤ 56) : bits_Len64_j3 (n : Int) (k : Int) = some ((wid n + k : Nat) : Int) := by
 have h1 : idx tab8 (n : Int) = some ((wid n : Nat) : Int) := wid_tab ⟨n, h⟩
 have hw : wid n ≤ 8 := wid_le (by simpa using h)
 rw [len64_j3_tab, wrapu8, show ((n : Int) % 256) = (n : Int) by omega, h1, Option.bind_some, wrap64 (n := ((wid n : Nat) : Int)) (by omega), wrap64 (by omega)]
 congr 1; omega
theorem len64_j2 {n k : Nat} (h : n < 65536) (hk : k ≤ 48) : bits_Len64_j2 (n : Int) (k : Int) = some ((wid n + k : Nat) : Int) := by
 unfold bits_Len64_j2
 by_cases h1 : 256 ≤ n
 ·rw [if_pos (by simpa using by omega)]
  have e : iShr .u64 (n : Int) 8 = ((n / 2 ^ 8 : Nat) : Int) := by have := shr64 (x := (n : Int)) (k := 8) (by omega); simpa using this
  have e2 : IntKind.i64.wrap ((k : Int) + 8) = ((k + 8 : Nat) : Int) := by rw [wrap64 (by omega)]; rfl
  rw [e, e2, len64_j3 (by omega) (by omega), wid_shift (n := n) (k := 8) (by omega)]
  congr 2; omega
 ·rw [if_neg (by simpa using by omega), len64_j3 (by omega) (by omega)]
theorem len64_j1 {n k : Nat} (h : n < 4294967296) (hk : k ≤ 32) : bits_Len64_j1 (n : Int) (k : Int) = some ((wid n + k : Nat) : Int) := by
 unfold bits_Len64_j1
 by_cases h1 : 65536 ≤ n
 ·rw [if_pos (by simpa using by omega)]
  have e : iShr .u64 (n : Int) 16 = ((n / 2 ^ 16 : Nat) : Int) := by have := shr64 (x := (n : Int)) (k := 16) (by omega); simpa using this
  have e2 : IntKind.i64.wrap ((k : Int) + 16) = ((k + 16 : Nat) : Int) := by rw [wrap64 (by omega)]; rfl
  rw [e, e2, len64_j2 (by omega) (by omega), wid_shift (n := n) (k := 16) (by omega)]
  congr 2; omega
 ·rw [if_neg (by simpa using by omega), len64_j2 (by omega) (by omega)]
theorem len64_eq {n : Nat} (h : n < 18446744073709551616) : bits_Len64 (n : Int) = some ((wid n : Nat) : Int) := by
 unfold bits_Len64
 by_cases h1 : 4294967296 ≤ n
 ·rw [if_pos (by simpa using by omega)]
  have e : iShr .u64 (n : Int) 32 = ((n / 2 ^ 32 : Nat) : Int) := by have := shr64 (x := (n : Int)) (k := 32) (by omega); simpa using this
  rw [e, show (32 : Int) = ((32 : Nat) : Int) from rfl, len64_j1 (by omega) (by omega), wid_shift (n := n) (k := 32) (by omega)]
 ·rw [if_neg (by simpa using by omega), show (0 : Int) = ((0 : Nat) : Int) from rfl, len64_j1 (by omega) (by omega)]
  rfl
theorem len_eq {n : Nat} (h : n < 18446744073709551616) : bits_Len (n : Int) = some ((wid n : Nat) : Int) := by
 unfold bits_Len; rw [len64_eq h]; rfl
end Go.Proofs.YthbonoagbeilkaaGreat.Hay
namespace Go.Proofs.YthbonoagbeilkaaGreat.Hay
theorem ltB_irr : ∀ s : List Int, ltB s s = false
 | [] => rfl
 | a :: x => by simp [ltB, ltB_irr x]
theorem ltB_trans : ∀ {s u v : List Int}, ltB s u = true → ltB u v = true → ltB s v = true
 | _, [], _, h, _ => by simp [ltB] at h
 | _, _ :: _, [], _, h => by simp [ltB] at h
 | [], _ :: _, _ :: _, _, _ => rfl
 | a :: x, b :: y, c :: z, h, k => by
  simp only [ltB, Bool.or_eq_true, decide_eq_true_eq, Bool.and_eq_true, beq_iff_eq] at *
  rcases h with h | ⟨rfl, h⟩
  ·rcases k with k | ⟨rfl, k⟩
   ·left; omega
   ·left; exact h
  ·rcases k with k | ⟨rfl, k⟩
   ·left; exact k
   ·right; exact ⟨rfl, ltB_trans h k⟩
theorem ltB_tri : ∀ {s u : List Int}, ltB s u = false → ltB u s = false → s = u
 | [], [], _, _ => rfl
 | [], _ :: _, h, _ => by simp [ltB] at h
 | _ :: _, [], _, h => by simp [ltB] at h
 | a :: x, b :: y, h, k => by
  simp only [ltB, Bool.or_eq_false_iff, decide_eq_false_iff_not] at h k
  have e : a = b := by omega
  subst e
  simp only [beq_self_eq_true, Bool.true_and] at h k
  rw [ltB_tri h.2 k.2]
def ltV (a b : Ap) : Bool :=
 if a.fKind != b.fKind then decide (a.fKind < b.fKind) else if a.fKind == 1 then !a.fBool && b.fBool else if a.fKind == 2 then decide (a.fInt < b.fInt) else
 if a.fKind == 3 then ltB a.fText b.fText else false
theorem less_eq (a b : Ap) : r2_less a b = some (ltV a b) := by
 unfold r2_less r2_less_j1 r2_less_j2 ltV
 repeat' split
 all_goals simp_all
theorem ltV_irr (a : Ap) : ltV a a = false := by
 unfold ltV
 repeat' split
 all_goals simp_all [ltB_irr]
theorem ltV_trans {a b c : Ap} (h : ltV a b = true) (k : ltV b c = true) : ltV a c = true := by
 obtain ⟨ka, ba, na, ta⟩ := a
 obtain ⟨kb, bb, nb, tb⟩ := b
 obtain ⟨kc, bc, nc, tc⟩ := c
 simp only [ltV] at *
 by_cases e1 : ka = kb
 ·subst e1
  by_cases e2 : ka = kc
  ·subst e2
   by_cases e1 : ka = 1
   ·subst e1; cases ba <;> cases bb <;> cases bc <;> simp_all
   by_cases e2 : ka = 2
   ·subst e2; simp at *; omega
   by_cases e3 : ka = 3
   ·subst e3; simp at *; exact ltB_trans h k
   ·have h1 : (ka == 1) = false := by simpa using e1
    have h2 : (ka == 2) = false := by simpa using e2
    have h3 : (ka == 3) = false := by simpa using e3
    simp [h1, h2, h3] at h
  ·have : (ka != kc) = true := by simpa using e2
   simp only [this, if_true] at *; exact k
 ·have h1 : (ka != kb) = true := by simpa using e1
  simp only [h1, if_true, decide_eq_true_eq] at h
  by_cases e2 : kb = kc
  ·subst e2; simp only [h1, if_true, decide_eq_true_eq]; exact h
  ·have h2 : (kb != kc) = true := by simpa using e2
   simp only [h2, if_true, decide_eq_true_eq] at k
   have h3 : (ka != kc) = true := by simp; omega
   simp only [h3, if_true, decide_eq_true_eq]; omega
theorem ltV_tri {a b : Ap} (ha : Rgt a) (hb : Rgt b) (h : ltV a b = false) (k : ltV b a = false) : a = b := by
 cases ha <;> cases hb <;> simp [ltV] at h k
 ·rfl
 ·rename_i x y; cases x <;> cases y <;> simp_all
 ·have : ∀ x y : Int, x = y → vInt x = vInt y := fun x y h => by rw [h]
  apply this; omega
 ·rw [ltB_tri h k]
def cmpV (a b : Ap) : Int := if ltV a b then -1 else if ltV b a then 1 else 0
theorem ref_Compare_eq (a b : Ap) : r2_Compare a b = some (cmpV a b) := by
 unfold r2_Compare cmpV
 rw [less_eq, less_eq, Option.bind_some, Option.bind_some]
 cases ltV a b <;> cases ltV b a <;> rfl
theorem value_Compare_eq (a b : Ap) : value_Compare a b = some (cmpV a b) := by
 unfold value_Compare value_Compare_j1 cmp_Compare_int cmp_Compare_int64 cmp_isNaN_int cmp_isNaN_int64 strings_Compare bytealg_CompareString cmpV cmpB
 simp only [bne_self_eq_false, Option.bind_some, Bool.false_eq_true, if_false]
 obtain ⟨ka, ba, na, ta⟩ := a
 obtain ⟨kb, bb, nb, tb⟩ := b
 simp only [ltV]
 by_cases e : ka = kb
 ·subst e
  simp only [bne_self_eq_false, Bool.false_eq_true, if_false]
  by_cases e1 : ka = 1
  ·subst e1; cases ba <;> cases bb <;> simp
  ·have h1 : (ka == 1) = false := by simpa using e1
   simp only [h1, Bool.false_eq_true, if_false]
   by_cases e2 : ka = 2
   ·subst e2; simp
    repeat' split
    all_goals rfl
   ·have h2 : (ka == 2) = false := by simpa using e2
    simp only [h2, Bool.false_eq_true, if_false]
    by_cases e3 : ka = 3
    ·subst e3; simp
    ·have h3 : (ka == 3) = false := by simpa using e3
     simp [h3]
 ·have h1 : (ka != kb) = true := by simpa using e
  have h2 : (kb != ka) = true := by simp; omega
  simp only [h1, h2, if_true, decide_eq_true_eq]
  repeat' split
  all_goals rfl
theorem ltV_asym {a b : Ap} (h : ltV a b = true) : ltV b a = false := by
 cases k : ltV b a with
 | false => rfl
 | true => have := ltV_trans h k; rw [ltV_irr] at this; cases this
theorem cmpV_neg (a b : Ap) : cmpV a b < 0 ↔ ltV a b = true := by
 unfold cmpV
 repeat' split
 all_goals simp_all
theorem cmpV_le (a b : Ap) : cmpV a b ≤ 0 ↔ ltV b a = false := by
 unfold cmpV
 split
 ·rename_i h; simp [ltV_asym h]
 ·split
  ·rename_i h; simp [h]
  ·rename_i h; simpa using h
theorem cmpV_zero {a b : Ap} (ha : Rgt a) (hb : Rgt b) : cmpV a b = 0 ↔ a = b := by
 unfold cmpV
 constructor
 ·intro h
  split at h
  ·cases h
  split at h
  ·cases h
  rename_i h1 h2
  exact ltV_tri ha hb (by simpa using h1) (by simpa using h2)
 ·rintro rfl; rw [ltV_irr]; rfl
theorem good_V {l : List Ap} (h : ∀ v ∈ l, Rgt v) : Good value_Compare l := by
 refine ⟨fun x _ y _ => ⟨_, value_Compare_eq x y, ?_⟩, fun x _ => ?_, fun x _ y _ z _ h1 h2 => ?_, fun x hx y hy z hz h1 h2 h3 => ?_, fun x hx y hy h1 h2 => ?_⟩
 ·rw [inR_bd]; unfold cmpV
  repeat' split
  all_goals decide
 ·rw [value_Compare_eq]; simp only [Option.getD_some]; rw [cmpV_neg, ltV_irr]; decide
 ·rw [value_Compare_eq] at *
  simp only [Option.getD_some, cmpV_neg] at *
  exact ltV_trans h1 h2
 ·rw [value_Compare_eq] at *
  simp only [Option.getD_some, cmpV_neg, Bool.not_eq_true] at *
  cases hyx : ltV y x with
  | true => have := ltV_trans hyx h3; rw [h2] at this; cases this
  | false => have := ltV_tri (h x hx) (h y hy) h1 hyx; subst this; rw [h2] at h3; cases h3
 ·rw [value_Compare_eq] at *
  simp only [Option.getD_some, cmpV_neg, Bool.not_eq_true] at *
  exact ltV_tri (h x hx) (h y hy) h1 h2
abbrev Ris (l : List Ap) : Prop := l.Pairwise fun a b => ltV a b = true
theorem Ris.one : ∀ {l k : List Ap}, Ris l → Ris k → (∀ v, v ∈ l ↔ v ∈ k) → l = k
 | [], [], _, _, _ => rfl
 | [], b :: k, _, _, h => by have := (h b).2 (by simp); cases this
 | a :: l, [], _, _, h => by have := (h a).1 (by simp); cases this
 | a :: l, b :: k, hl, hk, h => by
  have hl' := List.pairwise_cons.1 hl
  have hk' := List.pairwise_cons.1 hk
  have e : a = b := by
   have h1 := (h a).1 (by simp)
   have h2 := (h b).2 (by simp)
   rcases List.mem_cons.1 h1 with h1 | h1
   ·exact h1
   rcases List.mem_cons.1 h2 with h2 | h2
   ·exact h2.symm
   have := ltV_asym (hk'.1 a h1)
   rw [hl'.1 b h2] at this; cases this
  subst e
  congr 1
  refine Ris.one hl'.2 hk'.2 fun v => ?_
  have hv := h v
  simp only [List.mem_cons] at hv
  constructor
  ·intro hm
   rcases hv.1 (.inr hm) with e | e
   ·subst e; have := hl'.1 v hm; rw [ltV_irr] at this; cases this
   ·exact e
  ·intro hm
   rcases hv.2 (.inr hm) with e | e
   ·subst e; have := hk'.1 v hm; rw [ltV_irr] at this; cases this
   ·exact e
theorem Ris.nodup {l : List Ap} (h : Ris l) : l.Nodup := h.imp fun {a b} h e => by subst e; rw [ltV_irr] at h; cases h
def ins (v : Ap) : List Ap → List Ap
 | [] => [v]
 | x :: r => if ltV x v then x :: ins v r else if v = x then x :: r else v :: x :: r
theorem ins_mem (v : Ap) : ∀ (l : List Ap) (x : Ap), x ∈ ins v l ↔ x = v ∨ x ∈ l
 | [], x => by simp [ins]
 | y :: r, x => by
  simp only [ins]
  split
  ·simp only [List.mem_cons, ins_mem v r x]
   constructor <;> (intro h; rcases h with h | h | h <;> simp [h])
  split
  ·rename_i e; subst e; simp
  ·simp
theorem ins_ris (v : Ap) (hv : Rgt v) : ∀ {l : List Ap}, (∀ x ∈ l, Rgt x) → Ris l → Ris (ins v l)
 | [], _, _ => by simp [ins]
 | y :: r, hr, h => by
  have h' := List.pairwise_cons.1 h
  simp only [ins]
  split
  ·rename_i hlt
   refine List.pairwise_cons.2 ⟨fun x hx => ?_, ins_ris v hv (fun x hx => hr x (by simp [hx])) h'.2⟩
   rcases (ins_mem v r x).1 hx with e | e
   ·subst e; exact hlt
   ·exact h'.1 x e
  split
  ·exact h
  ·rename_i h1 h2
   have hvy : ltV v y = true := by
    cases h3 : ltV v y with
    | true => rfl
    | false => exact absurd (ltV_tri hv (hr y (by simp)) h3 (by simpa using h1)) h2
   refine List.pairwise_cons.2 ⟨fun x hx => ?_, h⟩
   rcases List.mem_cons.1 hx with e | e
   ·subst e; exact hvy
   ·exact ltV_trans hvy (h'.1 x e)
def words (l : List Ap) : List Ap := l.foldl (fun out v => ins v out) []
theorem words_snoc (l : List Ap) (v : Ap) : words (l ++ [v]) = ins v (words l) := by simp [words]
theorem words_take {l : List Ap} {i : Nat} (h : i < l.length) : words (l.take (i + 1)) = ins l[i] (words (l.take i)) := by
 rw [List.take_succ_eq_append_getElem h, words_snoc]
theorem words_prop {l : List Ap} (h : ∀ v ∈ l, Rgt v) : Ris (words l) ∧ (∀ v, v ∈ words l ↔ v ∈ l) ∧ (words l).length ≤ l.length := by
 have key : ∀ i, i ≤ l.length → Ris (words (l.take i)) ∧ (∀ v, v ∈ words (l.take i) ↔ v ∈ l.take i) ∧ (words (l.take i)).length ≤ i := by
  intro i
  induction i with
  | zero => intro _; simp [words]
  | succ i ih =>
   intro hi
   obtain ⟨h1, h2, h3⟩ := ih (by omega)
   have hlt : i < l.length := by omega
   rw [words_take hlt]
   have hr : ∀ x ∈ words (l.take i), Rgt x := fun x hx => h x (List.mem_of_mem_take ((h2 x).1 hx))
   refine ⟨ins_ris _ (h _ (List.getElem_mem hlt)) hr h1, fun v => ?_, ?_⟩
   ·rw [ins_mem, h2, List.take_succ_eq_append_getElem hlt, List.mem_append, List.mem_singleton]
    exact or_comm
   ·have : ∀ (v : Ap) (l : List Ap), (ins v l).length ≤ l.length + 1 := by
     intro v l
     induction l with
     | nil => simp [ins]
     | cons y r ih =>
      simp only [ins]
      repeat' split
      all_goals simp
      omega
    have := this l[i] (words (l.take i)); omega
 have := key l.length (Nat.le_refl _)
 rwa [List.take_length] at this
def insS (v : Ap) (s : List Ap × Bool) (x : Ap) : List Ap × Bool :=
 if !s.2 && decide (cmpV v x ≤ 0) then (if cmpV v x = 0 then (s.1 ++ [v], true) else (s.1 ++ [v] ++ [x], true)) else (s.1 ++ [x], s.2)
theorem insS_done (v : Ap) : ∀ (l a : List Ap), l.foldl (insS v) (a, true) = (a ++ l, true)
 | [], a => by simp
 | x :: r, a => by simp [insS, insS_done v r]
theorem insS_eq (v : Ap) (hv : Rgt v) : ∀ (l a : List Ap), (∀ x ∈ l, Rgt x) → (if (l.foldl (insS v) (a, false)).2 then (l.foldl (insS v) (a, false)).1 else (l.foldl (insS v) (a, false)).1 ++ [v]) = a ++ ins v l
 | [], a, _ => by simp [ins]
 | x :: r, a, h => by
  simp only [List.foldl_cons, insS, ins]
  cases hx : ltV x v with
  | true =>
   have : ¬ cmpV v x ≤ 0 := by rw [cmpV_le, hx]; decide
   simp only [this, decide_false, Bool.and_false, Bool.false_eq_true, if_false, if_true]
   rw [insS_eq v hv r (a ++ [x]) (fun y hy => h y (by simp [hy]))]
   simp
  | false =>
   have h1 : cmpV v x ≤ 0 := (cmpV_le v x).2 hx
   by_cases e : cmpV v x = 0
   ·have e2 := (cmpV_zero hv (h x (by simp))).1 e
    subst e2
    simp [e, insS_done]
   ·have e2 : v ≠ x := fun e2 => e ((cmpV_zero hv (h x (by simp))).2 e2)
    simp [h1, e, e2, insS_done]
theorem insS_len (v : Ap) : ∀ (l a : List Ap) (d : Bool), (l.foldl (insS v) (a, d)).1.length ≤ a.length + l.length + (if d then 0 else 1)
 | [], a, d => by simp
 | x :: r, a, d => by
  simp only [List.foldl_cons, insS]
  cases d
  ·simp only [Bool.not_false, Bool.true_and]
   split
   ·split
    ·have := insS_len v r (a ++ [v]) true; simp at this ⊢; omega
    ·have := insS_len v r (a ++ [v] ++ [x]) true; simp at this ⊢; omega
   ·have := insS_len v r (a ++ [x]) false; simp at this ⊢; omega
  ·have := insS_len v r (a ++ [x]) true
   simp at this ⊢; omega
theorem foldl_take {α β : Type} {f : β → α → β} {b : β} {l : List α} {i : Nat} (h : i < l.length) : (l.take (i + 1)).foldl f b = f ((l.take i).foldl f b) l[i] := by
 rw [List.take_succ_eq_append_getElem h, List.foldl_append]; rfl
theorem ref_words_eq {l : List Ap} (h : ∀ v ∈ l, Rgt v) (hl : l.length < 1048576) : r6_words l = some (words l) := by
 unfold r6_words
 refine loop_seq (fun i => (words (l.take i), (i : Int))) l.length (by simp [words]) (fun i hi => ?_) ?_
 ·dsimp only
  unfold r6_words_b1
  obtain ⟨h1, h2, h3⟩ := words_prop (l := l.take i) fun v hv => h v (List.mem_of_mem_take hv)
  have h3' : (words (l.take i)).length ≤ i := by simp at h3; omega
  have hr : ∀ x ∈ words (l.take i), Rgt x := fun x hx => h x (List.mem_of_mem_take ((h2 x).1 hx))
  have hv := h l[i] (List.getElem_mem hi)
  rw [if_pos (by simpa using hi)]
  generalize hw : words (l.take i) = W at *
  have hfin := insS_eq l[i] hv W [] hr
  refine loop_seq (fun k => (((W.take k).foldl (insS l[i]) ([], false)).1, ((W.take k).foldl (insS l[i]) ([], false)).2, (k : Int))) W.length (by simp) (fun k hk => ?_) ?_
  ·dsimp only
   have hlen := insS_len l[i] (W.take k) [] false
   simp only [List.length_nil, List.length_take, Bool.false_eq_true, if_false] at hlen
   unfold r6_words_b2 r6_words_j6 r6_words_j7 r6_words_j5
   rw [if_pos (by simpa using hk), idx_of hi, Option.bind_some, idx_of hk, Option.bind_some, ref_Compare_eq, Option.bind_some, succ64 (by omega), foldl_take hk]
   generalize hs : (W.take k).foldl (insS l[i]) ([], false) = s at *
   obtain ⟨s1, s2⟩ := s
   simp only [insS] at *
   cases s2
   ·simp only [Bool.not_false, if_true, Bool.true_and, Option.bind_some]
    by_cases e : cmpV l[i] W[k] ≤ 0
    ·simp only [e, decide_true, if_true]
     rw [app_of (by simp; omega), Option.bind_some]
     by_cases e0 : cmpV l[i] W[k] = 0
     ·rw [if_pos (by simpa using e0), if_pos e0]
     ·rw [if_neg (by simpa using e0), if_neg e0, app_of (by simp; omega), Option.bind_some]
    ·simp only [e, decide_false, Bool.false_eq_true, if_false]
     rw [app_of (by simp; omega), Option.bind_some]
   ·simp only [Bool.not_true, Bool.false_eq_true, if_false, Bool.false_and, Option.bind_some]
    rw [app_of (by simp; omega), Option.bind_some]
  ·dsimp only
   have hlen := insS_len l[i] W [] false
   simp only [List.length_nil, Bool.false_eq_true, if_false] at hlen
   unfold r6_words_b2 r6_words_j3 r6_words_j4 r6_words_j2
   rw [if_neg (by simp), List.take_length, succ64 (by omega), words_take hi, hw]
   rw [show ([] : List Ap) ++ ins l[i] W = ins l[i] W from rfl] at hfin
   rw [← hfin]
   cases hd : (W.foldl (insS l[i]) ([], false)).2
   ·simp only [Bool.not_false, if_true, Bool.false_eq_true, if_false]
    rw [idx_of hi, Option.bind_some, app_of (by simp; omega)]; rfl
   ·simp
 ·dsimp only
  unfold r6_words_b1 r6_words_j1
  rw [if_neg (by simp), List.take_length]; rfl
def dd (s : List Ap) : List Ap := s.foldl (fun out v => if out.getLast? = some v then out else out ++ [v]) []
theorem dd_snoc (s : List Ap) (v : Ap) : dd (s ++ [v]) = if (dd s).getLast? = some v then dd s else dd s ++ [v] := by
 unfold dd; rw [List.foldl_append]; rfl
theorem dd_last (s : List Ap) {i : Nat} (h : i < s.length) : (dd (s.take (i + 1))).getLast? = some s[i] := by
 rw [List.take_succ_eq_append_getElem h, dd_snoc]
 split
 ·assumption
 ·simp
theorem dd_step (s : List Ap) {i : Nat} (h : i + 1 < s.length) : dd (s.take (i + 2)) = if s[i + 1] = s[i] then dd (s.take (i + 1)) else dd (s.take (i + 1)) ++ [s[i + 1]] := by
 rw [List.take_succ_eq_append_getElem h, dd_snoc, dd_last s (by omega)]
 by_cases e : s[i + 1] = s[i]
 ·rw [if_pos e, if_pos (by rw [e])]
 ·rw [if_neg e, if_neg (fun h => e (Option.some.inj h).symm)]
theorem dd_one (s : List Ap) (h : 0 < s.length) : dd (s.take 1) = s.take 1 := by
 match s, h with
 | a :: r, _ => rfl
theorem dd_prop {s : List Ap} (hr : ∀ x ∈ s, Rgt x) (h : s.Pairwise fun x y => ltV y x = false) : Ris (dd s) ∧ (∀ v, v ∈ dd s ↔ v ∈ s) := by
 have key : ∀ i, i ≤ s.length → Ris (dd (s.take i)) ∧ (∀ v, v ∈ dd (s.take i) ↔ v ∈ s.take i) := by
  intro i
  induction i with
  | zero => intro _; simp [dd]
  | succ i ih =>
   intro hi
   obtain ⟨h1, h2⟩ := ih (by omega)
   have hlt : i < s.length := by omega
   rw [List.take_succ_eq_append_getElem hlt, dd_snoc]
   split
   ·rename_i e
    refine ⟨h1, fun v => ?_⟩
    rw [h2, List.mem_append, List.mem_singleton]
    constructor
    ·exact .inl
    ·rintro (hm | rfl)
     ·exact hm
     ·exact (h2 _).1 (List.mem_of_getLast? e)
   ·rename_i e
    refine ⟨List.pairwise_append.2 ⟨h1, by simp, fun a ha b hb => ?_⟩, fun v => by rw [List.mem_append, List.mem_append, h2]⟩
    have hb' : b = s[i] := by simpa using hb
    subst hb'
    have ha' := (h2 a).1 ha
    -- a is ahead of s[i] in s
    obtain ⟨j, hj, rfl⟩ := List.getElem_of_mem ha'
    simp only [List.length_take] at hj
    have hge : ltV s[i] s[j] = false := List.pairwise_iff_getElem.1 h j i (by omega) hlt (by omega)
    rw [List.getElem_take] at ha ⊢
    cases hlt2 : ltV s[j] s[i] with
    | true => rfl
    | false =>
     have e2 := ltV_tri (hr _ (List.getElem_mem (by omega))) (hr _ (List.getElem_mem hlt)) hlt2 hge
     exfalso
     apply e
     have hi0 : 0 < i := by omega
     obtain ⟨i', rfl⟩ : ∃ i', i = i' + 1 := ⟨i - 1, by omega⟩
     rw [dd_last s (by omega)]
     -- s[j] <= s[i'] <= s[i' + 1] = s[j]
     congr 1
     apply ltV_tri (hr _ (List.getElem_mem (by omega))) (hr _ (List.getElem_mem hlt))
     ·cases h3 : ltV s[i'] s[i' + 1] with
      | false => rfl
      | true =>
       rw [← e2] at h3
       by_cases e3 : j = i'
       ·subst e3; rw [ltV_irr] at h3; cases h3
       ·have := List.pairwise_iff_getElem.1 h j i' (by omega) (by omega) (by omega)
        rw [this] at h3; cases h3
     ·exact List.pairwise_iff_getElem.1 h i' (i' + 1) (by omega) hlt (by omega)
 have := key s.length (Nat.le_refl _)
 rwa [List.take_length] at this
theorem compact_eq (s : List Ap) (hs : s.length < 1048576) : slices_Compact_Value_g s = some (dd s) := by
 unfold slices_Compact_Value_g
 by_cases h2 : s.length < 2
 ·rw [if_pos (by simpa using by omega)]
  match s, h2 with
  | [], _ => rfl
  | [a], _ => rfl
 rw [if_neg (by simpa using by omega)]
 refine loopO_eqv (I := fun s' : Int => ∃ i : Nat, s' = ((i + 1 : Nat) : Int) ∧ i + 1 ≤ s.length ∧ dd (s.take (i + 1)) = s.take (i + 1)) (μ := fun x => s.length - x.toNat) ?_ ⟨0, rfl, by omega, dd_one s (by omega)⟩
 rintro _ ⟨i, rfl, hi, hd⟩
 unfold slices_Compact_Value_g_b1
 by_cases hlt : i + 1 < s.length
 ·have e1 : IntKind.i64.wrap (((i + 1 : Nat) : Int) - 1) = (i : Int) := by rw [wrap64 (by omega)]; omega
  rw [if_pos (by simpa using by omega), ix_of hlt, Option.bind_some, List.getElem?_eq_getElem hlt, Option.bind_some, e1, ix_of (by omega), Option.bind_some, List.getElem?_eq_getElem (by omega), Option.bind_some]
  by_cases e : s[i + 1] = s[i]
  ·right
   rw [if_pos (by simpa using e)]
   have hv : vw s ((i + 1 : Nat) : Int) (s.length : Int) = some (i + 1, s.length - (i + 1)) := by
    unfold vw; rw [if_pos (by omega)]; simp only [Int.toNat_natCast]
   rw [hv, Option.bind_some]
   refine loopO_eqv (I := fun t : Int × Int × List Ap => ∃ p k2 : Nat, p = i + 1 + k2 ∧ 1 ≤ k2 ∧ p ≤ s.length ∧ t.1 = ((dd (s.take p)).length : Int) ∧ t.2.1 = (k2 : Int) ∧ t.2.2.length = s.length ∧ (dd (s.take p)).length + 1 ≤ p ∧ t.2.2.take (dd (s.take p)).length = dd (s.take p) ∧ t.2.2.drop (p - 1) = s.drop (p - 1)) (μ := fun t => s.length - t.2.1.toNat) ?_ ?_
   ·rintro ⟨t1, t2, xs⟩ ⟨p, k2, hp, hk2, hps, rfl, rfl, hxl, hdl, htk, hdr⟩
    unfold slices_Compact_Value_g_b2
    have hm : Nat.ble (s.length - (i + 1)) maxSz = true := Nat.ble_eq_true_of_le (by unfold maxSz; omega)
    dsimp only at *
    rw [chk_true hm, Option.bind_some]
    by_cases hlt2 : p < s.length
    ·left
     have hx1 : xs[p]? = some s[p] := by
      have : (xs.drop (p - 1))[1]? = (s.drop (p - 1))[1]? := by rw [hdr]
      rw [List.getElem?_drop, List.getElem?_drop] at this
      have e : p - 1 + 1 = p := by omega
      rw [e] at this; rw [this, List.getElem?_eq_getElem hlt2]
     have hx0 : xs[p - 1]? = some s[p - 1] := by
      have : (xs.drop (p - 1))[0]? = (s.drop (p - 1))[0]? := by rw [hdr]
      rw [List.getElem?_drop, List.getElem?_drop] at this
      rw [Nat.add_zero] at this; rw [this, List.getElem?_eq_getElem (by omega)]
     have e2 : ixv (i + 1) (s.length - (i + 1)) (k2 : Int) = some p := by unfold ixv; rw [if_pos (by omega)]; simp; omega
     have e3 : ixv (i + 1) (s.length - (i + 1)) (IntKind.i64.wrap ((k2 : Int) - 1)) = some (p - 1) := by
      rw [wrap64 (by omega)]; unfold ixv; rw [if_pos (by omega)]; simp; omega
     have hst := dd_step s (i := p - 1) (by omega)
     have e4 : p - 1 + 1 = p := by omega
     have e5 : p - 1 + 2 = p + 1 := by omega
     simp only [e4, e5] at hst
     rw [if_pos (by simpa using by omega), e2, Option.bind_some, hx1, Option.bind_some, e3, Option.bind_some, hx0, Option.bind_some]
     by_cases e6 : s[p] = s[p - 1]
     ·rw [if_pos e6] at hst
      rw [if_neg (by simpa using e6)]
      unfold slices_Compact_Value_g_j4
      refine ⟨_, rfl, ⟨p + 1, k2 + 1, by omega, by omega, by omega, by rw [hst], ?_, hxl, by rw [hst]; omega, by rw [hst]; exact htk, ?_⟩, ?_⟩
      ·exact succ64 (by omega)
      ·have : p + 1 - 1 = p - 1 + 1 := by omega
       rw [this, ← List.drop_drop, ← List.drop_drop, hdr]
      ·dsimp only; rw [succ64 (by omega)]; simp; omega
     ·rw [if_neg e6] at hst
      rw [if_pos (by simpa using e6)]
      have hkl : (dd (s.take p)).length < xs.length := by omega
      rw [Option.bind_some, hx1, Option.bind_some, ix_of hkl, Option.bind_some, List.getElem?_eq_getElem hkl, Option.bind_some]
      unfold slices_Compact_Value_g_j4
      refine ⟨_, rfl, ⟨p + 1, k2 + 1, by omega, by omega, by omega, ?_, succ64 (by omega), by simp [hxl], by rw [hst]; simp; omega, ?_, ?_⟩, ?_⟩
      ·rw [hst, succ64 (by omega)]; simp
      ·rw [hst]
       simp only [List.length_append, List.length_singleton]
       rw [List.take_succ_eq_append_getElem (by simp; omega)]
       rw [List.take_set_of_le (Nat.le_refl _), htk]; simp
      ·rw [List.drop_set_of_lt (by omega)]
       have : p + 1 - 1 = p - 1 + 1 := by omega
       rw [this, ← List.drop_drop, ← List.drop_drop, hdr]
      ·dsimp only; rw [succ64 (by omega)]; simp; omega
    ·right
     have hps' : p = s.length := by omega
     subst hps'
     rw [if_neg (by simpa using by omega)]
     unfold slices_Compact_Value_g_j3
     rw [List.take_length] at *
     have hv2 : vw xs ((dd s).length : Int) (xs.length : Int) = some ((dd s).length, xs.length - (dd s).length) := by
      unfold vw; rw [if_pos (by omega)]; simp only [Int.toNat_natCast]
     rw [hv2, Option.bind_some]
     unfold clr
     rw [if_pos (by dsimp only; omega), Option.bind_some]
     have hsp : (spl xs (dd s).length (List.replicate (xs.length - (dd s).length) Ap.zero)).length = xs.length := by
      unfold spl; simp; omega
     have := sub_of (xs := spl xs (dd s).length (List.replicate (xs.length - (dd s).length) Ap.zero)) (lo := 0) (hi := (dd s).length) (by omega) (by omega)
     rw [show ((0 : Nat) : Int) = 0 from rfl] at this
     rw [this]
     have e7 : (spl xs (dd s).length (List.replicate (xs.length - (dd s).length) Ap.zero)).take (dd s).length = dd s := by
      unfold spl
      rw [List.append_assoc, List.take_left' (by simp; omega)]; exact htk
     rw [List.drop_zero, e7]; rfl
   ·have hst := dd_step s (i := i) (by omega)
    rw [if_pos e, hd] at hst
    refine ⟨i + 2, 1, by omega, by omega, by omega, ?_, rfl, rfl, ?_, ?_, rfl⟩
    ·rw [hst]; simp; omega
    ·rw [hst]; simp; omega
    ·rw [hst]; simp
  ·left
   rw [if_neg (by simpa using e)]
   unfold slices_Compact_Value_g_j2
   refine ⟨_, rfl, ⟨i + 1, succ64 (by omega), by omega, ?_⟩, ?_⟩
   ·rw [dd_step s (i := i) (by omega), if_neg e, hd]
    exact (List.take_succ_eq_append_getElem hlt).symm
   ·rw [succ64 (by omega)]; simp; omega
 ·right
  have : i + 1 = s.length := by omega
  rw [if_neg (by simpa using by omega)]
  rw [this, List.take_length] at hd
  unfold slices_Compact_Value_g_j1
  rw [hd]; rfl
theorem sort_compact_eq {l : List Ap} (h : ∀ v ∈ l, Rgt v) (hl : l.length < 1048576) : ∃ r, slices_SortFunc_Value l value_Compare = some r ∧ slices_Compact_Value_g r = some (words l) := by
 obtain ⟨r, hr⟩ : ∃ r, sortM value_Compare l = some r := by
  unfold sortM; rw [if_pos (good_V h)]; exact ⟨_, rfl⟩
 obtain ⟨_, hp, hs⟩ := sortM_some hr
 refine ⟨r, hr, ?_⟩
 rw [compact_eq r (by rw [hp.length_eq]; exact hl)]
 congr 1
 have hr' : ∀ x ∈ r, Rgt x := fun x hx => h x (hp.mem_iff.1 hx)
 have hs' : r.Pairwise fun x y => ltV y x = false := hs.imp fun {x y} h => by
  rw [value_Compare_eq] at h
  simp only [Option.getD_some, cmpV_neg, Bool.not_eq_true] at h
  exact h
 obtain ⟨h1, h2⟩ := dd_prop hr' hs'
 obtain ⟨h3, h4, _⟩ := words_prop h
 exact Ris.one h1 h3 fun v => by rw [h2, h4, hp.mem_iff]
end Go.Proofs.YthbonoagbeilkaaGreat.Hay
namespace Go.Proofs.YthbonoagbeilkaaGreat.Hay
theorem loop_allS {α β σ : Type} {f : σ → Option (σ ⊕ β)} {s : σ} (S : Nat → σ) (xs : List α) (p : α → Bool) (b0 b1 : β) (h0 : s = S 0) (step : ∀ (i : Nat) (h : i < xs.length), p xs[i] = true → f (S i) = some (.inl (S (i + 1))))
  (out : ∀ (i : Nat) (h : i < xs.length), p xs[i] = false → f (S i) = some (.inr b0)) (fin : f (S xs.length) = some (.inr b1)) : loopO f s = some (if xs.all p then b1 else b0) := by
 have key : ∀ k i : Nat, i + k = xs.length → loopO f (S i) = some (if (xs.drop i).all p then b1 else b0) := by
  intro k
  induction k with
  | zero =>
   intro i hi
   have : i = xs.length := by omega
   subst this
   rw [loopO_end fin]; simp
  | succ k ih =>
   intro i hi
   have hlt : i < xs.length := by omega
   rw [List.drop_eq_getElem_cons hlt, List.all_cons]
   cases hp : p xs[i] with
   | true => rw [loopO_go (step i hlt hp), ih (i + 1) (by omega)]; simp
   | false => rw [loopO_end (out i hlt hp)]; simp
 have := key xs.length 0 (by omega)
 rw [h0]
 simpa using this
def addR (out : List Encode_Run) (v : Ap) : List Encode_Run :=
 match out.getLast? with
 | some r => if r.fValue = v then out.dropLast ++ [⟨r.fMany + 1, v⟩] else out ++ [⟨1, v⟩]
 | none => [⟨1, v⟩]
def runsL (l : List Ap) : List Encode_Run := l.foldl addR []
def expand (l : List Encode_Run) : List Ap := l.flatMap fun r => List.replicate r.fMany.toNat r.fValue
theorem runsL_take {l : List Ap} {i : Nat} (h : i < l.length) : runsL (l.take (i + 1)) = addR (runsL (l.take i)) l[i] := foldl_take h
theorem addR_last (out : List Encode_Run) (v : Ap) : ∃ n, (addR out v).getLast? = some ⟨n, v⟩ := by
 unfold addR
 split
 ·rename_i r _
  split
  ·exact ⟨r.fMany + 1, by simp⟩
  ·exact ⟨1, by simp⟩
 ·exact ⟨1, by simp⟩
theorem getLast_split {α : Type} {l : List α} {a : α} (h : l.getLast? = some a) : l = l.dropLast ++ [a] := by
 cases l with
 | nil => cases h
 | cons x r =>
  have h1 : (x :: r).getLast (by simp) = a := by rw [List.getLast?_eq_some_getLast (by simp)] at h; exact Option.some.inj h
  rw [← h1, List.dropLast_concat_getLast]
theorem runs_prop (l : List Ap) {i : Nat} (hi : i ≤ l.length) : (∀ r ∈ runsL (l.take i), 1 ≤ r.fMany ∧ r.fMany ≤ i ∧ r.fValue ∈ l) ∧ (runsL (l.take i)).length ≤ i ∧ expand (runsL (l.take i)) = l.take i := by
 induction i with
 | zero => simp [runsL, expand]
 | succ i ih =>
  obtain ⟨h1, h2, h3⟩ := ih (by omega)
  have hlt : i < l.length := by omega
  rw [runsL_take hlt, List.take_succ_eq_append_getElem hlt]
  generalize hw : runsL (l.take i) = W at *
  unfold addR
  have hm := List.getElem_mem hlt
  split
  ·rename_i r hr
   split
   ·rename_i e
    have hsp := getLast_split hr
    have hrm : r ∈ W := List.mem_of_getLast? hr
    obtain ⟨g1, g2, g3⟩ := h1 r hrm
    refine ⟨fun x hx => ?_, ?_, ?_⟩
    ·rcases List.mem_append.1 hx with hx | hx
     ·have := h1 x (by rw [hsp]; exact List.mem_append_left _ hx); exact ⟨this.1, by omega, this.2.2⟩
     ·have : x = ⟨r.fMany + 1, l[i]⟩ := by simpa using hx
      subst this; exact ⟨by simp; omega, by simp; omega, hm⟩
    ·have : W.length = W.dropLast.length + 1 := by rw [hsp]; simp
     simp; omega
    ·rw [← h3]
     have e1 : expand W = expand W.dropLast ++ List.replicate r.fMany.toNat r.fValue := by
      conv => lhs; rw [hsp]
      simp [expand]
     rw [e1]
     have e2 : (r.fMany + 1).toNat = r.fMany.toNat + 1 := by omega
     simp [expand, e2, List.replicate_succ', e]
   ·refine ⟨fun x hx => ?_, by simp; omega, ?_⟩
    ·rcases List.mem_append.1 hx with hx | hx
     ·have := h1 x hx; exact ⟨this.1, by omega, this.2.2⟩
     ·have : x = ⟨1, l[i]⟩ := by simpa using hx
      subst this; exact ⟨by simp, by simp; omega, hm⟩
    ·rw [← h3]; simp [expand]
  ·rename_i hr
   have : W = [] := List.getLast?_eq_none_iff.1 hr
   subst this
   refine ⟨fun x hx => ?_, by simp, ?_⟩
   ·have : x = ⟨1, l[i]⟩ := by simpa using hx
    subst this; exact ⟨by simp, by simp; omega, hm⟩
   ·rw [← h3]; simp [expand]
theorem set_last {α : Type} (l : List α) (a : α) (n : Nat) (h : l.length = n + 1) : l.set n a = l.dropLast ++ [a] := by
 apply List.ext_getElem
 ·simp; omega
 intro j h1 h2
 rw [List.getElem_set]
 split
 ·rename_i e; subst e
  rw [List.getElem_append_right (by simp; omega)]; simp
 ·simp at h1
  rw [List.getElem_append_left (by simp; omega), List.getElem_dropLast]
theorem Runs_eq (l : List Ap) (hl : l.length ≤ 1048576) : encode_Runs l = some (runsL l) := by
 unfold encode_Runs
 refine loop_seq (fun i => ((i : Int), runsL (l.take i))) l.length (by simp [runsL]) (fun i hi => ?_) ?_
 ·dsimp only
  obtain ⟨h1, h2, _⟩ := runs_prop l (i := i) (by omega)
  rw [runsL_take hi]
  generalize runsL (l.take i) = W at *
  unfold encode_Runs_b1
  rw [if_pos (by simpa using hi), idx_of hi, Option.bind_some]
  have app1 : encode_Runs_b2 (i : Int) W l[i] (W.length : Int) = some (.inr (.inl ((((i + 1 : Nat) : Int)), W ++ [⟨1, l[i]⟩]))) := by
   unfold encode_Runs_b2 encode_Runs_j3 encode_Runs_j2
   rw [if_neg (by simp), app_of (by simp; omega), Option.bind_some, succ64 (by omega)]; rfl
  have stepk : ∀ k, k + 1 < W.length → encode_Runs_b2 (i : Int) W l[i] (k : Int) = some (.inl ((k + 1 : Nat) : Int)) := by
   intro k hk
   unfold encode_Runs_b2 encode_Runs_j4
   rw [if_pos (by simpa using by omega), if_neg (by rw [wrap64 (by omega)]; simp; omega), if_neg (by decide), succ64 (by omega)]
  unfold addR
  cases hg : W.getLast? with
  | none =>
   have : W = [] := List.getLast?_eq_none_iff.1 hg
   subst this
   exact loopO_end app1
  | some r =>
   dsimp only
   have hsp := getLast_split hg
   obtain ⟨n, hn⟩ : ∃ n, W.length = n + 1 := ⟨W.length - 1, by
    have : W.length = W.dropLast.length + 1 := by rw [hsp]; simp
    omega⟩
   have hgn : W[n]? = some r := by
    rw [List.getLast?_eq_getElem?, hn] at hg; exact hg
   have hrm := h1 r (List.mem_of_getLast? hg)
   by_cases e : r.fValue = l[i]
   ·rw [if_pos e]
    refine loop_seq (fun k => (k : Int)) n rfl (fun k hk => stepk k (by omega)) ?_
    unfold encode_Runs_b2 encode_Runs_j4 encode_Runs_j2
    rw [if_pos (by simpa using by omega), if_pos (by rw [wrap64 (by omega)]; simp; omega), ix_of (by omega), Option.bind_some, hgn, Option.bind_some, if_pos (by simpa using e), Option.bind_some, hgn, Option.bind_some, Option.bind_some, hgn, Option.bind_some, succ64 (by omega), set_last _ _ _ hn, wrap64 (by omega), e]
    rfl
   ·rw [if_neg e]
    refine loop_seq (fun k => (k : Int)) W.length rfl (fun k hk => ?_) app1
    by_cases hk1 : k + 1 < W.length
    ·exact stepk k hk1
    ·have : k = n := by omega
     subst this
     unfold encode_Runs_b2 encode_Runs_j4
     rw [if_pos (by simpa using by omega), if_pos (by rw [wrap64 (by omega)]; simp; omega), ix_of (by omega), Option.bind_some, hgn, Option.bind_some, if_neg (by simpa using e), succ64 (by omega)]
 ·dsimp only
  unfold encode_Runs_b1 encode_Runs_j1
  rw [if_neg (by simp), List.take_length]; rfl
def toRef (r : Encode_Run) : R6_Run := ⟨r.fMany, r.fValue⟩
theorem ref_Runs_eq (l : List Ap) (hl : l.length ≤ 1048576) : r6_Runs l = some ((runsL l).map toRef) := by
 unfold r6_Runs
 refine loop_seq (fun i => ((runsL (l.take i)).map toRef, (i : Int))) l.length (by simp [runsL]) (fun i hi => ?_) ?_
 ·dsimp only
  obtain ⟨h1, h2, _⟩ := runs_prop l (i := i) (by omega)
  rw [runsL_take hi]
  unfold r6_Runs_b1
  have hnew : r6_Runs_j3 l ((runsL (l.take i)).map toRef) (i : Int) false = some (.inl ((runsL (l.take i) ++ [(⟨1, l[i]⟩ : Encode_Run)]).map toRef, ((i + 1 : Nat) : Int))) := by
   unfold r6_Runs_j3 r6_Runs_j2
   rw [if_neg (by decide), idx_of hi, Option.bind_some, app_of (by simp; omega), Option.bind_some, succ64 (by omega)]
   simp [toRef]
  rw [if_pos (by simpa using hi)]
  rcases Nat.eq_zero_or_pos i with h0 | h0
  ·subst h0
   rw [if_neg (by decide), hnew]
   simp [runsL, addR]
  ·obtain ⟨j, rfl⟩ : ∃ j, i = j + 1 := ⟨i - 1, by omega⟩
   have e1 : IntKind.i64.wrap (((j + 1 : Nat) : Int) - 1) = (j : Int) := by rw [wrap64 (by omega)]; omega
   rw [if_pos (decide_eq_true (by omega)), idx_of hi, Option.bind_some, e1, idx_of (by omega), Option.bind_some]
   obtain ⟨n, hlast⟩ : ∃ n, (runsL (l.take (j + 1))).getLast? = some ⟨n, l[j]⟩ := by rw [runsL_take (by omega)]; exact addR_last _ _
   generalize hw : runsL (l.take (j + 1)) = W at *
   unfold addR
   rw [hlast]
   dsimp only
   by_cases e : l[j + 1] = l[j]
   ·rw [if_pos e.symm]
    unfold r6_Runs_j3 r6_Runs_j2
    have hsp := getLast_split hlast
    obtain ⟨k, hk⟩ : ∃ k, W.length = k + 1 := ⟨W.length - 1, by
     have : W.length = W.dropLast.length + 1 := by rw [hsp]; simp
     omega⟩
    have hrm := h1 _ (List.mem_of_getLast? hlast)
    have hgk : (W.map toRef)[k]? = some ⟨n, l[j]⟩ := by
     rw [List.getLast?_eq_getElem?, hk] at hlast
     rw [List.getElem?_map]
     have : W[k]? = some ⟨n, l[j]⟩ := hlast
     rw [this]; rfl
    have e2 : IntKind.i64.wrap (((W.map toRef).length : Int) - 1) = (k : Int) := by rw [wrap64 (by simp; omega)]; simp; omega
    have hkl : k < (W.map toRef).length := by simp; omega
    have e3 : (W.map toRef)[k] = ⟨n, l[j]⟩ := by
     rw [List.getElem?_eq_getElem hkl] at hgk; exact Option.some.inj hgk
    have e4 := sub_of (xs := W.map toRef) (lo := 0) (hi := k) (by omega) (by omega)
    rw [show ((0 : Nat) : Int) = 0 from rfl] at e4
    rw [if_pos (by simpa using e), e2, idx_of hkl, Option.bind_some, e3, e4, Option.bind_some, app_of (by simp; omega), Option.bind_some, app_of (by simp; omega), Option.bind_some, succ64 (by omega)]
    simp only at hrm
    rw [wrap64 (by simp; omega)]
    simp only [List.nil_append, List.drop_zero, List.map_append, List.map_cons, List.map_nil, toRef, List.map_dropLast]
    rw [List.dropLast_eq_take, List.length_map, hk, e]
    rfl
   ·rw [if_neg (fun h => e h.symm)]
    have : decide (l[j + 1] = l[j]) = false := by simpa using e
    rw [this, hnew]
 ·dsimp only
  unfold r6_Runs_b1 r6_Runs_j1
  rw [if_neg (by simp), List.take_length]; rfl
def runsB (l : List Ap) : List Int := (runsL l).flatMap fun r => r.fMany :: oneB r.fValue
theorem flat_le {α : Type} (l : List α) (f : α → List Int) (k : Nat) (h : ∀ x ∈ l, (f x).length ≤ k) : (l.flatMap f).length ≤ k * l.length := by
 induction l with
 | nil => simp
 | cons v r ih =>
  have := h v (by simp)
  have := ih fun x hx => h x (by simp [hx])
  rw [List.flatMap_cons, List.length_append, List.length_cons, Nat.mul_add]; omega
theorem runsL_all {l : List Ap} : (∀ r ∈ runsL l, 1 ≤ r.fMany ∧ r.fMany ≤ l.length ∧ r.fValue ∈ l) ∧ (runsL l).length ≤ l.length ∧ expand (runsL l) = l := by
 have := runs_prop l (Nat.le_refl _)
 rwa [List.take_length] at this
theorem encode_runs_eq {l : List Ap} (h : ∀ v ∈ l, Rgt v) (hl : l.length ≤ 64) : encode_runs l = some (runsB l) := by
 obtain ⟨h1, h2, _⟩ := runsL_all (l := l)
 unfold encode_runs
 rw [Runs_eq l (by omega), Option.bind_some]
 refine loop_seq (fun i => (((runsL l).take i).flatMap fun r => r.fMany :: oneB r.fValue, (i : Int))) (runsL l).length (by simp) (fun i hi => ?_) ?_
 ·dsimp only
  have hm := h1 _ (List.getElem_mem hi)
  have hr := h _ hm.2.2
  have hb := flat_le ((runsL l).take i) (fun r => r.fMany :: oneB r.fValue) 67 fun x hx => by
   have := (oneB_len (h _ (h1 x (List.mem_of_mem_take hx)).2.2)).2
   simp; omega
  have hb' := (oneB_len hr).2
  simp only [List.length_take] at hb
  unfold encode_runs_b1
  rw [if_pos (by simpa using hi), idx_of hi, Option.bind_some, wrapu8, app_of (by simp only [List.length_singleton]; omega), Option.bind_some, encode_one_eq hr, Option.bind_some, app_of (by simp only [List.length_append, List.length_singleton]; omega), Option.bind_some, succ64 (by omega), take_flat hi]
  have : (runsL l)[i].fMany % 256 = (runsL l)[i].fMany := by omega
  rw [this]; simp
 ·dsimp only
  unfold encode_runs_b1 encode_runs_j1
  rw [if_neg (by simp), List.take_length]; rfl
def zig (d : Int) : Nat := if d < 0 then (-2 * d - 1).toNat else (2 * d).toNat
def short (z : Nat) : List Int := if h : z < 128 then [(z : Int)] else ((z % 128 + 128 : Nat) : Int) :: short (z / 128)
termination_by z
theorem short_lt {z : Nat} (h : z < 128) : short z = [(z : Int)] := by rw [short, dif_pos h]
theorem short_ge {z : Nat} (h : ¬ z < 128) : short z = ((z % 128 + 128 : Nat) : Int) :: short (z / 128) := by rw [short, dif_neg h]
theorem short_len : ∀ (k z : Nat), z < 128 ^ (k + 1) → (short z).length ≤ k + 1
 | 0, z, h => by rw [short_lt (by simpa using h)]; simp
 | k + 1, z, h => by
  by_cases hz : z < 128
  ·rw [short_lt hz]; simp
  ·rw [short_ge hz]
   have : z / 128 < 128 ^ (k + 1) := by rw [Nat.div_lt_iff_lt_mul (by decide)]; rw [Nat.pow_succ] at h; exact h
   have := short_len k _ this
   simp; omega
theorem short_len10 {z : Nat} (h : z < 18446744073709551616) : (short z).length ≤ 10 := short_len 9 z (Nat.lt_of_lt_of_le h (by decide))
theorem short_byt (z : Nat) : Byt (short z) := by
 induction z using Nat.strongRecOn with
 | _ z ih =>
  by_cases hz : z < 128
  ·rw [short_lt hz]; exact .cons (by omega) .nil
  ·rw [short_ge hz]; exact .cons (by omega) (ih _ (by omega))
theorem zig_lt {d : Int} (h : i64r d) : zig d < 18446744073709551616 := by
 unfold zig i64r at *; split <;> omega
def dstep (l : List Int) (i : Nat) : List Int := short (zig (IntKind.i64.wrap (l.getD (i + 1) 0 - l.getD i 0)))
def deltaB (l : List Int) : List Int := be8 (l.getD 0 0 % 18446744073709551616) ++ (List.range (l.length - 1)).flatMap (dstep l)
theorem or128 : ∀ n : _root_.Fin 256, n.val ||| 128 = n.val % 128 + 128 := by decide +kernel
theorem delta_short (x : Nat) : ∀ (z : Nat) (acc : List Int), z < 18446744073709551616 → acc.length + (short z).length ≤ 140737488355328 → x < 1000 →
  loopO (fun s : ((List Int) × Int) => encode_delta_b2 (x : Int) s.1 s.2) (acc, (z : Int)) = some (.inl (acc ++ short z, ((x + 1 : Nat) : Int))) := by
 intro z
 induction z using Nat.strongRecOn with
 | _ z ih =>
  intro acc hz hl hx
  by_cases h : z < 128
  ·rw [short_lt h] at hl ⊢
   apply loopO_end
   dsimp only
   unfold encode_delta_b2 encode_delta_j3 encode_delta_j2
   rw [if_neg (by simp; omega), wrapu8, app_of (by simpa using hl), Option.bind_some, succ64 (by omega)]
   have : (z : Int) % 256 = z := by omega
   rw [this]; rfl
  ·rw [short_ge h] at hl ⊢
   simp only [List.length_cons] at hl
   have e : encode_delta_b2 (x : Int) acc (z : Int) = some (.inl (acc ++ [((z % 128 + 128 : Nat) : Int)], ((z / 128 : Nat) : Int))) := by
    unfold encode_delta_b2
    have h1 : bOr .u8 ((z : Int) % 256) 128 = ((z % 128 + 128 : Nat) : Int) := by
     have h2 := or128 ⟨z % 256, by omega⟩
     simp only at h2
     rw [show ((z : Int) % 256) = ((z % 256 : Nat) : Int) by omega, show (128 : Int) = ((128 : Nat) : Int) from rfl, or8 (by omega) (by omega), h2]
     congr 1; omega
    have h3 : iShr .u64 (z : Int) 7 = ((z / 128 : Nat) : Int) := by have := shr64 (x := (z : Int)) (k := 7) (by omega); simpa using this
    rw [if_pos (by simp; omega), wrapu8, h1, h3, app_of (by simp; omega), Option.bind_some]
   rw [loopO_go (by dsimp only; exact e), ih (z / 128) (by omega) _ (by omega) (by simp; omega) hx]
   simp
theorem xor_ones {a : Nat} (ha : a < 18446744073709551616) : bXor .u64 (a : Int) 18446744073709551615 = 18446744073709551615 - (a : Int) := by
 unfold bXor
 rw [wrapu64]
 show (((BitVec.ofInt 64 (a : Int) ^^^ BitVec.ofInt 64 18446744073709551615).toNat : Nat) : Int) % 18446744073709551616 = _
 have h1 : (BitVec.ofInt 64 (a : Int)).toNat = a := by rw [BitVec.toNat_ofInt]; omega
 have h2 : BitVec.ofInt 64 18446744073709551615 = BitVec.allOnes 64 := by decide
 rw [h2, BitVec.xor_allOnes, BitVec.toNat_not, h1]
 have : (2 : Nat) ^ 64 = 18446744073709551616 := by decide
 omega
theorem xor_zero {a : Nat} (ha : a < 18446744073709551616) : bXor .u64 (a : Int) 0 = (a : Int) := by
 unfold bXor
 rw [wrapu64]
 show (((BitVec.ofInt 64 (a : Int) ^^^ BitVec.ofInt 64 0).toNat : Nat) : Int) % 18446744073709551616 = _
 have h1 : (BitVec.ofInt 64 (a : Int)).toNat = a := by rw [BitVec.toNat_ofInt]; omega
 have h2 : BitVec.ofInt 64 0 = 0#64 := by decide
 rw [h2, BitVec.xor_zero, h1]; omega
theorem zig_eq {d : Int} (h : i64r d) : bXor .u64 (iShl .u64 (IntKind.u64.wrap d) 1) (IntKind.u64.wrap (iShr .i64 d 63)) = (zig d : Int) := by
 have h1 : iShr .i64 d 63 = if d < 0 then -1 else 0 := by
  unfold iShr i64r at *
  rw [Int.fdiv_eq_ediv_of_nonneg _ (Int.le_of_lt (Int.pow_pos (by decide)))]
  have : (2 : Int) ^ (min (63 : Int).toNat IntKind.i64.bits) = 9223372036854775808 := by decide
  rw [this]
  split <;> omega
 have h2 : iShl .u64 (IntKind.u64.wrap d) 1 = (2 * d) % 18446744073709551616 := by
  have := shl64 (x := IntKind.u64.wrap d) (k := 1) (by omega)
  rw [show ((1 : Nat) : Int) = 1 from rfl] at this
  rw [this, wrapu64]; omega
 rw [h1, h2, wrapu64]
 unfold zig i64r at *
 split
 ·have e : ((2 * d) % 18446744073709551616) = ((2 * d + 18446744073709551616).toNat : Int) := by omega
  rw [show ((-1 : Int) % 18446744073709551616) = 18446744073709551615 from by decide, e, xor_ones (by omega)]
  omega
 ·have e : ((2 * d) % 18446744073709551616) = ((2 * d).toNat : Int) := by omega
  rw [show ((0 : Int) % 18446744073709551616) = 0 from by decide, e, xor_zero (by omega)]
theorem encode_delta_eq {l : List Int} (h0 : 0 < l.length) (hl : l.length ≤ 64) : encode_delta l = some (deltaB l) := by
 unfold encode_delta
 have h00 : idx l 0 = some l[0] := idx_of (i := 0) h0
 have hsub := sub_of (xs := l) (lo := 1) (hi := l.length) (by omega) (Nat.le_refl _)
 rw [show ((1 : Nat) : Int) = 1 from rfl] at hsub
 rw [h00, Option.bind_some, wrapu64, encode_eight_eq, Option.bind_some, hsub, Option.bind_some, List.take_length]
 have hlen : (l.drop 1).length = l.length - 1 := by simp
 have hg0 : l.getD 0 0 = l[0] := by rw [List.getD_eq_getElem?_getD, List.getElem?_eq_getElem h0]; rfl
 refine loop_seq (fun i => (be8 (l[0] % 18446744073709551616) ++ (List.range i).flatMap (dstep l), (i : Int))) (l.length - 1) (by simp) (fun i hi => ?_) ?_
 ·dsimp only
  unfold encode_delta_b1
  rw [hlen, if_pos (by simpa using hi), idx_of (by rw [hlen]; exact hi), Option.bind_some, idx_of (by omega), Option.bind_some]
  have hw := wrap_r ((l.drop 1)[i]'(by rw [hlen]; exact hi) - l[i]'(by omega))
  have hb := flat_le (List.range i) (dstep l) 10 fun x hx => short_len10 (zig_lt (wrap_r _))
  have h10 := short_len10 (zig_lt hw)
  simp only [List.length_range] at hb
  have e : dstep l i = short (zig (IntKind.i64.wrap ((l.drop 1)[i]'(by rw [hlen]; exact hi) - l[i]'(by omega)))) := by
   unfold dstep
   rw [List.getD_eq_getElem?_getD, List.getD_eq_getElem?_getD, List.getElem?_eq_getElem (show i + 1 < l.length by omega), List.getElem?_eq_getElem (show i < l.length by omega)]
   simp only [Option.getD_some, List.getElem_drop]
   congr 5
   omega
  rw [zig_eq hw, delta_short i _ _ (zig_lt hw) (by simp only [List.length_append, be8_length]; omega) (by omega), List.range_succ, List.flatMap_append, ← e]
  simp
 ·dsimp only
  unfold encode_delta_b1 encode_delta_j1
  rw [hlen, if_neg (by simp)]
  unfold deltaB
  rw [hg0]; rfl
theorem ref_delta_short (x : Nat) : ∀ (z : Nat) (acc : List Int), z < 18446744073709551616 → acc.length + (short z).length ≤ 140737488355328 → x < 1000 →
  loopO (fun s : ((List Int) × Int) => r6_delta_b2 (x : Int) s.1 s.2) (acc, (z : Int)) = some (.inl (acc ++ short z, ((x + 1 : Nat) : Int))) := by
 intro z
 induction z using Nat.strongRecOn with
 | _ z ih =>
  intro acc hz hl hx
  by_cases h : z < 128
  ·rw [short_lt h] at hl ⊢
   apply loopO_end
   dsimp only
   unfold r6_delta_b2 r6_delta_j4 r6_delta_j2
   rw [if_neg (by simp; omega), wrapu8, app_of (by simpa using hl), Option.bind_some, succ64 (by omega)]
   have : (z : Int) % 256 = z := by omega
   rw [this]; rfl
  ·rw [short_ge h] at hl ⊢
   simp only [List.length_cons] at hl
   have e : r6_delta_b2 (x : Int) acc (z : Int) = some (.inl (acc ++ [((z % 128 + 128 : Nat) : Int)], ((z / 128 : Nat) : Int))) := by
    unfold r6_delta_b2
    rw [if_pos (by simp; omega), wrapu8, wrapu64, wrapu64, app_of (by simp; omega), Option.bind_some, Int.tmod_eq_emod_of_nonneg (by omega), Int.tdiv_eq_ediv_of_nonneg (by omega)]
    congr 4
    ·congr 1; omega
    ·omega
   rw [loopO_go (by dsimp only; exact e), ih (z / 128) (by omega) _ (by omega) (by simp; omega) hx]
   simp
theorem getD_at {α : Type} {l : List α} {i : Nat} {d : α} (h : i < l.length) : l.getD i d = l[i] := by
 rw [List.getD_eq_getElem?_getD, List.getElem?_eq_getElem h]; rfl
theorem ref_delta_eq {l : List Ap} (h0 : 0 < l.length) (hl : l.length ≤ 64) : r6_delta l = some (deltaB (l.map (·.fInt))) := by
 unfold r6_delta
 have h00 : idx l 0 = some l[0] := idx_of (i := 0) h0
 rw [h00, Option.bind_some, wrapu64, number_eq, Option.bind_some]
 have hg : ∀ i (h : i < l.length), (l.map (·.fInt)).getD i 0 = l[i].fInt := fun i h => by rw [getD_at (by simpa using h)]; simp
 refine loop_seq (fun i => (be8 (l[0].fInt % 18446744073709551616) ++ (List.range i).flatMap (dstep (l.map (·.fInt))), ((i + 1 : Nat) : Int))) (l.length - 1) (by simp) (fun i hi => ?_) ?_
 ·dsimp only
  unfold r6_delta_b1 r6_delta_j3
  have e1 : IntKind.i64.wrap (((i + 1 : Nat) : Int) - 1) = (i : Int) := by rw [wrap64 (by omega)]; omega
  rw [if_pos (by simpa using by omega), idx_of (by omega), Option.bind_some, e1, idx_of (by omega), Option.bind_some]
  have hw := wrap_r (l[i + 1].fInt - l[i].fInt)
  have hb := flat_le (List.range i) (dstep (l.map (·.fInt))) 10 fun x hx => short_len10 (zig_lt (wrap_r _))
  have h10 := short_len10 (zig_lt hw)
  simp only [List.length_range] at hb
  have e : dstep (l.map (·.fInt)) i = short (zig (IntKind.i64.wrap (l[i + 1].fInt - l[i].fInt))) := by
   unfold dstep
   rw [hg _ (by omega), hg _ (by omega)]
  have key := ref_delta_short (i + 1) (zig (IntKind.i64.wrap (l[i + 1].fInt - l[i].fInt))) (be8 (l[0].fInt % 18446744073709551616) ++ (List.range i).flatMap (dstep (l.map (·.fInt)))) (zig_lt hw) (by simp only [List.length_append, be8_length]; omega) (by omega)
  have hz : (if decide (IntKind.i64.wrap (l[i + 1].fInt - l[i].fInt) < 0) = true then (IntKind.u64.wrap (IntKind.i64.wrap ((IntKind.i64.wrap ((-2) * (IntKind.i64.wrap (l[i + 1].fInt - l[i].fInt)))) - 1))) else (IntKind.u64.wrap (IntKind.i64.wrap (2 * (IntKind.i64.wrap (l[i + 1].fInt - l[i].fInt)))))) = ((zig (IntKind.i64.wrap (l[i + 1].fInt - l[i].fInt)) : Nat) : Int) := by
   generalize IntKind.i64.wrap (l[i + 1].fInt - l[i].fInt) = d at *
   simp only [decide_eq_true_eq]
   unfold zig i64r at *
   split
   ·rw [wrapu64, wrap_i64, wrap_i64]; omega
   ·rw [wrapu64, wrap_i64]; omega
  rw [List.range_succ, List.flatMap_append, List.flatMap_singleton, e, ← List.append_assoc, ← key, ← hz]
  split <;> rfl
 ·dsimp only
  unfold r6_delta_b1 r6_delta_j1
  rw [if_neg (by simp; omega)]
  unfold deltaB
  rw [hg 0 h0]; simp
end Go.Proofs.YthbonoagbeilkaaGreat.Hay
