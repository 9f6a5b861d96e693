import Derived.Test.YtifobhaccglckaaHbS
import Derived.Test.YtifobhaccglckaaHbN
set_option linter.unusedVariables false
namespace Go.Proofs.Ytifobhaccglckaa.Hay
noncomputable section
structure AV where
  fKind : Int
  fBool : Bool
  fInt : Int
  fText : (List Int)
  deriving DecidableEq
def AV.zero : AV := ⟨0, false, 0, []⟩
structure Encode_reader where
  fB : (List Int)
  fOk : Bool
  deriving DecidableEq
def Encode_reader.zero : Encode_reader := ⟨[], false⟩
structure Encode_Run where
  fMany : Int
  fValue : AV
  deriving DecidableEq
def Encode_Run.zero : Encode_Run := ⟨0, AV.zero⟩
structure Hayloftref06_Run where
  fMany : Int
  fValue : AV
  deriving DecidableEq
def Hayloftref06_Run.zero : Hayloftref06_Run := ⟨0, AV.zero⟩
structure Block_Info where
  fKind : Int
  fMany : Int
  fMin : AV
  fMax : AV
  fNulls : Int
  fBytes : Int
  deriving DecidableEq
def Block_Info.zero : Block_Info := ⟨0, 0, AV.zero, AV.zero, 0, 0⟩
structure Hayloftref07_Info where
  fKind : Int
  fMany : Int
  fMin : AV
  fMax : AV
  fNulls : Int
  fBytes : Int
  deriving DecidableEq
def Hayloftref07_Info.zero : Hayloftref07_Info := ⟨0, 0, AV.zero, AV.zero, 0, 0⟩
structure Api_Term where
  fColumn : Int
  fOp : Int
  fValue : AV
  deriving DecidableEq
def Api_Term.zero : Api_Term := ⟨0, 0, AV.zero⟩
def value_Null  : Option AV :=
  some (⟨0, false, 0, []⟩ : AV)
def value_Bool (p0 : Bool) : Option AV :=
  some (⟨1, p0, 0, []⟩ : AV)
def rows_number_j1 (x6 : Int) : Option Int :=
  some x6
def rows_number_b1 (p0 : (List Int)) (x13 : Int) (x15 : Int) : Option ((Int × Int) ⊕ Int) :=
  if decide (x15 < 8) then
    (idx p0 x15).bind fun x27 =>
    some (.inl (bOr .u64 (iShl .u64 x13 8) (IntKind.u64.wrap x27), IntKind.i64.wrap (x15 + 1)))
  else
    (rows_number_j1 x13).map Sum.inr
def rows_number (p0 : (List Int)) : Option Int :=
  loopO (fun s : (Int × Int) => rows_number_b1 p0 s.1 s.2) (0, 0)
def value_Int (p0 : Int) : Option AV :=
  some (⟨2, false, p0, []⟩ : AV)
def value_Text (p0 : (List Int)) : Option AV :=
  some (⟨3, false, 0, p0⟩ : AV)
def rows_read_j3 (x21 : (List Int)) (x205 : Bool) : Option (AV × (List Int) × Bool) :=
  if x205 then
    (idx x21 0).bind fun x208 =>
    (sub x21 1 (IntKind.u8.wrap (1 + x208))).bind fun x213 =>
    (value_Text x213).bind fun r216 =>
    (idx x21 0).bind fun x221 =>
    (sub x21 (IntKind.u8.wrap (1 + x221)) x21.length).bind fun x226 =>
    some (r216, x226, true)
  else
    some ((⟨0, false, 0, []⟩ : AV), [], false)
def rows_read_j2 (x16 : Int) (x21 : (List Int)) (x145 : Bool) : Option (AV × (List Int) × Bool) :=
  if x145 then
    (rows_number x21).bind fun r148 =>
    (value_Int (IntKind.i64.wrap r148)).bind fun r154 =>
    (sub x21 8 x21.length).bind fun x159 =>
    some (r154, x159, true)
  else
    if (IntKind.i64.wrap x16) == 3 then
      if decide (1 ≤ (x21.length : Int)) then
        (idx x21 0).bind fun x325 =>
        if decide (x325 ≤ 64) then
          (idx x21 0).bind fun x339 =>
          rows_read_j3 x21 (decide ((IntKind.i64.wrap x339) < (x21.length : Int)))
        else
          rows_read_j3 x21 false
      else
        rows_read_j3 x21 false
    else
      rows_read_j3 x21 false
def rows_read_j1 (x16 : Int) (x21 : (List Int)) (x83 : Bool) : Option (AV × (List Int) × Bool) :=
  if x83 then
    (idx x21 0).bind fun x86 =>
    (value_Bool (x86 == 1)).bind fun r91 =>
    (sub x21 1 x21.length).bind fun x96 =>
    some (r91, x96, true)
  else
    if (IntKind.i64.wrap x16) == 2 then
      rows_read_j2 x16 x21 (decide (8 ≤ (x21.length : Int)))
    else
      rows_read_j2 x16 x21 false
def rows_read (p0 : (List Int)) : Option (AV × (List Int) × Bool) :=
  if (p0.length : Int) == 0 then
    some ((⟨0, false, 0, []⟩ : AV), [], false)
  else
    (idx p0 0).bind fun x16 =>
    (sub p0 1 p0.length).bind fun x21 =>
    if (IntKind.i64.wrap x16) == 0 then
      (value_Null).bind fun r69 =>
      some (r69, x21, true)
    else
      if (IntKind.i64.wrap x16) == 1 then
        if decide (1 ≤ (x21.length : Int)) then
          (idx x21 0).bind fun x384 =>
          rows_read_j1 x16 x21 (decide (x384 ≤ 1))
        else
          rows_read_j1 x16 x21 false
      else
        rows_read_j1 x16 x21 false
def rows_Decode_j2 (x64 : (List Int)) (x67 : (List AV)) : Option ((List AV) × Int) :=
  if decide (0 < (x64.length : Int)) then
    some ([], 30)
  else
    some (x67, 0)
def rows_Decode_b1 (x11 : Int) (x82 : (List Int)) (x85 : (List AV)) (x88 : Int) : Option (((List Int) × (List AV) × Int) ⊕ ((List AV) × Int)) :=
  if decide (x88 < (IntKind.i64.wrap x11)) then
    (rows_read x82).bind fun r95 =>
    if !r95.2.2 then
      (some ([], 30)).map Sum.inr
    else
      (app 3518437208883 x85 ([r95.1])).bind fun z129 =>
      some (.inl (r95.2.1, z129, IntKind.i64.wrap (x88 + 1)))
  else
    (rows_Decode_j2 x82 x85).map Sum.inr
def rows_Decode_j1 (p0 : (List Int)) (x5 : Bool) : Option ((List AV) × Int) :=
  if x5 then
    some ([], 30)
  else
    (idx p0 0).bind fun x11 =>
    (sub p0 1 p0.length).bind fun x16 =>
    loopO (fun s : ((List Int) × (List AV) × Int) => rows_Decode_b1 x11 s.1 s.2.1 s.2.2) (x16, [], 0)
def rows_Decode (p0 : (List Int)) : Option ((List AV) × Int) :=
  if (p0.length : Int) == 0 then
    rows_Decode_j1 p0 true
  else
    (idx p0 0).bind fun x147 =>
    rows_Decode_j1 p0 (decide (16 < x147))
def encode_reader_value_j1 (p0 : Encode_reader) : Option (AV × Encode_reader) :=
  some ((⟨0, false, 0, []⟩ : AV), { p0 with fOk := false })
def encode_reader_value_j2 (p0 : Encode_reader) (x20 : Int) (x26 : Bool) : Option (Int ⊕ (AV × Encode_reader)) :=
  if x26 then
    (sub p0.fB 0 x20).bind fun x39 =>
    (app 140737488355328 ([1]) x39).bind fun z43 =>
    (rows_Decode z43).bind fun r49 =>
    if r49.2 == 0 then
      (sub p0.fB x20 p0.fB.length).bind fun x74 =>
      (idx r49.1 0).bind fun x84 =>
      (some (x84, { p0 with fB := x74 })).map Sum.inr
    else
      some (.inl (IntKind.i64.wrap (x20 + 1)))
  else
    (encode_reader_value_j1 p0).map Sum.inr
def encode_reader_value_b1 (p0 : Encode_reader) (x20 : Int) : Option (Int ⊕ (AV × Encode_reader)) :=
  if decide (x20 ≤ (p0.fB.length : Int)) then
    encode_reader_value_j2 p0 x20 (decide (x20 ≤ 66))
  else
    encode_reader_value_j2 p0 x20 false
def encode_reader_value (p0 : Encode_reader) : Option (AV × Encode_reader) :=
  loopO (fun s : Int => encode_reader_value_b1 p0 s) 1
def encode_reader_take (p0 : Encode_reader) (p1 : Int) : Option ((List Int) × Encode_reader) :=
  if decide ((p0.fB.length : Int) < p1) then
    (mk 281474976710656 p1 0).bind fun z24 =>
    some (z24, { { p0 with fB := [] } with fOk := false })
  else
    (mk 281474976710656 p1 0).bind fun z35 =>
    (sub p0.fB p1 p0.fB.length).bind fun x61 =>
    some ((cpy z35 p0.fB), { p0 with fB := x61 })
def bits_Mul64 (p0 : Int) (p1 : Int) : Option (Int × Int) :=
  some (IntKind.u64.wrap ((IntKind.u64.wrap ((IntKind.u64.wrap ((iShr .u64 p0 32) * (iShr .u64 p1 32))) + (iShr .u64 (IntKind.u64.wrap ((IntKind.u64.wrap ((iShr .u64 p0 32) * (bAnd .u64 p1 4294967295))) + (iShr .u64 (IntKind.u64.wrap ((bAnd .u64 p0 4294967295) * (bAnd .u64 p1 4294967295))) 32))) 32))) + (iShr .u64 (IntKind.u64.wrap ((bAnd .u64 (IntKind.u64.wrap ((IntKind.u64.wrap ((iShr .u64 p0 32) * (bAnd .u64 p1 4294967295))) + (iShr .u64 (IntKind.u64.wrap ((bAnd .u64 p0 4294967295) * (bAnd .u64 p1 4294967295))) 32))) 4294967295) + (IntKind.u64.wrap ((bAnd .u64 p0 4294967295) * (iShr .u64 p1 32))))) 32)), IntKind.u64.wrap (p0 * p1))
def bits_Mul (p0 : Int) (p1 : Int) : Option (Int × Int) :=
  (bits_Mul64 p0 p1).bind fun r5 =>
  some (r5.1, r5.2)
def slices_Repeat_Value_j4 (x52 : (List AV)) : Option (List AV) :=
  some x52
def slices_Repeat_Value_b1 (x60 : Int) (x62 : (List AV)) : Option ((Int × (List AV)) ⊕ (List AV)) :=
  if decide (x60 < (x62.length : Int)) then
    (vw x62 x60 x62.length).bind fun q73 =>
    (vw x62 0 x60).bind fun q76 =>
    (chk (Nat.ble (min q76.2 q73.2) maxSz)).bind fun u82 =>
    (cpv x62 q73 q76).bind fun z80 =>
    some (.inl (IntKind.i64.wrap (x60 + ((min q76.2 q73.2 : Nat) : Int)), z80))
  else
    (slices_Repeat_Value_j4 x62).map Sum.inr
def slices_Repeat_Value_j3 (p0 : (List AV)) (r12 : (Int × Int)) : Option (List AV) :=
  (mk 7036874417766 (IntKind.i64.wrap r12.2) AV.zero).bind fun z37 =>
  loopO (fun s : (Int × (List AV)) => slices_Repeat_Value_b1 s.1 s.2) (((min p0.length z37.length : Nat) : Int), (cpy z37 p0))
def slices_Repeat_Value_j2 (p0 : (List AV)) (r12 : (Int × Int)) (x30 : Bool) : Option (List AV) :=
  if x30 then
    none
  else
    slices_Repeat_Value_j3 p0 r12
def slices_Repeat_Value_j1 (p0 : (List AV)) (p1 : Int) : Option (List AV) :=
  (bits_Mul (IntKind.u64.wrap (p0.length : Int)) (IntKind.u64.wrap p1)).bind fun r12 =>
  if decide (0 < r12.1) then
    slices_Repeat_Value_j2 p0 r12 true
  else
    slices_Repeat_Value_j2 p0 r12 (decide (9223372036854775807 < r12.2))
def slices_Repeat_Value (p0 : (List AV)) (p1 : Int) : Option (List AV) :=
  if decide (p1 < 0) then
    none
  else
    slices_Repeat_Value_j1 p0 p1
def encode_reader_number_j1 (r4 : ((List Int) × Encode_reader)) (x16 : Int) : Option (Int × Encode_reader) :=
  some (x16, r4.2)
def encode_reader_number_b1 (r4 : ((List Int) × Encode_reader)) (x23 : Int) (x25 : Int) : Option ((Int × Int) ⊕ (Int × Encode_reader)) :=
  if decide (x25 < (r4.1.length : Int)) then
    (idx r4.1 x25).bind fun x31 =>
    some (.inl (bOr .u64 (iShl .u64 x23 8) (IntKind.u64.wrap x31), IntKind.i64.wrap (x25 + 1)))
  else
    (encode_reader_number_j1 r4 x23).map Sum.inr
def encode_reader_number (p0 : Encode_reader) : Option (Int × Encode_reader) :=
  (encode_reader_take p0 8).bind fun r4 =>
  loopO (fun s : (Int × Int) => encode_reader_number_b1 r4 s.1 s.2) (0, 0)
def encode_reader_short_j1 (x6 : Encode_reader) : Option (Int × Encode_reader) :=
  some (0, { x6 with fOk := false })
def encode_reader_short_j2 (x19 : Int) (x21 : Int) (x23 : Encode_reader) (x30 : Bool) : Option ((Int × Int × Encode_reader) ⊕ (Int × Encode_reader)) :=
  if x30 then
    (encode_reader_take x23 1).bind fun r34 =>
    (idx r34.1 0).bind fun x42 =>
    (chk (decide (0 ≤ x21))).bind fun u55 =>
    if decide (x42 < 128) then
      (some (bOr .u64 x19 (iShl .u64 (IntKind.u64.wrap (bAnd .u8 x42 127)) x21), r34.2)).map Sum.inr
    else
      some (.inl (bOr .u64 x19 (iShl .u64 (IntKind.u64.wrap (bAnd .u8 x42 127)) x21), IntKind.i64.wrap (x21 + 7), r34.2))
  else
    (encode_reader_short_j1 x23).map Sum.inr
def encode_reader_short_b1 (x19 : Int) (x21 : Int) (x23 : Encode_reader) : Option ((Int × Int × Encode_reader) ⊕ (Int × Encode_reader)) :=
  if decide (x21 < 70) then
    encode_reader_short_j2 x19 x21 x23 x23.fOk
  else
    encode_reader_short_j2 x19 x21 x23 false
def encode_reader_short (p0 : Encode_reader) : Option (Int × Encode_reader) :=
  loopO (fun s : (Int × Int × Encode_reader) => encode_reader_short_b1 s.1 s.2.1 s.2.2) (0, 0, p0)
def bits_Len64_j3 (x24 : Int) (x26 : Int) : Option Int :=
  (idx ([0, 1, 2, 2, 3, 3, 3, 3, 4, 4, 4, 4, 4, 4, 4, 4, 5, 5, 5, 5, 5, 5, 5, 5, 5, 5, 5, 5, 5, 5, 5, 5, 6, 6, 6, 6, 6, 6, 6, 6, 6, 6, 6, 6, 6, 6, 6, 6, 6, 6, 6, 6, 6, 6, 6, 6, 6, 6, 6, 6, 6, 6, 6, 6, 7, 7, 7, 7, 7, 7, 7, 7, 7, 7, 7, 7, 7, 7, 7, 7, 7, 7, 7, 7, 7, 7, 7, 7, 7, 7, 7, 7, 7, 7, 7, 7, 7, 7, 7, 7, 7, 7, 7, 7, 7, 7, 7, 7, 7, 7, 7, 7, 7, 7, 7, 7, 7, 7, 7, 7, 7, 7, 7, 7, 7, 7, 7, 7, 8, 8, 8, 8, 8, 8, 8, 8, 8, 8, 8, 8, 8, 8, 8, 8, 8, 8, 8, 8, 8, 8, 8, 8, 8, 8, 8, 8, 8, 8, 8, 8, 8, 8, 8, 8, 8, 8, 8, 8, 8, 8, 8, 8, 8, 8, 8, 8, 8, 8, 8, 8, 8, 8, 8, 8, 8, 8, 8, 8, 8, 8, 8, 8, 8, 8, 8, 8, 8, 8, 8, 8, 8, 8, 8, 8, 8, 8, 8, 8, 8, 8, 8, 8, 8, 8, 8, 8, 8, 8, 8, 8, 8, 8, 8, 8, 8, 8, 8, 8, 8, 8, 8, 8, 8, 8, 8, 8, 8, 8, 8, 8, 8, 8, 8, 8, 8, 8, 8, 8, 8, 8, 8, 8, 8, 8, 8, 8]) (IntKind.u8.wrap x24)).bind fun x32 =>
  some (IntKind.i64.wrap (x26 + (IntKind.i64.wrap x32)))
def bits_Len64_j2 (x15 : Int) (x17 : Int) : Option Int :=
  if decide (256 ≤ x15) then
    bits_Len64_j3 (iShr .u64 x15 8) (IntKind.i64.wrap (x17 + 8))
  else
    bits_Len64_j3 x15 x17
def bits_Len64_j1 (x6 : Int) (x8 : Int) : Option Int :=
  if decide (65536 ≤ x6) then
    bits_Len64_j2 (iShr .u64 x6 16) (IntKind.i64.wrap (x8 + 16))
  else
    bits_Len64_j2 x6 x8
def bits_Len64 (p0 : Int) : Option Int :=
  if decide (4294967296 ≤ p0) then
    bits_Len64_j1 (iShr .u64 p0 32) 32
  else
    bits_Len64_j1 p0 0
def bits_Len (p0 : Int) : Option Int :=
  (bits_Len64 p0).bind fun r3 =>
  some r3
def encode_reader_unpacked_j1 (r28 : ((List Int) × Encode_reader)) (x50 : (List Int)) : Option ((List Int) × Encode_reader) :=
  some (x50, r28.2)
def encode_reader_unpacked_j2 (x58 : Int) (x69 : (List Int)) : Option ((Int × (List Int)) ⊕ ((List Int) × Encode_reader)) :=
  some (.inl (IntKind.i64.wrap (x58 + 1), x69))
def encode_reader_unpacked_b2 (p2 : Int) (r28 : ((List Int) × Encode_reader)) (x58 : Int) (x81 : Int) (x83 : (List Int)) : Option ((Int × (List Int)) ⊕ ((Int × (List Int)) ⊕ ((List Int) × Encode_reader))) :=
  if decide (x81 < p2) then
    (ix x83 x58).bind fun j98 =>
    (x83[j98]?).bind fun x101 =>
    (idx r28.1 (IntKind.i64.wrap ((IntKind.i64.wrap ((IntKind.i64.wrap (x58 * p2)) + x81)).tdiv 8))).bind fun x104 =>
    (chk (decide (0 ≤ ((IntKind.i64.wrap ((IntKind.i64.wrap (x58 * p2)) + x81)).tmod 8)))).bind fun u109 =>
    (chk (decide (0 ≤ x81))).bind fun u111 =>
    (ix x83 x58).bind fun j207 =>
    (x83[j207]?).bind fun x212 =>
    some (.inl (IntKind.i64.wrap (x81 + 1), (x83.set j207 (bOr .u64 x101 (iShl .u64 (IntKind.u64.wrap (bAnd .u8 (iShr .u8 x104 ((IntKind.i64.wrap ((IntKind.i64.wrap (x58 * p2)) + x81)).tmod 8)) 1)) x81)))))
  else
    (encode_reader_unpacked_j2 x58 x83).map Sum.inr
def encode_reader_unpacked_b1 (p2 : Int) (r28 : ((List Int) × Encode_reader)) (z38 : (List Int)) (x58 : Int) (x60 : (List Int)) : Option ((Int × (List Int)) ⊕ ((List Int) × Encode_reader)) :=
  if decide (x58 < (z38.length : Int)) then
    loopO (fun s : (Int × (List Int)) => encode_reader_unpacked_b2 p2 r28 x58 s.1 s.2) (0, x60)
  else
    (encode_reader_unpacked_j1 r28 x60).map Sum.inr
def encode_reader_unpacked (p0 : Encode_reader) (p1 : Int) (p2 : Int) : Option ((List Int) × Encode_reader) :=
  if decide (64 < p2) then
    (mk 35184372088832 p1 0).bind fun z12 =>
    some (z12, { p0 with fOk := false })
  else
    (encode_reader_take p0 (IntKind.i64.wrap ((IntKind.i64.wrap ((IntKind.i64.wrap (p1 * p2)) + 7)).tdiv 8))).bind fun r28 =>
    (mk 35184372088832 p1 0).bind fun z38 =>
    loopO (fun s : (Int × (List Int)) => encode_reader_unpacked_b1 p2 r28 z38 s.1 s.2) (0, z38)
def encode_reader_guess_j1 (x6 : (List AV)) (x9 : Encode_reader) : Option ((List AV) × Encode_reader) :=
  some (x6, x9)
def encode_reader_guess_j2 (x20 : (List AV)) (x23 : Encode_reader) (x30 : Bool) : Option (((List AV) × Encode_reader) ⊕ ((List AV) × Encode_reader)) :=
  if x30 then
    (encode_reader_value x23).bind fun r35 =>
    (app 3518437208883 x20 ([r35.1])).bind fun z47 =>
    some (.inl (z47, r35.2))
  else
    (encode_reader_guess_j1 x20 x23).map Sum.inr
def encode_reader_guess_b1 (p2 : Int) (x20 : (List AV)) (x23 : Encode_reader) : Option (((List AV) × Encode_reader) ⊕ ((List AV) × Encode_reader)) :=
  if decide ((x20.length : Int) < p2) then
    encode_reader_guess_j2 x20 x23 x23.fOk
  else
    encode_reader_guess_j2 x20 x23 false
def encode_reader_guess_j3 (p2 : Int) (x72 : (List AV)) (x75 : Encode_reader) (x82 : Bool) : Option (((List AV) × Encode_reader) ⊕ ((List AV) × Encode_reader)) :=
  if x82 then
    (encode_reader_take x75 1).bind fun r86 =>
    (idx r86.1 0).bind fun x94 =>
    (encode_reader_value r86.2).bind fun r110 =>
    (slices_Repeat_Value ([r110.1]) (if (IntKind.i64.wrap (p2 - (x72.length : Int))) < (IntKind.i64.wrap x94) then IntKind.i64.wrap (p2 - (x72.length : Int)) else IntKind.i64.wrap x94)).bind fun r123 =>
    (app 3518437208883 x72 r123).bind fun z129 =>
    some (.inl (z129, r110.2))
  else
    (encode_reader_guess_j1 x72 x75).map Sum.inr
def encode_reader_guess_b2 (p2 : Int) (x72 : (List AV)) (x75 : Encode_reader) : Option (((List AV) × Encode_reader) ⊕ ((List AV) × Encode_reader)) :=
  if decide ((x72.length : Int) < p2) then
    encode_reader_guess_j3 p2 x72 x75 x75.fOk
  else
    encode_reader_guess_j3 p2 x72 x75 false
def encode_reader_guess_j4 (x185 : (List AV)) (x188 : Int) (x190 : Encode_reader) (x197 : Bool) : Option (((List AV) × Int × Encode_reader) ⊕ ((List AV) × Encode_reader)) :=
  if x197 then
    (encode_reader_short x190).bind fun r201 =>
    (value_Int (IntKind.i64.wrap (x188 + (bXor .i64 (IntKind.i64.wrap (iShr .u64 r201.1 1)) (IntKind.i64.wrap (0 - (IntKind.i64.wrap (bAnd .u64 r201.1 1)))))))).bind fun r224 =>
    (app 3518437208883 x185 ([r224])).bind fun z234 =>
    some (.inl (z234, IntKind.i64.wrap (x188 + (bXor .i64 (IntKind.i64.wrap (iShr .u64 r201.1 1)) (IntKind.i64.wrap (0 - (IntKind.i64.wrap (bAnd .u64 r201.1 1)))))), r201.2))
  else
    (encode_reader_guess_j1 x185 x190).map Sum.inr
def encode_reader_guess_b3 (p2 : Int) (x185 : (List AV)) (x188 : Int) (x190 : Encode_reader) : Option (((List AV) × Int × Encode_reader) ⊕ ((List AV) × Encode_reader)) :=
  if decide ((x185.length : Int) < p2) then
    encode_reader_guess_j4 x185 x188 x190 x190.fOk
  else
    encode_reader_guess_j4 x185 x188 x190 false
def encode_reader_guess_b4 (x277 : (List AV)) (r298 : ((List Int) × Encode_reader)) (x310 : (List AV)) (x313 : Int) : Option (((List AV) × Int) ⊕ ((List AV) × Encode_reader)) :=
  if decide (x313 < (r298.1.length : Int)) then
    (idx r298.1 x313).bind fun x319 =>
    if decide ((IntKind.u64.wrap (x277.length : Int)) ≤ x319) then
      (some ([], r298.2)).map Sum.inr
    else
      (idx x277 x319).bind fun x337 =>
      (app 3518437208883 x310 ([x337])).bind fun z347 =>
      some (.inl (z347, IntKind.i64.wrap (x313 + 1)))
  else
    (encode_reader_guess_j1 x310 r298.2).map Sum.inr
def encode_reader_guess_j5 (p2 : Int) (x277 : (List AV)) (x280 : Encode_reader) : Option ((List AV) × Encode_reader) :=
  (bits_Len (IntKind.u64.wrap (IntKind.i64.wrap ((if (x277.length : Int) < 1 then 1 else (x277.length : Int)) - 1)))).bind fun r291 =>
  (encode_reader_unpacked x280 p2 r291).bind fun r298 =>
  loopO (fun s : ((List AV) × Int) => encode_reader_guess_b4 x277 r298 s.1 s.2) ([], 0)
def encode_reader_guess_b5 (p2 : Int) (x267 : Int) (x358 : (List AV)) (x361 : Int) (x363 : Encode_reader) : Option (((List AV) × Int × Encode_reader) ⊕ ((List AV) × Encode_reader)) :=
  if decide (x361 < x267) then
    (encode_reader_value x363).bind fun r372 =>
    (app 3518437208883 x358 ([r372.1])).bind fun z384 =>
    some (.inl (z384, IntKind.u8.wrap (x361 + 1), r372.2))
  else
    (encode_reader_guess_j5 p2 x358 x363).map Sum.inr
def encode_reader_guess_b6 (r394 : (Int × Encode_reader)) (r423 : ((List Int) × Encode_reader)) (x435 : (List AV)) (x438 : Int) : Option (((List AV) × Int) ⊕ ((List AV) × Encode_reader)) :=
  if decide (x438 < (r423.1.length : Int)) then
    (idx r423.1 x438).bind fun x444 =>
    (value_Int (IntKind.i64.wrap (IntKind.u64.wrap (r394.1 + x444)))).bind fun r457 =>
    (app 3518437208883 x435 ([r457])).bind fun z467 =>
    some (.inl (z467, IntKind.i64.wrap (x438 + 1)))
  else
    (encode_reader_guess_j1 x435 r423.2).map Sum.inr
def encode_reader_guess (p0 : Encode_reader) (p1 : Int) (p2 : Int) : Option ((List AV) × Encode_reader) :=
  if p1 == 0 then
    loopO (fun s : ((List AV) × Encode_reader) => encode_reader_guess_b1 p2 s.1 s.2) ([], p0)
  else
    if p1 == 1 then
      loopO (fun s : ((List AV) × Encode_reader) => encode_reader_guess_b2 p2 s.1 s.2) ([], p0)
    else
      if p1 == 2 then
        (encode_reader_number p0).bind fun r153 =>
        (value_Int (IntKind.i64.wrap r153.1)).bind fun r166 =>
        (app 3518437208883 ([]) ([r166])).bind fun z176 =>
        loopO (fun s : ((List AV) × Int × Encode_reader) => encode_reader_guess_b3 p2 s.1 s.2.1 s.2.2) (z176, IntKind.i64.wrap r153.1, r153.2)
      else
        if p1 == 3 then
          (encode_reader_take p0 1).bind fun r259 =>
          (idx r259.1 0).bind fun x267 =>
          loopO (fun s : ((List AV) × Int × Encode_reader) => encode_reader_guess_b5 p2 x267 s.1 s.2.1 s.2.2) ([], 0, r259.2)
        else
          (encode_reader_number p0).bind fun r394 =>
          (encode_reader_take r394.2 1).bind fun r407 =>
          (idx r407.1 0).bind fun x415 =>
          (encode_reader_unpacked r407.2 p2 (IntKind.i64.wrap x415)).bind fun r423 =>
          loopO (fun s : ((List AV) × Int) => encode_reader_guess_b6 r394 r423 s.1 s.2) ([], 0)
def slices_IndexFunc_Value_j1  : Option Int :=
  some (-1)
def slices_IndexFunc_Value_b1 (p0 : (List AV)) (p1 : (AV → Option Bool)) (x11 : Int) : Option (Int ⊕ Int) :=
  if decide (x11 < (p0.length : Int)) then
    (idx p0 x11).bind fun x22 =>
    (p1 x22).bind fun r28 =>
    if r28 then
      (some x11).map Sum.inr
    else
      some (.inl (IntKind.i64.wrap (x11 + 1)))
  else
    (slices_IndexFunc_Value_j1).map Sum.inr
def slices_IndexFunc_Value (p0 : (List AV)) (p1 : (AV → Option Bool)) : Option Int :=
  loopO (fun s : Int => slices_IndexFunc_Value_b1 p0 p1 s) 0
def slices_ContainsFunc_Value (p0 : (List AV)) (p1 : (AV → Option Bool)) : Option Bool :=
  (slices_IndexFunc_Value p0 p1).bind fun r4 =>
  some (decide (0 ≤ r4))
def value_Right_j1 (x129 : Bool) : Option Bool :=
  some x129
def value_Right (p0 : AV) : Option Bool :=
  if p0.fKind == 0 then
    (value_Null).bind fun r14 =>
    some (decide (p0 = r14))
  else
    if p0.fKind == 1 then
      (value_Bool p0.fBool).bind fun r46 =>
      some (decide (p0 = r46))
    else
      if p0.fKind == 2 then
        (value_Int p0.fInt).bind fun r87 =>
        some (decide (p0 = r87))
      else
        if p0.fKind == 3 then
          (value_Text p0.fText).bind fun r135 =>
          if decide (p0 = r135) then
            value_Right_j1 (decide ((p0.fText.length : Int) ≤ 64))
          else
            value_Right_j1 false
        else
          some false
def encode_Encode_1 (p0 : AV) : Option Bool :=
  (value_Right p0).bind fun r8 =>
  some (!r8)
def encode_ints_j1 (x9 : (List Int)) : Option ((List Int) × Bool) :=
  some (x9, true)
def encode_ints_b1 (p0 : (List AV)) (x18 : (List Int)) (x21 : Int) : Option (((List Int) × Int) ⊕ ((List Int) × Bool)) :=
  if decide (x21 < (p0.length : Int)) then
    (idx p0 x21).bind fun x27 =>
    if x27.fKind != 2 then
      (some ([], false)).map Sum.inr
    else
      (app 17592186044416 x18 ([x27.fInt])).bind fun z55 =>
      some (.inl (z55, IntKind.i64.wrap (x21 + 1)))
  else
    (encode_ints_j1 x18).map Sum.inr
def encode_ints (p0 : (List AV)) : Option ((List Int) × Bool) :=
  loopO (fun s : ((List Int) × Int) => encode_ints_b1 p0 s.1 s.2) ([], 0)
def encode_Runs_j1 (x8 : (List Encode_Run)) : Option (List Encode_Run) :=
  some x8
def encode_Runs_j2 (x16 : Int) (x29 : (List Encode_Run)) : Option ((Int × (List Encode_Run)) ⊕ (List Encode_Run)) :=
  some (.inl (IntKind.i64.wrap (x16 + 1), x29))
def encode_Runs_j3 (x16 : Int) (x18 : (List Encode_Run)) (x37 : AV) : Option ((Int × (List Encode_Run)) ⊕ (List Encode_Run)) :=
  (app 2932031007402 x18 ([(⟨1, x37⟩ : Encode_Run)])).bind fun z63 =>
  encode_Runs_j2 x16 z63
def encode_Runs_j4 (x16 : Int) (x18 : (List Encode_Run)) (x75 : Int) (x85 : Bool) : Option (Int ⊕ ((Int × (List Encode_Run)) ⊕ (List Encode_Run))) :=
  if x85 then
    (ix x18 x75).bind fun j90 =>
    (x18[j90]?).bind fun x95 =>
    (ix x18 x75).bind fun j100 =>
    (x18[j100]?).bind fun x106 =>
    (encode_Runs_j2 x16 (x18.set j100 ({ x106 with fMany := IntKind.i64.wrap (x95.fMany + 1) }))).map Sum.inr
  else
    some (.inl (IntKind.i64.wrap (x75 + 1)))
def encode_Runs_b2 (x16 : Int) (x18 : (List Encode_Run)) (x37 : AV) (x75 : Int) : Option (Int ⊕ ((Int × (List Encode_Run)) ⊕ (List Encode_Run))) :=
  if decide (x75 < (x18.length : Int)) then
    if x75 == (IntKind.i64.wrap ((x18.length : Int) - 1)) then
      (ix x18 x75).bind fun j112 =>
      (x18[j112]?).bind fun x115 =>
      encode_Runs_j4 x16 x18 x75 (decide (x115.fValue = x37))
    else
      encode_Runs_j4 x16 x18 x75 false
  else
    (encode_Runs_j3 x16 x18 x37).map Sum.inr
def encode_Runs_b1 (p0 : (List AV)) (x16 : Int) (x18 : (List Encode_Run)) : Option ((Int × (List Encode_Run)) ⊕ (List Encode_Run)) :=
  if decide (x16 < (p0.length : Int)) then
    (idx p0 x16).bind fun x37 =>
    loopO (fun s : Int => encode_Runs_b2 x16 x18 x37 s) 0
  else
    (encode_Runs_j1 x18).map Sum.inr
def encode_Runs (p0 : (List AV)) : Option (List Encode_Run) :=
  loopO (fun s : (Int × (List Encode_Run)) => encode_Runs_b1 p0 s.1 s.2) (0, ([] : List Encode_Run))
def rows_may_j1 (p0 : (List AV)) : Option Bool :=
  some (decide ((p0.length : Int) ≤ 16))
def rows_may_b1 (p0 : (List AV)) (x14 : Int) : Option (Int ⊕ Bool) :=
  if decide (x14 < (p0.length : Int)) then
    (idx p0 x14).bind fun x20 =>
    (value_Right x20).bind fun r33 =>
    if !r33 then
      (some false).map Sum.inr
    else
      some (.inl (IntKind.i64.wrap (x14 + 1)))
  else
    (rows_may_j1 p0).map Sum.inr
def rows_may (p0 : (List AV)) : Option Bool :=
  loopO (fun s : Int => rows_may_b1 p0 s) 0
def rows_eight_j1 (p0 : (List Int)) (x7 : (List Int)) : Option (List Int) :=
  (app 140737488355328 p0 x7).bind fun z13 =>
  some z13
def rows_eight_b1 (p0 : (List Int)) (p1 : Int) (x22 : Int) (x24 : (List Int)) : Option ((Int × (List Int)) ⊕ (List Int)) :=
  if decide (x22 < 8) then
    (chk (decide (0 ≤ (IntKind.i64.wrap (56 - (IntKind.i64.wrap (8 * x22))))))).bind fun u38 =>
    (ix x24 x22).bind fun j42 =>
    (x24[j42]?).bind fun x47 =>
    some (.inl (IntKind.i64.wrap (x22 + 1), (x24.set j42 (IntKind.u8.wrap (iShr .u64 p1 (IntKind.i64.wrap (56 - (IntKind.i64.wrap (8 * x22)))))))))
  else
    (rows_eight_j1 p0 x24).map Sum.inr
def rows_eight (p0 : (List Int)) (p1 : Int) : Option (List Int) :=
  loopO (fun s : (Int × (List Int)) => rows_eight_b1 p0 p1 s.1 s.2) (0, (List.replicate 8 0 : List Int))
def rows_one (p0 : (List Int)) (p1 : AV) : Option (List Int) :=
  (app 140737488355328 p0 ([IntKind.u8.wrap p1.fKind])).bind fun z16 =>
  if p1.fKind == 1 then
    if p1.fBool then
      (app 140737488355328 z16 ([1])).bind fun z39 =>
      some z39
    else
      (app 140737488355328 z16 ([0])).bind fun z51 =>
      some z51
  else
    if p1.fKind == 2 then
      (rows_eight z16 (IntKind.u64.wrap p1.fInt)).bind fun r67 =>
      some r67
    else
      if p1.fKind == 3 then
        (app 140737488355328 z16 ([IntKind.u8.wrap (p1.fText.length : Int)])).bind fun z89 =>
        (app 140737488355328 z89 p1.fText).bind fun z102 =>
        some z102
      else
        some z16
def rows_Encode_j1 (x27 : (List Int)) : Option ((List Int) × Int) :=
  some (x27, 0)
def rows_Encode_b1 (p0 : (List AV)) (x36 : (List Int)) (x39 : Int) : Option (((List Int) × Int) ⊕ ((List Int) × Int)) :=
  if decide (x39 < (p0.length : Int)) then
    (idx p0 x39).bind fun x45 =>
    (rows_one x36 x45).bind fun r59 =>
    some (.inl (r59, IntKind.i64.wrap (x39 + 1)))
  else
    (rows_Encode_j1 x36).map Sum.inr
def rows_Encode (p0 : (List AV)) : Option ((List Int) × Int) :=
  (rows_may p0).bind fun r4 =>
  if !r4 then
    some ([], 30)
  else
    loopO (fun s : ((List Int) × Int) => rows_Encode_b1 p0 s.1 s.2) ([IntKind.u8.wrap (p0.length : Int)], 0)
def encode_one (p0 : AV) : Option (List Int) :=
  (rows_Encode ([p0])).bind fun r12 =>
  (sub r12.1 1 r12.1.length).bind fun x28 =>
  some x28
def encode_runs_j1 (x14 : (List Int)) : Option (List Int) :=
  some x14
def encode_runs_b1 (r4 : (List Encode_Run)) (x22 : (List Int)) (x25 : Int) : Option (((List Int) × Int) ⊕ (List Int)) :=
  if decide (x25 < (r4.length : Int)) then
    (idx r4 x25).bind fun x31 =>
    (app 140737488355328 x22 ([IntKind.u8.wrap x31.fMany])).bind fun z52 =>
    (encode_one x31.fValue).bind fun r63 =>
    (app 140737488355328 z52 r63).bind fun z69 =>
    some (.inl (z69, IntKind.i64.wrap (x25 + 1)))
  else
    (encode_runs_j1 x22).map Sum.inr
def encode_runs (p0 : (List AV)) : Option (List Int) :=
  (encode_Runs p0).bind fun r4 =>
  loopO (fun s : ((List Int) × Int) => encode_runs_b1 r4 s.1 s.2) ([], 0)
def encode_eight_j1 (x6 : (List Int)) : Option (List Int) :=
  some x6
def encode_eight_b1 (p0 : Int) (x14 : (List Int)) (x17 : Int) : Option (((List Int) × Int) ⊕ (List Int)) :=
  if decide (x17 < 8) then
    (chk (decide (0 ≤ (IntKind.i64.wrap (56 - (IntKind.i64.wrap (8 * x17))))))).bind fun u30 =>
    (app 140737488355328 x14 ([IntKind.u8.wrap (iShr .u64 p0 (IntKind.i64.wrap (56 - (IntKind.i64.wrap (8 * x17)))))])).bind fun z38 =>
    some (.inl (z38, IntKind.i64.wrap (x17 + 1)))
  else
    (encode_eight_j1 x14).map Sum.inr
def encode_eight (p0 : Int) : Option (List Int) :=
  loopO (fun s : ((List Int) × Int) => encode_eight_b1 p0 s.1 s.2) ([], 0)
def encode_delta_j1 (x27 : (List Int)) : Option (List Int) :=
  some x27
def encode_delta_j2 (x38 : Int) (x46 : (List Int)) : Option (((List Int) × Int) ⊕ (List Int)) :=
  some (.inl (x46, IntKind.i64.wrap (x38 + 1)))
def encode_delta_j3 (x38 : Int) (x84 : (List Int)) (x87 : Int) : Option (((List Int) × Int) ⊕ (List Int)) :=
  (app 140737488355328 x84 ([IntKind.u8.wrap x87])).bind fun z97 =>
  encode_delta_j2 x38 z97
def encode_delta_b2 (x38 : Int) (x106 : (List Int)) (x109 : Int) : Option (((List Int) × Int) ⊕ (((List Int) × Int) ⊕ (List Int))) :=
  if decide (127 < x109) then
    (app 140737488355328 x106 ([bOr .u8 (IntKind.u8.wrap x109) 128])).bind fun z124 =>
    some (.inl (z124, iShr .u64 x109 7))
  else
    (encode_delta_j3 x38 x106 x109).map Sum.inr
def encode_delta_b1 (p0 : (List Int)) (x19 : (List Int)) (x35 : (List Int)) (x38 : Int) : Option (((List Int) × Int) ⊕ (List Int)) :=
  if decide (x38 < (x19.length : Int)) then
    (idx x19 x38).bind fun x53 =>
    (idx p0 x38).bind fun x65 =>
    loopO (fun s : ((List Int) × Int) => encode_delta_b2 x38 s.1 s.2) (x35, bXor .u64 (iShl .u64 (IntKind.u64.wrap (IntKind.i64.wrap (x53 - x65))) 1) (IntKind.u64.wrap (iShr .i64 (IntKind.i64.wrap (x53 - x65)) 63)))
  else
    (encode_delta_j1 x35).map Sum.inr
def encode_delta (p0 : (List Int)) : Option (List Int) :=
  (idx p0 0).bind fun x3 =>
  (encode_eight (IntKind.u64.wrap x3)).bind fun r11 =>
  (sub p0 1 p0.length).bind fun x19 =>
  loopO (fun s : ((List Int) × Int) => encode_delta_b1 p0 x19 s.1 s.2) (r11, 0)
def slices_SortFunc_Value (p0 : (List AV)) (p1 : (AV → AV → Option Int)) : Option (List AV) :=
  sortM p1 p0
def cmp_isNaN_int (p0 : Int) : Option Bool :=
  some (p0 != p0)
def cmp_Compare_int (p0 : Int) (p1 : Int) : Option Int :=
  (cmp_isNaN_int p0).bind fun r3 =>
  (cmp_isNaN_int p1).bind fun r11 =>
  if r3 then
    if r11 then
      some 0
    else
      some (-1)
  else
    if r11 then
      some 1
    else
      if decide (p0 < p1) then
        some (-1)
      else
        if decide (p1 < p0) then
          some 1
        else
          some 0
def cmp_isNaN_int64 (p0 : Int) : Option Bool :=
  some (p0 != p0)
def cmp_Compare_int64 (p0 : Int) (p1 : Int) : Option Int :=
  (cmp_isNaN_int64 p0).bind fun r3 =>
  (cmp_isNaN_int64 p1).bind fun r11 =>
  if r3 then
    if r11 then
      some 0
    else
      some (-1)
  else
    if r11 then
      some 1
    else
      if decide (p0 < p1) then
        some (-1)
      else
        if decide (p1 < p0) then
          some 1
        else
          some 0
def bytealg_CompareString (p0 : (List Int)) (p1 : (List Int)) : Option Int :=
  some (cmpB p0 p1)
def strings_Compare (p0 : (List Int)) (p1 : (List Int)) : Option Int :=
  (bytealg_CompareString p0 p1).bind fun r4 =>
  some r4
def value_Compare_j1 (p0 : AV) (p1 : AV) (x39 : Bool) : Option Int :=
  if x39 then
    if p1.fBool then
      some (-1)
    else
      some 1
  else
    if p0.fKind == 2 then
      (cmp_Compare_int64 p0.fInt p1.fInt).bind fun r63 =>
      some r63
    else
      if p0.fKind == 3 then
        (strings_Compare p0.fText p1.fText).bind fun r88 =>
        some r88
      else
        some 0
def value_Compare (p0 : AV) (p1 : AV) : Option Int :=
  if p0.fKind != p1.fKind then
    (cmp_Compare_int p0.fKind p1.fKind).bind fun r29 =>
    some r29
  else
    if p0.fKind == 1 then
      value_Compare_j1 p0 p1 (!(p0.fBool == p1.fBool))
    else
      value_Compare_j1 p0 p1 false
def slices_Index_Value_j1  : Option Int :=
  some (-1)
def slices_Index_Value_b1 (p0 : (List AV)) (p1 : AV) (x15 : Int) : Option (Int ⊕ Int) :=
  if decide (x15 < (p0.length : Int)) then
    (idx p0 x15).bind fun x24 =>
    if decide (p1 = x24) then
      (some x15).map Sum.inr
    else
      some (.inl (IntKind.i64.wrap (x15 + 1)))
  else
    (slices_Index_Value_j1).map Sum.inr
def slices_Index_Value (p0 : (List AV)) (p1 : AV) : Option Int :=
  loopO (fun s : Int => slices_Index_Value_b1 p0 p1 s) 0
def encode_packed_j1 (x20 : (List Int)) : Option (List Int) :=
  some x20
def encode_packed_j2 (x28 : Int) (x39 : (List Int)) : Option ((Int × (List Int)) ⊕ (List Int)) :=
  some (.inl (IntKind.i64.wrap (x28 + 1), x39))
def encode_packed_j3 (x59 : Int) (x79 : (List Int)) : Option ((Int × (List Int)) ⊕ ((Int × (List Int)) ⊕ (List Int))) :=
  some (.inl (IntKind.i64.wrap (x59 + 1), x79))
def encode_packed_b2 (p1 : Int) (x28 : Int) (x46 : Int) (x59 : Int) (x61 : (List Int)) : Option ((Int × (List Int)) ⊕ ((Int × (List Int)) ⊕ (List Int))) :=
  if decide (x59 < p1) then
    (chk (decide (0 ≤ x59))).bind fun u72 =>
    if (bAnd .u64 (iShr .u64 x46 x59) 1) == 1 then
      (ix x61 (IntKind.i64.wrap ((IntKind.i64.wrap ((IntKind.i64.wrap (x28 * p1)) + x59)).tdiv 8))).bind fun j92 =>
      (x61[j92]?).bind fun x95 =>
      (chk (decide (0 ≤ ((IntKind.i64.wrap ((IntKind.i64.wrap (x28 * p1)) + x59)).tmod 8)))).bind fun u98 =>
      (ix x61 (IntKind.i64.wrap ((IntKind.i64.wrap ((IntKind.i64.wrap (x28 * p1)) + x59)).tdiv 8))).bind fun j155 =>
      (x61[j155]?).bind fun x160 =>
      encode_packed_j3 x59 (x61.set j155 (bOr .u8 x95 (iShl .u8 1 ((IntKind.i64.wrap ((IntKind.i64.wrap (x28 * p1)) + x59)).tmod 8))))
    else
      encode_packed_j3 x59 x61
  else
    (encode_packed_j2 x28 x61).map Sum.inr
def encode_packed_b1 (p0 : (List Int)) (p1 : Int) (x28 : Int) (x30 : (List Int)) : Option ((Int × (List Int)) ⊕ (List Int)) :=
  if decide (x28 < (p0.length : Int)) then
    (idx p0 x28).bind fun x46 =>
    loopO (fun s : (Int × (List Int)) => encode_packed_b2 p1 x28 x46 s.1 s.2) (0, x30)
  else
    (encode_packed_j1 x30).map Sum.inr
def encode_packed (p0 : (List Int)) (p1 : Int) : Option (List Int) :=
  (mk 281474976710656 (IntKind.i64.wrap ((IntKind.i64.wrap ((IntKind.i64.wrap ((p0.length : Int) * p1)) + 7)).tdiv 8)) 0).bind fun z8 =>
  loopO (fun s : (Int × (List Int)) => encode_packed_b1 p0 p1 s.1 s.2) (0, z8)
def slices_Compact_Value_g_j1 (p0 : (List AV)) : Option (List AV) :=
  some p0
def slices_Compact_Value_g_j2 (x16 : Int) : Option (Int ⊕ (List AV)) :=
  some (.inl (IntKind.i64.wrap (x16 + 1)))
def slices_Compact_Value_g_j3 (x100 : Int) (x102 : (List AV)) : Option (Int ⊕ (List AV)) :=
  (vw x102 x100 x102.length).bind fun q109 =>
  (clr x102 q109.1 q109.2 AV.zero).bind fun z114 =>
  (sub z114 0 x100).bind fun x120 =>
  (some x120).map Sum.inr
def slices_Compact_Value_g_j4 (x128 : Int) (x202 : Int) (x204 : (List AV)) : Option ((Int × Int × (List AV)) ⊕ (Int ⊕ (List AV))) :=
  some (.inl (x202, IntKind.i64.wrap (x128 + 1), x204))
def slices_Compact_Value_g_b2 (q93 : (Nat × Nat)) (x126 : Int) (x128 : Int) (x130 : (List AV)) : Option ((Int × Int × (List AV)) ⊕ (Int ⊕ (List AV))) :=
  (chk (Nat.ble q93.2 maxSz)).bind fun u137 =>
  if decide (x128 < (q93.2 : Int)) then
    (ixv q93.1 q93.2 x128).bind fun j142 =>
    (x130[j142]?).bind fun x145 =>
    (ixv q93.1 q93.2 (IntKind.i64.wrap (x128 - 1))).bind fun j147 =>
    (x130[j147]?).bind fun x150 =>
    if !decide (x145 = x150) then
      (ixv q93.1 q93.2 x128).bind fun j216 =>
      (x130[j216]?).bind fun x220 =>
      (ix x130 x126).bind fun j223 =>
      (x130[j223]?).bind fun x228 =>
      slices_Compact_Value_g_j4 x128 (IntKind.i64.wrap (x126 + 1)) (x130.set j223 x220)
    else
      slices_Compact_Value_g_j4 x128 x126 x130
  else
    (slices_Compact_Value_g_j3 x126 x130).map Sum.inr
def slices_Compact_Value_g_b1 (p0 : (List AV)) (x16 : Int) : Option (Int ⊕ (List AV)) :=
  if decide (x16 < (p0.length : Int)) then
    (ix p0 x16).bind fun j31 =>
    (p0[j31]?).bind fun x34 =>
    (ix p0 (IntKind.i64.wrap (x16 - 1))).bind fun j36 =>
    (p0[j36]?).bind fun x39 =>
    if decide (x34 = x39) then
      (vw p0 x16 p0.length).bind fun q93 =>
      loopO (fun s : (Int × Int × (List AV)) => slices_Compact_Value_g_b2 q93 s.1 s.2.1 s.2.2) (x16, 1, p0)
    else
      slices_Compact_Value_g_j2 x16
  else
    (slices_Compact_Value_g_j1 p0).map Sum.inr
def slices_Compact_Value_g (p0 : (List AV)) : Option (List AV) :=
  if decide ((p0.length : Int) < 2) then
    some p0
  else
    loopO (fun s : Int => slices_Compact_Value_g_b1 p0 s) 1
def slices_Clone_Value_g (p0 : (List AV)) : Option (List AV) :=
  (app 3518437208883 ([] : List AV) p0).bind fun z16 =>
  some z16
def encode_dict_j2 (r22 : (List AV)) (x48 : (List Int)) (x58 : (List Int)) : Option (List Int) :=
  (bits_Len (IntKind.u64.wrap (IntKind.i64.wrap ((r22.length : Int) - 1)))).bind fun r68 =>
  (encode_packed x58 r68).bind fun r75 =>
  (app 140737488355328 x48 r75).bind fun z81 =>
  some z81
def encode_dict_b1 (p0 : (List AV)) (r22 : (List AV)) (x48 : (List Int)) (x90 : (List Int)) (x93 : Int) : Option (((List Int) × Int) ⊕ (List Int)) :=
  if decide (x93 < (p0.length : Int)) then
    (idx p0 x93).bind fun x99 =>
    (slices_Index_Value r22 x99).bind fun r114 =>
    (app 17592186044416 x90 ([IntKind.u64.wrap r114])).bind fun z126 =>
    some (.inl (z126, IntKind.i64.wrap (x93 + 1)))
  else
    (encode_dict_j2 r22 x48 x90).map Sum.inr
def encode_dict_j1 (p0 : (List AV)) (r22 : (List AV)) (x48 : (List Int)) : Option (List Int) :=
  loopO (fun s : ((List Int) × Int) => encode_dict_b1 p0 r22 x48 s.1 s.2) ([], 0)
def encode_dict_b2 (p0 : (List AV)) (r22 : (List AV)) (x137 : (List Int)) (x140 : Int) : Option (((List Int) × Int) ⊕ (List Int)) :=
  if decide (x140 < (r22.length : Int)) then
    (idx r22 x140).bind fun x146 =>
    (encode_one x146).bind fun r160 =>
    (app 140737488355328 x137 r160).bind fun z166 =>
    some (.inl (z166, IntKind.i64.wrap (x140 + 1)))
  else
    (encode_dict_j1 p0 r22 x137).map Sum.inr
def encode_dict (p0 : (List AV)) : Option (List Int) :=
  (slices_Clone_Value_g p0).bind fun r3 =>
  (slices_SortFunc_Value r3 value_Compare).bind fun r14 =>
  (slices_Compact_Value_g r14).bind fun r22 =>
  loopO (fun s : ((List Int) × Int) => encode_dict_b2 p0 r22 s.1 s.2) ([IntKind.u8.wrap (r22.length : Int)], 0)
def slices_Min_int64_j2 (x20 : Int) : Option Int :=
  some x20
def slices_Min_int64_b1 (p0 : (List Int)) (x27 : Int) (x29 : Int) : Option ((Int × Int) ⊕ Int) :=
  if decide (x29 < (p0.length : Int)) then
    (idx p0 x29).bind fun x41 =>
    some (.inl ((if x41 < x27 then x41 else x27), IntKind.i64.wrap (x29 + 1)))
  else
    (slices_Min_int64_j2 x27).map Sum.inr
def slices_Min_int64_j1 (p0 : (List Int)) : Option Int :=
  (idx p0 0).bind fun x9 =>
  loopO (fun s : (Int × Int) => slices_Min_int64_b1 p0 s.1 s.2) (x9, 1)
def slices_Min_int64 (p0 : (List Int)) : Option Int :=
  if decide ((p0.length : Int) < 1) then
    none
  else
    slices_Min_int64_j1 p0
def encode_small_j1 (r3 : Int) (x18 : (List Int)) (x21 : Int) : Option (List Int) :=
  (encode_eight (IntKind.u64.wrap r3)).bind fun r26 =>
  (app 140737488355328 r26 ([IntKind.u8.wrap x21])).bind fun z38 =>
  (encode_packed x18 x21).bind fun r46 =>
  (app 140737488355328 z38 r46).bind fun z52 =>
  some z52
def encode_small_b1 (p0 : (List Int)) (r3 : Int) (x61 : (List Int)) (x64 : Int) (x66 : Int) : Option (((List Int) × Int × Int) ⊕ (List Int)) :=
  if decide (x66 < (p0.length : Int)) then
    (idx p0 x66).bind fun x72 =>
    (app 17592186044416 x61 ([IntKind.u64.wrap ((IntKind.u64.wrap x72) - (IntKind.u64.wrap r3))])).bind fun z92 =>
    (bits_Len64 (IntKind.u64.wrap ((IntKind.u64.wrap x72) - (IntKind.u64.wrap r3)))).bind fun r101 =>
    some (.inl (z92, (if x64 < r101 then r101 else x64), IntKind.i64.wrap (x66 + 1)))
  else
    (encode_small_j1 r3 x61 x64).map Sum.inr
def encode_small (p0 : (List Int)) : Option (List Int) :=
  (slices_Min_int64 p0).bind fun r3 =>
  loopO (fun s : ((List Int) × Int × Int) => encode_small_b1 p0 r3 s.1 s.2.1 s.2.2) ([], 0, 0)
def encode_Encode_j3 (x109 : (List Int)) : Option ((List Int) × Int) :=
  some (x109, 0)
def encode_Encode_b1 (p1 : (List AV)) (x118 : (List Int)) (x121 : Int) : Option (((List Int) × Int) ⊕ ((List Int) × Int)) :=
  if decide (x121 < (p1.length : Int)) then
    (idx p1 x121).bind fun x127 =>
    (encode_one x127).bind fun r141 =>
    (app 140737488355328 x118 r141).bind fun z147 =>
    some (.inl (z147, IntKind.i64.wrap (x121 + 1)))
  else
    (encode_Encode_j3 x118).map Sum.inr
def encode_Encode_j2 (p0 : Int) (p1 : (List AV)) (r27 : ((List Int) × Bool)) (x43 : Bool) : Option ((List Int) × Int) :=
  if x43 then
    some ([], 62)
  else
    if (p1.length : Int) == 0 then
      some ([], 0)
    else
      if p0 == 1 then
        (encode_runs p1).bind fun r59 =>
        some (r59, 0)
      else
        if p0 == 2 then
          (encode_delta r27.1).bind fun r71 =>
          some (r71, 0)
        else
          if p0 == 3 then
            (encode_dict p1).bind fun r83 =>
            some (r83, 0)
          else
            if p0 == 4 then
              (encode_small r27.1).bind fun r95 =>
              some (r95, 0)
            else
              loopO (fun s : ((List Int) × Int) => encode_Encode_b1 p1 s.1 s.2) ([], 0)
def encode_Encode_j1 (p0 : Int) (p1 : (List AV)) (x5 : Bool) : Option ((List Int) × Int) :=
  if x5 then
    some ([], 62)
  else
    if decide (64 < (p1.length : Int)) then
      some ([], 61)
    else
      (slices_ContainsFunc_Value p1 encode_Encode_1).bind fun r17 =>
      if r17 then
        some ([], 60)
      else
        (encode_ints p1).bind fun r27 =>
        if !r27.2 then
          if p0 == 2 then
            encode_Encode_j2 p0 p1 r27 true
          else
            encode_Encode_j2 p0 p1 r27 (p0 == 4)
        else
          encode_Encode_j2 p0 p1 r27 false
def encode_Encode (p0 : Int) (p1 : (List AV)) : Option ((List Int) × Int) :=
  if decide (p0 < 0) then
    encode_Encode_j1 p0 p1 true
  else
    encode_Encode_j1 p0 p1 (decide (4 < p0))
def slices_Equal_byte_j1  : Option Bool :=
  some true
def slices_Equal_byte_b1 (p0 : (List Int)) (p1 : (List Int)) (x18 : Int) : Option (Int ⊕ Bool) :=
  if decide (x18 < (p0.length : Int)) then
    (idx p0 x18).bind fun x26 =>
    (idx p1 x18).bind fun x31 =>
    if x26 != x31 then
      (some false).map Sum.inr
    else
      some (.inl (IntKind.i64.wrap (x18 + 1)))
  else
    (slices_Equal_byte_j1).map Sum.inr
def slices_Equal_byte (p0 : (List Int)) (p1 : (List Int)) : Option Bool :=
  if (p0.length : Int) != (p1.length : Int) then
    some false
  else
    loopO (fun s : Int => slices_Equal_byte_b1 p0 p1 s) 0
def encode_Decode_j4 (x30 : (List AV)) (x56 : Bool) : Option ((List AV) × Int) :=
  if x56 then
    some ([], 60)
  else
    some (x30, 0)
def encode_Decode_j3 (p0 : Int) (p1 : (List Int)) (p2 : Int) (x30 : (List AV)) (x33 : Encode_reader) : Option ((List AV) × Int) :=
  (encode_Encode p0 x30).bind fun r39 =>
  if !x33.fOk then
    encode_Decode_j4 x30 true
  else
    if r39.2 != 0 then
      encode_Decode_j4 x30 true
    else
      if (x30.length : Int) != p2 then
        encode_Decode_j4 x30 true
      else
        (slices_Equal_byte r39.1 p1).bind fun r95 =>
        encode_Decode_j4 x30 (!r95)
def encode_Decode_j2 (p0 : Int) (p1 : (List Int)) (p2 : Int) (x12 : Bool) : Option ((List AV) × Int) :=
  if x12 then
    some ([], 61)
  else
    if decide (0 < p2) then
      (encode_reader_guess (⟨p1, true⟩ : Encode_reader) p0 p2).bind fun r107 =>
      encode_Decode_j3 p0 p1 p2 r107.1 r107.2
    else
      encode_Decode_j3 p0 p1 p2 ([]) (⟨p1, true⟩ : Encode_reader)
def encode_Decode_j1 (p0 : Int) (p1 : (List Int)) (p2 : Int) (x5 : Bool) : Option ((List AV) × Int) :=
  if x5 then
    some ([], 62)
  else
    if decide (p2 < 0) then
      encode_Decode_j2 p0 p1 p2 true
    else
      encode_Decode_j2 p0 p1 p2 (decide (64 < p2))
def encode_Decode (p0 : Int) (p1 : (List Int)) (p2 : Int) : Option ((List AV) × Int) :=
  if decide (p0 < 0) then
    encode_Decode_j1 p0 p1 p2 true
  else
    encode_Decode_j1 p0 p1 p2 (decide (4 < p0))
def encode_Best_j1 (x7 : Int) : Option Int :=
  some x7
def encode_Best_j3 (x18 : Int) (x48 : Int) (x50 : Int) : Option ((Int × Int × Int) ⊕ Int) :=
  some (.inl (x48, x50, IntKind.i64.wrap (x18 + 1)))
def encode_Best_j2 (x14 : Int) (x16 : Int) (x18 : Int) (r27 : ((List Int) × Int)) (x44 : Bool) : Option ((Int × Int × Int) ⊕ Int) :=
  if x44 then
    encode_Best_j3 x18 x18 (r27.1.length : Int)
  else
    encode_Best_j3 x18 x14 x16
def encode_Best_b1 (p0 : (List AV)) (x14 : Int) (x16 : Int) (x18 : Int) : Option ((Int × Int × Int) ⊕ Int) :=
  if decide (x18 ≤ 4) then
    (encode_Encode x18 p0).bind fun r27 =>
    if r27.2 == 0 then
      if decide (x16 < 0) then
        encode_Best_j2 x14 x16 x18 r27 true
      else
        encode_Best_j2 x14 x16 x18 r27 (decide ((r27.1.length : Int) < x16))
    else
      encode_Best_j2 x14 x16 x18 r27 false
  else
    (encode_Best_j1 x14).map Sum.inr
def encode_Best (p0 : (List AV)) : Option Int :=
  loopO (fun s : (Int × Int × Int) => encode_Best_b1 p0 s.1 s.2.1 s.2.2) (0, (-1), 0)
def slices_MinFunc_Value_j2 (x24 : AV) : Option AV :=
  some x24
def slices_MinFunc_Value_j3 (x35 : Int) (x95 : AV) : Option ((Int × AV) ⊕ AV) :=
  some (.inl (IntKind.i64.wrap (x35 + 1), x95))
def slices_MinFunc_Value_b1 (p0 : (List AV)) (p1 : (AV → AV → Option Int)) (x35 : Int) (x37 : AV) : Option ((Int × AV) ⊕ AV) :=
  if decide (x35 < (p0.length : Int)) then
    (idx p0 x35).bind fun x47 =>
    (p1 x47 x37).bind fun r85 =>
    if decide (r85 < 0) then
      (idx p0 x35).bind fun x105 =>
      slices_MinFunc_Value_j3 x35 x105
    else
      slices_MinFunc_Value_j3 x35 x37
  else
    (slices_MinFunc_Value_j2 x37).map Sum.inr
def slices_MinFunc_Value_j1 (p0 : (List AV)) (p1 : (AV → AV → Option Int)) : Option AV :=
  (idx p0 0).bind fun x10 =>
  loopO (fun s : (Int × AV) => slices_MinFunc_Value_b1 p0 p1 s.1 s.2) (1, x10)
def slices_MinFunc_Value (p0 : (List AV)) (p1 : (AV → AV → Option Int)) : Option AV :=
  if decide ((p0.length : Int) < 1) then
    none
  else
    slices_MinFunc_Value_j1 p0 p1
def slices_MaxFunc_Value_j2 (x24 : AV) : Option AV :=
  some x24
def slices_MaxFunc_Value_j3 (x35 : Int) (x95 : AV) : Option ((Int × AV) ⊕ AV) :=
  some (.inl (IntKind.i64.wrap (x35 + 1), x95))
def slices_MaxFunc_Value_b1 (p0 : (List AV)) (p1 : (AV → AV → Option Int)) (x35 : Int) (x37 : AV) : Option ((Int × AV) ⊕ AV) :=
  if decide (x35 < (p0.length : Int)) then
    (idx p0 x35).bind fun x47 =>
    (p1 x47 x37).bind fun r85 =>
    if decide (0 < r85) then
      (idx p0 x35).bind fun x105 =>
      slices_MaxFunc_Value_j3 x35 x105
    else
      slices_MaxFunc_Value_j3 x35 x37
  else
    (slices_MaxFunc_Value_j2 x37).map Sum.inr
def slices_MaxFunc_Value_j1 (p0 : (List AV)) (p1 : (AV → AV → Option Int)) : Option AV :=
  (idx p0 0).bind fun x10 =>
  loopO (fun s : (Int × AV) => slices_MaxFunc_Value_b1 p0 p1 s.1 s.2) (1, x10)
def slices_MaxFunc_Value (p0 : (List AV)) (p1 : (AV → AV → Option Int)) : Option AV :=
  if decide ((p0.length : Int) < 1) then
    none
  else
    slices_MaxFunc_Value_j1 p0 p1
def slices_Values_Value (p0 : (List AV)) : Option (List AV) :=
  some p0
def block_head_b1 (x36 : Block_Info) (x39 : AV) : Option (Block_Info × Bool) :=
  if x39.fKind == 0 then
    some (({ x36 with fNulls := IntKind.i64.wrap (x36.fNulls + 1) }), true)
  else
    some (x36, true)
def block_head (p0 : Int) (p1 : (List AV)) : Option Block_Info :=
  (slices_MinFunc_Value p1 value_Compare).bind fun r7 =>
  (slices_MaxFunc_Value p1 value_Compare).bind fun r14 =>
  (slices_Values_Value p1).bind fun r28 =>
  (foldY (fun (s : Block_Info) (x : AV) => block_head_b1 s x) (⟨p0, (p1.length : Int), r7, r14, 0, 0⟩ : Block_Info) r28).bind fun y67 =>
  if y67.2 then
    some y67.1
  else
    none
def block_one (p0 : AV) : Option (List Int) :=
  (rows_Encode ([p0])).bind fun r12 =>
  (sub r12.1 1 r12.1.length).bind fun x28 =>
  some x28
def codec_Sum_j2 (x17 : Int) : Option Int :=
  some (iNot .u32 x17)
def codec_Sum_b1 (p0 : (List Int)) (x7 : (List Int)) (x25 : Int) (x27 : Int) : Option ((Int × Int) ⊕ Int) :=
  if decide (x27 < (p0.length : Int)) then
    (idx p0 x27).bind fun x33 =>
    (ix x7 (bAnd .u32 (bXor .u32 x25 (IntKind.u32.wrap x33)) 15)).bind fun j48 =>
    (x7[j48]?).bind fun x52 =>
    (ix x7 (bAnd .u32 (bXor .u32 x52 (iShr .u32 (bXor .u32 x25 (IntKind.u32.wrap x33)) 4)) 15)).bind fun j62 =>
    (x7[j62]?).bind fun x66 =>
    some (.inl (bXor .u32 x66 (iShr .u32 (bXor .u32 x52 (iShr .u32 (bXor .u32 x25 (IntKind.u32.wrap x33)) 4)) 4), IntKind.i64.wrap (x27 + 1)))
  else
    (codec_Sum_j2 x25).map Sum.inr
def codec_Sum_j1 (p0 : (List Int)) (x7 : (List Int)) : Option Int :=
  loopO (fun s : (Int × Int) => codec_Sum_b1 p0 x7 s.1 s.2) (4294967295, 0)
def codec_Sum_j3 (x78 : Int) (x89 : (List Int)) : Option ((Int × (List Int)) ⊕ Int) :=
  some (.inl (IntKind.i64.wrap (x78 + 1), x89))
def codec_Sum_j4 (x78 : Int) (x80 : (List Int)) (x103 : Int) : Option ((Int × (List Int)) ⊕ Int) :=
  (ix x80 x78).bind fun j108 =>
  (x80[j108]?).bind fun x113 =>
  codec_Sum_j3 x78 (x80.set j108 x103)
def codec_Sum_b3 (x78 : Int) (x80 : (List Int)) (x118 : Int) (x120 : Int) : Option ((Int × Int) ⊕ ((Int × (List Int)) ⊕ Int)) :=
  if decide (x120 < 4) then
    some (.inl (bXor .u32 (iShr .u32 x118 1) (IntKind.u32.wrap (3988292384 * (bAnd .u32 x118 1))), IntKind.i64.wrap (x120 + 1)))
  else
    (codec_Sum_j4 x78 x80 x118).map Sum.inr
def codec_Sum_b2 (p0 : (List Int)) (x78 : Int) (x80 : (List Int)) : Option ((Int × (List Int)) ⊕ Int) :=
  if decide (x78 < 16) then
    loopO (fun s : (Int × Int) => codec_Sum_b3 x78 x80 s.1 s.2) (IntKind.u32.wrap x78, 0)
  else
    (codec_Sum_j1 p0 x80).map Sum.inr
def codec_Sum (p0 : (List Int)) : Option Int :=
  loopO (fun s : (Int × (List Int)) => codec_Sum_b2 p0 s.1 s.2) (0, (List.replicate 16 0 : List Int))
def block_sealed (p0 : (List Int)) : Option (List Int) :=
  (codec_Sum p0).bind fun r3 =>
  (app 140737488355328 p0 ([IntKind.u8.wrap (iShr .u32 r3 24), IntKind.u8.wrap (iShr .u32 r3 16), IntKind.u8.wrap (iShr .u32 r3 8), IntKind.u8.wrap r3])).bind fun z27 =>
  some z27
def block_Write_j1 (p1 : (List AV)) (x13 : Int) : Option ((List Int) × Int) :=
  (encode_Encode x13 p1).bind fun r18 =>
  if r18.2 != 0 then
    some ([], r18.2)
  else
    (block_head x13 p1).bind fun r41 =>
    (block_one r41.fMin).bind fun r73 =>
    (app 140737488355328 ([IntKind.u8.wrap x13, IntKind.u8.wrap r41.fMany, IntKind.u8.wrap r41.fNulls]) r73).bind fun z79 =>
    (block_one r41.fMax).bind fun r90 =>
    (app 140737488355328 z79 r90).bind fun z96 =>
    (app 140737488355328 z96 ([IntKind.u8.wrap (iShr .i64 (r18.1.length : Int) 8), IntKind.u8.wrap (r18.1.length : Int)])).bind fun z115 =>
    (app 140737488355328 z115 r18.1).bind fun z124 =>
    (block_sealed z124).bind fun r132 =>
    some (r132, 0)
def block_Write (p0 : Int) (p1 : (List AV)) : Option ((List Int) × Int) :=
  if (p1.length : Int) == 0 then
    some ([], 70)
  else
    if p0 == (-1) then
      (encode_Best p1).bind fun r142 =>
      block_Write_j1 p1 r142
    else
      block_Write_j1 p1 p0
def block_front_j1  : Option (AV × (List Int) × Bool) :=
  some ((⟨0, false, 0, []⟩ : AV), [], false)
def block_front_j2 (p0 : (List Int)) (x18 : Int) (x24 : Bool) : Option (Int ⊕ (AV × (List Int) × Bool)) :=
  if x24 then
    (sub p0 0 x18).bind fun x33 =>
    (app 140737488355328 ([1]) x33).bind fun z37 =>
    (rows_Decode z37).bind fun r43 =>
    if r43.2 == 0 then
      (idx r43.1 0).bind fun x61 =>
      (sub p0 x18 p0.length).bind fun x65 =>
      (some (x61, x65, true)).map Sum.inr
    else
      some (.inl (IntKind.i64.wrap (x18 + 1)))
  else
    (block_front_j1).map Sum.inr
def block_front_b1 (p0 : (List Int)) (x18 : Int) : Option (Int ⊕ (AV × (List Int) × Bool)) :=
  if decide (x18 ≤ (p0.length : Int)) then
    block_front_j2 p0 x18 (decide (x18 ≤ 66))
  else
    block_front_j2 p0 x18 false
def block_front (p0 : (List Int)) : Option (AV × (List Int) × Bool) :=
  loopO (fun s : Int => block_front_b1 p0 s) 1
def block_read_j2 (p0 : (List Int)) (x17 : Int) (x22 : Int) (x27 : Int) (r118 : (AV × (List Int) × Bool)) (r140 : (AV × (List Int) × Bool)) (x163 : Bool) : Option (Block_Info × (List Int) × Bool) :=
  if x163 then
    some ((⟨0, 0, AV.zero, AV.zero, 0, 0⟩ : Block_Info), [], false)
  else
    (idx r140.2.1 0).bind fun x173 =>
    (idx r140.2.1 1).bind fun x178 =>
    (sub r140.2.1 2 r140.2.1.length).bind fun x237 =>
    if decide ((x237.length : Int) < (IntKind.i64.wrap ((bOr .i64 (iShl .i64 (IntKind.i64.wrap x173) 8) (IntKind.i64.wrap x178)) + 4))) then
      some ((⟨0, 0, AV.zero, AV.zero, 0, 0⟩ : Block_Info), [], false)
    else
      (sub x237 0 (bOr .i64 (iShl .i64 (IntKind.i64.wrap x173) 8) (IntKind.i64.wrap x178))).bind fun x268 =>
      some ({ { { (⟨IntKind.i64.wrap x17, IntKind.i64.wrap x22, AV.zero, AV.zero, IntKind.i64.wrap x27, 0⟩ : Block_Info) with fMin := r118.1 } with fMax := r140.1 } with fBytes := IntKind.i64.wrap ((IntKind.i64.wrap ((IntKind.i64.wrap ((p0.length : Int) - (x237.length : Int))) + (bOr .i64 (iShl .i64 (IntKind.i64.wrap x173) 8) (IntKind.i64.wrap x178)))) + 4) }, x268, true)
def block_read_j1 (p0 : (List Int)) (x7 : Bool) : Option (Block_Info × (List Int) × Bool) :=
  if x7 then
    some ((⟨0, 0, AV.zero, AV.zero, 0, 0⟩ : Block_Info), [], false)
  else
    (idx p0 0).bind fun x17 =>
    (idx p0 1).bind fun x22 =>
    (idx p0 2).bind fun x27 =>
    (sub p0 3 p0.length).bind fun x114 =>
    (block_front x114).bind fun r118 =>
    (block_front r118.2.1).bind fun r140 =>
    if !r118.2.2 then
      block_read_j2 p0 x17 x22 x27 r118 r140 true
    else
      if !r140.2.2 then
        block_read_j2 p0 x17 x22 x27 r118 r140 true
      else
        block_read_j2 p0 x17 x22 x27 r118 r140 (decide ((r140.2.1.length : Int) < 2))
def block_read (p0 : (List Int)) : Option (Block_Info × (List Int) × Bool) :=
  if decide ((p0.length : Int) < 3) then
    block_read_j1 p0 true
  else
    (idx p0 0).bind fun x385 =>
    if decide (4 < x385) then
      block_read_j1 p0 true
    else
      (idx p0 1).bind fun x471 =>
      if x471 == 0 then
        block_read_j1 p0 true
      else
        (idx p0 1).bind fun x572 =>
        if decide (64 < x572) then
          block_read_j1 p0 true
        else
          (idx p0 2).bind fun x688 =>
          (idx p0 1).bind fun x693 =>
          block_read_j1 p0 (decide (x693 < x688))
def block_Head (p0 : (List Int)) : Option (Block_Info × Int) :=
  (block_read p0).bind fun r5 =>
  if !r5.2.2 then
    some ((⟨0, 0, AV.zero, AV.zero, 0, 0⟩ : Block_Info), 70)
  else
    some (r5.1, 0)
def slices_Clone_byte (p0 : (List Int)) : Option (List Int) :=
  (app 140737488355328 ([]) p0).bind fun z13 =>
  some z13
def block_Read_j1 (r5 : (Block_Info × (List Int) × Bool)) (r120 : ((List AV) × Int)) (x159 : Bool) : Option ((List AV) × Int × Int) :=
  if x159 then
    some ([], 0, 70)
  else
    some (r120.1, r5.1.fBytes, 0)
def block_Read (p0 : (List Int)) : Option ((List AV) × Int × Int) :=
  (block_read p0).bind fun r5 =>
  if !r5.2.2 then
    some ([], 0, 70)
  else
    (sub p0 0 (IntKind.i64.wrap (r5.1.fBytes - 4))).bind fun x39 =>
    (slices_Clone_byte x39).bind fun r43 =>
    (block_sealed r43).bind fun r50 =>
    (sub p0 0 r5.1.fBytes).bind fun x58 =>
    (slices_Equal_byte r50 x58).bind fun r100 =>
    if !r100 then
      some ([], 0, 71)
    else
      (encode_Decode r5.1.fKind r5.2.1 r5.1.fMany).bind fun r120 =>
      if r120.2 != 0 then
        some ([], 0, 70)
      else
        (block_head r5.1.fKind r120.1).bind fun r146 =>
        if r146.fNulls != r5.1.fNulls then
          block_Read_j1 r5 r120 true
        else
          if !decide (r146.fMin = r5.1.fMin) then
            block_Read_j1 r5 r120 true
          else
            block_Read_j1 r5 r120 (!decide (r146.fMax = r5.1.fMax))
def hayloftlaw07_alive_j1 (x66 : Bool) : Option Bool :=
  some x66
def hayloftlaw07_alive  : Option Bool :=
  (block_Write 0 ([(⟨1, true, 0, []⟩ : AV)])).bind fun r8 =>
  (block_Head r8.1).bind fun r24 =>
  (block_Read r8.1).bind fun r44 =>
  if r8.2 == 0 then
    if (r8.1.length : Int) == 15 then
      if r24.2 == 0 then
        if r24.1.fMany == 1 then
          if r44.2.2 == 0 then
            if r44.2.1 == 15 then
              if (r44.1.length : Int) == 1 then
                (idx r44.1 0).bind fun x108 =>
                hayloftlaw07_alive_j1 x108.fBool
              else
                hayloftlaw07_alive_j1 false
            else
              hayloftlaw07_alive_j1 false
          else
            hayloftlaw07_alive_j1 false
        else
          hayloftlaw07_alive_j1 false
      else
        hayloftlaw07_alive_j1 false
    else
      hayloftlaw07_alive_j1 false
  else
    hayloftlaw07_alive_j1 false
def block_All_1_j1 {σ : Type} (x9 : (List Int)) (r23 : ((List AV) × Int × Int)) (x51 : Int) (x53 : σ) : Option ((Int × (List Int) × σ) ⊕ σ) :=
  (sub x9 r23.2.1 x9.length).bind fun x60 =>
  some (.inl (x51, x60, x53))
def block_All_1_b2 {σ : Type} (step : (σ → (Int × AV) → Option (σ × Bool))) (x9 : (List Int)) (r23 : ((List AV) × Int × Int)) (x67 : Int) (x69 : Int) (x71 : σ) : Option ((Int × Int × σ) ⊕ ((Int × (List Int) × σ) ⊕ σ)) :=
  if decide (x69 < (r23.1.length : Int)) then
    (idx r23.1 x69).bind fun x79 =>
    (step x71 (x67, x79)).bind fun r94 =>
    if !r94.2 then
      ((some r94.1).map Sum.inr).map Sum.inr
    else
      some (.inl (IntKind.i64.wrap (x67 + 1), IntKind.i64.wrap (x69 + 1), r94.1))
  else
    (block_All_1_j1 x9 r23 x67 x71).map Sum.inr
def block_All_1_b1 {σ : Type} (step : (σ → (Int × AV) → Option (σ × Bool))) (x7 : Int) (x9 : (List Int)) (x12 : σ) : Option ((Int × (List Int) × σ) ⊕ σ) :=
  if decide (0 < (x9.length : Int)) then
    (block_Read x9).bind fun r23 =>
    if r23.2.2 != 0 then
      (some x12).map Sum.inr
    else
      loopO (fun s : (Int × Int × σ) => block_All_1_b2 step x9 r23 s.1 s.2.1 s.2.2) (x7, 0, x12)
  else
    (some x12).map Sum.inr
def block_All_1 {σ : Type} (step : (σ → (Int × AV) → Option (σ × Bool))) (s0_ : σ) (p1 : (List Int)) : Option σ :=
  loopO (fun s : (Int × (List Int) × σ) => block_All_1_b1 step s.1 s.2.1 s.2.2) (0, p1, s0_)
def block_All_1_list (p1 : (List Int)) : Option (List (Int × AV)) :=
  block_All_1 (fun (s : List (Int × AV)) x => some (s ++ [x], true)) [] p1
def block_All (p0 : (List Int)) : Option (List (Int × AV)) :=
  (slices_Clone_byte p0).bind fun r3 =>
  (block_All_1_list r3).bind fun x17 =>
  some x17
def hayloftlaw07_BlockMany_j3 (x42 : Int) (x45 : Bool) (x67 : Bool) : Option ((Int × Bool) × Bool) :=
  if x67 then
    some ((x42, false), false)
  else
    some ((IntKind.i64.wrap (x42 + 1), x45), true)
def hayloftlaw07_BlockMany_b1 (x14 : (List AV)) (x42 : Int) (x45 : Bool) (x48 : (Int × AV)) : Option ((Int × Bool) × Bool) :=
  if x48.1 != x42 then
    hayloftlaw07_BlockMany_j3 x42 x45 true
  else
    if decide ((x14.length : Int) ≤ x42) then
      hayloftlaw07_BlockMany_j3 x42 x45 true
    else
      (idx x14 x42).bind fun x241 =>
      hayloftlaw07_BlockMany_j3 x42 x45 (!decide (x48.2 = x241))
def hayloftlaw07_BlockMany_j4 (x362 : Bool) : Option Bool :=
  some x362
def hayloftlaw07_BlockMany_j2 (x14 : (List AV)) (r19 : (List (Int × AV))) (x28 : Bool) : Option Bool :=
  if x28 then
    some false
  else
    (foldY (fun (s : (Int × Bool)) (x : (Int × AV)) => hayloftlaw07_BlockMany_b1 x14 s.1 s.2 x) (0, false) r19).bind fun y347 =>
    if y347.2 then
      (hayloftlaw07_alive).bind fun r366 =>
      if r366 then
        hayloftlaw07_BlockMany_j4 (y347.1.1 == (x14.length : Int))
      else
        hayloftlaw07_BlockMany_j4 false
    else
      some y347.1.2
def hayloftlaw07_BlockMany_j1 (x11 : (List Int)) (x14 : (List AV)) : Option Bool :=
  (block_All x11).bind fun r19 =>
  (hayloftlaw07_alive).bind fun r392 =>
  hayloftlaw07_BlockMany_j2 x14 r19 (!r392)
def hayloftlaw07_BlockMany_j5 (x405 : Int) (x416 : (List Int)) (x419 : (List AV)) : Option (((List Int) × Int × (List AV)) ⊕ Bool) :=
  some (.inl (x416, IntKind.i64.wrap (x405 + 1), x419))
def hayloftlaw07_BlockMany_j6 (p0 : (List (List AV))) (x402 : (List Int)) (x405 : Int) (x407 : (List AV)) (x434 : Int) : Option (((List Int) × Int × (List AV)) ⊕ Bool) :=
  (idx p0 x405).bind fun x440 =>
  (block_Write x434 x440).bind fun r446 =>
  if r446.2 != 0 then
    hayloftlaw07_BlockMany_j5 x405 x402 x407
  else
    (app 140737488355328 x402 r446.1).bind fun z466 =>
    (idx p0 x405).bind fun x474 =>
    (app 3518437208883 x407 x474).bind fun z507 =>
    hayloftlaw07_BlockMany_j5 x405 z466 z507
def hayloftlaw07_BlockMany_b2 (p0 : (List (List AV))) (p1 : (List Int)) (x402 : (List Int)) (x405 : Int) (x407 : (List AV)) : Option (((List Int) × Int × (List AV)) ⊕ Bool) :=
  if decide (x405 < (p0.length : Int)) then
    if decide (x405 < (p1.length : Int)) then
      (idx p1 x405).bind fun x519 =>
      hayloftlaw07_BlockMany_j6 p0 x402 x405 x407 x519
    else
      hayloftlaw07_BlockMany_j6 p0 x402 x405 x407 (-1)
  else
    (hayloftlaw07_BlockMany_j1 x402 x407).map Sum.inr
def hayloftlaw07_BlockMany (p0 : (List (List AV))) (p1 : (List Int)) : Option Bool :=
  loopO (fun s : ((List Int) × Int × (List AV)) => hayloftlaw07_BlockMany_b2 p0 p1 s.1 s.2.1 s.2.2) ([], 0, ([] : (List AV)))
end
end Go.Proofs.Ytifobhaccglckaa.Hay
