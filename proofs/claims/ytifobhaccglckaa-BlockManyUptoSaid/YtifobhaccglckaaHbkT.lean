import Derived.Test.YtifobhaccglckaaHbkM
import Derived.Test.YtifobhaccglckaaProg
set_option maxRecDepth 100000
namespace Go.Proofs.Ytifobhaccglckaa.Hay
open Go.Proofs
theorem mixed : Try.prog.follows .mixedOrders = true := by kernel_rfl
def AV.pr (x : AV) : Int × Bool × Int × (List Int) := (x.fKind, x.fBool, x.fInt, x.fText)
def kAV : Kd AV := kMap AV.pr (kPair (kInt .i64) (kPair kBool (kPair (kInt .i64) kStr)))
theorem fl53_0 : Fld kAV (kInt .i64) 0 (fun x => x.fKind) := Fld_map Fld_fst
theorem sf53_0 : StF kAV (kInt .i64) 0 (fun x y => { x with fKind := y }) := StF_map StF_fst (fun _ _ => rfl)
theorem fl53_1 : Fld kAV kBool 1 (fun x => x.fBool) := Fld_map (Fld_snd Fld_fst)
theorem sf53_1 : StF kAV kBool 1 (fun x y => { x with fBool := y }) := StF_map (StF_snd StF_fst) (fun _ _ => rfl)
theorem fl53_2 : Fld kAV (kInt .i64) 2 (fun x => x.fInt) := Fld_map (Fld_snd (Fld_snd Fld_fst))
theorem sf53_2 : StF kAV (kInt .i64) 2 (fun x y => { x with fInt := y }) := StF_map (StF_snd (StF_snd StF_fst)) (fun _ _ => rfl)
theorem fl53_3 : Fld kAV kStr 3 (fun x => x.fText) := Fld_map (Fld_snd (Fld_snd (Fld_snd Fld_self)))
theorem sf53_3 : StF kAV kStr 3 (fun x y => { x with fText := y }) := StF_map (StF_snd (StF_snd (StF_snd StF_self))) (fun _ _ => rfl)
def Encode_reader.pr (x : Encode_reader) : (List Int) × Bool := (x.fB, x.fOk)
def kEncode_reader : Kd Encode_reader := kMap Encode_reader.pr (kPair (kSl (kInt .u8)) kBool)
theorem fl87_0 : Fld kEncode_reader (kSl (kInt .u8)) 0 (fun x => x.fB) := Fld_map Fld_fst
theorem sf87_0 : StF kEncode_reader (kSl (kInt .u8)) 0 (fun x y => { x with fB := y }) := StF_map StF_fst (fun _ _ => rfl)
theorem fl87_1 : Fld kEncode_reader kBool 1 (fun x => x.fOk) := Fld_map (Fld_snd Fld_self)
theorem sf87_1 : StF kEncode_reader kBool 1 (fun x y => { x with fOk := y }) := StF_map (StF_snd StF_self) (fun _ _ => rfl)
def Encode_Run.pr (x : Encode_Run) : Int × AV := (x.fMany, x.fValue)
def kEncode_Run : Kd Encode_Run := kMap Encode_Run.pr (kPair (kInt .i64) kAV)
theorem fl55_0 : Fld kEncode_Run (kInt .i64) 0 (fun x => x.fMany) := Fld_map Fld_fst
theorem sf55_0 : StF kEncode_Run (kInt .i64) 0 (fun x y => { x with fMany := y }) := StF_map StF_fst (fun _ _ => rfl)
theorem fl55_1 : Fld kEncode_Run kAV 1 (fun x => x.fValue) := Fld_map (Fld_snd Fld_self)
theorem sf55_1 : StF kEncode_Run kAV 1 (fun x y => { x with fValue := y }) := StF_map (StF_snd StF_self) (fun _ _ => rfl)
def Hayloftref06_Run.pr (x : Hayloftref06_Run) : Int × AV := (x.fMany, x.fValue)
def Block_Info.pr (x : Block_Info) : Int × Int × AV × AV × Int × Int := (x.fKind, x.fMany, x.fMin, x.fMax, x.fNulls, x.fBytes)
def kBlock_Info : Kd Block_Info := kMap Block_Info.pr (kPair (kInt .i64) (kPair (kInt .i64) (kPair kAV (kPair kAV (kPair (kInt .i64) (kInt .i64))))))
theorem fl62_0 : Fld kBlock_Info (kInt .i64) 0 (fun x => x.fKind) := Fld_map Fld_fst
theorem sf62_0 : StF kBlock_Info (kInt .i64) 0 (fun x y => { x with fKind := y }) := StF_map StF_fst (fun _ _ => rfl)
theorem fl62_1 : Fld kBlock_Info (kInt .i64) 1 (fun x => x.fMany) := Fld_map (Fld_snd Fld_fst)
theorem sf62_1 : StF kBlock_Info (kInt .i64) 1 (fun x y => { x with fMany := y }) := StF_map (StF_snd StF_fst) (fun _ _ => rfl)
theorem fl62_2 : Fld kBlock_Info kAV 2 (fun x => x.fMin) := Fld_map (Fld_snd (Fld_snd Fld_fst))
theorem sf62_2 : StF kBlock_Info kAV 2 (fun x y => { x with fMin := y }) := StF_map (StF_snd (StF_snd StF_fst)) (fun _ _ => rfl)
theorem fl62_3 : Fld kBlock_Info kAV 6 (fun x => x.fMax) := Fld_map (Fld_snd (Fld_snd (Fld_snd Fld_fst)))
theorem sf62_3 : StF kBlock_Info kAV 6 (fun x y => { x with fMax := y }) := StF_map (StF_snd (StF_snd (StF_snd StF_fst))) (fun _ _ => rfl)
theorem fl62_4 : Fld kBlock_Info (kInt .i64) 10 (fun x => x.fNulls) := Fld_map (Fld_snd (Fld_snd (Fld_snd (Fld_snd Fld_fst))))
theorem sf62_4 : StF kBlock_Info (kInt .i64) 10 (fun x y => { x with fNulls := y }) := StF_map (StF_snd (StF_snd (StF_snd (StF_snd StF_fst)))) (fun _ _ => rfl)
theorem fl62_5 : Fld kBlock_Info (kInt .i64) 11 (fun x => x.fBytes) := Fld_map (Fld_snd (Fld_snd (Fld_snd (Fld_snd (Fld_snd Fld_self)))))
theorem sf62_5 : StF kBlock_Info (kInt .i64) 11 (fun x y => { x with fBytes := y }) := StF_map (StF_snd (StF_snd (StF_snd (StF_snd (StF_snd StF_self))))) (fun _ _ => rfl)
def Hayloftref07_Info.pr (x : Hayloftref07_Info) : Int × Int × AV × AV × Int × Int := (x.fKind, x.fMany, x.fMin, x.fMax, x.fNulls, x.fBytes)
def Api_Term.pr (x : Api_Term) : Int × Int × AV := (x.fColumn, x.fOp, x.fValue)
def zc53 : List Value := [.int .i64 0, .bool false, .int .i64 0, .string (bts [])]
theorem zr53 : ∀ m, kAV.R m zc53 AV.zero := fun _ => ⟨⟨rfl, inR_lit (by decide)⟩, ⟨rfl, ⟨⟨rfl, inR_lit (by decide)⟩, ⟨rfl, (by decide), (by decide)⟩⟩⟩⟩
theorem ty53 : TyOK Try.prog 53 kAV := ⟨Try.sizeOf53, Try.isAgg53⟩
theorem ty5 : TyOK Try.prog 5 (kInt .u8) := ⟨Try.sizeOf5, Try.isAgg5⟩
theorem el53 : ElOK Try.prog 53 4 40 := ⟨⟨Try.t53, _, Try.type53, rfl, rfl, rfl, rfl⟩⟩
theorem fo87_0 : FldOK Try.prog 87 0 0 := fld_ok Try.underlying87 rfl Try.sizeOf37 (by decide) rfl
theorem ty37 : TyOK Try.prog 37 (kSl (kInt .u8)) := ⟨Try.sizeOf37, Try.isAgg37⟩
theorem el5 : ElOK Try.prog 5 1 1 := ⟨⟨Try.t5, _, Try.type5, rfl, rfl, rfl, rfl⟩⟩
theorem fo87_1 : FldOK Try.prog 87 1 1 := fld_ok Try.underlying87 rfl Try.sizeOf4 (by decide) rfl
theorem ty4 : TyOK Try.prog 4 kBool := ⟨Try.sizeOf4, Try.isAgg4⟩
def zc5 : List Value := [.int .u8 0]
theorem zr5 : ∀ m, (kInt .u8).R m zc5 0 := fun _ => ⟨rfl, inR_lit (by decide)⟩
def zc24 : List Value := [.int .u64 0]
theorem zr24 : ∀ m, (kInt .u64).R m zc24 0 := fun _ => ⟨rfl, inR_lit (by decide)⟩
theorem ty24 : TyOK Try.prog 24 (kInt .u64) := ⟨Try.sizeOf24, Try.isAgg24⟩
theorem fo53_0 : FldOK Try.prog 53 0 0 := fld_ok Try.underlying53 rfl Try.sizeOf3 (by decide) rfl
theorem ty3 : TyOK Try.prog 3 (kInt .i64) := ⟨Try.sizeOf3, Try.isAgg3⟩
theorem cl53 {m : M} {cs : List Value} {x : AV} (h : kAV.R m cs x) : cs = [.int .i64 x.fKind, .bool x.fBool, .int .i64 x.fInt, .string (bts x.fText)] ∧ (∀ n ∈ x.fText, 0 ≤ n ∧ n < 256) := by
  obtain ⟨h0, h1, h2, h3⟩ := h
  refine ⟨?_, h3.2.1⟩
  rw [← List.take_append_drop 1 cs, show (cs).take 1 = _ from h0.1, ← List.take_append_drop 1 ((cs).drop 1), show ((cs).drop 1).take 1 = _ from h1, ← List.take_append_drop 1 (((cs).drop 1).drop 1), show (((cs).drop 1).drop 1).take 1 = _ from h2.1, show (((cs).drop 1).drop 1).drop 1 = _ from h3.1]
  rfl
theorem eq53 : EqOK Try.prog 53 kAV := by
  refine ⟨fun m cs ds x y d w hx hy => ?_, fun op o o' cs ds w => ?_⟩
  · obtain ⟨rfl, p3⟩ := cl53 hx
    obtain ⟨rfl, q3⟩ := cl53 hy
    have e : x = y ↔ x.fKind = y.fKind ∧ x.fBool = y.fBool ∧ x.fInt = y.fInt ∧ x.fText = y.fText := by cases x; cases y; simp
    show (Op.equalIn (d + 20) 53 (.agg #[_, _, _, _]) (.agg #[_, _, _, _])).run _ _ = _
    rw [run_equalIn_struct w (d + 19) 53 _ _ Try.underlying53 Try.stoodInHeld53]
    simp only [Program.fieldsOf, Try.underlying53, Op.eqFields]
    simp [part, run_equalIn_int, run_equalIn_bool', run_equalIn_string, bts_inj p3 q3]
    repeat' split
    all_goals simp_all
  · show (eqGuard op 53 o o' (.agg _) (.agg _)).run _ _ = _
    cases op <;> simp [eqGuard]
theorem fo53_1 : FldOK Try.prog 53 1 1 := fld_ok Try.underlying53 rfl Try.sizeOf4 (by decide) rfl
theorem fo53_2 : FldOK Try.prog 53 2 2 := fld_ok Try.underlying53 rfl Try.sizeOf2 (by decide) rfl
theorem ty2 : TyOK Try.prog 2 (kInt .i64) := ⟨Try.sizeOf2, Try.isAgg2⟩
theorem fo53_3 : FldOK Try.prog 53 3 3 := fld_ok Try.underlying53 rfl Try.sizeOf9 (by decide) rfl
theorem ty9 : TyOK Try.prog 9 kStr := ⟨Try.sizeOf9, Try.isAgg9⟩
theorem el2 : ElOK Try.prog 2 1 8 := ⟨⟨Try.t2, _, Try.type2, rfl, rfl, rfl, rfl⟩⟩
theorem fo55_1 : FldOK Try.prog 55 1 1 := fld_ok Try.underlying55 rfl Try.sizeOf53 (by decide) rfl
theorem fo55_0 : FldOK Try.prog 55 0 0 := fld_ok Try.underlying55 rfl Try.sizeOf3 (by decide) rfl
def zc55 : List Value := [.int .i64 0, .int .i64 0, .bool false, .int .i64 0, .string (bts [])]
theorem zr55 : ∀ m, kEncode_Run.R m zc55 Encode_Run.zero := fun _ => ⟨⟨rfl, inR_lit (by decide)⟩, ⟨⟨rfl, inR_lit (by decide)⟩, ⟨rfl, ⟨⟨rfl, inR_lit (by decide)⟩, ⟨rfl, (by decide), (by decide)⟩⟩⟩⟩⟩
theorem el55 : ElOK Try.prog 55 5 48 := ⟨⟨Try.t55, _, Try.type55, rfl, rfl, rfl, rfl⟩⟩
def zc185 : List Value := (List.replicate 8 zc5).flatten
theorem za185 : ∀ m b, GS (kInt .u8) m b zc185 (.slice (some ⟨b, 0, none⟩) 8 8) (List.replicate 8 0) := fun _ _ => GS.zero zr5 rfl
theorem ty55 : TyOK Try.prog 55 kEncode_Run := ⟨Try.sizeOf55, Try.isAgg55⟩
theorem el24 : ElOK Try.prog 24 1 8 := ⟨⟨Try.t24, _, Try.type24, rfl, rfl, rfl, rfl⟩⟩
def zc87 : List Value := [.slice none 0 0, .bool false]
theorem zr87 : ∀ m, kEncode_reader.R m zc87 Encode_reader.zero := fun _ => ⟨⟨none, 0, 0, rfl, rfl, Nat.le_refl _, (by decide), rfl⟩, rfl⟩
theorem ty29 : TyOK Try.prog 29 (kSl kAV) := ⟨Try.sizeOf29, Try.isAgg29⟩
def zc62 : List Value := [.int .i64 0, .int .i64 0, .int .i64 0, .bool false, .int .i64 0, .string (bts []), .int .i64 0, .bool false, .int .i64 0, .string (bts []), .int .i64 0, .int .i64 0]
theorem zr62 : ∀ m, kBlock_Info.R m zc62 Block_Info.zero := fun _ => ⟨⟨rfl, inR_lit (by decide)⟩, ⟨⟨rfl, inR_lit (by decide)⟩, ⟨⟨⟨rfl, inR_lit (by decide)⟩, ⟨rfl, ⟨⟨rfl, inR_lit (by decide)⟩, ⟨rfl, (by decide), (by decide)⟩⟩⟩⟩, ⟨⟨⟨rfl, inR_lit (by decide)⟩, ⟨rfl, ⟨⟨rfl, inR_lit (by decide)⟩, ⟨rfl, (by decide), (by decide)⟩⟩⟩⟩, ⟨⟨rfl, inR_lit (by decide)⟩, ⟨rfl, inR_lit (by decide)⟩⟩⟩⟩⟩⟩
theorem ty62 : TyOK Try.prog 62 kBlock_Info := ⟨Try.sizeOf62, Try.isAgg62⟩
theorem fo62_4 : FldOK Try.prog 62 4 10 := fld_ok Try.underlying62 rfl Try.sizeOf3 (by decide) rfl
def zc26 : List Value := [.int .u32 0]
theorem zr26 : ∀ m, (kInt .u32).R m zc26 0 := fun _ => ⟨rfl, inR_lit (by decide)⟩
def zc160 : List Value := (List.replicate 16 zc26).flatten
theorem za160 : ∀ m b, GS (kInt .u32) m b zc160 (.slice (some ⟨b, 0, none⟩) 16 16) (List.replicate 16 0) := fun _ _ => GS.zero zr26 rfl
theorem ty26 : TyOK Try.prog 26 (kInt .u32) := ⟨Try.sizeOf26, Try.isAgg26⟩
theorem fo62_1 : FldOK Try.prog 62 1 1 := fld_ok Try.underlying62 rfl Try.sizeOf3 (by decide) rfl
theorem fo62_2 : FldOK Try.prog 62 2 2 := fld_ok Try.underlying62 rfl Try.sizeOf53 (by decide) rfl
theorem fo62_3 : FldOK Try.prog 62 3 6 := fld_ok Try.underlying62 rfl Try.sizeOf53 (by decide) rfl
theorem fo62_5 : FldOK Try.prog 62 5 11 := fld_ok Try.underlying62 rfl Try.sizeOf3 (by decide) rfl
theorem fo62_0 : FldOK Try.prog 62 0 0 := fld_ok Try.underlying62 rfl Try.sizeOf3 (by decide) rfl
def zc4 : List Value := [.bool false]
theorem zr4 : ∀ m, kBool.R m zc4 false := fun _ => rfl
def zc3 : List Value := [.int .i64 0]
theorem zr3 : ∀ m, (kInt .i64).R m zc3 0 := fun _ => ⟨rfl, inR_lit (by decide)⟩
end Go.Proofs.Ytifobhaccglckaa.Hay
