import Derived.Test.YthbonoagbeilkaaGreatExO
import Derived.Test.YthbonoagbeilkaaGreatHcY
set_option maxRecDepth 100000
namespace Go.Proofs.YthbonoagbeilkaaGreat.Hay
open Go.Proofs
theorem ty161 : TyOK Tryz.prog 161 kEncode_reader := ⟨Tryz.sizeOf161, Tryz.isAgg161⟩
theorem el3 : ElOK Tryz.prog 3 1 8 := ⟨⟨Tryz.t3, _, Tryz.type3, rfl, rfl, rfl, rfl⟩⟩
theorem el22 : ElOK Tryz.prog 22 1 24 := ⟨⟨Tryz.t22, _, Tryz.type22, rfl, rfl, rfl, rfl⟩⟩
noncomputable def Sz : Sg := mkSg [(32, ⟨Ap, kAp⟩), (187, ⟨Encode_Run, kEncode_Run⟩), (34, ⟨Block_Info, kBlock_Info⟩), (155, ⟨R6_Run, kR6_Run⟩), (37, ⟨R7_Info, kR7_Info⟩), (161, ⟨Encode_reader, kEncode_reader⟩)]
noncomputable def ti2 : TI Tryz.prog Sz 2 := tiInt Tryz.underlying2 Tryz.sizeOf2 Tryz.isAgg2 Tryz.zeroValue2 rfl (by decide)
noncomputable def ti3 : TI Tryz.prog Sz 3 := tiInt Tryz.underlying3 Tryz.sizeOf3 Tryz.isAgg3 Tryz.zeroValue3 rfl (by decide)
noncomputable def ti4 : TI Tryz.prog Sz 4 := tiBool Tryz.underlying4 Tryz.sizeOf4 Tryz.isAgg4 Tryz.zeroValue4 rfl
noncomputable def ti5 : TI Tryz.prog Sz 5 := tiInt Tryz.underlying5 Tryz.sizeOf5 Tryz.isAgg5 Tryz.zeroValue5 rfl (by decide)
noncomputable def ti6 : TI Tryz.prog Sz 6 := tiInt Tryz.underlying6 Tryz.sizeOf6 Tryz.isAgg6 Tryz.zeroValue6 rfl (by decide)
noncomputable def ti9 : TI Tryz.prog Sz 9 := tiStr Tryz.underlying9 Tryz.sizeOf9 Tryz.isAgg9 Tryz.zeroValue9 rfl
noncomputable def ti10 : TI Tryz.prog Sz 10 := tiStr Tryz.underlying10 Tryz.sizeOf10 Tryz.isAgg10 Tryz.zeroValue10 rfl
noncomputable def ti11 : TI Tryz.prog Sz 11 := tiStr Tryz.underlying11 Tryz.sizeOf11 Tryz.isAgg11 Tryz.zeroValue11 rfl
noncomputable def ti12 : TI Tryz.prog Sz 12 := tiInt Tryz.underlying12 Tryz.sizeOf12 Tryz.isAgg12 Tryz.zeroValue12 rfl (by decide)
noncomputable def ti21 : TI Tryz.prog Sz 21 := tiInt Tryz.underlying21 Tryz.sizeOf21 Tryz.isAgg21 Tryz.zeroValue21 rfl (by decide)
noncomputable def ti25 : TI Tryz.prog Sz 25 := tiInt Tryz.underlying25 Tryz.sizeOf25 Tryz.isAgg25 Tryz.zeroValue25 rfl (by decide)
noncomputable def ti54 : TI Tryz.prog Sz 54 := tiInt Tryz.underlying54 Tryz.sizeOf54 Tryz.isAgg54 Tryz.zeroValue54 rfl (by decide)
noncomputable def ti55 : TI Tryz.prog Sz 55 := tiInt Tryz.underlying55 Tryz.sizeOf55 Tryz.isAgg55 Tryz.zeroValue55 rfl (by decide)
noncomputable def ti94 : TI Tryz.prog Sz 94 := tiInt Tryz.underlying94 Tryz.sizeOf94 Tryz.isAgg94 Tryz.zeroValue94 rfl (by decide)
noncomputable def ti24 : TI Tryz.prog Sz 24 := tiSl _ (slI ti5 _ 1 Tryz.underlying24 Tryz.sizeOf5 el5 Tryz.type5 rfl rfl rfl) Tryz.sizeOf24 Tryz.isAgg24 Tryz.zeroValue24 rfl
noncomputable def ti32 : TI Tryz.prog Sz 32 := tiSt ty32 Tryz.zeroValue32 Ap.zero zr32
noncomputable def ti49 : TI Tryz.prog Sz 49 := tiSl _ (slI ti3 _ 8 Tryz.underlying49 Tryz.sizeOf3 el3 Tryz.type3 rfl rfl rfl) Tryz.sizeOf49 Tryz.isAgg49 Tryz.zeroValue49 rfl
noncomputable def ti143 : TI Tryz.prog Sz 143 := tiSl _ (slI ti2 _ 8 Tryz.underlying143 Tryz.sizeOf2 el2 Tryz.type2 rfl rfl rfl) Tryz.sizeOf143 Tryz.isAgg143 Tryz.zeroValue143 rfl
noncomputable def ti189 : TI Tryz.prog Sz 189 := tiSl _ (slI ti54 _ 8 Tryz.underlying189 Tryz.sizeOf54 el54 Tryz.type54 rfl rfl rfl) Tryz.sizeOf189 Tryz.isAgg189 Tryz.zeroValue189 rfl
noncomputable def ti22 : TI Tryz.prog Sz 22 := tiSl _ (slI ti32 _ 40 Tryz.underlying22 Tryz.sizeOf32 el32 Tryz.type32 rfl rfl rfl) Tryz.sizeOf22 Tryz.isAgg22 Tryz.zeroValue22 rfl
noncomputable def ti34 : TI Tryz.prog Sz 34 := tiSt ty34 Tryz.zeroValue34 Block_Info.zero zr34
noncomputable def ti37 : TI Tryz.prog Sz 37 := tiSt ty37 Tryz.zeroValue37 R7_Info.zero zr37
noncomputable def ti155 : TI Tryz.prog Sz 155 := tiSt ty155 Tryz.zeroValue155 R6_Run.zero zr155
noncomputable def ti161 : TI Tryz.prog Sz 161 := tiSt ty161 Tryz.zeroValue161 Encode_reader.zero zr161
noncomputable def ti187 : TI Tryz.prog Sz 187 := tiSt ty187 Tryz.zeroValue187 Encode_Run.zero zr187
noncomputable def ti126 : TI Tryz.prog Sz 126 := tiSl _ (slI ti22 _ 24 Tryz.underlying126 Tryz.sizeOf22 el22 Tryz.type22 rfl rfl rfl) Tryz.sizeOf126 Tryz.isAgg126 Tryz.zeroValue126 rfl
noncomputable def ti152 : TI Tryz.prog Sz 152 := tiSl _ (slI ti155 _ 48 Tryz.underlying152 Tryz.sizeOf155 el155 Tryz.type155 rfl rfl rfl) Tryz.sizeOf152 Tryz.isAgg152 Tryz.zeroValue152 rfl
noncomputable def ti185 : TI Tryz.prog Sz 185 := tiSl _ (slI ti187 _ 48 Tryz.underlying185 Tryz.sizeOf187 el187 Tryz.type187 rfl rfl rfl) Tryz.sizeOf185 Tryz.isAgg185 Tryz.zeroValue185 rfl
noncomputable def ar177 : AI Tryz.prog Sz 177 := arI ti55 16 Tryz.underlying177 Tryz.sizeOf55 Tryz.zeroValue177 rfl rfl
noncomputable def ar224 : AI Tryz.prog Sz 224 := arI ti5 8 Tryz.underlying224 Tryz.sizeOf5 Tryz.zeroValue224 rfl rfl
noncomputable def fi32_0 : FI Tryz.prog Sz 32 0 := ⟨(.int .i64), ⟨0, fun x => x.fKind, fun x y => { x with fKind := y }, fl32_0, sf32_0⟩, fo32_0⟩
noncomputable def fi32_1 : FI Tryz.prog Sz 32 1 := ⟨.bool, ⟨1, fun x => x.fBool, fun x y => { x with fBool := y }, fl32_1, sf32_1⟩, fo32_1⟩
noncomputable def fi32_2 : FI Tryz.prog Sz 32 2 := ⟨(.int .i64), ⟨2, fun x => x.fInt, fun x y => { x with fInt := y }, fl32_2, sf32_2⟩, fo32_2⟩
noncomputable def fi32_3 : FI Tryz.prog Sz 32 3 := ⟨.str, ⟨3, fun x => x.fText, fun x y => { x with fText := y }, fl32_3, sf32_3⟩, fo32_3⟩
noncomputable def bu32 : BI Tryz.prog Sz 32 := ⟨_, [(0, 1), (1, 1), (2, 1), (3, 1)], Ap.zero, _, Tryz.underlying32, rfl, Tryz.zeroValue32, zr32, rfl⟩
noncomputable def fi187_0 : FI Tryz.prog Sz 187 0 := ⟨(.int .i64), ⟨0, fun x => x.fMany, fun x y => { x with fMany := y }, fl187_0, sf187_0⟩, fo187_0⟩
noncomputable def fi187_1 : FI Tryz.prog Sz 187 1 := ⟨(.st 32), ⟨1, fun x => x.fValue, fun x y => { x with fValue := y }, fl187_1, sf187_1⟩, fo187_1⟩
noncomputable def bu187 : BI Tryz.prog Sz 187 := ⟨_, [(0, 1), (1, 4)], Encode_Run.zero, _, Tryz.underlying187, rfl, Tryz.zeroValue187, zr187, rfl⟩
noncomputable def fi34_0 : FI Tryz.prog Sz 34 0 := ⟨(.int .i64), ⟨0, fun x => x.fKind, fun x y => { x with fKind := y }, fl34_0, sf34_0⟩, fo34_0⟩
noncomputable def fi34_1 : FI Tryz.prog Sz 34 1 := ⟨(.int .i64), ⟨1, fun x => x.fMany, fun x y => { x with fMany := y }, fl34_1, sf34_1⟩, fo34_1⟩
noncomputable def fi34_2 : FI Tryz.prog Sz 34 2 := ⟨(.st 32), ⟨2, fun x => x.fMin, fun x y => { x with fMin := y }, fl34_2, sf34_2⟩, fo34_2⟩
noncomputable def fi34_3 : FI Tryz.prog Sz 34 3 := ⟨(.st 32), ⟨6, fun x => x.fMax, fun x y => { x with fMax := y }, fl34_3, sf34_3⟩, fo34_3⟩
noncomputable def fi34_4 : FI Tryz.prog Sz 34 4 := ⟨(.int .i64), ⟨10, fun x => x.fNulls, fun x y => { x with fNulls := y }, fl34_4, sf34_4⟩, fo34_4⟩
noncomputable def fi34_5 : FI Tryz.prog Sz 34 5 := ⟨(.int .i64), ⟨11, fun x => x.fBytes, fun x y => { x with fBytes := y }, fl34_5, sf34_5⟩, fo34_5⟩
noncomputable def bu34 : BI Tryz.prog Sz 34 := ⟨_, [(0, 1), (1, 1), (2, 4), (6, 4), (10, 1), (11, 1)], Block_Info.zero, _, Tryz.underlying34, rfl, Tryz.zeroValue34, zr34, rfl⟩
noncomputable def fi155_0 : FI Tryz.prog Sz 155 0 := ⟨(.int .i64), ⟨0, fun x => x.fMany, fun x y => { x with fMany := y }, fl155_0, sf155_0⟩, fo155_0⟩
noncomputable def fi155_1 : FI Tryz.prog Sz 155 1 := ⟨(.st 32), ⟨1, fun x => x.fValue, fun x y => { x with fValue := y }, fl155_1, sf155_1⟩, fo155_1⟩
noncomputable def bu155 : BI Tryz.prog Sz 155 := ⟨_, [(0, 1), (1, 4)], R6_Run.zero, _, Tryz.underlying155, rfl, Tryz.zeroValue155, zr155, rfl⟩
noncomputable def fi37_0 : FI Tryz.prog Sz 37 0 := ⟨(.int .i64), ⟨0, fun x => x.fKind, fun x y => { x with fKind := y }, fl37_0, sf37_0⟩, fo37_0⟩
noncomputable def fi37_1 : FI Tryz.prog Sz 37 1 := ⟨(.int .i64), ⟨1, fun x => x.fMany, fun x y => { x with fMany := y }, fl37_1, sf37_1⟩, fo37_1⟩
noncomputable def fi37_2 : FI Tryz.prog Sz 37 2 := ⟨(.st 32), ⟨2, fun x => x.fMin, fun x y => { x with fMin := y }, fl37_2, sf37_2⟩, fo37_2⟩
noncomputable def fi37_3 : FI Tryz.prog Sz 37 3 := ⟨(.st 32), ⟨6, fun x => x.fMax, fun x y => { x with fMax := y }, fl37_3, sf37_3⟩, fo37_3⟩
noncomputable def fi37_4 : FI Tryz.prog Sz 37 4 := ⟨(.int .i64), ⟨10, fun x => x.fNulls, fun x y => { x with fNulls := y }, fl37_4, sf37_4⟩, fo37_4⟩
noncomputable def fi37_5 : FI Tryz.prog Sz 37 5 := ⟨(.int .i64), ⟨11, fun x => x.fBytes, fun x y => { x with fBytes := y }, fl37_5, sf37_5⟩, fo37_5⟩
noncomputable def bu37 : BI Tryz.prog Sz 37 := ⟨_, [(0, 1), (1, 1), (2, 4), (6, 4), (10, 1), (11, 1)], R7_Info.zero, _, Tryz.underlying37, rfl, Tryz.zeroValue37, zr37, rfl⟩
noncomputable def fi161_0 : FI Tryz.prog Sz 161 0 := ⟨(.sl (.int .u8)), ⟨0, fun x => x.fB, fun x y => { x with fB := y }, fl161_0, sf161_0⟩, fo161_0⟩
noncomputable def fi161_1 : FI Tryz.prog Sz 161 1 := ⟨.bool, ⟨1, fun x => x.fOk, fun x y => { x with fOk := y }, fl161_1, sf161_1⟩, fo161_1⟩
noncomputable def bu161 : BI Tryz.prog Sz 161 := ⟨_, [(0, 1), (1, 1)], Encode_reader.zero, _, Tryz.underlying161, rfl, Tryz.zeroValue161, zr161, rfl⟩
noncomputable def eqi_32 : EI Tryz.prog Sz 32 := ⟨inferInstanceAs (DecidableEq Ap), eq32, rfl⟩
noncomputable def eqi_37 : EI Tryz.prog Sz 37 := ⟨inferInstanceAs (DecidableEq R7_Info), eq37, rfl⟩
noncomputable def Γ : Tab Tryz.prog Sz := ⟨lookD [⟨2, ti2⟩, ⟨3, ti3⟩, ⟨4, ti4⟩, ⟨5, ti5⟩, ⟨6, ti6⟩, ⟨9, ti9⟩, ⟨10, ti10⟩, ⟨11, ti11⟩, ⟨12, ti12⟩, ⟨21, ti21⟩, ⟨22, ti22⟩, ⟨24, ti24⟩, ⟨25, ti25⟩, ⟨32, ti32⟩, ⟨34, ti34⟩, ⟨37, ti37⟩, ⟨49, ti49⟩, ⟨54, ti54⟩, ⟨55, ti55⟩, ⟨94, ti94⟩, ⟨126, ti126⟩, ⟨143, ti143⟩, ⟨152, ti152⟩, ⟨155, ti155⟩, ⟨161, ti161⟩, ⟨185, ti185⟩, ⟨187, ti187⟩, ⟨189, ti189⟩], lookD [⟨177, ar177⟩, ⟨224, ar224⟩], lookD2 [⟨32, 0, fi32_0⟩, ⟨32, 1, fi32_1⟩, ⟨32, 2, fi32_2⟩, ⟨32, 3, fi32_3⟩, ⟨187, 0, fi187_0⟩, ⟨187, 1, fi187_1⟩, ⟨34, 0, fi34_0⟩, ⟨34, 1, fi34_1⟩, ⟨34, 2, fi34_2⟩, ⟨34, 3, fi34_3⟩, ⟨34, 4, fi34_4⟩, ⟨34, 5, fi34_5⟩, ⟨155, 0, fi155_0⟩, ⟨155, 1, fi155_1⟩, ⟨37, 0, fi37_0⟩, ⟨37, 1, fi37_1⟩, ⟨37, 2, fi37_2⟩, ⟨37, 3, fi37_3⟩, ⟨37, 4, fi37_4⟩, ⟨37, 5, fi37_5⟩, ⟨161, 0, fi161_0⟩, ⟨161, 1, fi161_1⟩], lookD [⟨32, eqi_32⟩, ⟨37, eqi_37⟩], lookD [⟨32, bu32⟩, ⟨187, bu187⟩, ⟨34, bu34⟩, ⟨155, bu155⟩, ⟨37, bu37⟩, ⟨161, bu161⟩]⟩
end Go.Proofs.YthbonoagbeilkaaGreat.Hay
