/-
  No cell of these rows narrows 'for every input' (looked for: loops, veiled, ifaces, maps, wideKeys, modest, calm, conditions, laid).
  DERIVED. THE GIVEN ROWS OF THIS SEAT. 12 by the template 'for every input the law returns true; each argument reads behind the call as it read before'; 0 by the template 'total and deterministic' (their statements: YtifobhaccglckaaTotals.lean).
  GIVEN WITH THE SEED: the statements are not yours to turn. If you find one false, say at which input.
  Laid BY PROGRAM, IN A SANDBOX (cutbox-rows.mjs): the forced cells as the released guide's own fill.sh prints them over the translation 7357312f40164cff… (all of the seat's roots in one cut). By AI agents, Wed Nov 11 2026. No macro, syntax, notation, axiom, sorry.
-/
import Derived.Test.YtifobhaccglckaaChecked
import GoSem.Claim
import GoSem.ClaimJoined
import GoSem.ClaimMapViews
import Derived.JoinedTies
import Derived.KernelRfl
namespace Go.Proofs.Ytifobhaccglckaa
/- THE CELL 'sum', in the pinned program and in every row, IS THE sha256 OF THE DUMP (.gsa) THAT YtifobhaccglckaaProg.lean LOADS. Nothing in Lean hashes anything: it is a label: what it is worth is what the hold of that sum in a sandbox is worth. -/
noncomputable def Try.pinned : Pinned := { name := "ytifobhaccglckaa", sum := "7357312f40164cffcdb684e4531b6908ebbb15c4fe9499731657f0bc7596381e", checked := Try.checked }
namespace Rows
def none {H : Type} : Left H := { results := [], args := [] }

/-- 'hayloftlaw12.MoverJoins': WHATEVER THE INPUT: true; the input reads as it did. -/
def moverJoinsSpec : ChangeSpec := { name := "moverJoins", fn := fun _ => fun
  | [d1, d2, d3] => { results := [.lit (.bool true)], args := [d1, d2, d3] }
  | _ => none }
def moverJoinsRow : OpenClaim := { program := "ytifobhaccglckaa", sum := "7357312f40164cffcdb684e4531b6908ebbb15c4fe9499731657f0bc7596381e", func := "hayloft/hayloftlaw12.MoverJoins", spec := "moverJoins", inPlace := ["internal/bytealg.abigen_runtime_cmpstring"], unfollowed := true, recurses := true, apart := false }
def MoverJoinsSaid : Prop := moverJoinsRow.holds Try.pinned (OpenSpec.ofChange moverJoinsSpec)

/-- ITS FALSE NEIGHBOUR: 'it returns false'. Refute it at one input. -/
def moverJoinsWrong : ChangeSpec := { name := "moverJoins", fn := fun _ => fun
  | [d1, d2, d3] => { results := [.lit (.bool false)], args := [d1, d2, d3] }
  | _ => none }
def MoverJoinsWrongFalsely : Prop := moverJoinsRow.holds Try.pinned (OpenSpec.ofChange moverJoinsWrong)

/-- 'hayloftlaw06.EncodeReads': WHATEVER THE INPUT: true; the input reads as it did. -/
def encodeReadsSpec : ChangeSpec := { name := "encodeReads", fn := fun _ => fun
  | [d1, d2, d3] => { results := [.lit (.bool true)], args := [d1, d2, d3] }
  | _ => none }
def encodeReadsRow : OpenClaim := { program := "ytifobhaccglckaa", sum := "7357312f40164cffcdb684e4531b6908ebbb15c4fe9499731657f0bc7596381e", func := "hayloft/hayloftlaw06.EncodeReads", spec := "encodeReads", inPlace := ["internal/bytealg.abigen_runtime_cmpstring"], unfollowed := true, recurses := true, apart := false }
def EncodeReadsSaid : Prop := encodeReadsRow.holds Try.pinned (OpenSpec.ofChange encodeReadsSpec)

/-- ITS FALSE NEIGHBOUR: 'it returns false'. Refute it at one input. -/
def encodeReadsWrong : ChangeSpec := { name := "encodeReads", fn := fun _ => fun
  | [d1, d2, d3] => { results := [.lit (.bool false)], args := [d1, d2, d3] }
  | _ => none }
def EncodeReadsWrongFalsely : Prop := encodeReadsRow.holds Try.pinned (OpenSpec.ofChange encodeReadsWrong)

/-- 'hayloftlaw06.EncodeBack': WHATEVER THE INPUT: true; the input reads as it did. -/
def encodeBackSpec : ChangeSpec := { name := "encodeBack", fn := fun _ => fun
  | [d1, d2, d3] => { results := [.lit (.bool true)], args := [d1, d2, d3] }
  | _ => none }
def encodeBackRow : OpenClaim := { program := "ytifobhaccglckaa", sum := "7357312f40164cffcdb684e4531b6908ebbb15c4fe9499731657f0bc7596381e", func := "hayloft/hayloftlaw06.EncodeBack", spec := "encodeBack", inPlace := ["internal/bytealg.abigen_runtime_cmpstring"], unfollowed := true, recurses := true, apart := false }
def EncodeBackSaid : Prop := encodeBackRow.holds Try.pinned (OpenSpec.ofChange encodeBackSpec)

/-- ITS FALSE NEIGHBOUR: 'it returns false'. Refute it at one input. -/
def encodeBackWrong : ChangeSpec := { name := "encodeBack", fn := fun _ => fun
  | [d1, d2, d3] => { results := [.lit (.bool false)], args := [d1, d2, d3] }
  | _ => none }
def EncodeBackWrongFalsely : Prop := encodeBackRow.holds Try.pinned (OpenSpec.ofChange encodeBackWrong)

/-- 'hayloftlaw06.EncodeBest': WHATEVER THE INPUT: true; the input reads as it did. -/
def encodeBestSpec : ChangeSpec := { name := "encodeBest", fn := fun _ => fun
  | [d] => { results := [.lit (.bool true)], args := [d] }
  | _ => none }
def encodeBestRow : OpenClaim := { program := "ytifobhaccglckaa", sum := "7357312f40164cffcdb684e4531b6908ebbb15c4fe9499731657f0bc7596381e", func := "hayloft/hayloftlaw06.EncodeBest", spec := "encodeBest", inPlace := ["internal/bytealg.abigen_runtime_cmpstring"], unfollowed := true, recurses := true, apart := false }
def EncodeBestSaid : Prop := encodeBestRow.holds Try.pinned (OpenSpec.ofChange encodeBestSpec)

/-- ITS FALSE NEIGHBOUR: 'it returns false'. Refute it at one input. -/
def encodeBestWrong : ChangeSpec := { name := "encodeBest", fn := fun _ => fun
  | [d] => { results := [.lit (.bool false)], args := [d] }
  | _ => none }
def EncodeBestWrongFalsely : Prop := encodeBestRow.holds Try.pinned (OpenSpec.ofChange encodeBestWrong)

/-- 'hayloftlaw06.EncodeRuns': WHATEVER THE INPUT: true; the input reads as it did. -/
def encodeRunsSpec : ChangeSpec := { name := "encodeRuns", fn := fun _ => fun
  | [d] => { results := [.lit (.bool true)], args := [d] }
  | _ => none }
def encodeRunsRow : OpenClaim := { program := "ytifobhaccglckaa", sum := "7357312f40164cffcdb684e4531b6908ebbb15c4fe9499731657f0bc7596381e", func := "hayloft/hayloftlaw06.EncodeRuns", spec := "encodeRuns", inPlace := ["internal/bytealg.abigen_runtime_cmpstring"], unfollowed := true, recurses := true, apart := false }
def EncodeRunsSaid : Prop := encodeRunsRow.holds Try.pinned (OpenSpec.ofChange encodeRunsSpec)

/-- ITS FALSE NEIGHBOUR: 'it returns false'. Refute it at one input. -/
def encodeRunsWrong : ChangeSpec := { name := "encodeRuns", fn := fun _ => fun
  | [d] => { results := [.lit (.bool false)], args := [d] }
  | _ => none }
def EncodeRunsWrongFalsely : Prop := encodeRunsRow.holds Try.pinned (OpenSpec.ofChange encodeRunsWrong)

/-- 'hayloftlaw06.EncodeCuts': WHATEVER THE INPUT: true; the input reads as it did. -/
def encodeCutsSpec : ChangeSpec := { name := "encodeCuts", fn := fun _ => fun
  | [d1, d2, d3] => { results := [.lit (.bool true)], args := [d1, d2, d3] }
  | _ => none }
def encodeCutsRow : OpenClaim := { program := "ytifobhaccglckaa", sum := "7357312f40164cffcdb684e4531b6908ebbb15c4fe9499731657f0bc7596381e", func := "hayloft/hayloftlaw06.EncodeCuts", spec := "encodeCuts", inPlace := ["internal/bytealg.abigen_runtime_cmpstring"], unfollowed := true, recurses := true, apart := false }
def EncodeCutsSaid : Prop := encodeCutsRow.holds Try.pinned (OpenSpec.ofChange encodeCutsSpec)

/-- ITS FALSE NEIGHBOUR: 'it returns false'. Refute it at one input. -/
def encodeCutsWrong : ChangeSpec := { name := "encodeCuts", fn := fun _ => fun
  | [d1, d2, d3] => { results := [.lit (.bool false)], args := [d1, d2, d3] }
  | _ => none }
def EncodeCutsWrongFalsely : Prop := encodeCutsRow.holds Try.pinned (OpenSpec.ofChange encodeCutsWrong)

/-- 'hayloftlaw06.EncodeNever': WHATEVER THE INPUT: true; the input reads as it did. -/
def encodeNeverSpec : ChangeSpec := { name := "encodeNever", fn := fun _ => fun
  | [d] => { results := [.lit (.bool true)], args := [d] }
  | _ => none }
def encodeNeverRow : OpenClaim := { program := "ytifobhaccglckaa", sum := "7357312f40164cffcdb684e4531b6908ebbb15c4fe9499731657f0bc7596381e", func := "hayloft/hayloftlaw06.EncodeNever", spec := "encodeNever", inPlace := ["internal/bytealg.abigen_runtime_cmpstring"], unfollowed := true, recurses := true, apart := false }
def EncodeNeverSaid : Prop := encodeNeverRow.holds Try.pinned (OpenSpec.ofChange encodeNeverSpec)

/-- ITS FALSE NEIGHBOUR: 'it returns false'. Refute it at one input. -/
def encodeNeverWrong : ChangeSpec := { name := "encodeNever", fn := fun _ => fun
  | [d] => { results := [.lit (.bool false)], args := [d] }
  | _ => none }
def EncodeNeverWrongFalsely : Prop := encodeNeverRow.holds Try.pinned (OpenSpec.ofChange encodeNeverWrong)

/-- 'hayloftlaw06.EncodeWrites': WHATEVER THE INPUT: true; the input reads as it did. -/
def encodeWritesSpec : ChangeSpec := { name := "encodeWrites", fn := fun _ => fun
  | [d1, d2] => { results := [.lit (.bool true)], args := [d1, d2] }
  | _ => none }
def encodeWritesRow : OpenClaim := { program := "ytifobhaccglckaa", sum := "7357312f40164cffcdb684e4531b6908ebbb15c4fe9499731657f0bc7596381e", func := "hayloft/hayloftlaw06.EncodeWrites", spec := "encodeWrites", inPlace := ["internal/bytealg.abigen_runtime_cmpstring"], unfollowed := true, recurses := true, apart := false }
def EncodeWritesSaid : Prop := encodeWritesRow.holds Try.pinned (OpenSpec.ofChange encodeWritesSpec)

/-- ITS FALSE NEIGHBOUR: 'it returns false'. Refute it at one input. -/
def encodeWritesWrong : ChangeSpec := { name := "encodeWrites", fn := fun _ => fun
  | [d1, d2] => { results := [.lit (.bool false)], args := [d1, d2] }
  | _ => none }
def EncodeWritesWrongFalsely : Prop := encodeWritesRow.holds Try.pinned (OpenSpec.ofChange encodeWritesWrong)

/-- 'hayloftlaw07.BlockBack': WHATEVER THE INPUT: true; the input reads as it did. -/
def blockBackSpec : ChangeSpec := { name := "blockBack", fn := fun _ => fun
  | [d1, d2, d3] => { results := [.lit (.bool true)], args := [d1, d2, d3] }
  | _ => none }
def blockBackRow : OpenClaim := { program := "ytifobhaccglckaa", sum := "7357312f40164cffcdb684e4531b6908ebbb15c4fe9499731657f0bc7596381e", func := "hayloft/hayloftlaw07.BlockBack", spec := "blockBack", inPlace := ["internal/bytealg.abigen_runtime_cmpstring"], unfollowed := true, recurses := true, apart := false }
def BlockBackSaid : Prop := blockBackRow.holds Try.pinned (OpenSpec.ofChange blockBackSpec)

/-- ITS FALSE NEIGHBOUR: 'it returns false'. Refute it at one input. -/
def blockBackWrong : ChangeSpec := { name := "blockBack", fn := fun _ => fun
  | [d1, d2, d3] => { results := [.lit (.bool false)], args := [d1, d2, d3] }
  | _ => none }
def BlockBackWrongFalsely : Prop := blockBackRow.holds Try.pinned (OpenSpec.ofChange blockBackWrong)

/-- 'hayloftlaw07.BlockCuts': WHATEVER THE INPUT: true; the input reads as it did. -/
def blockCutsSpec : ChangeSpec := { name := "blockCuts", fn := fun _ => fun
  | [d1, d2, d3] => { results := [.lit (.bool true)], args := [d1, d2, d3] }
  | _ => none }
def blockCutsRow : OpenClaim := { program := "ytifobhaccglckaa", sum := "7357312f40164cffcdb684e4531b6908ebbb15c4fe9499731657f0bc7596381e", func := "hayloft/hayloftlaw07.BlockCuts", spec := "blockCuts", inPlace := ["internal/bytealg.abigen_runtime_cmpstring"], unfollowed := true, recurses := true, apart := false }
def BlockCutsSaid : Prop := blockCutsRow.holds Try.pinned (OpenSpec.ofChange blockCutsSpec)

/-- ITS FALSE NEIGHBOUR: 'it returns false'. Refute it at one input. -/
def blockCutsWrong : ChangeSpec := { name := "blockCuts", fn := fun _ => fun
  | [d1, d2, d3] => { results := [.lit (.bool false)], args := [d1, d2, d3] }
  | _ => none }
def BlockCutsWrongFalsely : Prop := blockCutsRow.holds Try.pinned (OpenSpec.ofChange blockCutsWrong)

/-- 'hayloftlaw07.BlockMany': WHATEVER THE INPUT: true; the input reads as it did. -/
def blockManySpec : ChangeSpec := { name := "blockMany", fn := fun _ => fun
  | [d1, d2] => { results := [.lit (.bool true)], args := [d1, d2] }
  | _ => none }
def blockManyRow : OpenClaim := { program := "ytifobhaccglckaa", sum := "7357312f40164cffcdb684e4531b6908ebbb15c4fe9499731657f0bc7596381e", func := "hayloft/hayloftlaw07.BlockMany", spec := "blockMany", inPlace := ["internal/bytealg.abigen_runtime_cmpstring"], unfollowed := true, recurses := true, apart := false }
def BlockManySaid : Prop := blockManyRow.holds Try.pinned (OpenSpec.ofChange blockManySpec)

/-- ITS FALSE NEIGHBOUR: 'it returns false'. Refute it at one input. -/
def blockManyWrong : ChangeSpec := { name := "blockMany", fn := fun _ => fun
  | [d1, d2] => { results := [.lit (.bool false)], args := [d1, d2] }
  | _ => none }
def BlockManyWrongFalsely : Prop := blockManyRow.holds Try.pinned (OpenSpec.ofChange blockManyWrong)

/-- 'hayloftlaw07.BlockMay': WHATEVER THE INPUT: true; the input reads as it did. -/
def blockMaySpec : ChangeSpec := { name := "blockMay", fn := fun _ => fun
  | [d1, d2, d3] => { results := [.lit (.bool true)], args := [d1, d2, d3] }
  | _ => none }
def blockMayRow : OpenClaim := { program := "ytifobhaccglckaa", sum := "7357312f40164cffcdb684e4531b6908ebbb15c4fe9499731657f0bc7596381e", func := "hayloft/hayloftlaw07.BlockMay", spec := "blockMay", inPlace := ["internal/bytealg.abigen_runtime_cmpstring"], unfollowed := true, recurses := true, apart := false }
def BlockMaySaid : Prop := blockMayRow.holds Try.pinned (OpenSpec.ofChange blockMaySpec)

/-- ITS FALSE NEIGHBOUR: 'it returns false'. Refute it at one input. -/
def blockMayWrong : ChangeSpec := { name := "blockMay", fn := fun _ => fun
  | [d1, d2, d3] => { results := [.lit (.bool false)], args := [d1, d2, d3] }
  | _ => none }
def BlockMayWrongFalsely : Prop := blockMayRow.holds Try.pinned (OpenSpec.ofChange blockMayWrong)

/- THE SECOND FORM. 'bulk': how many values and letters a reading holds, each counted each time it is reached (what is shared counts as often as it is met; a slice's spare places count too). A statement '..UptoSaid' is the law's where the arguments, and the package variables that the reading takes, are together of bulk at most 1048576: NARROWER than '..Said'. Prove '..Said' where nothing that the law and all that it calls make is longer than what came in: it says more and counts as full. Else prove '..UptoSaid'. A law counts once. -/
mutual
def uptoBulk {H : Type} : DataW H → Nat
  | .lit (.string bytes) => bytes.length + 1
  | .lit _ => 1
  | .nil => 1
  | .ptr d => uptoBulk d + 1
  | .slice elems spare => uptoBulkAll elems + uptoBulkAll spare + 1
  | .agg parts => uptoBulkAll parts + 1
  | .iface _ d => uptoBulk d + 1
  | .map entries => uptoBulkEntries entries + 1
  | .held _ => 1
def uptoBulkAll {H : Type} : List (DataW H) → Nat
  | [] => 0
  | d :: r => uptoBulk d + uptoBulkAll r
def uptoBulkEntries {H : Type} : List (Lit × DataW H) → Nat
  | [] => 0
  | x :: r => uptoBulkEntry x + uptoBulkEntries r
def uptoBulkEntry {H : Type} : Lit × DataW H → Nat
  | (.string bytes, d) => bytes.length + uptoBulk d + 1
  | (_, d) => uptoBulk d + 1
 end
def uptoSmall : (H : Type) → List (DataW H) → Bool := fun _ ds => decide (uptoBulkAll ds ≤ 1048576)
def OpenSpec.upto (s : _root_.Go.ChangeSpec) : _root_.Go.OpenSpec := { _root_.Go.OpenSpec.ofChange s with cond := some uptoSmall }

/-- 'hayloftlaw12.MoverJoins', WHERE WHAT IT READS IS OF BULK AT MOST 1048576: true; the input reads as it did. -/
def moverJoinsUptoRow : OpenClaim := { program := "ytifobhaccglckaa", sum := "7357312f40164cffcdb684e4531b6908ebbb15c4fe9499731657f0bc7596381e", func := "hayloft/hayloftlaw12.MoverJoins", spec := "moverJoins", inPlace := ["internal/bytealg.abigen_runtime_cmpstring"], unfollowed := true, recurses := true, apart := false, narrowed := true }
def MoverJoinsUptoSaid : Prop := moverJoinsUptoRow.holds Try.pinned (OpenSpec.upto moverJoinsSpec)

/-- 'hayloftlaw06.EncodeReads', WHERE WHAT IT READS IS OF BULK AT MOST 1048576: true; the input reads as it did. -/
def encodeReadsUptoRow : OpenClaim := { program := "ytifobhaccglckaa", sum := "7357312f40164cffcdb684e4531b6908ebbb15c4fe9499731657f0bc7596381e", func := "hayloft/hayloftlaw06.EncodeReads", spec := "encodeReads", inPlace := ["internal/bytealg.abigen_runtime_cmpstring"], unfollowed := true, recurses := true, apart := false, narrowed := true }
def EncodeReadsUptoSaid : Prop := encodeReadsUptoRow.holds Try.pinned (OpenSpec.upto encodeReadsSpec)

/-- 'hayloftlaw06.EncodeBack', WHERE WHAT IT READS IS OF BULK AT MOST 1048576: true; the input reads as it did. -/
def encodeBackUptoRow : OpenClaim := { program := "ytifobhaccglckaa", sum := "7357312f40164cffcdb684e4531b6908ebbb15c4fe9499731657f0bc7596381e", func := "hayloft/hayloftlaw06.EncodeBack", spec := "encodeBack", inPlace := ["internal/bytealg.abigen_runtime_cmpstring"], unfollowed := true, recurses := true, apart := false, narrowed := true }
def EncodeBackUptoSaid : Prop := encodeBackUptoRow.holds Try.pinned (OpenSpec.upto encodeBackSpec)

/-- 'hayloftlaw06.EncodeBest', WHERE WHAT IT READS IS OF BULK AT MOST 1048576: true; the input reads as it did. -/
def encodeBestUptoRow : OpenClaim := { program := "ytifobhaccglckaa", sum := "7357312f40164cffcdb684e4531b6908ebbb15c4fe9499731657f0bc7596381e", func := "hayloft/hayloftlaw06.EncodeBest", spec := "encodeBest", inPlace := ["internal/bytealg.abigen_runtime_cmpstring"], unfollowed := true, recurses := true, apart := false, narrowed := true }
def EncodeBestUptoSaid : Prop := encodeBestUptoRow.holds Try.pinned (OpenSpec.upto encodeBestSpec)

/-- 'hayloftlaw06.EncodeRuns', WHERE WHAT IT READS IS OF BULK AT MOST 1048576: true; the input reads as it did. -/
def encodeRunsUptoRow : OpenClaim := { program := "ytifobhaccglckaa", sum := "7357312f40164cffcdb684e4531b6908ebbb15c4fe9499731657f0bc7596381e", func := "hayloft/hayloftlaw06.EncodeRuns", spec := "encodeRuns", inPlace := ["internal/bytealg.abigen_runtime_cmpstring"], unfollowed := true, recurses := true, apart := false, narrowed := true }
def EncodeRunsUptoSaid : Prop := encodeRunsUptoRow.holds Try.pinned (OpenSpec.upto encodeRunsSpec)

/-- 'hayloftlaw06.EncodeCuts', WHERE WHAT IT READS IS OF BULK AT MOST 1048576: true; the input reads as it did. -/
def encodeCutsUptoRow : OpenClaim := { program := "ytifobhaccglckaa", sum := "7357312f40164cffcdb684e4531b6908ebbb15c4fe9499731657f0bc7596381e", func := "hayloft/hayloftlaw06.EncodeCuts", spec := "encodeCuts", inPlace := ["internal/bytealg.abigen_runtime_cmpstring"], unfollowed := true, recurses := true, apart := false, narrowed := true }
def EncodeCutsUptoSaid : Prop := encodeCutsUptoRow.holds Try.pinned (OpenSpec.upto encodeCutsSpec)

/-- 'hayloftlaw06.EncodeNever', WHERE WHAT IT READS IS OF BULK AT MOST 1048576: true; the input reads as it did. -/
def encodeNeverUptoRow : OpenClaim := { program := "ytifobhaccglckaa", sum := "7357312f40164cffcdb684e4531b6908ebbb15c4fe9499731657f0bc7596381e", func := "hayloft/hayloftlaw06.EncodeNever", spec := "encodeNever", inPlace := ["internal/bytealg.abigen_runtime_cmpstring"], unfollowed := true, recurses := true, apart := false, narrowed := true }
def EncodeNeverUptoSaid : Prop := encodeNeverUptoRow.holds Try.pinned (OpenSpec.upto encodeNeverSpec)

/-- 'hayloftlaw06.EncodeWrites', WHERE WHAT IT READS IS OF BULK AT MOST 1048576: true; the input reads as it did. -/
def encodeWritesUptoRow : OpenClaim := { program := "ytifobhaccglckaa", sum := "7357312f40164cffcdb684e4531b6908ebbb15c4fe9499731657f0bc7596381e", func := "hayloft/hayloftlaw06.EncodeWrites", spec := "encodeWrites", inPlace := ["internal/bytealg.abigen_runtime_cmpstring"], unfollowed := true, recurses := true, apart := false, narrowed := true }
def EncodeWritesUptoSaid : Prop := encodeWritesUptoRow.holds Try.pinned (OpenSpec.upto encodeWritesSpec)

/-- 'hayloftlaw07.BlockBack', WHERE WHAT IT READS IS OF BULK AT MOST 1048576: true; the input reads as it did. -/
def blockBackUptoRow : OpenClaim := { program := "ytifobhaccglckaa", sum := "7357312f40164cffcdb684e4531b6908ebbb15c4fe9499731657f0bc7596381e", func := "hayloft/hayloftlaw07.BlockBack", spec := "blockBack", inPlace := ["internal/bytealg.abigen_runtime_cmpstring"], unfollowed := true, recurses := true, apart := false, narrowed := true }
def BlockBackUptoSaid : Prop := blockBackUptoRow.holds Try.pinned (OpenSpec.upto blockBackSpec)

/-- 'hayloftlaw07.BlockCuts', WHERE WHAT IT READS IS OF BULK AT MOST 1048576: true; the input reads as it did. -/
def blockCutsUptoRow : OpenClaim := { program := "ytifobhaccglckaa", sum := "7357312f40164cffcdb684e4531b6908ebbb15c4fe9499731657f0bc7596381e", func := "hayloft/hayloftlaw07.BlockCuts", spec := "blockCuts", inPlace := ["internal/bytealg.abigen_runtime_cmpstring"], unfollowed := true, recurses := true, apart := false, narrowed := true }
def BlockCutsUptoSaid : Prop := blockCutsUptoRow.holds Try.pinned (OpenSpec.upto blockCutsSpec)

/-- 'hayloftlaw07.BlockMany', WHERE WHAT IT READS IS OF BULK AT MOST 1048576: true; the input reads as it did. -/
def blockManyUptoRow : OpenClaim := { program := "ytifobhaccglckaa", sum := "7357312f40164cffcdb684e4531b6908ebbb15c4fe9499731657f0bc7596381e", func := "hayloft/hayloftlaw07.BlockMany", spec := "blockMany", inPlace := ["internal/bytealg.abigen_runtime_cmpstring"], unfollowed := true, recurses := true, apart := false, narrowed := true }
def BlockManyUptoSaid : Prop := blockManyUptoRow.holds Try.pinned (OpenSpec.upto blockManySpec)

/-- 'hayloftlaw07.BlockMay', WHERE WHAT IT READS IS OF BULK AT MOST 1048576: true; the input reads as it did. -/
def blockMayUptoRow : OpenClaim := { program := "ytifobhaccglckaa", sum := "7357312f40164cffcdb684e4531b6908ebbb15c4fe9499731657f0bc7596381e", func := "hayloft/hayloftlaw07.BlockMay", spec := "blockMay", inPlace := ["internal/bytealg.abigen_runtime_cmpstring"], unfollowed := true, recurses := true, apart := false, narrowed := true }
def BlockMayUptoSaid : Prop := blockMayUptoRow.holds Try.pinned (OpenSpec.upto blockMaySpec)

end Rows
end Go.Proofs.Ytifobhaccglckaa
