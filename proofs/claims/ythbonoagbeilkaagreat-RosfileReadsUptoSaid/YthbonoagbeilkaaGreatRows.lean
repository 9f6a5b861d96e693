/-
  No cell of these rows narrows 'for every input' (looked for: loops, veiled, ifaces, maps, wideKeys, modest, calm, conditions, laid).
  DERIVED. THE GIVEN ROWS OF THIS SEAT. 11 by the template 'for every input the law returns true; each argument reads behind the call as it read before'; 0 by the template 'total and deterministic' (their statements: YthbonoagbeilkaaGreatTotals.lean).
  GIVEN WITH THE SEED: the statements are not yours to turn. If you find one false, say at which input.
  Laid BY PROGRAM, IN A SANDBOX (cutbox-rows.mjs): the forced cells as the released guide's own fill.sh prints them over the translation af844ff4efebe853… (all of the seat's roots in one cut). By AI agents, Wed Nov 11 2026. No macro, syntax, notation, axiom, sorry.
-/
import Derived.Test.YthbonoagbeilkaaGreatChecked
import GoSem.Claim
import GoSem.ClaimJoined
import GoSem.ClaimMapViews
import Derived.JoinedTies
import Derived.KernelRfl
namespace Go.Proofs.YthbonoagbeilkaaGreat
/- THE CELL 'sum', in the pinned program and in every row, IS THE sha256 OF THE DUMP (.gsa) THAT YthbonoagbeilkaaGreatProg.lean LOADS. Nothing in Lean hashes anything: it is a label: what it is worth is what the hold of that sum in a sandbox is worth. -/
noncomputable def Tryz.pinned : Pinned := { name := "ythbonoagbeilkaagreat", sum := "af844ff4efebe85320627ae44ef152ca4e34d5a427914dbecb44a4981e4cd526", checked := Tryz.checked }
namespace Rows
def none {H : Type} : Left H := { results := [], args := [] }

/-- 'hayloftlaw07.BlockWrites': WHATEVER THE INPUT: true; the input reads as it did. -/
def blockWritesSpec : ChangeSpec := { name := "blockWrites", fn := fun _ => fun
  | [d1, d2] => { results := [.lit (.bool true)], args := [d1, d2] }
  | _ => none }
def blockWritesRow : OpenClaim := { program := "ythbonoagbeilkaagreat", sum := "af844ff4efebe85320627ae44ef152ca4e34d5a427914dbecb44a4981e4cd526", func := "hayloft/hayloftlaw07.BlockWrites", spec := "blockWrites", inPlace := ["internal/bytealg.abigen_runtime_cmpstring"], unfollowed := true, recurses := true, plainKeys := false, apart := false }
def BlockWritesSaid : Prop := blockWritesRow.holds Tryz.pinned (OpenSpec.ofChange blockWritesSpec)

/-- ITS FALSE NEIGHBOUR: 'it returns false'. Refute it at one input. -/
def blockWritesWrong : ChangeSpec := { name := "blockWrites", fn := fun _ => fun
  | [d1, d2] => { results := [.lit (.bool false)], args := [d1, d2] }
  | _ => none }
def BlockWritesWrongFalsely : Prop := blockWritesRow.holds Tryz.pinned (OpenSpec.ofChange blockWritesWrong)

/-- 'hayloftlaw07.BlockReads': WHATEVER THE INPUT: true; the input reads as it did. -/
def blockReadsSpec : ChangeSpec := { name := "blockReads", fn := fun _ => fun
  | [d] => { results := [.lit (.bool true)], args := [d] }
  | _ => none }
def blockReadsRow : OpenClaim := { program := "ythbonoagbeilkaagreat", sum := "af844ff4efebe85320627ae44ef152ca4e34d5a427914dbecb44a4981e4cd526", func := "hayloft/hayloftlaw07.BlockReads", spec := "blockReads", inPlace := ["internal/bytealg.abigen_runtime_cmpstring"], unfollowed := true, recurses := true, plainKeys := false, apart := false }
def BlockReadsSaid : Prop := blockReadsRow.holds Tryz.pinned (OpenSpec.ofChange blockReadsSpec)

/-- ITS FALSE NEIGHBOUR: 'it returns false'. Refute it at one input. -/
def blockReadsWrong : ChangeSpec := { name := "blockReads", fn := fun _ => fun
  | [d] => { results := [.lit (.bool false)], args := [d] }
  | _ => none }
def BlockReadsWrongFalsely : Prop := blockReadsRow.holds Tryz.pinned (OpenSpec.ofChange blockReadsWrong)

/-- 'hayloftlaw07.BlockAll': WHATEVER THE INPUT: true; the input reads as it did. -/
def blockAllSpec : ChangeSpec := { name := "blockAll", fn := fun _ => fun
  | [d1, d2] => { results := [.lit (.bool true)], args := [d1, d2] }
  | _ => none }
def blockAllRow : OpenClaim := { program := "ythbonoagbeilkaagreat", sum := "af844ff4efebe85320627ae44ef152ca4e34d5a427914dbecb44a4981e4cd526", func := "hayloft/hayloftlaw07.BlockAll", spec := "blockAll", inPlace := ["internal/bytealg.abigen_runtime_cmpstring"], unfollowed := true, recurses := true, plainKeys := false, apart := false }
def BlockAllSaid : Prop := blockAllRow.holds Tryz.pinned (OpenSpec.ofChange blockAllSpec)

/-- ITS FALSE NEIGHBOUR: 'it returns false'. Refute it at one input. -/
def blockAllWrong : ChangeSpec := { name := "blockAll", fn := fun _ => fun
  | [d1, d2] => { results := [.lit (.bool false)], args := [d1, d2] }
  | _ => none }
def BlockAllWrongFalsely : Prop := blockAllRow.holds Tryz.pinned (OpenSpec.ofChange blockAllWrong)

/-- 'hayloftlaw08.RosfileSorts': WHATEVER THE INPUT: true; the input reads as it did. -/
def rosfileSortsSpec : ChangeSpec := { name := "rosfileSorts", fn := fun _ => fun
  | [d1, d2] => { results := [.lit (.bool true)], args := [d1, d2] }
  | _ => none }
def rosfileSortsRow : OpenClaim := { program := "ythbonoagbeilkaagreat", sum := "af844ff4efebe85320627ae44ef152ca4e34d5a427914dbecb44a4981e4cd526", func := "hayloft/hayloftlaw08.RosfileSorts", spec := "rosfileSorts", inPlace := ["internal/bytealg.abigen_runtime_cmpstring"], unfollowed := true, recurses := true, plainKeys := false, apart := false }
def RosfileSortsSaid : Prop := rosfileSortsRow.holds Tryz.pinned (OpenSpec.ofChange rosfileSortsSpec)

/-- ITS FALSE NEIGHBOUR: 'it returns false'. Refute it at one input. -/
def rosfileSortsWrong : ChangeSpec := { name := "rosfileSorts", fn := fun _ => fun
  | [d1, d2] => { results := [.lit (.bool false)], args := [d1, d2] }
  | _ => none }
def RosfileSortsWrongFalsely : Prop := rosfileSortsRow.holds Tryz.pinned (OpenSpec.ofChange rosfileSortsWrong)

/-- 'hayloftlaw08.RosfileWrites': WHATEVER THE INPUT: true; the input reads as it did. -/
def rosfileWritesSpec : ChangeSpec := { name := "rosfileWrites", fn := fun _ => fun
  | [d] => { results := [.lit (.bool true)], args := [d] }
  | _ => none }
def rosfileWritesRow : OpenClaim := { program := "ythbonoagbeilkaagreat", sum := "af844ff4efebe85320627ae44ef152ca4e34d5a427914dbecb44a4981e4cd526", func := "hayloft/hayloftlaw08.RosfileWrites", spec := "rosfileWrites", inPlace := ["internal/bytealg.abigen_runtime_cmpstring"], unfollowed := true, recurses := true, plainKeys := false, apart := false }
def RosfileWritesSaid : Prop := rosfileWritesRow.holds Tryz.pinned (OpenSpec.ofChange rosfileWritesSpec)

/-- ITS FALSE NEIGHBOUR: 'it returns false'. Refute it at one input. -/
def rosfileWritesWrong : ChangeSpec := { name := "rosfileWrites", fn := fun _ => fun
  | [d] => { results := [.lit (.bool false)], args := [d] }
  | _ => none }
def RosfileWritesWrongFalsely : Prop := rosfileWritesRow.holds Tryz.pinned (OpenSpec.ofChange rosfileWritesWrong)

/-- 'hayloftlaw08.RosfileSpoilt': WHATEVER THE INPUT: true; the input reads as it did. -/
def rosfileSpoiltSpec : ChangeSpec := { name := "rosfileSpoilt", fn := fun _ => fun
  | [d1, d2] => { results := [.lit (.bool true)], args := [d1, d2] }
  | _ => none }
def rosfileSpoiltRow : OpenClaim := { program := "ythbonoagbeilkaagreat", sum := "af844ff4efebe85320627ae44ef152ca4e34d5a427914dbecb44a4981e4cd526", func := "hayloft/hayloftlaw08.RosfileSpoilt", spec := "rosfileSpoilt", inPlace := ["internal/bytealg.abigen_runtime_cmpstring"], unfollowed := true, recurses := true, plainKeys := false, apart := false }
def RosfileSpoiltSaid : Prop := rosfileSpoiltRow.holds Tryz.pinned (OpenSpec.ofChange rosfileSpoiltSpec)

/-- ITS FALSE NEIGHBOUR: 'it returns false'. Refute it at one input. -/
def rosfileSpoiltWrong : ChangeSpec := { name := "rosfileSpoilt", fn := fun _ => fun
  | [d1, d2] => { results := [.lit (.bool false)], args := [d1, d2] }
  | _ => none }
def RosfileSpoiltWrongFalsely : Prop := rosfileSpoiltRow.holds Tryz.pinned (OpenSpec.ofChange rosfileSpoiltWrong)

/-- 'hayloftlaw08.RosfileCuts': WHATEVER THE INPUT: true; the input reads as it did. -/
def rosfileCutsSpec : ChangeSpec := { name := "rosfileCuts", fn := fun _ => fun
  | [d1, d2, d3] => { results := [.lit (.bool true)], args := [d1, d2, d3] }
  | _ => none }
def rosfileCutsRow : OpenClaim := { program := "ythbonoagbeilkaagreat", sum := "af844ff4efebe85320627ae44ef152ca4e34d5a427914dbecb44a4981e4cd526", func := "hayloft/hayloftlaw08.RosfileCuts", spec := "rosfileCuts", inPlace := ["internal/bytealg.abigen_runtime_cmpstring"], unfollowed := true, recurses := true, plainKeys := false, apart := false }
def RosfileCutsSaid : Prop := rosfileCutsRow.holds Tryz.pinned (OpenSpec.ofChange rosfileCutsSpec)

/-- ITS FALSE NEIGHBOUR: 'it returns false'. Refute it at one input. -/
def rosfileCutsWrong : ChangeSpec := { name := "rosfileCuts", fn := fun _ => fun
  | [d1, d2, d3] => { results := [.lit (.bool false)], args := [d1, d2, d3] }
  | _ => none }
def RosfileCutsWrongFalsely : Prop := rosfileCutsRow.holds Tryz.pinned (OpenSpec.ofChange rosfileCutsWrong)

/-- 'hayloftlaw08.RosfileFinds': WHATEVER THE INPUT: true; the input reads as it did. -/
def rosfileFindsSpec : ChangeSpec := { name := "rosfileFinds", fn := fun _ => fun
  | [d1, d2] => { results := [.lit (.bool true)], args := [d1, d2] }
  | _ => none }
def rosfileFindsRow : OpenClaim := { program := "ythbonoagbeilkaagreat", sum := "af844ff4efebe85320627ae44ef152ca4e34d5a427914dbecb44a4981e4cd526", func := "hayloft/hayloftlaw08.RosfileFinds", spec := "rosfileFinds", inPlace := ["internal/bytealg.abigen_runtime_cmpstring"], unfollowed := true, recurses := true, plainKeys := false, apart := false }
def RosfileFindsSaid : Prop := rosfileFindsRow.holds Tryz.pinned (OpenSpec.ofChange rosfileFindsSpec)

/-- ITS FALSE NEIGHBOUR: 'it returns false'. Refute it at one input. -/
def rosfileFindsWrong : ChangeSpec := { name := "rosfileFinds", fn := fun _ => fun
  | [d1, d2] => { results := [.lit (.bool false)], args := [d1, d2] }
  | _ => none }
def RosfileFindsWrongFalsely : Prop := rosfileFindsRow.holds Tryz.pinned (OpenSpec.ofChange rosfileFindsWrong)

/-- 'hayloftlaw08.RosfileBack': WHATEVER THE INPUT: true; the input reads as it did. -/
def rosfileBackSpec : ChangeSpec := { name := "rosfileBack", fn := fun _ => fun
  | [d1, d2, d3] => { results := [.lit (.bool true)], args := [d1, d2, d3] }
  | _ => none }
def rosfileBackRow : OpenClaim := { program := "ythbonoagbeilkaagreat", sum := "af844ff4efebe85320627ae44ef152ca4e34d5a427914dbecb44a4981e4cd526", func := "hayloft/hayloftlaw08.RosfileBack", spec := "rosfileBack", inPlace := ["internal/bytealg.abigen_runtime_cmpstring"], unfollowed := true, recurses := true, plainKeys := false, apart := false }
def RosfileBackSaid : Prop := rosfileBackRow.holds Tryz.pinned (OpenSpec.ofChange rosfileBackSpec)

/-- ITS FALSE NEIGHBOUR: 'it returns false'. Refute it at one input. -/
def rosfileBackWrong : ChangeSpec := { name := "rosfileBack", fn := fun _ => fun
  | [d1, d2, d3] => { results := [.lit (.bool false)], args := [d1, d2, d3] }
  | _ => none }
def RosfileBackWrongFalsely : Prop := rosfileBackRow.holds Tryz.pinned (OpenSpec.ofChange rosfileBackWrong)

/-- 'hayloftlaw08.RosfileFrom': WHATEVER THE INPUT: true; the input reads as it did. -/
def rosfileFromSpec : ChangeSpec := { name := "rosfileFrom", fn := fun _ => fun
  | [d1, d2] => { results := [.lit (.bool true)], args := [d1, d2] }
  | _ => none }
def rosfileFromRow : OpenClaim := { program := "ythbonoagbeilkaagreat", sum := "af844ff4efebe85320627ae44ef152ca4e34d5a427914dbecb44a4981e4cd526", func := "hayloft/hayloftlaw08.RosfileFrom", spec := "rosfileFrom", inPlace := ["internal/bytealg.abigen_runtime_cmpstring"], unfollowed := true, recurses := true, plainKeys := false, apart := false }
def RosfileFromSaid : Prop := rosfileFromRow.holds Tryz.pinned (OpenSpec.ofChange rosfileFromSpec)

/-- ITS FALSE NEIGHBOUR: 'it returns false'. Refute it at one input. -/
def rosfileFromWrong : ChangeSpec := { name := "rosfileFrom", fn := fun _ => fun
  | [d1, d2] => { results := [.lit (.bool false)], args := [d1, d2] }
  | _ => none }
def RosfileFromWrongFalsely : Prop := rosfileFromRow.holds Tryz.pinned (OpenSpec.ofChange rosfileFromWrong)

/-- 'hayloftlaw08.RosfileReads': WHATEVER THE INPUT: true; the input reads as it did. -/
def rosfileReadsSpec : ChangeSpec := { name := "rosfileReads", fn := fun _ => fun
  | [d1, d2, d3] => { results := [.lit (.bool true)], args := [d1, d2, d3] }
  | _ => none }
def rosfileReadsRow : OpenClaim := { program := "ythbonoagbeilkaagreat", sum := "af844ff4efebe85320627ae44ef152ca4e34d5a427914dbecb44a4981e4cd526", func := "hayloft/hayloftlaw08.RosfileReads", spec := "rosfileReads", inPlace := ["internal/bytealg.abigen_runtime_cmpstring"], unfollowed := true, recurses := true, plainKeys := false, apart := false }
def RosfileReadsSaid : Prop := rosfileReadsRow.holds Tryz.pinned (OpenSpec.ofChange rosfileReadsSpec)

/-- ITS FALSE NEIGHBOUR: 'it returns false'. Refute it at one input. -/
def rosfileReadsWrong : ChangeSpec := { name := "rosfileReads", fn := fun _ => fun
  | [d1, d2, d3] => { results := [.lit (.bool false)], args := [d1, d2, d3] }
  | _ => none }
def RosfileReadsWrongFalsely : Prop := rosfileReadsRow.holds Tryz.pinned (OpenSpec.ofChange rosfileReadsWrong)

/- THE SECOND FORM. 'bulk': how many values and letters a reading holds, each counted each time it is reached (what is shared counts as often as it is met; a slice's spare places count too). A statement '..UptoSaid' is the law's where the arguments, and the package variables that the reading takes, are together of bulk at most 1048576: NARROWER than '..Said'. Prove '..Said' where nothing that the law and all that it calls make is longer than what came in: it says more and counts as full. Else prove '..UptoSaid'. A law counts once. -/
mutual
def uptoBulk {H : Type} : DataW H → Nat
  | .lit (.string bytes) => bytes.length + 1
  | .lit _ => 1
  | .nil => 1
  | .ptr d => uptoBulk d + 1
  | .slice elems spare => uptoBulkAll elems + uptoBulkAll spare + 1
  | .agg parts => uptoBulkAll parts + 1
  | .iface _ d => uptoBulk d + 1
  | .map entries => uptoBulkEntries entries + 1
  | .held _ => 1
def uptoBulkAll {H : Type} : List (DataW H) → Nat
  | [] => 0
  | d :: r => uptoBulk d + uptoBulkAll r
def uptoBulkEntries {H : Type} : List (Lit × DataW H) → Nat
  | [] => 0
  | x :: r => uptoBulkEntry x + uptoBulkEntries r
def uptoBulkEntry {H : Type} : Lit × DataW H → Nat
  | (.string bytes, d) => bytes.length + uptoBulk d + 1
  | (_, d) => uptoBulk d + 1
 end
def uptoSmall : (H : Type) → List (DataW H) → Bool := fun _ ds => decide (uptoBulkAll ds ≤ 1048576)
def OpenSpec.upto (s : _root_.Go.ChangeSpec) : _root_.Go.OpenSpec := { _root_.Go.OpenSpec.ofChange s with cond := some uptoSmall }

/-- 'hayloftlaw07.BlockWrites', WHERE WHAT IT READS IS OF BULK AT MOST 1048576: true; the input reads as it did. -/
def blockWritesUptoRow : OpenClaim := { program := "ythbonoagbeilkaagreat", sum := "af844ff4efebe85320627ae44ef152ca4e34d5a427914dbecb44a4981e4cd526", func := "hayloft/hayloftlaw07.BlockWrites", spec := "blockWrites", inPlace := ["internal/bytealg.abigen_runtime_cmpstring"], unfollowed := true, recurses := true, plainKeys := false, apart := false, narrowed := true }
def BlockWritesUptoSaid : Prop := blockWritesUptoRow.holds Tryz.pinned (OpenSpec.upto blockWritesSpec)

/-- 'hayloftlaw07.BlockReads', WHERE WHAT IT READS IS OF BULK AT MOST 1048576: true; the input reads as it did. -/
def blockReadsUptoRow : OpenClaim := { program := "ythbonoagbeilkaagreat", sum := "af844ff4efebe85320627ae44ef152ca4e34d5a427914dbecb44a4981e4cd526", func := "hayloft/hayloftlaw07.BlockReads", spec := "blockReads", inPlace := ["internal/bytealg.abigen_runtime_cmpstring"], unfollowed := true, recurses := true, plainKeys := false, apart := false, narrowed := true }
def BlockReadsUptoSaid : Prop := blockReadsUptoRow.holds Tryz.pinned (OpenSpec.upto blockReadsSpec)

/-- 'hayloftlaw07.BlockAll', WHERE WHAT IT READS IS OF BULK AT MOST 1048576: true; the input reads as it did. -/
def blockAllUptoRow : OpenClaim := { program := "ythbonoagbeilkaagreat", sum := "af844ff4efebe85320627ae44ef152ca4e34d5a427914dbecb44a4981e4cd526", func := "hayloft/hayloftlaw07.BlockAll", spec := "blockAll", inPlace := ["internal/bytealg.abigen_runtime_cmpstring"], unfollowed := true, recurses := true, plainKeys := false, apart := false, narrowed := true }
def BlockAllUptoSaid : Prop := blockAllUptoRow.holds Tryz.pinned (OpenSpec.upto blockAllSpec)

/-- 'hayloftlaw08.RosfileSorts', WHERE WHAT IT READS IS OF BULK AT MOST 1048576: true; the input reads as it did. -/
def rosfileSortsUptoRow : OpenClaim := { program := "ythbonoagbeilkaagreat", sum := "af844ff4efebe85320627ae44ef152ca4e34d5a427914dbecb44a4981e4cd526", func := "hayloft/hayloftlaw08.RosfileSorts", spec := "rosfileSorts", inPlace := ["internal/bytealg.abigen_runtime_cmpstring"], unfollowed := true, recurses := true, plainKeys := false, apart := false, narrowed := true }
def RosfileSortsUptoSaid : Prop := rosfileSortsUptoRow.holds Tryz.pinned (OpenSpec.upto rosfileSortsSpec)

/-- 'hayloftlaw08.RosfileWrites', WHERE WHAT IT READS IS OF BULK AT MOST 1048576: true; the input reads as it did. -/
def rosfileWritesUptoRow : OpenClaim := { program := "ythbonoagbeilkaagreat", sum := "af844ff4efebe85320627ae44ef152ca4e34d5a427914dbecb44a4981e4cd526", func := "hayloft/hayloftlaw08.RosfileWrites", spec := "rosfileWrites", inPlace := ["internal/bytealg.abigen_runtime_cmpstring"], unfollowed := true, recurses := true, plainKeys := false, apart := false, narrowed := true }
def RosfileWritesUptoSaid : Prop := rosfileWritesUptoRow.holds Tryz.pinned (OpenSpec.upto rosfileWritesSpec)

/-- 'hayloftlaw08.RosfileSpoilt', WHERE WHAT IT READS IS OF BULK AT MOST 1048576: true; the input reads as it did. -/
def rosfileSpoiltUptoRow : OpenClaim := { program := "ythbonoagbeilkaagreat", sum := "af844ff4efebe85320627ae44ef152ca4e34d5a427914dbecb44a4981e4cd526", func := "hayloft/hayloftlaw08.RosfileSpoilt", spec := "rosfileSpoilt", inPlace := ["internal/bytealg.abigen_runtime_cmpstring"], unfollowed := true, recurses := true, plainKeys := false, apart := false, narrowed := true }
def RosfileSpoiltUptoSaid : Prop := rosfileSpoiltUptoRow.holds Tryz.pinned (OpenSpec.upto rosfileSpoiltSpec)

/-- 'hayloftlaw08.RosfileCuts', WHERE WHAT IT READS IS OF BULK AT MOST 1048576: true; the input reads as it did. -/
def rosfileCutsUptoRow : OpenClaim := { program := "ythbonoagbeilkaagreat", sum := "af844ff4efebe85320627ae44ef152ca4e34d5a427914dbecb44a4981e4cd526", func := "hayloft/hayloftlaw08.RosfileCuts", spec := "rosfileCuts", inPlace := ["internal/bytealg.abigen_runtime_cmpstring"], unfollowed := true, recurses := true, plainKeys := false, apart := false, narrowed := true }
def RosfileCutsUptoSaid : Prop := rosfileCutsUptoRow.holds Tryz.pinned (OpenSpec.upto rosfileCutsSpec)

/-- 'hayloftlaw08.RosfileFinds', WHERE WHAT IT READS IS OF BULK AT MOST 1048576: true; the input reads as it did. -/
def rosfileFindsUptoRow : OpenClaim := { program := "ythbonoagbeilkaagreat", sum := "af844ff4efebe85320627ae44ef152ca4e34d5a427914dbecb44a4981e4cd526", func := "hayloft/hayloftlaw08.RosfileFinds", spec := "rosfileFinds", inPlace := ["internal/bytealg.abigen_runtime_cmpstring"], unfollowed := true, recurses := true, plainKeys := false, apart := false, narrowed := true }
def RosfileFindsUptoSaid : Prop := rosfileFindsUptoRow.holds Tryz.pinned (OpenSpec.upto rosfileFindsSpec)

/-- 'hayloftlaw08.RosfileBack', WHERE WHAT IT READS IS OF BULK AT MOST 1048576: true; the input reads as it did. -/
def rosfileBackUptoRow : OpenClaim := { program := "ythbonoagbeilkaagreat", sum := "af844ff4efebe85320627ae44ef152ca4e34d5a427914dbecb44a4981e4cd526", func := "hayloft/hayloftlaw08.RosfileBack", spec := "rosfileBack", inPlace := ["internal/bytealg.abigen_runtime_cmpstring"], unfollowed := true, recurses := true, plainKeys := false, apart := false, narrowed := true }
def RosfileBackUptoSaid : Prop := rosfileBackUptoRow.holds Tryz.pinned (OpenSpec.upto rosfileBackSpec)

/-- 'hayloftlaw08.RosfileFrom', WHERE WHAT IT READS IS OF BULK AT MOST 1048576: true; the input reads as it did. -/
def rosfileFromUptoRow : OpenClaim := { program := "ythbonoagbeilkaagreat", sum := "af844ff4efebe85320627ae44ef152ca4e34d5a427914dbecb44a4981e4cd526", func := "hayloft/hayloftlaw08.RosfileFrom", spec := "rosfileFrom", inPlace := ["internal/bytealg.abigen_runtime_cmpstring"], unfollowed := true, recurses := true, plainKeys := false, apart := false, narrowed := true }
def RosfileFromUptoSaid : Prop := rosfileFromUptoRow.holds Tryz.pinned (OpenSpec.upto rosfileFromSpec)

/-- 'hayloftlaw08.RosfileReads', WHERE WHAT IT READS IS OF BULK AT MOST 1048576: true; the input reads as it did. -/
def rosfileReadsUptoRow : OpenClaim := { program := "ythbonoagbeilkaagreat", sum := "af844ff4efebe85320627ae44ef152ca4e34d5a427914dbecb44a4981e4cd526", func := "hayloft/hayloftlaw08.RosfileReads", spec := "rosfileReads", inPlace := ["internal/bytealg.abigen_runtime_cmpstring"], unfollowed := true, recurses := true, plainKeys := false, apart := false, narrowed := true }
def RosfileReadsUptoSaid : Prop := rosfileReadsUptoRow.holds Tryz.pinned (OpenSpec.upto rosfileReadsSpec)

end Rows
end Go.Proofs.YthbonoagbeilkaaGreat
