/-
  No cell of these rows narrows 'for every input' (looked for: loops, veiled, ifaces, maps, wideKeys, modest, calm, conditions, laid).
  DERIVED. THE GIVEN ROWS OF THIS SEAT. 3 by the template 'for every input the law returns true; each argument reads behind the call as it read before'; 0 by the template 'total and deterministic' (their statements: YtlmgelmloddfgaaGreatTotals.lean).
  GIVEN WITH THE SEED: the statements are not yours to turn. If you find one false, say at which input.
  Laid BY PROGRAM, IN A SANDBOX (cutbox-rows.mjs): the forced cells as the released guide's own fill.sh prints them over the translation 8e769038e0f77121… (all of the seat's roots in one cut). By AI agents, Wed Nov 11 2026. No macro, syntax, notation, axiom, sorry.
-/
import Derived.Test.YtlmgelmloddfgaaGreatChecked
import GoSem.Claim
import GoSem.ClaimJoined
import GoSem.ClaimMapViews
import Derived.JoinedTies
import Derived.KernelRfl
namespace Go.Proofs.YtlmgelmloddfgaaGreat
/- THE CELL 'sum', in the pinned program and in every row, IS THE sha256 OF THE DUMP (.gsa) THAT YtlmgelmloddfgaaGreatProg.lean LOADS. Nothing in Lean hashes anything: it is a label: what it is worth is what the hold of that sum in a sandbox is worth. -/
noncomputable def Tryz.pinned : Pinned := { name := "ytlmgelmloddfgaagreat", sum := "8e769038e0f7712153d1c0ee1c1b5204729fa55ce68d56a660b4bdac92590b78", checked := Tryz.checked }
namespace Rows
def none {H : Type} : Left H := { results := [], args := [] }

/-- 'palimpsestlaw15.CheckData': WHATEVER THE INPUT: true; the input reads as it did. -/
def checkDataSpec : ChangeSpec := { name := "checkData", fn := fun _ => fun
  | [d1, d2] => { results := [.lit (.bool true)], args := [d1, d2] }
  | _ => none }
def checkDataRow : OpenClaim := { program := "ytlmgelmloddfgaagreat", sum := "8e769038e0f7712153d1c0ee1c1b5204729fa55ce68d56a660b4bdac92590b78", func := "palimpsest/palimpsestlaw15.CheckData", spec := "checkData", inPlace := ["internal/bytealg.IndexByteString", "internal/bytealg.IndexString"], unfollowed := true, recurses := true, named := ["internal/bytealg.MaxLen"], plainKeys := false, apart := false }
def CheckDataSaid : Prop := checkDataRow.holds Tryz.pinned (OpenSpec.ofChange checkDataSpec)

/-- ITS FALSE NEIGHBOUR: 'it returns false'. Refute it at one input. -/
def checkDataWrong : ChangeSpec := { name := "checkData", fn := fun _ => fun
  | [d1, d2] => { results := [.lit (.bool false)], args := [d1, d2] }
  | _ => none }
def CheckDataWrongFalsely : Prop := checkDataRow.holds Tryz.pinned (OpenSpec.ofChange checkDataWrong)

/-- 'palimpsestlaw15.CheckCounts': WHATEVER THE INPUT: true; the input reads as it did. -/
def checkCountsSpec : ChangeSpec := { name := "checkCounts", fn := fun _ => fun
  | [d1, d2, d3] => { results := [.lit (.bool true)], args := [d1, d2, d3] }
  | _ => none }
def checkCountsRow : OpenClaim := { program := "ytlmgelmloddfgaagreat", sum := "8e769038e0f7712153d1c0ee1c1b5204729fa55ce68d56a660b4bdac92590b78", func := "palimpsest/palimpsestlaw15.CheckCounts", spec := "checkCounts", inPlace := ["internal/bytealg.IndexByteString", "internal/bytealg.IndexString"], unfollowed := true, recurses := true, named := ["internal/bytealg.MaxLen"], plainKeys := false, apart := false }
def CheckCountsSaid : Prop := checkCountsRow.holds Tryz.pinned (OpenSpec.ofChange checkCountsSpec)

/-- ITS FALSE NEIGHBOUR: 'it returns false'. Refute it at one input. -/
def checkCountsWrong : ChangeSpec := { name := "checkCounts", fn := fun _ => fun
  | [d1, d2, d3] => { results := [.lit (.bool false)], args := [d1, d2, d3] }
  | _ => none }
def CheckCountsWrongFalsely : Prop := checkCountsRow.holds Tryz.pinned (OpenSpec.ofChange checkCountsWrong)

/-- 'palimpsestlaw15.CheckFile': WHATEVER THE INPUT: true; the input reads as it did. -/
def checkFileSpec : ChangeSpec := { name := "checkFile", fn := fun _ => fun
  | [d1, d2, d3] => { results := [.lit (.bool true)], args := [d1, d2, d3] }
  | _ => none }
def checkFileRow : OpenClaim := { program := "ytlmgelmloddfgaagreat", sum := "8e769038e0f7712153d1c0ee1c1b5204729fa55ce68d56a660b4bdac92590b78", func := "palimpsest/palimpsestlaw15.CheckFile", spec := "checkFile", inPlace := ["internal/bytealg.IndexByteString", "internal/bytealg.IndexString", "internal/bytealg.IndexByte"], unfollowed := true, recurses := true, named := ["internal/bytealg.MaxLen"], plainKeys := false, apart := false }
def CheckFileSaid : Prop := checkFileRow.holds Tryz.pinned (OpenSpec.ofChange checkFileSpec)

/-- ITS FALSE NEIGHBOUR: 'it returns false'. Refute it at one input. -/
def checkFileWrong : ChangeSpec := { name := "checkFile", fn := fun _ => fun
  | [d1, d2, d3] => { results := [.lit (.bool false)], args := [d1, d2, d3] }
  | _ => none }
def CheckFileWrongFalsely : Prop := checkFileRow.holds Tryz.pinned (OpenSpec.ofChange checkFileWrong)

/- THE SECOND FORM. 'bulk': how many values and letters a reading holds, each counted each time it is reached (what is shared counts as often as it is met; a slice's spare places count too). A statement '..UptoSaid' is the law's where the arguments, and the package variables that the reading takes, are together of bulk at most 1048576: NARROWER than '..Said'. Prove '..Said' where nothing that the law and all that it calls make is longer than what came in: it says more and counts as full. Else prove '..UptoSaid'. A law counts once. -/
mutual
def uptoBulk {H : Type} : DataW H → Nat
  | .lit (.string bytes) => bytes.length + 1
  | .lit _ => 1
  | .nil => 1
  | .ptr d => uptoBulk d + 1
  | .slice elems spare => uptoBulkAll elems + uptoBulkAll spare + 1
  | .agg parts => uptoBulkAll parts + 1
  | .iface _ d => uptoBulk d + 1
  | .map entries => uptoBulkEntries entries + 1
  | .held _ => 1
def uptoBulkAll {H : Type} : List (DataW H) → Nat
  | [] => 0
  | d :: r => uptoBulk d + uptoBulkAll r
def uptoBulkEntries {H : Type} : List (Lit × DataW H) → Nat
  | [] => 0
  | x :: r => uptoBulkEntry x + uptoBulkEntries r
def uptoBulkEntry {H : Type} : Lit × DataW H → Nat
  | (.string bytes, d) => bytes.length + uptoBulk d + 1
  | (_, d) => uptoBulk d + 1
 end
def uptoSmall : (H : Type) → List (DataW H) → Bool := fun _ ds => decide (uptoBulkAll ds ≤ 1048576)
def OpenSpec.upto (s : _root_.Go.ChangeSpec) : _root_.Go.OpenSpec := { _root_.Go.OpenSpec.ofChange s with cond := some uptoSmall }

/-- 'palimpsestlaw15.CheckData', WHERE WHAT IT READS IS OF BULK AT MOST 1048576: true; the input reads as it did. -/
def checkDataUptoRow : OpenClaim := { program := "ytlmgelmloddfgaagreat", sum := "8e769038e0f7712153d1c0ee1c1b5204729fa55ce68d56a660b4bdac92590b78", func := "palimpsest/palimpsestlaw15.CheckData", spec := "checkData", inPlace := ["internal/bytealg.IndexByteString", "internal/bytealg.IndexString"], unfollowed := true, recurses := true, named := ["internal/bytealg.MaxLen"], plainKeys := false, apart := false, narrowed := true }
def CheckDataUptoSaid : Prop := checkDataUptoRow.holds Tryz.pinned (OpenSpec.upto checkDataSpec)

/-- 'palimpsestlaw15.CheckCounts', WHERE WHAT IT READS IS OF BULK AT MOST 1048576: true; the input reads as it did. -/
def checkCountsUptoRow : OpenClaim := { program := "ytlmgelmloddfgaagreat", sum := "8e769038e0f7712153d1c0ee1c1b5204729fa55ce68d56a660b4bdac92590b78", func := "palimpsest/palimpsestlaw15.CheckCounts", spec := "checkCounts", inPlace := ["internal/bytealg.IndexByteString", "internal/bytealg.IndexString"], unfollowed := true, recurses := true, named := ["internal/bytealg.MaxLen"], plainKeys := false, apart := false, narrowed := true }
def CheckCountsUptoSaid : Prop := checkCountsUptoRow.holds Tryz.pinned (OpenSpec.upto checkCountsSpec)

/-- 'palimpsestlaw15.CheckFile', WHERE WHAT IT READS IS OF BULK AT MOST 1048576: true; the input reads as it did. -/
def checkFileUptoRow : OpenClaim := { program := "ytlmgelmloddfgaagreat", sum := "8e769038e0f7712153d1c0ee1c1b5204729fa55ce68d56a660b4bdac92590b78", func := "palimpsest/palimpsestlaw15.CheckFile", spec := "checkFile", inPlace := ["internal/bytealg.IndexByteString", "internal/bytealg.IndexString", "internal/bytealg.IndexByte"], unfollowed := true, recurses := true, named := ["internal/bytealg.MaxLen"], plainKeys := false, apart := false, narrowed := true }
def CheckFileUptoSaid : Prop := checkFileUptoRow.holds Tryz.pinned (OpenSpec.upto checkFileSpec)

end Rows
end Go.Proofs.YtlmgelmloddfgaaGreat
