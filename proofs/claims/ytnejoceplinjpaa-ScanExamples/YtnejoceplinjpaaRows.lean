/-
  No cell of these rows narrows 'for every input' (looked for: loops, veiled, ifaces, maps, wideKeys, modest, calm, conditions, laid).
  DERIVED. THE GIVEN ROWS OF THIS SEAT. 4 by the template 'for every input the law returns true; each argument reads behind the call as it read before'; 0 by the template 'total and deterministic' (their statements: YtnejoceplinjpaaTotals.lean).
  GIVEN WITH THE SEED: the statements are not yours to turn. If you find one false, say at which input.
  Laid BY PROGRAM, IN A SANDBOX (cutbox-rows.mjs): the forced cells as the released guide's own fill.sh prints them over the translation 6c6ae47b0c37d0dc… (all of the seat's roots in one cut). By AI agents, Wed Nov 11 2026. No macro, syntax, notation, axiom, sorry.
-/
import Derived.Test.YtnejoceplinjpaaChecked
import GoSem.Claim
import GoSem.ClaimJoined
import GoSem.ClaimMapViews
import Derived.JoinedTies
import Derived.KernelRfl
namespace Go.Proofs.Ytnejoceplinjpaa
/- THE CELL 'sum', in the pinned program and in every row, IS THE sha256 OF THE DUMP (.gsa) THAT YtnejoceplinjpaaProg.lean LOADS. Nothing in Lean hashes anything: it is a label: what it is worth is what the hold of that sum in a sandbox is worth. -/
noncomputable def Try.pinned : Pinned := { name := "ytnejoceplinjpaa", sum := "6c6ae47b0c37d0dc198cc5536f2562cb1612d3b3c40c7bc56edecdda85fb0475", checked := Try.checked }
namespace Rows
def none {H : Type} : Left H := { results := [], args := [] }

/-- 'netlablaw31.ScanLoadMatches': WHATEVER THE INPUT: true; the input reads as it did. -/
def scanLoadMatchesSpec : ChangeSpec := { name := "scanLoadMatches", fn := fun _ => fun
  | [d1, d2] => { results := [.lit (.bool true)], args := [d1, d2] }
  | _ => none }
def scanLoadMatchesRow : OpenClaim := { program := "ytnejoceplinjpaa", sum := "6c6ae47b0c37d0dc198cc5536f2562cb1612d3b3c40c7bc56edecdda85fb0475", func := "netlab/netlablaw31.ScanLoadMatches", spec := "scanLoadMatches", inPlace := ["slices.overlaps[int]"], unfollowed := true, recurses := true, apart := false }
def ScanLoadMatchesSaid : Prop := scanLoadMatchesRow.holds Try.pinned (OpenSpec.ofChange scanLoadMatchesSpec)

/-- ITS FALSE NEIGHBOUR: 'it returns false'. Refute it at one input. -/
def scanLoadMatchesWrong : ChangeSpec := { name := "scanLoadMatches", fn := fun _ => fun
  | [d1, d2] => { results := [.lit (.bool false)], args := [d1, d2] }
  | _ => none }
def ScanLoadMatchesWrongFalsely : Prop := scanLoadMatchesRow.holds Try.pinned (OpenSpec.ofChange scanLoadMatchesWrong)

/-- 'netlablaw31.ScanUnloads': WHATEVER THE INPUT: true; the input reads as it did. -/
def scanUnloadsSpec : ChangeSpec := { name := "scanUnloads", fn := fun _ => fun
  | [d1, d2] => { results := [.lit (.bool true)], args := [d1, d2] }
  | _ => none }
def scanUnloadsRow : OpenClaim := { program := "ytnejoceplinjpaa", sum := "6c6ae47b0c37d0dc198cc5536f2562cb1612d3b3c40c7bc56edecdda85fb0475", func := "netlab/netlablaw31.ScanUnloads", spec := "scanUnloads", inPlace := ["slices.overlaps[int]"], unfollowed := true, recurses := true, apart := false }
def ScanUnloadsSaid : Prop := scanUnloadsRow.holds Try.pinned (OpenSpec.ofChange scanUnloadsSpec)

/-- ITS FALSE NEIGHBOUR: 'it returns false'. Refute it at one input. -/
def scanUnloadsWrong : ChangeSpec := { name := "scanUnloads", fn := fun _ => fun
  | [d1, d2] => { results := [.lit (.bool false)], args := [d1, d2] }
  | _ => none }
def ScanUnloadsWrongFalsely : Prop := scanUnloadsRow.holds Try.pinned (OpenSpec.ofChange scanUnloadsWrong)

/-- 'netlablaw31.ScanArea': WHATEVER THE INPUT: true; the input reads as it did. -/
def scanAreaSpec : ChangeSpec := { name := "scanArea", fn := fun _ => fun
  | [d1, d2] => { results := [.lit (.bool true)], args := [d1, d2] }
  | _ => none }
def scanAreaRow : OpenClaim := { program := "ytnejoceplinjpaa", sum := "6c6ae47b0c37d0dc198cc5536f2562cb1612d3b3c40c7bc56edecdda85fb0475", func := "netlab/netlablaw31.ScanArea", spec := "scanArea", inPlace := ["slices.overlaps[int]"], unfollowed := true, recurses := true, apart := false }
def ScanAreaSaid : Prop := scanAreaRow.holds Try.pinned (OpenSpec.ofChange scanAreaSpec)

/-- ITS FALSE NEIGHBOUR: 'it returns false'. Refute it at one input. -/
def scanAreaWrong : ChangeSpec := { name := "scanArea", fn := fun _ => fun
  | [d1, d2] => { results := [.lit (.bool false)], args := [d1, d2] }
  | _ => none }
def ScanAreaWrongFalsely : Prop := scanAreaRow.holds Try.pinned (OpenSpec.ofChange scanAreaWrong)

/-- 'netlablaw31.ScanExamples': WHATEVER THE INPUT: true; the input reads as it did. -/
def scanExamplesSpec : ChangeSpec := { name := "scanExamples", fn := fun _ => fun
  | [] => { results := [.lit (.bool true)], args := [] }
  | _ => none }
def scanExamplesRow : OpenClaim := { program := "ytnejoceplinjpaa", sum := "6c6ae47b0c37d0dc198cc5536f2562cb1612d3b3c40c7bc56edecdda85fb0475", func := "netlab/netlablaw31.ScanExamples", spec := "scanExamples", inPlace := ["slices.overlaps[int]"], unfollowed := true, recurses := true, apart := false }
def ScanExamplesSaid : Prop := scanExamplesRow.holds Try.pinned (OpenSpec.ofChange scanExamplesSpec)

/-- ITS FALSE NEIGHBOUR: 'it returns false'. Refute it at one input. -/
def scanExamplesWrong : ChangeSpec := { name := "scanExamples", fn := fun _ => fun
  | [] => { results := [.lit (.bool false)], args := [] }
  | _ => none }
def ScanExamplesWrongFalsely : Prop := scanExamplesRow.holds Try.pinned (OpenSpec.ofChange scanExamplesWrong)

/- THE SECOND FORM. 'bulk': how many values and letters a reading holds, each counted each time it is reached (what is shared counts as often as it is met; a slice's spare places count too). A statement '..UptoSaid' is the law's where the arguments, and the package variables that the reading takes, are together of bulk at most 1048576: NARROWER than '..Said'. Prove '..Said' where nothing that the law and all that it calls make is longer than what came in: it says more and counts as full. Else prove '..UptoSaid'. A law counts once. -/
mutual
def uptoBulk {H : Type} : DataW H → Nat
  | .lit (.string bytes) => bytes.length + 1
  | .lit _ => 1
  | .nil => 1
  | .ptr d => uptoBulk d + 1
  | .slice elems spare => uptoBulkAll elems + uptoBulkAll spare + 1
  | .agg parts => uptoBulkAll parts + 1
  | .iface _ d => uptoBulk d + 1
  | .map entries => uptoBulkEntries entries + 1
  | .held _ => 1
def uptoBulkAll {H : Type} : List (DataW H) → Nat
  | [] => 0
  | d :: r => uptoBulk d + uptoBulkAll r
def uptoBulkEntries {H : Type} : List (Lit × DataW H) → Nat
  | [] => 0
  | x :: r => uptoBulkEntry x + uptoBulkEntries r
def uptoBulkEntry {H : Type} : Lit × DataW H → Nat
  | (.string bytes, d) => bytes.length + uptoBulk d + 1
  | (_, d) => uptoBulk d + 1
 end
def uptoSmall : (H : Type) → List (DataW H) → Bool := fun _ ds => decide (uptoBulkAll ds ≤ 1048576)
def OpenSpec.upto (s : _root_.Go.ChangeSpec) : _root_.Go.OpenSpec := { _root_.Go.OpenSpec.ofChange s with cond := some uptoSmall }

/-- 'netlablaw31.ScanLoadMatches', WHERE WHAT IT READS IS OF BULK AT MOST 1048576: true; the input reads as it did. -/
def scanLoadMatchesUptoRow : OpenClaim := { program := "ytnejoceplinjpaa", sum := "6c6ae47b0c37d0dc198cc5536f2562cb1612d3b3c40c7bc56edecdda85fb0475", func := "netlab/netlablaw31.ScanLoadMatches", spec := "scanLoadMatches", inPlace := ["slices.overlaps[int]"], unfollowed := true, recurses := true, apart := false, narrowed := true }
def ScanLoadMatchesUptoSaid : Prop := scanLoadMatchesUptoRow.holds Try.pinned (OpenSpec.upto scanLoadMatchesSpec)

/-- 'netlablaw31.ScanUnloads', WHERE WHAT IT READS IS OF BULK AT MOST 1048576: true; the input reads as it did. -/
def scanUnloadsUptoRow : OpenClaim := { program := "ytnejoceplinjpaa", sum := "6c6ae47b0c37d0dc198cc5536f2562cb1612d3b3c40c7bc56edecdda85fb0475", func := "netlab/netlablaw31.ScanUnloads", spec := "scanUnloads", inPlace := ["slices.overlaps[int]"], unfollowed := true, recurses := true, apart := false, narrowed := true }
def ScanUnloadsUptoSaid : Prop := scanUnloadsUptoRow.holds Try.pinned (OpenSpec.upto scanUnloadsSpec)

/-- 'netlablaw31.ScanArea', WHERE WHAT IT READS IS OF BULK AT MOST 1048576: true; the input reads as it did. -/
def scanAreaUptoRow : OpenClaim := { program := "ytnejoceplinjpaa", sum := "6c6ae47b0c37d0dc198cc5536f2562cb1612d3b3c40c7bc56edecdda85fb0475", func := "netlab/netlablaw31.ScanArea", spec := "scanArea", inPlace := ["slices.overlaps[int]"], unfollowed := true, recurses := true, apart := false, narrowed := true }
def ScanAreaUptoSaid : Prop := scanAreaUptoRow.holds Try.pinned (OpenSpec.upto scanAreaSpec)

/-- 'netlablaw31.ScanExamples', WHERE WHAT IT READS IS OF BULK AT MOST 1048576: true; the input reads as it did. -/
def scanExamplesUptoRow : OpenClaim := { program := "ytnejoceplinjpaa", sum := "6c6ae47b0c37d0dc198cc5536f2562cb1612d3b3c40c7bc56edecdda85fb0475", func := "netlab/netlablaw31.ScanExamples", spec := "scanExamples", inPlace := ["slices.overlaps[int]"], unfollowed := true, recurses := true, apart := false, narrowed := true }
def ScanExamplesUptoSaid : Prop := scanExamplesUptoRow.holds Try.pinned (OpenSpec.upto scanExamplesSpec)

end Rows
end Go.Proofs.Ytnejoceplinjpaa
