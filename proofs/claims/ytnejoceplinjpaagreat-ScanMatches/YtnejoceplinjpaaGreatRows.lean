/-
  No cell of these rows narrows 'for every input' (looked for: loops, veiled, ifaces, maps, wideKeys, modest, calm, conditions, laid).
  DERIVED. THE GIVEN ROWS OF THIS SEAT. 5 by the template 'for every input the law returns true; each argument reads behind the call as it read before'; 0 by the template 'total and deterministic' (their statements: YtnejoceplinjpaaGreatTotals.lean).
  GIVEN WITH THE SEED: the statements are not yours to turn. If you find one false, say at which input.
  Laid BY PROGRAM, IN A SANDBOX (cutbox-rows.mjs): the forced cells as the released guide's own fill.sh prints them over the translation 5c4cdb938dc4e380… (all of the seat's roots in one cut). By AI agents, Wed Nov 11 2026. No macro, syntax, notation, axiom, sorry.
-/
import Derived.Test.YtnejoceplinjpaaGreatChecked
import GoSem.Claim
import GoSem.ClaimJoined
import GoSem.ClaimMapViews
import Derived.JoinedTies
import Derived.KernelRfl
namespace Go.Proofs.YtnejoceplinjpaaGreat
/- THE CELL 'sum', in the pinned program and in every row, IS THE sha256 OF THE DUMP (.gsa) THAT YtnejoceplinjpaaGreatProg.lean LOADS. Nothing in Lean hashes anything: it is a label: what it is worth is what the hold of that sum in a sandbox is worth. -/
noncomputable def Tryz.pinned : Pinned := { name := "ytnejoceplinjpaagreat", sum := "5c4cdb938dc4e380d39fcd7289b931908a909bfda6666afc8431d18268ebb945", checked := Tryz.checked }
namespace Rows
def none {H : Type} : Left H := { results := [], args := [] }

/-- 'netlablaw31.ScanMatches': WHATEVER THE INPUT: true; the input reads as it did. -/
def scanMatchesSpec : ChangeSpec := { name := "scanMatches", fn := fun _ => fun
  | [d1, d2] => { results := [.lit (.bool true)], args := [d1, d2] }
  | _ => none }
def scanMatchesRow : OpenClaim := { program := "ytnejoceplinjpaagreat", sum := "5c4cdb938dc4e380d39fcd7289b931908a909bfda6666afc8431d18268ebb945", func := "netlab/netlablaw31.ScanMatches", spec := "scanMatches", inPlace := ["slices.overlaps[int]"], unfollowed := true, recurses := true, apart := false }
def ScanMatchesSaid : Prop := scanMatchesRow.holds Tryz.pinned (OpenSpec.ofChange scanMatchesSpec)

/-- ITS FALSE NEIGHBOUR: 'it returns false'. Refute it at one input. -/
def scanMatchesWrong : ChangeSpec := { name := "scanMatches", fn := fun _ => fun
  | [d1, d2] => { results := [.lit (.bool false)], args := [d1, d2] }
  | _ => none }
def ScanMatchesWrongFalsely : Prop := scanMatchesRow.holds Tryz.pinned (OpenSpec.ofChange scanMatchesWrong)

/-- 'netlablaw31.ScanPatternMatches': WHATEVER THE INPUT: true; the input reads as it did. -/
def scanPatternMatchesSpec : ChangeSpec := { name := "scanPatternMatches", fn := fun _ => fun
  | [d1, d2, d3, d4, d5] => { results := [.lit (.bool true)], args := [d1, d2, d3, d4, d5] }
  | _ => none }
def scanPatternMatchesRow : OpenClaim := { program := "ytnejoceplinjpaagreat", sum := "5c4cdb938dc4e380d39fcd7289b931908a909bfda6666afc8431d18268ebb945", func := "netlab/netlablaw31.ScanPatternMatches", spec := "scanPatternMatches", inPlace := ["slices.overlaps[int]"], unfollowed := true, recurses := true, apart := false }
def ScanPatternMatchesSaid : Prop := scanPatternMatchesRow.holds Tryz.pinned (OpenSpec.ofChange scanPatternMatchesSpec)

/-- ITS FALSE NEIGHBOUR: 'it returns false'. Refute it at one input. -/
def scanPatternMatchesWrong : ChangeSpec := { name := "scanPatternMatches", fn := fun _ => fun
  | [d1, d2, d3, d4, d5] => { results := [.lit (.bool false)], args := [d1, d2, d3, d4, d5] }
  | _ => none }
def ScanPatternMatchesWrongFalsely : Prop := scanPatternMatchesRow.holds Tryz.pinned (OpenSpec.ofChange scanPatternMatchesWrong)

/-- 'netlablaw31.ScanTransparent': WHATEVER THE INPUT: true; the input reads as it did. -/
def scanTransparentSpec : ChangeSpec := { name := "scanTransparent", fn := fun _ => fun
  | [d1, d2, d3, d4, d5] => { results := [.lit (.bool true)], args := [d1, d2, d3, d4, d5] }
  | _ => none }
def scanTransparentRow : OpenClaim := { program := "ytnejoceplinjpaagreat", sum := "5c4cdb938dc4e380d39fcd7289b931908a909bfda6666afc8431d18268ebb945", func := "netlab/netlablaw31.ScanTransparent", spec := "scanTransparent", inPlace := ["slices.overlaps[int]"], unfollowed := true, recurses := true, apart := false }
def ScanTransparentSaid : Prop := scanTransparentRow.holds Tryz.pinned (OpenSpec.ofChange scanTransparentSpec)

/-- ITS FALSE NEIGHBOUR: 'it returns false'. Refute it at one input. -/
def scanTransparentWrong : ChangeSpec := { name := "scanTransparent", fn := fun _ => fun
  | [d1, d2, d3, d4, d5] => { results := [.lit (.bool false)], args := [d1, d2, d3, d4, d5] }
  | _ => none }
def ScanTransparentWrongFalsely : Prop := scanTransparentRow.holds Tryz.pinned (OpenSpec.ofChange scanTransparentWrong)

/-- 'netlablaw31.ScanShifts': WHATEVER THE INPUT: true; the input reads as it did. -/
def scanShiftsSpec : ChangeSpec := { name := "scanShifts", fn := fun _ => fun
  | [d1, d2, d3, d4, d5] => { results := [.lit (.bool true)], args := [d1, d2, d3, d4, d5] }
  | _ => none }
def scanShiftsRow : OpenClaim := { program := "ytnejoceplinjpaagreat", sum := "5c4cdb938dc4e380d39fcd7289b931908a909bfda6666afc8431d18268ebb945", func := "netlab/netlablaw31.ScanShifts", spec := "scanShifts", inPlace := ["slices.overlaps[int]"], unfollowed := true, recurses := true, apart := false }
def ScanShiftsSaid : Prop := scanShiftsRow.holds Tryz.pinned (OpenSpec.ofChange scanShiftsSpec)

/-- ITS FALSE NEIGHBOUR: 'it returns false'. Refute it at one input. -/
def scanShiftsWrong : ChangeSpec := { name := "scanShifts", fn := fun _ => fun
  | [d1, d2, d3, d4, d5] => { results := [.lit (.bool false)], args := [d1, d2, d3, d4, d5] }
  | _ => none }
def ScanShiftsWrongFalsely : Prop := scanShiftsRow.holds Tryz.pinned (OpenSpec.ofChange scanShiftsWrong)

/-- 'netlablaw31.ScanTests': WHATEVER THE INPUT: true; the input reads as it did. -/
def scanTestsSpec : ChangeSpec := { name := "scanTests", fn := fun _ => fun
  | [d1, d2, d3, d4] => { results := [.lit (.bool true)], args := [d1, d2, d3, d4] }
  | _ => none }
def scanTestsRow : OpenClaim := { program := "ytnejoceplinjpaagreat", sum := "5c4cdb938dc4e380d39fcd7289b931908a909bfda6666afc8431d18268ebb945", func := "netlab/netlablaw31.ScanTests", spec := "scanTests", inPlace := ["slices.overlaps[int]"], unfollowed := true, recurses := true, apart := false }
def ScanTestsSaid : Prop := scanTestsRow.holds Tryz.pinned (OpenSpec.ofChange scanTestsSpec)

/-- ITS FALSE NEIGHBOUR: 'it returns false'. Refute it at one input. -/
def scanTestsWrong : ChangeSpec := { name := "scanTests", fn := fun _ => fun
  | [d1, d2, d3, d4] => { results := [.lit (.bool false)], args := [d1, d2, d3, d4] }
  | _ => none }
def ScanTestsWrongFalsely : Prop := scanTestsRow.holds Tryz.pinned (OpenSpec.ofChange scanTestsWrong)

/- THE SECOND FORM. 'bulk': how many values and letters a reading holds, each counted each time it is reached (what is shared counts as often as it is met; a slice's spare places count too). A statement '..UptoSaid' is the law's where the arguments, and the package variables that the reading takes, are together of bulk at most 1048576: NARROWER than '..Said'. Prove '..Said' where nothing that the law and all that it calls make is longer than what came in: it says more and counts as full. Else prove '..UptoSaid'. A law counts once. -/
mutual
def uptoBulk {H : Type} : DataW H → Nat
  | .lit (.string bytes) => bytes.length + 1
  | .lit _ => 1
  | .nil => 1
  | .ptr d => uptoBulk d + 1
  | .slice elems spare => uptoBulkAll elems + uptoBulkAll spare + 1
  | .agg parts => uptoBulkAll parts + 1
  | .iface _ d => uptoBulk d + 1
  | .map entries => uptoBulkEntries entries + 1
  | .held _ => 1
def uptoBulkAll {H : Type} : List (DataW H) → Nat
  | [] => 0
  | d :: r => uptoBulk d + uptoBulkAll r
def uptoBulkEntries {H : Type} : List (Lit × DataW H) → Nat
  | [] => 0
  | x :: r => uptoBulkEntry x + uptoBulkEntries r
def uptoBulkEntry {H : Type} : Lit × DataW H → Nat
  | (.string bytes, d) => bytes.length + uptoBulk d + 1
  | (_, d) => uptoBulk d + 1
 end
def uptoSmall : (H : Type) → List (DataW H) → Bool := fun _ ds => decide (uptoBulkAll ds ≤ 1048576)
def OpenSpec.upto (s : _root_.Go.ChangeSpec) : _root_.Go.OpenSpec := { _root_.Go.OpenSpec.ofChange s with cond := some uptoSmall }

/-- 'netlablaw31.ScanMatches', WHERE WHAT IT READS IS OF BULK AT MOST 1048576: true; the input reads as it did. -/
def scanMatchesUptoRow : OpenClaim := { program := "ytnejoceplinjpaagreat", sum := "5c4cdb938dc4e380d39fcd7289b931908a909bfda6666afc8431d18268ebb945", func := "netlab/netlablaw31.ScanMatches", spec := "scanMatches", inPlace := ["slices.overlaps[int]"], unfollowed := true, recurses := true, apart := false, narrowed := true }
def ScanMatchesUptoSaid : Prop := scanMatchesUptoRow.holds Tryz.pinned (OpenSpec.upto scanMatchesSpec)

/-- 'netlablaw31.ScanPatternMatches', WHERE WHAT IT READS IS OF BULK AT MOST 1048576: true; the input reads as it did. -/
def scanPatternMatchesUptoRow : OpenClaim := { program := "ytnejoceplinjpaagreat", sum := "5c4cdb938dc4e380d39fcd7289b931908a909bfda6666afc8431d18268ebb945", func := "netlab/netlablaw31.ScanPatternMatches", spec := "scanPatternMatches", inPlace := ["slices.overlaps[int]"], unfollowed := true, recurses := true, apart := false, narrowed := true }
def ScanPatternMatchesUptoSaid : Prop := scanPatternMatchesUptoRow.holds Tryz.pinned (OpenSpec.upto scanPatternMatchesSpec)

/-- 'netlablaw31.ScanTransparent', WHERE WHAT IT READS IS OF BULK AT MOST 1048576: true; the input reads as it did. -/
def scanTransparentUptoRow : OpenClaim := { program := "ytnejoceplinjpaagreat", sum := "5c4cdb938dc4e380d39fcd7289b931908a909bfda6666afc8431d18268ebb945", func := "netlab/netlablaw31.ScanTransparent", spec := "scanTransparent", inPlace := ["slices.overlaps[int]"], unfollowed := true, recurses := true, apart := false, narrowed := true }
def ScanTransparentUptoSaid : Prop := scanTransparentUptoRow.holds Tryz.pinned (OpenSpec.upto scanTransparentSpec)

/-- 'netlablaw31.ScanShifts', WHERE WHAT IT READS IS OF BULK AT MOST 1048576: true; the input reads as it did. -/
def scanShiftsUptoRow : OpenClaim := { program := "ytnejoceplinjpaagreat", sum := "5c4cdb938dc4e380d39fcd7289b931908a909bfda6666afc8431d18268ebb945", func := "netlab/netlablaw31.ScanShifts", spec := "scanShifts", inPlace := ["slices.overlaps[int]"], unfollowed := true, recurses := true, apart := false, narrowed := true }
def ScanShiftsUptoSaid : Prop := scanShiftsUptoRow.holds Tryz.pinned (OpenSpec.upto scanShiftsSpec)

/-- 'netlablaw31.ScanTests', WHERE WHAT IT READS IS OF BULK AT MOST 1048576: true; the input reads as it did. -/
def scanTestsUptoRow : OpenClaim := { program := "ytnejoceplinjpaagreat", sum := "5c4cdb938dc4e380d39fcd7289b931908a909bfda6666afc8431d18268ebb945", func := "netlab/netlablaw31.ScanTests", spec := "scanTests", inPlace := ["slices.overlaps[int]"], unfollowed := true, recurses := true, apart := false, narrowed := true }
def ScanTestsUptoSaid : Prop := scanTestsUptoRow.holds Tryz.pinned (OpenSpec.upto scanTestsSpec)

end Rows
end Go.Proofs.YtnejoceplinjpaaGreat
