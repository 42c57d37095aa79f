/-
  No cell of these rows narrows 'for every input' (looked for: loops, veiled, ifaces, maps, wideKeys, modest, calm, conditions, laid).
  DERIVED. THE GIVEN ROWS OF THIS SEAT. 3 by the template 'for every input the law returns true; each argument reads behind the call as it read before'; 0 by the template 'total and deterministic' (their statements: YtomakgiklpddbaaTotals.lean).
  GIVEN WITH THE SEED: the statements are not yours to turn. If you find one false, say at which input.
  Laid BY PROGRAM, IN A SANDBOX (cutbox-rows.mjs): the forced cells as the released guide's own fill.sh prints them over the translation 0ddcd8a12e0b5c41… (all of the seat's roots in one cut). By AI agents, Wed Nov 11 2026. No macro, syntax, notation, axiom, sorry.
-/
import Derived.Test.YtomakgiklpddbaaChecked
import GoSem.Claim
import GoSem.ClaimJoined
import GoSem.ClaimMapViews
import Derived.JoinedTies
import Derived.KernelRfl
namespace Go.Proofs.Ytomakgiklpddbaa
/- THE CELL 'sum', in the pinned program and in every row, IS THE sha256 OF THE DUMP (.gsa) THAT YtomakgiklpddbaaProg.lean LOADS. Nothing in Lean hashes anything: it is a label: what it is worth is what the hold of that sum in a sandbox is worth. -/
noncomputable def Try.pinned : Pinned := { name := "ytomakgiklpddbaa", sum := "0ddcd8a12e0b5c41439b98d3484eb579976cb558be801157c8d4d6229395429e", checked := Try.checked }
namespace Rows
def none {H : Type} : Left H := { results := [], args := [] }

/-- 'netlablaw16.QueueOrders': WHATEVER THE INPUT: true; the input reads as it did. -/
def queueOrdersSpec : ChangeSpec := { name := "queueOrders", fn := fun _ => fun
  | [d1, d2] => { results := [.lit (.bool true)], args := [d1, d2] }
  | _ => none }
def queueOrdersRow : OpenClaim := { program := "ytomakgiklpddbaa", sum := "0ddcd8a12e0b5c41439b98d3484eb579976cb558be801157c8d4d6229395429e", func := "netlab/netlablaw16.QueueOrders", spec := "queueOrders", unfollowed := true, recurses := true, apart := false }
def QueueOrdersSaid : Prop := queueOrdersRow.holds Try.pinned (OpenSpec.ofChange queueOrdersSpec)

/-- ITS FALSE NEIGHBOUR: 'it returns false'. Refute it at one input. -/
def queueOrdersWrong : ChangeSpec := { name := "queueOrders", fn := fun _ => fun
  | [d1, d2] => { results := [.lit (.bool false)], args := [d1, d2] }
  | _ => none }
def QueueOrdersWrongFalsely : Prop := queueOrdersRow.holds Try.pinned (OpenSpec.ofChange queueOrdersWrong)

/-- 'netlablaw16.QueueStrata': WHATEVER THE INPUT: true; the input reads as it did. -/
def queueStrataSpec : ChangeSpec := { name := "queueStrata", fn := fun _ => fun
  | [d1, d2, d3, d4] => { results := [.lit (.bool true)], args := [d1, d2, d3, d4] }
  | _ => none }
def queueStrataRow : OpenClaim := { program := "ytomakgiklpddbaa", sum := "0ddcd8a12e0b5c41439b98d3484eb579976cb558be801157c8d4d6229395429e", func := "netlab/netlablaw16.QueueStrata", spec := "queueStrata", unfollowed := true, recurses := true, apart := false }
def QueueStrataSaid : Prop := queueStrataRow.holds Try.pinned (OpenSpec.ofChange queueStrataSpec)

/-- ITS FALSE NEIGHBOUR: 'it returns false'. Refute it at one input. -/
def queueStrataWrong : ChangeSpec := { name := "queueStrata", fn := fun _ => fun
  | [d1, d2, d3, d4] => { results := [.lit (.bool false)], args := [d1, d2, d3, d4] }
  | _ => none }
def QueueStrataWrongFalsely : Prop := queueStrataRow.holds Try.pinned (OpenSpec.ofChange queueStrataWrong)

/-- 'netlablaw16.QueueChoices': WHATEVER THE INPUT: true; the input reads as it did. -/
def queueChoicesSpec : ChangeSpec := { name := "queueChoices", fn := fun _ => fun
  | [d1, d2, d3, d4] => { results := [.lit (.bool true)], args := [d1, d2, d3, d4] }
  | _ => none }
def queueChoicesRow : OpenClaim := { program := "ytomakgiklpddbaa", sum := "0ddcd8a12e0b5c41439b98d3484eb579976cb558be801157c8d4d6229395429e", func := "netlab/netlablaw16.QueueChoices", spec := "queueChoices", unfollowed := true, recurses := true, apart := false }
def QueueChoicesSaid : Prop := queueChoicesRow.holds Try.pinned (OpenSpec.ofChange queueChoicesSpec)

/-- ITS FALSE NEIGHBOUR: 'it returns false'. Refute it at one input. -/
def queueChoicesWrong : ChangeSpec := { name := "queueChoices", fn := fun _ => fun
  | [d1, d2, d3, d4] => { results := [.lit (.bool false)], args := [d1, d2, d3, d4] }
  | _ => none }
def QueueChoicesWrongFalsely : Prop := queueChoicesRow.holds Try.pinned (OpenSpec.ofChange queueChoicesWrong)

/- THE SECOND FORM. 'bulk': how many values and letters a reading holds, each counted each time it is reached (what is shared counts as often as it is met; a slice's spare places count too). A statement '..UptoSaid' is the law's where the arguments, and the package variables that the reading takes, are together of bulk at most 1048576: NARROWER than '..Said'. Prove '..Said' where nothing that the law and all that it calls make is longer than what came in: it says more and counts as full. Else prove '..UptoSaid'. A law counts once. -/
mutual
def uptoBulk {H : Type} : DataW H → Nat
  | .lit (.string bytes) => bytes.length + 1
  | .lit _ => 1
  | .nil => 1
  | .ptr d => uptoBulk d + 1
  | .slice elems spare => uptoBulkAll elems + uptoBulkAll spare + 1
  | .agg parts => uptoBulkAll parts + 1
  | .iface _ d => uptoBulk d + 1
  | .map entries => uptoBulkEntries entries + 1
  | .held _ => 1
def uptoBulkAll {H : Type} : List (DataW H) → Nat
  | [] => 0
  | d :: r => uptoBulk d + uptoBulkAll r
def uptoBulkEntries {H : Type} : List (Lit × DataW H) → Nat
  | [] => 0
  | x :: r => uptoBulkEntry x + uptoBulkEntries r
def uptoBulkEntry {H : Type} : Lit × DataW H → Nat
  | (.string bytes, d) => bytes.length + uptoBulk d + 1
  | (_, d) => uptoBulk d + 1
 end
def uptoSmall : (H : Type) → List (DataW H) → Bool := fun _ ds => decide (uptoBulkAll ds ≤ 1048576)
def OpenSpec.upto (s : _root_.Go.ChangeSpec) : _root_.Go.OpenSpec := { _root_.Go.OpenSpec.ofChange s with cond := some uptoSmall }

/-- 'netlablaw16.QueueOrders', WHERE WHAT IT READS IS OF BULK AT MOST 1048576: true; the input reads as it did. -/
def queueOrdersUptoRow : OpenClaim := { program := "ytomakgiklpddbaa", sum := "0ddcd8a12e0b5c41439b98d3484eb579976cb558be801157c8d4d6229395429e", func := "netlab/netlablaw16.QueueOrders", spec := "queueOrders", unfollowed := true, recurses := true, apart := false, narrowed := true }
def QueueOrdersUptoSaid : Prop := queueOrdersUptoRow.holds Try.pinned (OpenSpec.upto queueOrdersSpec)

/-- 'netlablaw16.QueueStrata', WHERE WHAT IT READS IS OF BULK AT MOST 1048576: true; the input reads as it did. -/
def queueStrataUptoRow : OpenClaim := { program := "ytomakgiklpddbaa", sum := "0ddcd8a12e0b5c41439b98d3484eb579976cb558be801157c8d4d6229395429e", func := "netlab/netlablaw16.QueueStrata", spec := "queueStrata", unfollowed := true, recurses := true, apart := false, narrowed := true }
def QueueStrataUptoSaid : Prop := queueStrataUptoRow.holds Try.pinned (OpenSpec.upto queueStrataSpec)

/-- 'netlablaw16.QueueChoices', WHERE WHAT IT READS IS OF BULK AT MOST 1048576: true; the input reads as it did. -/
def queueChoicesUptoRow : OpenClaim := { program := "ytomakgiklpddbaa", sum := "0ddcd8a12e0b5c41439b98d3484eb579976cb558be801157c8d4d6229395429e", func := "netlab/netlablaw16.QueueChoices", spec := "queueChoices", unfollowed := true, recurses := true, apart := false, narrowed := true }
def QueueChoicesUptoSaid : Prop := queueChoicesUptoRow.holds Try.pinned (OpenSpec.upto queueChoicesSpec)

end Rows
end Go.Proofs.Ytomakgiklpddbaa
