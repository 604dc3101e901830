/-
  No cell of these rows narrows 'for every input' (looked for: loops, veiled, ifaces, maps, wideKeys, modest, calm, conditions, laid).
  DERIVED. THE GIVEN ROWS OF THIS SEAT. 4 by the template 'for every input the law returns true; each argument reads behind the call as it read before'; 0 by the template 'total and deterministic' (their statements: YtgobepjodkggoaaTotals.lean).
  GIVEN WITH THE SEED: the statements are not yours to turn. If you find one false, say at which input.
  Laid BY PROGRAM, IN A SANDBOX (cutbox-rows.mjs): the forced cells as the released guide's own fill.sh prints them over the translation 4cb04da06a193800… (all of the seat's roots in one cut). By AI agents, Wed Nov 11 2026. No macro, syntax, notation, axiom, sorry.
-/
import Derived.Test.YtgobepjodkggoaaChecked
import GoSem.Claim
import GoSem.ClaimJoined
import GoSem.ClaimMapViews
import Derived.JoinedTies
import Derived.KernelRfl
namespace Go.Proofs.Ytgobepjodkggoaa
/- THE CELL 'sum', in the pinned program and in every row, IS THE sha256 OF THE DUMP (.gsa) THAT YtgobepjodkggoaaProg.lean LOADS. Nothing in Lean hashes anything: it is a label: what it is worth is what the hold of that sum in a sandbox is worth. -/
noncomputable def Try.pinned : Pinned := { name := "ytgobepjodkggoaa", sum := "4cb04da06a193800588c8cc766742fdb3b9bd3afd5e9ec5154dfb88e11a9fcda", checked := Try.checked }
namespace Rows
def none {H : Type} : Left H := { results := [], args := [] }

/-- 'bandplanlaw37.ClosingNeeded': WHATEVER THE INPUT: true; the input reads as it did. -/
def closingNeededSpec : ChangeSpec := { name := "closingNeeded", fn := fun _ => fun
  | [d1, d2, d3] => { results := [.lit (.bool true)], args := [d1, d2, d3] }
  | _ => none }
def closingNeededRow : OpenClaim := { program := "ytgobepjodkggoaa", sum := "4cb04da06a193800588c8cc766742fdb3b9bd3afd5e9ec5154dfb88e11a9fcda", func := "bandplan/bandplanlaw37.ClosingNeeded", spec := "closingNeeded", unfollowed := true, recurses := true, apart := false }
def ClosingNeededSaid : Prop := closingNeededRow.holds Try.pinned (OpenSpec.ofChange closingNeededSpec)

/-- ITS FALSE NEIGHBOUR: 'it returns false'. Refute it at one input. -/
def closingNeededWrong : ChangeSpec := { name := "closingNeeded", fn := fun _ => fun
  | [d1, d2, d3] => { results := [.lit (.bool false)], args := [d1, d2, d3] }
  | _ => none }
def ClosingNeededWrongFalsely : Prop := closingNeededRow.holds Try.pinned (OpenSpec.ofChange closingNeededWrong)

/-- 'bandplanlaw37.ClosingMet': WHATEVER THE INPUT: true; the input reads as it did. -/
def closingMetSpec : ChangeSpec := { name := "closingMet", fn := fun _ => fun
  | [d1, d2, d3, d4] => { results := [.lit (.bool true)], args := [d1, d2, d3, d4] }
  | _ => none }
def closingMetRow : OpenClaim := { program := "ytgobepjodkggoaa", sum := "4cb04da06a193800588c8cc766742fdb3b9bd3afd5e9ec5154dfb88e11a9fcda", func := "bandplan/bandplanlaw37.ClosingMet", spec := "closingMet", unfollowed := true, recurses := true, apart := false }
def ClosingMetSaid : Prop := closingMetRow.holds Try.pinned (OpenSpec.ofChange closingMetSpec)

/-- ITS FALSE NEIGHBOUR: 'it returns false'. Refute it at one input. -/
def closingMetWrong : ChangeSpec := { name := "closingMet", fn := fun _ => fun
  | [d1, d2, d3, d4] => { results := [.lit (.bool false)], args := [d1, d2, d3, d4] }
  | _ => none }
def ClosingMetWrongFalsely : Prop := closingMetRow.holds Try.pinned (OpenSpec.ofChange closingMetWrong)

/-- 'bandplanlaw37.ClosingRaise': WHATEVER THE INPUT: true; the input reads as it did. -/
def closingRaiseSpec : ChangeSpec := { name := "closingRaise", fn := fun _ => fun
  | [d1, d2, d3, d4] => { results := [.lit (.bool true)], args := [d1, d2, d3, d4] }
  | _ => none }
def closingRaiseRow : OpenClaim := { program := "ytgobepjodkggoaa", sum := "4cb04da06a193800588c8cc766742fdb3b9bd3afd5e9ec5154dfb88e11a9fcda", func := "bandplan/bandplanlaw37.ClosingRaise", spec := "closingRaise", unfollowed := true, recurses := true, apart := false }
def ClosingRaiseSaid : Prop := closingRaiseRow.holds Try.pinned (OpenSpec.ofChange closingRaiseSpec)

/-- ITS FALSE NEIGHBOUR: 'it returns false'. Refute it at one input. -/
def closingRaiseWrong : ChangeSpec := { name := "closingRaise", fn := fun _ => fun
  | [d1, d2, d3, d4] => { results := [.lit (.bool false)], args := [d1, d2, d3, d4] }
  | _ => none }
def ClosingRaiseWrongFalsely : Prop := closingRaiseRow.holds Try.pinned (OpenSpec.ofChange closingRaiseWrong)

/-- 'bandplanlaw37.ClosingHolds': WHATEVER THE INPUT: true; the input reads as it did. -/
def closingHoldsSpec : ChangeSpec := { name := "closingHolds", fn := fun _ => fun
  | [d1, d2, d3, d4, d5, d6, d7] => { results := [.lit (.bool true)], args := [d1, d2, d3, d4, d5, d6, d7] }
  | _ => none }
def closingHoldsRow : OpenClaim := { program := "ytgobepjodkggoaa", sum := "4cb04da06a193800588c8cc766742fdb3b9bd3afd5e9ec5154dfb88e11a9fcda", func := "bandplan/bandplanlaw37.ClosingHolds", spec := "closingHolds", unfollowed := true, recurses := true, apart := false }
def ClosingHoldsSaid : Prop := closingHoldsRow.holds Try.pinned (OpenSpec.ofChange closingHoldsSpec)

/-- ITS FALSE NEIGHBOUR: 'it returns false'. Refute it at one input. -/
def closingHoldsWrong : ChangeSpec := { name := "closingHolds", fn := fun _ => fun
  | [d1, d2, d3, d4, d5, d6, d7] => { results := [.lit (.bool false)], args := [d1, d2, d3, d4, d5, d6, d7] }
  | _ => none }
def ClosingHoldsWrongFalsely : Prop := closingHoldsRow.holds Try.pinned (OpenSpec.ofChange closingHoldsWrong)

/- THE SECOND FORM. 'bulk': how many values and letters a reading holds, each counted each time it is reached (what is shared counts as often as it is met; a slice's spare places count too). A statement '..UptoSaid' is the law's where the arguments, and the package variables that the reading takes, are together of bulk at most 1048576: NARROWER than '..Said'. Prove '..Said' where nothing that the law and all that it calls make is longer than what came in: it says more and counts as full. Else prove '..UptoSaid'. A law counts once. -/
mutual
def uptoBulk {H : Type} : DataW H → Nat
  | .lit (.string bytes) => bytes.length + 1
  | .lit _ => 1
  | .nil => 1
  | .ptr d => uptoBulk d + 1
  | .slice elems spare => uptoBulkAll elems + uptoBulkAll spare + 1
  | .agg parts => uptoBulkAll parts + 1
  | .iface _ d => uptoBulk d + 1
  | .map entries => uptoBulkEntries entries + 1
  | .held _ => 1
def uptoBulkAll {H : Type} : List (DataW H) → Nat
  | [] => 0
  | d :: r => uptoBulk d + uptoBulkAll r
def uptoBulkEntries {H : Type} : List (Lit × DataW H) → Nat
  | [] => 0
  | x :: r => uptoBulkEntry x + uptoBulkEntries r
def uptoBulkEntry {H : Type} : Lit × DataW H → Nat
  | (.string bytes, d) => bytes.length + uptoBulk d + 1
  | (_, d) => uptoBulk d + 1
 end
def uptoSmall : (H : Type) → List (DataW H) → Bool := fun _ ds => decide (uptoBulkAll ds ≤ 1048576)
def OpenSpec.upto (s : _root_.Go.ChangeSpec) : _root_.Go.OpenSpec := { _root_.Go.OpenSpec.ofChange s with cond := some uptoSmall }

/-- 'bandplanlaw37.ClosingNeeded', WHERE WHAT IT READS IS OF BULK AT MOST 1048576: true; the input reads as it did. -/
def closingNeededUptoRow : OpenClaim := { program := "ytgobepjodkggoaa", sum := "4cb04da06a193800588c8cc766742fdb3b9bd3afd5e9ec5154dfb88e11a9fcda", func := "bandplan/bandplanlaw37.ClosingNeeded", spec := "closingNeeded", unfollowed := true, recurses := true, apart := false, narrowed := true }
def ClosingNeededUptoSaid : Prop := closingNeededUptoRow.holds Try.pinned (OpenSpec.upto closingNeededSpec)

/-- 'bandplanlaw37.ClosingMet', WHERE WHAT IT READS IS OF BULK AT MOST 1048576: true; the input reads as it did. -/
def closingMetUptoRow : OpenClaim := { program := "ytgobepjodkggoaa", sum := "4cb04da06a193800588c8cc766742fdb3b9bd3afd5e9ec5154dfb88e11a9fcda", func := "bandplan/bandplanlaw37.ClosingMet", spec := "closingMet", unfollowed := true, recurses := true, apart := false, narrowed := true }
def ClosingMetUptoSaid : Prop := closingMetUptoRow.holds Try.pinned (OpenSpec.upto closingMetSpec)

/-- 'bandplanlaw37.ClosingRaise', WHERE WHAT IT READS IS OF BULK AT MOST 1048576: true; the input reads as it did. -/
def closingRaiseUptoRow : OpenClaim := { program := "ytgobepjodkggoaa", sum := "4cb04da06a193800588c8cc766742fdb3b9bd3afd5e9ec5154dfb88e11a9fcda", func := "bandplan/bandplanlaw37.ClosingRaise", spec := "closingRaise", unfollowed := true, recurses := true, apart := false, narrowed := true }
def ClosingRaiseUptoSaid : Prop := closingRaiseUptoRow.holds Try.pinned (OpenSpec.upto closingRaiseSpec)

/-- 'bandplanlaw37.ClosingHolds', WHERE WHAT IT READS IS OF BULK AT MOST 1048576: true; the input reads as it did. -/
def closingHoldsUptoRow : OpenClaim := { program := "ytgobepjodkggoaa", sum := "4cb04da06a193800588c8cc766742fdb3b9bd3afd5e9ec5154dfb88e11a9fcda", func := "bandplan/bandplanlaw37.ClosingHolds", spec := "closingHolds", unfollowed := true, recurses := true, apart := false, narrowed := true }
def ClosingHoldsUptoSaid : Prop := closingHoldsUptoRow.holds Try.pinned (OpenSpec.upto closingHoldsSpec)

end Rows
end Go.Proofs.Ytgobepjodkggoaa
