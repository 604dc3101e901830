/-
  DERIVED. GIVEN WITH THE SEED: THE CARDS: each row of YtelgmdljcbkniaaDoorRows.lean that lists a variable, with what it lists TIED to the program's text (the seventh form; the later family's looks); each row that meets fmt, with fmt's text TOLD by the authors' own Lean function (tested against real Go, not proved from fmt's source: count such statements apart). THE CARD IS WHAT COUNTS. Prove the row's statement (the work); the ties are given (YtelgmdljcbkniaaDoorTie.lean); close each card by the builder's one call (the guide's Derived/Test/ToyasCard.lean, 'card_holds'). Laid BY PROGRAM, IN A SANDBOX (cutbox-door.mjs). By AI agents, Wed Nov 11 2026. No macro, syntax, notation, axiom, sorry.
-/
import Derived.Test.YtelgmdljcbkniaaDoorRows
import GoSem.ClaimSeven
namespace Go.Proofs.YtelgmdljcbkniaaDoor
namespace Rows

/-- THE TIED CARD OF 'bandplanlaw18.PropagateOrders'. -/
def propagateOrdersCard : Claim7 := { stood := { row := propagateOrdersRow, standIns := [], harness := (true, "4a1cbabbcbb483a6fe7989b5891f668c9c1b90a205d1f93eaf58669c1572e06c"), looks := false }, kinds := [], alts := [], laidByText := true, laidKinds := [.data], laidTests := true, laidLooks := .later }
def PropagateOrdersCardSaid : Prop := Claim7.holds Tryd.pinned (.plain (OpenSpec.ofChange propagateOrdersSpec)) propagateOrdersCard

/-- THE TIED CARD OF 'bandplanlaw18.PropagateHolds'. -/
def propagateHoldsCard : Claim7 := { stood := { row := propagateHoldsRow, standIns := [], harness := (true, "4a1cbabbcbb483a6fe7989b5891f668c9c1b90a205d1f93eaf58669c1572e06c"), looks := false }, kinds := [], alts := [], laidByText := true, laidKinds := [.data], laidTests := true, laidLooks := .later }
def PropagateHoldsCardSaid : Prop := Claim7.holds Tryd.pinned (.plain (OpenSpec.ofChange propagateHoldsSpec)) propagateHoldsCard

/-- THE TIED CARD OF 'bandplanlaw18.PropagateGrows'. -/
def propagateGrowsCard : Claim7 := { stood := { row := propagateGrowsRow, standIns := [], harness := (true, "4a1cbabbcbb483a6fe7989b5891f668c9c1b90a205d1f93eaf58669c1572e06c"), looks := false }, kinds := [], alts := [], laidByText := true, laidKinds := [.data], laidTests := true, laidLooks := .later }
def PropagateGrowsCardSaid : Prop := Claim7.holds Tryd.pinned (.plain (OpenSpec.ofChange propagateGrowsSpec)) propagateGrowsCard

/-- THE TIED CARD OF 'bandplanlaw18.PropagateNone'. -/
def propagateNoneCard : Claim7 := { stood := { row := propagateNoneRow, standIns := [], harness := (true, "4a1cbabbcbb483a6fe7989b5891f668c9c1b90a205d1f93eaf58669c1572e06c"), looks := false }, kinds := [], alts := [], laidByText := true, laidKinds := [.data], laidTests := true, laidLooks := .later }
def PropagateNoneCardSaid : Prop := Claim7.holds Tryd.pinned (.plain (OpenSpec.ofChange propagateNoneSpec)) propagateNoneCard

/-- THE SECOND FORM's CARD OF 'bandplanlaw18.PropagateOrders'. -/
def propagateOrdersUptoCard : Claim7 := { stood := { row := propagateOrdersUptoRow, standIns := [], harness := (true, "4a1cbabbcbb483a6fe7989b5891f668c9c1b90a205d1f93eaf58669c1572e06c"), looks := false }, kinds := [], alts := [], laidByText := true, laidKinds := [.data], laidTests := true, laidLooks := .later }
def PropagateOrdersUptoCardSaid : Prop := Claim7.holds Tryd.pinned (.plain (OpenSpec.upto propagateOrdersSpec)) propagateOrdersUptoCard

/-- THE SECOND FORM's CARD OF 'bandplanlaw18.PropagateHolds'. -/
def propagateHoldsUptoCard : Claim7 := { stood := { row := propagateHoldsUptoRow, standIns := [], harness := (true, "4a1cbabbcbb483a6fe7989b5891f668c9c1b90a205d1f93eaf58669c1572e06c"), looks := false }, kinds := [], alts := [], laidByText := true, laidKinds := [.data], laidTests := true, laidLooks := .later }
def PropagateHoldsUptoCardSaid : Prop := Claim7.holds Tryd.pinned (.plain (OpenSpec.upto propagateHoldsSpec)) propagateHoldsUptoCard

/-- THE SECOND FORM's CARD OF 'bandplanlaw18.PropagateGrows'. -/
def propagateGrowsUptoCard : Claim7 := { stood := { row := propagateGrowsUptoRow, standIns := [], harness := (true, "4a1cbabbcbb483a6fe7989b5891f668c9c1b90a205d1f93eaf58669c1572e06c"), looks := false }, kinds := [], alts := [], laidByText := true, laidKinds := [.data], laidTests := true, laidLooks := .later }
def PropagateGrowsUptoCardSaid : Prop := Claim7.holds Tryd.pinned (.plain (OpenSpec.upto propagateGrowsSpec)) propagateGrowsUptoCard

/-- THE SECOND FORM's CARD OF 'bandplanlaw18.PropagateNone'. -/
def propagateNoneUptoCard : Claim7 := { stood := { row := propagateNoneUptoRow, standIns := [], harness := (true, "4a1cbabbcbb483a6fe7989b5891f668c9c1b90a205d1f93eaf58669c1572e06c"), looks := false }, kinds := [], alts := [], laidByText := true, laidKinds := [.data], laidTests := true, laidLooks := .later }
def PropagateNoneUptoCardSaid : Prop := Claim7.holds Tryd.pinned (.plain (OpenSpec.upto propagateNoneSpec)) propagateNoneUptoCard
end Rows
end Go.Proofs.YtelgmdljcbkniaaDoor
