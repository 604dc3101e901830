/-
  DERIVED. GIVEN WITH THE SEED: THE CARDS: each row of YtelgmdljcbkniaaGreatDoorRows.lean that lists a variable, with what it lists TIED to the program's text (the seventh form; the later family's looks); each row that meets fmt, with fmt's text TOLD by the authors' own Lean function (tested against real Go, not proved from fmt's source: count such statements apart). THE CARD IS WHAT COUNTS. Prove the row's statement (the work); the ties are given (YtelgmdljcbkniaaGreatDoorTie.lean); close each card by the builder's one call (the guide's Derived/Test/ToyasCard.lean, 'card_holds'). Laid BY PROGRAM, IN A SANDBOX (cutbox-door.mjs). By AI agents, Wed Nov 11 2026. No macro, syntax, notation, axiom, sorry.
-/
import Derived.Test.YtelgmdljcbkniaaGreatDoorRows
import GoSem.ClaimSeven
namespace Go.Proofs.YtelgmdljcbkniaaGreatDoor
namespace Rows

/-- THE TIED CARD OF 'bandplanlaw21.NogoodValid'. -/
def nogoodValidCard : Claim7 := { stood := { row := nogoodValidRow, standIns := [], harness := (true, "d1a9edfbf94fe0637b53ebe133b37298866d2f53c22c63fa998ebb4f8748e52e"), looks := true }, kinds := [], alts := [], laidByText := true, laidKinds := [.data], laidTests := true, laidLooks := .later }
def NogoodValidCardSaid : Prop := Claim7.holds Tryz.pinned (.plain (OpenSpec.ofChange nogoodValidSpec)) nogoodValidCard

/-- THE TIED CARD OF 'bandplanlaw21.NogoodFollows'. -/
def nogoodFollowsCard : Claim7 := { stood := { row := nogoodFollowsRow, standIns := [], harness := (true, "d1a9edfbf94fe0637b53ebe133b37298866d2f53c22c63fa998ebb4f8748e52e"), looks := true }, kinds := [], alts := [], laidByText := true, laidKinds := [.data], laidTests := true, laidLooks := .later }
def NogoodFollowsCardSaid : Prop := Claim7.holds Tryz.pinned (.plain (OpenSpec.ofChange nogoodFollowsSpec)) nogoodFollowsCard

/-- THE TIED CARD OF 'bandplanlaw21.NogoodAdds'. -/
def nogoodAddsCard : Claim7 := { stood := { row := nogoodAddsRow, standIns := [], harness := (true, "d1a9edfbf94fe0637b53ebe133b37298866d2f53c22c63fa998ebb4f8748e52e"), looks := true }, kinds := [], alts := [], laidByText := true, laidKinds := [.data], laidTests := true, laidLooks := .later }
def NogoodAddsCardSaid : Prop := Claim7.holds Tryz.pinned (.plain (OpenSpec.ofChange nogoodAddsSpec)) nogoodAddsCard

/-- THE TIED CARD OF 'bandplanlaw21.NogoodNone'. -/
def nogoodNoneCard : Claim7 := { stood := { row := nogoodNoneRow, standIns := [], harness := (true, "d1a9edfbf94fe0637b53ebe133b37298866d2f53c22c63fa998ebb4f8748e52e"), looks := true }, kinds := [], alts := [], laidByText := true, laidKinds := [.data], laidTests := true, laidLooks := .later }
def NogoodNoneCardSaid : Prop := Claim7.holds Tryz.pinned (.plain (OpenSpec.ofChange nogoodNoneSpec)) nogoodNoneCard

/-- THE TIED CARD OF 'bandplanlaw23.ProofChecks'. -/
def proofChecksCard : Claim7 := { stood := { row := proofChecksRow, standIns := [], harness := (true, "d1a9edfbf94fe0637b53ebe133b37298866d2f53c22c63fa998ebb4f8748e52e"), looks := true }, kinds := [], alts := [], laidByText := true, laidKinds := [.data], laidTests := true, laidLooks := .later }
def ProofChecksCardSaid : Prop := Claim7.holds Tryz.pinned (.plain (OpenSpec.ofChange proofChecksSpec)) proofChecksCard

/-- THE TIED CARD OF 'bandplanlaw23.ProofDepends'. -/
def proofDependsCard : Claim7 := { stood := { row := proofDependsRow, standIns := [], harness := (true, "d1a9edfbf94fe0637b53ebe133b37298866d2f53c22c63fa998ebb4f8748e52e"), looks := true }, kinds := [], alts := [], laidByText := true, laidKinds := [.data], laidTests := true, laidLooks := .later }
def ProofDependsCardSaid : Prop := Claim7.holds Tryz.pinned (.plain (OpenSpec.ofChange proofDependsSpec)) proofDependsCard

/-- THE TIED CARD OF 'bandplanlaw23.ProofEncodes'. -/
def proofEncodesCard : Claim7 := { stood := { row := proofEncodesRow, standIns := [], harness := (true, "d1a9edfbf94fe0637b53ebe133b37298866d2f53c22c63fa998ebb4f8748e52e"), looks := true }, kinds := [], alts := [], laidByText := true, laidKinds := [.data], laidTests := true, laidLooks := .later }
def ProofEncodesCardSaid : Prop := Claim7.holds Tryz.pinned (.plain (OpenSpec.ofChange proofEncodesSpec)) proofEncodesCard

/-- THE TIED CARD OF 'bandplanlaw23.ProofLimits'. -/
def proofLimitsCard : Claim7 := { stood := { row := proofLimitsRow, standIns := [], harness := (true, "d1a9edfbf94fe0637b53ebe133b37298866d2f53c22c63fa998ebb4f8748e52e"), looks := true }, kinds := [], alts := [], laidByText := true, laidKinds := [.data], laidTests := true, laidLooks := .later }
def ProofLimitsCardSaid : Prop := Claim7.holds Tryz.pinned (.plain (OpenSpec.ofChange proofLimitsSpec)) proofLimitsCard

/-- THE SECOND FORM's CARD OF 'bandplanlaw21.NogoodValid'. -/
def nogoodValidUptoCard : Claim7 := { stood := { row := nogoodValidUptoRow, standIns := [], harness := (true, "d1a9edfbf94fe0637b53ebe133b37298866d2f53c22c63fa998ebb4f8748e52e"), looks := true }, kinds := [], alts := [], laidByText := true, laidKinds := [.data], laidTests := true, laidLooks := .later }
def NogoodValidUptoCardSaid : Prop := Claim7.holds Tryz.pinned (.plain (OpenSpec.upto nogoodValidSpec)) nogoodValidUptoCard

/-- THE SECOND FORM's CARD OF 'bandplanlaw21.NogoodFollows'. -/
def nogoodFollowsUptoCard : Claim7 := { stood := { row := nogoodFollowsUptoRow, standIns := [], harness := (true, "d1a9edfbf94fe0637b53ebe133b37298866d2f53c22c63fa998ebb4f8748e52e"), looks := true }, kinds := [], alts := [], laidByText := true, laidKinds := [.data], laidTests := true, laidLooks := .later }
def NogoodFollowsUptoCardSaid : Prop := Claim7.holds Tryz.pinned (.plain (OpenSpec.upto nogoodFollowsSpec)) nogoodFollowsUptoCard

/-- THE SECOND FORM's CARD OF 'bandplanlaw21.NogoodAdds'. -/
def nogoodAddsUptoCard : Claim7 := { stood := { row := nogoodAddsUptoRow, standIns := [], harness := (true, "d1a9edfbf94fe0637b53ebe133b37298866d2f53c22c63fa998ebb4f8748e52e"), looks := true }, kinds := [], alts := [], laidByText := true, laidKinds := [.data], laidTests := true, laidLooks := .later }
def NogoodAddsUptoCardSaid : Prop := Claim7.holds Tryz.pinned (.plain (OpenSpec.upto nogoodAddsSpec)) nogoodAddsUptoCard

/-- THE SECOND FORM's CARD OF 'bandplanlaw21.NogoodNone'. -/
def nogoodNoneUptoCard : Claim7 := { stood := { row := nogoodNoneUptoRow, standIns := [], harness := (true, "d1a9edfbf94fe0637b53ebe133b37298866d2f53c22c63fa998ebb4f8748e52e"), looks := true }, kinds := [], alts := [], laidByText := true, laidKinds := [.data], laidTests := true, laidLooks := .later }
def NogoodNoneUptoCardSaid : Prop := Claim7.holds Tryz.pinned (.plain (OpenSpec.upto nogoodNoneSpec)) nogoodNoneUptoCard

/-- THE SECOND FORM's CARD OF 'bandplanlaw23.ProofChecks'. -/
def proofChecksUptoCard : Claim7 := { stood := { row := proofChecksUptoRow, standIns := [], harness := (true, "d1a9edfbf94fe0637b53ebe133b37298866d2f53c22c63fa998ebb4f8748e52e"), looks := true }, kinds := [], alts := [], laidByText := true, laidKinds := [.data], laidTests := true, laidLooks := .later }
def ProofChecksUptoCardSaid : Prop := Claim7.holds Tryz.pinned (.plain (OpenSpec.upto proofChecksSpec)) proofChecksUptoCard

/-- THE SECOND FORM's CARD OF 'bandplanlaw23.ProofDepends'. -/
def proofDependsUptoCard : Claim7 := { stood := { row := proofDependsUptoRow, standIns := [], harness := (true, "d1a9edfbf94fe0637b53ebe133b37298866d2f53c22c63fa998ebb4f8748e52e"), looks := true }, kinds := [], alts := [], laidByText := true, laidKinds := [.data], laidTests := true, laidLooks := .later }
def ProofDependsUptoCardSaid : Prop := Claim7.holds Tryz.pinned (.plain (OpenSpec.upto proofDependsSpec)) proofDependsUptoCard

/-- THE SECOND FORM's CARD OF 'bandplanlaw23.ProofEncodes'. -/
def proofEncodesUptoCard : Claim7 := { stood := { row := proofEncodesUptoRow, standIns := [], harness := (true, "d1a9edfbf94fe0637b53ebe133b37298866d2f53c22c63fa998ebb4f8748e52e"), looks := true }, kinds := [], alts := [], laidByText := true, laidKinds := [.data], laidTests := true, laidLooks := .later }
def ProofEncodesUptoCardSaid : Prop := Claim7.holds Tryz.pinned (.plain (OpenSpec.upto proofEncodesSpec)) proofEncodesUptoCard

/-- THE SECOND FORM's CARD OF 'bandplanlaw23.ProofLimits'. -/
def proofLimitsUptoCard : Claim7 := { stood := { row := proofLimitsUptoRow, standIns := [], harness := (true, "d1a9edfbf94fe0637b53ebe133b37298866d2f53c22c63fa998ebb4f8748e52e"), looks := true }, kinds := [], alts := [], laidByText := true, laidKinds := [.data], laidTests := true, laidLooks := .later }
def ProofLimitsUptoCardSaid : Prop := Claim7.holds Tryz.pinned (.plain (OpenSpec.upto proofLimitsSpec)) proofLimitsUptoCard
end Rows
end Go.Proofs.YtelgmdljcbkniaaGreatDoor
