/-
  NARROWER THAN 'FOR EVERY INPUT', by the rows' own cells (each row's printed sentence says how): NogoodValid: laid · NogoodFollows: laid · NogoodAdds: laid · NogoodNone: laid · ProofChecks: laid · ProofDepends: laid · ProofEncodes: laid · ProofLimits: laid.
  DERIVED. THE GIVEN ROWS OF THIS SEAT. 8 by the template 'for every input the law returns true; each argument reads behind the call as it read before'; 0 by the template 'total and deterministic' (their statements: YtelgmdljcbkniaaGreatDoorTotals.lean).
  GIVEN WITH THE SEED: the statements are not yours to turn. If you find one false, say at which input.
  Laid BY PROGRAM, IN A SANDBOX (cutbox-rows.mjs): the forced cells as the released guide's own fill.sh prints them over the translation e3637a120b3615c5… (all of the seat's roots in one cut). By AI agents, Wed Nov 11 2026. No macro, syntax, notation, axiom, sorry.
-/
import Derived.Test.YtelgmdljcbkniaaGreatDoorChecked
import GoSem.Claim
import GoSem.ClaimJoined
import GoSem.ClaimMapViews
import Derived.JoinedTies
import Derived.KernelRfl
namespace Go.Proofs.YtelgmdljcbkniaaGreatDoor
/- THE CELL 'sum', in the pinned program and in every row, IS THE sha256 OF THE DUMP (.gsa) THAT YtelgmdljcbkniaaGreatDoorProg.lean LOADS. Nothing in Lean hashes anything: it is a label: what it is worth is what the hold of that sum in a sandbox is worth. -/
noncomputable def Tryz.pinned : Pinned := { name := "ytelgmdljcbkniaagreatdoor", sum := "e3637a120b3615c5dbfb2785afc6f09a1a235bc4a1796dfd57a72b8aabfa25d5", checked := Tryz.checked }
namespace Rows
def none {H : Type} : Left H := { results := [], args := [] }

/- WHAT THE LISTED PACKAGE-LEVEL VARIABLES READ AS WHEN THE CALL BEGINS. Each datum BY PROGRAM (the guide's laid-datum.mjs) off the statement by which the dump's own 'gosem.cut.vars' lays the variable. In a bare row this is a premise. The card (YtelgmdljcbkniaaGreatDoorCards.lean) ties it to the program's text. -/
def laid_math_bits_deBruijn64tab {H : Type} : DataW H := .agg [.lit (.int .u8 0), .lit (.int .u8 1), .lit (.int .u8 56), .lit (.int .u8 2), .lit (.int .u8 57), .lit (.int .u8 49), .lit (.int .u8 28), .lit (.int .u8 3), .lit (.int .u8 61), .lit (.int .u8 58), .lit (.int .u8 42), .lit (.int .u8 50), .lit (.int .u8 38), .lit (.int .u8 29), .lit (.int .u8 17), .lit (.int .u8 4), .lit (.int .u8 62), .lit (.int .u8 47), .lit (.int .u8 59), .lit (.int .u8 36), .lit (.int .u8 45), .lit (.int .u8 43), .lit (.int .u8 51), .lit (.int .u8 22), .lit (.int .u8 53), .lit (.int .u8 39), .lit (.int .u8 33), .lit (.int .u8 30), .lit (.int .u8 24), .lit (.int .u8 18), .lit (.int .u8 12), .lit (.int .u8 5), .lit (.int .u8 63), .lit (.int .u8 55), .lit (.int .u8 48), .lit (.int .u8 27), .lit (.int .u8 60), .lit (.int .u8 41), .lit (.int .u8 37), .lit (.int .u8 16), .lit (.int .u8 46), .lit (.int .u8 35), .lit (.int .u8 44), .lit (.int .u8 21), .lit (.int .u8 52), .lit (.int .u8 32), .lit (.int .u8 23), .lit (.int .u8 11), .lit (.int .u8 54), .lit (.int .u8 26), .lit (.int .u8 40), .lit (.int .u8 15), .lit (.int .u8 34), .lit (.int .u8 20), .lit (.int .u8 31), .lit (.int .u8 10), .lit (.int .u8 25), .lit (.int .u8 14), .lit (.int .u8 19), .lit (.int .u8 9), .lit (.int .u8 13), .lit (.int .u8 8), .lit (.int .u8 7), .lit (.int .u8 6)]

/-- 'bandplanlaw21.NogoodValid': WHATEVER THE INPUT: true; the input reads as it did. -/
def nogoodValidSpec : ChangeSpec := { name := "nogoodValid", fn := fun _ => fun
  | [d1, d2, d3] => { results := [.lit (.bool true)], args := [d1, d2, d3] }
  | _ => none }
def nogoodValidRow : OpenClaim := { program := "ytelgmdljcbkniaagreatdoor", sum := "e3637a120b3615c5dbfb2785afc6f09a1a235bc4a1796dfd57a72b8aabfa25d5", func := "bandplan/bandplanlaw21.NogoodValid", spec := "nogoodValid", unfollowed := true, recurses := true, named := ["math/bits.deBruijn64tab"], apart := false, laid := [("math/bits.deBruijn64tab", laid_math_bits_deBruijn64tab)] }
def NogoodValidSaid : Prop := nogoodValidRow.holds Tryz.pinned (OpenSpec.ofChange nogoodValidSpec)

/-- ITS FALSE NEIGHBOUR: 'it returns false'. Refute it at one input. -/
def nogoodValidWrong : ChangeSpec := { name := "nogoodValid", fn := fun _ => fun
  | [d1, d2, d3] => { results := [.lit (.bool false)], args := [d1, d2, d3] }
  | _ => none }
def NogoodValidWrongFalsely : Prop := nogoodValidRow.holds Tryz.pinned (OpenSpec.ofChange nogoodValidWrong)

/-- 'bandplanlaw21.NogoodFollows': WHATEVER THE INPUT: true; the input reads as it did. -/
def nogoodFollowsSpec : ChangeSpec := { name := "nogoodFollows", fn := fun _ => fun
  | [d1, d2, d3] => { results := [.lit (.bool true)], args := [d1, d2, d3] }
  | _ => none }
def nogoodFollowsRow : OpenClaim := { program := "ytelgmdljcbkniaagreatdoor", sum := "e3637a120b3615c5dbfb2785afc6f09a1a235bc4a1796dfd57a72b8aabfa25d5", func := "bandplan/bandplanlaw21.NogoodFollows", spec := "nogoodFollows", unfollowed := true, recurses := true, named := ["math/bits.deBruijn64tab"], apart := false, laid := [("math/bits.deBruijn64tab", laid_math_bits_deBruijn64tab)] }
def NogoodFollowsSaid : Prop := nogoodFollowsRow.holds Tryz.pinned (OpenSpec.ofChange nogoodFollowsSpec)

/-- ITS FALSE NEIGHBOUR: 'it returns false'. Refute it at one input. -/
def nogoodFollowsWrong : ChangeSpec := { name := "nogoodFollows", fn := fun _ => fun
  | [d1, d2, d3] => { results := [.lit (.bool false)], args := [d1, d2, d3] }
  | _ => none }
def NogoodFollowsWrongFalsely : Prop := nogoodFollowsRow.holds Tryz.pinned (OpenSpec.ofChange nogoodFollowsWrong)

/-- 'bandplanlaw21.NogoodAdds': WHATEVER THE INPUT: true; the input reads as it did. -/
def nogoodAddsSpec : ChangeSpec := { name := "nogoodAdds", fn := fun _ => fun
  | [d1, d2, d3] => { results := [.lit (.bool true)], args := [d1, d2, d3] }
  | _ => none }
def nogoodAddsRow : OpenClaim := { program := "ytelgmdljcbkniaagreatdoor", sum := "e3637a120b3615c5dbfb2785afc6f09a1a235bc4a1796dfd57a72b8aabfa25d5", func := "bandplan/bandplanlaw21.NogoodAdds", spec := "nogoodAdds", unfollowed := true, recurses := true, named := ["math/bits.deBruijn64tab"], apart := false, laid := [("math/bits.deBruijn64tab", laid_math_bits_deBruijn64tab)] }
def NogoodAddsSaid : Prop := nogoodAddsRow.holds Tryz.pinned (OpenSpec.ofChange nogoodAddsSpec)

/-- ITS FALSE NEIGHBOUR: 'it returns false'. Refute it at one input. -/
def nogoodAddsWrong : ChangeSpec := { name := "nogoodAdds", fn := fun _ => fun
  | [d1, d2, d3] => { results := [.lit (.bool false)], args := [d1, d2, d3] }
  | _ => none }
def NogoodAddsWrongFalsely : Prop := nogoodAddsRow.holds Tryz.pinned (OpenSpec.ofChange nogoodAddsWrong)

/-- 'bandplanlaw21.NogoodNone': WHATEVER THE INPUT: true; the input reads as it did. -/
def nogoodNoneSpec : ChangeSpec := { name := "nogoodNone", fn := fun _ => fun
  | [d] => { results := [.lit (.bool true)], args := [d] }
  | _ => none }
def nogoodNoneRow : OpenClaim := { program := "ytelgmdljcbkniaagreatdoor", sum := "e3637a120b3615c5dbfb2785afc6f09a1a235bc4a1796dfd57a72b8aabfa25d5", func := "bandplan/bandplanlaw21.NogoodNone", spec := "nogoodNone", unfollowed := true, recurses := true, named := ["math/bits.deBruijn64tab"], apart := false, laid := [("math/bits.deBruijn64tab", laid_math_bits_deBruijn64tab)] }
def NogoodNoneSaid : Prop := nogoodNoneRow.holds Tryz.pinned (OpenSpec.ofChange nogoodNoneSpec)

/-- ITS FALSE NEIGHBOUR: 'it returns false'. Refute it at one input. -/
def nogoodNoneWrong : ChangeSpec := { name := "nogoodNone", fn := fun _ => fun
  | [d] => { results := [.lit (.bool false)], args := [d] }
  | _ => none }
def NogoodNoneWrongFalsely : Prop := nogoodNoneRow.holds Tryz.pinned (OpenSpec.ofChange nogoodNoneWrong)

/-- 'bandplanlaw23.ProofChecks': WHATEVER THE INPUT: true; the input reads as it did. -/
def proofChecksSpec : ChangeSpec := { name := "proofChecks", fn := fun _ => fun
  | [d1, d2] => { results := [.lit (.bool true)], args := [d1, d2] }
  | _ => none }
def proofChecksRow : OpenClaim := { program := "ytelgmdljcbkniaagreatdoor", sum := "e3637a120b3615c5dbfb2785afc6f09a1a235bc4a1796dfd57a72b8aabfa25d5", func := "bandplan/bandplanlaw23.ProofChecks", spec := "proofChecks", unfollowed := true, recurses := true, named := ["math/bits.deBruijn64tab"], apart := false, laid := [("math/bits.deBruijn64tab", laid_math_bits_deBruijn64tab)] }
def ProofChecksSaid : Prop := proofChecksRow.holds Tryz.pinned (OpenSpec.ofChange proofChecksSpec)

/-- ITS FALSE NEIGHBOUR: 'it returns false'. Refute it at one input. -/
def proofChecksWrong : ChangeSpec := { name := "proofChecks", fn := fun _ => fun
  | [d1, d2] => { results := [.lit (.bool false)], args := [d1, d2] }
  | _ => none }
def ProofChecksWrongFalsely : Prop := proofChecksRow.holds Tryz.pinned (OpenSpec.ofChange proofChecksWrong)

/-- 'bandplanlaw23.ProofDepends': WHATEVER THE INPUT: true; the input reads as it did. -/
def proofDependsSpec : ChangeSpec := { name := "proofDepends", fn := fun _ => fun
  | [d1, d2] => { results := [.lit (.bool true)], args := [d1, d2] }
  | _ => none }
def proofDependsRow : OpenClaim := { program := "ytelgmdljcbkniaagreatdoor", sum := "e3637a120b3615c5dbfb2785afc6f09a1a235bc4a1796dfd57a72b8aabfa25d5", func := "bandplan/bandplanlaw23.ProofDepends", spec := "proofDepends", unfollowed := true, recurses := true, named := ["math/bits.deBruijn64tab"], apart := false, laid := [("math/bits.deBruijn64tab", laid_math_bits_deBruijn64tab)] }
def ProofDependsSaid : Prop := proofDependsRow.holds Tryz.pinned (OpenSpec.ofChange proofDependsSpec)

/-- ITS FALSE NEIGHBOUR: 'it returns false'. Refute it at one input. -/
def proofDependsWrong : ChangeSpec := { name := "proofDepends", fn := fun _ => fun
  | [d1, d2] => { results := [.lit (.bool false)], args := [d1, d2] }
  | _ => none }
def ProofDependsWrongFalsely : Prop := proofDependsRow.holds Tryz.pinned (OpenSpec.ofChange proofDependsWrong)

/-- 'bandplanlaw23.ProofEncodes': WHATEVER THE INPUT: true; the input reads as it did. -/
def proofEncodesSpec : ChangeSpec := { name := "proofEncodes", fn := fun _ => fun
  | [d1, d2] => { results := [.lit (.bool true)], args := [d1, d2] }
  | _ => none }
def proofEncodesRow : OpenClaim := { program := "ytelgmdljcbkniaagreatdoor", sum := "e3637a120b3615c5dbfb2785afc6f09a1a235bc4a1796dfd57a72b8aabfa25d5", func := "bandplan/bandplanlaw23.ProofEncodes", spec := "proofEncodes", unfollowed := true, recurses := true, named := ["math/bits.deBruijn64tab"], apart := false, laid := [("math/bits.deBruijn64tab", laid_math_bits_deBruijn64tab)] }
def ProofEncodesSaid : Prop := proofEncodesRow.holds Tryz.pinned (OpenSpec.ofChange proofEncodesSpec)

/-- ITS FALSE NEIGHBOUR: 'it returns false'. Refute it at one input. -/
def proofEncodesWrong : ChangeSpec := { name := "proofEncodes", fn := fun _ => fun
  | [d1, d2] => { results := [.lit (.bool false)], args := [d1, d2] }
  | _ => none }
def ProofEncodesWrongFalsely : Prop := proofEncodesRow.holds Tryz.pinned (OpenSpec.ofChange proofEncodesWrong)

/-- 'bandplanlaw23.ProofLimits': WHATEVER THE INPUT: true; the input reads as it did. -/
def proofLimitsSpec : ChangeSpec := { name := "proofLimits", fn := fun _ => fun
  | [] => { results := [.lit (.bool true)], args := [] }
  | _ => none }
def proofLimitsRow : OpenClaim := { program := "ytelgmdljcbkniaagreatdoor", sum := "e3637a120b3615c5dbfb2785afc6f09a1a235bc4a1796dfd57a72b8aabfa25d5", func := "bandplan/bandplanlaw23.ProofLimits", spec := "proofLimits", unfollowed := true, recurses := true, named := ["math/bits.deBruijn64tab"], apart := false, laid := [("math/bits.deBruijn64tab", laid_math_bits_deBruijn64tab)] }
def ProofLimitsSaid : Prop := proofLimitsRow.holds Tryz.pinned (OpenSpec.ofChange proofLimitsSpec)

/-- ITS FALSE NEIGHBOUR: 'it returns false'. Refute it at one input. -/
def proofLimitsWrong : ChangeSpec := { name := "proofLimits", fn := fun _ => fun
  | [] => { results := [.lit (.bool false)], args := [] }
  | _ => none }
def ProofLimitsWrongFalsely : Prop := proofLimitsRow.holds Tryz.pinned (OpenSpec.ofChange proofLimitsWrong)

/- THE SECOND FORM. 'bulk': how many values and letters a reading holds, each counted each time it is reached (what is shared counts as often as it is met; a slice's spare places count too). A statement '..UptoSaid' is the law's where the arguments, and the package variables that the reading takes, are together of bulk at most 1048576: NARROWER than '..Said'. Prove '..Said' where nothing that the law and all that it calls make is longer than what came in: it says more and counts as full. Else prove '..UptoSaid'. A law counts once. -/
mutual
def uptoBulk {H : Type} : DataW H → Nat
  | .lit (.string bytes) => bytes.length + 1
  | .lit _ => 1
  | .nil => 1
  | .ptr d => uptoBulk d + 1
  | .slice elems spare => uptoBulkAll elems + uptoBulkAll spare + 1
  | .agg parts => uptoBulkAll parts + 1
  | .iface _ d => uptoBulk d + 1
  | .map entries => uptoBulkEntries entries + 1
  | .held _ => 1
def uptoBulkAll {H : Type} : List (DataW H) → Nat
  | [] => 0
  | d :: r => uptoBulk d + uptoBulkAll r
def uptoBulkEntries {H : Type} : List (Lit × DataW H) → Nat
  | [] => 0
  | x :: r => uptoBulkEntry x + uptoBulkEntries r
def uptoBulkEntry {H : Type} : Lit × DataW H → Nat
  | (.string bytes, d) => bytes.length + uptoBulk d + 1
  | (_, d) => uptoBulk d + 1
 end
def uptoSmall : (H : Type) → List (DataW H) → Bool := fun _ ds => decide (uptoBulkAll ds ≤ 1048576)
def OpenSpec.upto (s : _root_.Go.ChangeSpec) : _root_.Go.OpenSpec := { _root_.Go.OpenSpec.ofChange s with cond := some uptoSmall }

/-- 'bandplanlaw21.NogoodValid', WHERE WHAT IT READS IS OF BULK AT MOST 1048576: true; the input reads as it did. -/
def nogoodValidUptoRow : OpenClaim := { program := "ytelgmdljcbkniaagreatdoor", sum := "e3637a120b3615c5dbfb2785afc6f09a1a235bc4a1796dfd57a72b8aabfa25d5", func := "bandplan/bandplanlaw21.NogoodValid", spec := "nogoodValid", unfollowed := true, recurses := true, named := ["math/bits.deBruijn64tab"], apart := false, laid := [("math/bits.deBruijn64tab", laid_math_bits_deBruijn64tab)], narrowed := true }
def NogoodValidUptoSaid : Prop := nogoodValidUptoRow.holds Tryz.pinned (OpenSpec.upto nogoodValidSpec)

/-- 'bandplanlaw21.NogoodFollows', WHERE WHAT IT READS IS OF BULK AT MOST 1048576: true; the input reads as it did. -/
def nogoodFollowsUptoRow : OpenClaim := { program := "ytelgmdljcbkniaagreatdoor", sum := "e3637a120b3615c5dbfb2785afc6f09a1a235bc4a1796dfd57a72b8aabfa25d5", func := "bandplan/bandplanlaw21.NogoodFollows", spec := "nogoodFollows", unfollowed := true, recurses := true, named := ["math/bits.deBruijn64tab"], apart := false, laid := [("math/bits.deBruijn64tab", laid_math_bits_deBruijn64tab)], narrowed := true }
def NogoodFollowsUptoSaid : Prop := nogoodFollowsUptoRow.holds Tryz.pinned (OpenSpec.upto nogoodFollowsSpec)

/-- 'bandplanlaw21.NogoodAdds', WHERE WHAT IT READS IS OF BULK AT MOST 1048576: true; the input reads as it did. -/
def nogoodAddsUptoRow : OpenClaim := { program := "ytelgmdljcbkniaagreatdoor", sum := "e3637a120b3615c5dbfb2785afc6f09a1a235bc4a1796dfd57a72b8aabfa25d5", func := "bandplan/bandplanlaw21.NogoodAdds", spec := "nogoodAdds", unfollowed := true, recurses := true, named := ["math/bits.deBruijn64tab"], apart := false, laid := [("math/bits.deBruijn64tab", laid_math_bits_deBruijn64tab)], narrowed := true }
def NogoodAddsUptoSaid : Prop := nogoodAddsUptoRow.holds Tryz.pinned (OpenSpec.upto nogoodAddsSpec)

/-- 'bandplanlaw21.NogoodNone', WHERE WHAT IT READS IS OF BULK AT MOST 1048576: true; the input reads as it did. -/
def nogoodNoneUptoRow : OpenClaim := { program := "ytelgmdljcbkniaagreatdoor", sum := "e3637a120b3615c5dbfb2785afc6f09a1a235bc4a1796dfd57a72b8aabfa25d5", func := "bandplan/bandplanlaw21.NogoodNone", spec := "nogoodNone", unfollowed := true, recurses := true, named := ["math/bits.deBruijn64tab"], apart := false, laid := [("math/bits.deBruijn64tab", laid_math_bits_deBruijn64tab)], narrowed := true }
def NogoodNoneUptoSaid : Prop := nogoodNoneUptoRow.holds Tryz.pinned (OpenSpec.upto nogoodNoneSpec)

/-- 'bandplanlaw23.ProofChecks', WHERE WHAT IT READS IS OF BULK AT MOST 1048576: true; the input reads as it did. -/
def proofChecksUptoRow : OpenClaim := { program := "ytelgmdljcbkniaagreatdoor", sum := "e3637a120b3615c5dbfb2785afc6f09a1a235bc4a1796dfd57a72b8aabfa25d5", func := "bandplan/bandplanlaw23.ProofChecks", spec := "proofChecks", unfollowed := true, recurses := true, named := ["math/bits.deBruijn64tab"], apart := false, laid := [("math/bits.deBruijn64tab", laid_math_bits_deBruijn64tab)], narrowed := true }
def ProofChecksUptoSaid : Prop := proofChecksUptoRow.holds Tryz.pinned (OpenSpec.upto proofChecksSpec)

/-- 'bandplanlaw23.ProofDepends', WHERE WHAT IT READS IS OF BULK AT MOST 1048576: true; the input reads as it did. -/
def proofDependsUptoRow : OpenClaim := { program := "ytelgmdljcbkniaagreatdoor", sum := "e3637a120b3615c5dbfb2785afc6f09a1a235bc4a1796dfd57a72b8aabfa25d5", func := "bandplan/bandplanlaw23.ProofDepends", spec := "proofDepends", unfollowed := true, recurses := true, named := ["math/bits.deBruijn64tab"], apart := false, laid := [("math/bits.deBruijn64tab", laid_math_bits_deBruijn64tab)], narrowed := true }
def ProofDependsUptoSaid : Prop := proofDependsUptoRow.holds Tryz.pinned (OpenSpec.upto proofDependsSpec)

/-- 'bandplanlaw23.ProofEncodes', WHERE WHAT IT READS IS OF BULK AT MOST 1048576: true; the input reads as it did. -/
def proofEncodesUptoRow : OpenClaim := { program := "ytelgmdljcbkniaagreatdoor", sum := "e3637a120b3615c5dbfb2785afc6f09a1a235bc4a1796dfd57a72b8aabfa25d5", func := "bandplan/bandplanlaw23.ProofEncodes", spec := "proofEncodes", unfollowed := true, recurses := true, named := ["math/bits.deBruijn64tab"], apart := false, laid := [("math/bits.deBruijn64tab", laid_math_bits_deBruijn64tab)], narrowed := true }
def ProofEncodesUptoSaid : Prop := proofEncodesUptoRow.holds Tryz.pinned (OpenSpec.upto proofEncodesSpec)

/-- 'bandplanlaw23.ProofLimits', WHERE WHAT IT READS IS OF BULK AT MOST 1048576: true; the input reads as it did. -/
def proofLimitsUptoRow : OpenClaim := { program := "ytelgmdljcbkniaagreatdoor", sum := "e3637a120b3615c5dbfb2785afc6f09a1a235bc4a1796dfd57a72b8aabfa25d5", func := "bandplan/bandplanlaw23.ProofLimits", spec := "proofLimits", unfollowed := true, recurses := true, named := ["math/bits.deBruijn64tab"], apart := false, laid := [("math/bits.deBruijn64tab", laid_math_bits_deBruijn64tab)], narrowed := true }
def ProofLimitsUptoSaid : Prop := proofLimitsUptoRow.holds Tryz.pinned (OpenSpec.upto proofLimitsSpec)

end Rows
end Go.Proofs.YtelgmdljcbkniaaGreatDoor
