/- For every input, the law ClosingNeeded returns true and its arguments read as they did. No conditions. -/
import Derived.Test.YtgobepjodkggoaaRows
import Derived.Test.YtgobepjodkggoaaAi8
import Derived.Test.YtgobepjodkggoaaPu
namespace Go.Proofs.Ytgobepjodkggoaa.lawClosingNeeded
open Go Go.Proofs Go.Proofs.Ytgobepjodkggoaa.Ai Go.Proofs.Ytgobepjodkggoaa.Dt Go.Proofs.Ytgobepjodkggoaa.Fn Go.ChangeShapes Go.WideShapes Go.ChangeAt Go.RowKit
set_option linter.unusedVariables false
theorem own : ownKnob Try.prog.godebug = none := by kernel_rfl
theorem laid : laidOutB Try.prog = true := by kernel_rfl
theorem rd3 : Rd Try.prog 3 (AV.int .i64) (fun n => (Lit.int .i64 n).wf = true) := .int Try.underlying3
def S_api_Terms_ok (x : S_api_Terms) : Prop := (Lit.int .i64 x.f_Fixed).wf = true ∧ (Lit.int .i64 x.f_Benchmark).wf = true ∧ True
theorem rd23 : Rd Try.prog 23 S_api_Terms.enc S_api_Terms_ok := .struct (fun x => ⟨x.1, x.2.1⟩) Try.underlying23 (.cons (f := { name := "Fixed", type := 3, offset := 0, embedded := false, tag := "", pkgPath := "", byteOffset := 0 }) rd3 rfl (by kernel_rfl : Try.prog.cellsOf 3 = 1) (fun _ => rfl) (.cons (f := { name := "Benchmark", type := 3, offset := 1, embedded := false, tag := "", pkgPath := "", byteOffset := 8 }) rd3 rfl (by kernel_rfl : Try.prog.cellsOf 3 = 1) (fun _ => rfl) .nil)) (fun _ => rfl) (fun x => (by kernel_rfl : 2 = Try.prog.cellsOf 23)) (fun x h => by exact h)
theorem means (x : S_api_Terms × Int × Int × Unit) (h : S_api_Terms_ok x.1 ∧ (Lit.int .i64 x.2.1).wf = true ∧ (Lit.int .i64 x.2.2.1).wf = true ∧ True) : ∃ k, bandplanlaw37_ClosingNeeded.f k x.1 x.2.1 x.2.2.1 = some true := ⟨20, Pu.law_needed _ _ _⟩
set_option maxRecDepth 100000 in
theorem lifted (os : Os) (started : os.Started) (H : Type) (enc : TypeId × Value → H) :
    ReturnsInHanded {} Try.checked os 3 .any (Rows.closingNeededSpec.pre6 enc Try.prog Try.f3 Rows.closingNeededRow.domain false) (Rows.closingNeededSpec.post enc Try.prog Try.f3 false true false false) :=
  law_lifted (C := Try.checked) own started (by kernel_rfl) Try.func3
    (ChangeSpec.witness6 (enc := enc) (C := Try.checked) false ⟨#[], #[(.agg #[.int .i64 0, .int .i64 0]), (.int .i64 0), (.int .i64 0)], []⟩ 8 (by kernel_rfl) (by kernel_rfl) (by kernel_rfl) (by kernel_rfl))
    laid (by kernel_rfl) rfl rfl Try.underlying4 (fun ds h => match ds, h with | [_, _, _], _ => rfl)
    ((RdL.cons (RdA.struct Try.underlying23 rd23 (fun _ => ⟨_, rfl⟩)) (RdL.cons (RdA.int (k := .i64) Try.underlying3) (RdL.cons (RdA.int (k := .i64) Try.underlying3) RdL.nil))) : RdL Try.prog [23, 3, 3] _ _) bandplanlaw37_ClosingNeeded.ok (fun x h => let ⟨k, hk⟩ := means x h; ⟨k, x.1, x.2.1, x.2.2.1, true, rfl, hk, rfl⟩)
theorem proved : Rows.ClosingNeededSaid :=
  OpenClaim.holds_of_wide 3 Try.f3 rfl rfl rfl rfl rfl rfl rfl ⟨rfl, rfl, rfl, rfl, rfl⟩ rfl rfl rfl rfl rfl (by kernel_rfl) Try.func3 (by kernel_rfl)
    (of_decide_eq_true (by kernel_rfl)) (by unfold Func.isWrapper; first | (rw [if_pos (by decide +kernel)]; kernel_rfl) | (rw [if_neg (by decide +kernel)]; exact ⟨rfl, rfl⟩))
    (fun os started H enc _ => lifted os started H enc)
#print axioms proved
end Go.Proofs.Ytgobepjodkggoaa.lawClosingNeeded
