/- For every input, the law OutcomeValid returns true and its arguments read as they did. The table of worths is as the program lays it. -/
import Derived.Test.YtgobepjodkggoaaDoorRows
import Derived.Test.YtgobepjodkggoaaDoorAi8
import Derived.Test.YtgobepjodkggoaaDoorAi14
import Derived.Test.YtgobepjodkggoaaDoorCards
import Derived.Test.YtgobepjodkggoaaDoorTie
import Derived.Test.YtgobepjodkggoaaDoorPuSame
namespace Go.Proofs.YtgobepjodkggoaaDoor.lawOutcomeValid
open Go Go.Proofs Go.Proofs.YtgobepjodkggoaaDoor.Ai Go.Proofs.YtgobepjodkggoaaDoor.Dt Go.Proofs.YtgobepjodkggoaaDoor.Fn Go.ChangeShapes Go.WideShapes Go.ChangeAt Go.RowKit
set_option linter.unusedVariables false
theorem own : ownKnob Tryd.prog.godebug = none := by kernel_rfl
theorem laid : laidOutB Tryd.prog = true := by kernel_rfl
theorem rd3 : Rd Tryd.prog 3 (AV.int .i64) (fun n => (Lit.int .i64 n).wf = true) := .int Tryd.underlying3
def S_api_Winner_ok (x : S_api_Winner) : Prop := (Lit.int .i64 x.f_Station).wf = true ∧ (Lit.int .i64 x.f_Option).wf = true ∧ (Lit.int .i64 x.f_Payment).wf = true ∧ True
theorem rd48 : Rd Tryd.prog 48 S_api_Winner.enc S_api_Winner_ok := .struct (fun x => ⟨x.1, x.2.1, x.2.2.1⟩) Tryd.underlying48 (.cons (f := { name := "Station", type := 3, offset := 0, embedded := false, tag := "", pkgPath := "", byteOffset := 0 }) rd3 rfl (by kernel_rfl : Tryd.prog.cellsOf 3 = 1) (fun _ => rfl) (.cons (f := { name := "Option", type := 3, offset := 1, embedded := false, tag := "", pkgPath := "", byteOffset := 8 }) rd3 rfl (by kernel_rfl : Tryd.prog.cellsOf 3 = 1) (fun _ => rfl) (.cons (f := { name := "Payment", type := 3, offset := 2, embedded := false, tag := "", pkgPath := "", byteOffset := 16 }) rd3 rfl (by kernel_rfl : Tryd.prog.cellsOf 3 = 1) (fun _ => rfl) .nil))) (fun _ => rfl) (fun x => (by kernel_rfl : 3 = Tryd.prog.cellsOf 48)) (fun x h => by exact h)
theorem rd22 : Rd Tryd.prog 22 (fun l : List S_api_Winner => .lst false (l.map S_api_Winner.enc)) (fun l => l.length ≤ maxLen ∧ ∀ x ∈ l, S_api_Winner_ok x) := .slice Tryd.underlying22 (by kernel_rfl : Tryd.prog.cellsOf 48 = 3) (by decide) rd48 (fun _ => rfl)
theorem rd23 : Rd Tryd.prog 23 (fun l : List Int => .lst false (l.map (AV.int .i64))) (fun l => l.length ≤ maxLen ∧ ∀ x ∈ l, (Lit.int .i64 x).wf = true) := .slice Tryd.underlying23 (by kernel_rfl : Tryd.prog.cellsOf 3 = 1) (by decide) rd3 (fun _ => rfl)
def S_api_Choice_ok (x : S_api_Choice) : Prop := (Lit.int .i64 x.f_Station).wf = true ∧ (Lit.int .i64 x.f_Channel).wf = true ∧ True
theorem rd50 : Rd Tryd.prog 50 S_api_Choice.enc S_api_Choice_ok := .struct (fun x => ⟨x.1, x.2.1⟩) Tryd.underlying50 (.cons (f := { name := "Station", type := 3, offset := 0, embedded := false, tag := "", pkgPath := "", byteOffset := 0 }) rd3 rfl (by kernel_rfl : Tryd.prog.cellsOf 3 = 1) (fun _ => rfl) (.cons (f := { name := "Channel", type := 3, offset := 1, embedded := false, tag := "", pkgPath := "", byteOffset := 8 }) rd3 rfl (by kernel_rfl : Tryd.prog.cellsOf 3 = 1) (fun _ => rfl) .nil)) (fun _ => rfl) (fun x => (by kernel_rfl : 2 = Tryd.prog.cellsOf 50)) (fun x h => by exact h)
theorem rd24 : Rd Tryd.prog 24 (fun l : List S_api_Choice => .lst false (l.map S_api_Choice.enc)) (fun l => l.length ≤ maxLen ∧ ∀ x ∈ l, S_api_Choice_ok x) := .slice Tryd.underlying24 (by kernel_rfl : Tryd.prog.cellsOf 50 = 2) (by decide) rd50 (fun _ => rfl)
def S_api_Outcome_ok (x : S_api_Outcome) : Prop := (x.f_Winners.length ≤ maxLen ∧ ∀ y ∈ x.f_Winners, S_api_Winner_ok y) ∧ (x.f_Exited.length ≤ maxLen ∧ ∀ y ∈ x.f_Exited, (Lit.int .i64 y).wf = true) ∧ (x.f_Assignment.length ≤ maxLen ∧ ∀ y ∈ x.f_Assignment, S_api_Choice_ok y) ∧ (Lit.int .i64 x.f_Cost).wf = true ∧ True
theorem rd26 : Rd Tryd.prog 26 S_api_Outcome.enc S_api_Outcome_ok := .struct (fun x => ⟨x.1, x.2.1, x.2.2.1, x.2.2.2.1⟩) Tryd.underlying26 (.cons (f := { name := "Winners", type := 22, offset := 0, embedded := false, tag := "", pkgPath := "", byteOffset := 0 }) rd22 rfl (by kernel_rfl : Tryd.prog.cellsOf 22 = 1) (fun _ => rfl) (.cons (f := { name := "Exited", type := 23, offset := 1, embedded := false, tag := "", pkgPath := "", byteOffset := 24 }) rd23 rfl (by kernel_rfl : Tryd.prog.cellsOf 23 = 1) (fun _ => rfl) (.cons (f := { name := "Assignment", type := 24, offset := 2, embedded := false, tag := "", pkgPath := "", byteOffset := 48 }) rd24 rfl (by kernel_rfl : Tryd.prog.cellsOf 24 = 1) (fun _ => rfl) (.cons (f := { name := "Cost", type := 3, offset := 3, embedded := false, tag := "", pkgPath := "", byteOffset := 72 }) rd3 rfl (by kernel_rfl : Tryd.prog.cellsOf 3 = 1) (fun _ => rfl) .nil)))) (fun _ => rfl) (fun x => (by kernel_rfl : 4 = Tryd.prog.cellsOf 26)) (fun x h => by exact h)
theorem means (x : S_api_Outcome × S_api_Outcome × Unit) (h : S_api_Outcome_ok x.1 ∧ S_api_Outcome_ok x.2.1 ∧ True) : ∃ k, bandplanlaw32_OutcomeValid.f k x.1 x.2.1 = some true := ⟨300, Pu.law_valid _ _⟩
theorem gName : Tryd.prog.globalNamed "bandplan/score.worths" = some 0 := by kernel_rfl
theorem gType : (Tryd.prog.globals[0]?).map (·.type) = some 88 := by kernel_rfl
theorem glob (W : World) (h : laidMetH Tryd.prog [("bandplan/score.worths", Rows.laid_bandplan_score_worths)] W) : GlobOk (zm W) :=
  glob_one (kk := .i64) (ns := [0, 250, 600, 1000]) (g := 0) rfl (by decide) (laid_cell gName gType Tryd.underlying88 Tryd.underlying3 (by kernel_rfl) rfl h)
theorem met (os : Os) (args : Array Value) : laidMetH Tryd.prog [("bandplan/score.worths", Rows.laid_bandplan_score_worths)] ((World.doorLaid Tryd.prog 400 os).forCall (fun _ _ => 0) ⟨#[], args, []⟩).memory :=
  laidMetH_of_parts3 (fuel := 8) (laidMet_of_run' 8 (by kernel_rfl) (by kernel_rfl)) (by kernel_rfl) (by kernel_rfl)
set_option maxRecDepth 100000 in
theorem lifted (os : Os) (started : os.Started) (H : Type) (enc : TypeId × Value → H) :
    ReturnsInHanded {} Tryd.checked os 6 .any (fun w args => (Rows.outcomeValidSpec.pre enc Tryd.prog Tryd.f6 [] false w args ∧ laidMetH Tryd.prog [("bandplan/score.worths", Rows.laid_bandplan_score_worths)] w) ∧ sizedMet enc Tryd.prog Tryd.f6 (OpenSpec.ofChange Rows.outcomeValidSpec) false w args) (Rows.outcomeValidSpec.post enc Tryd.prog Tryd.f6 false true false false) :=
  law_lifted_laid (C := Tryd.checked) (laid := [("bandplan/score.worths", Rows.laid_bandplan_score_worths)]) own started (by kernel_rfl) Tryd.func6
    (ChangeSpec.witness_shaped (enc := enc) (C := Tryd.checked) (os := os) (X := fun w _ => laidMetH Tryd.prog [("bandplan/score.worths", Rows.laid_bandplan_score_worths)] w) false (World.doorLaid Tryd.prog 400 os) #[(.agg #[.slice none 0 0, .slice none 0 0, .slice none 0 0, .int .i64 0]), (.agg #[.slice none 0 0, .slice none 0 0, .slice none 0 0, .int .i64 0])] 8 rfl (World.shaped_of_RefB (by kernel_rfl) (by kernel_rfl)) (by kernel_rfl) (by kernel_rfl) (by kernel_rfl) (met os _))
    laid (by kernel_rfl) rfl rfl Tryd.underlying4 (fun ds h => match ds, h with | [_, _], _ => rfl) glob
    ((RdL.cons (RdA.struct Tryd.underlying26 rd26 (fun _ => ⟨_, rfl⟩)) (RdL.cons (RdA.struct Tryd.underlying26 rd26 (fun _ => ⟨_, rfl⟩)) RdL.nil)) : RdL Tryd.prog [26, 26] _ _) bandplanlaw32_OutcomeValid.ok (fun x h => let ⟨k, hk⟩ := means x h; ⟨k, x.1, x.2.1, true, rfl, hk, rfl⟩)
theorem row_holds : Rows.OutcomeValidSaid :=
  OpenClaim.holds_of_wide 6 Tryd.f6 rfl rfl rfl rfl rfl rfl rfl ⟨rfl, rfl, rfl, rfl, rfl⟩ rfl rfl rfl rfl rfl (by kernel_rfl) Tryd.func6 (by kernel_rfl)
    (of_decide_eq_true (by kernel_rfl)) (by unfold Func.isWrapper; first | (rw [if_pos (by decide +kernel)]; kernel_rfl) | (rw [if_neg (by decide +kernel)]; exact ⟨rfl, rfl⟩))
    (fun os started H enc _ => lifted os started H enc)
theorem proved : Rows.OutcomeValidCardSaid :=
  Claim7.holds_tied_plain_at .later [] [.data] true (true, "52de57d0dfbfd806e2705b01de295a258654215b5ebaa80dde70eeab5c8826be") false
    row_holds (fun _ h => by cases h) (by kernel_rfl) (fun _ h => by cases h) outcomeValid_row_tie rfl ⟨rfl, rfl⟩ (by kernel_rfl) rfl
    (fun f fn hf hfn => by
      obtain rfl : f = 6 := Option.some.inj ((show Tryd.prog.funcNamed "bandplan/bandplanlaw32.OutcomeValid" = some 6 by kernel_rfl).symm.trans hf) |>.symm
      obtain rfl : fn = Tryd.f6 := (Option.some.inj (Tryd.func6.symm.trans hfn)).symm
      exact ⟨by kernel_rfl, fun j t ht => by
        rw [Tryd.params6] at ht
        have hm : t ∈ [26, 26] := by simpa using Array.mem_of_getElem? ht
        have hall : ([26, 26].all fun u => !Tryd.prog.wantsStandIn u) = true := by kernel_rfl
        exact (show Tryd.prog.wantsStandIn t = false by simpa using List.all_eq_true.1 hall t hm)⟩)
    (by kernel_rfl)
#print axioms proved
end Go.Proofs.YtgobepjodkggoaaDoor.lawOutcomeValid
