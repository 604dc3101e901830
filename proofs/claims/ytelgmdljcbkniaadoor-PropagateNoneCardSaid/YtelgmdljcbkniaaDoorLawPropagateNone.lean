/- For every input, the law PropagateNone returns true and its arguments read as they did. The table of bits is as the program lays it. -/
import Derived.Test.YtelgmdljcbkniaaDoorRows
import Derived.Test.YtelgmdljcbkniaaDoorB39
import Derived.Test.YtelgmdljcbkniaaDoorB40
import Derived.Test.YtelgmdljcbkniaaDoorCards
import Derived.Test.YtelgmdljcbkniaaDoorTie
import Derived.Test.YtelgmdljcbkniaaDoorKn
namespace Go.Proofs.YtelgmdljcbkniaaDoor.lawPropagateNone
open Go Go.Proofs Go.Proofs.YtelgmdljcbkniaaDoor.Ai Go.Proofs.YtelgmdljcbkniaaDoor.Dt Go.Proofs.YtelgmdljcbkniaaDoor.Ti Go.ChangeShapes Go.WideShapes Go.ChangeAt Go.RowKit
set_option linter.unusedVariables false
theorem own : ownKnob Tryd.prog.godebug = none := by kernel_rfl
theorem laid : laidOutB Tryd.prog = true := by kernel_rfl
theorem rd3 : Rd Tryd.prog 3 (AV.int .i64) (fun n => (Lit.int .i64 n).wf = true) := .int Tryd.underlying3
def S_api_Choice_ok (x : S_api_Choice) : Prop := (Lit.int .i64 x.f_Station).wf = true ∧ (Lit.int .i64 x.f_Channel).wf = true ∧ True
theorem rd39 : Rd Tryd.prog 39 S_api_Choice.enc S_api_Choice_ok := .struct (fun x => ⟨x.1, x.2.1⟩) Tryd.underlying39 (.cons (f := { name := "Station", type := 3, offset := 0, embedded := false, tag := "", pkgPath := "", byteOffset := 0 }) rd3 rfl (by kernel_rfl : Tryd.prog.cellsOf 3 = 1) (fun _ => rfl) (.cons (f := { name := "Channel", type := 3, offset := 1, embedded := false, tag := "", pkgPath := "", byteOffset := 8 }) rd3 rfl (by kernel_rfl : Tryd.prog.cellsOf 3 = 1) (fun _ => rfl) .nil)) (fun _ => rfl) (fun x => (by kernel_rfl : 2 = Tryd.prog.cellsOf 39)) (fun x h => by exact h)
theorem means (x : S_api_Choice × Int × Unit) (h : S_api_Choice_ok x.1 ∧ (Lit.int .i64 x.2.1).wf = true ∧ True) : V Tryd.prog 6 [S_api_Choice.enc x.1, (AV.int .i64) x.2.1] (.bool true) := Pr.none_ok _ _ _
theorem allOk {X : Type} {P : Program} {f : Nat} {e : X → List AV} {ok : X → Prop} (h : ∀ x, ok x → V P f (e x) (.bool true)) : VOk P f fun a u => ∃ x, ok x ∧ a = e x ∧ u = .bool true := fun Z w cargs a u hg hz hr ⟨x, hx, e1, e2⟩ => (h x hx).ok Z w cargs a u hg hz hr ⟨e1, e2⟩
theorem gName : Tryd.prog.globalNamed "math/bits.deBruijn64tab" = some 0 := by kernel_rfl
theorem gType : (Tryd.prog.globals[0]?).map (·.type) = some 154 := by kernel_rfl
theorem glob (W : World) (h : laidMetH Tryd.prog [("math/bits.deBruijn64tab", Rows.laid_math_bits_deBruijn64tab)] W) : GlobOk (zm W) :=
  glob_one (kk := .u8) (ns := [0, 1, 56, 2, 57, 49, 28, 3, 61, 58, 42, 50, 38, 29, 17, 4, 62, 47, 59, 36, 45, 43, 51, 22, 53, 39, 33, 30, 24, 18, 12, 5, 63, 55, 48, 27, 60, 41, 37, 16, 46, 35, 44, 21, 52, 32, 23, 11, 54, 26, 40, 15, 34, 20, 31, 10, 25, 14, 19, 9, 13, 8, 7, 6]) (g := 0) rfl (by decide) (laid_cell gName gType Tryd.underlying154 Tryd.underlying5 (by kernel_rfl) rfl h)
theorem met (os : Os) (args : Array Value) : laidMetH Tryd.prog [("math/bits.deBruijn64tab", Rows.laid_math_bits_deBruijn64tab)] ((World.doorLaid Tryd.prog 400 os).forCall (fun _ _ => 0) ⟨#[], args, []⟩).memory :=
  laidMetH_of_parts3 (fuel := 8) (laidMet_of_run' 8 (by kernel_rfl) (by kernel_rfl)) (by kernel_rfl) (by kernel_rfl)
set_option maxRecDepth 100000 in
theorem lifted (os : Os) (started : os.Started) (H : Type) (enc : TypeId × Value → H) :
    ReturnsInHanded {} Tryd.checked os 6 .any (fun w args => (Rows.propagateNoneSpec.pre enc Tryd.prog Tryd.f6 [] false w args ∧ laidMetH Tryd.prog [("math/bits.deBruijn64tab", Rows.laid_math_bits_deBruijn64tab)] w) ∧ sizedMet enc Tryd.prog Tryd.f6 (OpenSpec.ofChange Rows.propagateNoneSpec) false w args) (Rows.propagateNoneSpec.post enc Tryd.prog Tryd.f6 false true false false) :=
  law_lifted_laid (C := Tryd.checked) (laid := [("math/bits.deBruijn64tab", Rows.laid_math_bits_deBruijn64tab)]) own started (by kernel_rfl) Tryd.func6
    (ChangeSpec.witness_shaped (enc := enc) (C := Tryd.checked) (os := os) (X := fun w _ => laidMetH Tryd.prog [("math/bits.deBruijn64tab", Rows.laid_math_bits_deBruijn64tab)] w) false (World.doorLaid Tryd.prog 400 os) #[(.agg #[.int .i64 0, .int .i64 0]), (.int .i64 0)] 8 rfl (World.shaped_of_RefB (by kernel_rfl) (by kernel_rfl)) (by kernel_rfl) (by kernel_rfl) (by kernel_rfl) (met os _))
    laid (by kernel_rfl) rfl rfl Tryd.underlying4 (fun ds h => match ds, h with | [_, _], _ => rfl) glob
    ((RdL.cons (RdA.struct Tryd.underlying39 rd39 (fun _ => ⟨_, rfl⟩)) (RdL.cons (RdA.int (k := .i64) Tryd.underlying3) RdL.nil)) : RdL Tryd.prog [39, 3] _ _) (allOk (e := fun x : S_api_Choice × Int × Unit => [S_api_Choice.enc x.1, (AV.int .i64) x.2.1]) (ok := fun x => S_api_Choice_ok x.1 ∧ (Lit.int .i64 x.2.1).wf = true ∧ True) means) (fun x h => ⟨x, h, rfl, rfl⟩)
theorem row_holds : Rows.PropagateNoneSaid :=
  OpenClaim.holds_of_wide 6 Tryd.f6 rfl rfl rfl rfl rfl rfl rfl ⟨rfl, rfl, rfl, rfl, rfl⟩ rfl rfl rfl rfl rfl (by kernel_rfl) Tryd.func6 (by kernel_rfl)
    (of_decide_eq_true (by kernel_rfl)) (by unfold Func.isWrapper; first | (rw [if_pos (by decide +kernel)]; kernel_rfl) | (rw [if_neg (by decide +kernel)]; exact ⟨rfl, rfl⟩))
    (fun os started H enc _ => lifted os started H enc)
theorem proved : Rows.PropagateNoneCardSaid :=
  Claim7.holds_tied_plain_at .later [] [.data] true (true, "4a1cbabbcbb483a6fe7989b5891f668c9c1b90a205d1f93eaf58669c1572e06c") false
    row_holds (fun _ h => by cases h) (by kernel_rfl) (fun _ h => by cases h) propagateNone_row_tie rfl ⟨rfl, rfl⟩ (by kernel_rfl) rfl
    (fun f fn hf hfn => by
      obtain rfl : f = 6 := Option.some.inj ((show Tryd.prog.funcNamed "bandplan/bandplanlaw18.PropagateNone" = some 6 by kernel_rfl).symm.trans hf) |>.symm
      obtain rfl : fn = Tryd.f6 := (Option.some.inj (Tryd.func6.symm.trans hfn)).symm
      exact ⟨by kernel_rfl, fun j t ht => by
        rw [Tryd.params6] at ht
        have hm : t ∈ [39, 3] := by simpa using Array.mem_of_getElem? ht
        have hall : ([39, 3].all fun u => !Tryd.prog.wantsStandIn u) = true := by kernel_rfl
        exact (show Tryd.prog.wantsStandIn t = false by simpa using List.all_eq_true.1 hall t hm)⟩)
    (by kernel_rfl)
#print axioms proved
end Go.Proofs.YtelgmdljcbkniaaDoor.lawPropagateNone
