/- What the functions compute, and that they do: part 4. -/
import Derived.Test.YtgobepjodkggoaaDoorTi
import Derived.Test.YtgobepjodkggoaaDoorDt
import Derived.Test.YtgobepjodkggoaaDoorFn3
namespace Go.Proofs.YtgobepjodkggoaaDoor.Fn
open Go Go.Proofs Go.Proofs.YtgobepjodkggoaaDoor.Ai Go.Proofs.YtgobepjodkggoaaDoor.Dt Go.Proofs.YtgobepjodkggoaaDoor.Ti
set_option linter.unusedVariables false
set_option maxRecDepth 100000

/-! ### 18 bandplan/bandplanref32.Valid -/
def bandplanref32_Valid.l0 (a0 : S_api_Outcome) : Nat → Int → Option (Sum (Unit) (Unit))
  | 0, _ => none
  | k + 1, x11 => (if x11 < ((a0.f_Winners.map S_api_Winner.enc).length : Int) then ((idx a0.f_Winners x11).bind fun y15 => (bandplanref32_On.f k a0.f_Assignment y15.f_Station).bind fun t17 => (idx a0.f_Winners x11).bind fun y19 => (if ¬ t17 = y19.f_Option then some true else (idx a0.f_Winners x11).bind fun y21 => (bandplanref32_Has.f k a0.f_Exited y21.f_Station).bind fun t23 => some t23)).bind fun x14 => (if x14 = true then some (.inl ()) else bandplanref32_Valid.l0 a0 k (IntKind.i64.wrap (x11 + 1))) else some (.inr ()))
def bandplanref32_Valid.l1 (a0 : S_api_Outcome) : Nat → Int → Option (Sum (Unit) (Unit))
  | 0, _ => none
  | k + 1, x27 => (if x27 < ((a0.f_Exited.map (AV.int .i64)).length : Int) then (idx a0.f_Exited x27).bind fun y30 => (bandplanref32_On.f k a0.f_Assignment y30).bind fun t32 => (if t32 = 0 then some (.inl ()) else bandplanref32_Valid.l1 a0 k (IntKind.i64.wrap (x27 + 1))) else some (.inr ()))
def bandplanref32_Valid.f (k : Nat) (a0 : S_api_Outcome) : Option (Bool) := ((bandplanref32_Winners.f k a0.f_Winners).bind fun t2 => (if ¬ (t2 = true) then some true else (bandplanref32_Stations.f k a0.f_Exited).bind fun t4 => (if ¬ (t4 = true) then some true else (bandplanref32_Choices.f k a0.f_Assignment).bind fun t6 => (if ¬ (t6 = true) then some true else (bandplanref32_Sum.f k a0.f_Winners).bind fun t8 => some (a0.f_Cost != t8))))).bind fun x1 => (if x1 = true then some false else ((bandplanref32_Valid.l0 a0 k 0).bind fun o => match o with | (.inl _) => some false | (.inr _) => ((bandplanref32_Valid.l1 a0 k 0).bind fun o => match o with | (.inl _) => some false | (.inr _) => some true)))
def bandplanref32_Valid.S (args : List AV) (v : AV) : Prop := ∃ (k : Nat) (a0 : S_api_Outcome) (r : Bool), args = [S_api_Outcome.enc a0] ∧ bandplanref32_Valid.f k a0 = some r ∧ v = .bool r
theorem bandplanref32_Valid.ok : VOk Tryd.prog 18 bandplanref32_Valid.S := by
  refine V_ok Tryd.func18 rfl fun args v hS => ⟨?_, ?_⟩
  · obtain ⟨k, a0, r, rfl, H, rfl⟩ := hS
    exact Nat.le_of_ble_eq_true rfl
  · obtain ⟨k, a0, r, rfl, H, rfl⟩ := hS
    unfold bandplanref32_Valid.f at H
    refine T_seq ?_
    refine T_reg ?_
    refine RE.op (op_box (k := 0) rfl rfl rfl rfl) rfl rfl rfl ?_
    refine RE.op (op_assign rfl rfl) rfl rfl rfl ?_
    refine RE.nil ⟨⟨[(1, .ptr 0 0)], [.cells [.lst false (a0.f_Winners.map S_api_Winner.enc), .lst false (a0.f_Exited.map (AV.int .i64)), .lst false (a0.f_Assignment.map S_api_Choice.enc), .int .i64 a0.f_Cost]]⟩, weak_sel ⟨rfl, trivial⟩ rfl, ?_⟩
    refine then_normal ?_
    refine T_seq ?_
    refine T_seq ?_
    obtain ⟨x1, hj10, H⟩ := Option.bind_eq_some_iff.1 H
    refine T_drawn_out mix [0, 1, 3, 7, 15, 31, 63, 127, 255, 511, 1023, 2047, 4095, 8191, 16383, 32767, 65535, 131071, 262143, 131071, 655359, 1703935, 4194303, 8388607] (by kernel_rfl) ⟨[(1, .ptr 0 0), (28, .bool x1)], [.cells [.lst false (a0.f_Winners.map S_api_Winner.enc), .lst false (a0.f_Exited.map (AV.int .i64)), .lst false (a0.f_Assignment.map S_api_Choice.enc), .int .i64 a0.f_Cost]]⟩ ?_ ?_
    · clear H
      have H := hj10
      clear hj10
      refine RD.q [(1, .ptr 0 0)] (by repeat (first | exact trivial | refine ⟨rfl, ?_⟩)) (fun _ => (op_faddr Tryd.underlying26 rfl ti22 rfl rfl rfl)) rfl rfl rfl ?_
      refine RD.l (i := 0) [(5, .ptr 0 0)] (by repeat (first | exact trivial | refine ⟨rfl, ?_⟩)) rfl (fun _ hb => (op_load ti22 rfl rfl rfl hb rfl)) rfl rfl rfl ?_
      obtain ⟨t2, ht3, H⟩ := Option.bind_eq_some_iff.1 H
      refine RD.q [(6, .lst false (a0.f_Winners.map S_api_Winner.enc))] (by repeat (first | exact trivial | refine ⟨rfl, ?_⟩)) (fun _ => (op_call (f := 22) rfl rfl rfl rfl en22 bandplanref32_Winners.ok ⟨_, _, _, rfl, ht3, rfl⟩)) rfl rfl rfl ?_
      refine RD.q [(7, .bool t2)] (by repeat (first | exact trivial | refine ⟨rfl, ?_⟩)) (fun _ => (op_not rfl rfl)) rfl rfl rfl ?_
      refine RD.q [(8, .bool (!t2))] (by repeat (first | exact trivial | refine ⟨rfl, ?_⟩)) (fun _ => (op_move rfl rfl)) rfl rfl rfl ?_
      by_cases h1 : ¬ (t2 = true)
      · rw [if_pos h1] at H
        refine RD.skip rfl rfl (getb (not_t (Bool.eq_false_iff.mpr h1)) rfl) rfl rfl rfl ?_
        refine RD.skip rfl rfl (getb (not_t (Bool.eq_false_iff.mpr h1)) rfl) rfl rfl rfl ?_
        refine RD.skip rfl rfl (getb (not_t (Bool.eq_false_iff.mpr h1)) rfl) rfl rfl rfl ?_
        refine RD.skip rfl rfl (getb (not_t (Bool.eq_false_iff.mpr h1)) rfl) rfl rfl rfl ?_
        refine RD.q [(9, .bool (!t2)), (13, .tup [])] (by repeat (first | exact trivial | refine ⟨rfl, ?_⟩)) (fun _ => (op_pick_true rfl (evb (not_t (Bool.eq_false_iff.mpr h1)) rfl) rfl)) rfl rfl rfl ?_
        refine RD.q [(14, .bool true)] (by repeat (first | exact trivial | refine ⟨rfl, ?_⟩)) (fun _ => (op_move rfl rfl)) rfl rfl rfl ?_
        refine RD.skip rfl rfl rfl rfl rfl rfl ?_
        refine RD.skip rfl rfl rfl rfl rfl rfl ?_
        refine RD.skip rfl rfl rfl rfl rfl rfl ?_
        refine RD.skip rfl rfl rfl rfl rfl rfl ?_
        refine RD.q [(15, .bool true), (19, .tup [])] (by repeat (first | exact trivial | refine ⟨rfl, ?_⟩)) (fun _ => (op_pick_true rfl rfl rfl)) rfl rfl rfl ?_
        refine RD.q [(20, .bool true)] (by repeat (first | exact trivial | refine ⟨rfl, ?_⟩)) (fun _ => (op_move rfl rfl)) rfl rfl rfl ?_
        refine RD.skip rfl rfl rfl rfl rfl rfl ?_
        refine RD.skip rfl rfl rfl rfl rfl rfl ?_
        refine RD.skip rfl rfl rfl rfl rfl rfl ?_
        refine RD.skip rfl rfl rfl rfl rfl rfl ?_
        refine RD.skip rfl rfl rfl rfl rfl rfl ?_
        refine RD.skip rfl rfl rfl rfl rfl rfl ?_
        refine RD.q [(21, .bool true), (27, .tup [])] (by repeat (first | exact trivial | refine ⟨rfl, ?_⟩)) (fun _ => (op_pick_true rfl rfl rfl)) rfl rfl rfl ?_
        simp only [Option.some.injEq] at H
        subst H
        exact RD.nil (by kernel_rfl) (weak_sel (env' := [(1, .ptr 0 0), (28, .bool true)]) ⟨rfl, rfl, trivial⟩ rfl)
      · rw [if_neg h1] at H
        refine RD.qg [(1, .ptr 0 0)] (by repeat (first | exact trivial | refine ⟨rfl, ?_⟩)) (fun _ => (op_faddr Tryd.underlying26 rfl ti23 rfl rfl rfl)) rfl rfl (getb (not_f (Decidable.of_not_not h1)) rfl) rfl rfl ?_
        refine RD.lg (i := 0) [(10, .ptr 0 1)] (by repeat (first | exact trivial | refine ⟨rfl, ?_⟩)) rfl (fun _ hb => (op_load ti23 rfl rfl rfl hb rfl)) rfl rfl (getb (not_f (Decidable.of_not_not h1)) rfl) rfl rfl ?_
        obtain ⟨t4, ht5, H⟩ := Option.bind_eq_some_iff.1 H
        refine RD.qg [(11, .lst false (a0.f_Exited.map (AV.int .i64)))] (by repeat (first | exact trivial | refine ⟨rfl, ?_⟩)) (fun _ => (op_call (f := 37) rfl rfl rfl rfl en37 bandplanref32_Stations.ok ⟨_, _, _, rfl, ht5, rfl⟩)) rfl rfl (getb (not_f (Decidable.of_not_not h1)) rfl) rfl rfl ?_
        refine RD.qg [(12, .bool t4)] (by repeat (first | exact trivial | refine ⟨rfl, ?_⟩)) (fun _ => (op_not rfl rfl)) rfl rfl (getb (not_f (Decidable.of_not_not h1)) rfl) rfl rfl ?_
        refine RD.q [(9, .bool (!t2)), (13, .bool (!t4))] (by repeat (first | exact trivial | refine ⟨rfl, ?_⟩)) (fun _ => (op_pick_false rfl (evb (not_f (Decidable.of_not_not h1)) rfl) rfl)) rfl rfl rfl ?_
        refine RD.q [(14, .bool (!t4))] (by repeat (first | exact trivial | refine ⟨rfl, ?_⟩)) (fun _ => (op_move rfl rfl)) rfl rfl rfl ?_
        by_cases h2 : ¬ (t4 = true)
        · rw [if_pos h2] at H
          refine RD.skip rfl rfl (getb (not_t (Bool.eq_false_iff.mpr h2)) rfl) rfl rfl rfl ?_
          refine RD.skip rfl rfl (getb (not_t (Bool.eq_false_iff.mpr h2)) rfl) rfl rfl rfl ?_
          refine RD.skip rfl rfl (getb (not_t (Bool.eq_false_iff.mpr h2)) rfl) rfl rfl rfl ?_
          refine RD.skip rfl rfl (getb (not_t (Bool.eq_false_iff.mpr h2)) rfl) rfl rfl rfl ?_
          refine RD.q [(15, .bool (!t4)), (19, .tup [])] (by repeat (first | exact trivial | refine ⟨rfl, ?_⟩)) (fun _ => (op_pick_true rfl (evb (not_t (Bool.eq_false_iff.mpr h2)) rfl) rfl)) rfl rfl rfl ?_
          refine RD.q [(20, .bool true)] (by repeat (first | exact trivial | refine ⟨rfl, ?_⟩)) (fun _ => (op_move rfl rfl)) rfl rfl rfl ?_
          refine RD.skip rfl rfl rfl rfl rfl rfl ?_
          refine RD.skip rfl rfl rfl rfl rfl rfl ?_
          refine RD.skip rfl rfl rfl rfl rfl rfl ?_
          refine RD.skip rfl rfl rfl rfl rfl rfl ?_
          refine RD.skip rfl rfl rfl rfl rfl rfl ?_
          refine RD.skip rfl rfl rfl rfl rfl rfl ?_
          refine RD.q [(21, .bool true), (27, .tup [])] (by repeat (first | exact trivial | refine ⟨rfl, ?_⟩)) (fun _ => (op_pick_true rfl rfl rfl)) rfl rfl rfl ?_
          simp only [Option.some.injEq] at H
          subst H
          exact RD.nil (by kernel_rfl) (weak_sel (env' := [(1, .ptr 0 0), (28, .bool true)]) ⟨rfl, rfl, trivial⟩ rfl)
        · rw [if_neg h2] at H
          refine RD.qg [(1, .ptr 0 0)] (by repeat (first | exact trivial | refine ⟨rfl, ?_⟩)) (fun _ => (op_faddr Tryd.underlying26 rfl ti24 rfl rfl rfl)) rfl rfl (getb (not_f (Decidable.of_not_not h2)) rfl) rfl rfl ?_
          refine RD.lg (i := 0) [(16, .ptr 0 2)] (by repeat (first | exact trivial | refine ⟨rfl, ?_⟩)) rfl (fun _ hb => (op_load ti24 rfl rfl rfl hb rfl)) rfl rfl (getb (not_f (Decidable.of_not_not h2)) rfl) rfl rfl ?_
          obtain ⟨t6, ht7, H⟩ := Option.bind_eq_some_iff.1 H
          refine RD.qg [(17, .lst false (a0.f_Assignment.map S_api_Choice.enc))] (by repeat (first | exact trivial | refine ⟨rfl, ?_⟩)) (fun _ => (op_call (f := 38) rfl rfl rfl rfl en38 bandplanref32_Choices.ok ⟨_, _, _, rfl, ht7, rfl⟩)) rfl rfl (getb (not_f (Decidable.of_not_not h2)) rfl) rfl rfl ?_
          refine RD.qg [(18, .bool t6)] (by repeat (first | exact trivial | refine ⟨rfl, ?_⟩)) (fun _ => (op_not rfl rfl)) rfl rfl (getb (not_f (Decidable.of_not_not h2)) rfl) rfl rfl ?_
          refine RD.q [(15, .bool (!t4)), (19, .bool (!t6))] (by repeat (first | exact trivial | refine ⟨rfl, ?_⟩)) (fun _ => (op_pick_false rfl (evb (not_f (Decidable.of_not_not h2)) rfl) rfl)) rfl rfl rfl ?_
          refine RD.q [(20, .bool (!t6))] (by repeat (first | exact trivial | refine ⟨rfl, ?_⟩)) (fun _ => (op_move rfl rfl)) rfl rfl rfl ?_
          by_cases h3 : ¬ (t6 = true)
          · rw [if_pos h3] at H
            refine RD.skip rfl rfl (getb (not_t (Bool.eq_false_iff.mpr h3)) rfl) rfl rfl rfl ?_
            refine RD.skip rfl rfl (getb (not_t (Bool.eq_false_iff.mpr h3)) rfl) rfl rfl rfl ?_
            refine RD.skip rfl rfl (getb (not_t (Bool.eq_false_iff.mpr h3)) rfl) rfl rfl rfl ?_
            refine RD.skip rfl rfl (getb (not_t (Bool.eq_false_iff.mpr h3)) rfl) rfl rfl rfl ?_
            refine RD.skip rfl rfl (getb (not_t (Bool.eq_false_iff.mpr h3)) rfl) rfl rfl rfl ?_
            refine RD.skip rfl rfl (getb (not_t (Bool.eq_false_iff.mpr h3)) rfl) rfl rfl rfl ?_
            refine RD.q [(21, .bool (!t6)), (27, .tup [])] (by repeat (first | exact trivial | refine ⟨rfl, ?_⟩)) (fun _ => (op_pick_true rfl (evb (not_t (Bool.eq_false_iff.mpr h3)) rfl) rfl)) rfl rfl rfl ?_
            simp only [Option.some.injEq] at H
            subst H
            exact RD.nil (by kernel_rfl) (weak_sel (env' := [(1, .ptr 0 0), (28, .bool true)]) ⟨rfl, rfl, trivial⟩ rfl)
          · rw [if_neg h3] at H
            refine RD.qg [(1, .ptr 0 0)] (by repeat (first | exact trivial | refine ⟨rfl, ?_⟩)) (fun _ => (op_faddr Tryd.underlying26 rfl ti3 rfl rfl rfl)) rfl rfl (getb (not_f (Decidable.of_not_not h3)) rfl) rfl rfl ?_
            refine RD.lg (i := 0) [(22, .ptr 0 3)] (by repeat (first | exact trivial | refine ⟨rfl, ?_⟩)) rfl (fun _ hb => (op_load ti3 rfl rfl rfl hb rfl)) rfl rfl (getb (not_f (Decidable.of_not_not h3)) rfl) rfl rfl ?_
            refine RD.qg [(1, .ptr 0 0)] (by repeat (first | exact trivial | refine ⟨rfl, ?_⟩)) (fun _ => (op_faddr Tryd.underlying26 rfl ti22 rfl rfl rfl)) rfl rfl (getb (not_f (Decidable.of_not_not h3)) rfl) rfl rfl ?_
            refine RD.lg (i := 0) [(24, .ptr 0 0)] (by repeat (first | exact trivial | refine ⟨rfl, ?_⟩)) rfl (fun _ hb => (op_load ti22 rfl rfl rfl hb rfl)) rfl rfl (getb (not_f (Decidable.of_not_not h3)) rfl) rfl rfl ?_
            obtain ⟨t8, ht9, H⟩ := Option.bind_eq_some_iff.1 H
            refine RD.qg [(25, .lst false (a0.f_Winners.map S_api_Winner.enc))] (by repeat (first | exact trivial | refine ⟨rfl, ?_⟩)) (fun _ => (op_call (f := 23) rfl rfl rfl rfl en23 bandplanref32_Sum.ok ⟨_, _, _, rfl, ht9, rfl⟩)) rfl rfl (getb (not_f (Decidable.of_not_not h3)) rfl) rfl rfl ?_
            refine RD.qg [(23, .int .i64 a0.f_Cost), (26, .int .i64 t8)] (by repeat (first | exact trivial | refine ⟨rfl, ?_⟩)) (fun _ => (op_bin rfl rfl rfl rfl)) rfl rfl (getb (not_f (Decidable.of_not_not h3)) rfl) rfl rfl ?_
            refine RD.q [(21, .bool (!t6)), (27, .bool (a0.f_Cost != t8))] (by repeat (first | exact trivial | refine ⟨rfl, ?_⟩)) (fun _ => (op_pick_false rfl (evb (not_f (Decidable.of_not_not h3)) rfl) rfl)) rfl rfl rfl ?_
            simp only [Option.some.injEq] at H
            subst H
            exact RD.nil (by kernel_rfl) (weak_sel (env' := [(1, .ptr 0 0), (28, .bool (a0.f_Cost != t8))]) ⟨rfl, rfl, trivial⟩ rfl)
    · clear hj10
      refine then_normal ?_
      by_cases h4 : x1 = true
      · rw [if_pos h4] at H
        refine T_yes rfl h4 ?_
        refine T_seq ?_
        refine T_reg ?_
        refine RE.op (op_assign rfl rfl) rfl rfl rfl ?_
        refine RE.nil ⟨⟨[(2, .bool false)], [.cells [.lst false (a0.f_Winners.map S_api_Winner.enc), .lst false (a0.f_Exited.map (AV.int .i64)), .lst false (a0.f_Assignment.map S_api_Choice.enc), .int .i64 a0.f_Cost]]⟩, weak_sel ⟨rfl, trivial⟩ rfl, ?_⟩
        refine then_normal ?_
        refine T_ret ?_
        simp only [Option.some.injEq] at H
        subst H
        refine then_ret ?_
        exact ret1 rfl rfl rfl
      · rw [if_neg h4] at H
        refine T_no rfl (Bool.eq_false_iff.mpr h4) ?_
        refine T_skip ?_
        refine then_normal ?_
        refine T_seq ?_
        refine T_seq ?_
        refine T_reg ?_
        refine RE.op (op_assign rfl rfl) rfl rfl rfl ?_
        refine RE.nil ⟨⟨[(1, .ptr 0 0), (3, .int .i64 0)], [.cells [.lst false (a0.f_Winners.map S_api_Winner.enc), .lst false (a0.f_Exited.map (AV.int .i64)), .lst false (a0.f_Assignment.map S_api_Choice.enc), .int .i64 a0.f_Cost]]⟩, weak_sel ⟨rfl, rfl, trivial⟩ rfl, ?_⟩
        refine then_normal ?_
        refine T_block ?_
        obtain ⟨o12, hj13, H⟩ := Option.bind_eq_some_iff.1 H
        refine T_loop_out ((fun (x_ : Int) => ⟨[(1, .ptr 0 0), (3, .int .i64 x_)], [.cells [.lst false (a0.f_Winners.map S_api_Winner.enc), .lst false (a0.f_Exited.map (AV.int .i64)), .lst false (a0.f_Assignment.map S_api_Choice.enc), .int .i64 a0.f_Cost]]⟩) 0) ((fun o => match o with | (.inl _) => .ret | (.inr _) => .exit 0) o12) ((fun o => match o with | (.inl ()) => ⟨[(2, .bool false)], [.cells [.lst false (a0.f_Winners.map S_api_Winner.enc), .lst false (a0.f_Exited.map (AV.int .i64)), .lst false (a0.f_Assignment.map S_api_Choice.enc), .int .i64 a0.f_Cost]]⟩ | (.inr ()) => ⟨[(1, .ptr 0 0)], [.cells [.lst false (a0.f_Winners.map S_api_Winner.enc), .lst false (a0.f_Exited.map (AV.int .i64)), .lst false (a0.f_Assignment.map S_api_Choice.enc), .int .i64 a0.f_Cost]]⟩) o12) (weak_sel (env' := [(1, .ptr 0 0), (3, .int .i64 0)]) ⟨rfl, rfl, trivial⟩ rfl) ?_ ?_
        · refine T_fix (bandplanref32_Valid.l0 a0) (fun (x_ : Int) => ⟨[(1, .ptr 0 0), (3, .int .i64 x_)], [.cells [.lst false (a0.f_Winners.map S_api_Winner.enc), .lst false (a0.f_Exited.map (AV.int .i64)), .lst false (a0.f_Assignment.map S_api_Choice.enc), .int .i64 a0.f_Cost]]⟩) (fun o => match o with | (.inl _) => .ret | (.inr _) => .exit 0) (fun o => match o with | (.inl ()) => ⟨[(2, .bool false)], [.cells [.lst false (a0.f_Winners.map S_api_Winner.enc), .lst false (a0.f_Exited.map (AV.int .i64)), .lst false (a0.f_Assignment.map S_api_Choice.enc), .int .i64 a0.f_Cost]]⟩ | (.inr ()) => ⟨[(1, .ptr 0 0)], [.cells [.lst false (a0.f_Winners.map S_api_Winner.enc), .lst false (a0.f_Exited.map (AV.int .i64)), .lst false (a0.f_Assignment.map S_api_Choice.enc), .int .i64 a0.f_Cost]]⟩) (fun _ => rfl) ?_ _ 0 _ hj13
          clear H hj13
          intro k IH x11 o H
          unfold bandplanref32_Valid.l0 at H
          (try simp only at H)
          refine T_seq ?_
          refine T_seq ?_
          refine T_reg ?_
          refine RE.op (op_move rfl rfl) rfl rfl rfl ?_
          refine RE.op (op_faddr Tryd.underlying26 rfl ti22 rfl rfl rfl) rfl rfl rfl ?_
          refine RE.op (op_load ti22 rfl rfl rfl rfl rfl) rfl rfl rfl ?_
          refine RE.op (op_len Tryd.underlying22 rfl rfl) rfl rfl rfl ?_
          refine RE.op (op_bin rfl rfl rfl rfl) rfl rfl rfl ?_
          refine RE.nil ⟨⟨[(1, .ptr 0 0), (3, .int .i64 x11), (33, .bool (decide (x11 < ((a0.f_Winners.map S_api_Winner.enc).length : Int))))], [.cells [.lst false (a0.f_Winners.map S_api_Winner.enc), .lst false (a0.f_Exited.map (AV.int .i64)), .lst false (a0.f_Assignment.map S_api_Choice.enc), .int .i64 a0.f_Cost]]⟩, weak_sel ⟨rfl, rfl, rfl, trivial⟩ rfl, ?_⟩
          refine then_normal ?_
          by_cases h5 : x11 < ((a0.f_Winners.map S_api_Winner.enc).length : Int)
          · rw [if_pos h5] at H
            refine T_yes rfl (decide_eq_true h5) ?_
            refine T_skip ?_
            refine then_normal ?_
            refine T_seq ?_
            refine T_block ?_
            refine T_seq ?_
            obtain ⟨x14, hj25, H⟩ := Option.bind_eq_some_iff.1 H
            refine T_drawn_out mix [0, 1, 0, 4, 0, 28, 60, 124, 255, 0, 512, 0, 3584, 7680, 15872, 32767, 65535, 131071, 262143, 131071, 655359, 131071, 3801087, 7995391, 16383999, 33554431, 67108863] (by kernel_rfl) ⟨[(1, .ptr 0 0), (3, .int .i64 x11), (62, .bool x14)], [.cells [.lst false (a0.f_Winners.map S_api_Winner.enc), .lst false (a0.f_Exited.map (AV.int .i64)), .lst false (a0.f_Assignment.map S_api_Choice.enc), .int .i64 a0.f_Cost]]⟩ ?_ ?_
            · clear H
              have H := hj25
              clear hj25
              refine RD.q [(1, .ptr 0 0)] (by repeat (first | exact trivial | refine ⟨rfl, ?_⟩)) (fun _ => (op_faddr Tryd.underlying26 rfl ti24 rfl rfl rfl)) rfl rfl rfl ?_
              refine RD.l (i := 0) [(36, .ptr 0 2)] (by repeat (first | exact trivial | refine ⟨rfl, ?_⟩)) rfl (fun _ hb => (op_load ti24 rfl rfl rfl hb rfl)) rfl rfl rfl ?_
              refine RD.q [(1, .ptr 0 0)] (by repeat (first | exact trivial | refine ⟨rfl, ?_⟩)) (fun _ => (op_faddr Tryd.underlying26 rfl ti22 rfl rfl rfl)) rfl rfl rfl ?_
              refine RD.l (i := 0) [(38, .ptr 0 0)] (by repeat (first | exact trivial | refine ⟨rfl, ?_⟩)) rfl (fun _ hb => (op_load ti22 rfl rfl rfl hb rfl)) rfl rfl rfl ?_
              refine RD.q [(3, .int .i64 x11)] (by repeat (first | exact trivial | refine ⟨rfl, ?_⟩)) (fun _ => (op_move rfl rfl)) rfl rfl rfl ?_
              obtain ⟨y15, hy16, H⟩ := Option.bind_eq_some_iff.1 H
              refine RD.q [(39, .lst false (a0.f_Winners.map S_api_Winner.enc)), (40, .int .i64 x11)] (by repeat (first | exact trivial | refine ⟨rfl, ?_⟩)) (fun _ => (op_iaddr Tryd.underlying22 ti48 rfl rfl rfl (idx_pos hy16) (idx_map hy16 S_api_Winner.enc) rfl (Nat.le_of_ble_eq_true rfl))) rfl rfl rfl ?_
              refine RD.q [(41, .eptr (a0.f_Winners.map S_api_Winner.enc) x11.toNat 0)] (by repeat (first | exact trivial | refine ⟨rfl, ?_⟩)) (fun _ => (op_faddr_e Tryd.underlying48 rfl ti3 rfl rfl rfl (idx_map hy16 S_api_Winner.enc) (Nat.le_of_ble_eq_true rfl))) rfl rfl rfl ?_
              refine RD.q [(42, .eptr (a0.f_Winners.map S_api_Winner.enc) x11.toNat 0)] (by repeat (first | exact trivial | refine ⟨rfl, ?_⟩)) (fun _ => (op_load_e ti3 rfl rfl rfl (idx_map hy16 S_api_Winner.enc) rfl)) rfl rfl rfl ?_
              obtain ⟨t17, ht18, H⟩ := Option.bind_eq_some_iff.1 H
              refine RD.q [(37, .lst false (a0.f_Assignment.map S_api_Choice.enc)), (43, .int .i64 y15.f_Station)] (by repeat (first | exact trivial | refine ⟨rfl, ?_⟩)) (fun _ => (op_call (f := 33) rfl rfl rfl rfl en33 bandplanref32_On.ok ⟨_, _, _, _, rfl, ht18, rfl⟩)) rfl rfl rfl ?_
              refine RD.q [(1, .ptr 0 0)] (by repeat (first | exact trivial | refine ⟨rfl, ?_⟩)) (fun _ => (op_faddr Tryd.underlying26 rfl ti22 rfl rfl rfl)) rfl rfl rfl ?_
              refine RD.l (i := 0) [(45, .ptr 0 0)] (by repeat (first | exact trivial | refine ⟨rfl, ?_⟩)) rfl (fun _ hb => (op_load ti22 rfl rfl rfl hb rfl)) rfl rfl rfl ?_
              refine RD.q [(3, .int .i64 x11)] (by repeat (first | exact trivial | refine ⟨rfl, ?_⟩)) (fun _ => (op_move rfl rfl)) rfl rfl rfl ?_
              obtain ⟨y19, hy20, H⟩ := Option.bind_eq_some_iff.1 H
              refine RD.q [(46, .lst false (a0.f_Winners.map S_api_Winner.enc)), (47, .int .i64 x11)] (by repeat (first | exact trivial | refine ⟨rfl, ?_⟩)) (fun _ => (op_iaddr Tryd.underlying22 ti48 rfl rfl rfl (idx_pos hy20) (idx_map hy20 S_api_Winner.enc) rfl (Nat.le_of_ble_eq_true rfl))) rfl rfl rfl ?_
              refine RD.q [(48, .eptr (a0.f_Winners.map S_api_Winner.enc) x11.toNat 0)] (by repeat (first | exact trivial | refine ⟨rfl, ?_⟩)) (fun _ => (op_faddr_e Tryd.underlying48 rfl ti3 rfl rfl rfl (idx_map hy20 S_api_Winner.enc) (Nat.le_of_ble_eq_true rfl))) rfl rfl rfl ?_
              refine RD.q [(49, .eptr (a0.f_Winners.map S_api_Winner.enc) x11.toNat 1)] (by repeat (first | exact trivial | refine ⟨rfl, ?_⟩)) (fun _ => (op_load_e ti3 rfl rfl rfl (idx_map hy20 S_api_Winner.enc) rfl)) rfl rfl rfl ?_
              refine RD.q [(44, .int .i64 t17), (50, .int .i64 y19.f_Option)] (by repeat (first | exact trivial | refine ⟨rfl, ?_⟩)) (fun _ => (op_bin rfl rfl rfl rfl)) rfl rfl rfl ?_
              refine RD.q [(51, .bool (t17 != y19.f_Option))] (by repeat (first | exact trivial | refine ⟨rfl, ?_⟩)) (fun _ => (op_move rfl rfl)) rfl rfl rfl ?_
              by_cases h6 : ¬ t17 = y19.f_Option
              · rw [if_pos h6] at H
                refine RD.skip rfl rfl (getb (bne_iff_ne.mpr h6) rfl) rfl rfl rfl ?_
                refine RD.skip rfl rfl (getb (bne_iff_ne.mpr h6) rfl) rfl rfl rfl ?_
                refine RD.skip rfl rfl (getb (bne_iff_ne.mpr h6) rfl) rfl rfl rfl ?_
                refine RD.skip rfl rfl (getb (bne_iff_ne.mpr h6) rfl) rfl rfl rfl ?_
                refine RD.skip rfl rfl (getb (bne_iff_ne.mpr h6) rfl) rfl rfl rfl ?_
                refine RD.skip rfl rfl (getb (bne_iff_ne.mpr h6) rfl) rfl rfl rfl ?_
                refine RD.skip rfl rfl (getb (bne_iff_ne.mpr h6) rfl) rfl rfl rfl ?_
                refine RD.skip rfl rfl (getb (bne_iff_ne.mpr h6) rfl) rfl rfl rfl ?_
                refine RD.skip rfl rfl (getb (bne_iff_ne.mpr h6) rfl) rfl rfl rfl ?_
                refine RD.q [(52, .bool (t17 != y19.f_Option)), (61, .tup [])] (by repeat (first | exact trivial | refine ⟨rfl, ?_⟩)) (fun _ => (op_pick_true rfl (evb (bne_iff_ne.mpr h6) rfl) rfl)) rfl rfl rfl ?_
                simp only [Option.some.injEq] at H
                subst H
                exact RD.nil (by kernel_rfl) (weak_sel (env' := [(1, .ptr 0 0), (3, .int .i64 x11), (62, .bool true)]) ⟨rfl, rfl, rfl, trivial⟩ rfl)
              · rw [if_neg h6] at H
                refine RD.qg [(1, .ptr 0 0)] (by repeat (first | exact trivial | refine ⟨rfl, ?_⟩)) (fun _ => (op_faddr Tryd.underlying26 rfl ti23 rfl rfl rfl)) rfl rfl (getb (bne_eq_false_iff_eq.mpr (Decidable.of_not_not h6)) rfl) rfl rfl ?_
                refine RD.lg (i := 0) [(53, .ptr 0 1)] (by repeat (first | exact trivial | refine ⟨rfl, ?_⟩)) rfl (fun _ hb => (op_load ti23 rfl rfl rfl hb rfl)) rfl rfl (getb (bne_eq_false_iff_eq.mpr (Decidable.of_not_not h6)) rfl) rfl rfl ?_
                refine RD.qg [(1, .ptr 0 0)] (by repeat (first | exact trivial | refine ⟨rfl, ?_⟩)) (fun _ => (op_faddr Tryd.underlying26 rfl ti22 rfl rfl rfl)) rfl rfl (getb (bne_eq_false_iff_eq.mpr (Decidable.of_not_not h6)) rfl) rfl rfl ?_
                refine RD.lg (i := 0) [(55, .ptr 0 0)] (by repeat (first | exact trivial | refine ⟨rfl, ?_⟩)) rfl (fun _ hb => (op_load ti22 rfl rfl rfl hb rfl)) rfl rfl (getb (bne_eq_false_iff_eq.mpr (Decidable.of_not_not h6)) rfl) rfl rfl ?_
                refine RD.qg [(3, .int .i64 x11)] (by repeat (first | exact trivial | refine ⟨rfl, ?_⟩)) (fun _ => (op_move rfl rfl)) rfl rfl (getb (bne_eq_false_iff_eq.mpr (Decidable.of_not_not h6)) rfl) rfl rfl ?_
                obtain ⟨y21, hy22, H⟩ := Option.bind_eq_some_iff.1 H
                refine RD.qg [(56, .lst false (a0.f_Winners.map S_api_Winner.enc)), (57, .int .i64 x11)] (by repeat (first | exact trivial | refine ⟨rfl, ?_⟩)) (fun _ => (op_iaddr Tryd.underlying22 ti48 rfl rfl rfl (idx_pos hy22) (idx_map hy22 S_api_Winner.enc) rfl (Nat.le_of_ble_eq_true rfl))) rfl rfl (getb (bne_eq_false_iff_eq.mpr (Decidable.of_not_not h6)) rfl) rfl rfl ?_
                refine RD.qg [(58, .eptr (a0.f_Winners.map S_api_Winner.enc) x11.toNat 0)] (by repeat (first | exact trivial | refine ⟨rfl, ?_⟩)) (fun _ => (op_faddr_e Tryd.underlying48 rfl ti3 rfl rfl rfl (idx_map hy22 S_api_Winner.enc) (Nat.le_of_ble_eq_true rfl))) rfl rfl (getb (bne_eq_false_iff_eq.mpr (Decidable.of_not_not h6)) rfl) rfl rfl ?_
                refine RD.qg [(59, .eptr (a0.f_Winners.map S_api_Winner.enc) x11.toNat 0)] (by repeat (first | exact trivial | refine ⟨rfl, ?_⟩)) (fun _ => (op_load_e ti3 rfl rfl rfl (idx_map hy22 S_api_Winner.enc) rfl)) rfl rfl (getb (bne_eq_false_iff_eq.mpr (Decidable.of_not_not h6)) rfl) rfl rfl ?_
                obtain ⟨t23, ht24, H⟩ := Option.bind_eq_some_iff.1 H
                refine RD.qg [(54, .lst false (a0.f_Exited.map (AV.int .i64))), (60, .int .i64 y21.f_Station)] (by repeat (first | exact trivial | refine ⟨rfl, ?_⟩)) (fun _ => (op_call (f := 32) rfl rfl rfl rfl en32 bandplanref32_Has.ok ⟨_, _, _, _, rfl, ht24, rfl⟩)) rfl rfl (getb (bne_eq_false_iff_eq.mpr (Decidable.of_not_not h6)) rfl) rfl rfl ?_
                refine RD.q [(52, .bool (t17 != y19.f_Option)), (61, .bool t23)] (by repeat (first | exact trivial | refine ⟨rfl, ?_⟩)) (fun _ => (op_pick_false rfl (evb (bne_eq_false_iff_eq.mpr (Decidable.of_not_not h6)) rfl) rfl)) rfl rfl rfl ?_
                simp only [Option.some.injEq] at H
                subst H
                exact RD.nil (by kernel_rfl) (weak_sel (env' := [(1, .ptr 0 0), (3, .int .i64 x11), (62, .bool t23)]) ⟨rfl, rfl, rfl, trivial⟩ rfl)
            · clear hj25
              refine then_normal ?_
              by_cases h7 : x14 = true
              · rw [if_pos h7] at H
                refine T_yes rfl h7 ?_
                refine T_seq ?_
                refine T_reg ?_
                refine RE.op (op_assign rfl rfl) rfl rfl rfl ?_
                refine RE.nil ⟨⟨[(2, .bool false)], [.cells [.lst false (a0.f_Winners.map S_api_Winner.enc), .lst false (a0.f_Exited.map (AV.int .i64)), .lst false (a0.f_Assignment.map S_api_Choice.enc), .int .i64 a0.f_Cost]]⟩, weak_sel ⟨rfl, trivial⟩ rfl, ?_⟩
                refine then_normal ?_
                refine T_ret ?_
                simp only [Option.some.injEq] at H
                subst H
                refine block_ret ?_
                refine then_ret ?_
                refine then_ret ?_
                exact ⟨rfl, weak_sel (env' := [(2, .bool false)]) ⟨rfl, trivial⟩ rfl⟩
              · rw [if_neg h7] at H
                refine T_no rfl (Bool.eq_false_iff.mpr h7) ?_
                refine T_skip ?_
                refine block_normal ?_
                refine then_normal ?_
                refine T_reg ?_
                refine RE.op (op_move rfl rfl) rfl rfl rfl ?_
                refine RE.op (op_bin rfl rfl rfl rfl) rfl rfl rfl ?_
                refine RE.op (op_assign rfl rfl) rfl rfl rfl ?_
                refine RE.nil ⟨⟨[(1, .ptr 0 0), (3, .int .i64 (IntKind.i64.wrap (x11 + 1)))], [.cells [.lst false (a0.f_Winners.map S_api_Winner.enc), .lst false (a0.f_Exited.map (AV.int .i64)), .lst false (a0.f_Assignment.map S_api_Choice.enc), .int .i64 a0.f_Cost]]⟩, weak_sel ⟨rfl, rfl, trivial⟩ rfl, ?_⟩
                refine then_normal ?_
                exact LoopAt.weak (weak_sel (env' := [(1, .ptr 0 0), (3, .int .i64 (IntKind.i64.wrap (x11 + 1)))]) ⟨rfl, rfl, trivial⟩ rfl) (IH _ _ H)
          · rw [if_neg h5] at H
            refine T_no rfl (decide_eq_false h5) ?_
            refine T_exit ?_
            simp only [Option.some.injEq] at H
            subst H
            refine then_exit ?_
            refine then_exit ?_
            exact ⟨rfl, weak_sel (env' := [(1, .ptr 0 0)]) ⟨rfl, trivial⟩ rfl⟩
        · clear hj13
          rcases o12 with _ | _
          · simp only [Option.some.injEq] at H
            subst H
            refine block_ret ?_
            refine then_ret ?_
            exact ret1 rfl rfl rfl
          · refine block_eq ?_
            refine then_normal ?_
            refine T_seq ?_
            refine T_seq ?_
            refine T_reg ?_
            refine RE.op (op_assign rfl rfl) rfl rfl rfl ?_
            refine RE.nil ⟨⟨[(1, .ptr 0 0), (4, .int .i64 0)], [.cells [.lst false (a0.f_Winners.map S_api_Winner.enc), .lst false (a0.f_Exited.map (AV.int .i64)), .lst false (a0.f_Assignment.map S_api_Choice.enc), .int .i64 a0.f_Cost]]⟩, weak_sel ⟨rfl, rfl, trivial⟩ rfl, ?_⟩
            refine then_normal ?_
            refine T_block ?_
            obtain ⟨o28, hj29, H⟩ := Option.bind_eq_some_iff.1 H
            refine T_loop_out ((fun (x_ : Int) => ⟨[(1, .ptr 0 0), (4, .int .i64 x_)], [.cells [.lst false (a0.f_Winners.map S_api_Winner.enc), .lst false (a0.f_Exited.map (AV.int .i64)), .lst false (a0.f_Assignment.map S_api_Choice.enc), .int .i64 a0.f_Cost]]⟩) 0) ((fun o => match o with | (.inl _) => .ret | (.inr _) => .exit 2) o28) ((fun o => match o with | (.inl ()) => ⟨[(2, .bool false)], [.cells [.lst false (a0.f_Winners.map S_api_Winner.enc), .lst false (a0.f_Exited.map (AV.int .i64)), .lst false (a0.f_Assignment.map S_api_Choice.enc), .int .i64 a0.f_Cost]]⟩ | (.inr ()) => ⟨[], [.cells [.lst false (a0.f_Winners.map S_api_Winner.enc), .lst false (a0.f_Exited.map (AV.int .i64)), .lst false (a0.f_Assignment.map S_api_Choice.enc), .int .i64 a0.f_Cost]]⟩) o28) (weak_sel (env' := [(1, .ptr 0 0), (4, .int .i64 0)]) ⟨rfl, rfl, trivial⟩ rfl) ?_ ?_
            · refine T_fix (bandplanref32_Valid.l1 a0) (fun (x_ : Int) => ⟨[(1, .ptr 0 0), (4, .int .i64 x_)], [.cells [.lst false (a0.f_Winners.map S_api_Winner.enc), .lst false (a0.f_Exited.map (AV.int .i64)), .lst false (a0.f_Assignment.map S_api_Choice.enc), .int .i64 a0.f_Cost]]⟩) (fun o => match o with | (.inl _) => .ret | (.inr _) => .exit 2) (fun o => match o with | (.inl ()) => ⟨[(2, .bool false)], [.cells [.lst false (a0.f_Winners.map S_api_Winner.enc), .lst false (a0.f_Exited.map (AV.int .i64)), .lst false (a0.f_Assignment.map S_api_Choice.enc), .int .i64 a0.f_Cost]]⟩ | (.inr ()) => ⟨[], [.cells [.lst false (a0.f_Winners.map S_api_Winner.enc), .lst false (a0.f_Exited.map (AV.int .i64)), .lst false (a0.f_Assignment.map S_api_Choice.enc), .int .i64 a0.f_Cost]]⟩) (fun _ => rfl) ?_ _ 0 _ hj29
              clear H hj29
              intro k IH x27 o H
              unfold bandplanref32_Valid.l1 at H
              (try simp only at H)
              refine T_seq ?_
              refine T_seq ?_
              refine T_reg ?_
              refine RE.op (op_move rfl rfl) rfl rfl rfl ?_
              refine RE.op (op_faddr Tryd.underlying26 rfl ti23 rfl rfl rfl) rfl rfl rfl ?_
              refine RE.op (op_load ti23 rfl rfl rfl rfl rfl) rfl rfl rfl ?_
              refine RE.op (op_len Tryd.underlying23 rfl rfl) rfl rfl rfl ?_
              refine RE.op (op_bin rfl rfl rfl rfl) rfl rfl rfl ?_
              refine RE.nil ⟨⟨[(1, .ptr 0 0), (4, .int .i64 x27), (67, .bool (decide (x27 < ((a0.f_Exited.map (AV.int .i64)).length : Int))))], [.cells [.lst false (a0.f_Winners.map S_api_Winner.enc), .lst false (a0.f_Exited.map (AV.int .i64)), .lst false (a0.f_Assignment.map S_api_Choice.enc), .int .i64 a0.f_Cost]]⟩, weak_sel ⟨rfl, rfl, rfl, trivial⟩ rfl, ?_⟩
              refine then_normal ?_
              by_cases h8 : x27 < ((a0.f_Exited.map (AV.int .i64)).length : Int)
              · rw [if_pos h8] at H
                refine T_yes rfl (decide_eq_true h8) ?_
                refine T_skip ?_
                refine then_normal ?_
                refine T_seq ?_
                refine T_block ?_
                refine T_seq ?_
                refine T_drawn mix [0, 1, 0, 4, 0, 28, 60, 127, 255] (by kernel_rfl) ?_
                refine RD.q [(1, .ptr 0 0)] (by repeat (first | exact trivial | refine ⟨rfl, ?_⟩)) (fun _ => (op_faddr Tryd.underlying26 rfl ti24 rfl rfl rfl)) rfl rfl rfl ?_
                refine RD.l (i := 0) [(70, .ptr 0 2)] (by repeat (first | exact trivial | refine ⟨rfl, ?_⟩)) rfl (fun _ hb => (op_load ti24 rfl rfl rfl hb rfl)) rfl rfl rfl ?_
                refine RD.q [(1, .ptr 0 0)] (by repeat (first | exact trivial | refine ⟨rfl, ?_⟩)) (fun _ => (op_faddr Tryd.underlying26 rfl ti23 rfl rfl rfl)) rfl rfl rfl ?_
                refine RD.l (i := 0) [(72, .ptr 0 1)] (by repeat (first | exact trivial | refine ⟨rfl, ?_⟩)) rfl (fun _ hb => (op_load ti23 rfl rfl rfl hb rfl)) rfl rfl rfl ?_
                refine RD.q [(4, .int .i64 x27)] (by repeat (first | exact trivial | refine ⟨rfl, ?_⟩)) (fun _ => (op_move rfl rfl)) rfl rfl rfl ?_
                obtain ⟨y30, hy31, H⟩ := Option.bind_eq_some_iff.1 H
                refine RD.q [(73, .lst false (a0.f_Exited.map (AV.int .i64))), (74, .int .i64 x27)] (by repeat (first | exact trivial | refine ⟨rfl, ?_⟩)) (fun _ => (op_iaddr Tryd.underlying23 ti3 rfl rfl rfl (idx_pos hy31) (idx_map hy31 (AV.int .i64)) rfl (Nat.le_of_ble_eq_true rfl))) rfl rfl rfl ?_
                refine RD.q [(75, .eptr (a0.f_Exited.map (AV.int .i64)) x27.toNat 0)] (by repeat (first | exact trivial | refine ⟨rfl, ?_⟩)) (fun _ => (op_load_e ti3 rfl rfl rfl (idx_map hy31 (AV.int .i64)) rfl)) rfl rfl rfl ?_
                obtain ⟨t32, ht33, H⟩ := Option.bind_eq_some_iff.1 H
                refine RD.q [(71, .lst false (a0.f_Assignment.map S_api_Choice.enc)), (76, .int .i64 y30)] (by repeat (first | exact trivial | refine ⟨rfl, ?_⟩)) (fun _ => (op_call (f := 33) rfl rfl rfl rfl en33 bandplanref32_On.ok ⟨_, _, _, _, rfl, ht33, rfl⟩)) rfl rfl rfl ?_
                refine RD.q [(77, .int .i64 t32)] (by repeat (first | exact trivial | refine ⟨rfl, ?_⟩)) (fun _ => (op_bin rfl rfl rfl rfl)) rfl rfl rfl ?_
                refine RD.nil (by kernel_rfl) ⟨⟨[(1, .ptr 0 0), (4, .int .i64 x27), (78, .bool (t32 == 0))], [.cells [.lst false (a0.f_Winners.map S_api_Winner.enc), .lst false (a0.f_Exited.map (AV.int .i64)), .lst false (a0.f_Assignment.map S_api_Choice.enc), .int .i64 a0.f_Cost]]⟩, weak_sel ⟨rfl, rfl, rfl, trivial⟩ rfl, ?_⟩
                refine then_normal ?_
                by_cases h9 : t32 = 0
                · rw [if_pos h9] at H
                  refine T_yes rfl (beq_iff_eq.mpr h9) ?_
                  refine T_seq ?_
                  refine T_reg ?_
                  refine RE.op (op_assign rfl rfl) rfl rfl rfl ?_
                  refine RE.nil ⟨⟨[(2, .bool false)], [.cells [.lst false (a0.f_Winners.map S_api_Winner.enc), .lst false (a0.f_Exited.map (AV.int .i64)), .lst false (a0.f_Assignment.map S_api_Choice.enc), .int .i64 a0.f_Cost]]⟩, weak_sel ⟨rfl, trivial⟩ rfl, ?_⟩
                  refine then_normal ?_
                  refine T_ret ?_
                  simp only [Option.some.injEq] at H
                  subst H
                  refine block_ret ?_
                  refine then_ret ?_
                  refine then_ret ?_
                  exact ⟨rfl, weak_sel (env' := [(2, .bool false)]) ⟨rfl, trivial⟩ rfl⟩
                · rw [if_neg h9] at H
                  refine T_no rfl (beq_eq_false_iff_ne.mpr h9) ?_
                  refine T_skip ?_
                  refine block_normal ?_
                  refine then_normal ?_
                  refine T_reg ?_
                  refine RE.op (op_move rfl rfl) rfl rfl rfl ?_
                  refine RE.op (op_bin rfl rfl rfl rfl) rfl rfl rfl ?_
                  refine RE.op (op_assign rfl rfl) rfl rfl rfl ?_
                  refine RE.nil ⟨⟨[(1, .ptr 0 0), (4, .int .i64 (IntKind.i64.wrap (x27 + 1)))], [.cells [.lst false (a0.f_Winners.map S_api_Winner.enc), .lst false (a0.f_Exited.map (AV.int .i64)), .lst false (a0.f_Assignment.map S_api_Choice.enc), .int .i64 a0.f_Cost]]⟩, weak_sel ⟨rfl, rfl, trivial⟩ rfl, ?_⟩
                  refine then_normal ?_
                  exact LoopAt.weak (weak_sel (env' := [(1, .ptr 0 0), (4, .int .i64 (IntKind.i64.wrap (x27 + 1)))]) ⟨rfl, rfl, trivial⟩ rfl) (IH _ _ H)
              · rw [if_neg h8] at H
                refine T_no rfl (decide_eq_false h8) ?_
                refine T_exit ?_
                simp only [Option.some.injEq] at H
                subst H
                refine then_exit ?_
                refine then_exit ?_
                exact ⟨rfl, weak_sel (env' := []) trivial rfl⟩
            · clear hj29
              rcases o28 with _ | _
              · simp only [Option.some.injEq] at H
                subst H
                refine block_ret ?_
                refine then_ret ?_
                exact ret1 rfl rfl rfl
              · refine block_eq ?_
                refine then_normal ?_
                refine T_seq ?_
                refine T_reg ?_
                refine RE.op (op_assign rfl rfl) rfl rfl rfl ?_
                refine RE.nil ⟨⟨[(2, .bool true)], [.cells [.lst false (a0.f_Winners.map S_api_Winner.enc), .lst false (a0.f_Exited.map (AV.int .i64)), .lst false (a0.f_Assignment.map S_api_Choice.enc), .int .i64 a0.f_Cost]]⟩, weak_sel ⟨rfl, trivial⟩ rfl, ?_⟩
                refine then_normal ?_
                refine T_ret ?_
                simp only [Option.some.injEq] at H
                subst H
                exact ret1 rfl rfl rfl

/-! ### 12 bandplan/bandplanref32.Payment -/
def bandplanref32_Payment.f (k : Nat) (a0 : S_api_Outcome) (a1 : Int) : Option (Int × Int) := (bandplanref32_Valid.f k a0).bind fun t1 => (if ¬ (t1 = true) then some (0, 2) else (bandplanref32_Winner.f k a0.f_Winners a1).bind fun t3 => (if t3 < 0 then some (0, 9) else (idx a0.f_Winners t3).bind fun y5 => some (y5.f_Payment, 0)))
def bandplanref32_Payment.S (args : List AV) (v : AV) : Prop := ∃ (k : Nat) (a0 : S_api_Outcome) (a1 : Int) (r : Int × Int), args = [S_api_Outcome.enc a0, .int .i64 a1] ∧ bandplanref32_Payment.f k a0 a1 = some r ∧ v = .tup [.int .i64 r.1, .int .i64 r.2]
theorem bandplanref32_Payment.ok : VOk Tryd.prog 12 bandplanref32_Payment.S := by
  refine V_ok Tryd.func12 rfl fun args v hS => ⟨?_, ?_⟩
  · obtain ⟨k, a0, a1, r, rfl, H, rfl⟩ := hS
    exact Nat.le_of_ble_eq_true rfl
  · obtain ⟨k, a0, a1, r, rfl, H, rfl⟩ := hS
    unfold bandplanref32_Payment.f at H
    refine T_seq ?_
    refine T_reg ?_
    refine RE.op (op_box (k := 0) rfl rfl rfl rfl) rfl rfl rfl ?_
    refine RE.op (op_assign rfl rfl) rfl rfl rfl ?_
    refine RE.op (op_assign rfl rfl) rfl rfl rfl ?_
    refine RE.nil ⟨⟨[(1, .int .i64 a1), (2, .ptr 0 0)], [.cells [.lst false (a0.f_Winners.map S_api_Winner.enc), .lst false (a0.f_Exited.map (AV.int .i64)), .lst false (a0.f_Assignment.map S_api_Choice.enc), .int .i64 a0.f_Cost]]⟩, weak_sel ⟨rfl, rfl, trivial⟩ rfl, ?_⟩
    refine then_normal ?_
    refine T_seq ?_
    refine T_seq ?_
    refine T_reg ?_
    refine RE.op (op_load_agg (ds := [.lst false (a0.f_Winners.map S_api_Winner.enc), .lst false (a0.f_Exited.map (AV.int .i64)), .lst false (a0.f_Assignment.map S_api_Choice.enc), .int .i64 a0.f_Cost]) ti26 rfl rfl rfl rfl (Nat.le_of_ble_eq_true rfl) rfl) rfl rfl rfl ?_
    obtain ⟨t1, ht2, H⟩ := Option.bind_eq_some_iff.1 H
    refine RE.op (op_call (f := 18) rfl rfl rfl rfl en18 bandplanref32_Valid.ok ⟨_, _, _, rfl, ht2, rfl⟩) rfl rfl rfl ?_
    refine RE.op (op_not rfl rfl) rfl rfl rfl ?_
    refine RE.nil ⟨⟨[(1, .int .i64 a1), (2, .ptr 0 0), (9, .bool (!t1))], [.cells [.lst false (a0.f_Winners.map S_api_Winner.enc), .lst false (a0.f_Exited.map (AV.int .i64)), .lst false (a0.f_Assignment.map S_api_Choice.enc), .int .i64 a0.f_Cost]]⟩, weak_sel ⟨rfl, rfl, rfl, trivial⟩ rfl, ?_⟩
    refine then_normal ?_
    by_cases h1 : ¬ (t1 = true)
    · rw [if_pos h1] at H
      refine T_yes rfl (not_t (Bool.eq_false_iff.mpr h1)) ?_
      refine T_seq ?_
      refine T_reg ?_
      refine RE.op (op_assign rfl rfl) rfl rfl rfl ?_
      refine RE.op (op_assign rfl rfl) rfl rfl rfl ?_
      refine RE.nil ⟨⟨[(4, .int .i64 0), (5, .int .i64 2)], [.cells [.lst false (a0.f_Winners.map S_api_Winner.enc), .lst false (a0.f_Exited.map (AV.int .i64)), .lst false (a0.f_Assignment.map S_api_Choice.enc), .int .i64 a0.f_Cost]]⟩, weak_sel ⟨rfl, rfl, trivial⟩ rfl, ?_⟩
      refine then_normal ?_
      refine T_ret ?_
      simp only [Option.some.injEq] at H
      subst H
      refine then_ret ?_
      exact ret2 rfl rfl rfl rfl
    · rw [if_neg h1] at H
      refine T_no rfl (not_f (Decidable.of_not_not h1)) ?_
      refine T_skip ?_
      refine then_normal ?_
      refine T_seq ?_
      refine T_reg ?_
      refine RE.op (op_faddr Tryd.underlying26 rfl ti22 rfl rfl rfl) rfl rfl rfl ?_
      refine RE.op (op_load ti22 rfl rfl rfl rfl rfl) rfl rfl rfl ?_
      refine RE.op (op_move rfl rfl) rfl rfl rfl ?_
      obtain ⟨t3, ht4, H⟩ := Option.bind_eq_some_iff.1 H
      refine RE.op (op_call (f := 25) rfl rfl rfl rfl en25 bandplanref32_Winner.ok ⟨_, _, _, _, rfl, ht4, rfl⟩) rfl rfl rfl ?_
      refine RE.op (op_assign rfl rfl) rfl rfl rfl ?_
      refine RE.nil ⟨⟨[(2, .ptr 0 0), (6, .int .i64 t3)], [.cells [.lst false (a0.f_Winners.map S_api_Winner.enc), .lst false (a0.f_Exited.map (AV.int .i64)), .lst false (a0.f_Assignment.map S_api_Choice.enc), .int .i64 a0.f_Cost]]⟩, weak_sel ⟨rfl, rfl, trivial⟩ rfl, ?_⟩
      refine then_normal ?_
      refine T_seq ?_
      refine T_seq ?_
      refine T_reg ?_
      refine RE.op (op_move rfl rfl) rfl rfl rfl ?_
      refine RE.op (op_bin rfl rfl rfl rfl) rfl rfl rfl ?_
      refine RE.nil ⟨⟨[(2, .ptr 0 0), (6, .int .i64 t3), (15, .bool (decide (t3 < 0)))], [.cells [.lst false (a0.f_Winners.map S_api_Winner.enc), .lst false (a0.f_Exited.map (AV.int .i64)), .lst false (a0.f_Assignment.map S_api_Choice.enc), .int .i64 a0.f_Cost]]⟩, weak_sel ⟨rfl, rfl, rfl, trivial⟩ rfl, ?_⟩
      refine then_normal ?_
      by_cases h2 : t3 < 0
      · rw [if_pos h2] at H
        refine T_yes rfl (decide_eq_true h2) ?_
        refine T_seq ?_
        refine T_reg ?_
        refine RE.op (op_assign rfl rfl) rfl rfl rfl ?_
        refine RE.op (op_assign rfl rfl) rfl rfl rfl ?_
        refine RE.nil ⟨⟨[(4, .int .i64 0), (5, .int .i64 9)], [.cells [.lst false (a0.f_Winners.map S_api_Winner.enc), .lst false (a0.f_Exited.map (AV.int .i64)), .lst false (a0.f_Assignment.map S_api_Choice.enc), .int .i64 a0.f_Cost]]⟩, weak_sel ⟨rfl, rfl, trivial⟩ rfl, ?_⟩
        refine then_normal ?_
        refine T_ret ?_
        simp only [Option.some.injEq] at H
        subst H
        refine then_ret ?_
        exact ret2 rfl rfl rfl rfl
      · rw [if_neg h2] at H
        refine T_no rfl (decide_eq_false h2) ?_
        refine T_skip ?_
        refine then_normal ?_
        refine T_seq ?_
        refine T_reg ?_
        refine RE.op (op_faddr Tryd.underlying26 rfl ti22 rfl rfl rfl) rfl rfl rfl ?_
        refine RE.op (op_load ti22 rfl rfl rfl rfl rfl) rfl rfl rfl ?_
        refine RE.op (op_move rfl rfl) rfl rfl rfl ?_
        obtain ⟨y5, hy6, H⟩ := Option.bind_eq_some_iff.1 H
        refine RE.op (op_iaddr Tryd.underlying22 ti48 rfl rfl rfl (idx_pos hy6) (idx_map hy6 S_api_Winner.enc) rfl (Nat.le_of_ble_eq_true rfl)) rfl rfl rfl ?_
        refine RE.op (op_faddr_e Tryd.underlying48 rfl ti3 rfl rfl rfl (idx_map hy6 S_api_Winner.enc) (Nat.le_of_ble_eq_true rfl)) rfl rfl rfl ?_
        refine RE.op (op_load_e ti3 rfl rfl rfl (idx_map hy6 S_api_Winner.enc) rfl) rfl rfl rfl ?_
        refine RE.op (op_assign rfl rfl) rfl rfl rfl ?_
        refine RE.op (op_assign rfl rfl) rfl rfl rfl ?_
        refine RE.nil ⟨⟨[(4, .int .i64 y5.f_Payment), (5, .int .i64 0)], [.cells [.lst false (a0.f_Winners.map S_api_Winner.enc), .lst false (a0.f_Exited.map (AV.int .i64)), .lst false (a0.f_Assignment.map S_api_Choice.enc), .int .i64 a0.f_Cost]]⟩, weak_sel ⟨rfl, rfl, trivial⟩ rfl, ?_⟩
        refine then_normal ?_
        refine T_ret ?_
        simp only [Option.some.injEq] at H
        subst H
        exact ret2 rfl rfl rfl rfl

/-! ### 16 bandplan/bandplanref32.Follows -/
def bandplanref32_Follows.l0 (a0 : S_api_Outcome) (a1 : (List S_api_Entrant)) (a2 : Int) : Nat → Int → Option (Sum (Unit) (Unit))
  | 0, _ => none
  | k + 1, x7 => (if x7 < ((a1.map S_api_Entrant.enc).length : Int) then (idx a1 x7).bind fun y10 => (bandplanref32_Winner.f k a0.f_Winners y10.f_Station).bind fun t12 => (if t12 < 0 then ((idx a1 x7).bind fun y15 => (bandplanref32_Has.f k a0.f_Exited y15.f_Station).bind fun t17 => (if ¬ (t17 = true) then some true else (idx a1 x7).bind fun y19 => (bandplanref32_On.f k a0.f_Assignment y19.f_Station).bind fun t21 => (idx a1 x7).bind fun y23 => some (t21 != y23.f_Home))).bind fun x14 => (if x14 = true then some (.inl ()) else bandplanref32_Follows.l0 a0 a1 a2 k (IntKind.i64.wrap (x7 + 1))) else (idx a0.f_Winners t12).bind fun y26 => (idx a1 x7).bind fun y28 => (idx a1 x7).bind fun y30 => (bandplanref28_Offer.f y28.f_Volume a2 y30.f_Home y26.f_Option).bind fun t32 => ((if ¬ t32.2 = 0 then some true else (idx a1 x7).bind fun y35 => (if y26.f_Option ≥ y35.f_Home then some true else some (decide (y26.f_Payment > t32.1))))).bind fun x34 => (if x34 = true then some (.inl ()) else bandplanref32_Follows.l0 a0 a1 a2 k (IntKind.i64.wrap (x7 + 1)))) else some (.inr ()))
def bandplanref32_Follows.f (k : Nat) (a0 : S_api_Outcome) (a1 : (List S_api_Entrant)) (a2 : Int) : Option (Bool × Int) := ((bandplanref32_Valid.f k a0).bind fun t2 => (if ¬ (t2 = true) then some true else (bandplanref32_Good.f k a1 a2).bind fun t4 => some (!t4))).bind fun x1 => (if x1 = true then some (false, 2) else (if ¬ (IntKind.i64.wrap (((a0.f_Winners.map S_api_Winner.enc).length : Int) + ((a0.f_Exited.map (AV.int .i64)).length : Int))) = ((a1.map S_api_Entrant.enc).length : Int) then some (false, 0) else ((bandplanref32_Follows.l0 a0 a1 a2 k 0).bind fun o => match o with | (.inl _) => some (false, 0) | (.inr _) => some (true, 0))))
def bandplanref32_Follows.S (args : List AV) (v : AV) : Prop := ∃ (k : Nat) (a0 : S_api_Outcome) (a1 : (List S_api_Entrant)) (a2 : Int) (r : Bool × Int), args = [S_api_Outcome.enc a0, .lst false (a1.map S_api_Entrant.enc), .int .i64 a2] ∧ bandplanref32_Follows.f k a0 a1 a2 = some r ∧ v = .tup [.bool r.1, .int .i64 r.2]
theorem bandplanref32_Follows.ok : VOk Tryd.prog 16 bandplanref32_Follows.S := by
  refine V_ok Tryd.func16 rfl fun args v hS => ⟨?_, ?_⟩
  · obtain ⟨k, a0, a1, a2, r, rfl, H, rfl⟩ := hS
    exact Nat.le_of_ble_eq_true rfl
  · obtain ⟨k, a0, a1, a2, r, rfl, H, rfl⟩ := hS
    unfold bandplanref32_Follows.f at H
    refine T_seq ?_
    refine T_reg ?_
    refine RE.op (op_box (k := 0) rfl rfl rfl rfl) rfl rfl rfl ?_
    refine RE.op (op_assign rfl rfl) rfl rfl rfl ?_
    refine RE.op (op_assign rfl rfl) rfl rfl rfl ?_
    refine RE.nil ⟨⟨[(1, .lst false (a1.map S_api_Entrant.enc)), (2, .int .i64 a2), (3, .ptr 0 0)], [.cells [.lst false (a0.f_Winners.map S_api_Winner.enc), .lst false (a0.f_Exited.map (AV.int .i64)), .lst false (a0.f_Assignment.map S_api_Choice.enc), .int .i64 a0.f_Cost]]⟩, weak_sel ⟨rfl, rfl, rfl, trivial⟩ rfl, ?_⟩
    refine then_normal ?_
    refine T_seq ?_
    refine T_seq ?_
    obtain ⟨x1, hj6, H⟩ := Option.bind_eq_some_iff.1 H
    refine T_reg_out ⟨[(1, .lst false (a1.map S_api_Entrant.enc)), (2, .int .i64 a2), (3, .ptr 0 0), (21, .bool x1)], [.cells [.lst false (a0.f_Winners.map S_api_Winner.enc), .lst false (a0.f_Exited.map (AV.int .i64)), .lst false (a0.f_Assignment.map S_api_Choice.enc), .int .i64 a0.f_Cost]]⟩ ?_ ?_
    · clear H
      have H := hj6
      clear hj6
      refine RE.op (op_load_agg (ds := [.lst false (a0.f_Winners.map S_api_Winner.enc), .lst false (a0.f_Exited.map (AV.int .i64)), .lst false (a0.f_Assignment.map S_api_Choice.enc), .int .i64 a0.f_Cost]) ti26 rfl rfl rfl rfl (Nat.le_of_ble_eq_true rfl) rfl) rfl rfl rfl ?_
      obtain ⟨t2, ht3, H⟩ := Option.bind_eq_some_iff.1 H
      refine RE.op (op_call (f := 18) rfl rfl rfl rfl en18 bandplanref32_Valid.ok ⟨_, _, _, rfl, ht3, rfl⟩) rfl rfl rfl ?_
      refine RE.op (op_not rfl rfl) rfl rfl rfl ?_
      refine RE.op (op_move rfl rfl) rfl rfl rfl ?_
      by_cases h1 : ¬ (t2 = true)
      · rw [if_pos h1] at H
        refine RE.skip rfl rfl (getb (not_t (Bool.eq_false_iff.mpr h1)) rfl) rfl rfl rfl ?_
        refine RE.skip rfl rfl (getb (not_t (Bool.eq_false_iff.mpr h1)) rfl) rfl rfl rfl ?_
        refine RE.skip rfl rfl (getb (not_t (Bool.eq_false_iff.mpr h1)) rfl) rfl rfl rfl ?_
        refine RE.skip rfl rfl (getb (not_t (Bool.eq_false_iff.mpr h1)) rfl) rfl rfl rfl ?_
        refine RE.op (op_pick_true rfl (evb (not_t (Bool.eq_false_iff.mpr h1)) rfl) rfl) rfl rfl rfl ?_
        simp only [Option.some.injEq] at H
        subst H
        exact RE.nil (weak_sel (env' := [(1, .lst false (a1.map S_api_Entrant.enc)), (2, .int .i64 a2), (3, .ptr 0 0), (21, .bool true)]) ⟨rfl, rfl, rfl, rfl, trivial⟩ rfl)
      · rw [if_neg h1] at H
        refine RE.opg (op_move rfl rfl) rfl rfl (getb (not_f (Decidable.of_not_not h1)) rfl) rfl rfl ?_
        refine RE.opg (op_move rfl rfl) rfl rfl (getb (not_f (Decidable.of_not_not h1)) rfl) rfl rfl ?_
        obtain ⟨t4, ht5, H⟩ := Option.bind_eq_some_iff.1 H
        refine RE.opg (op_call (f := 28) rfl rfl rfl rfl en28 bandplanref32_Good.ok ⟨_, _, _, _, rfl, ht5, rfl⟩) rfl rfl (getb (not_f (Decidable.of_not_not h1)) rfl) rfl rfl ?_
        refine RE.opg (op_not rfl rfl) rfl rfl (getb (not_f (Decidable.of_not_not h1)) rfl) rfl rfl ?_
        refine RE.op (op_pick_false rfl (evb (not_f (Decidable.of_not_not h1)) rfl) rfl) rfl rfl rfl ?_
        simp only [Option.some.injEq] at H
        subst H
        exact RE.nil (weak_sel (env' := [(1, .lst false (a1.map S_api_Entrant.enc)), (2, .int .i64 a2), (3, .ptr 0 0), (21, .bool (!t4))]) ⟨rfl, rfl, rfl, rfl, trivial⟩ rfl)
    · clear hj6
      refine then_normal ?_
      by_cases h2 : x1 = true
      · rw [if_pos h2] at H
        refine T_yes rfl h2 ?_
        refine T_seq ?_
        refine T_reg ?_
        refine RE.op (op_assign rfl rfl) rfl rfl rfl ?_
        refine RE.op (op_assign rfl rfl) rfl rfl rfl ?_
        refine RE.nil ⟨⟨[(6, .bool false), (7, .int .i64 2)], [.cells [.lst false (a0.f_Winners.map S_api_Winner.enc), .lst false (a0.f_Exited.map (AV.int .i64)), .lst false (a0.f_Assignment.map S_api_Choice.enc), .int .i64 a0.f_Cost]]⟩, weak_sel ⟨rfl, rfl, trivial⟩ rfl, ?_⟩
        refine then_normal ?_
        refine T_ret ?_
        simp only [Option.some.injEq] at H
        subst H
        refine then_ret ?_
        exact ret2 rfl rfl rfl rfl
      · rw [if_neg h2] at H
        refine T_no rfl (Bool.eq_false_iff.mpr h2) ?_
        refine T_skip ?_
        refine then_normal ?_
        refine T_seq ?_
        refine T_seq ?_
        refine T_reg ?_
        refine RE.op (op_faddr Tryd.underlying26 rfl ti22 rfl rfl rfl) rfl rfl rfl ?_
        refine RE.op (op_load ti22 rfl rfl rfl rfl rfl) rfl rfl rfl ?_
        refine RE.op (op_len Tryd.underlying22 rfl rfl) rfl rfl rfl ?_
        refine RE.op (op_faddr Tryd.underlying26 rfl ti23 rfl rfl rfl) rfl rfl rfl ?_
        refine RE.op (op_load ti23 rfl rfl rfl rfl rfl) rfl rfl rfl ?_
        refine RE.op (op_len Tryd.underlying23 rfl rfl) rfl rfl rfl ?_
        refine RE.op (op_bin rfl rfl rfl rfl) rfl rfl rfl ?_
        refine RE.op (op_move rfl rfl) rfl rfl rfl ?_
        refine RE.op (op_len Tryd.underlying37 rfl rfl) rfl rfl rfl ?_
        refine RE.op (op_bin rfl rfl rfl rfl) rfl rfl rfl ?_
        refine RE.nil ⟨⟨[(1, .lst false (a1.map S_api_Entrant.enc)), (2, .int .i64 a2), (3, .ptr 0 0), (31, .bool ((IntKind.i64.wrap (((a0.f_Winners.map S_api_Winner.enc).length : Int) + ((a0.f_Exited.map (AV.int .i64)).length : Int))) != ((a1.map S_api_Entrant.enc).length : Int)))], [.cells [.lst false (a0.f_Winners.map S_api_Winner.enc), .lst false (a0.f_Exited.map (AV.int .i64)), .lst false (a0.f_Assignment.map S_api_Choice.enc), .int .i64 a0.f_Cost]]⟩, weak_sel ⟨rfl, rfl, rfl, rfl, trivial⟩ rfl, ?_⟩
        refine then_normal ?_
        by_cases h3 : ¬ (IntKind.i64.wrap (((a0.f_Winners.map S_api_Winner.enc).length : Int) + ((a0.f_Exited.map (AV.int .i64)).length : Int))) = ((a1.map S_api_Entrant.enc).length : Int)
        · rw [if_pos h3] at H
          refine T_yes rfl (bne_iff_ne.mpr h3) ?_
          refine T_seq ?_
          refine T_reg ?_
          refine RE.op (op_assign rfl rfl) rfl rfl rfl ?_
          refine RE.op (op_assign rfl rfl) rfl rfl rfl ?_
          refine RE.nil ⟨⟨[(6, .bool false), (7, .int .i64 0)], [.cells [.lst false (a0.f_Winners.map S_api_Winner.enc), .lst false (a0.f_Exited.map (AV.int .i64)), .lst false (a0.f_Assignment.map S_api_Choice.enc), .int .i64 a0.f_Cost]]⟩, weak_sel ⟨rfl, rfl, trivial⟩ rfl, ?_⟩
          refine then_normal ?_
          refine T_ret ?_
          simp only [Option.some.injEq] at H
          subst H
          refine then_ret ?_
          exact ret2 rfl rfl rfl rfl
        · rw [if_neg h3] at H
          refine T_no rfl (bne_eq_false_iff_eq.mpr (Decidable.of_not_not h3)) ?_
          refine T_skip ?_
          refine then_normal ?_
          refine T_seq ?_
          refine T_seq ?_
          refine T_reg ?_
          refine RE.op (op_assign rfl rfl) rfl rfl rfl ?_
          refine RE.nil ⟨⟨[(1, .lst false (a1.map S_api_Entrant.enc)), (2, .int .i64 a2), (3, .ptr 0 0), (8, .int .i64 0)], [.cells [.lst false (a0.f_Winners.map S_api_Winner.enc), .lst false (a0.f_Exited.map (AV.int .i64)), .lst false (a0.f_Assignment.map S_api_Choice.enc), .int .i64 a0.f_Cost]]⟩, weak_sel ⟨rfl, rfl, rfl, rfl, trivial⟩ rfl, ?_⟩
          refine then_normal ?_
          refine T_block ?_
          obtain ⟨o8, hj9, H⟩ := Option.bind_eq_some_iff.1 H
          refine T_loop_out ((fun (x_ : Int) => ⟨[(1, .lst false (a1.map S_api_Entrant.enc)), (2, .int .i64 a2), (3, .ptr 0 0), (8, .int .i64 x_)], [.cells [.lst false (a0.f_Winners.map S_api_Winner.enc), .lst false (a0.f_Exited.map (AV.int .i64)), .lst false (a0.f_Assignment.map S_api_Choice.enc), .int .i64 a0.f_Cost]]⟩) 0) ((fun o => match o with | (.inl _) => .ret | (.inr _) => .exit 0) o8) ((fun o => match o with | (.inl ()) => ⟨[(6, .bool false), (7, .int .i64 0)], [.cells [.lst false (a0.f_Winners.map S_api_Winner.enc), .lst false (a0.f_Exited.map (AV.int .i64)), .lst false (a0.f_Assignment.map S_api_Choice.enc), .int .i64 a0.f_Cost]]⟩ | (.inr ()) => ⟨[], [.cells [.lst false (a0.f_Winners.map S_api_Winner.enc), .lst false (a0.f_Exited.map (AV.int .i64)), .lst false (a0.f_Assignment.map S_api_Choice.enc), .int .i64 a0.f_Cost]]⟩) o8) (weak_sel (env' := [(1, .lst false (a1.map S_api_Entrant.enc)), (2, .int .i64 a2), (3, .ptr 0 0), (8, .int .i64 0)]) ⟨rfl, rfl, rfl, rfl, trivial⟩ rfl) ?_ ?_
          · refine T_fix (bandplanref32_Follows.l0 a0 a1 a2) (fun (x_ : Int) => ⟨[(1, .lst false (a1.map S_api_Entrant.enc)), (2, .int .i64 a2), (3, .ptr 0 0), (8, .int .i64 x_)], [.cells [.lst false (a0.f_Winners.map S_api_Winner.enc), .lst false (a0.f_Exited.map (AV.int .i64)), .lst false (a0.f_Assignment.map S_api_Choice.enc), .int .i64 a0.f_Cost]]⟩) (fun o => match o with | (.inl _) => .ret | (.inr _) => .exit 0) (fun o => match o with | (.inl ()) => ⟨[(6, .bool false), (7, .int .i64 0)], [.cells [.lst false (a0.f_Winners.map S_api_Winner.enc), .lst false (a0.f_Exited.map (AV.int .i64)), .lst false (a0.f_Assignment.map S_api_Choice.enc), .int .i64 a0.f_Cost]]⟩ | (.inr ()) => ⟨[], [.cells [.lst false (a0.f_Winners.map S_api_Winner.enc), .lst false (a0.f_Exited.map (AV.int .i64)), .lst false (a0.f_Assignment.map S_api_Choice.enc), .int .i64 a0.f_Cost]]⟩) (fun _ => rfl) ?_ _ 0 _ hj9
            clear H hj9
            intro k IH x7 o H
            unfold bandplanref32_Follows.l0 at H
            (try simp only at H)
            refine T_seq ?_
            refine T_seq ?_
            refine T_reg ?_
            refine RE.op (op_move rfl rfl) rfl rfl rfl ?_
            refine RE.op (op_move rfl rfl) rfl rfl rfl ?_
            refine RE.op (op_len Tryd.underlying37 rfl rfl) rfl rfl rfl ?_
            refine RE.op (op_bin rfl rfl rfl rfl) rfl rfl rfl ?_
            refine RE.nil ⟨⟨[(1, .lst false (a1.map S_api_Entrant.enc)), (2, .int .i64 a2), (3, .ptr 0 0), (8, .int .i64 x7), (35, .bool (decide (x7 < ((a1.map S_api_Entrant.enc).length : Int))))], [.cells [.lst false (a0.f_Winners.map S_api_Winner.enc), .lst false (a0.f_Exited.map (AV.int .i64)), .lst false (a0.f_Assignment.map S_api_Choice.enc), .int .i64 a0.f_Cost]]⟩, weak_sel ⟨rfl, rfl, rfl, rfl, rfl, trivial⟩ rfl, ?_⟩
            refine then_normal ?_
            by_cases h4 : x7 < ((a1.map S_api_Entrant.enc).length : Int)
            · rw [if_pos h4] at H
              refine T_yes rfl (decide_eq_true h4) ?_
              refine T_skip ?_
              refine then_normal ?_
              refine T_seq ?_
              refine T_block ?_
              refine T_seq ?_
              refine T_drawn mix [0, 1, 0, 0, 12, 28, 60, 127, 255] (by kernel_rfl) ?_
              refine RD.q [(3, .ptr 0 0)] (by repeat (first | exact trivial | refine ⟨rfl, ?_⟩)) (fun _ => (op_faddr Tryd.underlying26 rfl ti22 rfl rfl rfl)) rfl rfl rfl ?_
              refine RD.l (i := 0) [(38, .ptr 0 0)] (by repeat (first | exact trivial | refine ⟨rfl, ?_⟩)) rfl (fun _ hb => (op_load ti22 rfl rfl rfl hb rfl)) rfl rfl rfl ?_
              refine RD.q [(1, .lst false (a1.map S_api_Entrant.enc))] (by repeat (first | exact trivial | refine ⟨rfl, ?_⟩)) (fun _ => (op_move rfl rfl)) rfl rfl rfl ?_
              refine RD.q [(8, .int .i64 x7)] (by repeat (first | exact trivial | refine ⟨rfl, ?_⟩)) (fun _ => (op_move rfl rfl)) rfl rfl rfl ?_
              obtain ⟨y10, hy11, H⟩ := Option.bind_eq_some_iff.1 H
              refine RD.q [(40, .lst false (a1.map S_api_Entrant.enc)), (41, .int .i64 x7)] (by repeat (first | exact trivial | refine ⟨rfl, ?_⟩)) (fun _ => (op_iaddr Tryd.underlying37 ti52 rfl rfl rfl (idx_pos hy11) (idx_map hy11 S_api_Entrant.enc) rfl (Nat.le_of_ble_eq_true rfl))) rfl rfl rfl ?_
              refine RD.q [(42, .eptr (a1.map S_api_Entrant.enc) x7.toNat 0)] (by repeat (first | exact trivial | refine ⟨rfl, ?_⟩)) (fun _ => (op_faddr_e Tryd.underlying52 rfl ti3 rfl rfl rfl (idx_map hy11 S_api_Entrant.enc) (Nat.le_of_ble_eq_true rfl))) rfl rfl rfl ?_
              refine RD.q [(43, .eptr (a1.map S_api_Entrant.enc) x7.toNat 0)] (by repeat (first | exact trivial | refine ⟨rfl, ?_⟩)) (fun _ => (op_load_e ti3 rfl rfl rfl (idx_map hy11 S_api_Entrant.enc) rfl)) rfl rfl rfl ?_
              obtain ⟨t12, ht13, H⟩ := Option.bind_eq_some_iff.1 H
              refine RD.q [(39, .lst false (a0.f_Winners.map S_api_Winner.enc)), (44, .int .i64 y10.f_Station)] (by repeat (first | exact trivial | refine ⟨rfl, ?_⟩)) (fun _ => (op_call (f := 25) rfl rfl rfl rfl en25 bandplanref32_Winner.ok ⟨_, _, _, _, rfl, ht13, rfl⟩)) rfl rfl rfl ?_
              refine RD.q [(45, .int .i64 t12)] (by repeat (first | exact trivial | refine ⟨rfl, ?_⟩)) (fun _ => (op_assign rfl rfl)) rfl rfl rfl ?_
              refine RD.nil (by kernel_rfl) ⟨⟨[(1, .lst false (a1.map S_api_Entrant.enc)), (2, .int .i64 a2), (3, .ptr 0 0), (8, .int .i64 x7), (9, .int .i64 t12)], [.cells [.lst false (a0.f_Winners.map S_api_Winner.enc), .lst false (a0.f_Exited.map (AV.int .i64)), .lst false (a0.f_Assignment.map S_api_Choice.enc), .int .i64 a0.f_Cost]]⟩, weak_sel ⟨rfl, rfl, rfl, rfl, rfl, trivial⟩ rfl, ?_⟩
              refine then_normal ?_
              refine T_seq ?_
              refine T_seq ?_
              refine T_reg ?_
              refine RE.op (op_move rfl rfl) rfl rfl rfl ?_
              refine RE.op (op_bin rfl rfl rfl rfl) rfl rfl rfl ?_
              refine RE.nil ⟨⟨[(1, .lst false (a1.map S_api_Entrant.enc)), (2, .int .i64 a2), (3, .ptr 0 0), (8, .int .i64 x7), (9, .int .i64 t12), (47, .bool (decide (t12 < 0)))], [.cells [.lst false (a0.f_Winners.map S_api_Winner.enc), .lst false (a0.f_Exited.map (AV.int .i64)), .lst false (a0.f_Assignment.map S_api_Choice.enc), .int .i64 a0.f_Cost]]⟩, weak_sel ⟨rfl, rfl, rfl, rfl, rfl, rfl, trivial⟩ rfl, ?_⟩
              refine then_normal ?_
              by_cases h5 : t12 < 0
              · rw [if_pos h5] at H
                refine T_yes rfl (decide_eq_true h5) ?_
                refine T_seq ?_
                refine T_seq ?_
                obtain ⟨x14, hj25, H⟩ := Option.bind_eq_some_iff.1 H
                refine T_drawn_out mix [0, 1, 0, 0, 12, 28, 60, 127, 255, 511, 1023, 2047, 1023, 1023, 13311, 29695, 62463, 131071, 1023, 1023, 787455, 1836031, 3933183, 8388607, 16777215] (by kernel_rfl) ⟨[(1, .lst false (a1.map S_api_Entrant.enc)), (2, .int .i64 a2), (3, .ptr 0 0), (8, .int .i64 x7), (72, .bool x14)], [.cells [.lst false (a0.f_Winners.map S_api_Winner.enc), .lst false (a0.f_Exited.map (AV.int .i64)), .lst false (a0.f_Assignment.map S_api_Choice.enc), .int .i64 a0.f_Cost]]⟩ ?_ ?_
                · clear H
                  have H := hj25
                  clear hj25
                  refine RD.q [(3, .ptr 0 0)] (by repeat (first | exact trivial | refine ⟨rfl, ?_⟩)) (fun _ => (op_faddr Tryd.underlying26 rfl ti23 rfl rfl rfl)) rfl rfl rfl ?_
                  refine RD.l (i := 0) [(48, .ptr 0 1)] (by repeat (first | exact trivial | refine ⟨rfl, ?_⟩)) rfl (fun _ hb => (op_load ti23 rfl rfl rfl hb rfl)) rfl rfl rfl ?_
                  refine RD.q [(1, .lst false (a1.map S_api_Entrant.enc))] (by repeat (first | exact trivial | refine ⟨rfl, ?_⟩)) (fun _ => (op_move rfl rfl)) rfl rfl rfl ?_
                  refine RD.q [(8, .int .i64 x7)] (by repeat (first | exact trivial | refine ⟨rfl, ?_⟩)) (fun _ => (op_move rfl rfl)) rfl rfl rfl ?_
                  obtain ⟨y15, hy16, H⟩ := Option.bind_eq_some_iff.1 H
                  refine RD.q [(50, .lst false (a1.map S_api_Entrant.enc)), (51, .int .i64 x7)] (by repeat (first | exact trivial | refine ⟨rfl, ?_⟩)) (fun _ => (op_iaddr Tryd.underlying37 ti52 rfl rfl rfl (idx_pos hy16) (idx_map hy16 S_api_Entrant.enc) rfl (Nat.le_of_ble_eq_true rfl))) rfl rfl rfl ?_
                  refine RD.q [(52, .eptr (a1.map S_api_Entrant.enc) x7.toNat 0)] (by repeat (first | exact trivial | refine ⟨rfl, ?_⟩)) (fun _ => (op_faddr_e Tryd.underlying52 rfl ti3 rfl rfl rfl (idx_map hy16 S_api_Entrant.enc) (Nat.le_of_ble_eq_true rfl))) rfl rfl rfl ?_
                  refine RD.q [(53, .eptr (a1.map S_api_Entrant.enc) x7.toNat 0)] (by repeat (first | exact trivial | refine ⟨rfl, ?_⟩)) (fun _ => (op_load_e ti3 rfl rfl rfl (idx_map hy16 S_api_Entrant.enc) rfl)) rfl rfl rfl ?_
                  obtain ⟨t17, ht18, H⟩ := Option.bind_eq_some_iff.1 H
                  refine RD.q [(49, .lst false (a0.f_Exited.map (AV.int .i64))), (54, .int .i64 y15.f_Station)] (by repeat (first | exact trivial | refine ⟨rfl, ?_⟩)) (fun _ => (op_call (f := 32) rfl rfl rfl rfl en32 bandplanref32_Has.ok ⟨_, _, _, _, rfl, ht18, rfl⟩)) rfl rfl rfl ?_
                  refine RD.q [(55, .bool t17)] (by repeat (first | exact trivial | refine ⟨rfl, ?_⟩)) (fun _ => (op_not rfl rfl)) rfl rfl rfl ?_
                  refine RD.q [(56, .bool (!t17))] (by repeat (first | exact trivial | refine ⟨rfl, ?_⟩)) (fun _ => (op_move rfl rfl)) rfl rfl rfl ?_
                  by_cases h6 : ¬ (t17 = true)
                  · rw [if_pos h6] at H
                    refine RD.skip rfl rfl (getb (not_t (Bool.eq_false_iff.mpr h6)) rfl) rfl rfl rfl ?_
                    refine RD.skip rfl rfl (getb (not_t (Bool.eq_false_iff.mpr h6)) rfl) rfl rfl rfl ?_
                    refine RD.skip rfl rfl (getb (not_t (Bool.eq_false_iff.mpr h6)) rfl) rfl rfl rfl ?_
                    refine RD.skip rfl rfl (getb (not_t (Bool.eq_false_iff.mpr h6)) rfl) rfl rfl rfl ?_
                    refine RD.skip rfl rfl (getb (not_t (Bool.eq_false_iff.mpr h6)) rfl) rfl rfl rfl ?_
                    refine RD.skip rfl rfl (getb (not_t (Bool.eq_false_iff.mpr h6)) rfl) rfl rfl rfl ?_
                    refine RD.skip rfl rfl (getb (not_t (Bool.eq_false_iff.mpr h6)) rfl) rfl rfl rfl ?_
                    refine RD.skip rfl rfl (getb (not_t (Bool.eq_false_iff.mpr h6)) rfl) rfl rfl rfl ?_
                    refine RD.skip rfl rfl (getb (not_t (Bool.eq_false_iff.mpr h6)) rfl) rfl rfl rfl ?_
                    refine RD.skip rfl rfl (getb (not_t (Bool.eq_false_iff.mpr h6)) rfl) rfl rfl rfl ?_
                    refine RD.skip rfl rfl (getb (not_t (Bool.eq_false_iff.mpr h6)) rfl) rfl rfl rfl ?_
                    refine RD.skip rfl rfl (getb (not_t (Bool.eq_false_iff.mpr h6)) rfl) rfl rfl rfl ?_
                    refine RD.skip rfl rfl (getb (not_t (Bool.eq_false_iff.mpr h6)) rfl) rfl rfl rfl ?_
                    refine RD.skip rfl rfl (getb (not_t (Bool.eq_false_iff.mpr h6)) rfl) rfl rfl rfl ?_
                    refine RD.q [(57, .bool (!t17)), (71, .tup [])] (by repeat (first | exact trivial | refine ⟨rfl, ?_⟩)) (fun _ => (op_pick_true rfl (evb (not_t (Bool.eq_false_iff.mpr h6)) rfl) rfl)) rfl rfl rfl ?_
                    simp only [Option.some.injEq] at H
                    subst H
                    exact RD.nil (by kernel_rfl) (weak_sel (env' := [(1, .lst false (a1.map S_api_Entrant.enc)), (2, .int .i64 a2), (3, .ptr 0 0), (8, .int .i64 x7), (72, .bool true)]) ⟨rfl, rfl, rfl, rfl, rfl, trivial⟩ rfl)
                  · rw [if_neg h6] at H
                    refine RD.qg [(3, .ptr 0 0)] (by repeat (first | exact trivial | refine ⟨rfl, ?_⟩)) (fun _ => (op_faddr Tryd.underlying26 rfl ti24 rfl rfl rfl)) rfl rfl (getb (not_f (Decidable.of_not_not h6)) rfl) rfl rfl ?_
                    refine RD.lg (i := 0) [(58, .ptr 0 2)] (by repeat (first | exact trivial | refine ⟨rfl, ?_⟩)) rfl (fun _ hb => (op_load ti24 rfl rfl rfl hb rfl)) rfl rfl (getb (not_f (Decidable.of_not_not h6)) rfl) rfl rfl ?_
                    refine RD.qg [(1, .lst false (a1.map S_api_Entrant.enc))] (by repeat (first | exact trivial | refine ⟨rfl, ?_⟩)) (fun _ => (op_move rfl rfl)) rfl rfl (getb (not_f (Decidable.of_not_not h6)) rfl) rfl rfl ?_
                    refine RD.qg [(8, .int .i64 x7)] (by repeat (first | exact trivial | refine ⟨rfl, ?_⟩)) (fun _ => (op_move rfl rfl)) rfl rfl (getb (not_f (Decidable.of_not_not h6)) rfl) rfl rfl ?_
                    obtain ⟨y19, hy20, H⟩ := Option.bind_eq_some_iff.1 H
                    refine RD.qg [(60, .lst false (a1.map S_api_Entrant.enc)), (61, .int .i64 x7)] (by repeat (first | exact trivial | refine ⟨rfl, ?_⟩)) (fun _ => (op_iaddr Tryd.underlying37 ti52 rfl rfl rfl (idx_pos hy20) (idx_map hy20 S_api_Entrant.enc) rfl (Nat.le_of_ble_eq_true rfl))) rfl rfl (getb (not_f (Decidable.of_not_not h6)) rfl) rfl rfl ?_
                    refine RD.qg [(62, .eptr (a1.map S_api_Entrant.enc) x7.toNat 0)] (by repeat (first | exact trivial | refine ⟨rfl, ?_⟩)) (fun _ => (op_faddr_e Tryd.underlying52 rfl ti3 rfl rfl rfl (idx_map hy20 S_api_Entrant.enc) (Nat.le_of_ble_eq_true rfl))) rfl rfl (getb (not_f (Decidable.of_not_not h6)) rfl) rfl rfl ?_
                    refine RD.qg [(63, .eptr (a1.map S_api_Entrant.enc) x7.toNat 0)] (by repeat (first | exact trivial | refine ⟨rfl, ?_⟩)) (fun _ => (op_load_e ti3 rfl rfl rfl (idx_map hy20 S_api_Entrant.enc) rfl)) rfl rfl (getb (not_f (Decidable.of_not_not h6)) rfl) rfl rfl ?_
                    obtain ⟨t21, ht22, H⟩ := Option.bind_eq_some_iff.1 H
                    refine RD.qg [(59, .lst false (a0.f_Assignment.map S_api_Choice.enc)), (64, .int .i64 y19.f_Station)] (by repeat (first | exact trivial | refine ⟨rfl, ?_⟩)) (fun _ => (op_call (f := 33) rfl rfl rfl rfl en33 bandplanref32_On.ok ⟨_, _, _, _, rfl, ht22, rfl⟩)) rfl rfl (getb (not_f (Decidable.of_not_not h6)) rfl) rfl rfl ?_
                    refine RD.qg [(1, .lst false (a1.map S_api_Entrant.enc))] (by repeat (first | exact trivial | refine ⟨rfl, ?_⟩)) (fun _ => (op_move rfl rfl)) rfl rfl (getb (not_f (Decidable.of_not_not h6)) rfl) rfl rfl ?_
                    refine RD.qg [(8, .int .i64 x7)] (by repeat (first | exact trivial | refine ⟨rfl, ?_⟩)) (fun _ => (op_move rfl rfl)) rfl rfl (getb (not_f (Decidable.of_not_not h6)) rfl) rfl rfl ?_
                    obtain ⟨y23, hy24, H⟩ := Option.bind_eq_some_iff.1 H
                    refine RD.qg [(66, .lst false (a1.map S_api_Entrant.enc)), (67, .int .i64 x7)] (by repeat (first | exact trivial | refine ⟨rfl, ?_⟩)) (fun _ => (op_iaddr Tryd.underlying37 ti52 rfl rfl rfl (idx_pos hy24) (idx_map hy24 S_api_Entrant.enc) rfl (Nat.le_of_ble_eq_true rfl))) rfl rfl (getb (not_f (Decidable.of_not_not h6)) rfl) rfl rfl ?_
                    refine RD.qg [(68, .eptr (a1.map S_api_Entrant.enc) x7.toNat 0)] (by repeat (first | exact trivial | refine ⟨rfl, ?_⟩)) (fun _ => (op_faddr_e Tryd.underlying52 rfl ti3 rfl rfl rfl (idx_map hy24 S_api_Entrant.enc) (Nat.le_of_ble_eq_true rfl))) rfl rfl (getb (not_f (Decidable.of_not_not h6)) rfl) rfl rfl ?_
                    refine RD.qg [(69, .eptr (a1.map S_api_Entrant.enc) x7.toNat 1)] (by repeat (first | exact trivial | refine ⟨rfl, ?_⟩)) (fun _ => (op_load_e ti3 rfl rfl rfl (idx_map hy24 S_api_Entrant.enc) rfl)) rfl rfl (getb (not_f (Decidable.of_not_not h6)) rfl) rfl rfl ?_
                    refine RD.qg [(65, .int .i64 t21), (70, .int .i64 y23.f_Home)] (by repeat (first | exact trivial | refine ⟨rfl, ?_⟩)) (fun _ => (op_bin rfl rfl rfl rfl)) rfl rfl (getb (not_f (Decidable.of_not_not h6)) rfl) rfl rfl ?_
                    refine RD.q [(57, .bool (!t17)), (71, .bool (t21 != y23.f_Home))] (by repeat (first | exact trivial | refine ⟨rfl, ?_⟩)) (fun _ => (op_pick_false rfl (evb (not_f (Decidable.of_not_not h6)) rfl) rfl)) rfl rfl rfl ?_
                    simp only [Option.some.injEq] at H
                    subst H
                    exact RD.nil (by kernel_rfl) (weak_sel (env' := [(1, .lst false (a1.map S_api_Entrant.enc)), (2, .int .i64 a2), (3, .ptr 0 0), (8, .int .i64 x7), (72, .bool (t21 != y23.f_Home))]) ⟨rfl, rfl, rfl, rfl, rfl, trivial⟩ rfl)
                · clear hj25
                  refine then_normal ?_
                  by_cases h7 : x14 = true
                  · rw [if_pos h7] at H
                    refine T_yes rfl h7 ?_
                    refine T_seq ?_
                    refine T_reg ?_
                    refine RE.op (op_assign rfl rfl) rfl rfl rfl ?_
                    refine RE.op (op_assign rfl rfl) rfl rfl rfl ?_
                    refine RE.nil ⟨⟨[(6, .bool false), (7, .int .i64 0)], [.cells [.lst false (a0.f_Winners.map S_api_Winner.enc), .lst false (a0.f_Exited.map (AV.int .i64)), .lst false (a0.f_Assignment.map S_api_Choice.enc), .int .i64 a0.f_Cost]]⟩, weak_sel ⟨rfl, rfl, trivial⟩ rfl, ?_⟩
                    refine then_normal ?_
                    refine T_ret ?_
                    simp only [Option.some.injEq] at H
                    subst H
                    refine then_ret ?_
                    refine then_ret ?_
                    refine block_ret ?_
                    refine then_ret ?_
                    refine then_ret ?_
                    exact ⟨rfl, weak_sel (env' := [(6, .bool false), (7, .int .i64 0)]) ⟨rfl, rfl, trivial⟩ rfl⟩
                  · rw [if_neg h7] at H
                    refine T_no rfl (Bool.eq_false_iff.mpr h7) ?_
                    refine T_skip ?_
                    refine then_normal ?_
                    refine T_exit ?_
                    refine then_exit ?_
                    refine block_eq ?_
                    refine then_normal ?_
                    refine T_reg ?_
                    refine RE.op (op_move rfl rfl) rfl rfl rfl ?_
                    refine RE.op (op_bin rfl rfl rfl rfl) rfl rfl rfl ?_
                    refine RE.op (op_assign rfl rfl) rfl rfl rfl ?_
                    refine RE.nil ⟨⟨[(1, .lst false (a1.map S_api_Entrant.enc)), (2, .int .i64 a2), (3, .ptr 0 0), (8, .int .i64 (IntKind.i64.wrap (x7 + 1)))], [.cells [.lst false (a0.f_Winners.map S_api_Winner.enc), .lst false (a0.f_Exited.map (AV.int .i64)), .lst false (a0.f_Assignment.map S_api_Choice.enc), .int .i64 a0.f_Cost]]⟩, weak_sel ⟨rfl, rfl, rfl, rfl, trivial⟩ rfl, ?_⟩
                    refine then_normal ?_
                    exact LoopAt.weak (weak_sel (env' := [(1, .lst false (a1.map S_api_Entrant.enc)), (2, .int .i64 a2), (3, .ptr 0 0), (8, .int .i64 (IntKind.i64.wrap (x7 + 1)))]) ⟨rfl, rfl, rfl, rfl, trivial⟩ rfl) (IH _ _ H)
              · rw [if_neg h5] at H
                refine T_no rfl (decide_eq_false h5) ?_
                refine T_skip ?_
                refine then_normal ?_
                refine T_seq ?_
                refine T_reg ?_
                refine RE.op (op_faddr Tryd.underlying26 rfl ti22 rfl rfl rfl) rfl rfl rfl ?_
                refine RE.op (op_load ti22 rfl rfl rfl rfl rfl) rfl rfl rfl ?_
                refine RE.op (op_move rfl rfl) rfl rfl rfl ?_
                obtain ⟨y26, hy27, H⟩ := Option.bind_eq_some_iff.1 H
                refine RE.op (op_iaddr Tryd.underlying22 ti48 rfl rfl rfl (idx_pos hy27) (idx_map hy27 S_api_Winner.enc) rfl (Nat.le_of_ble_eq_true rfl)) rfl rfl rfl ?_
                refine RE.op (op_load_agg_e (ds := [.int .i64 y26.f_Station, .int .i64 y26.f_Option, .int .i64 y26.f_Payment]) ti48 rfl rfl rfl (idx_map hy27 S_api_Winner.enc) (Nat.le_of_ble_eq_true rfl) rfl) rfl rfl rfl ?_
                refine RE.op (op_alloc (k := 1) ti48 rfl rfl rfl rfl) rfl rfl rfl ?_
                refine RE.op0 (op_store (cs' := [.int .i64 y26.f_Station, .int .i64 y26.f_Option, .int .i64 y26.f_Payment]) ti48 rfl rfl rfl rfl rfl rfl (Nat.le_of_ble_eq_true rfl) rfl) rfl rfl ?_
                refine RE.nil ⟨⟨[(1, .lst false (a1.map S_api_Entrant.enc)), (2, .int .i64 a2), (3, .ptr 0 0), (8, .int .i64 x7), (10, .ptr 1 0)], [.cells [.lst false (a0.f_Winners.map S_api_Winner.enc), .lst false (a0.f_Exited.map (AV.int .i64)), .lst false (a0.f_Assignment.map S_api_Choice.enc), .int .i64 a0.f_Cost], .cells [.int .i64 y26.f_Station, .int .i64 y26.f_Option, .int .i64 y26.f_Payment]]⟩, weak_sel ⟨rfl, rfl, rfl, rfl, rfl, trivial⟩ rfl, ?_⟩
                refine then_normal ?_
                refine T_seq ?_
                refine T_drawn mix [0, 0, 3, 7, 15, 0, 0, 0, 192, 448, 960, 0, 2048, 8191, 16383, 32767, 32767, 65535, 262143] (by kernel_rfl) ?_
                refine RD.q [(1, .lst false (a1.map S_api_Entrant.enc))] (by repeat (first | exact trivial | refine ⟨rfl, ?_⟩)) (fun _ => (op_move rfl rfl)) rfl rfl rfl ?_
                refine RD.q [(8, .int .i64 x7)] (by repeat (first | exact trivial | refine ⟨rfl, ?_⟩)) (fun _ => (op_move rfl rfl)) rfl rfl rfl ?_
                obtain ⟨y28, hy29, H⟩ := Option.bind_eq_some_iff.1 H
                refine RD.q [(79, .lst false (a1.map S_api_Entrant.enc)), (80, .int .i64 x7)] (by repeat (first | exact trivial | refine ⟨rfl, ?_⟩)) (fun _ => (op_iaddr Tryd.underlying37 ti52 rfl rfl rfl (idx_pos hy29) (idx_map hy29 S_api_Entrant.enc) rfl (Nat.le_of_ble_eq_true rfl))) rfl rfl rfl ?_
                refine RD.q [(81, .eptr (a1.map S_api_Entrant.enc) x7.toNat 0)] (by repeat (first | exact trivial | refine ⟨rfl, ?_⟩)) (fun _ => (op_faddr_e Tryd.underlying52 rfl ti3 rfl rfl rfl (idx_map hy29 S_api_Entrant.enc) (Nat.le_of_ble_eq_true rfl))) rfl rfl rfl ?_
                refine RD.q [(82, .eptr (a1.map S_api_Entrant.enc) x7.toNat 2)] (by repeat (first | exact trivial | refine ⟨rfl, ?_⟩)) (fun _ => (op_load_e ti3 rfl rfl rfl (idx_map hy29 S_api_Entrant.enc) rfl)) rfl rfl rfl ?_
                refine RD.q [(2, .int .i64 a2)] (by repeat (first | exact trivial | refine ⟨rfl, ?_⟩)) (fun _ => (op_move rfl rfl)) rfl rfl rfl ?_
                refine RD.q [(1, .lst false (a1.map S_api_Entrant.enc))] (by repeat (first | exact trivial | refine ⟨rfl, ?_⟩)) (fun _ => (op_move rfl rfl)) rfl rfl rfl ?_
                refine RD.q [(8, .int .i64 x7)] (by repeat (first | exact trivial | refine ⟨rfl, ?_⟩)) (fun _ => (op_move rfl rfl)) rfl rfl rfl ?_
                obtain ⟨y30, hy31, H⟩ := Option.bind_eq_some_iff.1 H
                refine RD.q [(85, .lst false (a1.map S_api_Entrant.enc)), (86, .int .i64 x7)] (by repeat (first | exact trivial | refine ⟨rfl, ?_⟩)) (fun _ => (op_iaddr Tryd.underlying37 ti52 rfl rfl rfl (idx_pos hy31) (idx_map hy31 S_api_Entrant.enc) rfl (Nat.le_of_ble_eq_true rfl))) rfl rfl rfl ?_
                refine RD.q [(87, .eptr (a1.map S_api_Entrant.enc) x7.toNat 0)] (by repeat (first | exact trivial | refine ⟨rfl, ?_⟩)) (fun _ => (op_faddr_e Tryd.underlying52 rfl ti3 rfl rfl rfl (idx_map hy31 S_api_Entrant.enc) (Nat.le_of_ble_eq_true rfl))) rfl rfl rfl ?_
                refine RD.q [(88, .eptr (a1.map S_api_Entrant.enc) x7.toNat 1)] (by repeat (first | exact trivial | refine ⟨rfl, ?_⟩)) (fun _ => (op_load_e ti3 rfl rfl rfl (idx_map hy31 S_api_Entrant.enc) rfl)) rfl rfl rfl ?_
                refine RD.q [(10, .ptr 1 0)] (by repeat (first | exact trivial | refine ⟨rfl, ?_⟩)) (fun _ => (op_faddr Tryd.underlying48 rfl ti3 rfl rfl rfl)) rfl rfl rfl ?_
                refine RD.l (i := 1) [(90, .ptr 1 1)] (by repeat (first | exact trivial | refine ⟨rfl, ?_⟩)) rfl (fun _ hb => (op_load ti3 rfl rfl rfl hb rfl)) rfl rfl rfl ?_
                obtain ⟨t32, ht33, H⟩ := Option.bind_eq_some_iff.1 H
                refine RD.q [(83, .int .i64 y28.f_Volume), (84, .int .i64 a2), (89, .int .i64 y30.f_Home), (91, .int .i64 y26.f_Option)] (by repeat (first | exact trivial | refine ⟨rfl, ?_⟩)) (fun _ => (op_call (f := 29) rfl rfl rfl rfl en29 bandplanref28_Offer.ok ⟨_, _, _, _, _, rfl, ht33, rfl⟩)) rfl rfl rfl ?_
                refine RD.q [(92, .tup [.int .i64 t32.1, .int .i64 t32.2])] (by repeat (first | exact trivial | refine ⟨rfl, ?_⟩)) (fun _ => (op_move rfl rfl)) rfl rfl rfl ?_
                refine RD.q [(78, .tup [.int .i64 t32.1, .int .i64 t32.2])] (by repeat (first | exact trivial | refine ⟨rfl, ?_⟩)) (fun _ => (op_extract rfl rfl rfl)) rfl rfl rfl ?_
                refine RD.q [(78, .tup [.int .i64 t32.1, .int .i64 t32.2])] (by repeat (first | exact trivial | refine ⟨rfl, ?_⟩)) (fun _ => (op_extract rfl rfl rfl)) rfl rfl rfl ?_
                refine RD.q [(93, .int .i64 t32.1)] (by repeat (first | exact trivial | refine ⟨rfl, ?_⟩)) (fun _ => (op_assign rfl rfl)) rfl rfl rfl ?_
                refine RD.q [(94, .int .i64 t32.2)] (by repeat (first | exact trivial | refine ⟨rfl, ?_⟩)) (fun _ => (op_assign rfl rfl)) rfl rfl rfl ?_
                refine RD.nil (by kernel_rfl) ⟨⟨[(1, .lst false (a1.map S_api_Entrant.enc)), (2, .int .i64 a2), (3, .ptr 0 0), (8, .int .i64 x7), (10, .ptr 1 0), (11, .int .i64 t32.1), (12, .int .i64 t32.2)], [.cells [.lst false (a0.f_Winners.map S_api_Winner.enc), .lst false (a0.f_Exited.map (AV.int .i64)), .lst false (a0.f_Assignment.map S_api_Choice.enc), .int .i64 a0.f_Cost], .cells [.int .i64 y26.f_Station, .int .i64 y26.f_Option, .int .i64 y26.f_Payment]]⟩, weak_sel ⟨rfl, rfl, rfl, rfl, rfl, rfl, rfl, trivial⟩ rfl, ?_⟩
                refine then_normal ?_
                refine T_seq ?_
                obtain ⟨x34, hj37, H⟩ := Option.bind_eq_some_iff.1 H
                refine T_drawn_out mix [0, 1, 3, 7, 15, 7, 7, 103, 231, 487, 1023, 2047, 4095, 8191, 16383, 8191, 65535, 131071] (by kernel_rfl) ⟨[(1, .lst false (a1.map S_api_Entrant.enc)), (2, .int .i64 a2), (3, .ptr 0 0), (8, .int .i64 x7), (112, .bool x34)], [.cells [.lst false (a0.f_Winners.map S_api_Winner.enc), .lst false (a0.f_Exited.map (AV.int .i64)), .lst false (a0.f_Assignment.map S_api_Choice.enc), .int .i64 a0.f_Cost], .cells [.int .i64 y26.f_Station, .int .i64 y26.f_Option, .int .i64 y26.f_Payment]]⟩ ?_ ?_
                · clear H
                  have H := hj37
                  clear hj37
                  refine RD.q [(12, .int .i64 t32.2)] (by repeat (first | exact trivial | refine ⟨rfl, ?_⟩)) (fun _ => (op_move rfl rfl)) rfl rfl rfl ?_
                  refine RD.q [(95, .int .i64 t32.2)] (by repeat (first | exact trivial | refine ⟨rfl, ?_⟩)) (fun _ => (op_bin rfl rfl rfl rfl)) rfl rfl rfl ?_
                  refine RD.q [(96, .bool (t32.2 != 0))] (by repeat (first | exact trivial | refine ⟨rfl, ?_⟩)) (fun _ => (op_move rfl rfl)) rfl rfl rfl ?_
                  by_cases h8 : ¬ t32.2 = 0
                  · rw [if_pos h8] at H
                    refine RD.skip rfl rfl (getb (bne_iff_ne.mpr h8) rfl) rfl rfl rfl ?_
                    refine RD.skip rfl rfl (getb (bne_iff_ne.mpr h8) rfl) rfl rfl rfl ?_
                    refine RD.skip rfl rfl (getb (bne_iff_ne.mpr h8) rfl) rfl rfl rfl ?_
                    refine RD.skip rfl rfl (getb (bne_iff_ne.mpr h8) rfl) rfl rfl rfl ?_
                    refine RD.skip rfl rfl (getb (bne_iff_ne.mpr h8) rfl) rfl rfl rfl ?_
                    refine RD.skip rfl rfl (getb (bne_iff_ne.mpr h8) rfl) rfl rfl rfl ?_
                    refine RD.skip rfl rfl (getb (bne_iff_ne.mpr h8) rfl) rfl rfl rfl ?_
                    refine RD.skip rfl rfl (getb (bne_iff_ne.mpr h8) rfl) rfl rfl rfl ?_
                    refine RD.q [(97, .bool (t32.2 != 0)), (105, .tup [])] (by repeat (first | exact trivial | refine ⟨rfl, ?_⟩)) (fun _ => (op_pick_true rfl (evb (bne_iff_ne.mpr h8) rfl) rfl)) rfl rfl rfl ?_
                    refine RD.q [(106, .bool true)] (by repeat (first | exact trivial | refine ⟨rfl, ?_⟩)) (fun _ => (op_move rfl rfl)) rfl rfl rfl ?_
                    refine RD.skip rfl rfl rfl rfl rfl rfl ?_
                    refine RD.skip rfl rfl rfl rfl rfl rfl ?_
                    refine RD.skip rfl rfl rfl rfl rfl rfl ?_
                    refine RD.skip rfl rfl rfl rfl rfl rfl ?_
                    refine RD.q [(107, .bool true), (111, .tup [])] (by repeat (first | exact trivial | refine ⟨rfl, ?_⟩)) (fun _ => (op_pick_true rfl rfl rfl)) rfl rfl rfl ?_
                    simp only [Option.some.injEq] at H
                    subst H
                    exact RD.nil (by kernel_rfl) (weak_sel (env' := [(1, .lst false (a1.map S_api_Entrant.enc)), (2, .int .i64 a2), (3, .ptr 0 0), (8, .int .i64 x7), (112, .bool true)]) ⟨rfl, rfl, rfl, rfl, rfl, trivial⟩ rfl)
                  · rw [if_neg h8] at H
                    refine RD.qg [(10, .ptr 1 0)] (by repeat (first | exact trivial | refine ⟨rfl, ?_⟩)) (fun _ => (op_faddr Tryd.underlying48 rfl ti3 rfl rfl rfl)) rfl rfl (getb (bne_eq_false_iff_eq.mpr (Decidable.of_not_not h8)) rfl) rfl rfl ?_
                    refine RD.lg (i := 1) [(98, .ptr 1 1)] (by repeat (first | exact trivial | refine ⟨rfl, ?_⟩)) rfl (fun _ hb => (op_load ti3 rfl rfl rfl hb rfl)) rfl rfl (getb (bne_eq_false_iff_eq.mpr (Decidable.of_not_not h8)) rfl) rfl rfl ?_
                    refine RD.qg [(1, .lst false (a1.map S_api_Entrant.enc))] (by repeat (first | exact trivial | refine ⟨rfl, ?_⟩)) (fun _ => (op_move rfl rfl)) rfl rfl (getb (bne_eq_false_iff_eq.mpr (Decidable.of_not_not h8)) rfl) rfl rfl ?_
                    refine RD.qg [(8, .int .i64 x7)] (by repeat (first | exact trivial | refine ⟨rfl, ?_⟩)) (fun _ => (op_move rfl rfl)) rfl rfl (getb (bne_eq_false_iff_eq.mpr (Decidable.of_not_not h8)) rfl) rfl rfl ?_
                    obtain ⟨y35, hy36, H⟩ := Option.bind_eq_some_iff.1 H
                    refine RD.qg [(100, .lst false (a1.map S_api_Entrant.enc)), (101, .int .i64 x7)] (by repeat (first | exact trivial | refine ⟨rfl, ?_⟩)) (fun _ => (op_iaddr Tryd.underlying37 ti52 rfl rfl rfl (idx_pos hy36) (idx_map hy36 S_api_Entrant.enc) rfl (Nat.le_of_ble_eq_true rfl))) rfl rfl (getb (bne_eq_false_iff_eq.mpr (Decidable.of_not_not h8)) rfl) rfl rfl ?_
                    refine RD.qg [(102, .eptr (a1.map S_api_Entrant.enc) x7.toNat 0)] (by repeat (first | exact trivial | refine ⟨rfl, ?_⟩)) (fun _ => (op_faddr_e Tryd.underlying52 rfl ti3 rfl rfl rfl (idx_map hy36 S_api_Entrant.enc) (Nat.le_of_ble_eq_true rfl))) rfl rfl (getb (bne_eq_false_iff_eq.mpr (Decidable.of_not_not h8)) rfl) rfl rfl ?_
                    refine RD.qg [(103, .eptr (a1.map S_api_Entrant.enc) x7.toNat 1)] (by repeat (first | exact trivial | refine ⟨rfl, ?_⟩)) (fun _ => (op_load_e ti3 rfl rfl rfl (idx_map hy36 S_api_Entrant.enc) rfl)) rfl rfl (getb (bne_eq_false_iff_eq.mpr (Decidable.of_not_not h8)) rfl) rfl rfl ?_
                    refine RD.qg [(99, .int .i64 y26.f_Option), (104, .int .i64 y35.f_Home)] (by repeat (first | exact trivial | refine ⟨rfl, ?_⟩)) (fun _ => (op_bin rfl rfl rfl rfl)) rfl rfl (getb (bne_eq_false_iff_eq.mpr (Decidable.of_not_not h8)) rfl) rfl rfl ?_
                    refine RD.q [(97, .bool (t32.2 != 0)), (105, .bool (decide (y26.f_Option ≥ y35.f_Home)))] (by repeat (first | exact trivial | refine ⟨rfl, ?_⟩)) (fun _ => (op_pick_false rfl (evb (bne_eq_false_iff_eq.mpr (Decidable.of_not_not h8)) rfl) rfl)) rfl rfl rfl ?_
                    refine RD.q [(106, .bool (decide (y26.f_Option ≥ y35.f_Home)))] (by repeat (first | exact trivial | refine ⟨rfl, ?_⟩)) (fun _ => (op_move rfl rfl)) rfl rfl rfl ?_
                    by_cases h9 : y26.f_Option ≥ y35.f_Home
                    · rw [if_pos h9] at H
                      refine RD.skip rfl rfl (getb (decide_eq_true h9) rfl) rfl rfl rfl ?_
                      refine RD.skip rfl rfl (getb (decide_eq_true h9) rfl) rfl rfl rfl ?_
                      refine RD.skip rfl rfl (getb (decide_eq_true h9) rfl) rfl rfl rfl ?_
                      refine RD.skip rfl rfl (getb (decide_eq_true h9) rfl) rfl rfl rfl ?_
                      refine RD.q [(107, .bool (decide (y26.f_Option ≥ y35.f_Home))), (111, .tup [])] (by repeat (first | exact trivial | refine ⟨rfl, ?_⟩)) (fun _ => (op_pick_true rfl (evb (decide_eq_true h9) rfl) rfl)) rfl rfl rfl ?_
                      simp only [Option.some.injEq] at H
                      subst H
                      exact RD.nil (by kernel_rfl) (weak_sel (env' := [(1, .lst false (a1.map S_api_Entrant.enc)), (2, .int .i64 a2), (3, .ptr 0 0), (8, .int .i64 x7), (112, .bool true)]) ⟨rfl, rfl, rfl, rfl, rfl, trivial⟩ rfl)
                    · rw [if_neg h9] at H
                      refine RD.qg [(10, .ptr 1 0)] (by repeat (first | exact trivial | refine ⟨rfl, ?_⟩)) (fun _ => (op_faddr Tryd.underlying48 rfl ti3 rfl rfl rfl)) rfl rfl (getb (decide_eq_false h9) rfl) rfl rfl ?_
                      refine RD.lg (i := 1) [(108, .ptr 1 2)] (by repeat (first | exact trivial | refine ⟨rfl, ?_⟩)) rfl (fun _ hb => (op_load ti3 rfl rfl rfl hb rfl)) rfl rfl (getb (decide_eq_false h9) rfl) rfl rfl ?_
                      refine RD.qg [(11, .int .i64 t32.1)] (by repeat (first | exact trivial | refine ⟨rfl, ?_⟩)) (fun _ => (op_move rfl rfl)) rfl rfl (getb (decide_eq_false h9) rfl) rfl rfl ?_
                      refine RD.qg [(109, .int .i64 y26.f_Payment), (110, .int .i64 t32.1)] (by repeat (first | exact trivial | refine ⟨rfl, ?_⟩)) (fun _ => (op_bin rfl rfl rfl rfl)) rfl rfl (getb (decide_eq_false h9) rfl) rfl rfl ?_
                      refine RD.q [(107, .bool (decide (y26.f_Option ≥ y35.f_Home))), (111, .bool (decide (y26.f_Payment > t32.1)))] (by repeat (first | exact trivial | refine ⟨rfl, ?_⟩)) (fun _ => (op_pick_false rfl (evb (decide_eq_false h9) rfl) rfl)) rfl rfl rfl ?_
                      simp only [Option.some.injEq] at H
                      subst H
                      exact RD.nil (by kernel_rfl) (weak_sel (env' := [(1, .lst false (a1.map S_api_Entrant.enc)), (2, .int .i64 a2), (3, .ptr 0 0), (8, .int .i64 x7), (112, .bool (decide (y26.f_Payment > t32.1)))]) ⟨rfl, rfl, rfl, rfl, rfl, trivial⟩ rfl)
                · clear hj37
                  refine then_normal ?_
                  by_cases h10 : x34 = true
                  · rw [if_pos h10] at H
                    refine T_yes rfl h10 ?_
                    refine T_seq ?_
                    refine T_reg ?_
                    refine RE.op (op_assign rfl rfl) rfl rfl rfl ?_
                    refine RE.op (op_assign rfl rfl) rfl rfl rfl ?_
                    refine RE.nil ⟨⟨[(6, .bool false), (7, .int .i64 0)], [.cells [.lst false (a0.f_Winners.map S_api_Winner.enc), .lst false (a0.f_Exited.map (AV.int .i64)), .lst false (a0.f_Assignment.map S_api_Choice.enc), .int .i64 a0.f_Cost], .cells [.int .i64 y26.f_Station, .int .i64 y26.f_Option, .int .i64 y26.f_Payment]]⟩, weak_sel ⟨rfl, rfl, trivial⟩ rfl, ?_⟩
                    refine then_normal ?_
                    refine T_ret ?_
                    simp only [Option.some.injEq] at H
                    subst H
                    refine block_ret ?_
                    refine then_ret ?_
                    refine then_ret ?_
                    exact ⟨rfl, weak_cut (env' := [(6, .bool false), (7, .int .i64 0)]) (bs' := [.cells [.lst false (a0.f_Winners.map S_api_Winner.enc), .lst false (a0.f_Exited.map (AV.int .i64)), .lst false (a0.f_Assignment.map S_api_Choice.enc), .int .i64 a0.f_Cost]]) 1 ⟨rfl, rfl, trivial⟩ rfl rfl rfl rfl⟩
                  · rw [if_neg h10] at H
                    refine T_no rfl (Bool.eq_false_iff.mpr h10) ?_
                    refine T_skip ?_
                    refine block_normal ?_
                    refine then_normal ?_
                    refine T_reg ?_
                    refine RE.op (op_move rfl rfl) rfl rfl rfl ?_
                    refine RE.op (op_bin rfl rfl rfl rfl) rfl rfl rfl ?_
                    refine RE.op (op_assign rfl rfl) rfl rfl rfl ?_
                    refine RE.nil ⟨⟨[(1, .lst false (a1.map S_api_Entrant.enc)), (2, .int .i64 a2), (3, .ptr 0 0), (8, .int .i64 (IntKind.i64.wrap (x7 + 1)))], [.cells [.lst false (a0.f_Winners.map S_api_Winner.enc), .lst false (a0.f_Exited.map (AV.int .i64)), .lst false (a0.f_Assignment.map S_api_Choice.enc), .int .i64 a0.f_Cost], .cells [.int .i64 y26.f_Station, .int .i64 y26.f_Option, .int .i64 y26.f_Payment]]⟩, weak_sel ⟨rfl, rfl, rfl, rfl, trivial⟩ rfl, ?_⟩
                    refine then_normal ?_
                    exact LoopAt.weak (weak_cut (env' := [(1, .lst false (a1.map S_api_Entrant.enc)), (2, .int .i64 a2), (3, .ptr 0 0), (8, .int .i64 (IntKind.i64.wrap (x7 + 1)))]) (bs' := [.cells [.lst false (a0.f_Winners.map S_api_Winner.enc), .lst false (a0.f_Exited.map (AV.int .i64)), .lst false (a0.f_Assignment.map S_api_Choice.enc), .int .i64 a0.f_Cost]]) 1 ⟨rfl, rfl, rfl, rfl, trivial⟩ rfl rfl rfl rfl) (IH _ _ H)
            · rw [if_neg h4] at H
              refine T_no rfl (decide_eq_false h4) ?_
              refine T_exit ?_
              simp only [Option.some.injEq] at H
              subst H
              refine then_exit ?_
              refine then_exit ?_
              exact ⟨rfl, weak_sel (env' := []) trivial rfl⟩
          · clear hj9
            rcases o8 with _ | _
            · simp only [Option.some.injEq] at H
              subst H
              refine block_ret ?_
              refine then_ret ?_
              exact ret2 rfl rfl rfl rfl
            · refine block_eq ?_
              refine then_normal ?_
              refine T_seq ?_
              refine T_reg ?_
              refine RE.op (op_assign rfl rfl) rfl rfl rfl ?_
              refine RE.op (op_assign rfl rfl) rfl rfl rfl ?_
              refine RE.nil ⟨⟨[(6, .bool true), (7, .int .i64 0)], [.cells [.lst false (a0.f_Winners.map S_api_Winner.enc), .lst false (a0.f_Exited.map (AV.int .i64)), .lst false (a0.f_Assignment.map S_api_Choice.enc), .int .i64 a0.f_Cost]]⟩, weak_sel ⟨rfl, rfl, trivial⟩ rfl, ?_⟩
              refine then_normal ?_
              refine T_ret ?_
              simp only [Option.some.injEq] at H
              subst H
              exact ret2 rfl rfl rfl rfl

/-! ### 42 bandplan/bandplanref32.SameWinners -/
def bandplanref32_SameWinners.l0 (a0 : (List S_api_Winner)) (a1 : (List S_api_Winner)) : Nat → Int → Option (Sum (Unit) (Unit))
  | 0, _ => none
  | k + 1, x1 => (if x1 < ((a0.map S_api_Winner.enc).length : Int) then (idx a0 x1).bind fun y4 => (idx a1 x1).bind fun y6 => (if ¬ ((y4.f_Station == y6.f_Station && (y4.f_Option == y6.f_Option && (y4.f_Payment == y6.f_Payment && true))) = true) then some (.inl ()) else bandplanref32_SameWinners.l0 a0 a1 k (IntKind.i64.wrap (x1 + 1))) else some (.inr ()))
def bandplanref32_SameWinners.f (k : Nat) (a0 : (List S_api_Winner)) (a1 : (List S_api_Winner)) : Option (Bool) := (if ¬ ((a0.map S_api_Winner.enc).length : Int) = ((a1.map S_api_Winner.enc).length : Int) then some false else ((bandplanref32_SameWinners.l0 a0 a1 k 0).bind fun o => match o with | (.inl _) => some false | (.inr _) => some true))
def bandplanref32_SameWinners.S (args : List AV) (v : AV) : Prop := ∃ (k : Nat) (a0 : (List S_api_Winner)) (a1 : (List S_api_Winner)) (r : Bool), args = [.lst false (a0.map S_api_Winner.enc), .lst false (a1.map S_api_Winner.enc)] ∧ bandplanref32_SameWinners.f k a0 a1 = some r ∧ v = .bool r
theorem bandplanref32_SameWinners.ok : VOk Tryd.prog 42 bandplanref32_SameWinners.S := by
  refine V_ok Tryd.func42 rfl fun args v hS => ⟨?_, ?_⟩
  · obtain ⟨k, a0, a1, r, rfl, H, rfl⟩ := hS
    exact Nat.le_of_ble_eq_true rfl
  · obtain ⟨k, a0, a1, r, rfl, H, rfl⟩ := hS
    unfold bandplanref32_SameWinners.f at H
    refine T_seq ?_
    refine T_reg ?_
    refine RE.op (op_assign rfl rfl) rfl rfl rfl ?_
    refine RE.nil ⟨⟨[(0, .lst false (a0.map S_api_Winner.enc)), (1, .lst false (a1.map S_api_Winner.enc))], []⟩, weak_sel ⟨rfl, rfl, trivial⟩ rfl, ?_⟩
    refine then_normal ?_
    refine T_seq ?_
    refine T_seq ?_
    refine T_reg ?_
    refine RE.op (op_move rfl rfl) rfl rfl rfl ?_
    refine RE.op (op_len Tryd.underlying22 rfl rfl) rfl rfl rfl ?_
    refine RE.op (op_move rfl rfl) rfl rfl rfl ?_
    refine RE.op (op_len Tryd.underlying22 rfl rfl) rfl rfl rfl ?_
    refine RE.op (op_bin rfl rfl rfl rfl) rfl rfl rfl ?_
    refine RE.nil ⟨⟨[(0, .lst false (a0.map S_api_Winner.enc)), (1, .lst false (a1.map S_api_Winner.enc)), (10, .bool (((a0.map S_api_Winner.enc).length : Int) != ((a1.map S_api_Winner.enc).length : Int)))], []⟩, weak_sel ⟨rfl, rfl, rfl, trivial⟩ rfl, ?_⟩
    refine then_normal ?_
    by_cases h1 : ¬ ((a0.map S_api_Winner.enc).length : Int) = ((a1.map S_api_Winner.enc).length : Int)
    · rw [if_pos h1] at H
      refine T_yes rfl (bne_iff_ne.mpr h1) ?_
      refine T_seq ?_
      refine T_reg ?_
      refine RE.op (op_assign rfl rfl) rfl rfl rfl ?_
      refine RE.nil ⟨⟨[(4, .bool false)], []⟩, weak_sel ⟨rfl, trivial⟩ rfl, ?_⟩
      refine then_normal ?_
      refine T_ret ?_
      simp only [Option.some.injEq] at H
      subst H
      refine then_ret ?_
      exact ret1 rfl rfl rfl
    · rw [if_neg h1] at H
      refine T_no rfl (bne_eq_false_iff_eq.mpr (Decidable.of_not_not h1)) ?_
      refine T_skip ?_
      refine then_normal ?_
      refine T_seq ?_
      refine T_seq ?_
      refine T_reg ?_
      refine RE.op (op_assign rfl rfl) rfl rfl rfl ?_
      refine RE.nil ⟨⟨[(0, .lst false (a0.map S_api_Winner.enc)), (1, .lst false (a1.map S_api_Winner.enc)), (5, .int .i64 0)], []⟩, weak_sel ⟨rfl, rfl, rfl, trivial⟩ rfl, ?_⟩
      refine then_normal ?_
      refine T_block ?_
      obtain ⟨o2, hj3, H⟩ := Option.bind_eq_some_iff.1 H
      refine T_loop_out ((fun (x_ : Int) => ⟨[(0, .lst false (a0.map S_api_Winner.enc)), (1, .lst false (a1.map S_api_Winner.enc)), (5, .int .i64 x_)], []⟩) 0) ((fun o => match o with | (.inl _) => .ret | (.inr _) => .exit 0) o2) ((fun o => match o with | (.inl ()) => ⟨[(4, .bool false)], []⟩ | (.inr ()) => ⟨[], []⟩) o2) (weak_sel (env' := [(0, .lst false (a0.map S_api_Winner.enc)), (1, .lst false (a1.map S_api_Winner.enc)), (5, .int .i64 0)]) ⟨rfl, rfl, rfl, trivial⟩ rfl) ?_ ?_
      · refine T_fix (bandplanref32_SameWinners.l0 a0 a1) (fun (x_ : Int) => ⟨[(0, .lst false (a0.map S_api_Winner.enc)), (1, .lst false (a1.map S_api_Winner.enc)), (5, .int .i64 x_)], []⟩) (fun o => match o with | (.inl _) => .ret | (.inr _) => .exit 0) (fun o => match o with | (.inl ()) => ⟨[(4, .bool false)], []⟩ | (.inr ()) => ⟨[], []⟩) (fun _ => rfl) ?_ _ 0 _ hj3
        clear H hj3
        intro k IH x1 o H
        unfold bandplanref32_SameWinners.l0 at H
        (try simp only at H)
        refine T_seq ?_
        refine T_seq ?_
        refine T_reg ?_
        refine RE.op (op_move rfl rfl) rfl rfl rfl ?_
        refine RE.op (op_move rfl rfl) rfl rfl rfl ?_
        refine RE.op (op_len Tryd.underlying22 rfl rfl) rfl rfl rfl ?_
        refine RE.op (op_bin rfl rfl rfl rfl) rfl rfl rfl ?_
        refine RE.nil ⟨⟨[(0, .lst false (a0.map S_api_Winner.enc)), (1, .lst false (a1.map S_api_Winner.enc)), (5, .int .i64 x1), (14, .bool (decide (x1 < ((a0.map S_api_Winner.enc).length : Int))))], []⟩, weak_sel ⟨rfl, rfl, rfl, rfl, trivial⟩ rfl, ?_⟩
        refine then_normal ?_
        by_cases h2 : x1 < ((a0.map S_api_Winner.enc).length : Int)
        · rw [if_pos h2] at H
          refine T_yes rfl (decide_eq_true h2) ?_
          refine T_skip ?_
          refine then_normal ?_
          refine T_seq ?_
          refine T_block ?_
          refine T_seq ?_
          refine T_drawn mix [0, 0, 3, 7, 0, 0, 48, 112, 255] (by kernel_rfl) ?_
          refine RD.q [(0, .lst false (a0.map S_api_Winner.enc))] (by repeat (first | exact trivial | refine ⟨rfl, ?_⟩)) (fun _ => (op_move rfl rfl)) rfl rfl rfl ?_
          refine RD.q [(5, .int .i64 x1)] (by repeat (first | exact trivial | refine ⟨rfl, ?_⟩)) (fun _ => (op_move rfl rfl)) rfl rfl rfl ?_
          obtain ⟨y4, hy5, H⟩ := Option.bind_eq_some_iff.1 H
          refine RD.q [(17, .lst false (a0.map S_api_Winner.enc)), (18, .int .i64 x1)] (by repeat (first | exact trivial | refine ⟨rfl, ?_⟩)) (fun _ => (op_iaddr Tryd.underlying22 ti48 rfl rfl rfl (idx_pos hy5) (idx_map hy5 S_api_Winner.enc) rfl (Nat.le_of_ble_eq_true rfl))) rfl rfl rfl ?_
          refine RD.q [(19, .eptr (a0.map S_api_Winner.enc) x1.toNat 0)] (by repeat (first | exact trivial | refine ⟨rfl, ?_⟩)) (fun _ => (op_load_agg_e (ds := [.int .i64 y4.f_Station, .int .i64 y4.f_Option, .int .i64 y4.f_Payment]) ti48 rfl rfl rfl (idx_map hy5 S_api_Winner.enc) (Nat.le_of_ble_eq_true rfl) rfl)) rfl rfl rfl ?_
          refine RD.q [(1, .lst false (a1.map S_api_Winner.enc))] (by repeat (first | exact trivial | refine ⟨rfl, ?_⟩)) (fun _ => (op_move rfl rfl)) rfl rfl rfl ?_
          refine RD.q [(5, .int .i64 x1)] (by repeat (first | exact trivial | refine ⟨rfl, ?_⟩)) (fun _ => (op_move rfl rfl)) rfl rfl rfl ?_
          obtain ⟨y6, hy7, H⟩ := Option.bind_eq_some_iff.1 H
          refine RD.q [(21, .lst false (a1.map S_api_Winner.enc)), (22, .int .i64 x1)] (by repeat (first | exact trivial | refine ⟨rfl, ?_⟩)) (fun _ => (op_iaddr Tryd.underlying22 ti48 rfl rfl rfl (idx_pos hy7) (idx_map hy7 S_api_Winner.enc) rfl (Nat.le_of_ble_eq_true rfl))) rfl rfl rfl ?_
          refine RD.q [(23, .eptr (a1.map S_api_Winner.enc) x1.toNat 0)] (by repeat (first | exact trivial | refine ⟨rfl, ?_⟩)) (fun _ => (op_load_agg_e (ds := [.int .i64 y6.f_Station, .int .i64 y6.f_Option, .int .i64 y6.f_Payment]) ti48 rfl rfl rfl (idx_map hy7 S_api_Winner.enc) (Nat.le_of_ble_eq_true rfl) rfl)) rfl rfl rfl ?_
          refine RD.q [(20, .agg [.int .i64 y4.f_Station, .int .i64 y4.f_Option, .int .i64 y4.f_Payment]), (24, .agg [.int .i64 y6.f_Station, .int .i64 y6.f_Option, .int .i64 y6.f_Payment])] (by repeat (first | exact trivial | refine ⟨rfl, ?_⟩)) (fun _ => (op_nes Tryd.underlying48 (by kernel_rfl) (by kernel_rfl) (.int _ _ _ _ _ _ _ _ rfl rfl Tryd.underlying3 _ _ _ ti3 (.int _ _ _ _ _ _ _ _ rfl rfl Tryd.underlying3 _ _ _ ti3 (.int _ _ _ _ _ _ _ _ rfl rfl Tryd.underlying3 _ _ _ ti3 (.nil _)))) rfl rfl rfl)) rfl rfl rfl ?_
          refine RD.nil (by kernel_rfl) ⟨⟨[(0, .lst false (a0.map S_api_Winner.enc)), (1, .lst false (a1.map S_api_Winner.enc)), (5, .int .i64 x1), (25, .bool (!(y4.f_Station == y6.f_Station && (y4.f_Option == y6.f_Option && (y4.f_Payment == y6.f_Payment && true)))))], []⟩, weak_sel ⟨rfl, rfl, rfl, rfl, trivial⟩ rfl, ?_⟩
          refine then_normal ?_
          by_cases h3 : ¬ ((y4.f_Station == y6.f_Station && (y4.f_Option == y6.f_Option && (y4.f_Payment == y6.f_Payment && true))) = true)
          · rw [if_pos h3] at H
            refine T_yes rfl (not_t (Bool.eq_false_iff.mpr h3)) ?_
            refine T_seq ?_
            refine T_reg ?_
            refine RE.op (op_assign rfl rfl) rfl rfl rfl ?_
            refine RE.nil ⟨⟨[(4, .bool false)], []⟩, weak_sel ⟨rfl, trivial⟩ rfl, ?_⟩
            refine then_normal ?_
            refine T_ret ?_
            simp only [Option.some.injEq] at H
            subst H
            refine block_ret ?_
            refine then_ret ?_
            refine then_ret ?_
            exact ⟨rfl, weak_sel (env' := [(4, .bool false)]) ⟨rfl, trivial⟩ rfl⟩
          · rw [if_neg h3] at H
            refine T_no rfl (not_f (Decidable.of_not_not h3)) ?_
            refine T_skip ?_
            refine block_normal ?_
            refine then_normal ?_
            refine T_reg ?_
            refine RE.op (op_move rfl rfl) rfl rfl rfl ?_
            refine RE.op (op_bin rfl rfl rfl rfl) rfl rfl rfl ?_
            refine RE.op (op_assign rfl rfl) rfl rfl rfl ?_
            refine RE.nil ⟨⟨[(0, .lst false (a0.map S_api_Winner.enc)), (1, .lst false (a1.map S_api_Winner.enc)), (5, .int .i64 (IntKind.i64.wrap (x1 + 1)))], []⟩, weak_sel ⟨rfl, rfl, rfl, trivial⟩ rfl, ?_⟩
            refine then_normal ?_
            exact LoopAt.weak (weak_sel (env' := [(0, .lst false (a0.map S_api_Winner.enc)), (1, .lst false (a1.map S_api_Winner.enc)), (5, .int .i64 (IntKind.i64.wrap (x1 + 1)))]) ⟨rfl, rfl, rfl, trivial⟩ rfl) (IH _ _ H)
        · rw [if_neg h2] at H
          refine T_no rfl (decide_eq_false h2) ?_
          refine T_exit ?_
          simp only [Option.some.injEq] at H
          subst H
          refine then_exit ?_
          refine then_exit ?_
          exact ⟨rfl, weak_sel (env' := []) trivial rfl⟩
      · clear hj3
        rcases o2 with _ | _
        · simp only [Option.some.injEq] at H
          subst H
          refine block_ret ?_
          refine then_ret ?_
          exact ret1 rfl rfl rfl
        · refine block_eq ?_
          refine then_normal ?_
          refine T_seq ?_
          refine T_reg ?_
          refine RE.op (op_assign rfl rfl) rfl rfl rfl ?_
          refine RE.nil ⟨⟨[(4, .bool true)], []⟩, weak_sel ⟨rfl, trivial⟩ rfl, ?_⟩
          refine then_normal ?_
          refine T_ret ?_
          simp only [Option.some.injEq] at H
          subst H
          exact ret1 rfl rfl rfl

/-! ### 43 bandplan/bandplanref31.SameChoices -/
def bandplanref31_SameChoices.l0 (a0 : (List S_api_Choice)) (a1 : (List S_api_Choice)) : Nat → Int → Option (Sum (Unit) (Unit))
  | 0, _ => none
  | k + 1, x1 => (if x1 < ((a0.map S_api_Choice.enc).length : Int) then (idx a0 x1).bind fun y4 => (idx a1 x1).bind fun y6 => (if ¬ ((y4.f_Station == y6.f_Station && (y4.f_Channel == y6.f_Channel && true)) = true) then some (.inl ()) else bandplanref31_SameChoices.l0 a0 a1 k (IntKind.i64.wrap (x1 + 1))) else some (.inr ()))
def bandplanref31_SameChoices.f (k : Nat) (a0 : (List S_api_Choice)) (a1 : (List S_api_Choice)) : Option (Bool) := (if ¬ ((a0.map S_api_Choice.enc).length : Int) = ((a1.map S_api_Choice.enc).length : Int) then some false else ((bandplanref31_SameChoices.l0 a0 a1 k 0).bind fun o => match o with | (.inl _) => some false | (.inr _) => some true))
def bandplanref31_SameChoices.S (args : List AV) (v : AV) : Prop := ∃ (k : Nat) (a0 : (List S_api_Choice)) (a1 : (List S_api_Choice)) (r : Bool), args = [.lst false (a0.map S_api_Choice.enc), .lst false (a1.map S_api_Choice.enc)] ∧ bandplanref31_SameChoices.f k a0 a1 = some r ∧ v = .bool r
theorem bandplanref31_SameChoices.ok : VOk Tryd.prog 43 bandplanref31_SameChoices.S := by
  refine V_ok Tryd.func43 rfl fun args v hS => ⟨?_, ?_⟩
  · obtain ⟨k, a0, a1, r, rfl, H, rfl⟩ := hS
    exact Nat.le_of_ble_eq_true rfl
  · obtain ⟨k, a0, a1, r, rfl, H, rfl⟩ := hS
    unfold bandplanref31_SameChoices.f at H
    refine T_seq ?_
    refine T_reg ?_
    refine RE.op (op_assign rfl rfl) rfl rfl rfl ?_
    refine RE.nil ⟨⟨[(0, .lst false (a0.map S_api_Choice.enc)), (1, .lst false (a1.map S_api_Choice.enc))], []⟩, weak_sel ⟨rfl, rfl, trivial⟩ rfl, ?_⟩
    refine then_normal ?_
    refine T_seq ?_
    refine T_seq ?_
    refine T_reg ?_
    refine RE.op (op_move rfl rfl) rfl rfl rfl ?_
    refine RE.op (op_len Tryd.underlying24 rfl rfl) rfl rfl rfl ?_
    refine RE.op (op_move rfl rfl) rfl rfl rfl ?_
    refine RE.op (op_len Tryd.underlying24 rfl rfl) rfl rfl rfl ?_
    refine RE.op (op_bin rfl rfl rfl rfl) rfl rfl rfl ?_
    refine RE.nil ⟨⟨[(0, .lst false (a0.map S_api_Choice.enc)), (1, .lst false (a1.map S_api_Choice.enc)), (10, .bool (((a0.map S_api_Choice.enc).length : Int) != ((a1.map S_api_Choice.enc).length : Int)))], []⟩, weak_sel ⟨rfl, rfl, rfl, trivial⟩ rfl, ?_⟩
    refine then_normal ?_
    by_cases h1 : ¬ ((a0.map S_api_Choice.enc).length : Int) = ((a1.map S_api_Choice.enc).length : Int)
    · rw [if_pos h1] at H
      refine T_yes rfl (bne_iff_ne.mpr h1) ?_
      refine T_seq ?_
      refine T_reg ?_
      refine RE.op (op_assign rfl rfl) rfl rfl rfl ?_
      refine RE.nil ⟨⟨[(4, .bool false)], []⟩, weak_sel ⟨rfl, trivial⟩ rfl, ?_⟩
      refine then_normal ?_
      refine T_ret ?_
      simp only [Option.some.injEq] at H
      subst H
      refine then_ret ?_
      exact ret1 rfl rfl rfl
    · rw [if_neg h1] at H
      refine T_no rfl (bne_eq_false_iff_eq.mpr (Decidable.of_not_not h1)) ?_
      refine T_skip ?_
      refine then_normal ?_
      refine T_seq ?_
      refine T_seq ?_
      refine T_reg ?_
      refine RE.op (op_assign rfl rfl) rfl rfl rfl ?_
      refine RE.nil ⟨⟨[(0, .lst false (a0.map S_api_Choice.enc)), (1, .lst false (a1.map S_api_Choice.enc)), (5, .int .i64 0)], []⟩, weak_sel ⟨rfl, rfl, rfl, trivial⟩ rfl, ?_⟩
      refine then_normal ?_
      refine T_block ?_
      obtain ⟨o2, hj3, H⟩ := Option.bind_eq_some_iff.1 H
      refine T_loop_out ((fun (x_ : Int) => ⟨[(0, .lst false (a0.map S_api_Choice.enc)), (1, .lst false (a1.map S_api_Choice.enc)), (5, .int .i64 x_)], []⟩) 0) ((fun o => match o with | (.inl _) => .ret | (.inr _) => .exit 0) o2) ((fun o => match o with | (.inl ()) => ⟨[(4, .bool false)], []⟩ | (.inr ()) => ⟨[], []⟩) o2) (weak_sel (env' := [(0, .lst false (a0.map S_api_Choice.enc)), (1, .lst false (a1.map S_api_Choice.enc)), (5, .int .i64 0)]) ⟨rfl, rfl, rfl, trivial⟩ rfl) ?_ ?_
      · refine T_fix (bandplanref31_SameChoices.l0 a0 a1) (fun (x_ : Int) => ⟨[(0, .lst false (a0.map S_api_Choice.enc)), (1, .lst false (a1.map S_api_Choice.enc)), (5, .int .i64 x_)], []⟩) (fun o => match o with | (.inl _) => .ret | (.inr _) => .exit 0) (fun o => match o with | (.inl ()) => ⟨[(4, .bool false)], []⟩ | (.inr ()) => ⟨[], []⟩) (fun _ => rfl) ?_ _ 0 _ hj3
        clear H hj3
        intro k IH x1 o H
        unfold bandplanref31_SameChoices.l0 at H
        (try simp only at H)
        refine T_seq ?_
        refine T_seq ?_
        refine T_reg ?_
        refine RE.op (op_move rfl rfl) rfl rfl rfl ?_
        refine RE.op (op_move rfl rfl) rfl rfl rfl ?_
        refine RE.op (op_len Tryd.underlying24 rfl rfl) rfl rfl rfl ?_
        refine RE.op (op_bin rfl rfl rfl rfl) rfl rfl rfl ?_
        refine RE.nil ⟨⟨[(0, .lst false (a0.map S_api_Choice.enc)), (1, .lst false (a1.map S_api_Choice.enc)), (5, .int .i64 x1), (14, .bool (decide (x1 < ((a0.map S_api_Choice.enc).length : Int))))], []⟩, weak_sel ⟨rfl, rfl, rfl, rfl, trivial⟩ rfl, ?_⟩
        refine then_normal ?_
        by_cases h2 : x1 < ((a0.map S_api_Choice.enc).length : Int)
        · rw [if_pos h2] at H
          refine T_yes rfl (decide_eq_true h2) ?_
          refine T_skip ?_
          refine then_normal ?_
          refine T_seq ?_
          refine T_block ?_
          refine T_seq ?_
          refine T_drawn mix [0, 0, 3, 7, 0, 0, 48, 112, 255] (by kernel_rfl) ?_
          refine RD.q [(0, .lst false (a0.map S_api_Choice.enc))] (by repeat (first | exact trivial | refine ⟨rfl, ?_⟩)) (fun _ => (op_move rfl rfl)) rfl rfl rfl ?_
          refine RD.q [(5, .int .i64 x1)] (by repeat (first | exact trivial | refine ⟨rfl, ?_⟩)) (fun _ => (op_move rfl rfl)) rfl rfl rfl ?_
          obtain ⟨y4, hy5, H⟩ := Option.bind_eq_some_iff.1 H
          refine RD.q [(17, .lst false (a0.map S_api_Choice.enc)), (18, .int .i64 x1)] (by repeat (first | exact trivial | refine ⟨rfl, ?_⟩)) (fun _ => (op_iaddr Tryd.underlying24 ti50 rfl rfl rfl (idx_pos hy5) (idx_map hy5 S_api_Choice.enc) rfl (Nat.le_of_ble_eq_true rfl))) rfl rfl rfl ?_
          refine RD.q [(19, .eptr (a0.map S_api_Choice.enc) x1.toNat 0)] (by repeat (first | exact trivial | refine ⟨rfl, ?_⟩)) (fun _ => (op_load_agg_e (ds := [.int .i64 y4.f_Station, .int .i64 y4.f_Channel]) ti50 rfl rfl rfl (idx_map hy5 S_api_Choice.enc) (Nat.le_of_ble_eq_true rfl) rfl)) rfl rfl rfl ?_
          refine RD.q [(1, .lst false (a1.map S_api_Choice.enc))] (by repeat (first | exact trivial | refine ⟨rfl, ?_⟩)) (fun _ => (op_move rfl rfl)) rfl rfl rfl ?_
          refine RD.q [(5, .int .i64 x1)] (by repeat (first | exact trivial | refine ⟨rfl, ?_⟩)) (fun _ => (op_move rfl rfl)) rfl rfl rfl ?_
          obtain ⟨y6, hy7, H⟩ := Option.bind_eq_some_iff.1 H
          refine RD.q [(21, .lst false (a1.map S_api_Choice.enc)), (22, .int .i64 x1)] (by repeat (first | exact trivial | refine ⟨rfl, ?_⟩)) (fun _ => (op_iaddr Tryd.underlying24 ti50 rfl rfl rfl (idx_pos hy7) (idx_map hy7 S_api_Choice.enc) rfl (Nat.le_of_ble_eq_true rfl))) rfl rfl rfl ?_
          refine RD.q [(23, .eptr (a1.map S_api_Choice.enc) x1.toNat 0)] (by repeat (first | exact trivial | refine ⟨rfl, ?_⟩)) (fun _ => (op_load_agg_e (ds := [.int .i64 y6.f_Station, .int .i64 y6.f_Channel]) ti50 rfl rfl rfl (idx_map hy7 S_api_Choice.enc) (Nat.le_of_ble_eq_true rfl) rfl)) rfl rfl rfl ?_
          refine RD.q [(20, .agg [.int .i64 y4.f_Station, .int .i64 y4.f_Channel]), (24, .agg [.int .i64 y6.f_Station, .int .i64 y6.f_Channel])] (by repeat (first | exact trivial | refine ⟨rfl, ?_⟩)) (fun _ => (op_nes Tryd.underlying50 (by kernel_rfl) (by kernel_rfl) (.int _ _ _ _ _ _ _ _ rfl rfl Tryd.underlying3 _ _ _ ti3 (.int _ _ _ _ _ _ _ _ rfl rfl Tryd.underlying3 _ _ _ ti3 (.nil _))) rfl rfl rfl)) rfl rfl rfl ?_
          refine RD.nil (by kernel_rfl) ⟨⟨[(0, .lst false (a0.map S_api_Choice.enc)), (1, .lst false (a1.map S_api_Choice.enc)), (5, .int .i64 x1), (25, .bool (!(y4.f_Station == y6.f_Station && (y4.f_Channel == y6.f_Channel && true))))], []⟩, weak_sel ⟨rfl, rfl, rfl, rfl, trivial⟩ rfl, ?_⟩
          refine then_normal ?_
          by_cases h3 : ¬ ((y4.f_Station == y6.f_Station && (y4.f_Channel == y6.f_Channel && true)) = true)
          · rw [if_pos h3] at H
            refine T_yes rfl (not_t (Bool.eq_false_iff.mpr h3)) ?_
            refine T_seq ?_
            refine T_reg ?_
            refine RE.op (op_assign rfl rfl) rfl rfl rfl ?_
            refine RE.nil ⟨⟨[(4, .bool false)], []⟩, weak_sel ⟨rfl, trivial⟩ rfl, ?_⟩
            refine then_normal ?_
            refine T_ret ?_
            simp only [Option.some.injEq] at H
            subst H
            refine block_ret ?_
            refine then_ret ?_
            refine then_ret ?_
            exact ⟨rfl, weak_sel (env' := [(4, .bool false)]) ⟨rfl, trivial⟩ rfl⟩
          · rw [if_neg h3] at H
            refine T_no rfl (not_f (Decidable.of_not_not h3)) ?_
            refine T_skip ?_
            refine block_normal ?_
            refine then_normal ?_
            refine T_reg ?_
            refine RE.op (op_move rfl rfl) rfl rfl rfl ?_
            refine RE.op (op_bin rfl rfl rfl rfl) rfl rfl rfl ?_
            refine RE.op (op_assign rfl rfl) rfl rfl rfl ?_
            refine RE.nil ⟨⟨[(0, .lst false (a0.map S_api_Choice.enc)), (1, .lst false (a1.map S_api_Choice.enc)), (5, .int .i64 (IntKind.i64.wrap (x1 + 1)))], []⟩, weak_sel ⟨rfl, rfl, rfl, trivial⟩ rfl, ?_⟩
            refine then_normal ?_
            exact LoopAt.weak (weak_sel (env' := [(0, .lst false (a0.map S_api_Choice.enc)), (1, .lst false (a1.map S_api_Choice.enc)), (5, .int .i64 (IntKind.i64.wrap (x1 + 1)))]) ⟨rfl, rfl, rfl, trivial⟩ rfl) (IH _ _ H)
        · rw [if_neg h2] at H
          refine T_no rfl (decide_eq_false h2) ?_
          refine T_exit ?_
          simp only [Option.some.injEq] at H
          subst H
          refine then_exit ?_
          refine then_exit ?_
          exact ⟨rfl, weak_sel (env' := []) trivial rfl⟩
      · clear hj3
        rcases o2 with _ | _
        · simp only [Option.some.injEq] at H
          subst H
          refine block_ret ?_
          refine then_ret ?_
          exact ret1 rfl rfl rfl
        · refine block_eq ?_
          refine then_normal ?_
          refine T_seq ?_
          refine T_reg ?_
          refine RE.op (op_assign rfl rfl) rfl rfl rfl ?_
          refine RE.nil ⟨⟨[(4, .bool true)], []⟩, weak_sel ⟨rfl, trivial⟩ rfl, ?_⟩
          refine then_normal ?_
          refine T_ret ?_
          simp only [Option.some.injEq] at H
          subst H
          exact ret1 rfl rfl rfl

/-! ### 20 bandplan/bandplanref32.Same -/
def bandplanref32_Same.l0 (a0 : S_api_Outcome) (a1 : S_api_Outcome) : Nat → Int → Option (Sum (Unit) (Unit))
  | 0, _ => none
  | k + 1, x1 => (if x1 < ((a0.f_Exited.map (AV.int .i64)).length : Int) then (idx a0.f_Exited x1).bind fun y4 => (idx a1.f_Exited x1).bind fun y6 => (if ¬ y4 = y6 then some (.inl ()) else bandplanref32_Same.l0 a0 a1 k (IntKind.i64.wrap (x1 + 1))) else some (.inr ()))
def bandplanref32_Same.f (k : Nat) (a0 : S_api_Outcome) (a1 : S_api_Outcome) : Option (Bool) := (if ¬ ((a0.f_Exited.map (AV.int .i64)).length : Int) = ((a1.f_Exited.map (AV.int .i64)).length : Int) then some false else ((bandplanref32_Same.l0 a0 a1 k 0).bind fun o => match o with | (.inl _) => some false | (.inr _) => ((bandplanref32_SameWinners.f k a0.f_Winners a1.f_Winners).bind fun t10 => (if t10 = true then (bandplanref31_SameChoices.f k a0.f_Assignment a1.f_Assignment).bind fun t12 => (if t12 = true then some (a0.f_Cost == a1.f_Cost) else some false) else some false)).bind fun x9 => some x9))
def bandplanref32_Same.S (args : List AV) (v : AV) : Prop := ∃ (k : Nat) (a0 : S_api_Outcome) (a1 : S_api_Outcome) (r : Bool), args = [S_api_Outcome.enc a0, S_api_Outcome.enc a1] ∧ bandplanref32_Same.f k a0 a1 = some r ∧ v = .bool r
theorem bandplanref32_Same.ok : VOk Tryd.prog 20 bandplanref32_Same.S := by
  refine V_ok Tryd.func20 rfl fun args v hS => ⟨?_, ?_⟩
  · obtain ⟨k, a0, a1, r, rfl, H, rfl⟩ := hS
    exact Nat.le_of_ble_eq_true rfl
  · obtain ⟨k, a0, a1, r, rfl, H, rfl⟩ := hS
    unfold bandplanref32_Same.f at H
    refine T_seq ?_
    refine T_reg ?_
    refine RE.op (op_box (k := 0) rfl rfl rfl rfl) rfl rfl rfl ?_
    refine RE.op (op_box (k := 1) rfl rfl rfl rfl) rfl rfl rfl ?_
    refine RE.op (op_assign rfl rfl) rfl rfl rfl ?_
    refine RE.nil ⟨⟨[(2, .ptr 0 0), (3, .ptr 1 0)], [.cells [.lst false (a0.f_Winners.map S_api_Winner.enc), .lst false (a0.f_Exited.map (AV.int .i64)), .lst false (a0.f_Assignment.map S_api_Choice.enc), .int .i64 a0.f_Cost], .cells [.lst false (a1.f_Winners.map S_api_Winner.enc), .lst false (a1.f_Exited.map (AV.int .i64)), .lst false (a1.f_Assignment.map S_api_Choice.enc), .int .i64 a1.f_Cost]]⟩, weak_sel ⟨rfl, rfl, trivial⟩ rfl, ?_⟩
    refine then_normal ?_
    refine T_seq ?_
    refine T_seq ?_
    refine T_reg ?_
    refine RE.op (op_faddr Tryd.underlying26 rfl ti23 rfl rfl rfl) rfl rfl rfl ?_
    refine RE.op (op_load ti23 rfl rfl rfl rfl rfl) rfl rfl rfl ?_
    refine RE.op (op_len Tryd.underlying23 rfl rfl) rfl rfl rfl ?_
    refine RE.op (op_faddr Tryd.underlying26 rfl ti23 rfl rfl rfl) rfl rfl rfl ?_
    refine RE.op (op_load ti23 rfl rfl rfl rfl rfl) rfl rfl rfl ?_
    refine RE.op (op_len Tryd.underlying23 rfl rfl) rfl rfl rfl ?_
    refine RE.op (op_bin rfl rfl rfl rfl) rfl rfl rfl ?_
    refine RE.nil ⟨⟨[(2, .ptr 0 0), (3, .ptr 1 0), (12, .bool (((a0.f_Exited.map (AV.int .i64)).length : Int) != ((a1.f_Exited.map (AV.int .i64)).length : Int)))], [.cells [.lst false (a0.f_Winners.map S_api_Winner.enc), .lst false (a0.f_Exited.map (AV.int .i64)), .lst false (a0.f_Assignment.map S_api_Choice.enc), .int .i64 a0.f_Cost], .cells [.lst false (a1.f_Winners.map S_api_Winner.enc), .lst false (a1.f_Exited.map (AV.int .i64)), .lst false (a1.f_Assignment.map S_api_Choice.enc), .int .i64 a1.f_Cost]]⟩, weak_sel ⟨rfl, rfl, rfl, trivial⟩ rfl, ?_⟩
    refine then_normal ?_
    by_cases h1 : ¬ ((a0.f_Exited.map (AV.int .i64)).length : Int) = ((a1.f_Exited.map (AV.int .i64)).length : Int)
    · rw [if_pos h1] at H
      refine T_yes rfl (bne_iff_ne.mpr h1) ?_
      refine T_seq ?_
      refine T_reg ?_
      refine RE.op (op_assign rfl rfl) rfl rfl rfl ?_
      refine RE.nil ⟨⟨[(4, .bool false)], [.cells [.lst false (a0.f_Winners.map S_api_Winner.enc), .lst false (a0.f_Exited.map (AV.int .i64)), .lst false (a0.f_Assignment.map S_api_Choice.enc), .int .i64 a0.f_Cost], .cells [.lst false (a1.f_Winners.map S_api_Winner.enc), .lst false (a1.f_Exited.map (AV.int .i64)), .lst false (a1.f_Assignment.map S_api_Choice.enc), .int .i64 a1.f_Cost]]⟩, weak_sel ⟨rfl, trivial⟩ rfl, ?_⟩
      refine then_normal ?_
      refine T_ret ?_
      simp only [Option.some.injEq] at H
      subst H
      refine then_ret ?_
      exact ret1 rfl rfl rfl
    · rw [if_neg h1] at H
      refine T_no rfl (bne_eq_false_iff_eq.mpr (Decidable.of_not_not h1)) ?_
      refine T_skip ?_
      refine then_normal ?_
      refine T_seq ?_
      refine T_seq ?_
      refine T_reg ?_
      refine RE.op (op_assign rfl rfl) rfl rfl rfl ?_
      refine RE.nil ⟨⟨[(2, .ptr 0 0), (3, .ptr 1 0), (5, .int .i64 0)], [.cells [.lst false (a0.f_Winners.map S_api_Winner.enc), .lst false (a0.f_Exited.map (AV.int .i64)), .lst false (a0.f_Assignment.map S_api_Choice.enc), .int .i64 a0.f_Cost], .cells [.lst false (a1.f_Winners.map S_api_Winner.enc), .lst false (a1.f_Exited.map (AV.int .i64)), .lst false (a1.f_Assignment.map S_api_Choice.enc), .int .i64 a1.f_Cost]]⟩, weak_sel ⟨rfl, rfl, rfl, trivial⟩ rfl, ?_⟩
      refine then_normal ?_
      refine T_block ?_
      obtain ⟨o2, hj3, H⟩ := Option.bind_eq_some_iff.1 H
      refine T_loop_out ((fun (x_ : Int) => ⟨[(2, .ptr 0 0), (3, .ptr 1 0), (5, .int .i64 x_)], [.cells [.lst false (a0.f_Winners.map S_api_Winner.enc), .lst false (a0.f_Exited.map (AV.int .i64)), .lst false (a0.f_Assignment.map S_api_Choice.enc), .int .i64 a0.f_Cost], .cells [.lst false (a1.f_Winners.map S_api_Winner.enc), .lst false (a1.f_Exited.map (AV.int .i64)), .lst false (a1.f_Assignment.map S_api_Choice.enc), .int .i64 a1.f_Cost]]⟩) 0) ((fun o => match o with | (.inl _) => .ret | (.inr _) => .exit 0) o2) ((fun o => match o with | (.inl ()) => ⟨[(4, .bool false)], [.cells [.lst false (a0.f_Winners.map S_api_Winner.enc), .lst false (a0.f_Exited.map (AV.int .i64)), .lst false (a0.f_Assignment.map S_api_Choice.enc), .int .i64 a0.f_Cost], .cells [.lst false (a1.f_Winners.map S_api_Winner.enc), .lst false (a1.f_Exited.map (AV.int .i64)), .lst false (a1.f_Assignment.map S_api_Choice.enc), .int .i64 a1.f_Cost]]⟩ | (.inr ()) => ⟨[(2, .ptr 0 0), (3, .ptr 1 0)], [.cells [.lst false (a0.f_Winners.map S_api_Winner.enc), .lst false (a0.f_Exited.map (AV.int .i64)), .lst false (a0.f_Assignment.map S_api_Choice.enc), .int .i64 a0.f_Cost], .cells [.lst false (a1.f_Winners.map S_api_Winner.enc), .lst false (a1.f_Exited.map (AV.int .i64)), .lst false (a1.f_Assignment.map S_api_Choice.enc), .int .i64 a1.f_Cost]]⟩) o2) (weak_sel (env' := [(2, .ptr 0 0), (3, .ptr 1 0), (5, .int .i64 0)]) ⟨rfl, rfl, rfl, trivial⟩ rfl) ?_ ?_
      · refine T_fix (bandplanref32_Same.l0 a0 a1) (fun (x_ : Int) => ⟨[(2, .ptr 0 0), (3, .ptr 1 0), (5, .int .i64 x_)], [.cells [.lst false (a0.f_Winners.map S_api_Winner.enc), .lst false (a0.f_Exited.map (AV.int .i64)), .lst false (a0.f_Assignment.map S_api_Choice.enc), .int .i64 a0.f_Cost], .cells [.lst false (a1.f_Winners.map S_api_Winner.enc), .lst false (a1.f_Exited.map (AV.int .i64)), .lst false (a1.f_Assignment.map S_api_Choice.enc), .int .i64 a1.f_Cost]]⟩) (fun o => match o with | (.inl _) => .ret | (.inr _) => .exit 0) (fun o => match o with | (.inl ()) => ⟨[(4, .bool false)], [.cells [.lst false (a0.f_Winners.map S_api_Winner.enc), .lst false (a0.f_Exited.map (AV.int .i64)), .lst false (a0.f_Assignment.map S_api_Choice.enc), .int .i64 a0.f_Cost], .cells [.lst false (a1.f_Winners.map S_api_Winner.enc), .lst false (a1.f_Exited.map (AV.int .i64)), .lst false (a1.f_Assignment.map S_api_Choice.enc), .int .i64 a1.f_Cost]]⟩ | (.inr ()) => ⟨[(2, .ptr 0 0), (3, .ptr 1 0)], [.cells [.lst false (a0.f_Winners.map S_api_Winner.enc), .lst false (a0.f_Exited.map (AV.int .i64)), .lst false (a0.f_Assignment.map S_api_Choice.enc), .int .i64 a0.f_Cost], .cells [.lst false (a1.f_Winners.map S_api_Winner.enc), .lst false (a1.f_Exited.map (AV.int .i64)), .lst false (a1.f_Assignment.map S_api_Choice.enc), .int .i64 a1.f_Cost]]⟩) (fun _ => rfl) ?_ _ 0 _ hj3
        clear H hj3
        intro k IH x1 o H
        unfold bandplanref32_Same.l0 at H
        (try simp only at H)
        refine T_seq ?_
        refine T_seq ?_
        refine T_reg ?_
        refine RE.op (op_move rfl rfl) rfl rfl rfl ?_
        refine RE.op (op_faddr Tryd.underlying26 rfl ti23 rfl rfl rfl) rfl rfl rfl ?_
        refine RE.op (op_load ti23 rfl rfl rfl rfl rfl) rfl rfl rfl ?_
        refine RE.op (op_len Tryd.underlying23 rfl rfl) rfl rfl rfl ?_
        refine RE.op (op_bin rfl rfl rfl rfl) rfl rfl rfl ?_
        refine RE.nil ⟨⟨[(2, .ptr 0 0), (3, .ptr 1 0), (5, .int .i64 x1), (17, .bool (decide (x1 < ((a0.f_Exited.map (AV.int .i64)).length : Int))))], [.cells [.lst false (a0.f_Winners.map S_api_Winner.enc), .lst false (a0.f_Exited.map (AV.int .i64)), .lst false (a0.f_Assignment.map S_api_Choice.enc), .int .i64 a0.f_Cost], .cells [.lst false (a1.f_Winners.map S_api_Winner.enc), .lst false (a1.f_Exited.map (AV.int .i64)), .lst false (a1.f_Assignment.map S_api_Choice.enc), .int .i64 a1.f_Cost]]⟩, weak_sel ⟨rfl, rfl, rfl, rfl, trivial⟩ rfl, ?_⟩
        refine then_normal ?_
        by_cases h2 : x1 < ((a0.f_Exited.map (AV.int .i64)).length : Int)
        · rw [if_pos h2] at H
          refine T_yes rfl (decide_eq_true h2) ?_
          refine T_skip ?_
          refine then_normal ?_
          refine T_seq ?_
          refine T_block ?_
          refine T_seq ?_
          refine T_drawn mix [0, 1, 0, 7, 15, 0, 32, 0, 224, 480, 1023] (by kernel_rfl) ?_
          refine RD.q [(2, .ptr 0 0)] (by repeat (first | exact trivial | refine ⟨rfl, ?_⟩)) (fun _ => (op_faddr Tryd.underlying26 rfl ti23 rfl rfl rfl)) rfl rfl rfl ?_
          refine RD.l (i := 0) [(20, .ptr 0 1)] (by repeat (first | exact trivial | refine ⟨rfl, ?_⟩)) rfl (fun _ hb => (op_load ti23 rfl rfl rfl hb rfl)) rfl rfl rfl ?_
          refine RD.q [(5, .int .i64 x1)] (by repeat (first | exact trivial | refine ⟨rfl, ?_⟩)) (fun _ => (op_move rfl rfl)) rfl rfl rfl ?_
          obtain ⟨y4, hy5, H⟩ := Option.bind_eq_some_iff.1 H
          refine RD.q [(21, .lst false (a0.f_Exited.map (AV.int .i64))), (22, .int .i64 x1)] (by repeat (first | exact trivial | refine ⟨rfl, ?_⟩)) (fun _ => (op_iaddr Tryd.underlying23 ti3 rfl rfl rfl (idx_pos hy5) (idx_map hy5 (AV.int .i64)) rfl (Nat.le_of_ble_eq_true rfl))) rfl rfl rfl ?_
          refine RD.q [(23, .eptr (a0.f_Exited.map (AV.int .i64)) x1.toNat 0)] (by repeat (first | exact trivial | refine ⟨rfl, ?_⟩)) (fun _ => (op_load_e ti3 rfl rfl rfl (idx_map hy5 (AV.int .i64)) rfl)) rfl rfl rfl ?_
          refine RD.q [(3, .ptr 1 0)] (by repeat (first | exact trivial | refine ⟨rfl, ?_⟩)) (fun _ => (op_faddr Tryd.underlying26 rfl ti23 rfl rfl rfl)) rfl rfl rfl ?_
          refine RD.l (i := 1) [(25, .ptr 1 1)] (by repeat (first | exact trivial | refine ⟨rfl, ?_⟩)) rfl (fun _ hb => (op_load ti23 rfl rfl rfl hb rfl)) rfl rfl rfl ?_
          refine RD.q [(5, .int .i64 x1)] (by repeat (first | exact trivial | refine ⟨rfl, ?_⟩)) (fun _ => (op_move rfl rfl)) rfl rfl rfl ?_
          obtain ⟨y6, hy7, H⟩ := Option.bind_eq_some_iff.1 H
          refine RD.q [(26, .lst false (a1.f_Exited.map (AV.int .i64))), (27, .int .i64 x1)] (by repeat (first | exact trivial | refine ⟨rfl, ?_⟩)) (fun _ => (op_iaddr Tryd.underlying23 ti3 rfl rfl rfl (idx_pos hy7) (idx_map hy7 (AV.int .i64)) rfl (Nat.le_of_ble_eq_true rfl))) rfl rfl rfl ?_
          refine RD.q [(28, .eptr (a1.f_Exited.map (AV.int .i64)) x1.toNat 0)] (by repeat (first | exact trivial | refine ⟨rfl, ?_⟩)) (fun _ => (op_load_e ti3 rfl rfl rfl (idx_map hy7 (AV.int .i64)) rfl)) rfl rfl rfl ?_
          refine RD.q [(24, .int .i64 y4), (29, .int .i64 y6)] (by repeat (first | exact trivial | refine ⟨rfl, ?_⟩)) (fun _ => (op_bin rfl rfl rfl rfl)) rfl rfl rfl ?_
          refine RD.nil (by kernel_rfl) ⟨⟨[(2, .ptr 0 0), (3, .ptr 1 0), (5, .int .i64 x1), (30, .bool (y4 != y6))], [.cells [.lst false (a0.f_Winners.map S_api_Winner.enc), .lst false (a0.f_Exited.map (AV.int .i64)), .lst false (a0.f_Assignment.map S_api_Choice.enc), .int .i64 a0.f_Cost], .cells [.lst false (a1.f_Winners.map S_api_Winner.enc), .lst false (a1.f_Exited.map (AV.int .i64)), .lst false (a1.f_Assignment.map S_api_Choice.enc), .int .i64 a1.f_Cost]]⟩, weak_sel ⟨rfl, rfl, rfl, rfl, trivial⟩ rfl, ?_⟩
          refine then_normal ?_
          by_cases h3 : ¬ y4 = y6
          · rw [if_pos h3] at H
            refine T_yes rfl (bne_iff_ne.mpr h3) ?_
            refine T_seq ?_
            refine T_reg ?_
            refine RE.op (op_assign rfl rfl) rfl rfl rfl ?_
            refine RE.nil ⟨⟨[(4, .bool false)], [.cells [.lst false (a0.f_Winners.map S_api_Winner.enc), .lst false (a0.f_Exited.map (AV.int .i64)), .lst false (a0.f_Assignment.map S_api_Choice.enc), .int .i64 a0.f_Cost], .cells [.lst false (a1.f_Winners.map S_api_Winner.enc), .lst false (a1.f_Exited.map (AV.int .i64)), .lst false (a1.f_Assignment.map S_api_Choice.enc), .int .i64 a1.f_Cost]]⟩, weak_sel ⟨rfl, trivial⟩ rfl, ?_⟩
            refine then_normal ?_
            refine T_ret ?_
            simp only [Option.some.injEq] at H
            subst H
            refine block_ret ?_
            refine then_ret ?_
            refine then_ret ?_
            exact ⟨rfl, weak_sel (env' := [(4, .bool false)]) ⟨rfl, trivial⟩ rfl⟩
          · rw [if_neg h3] at H
            refine T_no rfl (bne_eq_false_iff_eq.mpr (Decidable.of_not_not h3)) ?_
            refine T_skip ?_
            refine block_normal ?_
            refine then_normal ?_
            refine T_reg ?_
            refine RE.op (op_move rfl rfl) rfl rfl rfl ?_
            refine RE.op (op_bin rfl rfl rfl rfl) rfl rfl rfl ?_
            refine RE.op (op_assign rfl rfl) rfl rfl rfl ?_
            refine RE.nil ⟨⟨[(2, .ptr 0 0), (3, .ptr 1 0), (5, .int .i64 (IntKind.i64.wrap (x1 + 1)))], [.cells [.lst false (a0.f_Winners.map S_api_Winner.enc), .lst false (a0.f_Exited.map (AV.int .i64)), .lst false (a0.f_Assignment.map S_api_Choice.enc), .int .i64 a0.f_Cost], .cells [.lst false (a1.f_Winners.map S_api_Winner.enc), .lst false (a1.f_Exited.map (AV.int .i64)), .lst false (a1.f_Assignment.map S_api_Choice.enc), .int .i64 a1.f_Cost]]⟩, weak_sel ⟨rfl, rfl, rfl, trivial⟩ rfl, ?_⟩
            refine then_normal ?_
            exact LoopAt.weak (weak_sel (env' := [(2, .ptr 0 0), (3, .ptr 1 0), (5, .int .i64 (IntKind.i64.wrap (x1 + 1)))]) ⟨rfl, rfl, rfl, trivial⟩ rfl) (IH _ _ H)
        · rw [if_neg h2] at H
          refine T_no rfl (decide_eq_false h2) ?_
          refine T_exit ?_
          simp only [Option.some.injEq] at H
          subst H
          refine then_exit ?_
          refine then_exit ?_
          exact ⟨rfl, weak_sel (env' := [(2, .ptr 0 0), (3, .ptr 1 0)]) ⟨rfl, rfl, trivial⟩ rfl⟩
      · clear hj3
        rcases o2 with _ | _
        · simp only [Option.some.injEq] at H
          subst H
          refine block_ret ?_
          refine then_ret ?_
          exact ret1 rfl rfl rfl
        · refine block_eq ?_
          refine then_normal ?_
          refine T_seq ?_
          obtain ⟨x9, hj14, H⟩ := Option.bind_eq_some_iff.1 H
          refine T_reg_out ⟨[(4, .bool x9)], [.cells [.lst false (a0.f_Winners.map S_api_Winner.enc), .lst false (a0.f_Exited.map (AV.int .i64)), .lst false (a0.f_Assignment.map S_api_Choice.enc), .int .i64 a0.f_Cost], .cells [.lst false (a1.f_Winners.map S_api_Winner.enc), .lst false (a1.f_Exited.map (AV.int .i64)), .lst false (a1.f_Assignment.map S_api_Choice.enc), .int .i64 a1.f_Cost]]⟩ ?_ ?_
          · clear H
            have H := hj14
            clear hj14
            refine RE.op (op_faddr Tryd.underlying26 rfl ti22 rfl rfl rfl) rfl rfl rfl ?_
            refine RE.op (op_load ti22 rfl rfl rfl rfl rfl) rfl rfl rfl ?_
            refine RE.op (op_faddr Tryd.underlying26 rfl ti22 rfl rfl rfl) rfl rfl rfl ?_
            refine RE.op (op_load ti22 rfl rfl rfl rfl rfl) rfl rfl rfl ?_
            obtain ⟨t10, ht11, H⟩ := Option.bind_eq_some_iff.1 H
            refine RE.op (op_call (f := 42) rfl rfl rfl rfl en42 bandplanref32_SameWinners.ok ⟨_, _, _, _, rfl, ht11, rfl⟩) rfl rfl rfl ?_
            refine RE.op (op_move rfl rfl) rfl rfl rfl ?_
            by_cases h4 : t10 = true
            · rw [if_pos h4] at H
              refine RE.opg (op_faddr Tryd.underlying26 rfl ti24 rfl rfl rfl) rfl rfl (getb h4 rfl) rfl rfl ?_
              refine RE.opg (op_load ti24 rfl rfl rfl rfl rfl) rfl rfl (getb h4 rfl) rfl rfl ?_
              refine RE.opg (op_faddr Tryd.underlying26 rfl ti24 rfl rfl rfl) rfl rfl (getb h4 rfl) rfl rfl ?_
              refine RE.opg (op_load ti24 rfl rfl rfl rfl rfl) rfl rfl (getb h4 rfl) rfl rfl ?_
              obtain ⟨t12, ht13, H⟩ := Option.bind_eq_some_iff.1 H
              refine RE.opg (op_call (f := 43) rfl rfl rfl rfl en43 bandplanref31_SameChoices.ok ⟨_, _, _, _, rfl, ht13, rfl⟩) rfl rfl (getb h4 rfl) rfl rfl ?_
              refine RE.op (op_pick_true rfl (evb h4 rfl) rfl) rfl rfl rfl ?_
              refine RE.op (op_move rfl rfl) rfl rfl rfl ?_
              by_cases h5 : t12 = true
              · rw [if_pos h5] at H
                refine RE.opg (op_faddr Tryd.underlying26 rfl ti3 rfl rfl rfl) rfl rfl (getb h5 rfl) rfl rfl ?_
                refine RE.opg (op_load ti3 rfl rfl rfl rfl rfl) rfl rfl (getb h5 rfl) rfl rfl ?_
                refine RE.opg (op_faddr Tryd.underlying26 rfl ti3 rfl rfl rfl) rfl rfl (getb h5 rfl) rfl rfl ?_
                refine RE.opg (op_load ti3 rfl rfl rfl rfl rfl) rfl rfl (getb h5 rfl) rfl rfl ?_
                refine RE.opg (op_bin rfl rfl rfl rfl) rfl rfl (getb h5 rfl) rfl rfl ?_
                refine RE.op (op_pick_true rfl (evb h5 rfl) rfl) rfl rfl rfl ?_
                refine RE.op (op_assign rfl rfl) rfl rfl rfl ?_
                simp only [Option.some.injEq] at H
                subst H
                exact RE.nil (weak_sel (env' := [(4, .bool (a0.f_Cost == a1.f_Cost))]) ⟨rfl, trivial⟩ rfl)
              · rw [if_neg h5] at H
                refine RE.skip rfl rfl (getb (Bool.eq_false_iff.mpr h5) rfl) rfl rfl rfl ?_
                refine RE.skip rfl rfl (getb (Bool.eq_false_iff.mpr h5) rfl) rfl rfl rfl ?_
                refine RE.skip rfl rfl (getb (Bool.eq_false_iff.mpr h5) rfl) rfl rfl rfl ?_
                refine RE.skip rfl rfl (getb (Bool.eq_false_iff.mpr h5) rfl) rfl rfl rfl ?_
                refine RE.skip rfl rfl (getb (Bool.eq_false_iff.mpr h5) rfl) rfl rfl rfl ?_
                refine RE.op (op_pick_false rfl (evb (Bool.eq_false_iff.mpr h5) rfl) rfl) rfl rfl rfl ?_
                refine RE.op (op_assign rfl rfl) rfl rfl rfl ?_
                simp only [Option.some.injEq] at H
                subst H
                exact RE.nil (weak_sel (env' := [(4, .bool false)]) ⟨rfl, trivial⟩ rfl)
            · rw [if_neg h4] at H
              refine RE.skip rfl rfl (getb (Bool.eq_false_iff.mpr h4) rfl) rfl rfl rfl ?_
              refine RE.skip rfl rfl (getb (Bool.eq_false_iff.mpr h4) rfl) rfl rfl rfl ?_
              refine RE.skip rfl rfl (getb (Bool.eq_false_iff.mpr h4) rfl) rfl rfl rfl ?_
              refine RE.skip rfl rfl (getb (Bool.eq_false_iff.mpr h4) rfl) rfl rfl rfl ?_
              refine RE.skip rfl rfl (getb (Bool.eq_false_iff.mpr h4) rfl) rfl rfl rfl ?_
              refine RE.op (op_pick_false rfl (evb (Bool.eq_false_iff.mpr h4) rfl) rfl) rfl rfl rfl ?_
              refine RE.op (op_move rfl rfl) rfl rfl rfl ?_
              refine RE.skip rfl rfl rfl rfl rfl rfl ?_
              refine RE.skip rfl rfl rfl rfl rfl rfl ?_
              refine RE.skip rfl rfl rfl rfl rfl rfl ?_
              refine RE.skip rfl rfl rfl rfl rfl rfl ?_
              refine RE.skip rfl rfl rfl rfl rfl rfl ?_
              refine RE.op (op_pick_false rfl rfl rfl) rfl rfl rfl ?_
              refine RE.op (op_assign rfl rfl) rfl rfl rfl ?_
              simp only [Option.some.injEq] at H
              subst H
              exact RE.nil (weak_sel (env' := [(4, .bool false)]) ⟨rfl, trivial⟩ rfl)
          · clear hj14
            refine then_normal ?_
            refine T_ret ?_
            simp only [Option.some.injEq] at H
            subst H
            exact ret1 rfl rfl rfl

/-! ### 7 bandplan/bandplanlaw32.small -/
def bandplanlaw32_small.f (a0 : S_api_Outcome) : Option (Bool) := ((if ((a0.f_Winners.map S_api_Winner.enc).length : Int) ≤ 20 then (if ((a0.f_Exited.map (AV.int .i64)).length : Int) ≤ 20 then some (decide (((a0.f_Assignment.map S_api_Choice.enc).length : Int) ≤ 40)) else some false) else some false)).bind fun x1 => some x1
def bandplanlaw32_small.S (args : List AV) (v : AV) : Prop := ∃ (a0 : S_api_Outcome) (r : Bool), args = [S_api_Outcome.enc a0] ∧ bandplanlaw32_small.f a0 = some r ∧ v = .bool r
theorem bandplanlaw32_small.ok : VOk Tryd.prog 7 bandplanlaw32_small.S := by
  refine V_ok Tryd.func7 rfl fun args v hS => ⟨?_, ?_⟩
  · obtain ⟨a0, r, rfl, H, rfl⟩ := hS
    exact Nat.le_of_ble_eq_true rfl
  · obtain ⟨a0, r, rfl, H, rfl⟩ := hS
    unfold bandplanlaw32_small.f at H
    refine T_seq ?_
    refine T_reg ?_
    refine RE.op (op_box (k := 0) rfl rfl rfl rfl) rfl rfl rfl ?_
    refine RE.op (op_assign rfl rfl) rfl rfl rfl ?_
    refine RE.nil ⟨⟨[(1, .ptr 0 0)], [.cells [.lst false (a0.f_Winners.map S_api_Winner.enc), .lst false (a0.f_Exited.map (AV.int .i64)), .lst false (a0.f_Assignment.map S_api_Choice.enc), .int .i64 a0.f_Cost]]⟩, weak_sel ⟨rfl, trivial⟩ rfl, ?_⟩
    refine then_normal ?_
    refine T_seq ?_
    obtain ⟨x1, hj2, H⟩ := Option.bind_eq_some_iff.1 H
    refine T_reg_out ⟨[(2, .bool x1)], [.cells [.lst false (a0.f_Winners.map S_api_Winner.enc), .lst false (a0.f_Exited.map (AV.int .i64)), .lst false (a0.f_Assignment.map S_api_Choice.enc), .int .i64 a0.f_Cost]]⟩ ?_ ?_
    · clear H
      have H := hj2
      clear hj2
      refine RE.op (op_faddr Tryd.underlying26 rfl ti22 rfl rfl rfl) rfl rfl rfl ?_
      refine RE.op (op_load ti22 rfl rfl rfl rfl rfl) rfl rfl rfl ?_
      refine RE.op (op_len Tryd.underlying22 rfl rfl) rfl rfl rfl ?_
      refine RE.op (op_bin rfl rfl rfl rfl) rfl rfl rfl ?_
      refine RE.op (op_move rfl rfl) rfl rfl rfl ?_
      by_cases h1 : ((a0.f_Winners.map S_api_Winner.enc).length : Int) ≤ 20
      · rw [if_pos h1] at H
        refine RE.opg (op_faddr Tryd.underlying26 rfl ti23 rfl rfl rfl) rfl rfl (getb (decide_eq_true h1) rfl) rfl rfl ?_
        refine RE.opg (op_load ti23 rfl rfl rfl rfl rfl) rfl rfl (getb (decide_eq_true h1) rfl) rfl rfl ?_
        refine RE.opg (op_len Tryd.underlying23 rfl rfl) rfl rfl (getb (decide_eq_true h1) rfl) rfl rfl ?_
        refine RE.opg (op_bin rfl rfl rfl rfl) rfl rfl (getb (decide_eq_true h1) rfl) rfl rfl ?_
        refine RE.op (op_pick_true rfl (evb (decide_eq_true h1) rfl) rfl) rfl rfl rfl ?_
        refine RE.op (op_move rfl rfl) rfl rfl rfl ?_
        by_cases h2 : ((a0.f_Exited.map (AV.int .i64)).length : Int) ≤ 20
        · rw [if_pos h2] at H
          refine RE.opg (op_faddr Tryd.underlying26 rfl ti24 rfl rfl rfl) rfl rfl (getb (decide_eq_true h2) rfl) rfl rfl ?_
          refine RE.opg (op_load ti24 rfl rfl rfl rfl rfl) rfl rfl (getb (decide_eq_true h2) rfl) rfl rfl ?_
          refine RE.opg (op_len Tryd.underlying24 rfl rfl) rfl rfl (getb (decide_eq_true h2) rfl) rfl rfl ?_
          refine RE.opg (op_bin rfl rfl rfl rfl) rfl rfl (getb (decide_eq_true h2) rfl) rfl rfl ?_
          refine RE.op (op_pick_true rfl (evb (decide_eq_true h2) rfl) rfl) rfl rfl rfl ?_
          refine RE.op (op_assign rfl rfl) rfl rfl rfl ?_
          simp only [Option.some.injEq] at H
          subst H
          exact RE.nil (weak_sel (env' := [(2, .bool (decide (((a0.f_Assignment.map S_api_Choice.enc).length : Int) ≤ 40)))]) ⟨rfl, trivial⟩ rfl)
        · rw [if_neg h2] at H
          refine RE.skip rfl rfl (getb (decide_eq_false h2) rfl) rfl rfl rfl ?_
          refine RE.skip rfl rfl (getb (decide_eq_false h2) rfl) rfl rfl rfl ?_
          refine RE.skip rfl rfl (getb (decide_eq_false h2) rfl) rfl rfl rfl ?_
          refine RE.skip rfl rfl (getb (decide_eq_false h2) rfl) rfl rfl rfl ?_
          refine RE.op (op_pick_false rfl (evb (decide_eq_false h2) rfl) rfl) rfl rfl rfl ?_
          refine RE.op (op_assign rfl rfl) rfl rfl rfl ?_
          simp only [Option.some.injEq] at H
          subst H
          exact RE.nil (weak_sel (env' := [(2, .bool false)]) ⟨rfl, trivial⟩ rfl)
      · rw [if_neg h1] at H
        refine RE.skip rfl rfl (getb (decide_eq_false h1) rfl) rfl rfl rfl ?_
        refine RE.skip rfl rfl (getb (decide_eq_false h1) rfl) rfl rfl rfl ?_
        refine RE.skip rfl rfl (getb (decide_eq_false h1) rfl) rfl rfl rfl ?_
        refine RE.skip rfl rfl (getb (decide_eq_false h1) rfl) rfl rfl rfl ?_
        refine RE.op (op_pick_false rfl (evb (decide_eq_false h1) rfl) rfl) rfl rfl rfl ?_
        refine RE.op (op_move rfl rfl) rfl rfl rfl ?_
        refine RE.skip rfl rfl rfl rfl rfl rfl ?_
        refine RE.skip rfl rfl rfl rfl rfl rfl ?_
        refine RE.skip rfl rfl rfl rfl rfl rfl ?_
        refine RE.skip rfl rfl rfl rfl rfl rfl ?_
        refine RE.op (op_pick_false rfl rfl rfl) rfl rfl rfl ?_
        refine RE.op (op_assign rfl rfl) rfl rfl rfl ?_
        simp only [Option.some.injEq] at H
        subst H
        exact RE.nil (weak_sel (env' := [(2, .bool false)]) ⟨rfl, trivial⟩ rfl)
    · clear hj2
      refine then_normal ?_
      refine T_ret ?_
      simp only [Option.some.injEq] at H
      subst H
      exact ret1 rfl rfl rfl

/-! ### 8 bandplan/bandplanlaw32.known -/
def bandplanlaw32_known.f (k : Nat) : Option (Bool) := (outcome_Payment.f k (⟨([(⟨3, 0, 70⟩ : S_api_Winner), (⟨5, 1, 20⟩ : S_api_Winner)] : List S_api_Winner), ([4] : List Int), ([(⟨4, 30⟩ : S_api_Choice), (⟨5, 2⟩ : S_api_Choice)] : List S_api_Choice), 90⟩ : S_api_Outcome) 5).bind fun t1 => (outcome_Payment.f k (⟨([(⟨3, 0, 70⟩ : S_api_Winner), (⟨5, 1, 20⟩ : S_api_Winner)] : List S_api_Winner), ([4] : List Int), ([(⟨4, 30⟩ : S_api_Choice), (⟨5, 2⟩ : S_api_Choice)] : List S_api_Choice), 90⟩ : S_api_Outcome) 4).bind fun t3 => (outcome_Ceiling.f k ([(⟨1, 3, 1000000⟩ : S_api_Entrant), (⟨2, 3, 500000⟩ : S_api_Entrant)] : List S_api_Entrant) 100).bind fun t5 => (outcome_Follows.f k (⟨([(⟨3, 0, 70⟩ : S_api_Winner), (⟨5, 1, 20⟩ : S_api_Winner)] : List S_api_Winner), ([4] : List Int), ([(⟨4, 30⟩ : S_api_Choice), (⟨5, 2⟩ : S_api_Choice)] : List S_api_Choice), 90⟩ : S_api_Outcome) ([(⟨3, 3, 1000000⟩ : S_api_Entrant), (⟨4, 3, 1000000⟩ : S_api_Entrant), (⟨5, 3, 1000000⟩ : S_api_Entrant)] : List S_api_Entrant) 70).bind fun t7 => (outcome_Follows.f k (⟨([(⟨3, 0, 70⟩ : S_api_Winner), (⟨5, 1, 20⟩ : S_api_Winner)] : List S_api_Winner), ([4] : List Int), ([(⟨4, 30⟩ : S_api_Choice), (⟨5, 2⟩ : S_api_Choice)] : List S_api_Choice), 90⟩ : S_api_Outcome) ([(⟨3, 3, 1000000⟩ : S_api_Entrant), (⟨4, 3, 1000000⟩ : S_api_Entrant), (⟨5, 3, 1000000⟩ : S_api_Entrant)] : List S_api_Entrant) 69).bind fun t9 => ((outcome_Valid.f k (⟨([(⟨3, 0, 70⟩ : S_api_Winner), (⟨5, 1, 20⟩ : S_api_Winner)] : List S_api_Winner), ([4] : List Int), ([(⟨4, 30⟩ : S_api_Choice), (⟨5, 2⟩ : S_api_Choice)] : List S_api_Choice), 90⟩ : S_api_Outcome)).bind fun t12 => (if t12 = true then (outcome_Valid.f k (⟨([(⟨3, 0, 70⟩ : S_api_Winner), (⟨5, 1, 20⟩ : S_api_Winner)] : List S_api_Winner), ([4] : List Int), ([(⟨4, 30⟩ : S_api_Choice), (⟨5, 2⟩ : S_api_Choice)] : List S_api_Choice), 91⟩ : S_api_Outcome)).bind fun t14 => (if ¬ (t14 = true) then (outcome_Valid.f k (⟨([(⟨3, 0, 70⟩ : S_api_Winner), (⟨5, 1, 20⟩ : S_api_Winner)] : List S_api_Winner), ([4] : List Int), ([(⟨4, 30⟩ : S_api_Choice), (⟨5, 7⟩ : S_api_Choice)] : List S_api_Choice), 90⟩ : S_api_Outcome)).bind fun t16 => (if ¬ (t16 = true) then (if t1.1 = 20 then (if t1.2 = 0 then (if t3.2 = 9 then (if t5.1 = 150 then (if t5.2 = 0 then (if t7.1 = true then (if t7.2 = 0 then (if ¬ (t9.1 = true) then some (t9.2 == 0) else some false) else some false) else some false) else some false) else some false) else some false) else some false) else some false) else some false) else some false) else some false)).bind fun x11 => some x11
def bandplanlaw32_known.S (args : List AV) (v : AV) : Prop := ∃ (k : Nat) (r : Bool), args = [] ∧ bandplanlaw32_known.f k  = some r ∧ v = .bool r
theorem bandplanlaw32_known.ok : VOk Tryd.prog 8 bandplanlaw32_known.S := by
  refine V_ok Tryd.func8 rfl fun args v hS => ⟨?_, ?_⟩
  · obtain ⟨k, r, rfl, H, rfl⟩ := hS
    exact Nat.le_of_ble_eq_true rfl
  · obtain ⟨k, r, rfl, H, rfl⟩ := hS
    unfold bandplanlaw32_known.f at H
    refine T_seq ?_
    refine T_reg ?_
    refine RE.op (op_assign rfl rfl) rfl rfl rfl ?_
    refine RE.nil ⟨⟨[], []⟩, weak_sel trivial rfl, ?_⟩
    refine then_normal ?_
    refine T_seq ?_
    refine T_reg ?_
    refine RE.op (op_build (cs := [.int .i64 3, .int .i64 0, .int .i64 70]) ti48 pl48 rfl rfl rfl rfl) rfl rfl rfl ?_
    refine RE.op (op_build (cs := [.int .i64 5, .int .i64 1, .int .i64 20]) ti48 pl48 rfl rfl rfl rfl) rfl rfl rfl ?_
    refine RE.op (op_bslice (ds := [.agg [.int .i64 3, .int .i64 0, .int .i64 70], .agg [.int .i64 5, .int .i64 1, .int .i64 20]]) Tryd.underlying22 ti48 rfl rfl rfl (by decide) (by decide) (by decide) rfl rfl rfl) rfl rfl rfl ?_
    refine RE.op (op_bslice (ds := [.int .i64 4]) Tryd.underlying23 ti3 rfl rfl rfl (by decide) (by decide) (by decide) rfl rfl rfl) rfl rfl rfl ?_
    refine RE.op (op_build (cs := [.int .i64 4, .int .i64 30]) ti50 pl50 rfl rfl rfl rfl) rfl rfl rfl ?_
    refine RE.op (op_build (cs := [.int .i64 5, .int .i64 2]) ti50 pl50 rfl rfl rfl rfl) rfl rfl rfl ?_
    refine RE.op (op_bslice (ds := [.agg [.int .i64 4, .int .i64 30], .agg [.int .i64 5, .int .i64 2]]) Tryd.underlying24 ti50 rfl rfl rfl (by decide) (by decide) (by decide) rfl rfl rfl) rfl rfl rfl ?_
    refine RE.op (op_build (cs := [.lst true (([(⟨3, 0, 70⟩ : S_api_Winner), (⟨5, 1, 20⟩ : S_api_Winner)] : List S_api_Winner).map S_api_Winner.enc), .lst true (([4] : List Int).map (AV.int .i64)), .lst true (([(⟨4, 30⟩ : S_api_Choice), (⟨5, 2⟩ : S_api_Choice)] : List S_api_Choice).map S_api_Choice.enc), .int .i64 90]) ti26 pl26 rfl rfl rfl rfl) rfl rfl rfl ?_
    refine RE.op (op_alloc (k := 0) ti26 rfl rfl rfl rfl) rfl rfl rfl ?_
    refine RE.op0 (op_store (cs' := [.lst true (([(⟨3, 0, 70⟩ : S_api_Winner), (⟨5, 1, 20⟩ : S_api_Winner)] : List S_api_Winner).map S_api_Winner.enc), .lst true (([4] : List Int).map (AV.int .i64)), .lst true (([(⟨4, 30⟩ : S_api_Choice), (⟨5, 2⟩ : S_api_Choice)] : List S_api_Choice).map S_api_Choice.enc), .int .i64 90]) ti26 rfl rfl rfl rfl rfl rfl (Nat.le_of_ble_eq_true rfl) rfl) rfl rfl ?_
    refine RE.nil ⟨⟨[(1, .ptr 0 0)], [.cells [.lst true (([(⟨3, 0, 70⟩ : S_api_Winner), (⟨5, 1, 20⟩ : S_api_Winner)] : List S_api_Winner).map S_api_Winner.enc), .lst true (([4] : List Int).map (AV.int .i64)), .lst true (([(⟨4, 30⟩ : S_api_Choice), (⟨5, 2⟩ : S_api_Choice)] : List S_api_Choice).map S_api_Choice.enc), .int .i64 90]]⟩, weak_sel ⟨rfl, trivial⟩ rfl, ?_⟩
    refine then_normal ?_
    refine T_seq ?_
    refine T_reg ?_
    refine RE.op (op_build (cs := [.int .i64 3, .int .i64 3, .int .i64 1000000]) ti52 pl52 rfl rfl rfl rfl) rfl rfl rfl ?_
    refine RE.op (op_build (cs := [.int .i64 4, .int .i64 3, .int .i64 1000000]) ti52 pl52 rfl rfl rfl rfl) rfl rfl rfl ?_
    refine RE.op (op_build (cs := [.int .i64 5, .int .i64 3, .int .i64 1000000]) ti52 pl52 rfl rfl rfl rfl) rfl rfl rfl ?_
    refine RE.op (op_bslice (ds := [.agg [.int .i64 3, .int .i64 3, .int .i64 1000000], .agg [.int .i64 4, .int .i64 3, .int .i64 1000000], .agg [.int .i64 5, .int .i64 3, .int .i64 1000000]]) Tryd.underlying37 ti52 rfl rfl rfl (by decide) (by decide) (by decide) rfl rfl rfl) rfl rfl rfl ?_
    refine RE.op (op_assign rfl rfl) rfl rfl rfl ?_
    refine RE.nil ⟨⟨[(1, .ptr 0 0), (2, .lst true (([(⟨3, 3, 1000000⟩ : S_api_Entrant), (⟨4, 3, 1000000⟩ : S_api_Entrant), (⟨5, 3, 1000000⟩ : S_api_Entrant)] : List S_api_Entrant).map S_api_Entrant.enc))], [.cells [.lst true (([(⟨3, 0, 70⟩ : S_api_Winner), (⟨5, 1, 20⟩ : S_api_Winner)] : List S_api_Winner).map S_api_Winner.enc), .lst true (([4] : List Int).map (AV.int .i64)), .lst true (([(⟨4, 30⟩ : S_api_Choice), (⟨5, 2⟩ : S_api_Choice)] : List S_api_Choice).map S_api_Choice.enc), .int .i64 90]]⟩, weak_sel ⟨rfl, rfl, trivial⟩ rfl, ?_⟩
    refine then_normal ?_
    refine T_seq ?_
    refine T_gone (bs' := [.cells [.lst true (([(⟨3, 0, 70⟩ : S_api_Winner), (⟨5, 1, 20⟩ : S_api_Winner)] : List S_api_Winner).map S_api_Winner.enc), .lst true (([4] : List Int).map (AV.int .i64)), .lst true (([(⟨4, 30⟩ : S_api_Choice), (⟨5, 2⟩ : S_api_Choice)] : List S_api_Choice).map S_api_Choice.enc), .int .i64 90], .gone, .gone]) 2 rfl ?_
    refine T_drawn mix [0, 0, 0, 0, 13, 31] (by kernel_rfl) ?_
    refine RD.l (i := 0) [(1, .ptr 0 0)] (by repeat (first | exact trivial | refine ⟨rfl, ?_⟩)) rfl (fun _ hb => (op_load_agg (ds := [.lst true (([(⟨3, 0, 70⟩ : S_api_Winner), (⟨5, 1, 20⟩ : S_api_Winner)] : List S_api_Winner).map S_api_Winner.enc), .lst true (([4] : List Int).map (AV.int .i64)), .lst true (([(⟨4, 30⟩ : S_api_Choice), (⟨5, 2⟩ : S_api_Choice)] : List S_api_Choice).map S_api_Choice.enc), .int .i64 90]) ti26 rfl rfl rfl hb (Nat.le_of_ble_eq_true rfl) rfl)) rfl rfl rfl ?_
    refine RD.l (i := 0) [(1, .ptr 0 0)] (by repeat (first | exact trivial | refine ⟨rfl, ?_⟩)) rfl (fun _ hb => (op_load_agg (ds := [.lst true (([(⟨3, 0, 70⟩ : S_api_Winner), (⟨5, 1, 20⟩ : S_api_Winner)] : List S_api_Winner).map S_api_Winner.enc), .lst true (([4] : List Int).map (AV.int .i64)), .lst true (([(⟨4, 30⟩ : S_api_Choice), (⟨5, 2⟩ : S_api_Choice)] : List S_api_Choice).map S_api_Choice.enc), .int .i64 90]) ti26 rfl rfl rfl hb (Nat.le_of_ble_eq_true rfl) rfl)) rfl rfl rfl ?_
    refine RD.wd (i := 1) (b' := .cells [.nils, .nils, .nils, .int .i64 0]) [] (by repeat (first | exact trivial | refine ⟨rfl, ?_⟩)) rfl (fun _ hb => (op_alloc_at ti26 rfl rfl rfl hb)) rfl rfl rfl ?_
    refine RD.wd (i := 2) (b' := .cells [.nils, .nils, .nils, .int .i64 0]) [] (by repeat (first | exact trivial | refine ⟨rfl, ?_⟩)) rfl (fun _ hb => (op_alloc_at ti26 rfl rfl rfl hb)) rfl rfl rfl ?_
    refine RD.w (i := 1) (b' := .cells [.lst true (([(⟨3, 0, 70⟩ : S_api_Winner), (⟨5, 1, 20⟩ : S_api_Winner)] : List S_api_Winner).map S_api_Winner.enc), .lst true (([4] : List Int).map (AV.int .i64)), .lst true (([(⟨4, 30⟩ : S_api_Choice), (⟨5, 2⟩ : S_api_Choice)] : List S_api_Choice).map S_api_Choice.enc), .int .i64 90]) [(3, .ptr 1 0), (27, .agg [.lst true (([(⟨3, 0, 70⟩ : S_api_Winner), (⟨5, 1, 20⟩ : S_api_Winner)] : List S_api_Winner).map S_api_Winner.enc), .lst true (([4] : List Int).map (AV.int .i64)), .lst true (([(⟨4, 30⟩ : S_api_Choice), (⟨5, 2⟩ : S_api_Choice)] : List S_api_Choice).map S_api_Choice.enc), .int .i64 90])] (by repeat (first | exact trivial | refine ⟨rfl, ?_⟩)) rfl (fun _ hb => (op_store (cs' := [.lst true (([(⟨3, 0, 70⟩ : S_api_Winner), (⟨5, 1, 20⟩ : S_api_Winner)] : List S_api_Winner).map S_api_Winner.enc), .lst true (([4] : List Int).map (AV.int .i64)), .lst true (([(⟨4, 30⟩ : S_api_Choice), (⟨5, 2⟩ : S_api_Choice)] : List S_api_Choice).map S_api_Choice.enc), .int .i64 90]) ti26 rfl rfl rfl hb rfl rfl (Nat.le_of_ble_eq_true rfl) rfl)) rfl rfl ?_
    refine RD.w (i := 2) (b' := .cells [.lst true (([(⟨3, 0, 70⟩ : S_api_Winner), (⟨5, 1, 20⟩ : S_api_Winner)] : List S_api_Winner).map S_api_Winner.enc), .lst true (([4] : List Int).map (AV.int .i64)), .lst true (([(⟨4, 30⟩ : S_api_Choice), (⟨5, 2⟩ : S_api_Choice)] : List S_api_Choice).map S_api_Choice.enc), .int .i64 90]) [(4, .ptr 2 0), (28, .agg [.lst true (([(⟨3, 0, 70⟩ : S_api_Winner), (⟨5, 1, 20⟩ : S_api_Winner)] : List S_api_Winner).map S_api_Winner.enc), .lst true (([4] : List Int).map (AV.int .i64)), .lst true (([(⟨4, 30⟩ : S_api_Choice), (⟨5, 2⟩ : S_api_Choice)] : List S_api_Choice).map S_api_Choice.enc), .int .i64 90])] (by repeat (first | exact trivial | refine ⟨rfl, ?_⟩)) rfl (fun _ hb => (op_store (cs' := [.lst true (([(⟨3, 0, 70⟩ : S_api_Winner), (⟨5, 1, 20⟩ : S_api_Winner)] : List S_api_Winner).map S_api_Winner.enc), .lst true (([4] : List Int).map (AV.int .i64)), .lst true (([(⟨4, 30⟩ : S_api_Choice), (⟨5, 2⟩ : S_api_Choice)] : List S_api_Choice).map S_api_Choice.enc), .int .i64 90]) ti26 rfl rfl rfl hb rfl rfl (Nat.le_of_ble_eq_true rfl) rfl)) rfl rfl ?_
    refine RD.nil (by kernel_rfl) ⟨⟨[(1, .ptr 0 0), (2, .lst true (([(⟨3, 3, 1000000⟩ : S_api_Entrant), (⟨4, 3, 1000000⟩ : S_api_Entrant), (⟨5, 3, 1000000⟩ : S_api_Entrant)] : List S_api_Entrant).map S_api_Entrant.enc)), (3, .ptr 1 0), (4, .ptr 2 0)], [.cells [.lst true (([(⟨3, 0, 70⟩ : S_api_Winner), (⟨5, 1, 20⟩ : S_api_Winner)] : List S_api_Winner).map S_api_Winner.enc), .lst true (([4] : List Int).map (AV.int .i64)), .lst true (([(⟨4, 30⟩ : S_api_Choice), (⟨5, 2⟩ : S_api_Choice)] : List S_api_Choice).map S_api_Choice.enc), .int .i64 90], .cells [.lst true (([(⟨3, 0, 70⟩ : S_api_Winner), (⟨5, 1, 20⟩ : S_api_Winner)] : List S_api_Winner).map S_api_Winner.enc), .lst true (([4] : List Int).map (AV.int .i64)), .lst true (([(⟨4, 30⟩ : S_api_Choice), (⟨5, 2⟩ : S_api_Choice)] : List S_api_Choice).map S_api_Choice.enc), .int .i64 90], .cells [.lst true (([(⟨3, 0, 70⟩ : S_api_Winner), (⟨5, 1, 20⟩ : S_api_Winner)] : List S_api_Winner).map S_api_Winner.enc), .lst true (([4] : List Int).map (AV.int .i64)), .lst true (([(⟨4, 30⟩ : S_api_Choice), (⟨5, 2⟩ : S_api_Choice)] : List S_api_Choice).map S_api_Choice.enc), .int .i64 90]]⟩, weak_sel ⟨rfl, rfl, rfl, rfl, trivial⟩ rfl, ?_⟩
    refine then_normal ?_
    refine T_seq ?_
    refine T_reg ?_
    refine RE.op (op_faddr Tryd.underlying26 rfl ti3 rfl rfl rfl) rfl rfl rfl ?_
    refine RE.op0 (op_store (cs' := [.lst true (([(⟨3, 0, 70⟩ : S_api_Winner), (⟨5, 1, 20⟩ : S_api_Winner)] : List S_api_Winner).map S_api_Winner.enc), .lst true (([4] : List Int).map (AV.int .i64)), .lst true (([(⟨4, 30⟩ : S_api_Choice), (⟨5, 2⟩ : S_api_Choice)] : List S_api_Choice).map S_api_Choice.enc), .int .i64 91]) ti3 rfl rfl rfl rfl rfl rfl (Nat.le_of_ble_eq_true rfl) rfl) rfl rfl ?_
    refine RE.nil ⟨⟨[(1, .ptr 0 0), (2, .lst true (([(⟨3, 3, 1000000⟩ : S_api_Entrant), (⟨4, 3, 1000000⟩ : S_api_Entrant), (⟨5, 3, 1000000⟩ : S_api_Entrant)] : List S_api_Entrant).map S_api_Entrant.enc)), (3, .ptr 1 0), (4, .ptr 2 0)], [.cells [.lst true (([(⟨3, 0, 70⟩ : S_api_Winner), (⟨5, 1, 20⟩ : S_api_Winner)] : List S_api_Winner).map S_api_Winner.enc), .lst true (([4] : List Int).map (AV.int .i64)), .lst true (([(⟨4, 30⟩ : S_api_Choice), (⟨5, 2⟩ : S_api_Choice)] : List S_api_Choice).map S_api_Choice.enc), .int .i64 90], .cells [.lst true (([(⟨3, 0, 70⟩ : S_api_Winner), (⟨5, 1, 20⟩ : S_api_Winner)] : List S_api_Winner).map S_api_Winner.enc), .lst true (([4] : List Int).map (AV.int .i64)), .lst true (([(⟨4, 30⟩ : S_api_Choice), (⟨5, 2⟩ : S_api_Choice)] : List S_api_Choice).map S_api_Choice.enc), .int .i64 91], .cells [.lst true (([(⟨3, 0, 70⟩ : S_api_Winner), (⟨5, 1, 20⟩ : S_api_Winner)] : List S_api_Winner).map S_api_Winner.enc), .lst true (([4] : List Int).map (AV.int .i64)), .lst true (([(⟨4, 30⟩ : S_api_Choice), (⟨5, 2⟩ : S_api_Choice)] : List S_api_Choice).map S_api_Choice.enc), .int .i64 90]]⟩, weak_sel ⟨rfl, rfl, rfl, rfl, trivial⟩ rfl, ?_⟩
    refine then_normal ?_
    refine T_seq ?_
    refine T_reg ?_
    refine RE.op (op_build (cs := [.int .i64 4, .int .i64 30]) ti50 pl50 rfl rfl rfl rfl) rfl rfl rfl ?_
    refine RE.op (op_build (cs := [.int .i64 5, .int .i64 7]) ti50 pl50 rfl rfl rfl rfl) rfl rfl rfl ?_
    refine RE.op (op_bslice (ds := [.agg [.int .i64 4, .int .i64 30], .agg [.int .i64 5, .int .i64 7]]) Tryd.underlying24 ti50 rfl rfl rfl (by decide) (by decide) (by decide) rfl rfl rfl) rfl rfl rfl ?_
    refine RE.op (op_faddr Tryd.underlying26 rfl ti24 rfl rfl rfl) rfl rfl rfl ?_
    refine RE.op0 (op_store (cs' := [.lst true (([(⟨3, 0, 70⟩ : S_api_Winner), (⟨5, 1, 20⟩ : S_api_Winner)] : List S_api_Winner).map S_api_Winner.enc), .lst true (([4] : List Int).map (AV.int .i64)), .lst true (([(⟨4, 30⟩ : S_api_Choice), (⟨5, 7⟩ : S_api_Choice)] : List S_api_Choice).map S_api_Choice.enc), .int .i64 90]) ti24 rfl rfl rfl rfl rfl rfl (Nat.le_of_ble_eq_true rfl) rfl) rfl rfl ?_
    refine RE.nil ⟨⟨[(1, .ptr 0 0), (2, .lst true (([(⟨3, 3, 1000000⟩ : S_api_Entrant), (⟨4, 3, 1000000⟩ : S_api_Entrant), (⟨5, 3, 1000000⟩ : S_api_Entrant)] : List S_api_Entrant).map S_api_Entrant.enc)), (3, .ptr 1 0), (4, .ptr 2 0)], [.cells [.lst true (([(⟨3, 0, 70⟩ : S_api_Winner), (⟨5, 1, 20⟩ : S_api_Winner)] : List S_api_Winner).map S_api_Winner.enc), .lst true (([4] : List Int).map (AV.int .i64)), .lst true (([(⟨4, 30⟩ : S_api_Choice), (⟨5, 2⟩ : S_api_Choice)] : List S_api_Choice).map S_api_Choice.enc), .int .i64 90], .cells [.lst true (([(⟨3, 0, 70⟩ : S_api_Winner), (⟨5, 1, 20⟩ : S_api_Winner)] : List S_api_Winner).map S_api_Winner.enc), .lst true (([4] : List Int).map (AV.int .i64)), .lst true (([(⟨4, 30⟩ : S_api_Choice), (⟨5, 2⟩ : S_api_Choice)] : List S_api_Choice).map S_api_Choice.enc), .int .i64 91], .cells [.lst true (([(⟨3, 0, 70⟩ : S_api_Winner), (⟨5, 1, 20⟩ : S_api_Winner)] : List S_api_Winner).map S_api_Winner.enc), .lst true (([4] : List Int).map (AV.int .i64)), .lst true (([(⟨4, 30⟩ : S_api_Choice), (⟨5, 7⟩ : S_api_Choice)] : List S_api_Choice).map S_api_Choice.enc), .int .i64 90]]⟩, weak_sel ⟨rfl, rfl, rfl, rfl, trivial⟩ rfl, ?_⟩
    refine then_normal ?_
    refine T_seq ?_
    refine T_reg ?_
    refine RE.op (op_load_agg (ds := [.lst true (([(⟨3, 0, 70⟩ : S_api_Winner), (⟨5, 1, 20⟩ : S_api_Winner)] : List S_api_Winner).map S_api_Winner.enc), .lst true (([4] : List Int).map (AV.int .i64)), .lst true (([(⟨4, 30⟩ : S_api_Choice), (⟨5, 2⟩ : S_api_Choice)] : List S_api_Choice).map S_api_Choice.enc), .int .i64 90]) ti26 rfl rfl rfl rfl (Nat.le_of_ble_eq_true rfl) rfl) rfl rfl rfl ?_
    obtain ⟨t1, ht2, H⟩ := Option.bind_eq_some_iff.1 H
    refine RE.op (op_call (f := 11) rfl rfl rfl rfl en11 outcome_Payment.ok ⟨_, _, _, _, rfl, ht2, rfl⟩) rfl rfl rfl ?_
    refine RE.op (op_move rfl rfl) rfl rfl rfl ?_
    refine RE.op (op_extract rfl rfl rfl) rfl rfl rfl ?_
    refine RE.op (op_extract rfl rfl rfl) rfl rfl rfl ?_
    refine RE.op (op_assign rfl rfl) rfl rfl rfl ?_
    refine RE.op (op_assign rfl rfl) rfl rfl rfl ?_
    refine RE.nil ⟨⟨[(1, .ptr 0 0), (2, .lst true (([(⟨3, 3, 1000000⟩ : S_api_Entrant), (⟨4, 3, 1000000⟩ : S_api_Entrant), (⟨5, 3, 1000000⟩ : S_api_Entrant)] : List S_api_Entrant).map S_api_Entrant.enc)), (3, .ptr 1 0), (4, .ptr 2 0), (5, .int .i64 t1.1), (6, .int .i64 t1.2)], [.cells [.lst true (([(⟨3, 0, 70⟩ : S_api_Winner), (⟨5, 1, 20⟩ : S_api_Winner)] : List S_api_Winner).map S_api_Winner.enc), .lst true (([4] : List Int).map (AV.int .i64)), .lst true (([(⟨4, 30⟩ : S_api_Choice), (⟨5, 2⟩ : S_api_Choice)] : List S_api_Choice).map S_api_Choice.enc), .int .i64 90], .cells [.lst true (([(⟨3, 0, 70⟩ : S_api_Winner), (⟨5, 1, 20⟩ : S_api_Winner)] : List S_api_Winner).map S_api_Winner.enc), .lst true (([4] : List Int).map (AV.int .i64)), .lst true (([(⟨4, 30⟩ : S_api_Choice), (⟨5, 2⟩ : S_api_Choice)] : List S_api_Choice).map S_api_Choice.enc), .int .i64 91], .cells [.lst true (([(⟨3, 0, 70⟩ : S_api_Winner), (⟨5, 1, 20⟩ : S_api_Winner)] : List S_api_Winner).map S_api_Winner.enc), .lst true (([4] : List Int).map (AV.int .i64)), .lst true (([(⟨4, 30⟩ : S_api_Choice), (⟨5, 7⟩ : S_api_Choice)] : List S_api_Choice).map S_api_Choice.enc), .int .i64 90]]⟩, weak_sel ⟨rfl, rfl, rfl, rfl, rfl, rfl, trivial⟩ rfl, ?_⟩
    refine then_normal ?_
    refine T_seq ?_
    refine T_reg ?_
    refine RE.op (op_load_agg (ds := [.lst true (([(⟨3, 0, 70⟩ : S_api_Winner), (⟨5, 1, 20⟩ : S_api_Winner)] : List S_api_Winner).map S_api_Winner.enc), .lst true (([4] : List Int).map (AV.int .i64)), .lst true (([(⟨4, 30⟩ : S_api_Choice), (⟨5, 2⟩ : S_api_Choice)] : List S_api_Choice).map S_api_Choice.enc), .int .i64 90]) ti26 rfl rfl rfl rfl (Nat.le_of_ble_eq_true rfl) rfl) rfl rfl rfl ?_
    obtain ⟨t3, ht4, H⟩ := Option.bind_eq_some_iff.1 H
    refine RE.op (op_call (f := 11) rfl rfl rfl rfl en11 outcome_Payment.ok ⟨_, _, _, _, rfl, ht4, rfl⟩) rfl rfl rfl ?_
    refine RE.op (op_move rfl rfl) rfl rfl rfl ?_
    refine RE.op (op_extract rfl rfl rfl) rfl rfl rfl ?_
    refine RE.op (op_extract rfl rfl rfl) rfl rfl rfl ?_
    refine RE.op (op_assign rfl rfl) rfl rfl rfl ?_
    refine RE.op (op_assign rfl rfl) rfl rfl rfl ?_
    refine RE.nil ⟨⟨[(1, .ptr 0 0), (2, .lst true (([(⟨3, 3, 1000000⟩ : S_api_Entrant), (⟨4, 3, 1000000⟩ : S_api_Entrant), (⟨5, 3, 1000000⟩ : S_api_Entrant)] : List S_api_Entrant).map S_api_Entrant.enc)), (3, .ptr 1 0), (4, .ptr 2 0), (5, .int .i64 t1.1), (6, .int .i64 t1.2), (8, .int .i64 t3.2)], [.cells [.lst true (([(⟨3, 0, 70⟩ : S_api_Winner), (⟨5, 1, 20⟩ : S_api_Winner)] : List S_api_Winner).map S_api_Winner.enc), .lst true (([4] : List Int).map (AV.int .i64)), .lst true (([(⟨4, 30⟩ : S_api_Choice), (⟨5, 2⟩ : S_api_Choice)] : List S_api_Choice).map S_api_Choice.enc), .int .i64 90], .cells [.lst true (([(⟨3, 0, 70⟩ : S_api_Winner), (⟨5, 1, 20⟩ : S_api_Winner)] : List S_api_Winner).map S_api_Winner.enc), .lst true (([4] : List Int).map (AV.int .i64)), .lst true (([(⟨4, 30⟩ : S_api_Choice), (⟨5, 2⟩ : S_api_Choice)] : List S_api_Choice).map S_api_Choice.enc), .int .i64 91], .cells [.lst true (([(⟨3, 0, 70⟩ : S_api_Winner), (⟨5, 1, 20⟩ : S_api_Winner)] : List S_api_Winner).map S_api_Winner.enc), .lst true (([4] : List Int).map (AV.int .i64)), .lst true (([(⟨4, 30⟩ : S_api_Choice), (⟨5, 7⟩ : S_api_Choice)] : List S_api_Choice).map S_api_Choice.enc), .int .i64 90]]⟩, weak_sel ⟨rfl, rfl, rfl, rfl, rfl, rfl, rfl, trivial⟩ rfl, ?_⟩
    refine then_normal ?_
    refine T_seq ?_
    refine T_reg ?_
    refine RE.op (op_build (cs := [.int .i64 1, .int .i64 3, .int .i64 1000000]) ti52 pl52 rfl rfl rfl rfl) rfl rfl rfl ?_
    refine RE.op (op_build (cs := [.int .i64 2, .int .i64 3, .int .i64 500000]) ti52 pl52 rfl rfl rfl rfl) rfl rfl rfl ?_
    refine RE.op (op_bslice (ds := [.agg [.int .i64 1, .int .i64 3, .int .i64 1000000], .agg [.int .i64 2, .int .i64 3, .int .i64 500000]]) Tryd.underlying37 ti52 rfl rfl rfl (by decide) (by decide) (by decide) rfl rfl rfl) rfl rfl rfl ?_
    obtain ⟨t5, ht6, H⟩ := Option.bind_eq_some_iff.1 H
    refine RE.op (op_call (f := 13) rfl rfl rfl rfl en13 outcome_Ceiling.ok ⟨_, _, _, _, rfl, ht6, rfl⟩) rfl rfl rfl ?_
    refine RE.op (op_move rfl rfl) rfl rfl rfl ?_
    refine RE.op (op_extract rfl rfl rfl) rfl rfl rfl ?_
    refine RE.op (op_extract rfl rfl rfl) rfl rfl rfl ?_
    refine RE.op (op_assign rfl rfl) rfl rfl rfl ?_
    refine RE.op (op_assign rfl rfl) rfl rfl rfl ?_
    refine RE.nil ⟨⟨[(1, .ptr 0 0), (2, .lst true (([(⟨3, 3, 1000000⟩ : S_api_Entrant), (⟨4, 3, 1000000⟩ : S_api_Entrant), (⟨5, 3, 1000000⟩ : S_api_Entrant)] : List S_api_Entrant).map S_api_Entrant.enc)), (3, .ptr 1 0), (4, .ptr 2 0), (5, .int .i64 t1.1), (6, .int .i64 t1.2), (8, .int .i64 t3.2), (9, .int .i64 t5.1), (10, .int .i64 t5.2)], [.cells [.lst true (([(⟨3, 0, 70⟩ : S_api_Winner), (⟨5, 1, 20⟩ : S_api_Winner)] : List S_api_Winner).map S_api_Winner.enc), .lst true (([4] : List Int).map (AV.int .i64)), .lst true (([(⟨4, 30⟩ : S_api_Choice), (⟨5, 2⟩ : S_api_Choice)] : List S_api_Choice).map S_api_Choice.enc), .int .i64 90], .cells [.lst true (([(⟨3, 0, 70⟩ : S_api_Winner), (⟨5, 1, 20⟩ : S_api_Winner)] : List S_api_Winner).map S_api_Winner.enc), .lst true (([4] : List Int).map (AV.int .i64)), .lst true (([(⟨4, 30⟩ : S_api_Choice), (⟨5, 2⟩ : S_api_Choice)] : List S_api_Choice).map S_api_Choice.enc), .int .i64 91], .cells [.lst true (([(⟨3, 0, 70⟩ : S_api_Winner), (⟨5, 1, 20⟩ : S_api_Winner)] : List S_api_Winner).map S_api_Winner.enc), .lst true (([4] : List Int).map (AV.int .i64)), .lst true (([(⟨4, 30⟩ : S_api_Choice), (⟨5, 7⟩ : S_api_Choice)] : List S_api_Choice).map S_api_Choice.enc), .int .i64 90]]⟩, weak_sel ⟨rfl, rfl, rfl, rfl, rfl, rfl, rfl, rfl, rfl, trivial⟩ rfl, ?_⟩
    refine then_normal ?_
    refine T_seq ?_
    refine T_reg ?_
    refine RE.op (op_load_agg (ds := [.lst true (([(⟨3, 0, 70⟩ : S_api_Winner), (⟨5, 1, 20⟩ : S_api_Winner)] : List S_api_Winner).map S_api_Winner.enc), .lst true (([4] : List Int).map (AV.int .i64)), .lst true (([(⟨4, 30⟩ : S_api_Choice), (⟨5, 2⟩ : S_api_Choice)] : List S_api_Choice).map S_api_Choice.enc), .int .i64 90]) ti26 rfl rfl rfl rfl (Nat.le_of_ble_eq_true rfl) rfl) rfl rfl rfl ?_
    refine RE.op (op_move rfl rfl) rfl rfl rfl ?_
    obtain ⟨t7, ht8, H⟩ := Option.bind_eq_some_iff.1 H
    refine RE.op (op_call (f := 15) rfl rfl rfl rfl en15 outcome_Follows.ok ⟨_, _, _, _, _, rfl, ht8, rfl⟩) rfl rfl rfl ?_
    refine RE.op (op_move rfl rfl) rfl rfl rfl ?_
    refine RE.op (op_extract rfl rfl rfl) rfl rfl rfl ?_
    refine RE.op (op_extract rfl rfl rfl) rfl rfl rfl ?_
    refine RE.op (op_assign rfl rfl) rfl rfl rfl ?_
    refine RE.op (op_assign rfl rfl) rfl rfl rfl ?_
    refine RE.nil ⟨⟨[(1, .ptr 0 0), (2, .lst true (([(⟨3, 3, 1000000⟩ : S_api_Entrant), (⟨4, 3, 1000000⟩ : S_api_Entrant), (⟨5, 3, 1000000⟩ : S_api_Entrant)] : List S_api_Entrant).map S_api_Entrant.enc)), (3, .ptr 1 0), (4, .ptr 2 0), (5, .int .i64 t1.1), (6, .int .i64 t1.2), (8, .int .i64 t3.2), (9, .int .i64 t5.1), (10, .int .i64 t5.2), (11, .bool t7.1), (12, .int .i64 t7.2)], [.cells [.lst true (([(⟨3, 0, 70⟩ : S_api_Winner), (⟨5, 1, 20⟩ : S_api_Winner)] : List S_api_Winner).map S_api_Winner.enc), .lst true (([4] : List Int).map (AV.int .i64)), .lst true (([(⟨4, 30⟩ : S_api_Choice), (⟨5, 2⟩ : S_api_Choice)] : List S_api_Choice).map S_api_Choice.enc), .int .i64 90], .cells [.lst true (([(⟨3, 0, 70⟩ : S_api_Winner), (⟨5, 1, 20⟩ : S_api_Winner)] : List S_api_Winner).map S_api_Winner.enc), .lst true (([4] : List Int).map (AV.int .i64)), .lst true (([(⟨4, 30⟩ : S_api_Choice), (⟨5, 2⟩ : S_api_Choice)] : List S_api_Choice).map S_api_Choice.enc), .int .i64 91], .cells [.lst true (([(⟨3, 0, 70⟩ : S_api_Winner), (⟨5, 1, 20⟩ : S_api_Winner)] : List S_api_Winner).map S_api_Winner.enc), .lst true (([4] : List Int).map (AV.int .i64)), .lst true (([(⟨4, 30⟩ : S_api_Choice), (⟨5, 7⟩ : S_api_Choice)] : List S_api_Choice).map S_api_Choice.enc), .int .i64 90]]⟩, weak_sel ⟨rfl, rfl, rfl, rfl, rfl, rfl, rfl, rfl, rfl, rfl, rfl, trivial⟩ rfl, ?_⟩
    refine then_normal ?_
    refine T_seq ?_
    refine T_reg ?_
    refine RE.op (op_load_agg (ds := [.lst true (([(⟨3, 0, 70⟩ : S_api_Winner), (⟨5, 1, 20⟩ : S_api_Winner)] : List S_api_Winner).map S_api_Winner.enc), .lst true (([4] : List Int).map (AV.int .i64)), .lst true (([(⟨4, 30⟩ : S_api_Choice), (⟨5, 2⟩ : S_api_Choice)] : List S_api_Choice).map S_api_Choice.enc), .int .i64 90]) ti26 rfl rfl rfl rfl (Nat.le_of_ble_eq_true rfl) rfl) rfl rfl rfl ?_
    refine RE.op (op_move rfl rfl) rfl rfl rfl ?_
    obtain ⟨t9, ht10, H⟩ := Option.bind_eq_some_iff.1 H
    refine RE.op (op_call (f := 15) rfl rfl rfl rfl en15 outcome_Follows.ok ⟨_, _, _, _, _, rfl, ht10, rfl⟩) rfl rfl rfl ?_
    refine RE.op (op_move rfl rfl) rfl rfl rfl ?_
    refine RE.op (op_extract rfl rfl rfl) rfl rfl rfl ?_
    refine RE.op (op_extract rfl rfl rfl) rfl rfl rfl ?_
    refine RE.op (op_assign rfl rfl) rfl rfl rfl ?_
    refine RE.op (op_assign rfl rfl) rfl rfl rfl ?_
    refine RE.nil ⟨⟨[(1, .ptr 0 0), (3, .ptr 1 0), (4, .ptr 2 0), (5, .int .i64 t1.1), (6, .int .i64 t1.2), (8, .int .i64 t3.2), (9, .int .i64 t5.1), (10, .int .i64 t5.2), (11, .bool t7.1), (12, .int .i64 t7.2), (13, .bool t9.1), (14, .int .i64 t9.2)], [.cells [.lst true (([(⟨3, 0, 70⟩ : S_api_Winner), (⟨5, 1, 20⟩ : S_api_Winner)] : List S_api_Winner).map S_api_Winner.enc), .lst true (([4] : List Int).map (AV.int .i64)), .lst true (([(⟨4, 30⟩ : S_api_Choice), (⟨5, 2⟩ : S_api_Choice)] : List S_api_Choice).map S_api_Choice.enc), .int .i64 90], .cells [.lst true (([(⟨3, 0, 70⟩ : S_api_Winner), (⟨5, 1, 20⟩ : S_api_Winner)] : List S_api_Winner).map S_api_Winner.enc), .lst true (([4] : List Int).map (AV.int .i64)), .lst true (([(⟨4, 30⟩ : S_api_Choice), (⟨5, 2⟩ : S_api_Choice)] : List S_api_Choice).map S_api_Choice.enc), .int .i64 91], .cells [.lst true (([(⟨3, 0, 70⟩ : S_api_Winner), (⟨5, 1, 20⟩ : S_api_Winner)] : List S_api_Winner).map S_api_Winner.enc), .lst true (([4] : List Int).map (AV.int .i64)), .lst true (([(⟨4, 30⟩ : S_api_Choice), (⟨5, 7⟩ : S_api_Choice)] : List S_api_Choice).map S_api_Choice.enc), .int .i64 90]]⟩, weak_sel ⟨rfl, rfl, rfl, rfl, rfl, rfl, rfl, rfl, rfl, rfl, rfl, rfl, trivial⟩ rfl, ?_⟩
    refine then_normal ?_
    refine T_seq ?_
    obtain ⟨x11, hj18, H⟩ := Option.bind_eq_some_iff.1 H
    refine T_reg_out ⟨[(0, .bool x11)], [.cells [.lst true (([(⟨3, 0, 70⟩ : S_api_Winner), (⟨5, 1, 20⟩ : S_api_Winner)] : List S_api_Winner).map S_api_Winner.enc), .lst true (([4] : List Int).map (AV.int .i64)), .lst true (([(⟨4, 30⟩ : S_api_Choice), (⟨5, 2⟩ : S_api_Choice)] : List S_api_Choice).map S_api_Choice.enc), .int .i64 90], .cells [.lst true (([(⟨3, 0, 70⟩ : S_api_Winner), (⟨5, 1, 20⟩ : S_api_Winner)] : List S_api_Winner).map S_api_Winner.enc), .lst true (([4] : List Int).map (AV.int .i64)), .lst true (([(⟨4, 30⟩ : S_api_Choice), (⟨5, 2⟩ : S_api_Choice)] : List S_api_Choice).map S_api_Choice.enc), .int .i64 91], .cells [.lst true (([(⟨3, 0, 70⟩ : S_api_Winner), (⟨5, 1, 20⟩ : S_api_Winner)] : List S_api_Winner).map S_api_Winner.enc), .lst true (([4] : List Int).map (AV.int .i64)), .lst true (([(⟨4, 30⟩ : S_api_Choice), (⟨5, 7⟩ : S_api_Choice)] : List S_api_Choice).map S_api_Choice.enc), .int .i64 90]]⟩ ?_ ?_
    · clear H
      have H := hj18
      clear hj18
      refine RE.op (op_load_agg (ds := [.lst true (([(⟨3, 0, 70⟩ : S_api_Winner), (⟨5, 1, 20⟩ : S_api_Winner)] : List S_api_Winner).map S_api_Winner.enc), .lst true (([4] : List Int).map (AV.int .i64)), .lst true (([(⟨4, 30⟩ : S_api_Choice), (⟨5, 2⟩ : S_api_Choice)] : List S_api_Choice).map S_api_Choice.enc), .int .i64 90]) ti26 rfl rfl rfl rfl (Nat.le_of_ble_eq_true rfl) rfl) rfl rfl rfl ?_
      obtain ⟨t12, ht13, H⟩ := Option.bind_eq_some_iff.1 H
      refine RE.op (op_call (f := 17) rfl rfl rfl rfl en17 outcome_Valid.ok ⟨_, _, _, rfl, ht13, rfl⟩) rfl rfl rfl ?_
      refine RE.op (op_move rfl rfl) rfl rfl rfl ?_
      by_cases h1 : t12 = true
      · rw [if_pos h1] at H
        refine RE.opg (op_load_agg (ds := [.lst true (([(⟨3, 0, 70⟩ : S_api_Winner), (⟨5, 1, 20⟩ : S_api_Winner)] : List S_api_Winner).map S_api_Winner.enc), .lst true (([4] : List Int).map (AV.int .i64)), .lst true (([(⟨4, 30⟩ : S_api_Choice), (⟨5, 2⟩ : S_api_Choice)] : List S_api_Choice).map S_api_Choice.enc), .int .i64 91]) ti26 rfl rfl rfl rfl (Nat.le_of_ble_eq_true rfl) rfl) rfl rfl (getb h1 rfl) rfl rfl ?_
        obtain ⟨t14, ht15, H⟩ := Option.bind_eq_some_iff.1 H
        refine RE.opg (op_call (f := 17) rfl rfl rfl rfl en17 outcome_Valid.ok ⟨_, _, _, rfl, ht15, rfl⟩) rfl rfl (getb h1 rfl) rfl rfl ?_
        refine RE.opg (op_not rfl rfl) rfl rfl (getb h1 rfl) rfl rfl ?_
        refine RE.op (op_pick_true rfl (evb h1 rfl) rfl) rfl rfl rfl ?_
        refine RE.op (op_move rfl rfl) rfl rfl rfl ?_
        by_cases h2 : ¬ (t14 = true)
        · rw [if_pos h2] at H
          refine RE.opg (op_load_agg (ds := [.lst true (([(⟨3, 0, 70⟩ : S_api_Winner), (⟨5, 1, 20⟩ : S_api_Winner)] : List S_api_Winner).map S_api_Winner.enc), .lst true (([4] : List Int).map (AV.int .i64)), .lst true (([(⟨4, 30⟩ : S_api_Choice), (⟨5, 7⟩ : S_api_Choice)] : List S_api_Choice).map S_api_Choice.enc), .int .i64 90]) ti26 rfl rfl rfl rfl (Nat.le_of_ble_eq_true rfl) rfl) rfl rfl (getb (not_t (Bool.eq_false_iff.mpr h2)) rfl) rfl rfl ?_
          obtain ⟨t16, ht17, H⟩ := Option.bind_eq_some_iff.1 H
          refine RE.opg (op_call (f := 17) rfl rfl rfl rfl en17 outcome_Valid.ok ⟨_, _, _, rfl, ht17, rfl⟩) rfl rfl (getb (not_t (Bool.eq_false_iff.mpr h2)) rfl) rfl rfl ?_
          refine RE.opg (op_not rfl rfl) rfl rfl (getb (not_t (Bool.eq_false_iff.mpr h2)) rfl) rfl rfl ?_
          refine RE.op (op_pick_true rfl (evb (not_t (Bool.eq_false_iff.mpr h2)) rfl) rfl) rfl rfl rfl ?_
          refine RE.op (op_move rfl rfl) rfl rfl rfl ?_
          by_cases h3 : ¬ (t16 = true)
          · rw [if_pos h3] at H
            refine RE.opg (op_move rfl rfl) rfl rfl (getb (not_t (Bool.eq_false_iff.mpr h3)) rfl) rfl rfl ?_
            refine RE.opg (op_bin rfl rfl rfl rfl) rfl rfl (getb (not_t (Bool.eq_false_iff.mpr h3)) rfl) rfl rfl ?_
            refine RE.op (op_pick_true rfl (evb (not_t (Bool.eq_false_iff.mpr h3)) rfl) rfl) rfl rfl rfl ?_
            refine RE.op (op_move rfl rfl) rfl rfl rfl ?_
            by_cases h4 : t1.1 = 20
            · rw [if_pos h4] at H
              refine RE.opg (op_move rfl rfl) rfl rfl (getb (beq_iff_eq.mpr h4) rfl) rfl rfl ?_
              refine RE.opg (op_bin rfl rfl rfl rfl) rfl rfl (getb (beq_iff_eq.mpr h4) rfl) rfl rfl ?_
              refine RE.op (op_pick_true rfl (evb (beq_iff_eq.mpr h4) rfl) rfl) rfl rfl rfl ?_
              refine RE.op (op_move rfl rfl) rfl rfl rfl ?_
              by_cases h5 : t1.2 = 0
              · rw [if_pos h5] at H
                refine RE.opg (op_move rfl rfl) rfl rfl (getb (beq_iff_eq.mpr h5) rfl) rfl rfl ?_
                refine RE.opg (op_bin rfl rfl rfl rfl) rfl rfl (getb (beq_iff_eq.mpr h5) rfl) rfl rfl ?_
                refine RE.op (op_pick_true rfl (evb (beq_iff_eq.mpr h5) rfl) rfl) rfl rfl rfl ?_
                refine RE.op (op_move rfl rfl) rfl rfl rfl ?_
                by_cases h6 : t3.2 = 9
                · rw [if_pos h6] at H
                  refine RE.opg (op_move rfl rfl) rfl rfl (getb (beq_iff_eq.mpr h6) rfl) rfl rfl ?_
                  refine RE.opg (op_bin rfl rfl rfl rfl) rfl rfl (getb (beq_iff_eq.mpr h6) rfl) rfl rfl ?_
                  refine RE.op (op_pick_true rfl (evb (beq_iff_eq.mpr h6) rfl) rfl) rfl rfl rfl ?_
                  refine RE.op (op_move rfl rfl) rfl rfl rfl ?_
                  by_cases h7 : t5.1 = 150
                  · rw [if_pos h7] at H
                    refine RE.opg (op_move rfl rfl) rfl rfl (getb (beq_iff_eq.mpr h7) rfl) rfl rfl ?_
                    refine RE.opg (op_bin rfl rfl rfl rfl) rfl rfl (getb (beq_iff_eq.mpr h7) rfl) rfl rfl ?_
                    refine RE.op (op_pick_true rfl (evb (beq_iff_eq.mpr h7) rfl) rfl) rfl rfl rfl ?_
                    refine RE.op (op_move rfl rfl) rfl rfl rfl ?_
                    by_cases h8 : t5.2 = 0
                    · rw [if_pos h8] at H
                      refine RE.opg (op_move rfl rfl) rfl rfl (getb (beq_iff_eq.mpr h8) rfl) rfl rfl ?_
                      refine RE.op (op_pick_true rfl (evb (beq_iff_eq.mpr h8) rfl) rfl) rfl rfl rfl ?_
                      refine RE.op (op_move rfl rfl) rfl rfl rfl ?_
                      by_cases h9 : t7.1 = true
                      · rw [if_pos h9] at H
                        refine RE.opg (op_move rfl rfl) rfl rfl (getb h9 rfl) rfl rfl ?_
                        refine RE.opg (op_bin rfl rfl rfl rfl) rfl rfl (getb h9 rfl) rfl rfl ?_
                        refine RE.op (op_pick_true rfl (evb h9 rfl) rfl) rfl rfl rfl ?_
                        refine RE.op (op_move rfl rfl) rfl rfl rfl ?_
                        by_cases h10 : t7.2 = 0
                        · rw [if_pos h10] at H
                          refine RE.opg (op_move rfl rfl) rfl rfl (getb (beq_iff_eq.mpr h10) rfl) rfl rfl ?_
                          refine RE.opg (op_not rfl rfl) rfl rfl (getb (beq_iff_eq.mpr h10) rfl) rfl rfl ?_
                          refine RE.op (op_pick_true rfl (evb (beq_iff_eq.mpr h10) rfl) rfl) rfl rfl rfl ?_
                          refine RE.op (op_move rfl rfl) rfl rfl rfl ?_
                          by_cases h11 : ¬ (t9.1 = true)
                          · rw [if_pos h11] at H
                            refine RE.opg (op_move rfl rfl) rfl rfl (getb (not_t (Bool.eq_false_iff.mpr h11)) rfl) rfl rfl ?_
                            refine RE.opg (op_bin rfl rfl rfl rfl) rfl rfl (getb (not_t (Bool.eq_false_iff.mpr h11)) rfl) rfl rfl ?_
                            refine RE.op (op_pick_true rfl (evb (not_t (Bool.eq_false_iff.mpr h11)) rfl) rfl) rfl rfl rfl ?_
                            refine RE.op (op_assign rfl rfl) rfl rfl rfl ?_
                            simp only [Option.some.injEq] at H
                            subst H
                            exact RE.nil (weak_sel (env' := [(0, .bool (t9.2 == 0))]) ⟨rfl, trivial⟩ rfl)
                          · rw [if_neg h11] at H
                            refine RE.skip rfl rfl (getb (not_f (Decidable.of_not_not h11)) rfl) rfl rfl rfl ?_
                            refine RE.skip rfl rfl (getb (not_f (Decidable.of_not_not h11)) rfl) rfl rfl rfl ?_
                            refine RE.op (op_pick_false rfl (evb (not_f (Decidable.of_not_not h11)) rfl) rfl) rfl rfl rfl ?_
                            refine RE.op (op_assign rfl rfl) rfl rfl rfl ?_
                            simp only [Option.some.injEq] at H
                            subst H
                            exact RE.nil (weak_sel (env' := [(0, .bool false)]) ⟨rfl, trivial⟩ rfl)
                        · rw [if_neg h10] at H
                          refine RE.skip rfl rfl (getb (beq_eq_false_iff_ne.mpr h10) rfl) rfl rfl rfl ?_
                          refine RE.skip rfl rfl (getb (beq_eq_false_iff_ne.mpr h10) rfl) rfl rfl rfl ?_
                          refine RE.op (op_pick_false rfl (evb (beq_eq_false_iff_ne.mpr h10) rfl) rfl) rfl rfl rfl ?_
                          refine RE.op (op_move rfl rfl) rfl rfl rfl ?_
                          refine RE.skip rfl rfl rfl rfl rfl rfl ?_
                          refine RE.skip rfl rfl rfl rfl rfl rfl ?_
                          refine RE.op (op_pick_false rfl rfl rfl) rfl rfl rfl ?_
                          refine RE.op (op_assign rfl rfl) rfl rfl rfl ?_
                          simp only [Option.some.injEq] at H
                          subst H
                          exact RE.nil (weak_sel (env' := [(0, .bool false)]) ⟨rfl, trivial⟩ rfl)
                      · rw [if_neg h9] at H
                        refine RE.skip rfl rfl (getb (Bool.eq_false_iff.mpr h9) rfl) rfl rfl rfl ?_
                        refine RE.skip rfl rfl (getb (Bool.eq_false_iff.mpr h9) rfl) rfl rfl rfl ?_
                        refine RE.op (op_pick_false rfl (evb (Bool.eq_false_iff.mpr h9) rfl) rfl) rfl rfl rfl ?_
                        refine RE.op (op_move rfl rfl) rfl rfl rfl ?_
                        refine RE.skip rfl rfl rfl rfl rfl rfl ?_
                        refine RE.skip rfl rfl rfl rfl rfl rfl ?_
                        refine RE.op (op_pick_false rfl rfl rfl) rfl rfl rfl ?_
                        refine RE.op (op_move rfl rfl) rfl rfl rfl ?_
                        refine RE.skip rfl rfl rfl rfl rfl rfl ?_
                        refine RE.skip rfl rfl rfl rfl rfl rfl ?_
                        refine RE.op (op_pick_false rfl rfl rfl) rfl rfl rfl ?_
                        refine RE.op (op_assign rfl rfl) rfl rfl rfl ?_
                        simp only [Option.some.injEq] at H
                        subst H
                        exact RE.nil (weak_sel (env' := [(0, .bool false)]) ⟨rfl, trivial⟩ rfl)
                    · rw [if_neg h8] at H
                      refine RE.skip rfl rfl (getb (beq_eq_false_iff_ne.mpr h8) rfl) rfl rfl rfl ?_
                      refine RE.op (op_pick_false rfl (evb (beq_eq_false_iff_ne.mpr h8) rfl) rfl) rfl rfl rfl ?_
                      refine RE.op (op_move rfl rfl) rfl rfl rfl ?_
                      refine RE.skip rfl rfl rfl rfl rfl rfl ?_
                      refine RE.skip rfl rfl rfl rfl rfl rfl ?_
                      refine RE.op (op_pick_false rfl rfl rfl) rfl rfl rfl ?_
                      refine RE.op (op_move rfl rfl) rfl rfl rfl ?_
                      refine RE.skip rfl rfl rfl rfl rfl rfl ?_
                      refine RE.skip rfl rfl rfl rfl rfl rfl ?_
                      refine RE.op (op_pick_false rfl rfl rfl) rfl rfl rfl ?_
                      refine RE.op (op_move rfl rfl) rfl rfl rfl ?_
                      refine RE.skip rfl rfl rfl rfl rfl rfl ?_
                      refine RE.skip rfl rfl rfl rfl rfl rfl ?_
                      refine RE.op (op_pick_false rfl rfl rfl) rfl rfl rfl ?_
                      refine RE.op (op_assign rfl rfl) rfl rfl rfl ?_
                      simp only [Option.some.injEq] at H
                      subst H
                      exact RE.nil (weak_sel (env' := [(0, .bool false)]) ⟨rfl, trivial⟩ rfl)
                  · rw [if_neg h7] at H
                    refine RE.skip rfl rfl (getb (beq_eq_false_iff_ne.mpr h7) rfl) rfl rfl rfl ?_
                    refine RE.skip rfl rfl (getb (beq_eq_false_iff_ne.mpr h7) rfl) rfl rfl rfl ?_
                    refine RE.op (op_pick_false rfl (evb (beq_eq_false_iff_ne.mpr h7) rfl) rfl) rfl rfl rfl ?_
                    refine RE.op (op_move rfl rfl) rfl rfl rfl ?_
                    refine RE.skip rfl rfl rfl rfl rfl rfl ?_
                    refine RE.op (op_pick_false rfl rfl rfl) rfl rfl rfl ?_
                    refine RE.op (op_move rfl rfl) rfl rfl rfl ?_
                    refine RE.skip rfl rfl rfl rfl rfl rfl ?_
                    refine RE.skip rfl rfl rfl rfl rfl rfl ?_
                    refine RE.op (op_pick_false rfl rfl rfl) rfl rfl rfl ?_
                    refine RE.op (op_move rfl rfl) rfl rfl rfl ?_
                    refine RE.skip rfl rfl rfl rfl rfl rfl ?_
                    refine RE.skip rfl rfl rfl rfl rfl rfl ?_
                    refine RE.op (op_pick_false rfl rfl rfl) rfl rfl rfl ?_
                    refine RE.op (op_move rfl rfl) rfl rfl rfl ?_
                    refine RE.skip rfl rfl rfl rfl rfl rfl ?_
                    refine RE.skip rfl rfl rfl rfl rfl rfl ?_
                    refine RE.op (op_pick_false rfl rfl rfl) rfl rfl rfl ?_
                    refine RE.op (op_assign rfl rfl) rfl rfl rfl ?_
                    simp only [Option.some.injEq] at H
                    subst H
                    exact RE.nil (weak_sel (env' := [(0, .bool false)]) ⟨rfl, trivial⟩ rfl)
                · rw [if_neg h6] at H
                  refine RE.skip rfl rfl (getb (beq_eq_false_iff_ne.mpr h6) rfl) rfl rfl rfl ?_
                  refine RE.skip rfl rfl (getb (beq_eq_false_iff_ne.mpr h6) rfl) rfl rfl rfl ?_
                  refine RE.op (op_pick_false rfl (evb (beq_eq_false_iff_ne.mpr h6) rfl) rfl) rfl rfl rfl ?_
                  refine RE.op (op_move rfl rfl) rfl rfl rfl ?_
                  refine RE.skip rfl rfl rfl rfl rfl rfl ?_
                  refine RE.skip rfl rfl rfl rfl rfl rfl ?_
                  refine RE.op (op_pick_false rfl rfl rfl) rfl rfl rfl ?_
                  refine RE.op (op_move rfl rfl) rfl rfl rfl ?_
                  refine RE.skip rfl rfl rfl rfl rfl rfl ?_
                  refine RE.op (op_pick_false rfl rfl rfl) rfl rfl rfl ?_
                  refine RE.op (op_move rfl rfl) rfl rfl rfl ?_
                  refine RE.skip rfl rfl rfl rfl rfl rfl ?_
                  refine RE.skip rfl rfl rfl rfl rfl rfl ?_
                  refine RE.op (op_pick_false rfl rfl rfl) rfl rfl rfl ?_
                  refine RE.op (op_move rfl rfl) rfl rfl rfl ?_
                  refine RE.skip rfl rfl rfl rfl rfl rfl ?_
                  refine RE.skip rfl rfl rfl rfl rfl rfl ?_
                  refine RE.op (op_pick_false rfl rfl rfl) rfl rfl rfl ?_
                  refine RE.op (op_move rfl rfl) rfl rfl rfl ?_
                  refine RE.skip rfl rfl rfl rfl rfl rfl ?_
                  refine RE.skip rfl rfl rfl rfl rfl rfl ?_
                  refine RE.op (op_pick_false rfl rfl rfl) rfl rfl rfl ?_
                  refine RE.op (op_assign rfl rfl) rfl rfl rfl ?_
                  simp only [Option.some.injEq] at H
                  subst H
                  exact RE.nil (weak_sel (env' := [(0, .bool false)]) ⟨rfl, trivial⟩ rfl)
              · rw [if_neg h5] at H
                refine RE.skip rfl rfl (getb (beq_eq_false_iff_ne.mpr h5) rfl) rfl rfl rfl ?_
                refine RE.skip rfl rfl (getb (beq_eq_false_iff_ne.mpr h5) rfl) rfl rfl rfl ?_
                refine RE.op (op_pick_false rfl (evb (beq_eq_false_iff_ne.mpr h5) rfl) rfl) rfl rfl rfl ?_
                refine RE.op (op_move rfl rfl) rfl rfl rfl ?_
                refine RE.skip rfl rfl rfl rfl rfl rfl ?_
                refine RE.skip rfl rfl rfl rfl rfl rfl ?_
                refine RE.op (op_pick_false rfl rfl rfl) rfl rfl rfl ?_
                refine RE.op (op_move rfl rfl) rfl rfl rfl ?_
                refine RE.skip rfl rfl rfl rfl rfl rfl ?_
                refine RE.skip rfl rfl rfl rfl rfl rfl ?_
                refine RE.op (op_pick_false rfl rfl rfl) rfl rfl rfl ?_
                refine RE.op (op_move rfl rfl) rfl rfl rfl ?_
                refine RE.skip rfl rfl rfl rfl rfl rfl ?_
                refine RE.op (op_pick_false rfl rfl rfl) rfl rfl rfl ?_
                refine RE.op (op_move rfl rfl) rfl rfl rfl ?_
                refine RE.skip rfl rfl rfl rfl rfl rfl ?_
                refine RE.skip rfl rfl rfl rfl rfl rfl ?_
                refine RE.op (op_pick_false rfl rfl rfl) rfl rfl rfl ?_
                refine RE.op (op_move rfl rfl) rfl rfl rfl ?_
                refine RE.skip rfl rfl rfl rfl rfl rfl ?_
                refine RE.skip rfl rfl rfl rfl rfl rfl ?_
                refine RE.op (op_pick_false rfl rfl rfl) rfl rfl rfl ?_
                refine RE.op (op_move rfl rfl) rfl rfl rfl ?_
                refine RE.skip rfl rfl rfl rfl rfl rfl ?_
                refine RE.skip rfl rfl rfl rfl rfl rfl ?_
                refine RE.op (op_pick_false rfl rfl rfl) rfl rfl rfl ?_
                refine RE.op (op_assign rfl rfl) rfl rfl rfl ?_
                simp only [Option.some.injEq] at H
                subst H
                exact RE.nil (weak_sel (env' := [(0, .bool false)]) ⟨rfl, trivial⟩ rfl)
            · rw [if_neg h4] at H
              refine RE.skip rfl rfl (getb (beq_eq_false_iff_ne.mpr h4) rfl) rfl rfl rfl ?_
              refine RE.skip rfl rfl (getb (beq_eq_false_iff_ne.mpr h4) rfl) rfl rfl rfl ?_
              refine RE.op (op_pick_false rfl (evb (beq_eq_false_iff_ne.mpr h4) rfl) rfl) rfl rfl rfl ?_
              refine RE.op (op_move rfl rfl) rfl rfl rfl ?_
              refine RE.skip rfl rfl rfl rfl rfl rfl ?_
              refine RE.skip rfl rfl rfl rfl rfl rfl ?_
              refine RE.op (op_pick_false rfl rfl rfl) rfl rfl rfl ?_
              refine RE.op (op_move rfl rfl) rfl rfl rfl ?_
              refine RE.skip rfl rfl rfl rfl rfl rfl ?_
              refine RE.skip rfl rfl rfl rfl rfl rfl ?_
              refine RE.op (op_pick_false rfl rfl rfl) rfl rfl rfl ?_
              refine RE.op (op_move rfl rfl) rfl rfl rfl ?_
              refine RE.skip rfl rfl rfl rfl rfl rfl ?_
              refine RE.skip rfl rfl rfl rfl rfl rfl ?_
              refine RE.op (op_pick_false rfl rfl rfl) rfl rfl rfl ?_
              refine RE.op (op_move rfl rfl) rfl rfl rfl ?_
              refine RE.skip rfl rfl rfl rfl rfl rfl ?_
              refine RE.op (op_pick_false rfl rfl rfl) rfl rfl rfl ?_
              refine RE.op (op_move rfl rfl) rfl rfl rfl ?_
              refine RE.skip rfl rfl rfl rfl rfl rfl ?_
              refine RE.skip rfl rfl rfl rfl rfl rfl ?_
              refine RE.op (op_pick_false rfl rfl rfl) rfl rfl rfl ?_
              refine RE.op (op_move rfl rfl) rfl rfl rfl ?_
              refine RE.skip rfl rfl rfl rfl rfl rfl ?_
              refine RE.skip rfl rfl rfl rfl rfl rfl ?_
              refine RE.op (op_pick_false rfl rfl rfl) rfl rfl rfl ?_
              refine RE.op (op_move rfl rfl) rfl rfl rfl ?_
              refine RE.skip rfl rfl rfl rfl rfl rfl ?_
              refine RE.skip rfl rfl rfl rfl rfl rfl ?_
              refine RE.op (op_pick_false rfl rfl rfl) rfl rfl rfl ?_
              refine RE.op (op_assign rfl rfl) rfl rfl rfl ?_
              simp only [Option.some.injEq] at H
              subst H
              exact RE.nil (weak_sel (env' := [(0, .bool false)]) ⟨rfl, trivial⟩ rfl)
          · rw [if_neg h3] at H
            refine RE.skip rfl rfl (getb (not_f (Decidable.of_not_not h3)) rfl) rfl rfl rfl ?_
            refine RE.skip rfl rfl (getb (not_f (Decidable.of_not_not h3)) rfl) rfl rfl rfl ?_
            refine RE.op (op_pick_false rfl (evb (not_f (Decidable.of_not_not h3)) rfl) rfl) rfl rfl rfl ?_
            refine RE.op (op_move rfl rfl) rfl rfl rfl ?_
            refine RE.skip rfl rfl rfl rfl rfl rfl ?_
            refine RE.skip rfl rfl rfl rfl rfl rfl ?_
            refine RE.op (op_pick_false rfl rfl rfl) rfl rfl rfl ?_
            refine RE.op (op_move rfl rfl) rfl rfl rfl ?_
            refine RE.skip rfl rfl rfl rfl rfl rfl ?_
            refine RE.skip rfl rfl rfl rfl rfl rfl ?_
            refine RE.op (op_pick_false rfl rfl rfl) rfl rfl rfl ?_
            refine RE.op (op_move rfl rfl) rfl rfl rfl ?_
            refine RE.skip rfl rfl rfl rfl rfl rfl ?_
            refine RE.skip rfl rfl rfl rfl rfl rfl ?_
            refine RE.op (op_pick_false rfl rfl rfl) rfl rfl rfl ?_
            refine RE.op (op_move rfl rfl) rfl rfl rfl ?_
            refine RE.skip rfl rfl rfl rfl rfl rfl ?_
            refine RE.skip rfl rfl rfl rfl rfl rfl ?_
            refine RE.op (op_pick_false rfl rfl rfl) rfl rfl rfl ?_
            refine RE.op (op_move rfl rfl) rfl rfl rfl ?_
            refine RE.skip rfl rfl rfl rfl rfl rfl ?_
            refine RE.op (op_pick_false rfl rfl rfl) rfl rfl rfl ?_
            refine RE.op (op_move rfl rfl) rfl rfl rfl ?_
            refine RE.skip rfl rfl rfl rfl rfl rfl ?_
            refine RE.skip rfl rfl rfl rfl rfl rfl ?_
            refine RE.op (op_pick_false rfl rfl rfl) rfl rfl rfl ?_
            refine RE.op (op_move rfl rfl) rfl rfl rfl ?_
            refine RE.skip rfl rfl rfl rfl rfl rfl ?_
            refine RE.skip rfl rfl rfl rfl rfl rfl ?_
            refine RE.op (op_pick_false rfl rfl rfl) rfl rfl rfl ?_
            refine RE.op (op_move rfl rfl) rfl rfl rfl ?_
            refine RE.skip rfl rfl rfl rfl rfl rfl ?_
            refine RE.skip rfl rfl rfl rfl rfl rfl ?_
            refine RE.op (op_pick_false rfl rfl rfl) rfl rfl rfl ?_
            refine RE.op (op_assign rfl rfl) rfl rfl rfl ?_
            simp only [Option.some.injEq] at H
            subst H
            exact RE.nil (weak_sel (env' := [(0, .bool false)]) ⟨rfl, trivial⟩ rfl)
        · rw [if_neg h2] at H
          refine RE.skip rfl rfl (getb (not_f (Decidable.of_not_not h2)) rfl) rfl rfl rfl ?_
          refine RE.skip rfl rfl (getb (not_f (Decidable.of_not_not h2)) rfl) rfl rfl rfl ?_
          refine RE.skip rfl rfl (getb (not_f (Decidable.of_not_not h2)) rfl) rfl rfl rfl ?_
          refine RE.op (op_pick_false rfl (evb (not_f (Decidable.of_not_not h2)) rfl) rfl) rfl rfl rfl ?_
          refine RE.op (op_move rfl rfl) rfl rfl rfl ?_
          refine RE.skip rfl rfl rfl rfl rfl rfl ?_
          refine RE.skip rfl rfl rfl rfl rfl rfl ?_
          refine RE.op (op_pick_false rfl rfl rfl) rfl rfl rfl ?_
          refine RE.op (op_move rfl rfl) rfl rfl rfl ?_
          refine RE.skip rfl rfl rfl rfl rfl rfl ?_
          refine RE.skip rfl rfl rfl rfl rfl rfl ?_
          refine RE.op (op_pick_false rfl rfl rfl) rfl rfl rfl ?_
          refine RE.op (op_move rfl rfl) rfl rfl rfl ?_
          refine RE.skip rfl rfl rfl rfl rfl rfl ?_
          refine RE.skip rfl rfl rfl rfl rfl rfl ?_
          refine RE.op (op_pick_false rfl rfl rfl) rfl rfl rfl ?_
          refine RE.op (op_move rfl rfl) rfl rfl rfl ?_
          refine RE.skip rfl rfl rfl rfl rfl rfl ?_
          refine RE.skip rfl rfl rfl rfl rfl rfl ?_
          refine RE.op (op_pick_false rfl rfl rfl) rfl rfl rfl ?_
          refine RE.op (op_move rfl rfl) rfl rfl rfl ?_
          refine RE.skip rfl rfl rfl rfl rfl rfl ?_
          refine RE.skip rfl rfl rfl rfl rfl rfl ?_
          refine RE.op (op_pick_false rfl rfl rfl) rfl rfl rfl ?_
          refine RE.op (op_move rfl rfl) rfl rfl rfl ?_
          refine RE.skip rfl rfl rfl rfl rfl rfl ?_
          refine RE.op (op_pick_false rfl rfl rfl) rfl rfl rfl ?_
          refine RE.op (op_move rfl rfl) rfl rfl rfl ?_
          refine RE.skip rfl rfl rfl rfl rfl rfl ?_
          refine RE.skip rfl rfl rfl rfl rfl rfl ?_
          refine RE.op (op_pick_false rfl rfl rfl) rfl rfl rfl ?_
          refine RE.op (op_move rfl rfl) rfl rfl rfl ?_
          refine RE.skip rfl rfl rfl rfl rfl rfl ?_
          refine RE.skip rfl rfl rfl rfl rfl rfl ?_
          refine RE.op (op_pick_false rfl rfl rfl) rfl rfl rfl ?_
          refine RE.op (op_move rfl rfl) rfl rfl rfl ?_
          refine RE.skip rfl rfl rfl rfl rfl rfl ?_
          refine RE.skip rfl rfl rfl rfl rfl rfl ?_
          refine RE.op (op_pick_false rfl rfl rfl) rfl rfl rfl ?_
          refine RE.op (op_assign rfl rfl) rfl rfl rfl ?_
          simp only [Option.some.injEq] at H
          subst H
          exact RE.nil (weak_sel (env' := [(0, .bool false)]) ⟨rfl, trivial⟩ rfl)
      · rw [if_neg h1] at H
        refine RE.skip rfl rfl (getb (Bool.eq_false_iff.mpr h1) rfl) rfl rfl rfl ?_
        refine RE.skip rfl rfl (getb (Bool.eq_false_iff.mpr h1) rfl) rfl rfl rfl ?_
        refine RE.skip rfl rfl (getb (Bool.eq_false_iff.mpr h1) rfl) rfl rfl rfl ?_
        refine RE.op (op_pick_false rfl (evb (Bool.eq_false_iff.mpr h1) rfl) rfl) rfl rfl rfl ?_
        refine RE.op (op_move rfl rfl) rfl rfl rfl ?_
        refine RE.skip rfl rfl rfl rfl rfl rfl ?_
        refine RE.skip rfl rfl rfl rfl rfl rfl ?_
        refine RE.skip rfl rfl rfl rfl rfl rfl ?_
        refine RE.op (op_pick_false rfl rfl rfl) rfl rfl rfl ?_
        refine RE.op (op_move rfl rfl) rfl rfl rfl ?_
        refine RE.skip rfl rfl rfl rfl rfl rfl ?_
        refine RE.skip rfl rfl rfl rfl rfl rfl ?_
        refine RE.op (op_pick_false rfl rfl rfl) rfl rfl rfl ?_
        refine RE.op (op_move rfl rfl) rfl rfl rfl ?_
        refine RE.skip rfl rfl rfl rfl rfl rfl ?_
        refine RE.skip rfl rfl rfl rfl rfl rfl ?_
        refine RE.op (op_pick_false rfl rfl rfl) rfl rfl rfl ?_
        refine RE.op (op_move rfl rfl) rfl rfl rfl ?_
        refine RE.skip rfl rfl rfl rfl rfl rfl ?_
        refine RE.skip rfl rfl rfl rfl rfl rfl ?_
        refine RE.op (op_pick_false rfl rfl rfl) rfl rfl rfl ?_
        refine RE.op (op_move rfl rfl) rfl rfl rfl ?_
        refine RE.skip rfl rfl rfl rfl rfl rfl ?_
        refine RE.skip rfl rfl rfl rfl rfl rfl ?_
        refine RE.op (op_pick_false rfl rfl rfl) rfl rfl rfl ?_
        refine RE.op (op_move rfl rfl) rfl rfl rfl ?_
        refine RE.skip rfl rfl rfl rfl rfl rfl ?_
        refine RE.skip rfl rfl rfl rfl rfl rfl ?_
        refine RE.op (op_pick_false rfl rfl rfl) rfl rfl rfl ?_
        refine RE.op (op_move rfl rfl) rfl rfl rfl ?_
        refine RE.skip rfl rfl rfl rfl rfl rfl ?_
        refine RE.op (op_pick_false rfl rfl rfl) rfl rfl rfl ?_
        refine RE.op (op_move rfl rfl) rfl rfl rfl ?_
        refine RE.skip rfl rfl rfl rfl rfl rfl ?_
        refine RE.skip rfl rfl rfl rfl rfl rfl ?_
        refine RE.op (op_pick_false rfl rfl rfl) rfl rfl rfl ?_
        refine RE.op (op_move rfl rfl) rfl rfl rfl ?_
        refine RE.skip rfl rfl rfl rfl rfl rfl ?_
        refine RE.skip rfl rfl rfl rfl rfl rfl ?_
        refine RE.op (op_pick_false rfl rfl rfl) rfl rfl rfl ?_
        refine RE.op (op_move rfl rfl) rfl rfl rfl ?_
        refine RE.skip rfl rfl rfl rfl rfl rfl ?_
        refine RE.skip rfl rfl rfl rfl rfl rfl ?_
        refine RE.op (op_pick_false rfl rfl rfl) rfl rfl rfl ?_
        refine RE.op (op_assign rfl rfl) rfl rfl rfl ?_
        simp only [Option.some.injEq] at H
        subst H
        exact RE.nil (weak_sel (env' := [(0, .bool false)]) ⟨rfl, trivial⟩ rfl)
    · clear hj18
      refine then_normal ?_
      refine T_ret ?_
      simp only [Option.some.injEq] at H
      subst H
      exact ret1 rfl rfl rfl
end Go.Proofs.YtgobepjodkggoaaDoor.Fn
