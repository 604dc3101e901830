/- What the functions compute, and that they do: part 2. -/
import Derived.Test.YtgobepjodkggoaaDoorTi
import Derived.Test.YtgobepjodkggoaaDoorDt
import Derived.Test.YtgobepjodkggoaaDoorFn1
namespace Go.Proofs.YtgobepjodkggoaaDoor.Fn
open Go Go.Proofs Go.Proofs.YtgobepjodkggoaaDoor.Ai Go.Proofs.YtgobepjodkggoaaDoor.Dt Go.Proofs.YtgobepjodkggoaaDoor.Ti
set_option linter.unusedVariables false
set_option maxRecDepth 100000

/-! ### 17 bandplan/outcome.Valid -/
def outcome_Valid.l0 (a0 : S_api_Outcome) (t9 : (List (Int × Int))) : Nat → Int → Option (Sum (Int × Int × Int) (Unit))
  | 0, _ => none
  | k + 1, x11 => (if x11 < ((a0.f_Winners.map S_api_Winner.enc).length : Int) then (idx a0.f_Winners x11).bind fun y17 => (if ¬ ((mget t9 y17.f_Station).getD 0) = y17.f_Option then some (.inl (y17.f_Station, y17.f_Option, y17.f_Payment)) else outcome_Valid.l0 a0 t9 k (IntKind.i64.wrap (x11 + 1))) else some (.inr ()))
def outcome_Valid.l1 (a0 : S_api_Outcome) (t9 : (List (Int × Int))) : Nat → Int → Option (Sum (Unit) (Unit))
  | 0, _ => none
  | k + 1, x20 => (if x20 < ((a0.f_Exited.map (AV.int .i64)).length : Int) then (idx a0.f_Exited x20).bind fun y23 => ((if ((mget t9 y23).getD 0) = 0 then some true else (outcome_find.f k a0.f_Winners y23).bind fun t26 => some (decide (t26 ≥ 0)))).bind fun x25 => (if x25 = true then some (.inl ()) else outcome_Valid.l1 a0 t9 k (IntKind.i64.wrap (x20 + 1))) else some (.inr ()))
def outcome_Valid.f (k : Nat) (a0 : S_api_Outcome) : Option (Bool) := (outcome_Cost.f k a0.f_Winners).bind fun t1 => ((if ¬ t1.2 = 0 then some true else (if ¬ t1.1 = a0.f_Cost then some true else (outcome_rising_int.f k a0.f_Exited (fun y0 => outcome_Valid_1.f y0)).bind fun t4 => (if ¬ (t4 = true) then some true else (problem_ValidList.f k a0.f_Assignment).bind fun t6 => some (!t6))))).bind fun x3 => (if x3 = true then some false else (outcome_bands.f k a0.f_Assignment).bind fun t9 => ((outcome_Valid.l0 a0 t9 k 0).bind fun o => match o with | (.inl (x12, x13, x14)) => some false | (.inr _) => ((outcome_Valid.l1 a0 t9 k 0).bind fun o => match o with | (.inl _) => some false | (.inr _) => some true)))
def outcome_Valid.S (args : List AV) (v : AV) : Prop := ∃ (k : Nat) (a0 : S_api_Outcome) (r : Bool), args = [S_api_Outcome.enc a0] ∧ outcome_Valid.f k a0 = some r ∧ v = .bool r
theorem outcome_Valid.ok : VOk Tryd.prog 17 outcome_Valid.S := by
  refine V_ok Tryd.func17 rfl fun args v hS => ⟨?_, ?_⟩
  · obtain ⟨k, a0, r, rfl, H, rfl⟩ := hS
    exact Nat.le_of_ble_eq_true rfl
  · obtain ⟨k, a0, r, rfl, H, rfl⟩ := hS
    unfold outcome_Valid.f at H
    refine T_seq ?_
    refine T_reg ?_
    refine RE.op (op_box (k := 0) rfl rfl rfl rfl) rfl rfl rfl ?_
    refine RE.op (op_assign rfl rfl) rfl rfl rfl ?_
    refine RE.nil ⟨⟨[(1, .ptr 0 0)], [.cells [.lst false (a0.f_Winners.map S_api_Winner.enc), .lst false (a0.f_Exited.map (AV.int .i64)), .lst false (a0.f_Assignment.map S_api_Choice.enc), .int .i64 a0.f_Cost]]⟩, weak_sel ⟨rfl, trivial⟩ rfl, ?_⟩
    refine then_normal ?_
    refine T_seq ?_
    refine T_reg ?_
    refine RE.op (op_faddr Tryd.underlying26 rfl ti22 rfl rfl rfl) rfl rfl rfl ?_
    refine RE.op (op_load ti22 rfl rfl rfl rfl rfl) rfl rfl rfl ?_
    obtain ⟨t1, ht2, H⟩ := Option.bind_eq_some_iff.1 H
    refine RE.op (op_call (f := 9) rfl rfl rfl rfl en9 outcome_Cost.ok ⟨_, _, _, rfl, ht2, rfl⟩) rfl rfl rfl ?_
    refine RE.op (op_move rfl rfl) rfl rfl rfl ?_
    refine RE.op (op_extract rfl rfl rfl) rfl rfl rfl ?_
    refine RE.op (op_extract rfl rfl rfl) rfl rfl rfl ?_
    refine RE.op (op_assign rfl rfl) rfl rfl rfl ?_
    refine RE.op (op_assign rfl rfl) rfl rfl rfl ?_
    refine RE.nil ⟨⟨[(1, .ptr 0 0), (3, .int .i64 t1.1), (4, .int .i64 t1.2)], [.cells [.lst false (a0.f_Winners.map S_api_Winner.enc), .lst false (a0.f_Exited.map (AV.int .i64)), .lst false (a0.f_Assignment.map S_api_Choice.enc), .int .i64 a0.f_Cost]]⟩, weak_sel ⟨rfl, rfl, rfl, trivial⟩ rfl, ?_⟩
    refine then_normal ?_
    refine T_seq ?_
    refine T_seq ?_
    obtain ⟨x3, hj8, H⟩ := Option.bind_eq_some_iff.1 H
    refine T_reg_out ⟨[(1, .ptr 0 0), (35, .bool x3)], [.cells [.lst false (a0.f_Winners.map S_api_Winner.enc), .lst false (a0.f_Exited.map (AV.int .i64)), .lst false (a0.f_Assignment.map S_api_Choice.enc), .int .i64 a0.f_Cost]]⟩ ?_ ?_
    · clear H
      have H := hj8
      clear hj8
      refine RE.op (op_move rfl rfl) rfl rfl rfl ?_
      refine RE.op (op_bin rfl rfl rfl rfl) rfl rfl rfl ?_
      refine RE.op (op_move rfl rfl) rfl rfl rfl ?_
      by_cases h1 : ¬ t1.2 = 0
      · rw [if_pos h1] at H
        refine RE.skip rfl rfl (getb (bne_iff_ne.mpr h1) rfl) rfl rfl rfl ?_
        refine RE.skip rfl rfl (getb (bne_iff_ne.mpr h1) rfl) rfl rfl rfl ?_
        refine RE.skip rfl rfl (getb (bne_iff_ne.mpr h1) rfl) rfl rfl rfl ?_
        refine RE.skip rfl rfl (getb (bne_iff_ne.mpr h1) rfl) rfl rfl rfl ?_
        refine RE.op (op_pick_true rfl (evb (bne_iff_ne.mpr h1) rfl) rfl) rfl rfl rfl ?_
        refine RE.op (op_move rfl rfl) rfl rfl rfl ?_
        refine RE.skip rfl rfl rfl rfl rfl rfl ?_
        refine RE.skip rfl rfl rfl rfl rfl rfl ?_
        refine RE.skip rfl rfl rfl rfl rfl rfl ?_
        refine RE.skip rfl rfl rfl rfl rfl rfl ?_
        refine RE.op (op_pick_true rfl rfl rfl) rfl rfl rfl ?_
        refine RE.op (op_move rfl rfl) rfl rfl rfl ?_
        refine RE.skip rfl rfl rfl rfl rfl rfl ?_
        refine RE.skip rfl rfl rfl rfl rfl rfl ?_
        refine RE.skip rfl rfl rfl rfl rfl rfl ?_
        refine RE.skip rfl rfl rfl rfl rfl rfl ?_
        refine RE.op (op_pick_true rfl rfl rfl) rfl rfl rfl ?_
        simp only [Option.some.injEq] at H
        subst H
        exact RE.nil (weak_sel (env' := [(1, .ptr 0 0), (35, .bool true)]) ⟨rfl, rfl, trivial⟩ rfl)
      · rw [if_neg h1] at H
        refine RE.opg (op_move rfl rfl) rfl rfl (getb (bne_eq_false_iff_eq.mpr (Decidable.of_not_not h1)) rfl) rfl rfl ?_
        refine RE.opg (op_faddr Tryd.underlying26 rfl ti3 rfl rfl rfl) rfl rfl (getb (bne_eq_false_iff_eq.mpr (Decidable.of_not_not h1)) rfl) rfl rfl ?_
        refine RE.opg (op_load ti3 rfl rfl rfl rfl rfl) rfl rfl (getb (bne_eq_false_iff_eq.mpr (Decidable.of_not_not h1)) rfl) rfl rfl ?_
        refine RE.opg (op_bin rfl rfl rfl rfl) rfl rfl (getb (bne_eq_false_iff_eq.mpr (Decidable.of_not_not h1)) rfl) rfl rfl ?_
        refine RE.op (op_pick_false rfl (evb (bne_eq_false_iff_eq.mpr (Decidable.of_not_not h1)) rfl) rfl) rfl rfl rfl ?_
        refine RE.op (op_move rfl rfl) rfl rfl rfl ?_
        by_cases h2 : ¬ t1.1 = a0.f_Cost
        · rw [if_pos h2] at H
          refine RE.skip rfl rfl (getb (bne_iff_ne.mpr h2) rfl) rfl rfl rfl ?_
          refine RE.skip rfl rfl (getb (bne_iff_ne.mpr h2) rfl) rfl rfl rfl ?_
          refine RE.skip rfl rfl (getb (bne_iff_ne.mpr h2) rfl) rfl rfl rfl ?_
          refine RE.skip rfl rfl (getb (bne_iff_ne.mpr h2) rfl) rfl rfl rfl ?_
          refine RE.op (op_pick_true rfl (evb (bne_iff_ne.mpr h2) rfl) rfl) rfl rfl rfl ?_
          refine RE.op (op_move rfl rfl) rfl rfl rfl ?_
          refine RE.skip rfl rfl rfl rfl rfl rfl ?_
          refine RE.skip rfl rfl rfl rfl rfl rfl ?_
          refine RE.skip rfl rfl rfl rfl rfl rfl ?_
          refine RE.skip rfl rfl rfl rfl rfl rfl ?_
          refine RE.op (op_pick_true rfl rfl rfl) rfl rfl rfl ?_
          simp only [Option.some.injEq] at H
          subst H
          exact RE.nil (weak_sel (env' := [(1, .ptr 0 0), (35, .bool true)]) ⟨rfl, rfl, trivial⟩ rfl)
        · rw [if_neg h2] at H
          refine RE.opg (op_faddr Tryd.underlying26 rfl ti23 rfl rfl rfl) rfl rfl (getb (bne_eq_false_iff_eq.mpr (Decidable.of_not_not h2)) rfl) rfl rfl ?_
          refine RE.opg (op_load ti23 rfl rfl rfl rfl rfl) rfl rfl (getb (bne_eq_false_iff_eq.mpr (Decidable.of_not_not h2)) rfl) rfl rfl ?_
          obtain ⟨t4, ht5, H⟩ := Option.bind_eq_some_iff.1 H
          refine RE.opg (op_call (f := 34) rfl rfl rfl rfl en34 outcome_rising_int.ok ⟨_, _, _, 35, _, _, _, rfl, en35, outcome_Valid_1.ok, (fun _ => rfl), (fun _ z h => ⟨_, _, rfl, h, rfl⟩), ht5, rfl⟩) rfl rfl (getb (bne_eq_false_iff_eq.mpr (Decidable.of_not_not h2)) rfl) rfl rfl ?_
          refine RE.opg (op_not rfl rfl) rfl rfl (getb (bne_eq_false_iff_eq.mpr (Decidable.of_not_not h2)) rfl) rfl rfl ?_
          refine RE.op (op_pick_false rfl (evb (bne_eq_false_iff_eq.mpr (Decidable.of_not_not h2)) rfl) rfl) rfl rfl rfl ?_
          refine RE.op (op_move rfl rfl) rfl rfl rfl ?_
          by_cases h3 : ¬ (t4 = true)
          · rw [if_pos h3] at H
            refine RE.skip rfl rfl (getb (not_t (Bool.eq_false_iff.mpr h3)) rfl) rfl rfl rfl ?_
            refine RE.skip rfl rfl (getb (not_t (Bool.eq_false_iff.mpr h3)) rfl) rfl rfl rfl ?_
            refine RE.skip rfl rfl (getb (not_t (Bool.eq_false_iff.mpr h3)) rfl) rfl rfl rfl ?_
            refine RE.skip rfl rfl (getb (not_t (Bool.eq_false_iff.mpr h3)) rfl) rfl rfl rfl ?_
            refine RE.op (op_pick_true rfl (evb (not_t (Bool.eq_false_iff.mpr h3)) rfl) rfl) rfl rfl rfl ?_
            simp only [Option.some.injEq] at H
            subst H
            exact RE.nil (weak_sel (env' := [(1, .ptr 0 0), (35, .bool true)]) ⟨rfl, rfl, trivial⟩ rfl)
          · rw [if_neg h3] at H
            refine RE.opg (op_faddr Tryd.underlying26 rfl ti24 rfl rfl rfl) rfl rfl (getb (not_f (Decidable.of_not_not h3)) rfl) rfl rfl ?_
            refine RE.opg (op_load ti24 rfl rfl rfl rfl rfl) rfl rfl (getb (not_f (Decidable.of_not_not h3)) rfl) rfl rfl ?_
            obtain ⟨t6, ht7, H⟩ := Option.bind_eq_some_iff.1 H
            refine RE.opg (op_call (f := 36) rfl rfl rfl rfl en36 problem_ValidList.ok ⟨_, _, _, rfl, ht7, rfl⟩) rfl rfl (getb (not_f (Decidable.of_not_not h3)) rfl) rfl rfl ?_
            refine RE.opg (op_not rfl rfl) rfl rfl (getb (not_f (Decidable.of_not_not h3)) rfl) rfl rfl ?_
            refine RE.op (op_pick_false rfl (evb (not_f (Decidable.of_not_not h3)) rfl) rfl) rfl rfl rfl ?_
            simp only [Option.some.injEq] at H
            subst H
            exact RE.nil (weak_sel (env' := [(1, .ptr 0 0), (35, .bool (!t6))]) ⟨rfl, rfl, trivial⟩ rfl)
    · clear hj8
      refine then_normal ?_
      by_cases h4 : x3 = true
      · rw [if_pos h4] at H
        refine T_yes rfl h4 ?_
        refine T_seq ?_
        refine T_reg ?_
        refine RE.op (op_assign rfl rfl) rfl rfl rfl ?_
        refine RE.nil ⟨⟨[(2, .bool false)], [.cells [.lst false (a0.f_Winners.map S_api_Winner.enc), .lst false (a0.f_Exited.map (AV.int .i64)), .lst false (a0.f_Assignment.map S_api_Choice.enc), .int .i64 a0.f_Cost]]⟩, weak_sel ⟨rfl, trivial⟩ rfl, ?_⟩
        refine then_normal ?_
        refine T_ret ?_
        simp only [Option.some.injEq] at H
        subst H
        refine then_ret ?_
        exact ret1 rfl rfl rfl
      · rw [if_neg h4] at H
        refine T_no rfl (Bool.eq_false_iff.mpr h4) ?_
        refine T_skip ?_
        refine then_normal ?_
        refine T_seq ?_
        refine T_reg ?_
        refine RE.op (op_faddr Tryd.underlying26 rfl ti24 rfl rfl rfl) rfl rfl rfl ?_
        refine RE.op (op_load ti24 rfl rfl rfl rfl rfl) rfl rfl rfl ?_
        obtain ⟨t9, ht10, H⟩ := Option.bind_eq_some_iff.1 H
        refine RE.op (op_callF (f := 30) (v2 := .map 1) (st2 := [.cells [.lst false (a0.f_Winners.map S_api_Winner.enc), .lst false (a0.f_Exited.map (AV.int .i64)), .lst false (a0.f_Assignment.map S_api_Choice.enc), .int .i64 a0.f_Cost], mb .i64 (AV.int .i64) t9]) [] [.lst false (a0.f_Assignment.map S_api_Choice.enc)] [] (.map 0) [mb .i64 (AV.int .i64) t9] rfl rfl rfl rfl rfl trivial rfl rfl rfl en30 outcome_bands.ok ⟨_, _, _, rfl, rfl, ht10, rfl, rfl⟩ rfl rfl (back_nil_mb (fun _ => rfl))) rfl rfl rfl ?_
        refine RE.op (op_assign rfl rfl) rfl rfl rfl ?_
        refine RE.nil ⟨⟨[(1, .ptr 0 0), (5, .map 1)], [.cells [.lst false (a0.f_Winners.map S_api_Winner.enc), .lst false (a0.f_Exited.map (AV.int .i64)), .lst false (a0.f_Assignment.map S_api_Choice.enc), .int .i64 a0.f_Cost], mb .i64 (AV.int .i64) t9]⟩, weak_sel ⟨rfl, rfl, trivial⟩ rfl, ?_⟩
        refine then_normal ?_
        refine T_seq ?_
        refine T_seq ?_
        refine T_reg ?_
        refine RE.op (op_faddr Tryd.underlying26 rfl ti22 rfl rfl rfl) rfl rfl rfl ?_
        refine RE.op (op_load ti22 rfl rfl rfl rfl rfl) rfl rfl rfl ?_
        refine RE.op (op_len Tryd.underlying22 rfl rfl) rfl rfl rfl ?_
        refine RE.op (op_move rfl rfl) rfl rfl rfl ?_
        refine RE.nil ⟨⟨[(1, .ptr 0 0), (5, .map 1), (40, .lst false (a0.f_Winners.map S_api_Winner.enc)), (41, .int .i64 ((a0.f_Winners.map S_api_Winner.enc).length : Int)), (42, .int .i64 0)], [.cells [.lst false (a0.f_Winners.map S_api_Winner.enc), .lst false (a0.f_Exited.map (AV.int .i64)), .lst false (a0.f_Assignment.map S_api_Choice.enc), .int .i64 a0.f_Cost], mb .i64 (AV.int .i64) t9]⟩, weak_sel ⟨rfl, rfl, rfl, rfl, rfl, trivial⟩ rfl, ?_⟩
        refine then_normal ?_
        refine T_block ?_
        obtain ⟨o15, hj16, H⟩ := Option.bind_eq_some_iff.1 H
        refine T_loop_out ((fun (x_ : Int) => ⟨[(1, .ptr 0 0), (5, .map 1), (40, .lst false (a0.f_Winners.map S_api_Winner.enc)), (41, .int .i64 ((a0.f_Winners.map S_api_Winner.enc).length : Int)), (42, .int .i64 x_)], [.cells [.lst false (a0.f_Winners.map S_api_Winner.enc), .lst false (a0.f_Exited.map (AV.int .i64)), .lst false (a0.f_Assignment.map S_api_Choice.enc), .int .i64 a0.f_Cost], mb .i64 (AV.int .i64) t9]⟩) 0) ((fun o => match o with | (.inl _) => .ret | (.inr _) => .exit 0) o15) ((fun o => match o with | (.inl (x12, x13, x14)) => ⟨[(2, .bool false)], [.cells [.lst false (a0.f_Winners.map S_api_Winner.enc), .lst false (a0.f_Exited.map (AV.int .i64)), .lst false (a0.f_Assignment.map S_api_Choice.enc), .int .i64 a0.f_Cost], mb .i64 (AV.int .i64) t9, .cells [.int .i64 x12, .int .i64 x13, .int .i64 x14]]⟩ | (.inr ()) => ⟨[(1, .ptr 0 0), (5, .map 1)], [.cells [.lst false (a0.f_Winners.map S_api_Winner.enc), .lst false (a0.f_Exited.map (AV.int .i64)), .lst false (a0.f_Assignment.map S_api_Choice.enc), .int .i64 a0.f_Cost], mb .i64 (AV.int .i64) t9]⟩) o15) (weak_sel (env' := [(1, .ptr 0 0), (5, .map 1), (40, .lst false (a0.f_Winners.map S_api_Winner.enc)), (41, .int .i64 ((a0.f_Winners.map S_api_Winner.enc).length : Int)), (42, .int .i64 0)]) ⟨rfl, rfl, rfl, rfl, rfl, trivial⟩ rfl) ?_ ?_
        · refine T_fix (outcome_Valid.l0 a0 t9) (fun (x_ : Int) => ⟨[(1, .ptr 0 0), (5, .map 1), (40, .lst false (a0.f_Winners.map S_api_Winner.enc)), (41, .int .i64 ((a0.f_Winners.map S_api_Winner.enc).length : Int)), (42, .int .i64 x_)], [.cells [.lst false (a0.f_Winners.map S_api_Winner.enc), .lst false (a0.f_Exited.map (AV.int .i64)), .lst false (a0.f_Assignment.map S_api_Choice.enc), .int .i64 a0.f_Cost], mb .i64 (AV.int .i64) t9]⟩) (fun o => match o with | (.inl _) => .ret | (.inr _) => .exit 0) (fun o => match o with | (.inl (x12, x13, x14)) => ⟨[(2, .bool false)], [.cells [.lst false (a0.f_Winners.map S_api_Winner.enc), .lst false (a0.f_Exited.map (AV.int .i64)), .lst false (a0.f_Assignment.map S_api_Choice.enc), .int .i64 a0.f_Cost], mb .i64 (AV.int .i64) t9, .cells [.int .i64 x12, .int .i64 x13, .int .i64 x14]]⟩ | (.inr ()) => ⟨[(1, .ptr 0 0), (5, .map 1)], [.cells [.lst false (a0.f_Winners.map S_api_Winner.enc), .lst false (a0.f_Exited.map (AV.int .i64)), .lst false (a0.f_Assignment.map S_api_Choice.enc), .int .i64 a0.f_Cost], mb .i64 (AV.int .i64) t9]⟩) (fun _ => rfl) ?_ _ 0 _ hj16
          clear H hj16
          intro k IH x11 o H
          unfold outcome_Valid.l0 at H
          (try simp only at H)
          refine T_seq ?_
          refine T_reg ?_
          refine RE.op (op_bin rfl rfl rfl rfl) rfl rfl rfl ?_
          refine RE.nil ⟨⟨[(1, .ptr 0 0), (5, .map 1), (40, .lst false (a0.f_Winners.map S_api_Winner.enc)), (41, .int .i64 ((a0.f_Winners.map S_api_Winner.enc).length : Int)), (42, .int .i64 x11), (43, .bool (decide (x11 < ((a0.f_Winners.map S_api_Winner.enc).length : Int))))], [.cells [.lst false (a0.f_Winners.map S_api_Winner.enc), .lst false (a0.f_Exited.map (AV.int .i64)), .lst false (a0.f_Assignment.map S_api_Choice.enc), .int .i64 a0.f_Cost], mb .i64 (AV.int .i64) t9]⟩, weak_sel ⟨rfl, rfl, rfl, rfl, rfl, rfl, trivial⟩ rfl, ?_⟩
          refine then_normal ?_
          refine T_seq ?_
          by_cases h5 : x11 < ((a0.f_Winners.map S_api_Winner.enc).length : Int)
          · rw [if_pos h5] at H
            refine T_yes rfl (decide_eq_true h5) ?_
            refine T_skip ?_
            refine then_normal ?_
            refine T_seq ?_
            refine T_block ?_
            refine T_seq ?_
            refine T_reg ?_
            obtain ⟨y17, hy18, H⟩ := Option.bind_eq_some_iff.1 H
            refine RE.op (op_iaddr Tryd.underlying22 ti48 rfl rfl rfl (idx_pos hy18) (idx_map hy18 S_api_Winner.enc) rfl (Nat.le_of_ble_eq_true rfl)) rfl rfl rfl ?_
            refine RE.op (op_load_agg_e (ds := [.int .i64 y17.f_Station, .int .i64 y17.f_Option, .int .i64 y17.f_Payment]) ti48 rfl rfl rfl (idx_map hy18 S_api_Winner.enc) (Nat.le_of_ble_eq_true rfl) rfl) rfl rfl rfl ?_
            refine RE.op (op_alloc (k := 2) ti48 rfl rfl rfl rfl) rfl rfl rfl ?_
            refine RE.op0 (op_store (cs' := [.int .i64 y17.f_Station, .int .i64 y17.f_Option, .int .i64 y17.f_Payment]) ti48 rfl rfl rfl rfl rfl rfl (Nat.le_of_ble_eq_true rfl) rfl) rfl rfl ?_
            refine RE.nil ⟨⟨[(1, .ptr 0 0), (5, .map 1), (7, .ptr 2 0), (40, .lst false (a0.f_Winners.map S_api_Winner.enc)), (41, .int .i64 ((a0.f_Winners.map S_api_Winner.enc).length : Int)), (42, .int .i64 x11)], [.cells [.lst false (a0.f_Winners.map S_api_Winner.enc), .lst false (a0.f_Exited.map (AV.int .i64)), .lst false (a0.f_Assignment.map S_api_Choice.enc), .int .i64 a0.f_Cost], mb .i64 (AV.int .i64) t9, .cells [.int .i64 y17.f_Station, .int .i64 y17.f_Option, .int .i64 y17.f_Payment]]⟩, weak_sel ⟨rfl, rfl, rfl, rfl, rfl, rfl, trivial⟩ rfl, ?_⟩
            refine then_normal ?_
            refine T_seq ?_
            refine T_reg ?_
            refine RE.op (op_move rfl rfl) rfl rfl rfl ?_
            refine RE.op (op_faddr Tryd.underlying48 rfl ti3 rfl rfl rfl) rfl rfl rfl ?_
            refine RE.op (op_load ti3 rfl rfl rfl rfl rfl) rfl rfl rfl ?_
            refine RE.op (op_lookup (kk := .i64) (e := (AV.int .i64)) (l := t9) (z0 := 0) Tryd.underlying58 Tryd.underlying3 ti3 rfl rfl rfl rfl rfl) rfl rfl rfl ?_
            refine RE.op (op_faddr Tryd.underlying48 rfl ti3 rfl rfl rfl) rfl rfl rfl ?_
            refine RE.op (op_load ti3 rfl rfl rfl rfl rfl) rfl rfl rfl ?_
            refine RE.op (op_bin rfl rfl rfl rfl) rfl rfl rfl ?_
            refine RE.nil ⟨⟨[(1, .ptr 0 0), (5, .map 1), (40, .lst false (a0.f_Winners.map S_api_Winner.enc)), (41, .int .i64 ((a0.f_Winners.map S_api_Winner.enc).length : Int)), (42, .int .i64 x11), (52, .bool (((mget t9 y17.f_Station).getD 0) != y17.f_Option))], [.cells [.lst false (a0.f_Winners.map S_api_Winner.enc), .lst false (a0.f_Exited.map (AV.int .i64)), .lst false (a0.f_Assignment.map S_api_Choice.enc), .int .i64 a0.f_Cost], mb .i64 (AV.int .i64) t9, .cells [.int .i64 y17.f_Station, .int .i64 y17.f_Option, .int .i64 y17.f_Payment]]⟩, weak_sel ⟨rfl, rfl, rfl, rfl, rfl, rfl, trivial⟩ rfl, ?_⟩
            refine then_normal ?_
            by_cases h6 : ¬ ((mget t9 y17.f_Station).getD 0) = y17.f_Option
            · rw [if_pos h6] at H
              refine T_yes rfl (bne_iff_ne.mpr h6) ?_
              refine T_seq ?_
              refine T_reg ?_
              refine RE.op (op_assign rfl rfl) rfl rfl rfl ?_
              refine RE.nil ⟨⟨[(2, .bool false)], [.cells [.lst false (a0.f_Winners.map S_api_Winner.enc), .lst false (a0.f_Exited.map (AV.int .i64)), .lst false (a0.f_Assignment.map S_api_Choice.enc), .int .i64 a0.f_Cost], mb .i64 (AV.int .i64) t9, .cells [.int .i64 y17.f_Station, .int .i64 y17.f_Option, .int .i64 y17.f_Payment]]⟩, weak_sel ⟨rfl, trivial⟩ rfl, ?_⟩
              refine then_normal ?_
              refine T_ret ?_
              simp only [Option.some.injEq] at H
              subst H
              refine block_ret ?_
              refine then_ret ?_
              refine then_ret ?_
              exact ⟨rfl, weak_sel (env' := [(2, .bool false)]) ⟨rfl, trivial⟩ rfl⟩
            · rw [if_neg h6] at H
              refine T_no rfl (bne_eq_false_iff_eq.mpr (Decidable.of_not_not h6)) ?_
              refine T_skip ?_
              refine block_normal ?_
              refine then_normal ?_
              refine T_reg ?_
              refine RE.op (op_bin rfl rfl rfl rfl) rfl rfl rfl ?_
              refine RE.op (op_move rfl rfl) rfl rfl rfl ?_
              refine RE.nil ⟨⟨[(1, .ptr 0 0), (5, .map 1), (40, .lst false (a0.f_Winners.map S_api_Winner.enc)), (41, .int .i64 ((a0.f_Winners.map S_api_Winner.enc).length : Int)), (42, .int .i64 (IntKind.i64.wrap (x11 + 1)))], [.cells [.lst false (a0.f_Winners.map S_api_Winner.enc), .lst false (a0.f_Exited.map (AV.int .i64)), .lst false (a0.f_Assignment.map S_api_Choice.enc), .int .i64 a0.f_Cost], mb .i64 (AV.int .i64) t9, .cells [.int .i64 y17.f_Station, .int .i64 y17.f_Option, .int .i64 y17.f_Payment]]⟩, weak_sel ⟨rfl, rfl, rfl, rfl, rfl, trivial⟩ rfl, ?_⟩
              refine then_normal ?_
              exact LoopAt.weak (weak_cut (env' := [(1, .ptr 0 0), (5, .map 1), (40, .lst false (a0.f_Winners.map S_api_Winner.enc)), (41, .int .i64 ((a0.f_Winners.map S_api_Winner.enc).length : Int)), (42, .int .i64 (IntKind.i64.wrap (x11 + 1)))]) (bs' := [.cells [.lst false (a0.f_Winners.map S_api_Winner.enc), .lst false (a0.f_Exited.map (AV.int .i64)), .lst false (a0.f_Assignment.map S_api_Choice.enc), .int .i64 a0.f_Cost], mb .i64 (AV.int .i64) t9]) 2 ⟨rfl, rfl, rfl, rfl, rfl, trivial⟩ rfl rfl rfl (by first | rfl | (rw [belowB_mb (fun _ => rfl)]; rfl) | (simp only [belowB, belows, below]; rw [belowB_mb (fun _ => rfl)]; rfl))) (IH _ _ H)
          · rw [if_neg h5] at H
            refine T_no rfl (decide_eq_false h5) ?_
            refine T_exit ?_
            simp only [Option.some.injEq] at H
            subst H
            refine then_exit ?_
            refine then_exit ?_
            exact ⟨rfl, weak_sel (env' := [(1, .ptr 0 0), (5, .map 1)]) ⟨rfl, rfl, trivial⟩ rfl⟩
        · clear hj16
          rcases o15 with ⟨x12, x13, x14⟩ | _
          · simp only [Option.some.injEq] at H
            subst H
            refine block_ret ?_
            refine then_ret ?_
            exact ret1 rfl rfl rfl
          · refine block_eq ?_
            refine then_normal ?_
            refine T_seq ?_
            refine T_seq ?_
            refine T_reg ?_
            refine RE.op (op_faddr Tryd.underlying26 rfl ti23 rfl rfl rfl) rfl rfl rfl ?_
            refine RE.op (op_load ti23 rfl rfl rfl rfl rfl) rfl rfl rfl ?_
            refine RE.op (op_len Tryd.underlying23 rfl rfl) rfl rfl rfl ?_
            refine RE.op (op_move rfl rfl) rfl rfl rfl ?_
            refine RE.nil ⟨⟨[(1, .ptr 0 0), (5, .map 1), (55, .lst false (a0.f_Exited.map (AV.int .i64))), (56, .int .i64 ((a0.f_Exited.map (AV.int .i64)).length : Int)), (57, .int .i64 0)], [.cells [.lst false (a0.f_Winners.map S_api_Winner.enc), .lst false (a0.f_Exited.map (AV.int .i64)), .lst false (a0.f_Assignment.map S_api_Choice.enc), .int .i64 a0.f_Cost], mb .i64 (AV.int .i64) t9]⟩, weak_sel ⟨rfl, rfl, rfl, rfl, rfl, trivial⟩ rfl, ?_⟩
            refine then_normal ?_
            refine T_block ?_
            obtain ⟨o21, hj22, H⟩ := Option.bind_eq_some_iff.1 H
            refine T_loop_out ((fun (x_ : Int) => ⟨[(1, .ptr 0 0), (5, .map 1), (55, .lst false (a0.f_Exited.map (AV.int .i64))), (56, .int .i64 ((a0.f_Exited.map (AV.int .i64)).length : Int)), (57, .int .i64 x_)], [.cells [.lst false (a0.f_Winners.map S_api_Winner.enc), .lst false (a0.f_Exited.map (AV.int .i64)), .lst false (a0.f_Assignment.map S_api_Choice.enc), .int .i64 a0.f_Cost], mb .i64 (AV.int .i64) t9]⟩) 0) ((fun o => match o with | (.inl _) => .ret | (.inr _) => .exit 2) o21) ((fun o => match o with | (.inl ()) => ⟨[(2, .bool false)], [.cells [.lst false (a0.f_Winners.map S_api_Winner.enc), .lst false (a0.f_Exited.map (AV.int .i64)), .lst false (a0.f_Assignment.map S_api_Choice.enc), .int .i64 a0.f_Cost], mb .i64 (AV.int .i64) t9]⟩ | (.inr ()) => ⟨[], [.cells [.lst false (a0.f_Winners.map S_api_Winner.enc), .lst false (a0.f_Exited.map (AV.int .i64)), .lst false (a0.f_Assignment.map S_api_Choice.enc), .int .i64 a0.f_Cost], mb .i64 (AV.int .i64) t9]⟩) o21) (weak_sel (env' := [(1, .ptr 0 0), (5, .map 1), (55, .lst false (a0.f_Exited.map (AV.int .i64))), (56, .int .i64 ((a0.f_Exited.map (AV.int .i64)).length : Int)), (57, .int .i64 0)]) ⟨rfl, rfl, rfl, rfl, rfl, trivial⟩ rfl) ?_ ?_
            · refine T_fix (outcome_Valid.l1 a0 t9) (fun (x_ : Int) => ⟨[(1, .ptr 0 0), (5, .map 1), (55, .lst false (a0.f_Exited.map (AV.int .i64))), (56, .int .i64 ((a0.f_Exited.map (AV.int .i64)).length : Int)), (57, .int .i64 x_)], [.cells [.lst false (a0.f_Winners.map S_api_Winner.enc), .lst false (a0.f_Exited.map (AV.int .i64)), .lst false (a0.f_Assignment.map S_api_Choice.enc), .int .i64 a0.f_Cost], mb .i64 (AV.int .i64) t9]⟩) (fun o => match o with | (.inl _) => .ret | (.inr _) => .exit 2) (fun o => match o with | (.inl ()) => ⟨[(2, .bool false)], [.cells [.lst false (a0.f_Winners.map S_api_Winner.enc), .lst false (a0.f_Exited.map (AV.int .i64)), .lst false (a0.f_Assignment.map S_api_Choice.enc), .int .i64 a0.f_Cost], mb .i64 (AV.int .i64) t9]⟩ | (.inr ()) => ⟨[], [.cells [.lst false (a0.f_Winners.map S_api_Winner.enc), .lst false (a0.f_Exited.map (AV.int .i64)), .lst false (a0.f_Assignment.map S_api_Choice.enc), .int .i64 a0.f_Cost], mb .i64 (AV.int .i64) t9]⟩) (fun _ => rfl) ?_ _ 0 _ hj22
              clear H hj22
              intro k IH x20 o H
              unfold outcome_Valid.l1 at H
              (try simp only at H)
              refine T_seq ?_
              refine T_reg ?_
              refine RE.op (op_bin rfl rfl rfl rfl) rfl rfl rfl ?_
              refine RE.nil ⟨⟨[(1, .ptr 0 0), (5, .map 1), (55, .lst false (a0.f_Exited.map (AV.int .i64))), (56, .int .i64 ((a0.f_Exited.map (AV.int .i64)).length : Int)), (57, .int .i64 x20), (58, .bool (decide (x20 < ((a0.f_Exited.map (AV.int .i64)).length : Int))))], [.cells [.lst false (a0.f_Winners.map S_api_Winner.enc), .lst false (a0.f_Exited.map (AV.int .i64)), .lst false (a0.f_Assignment.map S_api_Choice.enc), .int .i64 a0.f_Cost], mb .i64 (AV.int .i64) t9]⟩, weak_sel ⟨rfl, rfl, rfl, rfl, rfl, rfl, trivial⟩ rfl, ?_⟩
              refine then_normal ?_
              refine T_seq ?_
              by_cases h7 : x20 < ((a0.f_Exited.map (AV.int .i64)).length : Int)
              · rw [if_pos h7] at H
                refine T_yes rfl (decide_eq_true h7) ?_
                refine T_skip ?_
                refine then_normal ?_
                refine T_seq ?_
                refine T_block ?_
                refine T_seq ?_
                refine T_reg ?_
                obtain ⟨y23, hy24, H⟩ := Option.bind_eq_some_iff.1 H
                refine RE.op (op_iaddr Tryd.underlying23 ti3 rfl rfl rfl (idx_pos hy24) (idx_map hy24 (AV.int .i64)) rfl (Nat.le_of_ble_eq_true rfl)) rfl rfl rfl ?_
                refine RE.op (op_load_e ti3 rfl rfl rfl (idx_map hy24 (AV.int .i64)) rfl) rfl rfl rfl ?_
                refine RE.op (op_assign rfl rfl) rfl rfl rfl ?_
                refine RE.nil ⟨⟨[(1, .ptr 0 0), (5, .map 1), (9, .int .i64 y23), (55, .lst false (a0.f_Exited.map (AV.int .i64))), (56, .int .i64 ((a0.f_Exited.map (AV.int .i64)).length : Int)), (57, .int .i64 x20)], [.cells [.lst false (a0.f_Winners.map S_api_Winner.enc), .lst false (a0.f_Exited.map (AV.int .i64)), .lst false (a0.f_Assignment.map S_api_Choice.enc), .int .i64 a0.f_Cost], mb .i64 (AV.int .i64) t9]⟩, weak_sel ⟨rfl, rfl, rfl, rfl, rfl, rfl, trivial⟩ rfl, ?_⟩
                refine then_normal ?_
                refine T_seq ?_
                obtain ⟨x25, hj28, H⟩ := Option.bind_eq_some_iff.1 H
                refine T_reg_out ⟨[(1, .ptr 0 0), (5, .map 1), (55, .lst false (a0.f_Exited.map (AV.int .i64))), (56, .int .i64 ((a0.f_Exited.map (AV.int .i64)).length : Int)), (57, .int .i64 x20), (71, .bool x25)], [.cells [.lst false (a0.f_Winners.map S_api_Winner.enc), .lst false (a0.f_Exited.map (AV.int .i64)), .lst false (a0.f_Assignment.map S_api_Choice.enc), .int .i64 a0.f_Cost], mb .i64 (AV.int .i64) t9]⟩ ?_ ?_
                · clear H
                  have H := hj28
                  clear hj28
                  refine RE.op (op_move rfl rfl) rfl rfl rfl ?_
                  refine RE.op (op_move rfl rfl) rfl rfl rfl ?_
                  refine RE.op (op_lookup (kk := .i64) (e := (AV.int .i64)) (l := t9) (z0 := 0) Tryd.underlying58 Tryd.underlying3 ti3 rfl rfl rfl rfl rfl) rfl rfl rfl ?_
                  refine RE.op (op_bin rfl rfl rfl rfl) rfl rfl rfl ?_
                  refine RE.op (op_move rfl rfl) rfl rfl rfl ?_
                  by_cases h8 : ((mget t9 y23).getD 0) = 0
                  · rw [if_pos h8] at H
                    refine RE.skip rfl rfl (getb (beq_iff_eq.mpr h8) rfl) rfl rfl rfl ?_
                    refine RE.skip rfl rfl (getb (beq_iff_eq.mpr h8) rfl) rfl rfl rfl ?_
                    refine RE.skip rfl rfl (getb (beq_iff_eq.mpr h8) rfl) rfl rfl rfl ?_
                    refine RE.skip rfl rfl (getb (beq_iff_eq.mpr h8) rfl) rfl rfl rfl ?_
                    refine RE.skip rfl rfl (getb (beq_iff_eq.mpr h8) rfl) rfl rfl rfl ?_
                    refine RE.op (op_pick_true rfl (evb (beq_iff_eq.mpr h8) rfl) rfl) rfl rfl rfl ?_
                    simp only [Option.some.injEq] at H
                    subst H
                    exact RE.nil (weak_sel (env' := [(1, .ptr 0 0), (5, .map 1), (55, .lst false (a0.f_Exited.map (AV.int .i64))), (56, .int .i64 ((a0.f_Exited.map (AV.int .i64)).length : Int)), (57, .int .i64 x20), (71, .bool true)]) ⟨rfl, rfl, rfl, rfl, rfl, rfl, trivial⟩ rfl)
                  · rw [if_neg h8] at H
                    refine RE.opg (op_faddr Tryd.underlying26 rfl ti22 rfl rfl rfl) rfl rfl (getb (beq_eq_false_iff_ne.mpr h8) rfl) rfl rfl ?_
                    refine RE.opg (op_load ti22 rfl rfl rfl rfl rfl) rfl rfl (getb (beq_eq_false_iff_ne.mpr h8) rfl) rfl rfl ?_
                    refine RE.opg (op_move rfl rfl) rfl rfl (getb (beq_eq_false_iff_ne.mpr h8) rfl) rfl rfl ?_
                    obtain ⟨t26, ht27, H⟩ := Option.bind_eq_some_iff.1 H
                    refine RE.opg (op_call (f := 24) rfl rfl rfl rfl en24 outcome_find.ok ⟨_, _, _, _, rfl, ht27, rfl⟩) rfl rfl (getb (beq_eq_false_iff_ne.mpr h8) rfl) rfl rfl ?_
                    refine RE.opg (op_bin rfl rfl rfl rfl) rfl rfl (getb (beq_eq_false_iff_ne.mpr h8) rfl) rfl rfl ?_
                    refine RE.op (op_pick_false rfl (evb (beq_eq_false_iff_ne.mpr h8) rfl) rfl) rfl rfl rfl ?_
                    simp only [Option.some.injEq] at H
                    subst H
                    exact RE.nil (weak_sel (env' := [(1, .ptr 0 0), (5, .map 1), (55, .lst false (a0.f_Exited.map (AV.int .i64))), (56, .int .i64 ((a0.f_Exited.map (AV.int .i64)).length : Int)), (57, .int .i64 x20), (71, .bool (decide (t26 ≥ 0)))]) ⟨rfl, rfl, rfl, rfl, rfl, rfl, trivial⟩ rfl)
                · clear hj28
                  refine then_normal ?_
                  by_cases h9 : x25 = true
                  · rw [if_pos h9] at H
                    refine T_yes rfl h9 ?_
                    refine T_seq ?_
                    refine T_reg ?_
                    refine RE.op (op_assign rfl rfl) rfl rfl rfl ?_
                    refine RE.nil ⟨⟨[(2, .bool false)], [.cells [.lst false (a0.f_Winners.map S_api_Winner.enc), .lst false (a0.f_Exited.map (AV.int .i64)), .lst false (a0.f_Assignment.map S_api_Choice.enc), .int .i64 a0.f_Cost], mb .i64 (AV.int .i64) t9]⟩, weak_sel ⟨rfl, trivial⟩ rfl, ?_⟩
                    refine then_normal ?_
                    refine T_ret ?_
                    simp only [Option.some.injEq] at H
                    subst H
                    refine block_ret ?_
                    refine then_ret ?_
                    refine then_ret ?_
                    exact ⟨rfl, weak_sel (env' := [(2, .bool false)]) ⟨rfl, trivial⟩ rfl⟩
                  · rw [if_neg h9] at H
                    refine T_no rfl (Bool.eq_false_iff.mpr h9) ?_
                    refine T_skip ?_
                    refine block_normal ?_
                    refine then_normal ?_
                    refine T_reg ?_
                    refine RE.op (op_bin rfl rfl rfl rfl) rfl rfl rfl ?_
                    refine RE.op (op_move rfl rfl) rfl rfl rfl ?_
                    refine RE.nil ⟨⟨[(1, .ptr 0 0), (5, .map 1), (55, .lst false (a0.f_Exited.map (AV.int .i64))), (56, .int .i64 ((a0.f_Exited.map (AV.int .i64)).length : Int)), (57, .int .i64 (IntKind.i64.wrap (x20 + 1)))], [.cells [.lst false (a0.f_Winners.map S_api_Winner.enc), .lst false (a0.f_Exited.map (AV.int .i64)), .lst false (a0.f_Assignment.map S_api_Choice.enc), .int .i64 a0.f_Cost], mb .i64 (AV.int .i64) t9]⟩, weak_sel ⟨rfl, rfl, rfl, rfl, rfl, trivial⟩ rfl, ?_⟩
                    refine then_normal ?_
                    exact LoopAt.weak (weak_sel (env' := [(1, .ptr 0 0), (5, .map 1), (55, .lst false (a0.f_Exited.map (AV.int .i64))), (56, .int .i64 ((a0.f_Exited.map (AV.int .i64)).length : Int)), (57, .int .i64 (IntKind.i64.wrap (x20 + 1)))]) ⟨rfl, rfl, rfl, rfl, rfl, trivial⟩ rfl) (IH _ _ H)
              · rw [if_neg h7] at H
                refine T_no rfl (decide_eq_false h7) ?_
                refine T_exit ?_
                simp only [Option.some.injEq] at H
                subst H
                refine then_exit ?_
                refine then_exit ?_
                exact ⟨rfl, weak_sel (env' := []) trivial rfl⟩
            · clear hj22
              rcases o21 with _ | _
              · simp only [Option.some.injEq] at H
                subst H
                refine block_ret ?_
                refine then_ret ?_
                exact ret1 rfl rfl rfl
              · refine block_eq ?_
                refine then_normal ?_
                refine T_seq ?_
                refine T_reg ?_
                refine RE.op (op_assign rfl rfl) rfl rfl rfl ?_
                refine RE.nil ⟨⟨[(2, .bool true)], [.cells [.lst false (a0.f_Winners.map S_api_Winner.enc), .lst false (a0.f_Exited.map (AV.int .i64)), .lst false (a0.f_Assignment.map S_api_Choice.enc), .int .i64 a0.f_Cost], mb .i64 (AV.int .i64) t9]⟩, weak_sel ⟨rfl, trivial⟩ rfl, ?_⟩
                refine then_normal ?_
                refine T_ret ?_
                simp only [Option.some.injEq] at H
                subst H
                exact ret1 rfl rfl rfl

/-! ### 11 bandplan/outcome.Payment -/
def outcome_Payment.f (k : Nat) (a0 : S_api_Outcome) (a1 : Int) : Option (Int × Int) := (outcome_Valid.f k a0).bind fun t1 => (if ¬ (t1 = true) then some (0, 2) else (outcome_find.f k a0.f_Winners a1).bind fun t3 => (if t3 < 0 then some (0, 9) else (idx a0.f_Winners t3).bind fun y5 => some (y5.f_Payment, 0)))
def outcome_Payment.S (args : List AV) (v : AV) : Prop := ∃ (k : Nat) (a0 : S_api_Outcome) (a1 : Int) (r : Int × Int), args = [S_api_Outcome.enc a0, .int .i64 a1] ∧ outcome_Payment.f k a0 a1 = some r ∧ v = .tup [.int .i64 r.1, .int .i64 r.2]
theorem outcome_Payment.ok : VOk Tryd.prog 11 outcome_Payment.S := by
  refine V_ok Tryd.func11 rfl fun args v hS => ⟨?_, ?_⟩
  · obtain ⟨k, a0, a1, r, rfl, H, rfl⟩ := hS
    exact Nat.le_of_ble_eq_true rfl
  · obtain ⟨k, a0, a1, r, rfl, H, rfl⟩ := hS
    unfold outcome_Payment.f at H
    refine T_seq ?_
    refine T_reg ?_
    refine RE.op (op_box (k := 0) rfl rfl rfl rfl) rfl rfl rfl ?_
    refine RE.op (op_assign rfl rfl) rfl rfl rfl ?_
    refine RE.op (op_assign rfl rfl) rfl rfl rfl ?_
    refine RE.nil ⟨⟨[(1, .int .i64 a1), (2, .ptr 0 0)], [.cells [.lst false (a0.f_Winners.map S_api_Winner.enc), .lst false (a0.f_Exited.map (AV.int .i64)), .lst false (a0.f_Assignment.map S_api_Choice.enc), .int .i64 a0.f_Cost]]⟩, weak_sel ⟨rfl, rfl, trivial⟩ rfl, ?_⟩
    refine then_normal ?_
    refine T_seq ?_
    refine T_seq ?_
    refine T_reg ?_
    refine RE.op (op_load_agg (ds := [.lst false (a0.f_Winners.map S_api_Winner.enc), .lst false (a0.f_Exited.map (AV.int .i64)), .lst false (a0.f_Assignment.map S_api_Choice.enc), .int .i64 a0.f_Cost]) ti26 rfl rfl rfl rfl (Nat.le_of_ble_eq_true rfl) rfl) rfl rfl rfl ?_
    obtain ⟨t1, ht2, H⟩ := Option.bind_eq_some_iff.1 H
    refine RE.op (op_call (f := 17) rfl rfl rfl rfl en17 outcome_Valid.ok ⟨_, _, _, rfl, ht2, rfl⟩) rfl rfl rfl ?_
    refine RE.op (op_not rfl rfl) rfl rfl rfl ?_
    refine RE.nil ⟨⟨[(1, .int .i64 a1), (2, .ptr 0 0), (9, .bool (!t1))], [.cells [.lst false (a0.f_Winners.map S_api_Winner.enc), .lst false (a0.f_Exited.map (AV.int .i64)), .lst false (a0.f_Assignment.map S_api_Choice.enc), .int .i64 a0.f_Cost]]⟩, weak_sel ⟨rfl, rfl, rfl, trivial⟩ rfl, ?_⟩
    refine then_normal ?_
    by_cases h1 : ¬ (t1 = true)
    · rw [if_pos h1] at H
      refine T_yes rfl (not_t (Bool.eq_false_iff.mpr h1)) ?_
      refine T_seq ?_
      refine T_reg ?_
      refine RE.op (op_assign rfl rfl) rfl rfl rfl ?_
      refine RE.op (op_assign rfl rfl) rfl rfl rfl ?_
      refine RE.nil ⟨⟨[(4, .int .i64 0), (5, .int .i64 2)], [.cells [.lst false (a0.f_Winners.map S_api_Winner.enc), .lst false (a0.f_Exited.map (AV.int .i64)), .lst false (a0.f_Assignment.map S_api_Choice.enc), .int .i64 a0.f_Cost]]⟩, weak_sel ⟨rfl, rfl, trivial⟩ rfl, ?_⟩
      refine then_normal ?_
      refine T_ret ?_
      simp only [Option.some.injEq] at H
      subst H
      refine then_ret ?_
      exact ret2 rfl rfl rfl rfl
    · rw [if_neg h1] at H
      refine T_no rfl (not_f (Decidable.of_not_not h1)) ?_
      refine T_skip ?_
      refine then_normal ?_
      refine T_seq ?_
      refine T_reg ?_
      refine RE.op (op_faddr Tryd.underlying26 rfl ti22 rfl rfl rfl) rfl rfl rfl ?_
      refine RE.op (op_load ti22 rfl rfl rfl rfl rfl) rfl rfl rfl ?_
      refine RE.op (op_move rfl rfl) rfl rfl rfl ?_
      obtain ⟨t3, ht4, H⟩ := Option.bind_eq_some_iff.1 H
      refine RE.op (op_call (f := 24) rfl rfl rfl rfl en24 outcome_find.ok ⟨_, _, _, _, rfl, ht4, rfl⟩) rfl rfl rfl ?_
      refine RE.op (op_assign rfl rfl) rfl rfl rfl ?_
      refine RE.nil ⟨⟨[(2, .ptr 0 0), (6, .int .i64 t3)], [.cells [.lst false (a0.f_Winners.map S_api_Winner.enc), .lst false (a0.f_Exited.map (AV.int .i64)), .lst false (a0.f_Assignment.map S_api_Choice.enc), .int .i64 a0.f_Cost]]⟩, weak_sel ⟨rfl, rfl, trivial⟩ rfl, ?_⟩
      refine then_normal ?_
      refine T_seq ?_
      refine T_seq ?_
      refine T_reg ?_
      refine RE.op (op_move rfl rfl) rfl rfl rfl ?_
      refine RE.op (op_bin rfl rfl rfl rfl) rfl rfl rfl ?_
      refine RE.nil ⟨⟨[(2, .ptr 0 0), (6, .int .i64 t3), (15, .bool (decide (t3 < 0)))], [.cells [.lst false (a0.f_Winners.map S_api_Winner.enc), .lst false (a0.f_Exited.map (AV.int .i64)), .lst false (a0.f_Assignment.map S_api_Choice.enc), .int .i64 a0.f_Cost]]⟩, weak_sel ⟨rfl, rfl, rfl, trivial⟩ rfl, ?_⟩
      refine then_normal ?_
      by_cases h2 : t3 < 0
      · rw [if_pos h2] at H
        refine T_yes rfl (decide_eq_true h2) ?_
        refine T_seq ?_
        refine T_reg ?_
        refine RE.op (op_assign rfl rfl) rfl rfl rfl ?_
        refine RE.op (op_assign rfl rfl) rfl rfl rfl ?_
        refine RE.nil ⟨⟨[(4, .int .i64 0), (5, .int .i64 9)], [.cells [.lst false (a0.f_Winners.map S_api_Winner.enc), .lst false (a0.f_Exited.map (AV.int .i64)), .lst false (a0.f_Assignment.map S_api_Choice.enc), .int .i64 a0.f_Cost]]⟩, weak_sel ⟨rfl, rfl, trivial⟩ rfl, ?_⟩
        refine then_normal ?_
        refine T_ret ?_
        simp only [Option.some.injEq] at H
        subst H
        refine then_ret ?_
        exact ret2 rfl rfl rfl rfl
      · rw [if_neg h2] at H
        refine T_no rfl (decide_eq_false h2) ?_
        refine T_skip ?_
        refine then_normal ?_
        refine T_seq ?_
        refine T_reg ?_
        refine RE.op (op_faddr Tryd.underlying26 rfl ti22 rfl rfl rfl) rfl rfl rfl ?_
        refine RE.op (op_load ti22 rfl rfl rfl rfl rfl) rfl rfl rfl ?_
        refine RE.op (op_move rfl rfl) rfl rfl rfl ?_
        obtain ⟨y5, hy6, H⟩ := Option.bind_eq_some_iff.1 H
        refine RE.op (op_iaddr Tryd.underlying22 ti48 rfl rfl rfl (idx_pos hy6) (idx_map hy6 S_api_Winner.enc) rfl (Nat.le_of_ble_eq_true rfl)) rfl rfl rfl ?_
        refine RE.op (op_faddr_e Tryd.underlying48 rfl ti3 rfl rfl rfl (idx_map hy6 S_api_Winner.enc) (Nat.le_of_ble_eq_true rfl)) rfl rfl rfl ?_
        refine RE.op (op_load_e ti3 rfl rfl rfl (idx_map hy6 S_api_Winner.enc) rfl) rfl rfl rfl ?_
        refine RE.op (op_assign rfl rfl) rfl rfl rfl ?_
        refine RE.op (op_assign rfl rfl) rfl rfl rfl ?_
        refine RE.nil ⟨⟨[(4, .int .i64 y5.f_Payment), (5, .int .i64 0)], [.cells [.lst false (a0.f_Winners.map S_api_Winner.enc), .lst false (a0.f_Exited.map (AV.int .i64)), .lst false (a0.f_Assignment.map S_api_Choice.enc), .int .i64 a0.f_Cost]]⟩, weak_sel ⟨rfl, rfl, trivial⟩ rfl, ?_⟩
        refine then_normal ?_
        refine T_ret ?_
        simp only [Option.some.injEq] at H
        subst H
        exact ret2 rfl rfl rfl rfl

/-! ### 50 bandplan/reverse.Valid -/
def reverse_Valid.l0 (a0 : (List S_api_Entrant)) : Nat → (Int × Int) → Option (Sum (Int × Int × Int) (Unit))
  | 0, _ => none
  | k + 1, (x1, x2) => (if x2 < ((a0.map S_api_Entrant.enc).length : Int) then (idx a0 x2).bind fun y8 => ((if y8.f_Station ≤ x1 then some true else (if y8.f_Station ≥ 512 then some true else (if y8.f_Home < 1 then some true else (if y8.f_Home > 3 then some true else (if y8.f_Volume < 1 then some true else some (decide (y8.f_Volume > 1000000)))))))).bind fun x10 => (if x10 = true then some (.inl (y8.f_Station, y8.f_Home, y8.f_Volume)) else reverse_Valid.l0 a0 k (y8.f_Station, IntKind.i64.wrap (x2 + 1))) else some (.inr ()))
def reverse_Valid.f (k : Nat) (a0 : (List S_api_Entrant)) : Option (Bool) := ((reverse_Valid.l0 a0 k ((-1), 0)).bind fun o => match o with | (.inl (x3, x4, x5)) => some false | (.inr _) => some true)
def reverse_Valid.S (args : List AV) (v : AV) : Prop := ∃ (k : Nat) (a0 : (List S_api_Entrant)) (r : Bool), args = [.lst false (a0.map S_api_Entrant.enc)] ∧ reverse_Valid.f k a0 = some r ∧ v = .bool r
theorem reverse_Valid.ok : VOk Tryd.prog 50 reverse_Valid.S := by
  refine V_ok Tryd.func50 rfl fun args v hS => ⟨?_, ?_⟩
  · obtain ⟨k, a0, r, rfl, H, rfl⟩ := hS
    exact Nat.le_of_ble_eq_true rfl
  · obtain ⟨k, a0, r, rfl, H, rfl⟩ := hS
    unfold reverse_Valid.f at H
    refine T_seq ?_
    refine T_reg ?_
    refine RE.op (op_assign rfl rfl) rfl rfl rfl ?_
    refine RE.nil ⟨⟨[(0, .lst false (a0.map S_api_Entrant.enc))], []⟩, weak_sel ⟨rfl, trivial⟩ rfl, ?_⟩
    refine then_normal ?_
    refine T_seq ?_
    refine T_reg ?_
    refine RE.op (op_assign rfl rfl) rfl rfl rfl ?_
    refine RE.nil ⟨⟨[(0, .lst false (a0.map S_api_Entrant.enc)), (3, .int .i64 (-1))], []⟩, weak_sel ⟨rfl, rfl, trivial⟩ rfl, ?_⟩
    refine then_normal ?_
    refine T_seq ?_
    refine T_seq ?_
    refine T_reg ?_
    refine RE.op (op_move rfl rfl) rfl rfl rfl ?_
    refine RE.op (op_len Tryd.underlying37 rfl rfl) rfl rfl rfl ?_
    refine RE.op (op_move rfl rfl) rfl rfl rfl ?_
    refine RE.nil ⟨⟨[(3, .int .i64 (-1)), (6, .lst false (a0.map S_api_Entrant.enc)), (7, .int .i64 ((a0.map S_api_Entrant.enc).length : Int)), (8, .int .i64 0)], []⟩, weak_sel ⟨rfl, rfl, rfl, rfl, trivial⟩ rfl, ?_⟩
    refine then_normal ?_
    refine T_block ?_
    obtain ⟨o6, hj7, H⟩ := Option.bind_eq_some_iff.1 H
    refine T_loop_out ((fun (x_ : Int × Int) => ⟨[(3, .int .i64 x_.1), (6, .lst false (a0.map S_api_Entrant.enc)), (7, .int .i64 ((a0.map S_api_Entrant.enc).length : Int)), (8, .int .i64 x_.2)], []⟩) ((-1), 0)) ((fun o => match o with | (.inl _) => .ret | (.inr _) => .exit 0) o6) ((fun o => match o with | (.inl (x3, x4, x5)) => ⟨[(2, .bool false)], [.cells [.int .i64 x3, .int .i64 x4, .int .i64 x5]]⟩ | (.inr ()) => ⟨[], []⟩) o6) (weak_sel (env' := [(3, .int .i64 (-1)), (6, .lst false (a0.map S_api_Entrant.enc)), (7, .int .i64 ((a0.map S_api_Entrant.enc).length : Int)), (8, .int .i64 0)]) ⟨rfl, rfl, rfl, rfl, trivial⟩ rfl) ?_ ?_
    · refine T_fix (reverse_Valid.l0 a0) (fun (x_ : Int × Int) => ⟨[(3, .int .i64 x_.1), (6, .lst false (a0.map S_api_Entrant.enc)), (7, .int .i64 ((a0.map S_api_Entrant.enc).length : Int)), (8, .int .i64 x_.2)], []⟩) (fun o => match o with | (.inl _) => .ret | (.inr _) => .exit 0) (fun o => match o with | (.inl (x3, x4, x5)) => ⟨[(2, .bool false)], [.cells [.int .i64 x3, .int .i64 x4, .int .i64 x5]]⟩ | (.inr ()) => ⟨[], []⟩) (fun _ => rfl) ?_ _ ((-1), 0) _ hj7
      clear H hj7
      intro k IH x_ o H
      obtain ⟨x1, x2⟩ := x_
      unfold reverse_Valid.l0 at H
      (try simp only at H)
      refine T_seq ?_
      refine T_reg ?_
      refine RE.op (op_bin rfl rfl rfl rfl) rfl rfl rfl ?_
      refine RE.nil ⟨⟨[(3, .int .i64 x1), (6, .lst false (a0.map S_api_Entrant.enc)), (7, .int .i64 ((a0.map S_api_Entrant.enc).length : Int)), (8, .int .i64 x2), (9, .bool (decide (x2 < ((a0.map S_api_Entrant.enc).length : Int))))], []⟩, weak_sel ⟨rfl, rfl, rfl, rfl, rfl, trivial⟩ rfl, ?_⟩
      refine then_normal ?_
      refine T_seq ?_
      by_cases h1 : x2 < ((a0.map S_api_Entrant.enc).length : Int)
      · rw [if_pos h1] at H
        refine T_yes rfl (decide_eq_true h1) ?_
        refine T_skip ?_
        refine then_normal ?_
        refine T_seq ?_
        refine T_block ?_
        refine T_seq ?_
        refine T_reg ?_
        obtain ⟨y8, hy9, H⟩ := Option.bind_eq_some_iff.1 H
        refine RE.op (op_iaddr Tryd.underlying37 ti52 rfl rfl rfl (idx_pos hy9) (idx_map hy9 S_api_Entrant.enc) rfl (Nat.le_of_ble_eq_true rfl)) rfl rfl rfl ?_
        refine RE.op (op_load_agg_e (ds := [.int .i64 y8.f_Station, .int .i64 y8.f_Home, .int .i64 y8.f_Volume]) ti52 rfl rfl rfl (idx_map hy9 S_api_Entrant.enc) (Nat.le_of_ble_eq_true rfl) rfl) rfl rfl rfl ?_
        refine RE.op (op_alloc (k := 0) ti52 rfl rfl rfl rfl) rfl rfl rfl ?_
        refine RE.op0 (op_store (cs' := [.int .i64 y8.f_Station, .int .i64 y8.f_Home, .int .i64 y8.f_Volume]) ti52 rfl rfl rfl rfl rfl rfl (Nat.le_of_ble_eq_true rfl) rfl) rfl rfl ?_
        refine RE.nil ⟨⟨[(3, .int .i64 x1), (5, .ptr 0 0), (6, .lst false (a0.map S_api_Entrant.enc)), (7, .int .i64 ((a0.map S_api_Entrant.enc).length : Int)), (8, .int .i64 x2)], [.cells [.int .i64 y8.f_Station, .int .i64 y8.f_Home, .int .i64 y8.f_Volume]]⟩, weak_sel ⟨rfl, rfl, rfl, rfl, rfl, trivial⟩ rfl, ?_⟩
        refine then_normal ?_
        refine T_seq ?_
        refine T_seq ?_
        obtain ⟨x10, hj11, H⟩ := Option.bind_eq_some_iff.1 H
        refine T_reg_out ⟨[(5, .ptr 0 0), (6, .lst false (a0.map S_api_Entrant.enc)), (7, .int .i64 ((a0.map S_api_Entrant.enc).length : Int)), (8, .int .i64 x2), (40, .bool x10)], [.cells [.int .i64 y8.f_Station, .int .i64 y8.f_Home, .int .i64 y8.f_Volume]]⟩ ?_ ?_
        · clear H
          have H := hj11
          clear hj11
          refine RE.op (op_faddr Tryd.underlying52 rfl ti3 rfl rfl rfl) rfl rfl rfl ?_
          refine RE.op (op_load ti3 rfl rfl rfl rfl rfl) rfl rfl rfl ?_
          refine RE.op (op_move rfl rfl) rfl rfl rfl ?_
          refine RE.op (op_bin rfl rfl rfl rfl) rfl rfl rfl ?_
          refine RE.op (op_move rfl rfl) rfl rfl rfl ?_
          by_cases h2 : y8.f_Station ≤ x1
          · rw [if_pos h2] at H
            refine RE.skip rfl rfl (getb (decide_eq_true h2) rfl) rfl rfl rfl ?_
            refine RE.skip rfl rfl (getb (decide_eq_true h2) rfl) rfl rfl rfl ?_
            refine RE.skip rfl rfl (getb (decide_eq_true h2) rfl) rfl rfl rfl ?_
            refine RE.op (op_pick_true rfl (evb (decide_eq_true h2) rfl) rfl) rfl rfl rfl ?_
            refine RE.op (op_move rfl rfl) rfl rfl rfl ?_
            refine RE.skip rfl rfl rfl rfl rfl rfl ?_
            refine RE.skip rfl rfl rfl rfl rfl rfl ?_
            refine RE.skip rfl rfl rfl rfl rfl rfl ?_
            refine RE.op (op_pick_true rfl rfl rfl) rfl rfl rfl ?_
            refine RE.op (op_move rfl rfl) rfl rfl rfl ?_
            refine RE.skip rfl rfl rfl rfl rfl rfl ?_
            refine RE.skip rfl rfl rfl rfl rfl rfl ?_
            refine RE.skip rfl rfl rfl rfl rfl rfl ?_
            refine RE.op (op_pick_true rfl rfl rfl) rfl rfl rfl ?_
            refine RE.op (op_move rfl rfl) rfl rfl rfl ?_
            refine RE.skip rfl rfl rfl rfl rfl rfl ?_
            refine RE.skip rfl rfl rfl rfl rfl rfl ?_
            refine RE.skip rfl rfl rfl rfl rfl rfl ?_
            refine RE.op (op_pick_true rfl rfl rfl) rfl rfl rfl ?_
            refine RE.op (op_move rfl rfl) rfl rfl rfl ?_
            refine RE.skip rfl rfl rfl rfl rfl rfl ?_
            refine RE.skip rfl rfl rfl rfl rfl rfl ?_
            refine RE.skip rfl rfl rfl rfl rfl rfl ?_
            refine RE.op (op_pick_true rfl rfl rfl) rfl rfl rfl ?_
            simp only [Option.some.injEq] at H
            subst H
            exact RE.nil (weak_sel (env' := [(5, .ptr 0 0), (6, .lst false (a0.map S_api_Entrant.enc)), (7, .int .i64 ((a0.map S_api_Entrant.enc).length : Int)), (8, .int .i64 x2), (40, .bool true)]) ⟨rfl, rfl, rfl, rfl, rfl, trivial⟩ rfl)
          · rw [if_neg h2] at H
            refine RE.opg (op_faddr Tryd.underlying52 rfl ti3 rfl rfl rfl) rfl rfl (getb (decide_eq_false h2) rfl) rfl rfl ?_
            refine RE.opg (op_load ti3 rfl rfl rfl rfl rfl) rfl rfl (getb (decide_eq_false h2) rfl) rfl rfl ?_
            refine RE.opg (op_bin rfl rfl rfl rfl) rfl rfl (getb (decide_eq_false h2) rfl) rfl rfl ?_
            refine RE.op (op_pick_false rfl (evb (decide_eq_false h2) rfl) rfl) rfl rfl rfl ?_
            refine RE.op (op_move rfl rfl) rfl rfl rfl ?_
            by_cases h3 : y8.f_Station ≥ 512
            · rw [if_pos h3] at H
              refine RE.skip rfl rfl (getb (decide_eq_true h3) rfl) rfl rfl rfl ?_
              refine RE.skip rfl rfl (getb (decide_eq_true h3) rfl) rfl rfl rfl ?_
              refine RE.skip rfl rfl (getb (decide_eq_true h3) rfl) rfl rfl rfl ?_
              refine RE.op (op_pick_true rfl (evb (decide_eq_true h3) rfl) rfl) rfl rfl rfl ?_
              refine RE.op (op_move rfl rfl) rfl rfl rfl ?_
              refine RE.skip rfl rfl rfl rfl rfl rfl ?_
              refine RE.skip rfl rfl rfl rfl rfl rfl ?_
              refine RE.skip rfl rfl rfl rfl rfl rfl ?_
              refine RE.op (op_pick_true rfl rfl rfl) rfl rfl rfl ?_
              refine RE.op (op_move rfl rfl) rfl rfl rfl ?_
              refine RE.skip rfl rfl rfl rfl rfl rfl ?_
              refine RE.skip rfl rfl rfl rfl rfl rfl ?_
              refine RE.skip rfl rfl rfl rfl rfl rfl ?_
              refine RE.op (op_pick_true rfl rfl rfl) rfl rfl rfl ?_
              refine RE.op (op_move rfl rfl) rfl rfl rfl ?_
              refine RE.skip rfl rfl rfl rfl rfl rfl ?_
              refine RE.skip rfl rfl rfl rfl rfl rfl ?_
              refine RE.skip rfl rfl rfl rfl rfl rfl ?_
              refine RE.op (op_pick_true rfl rfl rfl) rfl rfl rfl ?_
              simp only [Option.some.injEq] at H
              subst H
              exact RE.nil (weak_sel (env' := [(5, .ptr 0 0), (6, .lst false (a0.map S_api_Entrant.enc)), (7, .int .i64 ((a0.map S_api_Entrant.enc).length : Int)), (8, .int .i64 x2), (40, .bool true)]) ⟨rfl, rfl, rfl, rfl, rfl, trivial⟩ rfl)
            · rw [if_neg h3] at H
              refine RE.opg (op_faddr Tryd.underlying52 rfl ti3 rfl rfl rfl) rfl rfl (getb (decide_eq_false h3) rfl) rfl rfl ?_
              refine RE.opg (op_load ti3 rfl rfl rfl rfl rfl) rfl rfl (getb (decide_eq_false h3) rfl) rfl rfl ?_
              refine RE.opg (op_bin rfl rfl rfl rfl) rfl rfl (getb (decide_eq_false h3) rfl) rfl rfl ?_
              refine RE.op (op_pick_false rfl (evb (decide_eq_false h3) rfl) rfl) rfl rfl rfl ?_
              refine RE.op (op_move rfl rfl) rfl rfl rfl ?_
              by_cases h4 : y8.f_Home < 1
              · rw [if_pos h4] at H
                refine RE.skip rfl rfl (getb (decide_eq_true h4) rfl) rfl rfl rfl ?_
                refine RE.skip rfl rfl (getb (decide_eq_true h4) rfl) rfl rfl rfl ?_
                refine RE.skip rfl rfl (getb (decide_eq_true h4) rfl) rfl rfl rfl ?_
                refine RE.op (op_pick_true rfl (evb (decide_eq_true h4) rfl) rfl) rfl rfl rfl ?_
                refine RE.op (op_move rfl rfl) rfl rfl rfl ?_
                refine RE.skip rfl rfl rfl rfl rfl rfl ?_
                refine RE.skip rfl rfl rfl rfl rfl rfl ?_
                refine RE.skip rfl rfl rfl rfl rfl rfl ?_
                refine RE.op (op_pick_true rfl rfl rfl) rfl rfl rfl ?_
                refine RE.op (op_move rfl rfl) rfl rfl rfl ?_
                refine RE.skip rfl rfl rfl rfl rfl rfl ?_
                refine RE.skip rfl rfl rfl rfl rfl rfl ?_
                refine RE.skip rfl rfl rfl rfl rfl rfl ?_
                refine RE.op (op_pick_true rfl rfl rfl) rfl rfl rfl ?_
                simp only [Option.some.injEq] at H
                subst H
                exact RE.nil (weak_sel (env' := [(5, .ptr 0 0), (6, .lst false (a0.map S_api_Entrant.enc)), (7, .int .i64 ((a0.map S_api_Entrant.enc).length : Int)), (8, .int .i64 x2), (40, .bool true)]) ⟨rfl, rfl, rfl, rfl, rfl, trivial⟩ rfl)
              · rw [if_neg h4] at H
                refine RE.opg (op_faddr Tryd.underlying52 rfl ti3 rfl rfl rfl) rfl rfl (getb (decide_eq_false h4) rfl) rfl rfl ?_
                refine RE.opg (op_load ti3 rfl rfl rfl rfl rfl) rfl rfl (getb (decide_eq_false h4) rfl) rfl rfl ?_
                refine RE.opg (op_bin rfl rfl rfl rfl) rfl rfl (getb (decide_eq_false h4) rfl) rfl rfl ?_
                refine RE.op (op_pick_false rfl (evb (decide_eq_false h4) rfl) rfl) rfl rfl rfl ?_
                refine RE.op (op_move rfl rfl) rfl rfl rfl ?_
                by_cases h5 : y8.f_Home > 3
                · rw [if_pos h5] at H
                  refine RE.skip rfl rfl (getb (decide_eq_true h5) rfl) rfl rfl rfl ?_
                  refine RE.skip rfl rfl (getb (decide_eq_true h5) rfl) rfl rfl rfl ?_
                  refine RE.skip rfl rfl (getb (decide_eq_true h5) rfl) rfl rfl rfl ?_
                  refine RE.op (op_pick_true rfl (evb (decide_eq_true h5) rfl) rfl) rfl rfl rfl ?_
                  refine RE.op (op_move rfl rfl) rfl rfl rfl ?_
                  refine RE.skip rfl rfl rfl rfl rfl rfl ?_
                  refine RE.skip rfl rfl rfl rfl rfl rfl ?_
                  refine RE.skip rfl rfl rfl rfl rfl rfl ?_
                  refine RE.op (op_pick_true rfl rfl rfl) rfl rfl rfl ?_
                  simp only [Option.some.injEq] at H
                  subst H
                  exact RE.nil (weak_sel (env' := [(5, .ptr 0 0), (6, .lst false (a0.map S_api_Entrant.enc)), (7, .int .i64 ((a0.map S_api_Entrant.enc).length : Int)), (8, .int .i64 x2), (40, .bool true)]) ⟨rfl, rfl, rfl, rfl, rfl, trivial⟩ rfl)
                · rw [if_neg h5] at H
                  refine RE.opg (op_faddr Tryd.underlying52 rfl ti3 rfl rfl rfl) rfl rfl (getb (decide_eq_false h5) rfl) rfl rfl ?_
                  refine RE.opg (op_load ti3 rfl rfl rfl rfl rfl) rfl rfl (getb (decide_eq_false h5) rfl) rfl rfl ?_
                  refine RE.opg (op_bin rfl rfl rfl rfl) rfl rfl (getb (decide_eq_false h5) rfl) rfl rfl ?_
                  refine RE.op (op_pick_false rfl (evb (decide_eq_false h5) rfl) rfl) rfl rfl rfl ?_
                  refine RE.op (op_move rfl rfl) rfl rfl rfl ?_
                  by_cases h6 : y8.f_Volume < 1
                  · rw [if_pos h6] at H
                    refine RE.skip rfl rfl (getb (decide_eq_true h6) rfl) rfl rfl rfl ?_
                    refine RE.skip rfl rfl (getb (decide_eq_true h6) rfl) rfl rfl rfl ?_
                    refine RE.skip rfl rfl (getb (decide_eq_true h6) rfl) rfl rfl rfl ?_
                    refine RE.op (op_pick_true rfl (evb (decide_eq_true h6) rfl) rfl) rfl rfl rfl ?_
                    simp only [Option.some.injEq] at H
                    subst H
                    exact RE.nil (weak_sel (env' := [(5, .ptr 0 0), (6, .lst false (a0.map S_api_Entrant.enc)), (7, .int .i64 ((a0.map S_api_Entrant.enc).length : Int)), (8, .int .i64 x2), (40, .bool true)]) ⟨rfl, rfl, rfl, rfl, rfl, trivial⟩ rfl)
                  · rw [if_neg h6] at H
                    refine RE.opg (op_faddr Tryd.underlying52 rfl ti3 rfl rfl rfl) rfl rfl (getb (decide_eq_false h6) rfl) rfl rfl ?_
                    refine RE.opg (op_load ti3 rfl rfl rfl rfl rfl) rfl rfl (getb (decide_eq_false h6) rfl) rfl rfl ?_
                    refine RE.opg (op_bin rfl rfl rfl rfl) rfl rfl (getb (decide_eq_false h6) rfl) rfl rfl ?_
                    refine RE.op (op_pick_false rfl (evb (decide_eq_false h6) rfl) rfl) rfl rfl rfl ?_
                    simp only [Option.some.injEq] at H
                    subst H
                    exact RE.nil (weak_sel (env' := [(5, .ptr 0 0), (6, .lst false (a0.map S_api_Entrant.enc)), (7, .int .i64 ((a0.map S_api_Entrant.enc).length : Int)), (8, .int .i64 x2), (40, .bool (decide (y8.f_Volume > 1000000)))]) ⟨rfl, rfl, rfl, rfl, rfl, trivial⟩ rfl)
        · clear hj11
          refine then_normal ?_
          by_cases h7 : x10 = true
          · rw [if_pos h7] at H
            refine T_yes rfl h7 ?_
            refine T_seq ?_
            refine T_reg ?_
            refine RE.op (op_assign rfl rfl) rfl rfl rfl ?_
            refine RE.nil ⟨⟨[(2, .bool false)], [.cells [.int .i64 y8.f_Station, .int .i64 y8.f_Home, .int .i64 y8.f_Volume]]⟩, weak_sel ⟨rfl, trivial⟩ rfl, ?_⟩
            refine then_normal ?_
            refine T_ret ?_
            simp only [Option.some.injEq] at H
            subst H
            refine then_ret ?_
            refine block_ret ?_
            refine then_ret ?_
            refine then_ret ?_
            exact ⟨rfl, weak_sel (env' := [(2, .bool false)]) ⟨rfl, trivial⟩ rfl⟩
          · rw [if_neg h7] at H
            refine T_no rfl (Bool.eq_false_iff.mpr h7) ?_
            refine T_skip ?_
            refine then_normal ?_
            refine T_reg ?_
            refine RE.op (op_faddr Tryd.underlying52 rfl ti3 rfl rfl rfl) rfl rfl rfl ?_
            refine RE.op (op_load ti3 rfl rfl rfl rfl rfl) rfl rfl rfl ?_
            refine RE.op (op_assign rfl rfl) rfl rfl rfl ?_
            refine RE.nil ⟨⟨[(3, .int .i64 y8.f_Station), (6, .lst false (a0.map S_api_Entrant.enc)), (7, .int .i64 ((a0.map S_api_Entrant.enc).length : Int)), (8, .int .i64 x2)], [.cells [.int .i64 y8.f_Station, .int .i64 y8.f_Home, .int .i64 y8.f_Volume]]⟩, weak_sel ⟨rfl, rfl, rfl, rfl, trivial⟩ rfl, ?_⟩
            refine block_normal ?_
            refine then_normal ?_
            refine T_reg ?_
            refine RE.op (op_bin rfl rfl rfl rfl) rfl rfl rfl ?_
            refine RE.op (op_move rfl rfl) rfl rfl rfl ?_
            refine RE.nil ⟨⟨[(3, .int .i64 y8.f_Station), (6, .lst false (a0.map S_api_Entrant.enc)), (7, .int .i64 ((a0.map S_api_Entrant.enc).length : Int)), (8, .int .i64 (IntKind.i64.wrap (x2 + 1)))], [.cells [.int .i64 y8.f_Station, .int .i64 y8.f_Home, .int .i64 y8.f_Volume]]⟩, weak_sel ⟨rfl, rfl, rfl, rfl, trivial⟩ rfl, ?_⟩
            refine then_normal ?_
            exact LoopAt.weak (weak_cut (env' := [(3, .int .i64 y8.f_Station), (6, .lst false (a0.map S_api_Entrant.enc)), (7, .int .i64 ((a0.map S_api_Entrant.enc).length : Int)), (8, .int .i64 (IntKind.i64.wrap (x2 + 1)))]) (bs' := []) 0 ⟨rfl, rfl, rfl, rfl, trivial⟩ rfl rfl rfl rfl) (IH _ _ H)
      · rw [if_neg h1] at H
        refine T_no rfl (decide_eq_false h1) ?_
        refine T_exit ?_
        simp only [Option.some.injEq] at H
        subst H
        refine then_exit ?_
        refine then_exit ?_
        exact ⟨rfl, weak_sel (env' := []) trivial rfl⟩
    · clear hj7
      rcases o6 with ⟨x3, x4, x5⟩ | _
      · simp only [Option.some.injEq] at H
        subst H
        refine block_ret ?_
        refine then_ret ?_
        exact ret1 rfl rfl rfl
      · refine block_eq ?_
        refine then_normal ?_
        refine T_seq ?_
        refine T_reg ?_
        refine RE.op (op_assign rfl rfl) rfl rfl rfl ?_
        refine RE.nil ⟨⟨[(2, .bool true)], []⟩, weak_sel ⟨rfl, trivial⟩ rfl, ?_⟩
        refine then_normal ?_
        refine T_ret ?_
        simp only [Option.some.injEq] at H
        subst H
        exact ret1 rfl rfl rfl

/-! ### 26 bandplan/outcome.good -/
def outcome_good.f (k : Nat) (a0 : (List S_api_Entrant)) (a1 : Int) : Option (Bool) := ((reverse_Valid.f k a0).bind fun t2 => (if t2 = true then (if a1 ≥ 1 then some (decide (a1 ≤ 1000000000)) else some false) else some false)).bind fun x1 => some x1
def outcome_good.S (args : List AV) (v : AV) : Prop := ∃ (k : Nat) (a0 : (List S_api_Entrant)) (a1 : Int) (r : Bool), args = [.lst false (a0.map S_api_Entrant.enc), .int .i64 a1] ∧ outcome_good.f k a0 a1 = some r ∧ v = .bool r
theorem outcome_good.ok : VOk Tryd.prog 26 outcome_good.S := by
  refine V_ok Tryd.func26 rfl fun args v hS => ⟨?_, ?_⟩
  · obtain ⟨k, a0, a1, r, rfl, H, rfl⟩ := hS
    exact Nat.le_of_ble_eq_true rfl
  · obtain ⟨k, a0, a1, r, rfl, H, rfl⟩ := hS
    unfold outcome_good.f at H
    refine T_seq ?_
    refine T_reg ?_
    refine RE.op (op_assign rfl rfl) rfl rfl rfl ?_
    refine RE.nil ⟨⟨[(0, .lst false (a0.map S_api_Entrant.enc)), (1, .int .i64 a1)], []⟩, weak_sel ⟨rfl, rfl, trivial⟩ rfl, ?_⟩
    refine then_normal ?_
    refine T_seq ?_
    obtain ⟨x1, hj4, H⟩ := Option.bind_eq_some_iff.1 H
    refine T_reg_out ⟨[(4, .bool x1)], []⟩ ?_ ?_
    · clear H
      have H := hj4
      clear hj4
      refine RE.op (op_move rfl rfl) rfl rfl rfl ?_
      obtain ⟨t2, ht3, H⟩ := Option.bind_eq_some_iff.1 H
      refine RE.op (op_call (f := 50) rfl rfl rfl rfl en50 reverse_Valid.ok ⟨_, _, _, rfl, ht3, rfl⟩) rfl rfl rfl ?_
      refine RE.op (op_move rfl rfl) rfl rfl rfl ?_
      by_cases h1 : t2 = true
      · rw [if_pos h1] at H
        refine RE.opg (op_move rfl rfl) rfl rfl (getb h1 rfl) rfl rfl ?_
        refine RE.opg (op_bin rfl rfl rfl rfl) rfl rfl (getb h1 rfl) rfl rfl ?_
        refine RE.op (op_pick_true rfl (evb h1 rfl) rfl) rfl rfl rfl ?_
        refine RE.op (op_move rfl rfl) rfl rfl rfl ?_
        by_cases h2 : a1 ≥ 1
        · rw [if_pos h2] at H
          refine RE.opg (op_move rfl rfl) rfl rfl (getb (decide_eq_true h2) rfl) rfl rfl ?_
          refine RE.opg (op_bin rfl rfl rfl rfl) rfl rfl (getb (decide_eq_true h2) rfl) rfl rfl ?_
          refine RE.op (op_pick_true rfl (evb (decide_eq_true h2) rfl) rfl) rfl rfl rfl ?_
          refine RE.op (op_assign rfl rfl) rfl rfl rfl ?_
          simp only [Option.some.injEq] at H
          subst H
          exact RE.nil (weak_sel (env' := [(4, .bool (decide (a1 ≤ 1000000000)))]) ⟨rfl, trivial⟩ rfl)
        · rw [if_neg h2] at H
          refine RE.skip rfl rfl (getb (decide_eq_false h2) rfl) rfl rfl rfl ?_
          refine RE.skip rfl rfl (getb (decide_eq_false h2) rfl) rfl rfl rfl ?_
          refine RE.op (op_pick_false rfl (evb (decide_eq_false h2) rfl) rfl) rfl rfl rfl ?_
          refine RE.op (op_assign rfl rfl) rfl rfl rfl ?_
          simp only [Option.some.injEq] at H
          subst H
          exact RE.nil (weak_sel (env' := [(4, .bool false)]) ⟨rfl, trivial⟩ rfl)
      · rw [if_neg h1] at H
        refine RE.skip rfl rfl (getb (Bool.eq_false_iff.mpr h1) rfl) rfl rfl rfl ?_
        refine RE.skip rfl rfl (getb (Bool.eq_false_iff.mpr h1) rfl) rfl rfl rfl ?_
        refine RE.op (op_pick_false rfl (evb (Bool.eq_false_iff.mpr h1) rfl) rfl) rfl rfl rfl ?_
        refine RE.op (op_move rfl rfl) rfl rfl rfl ?_
        refine RE.skip rfl rfl rfl rfl rfl rfl ?_
        refine RE.skip rfl rfl rfl rfl rfl rfl ?_
        refine RE.op (op_pick_false rfl rfl rfl) rfl rfl rfl ?_
        refine RE.op (op_assign rfl rfl) rfl rfl rfl ?_
        simp only [Option.some.injEq] at H
        subst H
        exact RE.nil (weak_sel (env' := [(4, .bool false)]) ⟨rfl, trivial⟩ rfl)
    · clear hj4
      refine then_normal ?_
      refine T_ret ?_
      simp only [Option.some.injEq] at H
      subst H
      exact ret1 rfl rfl rfl

/-! ### 13 bandplan/outcome.Ceiling -/
def outcome_Ceiling.l0 (a0 : (List S_api_Entrant)) (a1 : Int) : Nat → (Int × Int) → Option (Int)
  | 0, _ => none
  | k + 1, (x3, x4) => (if x4 < ((a0.map S_api_Entrant.enc).length : Int) then (idx a0 x4).bind fun y8 => (score_Offer.f y8.f_Volume a1 y8.f_Home 0).bind fun t10 => outcome_Ceiling.l0 a0 a1 k (IntKind.i64.wrap (x3 + t10.1), IntKind.i64.wrap (x4 + 1)) else some x3)
def outcome_Ceiling.f (k : Nat) (a0 : (List S_api_Entrant)) (a1 : Int) : Option (Int × Int) := (outcome_good.f k a0 a1).bind fun t1 => (if ¬ (t1 = true) then some (0, 2) else (outcome_Ceiling.l0 a0 a1 k (0, 0)).bind fun x5 => some (x5, 0))
def outcome_Ceiling.S (args : List AV) (v : AV) : Prop := ∃ (k : Nat) (a0 : (List S_api_Entrant)) (a1 : Int) (r : Int × Int), args = [.lst false (a0.map S_api_Entrant.enc), .int .i64 a1] ∧ outcome_Ceiling.f k a0 a1 = some r ∧ v = .tup [.int .i64 r.1, .int .i64 r.2]
theorem outcome_Ceiling.ok : VOk Tryd.prog 13 outcome_Ceiling.S := by
  refine V_ok Tryd.func13 rfl fun args v hS => ⟨?_, ?_⟩
  · obtain ⟨k, a0, a1, r, rfl, H, rfl⟩ := hS
    exact Nat.le_of_ble_eq_true rfl
  · obtain ⟨k, a0, a1, r, rfl, H, rfl⟩ := hS
    unfold outcome_Ceiling.f at H
    refine T_seq ?_
    refine T_reg ?_
    refine RE.op (op_assign rfl rfl) rfl rfl rfl ?_
    refine RE.op (op_assign rfl rfl) rfl rfl rfl ?_
    refine RE.nil ⟨⟨[(0, .lst false (a0.map S_api_Entrant.enc)), (1, .int .i64 a1)], []⟩, weak_sel ⟨rfl, rfl, trivial⟩ rfl, ?_⟩
    refine then_normal ?_
    refine T_seq ?_
    refine T_seq ?_
    refine T_reg ?_
    refine RE.op (op_move rfl rfl) rfl rfl rfl ?_
    refine RE.op (op_move rfl rfl) rfl rfl rfl ?_
    obtain ⟨t1, ht2, H⟩ := Option.bind_eq_some_iff.1 H
    refine RE.op (op_call (f := 26) rfl rfl rfl rfl en26 outcome_good.ok ⟨_, _, _, _, rfl, ht2, rfl⟩) rfl rfl rfl ?_
    refine RE.op (op_not rfl rfl) rfl rfl rfl ?_
    refine RE.nil ⟨⟨[(0, .lst false (a0.map S_api_Entrant.enc)), (1, .int .i64 a1), (14, .bool (!t1))], []⟩, weak_sel ⟨rfl, rfl, rfl, trivial⟩ rfl, ?_⟩
    refine then_normal ?_
    by_cases h1 : ¬ (t1 = true)
    · rw [if_pos h1] at H
      refine T_yes rfl (not_t (Bool.eq_false_iff.mpr h1)) ?_
      refine T_seq ?_
      refine T_reg ?_
      refine RE.op (op_assign rfl rfl) rfl rfl rfl ?_
      refine RE.op (op_assign rfl rfl) rfl rfl rfl ?_
      refine RE.nil ⟨⟨[(4, .int .i64 0), (5, .int .i64 2)], []⟩, weak_sel ⟨rfl, rfl, trivial⟩ rfl, ?_⟩
      refine then_normal ?_
      refine T_ret ?_
      simp only [Option.some.injEq] at H
      subst H
      refine then_ret ?_
      exact ret2 rfl rfl rfl rfl
    · rw [if_neg h1] at H
      refine T_no rfl (not_f (Decidable.of_not_not h1)) ?_
      refine T_skip ?_
      refine then_normal ?_
      refine T_seq ?_
      refine T_reg ?_
      refine RE.op (op_assign rfl rfl) rfl rfl rfl ?_
      refine RE.nil ⟨⟨[(0, .lst false (a0.map S_api_Entrant.enc)), (1, .int .i64 a1), (6, .int .i64 0)], []⟩, weak_sel ⟨rfl, rfl, rfl, trivial⟩ rfl, ?_⟩
      refine then_normal ?_
      refine T_seq ?_
      refine T_seq ?_
      refine T_reg ?_
      refine RE.op (op_move rfl rfl) rfl rfl rfl ?_
      refine RE.op (op_len Tryd.underlying37 rfl rfl) rfl rfl rfl ?_
      refine RE.op (op_move rfl rfl) rfl rfl rfl ?_
      refine RE.nil ⟨⟨[(1, .int .i64 a1), (6, .int .i64 0), (15, .lst false (a0.map S_api_Entrant.enc)), (16, .int .i64 ((a0.map S_api_Entrant.enc).length : Int)), (17, .int .i64 0)], []⟩, weak_sel ⟨rfl, rfl, rfl, rfl, rfl, trivial⟩ rfl, ?_⟩
      refine then_normal ?_
      refine T_block ?_
      obtain ⟨x5, hj7, H⟩ := Option.bind_eq_some_iff.1 H
      refine T_loop_out ((fun (x_ : Int × Int) => ⟨[(1, .int .i64 a1), (6, .int .i64 x_.1), (15, .lst false (a0.map S_api_Entrant.enc)), (16, .int .i64 ((a0.map S_api_Entrant.enc).length : Int)), (17, .int .i64 x_.2)], []⟩) (0, 0)) ((fun _ => .exit 0) x5) ((fun (x_ : (Int)) => ⟨[(6, .int .i64 x_)], []⟩) x5) (weak_sel (env' := [(1, .int .i64 a1), (6, .int .i64 0), (15, .lst false (a0.map S_api_Entrant.enc)), (16, .int .i64 ((a0.map S_api_Entrant.enc).length : Int)), (17, .int .i64 0)]) ⟨rfl, rfl, rfl, rfl, rfl, trivial⟩ rfl) ?_ ?_
      · refine T_fix (outcome_Ceiling.l0 a0 a1) (fun (x_ : Int × Int) => ⟨[(1, .int .i64 a1), (6, .int .i64 x_.1), (15, .lst false (a0.map S_api_Entrant.enc)), (16, .int .i64 ((a0.map S_api_Entrant.enc).length : Int)), (17, .int .i64 x_.2)], []⟩) (fun _ => .exit 0) (fun (x_ : (Int)) => ⟨[(6, .int .i64 x_)], []⟩) (fun _ => rfl) ?_ _ (0, 0) _ hj7
        clear H hj7
        intro k IH x_ o H
        obtain ⟨x3, x4⟩ := x_
        unfold outcome_Ceiling.l0 at H
        (try simp only at H)
        refine T_seq ?_
        refine T_reg ?_
        refine RE.op (op_bin rfl rfl rfl rfl) rfl rfl rfl ?_
        refine RE.nil ⟨⟨[(1, .int .i64 a1), (6, .int .i64 x3), (15, .lst false (a0.map S_api_Entrant.enc)), (16, .int .i64 ((a0.map S_api_Entrant.enc).length : Int)), (17, .int .i64 x4), (18, .bool (decide (x4 < ((a0.map S_api_Entrant.enc).length : Int))))], []⟩, weak_sel ⟨rfl, rfl, rfl, rfl, rfl, rfl, trivial⟩ rfl, ?_⟩
        refine then_normal ?_
        refine T_seq ?_
        by_cases h2 : x4 < ((a0.map S_api_Entrant.enc).length : Int)
        · rw [if_pos h2] at H
          refine T_yes rfl (decide_eq_true h2) ?_
          refine T_skip ?_
          refine then_normal ?_
          refine T_seq ?_
          refine T_block ?_
          refine T_seq ?_
          refine T_reg ?_
          obtain ⟨y8, hy9, H⟩ := Option.bind_eq_some_iff.1 H
          refine RE.op (op_iaddr Tryd.underlying37 ti52 rfl rfl rfl (idx_pos hy9) (idx_map hy9 S_api_Entrant.enc) rfl (Nat.le_of_ble_eq_true rfl)) rfl rfl rfl ?_
          refine RE.op (op_load_agg_e (ds := [.int .i64 y8.f_Station, .int .i64 y8.f_Home, .int .i64 y8.f_Volume]) ti52 rfl rfl rfl (idx_map hy9 S_api_Entrant.enc) (Nat.le_of_ble_eq_true rfl) rfl) rfl rfl rfl ?_
          refine RE.op (op_alloc (k := 0) ti52 rfl rfl rfl rfl) rfl rfl rfl ?_
          refine RE.op0 (op_store (cs' := [.int .i64 y8.f_Station, .int .i64 y8.f_Home, .int .i64 y8.f_Volume]) ti52 rfl rfl rfl rfl rfl rfl (Nat.le_of_ble_eq_true rfl) rfl) rfl rfl ?_
          refine RE.nil ⟨⟨[(1, .int .i64 a1), (6, .int .i64 x3), (8, .ptr 0 0), (15, .lst false (a0.map S_api_Entrant.enc)), (16, .int .i64 ((a0.map S_api_Entrant.enc).length : Int)), (17, .int .i64 x4)], [.cells [.int .i64 y8.f_Station, .int .i64 y8.f_Home, .int .i64 y8.f_Volume]]⟩, weak_sel ⟨rfl, rfl, rfl, rfl, rfl, rfl, trivial⟩ rfl, ?_⟩
          refine then_normal ?_
          refine T_seq ?_
          refine T_reg ?_
          refine RE.op (op_faddr Tryd.underlying52 rfl ti3 rfl rfl rfl) rfl rfl rfl ?_
          refine RE.op (op_load ti3 rfl rfl rfl rfl rfl) rfl rfl rfl ?_
          refine RE.op (op_move rfl rfl) rfl rfl rfl ?_
          refine RE.op (op_faddr Tryd.underlying52 rfl ti3 rfl rfl rfl) rfl rfl rfl ?_
          refine RE.op (op_load ti3 rfl rfl rfl rfl rfl) rfl rfl rfl ?_
          obtain ⟨t10, ht11, H⟩ := Option.bind_eq_some_iff.1 H
          refine RE.op (op_call (f := 27) rfl rfl rfl rfl en27 score_Offer.ok ⟨_, _, _, _, _, rfl, ht11, rfl⟩) rfl rfl rfl ?_
          refine RE.op (op_move rfl rfl) rfl rfl rfl ?_
          refine RE.op (op_extract rfl rfl rfl) rfl rfl rfl ?_
          refine RE.op (op_extract rfl rfl rfl) rfl rfl rfl ?_
          refine RE.op (op_assign rfl rfl) rfl rfl rfl ?_
          refine RE.op (op_assign rfl rfl) rfl rfl rfl ?_
          refine RE.nil ⟨⟨[(1, .int .i64 a1), (6, .int .i64 x3), (9, .int .i64 t10.1), (15, .lst false (a0.map S_api_Entrant.enc)), (16, .int .i64 ((a0.map S_api_Entrant.enc).length : Int)), (17, .int .i64 x4)], [.cells [.int .i64 y8.f_Station, .int .i64 y8.f_Home, .int .i64 y8.f_Volume]]⟩, weak_sel ⟨rfl, rfl, rfl, rfl, rfl, rfl, trivial⟩ rfl, ?_⟩
          refine then_normal ?_
          refine T_reg ?_
          refine RE.op (op_move rfl rfl) rfl rfl rfl ?_
          refine RE.op (op_move rfl rfl) rfl rfl rfl ?_
          refine RE.op (op_bin rfl rfl rfl rfl) rfl rfl rfl ?_
          refine RE.op (op_assign rfl rfl) rfl rfl rfl ?_
          refine RE.nil ⟨⟨[(1, .int .i64 a1), (6, .int .i64 (IntKind.i64.wrap (x3 + t10.1))), (15, .lst false (a0.map S_api_Entrant.enc)), (16, .int .i64 ((a0.map S_api_Entrant.enc).length : Int)), (17, .int .i64 x4)], [.cells [.int .i64 y8.f_Station, .int .i64 y8.f_Home, .int .i64 y8.f_Volume]]⟩, weak_sel ⟨rfl, rfl, rfl, rfl, rfl, trivial⟩ rfl, ?_⟩
          refine block_normal ?_
          refine then_normal ?_
          refine T_reg ?_
          refine RE.op (op_bin rfl rfl rfl rfl) rfl rfl rfl ?_
          refine RE.op (op_move rfl rfl) rfl rfl rfl ?_
          refine RE.nil ⟨⟨[(1, .int .i64 a1), (6, .int .i64 (IntKind.i64.wrap (x3 + t10.1))), (15, .lst false (a0.map S_api_Entrant.enc)), (16, .int .i64 ((a0.map S_api_Entrant.enc).length : Int)), (17, .int .i64 (IntKind.i64.wrap (x4 + 1)))], [.cells [.int .i64 y8.f_Station, .int .i64 y8.f_Home, .int .i64 y8.f_Volume]]⟩, weak_sel ⟨rfl, rfl, rfl, rfl, rfl, trivial⟩ rfl, ?_⟩
          refine then_normal ?_
          exact LoopAt.weak (weak_cut (env' := [(1, .int .i64 a1), (6, .int .i64 (IntKind.i64.wrap (x3 + t10.1))), (15, .lst false (a0.map S_api_Entrant.enc)), (16, .int .i64 ((a0.map S_api_Entrant.enc).length : Int)), (17, .int .i64 (IntKind.i64.wrap (x4 + 1)))]) (bs' := []) 0 ⟨rfl, rfl, rfl, rfl, rfl, trivial⟩ rfl rfl rfl rfl) (IH _ _ H)
        · rw [if_neg h2] at H
          refine T_no rfl (decide_eq_false h2) ?_
          refine T_exit ?_
          simp only [Option.some.injEq] at H
          subst H
          refine then_exit ?_
          refine then_exit ?_
          exact ⟨rfl, weak_sel (env' := [(6, .int .i64 x3)]) ⟨rfl, trivial⟩ rfl⟩
      · clear hj7
        refine block_eq ?_
        refine then_normal ?_
        refine T_seq ?_
        refine T_reg ?_
        refine RE.op (op_move rfl rfl) rfl rfl rfl ?_
        refine RE.op (op_assign rfl rfl) rfl rfl rfl ?_
        refine RE.op (op_assign rfl rfl) rfl rfl rfl ?_
        refine RE.nil ⟨⟨[(4, .int .i64 x5), (5, .int .i64 0)], []⟩, weak_sel ⟨rfl, rfl, trivial⟩ rfl, ?_⟩
        refine then_normal ?_
        refine T_ret ?_
        simp only [Option.some.injEq] at H
        subst H
        exact ret2 rfl rfl rfl rfl

/-! ### 55 slices.Index[[]int,int] -/
def slices_Index_int_int.l0 (a0 : (List Int)) (a1 : Int) : Nat → Int → Option (Sum (Int) (Unit))
  | 0, _ => none
  | k + 1, x1 => (if x1 < ((a0.map (AV.int .i64)).length : Int) then (idx a0 x1).bind fun y5 => (if a1 = y5 then some (.inl x1) else slices_Index_int_int.l0 a0 a1 k (IntKind.i64.wrap (x1 + 1))) else some (.inr ()))
def slices_Index_int_int.f (k : Nat) (a0 : (List Int)) (a1 : Int) : Option (Int) := ((slices_Index_int_int.l0 a0 a1 k 0).bind fun o => match o with | (.inl x2) => some x2 | (.inr _) => some (-1))
def slices_Index_int_int.S (args : List AV) (v : AV) : Prop := ∃ (k : Nat) (a0 : (List Int)) (a1 : Int) (r : Int), args = [.lst false (a0.map (AV.int .i64)), .int .i64 a1] ∧ slices_Index_int_int.f k a0 a1 = some r ∧ v = .int .i64 r
theorem slices_Index_int_int.ok : VOk Tryd.prog 55 slices_Index_int_int.S := by
  refine V_ok Tryd.func55 rfl fun args v hS => ⟨?_, ?_⟩
  · obtain ⟨k, a0, a1, r, rfl, H, rfl⟩ := hS
    exact Nat.le_of_ble_eq_true rfl
  · obtain ⟨k, a0, a1, r, rfl, H, rfl⟩ := hS
    unfold slices_Index_int_int.f at H
    refine T_seq ?_
    refine T_reg ?_
    refine RE.op (op_assign rfl rfl) rfl rfl rfl ?_
    refine RE.nil ⟨⟨[(0, .lst false (a0.map (AV.int .i64))), (1, .int .i64 a1)], []⟩, weak_sel ⟨rfl, rfl, trivial⟩ rfl, ?_⟩
    refine then_normal ?_
    refine T_seq ?_
    refine T_seq ?_
    refine T_reg ?_
    refine RE.op (op_move rfl rfl) rfl rfl rfl ?_
    refine RE.op (op_len Tryd.underlying23 rfl rfl) rfl rfl rfl ?_
    refine RE.op (op_move rfl rfl) rfl rfl rfl ?_
    refine RE.nil ⟨⟨[(0, .lst false (a0.map (AV.int .i64))), (1, .int .i64 a1), (7, .int .i64 ((a0.map (AV.int .i64)).length : Int)), (8, .int .i64 0)], []⟩, weak_sel ⟨rfl, rfl, rfl, rfl, trivial⟩ rfl, ?_⟩
    refine then_normal ?_
    refine T_block ?_
    obtain ⟨o3, hj4, H⟩ := Option.bind_eq_some_iff.1 H
    refine T_loop_out ((fun (x_ : Int) => ⟨[(0, .lst false (a0.map (AV.int .i64))), (1, .int .i64 a1), (7, .int .i64 ((a0.map (AV.int .i64)).length : Int)), (8, .int .i64 x_)], []⟩) 0) ((fun o => match o with | (.inl _) => .ret | (.inr _) => .exit 0) o3) ((fun o => match o with | (.inl x2) => ⟨[(4, .int .i64 x2)], []⟩ | (.inr ()) => ⟨[], []⟩) o3) (weak_sel (env' := [(0, .lst false (a0.map (AV.int .i64))), (1, .int .i64 a1), (7, .int .i64 ((a0.map (AV.int .i64)).length : Int)), (8, .int .i64 0)]) ⟨rfl, rfl, rfl, rfl, trivial⟩ rfl) ?_ ?_
    · refine T_fix (slices_Index_int_int.l0 a0 a1) (fun (x_ : Int) => ⟨[(0, .lst false (a0.map (AV.int .i64))), (1, .int .i64 a1), (7, .int .i64 ((a0.map (AV.int .i64)).length : Int)), (8, .int .i64 x_)], []⟩) (fun o => match o with | (.inl _) => .ret | (.inr _) => .exit 0) (fun o => match o with | (.inl x2) => ⟨[(4, .int .i64 x2)], []⟩ | (.inr ()) => ⟨[], []⟩) (fun _ => rfl) ?_ _ 0 _ hj4
      clear H hj4
      intro k IH x1 o H
      unfold slices_Index_int_int.l0 at H
      (try simp only at H)
      refine T_seq ?_
      refine T_reg ?_
      refine RE.op (op_bin rfl rfl rfl rfl) rfl rfl rfl ?_
      refine RE.nil ⟨⟨[(0, .lst false (a0.map (AV.int .i64))), (1, .int .i64 a1), (7, .int .i64 ((a0.map (AV.int .i64)).length : Int)), (8, .int .i64 x1), (9, .bool (decide (x1 < ((a0.map (AV.int .i64)).length : Int))))], []⟩, weak_sel ⟨rfl, rfl, rfl, rfl, rfl, trivial⟩ rfl, ?_⟩
      refine then_normal ?_
      refine T_seq ?_
      by_cases h1 : x1 < ((a0.map (AV.int .i64)).length : Int)
      · rw [if_pos h1] at H
        refine T_yes rfl (decide_eq_true h1) ?_
        refine T_skip ?_
        refine then_normal ?_
        refine T_seq ?_
        refine T_block ?_
        refine T_seq ?_
        refine T_reg ?_
        refine RE.op (op_move rfl rfl) rfl rfl rfl ?_
        refine RE.op (op_assign rfl rfl) rfl rfl rfl ?_
        refine RE.nil ⟨⟨[(0, .lst false (a0.map (AV.int .i64))), (1, .int .i64 a1), (5, .int .i64 x1), (7, .int .i64 ((a0.map (AV.int .i64)).length : Int)), (8, .int .i64 x1)], []⟩, weak_sel ⟨rfl, rfl, rfl, rfl, rfl, trivial⟩ rfl, ?_⟩
        refine then_normal ?_
        refine T_seq ?_
        refine T_reg ?_
        refine RE.op (op_move rfl rfl) rfl rfl rfl ?_
        refine RE.op (op_move rfl rfl) rfl rfl rfl ?_
        refine RE.op (op_move rfl rfl) rfl rfl rfl ?_
        obtain ⟨y5, hy6, H⟩ := Option.bind_eq_some_iff.1 H
        refine RE.op (op_iaddr Tryd.underlying23 ti3 rfl rfl rfl (idx_pos hy6) (idx_map hy6 (AV.int .i64)) rfl (Nat.le_of_ble_eq_true rfl)) rfl rfl rfl ?_
        refine RE.op (op_load_e ti3 rfl rfl rfl (idx_map hy6 (AV.int .i64)) rfl) rfl rfl rfl ?_
        refine RE.op (op_bin rfl rfl rfl rfl) rfl rfl rfl ?_
        refine RE.nil ⟨⟨[(0, .lst false (a0.map (AV.int .i64))), (1, .int .i64 a1), (5, .int .i64 x1), (7, .int .i64 ((a0.map (AV.int .i64)).length : Int)), (8, .int .i64 x1), (16, .bool (a1 == y5))], []⟩, weak_sel ⟨rfl, rfl, rfl, rfl, rfl, rfl, trivial⟩ rfl, ?_⟩
        refine then_normal ?_
        by_cases h2 : a1 = y5
        · rw [if_pos h2] at H
          refine T_yes rfl (beq_iff_eq.mpr h2) ?_
          refine T_seq ?_
          refine T_reg ?_
          refine RE.op (op_move rfl rfl) rfl rfl rfl ?_
          refine RE.op (op_assign rfl rfl) rfl rfl rfl ?_
          refine RE.nil ⟨⟨[(4, .int .i64 x1)], []⟩, weak_sel ⟨rfl, trivial⟩ rfl, ?_⟩
          refine then_normal ?_
          refine T_ret ?_
          simp only [Option.some.injEq] at H
          subst H
          refine block_ret ?_
          refine then_ret ?_
          refine then_ret ?_
          exact ⟨rfl, weak_sel (env' := [(4, .int .i64 x1)]) ⟨rfl, trivial⟩ rfl⟩
        · rw [if_neg h2] at H
          refine T_no rfl (beq_eq_false_iff_ne.mpr h2) ?_
          refine T_skip ?_
          refine block_normal ?_
          refine then_normal ?_
          refine T_reg ?_
          refine RE.op (op_bin rfl rfl rfl rfl) rfl rfl rfl ?_
          refine RE.op (op_move rfl rfl) rfl rfl rfl ?_
          refine RE.nil ⟨⟨[(0, .lst false (a0.map (AV.int .i64))), (1, .int .i64 a1), (7, .int .i64 ((a0.map (AV.int .i64)).length : Int)), (8, .int .i64 (IntKind.i64.wrap (x1 + 1)))], []⟩, weak_sel ⟨rfl, rfl, rfl, rfl, trivial⟩ rfl, ?_⟩
          refine then_normal ?_
          exact LoopAt.weak (weak_sel (env' := [(0, .lst false (a0.map (AV.int .i64))), (1, .int .i64 a1), (7, .int .i64 ((a0.map (AV.int .i64)).length : Int)), (8, .int .i64 (IntKind.i64.wrap (x1 + 1)))]) ⟨rfl, rfl, rfl, rfl, trivial⟩ rfl) (IH _ _ H)
      · rw [if_neg h1] at H
        refine T_no rfl (decide_eq_false h1) ?_
        refine T_exit ?_
        simp only [Option.some.injEq] at H
        subst H
        refine then_exit ?_
        refine then_exit ?_
        exact ⟨rfl, weak_sel (env' := []) trivial rfl⟩
    · clear hj4
      rcases o3 with x2 | _
      · simp only [Option.some.injEq] at H
        subst H
        refine block_ret ?_
        refine then_ret ?_
        exact ret1 rfl rfl rfl
      · refine block_eq ?_
        refine then_normal ?_
        refine T_seq ?_
        refine T_reg ?_
        refine RE.op (op_assign rfl rfl) rfl rfl rfl ?_
        refine RE.nil ⟨⟨[(4, .int .i64 (-1))], []⟩, weak_sel ⟨rfl, trivial⟩ rfl, ?_⟩
        refine then_normal ?_
        refine T_ret ?_
        simp only [Option.some.injEq] at H
        subst H
        exact ret1 rfl rfl rfl

/-! ### 31 slices.Contains[[]int,int] -/
def slices_Contains_int_int.f (k : Nat) (a0 : (List Int)) (a1 : Int) : Option (Bool) := (slices_Index_int_int.f k a0 a1).bind fun t1 => some (decide (t1 ≥ 0))
def slices_Contains_int_int.S (args : List AV) (v : AV) : Prop := ∃ (k : Nat) (a0 : (List Int)) (a1 : Int) (r : Bool), args = [.lst false (a0.map (AV.int .i64)), .int .i64 a1] ∧ slices_Contains_int_int.f k a0 a1 = some r ∧ v = .bool r
theorem slices_Contains_int_int.ok : VOk Tryd.prog 31 slices_Contains_int_int.S := by
  refine V_ok Tryd.func31 rfl fun args v hS => ⟨?_, ?_⟩
  · obtain ⟨k, a0, a1, r, rfl, H, rfl⟩ := hS
    exact Nat.le_of_ble_eq_true rfl
  · obtain ⟨k, a0, a1, r, rfl, H, rfl⟩ := hS
    unfold slices_Contains_int_int.f at H
    refine T_seq ?_
    refine T_reg ?_
    refine RE.op (op_assign rfl rfl) rfl rfl rfl ?_
    refine RE.nil ⟨⟨[(0, .lst false (a0.map (AV.int .i64))), (1, .int .i64 a1)], []⟩, weak_sel ⟨rfl, rfl, trivial⟩ rfl, ?_⟩
    refine then_normal ?_
    refine T_seq ?_
    refine T_reg ?_
    refine RE.op (op_move rfl rfl) rfl rfl rfl ?_
    refine RE.op (op_move rfl rfl) rfl rfl rfl ?_
    obtain ⟨t1, ht2, H⟩ := Option.bind_eq_some_iff.1 H
    refine RE.op (op_call (f := 55) rfl rfl rfl rfl en55 slices_Index_int_int.ok ⟨_, _, _, _, rfl, ht2, rfl⟩) rfl rfl rfl ?_
    refine RE.op (op_bin rfl rfl rfl rfl) rfl rfl rfl ?_
    refine RE.op (op_assign rfl rfl) rfl rfl rfl ?_
    refine RE.nil ⟨⟨[(4, .bool (decide (t1 ≥ 0)))], []⟩, weak_sel ⟨rfl, trivial⟩ rfl, ?_⟩
    refine then_normal ?_
    refine T_ret ?_
    simp only [Option.some.injEq] at H
    subst H
    exact ret1 rfl rfl rfl

/-! ### 15 bandplan/outcome.Follows -/
def outcome_Follows.l0 (a0 : S_api_Outcome) (a1 : (List S_api_Entrant)) (a2 : Int) (t7 : (List (Int × Int))) : Nat → Int → Option (Sum (Int × Int × Int) (Unit))
  | 0, _ => none
  | k + 1, x9 => (if x9 < ((a1.map S_api_Entrant.enc).length : Int) then (idx a1 x9).bind fun y15 => (slices_Contains_int_int.f k a0.f_Exited y15.f_Station).bind fun t17 => (if t17 = true then (if ¬ ((mget t7 y15.f_Station).getD 0) = y15.f_Home then some (.inl (y15.f_Station, y15.f_Home, y15.f_Volume)) else outcome_Follows.l0 a0 a1 a2 t7 k (IntKind.i64.wrap (x9 + 1))) else (outcome_find.f k a0.f_Winners y15.f_Station).bind fun t19 => ((if t19 < 0 then some true else (idx a0.f_Winners t19).bind fun y22 => some (decide (y22.f_Option ≥ y15.f_Home)))).bind fun x21 => (if x21 = true then some (.inl (y15.f_Station, y15.f_Home, y15.f_Volume)) else (idx a0.f_Winners t19).bind fun y25 => (score_Offer.f y15.f_Volume a2 y15.f_Home y25.f_Option).bind fun t27 => (idx a0.f_Winners t19).bind fun y29 => (if y29.f_Payment > t27.1 then some (.inl (y15.f_Station, y15.f_Home, y15.f_Volume)) else outcome_Follows.l0 a0 a1 a2 t7 k (IntKind.i64.wrap (x9 + 1))))) else some (.inr ()))
def outcome_Follows.f (k : Nat) (a0 : S_api_Outcome) (a1 : (List S_api_Entrant)) (a2 : Int) : Option (Bool × Int) := ((outcome_Valid.f k a0).bind fun t2 => (if ¬ (t2 = true) then some true else (outcome_good.f k a1 a2).bind fun t4 => some (!t4))).bind fun x1 => (if x1 = true then some (false, 2) else (outcome_bands.f k a0.f_Assignment).bind fun t7 => ((outcome_Follows.l0 a0 a1 a2 t7 k 0).bind fun o => match o with | (.inl (x10, x11, x12)) => some (false, 0) | (.inr _) => some (((a1.map S_api_Entrant.enc).length : Int) == (IntKind.i64.wrap (((a0.f_Winners.map S_api_Winner.enc).length : Int) + ((a0.f_Exited.map (AV.int .i64)).length : Int))), 0)))
def outcome_Follows.S (args : List AV) (v : AV) : Prop := ∃ (k : Nat) (a0 : S_api_Outcome) (a1 : (List S_api_Entrant)) (a2 : Int) (r : Bool × Int), args = [S_api_Outcome.enc a0, .lst false (a1.map S_api_Entrant.enc), .int .i64 a2] ∧ outcome_Follows.f k a0 a1 a2 = some r ∧ v = .tup [.bool r.1, .int .i64 r.2]
theorem outcome_Follows.ok : VOk Tryd.prog 15 outcome_Follows.S := by
  refine V_ok Tryd.func15 rfl fun args v hS => ⟨?_, ?_⟩
  · obtain ⟨k, a0, a1, a2, r, rfl, H, rfl⟩ := hS
    exact Nat.le_of_ble_eq_true rfl
  · obtain ⟨k, a0, a1, a2, r, rfl, H, rfl⟩ := hS
    unfold outcome_Follows.f at H
    refine T_seq ?_
    refine T_reg ?_
    refine RE.op (op_box (k := 0) rfl rfl rfl rfl) rfl rfl rfl ?_
    refine RE.op (op_assign rfl rfl) rfl rfl rfl ?_
    refine RE.op (op_assign rfl rfl) rfl rfl rfl ?_
    refine RE.nil ⟨⟨[(1, .lst false (a1.map S_api_Entrant.enc)), (2, .int .i64 a2), (3, .ptr 0 0)], [.cells [.lst false (a0.f_Winners.map S_api_Winner.enc), .lst false (a0.f_Exited.map (AV.int .i64)), .lst false (a0.f_Assignment.map S_api_Choice.enc), .int .i64 a0.f_Cost]]⟩, weak_sel ⟨rfl, rfl, rfl, trivial⟩ rfl, ?_⟩
    refine then_normal ?_
    refine T_seq ?_
    refine T_seq ?_
    obtain ⟨x1, hj6, H⟩ := Option.bind_eq_some_iff.1 H
    refine T_reg_out ⟨[(1, .lst false (a1.map S_api_Entrant.enc)), (2, .int .i64 a2), (3, .ptr 0 0), (22, .bool x1)], [.cells [.lst false (a0.f_Winners.map S_api_Winner.enc), .lst false (a0.f_Exited.map (AV.int .i64)), .lst false (a0.f_Assignment.map S_api_Choice.enc), .int .i64 a0.f_Cost]]⟩ ?_ ?_
    · clear H
      have H := hj6
      clear hj6
      refine RE.op (op_load_agg (ds := [.lst false (a0.f_Winners.map S_api_Winner.enc), .lst false (a0.f_Exited.map (AV.int .i64)), .lst false (a0.f_Assignment.map S_api_Choice.enc), .int .i64 a0.f_Cost]) ti26 rfl rfl rfl rfl (Nat.le_of_ble_eq_true rfl) rfl) rfl rfl rfl ?_
      obtain ⟨t2, ht3, H⟩ := Option.bind_eq_some_iff.1 H
      refine RE.op (op_call (f := 17) rfl rfl rfl rfl en17 outcome_Valid.ok ⟨_, _, _, rfl, ht3, rfl⟩) rfl rfl rfl ?_
      refine RE.op (op_not rfl rfl) rfl rfl rfl ?_
      refine RE.op (op_move rfl rfl) rfl rfl rfl ?_
      by_cases h1 : ¬ (t2 = true)
      · rw [if_pos h1] at H
        refine RE.skip rfl rfl (getb (not_t (Bool.eq_false_iff.mpr h1)) rfl) rfl rfl rfl ?_
        refine RE.skip rfl rfl (getb (not_t (Bool.eq_false_iff.mpr h1)) rfl) rfl rfl rfl ?_
        refine RE.skip rfl rfl (getb (not_t (Bool.eq_false_iff.mpr h1)) rfl) rfl rfl rfl ?_
        refine RE.skip rfl rfl (getb (not_t (Bool.eq_false_iff.mpr h1)) rfl) rfl rfl rfl ?_
        refine RE.op (op_pick_true rfl (evb (not_t (Bool.eq_false_iff.mpr h1)) rfl) rfl) rfl rfl rfl ?_
        simp only [Option.some.injEq] at H
        subst H
        exact RE.nil (weak_sel (env' := [(1, .lst false (a1.map S_api_Entrant.enc)), (2, .int .i64 a2), (3, .ptr 0 0), (22, .bool true)]) ⟨rfl, rfl, rfl, rfl, trivial⟩ rfl)
      · rw [if_neg h1] at H
        refine RE.opg (op_move rfl rfl) rfl rfl (getb (not_f (Decidable.of_not_not h1)) rfl) rfl rfl ?_
        refine RE.opg (op_move rfl rfl) rfl rfl (getb (not_f (Decidable.of_not_not h1)) rfl) rfl rfl ?_
        obtain ⟨t4, ht5, H⟩ := Option.bind_eq_some_iff.1 H
        refine RE.opg (op_call (f := 26) rfl rfl rfl rfl en26 outcome_good.ok ⟨_, _, _, _, rfl, ht5, rfl⟩) rfl rfl (getb (not_f (Decidable.of_not_not h1)) rfl) rfl rfl ?_
        refine RE.opg (op_not rfl rfl) rfl rfl (getb (not_f (Decidable.of_not_not h1)) rfl) rfl rfl ?_
        refine RE.op (op_pick_false rfl (evb (not_f (Decidable.of_not_not h1)) rfl) rfl) rfl rfl rfl ?_
        simp only [Option.some.injEq] at H
        subst H
        exact RE.nil (weak_sel (env' := [(1, .lst false (a1.map S_api_Entrant.enc)), (2, .int .i64 a2), (3, .ptr 0 0), (22, .bool (!t4))]) ⟨rfl, rfl, rfl, rfl, trivial⟩ rfl)
    · clear hj6
      refine then_normal ?_
      by_cases h2 : x1 = true
      · rw [if_pos h2] at H
        refine T_yes rfl h2 ?_
        refine T_seq ?_
        refine T_reg ?_
        refine RE.op (op_assign rfl rfl) rfl rfl rfl ?_
        refine RE.op (op_assign rfl rfl) rfl rfl rfl ?_
        refine RE.nil ⟨⟨[(6, .bool false), (7, .int .i64 2)], [.cells [.lst false (a0.f_Winners.map S_api_Winner.enc), .lst false (a0.f_Exited.map (AV.int .i64)), .lst false (a0.f_Assignment.map S_api_Choice.enc), .int .i64 a0.f_Cost]]⟩, weak_sel ⟨rfl, rfl, trivial⟩ rfl, ?_⟩
        refine then_normal ?_
        refine T_ret ?_
        simp only [Option.some.injEq] at H
        subst H
        refine then_ret ?_
        exact ret2 rfl rfl rfl rfl
      · rw [if_neg h2] at H
        refine T_no rfl (Bool.eq_false_iff.mpr h2) ?_
        refine T_skip ?_
        refine then_normal ?_
        refine T_seq ?_
        refine T_reg ?_
        refine RE.op (op_faddr Tryd.underlying26 rfl ti24 rfl rfl rfl) rfl rfl rfl ?_
        refine RE.op (op_load ti24 rfl rfl rfl rfl rfl) rfl rfl rfl ?_
        obtain ⟨t7, ht8, H⟩ := Option.bind_eq_some_iff.1 H
        refine RE.op (op_callF (f := 30) (v2 := .map 1) (st2 := [.cells [.lst false (a0.f_Winners.map S_api_Winner.enc), .lst false (a0.f_Exited.map (AV.int .i64)), .lst false (a0.f_Assignment.map S_api_Choice.enc), .int .i64 a0.f_Cost], mb .i64 (AV.int .i64) t7]) [] [.lst false (a0.f_Assignment.map S_api_Choice.enc)] [] (.map 0) [mb .i64 (AV.int .i64) t7] rfl rfl rfl rfl rfl trivial rfl rfl rfl en30 outcome_bands.ok ⟨_, _, _, rfl, rfl, ht8, rfl, rfl⟩ rfl rfl (back_nil_mb (fun _ => rfl))) rfl rfl rfl ?_
        refine RE.op (op_assign rfl rfl) rfl rfl rfl ?_
        refine RE.nil ⟨⟨[(1, .lst false (a1.map S_api_Entrant.enc)), (2, .int .i64 a2), (3, .ptr 0 0), (8, .map 1)], [.cells [.lst false (a0.f_Winners.map S_api_Winner.enc), .lst false (a0.f_Exited.map (AV.int .i64)), .lst false (a0.f_Assignment.map S_api_Choice.enc), .int .i64 a0.f_Cost], mb .i64 (AV.int .i64) t7]⟩, weak_sel ⟨rfl, rfl, rfl, rfl, trivial⟩ rfl, ?_⟩
        refine then_normal ?_
        refine T_seq ?_
        refine T_seq ?_
        refine T_reg ?_
        refine RE.op (op_move rfl rfl) rfl rfl rfl ?_
        refine RE.op (op_len Tryd.underlying37 rfl rfl) rfl rfl rfl ?_
        refine RE.op (op_move rfl rfl) rfl rfl rfl ?_
        refine RE.nil ⟨⟨[(1, .lst false (a1.map S_api_Entrant.enc)), (2, .int .i64 a2), (3, .ptr 0 0), (8, .map 1), (26, .lst false (a1.map S_api_Entrant.enc)), (27, .int .i64 ((a1.map S_api_Entrant.enc).length : Int)), (28, .int .i64 0)], [.cells [.lst false (a0.f_Winners.map S_api_Winner.enc), .lst false (a0.f_Exited.map (AV.int .i64)), .lst false (a0.f_Assignment.map S_api_Choice.enc), .int .i64 a0.f_Cost], mb .i64 (AV.int .i64) t7]⟩, weak_sel ⟨rfl, rfl, rfl, rfl, rfl, rfl, rfl, trivial⟩ rfl, ?_⟩
        refine then_normal ?_
        refine T_block ?_
        obtain ⟨o13, hj14, H⟩ := Option.bind_eq_some_iff.1 H
        refine T_loop_out ((fun (x_ : Int) => ⟨[(1, .lst false (a1.map S_api_Entrant.enc)), (2, .int .i64 a2), (3, .ptr 0 0), (8, .map 1), (26, .lst false (a1.map S_api_Entrant.enc)), (27, .int .i64 ((a1.map S_api_Entrant.enc).length : Int)), (28, .int .i64 x_)], [.cells [.lst false (a0.f_Winners.map S_api_Winner.enc), .lst false (a0.f_Exited.map (AV.int .i64)), .lst false (a0.f_Assignment.map S_api_Choice.enc), .int .i64 a0.f_Cost], mb .i64 (AV.int .i64) t7]⟩) 0) ((fun o => match o with | (.inl _) => .ret | (.inr _) => .exit 0) o13) ((fun o => match o with | (.inl (x10, x11, x12)) => ⟨[(6, .bool false), (7, .int .i64 0)], [.cells [.lst false (a0.f_Winners.map S_api_Winner.enc), .lst false (a0.f_Exited.map (AV.int .i64)), .lst false (a0.f_Assignment.map S_api_Choice.enc), .int .i64 a0.f_Cost], mb .i64 (AV.int .i64) t7, .cells [.int .i64 x10, .int .i64 x11, .int .i64 x12]]⟩ | (.inr ()) => ⟨[(1, .lst false (a1.map S_api_Entrant.enc)), (3, .ptr 0 0)], [.cells [.lst false (a0.f_Winners.map S_api_Winner.enc), .lst false (a0.f_Exited.map (AV.int .i64)), .lst false (a0.f_Assignment.map S_api_Choice.enc), .int .i64 a0.f_Cost], mb .i64 (AV.int .i64) t7]⟩) o13) (weak_sel (env' := [(1, .lst false (a1.map S_api_Entrant.enc)), (2, .int .i64 a2), (3, .ptr 0 0), (8, .map 1), (26, .lst false (a1.map S_api_Entrant.enc)), (27, .int .i64 ((a1.map S_api_Entrant.enc).length : Int)), (28, .int .i64 0)]) ⟨rfl, rfl, rfl, rfl, rfl, rfl, rfl, trivial⟩ rfl) ?_ ?_
        · refine T_fix (outcome_Follows.l0 a0 a1 a2 t7) (fun (x_ : Int) => ⟨[(1, .lst false (a1.map S_api_Entrant.enc)), (2, .int .i64 a2), (3, .ptr 0 0), (8, .map 1), (26, .lst false (a1.map S_api_Entrant.enc)), (27, .int .i64 ((a1.map S_api_Entrant.enc).length : Int)), (28, .int .i64 x_)], [.cells [.lst false (a0.f_Winners.map S_api_Winner.enc), .lst false (a0.f_Exited.map (AV.int .i64)), .lst false (a0.f_Assignment.map S_api_Choice.enc), .int .i64 a0.f_Cost], mb .i64 (AV.int .i64) t7]⟩) (fun o => match o with | (.inl _) => .ret | (.inr _) => .exit 0) (fun o => match o with | (.inl (x10, x11, x12)) => ⟨[(6, .bool false), (7, .int .i64 0)], [.cells [.lst false (a0.f_Winners.map S_api_Winner.enc), .lst false (a0.f_Exited.map (AV.int .i64)), .lst false (a0.f_Assignment.map S_api_Choice.enc), .int .i64 a0.f_Cost], mb .i64 (AV.int .i64) t7, .cells [.int .i64 x10, .int .i64 x11, .int .i64 x12]]⟩ | (.inr ()) => ⟨[(1, .lst false (a1.map S_api_Entrant.enc)), (3, .ptr 0 0)], [.cells [.lst false (a0.f_Winners.map S_api_Winner.enc), .lst false (a0.f_Exited.map (AV.int .i64)), .lst false (a0.f_Assignment.map S_api_Choice.enc), .int .i64 a0.f_Cost], mb .i64 (AV.int .i64) t7]⟩) (fun _ => rfl) ?_ _ 0 _ hj14
          clear H hj14
          intro k IH x9 o H
          unfold outcome_Follows.l0 at H
          (try simp only at H)
          refine T_seq ?_
          refine T_reg ?_
          refine RE.op (op_bin rfl rfl rfl rfl) rfl rfl rfl ?_
          refine RE.nil ⟨⟨[(1, .lst false (a1.map S_api_Entrant.enc)), (2, .int .i64 a2), (3, .ptr 0 0), (8, .map 1), (26, .lst false (a1.map S_api_Entrant.enc)), (27, .int .i64 ((a1.map S_api_Entrant.enc).length : Int)), (28, .int .i64 x9), (29, .bool (decide (x9 < ((a1.map S_api_Entrant.enc).length : Int))))], [.cells [.lst false (a0.f_Winners.map S_api_Winner.enc), .lst false (a0.f_Exited.map (AV.int .i64)), .lst false (a0.f_Assignment.map S_api_Choice.enc), .int .i64 a0.f_Cost], mb .i64 (AV.int .i64) t7]⟩, weak_sel ⟨rfl, rfl, rfl, rfl, rfl, rfl, rfl, rfl, trivial⟩ rfl, ?_⟩
          refine then_normal ?_
          refine T_seq ?_
          by_cases h3 : x9 < ((a1.map S_api_Entrant.enc).length : Int)
          · rw [if_pos h3] at H
            refine T_yes rfl (decide_eq_true h3) ?_
            refine T_skip ?_
            refine then_normal ?_
            refine T_seq ?_
            refine T_block ?_
            refine T_seq ?_
            refine T_reg ?_
            obtain ⟨y15, hy16, H⟩ := Option.bind_eq_some_iff.1 H
            refine RE.op (op_iaddr Tryd.underlying37 ti52 rfl rfl rfl (idx_pos hy16) (idx_map hy16 S_api_Entrant.enc) rfl (Nat.le_of_ble_eq_true rfl)) rfl rfl rfl ?_
            refine RE.op (op_load_agg_e (ds := [.int .i64 y15.f_Station, .int .i64 y15.f_Home, .int .i64 y15.f_Volume]) ti52 rfl rfl rfl (idx_map hy16 S_api_Entrant.enc) (Nat.le_of_ble_eq_true rfl) rfl) rfl rfl rfl ?_
            refine RE.op (op_alloc (k := 2) ti52 rfl rfl rfl rfl) rfl rfl rfl ?_
            refine RE.op0 (op_store (cs' := [.int .i64 y15.f_Station, .int .i64 y15.f_Home, .int .i64 y15.f_Volume]) ti52 rfl rfl rfl rfl rfl rfl (Nat.le_of_ble_eq_true rfl) rfl) rfl rfl ?_
            refine RE.nil ⟨⟨[(1, .lst false (a1.map S_api_Entrant.enc)), (2, .int .i64 a2), (3, .ptr 0 0), (8, .map 1), (10, .ptr 2 0), (26, .lst false (a1.map S_api_Entrant.enc)), (27, .int .i64 ((a1.map S_api_Entrant.enc).length : Int)), (28, .int .i64 x9)], [.cells [.lst false (a0.f_Winners.map S_api_Winner.enc), .lst false (a0.f_Exited.map (AV.int .i64)), .lst false (a0.f_Assignment.map S_api_Choice.enc), .int .i64 a0.f_Cost], mb .i64 (AV.int .i64) t7, .cells [.int .i64 y15.f_Station, .int .i64 y15.f_Home, .int .i64 y15.f_Volume]]⟩, weak_sel ⟨rfl, rfl, rfl, rfl, rfl, rfl, rfl, rfl, trivial⟩ rfl, ?_⟩
            refine then_normal ?_
            refine T_seq ?_
            refine T_seq ?_
            refine T_reg ?_
            refine RE.op (op_faddr Tryd.underlying26 rfl ti23 rfl rfl rfl) rfl rfl rfl ?_
            refine RE.op (op_load ti23 rfl rfl rfl rfl rfl) rfl rfl rfl ?_
            refine RE.op (op_faddr Tryd.underlying52 rfl ti3 rfl rfl rfl) rfl rfl rfl ?_
            refine RE.op (op_load ti3 rfl rfl rfl rfl rfl) rfl rfl rfl ?_
            obtain ⟨t17, ht18, H⟩ := Option.bind_eq_some_iff.1 H
            refine RE.op (op_call (f := 31) rfl rfl rfl rfl en31 slices_Contains_int_int.ok ⟨_, _, _, _, rfl, ht18, rfl⟩) rfl rfl rfl ?_
            refine RE.nil ⟨⟨[(1, .lst false (a1.map S_api_Entrant.enc)), (2, .int .i64 a2), (3, .ptr 0 0), (8, .map 1), (10, .ptr 2 0), (26, .lst false (a1.map S_api_Entrant.enc)), (27, .int .i64 ((a1.map S_api_Entrant.enc).length : Int)), (28, .int .i64 x9), (36, .bool t17)], [.cells [.lst false (a0.f_Winners.map S_api_Winner.enc), .lst false (a0.f_Exited.map (AV.int .i64)), .lst false (a0.f_Assignment.map S_api_Choice.enc), .int .i64 a0.f_Cost], mb .i64 (AV.int .i64) t7, .cells [.int .i64 y15.f_Station, .int .i64 y15.f_Home, .int .i64 y15.f_Volume]]⟩, weak_sel ⟨rfl, rfl, rfl, rfl, rfl, rfl, rfl, rfl, rfl, trivial⟩ rfl, ?_⟩
            refine then_normal ?_
            by_cases h4 : t17 = true
            · rw [if_pos h4] at H
              refine T_yes rfl h4 ?_
              refine T_seq ?_
              refine T_seq ?_
              refine T_reg ?_
              refine RE.op (op_move rfl rfl) rfl rfl rfl ?_
              refine RE.op (op_faddr Tryd.underlying52 rfl ti3 rfl rfl rfl) rfl rfl rfl ?_
              refine RE.op (op_load ti3 rfl rfl rfl rfl rfl) rfl rfl rfl ?_
              refine RE.op (op_lookup (kk := .i64) (e := (AV.int .i64)) (l := t7) (z0 := 0) Tryd.underlying58 Tryd.underlying3 ti3 rfl rfl rfl rfl rfl) rfl rfl rfl ?_
              refine RE.op (op_faddr Tryd.underlying52 rfl ti3 rfl rfl rfl) rfl rfl rfl ?_
              refine RE.op (op_load ti3 rfl rfl rfl rfl rfl) rfl rfl rfl ?_
              refine RE.op (op_bin rfl rfl rfl rfl) rfl rfl rfl ?_
              refine RE.nil ⟨⟨[(1, .lst false (a1.map S_api_Entrant.enc)), (2, .int .i64 a2), (3, .ptr 0 0), (8, .map 1), (26, .lst false (a1.map S_api_Entrant.enc)), (27, .int .i64 ((a1.map S_api_Entrant.enc).length : Int)), (28, .int .i64 x9), (43, .bool (((mget t7 y15.f_Station).getD 0) != y15.f_Home))], [.cells [.lst false (a0.f_Winners.map S_api_Winner.enc), .lst false (a0.f_Exited.map (AV.int .i64)), .lst false (a0.f_Assignment.map S_api_Choice.enc), .int .i64 a0.f_Cost], mb .i64 (AV.int .i64) t7, .cells [.int .i64 y15.f_Station, .int .i64 y15.f_Home, .int .i64 y15.f_Volume]]⟩, weak_sel ⟨rfl, rfl, rfl, rfl, rfl, rfl, rfl, rfl, trivial⟩ rfl, ?_⟩
              refine then_normal ?_
              by_cases h5 : ¬ ((mget t7 y15.f_Station).getD 0) = y15.f_Home
              · rw [if_pos h5] at H
                refine T_yes rfl (bne_iff_ne.mpr h5) ?_
                refine T_seq ?_
                refine T_reg ?_
                refine RE.op (op_assign rfl rfl) rfl rfl rfl ?_
                refine RE.op (op_assign rfl rfl) rfl rfl rfl ?_
                refine RE.nil ⟨⟨[(6, .bool false), (7, .int .i64 0)], [.cells [.lst false (a0.f_Winners.map S_api_Winner.enc), .lst false (a0.f_Exited.map (AV.int .i64)), .lst false (a0.f_Assignment.map S_api_Choice.enc), .int .i64 a0.f_Cost], mb .i64 (AV.int .i64) t7, .cells [.int .i64 y15.f_Station, .int .i64 y15.f_Home, .int .i64 y15.f_Volume]]⟩, weak_sel ⟨rfl, rfl, trivial⟩ rfl, ?_⟩
                refine then_normal ?_
                refine T_ret ?_
                simp only [Option.some.injEq] at H
                subst H
                refine then_ret ?_
                refine then_ret ?_
                refine block_ret ?_
                refine then_ret ?_
                refine then_ret ?_
                exact ⟨rfl, weak_sel (env' := [(6, .bool false), (7, .int .i64 0)]) ⟨rfl, rfl, trivial⟩ rfl⟩
              · rw [if_neg h5] at H
                refine T_no rfl (bne_eq_false_iff_eq.mpr (Decidable.of_not_not h5)) ?_
                refine T_skip ?_
                refine then_normal ?_
                refine T_exit ?_
                refine then_exit ?_
                refine block_eq ?_
                refine then_normal ?_
                refine T_reg ?_
                refine RE.op (op_bin rfl rfl rfl rfl) rfl rfl rfl ?_
                refine RE.op (op_move rfl rfl) rfl rfl rfl ?_
                refine RE.nil ⟨⟨[(1, .lst false (a1.map S_api_Entrant.enc)), (2, .int .i64 a2), (3, .ptr 0 0), (8, .map 1), (26, .lst false (a1.map S_api_Entrant.enc)), (27, .int .i64 ((a1.map S_api_Entrant.enc).length : Int)), (28, .int .i64 (IntKind.i64.wrap (x9 + 1)))], [.cells [.lst false (a0.f_Winners.map S_api_Winner.enc), .lst false (a0.f_Exited.map (AV.int .i64)), .lst false (a0.f_Assignment.map S_api_Choice.enc), .int .i64 a0.f_Cost], mb .i64 (AV.int .i64) t7, .cells [.int .i64 y15.f_Station, .int .i64 y15.f_Home, .int .i64 y15.f_Volume]]⟩, weak_sel ⟨rfl, rfl, rfl, rfl, rfl, rfl, rfl, trivial⟩ rfl, ?_⟩
                refine then_normal ?_
                exact LoopAt.weak (weak_cut (env' := [(1, .lst false (a1.map S_api_Entrant.enc)), (2, .int .i64 a2), (3, .ptr 0 0), (8, .map 1), (26, .lst false (a1.map S_api_Entrant.enc)), (27, .int .i64 ((a1.map S_api_Entrant.enc).length : Int)), (28, .int .i64 (IntKind.i64.wrap (x9 + 1)))]) (bs' := [.cells [.lst false (a0.f_Winners.map S_api_Winner.enc), .lst false (a0.f_Exited.map (AV.int .i64)), .lst false (a0.f_Assignment.map S_api_Choice.enc), .int .i64 a0.f_Cost], mb .i64 (AV.int .i64) t7]) 2 ⟨rfl, rfl, rfl, rfl, rfl, rfl, rfl, trivial⟩ rfl rfl rfl (by first | rfl | (rw [belowB_mb (fun _ => rfl)]; rfl) | (simp only [belowB, belows, below]; rw [belowB_mb (fun _ => rfl)]; rfl))) (IH _ _ H)
            · rw [if_neg h4] at H
              refine T_no rfl (Bool.eq_false_iff.mpr h4) ?_
              refine T_skip ?_
              refine then_normal ?_
              refine T_seq ?_
              refine T_reg ?_
              refine RE.op (op_faddr Tryd.underlying26 rfl ti22 rfl rfl rfl) rfl rfl rfl ?_
              refine RE.op (op_load ti22 rfl rfl rfl rfl rfl) rfl rfl rfl ?_
              refine RE.op (op_faddr Tryd.underlying52 rfl ti3 rfl rfl rfl) rfl rfl rfl ?_
              refine RE.op (op_load ti3 rfl rfl rfl rfl rfl) rfl rfl rfl ?_
              obtain ⟨t19, ht20, H⟩ := Option.bind_eq_some_iff.1 H
              refine RE.op (op_call (f := 24) rfl rfl rfl rfl en24 outcome_find.ok ⟨_, _, _, _, rfl, ht20, rfl⟩) rfl rfl rfl ?_
              refine RE.op (op_assign rfl rfl) rfl rfl rfl ?_
              refine RE.nil ⟨⟨[(1, .lst false (a1.map S_api_Entrant.enc)), (2, .int .i64 a2), (3, .ptr 0 0), (8, .map 1), (10, .ptr 2 0), (11, .int .i64 t19), (26, .lst false (a1.map S_api_Entrant.enc)), (27, .int .i64 ((a1.map S_api_Entrant.enc).length : Int)), (28, .int .i64 x9)], [.cells [.lst false (a0.f_Winners.map S_api_Winner.enc), .lst false (a0.f_Exited.map (AV.int .i64)), .lst false (a0.f_Assignment.map S_api_Choice.enc), .int .i64 a0.f_Cost], mb .i64 (AV.int .i64) t7, .cells [.int .i64 y15.f_Station, .int .i64 y15.f_Home, .int .i64 y15.f_Volume]]⟩, weak_sel ⟨rfl, rfl, rfl, rfl, rfl, rfl, rfl, rfl, rfl, trivial⟩ rfl, ?_⟩
              refine then_normal ?_
              refine T_seq ?_
              refine T_seq ?_
              obtain ⟨x21, hj24, H⟩ := Option.bind_eq_some_iff.1 H
              refine T_drawn_out mix [0, 1, 3, 7, 15, 7, 63, 127, 255, 7, 519, 2047, 4095] (by kernel_rfl) ⟨[(1, .lst false (a1.map S_api_Entrant.enc)), (2, .int .i64 a2), (3, .ptr 0 0), (8, .map 1), (10, .ptr 2 0), (11, .int .i64 t19), (26, .lst false (a1.map S_api_Entrant.enc)), (27, .int .i64 ((a1.map S_api_Entrant.enc).length : Int)), (28, .int .i64 x9), (61, .bool x21)], [.cells [.lst false (a0.f_Winners.map S_api_Winner.enc), .lst false (a0.f_Exited.map (AV.int .i64)), .lst false (a0.f_Assignment.map S_api_Choice.enc), .int .i64 a0.f_Cost], mb .i64 (AV.int .i64) t7, .cells [.int .i64 y15.f_Station, .int .i64 y15.f_Home, .int .i64 y15.f_Volume]]⟩ ?_ ?_
              · clear H
                have H := hj24
                clear hj24
                refine RD.q [(11, .int .i64 t19)] (by repeat (first | exact trivial | refine ⟨rfl, ?_⟩)) (fun _ => (op_move rfl rfl)) rfl rfl rfl ?_
                refine RD.q [(49, .int .i64 t19)] (by repeat (first | exact trivial | refine ⟨rfl, ?_⟩)) (fun _ => (op_bin rfl rfl rfl rfl)) rfl rfl rfl ?_
                refine RD.q [(50, .bool (decide (t19 < 0)))] (by repeat (first | exact trivial | refine ⟨rfl, ?_⟩)) (fun _ => (op_move rfl rfl)) rfl rfl rfl ?_
                by_cases h6 : t19 < 0
                · rw [if_pos h6] at H
                  refine RD.skip rfl rfl (getb (decide_eq_true h6) rfl) rfl rfl rfl ?_
                  refine RD.skip rfl rfl (getb (decide_eq_true h6) rfl) rfl rfl rfl ?_
                  refine RD.skip rfl rfl (getb (decide_eq_true h6) rfl) rfl rfl rfl ?_
                  refine RD.skip rfl rfl (getb (decide_eq_true h6) rfl) rfl rfl rfl ?_
                  refine RD.skip rfl rfl (getb (decide_eq_true h6) rfl) rfl rfl rfl ?_
                  refine RD.skip rfl rfl (getb (decide_eq_true h6) rfl) rfl rfl rfl ?_
                  refine RD.skip rfl rfl (getb (decide_eq_true h6) rfl) rfl rfl rfl ?_
                  refine RD.skip rfl rfl (getb (decide_eq_true h6) rfl) rfl rfl rfl ?_
                  refine RD.skip rfl rfl (getb (decide_eq_true h6) rfl) rfl rfl rfl ?_
                  refine RD.q [(51, .bool (decide (t19 < 0))), (60, .tup [])] (by repeat (first | exact trivial | refine ⟨rfl, ?_⟩)) (fun _ => (op_pick_true rfl (evb (decide_eq_true h6) rfl) rfl)) rfl rfl rfl ?_
                  simp only [Option.some.injEq] at H
                  subst H
                  exact RD.nil (by kernel_rfl) (weak_sel (env' := [(1, .lst false (a1.map S_api_Entrant.enc)), (2, .int .i64 a2), (3, .ptr 0 0), (8, .map 1), (10, .ptr 2 0), (11, .int .i64 t19), (26, .lst false (a1.map S_api_Entrant.enc)), (27, .int .i64 ((a1.map S_api_Entrant.enc).length : Int)), (28, .int .i64 x9), (61, .bool true)]) ⟨rfl, rfl, rfl, rfl, rfl, rfl, rfl, rfl, rfl, rfl, trivial⟩ rfl)
                · rw [if_neg h6] at H
                  refine RD.qg [(3, .ptr 0 0)] (by repeat (first | exact trivial | refine ⟨rfl, ?_⟩)) (fun _ => (op_faddr Tryd.underlying26 rfl ti22 rfl rfl rfl)) rfl rfl (getb (decide_eq_false h6) rfl) rfl rfl ?_
                  refine RD.lg (i := 0) [(52, .ptr 0 0)] (by repeat (first | exact trivial | refine ⟨rfl, ?_⟩)) rfl (fun _ hb => (op_load ti22 rfl rfl rfl hb rfl)) rfl rfl (getb (decide_eq_false h6) rfl) rfl rfl ?_
                  refine RD.qg [(11, .int .i64 t19)] (by repeat (first | exact trivial | refine ⟨rfl, ?_⟩)) (fun _ => (op_move rfl rfl)) rfl rfl (getb (decide_eq_false h6) rfl) rfl rfl ?_
                  obtain ⟨y22, hy23, H⟩ := Option.bind_eq_some_iff.1 H
                  refine RD.qg [(53, .lst false (a0.f_Winners.map S_api_Winner.enc)), (54, .int .i64 t19)] (by repeat (first | exact trivial | refine ⟨rfl, ?_⟩)) (fun _ => (op_iaddr Tryd.underlying22 ti48 rfl rfl rfl (idx_pos hy23) (idx_map hy23 S_api_Winner.enc) rfl (Nat.le_of_ble_eq_true rfl))) rfl rfl (getb (decide_eq_false h6) rfl) rfl rfl ?_
                  refine RD.qg [(55, .eptr (a0.f_Winners.map S_api_Winner.enc) t19.toNat 0)] (by repeat (first | exact trivial | refine ⟨rfl, ?_⟩)) (fun _ => (op_faddr_e Tryd.underlying48 rfl ti3 rfl rfl rfl (idx_map hy23 S_api_Winner.enc) (Nat.le_of_ble_eq_true rfl))) rfl rfl (getb (decide_eq_false h6) rfl) rfl rfl ?_
                  refine RD.qg [(56, .eptr (a0.f_Winners.map S_api_Winner.enc) t19.toNat 1)] (by repeat (first | exact trivial | refine ⟨rfl, ?_⟩)) (fun _ => (op_load_e ti3 rfl rfl rfl (idx_map hy23 S_api_Winner.enc) rfl)) rfl rfl (getb (decide_eq_false h6) rfl) rfl rfl ?_
                  refine RD.qg [(10, .ptr 2 0)] (by repeat (first | exact trivial | refine ⟨rfl, ?_⟩)) (fun _ => (op_faddr Tryd.underlying52 rfl ti3 rfl rfl rfl)) rfl rfl (getb (decide_eq_false h6) rfl) rfl rfl ?_
                  refine RD.lg (i := 2) [(58, .ptr 2 1)] (by repeat (first | exact trivial | refine ⟨rfl, ?_⟩)) rfl (fun _ hb => (op_load ti3 rfl rfl rfl hb rfl)) rfl rfl (getb (decide_eq_false h6) rfl) rfl rfl ?_
                  refine RD.qg [(57, .int .i64 y22.f_Option), (59, .int .i64 y15.f_Home)] (by repeat (first | exact trivial | refine ⟨rfl, ?_⟩)) (fun _ => (op_bin rfl rfl rfl rfl)) rfl rfl (getb (decide_eq_false h6) rfl) rfl rfl ?_
                  refine RD.q [(51, .bool (decide (t19 < 0))), (60, .bool (decide (y22.f_Option ≥ y15.f_Home)))] (by repeat (first | exact trivial | refine ⟨rfl, ?_⟩)) (fun _ => (op_pick_false rfl (evb (decide_eq_false h6) rfl) rfl)) rfl rfl rfl ?_
                  simp only [Option.some.injEq] at H
                  subst H
                  exact RD.nil (by kernel_rfl) (weak_sel (env' := [(1, .lst false (a1.map S_api_Entrant.enc)), (2, .int .i64 a2), (3, .ptr 0 0), (8, .map 1), (10, .ptr 2 0), (11, .int .i64 t19), (26, .lst false (a1.map S_api_Entrant.enc)), (27, .int .i64 ((a1.map S_api_Entrant.enc).length : Int)), (28, .int .i64 x9), (61, .bool (decide (y22.f_Option ≥ y15.f_Home)))]) ⟨rfl, rfl, rfl, rfl, rfl, rfl, rfl, rfl, rfl, rfl, trivial⟩ rfl)
              · clear hj24
                refine then_normal ?_
                by_cases h7 : x21 = true
                · rw [if_pos h7] at H
                  refine T_yes rfl h7 ?_
                  refine T_seq ?_
                  refine T_reg ?_
                  refine RE.op (op_assign rfl rfl) rfl rfl rfl ?_
                  refine RE.op (op_assign rfl rfl) rfl rfl rfl ?_
                  refine RE.nil ⟨⟨[(6, .bool false), (7, .int .i64 0)], [.cells [.lst false (a0.f_Winners.map S_api_Winner.enc), .lst false (a0.f_Exited.map (AV.int .i64)), .lst false (a0.f_Assignment.map S_api_Choice.enc), .int .i64 a0.f_Cost], mb .i64 (AV.int .i64) t7, .cells [.int .i64 y15.f_Station, .int .i64 y15.f_Home, .int .i64 y15.f_Volume]]⟩, weak_sel ⟨rfl, rfl, trivial⟩ rfl, ?_⟩
                  refine then_normal ?_
                  refine T_ret ?_
                  simp only [Option.some.injEq] at H
                  subst H
                  refine then_ret ?_
                  refine block_ret ?_
                  refine then_ret ?_
                  refine then_ret ?_
                  exact ⟨rfl, weak_sel (env' := [(6, .bool false), (7, .int .i64 0)]) ⟨rfl, rfl, trivial⟩ rfl⟩
                · rw [if_neg h7] at H
                  refine T_no rfl (Bool.eq_false_iff.mpr h7) ?_
                  refine T_skip ?_
                  refine then_normal ?_
                  refine T_seq ?_
                  refine T_drawn mix [0, 1, 0, 0, 8, 0, 32, 0, 224, 480, 992, 2047, 4095, 8191, 8191, 16383, 65535] (by kernel_rfl) ?_
                  refine RD.q [(10, .ptr 2 0)] (by repeat (first | exact trivial | refine ⟨rfl, ?_⟩)) (fun _ => (op_faddr Tryd.underlying52 rfl ti3 rfl rfl rfl)) rfl rfl rfl ?_
                  refine RD.l (i := 2) [(63, .ptr 2 2)] (by repeat (first | exact trivial | refine ⟨rfl, ?_⟩)) rfl (fun _ hb => (op_load ti3 rfl rfl rfl hb rfl)) rfl rfl rfl ?_
                  refine RD.q [(2, .int .i64 a2)] (by repeat (first | exact trivial | refine ⟨rfl, ?_⟩)) (fun _ => (op_move rfl rfl)) rfl rfl rfl ?_
                  refine RD.q [(10, .ptr 2 0)] (by repeat (first | exact trivial | refine ⟨rfl, ?_⟩)) (fun _ => (op_faddr Tryd.underlying52 rfl ti3 rfl rfl rfl)) rfl rfl rfl ?_
                  refine RD.l (i := 2) [(66, .ptr 2 1)] (by repeat (first | exact trivial | refine ⟨rfl, ?_⟩)) rfl (fun _ hb => (op_load ti3 rfl rfl rfl hb rfl)) rfl rfl rfl ?_
                  refine RD.q [(3, .ptr 0 0)] (by repeat (first | exact trivial | refine ⟨rfl, ?_⟩)) (fun _ => (op_faddr Tryd.underlying26 rfl ti22 rfl rfl rfl)) rfl rfl rfl ?_
                  refine RD.l (i := 0) [(68, .ptr 0 0)] (by repeat (first | exact trivial | refine ⟨rfl, ?_⟩)) rfl (fun _ hb => (op_load ti22 rfl rfl rfl hb rfl)) rfl rfl rfl ?_
                  refine RD.q [(11, .int .i64 t19)] (by repeat (first | exact trivial | refine ⟨rfl, ?_⟩)) (fun _ => (op_move rfl rfl)) rfl rfl rfl ?_
                  obtain ⟨y25, hy26, H⟩ := Option.bind_eq_some_iff.1 H
                  refine RD.q [(69, .lst false (a0.f_Winners.map S_api_Winner.enc)), (70, .int .i64 t19)] (by repeat (first | exact trivial | refine ⟨rfl, ?_⟩)) (fun _ => (op_iaddr Tryd.underlying22 ti48 rfl rfl rfl (idx_pos hy26) (idx_map hy26 S_api_Winner.enc) rfl (Nat.le_of_ble_eq_true rfl))) rfl rfl rfl ?_
                  refine RD.q [(71, .eptr (a0.f_Winners.map S_api_Winner.enc) t19.toNat 0)] (by repeat (first | exact trivial | refine ⟨rfl, ?_⟩)) (fun _ => (op_faddr_e Tryd.underlying48 rfl ti3 rfl rfl rfl (idx_map hy26 S_api_Winner.enc) (Nat.le_of_ble_eq_true rfl))) rfl rfl rfl ?_
                  refine RD.q [(72, .eptr (a0.f_Winners.map S_api_Winner.enc) t19.toNat 1)] (by repeat (first | exact trivial | refine ⟨rfl, ?_⟩)) (fun _ => (op_load_e ti3 rfl rfl rfl (idx_map hy26 S_api_Winner.enc) rfl)) rfl rfl rfl ?_
                  obtain ⟨t27, ht28, H⟩ := Option.bind_eq_some_iff.1 H
                  refine RD.q [(64, .int .i64 y15.f_Volume), (65, .int .i64 a2), (67, .int .i64 y15.f_Home), (73, .int .i64 y25.f_Option)] (by repeat (first | exact trivial | refine ⟨rfl, ?_⟩)) (fun _ => (op_call (f := 27) rfl rfl rfl rfl en27 score_Offer.ok ⟨_, _, _, _, _, rfl, ht28, rfl⟩)) rfl rfl rfl ?_
                  refine RD.q [(74, .tup [.int .i64 t27.1, .int .i64 t27.2])] (by repeat (first | exact trivial | refine ⟨rfl, ?_⟩)) (fun _ => (op_move rfl rfl)) rfl rfl rfl ?_
                  refine RD.q [(62, .tup [.int .i64 t27.1, .int .i64 t27.2])] (by repeat (first | exact trivial | refine ⟨rfl, ?_⟩)) (fun _ => (op_extract rfl rfl rfl)) rfl rfl rfl ?_
                  refine RD.q [(62, .tup [.int .i64 t27.1, .int .i64 t27.2])] (by repeat (first | exact trivial | refine ⟨rfl, ?_⟩)) (fun _ => (op_extract rfl rfl rfl)) rfl rfl rfl ?_
                  refine RD.q [(75, .int .i64 t27.1)] (by repeat (first | exact trivial | refine ⟨rfl, ?_⟩)) (fun _ => (op_assign rfl rfl)) rfl rfl rfl ?_
                  refine RD.q [(76, .int .i64 t27.2)] (by repeat (first | exact trivial | refine ⟨rfl, ?_⟩)) (fun _ => (op_assign rfl rfl)) rfl rfl rfl ?_
                  refine RD.nil (by kernel_rfl) ⟨⟨[(1, .lst false (a1.map S_api_Entrant.enc)), (2, .int .i64 a2), (3, .ptr 0 0), (8, .map 1), (11, .int .i64 t19), (12, .int .i64 t27.1), (26, .lst false (a1.map S_api_Entrant.enc)), (27, .int .i64 ((a1.map S_api_Entrant.enc).length : Int)), (28, .int .i64 x9)], [.cells [.lst false (a0.f_Winners.map S_api_Winner.enc), .lst false (a0.f_Exited.map (AV.int .i64)), .lst false (a0.f_Assignment.map S_api_Choice.enc), .int .i64 a0.f_Cost], mb .i64 (AV.int .i64) t7, .cells [.int .i64 y15.f_Station, .int .i64 y15.f_Home, .int .i64 y15.f_Volume]]⟩, weak_sel ⟨rfl, rfl, rfl, rfl, rfl, rfl, rfl, rfl, rfl, trivial⟩ rfl, ?_⟩
                  refine then_normal ?_
                  refine T_seq ?_
                  refine T_reg ?_
                  refine RE.op (op_faddr Tryd.underlying26 rfl ti22 rfl rfl rfl) rfl rfl rfl ?_
                  refine RE.op (op_load ti22 rfl rfl rfl rfl rfl) rfl rfl rfl ?_
                  refine RE.op (op_move rfl rfl) rfl rfl rfl ?_
                  obtain ⟨y29, hy30, H⟩ := Option.bind_eq_some_iff.1 H
                  refine RE.op (op_iaddr Tryd.underlying22 ti48 rfl rfl rfl (idx_pos hy30) (idx_map hy30 S_api_Winner.enc) rfl (Nat.le_of_ble_eq_true rfl)) rfl rfl rfl ?_
                  refine RE.op (op_faddr_e Tryd.underlying48 rfl ti3 rfl rfl rfl (idx_map hy30 S_api_Winner.enc) (Nat.le_of_ble_eq_true rfl)) rfl rfl rfl ?_
                  refine RE.op (op_load_e ti3 rfl rfl rfl (idx_map hy30 S_api_Winner.enc) rfl) rfl rfl rfl ?_
                  refine RE.op (op_move rfl rfl) rfl rfl rfl ?_
                  refine RE.op (op_bin rfl rfl rfl rfl) rfl rfl rfl ?_
                  refine RE.nil ⟨⟨[(1, .lst false (a1.map S_api_Entrant.enc)), (2, .int .i64 a2), (3, .ptr 0 0), (8, .map 1), (26, .lst false (a1.map S_api_Entrant.enc)), (27, .int .i64 ((a1.map S_api_Entrant.enc).length : Int)), (28, .int .i64 x9), (84, .bool (decide (y29.f_Payment > t27.1)))], [.cells [.lst false (a0.f_Winners.map S_api_Winner.enc), .lst false (a0.f_Exited.map (AV.int .i64)), .lst false (a0.f_Assignment.map S_api_Choice.enc), .int .i64 a0.f_Cost], mb .i64 (AV.int .i64) t7, .cells [.int .i64 y15.f_Station, .int .i64 y15.f_Home, .int .i64 y15.f_Volume]]⟩, weak_sel ⟨rfl, rfl, rfl, rfl, rfl, rfl, rfl, rfl, trivial⟩ rfl, ?_⟩
                  refine then_normal ?_
                  by_cases h8 : y29.f_Payment > t27.1
                  · rw [if_pos h8] at H
                    refine T_yes rfl (decide_eq_true h8) ?_
                    refine T_seq ?_
                    refine T_reg ?_
                    refine RE.op (op_assign rfl rfl) rfl rfl rfl ?_
                    refine RE.op (op_assign rfl rfl) rfl rfl rfl ?_
                    refine RE.nil ⟨⟨[(6, .bool false), (7, .int .i64 0)], [.cells [.lst false (a0.f_Winners.map S_api_Winner.enc), .lst false (a0.f_Exited.map (AV.int .i64)), .lst false (a0.f_Assignment.map S_api_Choice.enc), .int .i64 a0.f_Cost], mb .i64 (AV.int .i64) t7, .cells [.int .i64 y15.f_Station, .int .i64 y15.f_Home, .int .i64 y15.f_Volume]]⟩, weak_sel ⟨rfl, rfl, trivial⟩ rfl, ?_⟩
                    refine then_normal ?_
                    refine T_ret ?_
                    simp only [Option.some.injEq] at H
                    subst H
                    refine block_ret ?_
                    refine then_ret ?_
                    refine then_ret ?_
                    exact ⟨rfl, weak_sel (env' := [(6, .bool false), (7, .int .i64 0)]) ⟨rfl, rfl, trivial⟩ rfl⟩
                  · rw [if_neg h8] at H
                    refine T_no rfl (decide_eq_false h8) ?_
                    refine T_skip ?_
                    refine block_normal ?_
                    refine then_normal ?_
                    refine T_reg ?_
                    refine RE.op (op_bin rfl rfl rfl rfl) rfl rfl rfl ?_
                    refine RE.op (op_move rfl rfl) rfl rfl rfl ?_
                    refine RE.nil ⟨⟨[(1, .lst false (a1.map S_api_Entrant.enc)), (2, .int .i64 a2), (3, .ptr 0 0), (8, .map 1), (26, .lst false (a1.map S_api_Entrant.enc)), (27, .int .i64 ((a1.map S_api_Entrant.enc).length : Int)), (28, .int .i64 (IntKind.i64.wrap (x9 + 1)))], [.cells [.lst false (a0.f_Winners.map S_api_Winner.enc), .lst false (a0.f_Exited.map (AV.int .i64)), .lst false (a0.f_Assignment.map S_api_Choice.enc), .int .i64 a0.f_Cost], mb .i64 (AV.int .i64) t7, .cells [.int .i64 y15.f_Station, .int .i64 y15.f_Home, .int .i64 y15.f_Volume]]⟩, weak_sel ⟨rfl, rfl, rfl, rfl, rfl, rfl, rfl, trivial⟩ rfl, ?_⟩
                    refine then_normal ?_
                    exact LoopAt.weak (weak_cut (env' := [(1, .lst false (a1.map S_api_Entrant.enc)), (2, .int .i64 a2), (3, .ptr 0 0), (8, .map 1), (26, .lst false (a1.map S_api_Entrant.enc)), (27, .int .i64 ((a1.map S_api_Entrant.enc).length : Int)), (28, .int .i64 (IntKind.i64.wrap (x9 + 1)))]) (bs' := [.cells [.lst false (a0.f_Winners.map S_api_Winner.enc), .lst false (a0.f_Exited.map (AV.int .i64)), .lst false (a0.f_Assignment.map S_api_Choice.enc), .int .i64 a0.f_Cost], mb .i64 (AV.int .i64) t7]) 2 ⟨rfl, rfl, rfl, rfl, rfl, rfl, rfl, trivial⟩ rfl rfl rfl (by first | rfl | (rw [belowB_mb (fun _ => rfl)]; rfl) | (simp only [belowB, belows, below]; rw [belowB_mb (fun _ => rfl)]; rfl))) (IH _ _ H)
          · rw [if_neg h3] at H
            refine T_no rfl (decide_eq_false h3) ?_
            refine T_exit ?_
            simp only [Option.some.injEq] at H
            subst H
            refine then_exit ?_
            refine then_exit ?_
            exact ⟨rfl, weak_sel (env' := [(1, .lst false (a1.map S_api_Entrant.enc)), (3, .ptr 0 0)]) ⟨rfl, rfl, trivial⟩ rfl⟩
        · clear hj14
          rcases o13 with ⟨x10, x11, x12⟩ | _
          · simp only [Option.some.injEq] at H
            subst H
            refine block_ret ?_
            refine then_ret ?_
            exact ret2 rfl rfl rfl rfl
          · refine block_eq ?_
            refine then_normal ?_
            refine T_seq ?_
            refine T_reg ?_
            refine RE.op (op_move rfl rfl) rfl rfl rfl ?_
            refine RE.op (op_len Tryd.underlying37 rfl rfl) rfl rfl rfl ?_
            refine RE.op (op_faddr Tryd.underlying26 rfl ti22 rfl rfl rfl) rfl rfl rfl ?_
            refine RE.op (op_load ti22 rfl rfl rfl rfl rfl) rfl rfl rfl ?_
            refine RE.op (op_len Tryd.underlying22 rfl rfl) rfl rfl rfl ?_
            refine RE.op (op_faddr Tryd.underlying26 rfl ti23 rfl rfl rfl) rfl rfl rfl ?_
            refine RE.op (op_load ti23 rfl rfl rfl rfl rfl) rfl rfl rfl ?_
            refine RE.op (op_len Tryd.underlying23 rfl rfl) rfl rfl rfl ?_
            refine RE.op (op_bin rfl rfl rfl rfl) rfl rfl rfl ?_
            refine RE.op (op_bin rfl rfl rfl rfl) rfl rfl rfl ?_
            refine RE.op (op_assign rfl rfl) rfl rfl rfl ?_
            refine RE.op (op_assign rfl rfl) rfl rfl rfl ?_
            refine RE.nil ⟨⟨[(6, .bool (((a1.map S_api_Entrant.enc).length : Int) == (IntKind.i64.wrap (((a0.f_Winners.map S_api_Winner.enc).length : Int) + ((a0.f_Exited.map (AV.int .i64)).length : Int))))), (7, .int .i64 0)], [.cells [.lst false (a0.f_Winners.map S_api_Winner.enc), .lst false (a0.f_Exited.map (AV.int .i64)), .lst false (a0.f_Assignment.map S_api_Choice.enc), .int .i64 a0.f_Cost], mb .i64 (AV.int .i64) t7]⟩, weak_sel ⟨rfl, rfl, trivial⟩ rfl, ?_⟩
            refine then_normal ?_
            refine T_ret ?_
            simp only [Option.some.injEq] at H
            subst H
            exact ret2 rfl rfl rfl rfl

/-! ### 39 slices.Equal[[]bandplan/api.Winner,bandplan/api.Winner] -/
def slices_Equal_api_Winner_api_Winner.l0 (a0 : (List S_api_Winner)) (a1 : (List S_api_Winner)) : Nat → Int → Option (Sum (Unit) (Unit))
  | 0, _ => none
  | k + 1, x1 => (if x1 < ((a0.map S_api_Winner.enc).length : Int) then (idx a0 x1).bind fun y4 => (idx a1 x1).bind fun y6 => (if ¬ ((y4.f_Station == y6.f_Station && (y4.f_Option == y6.f_Option && (y4.f_Payment == y6.f_Payment && true))) = true) then some (.inl ()) else slices_Equal_api_Winner_api_Winner.l0 a0 a1 k (IntKind.i64.wrap (x1 + 1))) else some (.inr ()))
def slices_Equal_api_Winner_api_Winner.f (k : Nat) (a0 : (List S_api_Winner)) (a1 : (List S_api_Winner)) : Option (Bool) := (if ¬ ((a0.map S_api_Winner.enc).length : Int) = ((a1.map S_api_Winner.enc).length : Int) then some false else ((slices_Equal_api_Winner_api_Winner.l0 a0 a1 k 0).bind fun o => match o with | (.inl _) => some false | (.inr _) => some true))
def slices_Equal_api_Winner_api_Winner.S (args : List AV) (v : AV) : Prop := ∃ (k : Nat) (a0 : (List S_api_Winner)) (a1 : (List S_api_Winner)) (r : Bool), args = [.lst false (a0.map S_api_Winner.enc), .lst false (a1.map S_api_Winner.enc)] ∧ slices_Equal_api_Winner_api_Winner.f k a0 a1 = some r ∧ v = .bool r
theorem slices_Equal_api_Winner_api_Winner.ok : VOk Tryd.prog 39 slices_Equal_api_Winner_api_Winner.S := by
  refine V_ok Tryd.func39 rfl fun args v hS => ⟨?_, ?_⟩
  · obtain ⟨k, a0, a1, r, rfl, H, rfl⟩ := hS
    exact Nat.le_of_ble_eq_true rfl
  · obtain ⟨k, a0, a1, r, rfl, H, rfl⟩ := hS
    unfold slices_Equal_api_Winner_api_Winner.f at H
    refine T_seq ?_
    refine T_reg ?_
    refine RE.op (op_assign rfl rfl) rfl rfl rfl ?_
    refine RE.nil ⟨⟨[(0, .lst false (a0.map S_api_Winner.enc)), (1, .lst false (a1.map S_api_Winner.enc))], []⟩, weak_sel ⟨rfl, rfl, trivial⟩ rfl, ?_⟩
    refine then_normal ?_
    refine T_seq ?_
    refine T_seq ?_
    refine T_reg ?_
    refine RE.op (op_move rfl rfl) rfl rfl rfl ?_
    refine RE.op (op_len Tryd.underlying22 rfl rfl) rfl rfl rfl ?_
    refine RE.op (op_move rfl rfl) rfl rfl rfl ?_
    refine RE.op (op_len Tryd.underlying22 rfl rfl) rfl rfl rfl ?_
    refine RE.op (op_bin rfl rfl rfl rfl) rfl rfl rfl ?_
    refine RE.nil ⟨⟨[(0, .lst false (a0.map S_api_Winner.enc)), (1, .lst false (a1.map S_api_Winner.enc)), (10, .bool (((a0.map S_api_Winner.enc).length : Int) != ((a1.map S_api_Winner.enc).length : Int)))], []⟩, weak_sel ⟨rfl, rfl, rfl, trivial⟩ rfl, ?_⟩
    refine then_normal ?_
    by_cases h1 : ¬ ((a0.map S_api_Winner.enc).length : Int) = ((a1.map S_api_Winner.enc).length : Int)
    · rw [if_pos h1] at H
      refine T_yes rfl (bne_iff_ne.mpr h1) ?_
      refine T_seq ?_
      refine T_reg ?_
      refine RE.op (op_assign rfl rfl) rfl rfl rfl ?_
      refine RE.nil ⟨⟨[(4, .bool false)], []⟩, weak_sel ⟨rfl, trivial⟩ rfl, ?_⟩
      refine then_normal ?_
      refine T_ret ?_
      simp only [Option.some.injEq] at H
      subst H
      refine then_ret ?_
      exact ret1 rfl rfl rfl
    · rw [if_neg h1] at H
      refine T_no rfl (bne_eq_false_iff_eq.mpr (Decidable.of_not_not h1)) ?_
      refine T_skip ?_
      refine then_normal ?_
      refine T_seq ?_
      refine T_seq ?_
      refine T_reg ?_
      refine RE.op (op_move rfl rfl) rfl rfl rfl ?_
      refine RE.op (op_len Tryd.underlying22 rfl rfl) rfl rfl rfl ?_
      refine RE.op (op_move rfl rfl) rfl rfl rfl ?_
      refine RE.nil ⟨⟨[(0, .lst false (a0.map S_api_Winner.enc)), (1, .lst false (a1.map S_api_Winner.enc)), (12, .int .i64 ((a0.map S_api_Winner.enc).length : Int)), (13, .int .i64 0)], []⟩, weak_sel ⟨rfl, rfl, rfl, rfl, trivial⟩ rfl, ?_⟩
      refine then_normal ?_
      refine T_block ?_
      obtain ⟨o2, hj3, H⟩ := Option.bind_eq_some_iff.1 H
      refine T_loop_out ((fun (x_ : Int) => ⟨[(0, .lst false (a0.map S_api_Winner.enc)), (1, .lst false (a1.map S_api_Winner.enc)), (12, .int .i64 ((a0.map S_api_Winner.enc).length : Int)), (13, .int .i64 x_)], []⟩) 0) ((fun o => match o with | (.inl _) => .ret | (.inr _) => .exit 0) o2) ((fun o => match o with | (.inl ()) => ⟨[(4, .bool false)], []⟩ | (.inr ()) => ⟨[], []⟩) o2) (weak_sel (env' := [(0, .lst false (a0.map S_api_Winner.enc)), (1, .lst false (a1.map S_api_Winner.enc)), (12, .int .i64 ((a0.map S_api_Winner.enc).length : Int)), (13, .int .i64 0)]) ⟨rfl, rfl, rfl, rfl, trivial⟩ rfl) ?_ ?_
      · refine T_fix (slices_Equal_api_Winner_api_Winner.l0 a0 a1) (fun (x_ : Int) => ⟨[(0, .lst false (a0.map S_api_Winner.enc)), (1, .lst false (a1.map S_api_Winner.enc)), (12, .int .i64 ((a0.map S_api_Winner.enc).length : Int)), (13, .int .i64 x_)], []⟩) (fun o => match o with | (.inl _) => .ret | (.inr _) => .exit 0) (fun o => match o with | (.inl ()) => ⟨[(4, .bool false)], []⟩ | (.inr ()) => ⟨[], []⟩) (fun _ => rfl) ?_ _ 0 _ hj3
        clear H hj3
        intro k IH x1 o H
        unfold slices_Equal_api_Winner_api_Winner.l0 at H
        (try simp only at H)
        refine T_seq ?_
        refine T_reg ?_
        refine RE.op (op_bin rfl rfl rfl rfl) rfl rfl rfl ?_
        refine RE.nil ⟨⟨[(0, .lst false (a0.map S_api_Winner.enc)), (1, .lst false (a1.map S_api_Winner.enc)), (12, .int .i64 ((a0.map S_api_Winner.enc).length : Int)), (13, .int .i64 x1), (14, .bool (decide (x1 < ((a0.map S_api_Winner.enc).length : Int))))], []⟩, weak_sel ⟨rfl, rfl, rfl, rfl, rfl, trivial⟩ rfl, ?_⟩
        refine then_normal ?_
        refine T_seq ?_
        by_cases h2 : x1 < ((a0.map S_api_Winner.enc).length : Int)
        · rw [if_pos h2] at H
          refine T_yes rfl (decide_eq_true h2) ?_
          refine T_skip ?_
          refine then_normal ?_
          refine T_seq ?_
          refine T_block ?_
          refine T_seq ?_
          refine T_reg ?_
          refine RE.op (op_move rfl rfl) rfl rfl rfl ?_
          refine RE.op (op_assign rfl rfl) rfl rfl rfl ?_
          refine RE.nil ⟨⟨[(0, .lst false (a0.map S_api_Winner.enc)), (1, .lst false (a1.map S_api_Winner.enc)), (5, .int .i64 x1), (12, .int .i64 ((a0.map S_api_Winner.enc).length : Int)), (13, .int .i64 x1)], []⟩, weak_sel ⟨rfl, rfl, rfl, rfl, rfl, trivial⟩ rfl, ?_⟩
          refine then_normal ?_
          refine T_seq ?_
          refine T_drawn mix [0, 0, 3, 7, 0, 0, 48, 112, 255] (by kernel_rfl) ?_
          refine RD.q [(0, .lst false (a0.map S_api_Winner.enc))] (by repeat (first | exact trivial | refine ⟨rfl, ?_⟩)) (fun _ => (op_move rfl rfl)) rfl rfl rfl ?_
          refine RD.q [(5, .int .i64 x1)] (by repeat (first | exact trivial | refine ⟨rfl, ?_⟩)) (fun _ => (op_move rfl rfl)) rfl rfl rfl ?_
          obtain ⟨y4, hy5, H⟩ := Option.bind_eq_some_iff.1 H
          refine RD.q [(16, .lst false (a0.map S_api_Winner.enc)), (17, .int .i64 x1)] (by repeat (first | exact trivial | refine ⟨rfl, ?_⟩)) (fun _ => (op_iaddr Tryd.underlying22 ti48 rfl rfl rfl (idx_pos hy5) (idx_map hy5 S_api_Winner.enc) rfl (Nat.le_of_ble_eq_true rfl))) rfl rfl rfl ?_
          refine RD.q [(18, .eptr (a0.map S_api_Winner.enc) x1.toNat 0)] (by repeat (first | exact trivial | refine ⟨rfl, ?_⟩)) (fun _ => (op_load_agg_e (ds := [.int .i64 y4.f_Station, .int .i64 y4.f_Option, .int .i64 y4.f_Payment]) ti48 rfl rfl rfl (idx_map hy5 S_api_Winner.enc) (Nat.le_of_ble_eq_true rfl) rfl)) rfl rfl rfl ?_
          refine RD.q [(1, .lst false (a1.map S_api_Winner.enc))] (by repeat (first | exact trivial | refine ⟨rfl, ?_⟩)) (fun _ => (op_move rfl rfl)) rfl rfl rfl ?_
          refine RD.q [(5, .int .i64 x1)] (by repeat (first | exact trivial | refine ⟨rfl, ?_⟩)) (fun _ => (op_move rfl rfl)) rfl rfl rfl ?_
          obtain ⟨y6, hy7, H⟩ := Option.bind_eq_some_iff.1 H
          refine RD.q [(20, .lst false (a1.map S_api_Winner.enc)), (21, .int .i64 x1)] (by repeat (first | exact trivial | refine ⟨rfl, ?_⟩)) (fun _ => (op_iaddr Tryd.underlying22 ti48 rfl rfl rfl (idx_pos hy7) (idx_map hy7 S_api_Winner.enc) rfl (Nat.le_of_ble_eq_true rfl))) rfl rfl rfl ?_
          refine RD.q [(22, .eptr (a1.map S_api_Winner.enc) x1.toNat 0)] (by repeat (first | exact trivial | refine ⟨rfl, ?_⟩)) (fun _ => (op_load_agg_e (ds := [.int .i64 y6.f_Station, .int .i64 y6.f_Option, .int .i64 y6.f_Payment]) ti48 rfl rfl rfl (idx_map hy7 S_api_Winner.enc) (Nat.le_of_ble_eq_true rfl) rfl)) rfl rfl rfl ?_
          refine RD.q [(19, .agg [.int .i64 y4.f_Station, .int .i64 y4.f_Option, .int .i64 y4.f_Payment]), (23, .agg [.int .i64 y6.f_Station, .int .i64 y6.f_Option, .int .i64 y6.f_Payment])] (by repeat (first | exact trivial | refine ⟨rfl, ?_⟩)) (fun _ => (op_nes Tryd.underlying48 (by kernel_rfl) (by kernel_rfl) (.int _ _ _ _ _ _ _ _ rfl rfl Tryd.underlying3 _ _ _ ti3 (.int _ _ _ _ _ _ _ _ rfl rfl Tryd.underlying3 _ _ _ ti3 (.int _ _ _ _ _ _ _ _ rfl rfl Tryd.underlying3 _ _ _ ti3 (.nil _)))) rfl rfl rfl)) rfl rfl rfl ?_
          refine RD.nil (by kernel_rfl) ⟨⟨[(0, .lst false (a0.map S_api_Winner.enc)), (1, .lst false (a1.map S_api_Winner.enc)), (12, .int .i64 ((a0.map S_api_Winner.enc).length : Int)), (13, .int .i64 x1), (24, .bool (!(y4.f_Station == y6.f_Station && (y4.f_Option == y6.f_Option && (y4.f_Payment == y6.f_Payment && true)))))], []⟩, weak_sel ⟨rfl, rfl, rfl, rfl, rfl, trivial⟩ rfl, ?_⟩
          refine then_normal ?_
          by_cases h3 : ¬ ((y4.f_Station == y6.f_Station && (y4.f_Option == y6.f_Option && (y4.f_Payment == y6.f_Payment && true))) = true)
          · rw [if_pos h3] at H
            refine T_yes rfl (not_t (Bool.eq_false_iff.mpr h3)) ?_
            refine T_seq ?_
            refine T_reg ?_
            refine RE.op (op_assign rfl rfl) rfl rfl rfl ?_
            refine RE.nil ⟨⟨[(4, .bool false)], []⟩, weak_sel ⟨rfl, trivial⟩ rfl, ?_⟩
            refine then_normal ?_
            refine T_ret ?_
            simp only [Option.some.injEq] at H
            subst H
            refine block_ret ?_
            refine then_ret ?_
            refine then_ret ?_
            exact ⟨rfl, weak_sel (env' := [(4, .bool false)]) ⟨rfl, trivial⟩ rfl⟩
          · rw [if_neg h3] at H
            refine T_no rfl (not_f (Decidable.of_not_not h3)) ?_
            refine T_skip ?_
            refine block_normal ?_
            refine then_normal ?_
            refine T_reg ?_
            refine RE.op (op_bin rfl rfl rfl rfl) rfl rfl rfl ?_
            refine RE.op (op_move rfl rfl) rfl rfl rfl ?_
            refine RE.nil ⟨⟨[(0, .lst false (a0.map S_api_Winner.enc)), (1, .lst false (a1.map S_api_Winner.enc)), (12, .int .i64 ((a0.map S_api_Winner.enc).length : Int)), (13, .int .i64 (IntKind.i64.wrap (x1 + 1)))], []⟩, weak_sel ⟨rfl, rfl, rfl, rfl, trivial⟩ rfl, ?_⟩
            refine then_normal ?_
            exact LoopAt.weak (weak_sel (env' := [(0, .lst false (a0.map S_api_Winner.enc)), (1, .lst false (a1.map S_api_Winner.enc)), (12, .int .i64 ((a0.map S_api_Winner.enc).length : Int)), (13, .int .i64 (IntKind.i64.wrap (x1 + 1)))]) ⟨rfl, rfl, rfl, rfl, trivial⟩ rfl) (IH _ _ H)
        · rw [if_neg h2] at H
          refine T_no rfl (decide_eq_false h2) ?_
          refine T_exit ?_
          simp only [Option.some.injEq] at H
          subst H
          refine then_exit ?_
          refine then_exit ?_
          exact ⟨rfl, weak_sel (env' := []) trivial rfl⟩
      · clear hj3
        rcases o2 with _ | _
        · simp only [Option.some.injEq] at H
          subst H
          refine block_ret ?_
          refine then_ret ?_
          exact ret1 rfl rfl rfl
        · refine block_eq ?_
          refine then_normal ?_
          refine T_seq ?_
          refine T_reg ?_
          refine RE.op (op_assign rfl rfl) rfl rfl rfl ?_
          refine RE.nil ⟨⟨[(4, .bool true)], []⟩, weak_sel ⟨rfl, trivial⟩ rfl, ?_⟩
          refine then_normal ?_
          refine T_ret ?_
          simp only [Option.some.injEq] at H
          subst H
          exact ret1 rfl rfl rfl

/-! ### 40 slices.Equal[[]int,int] -/
def slices_Equal_int_int.l0 (a0 : (List Int)) (a1 : (List Int)) : Nat → Int → Option (Sum (Unit) (Unit))
  | 0, _ => none
  | k + 1, x1 => (if x1 < ((a0.map (AV.int .i64)).length : Int) then (idx a0 x1).bind fun y4 => (idx a1 x1).bind fun y6 => (if ¬ y4 = y6 then some (.inl ()) else slices_Equal_int_int.l0 a0 a1 k (IntKind.i64.wrap (x1 + 1))) else some (.inr ()))
def slices_Equal_int_int.f (k : Nat) (a0 : (List Int)) (a1 : (List Int)) : Option (Bool) := (if ¬ ((a0.map (AV.int .i64)).length : Int) = ((a1.map (AV.int .i64)).length : Int) then some false else ((slices_Equal_int_int.l0 a0 a1 k 0).bind fun o => match o with | (.inl _) => some false | (.inr _) => some true))
def slices_Equal_int_int.S (args : List AV) (v : AV) : Prop := ∃ (k : Nat) (a0 : (List Int)) (a1 : (List Int)) (r : Bool), args = [.lst false (a0.map (AV.int .i64)), .lst false (a1.map (AV.int .i64))] ∧ slices_Equal_int_int.f k a0 a1 = some r ∧ v = .bool r
theorem slices_Equal_int_int.ok : VOk Tryd.prog 40 slices_Equal_int_int.S := by
  refine V_ok Tryd.func40 rfl fun args v hS => ⟨?_, ?_⟩
  · obtain ⟨k, a0, a1, r, rfl, H, rfl⟩ := hS
    exact Nat.le_of_ble_eq_true rfl
  · obtain ⟨k, a0, a1, r, rfl, H, rfl⟩ := hS
    unfold slices_Equal_int_int.f at H
    refine T_seq ?_
    refine T_reg ?_
    refine RE.op (op_assign rfl rfl) rfl rfl rfl ?_
    refine RE.nil ⟨⟨[(0, .lst false (a0.map (AV.int .i64))), (1, .lst false (a1.map (AV.int .i64)))], []⟩, weak_sel ⟨rfl, rfl, trivial⟩ rfl, ?_⟩
    refine then_normal ?_
    refine T_seq ?_
    refine T_seq ?_
    refine T_reg ?_
    refine RE.op (op_move rfl rfl) rfl rfl rfl ?_
    refine RE.op (op_len Tryd.underlying23 rfl rfl) rfl rfl rfl ?_
    refine RE.op (op_move rfl rfl) rfl rfl rfl ?_
    refine RE.op (op_len Tryd.underlying23 rfl rfl) rfl rfl rfl ?_
    refine RE.op (op_bin rfl rfl rfl rfl) rfl rfl rfl ?_
    refine RE.nil ⟨⟨[(0, .lst false (a0.map (AV.int .i64))), (1, .lst false (a1.map (AV.int .i64))), (10, .bool (((a0.map (AV.int .i64)).length : Int) != ((a1.map (AV.int .i64)).length : Int)))], []⟩, weak_sel ⟨rfl, rfl, rfl, trivial⟩ rfl, ?_⟩
    refine then_normal ?_
    by_cases h1 : ¬ ((a0.map (AV.int .i64)).length : Int) = ((a1.map (AV.int .i64)).length : Int)
    · rw [if_pos h1] at H
      refine T_yes rfl (bne_iff_ne.mpr h1) ?_
      refine T_seq ?_
      refine T_reg ?_
      refine RE.op (op_assign rfl rfl) rfl rfl rfl ?_
      refine RE.nil ⟨⟨[(4, .bool false)], []⟩, weak_sel ⟨rfl, trivial⟩ rfl, ?_⟩
      refine then_normal ?_
      refine T_ret ?_
      simp only [Option.some.injEq] at H
      subst H
      refine then_ret ?_
      exact ret1 rfl rfl rfl
    · rw [if_neg h1] at H
      refine T_no rfl (bne_eq_false_iff_eq.mpr (Decidable.of_not_not h1)) ?_
      refine T_skip ?_
      refine then_normal ?_
      refine T_seq ?_
      refine T_seq ?_
      refine T_reg ?_
      refine RE.op (op_move rfl rfl) rfl rfl rfl ?_
      refine RE.op (op_len Tryd.underlying23 rfl rfl) rfl rfl rfl ?_
      refine RE.op (op_move rfl rfl) rfl rfl rfl ?_
      refine RE.nil ⟨⟨[(0, .lst false (a0.map (AV.int .i64))), (1, .lst false (a1.map (AV.int .i64))), (12, .int .i64 ((a0.map (AV.int .i64)).length : Int)), (13, .int .i64 0)], []⟩, weak_sel ⟨rfl, rfl, rfl, rfl, trivial⟩ rfl, ?_⟩
      refine then_normal ?_
      refine T_block ?_
      obtain ⟨o2, hj3, H⟩ := Option.bind_eq_some_iff.1 H
      refine T_loop_out ((fun (x_ : Int) => ⟨[(0, .lst false (a0.map (AV.int .i64))), (1, .lst false (a1.map (AV.int .i64))), (12, .int .i64 ((a0.map (AV.int .i64)).length : Int)), (13, .int .i64 x_)], []⟩) 0) ((fun o => match o with | (.inl _) => .ret | (.inr _) => .exit 0) o2) ((fun o => match o with | (.inl ()) => ⟨[(4, .bool false)], []⟩ | (.inr ()) => ⟨[], []⟩) o2) (weak_sel (env' := [(0, .lst false (a0.map (AV.int .i64))), (1, .lst false (a1.map (AV.int .i64))), (12, .int .i64 ((a0.map (AV.int .i64)).length : Int)), (13, .int .i64 0)]) ⟨rfl, rfl, rfl, rfl, trivial⟩ rfl) ?_ ?_
      · refine T_fix (slices_Equal_int_int.l0 a0 a1) (fun (x_ : Int) => ⟨[(0, .lst false (a0.map (AV.int .i64))), (1, .lst false (a1.map (AV.int .i64))), (12, .int .i64 ((a0.map (AV.int .i64)).length : Int)), (13, .int .i64 x_)], []⟩) (fun o => match o with | (.inl _) => .ret | (.inr _) => .exit 0) (fun o => match o with | (.inl ()) => ⟨[(4, .bool false)], []⟩ | (.inr ()) => ⟨[], []⟩) (fun _ => rfl) ?_ _ 0 _ hj3
        clear H hj3
        intro k IH x1 o H
        unfold slices_Equal_int_int.l0 at H
        (try simp only at H)
        refine T_seq ?_
        refine T_reg ?_
        refine RE.op (op_bin rfl rfl rfl rfl) rfl rfl rfl ?_
        refine RE.nil ⟨⟨[(0, .lst false (a0.map (AV.int .i64))), (1, .lst false (a1.map (AV.int .i64))), (12, .int .i64 ((a0.map (AV.int .i64)).length : Int)), (13, .int .i64 x1), (14, .bool (decide (x1 < ((a0.map (AV.int .i64)).length : Int))))], []⟩, weak_sel ⟨rfl, rfl, rfl, rfl, rfl, trivial⟩ rfl, ?_⟩
        refine then_normal ?_
        refine T_seq ?_
        by_cases h2 : x1 < ((a0.map (AV.int .i64)).length : Int)
        · rw [if_pos h2] at H
          refine T_yes rfl (decide_eq_true h2) ?_
          refine T_skip ?_
          refine then_normal ?_
          refine T_seq ?_
          refine T_block ?_
          refine T_seq ?_
          refine T_reg ?_
          refine RE.op (op_move rfl rfl) rfl rfl rfl ?_
          refine RE.op (op_assign rfl rfl) rfl rfl rfl ?_
          refine RE.nil ⟨⟨[(0, .lst false (a0.map (AV.int .i64))), (1, .lst false (a1.map (AV.int .i64))), (5, .int .i64 x1), (12, .int .i64 ((a0.map (AV.int .i64)).length : Int)), (13, .int .i64 x1)], []⟩, weak_sel ⟨rfl, rfl, rfl, rfl, rfl, trivial⟩ rfl, ?_⟩
          refine then_normal ?_
          refine T_seq ?_
          refine T_drawn mix [0, 0, 3, 7, 0, 0, 48, 112, 255] (by kernel_rfl) ?_
          refine RD.q [(0, .lst false (a0.map (AV.int .i64)))] (by repeat (first | exact trivial | refine ⟨rfl, ?_⟩)) (fun _ => (op_move rfl rfl)) rfl rfl rfl ?_
          refine RD.q [(5, .int .i64 x1)] (by repeat (first | exact trivial | refine ⟨rfl, ?_⟩)) (fun _ => (op_move rfl rfl)) rfl rfl rfl ?_
          obtain ⟨y4, hy5, H⟩ := Option.bind_eq_some_iff.1 H
          refine RD.q [(16, .lst false (a0.map (AV.int .i64))), (17, .int .i64 x1)] (by repeat (first | exact trivial | refine ⟨rfl, ?_⟩)) (fun _ => (op_iaddr Tryd.underlying23 ti3 rfl rfl rfl (idx_pos hy5) (idx_map hy5 (AV.int .i64)) rfl (Nat.le_of_ble_eq_true rfl))) rfl rfl rfl ?_
          refine RD.q [(18, .eptr (a0.map (AV.int .i64)) x1.toNat 0)] (by repeat (first | exact trivial | refine ⟨rfl, ?_⟩)) (fun _ => (op_load_e ti3 rfl rfl rfl (idx_map hy5 (AV.int .i64)) rfl)) rfl rfl rfl ?_
          refine RD.q [(1, .lst false (a1.map (AV.int .i64)))] (by repeat (first | exact trivial | refine ⟨rfl, ?_⟩)) (fun _ => (op_move rfl rfl)) rfl rfl rfl ?_
          refine RD.q [(5, .int .i64 x1)] (by repeat (first | exact trivial | refine ⟨rfl, ?_⟩)) (fun _ => (op_move rfl rfl)) rfl rfl rfl ?_
          obtain ⟨y6, hy7, H⟩ := Option.bind_eq_some_iff.1 H
          refine RD.q [(20, .lst false (a1.map (AV.int .i64))), (21, .int .i64 x1)] (by repeat (first | exact trivial | refine ⟨rfl, ?_⟩)) (fun _ => (op_iaddr Tryd.underlying23 ti3 rfl rfl rfl (idx_pos hy7) (idx_map hy7 (AV.int .i64)) rfl (Nat.le_of_ble_eq_true rfl))) rfl rfl rfl ?_
          refine RD.q [(22, .eptr (a1.map (AV.int .i64)) x1.toNat 0)] (by repeat (first | exact trivial | refine ⟨rfl, ?_⟩)) (fun _ => (op_load_e ti3 rfl rfl rfl (idx_map hy7 (AV.int .i64)) rfl)) rfl rfl rfl ?_
          refine RD.q [(19, .int .i64 y4), (23, .int .i64 y6)] (by repeat (first | exact trivial | refine ⟨rfl, ?_⟩)) (fun _ => (op_bin rfl rfl rfl rfl)) rfl rfl rfl ?_
          refine RD.nil (by kernel_rfl) ⟨⟨[(0, .lst false (a0.map (AV.int .i64))), (1, .lst false (a1.map (AV.int .i64))), (12, .int .i64 ((a0.map (AV.int .i64)).length : Int)), (13, .int .i64 x1), (24, .bool (y4 != y6))], []⟩, weak_sel ⟨rfl, rfl, rfl, rfl, rfl, trivial⟩ rfl, ?_⟩
          refine then_normal ?_
          by_cases h3 : ¬ y4 = y6
          · rw [if_pos h3] at H
            refine T_yes rfl (bne_iff_ne.mpr h3) ?_
            refine T_seq ?_
            refine T_reg ?_
            refine RE.op (op_assign rfl rfl) rfl rfl rfl ?_
            refine RE.nil ⟨⟨[(4, .bool false)], []⟩, weak_sel ⟨rfl, trivial⟩ rfl, ?_⟩
            refine then_normal ?_
            refine T_ret ?_
            simp only [Option.some.injEq] at H
            subst H
            refine block_ret ?_
            refine then_ret ?_
            refine then_ret ?_
            exact ⟨rfl, weak_sel (env' := [(4, .bool false)]) ⟨rfl, trivial⟩ rfl⟩
          · rw [if_neg h3] at H
            refine T_no rfl (bne_eq_false_iff_eq.mpr (Decidable.of_not_not h3)) ?_
            refine T_skip ?_
            refine block_normal ?_
            refine then_normal ?_
            refine T_reg ?_
            refine RE.op (op_bin rfl rfl rfl rfl) rfl rfl rfl ?_
            refine RE.op (op_move rfl rfl) rfl rfl rfl ?_
            refine RE.nil ⟨⟨[(0, .lst false (a0.map (AV.int .i64))), (1, .lst false (a1.map (AV.int .i64))), (12, .int .i64 ((a0.map (AV.int .i64)).length : Int)), (13, .int .i64 (IntKind.i64.wrap (x1 + 1)))], []⟩, weak_sel ⟨rfl, rfl, rfl, rfl, trivial⟩ rfl, ?_⟩
            refine then_normal ?_
            exact LoopAt.weak (weak_sel (env' := [(0, .lst false (a0.map (AV.int .i64))), (1, .lst false (a1.map (AV.int .i64))), (12, .int .i64 ((a0.map (AV.int .i64)).length : Int)), (13, .int .i64 (IntKind.i64.wrap (x1 + 1)))]) ⟨rfl, rfl, rfl, rfl, trivial⟩ rfl) (IH _ _ H)
        · rw [if_neg h2] at H
          refine T_no rfl (decide_eq_false h2) ?_
          refine T_exit ?_
          simp only [Option.some.injEq] at H
          subst H
          refine then_exit ?_
          refine then_exit ?_
          exact ⟨rfl, weak_sel (env' := []) trivial rfl⟩
      · clear hj3
        rcases o2 with _ | _
        · simp only [Option.some.injEq] at H
          subst H
          refine block_ret ?_
          refine then_ret ?_
          exact ret1 rfl rfl rfl
        · refine block_eq ?_
          refine then_normal ?_
          refine T_seq ?_
          refine T_reg ?_
          refine RE.op (op_assign rfl rfl) rfl rfl rfl ?_
          refine RE.nil ⟨⟨[(4, .bool true)], []⟩, weak_sel ⟨rfl, trivial⟩ rfl, ?_⟩
          refine then_normal ?_
          refine T_ret ?_
          simp only [Option.some.injEq] at H
          subst H
          exact ret1 rfl rfl rfl

/-! ### 41 slices.Equal[[]bandplan/api.Choice,bandplan/api.Choice] -/
def slices_Equal_api_Choice_api_Choice.l0 (a0 : (List S_api_Choice)) (a1 : (List S_api_Choice)) : Nat → Int → Option (Sum (Unit) (Unit))
  | 0, _ => none
  | k + 1, x1 => (if x1 < ((a0.map S_api_Choice.enc).length : Int) then (idx a0 x1).bind fun y4 => (idx a1 x1).bind fun y6 => (if ¬ ((y4.f_Station == y6.f_Station && (y4.f_Channel == y6.f_Channel && true)) = true) then some (.inl ()) else slices_Equal_api_Choice_api_Choice.l0 a0 a1 k (IntKind.i64.wrap (x1 + 1))) else some (.inr ()))
def slices_Equal_api_Choice_api_Choice.f (k : Nat) (a0 : (List S_api_Choice)) (a1 : (List S_api_Choice)) : Option (Bool) := (if ¬ ((a0.map S_api_Choice.enc).length : Int) = ((a1.map S_api_Choice.enc).length : Int) then some false else ((slices_Equal_api_Choice_api_Choice.l0 a0 a1 k 0).bind fun o => match o with | (.inl _) => some false | (.inr _) => some true))
def slices_Equal_api_Choice_api_Choice.S (args : List AV) (v : AV) : Prop := ∃ (k : Nat) (a0 : (List S_api_Choice)) (a1 : (List S_api_Choice)) (r : Bool), args = [.lst false (a0.map S_api_Choice.enc), .lst false (a1.map S_api_Choice.enc)] ∧ slices_Equal_api_Choice_api_Choice.f k a0 a1 = some r ∧ v = .bool r
theorem slices_Equal_api_Choice_api_Choice.ok : VOk Tryd.prog 41 slices_Equal_api_Choice_api_Choice.S := by
  refine V_ok Tryd.func41 rfl fun args v hS => ⟨?_, ?_⟩
  · obtain ⟨k, a0, a1, r, rfl, H, rfl⟩ := hS
    exact Nat.le_of_ble_eq_true rfl
  · obtain ⟨k, a0, a1, r, rfl, H, rfl⟩ := hS
    unfold slices_Equal_api_Choice_api_Choice.f at H
    refine T_seq ?_
    refine T_reg ?_
    refine RE.op (op_assign rfl rfl) rfl rfl rfl ?_
    refine RE.nil ⟨⟨[(0, .lst false (a0.map S_api_Choice.enc)), (1, .lst false (a1.map S_api_Choice.enc))], []⟩, weak_sel ⟨rfl, rfl, trivial⟩ rfl, ?_⟩
    refine then_normal ?_
    refine T_seq ?_
    refine T_seq ?_
    refine T_reg ?_
    refine RE.op (op_move rfl rfl) rfl rfl rfl ?_
    refine RE.op (op_len Tryd.underlying24 rfl rfl) rfl rfl rfl ?_
    refine RE.op (op_move rfl rfl) rfl rfl rfl ?_
    refine RE.op (op_len Tryd.underlying24 rfl rfl) rfl rfl rfl ?_
    refine RE.op (op_bin rfl rfl rfl rfl) rfl rfl rfl ?_
    refine RE.nil ⟨⟨[(0, .lst false (a0.map S_api_Choice.enc)), (1, .lst false (a1.map S_api_Choice.enc)), (10, .bool (((a0.map S_api_Choice.enc).length : Int) != ((a1.map S_api_Choice.enc).length : Int)))], []⟩, weak_sel ⟨rfl, rfl, rfl, trivial⟩ rfl, ?_⟩
    refine then_normal ?_
    by_cases h1 : ¬ ((a0.map S_api_Choice.enc).length : Int) = ((a1.map S_api_Choice.enc).length : Int)
    · rw [if_pos h1] at H
      refine T_yes rfl (bne_iff_ne.mpr h1) ?_
      refine T_seq ?_
      refine T_reg ?_
      refine RE.op (op_assign rfl rfl) rfl rfl rfl ?_
      refine RE.nil ⟨⟨[(4, .bool false)], []⟩, weak_sel ⟨rfl, trivial⟩ rfl, ?_⟩
      refine then_normal ?_
      refine T_ret ?_
      simp only [Option.some.injEq] at H
      subst H
      refine then_ret ?_
      exact ret1 rfl rfl rfl
    · rw [if_neg h1] at H
      refine T_no rfl (bne_eq_false_iff_eq.mpr (Decidable.of_not_not h1)) ?_
      refine T_skip ?_
      refine then_normal ?_
      refine T_seq ?_
      refine T_seq ?_
      refine T_reg ?_
      refine RE.op (op_move rfl rfl) rfl rfl rfl ?_
      refine RE.op (op_len Tryd.underlying24 rfl rfl) rfl rfl rfl ?_
      refine RE.op (op_move rfl rfl) rfl rfl rfl ?_
      refine RE.nil ⟨⟨[(0, .lst false (a0.map S_api_Choice.enc)), (1, .lst false (a1.map S_api_Choice.enc)), (12, .int .i64 ((a0.map S_api_Choice.enc).length : Int)), (13, .int .i64 0)], []⟩, weak_sel ⟨rfl, rfl, rfl, rfl, trivial⟩ rfl, ?_⟩
      refine then_normal ?_
      refine T_block ?_
      obtain ⟨o2, hj3, H⟩ := Option.bind_eq_some_iff.1 H
      refine T_loop_out ((fun (x_ : Int) => ⟨[(0, .lst false (a0.map S_api_Choice.enc)), (1, .lst false (a1.map S_api_Choice.enc)), (12, .int .i64 ((a0.map S_api_Choice.enc).length : Int)), (13, .int .i64 x_)], []⟩) 0) ((fun o => match o with | (.inl _) => .ret | (.inr _) => .exit 0) o2) ((fun o => match o with | (.inl ()) => ⟨[(4, .bool false)], []⟩ | (.inr ()) => ⟨[], []⟩) o2) (weak_sel (env' := [(0, .lst false (a0.map S_api_Choice.enc)), (1, .lst false (a1.map S_api_Choice.enc)), (12, .int .i64 ((a0.map S_api_Choice.enc).length : Int)), (13, .int .i64 0)]) ⟨rfl, rfl, rfl, rfl, trivial⟩ rfl) ?_ ?_
      · refine T_fix (slices_Equal_api_Choice_api_Choice.l0 a0 a1) (fun (x_ : Int) => ⟨[(0, .lst false (a0.map S_api_Choice.enc)), (1, .lst false (a1.map S_api_Choice.enc)), (12, .int .i64 ((a0.map S_api_Choice.enc).length : Int)), (13, .int .i64 x_)], []⟩) (fun o => match o with | (.inl _) => .ret | (.inr _) => .exit 0) (fun o => match o with | (.inl ()) => ⟨[(4, .bool false)], []⟩ | (.inr ()) => ⟨[], []⟩) (fun _ => rfl) ?_ _ 0 _ hj3
        clear H hj3
        intro k IH x1 o H
        unfold slices_Equal_api_Choice_api_Choice.l0 at H
        (try simp only at H)
        refine T_seq ?_
        refine T_reg ?_
        refine RE.op (op_bin rfl rfl rfl rfl) rfl rfl rfl ?_
        refine RE.nil ⟨⟨[(0, .lst false (a0.map S_api_Choice.enc)), (1, .lst false (a1.map S_api_Choice.enc)), (12, .int .i64 ((a0.map S_api_Choice.enc).length : Int)), (13, .int .i64 x1), (14, .bool (decide (x1 < ((a0.map S_api_Choice.enc).length : Int))))], []⟩, weak_sel ⟨rfl, rfl, rfl, rfl, rfl, trivial⟩ rfl, ?_⟩
        refine then_normal ?_
        refine T_seq ?_
        by_cases h2 : x1 < ((a0.map S_api_Choice.enc).length : Int)
        · rw [if_pos h2] at H
          refine T_yes rfl (decide_eq_true h2) ?_
          refine T_skip ?_
          refine then_normal ?_
          refine T_seq ?_
          refine T_block ?_
          refine T_seq ?_
          refine T_reg ?_
          refine RE.op (op_move rfl rfl) rfl rfl rfl ?_
          refine RE.op (op_assign rfl rfl) rfl rfl rfl ?_
          refine RE.nil ⟨⟨[(0, .lst false (a0.map S_api_Choice.enc)), (1, .lst false (a1.map S_api_Choice.enc)), (5, .int .i64 x1), (12, .int .i64 ((a0.map S_api_Choice.enc).length : Int)), (13, .int .i64 x1)], []⟩, weak_sel ⟨rfl, rfl, rfl, rfl, rfl, trivial⟩ rfl, ?_⟩
          refine then_normal ?_
          refine T_seq ?_
          refine T_drawn mix [0, 0, 3, 7, 0, 0, 48, 112, 255] (by kernel_rfl) ?_
          refine RD.q [(0, .lst false (a0.map S_api_Choice.enc))] (by repeat (first | exact trivial | refine ⟨rfl, ?_⟩)) (fun _ => (op_move rfl rfl)) rfl rfl rfl ?_
          refine RD.q [(5, .int .i64 x1)] (by repeat (first | exact trivial | refine ⟨rfl, ?_⟩)) (fun _ => (op_move rfl rfl)) rfl rfl rfl ?_
          obtain ⟨y4, hy5, H⟩ := Option.bind_eq_some_iff.1 H
          refine RD.q [(16, .lst false (a0.map S_api_Choice.enc)), (17, .int .i64 x1)] (by repeat (first | exact trivial | refine ⟨rfl, ?_⟩)) (fun _ => (op_iaddr Tryd.underlying24 ti50 rfl rfl rfl (idx_pos hy5) (idx_map hy5 S_api_Choice.enc) rfl (Nat.le_of_ble_eq_true rfl))) rfl rfl rfl ?_
          refine RD.q [(18, .eptr (a0.map S_api_Choice.enc) x1.toNat 0)] (by repeat (first | exact trivial | refine ⟨rfl, ?_⟩)) (fun _ => (op_load_agg_e (ds := [.int .i64 y4.f_Station, .int .i64 y4.f_Channel]) ti50 rfl rfl rfl (idx_map hy5 S_api_Choice.enc) (Nat.le_of_ble_eq_true rfl) rfl)) rfl rfl rfl ?_
          refine RD.q [(1, .lst false (a1.map S_api_Choice.enc))] (by repeat (first | exact trivial | refine ⟨rfl, ?_⟩)) (fun _ => (op_move rfl rfl)) rfl rfl rfl ?_
          refine RD.q [(5, .int .i64 x1)] (by repeat (first | exact trivial | refine ⟨rfl, ?_⟩)) (fun _ => (op_move rfl rfl)) rfl rfl rfl ?_
          obtain ⟨y6, hy7, H⟩ := Option.bind_eq_some_iff.1 H
          refine RD.q [(20, .lst false (a1.map S_api_Choice.enc)), (21, .int .i64 x1)] (by repeat (first | exact trivial | refine ⟨rfl, ?_⟩)) (fun _ => (op_iaddr Tryd.underlying24 ti50 rfl rfl rfl (idx_pos hy7) (idx_map hy7 S_api_Choice.enc) rfl (Nat.le_of_ble_eq_true rfl))) rfl rfl rfl ?_
          refine RD.q [(22, .eptr (a1.map S_api_Choice.enc) x1.toNat 0)] (by repeat (first | exact trivial | refine ⟨rfl, ?_⟩)) (fun _ => (op_load_agg_e (ds := [.int .i64 y6.f_Station, .int .i64 y6.f_Channel]) ti50 rfl rfl rfl (idx_map hy7 S_api_Choice.enc) (Nat.le_of_ble_eq_true rfl) rfl)) rfl rfl rfl ?_
          refine RD.q [(19, .agg [.int .i64 y4.f_Station, .int .i64 y4.f_Channel]), (23, .agg [.int .i64 y6.f_Station, .int .i64 y6.f_Channel])] (by repeat (first | exact trivial | refine ⟨rfl, ?_⟩)) (fun _ => (op_nes Tryd.underlying50 (by kernel_rfl) (by kernel_rfl) (.int _ _ _ _ _ _ _ _ rfl rfl Tryd.underlying3 _ _ _ ti3 (.int _ _ _ _ _ _ _ _ rfl rfl Tryd.underlying3 _ _ _ ti3 (.nil _))) rfl rfl rfl)) rfl rfl rfl ?_
          refine RD.nil (by kernel_rfl) ⟨⟨[(0, .lst false (a0.map S_api_Choice.enc)), (1, .lst false (a1.map S_api_Choice.enc)), (12, .int .i64 ((a0.map S_api_Choice.enc).length : Int)), (13, .int .i64 x1), (24, .bool (!(y4.f_Station == y6.f_Station && (y4.f_Channel == y6.f_Channel && true))))], []⟩, weak_sel ⟨rfl, rfl, rfl, rfl, rfl, trivial⟩ rfl, ?_⟩
          refine then_normal ?_
          by_cases h3 : ¬ ((y4.f_Station == y6.f_Station && (y4.f_Channel == y6.f_Channel && true)) = true)
          · rw [if_pos h3] at H
            refine T_yes rfl (not_t (Bool.eq_false_iff.mpr h3)) ?_
            refine T_seq ?_
            refine T_reg ?_
            refine RE.op (op_assign rfl rfl) rfl rfl rfl ?_
            refine RE.nil ⟨⟨[(4, .bool false)], []⟩, weak_sel ⟨rfl, trivial⟩ rfl, ?_⟩
            refine then_normal ?_
            refine T_ret ?_
            simp only [Option.some.injEq] at H
            subst H
            refine block_ret ?_
            refine then_ret ?_
            refine then_ret ?_
            exact ⟨rfl, weak_sel (env' := [(4, .bool false)]) ⟨rfl, trivial⟩ rfl⟩
          · rw [if_neg h3] at H
            refine T_no rfl (not_f (Decidable.of_not_not h3)) ?_
            refine T_skip ?_
            refine block_normal ?_
            refine then_normal ?_
            refine T_reg ?_
            refine RE.op (op_bin rfl rfl rfl rfl) rfl rfl rfl ?_
            refine RE.op (op_move rfl rfl) rfl rfl rfl ?_
            refine RE.nil ⟨⟨[(0, .lst false (a0.map S_api_Choice.enc)), (1, .lst false (a1.map S_api_Choice.enc)), (12, .int .i64 ((a0.map S_api_Choice.enc).length : Int)), (13, .int .i64 (IntKind.i64.wrap (x1 + 1)))], []⟩, weak_sel ⟨rfl, rfl, rfl, rfl, trivial⟩ rfl, ?_⟩
            refine then_normal ?_
            exact LoopAt.weak (weak_sel (env' := [(0, .lst false (a0.map S_api_Choice.enc)), (1, .lst false (a1.map S_api_Choice.enc)), (12, .int .i64 ((a0.map S_api_Choice.enc).length : Int)), (13, .int .i64 (IntKind.i64.wrap (x1 + 1)))]) ⟨rfl, rfl, rfl, rfl, trivial⟩ rfl) (IH _ _ H)
        · rw [if_neg h2] at H
          refine T_no rfl (decide_eq_false h2) ?_
          refine T_exit ?_
          simp only [Option.some.injEq] at H
          subst H
          refine then_exit ?_
          refine then_exit ?_
          exact ⟨rfl, weak_sel (env' := []) trivial rfl⟩
      · clear hj3
        rcases o2 with _ | _
        · simp only [Option.some.injEq] at H
          subst H
          refine block_ret ?_
          refine then_ret ?_
          exact ret1 rfl rfl rfl
        · refine block_eq ?_
          refine then_normal ?_
          refine T_seq ?_
          refine T_reg ?_
          refine RE.op (op_assign rfl rfl) rfl rfl rfl ?_
          refine RE.nil ⟨⟨[(4, .bool true)], []⟩, weak_sel ⟨rfl, trivial⟩ rfl, ?_⟩
          refine then_normal ?_
          refine T_ret ?_
          simp only [Option.some.injEq] at H
          subst H
          exact ret1 rfl rfl rfl

/-! ### 19 bandplan/outcome.Equal -/
def outcome_Equal.f (k : Nat) (a0 : S_api_Outcome) (a1 : S_api_Outcome) : Option (Bool) := ((if a0.f_Cost = a1.f_Cost then (slices_Equal_api_Winner_api_Winner.f k a0.f_Winners a1.f_Winners).bind fun t2 => (if t2 = true then (slices_Equal_int_int.f k a0.f_Exited a1.f_Exited).bind fun t4 => (if t4 = true then (slices_Equal_api_Choice_api_Choice.f k a0.f_Assignment a1.f_Assignment).bind fun t6 => some t6 else some false) else some false) else some false)).bind fun x1 => some x1
def outcome_Equal.S (args : List AV) (v : AV) : Prop := ∃ (k : Nat) (a0 : S_api_Outcome) (a1 : S_api_Outcome) (r : Bool), args = [S_api_Outcome.enc a0, S_api_Outcome.enc a1] ∧ outcome_Equal.f k a0 a1 = some r ∧ v = .bool r
theorem outcome_Equal.ok : VOk Tryd.prog 19 outcome_Equal.S := by
  refine V_ok Tryd.func19 rfl fun args v hS => ⟨?_, ?_⟩
  · obtain ⟨k, a0, a1, r, rfl, H, rfl⟩ := hS
    exact Nat.le_of_ble_eq_true rfl
  · obtain ⟨k, a0, a1, r, rfl, H, rfl⟩ := hS
    unfold outcome_Equal.f at H
    refine T_seq ?_
    refine T_reg ?_
    refine RE.op (op_box (k := 0) rfl rfl rfl rfl) rfl rfl rfl ?_
    refine RE.op (op_box (k := 1) rfl rfl rfl rfl) rfl rfl rfl ?_
    refine RE.op (op_assign rfl rfl) rfl rfl rfl ?_
    refine RE.nil ⟨⟨[(2, .ptr 0 0), (3, .ptr 1 0)], [.cells [.lst false (a0.f_Winners.map S_api_Winner.enc), .lst false (a0.f_Exited.map (AV.int .i64)), .lst false (a0.f_Assignment.map S_api_Choice.enc), .int .i64 a0.f_Cost], .cells [.lst false (a1.f_Winners.map S_api_Winner.enc), .lst false (a1.f_Exited.map (AV.int .i64)), .lst false (a1.f_Assignment.map S_api_Choice.enc), .int .i64 a1.f_Cost]]⟩, weak_sel ⟨rfl, rfl, trivial⟩ rfl, ?_⟩
    refine then_normal ?_
    refine T_seq ?_
    obtain ⟨x1, hj8, H⟩ := Option.bind_eq_some_iff.1 H
    refine T_reg_out ⟨[(4, .bool x1)], [.cells [.lst false (a0.f_Winners.map S_api_Winner.enc), .lst false (a0.f_Exited.map (AV.int .i64)), .lst false (a0.f_Assignment.map S_api_Choice.enc), .int .i64 a0.f_Cost], .cells [.lst false (a1.f_Winners.map S_api_Winner.enc), .lst false (a1.f_Exited.map (AV.int .i64)), .lst false (a1.f_Assignment.map S_api_Choice.enc), .int .i64 a1.f_Cost]]⟩ ?_ ?_
    · clear H
      have H := hj8
      clear hj8
      refine RE.op (op_faddr Tryd.underlying26 rfl ti3 rfl rfl rfl) rfl rfl rfl ?_
      refine RE.op (op_load ti3 rfl rfl rfl rfl rfl) rfl rfl rfl ?_
      refine RE.op (op_faddr Tryd.underlying26 rfl ti3 rfl rfl rfl) rfl rfl rfl ?_
      refine RE.op (op_load ti3 rfl rfl rfl rfl rfl) rfl rfl rfl ?_
      refine RE.op (op_bin rfl rfl rfl rfl) rfl rfl rfl ?_
      refine RE.op (op_move rfl rfl) rfl rfl rfl ?_
      by_cases h1 : a0.f_Cost = a1.f_Cost
      · rw [if_pos h1] at H
        refine RE.opg (op_faddr Tryd.underlying26 rfl ti22 rfl rfl rfl) rfl rfl (getb (beq_iff_eq.mpr h1) rfl) rfl rfl ?_
        refine RE.opg (op_load ti22 rfl rfl rfl rfl rfl) rfl rfl (getb (beq_iff_eq.mpr h1) rfl) rfl rfl ?_
        refine RE.opg (op_faddr Tryd.underlying26 rfl ti22 rfl rfl rfl) rfl rfl (getb (beq_iff_eq.mpr h1) rfl) rfl rfl ?_
        refine RE.opg (op_load ti22 rfl rfl rfl rfl rfl) rfl rfl (getb (beq_iff_eq.mpr h1) rfl) rfl rfl ?_
        obtain ⟨t2, ht3, H⟩ := Option.bind_eq_some_iff.1 H
        refine RE.opg (op_call (f := 39) rfl rfl rfl rfl en39 slices_Equal_api_Winner_api_Winner.ok ⟨_, _, _, _, rfl, ht3, rfl⟩) rfl rfl (getb (beq_iff_eq.mpr h1) rfl) rfl rfl ?_
        refine RE.op (op_pick_true rfl (evb (beq_iff_eq.mpr h1) rfl) rfl) rfl rfl rfl ?_
        refine RE.op (op_move rfl rfl) rfl rfl rfl ?_
        by_cases h2 : t2 = true
        · rw [if_pos h2] at H
          refine RE.opg (op_faddr Tryd.underlying26 rfl ti23 rfl rfl rfl) rfl rfl (getb h2 rfl) rfl rfl ?_
          refine RE.opg (op_load ti23 rfl rfl rfl rfl rfl) rfl rfl (getb h2 rfl) rfl rfl ?_
          refine RE.opg (op_faddr Tryd.underlying26 rfl ti23 rfl rfl rfl) rfl rfl (getb h2 rfl) rfl rfl ?_
          refine RE.opg (op_load ti23 rfl rfl rfl rfl rfl) rfl rfl (getb h2 rfl) rfl rfl ?_
          obtain ⟨t4, ht5, H⟩ := Option.bind_eq_some_iff.1 H
          refine RE.opg (op_call (f := 40) rfl rfl rfl rfl en40 slices_Equal_int_int.ok ⟨_, _, _, _, rfl, ht5, rfl⟩) rfl rfl (getb h2 rfl) rfl rfl ?_
          refine RE.op (op_pick_true rfl (evb h2 rfl) rfl) rfl rfl rfl ?_
          refine RE.op (op_move rfl rfl) rfl rfl rfl ?_
          by_cases h3 : t4 = true
          · rw [if_pos h3] at H
            refine RE.opg (op_faddr Tryd.underlying26 rfl ti24 rfl rfl rfl) rfl rfl (getb h3 rfl) rfl rfl ?_
            refine RE.opg (op_load ti24 rfl rfl rfl rfl rfl) rfl rfl (getb h3 rfl) rfl rfl ?_
            refine RE.opg (op_faddr Tryd.underlying26 rfl ti24 rfl rfl rfl) rfl rfl (getb h3 rfl) rfl rfl ?_
            refine RE.opg (op_load ti24 rfl rfl rfl rfl rfl) rfl rfl (getb h3 rfl) rfl rfl ?_
            obtain ⟨t6, ht7, H⟩ := Option.bind_eq_some_iff.1 H
            refine RE.opg (op_call (f := 41) rfl rfl rfl rfl en41 slices_Equal_api_Choice_api_Choice.ok ⟨_, _, _, _, rfl, ht7, rfl⟩) rfl rfl (getb h3 rfl) rfl rfl ?_
            refine RE.op (op_pick_true rfl (evb h3 rfl) rfl) rfl rfl rfl ?_
            refine RE.op (op_assign rfl rfl) rfl rfl rfl ?_
            simp only [Option.some.injEq] at H
            subst H
            exact RE.nil (weak_sel (env' := [(4, .bool t6)]) ⟨rfl, trivial⟩ rfl)
          · rw [if_neg h3] at H
            refine RE.skip rfl rfl (getb (Bool.eq_false_iff.mpr h3) rfl) rfl rfl rfl ?_
            refine RE.skip rfl rfl (getb (Bool.eq_false_iff.mpr h3) rfl) rfl rfl rfl ?_
            refine RE.skip rfl rfl (getb (Bool.eq_false_iff.mpr h3) rfl) rfl rfl rfl ?_
            refine RE.skip rfl rfl (getb (Bool.eq_false_iff.mpr h3) rfl) rfl rfl rfl ?_
            refine RE.skip rfl rfl (getb (Bool.eq_false_iff.mpr h3) rfl) rfl rfl rfl ?_
            refine RE.op (op_pick_false rfl (evb (Bool.eq_false_iff.mpr h3) rfl) rfl) rfl rfl rfl ?_
            refine RE.op (op_assign rfl rfl) rfl rfl rfl ?_
            simp only [Option.some.injEq] at H
            subst H
            exact RE.nil (weak_sel (env' := [(4, .bool false)]) ⟨rfl, trivial⟩ rfl)
        · rw [if_neg h2] at H
          refine RE.skip rfl rfl (getb (Bool.eq_false_iff.mpr h2) rfl) rfl rfl rfl ?_
          refine RE.skip rfl rfl (getb (Bool.eq_false_iff.mpr h2) rfl) rfl rfl rfl ?_
          refine RE.skip rfl rfl (getb (Bool.eq_false_iff.mpr h2) rfl) rfl rfl rfl ?_
          refine RE.skip rfl rfl (getb (Bool.eq_false_iff.mpr h2) rfl) rfl rfl rfl ?_
          refine RE.skip rfl rfl (getb (Bool.eq_false_iff.mpr h2) rfl) rfl rfl rfl ?_
          refine RE.op (op_pick_false rfl (evb (Bool.eq_false_iff.mpr h2) rfl) rfl) rfl rfl rfl ?_
          refine RE.op (op_move rfl rfl) rfl rfl rfl ?_
          refine RE.skip rfl rfl rfl rfl rfl rfl ?_
          refine RE.skip rfl rfl rfl rfl rfl rfl ?_
          refine RE.skip rfl rfl rfl rfl rfl rfl ?_
          refine RE.skip rfl rfl rfl rfl rfl rfl ?_
          refine RE.skip rfl rfl rfl rfl rfl rfl ?_
          refine RE.op (op_pick_false rfl rfl rfl) rfl rfl rfl ?_
          refine RE.op (op_assign rfl rfl) rfl rfl rfl ?_
          simp only [Option.some.injEq] at H
          subst H
          exact RE.nil (weak_sel (env' := [(4, .bool false)]) ⟨rfl, trivial⟩ rfl)
      · rw [if_neg h1] at H
        refine RE.skip rfl rfl (getb (beq_eq_false_iff_ne.mpr h1) rfl) rfl rfl rfl ?_
        refine RE.skip rfl rfl (getb (beq_eq_false_iff_ne.mpr h1) rfl) rfl rfl rfl ?_
        refine RE.skip rfl rfl (getb (beq_eq_false_iff_ne.mpr h1) rfl) rfl rfl rfl ?_
        refine RE.skip rfl rfl (getb (beq_eq_false_iff_ne.mpr h1) rfl) rfl rfl rfl ?_
        refine RE.skip rfl rfl (getb (beq_eq_false_iff_ne.mpr h1) rfl) rfl rfl rfl ?_
        refine RE.op (op_pick_false rfl (evb (beq_eq_false_iff_ne.mpr h1) rfl) rfl) rfl rfl rfl ?_
        refine RE.op (op_move rfl rfl) rfl rfl rfl ?_
        refine RE.skip rfl rfl rfl rfl rfl rfl ?_
        refine RE.skip rfl rfl rfl rfl rfl rfl ?_
        refine RE.skip rfl rfl rfl rfl rfl rfl ?_
        refine RE.skip rfl rfl rfl rfl rfl rfl ?_
        refine RE.skip rfl rfl rfl rfl rfl rfl ?_
        refine RE.op (op_pick_false rfl rfl rfl) rfl rfl rfl ?_
        refine RE.op (op_move rfl rfl) rfl rfl rfl ?_
        refine RE.skip rfl rfl rfl rfl rfl rfl ?_
        refine RE.skip rfl rfl rfl rfl rfl rfl ?_
        refine RE.skip rfl rfl rfl rfl rfl rfl ?_
        refine RE.skip rfl rfl rfl rfl rfl rfl ?_
        refine RE.skip rfl rfl rfl rfl rfl rfl ?_
        refine RE.op (op_pick_false rfl rfl rfl) rfl rfl rfl ?_
        refine RE.op (op_assign rfl rfl) rfl rfl rfl ?_
        simp only [Option.some.injEq] at H
        subst H
        exact RE.nil (weak_sel (env' := [(4, .bool false)]) ⟨rfl, trivial⟩ rfl)
    · clear hj8
      refine then_normal ?_
      refine T_ret ?_
      simp only [Option.some.injEq] at H
      subst H
      exact ret1 rfl rfl rfl

/-! ### 64 bandplan/bandplanref28.Worth -/
def bandplanref28_Worth.f (a0 : Int) : Option (Int) := (if a0 = 1 then some 250 else (if a0 = 2 then some 600 else (if a0 = 3 then some 1000 else some 0)))
def bandplanref28_Worth.S (args : List AV) (v : AV) : Prop := ∃ (a0 : Int) (r : Int), args = [.int .i64 a0] ∧ bandplanref28_Worth.f a0 = some r ∧ v = .int .i64 r
theorem bandplanref28_Worth.ok : VOk Tryd.prog 64 bandplanref28_Worth.S := by
  refine V_ok Tryd.func64 rfl fun args v hS => ⟨?_, ?_⟩
  · obtain ⟨a0, r, rfl, H, rfl⟩ := hS
    exact Nat.le_of_ble_eq_true rfl
  · obtain ⟨a0, r, rfl, H, rfl⟩ := hS
    unfold bandplanref28_Worth.f at H
    refine T_seq ?_
    refine T_reg ?_
    refine RE.op (op_assign rfl rfl) rfl rfl rfl ?_
    refine RE.nil ⟨⟨[(0, .int .i64 a0)], []⟩, weak_sel ⟨rfl, trivial⟩ rfl, ?_⟩
    refine then_normal ?_
    refine T_seq ?_
    refine T_seq ?_
    refine T_reg ?_
    refine RE.op (op_move rfl rfl) rfl rfl rfl ?_
    refine RE.op (op_bin rfl rfl rfl rfl) rfl rfl rfl ?_
    refine RE.nil ⟨⟨[(0, .int .i64 a0), (4, .bool (a0 == 1))], []⟩, weak_sel ⟨rfl, rfl, trivial⟩ rfl, ?_⟩
    refine then_normal ?_
    by_cases h1 : a0 = 1
    · rw [if_pos h1] at H
      refine T_yes rfl (beq_iff_eq.mpr h1) ?_
      refine T_seq ?_
      refine T_reg ?_
      refine RE.op (op_assign rfl rfl) rfl rfl rfl ?_
      refine RE.nil ⟨⟨[(2, .int .i64 250)], []⟩, weak_sel ⟨rfl, trivial⟩ rfl, ?_⟩
      refine then_normal ?_
      refine T_ret ?_
      simp only [Option.some.injEq] at H
      subst H
      refine then_ret ?_
      exact ret1 rfl rfl rfl
    · rw [if_neg h1] at H
      refine T_no rfl (beq_eq_false_iff_ne.mpr h1) ?_
      refine T_skip ?_
      refine then_normal ?_
      refine T_seq ?_
      refine T_seq ?_
      refine T_reg ?_
      refine RE.op (op_move rfl rfl) rfl rfl rfl ?_
      refine RE.op (op_bin rfl rfl rfl rfl) rfl rfl rfl ?_
      refine RE.nil ⟨⟨[(0, .int .i64 a0), (6, .bool (a0 == 2))], []⟩, weak_sel ⟨rfl, rfl, trivial⟩ rfl, ?_⟩
      refine then_normal ?_
      by_cases h2 : a0 = 2
      · rw [if_pos h2] at H
        refine T_yes rfl (beq_iff_eq.mpr h2) ?_
        refine T_seq ?_
        refine T_reg ?_
        refine RE.op (op_assign rfl rfl) rfl rfl rfl ?_
        refine RE.nil ⟨⟨[(2, .int .i64 600)], []⟩, weak_sel ⟨rfl, trivial⟩ rfl, ?_⟩
        refine then_normal ?_
        refine T_ret ?_
        simp only [Option.some.injEq] at H
        subst H
        refine then_ret ?_
        exact ret1 rfl rfl rfl
      · rw [if_neg h2] at H
        refine T_no rfl (beq_eq_false_iff_ne.mpr h2) ?_
        refine T_skip ?_
        refine then_normal ?_
        refine T_seq ?_
        refine T_seq ?_
        refine T_reg ?_
        refine RE.op (op_move rfl rfl) rfl rfl rfl ?_
        refine RE.op (op_bin rfl rfl rfl rfl) rfl rfl rfl ?_
        refine RE.nil ⟨⟨[(8, .bool (a0 == 3))], []⟩, weak_sel ⟨rfl, trivial⟩ rfl, ?_⟩
        refine then_normal ?_
        by_cases h3 : a0 = 3
        · rw [if_pos h3] at H
          refine T_yes rfl (beq_iff_eq.mpr h3) ?_
          refine T_seq ?_
          refine T_reg ?_
          refine RE.op (op_assign rfl rfl) rfl rfl rfl ?_
          refine RE.nil ⟨⟨[(2, .int .i64 1000)], []⟩, weak_sel ⟨rfl, trivial⟩ rfl, ?_⟩
          refine then_normal ?_
          refine T_ret ?_
          simp only [Option.some.injEq] at H
          subst H
          refine then_ret ?_
          exact ret1 rfl rfl rfl
        · rw [if_neg h3] at H
          refine T_no rfl (beq_eq_false_iff_ne.mpr h3) ?_
          refine T_skip ?_
          refine then_normal ?_
          refine T_seq ?_
          refine T_reg ?_
          refine RE.op (op_assign rfl rfl) rfl rfl rfl ?_
          refine RE.nil ⟨⟨[(2, .int .i64 0)], []⟩, weak_sel ⟨rfl, trivial⟩ rfl, ?_⟩
          refine then_normal ?_
          refine T_ret ?_
          simp only [Option.some.injEq] at H
          subst H
          exact ret1 rfl rfl rfl

/-! ### 63 bandplan/bandplanref28.Home -/
def bandplanref28_Home.f (a0 : Int) : Option (Bool) := ((if a0 ≥ 1 then some (decide (a0 ≤ 3)) else some false)).bind fun x1 => some x1
def bandplanref28_Home.S (args : List AV) (v : AV) : Prop := ∃ (a0 : Int) (r : Bool), args = [.int .i64 a0] ∧ bandplanref28_Home.f a0 = some r ∧ v = .bool r
theorem bandplanref28_Home.ok : VOk Tryd.prog 63 bandplanref28_Home.S := by
  refine V_ok Tryd.func63 rfl fun args v hS => ⟨?_, ?_⟩
  · obtain ⟨a0, r, rfl, H, rfl⟩ := hS
    exact Nat.le_of_ble_eq_true rfl
  · obtain ⟨a0, r, rfl, H, rfl⟩ := hS
    unfold bandplanref28_Home.f at H
    refine T_seq ?_
    refine T_reg ?_
    refine RE.op (op_assign rfl rfl) rfl rfl rfl ?_
    refine RE.nil ⟨⟨[(0, .int .i64 a0)], []⟩, weak_sel ⟨rfl, trivial⟩ rfl, ?_⟩
    refine then_normal ?_
    refine T_seq ?_
    obtain ⟨x1, hj2, H⟩ := Option.bind_eq_some_iff.1 H
    refine T_reg_out ⟨[(2, .bool x1)], []⟩ ?_ ?_
    · clear H
      have H := hj2
      clear hj2
      refine RE.op (op_move rfl rfl) rfl rfl rfl ?_
      refine RE.op (op_bin rfl rfl rfl rfl) rfl rfl rfl ?_
      refine RE.op (op_move rfl rfl) rfl rfl rfl ?_
      by_cases h1 : a0 ≥ 1
      · rw [if_pos h1] at H
        refine RE.opg (op_move rfl rfl) rfl rfl (getb (decide_eq_true h1) rfl) rfl rfl ?_
        refine RE.opg (op_bin rfl rfl rfl rfl) rfl rfl (getb (decide_eq_true h1) rfl) rfl rfl ?_
        refine RE.op (op_pick_true rfl (evb (decide_eq_true h1) rfl) rfl) rfl rfl rfl ?_
        refine RE.op (op_assign rfl rfl) rfl rfl rfl ?_
        simp only [Option.some.injEq] at H
        subst H
        exact RE.nil (weak_sel (env' := [(2, .bool (decide (a0 ≤ 3)))]) ⟨rfl, trivial⟩ rfl)
      · rw [if_neg h1] at H
        refine RE.skip rfl rfl (getb (decide_eq_false h1) rfl) rfl rfl rfl ?_
        refine RE.skip rfl rfl (getb (decide_eq_false h1) rfl) rfl rfl rfl ?_
        refine RE.op (op_pick_false rfl (evb (decide_eq_false h1) rfl) rfl) rfl rfl rfl ?_
        refine RE.op (op_assign rfl rfl) rfl rfl rfl ?_
        simp only [Option.some.injEq] at H
        subst H
        exact RE.nil (weak_sel (env' := [(2, .bool false)]) ⟨rfl, trivial⟩ rfl)
    · clear hj2
      refine then_normal ?_
      refine T_ret ?_
      simp only [Option.some.injEq] at H
      subst H
      exact ret1 rfl rfl rfl

/-! ### 53 bandplan/bandplanref28.Reduction -/
def bandplanref28_Reduction.f (a0 : Int) (a1 : Int) : Option (Int × Int) := ((bandplanref28_Home.f a0).bind fun t2 => (if ¬ (t2 = true) then some true else (if a1 < 0 then some true else some (decide (a1 > a0))))).bind fun x1 => (if x1 = true then some (0, 2) else (bandplanref28_Worth.f a0).bind fun t5 => (bandplanref28_Worth.f a1).bind fun t7 => some (IntKind.i64.wrap (t5 - t7), 0))
def bandplanref28_Reduction.S (args : List AV) (v : AV) : Prop := ∃ (a0 : Int) (a1 : Int) (r : Int × Int), args = [.int .i64 a0, .int .i64 a1] ∧ bandplanref28_Reduction.f a0 a1 = some r ∧ v = .tup [.int .i64 r.1, .int .i64 r.2]
theorem bandplanref28_Reduction.ok : VOk Tryd.prog 53 bandplanref28_Reduction.S := by
  refine V_ok Tryd.func53 rfl fun args v hS => ⟨?_, ?_⟩
  · obtain ⟨a0, a1, r, rfl, H, rfl⟩ := hS
    exact Nat.le_of_ble_eq_true rfl
  · obtain ⟨a0, a1, r, rfl, H, rfl⟩ := hS
    unfold bandplanref28_Reduction.f at H
    refine T_seq ?_
    refine T_reg ?_
    refine RE.op (op_assign rfl rfl) rfl rfl rfl ?_
    refine RE.op (op_assign rfl rfl) rfl rfl rfl ?_
    refine RE.nil ⟨⟨[(0, .int .i64 a0), (1, .int .i64 a1)], []⟩, weak_sel ⟨rfl, rfl, trivial⟩ rfl, ?_⟩
    refine then_normal ?_
    refine T_seq ?_
    refine T_seq ?_
    obtain ⟨x1, hj4, H⟩ := Option.bind_eq_some_iff.1 H
    refine T_reg_out ⟨[(0, .int .i64 a0), (1, .int .i64 a1), (17, .bool x1)], []⟩ ?_ ?_
    · clear H
      have H := hj4
      clear hj4
      refine RE.op (op_move rfl rfl) rfl rfl rfl ?_
      obtain ⟨t2, ht3, H⟩ := Option.bind_eq_some_iff.1 H
      refine RE.op (op_call (f := 63) rfl rfl rfl rfl en63 bandplanref28_Home.ok ⟨_, _, rfl, ht3, rfl⟩) rfl rfl rfl ?_
      refine RE.op (op_not rfl rfl) rfl rfl rfl ?_
      refine RE.op (op_move rfl rfl) rfl rfl rfl ?_
      by_cases h1 : ¬ (t2 = true)
      · rw [if_pos h1] at H
        refine RE.skip rfl rfl (getb (not_t (Bool.eq_false_iff.mpr h1)) rfl) rfl rfl rfl ?_
        refine RE.skip rfl rfl (getb (not_t (Bool.eq_false_iff.mpr h1)) rfl) rfl rfl rfl ?_
        refine RE.op (op_pick_true rfl (evb (not_t (Bool.eq_false_iff.mpr h1)) rfl) rfl) rfl rfl rfl ?_
        refine RE.op (op_move rfl rfl) rfl rfl rfl ?_
        refine RE.skip rfl rfl rfl rfl rfl rfl ?_
        refine RE.skip rfl rfl rfl rfl rfl rfl ?_
        refine RE.skip rfl rfl rfl rfl rfl rfl ?_
        refine RE.op (op_pick_true rfl rfl rfl) rfl rfl rfl ?_
        simp only [Option.some.injEq] at H
        subst H
        exact RE.nil (weak_sel (env' := [(0, .int .i64 a0), (1, .int .i64 a1), (17, .bool true)]) ⟨rfl, rfl, rfl, trivial⟩ rfl)
      · rw [if_neg h1] at H
        refine RE.opg (op_move rfl rfl) rfl rfl (getb (not_f (Decidable.of_not_not h1)) rfl) rfl rfl ?_
        refine RE.opg (op_bin rfl rfl rfl rfl) rfl rfl (getb (not_f (Decidable.of_not_not h1)) rfl) rfl rfl ?_
        refine RE.op (op_pick_false rfl (evb (not_f (Decidable.of_not_not h1)) rfl) rfl) rfl rfl rfl ?_
        refine RE.op (op_move rfl rfl) rfl rfl rfl ?_
        by_cases h2 : a1 < 0
        · rw [if_pos h2] at H
          refine RE.skip rfl rfl (getb (decide_eq_true h2) rfl) rfl rfl rfl ?_
          refine RE.skip rfl rfl (getb (decide_eq_true h2) rfl) rfl rfl rfl ?_
          refine RE.skip rfl rfl (getb (decide_eq_true h2) rfl) rfl rfl rfl ?_
          refine RE.op (op_pick_true rfl (evb (decide_eq_true h2) rfl) rfl) rfl rfl rfl ?_
          simp only [Option.some.injEq] at H
          subst H
          exact RE.nil (weak_sel (env' := [(0, .int .i64 a0), (1, .int .i64 a1), (17, .bool true)]) ⟨rfl, rfl, rfl, trivial⟩ rfl)
        · rw [if_neg h2] at H
          refine RE.opg (op_move rfl rfl) rfl rfl (getb (decide_eq_false h2) rfl) rfl rfl ?_
          refine RE.opg (op_move rfl rfl) rfl rfl (getb (decide_eq_false h2) rfl) rfl rfl ?_
          refine RE.opg (op_bin rfl rfl rfl rfl) rfl rfl (getb (decide_eq_false h2) rfl) rfl rfl ?_
          refine RE.op (op_pick_false rfl (evb (decide_eq_false h2) rfl) rfl) rfl rfl rfl ?_
          simp only [Option.some.injEq] at H
          subst H
          exact RE.nil (weak_sel (env' := [(0, .int .i64 a0), (1, .int .i64 a1), (17, .bool (decide (a1 > a0)))]) ⟨rfl, rfl, rfl, trivial⟩ rfl)
    · clear hj4
      refine then_normal ?_
      by_cases h3 : x1 = true
      · rw [if_pos h3] at H
        refine T_yes rfl h3 ?_
        refine T_seq ?_
        refine T_reg ?_
        refine RE.op (op_assign rfl rfl) rfl rfl rfl ?_
        refine RE.op (op_assign rfl rfl) rfl rfl rfl ?_
        refine RE.nil ⟨⟨[(4, .int .i64 0), (5, .int .i64 2)], []⟩, weak_sel ⟨rfl, rfl, trivial⟩ rfl, ?_⟩
        refine then_normal ?_
        refine T_ret ?_
        simp only [Option.some.injEq] at H
        subst H
        refine then_ret ?_
        exact ret2 rfl rfl rfl rfl
      · rw [if_neg h3] at H
        refine T_no rfl (Bool.eq_false_iff.mpr h3) ?_
        refine T_skip ?_
        refine then_normal ?_
        refine T_seq ?_
        refine T_reg ?_
        refine RE.op (op_move rfl rfl) rfl rfl rfl ?_
        obtain ⟨t5, ht6, H⟩ := Option.bind_eq_some_iff.1 H
        refine RE.op (op_call (f := 64) rfl rfl rfl rfl en64 bandplanref28_Worth.ok ⟨_, _, rfl, ht6, rfl⟩) rfl rfl rfl ?_
        refine RE.op (op_move rfl rfl) rfl rfl rfl ?_
        obtain ⟨t7, ht8, H⟩ := Option.bind_eq_some_iff.1 H
        refine RE.op (op_call (f := 64) rfl rfl rfl rfl en64 bandplanref28_Worth.ok ⟨_, _, rfl, ht8, rfl⟩) rfl rfl rfl ?_
        refine RE.op (op_bin rfl rfl rfl rfl) rfl rfl rfl ?_
        refine RE.op (op_assign rfl rfl) rfl rfl rfl ?_
        refine RE.op (op_assign rfl rfl) rfl rfl rfl ?_
        refine RE.nil ⟨⟨[(4, .int .i64 (IntKind.i64.wrap (t5 - t7))), (5, .int .i64 0)], []⟩, weak_sel ⟨rfl, rfl, trivial⟩ rfl, ?_⟩
        refine then_normal ?_
        refine T_ret ?_
        simp only [Option.some.injEq] at H
        subst H
        exact ret2 rfl rfl rfl rfl

/-! ### 29 bandplan/bandplanref28.Offer -/
def bandplanref28_Offer.f (a0 : Int) (a1 : Int) (a2 : Int) (a3 : Int) : Option (Int × Int) := (bandplanref28_Reduction.f a2 a3).bind fun t1 => ((if ¬ t1.2 = 0 then some true else (if a0 < 1 then some true else (if a0 > 1000000 then some true else (if a1 < 0 then some true else some (decide (a1 > 1000000000))))))).bind fun x3 => (if x3 = true then some (0, 2) else some (IntKind.i64.wrap (Int.tdiv (IntKind.i64.wrap ((IntKind.i64.wrap (a0 * a1)) * t1.1)) 1000000000), 0))
def bandplanref28_Offer.S (args : List AV) (v : AV) : Prop := ∃ (a0 : Int) (a1 : Int) (a2 : Int) (a3 : Int) (r : Int × Int), args = [.int .i64 a0, .int .i64 a1, .int .i64 a2, .int .i64 a3] ∧ bandplanref28_Offer.f a0 a1 a2 a3 = some r ∧ v = .tup [.int .i64 r.1, .int .i64 r.2]
theorem bandplanref28_Offer.ok : VOk Tryd.prog 29 bandplanref28_Offer.S := by
  refine V_ok Tryd.func29 rfl fun args v hS => ⟨?_, ?_⟩
  · obtain ⟨a0, a1, a2, a3, r, rfl, H, rfl⟩ := hS
    exact Nat.le_of_ble_eq_true rfl
  · obtain ⟨a0, a1, a2, a3, r, rfl, H, rfl⟩ := hS
    unfold bandplanref28_Offer.f at H
    refine T_seq ?_
    refine T_reg ?_
    refine RE.op (op_assign rfl rfl) rfl rfl rfl ?_
    refine RE.op (op_assign rfl rfl) rfl rfl rfl ?_
    refine RE.nil ⟨⟨[(0, .int .i64 a0), (1, .int .i64 a1), (2, .int .i64 a2), (3, .int .i64 a3)], []⟩, weak_sel ⟨rfl, rfl, rfl, rfl, trivial⟩ rfl, ?_⟩
    refine then_normal ?_
    refine T_seq ?_
    refine T_reg ?_
    refine RE.op (op_move rfl rfl) rfl rfl rfl ?_
    refine RE.op (op_move rfl rfl) rfl rfl rfl ?_
    obtain ⟨t1, ht2, H⟩ := Option.bind_eq_some_iff.1 H
    refine RE.op (op_call (f := 53) rfl rfl rfl rfl en53 bandplanref28_Reduction.ok ⟨_, _, _, rfl, ht2, rfl⟩) rfl rfl rfl ?_
    refine RE.op (op_move rfl rfl) rfl rfl rfl ?_
    refine RE.op (op_extract rfl rfl rfl) rfl rfl rfl ?_
    refine RE.op (op_extract rfl rfl rfl) rfl rfl rfl ?_
    refine RE.op (op_assign rfl rfl) rfl rfl rfl ?_
    refine RE.op (op_assign rfl rfl) rfl rfl rfl ?_
    refine RE.nil ⟨⟨[(0, .int .i64 a0), (1, .int .i64 a1), (10, .int .i64 t1.1), (11, .int .i64 t1.2)], []⟩, weak_sel ⟨rfl, rfl, rfl, rfl, trivial⟩ rfl, ?_⟩
    refine then_normal ?_
    refine T_seq ?_
    refine T_seq ?_
    obtain ⟨x3, hj4, H⟩ := Option.bind_eq_some_iff.1 H
    refine T_reg_out ⟨[(0, .int .i64 a0), (1, .int .i64 a1), (10, .int .i64 t1.1), (35, .bool x3)], []⟩ ?_ ?_
    · clear H
      have H := hj4
      clear hj4
      refine RE.op (op_move rfl rfl) rfl rfl rfl ?_
      refine RE.op (op_bin rfl rfl rfl rfl) rfl rfl rfl ?_
      refine RE.op (op_move rfl rfl) rfl rfl rfl ?_
      by_cases h1 : ¬ t1.2 = 0
      · rw [if_pos h1] at H
        refine RE.skip rfl rfl (getb (bne_iff_ne.mpr h1) rfl) rfl rfl rfl ?_
        refine RE.skip rfl rfl (getb (bne_iff_ne.mpr h1) rfl) rfl rfl rfl ?_
        refine RE.op (op_pick_true rfl (evb (bne_iff_ne.mpr h1) rfl) rfl) rfl rfl rfl ?_
        refine RE.op (op_move rfl rfl) rfl rfl rfl ?_
        refine RE.skip rfl rfl rfl rfl rfl rfl ?_
        refine RE.skip rfl rfl rfl rfl rfl rfl ?_
        refine RE.op (op_pick_true rfl rfl rfl) rfl rfl rfl ?_
        refine RE.op (op_move rfl rfl) rfl rfl rfl ?_
        refine RE.skip rfl rfl rfl rfl rfl rfl ?_
        refine RE.skip rfl rfl rfl rfl rfl rfl ?_
        refine RE.op (op_pick_true rfl rfl rfl) rfl rfl rfl ?_
        refine RE.op (op_move rfl rfl) rfl rfl rfl ?_
        refine RE.skip rfl rfl rfl rfl rfl rfl ?_
        refine RE.skip rfl rfl rfl rfl rfl rfl ?_
        refine RE.op (op_pick_true rfl rfl rfl) rfl rfl rfl ?_
        simp only [Option.some.injEq] at H
        subst H
        exact RE.nil (weak_sel (env' := [(0, .int .i64 a0), (1, .int .i64 a1), (10, .int .i64 t1.1), (35, .bool true)]) ⟨rfl, rfl, rfl, rfl, trivial⟩ rfl)
      · rw [if_neg h1] at H
        refine RE.opg (op_move rfl rfl) rfl rfl (getb (bne_eq_false_iff_eq.mpr (Decidable.of_not_not h1)) rfl) rfl rfl ?_
        refine RE.opg (op_bin rfl rfl rfl rfl) rfl rfl (getb (bne_eq_false_iff_eq.mpr (Decidable.of_not_not h1)) rfl) rfl rfl ?_
        refine RE.op (op_pick_false rfl (evb (bne_eq_false_iff_eq.mpr (Decidable.of_not_not h1)) rfl) rfl) rfl rfl rfl ?_
        refine RE.op (op_move rfl rfl) rfl rfl rfl ?_
        by_cases h2 : a0 < 1
        · rw [if_pos h2] at H
          refine RE.skip rfl rfl (getb (decide_eq_true h2) rfl) rfl rfl rfl ?_
          refine RE.skip rfl rfl (getb (decide_eq_true h2) rfl) rfl rfl rfl ?_
          refine RE.op (op_pick_true rfl (evb (decide_eq_true h2) rfl) rfl) rfl rfl rfl ?_
          refine RE.op (op_move rfl rfl) rfl rfl rfl ?_
          refine RE.skip rfl rfl rfl rfl rfl rfl ?_
          refine RE.skip rfl rfl rfl rfl rfl rfl ?_
          refine RE.op (op_pick_true rfl rfl rfl) rfl rfl rfl ?_
          refine RE.op (op_move rfl rfl) rfl rfl rfl ?_
          refine RE.skip rfl rfl rfl rfl rfl rfl ?_
          refine RE.skip rfl rfl rfl rfl rfl rfl ?_
          refine RE.op (op_pick_true rfl rfl rfl) rfl rfl rfl ?_
          simp only [Option.some.injEq] at H
          subst H
          exact RE.nil (weak_sel (env' := [(0, .int .i64 a0), (1, .int .i64 a1), (10, .int .i64 t1.1), (35, .bool true)]) ⟨rfl, rfl, rfl, rfl, trivial⟩ rfl)
        · rw [if_neg h2] at H
          refine RE.opg (op_move rfl rfl) rfl rfl (getb (decide_eq_false h2) rfl) rfl rfl ?_
          refine RE.opg (op_bin rfl rfl rfl rfl) rfl rfl (getb (decide_eq_false h2) rfl) rfl rfl ?_
          refine RE.op (op_pick_false rfl (evb (decide_eq_false h2) rfl) rfl) rfl rfl rfl ?_
          refine RE.op (op_move rfl rfl) rfl rfl rfl ?_
          by_cases h3 : a0 > 1000000
          · rw [if_pos h3] at H
            refine RE.skip rfl rfl (getb (decide_eq_true h3) rfl) rfl rfl rfl ?_
            refine RE.skip rfl rfl (getb (decide_eq_true h3) rfl) rfl rfl rfl ?_
            refine RE.op (op_pick_true rfl (evb (decide_eq_true h3) rfl) rfl) rfl rfl rfl ?_
            refine RE.op (op_move rfl rfl) rfl rfl rfl ?_
            refine RE.skip rfl rfl rfl rfl rfl rfl ?_
            refine RE.skip rfl rfl rfl rfl rfl rfl ?_
            refine RE.op (op_pick_true rfl rfl rfl) rfl rfl rfl ?_
            simp only [Option.some.injEq] at H
            subst H
            exact RE.nil (weak_sel (env' := [(0, .int .i64 a0), (1, .int .i64 a1), (10, .int .i64 t1.1), (35, .bool true)]) ⟨rfl, rfl, rfl, rfl, trivial⟩ rfl)
          · rw [if_neg h3] at H
            refine RE.opg (op_move rfl rfl) rfl rfl (getb (decide_eq_false h3) rfl) rfl rfl ?_
            refine RE.opg (op_bin rfl rfl rfl rfl) rfl rfl (getb (decide_eq_false h3) rfl) rfl rfl ?_
            refine RE.op (op_pick_false rfl (evb (decide_eq_false h3) rfl) rfl) rfl rfl rfl ?_
            refine RE.op (op_move rfl rfl) rfl rfl rfl ?_
            by_cases h4 : a1 < 0
            · rw [if_pos h4] at H
              refine RE.skip rfl rfl (getb (decide_eq_true h4) rfl) rfl rfl rfl ?_
              refine RE.skip rfl rfl (getb (decide_eq_true h4) rfl) rfl rfl rfl ?_
              refine RE.op (op_pick_true rfl (evb (decide_eq_true h4) rfl) rfl) rfl rfl rfl ?_
              simp only [Option.some.injEq] at H
              subst H
              exact RE.nil (weak_sel (env' := [(0, .int .i64 a0), (1, .int .i64 a1), (10, .int .i64 t1.1), (35, .bool true)]) ⟨rfl, rfl, rfl, rfl, trivial⟩ rfl)
            · rw [if_neg h4] at H
              refine RE.opg (op_move rfl rfl) rfl rfl (getb (decide_eq_false h4) rfl) rfl rfl ?_
              refine RE.opg (op_bin rfl rfl rfl rfl) rfl rfl (getb (decide_eq_false h4) rfl) rfl rfl ?_
              refine RE.op (op_pick_false rfl (evb (decide_eq_false h4) rfl) rfl) rfl rfl rfl ?_
              simp only [Option.some.injEq] at H
              subst H
              exact RE.nil (weak_sel (env' := [(0, .int .i64 a0), (1, .int .i64 a1), (10, .int .i64 t1.1), (35, .bool (decide (a1 > 1000000000)))]) ⟨rfl, rfl, rfl, rfl, trivial⟩ rfl)
    · clear hj4
      refine then_normal ?_
      by_cases h5 : x3 = true
      · rw [if_pos h5] at H
        refine T_yes rfl h5 ?_
        refine T_seq ?_
        refine T_reg ?_
        refine RE.op (op_assign rfl rfl) rfl rfl rfl ?_
        refine RE.op (op_assign rfl rfl) rfl rfl rfl ?_
        refine RE.nil ⟨⟨[(8, .int .i64 0), (9, .int .i64 2)], []⟩, weak_sel ⟨rfl, rfl, trivial⟩ rfl, ?_⟩
        refine then_normal ?_
        refine T_ret ?_
        simp only [Option.some.injEq] at H
        subst H
        refine then_ret ?_
        exact ret2 rfl rfl rfl rfl
      · rw [if_neg h5] at H
        refine T_no rfl (Bool.eq_false_iff.mpr h5) ?_
        refine T_skip ?_
        refine then_normal ?_
        refine T_seq ?_
        refine T_reg ?_
        refine RE.op (op_move rfl rfl) rfl rfl rfl ?_
        refine RE.op (op_move rfl rfl) rfl rfl rfl ?_
        refine RE.op (op_bin rfl rfl rfl rfl) rfl rfl rfl ?_
        refine RE.op (op_move rfl rfl) rfl rfl rfl ?_
        refine RE.op (op_bin rfl rfl rfl rfl) rfl rfl rfl ?_
        refine RE.op (op_quo rfl rfl rfl (by decide)) rfl rfl rfl ?_
        refine RE.op (op_assign rfl rfl) rfl rfl rfl ?_
        refine RE.op (op_assign rfl rfl) rfl rfl rfl ?_
        refine RE.nil ⟨⟨[(8, .int .i64 (IntKind.i64.wrap (Int.tdiv (IntKind.i64.wrap ((IntKind.i64.wrap (a0 * a1)) * t1.1)) 1000000000))), (9, .int .i64 0)], []⟩, weak_sel ⟨rfl, rfl, trivial⟩ rfl, ?_⟩
        refine then_normal ?_
        refine T_ret ?_
        simp only [Option.some.injEq] at H
        subst H
        exact ret2 rfl rfl rfl rfl
end Go.Proofs.YtgobepjodkggoaaDoor.Fn
