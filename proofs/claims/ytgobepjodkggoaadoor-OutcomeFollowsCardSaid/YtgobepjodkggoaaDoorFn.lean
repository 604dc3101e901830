/- What the functions compute, and that they do: part 5. -/
import Derived.Test.YtgobepjodkggoaaDoorTi
import Derived.Test.YtgobepjodkggoaaDoorDt
import Derived.Test.YtgobepjodkggoaaDoorFn4
namespace Go.Proofs.YtgobepjodkggoaaDoor.Fn
open Go Go.Proofs Go.Proofs.YtgobepjodkggoaaDoor.Ai Go.Proofs.YtgobepjodkggoaaDoor.Dt Go.Proofs.YtgobepjodkggoaaDoor.Ti
set_option linter.unusedVariables false
set_option maxRecDepth 100000

/-! ### 3 bandplan/bandplanlaw32.OutcomeCost -/
def bandplanlaw32_OutcomeCost.f (k : Nat) (a0 : (List S_api_Winner)) (a1 : S_api_Outcome) (a2 : Int) : Option (Bool) := ((if ((a0.map S_api_Winner.enc).length : Int) > 20 then some true else (bandplanlaw32_small.f a1).bind fun t2 => some (!t2))).bind fun x1 => (if x1 = true then (bandplanlaw32_known.f k ).bind fun t5 => some t5 else (outcome_Cost.f k a0).bind fun t7 => (bandplanref32_Cost.f k a0).bind fun t9 => (outcome_Payment.f k a1 a2).bind fun t11 => (bandplanref32_Payment.f k a1 a2).bind fun t13 => ((if t7.1 = t9.1 then (if t7.2 = t9.2 then (if t11.1 = t13.1 then (if t11.2 = t13.2 then (bandplanlaw32_known.f k ).bind fun t16 => some t16 else some false) else some false) else some false) else some false)).bind fun x15 => some x15)
def bandplanlaw32_OutcomeCost.S (args : List AV) (v : AV) : Prop := ∃ (k : Nat) (a0 : (List S_api_Winner)) (a1 : S_api_Outcome) (a2 : Int) (r : Bool), args = [.lst false (a0.map S_api_Winner.enc), S_api_Outcome.enc a1, .int .i64 a2] ∧ bandplanlaw32_OutcomeCost.f k a0 a1 a2 = some r ∧ v = .bool r
theorem bandplanlaw32_OutcomeCost.ok : VOk Tryd.prog 3 bandplanlaw32_OutcomeCost.S := by
  refine V_ok Tryd.func3 rfl fun args v hS => ⟨?_, ?_⟩
  · obtain ⟨k, a0, a1, a2, r, rfl, H, rfl⟩ := hS
    exact Nat.le_of_ble_eq_true rfl
  · obtain ⟨k, a0, a1, a2, r, rfl, H, rfl⟩ := hS
    unfold bandplanlaw32_OutcomeCost.f at H
    refine T_seq ?_
    refine T_reg ?_
    refine RE.op (op_box (k := 0) rfl rfl rfl rfl) rfl rfl rfl ?_
    refine RE.op (op_assign rfl rfl) rfl rfl rfl ?_
    refine RE.nil ⟨⟨[(0, .lst false (a0.map S_api_Winner.enc)), (2, .int .i64 a2), (4, .ptr 0 0)], [.cells [.lst false (a1.f_Winners.map S_api_Winner.enc), .lst false (a1.f_Exited.map (AV.int .i64)), .lst false (a1.f_Assignment.map S_api_Choice.enc), .int .i64 a1.f_Cost]]⟩, weak_sel ⟨rfl, rfl, rfl, trivial⟩ rfl, ?_⟩
    refine then_normal ?_
    refine T_seq ?_
    refine T_seq ?_
    obtain ⟨x1, hj4, H⟩ := Option.bind_eq_some_iff.1 H
    refine T_reg_out ⟨[(0, .lst false (a0.map S_api_Winner.enc)), (2, .int .i64 a2), (4, .ptr 0 0), (22, .bool x1)], [.cells [.lst false (a1.f_Winners.map S_api_Winner.enc), .lst false (a1.f_Exited.map (AV.int .i64)), .lst false (a1.f_Assignment.map S_api_Choice.enc), .int .i64 a1.f_Cost]]⟩ ?_ ?_
    · clear H
      have H := hj4
      clear hj4
      refine RE.op (op_move rfl rfl) rfl rfl rfl ?_
      refine RE.op (op_len Tryd.underlying22 rfl rfl) rfl rfl rfl ?_
      refine RE.op (op_bin rfl rfl rfl rfl) rfl rfl rfl ?_
      refine RE.op (op_move rfl rfl) rfl rfl rfl ?_
      by_cases h1 : ((a0.map S_api_Winner.enc).length : Int) > 20
      · rw [if_pos h1] at H
        refine RE.skip rfl rfl (getb (decide_eq_true h1) rfl) rfl rfl rfl ?_
        refine RE.skip rfl rfl (getb (decide_eq_true h1) rfl) rfl rfl rfl ?_
        refine RE.skip rfl rfl (getb (decide_eq_true h1) rfl) rfl rfl rfl ?_
        refine RE.op (op_pick_true rfl (evb (decide_eq_true h1) rfl) rfl) rfl rfl rfl ?_
        simp only [Option.some.injEq] at H
        subst H
        exact RE.nil (weak_sel (env' := [(0, .lst false (a0.map S_api_Winner.enc)), (2, .int .i64 a2), (4, .ptr 0 0), (22, .bool true)]) ⟨rfl, rfl, rfl, rfl, trivial⟩ rfl)
      · rw [if_neg h1] at H
        refine RE.opg (op_load_agg (ds := [.lst false (a1.f_Winners.map S_api_Winner.enc), .lst false (a1.f_Exited.map (AV.int .i64)), .lst false (a1.f_Assignment.map S_api_Choice.enc), .int .i64 a1.f_Cost]) ti26 rfl rfl rfl rfl (Nat.le_of_ble_eq_true rfl) rfl) rfl rfl (getb (decide_eq_false h1) rfl) rfl rfl ?_
        obtain ⟨t2, ht3, H⟩ := Option.bind_eq_some_iff.1 H
        refine RE.opg (op_call (f := 7) rfl rfl rfl rfl en7 bandplanlaw32_small.ok ⟨_, _, rfl, ht3, rfl⟩) rfl rfl (getb (decide_eq_false h1) rfl) rfl rfl ?_
        refine RE.opg (op_not rfl rfl) rfl rfl (getb (decide_eq_false h1) rfl) rfl rfl ?_
        refine RE.op (op_pick_false rfl (evb (decide_eq_false h1) rfl) rfl) rfl rfl rfl ?_
        simp only [Option.some.injEq] at H
        subst H
        exact RE.nil (weak_sel (env' := [(0, .lst false (a0.map S_api_Winner.enc)), (2, .int .i64 a2), (4, .ptr 0 0), (22, .bool (!t2))]) ⟨rfl, rfl, rfl, rfl, trivial⟩ rfl)
    · clear hj4
      refine then_normal ?_
      by_cases h2 : x1 = true
      · rw [if_pos h2] at H
        refine T_yes rfl h2 ?_
        refine T_seq ?_
        refine T_reg ?_
        obtain ⟨t5, ht6, H⟩ := Option.bind_eq_some_iff.1 H
        refine RE.op (op_call (f := 8) rfl rfl rfl rfl en8 bandplanlaw32_known.ok ⟨_, _, rfl, ht6, rfl⟩) rfl rfl rfl ?_
        refine RE.op (op_assign rfl rfl) rfl rfl rfl ?_
        refine RE.nil ⟨⟨[(6, .bool t5)], [.cells [.lst false (a1.f_Winners.map S_api_Winner.enc), .lst false (a1.f_Exited.map (AV.int .i64)), .lst false (a1.f_Assignment.map S_api_Choice.enc), .int .i64 a1.f_Cost]]⟩, weak_sel ⟨rfl, trivial⟩ rfl, ?_⟩
        refine then_normal ?_
        refine T_ret ?_
        simp only [Option.some.injEq] at H
        subst H
        refine then_ret ?_
        exact ret1 rfl rfl rfl
      · rw [if_neg h2] at H
        refine T_no rfl (Bool.eq_false_iff.mpr h2) ?_
        refine T_skip ?_
        refine then_normal ?_
        refine T_seq ?_
        refine T_reg ?_
        refine RE.op (op_move rfl rfl) rfl rfl rfl ?_
        obtain ⟨t7, ht8, H⟩ := Option.bind_eq_some_iff.1 H
        refine RE.op (op_call (f := 9) rfl rfl rfl rfl en9 outcome_Cost.ok ⟨_, _, _, rfl, ht8, rfl⟩) rfl rfl rfl ?_
        refine RE.op (op_move rfl rfl) rfl rfl rfl ?_
        refine RE.op (op_extract rfl rfl rfl) rfl rfl rfl ?_
        refine RE.op (op_extract rfl rfl rfl) rfl rfl rfl ?_
        refine RE.op (op_assign rfl rfl) rfl rfl rfl ?_
        refine RE.op (op_assign rfl rfl) rfl rfl rfl ?_
        refine RE.nil ⟨⟨[(0, .lst false (a0.map S_api_Winner.enc)), (2, .int .i64 a2), (4, .ptr 0 0), (7, .int .i64 t7.1), (8, .int .i64 t7.2)], [.cells [.lst false (a1.f_Winners.map S_api_Winner.enc), .lst false (a1.f_Exited.map (AV.int .i64)), .lst false (a1.f_Assignment.map S_api_Choice.enc), .int .i64 a1.f_Cost]]⟩, weak_sel ⟨rfl, rfl, rfl, rfl, rfl, trivial⟩ rfl, ?_⟩
        refine then_normal ?_
        refine T_seq ?_
        refine T_reg ?_
        refine RE.op (op_move rfl rfl) rfl rfl rfl ?_
        obtain ⟨t9, ht10, H⟩ := Option.bind_eq_some_iff.1 H
        refine RE.op (op_call (f := 10) rfl rfl rfl rfl en10 bandplanref32_Cost.ok ⟨_, _, _, rfl, ht10, rfl⟩) rfl rfl rfl ?_
        refine RE.op (op_move rfl rfl) rfl rfl rfl ?_
        refine RE.op (op_extract rfl rfl rfl) rfl rfl rfl ?_
        refine RE.op (op_extract rfl rfl rfl) rfl rfl rfl ?_
        refine RE.op (op_assign rfl rfl) rfl rfl rfl ?_
        refine RE.op (op_assign rfl rfl) rfl rfl rfl ?_
        refine RE.nil ⟨⟨[(2, .int .i64 a2), (4, .ptr 0 0), (7, .int .i64 t7.1), (8, .int .i64 t7.2), (9, .int .i64 t9.1), (10, .int .i64 t9.2)], [.cells [.lst false (a1.f_Winners.map S_api_Winner.enc), .lst false (a1.f_Exited.map (AV.int .i64)), .lst false (a1.f_Assignment.map S_api_Choice.enc), .int .i64 a1.f_Cost]]⟩, weak_sel ⟨rfl, rfl, rfl, rfl, rfl, rfl, trivial⟩ rfl, ?_⟩
        refine then_normal ?_
        refine T_seq ?_
        refine T_reg ?_
        refine RE.op (op_load_agg (ds := [.lst false (a1.f_Winners.map S_api_Winner.enc), .lst false (a1.f_Exited.map (AV.int .i64)), .lst false (a1.f_Assignment.map S_api_Choice.enc), .int .i64 a1.f_Cost]) ti26 rfl rfl rfl rfl (Nat.le_of_ble_eq_true rfl) rfl) rfl rfl rfl ?_
        refine RE.op (op_move rfl rfl) rfl rfl rfl ?_
        obtain ⟨t11, ht12, H⟩ := Option.bind_eq_some_iff.1 H
        refine RE.op (op_call (f := 11) rfl rfl rfl rfl en11 outcome_Payment.ok ⟨_, _, _, _, rfl, ht12, rfl⟩) rfl rfl rfl ?_
        refine RE.op (op_move rfl rfl) rfl rfl rfl ?_
        refine RE.op (op_extract rfl rfl rfl) rfl rfl rfl ?_
        refine RE.op (op_extract rfl rfl rfl) rfl rfl rfl ?_
        refine RE.op (op_assign rfl rfl) rfl rfl rfl ?_
        refine RE.op (op_assign rfl rfl) rfl rfl rfl ?_
        refine RE.nil ⟨⟨[(2, .int .i64 a2), (4, .ptr 0 0), (7, .int .i64 t7.1), (8, .int .i64 t7.2), (9, .int .i64 t9.1), (10, .int .i64 t9.2), (11, .int .i64 t11.1), (12, .int .i64 t11.2)], [.cells [.lst false (a1.f_Winners.map S_api_Winner.enc), .lst false (a1.f_Exited.map (AV.int .i64)), .lst false (a1.f_Assignment.map S_api_Choice.enc), .int .i64 a1.f_Cost]]⟩, weak_sel ⟨rfl, rfl, rfl, rfl, rfl, rfl, rfl, rfl, trivial⟩ rfl, ?_⟩
        refine then_normal ?_
        refine T_seq ?_
        refine T_reg ?_
        refine RE.op (op_load_agg (ds := [.lst false (a1.f_Winners.map S_api_Winner.enc), .lst false (a1.f_Exited.map (AV.int .i64)), .lst false (a1.f_Assignment.map S_api_Choice.enc), .int .i64 a1.f_Cost]) ti26 rfl rfl rfl rfl (Nat.le_of_ble_eq_true rfl) rfl) rfl rfl rfl ?_
        refine RE.op (op_move rfl rfl) rfl rfl rfl ?_
        obtain ⟨t13, ht14, H⟩ := Option.bind_eq_some_iff.1 H
        refine RE.op (op_call (f := 12) rfl rfl rfl rfl en12 bandplanref32_Payment.ok ⟨_, _, _, _, rfl, ht14, rfl⟩) rfl rfl rfl ?_
        refine RE.op (op_move rfl rfl) rfl rfl rfl ?_
        refine RE.op (op_extract rfl rfl rfl) rfl rfl rfl ?_
        refine RE.op (op_extract rfl rfl rfl) rfl rfl rfl ?_
        refine RE.op (op_assign rfl rfl) rfl rfl rfl ?_
        refine RE.op (op_assign rfl rfl) rfl rfl rfl ?_
        refine RE.nil ⟨⟨[(7, .int .i64 t7.1), (8, .int .i64 t7.2), (9, .int .i64 t9.1), (10, .int .i64 t9.2), (11, .int .i64 t11.1), (12, .int .i64 t11.2), (13, .int .i64 t13.1), (14, .int .i64 t13.2)], [.cells [.lst false (a1.f_Winners.map S_api_Winner.enc), .lst false (a1.f_Exited.map (AV.int .i64)), .lst false (a1.f_Assignment.map S_api_Choice.enc), .int .i64 a1.f_Cost]]⟩, weak_sel ⟨rfl, rfl, rfl, rfl, rfl, rfl, rfl, rfl, trivial⟩ rfl, ?_⟩
        refine then_normal ?_
        refine T_seq ?_
        obtain ⟨x15, hj18, H⟩ := Option.bind_eq_some_iff.1 H
        refine T_reg_out ⟨[(6, .bool x15)], [.cells [.lst false (a1.f_Winners.map S_api_Winner.enc), .lst false (a1.f_Exited.map (AV.int .i64)), .lst false (a1.f_Assignment.map S_api_Choice.enc), .int .i64 a1.f_Cost]]⟩ ?_ ?_
        · clear H
          have H := hj18
          clear hj18
          refine RE.op (op_move rfl rfl) rfl rfl rfl ?_
          refine RE.op (op_move rfl rfl) rfl rfl rfl ?_
          refine RE.op (op_bin rfl rfl rfl rfl) rfl rfl rfl ?_
          refine RE.op (op_move rfl rfl) rfl rfl rfl ?_
          by_cases h3 : t7.1 = t9.1
          · rw [if_pos h3] at H
            refine RE.opg (op_move rfl rfl) rfl rfl (getb (beq_iff_eq.mpr h3) rfl) rfl rfl ?_
            refine RE.opg (op_move rfl rfl) rfl rfl (getb (beq_iff_eq.mpr h3) rfl) rfl rfl ?_
            refine RE.opg (op_bin rfl rfl rfl rfl) rfl rfl (getb (beq_iff_eq.mpr h3) rfl) rfl rfl ?_
            refine RE.op (op_pick_true rfl (evb (beq_iff_eq.mpr h3) rfl) rfl) rfl rfl rfl ?_
            refine RE.op (op_move rfl rfl) rfl rfl rfl ?_
            by_cases h4 : t7.2 = t9.2
            · rw [if_pos h4] at H
              refine RE.opg (op_move rfl rfl) rfl rfl (getb (beq_iff_eq.mpr h4) rfl) rfl rfl ?_
              refine RE.opg (op_move rfl rfl) rfl rfl (getb (beq_iff_eq.mpr h4) rfl) rfl rfl ?_
              refine RE.opg (op_bin rfl rfl rfl rfl) rfl rfl (getb (beq_iff_eq.mpr h4) rfl) rfl rfl ?_
              refine RE.op (op_pick_true rfl (evb (beq_iff_eq.mpr h4) rfl) rfl) rfl rfl rfl ?_
              refine RE.op (op_move rfl rfl) rfl rfl rfl ?_
              by_cases h5 : t11.1 = t13.1
              · rw [if_pos h5] at H
                refine RE.opg (op_move rfl rfl) rfl rfl (getb (beq_iff_eq.mpr h5) rfl) rfl rfl ?_
                refine RE.opg (op_move rfl rfl) rfl rfl (getb (beq_iff_eq.mpr h5) rfl) rfl rfl ?_
                refine RE.opg (op_bin rfl rfl rfl rfl) rfl rfl (getb (beq_iff_eq.mpr h5) rfl) rfl rfl ?_
                refine RE.op (op_pick_true rfl (evb (beq_iff_eq.mpr h5) rfl) rfl) rfl rfl rfl ?_
                refine RE.op (op_move rfl rfl) rfl rfl rfl ?_
                by_cases h6 : t11.2 = t13.2
                · rw [if_pos h6] at H
                  obtain ⟨t16, ht17, H⟩ := Option.bind_eq_some_iff.1 H
                  refine RE.opg (op_call (f := 8) rfl rfl rfl rfl en8 bandplanlaw32_known.ok ⟨_, _, rfl, ht17, rfl⟩) rfl rfl (getb (beq_iff_eq.mpr h6) rfl) rfl rfl ?_
                  refine RE.op (op_pick_true rfl (evb (beq_iff_eq.mpr h6) rfl) rfl) rfl rfl rfl ?_
                  refine RE.op (op_assign rfl rfl) rfl rfl rfl ?_
                  simp only [Option.some.injEq] at H
                  subst H
                  exact RE.nil (weak_sel (env' := [(6, .bool t16)]) ⟨rfl, trivial⟩ rfl)
                · rw [if_neg h6] at H
                  refine RE.skip rfl rfl (getb (beq_eq_false_iff_ne.mpr h6) rfl) rfl rfl rfl ?_
                  refine RE.op (op_pick_false rfl (evb (beq_eq_false_iff_ne.mpr h6) rfl) rfl) rfl rfl rfl ?_
                  refine RE.op (op_assign rfl rfl) rfl rfl rfl ?_
                  simp only [Option.some.injEq] at H
                  subst H
                  exact RE.nil (weak_sel (env' := [(6, .bool false)]) ⟨rfl, trivial⟩ rfl)
              · rw [if_neg h5] at H
                refine RE.skip rfl rfl (getb (beq_eq_false_iff_ne.mpr h5) rfl) rfl rfl rfl ?_
                refine RE.skip rfl rfl (getb (beq_eq_false_iff_ne.mpr h5) rfl) rfl rfl rfl ?_
                refine RE.skip rfl rfl (getb (beq_eq_false_iff_ne.mpr h5) rfl) rfl rfl rfl ?_
                refine RE.op (op_pick_false rfl (evb (beq_eq_false_iff_ne.mpr h5) rfl) rfl) rfl rfl rfl ?_
                refine RE.op (op_move rfl rfl) rfl rfl rfl ?_
                refine RE.skip rfl rfl rfl rfl rfl rfl ?_
                refine RE.op (op_pick_false rfl rfl rfl) rfl rfl rfl ?_
                refine RE.op (op_assign rfl rfl) rfl rfl rfl ?_
                simp only [Option.some.injEq] at H
                subst H
                exact RE.nil (weak_sel (env' := [(6, .bool false)]) ⟨rfl, trivial⟩ rfl)
            · rw [if_neg h4] at H
              refine RE.skip rfl rfl (getb (beq_eq_false_iff_ne.mpr h4) rfl) rfl rfl rfl ?_
              refine RE.skip rfl rfl (getb (beq_eq_false_iff_ne.mpr h4) rfl) rfl rfl rfl ?_
              refine RE.skip rfl rfl (getb (beq_eq_false_iff_ne.mpr h4) rfl) rfl rfl rfl ?_
              refine RE.op (op_pick_false rfl (evb (beq_eq_false_iff_ne.mpr h4) rfl) rfl) rfl rfl rfl ?_
              refine RE.op (op_move rfl rfl) rfl rfl rfl ?_
              refine RE.skip rfl rfl rfl rfl rfl rfl ?_
              refine RE.skip rfl rfl rfl rfl rfl rfl ?_
              refine RE.skip rfl rfl rfl rfl rfl rfl ?_
              refine RE.op (op_pick_false rfl rfl rfl) rfl rfl rfl ?_
              refine RE.op (op_move rfl rfl) rfl rfl rfl ?_
              refine RE.skip rfl rfl rfl rfl rfl rfl ?_
              refine RE.op (op_pick_false rfl rfl rfl) rfl rfl rfl ?_
              refine RE.op (op_assign rfl rfl) rfl rfl rfl ?_
              simp only [Option.some.injEq] at H
              subst H
              exact RE.nil (weak_sel (env' := [(6, .bool false)]) ⟨rfl, trivial⟩ rfl)
          · rw [if_neg h3] at H
            refine RE.skip rfl rfl (getb (beq_eq_false_iff_ne.mpr h3) rfl) rfl rfl rfl ?_
            refine RE.skip rfl rfl (getb (beq_eq_false_iff_ne.mpr h3) rfl) rfl rfl rfl ?_
            refine RE.skip rfl rfl (getb (beq_eq_false_iff_ne.mpr h3) rfl) rfl rfl rfl ?_
            refine RE.op (op_pick_false rfl (evb (beq_eq_false_iff_ne.mpr h3) rfl) rfl) rfl rfl rfl ?_
            refine RE.op (op_move rfl rfl) rfl rfl rfl ?_
            refine RE.skip rfl rfl rfl rfl rfl rfl ?_
            refine RE.skip rfl rfl rfl rfl rfl rfl ?_
            refine RE.skip rfl rfl rfl rfl rfl rfl ?_
            refine RE.op (op_pick_false rfl rfl rfl) rfl rfl rfl ?_
            refine RE.op (op_move rfl rfl) rfl rfl rfl ?_
            refine RE.skip rfl rfl rfl rfl rfl rfl ?_
            refine RE.skip rfl rfl rfl rfl rfl rfl ?_
            refine RE.skip rfl rfl rfl rfl rfl rfl ?_
            refine RE.op (op_pick_false rfl rfl rfl) rfl rfl rfl ?_
            refine RE.op (op_move rfl rfl) rfl rfl rfl ?_
            refine RE.skip rfl rfl rfl rfl rfl rfl ?_
            refine RE.op (op_pick_false rfl rfl rfl) rfl rfl rfl ?_
            refine RE.op (op_assign rfl rfl) rfl rfl rfl ?_
            simp only [Option.some.injEq] at H
            subst H
            exact RE.nil (weak_sel (env' := [(6, .bool false)]) ⟨rfl, trivial⟩ rfl)
        · clear hj18
          refine then_normal ?_
          refine T_ret ?_
          simp only [Option.some.injEq] at H
          subst H
          exact ret1 rfl rfl rfl

/-! ### 4 bandplan/bandplanlaw32.OutcomeCeiling -/
def bandplanlaw32_OutcomeCeiling.f (k : Nat) (a0 : (List S_api_Entrant)) (a1 : Int) : Option (Bool) := (if ((a0.map S_api_Entrant.enc).length : Int) > 40 then (bandplanlaw32_known.f k ).bind fun t1 => some t1 else (outcome_Ceiling.f k a0 a1).bind fun t3 => (bandplanref32_Ceiling.f k a0 a1).bind fun t5 => ((if t3.1 = t5.1 then (if t3.2 = t5.2 then (bandplanlaw32_known.f k ).bind fun t8 => some t8 else some false) else some false)).bind fun x7 => some x7)
def bandplanlaw32_OutcomeCeiling.S (args : List AV) (v : AV) : Prop := ∃ (k : Nat) (a0 : (List S_api_Entrant)) (a1 : Int) (r : Bool), args = [.lst false (a0.map S_api_Entrant.enc), .int .i64 a1] ∧ bandplanlaw32_OutcomeCeiling.f k a0 a1 = some r ∧ v = .bool r
theorem bandplanlaw32_OutcomeCeiling.ok : VOk Tryd.prog 4 bandplanlaw32_OutcomeCeiling.S := by
  refine V_ok Tryd.func4 rfl fun args v hS => ⟨?_, ?_⟩
  · obtain ⟨k, a0, a1, r, rfl, H, rfl⟩ := hS
    exact Nat.le_of_ble_eq_true rfl
  · obtain ⟨k, a0, a1, r, rfl, H, rfl⟩ := hS
    unfold bandplanlaw32_OutcomeCeiling.f at H
    refine T_seq ?_
    refine T_reg ?_
    refine RE.op (op_assign rfl rfl) rfl rfl rfl ?_
    refine RE.nil ⟨⟨[(0, .lst false (a0.map S_api_Entrant.enc)), (1, .int .i64 a1)], []⟩, weak_sel ⟨rfl, rfl, trivial⟩ rfl, ?_⟩
    refine then_normal ?_
    refine T_seq ?_
    refine T_seq ?_
    refine T_reg ?_
    refine RE.op (op_move rfl rfl) rfl rfl rfl ?_
    refine RE.op (op_len Tryd.underlying37 rfl rfl) rfl rfl rfl ?_
    refine RE.op (op_bin rfl rfl rfl rfl) rfl rfl rfl ?_
    refine RE.nil ⟨⟨[(0, .lst false (a0.map S_api_Entrant.enc)), (1, .int .i64 a1), (11, .bool (decide (((a0.map S_api_Entrant.enc).length : Int) > 40)))], []⟩, weak_sel ⟨rfl, rfl, rfl, trivial⟩ rfl, ?_⟩
    refine then_normal ?_
    by_cases h1 : ((a0.map S_api_Entrant.enc).length : Int) > 40
    · rw [if_pos h1] at H
      refine T_yes rfl (decide_eq_true h1) ?_
      refine T_seq ?_
      refine T_reg ?_
      obtain ⟨t1, ht2, H⟩ := Option.bind_eq_some_iff.1 H
      refine RE.op (op_call (f := 8) rfl rfl rfl rfl en8 bandplanlaw32_known.ok ⟨_, _, rfl, ht2, rfl⟩) rfl rfl rfl ?_
      refine RE.op (op_assign rfl rfl) rfl rfl rfl ?_
      refine RE.nil ⟨⟨[(4, .bool t1)], []⟩, weak_sel ⟨rfl, trivial⟩ rfl, ?_⟩
      refine then_normal ?_
      refine T_ret ?_
      simp only [Option.some.injEq] at H
      subst H
      refine then_ret ?_
      exact ret1 rfl rfl rfl
    · rw [if_neg h1] at H
      refine T_no rfl (decide_eq_false h1) ?_
      refine T_skip ?_
      refine then_normal ?_
      refine T_seq ?_
      refine T_reg ?_
      refine RE.op (op_move rfl rfl) rfl rfl rfl ?_
      refine RE.op (op_move rfl rfl) rfl rfl rfl ?_
      obtain ⟨t3, ht4, H⟩ := Option.bind_eq_some_iff.1 H
      refine RE.op (op_call (f := 13) rfl rfl rfl rfl en13 outcome_Ceiling.ok ⟨_, _, _, _, rfl, ht4, rfl⟩) rfl rfl rfl ?_
      refine RE.op (op_move rfl rfl) rfl rfl rfl ?_
      refine RE.op (op_extract rfl rfl rfl) rfl rfl rfl ?_
      refine RE.op (op_extract rfl rfl rfl) rfl rfl rfl ?_
      refine RE.op (op_assign rfl rfl) rfl rfl rfl ?_
      refine RE.op (op_assign rfl rfl) rfl rfl rfl ?_
      refine RE.nil ⟨⟨[(0, .lst false (a0.map S_api_Entrant.enc)), (1, .int .i64 a1), (5, .int .i64 t3.1), (6, .int .i64 t3.2)], []⟩, weak_sel ⟨rfl, rfl, rfl, rfl, trivial⟩ rfl, ?_⟩
      refine then_normal ?_
      refine T_seq ?_
      refine T_reg ?_
      refine RE.op (op_move rfl rfl) rfl rfl rfl ?_
      refine RE.op (op_move rfl rfl) rfl rfl rfl ?_
      obtain ⟨t5, ht6, H⟩ := Option.bind_eq_some_iff.1 H
      refine RE.op (op_call (f := 14) rfl rfl rfl rfl en14 bandplanref32_Ceiling.ok ⟨_, _, _, _, rfl, ht6, rfl⟩) rfl rfl rfl ?_
      refine RE.op (op_move rfl rfl) rfl rfl rfl ?_
      refine RE.op (op_extract rfl rfl rfl) rfl rfl rfl ?_
      refine RE.op (op_extract rfl rfl rfl) rfl rfl rfl ?_
      refine RE.op (op_assign rfl rfl) rfl rfl rfl ?_
      refine RE.op (op_assign rfl rfl) rfl rfl rfl ?_
      refine RE.nil ⟨⟨[(5, .int .i64 t3.1), (6, .int .i64 t3.2), (7, .int .i64 t5.1), (8, .int .i64 t5.2)], []⟩, weak_sel ⟨rfl, rfl, rfl, rfl, trivial⟩ rfl, ?_⟩
      refine then_normal ?_
      refine T_seq ?_
      obtain ⟨x7, hj10, H⟩ := Option.bind_eq_some_iff.1 H
      refine T_reg_out ⟨[(4, .bool x7)], []⟩ ?_ ?_
      · clear H
        have H := hj10
        clear hj10
        refine RE.op (op_move rfl rfl) rfl rfl rfl ?_
        refine RE.op (op_move rfl rfl) rfl rfl rfl ?_
        refine RE.op (op_bin rfl rfl rfl rfl) rfl rfl rfl ?_
        refine RE.op (op_move rfl rfl) rfl rfl rfl ?_
        by_cases h2 : t3.1 = t5.1
        · rw [if_pos h2] at H
          refine RE.opg (op_move rfl rfl) rfl rfl (getb (beq_iff_eq.mpr h2) rfl) rfl rfl ?_
          refine RE.opg (op_move rfl rfl) rfl rfl (getb (beq_iff_eq.mpr h2) rfl) rfl rfl ?_
          refine RE.opg (op_bin rfl rfl rfl rfl) rfl rfl (getb (beq_iff_eq.mpr h2) rfl) rfl rfl ?_
          refine RE.op (op_pick_true rfl (evb (beq_iff_eq.mpr h2) rfl) rfl) rfl rfl rfl ?_
          refine RE.op (op_move rfl rfl) rfl rfl rfl ?_
          by_cases h3 : t3.2 = t5.2
          · rw [if_pos h3] at H
            obtain ⟨t8, ht9, H⟩ := Option.bind_eq_some_iff.1 H
            refine RE.opg (op_call (f := 8) rfl rfl rfl rfl en8 bandplanlaw32_known.ok ⟨_, _, rfl, ht9, rfl⟩) rfl rfl (getb (beq_iff_eq.mpr h3) rfl) rfl rfl ?_
            refine RE.op (op_pick_true rfl (evb (beq_iff_eq.mpr h3) rfl) rfl) rfl rfl rfl ?_
            refine RE.op (op_assign rfl rfl) rfl rfl rfl ?_
            simp only [Option.some.injEq] at H
            subst H
            exact RE.nil (weak_sel (env' := [(4, .bool t8)]) ⟨rfl, trivial⟩ rfl)
          · rw [if_neg h3] at H
            refine RE.skip rfl rfl (getb (beq_eq_false_iff_ne.mpr h3) rfl) rfl rfl rfl ?_
            refine RE.op (op_pick_false rfl (evb (beq_eq_false_iff_ne.mpr h3) rfl) rfl) rfl rfl rfl ?_
            refine RE.op (op_assign rfl rfl) rfl rfl rfl ?_
            simp only [Option.some.injEq] at H
            subst H
            exact RE.nil (weak_sel (env' := [(4, .bool false)]) ⟨rfl, trivial⟩ rfl)
        · rw [if_neg h2] at H
          refine RE.skip rfl rfl (getb (beq_eq_false_iff_ne.mpr h2) rfl) rfl rfl rfl ?_
          refine RE.skip rfl rfl (getb (beq_eq_false_iff_ne.mpr h2) rfl) rfl rfl rfl ?_
          refine RE.skip rfl rfl (getb (beq_eq_false_iff_ne.mpr h2) rfl) rfl rfl rfl ?_
          refine RE.op (op_pick_false rfl (evb (beq_eq_false_iff_ne.mpr h2) rfl) rfl) rfl rfl rfl ?_
          refine RE.op (op_move rfl rfl) rfl rfl rfl ?_
          refine RE.skip rfl rfl rfl rfl rfl rfl ?_
          refine RE.op (op_pick_false rfl rfl rfl) rfl rfl rfl ?_
          refine RE.op (op_assign rfl rfl) rfl rfl rfl ?_
          simp only [Option.some.injEq] at H
          subst H
          exact RE.nil (weak_sel (env' := [(4, .bool false)]) ⟨rfl, trivial⟩ rfl)
      · clear hj10
        refine then_normal ?_
        refine T_ret ?_
        simp only [Option.some.injEq] at H
        subst H
        exact ret1 rfl rfl rfl

/-! ### 5 bandplan/bandplanlaw32.OutcomeFollows -/
def bandplanlaw32_OutcomeFollows.f (k : Nat) (a0 : S_api_Outcome) (a1 : (List S_api_Entrant)) (a2 : Int) : Option (Bool) := ((bandplanlaw32_small.f a0).bind fun t2 => (if ¬ (t2 = true) then some true else some (decide (((a1.map S_api_Entrant.enc).length : Int) > 40)))).bind fun x1 => (if x1 = true then (bandplanlaw32_known.f k ).bind fun t5 => some t5 else (outcome_Follows.f k a0 a1 a2).bind fun t7 => (bandplanref32_Follows.f k a0 a1 a2).bind fun t9 => ((if t7.1 = t9.1 then (if t7.2 = t9.2 then (bandplanlaw32_known.f k ).bind fun t12 => some t12 else some false) else some false)).bind fun x11 => some x11)
def bandplanlaw32_OutcomeFollows.S (args : List AV) (v : AV) : Prop := ∃ (k : Nat) (a0 : S_api_Outcome) (a1 : (List S_api_Entrant)) (a2 : Int) (r : Bool), args = [S_api_Outcome.enc a0, .lst false (a1.map S_api_Entrant.enc), .int .i64 a2] ∧ bandplanlaw32_OutcomeFollows.f k a0 a1 a2 = some r ∧ v = .bool r
theorem bandplanlaw32_OutcomeFollows.ok : VOk Tryd.prog 5 bandplanlaw32_OutcomeFollows.S := by
  refine V_ok Tryd.func5 rfl fun args v hS => ⟨?_, ?_⟩
  · obtain ⟨k, a0, a1, a2, r, rfl, H, rfl⟩ := hS
    exact Nat.le_of_ble_eq_true rfl
  · obtain ⟨k, a0, a1, a2, r, rfl, H, rfl⟩ := hS
    unfold bandplanlaw32_OutcomeFollows.f at H
    refine T_seq ?_
    refine T_reg ?_
    refine RE.op (op_box (k := 0) rfl rfl rfl rfl) rfl rfl rfl ?_
    refine RE.op (op_assign rfl rfl) rfl rfl rfl ?_
    refine RE.nil ⟨⟨[(1, .lst false (a1.map S_api_Entrant.enc)), (2, .int .i64 a2), (3, .ptr 0 0)], [.cells [.lst false (a0.f_Winners.map S_api_Winner.enc), .lst false (a0.f_Exited.map (AV.int .i64)), .lst false (a0.f_Assignment.map S_api_Choice.enc), .int .i64 a0.f_Cost]]⟩, weak_sel ⟨rfl, rfl, rfl, trivial⟩ rfl, ?_⟩
    refine then_normal ?_
    refine T_seq ?_
    refine T_seq ?_
    obtain ⟨x1, hj4, H⟩ := Option.bind_eq_some_iff.1 H
    refine T_reg_out ⟨[(1, .lst false (a1.map S_api_Entrant.enc)), (2, .int .i64 a2), (3, .ptr 0 0), (18, .bool x1)], [.cells [.lst false (a0.f_Winners.map S_api_Winner.enc), .lst false (a0.f_Exited.map (AV.int .i64)), .lst false (a0.f_Assignment.map S_api_Choice.enc), .int .i64 a0.f_Cost]]⟩ ?_ ?_
    · clear H
      have H := hj4
      clear hj4
      refine RE.op (op_load_agg (ds := [.lst false (a0.f_Winners.map S_api_Winner.enc), .lst false (a0.f_Exited.map (AV.int .i64)), .lst false (a0.f_Assignment.map S_api_Choice.enc), .int .i64 a0.f_Cost]) ti26 rfl rfl rfl rfl (Nat.le_of_ble_eq_true rfl) rfl) rfl rfl rfl ?_
      obtain ⟨t2, ht3, H⟩ := Option.bind_eq_some_iff.1 H
      refine RE.op (op_call (f := 7) rfl rfl rfl rfl en7 bandplanlaw32_small.ok ⟨_, _, rfl, ht3, rfl⟩) rfl rfl rfl ?_
      refine RE.op (op_not rfl rfl) rfl rfl rfl ?_
      refine RE.op (op_move rfl rfl) rfl rfl rfl ?_
      by_cases h1 : ¬ (t2 = true)
      · rw [if_pos h1] at H
        refine RE.skip rfl rfl (getb (not_t (Bool.eq_false_iff.mpr h1)) rfl) rfl rfl rfl ?_
        refine RE.skip rfl rfl (getb (not_t (Bool.eq_false_iff.mpr h1)) rfl) rfl rfl rfl ?_
        refine RE.skip rfl rfl (getb (not_t (Bool.eq_false_iff.mpr h1)) rfl) rfl rfl rfl ?_
        refine RE.op (op_pick_true rfl (evb (not_t (Bool.eq_false_iff.mpr h1)) rfl) rfl) rfl rfl rfl ?_
        simp only [Option.some.injEq] at H
        subst H
        exact RE.nil (weak_sel (env' := [(1, .lst false (a1.map S_api_Entrant.enc)), (2, .int .i64 a2), (3, .ptr 0 0), (18, .bool true)]) ⟨rfl, rfl, rfl, rfl, trivial⟩ rfl)
      · rw [if_neg h1] at H
        refine RE.opg (op_move rfl rfl) rfl rfl (getb (not_f (Decidable.of_not_not h1)) rfl) rfl rfl ?_
        refine RE.opg (op_len Tryd.underlying37 rfl rfl) rfl rfl (getb (not_f (Decidable.of_not_not h1)) rfl) rfl rfl ?_
        refine RE.opg (op_bin rfl rfl rfl rfl) rfl rfl (getb (not_f (Decidable.of_not_not h1)) rfl) rfl rfl ?_
        refine RE.op (op_pick_false rfl (evb (not_f (Decidable.of_not_not h1)) rfl) rfl) rfl rfl rfl ?_
        simp only [Option.some.injEq] at H
        subst H
        exact RE.nil (weak_sel (env' := [(1, .lst false (a1.map S_api_Entrant.enc)), (2, .int .i64 a2), (3, .ptr 0 0), (18, .bool (decide (((a1.map S_api_Entrant.enc).length : Int) > 40)))]) ⟨rfl, rfl, rfl, rfl, trivial⟩ rfl)
    · clear hj4
      refine then_normal ?_
      by_cases h2 : x1 = true
      · rw [if_pos h2] at H
        refine T_yes rfl h2 ?_
        refine T_seq ?_
        refine T_reg ?_
        obtain ⟨t5, ht6, H⟩ := Option.bind_eq_some_iff.1 H
        refine RE.op (op_call (f := 8) rfl rfl rfl rfl en8 bandplanlaw32_known.ok ⟨_, _, rfl, ht6, rfl⟩) rfl rfl rfl ?_
        refine RE.op (op_assign rfl rfl) rfl rfl rfl ?_
        refine RE.nil ⟨⟨[(6, .bool t5)], [.cells [.lst false (a0.f_Winners.map S_api_Winner.enc), .lst false (a0.f_Exited.map (AV.int .i64)), .lst false (a0.f_Assignment.map S_api_Choice.enc), .int .i64 a0.f_Cost]]⟩, weak_sel ⟨rfl, trivial⟩ rfl, ?_⟩
        refine then_normal ?_
        refine T_ret ?_
        simp only [Option.some.injEq] at H
        subst H
        refine then_ret ?_
        exact ret1 rfl rfl rfl
      · rw [if_neg h2] at H
        refine T_no rfl (Bool.eq_false_iff.mpr h2) ?_
        refine T_skip ?_
        refine then_normal ?_
        refine T_seq ?_
        refine T_reg ?_
        refine RE.op (op_load_agg (ds := [.lst false (a0.f_Winners.map S_api_Winner.enc), .lst false (a0.f_Exited.map (AV.int .i64)), .lst false (a0.f_Assignment.map S_api_Choice.enc), .int .i64 a0.f_Cost]) ti26 rfl rfl rfl rfl (Nat.le_of_ble_eq_true rfl) rfl) rfl rfl rfl ?_
        refine RE.op (op_move rfl rfl) rfl rfl rfl ?_
        refine RE.op (op_move rfl rfl) rfl rfl rfl ?_
        obtain ⟨t7, ht8, H⟩ := Option.bind_eq_some_iff.1 H
        refine RE.op (op_call (f := 15) rfl rfl rfl rfl en15 outcome_Follows.ok ⟨_, _, _, _, _, rfl, ht8, rfl⟩) rfl rfl rfl ?_
        refine RE.op (op_move rfl rfl) rfl rfl rfl ?_
        refine RE.op (op_extract rfl rfl rfl) rfl rfl rfl ?_
        refine RE.op (op_extract rfl rfl rfl) rfl rfl rfl ?_
        refine RE.op (op_assign rfl rfl) rfl rfl rfl ?_
        refine RE.op (op_assign rfl rfl) rfl rfl rfl ?_
        refine RE.nil ⟨⟨[(1, .lst false (a1.map S_api_Entrant.enc)), (2, .int .i64 a2), (3, .ptr 0 0), (7, .bool t7.1), (8, .int .i64 t7.2)], [.cells [.lst false (a0.f_Winners.map S_api_Winner.enc), .lst false (a0.f_Exited.map (AV.int .i64)), .lst false (a0.f_Assignment.map S_api_Choice.enc), .int .i64 a0.f_Cost]]⟩, weak_sel ⟨rfl, rfl, rfl, rfl, rfl, trivial⟩ rfl, ?_⟩
        refine then_normal ?_
        refine T_seq ?_
        refine T_reg ?_
        refine RE.op (op_load_agg (ds := [.lst false (a0.f_Winners.map S_api_Winner.enc), .lst false (a0.f_Exited.map (AV.int .i64)), .lst false (a0.f_Assignment.map S_api_Choice.enc), .int .i64 a0.f_Cost]) ti26 rfl rfl rfl rfl (Nat.le_of_ble_eq_true rfl) rfl) rfl rfl rfl ?_
        refine RE.op (op_move rfl rfl) rfl rfl rfl ?_
        refine RE.op (op_move rfl rfl) rfl rfl rfl ?_
        obtain ⟨t9, ht10, H⟩ := Option.bind_eq_some_iff.1 H
        refine RE.op (op_call (f := 16) rfl rfl rfl rfl en16 bandplanref32_Follows.ok ⟨_, _, _, _, _, rfl, ht10, rfl⟩) rfl rfl rfl ?_
        refine RE.op (op_move rfl rfl) rfl rfl rfl ?_
        refine RE.op (op_extract rfl rfl rfl) rfl rfl rfl ?_
        refine RE.op (op_extract rfl rfl rfl) rfl rfl rfl ?_
        refine RE.op (op_assign rfl rfl) rfl rfl rfl ?_
        refine RE.op (op_assign rfl rfl) rfl rfl rfl ?_
        refine RE.nil ⟨⟨[(7, .bool t7.1), (8, .int .i64 t7.2), (9, .bool t9.1), (10, .int .i64 t9.2)], [.cells [.lst false (a0.f_Winners.map S_api_Winner.enc), .lst false (a0.f_Exited.map (AV.int .i64)), .lst false (a0.f_Assignment.map S_api_Choice.enc), .int .i64 a0.f_Cost]]⟩, weak_sel ⟨rfl, rfl, rfl, rfl, trivial⟩ rfl, ?_⟩
        refine then_normal ?_
        refine T_seq ?_
        obtain ⟨x11, hj14, H⟩ := Option.bind_eq_some_iff.1 H
        refine T_reg_out ⟨[(6, .bool x11)], [.cells [.lst false (a0.f_Winners.map S_api_Winner.enc), .lst false (a0.f_Exited.map (AV.int .i64)), .lst false (a0.f_Assignment.map S_api_Choice.enc), .int .i64 a0.f_Cost]]⟩ ?_ ?_
        · clear H
          have H := hj14
          clear hj14
          refine RE.op (op_move rfl rfl) rfl rfl rfl ?_
          refine RE.op (op_move rfl rfl) rfl rfl rfl ?_
          refine RE.op (op_eqb Tryd.underlying4 rfl rfl rfl) rfl rfl rfl ?_
          refine RE.op (op_move rfl rfl) rfl rfl rfl ?_
          by_cases h3 : t7.1 = t9.1
          · rw [if_pos h3] at H
            refine RE.opg (op_move rfl rfl) rfl rfl (getb (beq_iff_eq.mpr h3) rfl) rfl rfl ?_
            refine RE.opg (op_move rfl rfl) rfl rfl (getb (beq_iff_eq.mpr h3) rfl) rfl rfl ?_
            refine RE.opg (op_bin rfl rfl rfl rfl) rfl rfl (getb (beq_iff_eq.mpr h3) rfl) rfl rfl ?_
            refine RE.op (op_pick_true rfl (evb (beq_iff_eq.mpr h3) rfl) rfl) rfl rfl rfl ?_
            refine RE.op (op_move rfl rfl) rfl rfl rfl ?_
            by_cases h4 : t7.2 = t9.2
            · rw [if_pos h4] at H
              obtain ⟨t12, ht13, H⟩ := Option.bind_eq_some_iff.1 H
              refine RE.opg (op_call (f := 8) rfl rfl rfl rfl en8 bandplanlaw32_known.ok ⟨_, _, rfl, ht13, rfl⟩) rfl rfl (getb (beq_iff_eq.mpr h4) rfl) rfl rfl ?_
              refine RE.op (op_pick_true rfl (evb (beq_iff_eq.mpr h4) rfl) rfl) rfl rfl rfl ?_
              refine RE.op (op_assign rfl rfl) rfl rfl rfl ?_
              simp only [Option.some.injEq] at H
              subst H
              exact RE.nil (weak_sel (env' := [(6, .bool t12)]) ⟨rfl, trivial⟩ rfl)
            · rw [if_neg h4] at H
              refine RE.skip rfl rfl (getb (beq_eq_false_iff_ne.mpr h4) rfl) rfl rfl rfl ?_
              refine RE.op (op_pick_false rfl (evb (beq_eq_false_iff_ne.mpr h4) rfl) rfl) rfl rfl rfl ?_
              refine RE.op (op_assign rfl rfl) rfl rfl rfl ?_
              simp only [Option.some.injEq] at H
              subst H
              exact RE.nil (weak_sel (env' := [(6, .bool false)]) ⟨rfl, trivial⟩ rfl)
          · rw [if_neg h3] at H
            refine RE.skip rfl rfl (getb (beq_eq_false_iff_ne.mpr h3) rfl) rfl rfl rfl ?_
            refine RE.skip rfl rfl (getb (beq_eq_false_iff_ne.mpr h3) rfl) rfl rfl rfl ?_
            refine RE.skip rfl rfl (getb (beq_eq_false_iff_ne.mpr h3) rfl) rfl rfl rfl ?_
            refine RE.op (op_pick_false rfl (evb (beq_eq_false_iff_ne.mpr h3) rfl) rfl) rfl rfl rfl ?_
            refine RE.op (op_move rfl rfl) rfl rfl rfl ?_
            refine RE.skip rfl rfl rfl rfl rfl rfl ?_
            refine RE.op (op_pick_false rfl rfl rfl) rfl rfl rfl ?_
            refine RE.op (op_assign rfl rfl) rfl rfl rfl ?_
            simp only [Option.some.injEq] at H
            subst H
            exact RE.nil (weak_sel (env' := [(6, .bool false)]) ⟨rfl, trivial⟩ rfl)
        · clear hj14
          refine then_normal ?_
          refine T_ret ?_
          simp only [Option.some.injEq] at H
          subst H
          exact ret1 rfl rfl rfl

/-! ### 6 bandplan/bandplanlaw32.OutcomeValid -/
def bandplanlaw32_OutcomeValid.f (k : Nat) (a0 : S_api_Outcome) (a1 : S_api_Outcome) : Option (Bool) := ((bandplanlaw32_small.f a0).bind fun t2 => (if ¬ (t2 = true) then some true else (bandplanlaw32_small.f a1).bind fun t4 => some (!t4))).bind fun x1 => (if x1 = true then (bandplanlaw32_known.f k ).bind fun t7 => some t7 else ((outcome_Valid.f k a0).bind fun t10 => (bandplanref32_Valid.f k a0).bind fun t12 => (if t10 = t12 then (outcome_Equal.f k a0 a1).bind fun t14 => (bandplanref32_Same.f k a0 a1).bind fun t16 => (if t14 = t16 then (outcome_Equal.f k a0 a0).bind fun t18 => (if t18 = true then (bandplanlaw32_known.f k ).bind fun t20 => some t20 else some false) else some false) else some false)).bind fun x9 => some x9)
def bandplanlaw32_OutcomeValid.S (args : List AV) (v : AV) : Prop := ∃ (k : Nat) (a0 : S_api_Outcome) (a1 : S_api_Outcome) (r : Bool), args = [S_api_Outcome.enc a0, S_api_Outcome.enc a1] ∧ bandplanlaw32_OutcomeValid.f k a0 a1 = some r ∧ v = .bool r
theorem bandplanlaw32_OutcomeValid.ok : VOk Tryd.prog 6 bandplanlaw32_OutcomeValid.S := by
  refine V_ok Tryd.func6 rfl fun args v hS => ⟨?_, ?_⟩
  · obtain ⟨k, a0, a1, r, rfl, H, rfl⟩ := hS
    exact Nat.le_of_ble_eq_true rfl
  · obtain ⟨k, a0, a1, r, rfl, H, rfl⟩ := hS
    unfold bandplanlaw32_OutcomeValid.f at H
    refine T_seq ?_
    refine T_reg ?_
    refine RE.op (op_box (k := 0) rfl rfl rfl rfl) rfl rfl rfl ?_
    refine RE.op (op_box (k := 1) rfl rfl rfl rfl) rfl rfl rfl ?_
    refine RE.op (op_assign rfl rfl) rfl rfl rfl ?_
    refine RE.nil ⟨⟨[(2, .ptr 0 0), (3, .ptr 1 0)], [.cells [.lst false (a0.f_Winners.map S_api_Winner.enc), .lst false (a0.f_Exited.map (AV.int .i64)), .lst false (a0.f_Assignment.map S_api_Choice.enc), .int .i64 a0.f_Cost], .cells [.lst false (a1.f_Winners.map S_api_Winner.enc), .lst false (a1.f_Exited.map (AV.int .i64)), .lst false (a1.f_Assignment.map S_api_Choice.enc), .int .i64 a1.f_Cost]]⟩, weak_sel ⟨rfl, rfl, trivial⟩ rfl, ?_⟩
    refine then_normal ?_
    refine T_seq ?_
    refine T_seq ?_
    obtain ⟨x1, hj6, H⟩ := Option.bind_eq_some_iff.1 H
    refine T_reg_out ⟨[(2, .ptr 0 0), (3, .ptr 1 0), (12, .bool x1)], [.cells [.lst false (a0.f_Winners.map S_api_Winner.enc), .lst false (a0.f_Exited.map (AV.int .i64)), .lst false (a0.f_Assignment.map S_api_Choice.enc), .int .i64 a0.f_Cost], .cells [.lst false (a1.f_Winners.map S_api_Winner.enc), .lst false (a1.f_Exited.map (AV.int .i64)), .lst false (a1.f_Assignment.map S_api_Choice.enc), .int .i64 a1.f_Cost]]⟩ ?_ ?_
    · clear H
      have H := hj6
      clear hj6
      refine RE.op (op_load_agg (ds := [.lst false (a0.f_Winners.map S_api_Winner.enc), .lst false (a0.f_Exited.map (AV.int .i64)), .lst false (a0.f_Assignment.map S_api_Choice.enc), .int .i64 a0.f_Cost]) ti26 rfl rfl rfl rfl (Nat.le_of_ble_eq_true rfl) rfl) rfl rfl rfl ?_
      obtain ⟨t2, ht3, H⟩ := Option.bind_eq_some_iff.1 H
      refine RE.op (op_call (f := 7) rfl rfl rfl rfl en7 bandplanlaw32_small.ok ⟨_, _, rfl, ht3, rfl⟩) rfl rfl rfl ?_
      refine RE.op (op_not rfl rfl) rfl rfl rfl ?_
      refine RE.op (op_move rfl rfl) rfl rfl rfl ?_
      by_cases h1 : ¬ (t2 = true)
      · rw [if_pos h1] at H
        refine RE.skip rfl rfl (getb (not_t (Bool.eq_false_iff.mpr h1)) rfl) rfl rfl rfl ?_
        refine RE.skip rfl rfl (getb (not_t (Bool.eq_false_iff.mpr h1)) rfl) rfl rfl rfl ?_
        refine RE.skip rfl rfl (getb (not_t (Bool.eq_false_iff.mpr h1)) rfl) rfl rfl rfl ?_
        refine RE.op (op_pick_true rfl (evb (not_t (Bool.eq_false_iff.mpr h1)) rfl) rfl) rfl rfl rfl ?_
        simp only [Option.some.injEq] at H
        subst H
        exact RE.nil (weak_sel (env' := [(2, .ptr 0 0), (3, .ptr 1 0), (12, .bool true)]) ⟨rfl, rfl, rfl, trivial⟩ rfl)
      · rw [if_neg h1] at H
        refine RE.opg (op_load_agg (ds := [.lst false (a1.f_Winners.map S_api_Winner.enc), .lst false (a1.f_Exited.map (AV.int .i64)), .lst false (a1.f_Assignment.map S_api_Choice.enc), .int .i64 a1.f_Cost]) ti26 rfl rfl rfl rfl (Nat.le_of_ble_eq_true rfl) rfl) rfl rfl (getb (not_f (Decidable.of_not_not h1)) rfl) rfl rfl ?_
        obtain ⟨t4, ht5, H⟩ := Option.bind_eq_some_iff.1 H
        refine RE.opg (op_call (f := 7) rfl rfl rfl rfl en7 bandplanlaw32_small.ok ⟨_, _, rfl, ht5, rfl⟩) rfl rfl (getb (not_f (Decidable.of_not_not h1)) rfl) rfl rfl ?_
        refine RE.opg (op_not rfl rfl) rfl rfl (getb (not_f (Decidable.of_not_not h1)) rfl) rfl rfl ?_
        refine RE.op (op_pick_false rfl (evb (not_f (Decidable.of_not_not h1)) rfl) rfl) rfl rfl rfl ?_
        simp only [Option.some.injEq] at H
        subst H
        exact RE.nil (weak_sel (env' := [(2, .ptr 0 0), (3, .ptr 1 0), (12, .bool (!t4))]) ⟨rfl, rfl, rfl, trivial⟩ rfl)
    · clear hj6
      refine then_normal ?_
      by_cases h2 : x1 = true
      · rw [if_pos h2] at H
        refine T_yes rfl h2 ?_
        refine T_seq ?_
        refine T_reg ?_
        obtain ⟨t7, ht8, H⟩ := Option.bind_eq_some_iff.1 H
        refine RE.op (op_call (f := 8) rfl rfl rfl rfl en8 bandplanlaw32_known.ok ⟨_, _, rfl, ht8, rfl⟩) rfl rfl rfl ?_
        refine RE.op (op_assign rfl rfl) rfl rfl rfl ?_
        refine RE.nil ⟨⟨[(4, .bool t7)], [.cells [.lst false (a0.f_Winners.map S_api_Winner.enc), .lst false (a0.f_Exited.map (AV.int .i64)), .lst false (a0.f_Assignment.map S_api_Choice.enc), .int .i64 a0.f_Cost], .cells [.lst false (a1.f_Winners.map S_api_Winner.enc), .lst false (a1.f_Exited.map (AV.int .i64)), .lst false (a1.f_Assignment.map S_api_Choice.enc), .int .i64 a1.f_Cost]]⟩, weak_sel ⟨rfl, trivial⟩ rfl, ?_⟩
        refine then_normal ?_
        refine T_ret ?_
        simp only [Option.some.injEq] at H
        subst H
        refine then_ret ?_
        exact ret1 rfl rfl rfl
      · rw [if_neg h2] at H
        refine T_no rfl (Bool.eq_false_iff.mpr h2) ?_
        refine T_skip ?_
        refine then_normal ?_
        refine T_seq ?_
        obtain ⟨x9, hj22, H⟩ := Option.bind_eq_some_iff.1 H
        refine T_drawn_out mix [0, 1, 0, 7, 15, 31, 63, 63, 255, 63, 63, 2047, 4095, 8191, 16383, 32767, 32767, 131071, 262143, 524287, 1048575, 2097151, 4194303] (by kernel_rfl) ⟨[(4, .bool x9)], [.cells [.lst false (a0.f_Winners.map S_api_Winner.enc), .lst false (a0.f_Exited.map (AV.int .i64)), .lst false (a0.f_Assignment.map S_api_Choice.enc), .int .i64 a0.f_Cost], .cells [.lst false (a1.f_Winners.map S_api_Winner.enc), .lst false (a1.f_Exited.map (AV.int .i64)), .lst false (a1.f_Assignment.map S_api_Choice.enc), .int .i64 a1.f_Cost]]⟩ ?_ ?_
        · clear H
          have H := hj22
          clear hj22
          refine RD.l (i := 0) [(2, .ptr 0 0)] (by repeat (first | exact trivial | refine ⟨rfl, ?_⟩)) rfl (fun _ hb => (op_load_agg (ds := [.lst false (a0.f_Winners.map S_api_Winner.enc), .lst false (a0.f_Exited.map (AV.int .i64)), .lst false (a0.f_Assignment.map S_api_Choice.enc), .int .i64 a0.f_Cost]) ti26 rfl rfl rfl hb (Nat.le_of_ble_eq_true rfl) rfl)) rfl rfl rfl ?_
          obtain ⟨t10, ht11, H⟩ := Option.bind_eq_some_iff.1 H
          refine RD.q [(14, .agg [.lst false (a0.f_Winners.map S_api_Winner.enc), .lst false (a0.f_Exited.map (AV.int .i64)), .lst false (a0.f_Assignment.map S_api_Choice.enc), .int .i64 a0.f_Cost])] (by repeat (first | exact trivial | refine ⟨rfl, ?_⟩)) (fun _ => (op_call (f := 17) rfl rfl rfl rfl en17 outcome_Valid.ok ⟨_, _, _, rfl, ht11, rfl⟩)) rfl rfl rfl ?_
          refine RD.l (i := 0) [(2, .ptr 0 0)] (by repeat (first | exact trivial | refine ⟨rfl, ?_⟩)) rfl (fun _ hb => (op_load_agg (ds := [.lst false (a0.f_Winners.map S_api_Winner.enc), .lst false (a0.f_Exited.map (AV.int .i64)), .lst false (a0.f_Assignment.map S_api_Choice.enc), .int .i64 a0.f_Cost]) ti26 rfl rfl rfl hb (Nat.le_of_ble_eq_true rfl) rfl)) rfl rfl rfl ?_
          obtain ⟨t12, ht13, H⟩ := Option.bind_eq_some_iff.1 H
          refine RD.q [(16, .agg [.lst false (a0.f_Winners.map S_api_Winner.enc), .lst false (a0.f_Exited.map (AV.int .i64)), .lst false (a0.f_Assignment.map S_api_Choice.enc), .int .i64 a0.f_Cost])] (by repeat (first | exact trivial | refine ⟨rfl, ?_⟩)) (fun _ => (op_call (f := 18) rfl rfl rfl rfl en18 bandplanref32_Valid.ok ⟨_, _, _, rfl, ht13, rfl⟩)) rfl rfl rfl ?_
          refine RD.q [(15, .bool t10), (17, .bool t12)] (by repeat (first | exact trivial | refine ⟨rfl, ?_⟩)) (fun _ => (op_eqb Tryd.underlying4 rfl rfl rfl)) rfl rfl rfl ?_
          refine RD.q [(18, .bool (t10 == t12))] (by repeat (first | exact trivial | refine ⟨rfl, ?_⟩)) (fun _ => (op_move rfl rfl)) rfl rfl rfl ?_
          by_cases h3 : t10 = t12
          · rw [if_pos h3] at H
            refine RD.lg (i := 0) [(2, .ptr 0 0)] (by repeat (first | exact trivial | refine ⟨rfl, ?_⟩)) rfl (fun _ hb => (op_load_agg (ds := [.lst false (a0.f_Winners.map S_api_Winner.enc), .lst false (a0.f_Exited.map (AV.int .i64)), .lst false (a0.f_Assignment.map S_api_Choice.enc), .int .i64 a0.f_Cost]) ti26 rfl rfl rfl hb (Nat.le_of_ble_eq_true rfl) rfl)) rfl rfl (getb (beq_iff_eq.mpr h3) rfl) rfl rfl ?_
            refine RD.lg (i := 1) [(3, .ptr 1 0)] (by repeat (first | exact trivial | refine ⟨rfl, ?_⟩)) rfl (fun _ hb => (op_load_agg (ds := [.lst false (a1.f_Winners.map S_api_Winner.enc), .lst false (a1.f_Exited.map (AV.int .i64)), .lst false (a1.f_Assignment.map S_api_Choice.enc), .int .i64 a1.f_Cost]) ti26 rfl rfl rfl hb (Nat.le_of_ble_eq_true rfl) rfl)) rfl rfl (getb (beq_iff_eq.mpr h3) rfl) rfl rfl ?_
            obtain ⟨t14, ht15, H⟩ := Option.bind_eq_some_iff.1 H
            refine RD.qg [(20, .agg [.lst false (a0.f_Winners.map S_api_Winner.enc), .lst false (a0.f_Exited.map (AV.int .i64)), .lst false (a0.f_Assignment.map S_api_Choice.enc), .int .i64 a0.f_Cost]), (21, .agg [.lst false (a1.f_Winners.map S_api_Winner.enc), .lst false (a1.f_Exited.map (AV.int .i64)), .lst false (a1.f_Assignment.map S_api_Choice.enc), .int .i64 a1.f_Cost])] (by repeat (first | exact trivial | refine ⟨rfl, ?_⟩)) (fun _ => (op_call (f := 19) rfl rfl rfl rfl en19 outcome_Equal.ok ⟨_, _, _, _, rfl, ht15, rfl⟩)) rfl rfl (getb (beq_iff_eq.mpr h3) rfl) rfl rfl ?_
            refine RD.lg (i := 0) [(2, .ptr 0 0)] (by repeat (first | exact trivial | refine ⟨rfl, ?_⟩)) rfl (fun _ hb => (op_load_agg (ds := [.lst false (a0.f_Winners.map S_api_Winner.enc), .lst false (a0.f_Exited.map (AV.int .i64)), .lst false (a0.f_Assignment.map S_api_Choice.enc), .int .i64 a0.f_Cost]) ti26 rfl rfl rfl hb (Nat.le_of_ble_eq_true rfl) rfl)) rfl rfl (getb (beq_iff_eq.mpr h3) rfl) rfl rfl ?_
            refine RD.lg (i := 1) [(3, .ptr 1 0)] (by repeat (first | exact trivial | refine ⟨rfl, ?_⟩)) rfl (fun _ hb => (op_load_agg (ds := [.lst false (a1.f_Winners.map S_api_Winner.enc), .lst false (a1.f_Exited.map (AV.int .i64)), .lst false (a1.f_Assignment.map S_api_Choice.enc), .int .i64 a1.f_Cost]) ti26 rfl rfl rfl hb (Nat.le_of_ble_eq_true rfl) rfl)) rfl rfl (getb (beq_iff_eq.mpr h3) rfl) rfl rfl ?_
            obtain ⟨t16, ht17, H⟩ := Option.bind_eq_some_iff.1 H
            refine RD.qg [(23, .agg [.lst false (a0.f_Winners.map S_api_Winner.enc), .lst false (a0.f_Exited.map (AV.int .i64)), .lst false (a0.f_Assignment.map S_api_Choice.enc), .int .i64 a0.f_Cost]), (24, .agg [.lst false (a1.f_Winners.map S_api_Winner.enc), .lst false (a1.f_Exited.map (AV.int .i64)), .lst false (a1.f_Assignment.map S_api_Choice.enc), .int .i64 a1.f_Cost])] (by repeat (first | exact trivial | refine ⟨rfl, ?_⟩)) (fun _ => (op_call (f := 20) rfl rfl rfl rfl en20 bandplanref32_Same.ok ⟨_, _, _, _, rfl, ht17, rfl⟩)) rfl rfl (getb (beq_iff_eq.mpr h3) rfl) rfl rfl ?_
            refine RD.qg [(22, .bool t14), (25, .bool t16)] (by repeat (first | exact trivial | refine ⟨rfl, ?_⟩)) (fun _ => (op_eqb Tryd.underlying4 rfl rfl rfl)) rfl rfl (getb (beq_iff_eq.mpr h3) rfl) rfl rfl ?_
            refine RD.q [(19, .bool (t10 == t12)), (26, .bool (t14 == t16))] (by repeat (first | exact trivial | refine ⟨rfl, ?_⟩)) (fun _ => (op_pick_true rfl (evb (beq_iff_eq.mpr h3) rfl) rfl)) rfl rfl rfl ?_
            refine RD.q [(27, .bool (t14 == t16))] (by repeat (first | exact trivial | refine ⟨rfl, ?_⟩)) (fun _ => (op_move rfl rfl)) rfl rfl rfl ?_
            by_cases h4 : t14 = t16
            · rw [if_pos h4] at H
              refine RD.lg (i := 0) [(2, .ptr 0 0)] (by repeat (first | exact trivial | refine ⟨rfl, ?_⟩)) rfl (fun _ hb => (op_load_agg (ds := [.lst false (a0.f_Winners.map S_api_Winner.enc), .lst false (a0.f_Exited.map (AV.int .i64)), .lst false (a0.f_Assignment.map S_api_Choice.enc), .int .i64 a0.f_Cost]) ti26 rfl rfl rfl hb (Nat.le_of_ble_eq_true rfl) rfl)) rfl rfl (getb (beq_iff_eq.mpr h4) rfl) rfl rfl ?_
              refine RD.lg (i := 0) [(2, .ptr 0 0)] (by repeat (first | exact trivial | refine ⟨rfl, ?_⟩)) rfl (fun _ hb => (op_load_agg (ds := [.lst false (a0.f_Winners.map S_api_Winner.enc), .lst false (a0.f_Exited.map (AV.int .i64)), .lst false (a0.f_Assignment.map S_api_Choice.enc), .int .i64 a0.f_Cost]) ti26 rfl rfl rfl hb (Nat.le_of_ble_eq_true rfl) rfl)) rfl rfl (getb (beq_iff_eq.mpr h4) rfl) rfl rfl ?_
              obtain ⟨t18, ht19, H⟩ := Option.bind_eq_some_iff.1 H
              refine RD.qg [(29, .agg [.lst false (a0.f_Winners.map S_api_Winner.enc), .lst false (a0.f_Exited.map (AV.int .i64)), .lst false (a0.f_Assignment.map S_api_Choice.enc), .int .i64 a0.f_Cost]), (30, .agg [.lst false (a0.f_Winners.map S_api_Winner.enc), .lst false (a0.f_Exited.map (AV.int .i64)), .lst false (a0.f_Assignment.map S_api_Choice.enc), .int .i64 a0.f_Cost])] (by repeat (first | exact trivial | refine ⟨rfl, ?_⟩)) (fun _ => (op_call (f := 19) rfl rfl rfl rfl en19 outcome_Equal.ok ⟨_, _, _, _, rfl, ht19, rfl⟩)) rfl rfl (getb (beq_iff_eq.mpr h4) rfl) rfl rfl ?_
              refine RD.q [(28, .bool (t14 == t16)), (31, .bool t18)] (by repeat (first | exact trivial | refine ⟨rfl, ?_⟩)) (fun _ => (op_pick_true rfl (evb (beq_iff_eq.mpr h4) rfl) rfl)) rfl rfl rfl ?_
              refine RD.q [(32, .bool t18)] (by repeat (first | exact trivial | refine ⟨rfl, ?_⟩)) (fun _ => (op_move rfl rfl)) rfl rfl rfl ?_
              by_cases h5 : t18 = true
              · rw [if_pos h5] at H
                obtain ⟨t20, ht21, H⟩ := Option.bind_eq_some_iff.1 H
                refine RD.qg [] (by repeat (first | exact trivial | refine ⟨rfl, ?_⟩)) (fun _ => (op_call (f := 8) rfl rfl rfl rfl en8 bandplanlaw32_known.ok ⟨_, _, rfl, ht21, rfl⟩)) rfl rfl (getb h5 rfl) rfl rfl ?_
                refine RD.q [(33, .bool t18), (34, .bool t20)] (by repeat (first | exact trivial | refine ⟨rfl, ?_⟩)) (fun _ => (op_pick_true rfl (evb h5 rfl) rfl)) rfl rfl rfl ?_
                refine RD.q [(35, .bool t20)] (by repeat (first | exact trivial | refine ⟨rfl, ?_⟩)) (fun _ => (op_assign rfl rfl)) rfl rfl rfl ?_
                simp only [Option.some.injEq] at H
                subst H
                exact RD.nil (by kernel_rfl) (weak_sel (env' := [(4, .bool t20)]) ⟨rfl, trivial⟩ rfl)
              · rw [if_neg h5] at H
                refine RD.skip rfl rfl (getb (Bool.eq_false_iff.mpr h5) rfl) rfl rfl rfl ?_
                refine RD.q [(33, .bool t18), (34, .tup [])] (by repeat (first | exact trivial | refine ⟨rfl, ?_⟩)) (fun _ => (op_pick_false rfl (evb (Bool.eq_false_iff.mpr h5) rfl) rfl)) rfl rfl rfl ?_
                refine RD.q [(35, .bool false)] (by repeat (first | exact trivial | refine ⟨rfl, ?_⟩)) (fun _ => (op_assign rfl rfl)) rfl rfl rfl ?_
                simp only [Option.some.injEq] at H
                subst H
                exact RD.nil (by kernel_rfl) (weak_sel (env' := [(4, .bool false)]) ⟨rfl, trivial⟩ rfl)
            · rw [if_neg h4] at H
              refine RD.skip rfl rfl (getb (beq_eq_false_iff_ne.mpr h4) rfl) rfl rfl rfl ?_
              refine RD.skip rfl rfl (getb (beq_eq_false_iff_ne.mpr h4) rfl) rfl rfl rfl ?_
              refine RD.skip rfl rfl (getb (beq_eq_false_iff_ne.mpr h4) rfl) rfl rfl rfl ?_
              refine RD.q [(28, .bool (t14 == t16)), (31, .tup [])] (by repeat (first | exact trivial | refine ⟨rfl, ?_⟩)) (fun _ => (op_pick_false rfl (evb (beq_eq_false_iff_ne.mpr h4) rfl) rfl)) rfl rfl rfl ?_
              refine RD.q [(32, .bool false)] (by repeat (first | exact trivial | refine ⟨rfl, ?_⟩)) (fun _ => (op_move rfl rfl)) rfl rfl rfl ?_
              refine RD.skip rfl rfl rfl rfl rfl rfl ?_
              refine RD.q [(33, .bool false), (34, .tup [])] (by repeat (first | exact trivial | refine ⟨rfl, ?_⟩)) (fun _ => (op_pick_false rfl rfl rfl)) rfl rfl rfl ?_
              refine RD.q [(35, .bool false)] (by repeat (first | exact trivial | refine ⟨rfl, ?_⟩)) (fun _ => (op_assign rfl rfl)) rfl rfl rfl ?_
              simp only [Option.some.injEq] at H
              subst H
              exact RD.nil (by kernel_rfl) (weak_sel (env' := [(4, .bool false)]) ⟨rfl, trivial⟩ rfl)
          · rw [if_neg h3] at H
            refine RD.skip rfl rfl (getb (beq_eq_false_iff_ne.mpr h3) rfl) rfl rfl rfl ?_
            refine RD.skip rfl rfl (getb (beq_eq_false_iff_ne.mpr h3) rfl) rfl rfl rfl ?_
            refine RD.skip rfl rfl (getb (beq_eq_false_iff_ne.mpr h3) rfl) rfl rfl rfl ?_
            refine RD.skip rfl rfl (getb (beq_eq_false_iff_ne.mpr h3) rfl) rfl rfl rfl ?_
            refine RD.skip rfl rfl (getb (beq_eq_false_iff_ne.mpr h3) rfl) rfl rfl rfl ?_
            refine RD.skip rfl rfl (getb (beq_eq_false_iff_ne.mpr h3) rfl) rfl rfl rfl ?_
            refine RD.skip rfl rfl (getb (beq_eq_false_iff_ne.mpr h3) rfl) rfl rfl rfl ?_
            refine RD.q [(19, .bool (t10 == t12)), (26, .tup [])] (by repeat (first | exact trivial | refine ⟨rfl, ?_⟩)) (fun _ => (op_pick_false rfl (evb (beq_eq_false_iff_ne.mpr h3) rfl) rfl)) rfl rfl rfl ?_
            refine RD.q [(27, .bool false)] (by repeat (first | exact trivial | refine ⟨rfl, ?_⟩)) (fun _ => (op_move rfl rfl)) rfl rfl rfl ?_
            refine RD.skip rfl rfl rfl rfl rfl rfl ?_
            refine RD.skip rfl rfl rfl rfl rfl rfl ?_
            refine RD.skip rfl rfl rfl rfl rfl rfl ?_
            refine RD.q [(28, .bool false), (31, .tup [])] (by repeat (first | exact trivial | refine ⟨rfl, ?_⟩)) (fun _ => (op_pick_false rfl rfl rfl)) rfl rfl rfl ?_
            refine RD.q [(32, .bool false)] (by repeat (first | exact trivial | refine ⟨rfl, ?_⟩)) (fun _ => (op_move rfl rfl)) rfl rfl rfl ?_
            refine RD.skip rfl rfl rfl rfl rfl rfl ?_
            refine RD.q [(33, .bool false), (34, .tup [])] (by repeat (first | exact trivial | refine ⟨rfl, ?_⟩)) (fun _ => (op_pick_false rfl rfl rfl)) rfl rfl rfl ?_
            refine RD.q [(35, .bool false)] (by repeat (first | exact trivial | refine ⟨rfl, ?_⟩)) (fun _ => (op_assign rfl rfl)) rfl rfl rfl ?_
            simp only [Option.some.injEq] at H
            subst H
            exact RD.nil (by kernel_rfl) (weak_sel (env' := [(4, .bool false)]) ⟨rfl, trivial⟩ rfl)
        · clear hj22
          refine then_normal ?_
          refine T_ret ?_
          simp only [Option.some.injEq] at H
          subst H
          exact ret1 rfl rfl rfl
end Go.Proofs.YtgobepjodkggoaaDoor.Fn
