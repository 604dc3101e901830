/- What the functions compute, and that they do. -/
import Derived.Test.YtgobepjodkggoaaTi
import Derived.Test.YtgobepjodkggoaaDt
namespace Go.Proofs.Ytgobepjodkggoaa.Fn
open Go Go.Proofs Go.Proofs.Ytgobepjodkggoaa.Ai Go.Proofs.Ytgobepjodkggoaa.Dt Go.Proofs.Ytgobepjodkggoaa.Ti
set_option linter.unusedVariables false
set_option maxRecDepth 100000

/-! ### 18 bandplan/closing.to -/
def closing_to.f (a0 : Int) (a1 : Int) : Option (Bool) := ((if a0 ≥ 0 then some (decide (a0 ≤ a1)) else some false)).bind fun x1 => some x1
def closing_to.S (args : List AV) (v : AV) : Prop := ∃ (a0 : Int) (a1 : Int) (r : Bool), args = [.int .i64 a0, .int .i64 a1] ∧ closing_to.f a0 a1 = some r ∧ v = .bool r
theorem closing_to.ok : VOk Try.prog 18 closing_to.S := by
  refine V_ok Try.func18 rfl fun args v hS => ⟨?_, ?_⟩
  · obtain ⟨a0, a1, r, rfl, H, rfl⟩ := hS
    exact Nat.le_of_ble_eq_true rfl
  · obtain ⟨a0, a1, r, rfl, H, rfl⟩ := hS
    unfold closing_to.f at H
    refine T_seq ?_
    refine T_reg ?_
    refine RE.op (op_assign rfl rfl) rfl rfl rfl ?_
    refine RE.nil ⟨⟨[(0, .int .i64 a0), (1, .int .i64 a1)], []⟩, weak_sel ⟨rfl, rfl, trivial⟩ rfl, ?_⟩
    refine then_normal ?_
    refine T_seq ?_
    obtain ⟨x1, hj2, H⟩ := Option.bind_eq_some_iff.1 H
    refine T_reg_out ⟨[(4, .bool x1)], []⟩ ?_ ?_
    · clear H
      have H := hj2
      clear hj2
      refine RE.op (op_move rfl rfl) rfl rfl rfl ?_
      refine RE.op (op_bin rfl rfl rfl rfl) rfl rfl rfl ?_
      refine RE.op (op_move rfl rfl) rfl rfl rfl ?_
      by_cases h1 : a0 ≥ 0
      · rw [if_pos h1] at H
        refine RE.opg (op_move rfl rfl) rfl rfl (getb (decide_eq_true h1) rfl) rfl rfl ?_
        refine RE.opg (op_move rfl rfl) rfl rfl (getb (decide_eq_true h1) rfl) rfl rfl ?_
        refine RE.opg (op_bin rfl rfl rfl rfl) rfl rfl (getb (decide_eq_true h1) rfl) rfl rfl ?_
        refine RE.op (op_pick_true rfl (evb (decide_eq_true h1) rfl) rfl) rfl rfl rfl ?_
        refine RE.op (op_assign rfl rfl) rfl rfl rfl ?_
        simp only [Option.some.injEq] at H
        subst H
        exact RE.nil (weak_sel (env' := [(4, .bool (decide (a0 ≤ a1)))]) ⟨rfl, trivial⟩ rfl)
      · rw [if_neg h1] at H
        refine RE.skip rfl rfl (getb (decide_eq_false h1) rfl) rfl rfl rfl ?_
        refine RE.skip rfl rfl (getb (decide_eq_false h1) rfl) rfl rfl rfl ?_
        refine RE.skip rfl rfl (getb (decide_eq_false h1) rfl) rfl rfl rfl ?_
        refine RE.op (op_pick_false rfl (evb (decide_eq_false h1) rfl) rfl) rfl rfl rfl ?_
        refine RE.op (op_assign rfl rfl) rfl rfl rfl ?_
        simp only [Option.some.injEq] at H
        subst H
        exact RE.nil (weak_sel (env' := [(4, .bool false)]) ⟨rfl, trivial⟩ rfl)
    · clear hj2
      refine then_normal ?_
      refine T_ret ?_
      simp only [Option.some.injEq] at H
      subst H
      exact ret1 rfl rfl rfl

/-! ### 9 bandplan/closing.ValidTerms -/
def closing_ValidTerms.f (a0 : S_api_Terms) : Option (Bool) := ((closing_to.f a0.f_Fixed 1125899906842624).bind fun t2 => (if t2 = true then (closing_to.f a0.f_Benchmark 1000000000).bind fun t4 => some t4 else some false)).bind fun x1 => some x1
def closing_ValidTerms.S (args : List AV) (v : AV) : Prop := ∃ (a0 : S_api_Terms) (r : Bool), args = [S_api_Terms.enc a0] ∧ closing_ValidTerms.f a0 = some r ∧ v = .bool r
theorem closing_ValidTerms.ok : VOk Try.prog 9 closing_ValidTerms.S := by
  refine V_ok Try.func9 rfl fun args v hS => ⟨?_, ?_⟩
  · obtain ⟨a0, r, rfl, H, rfl⟩ := hS
    exact Nat.le_of_ble_eq_true rfl
  · obtain ⟨a0, r, rfl, H, rfl⟩ := hS
    unfold closing_ValidTerms.f at H
    refine T_seq ?_
    refine T_reg ?_
    refine RE.op (op_box (k := 0) rfl rfl rfl rfl) rfl rfl rfl ?_
    refine RE.op (op_assign rfl rfl) rfl rfl rfl ?_
    refine RE.nil ⟨⟨[(1, .ptr 0 0)], [.cells [.int .i64 a0.f_Fixed, .int .i64 a0.f_Benchmark]]⟩, weak_sel ⟨rfl, trivial⟩ rfl, ?_⟩
    refine then_normal ?_
    refine T_seq ?_
    obtain ⟨x1, hj6, H⟩ := Option.bind_eq_some_iff.1 H
    refine T_reg_out ⟨[(2, .bool x1)], [.cells [.int .i64 a0.f_Fixed, .int .i64 a0.f_Benchmark]]⟩ ?_ ?_
    · clear H
      have H := hj6
      clear hj6
      refine RE.op (op_faddr Try.underlying23 rfl ti3 rfl rfl rfl) rfl rfl rfl ?_
      refine RE.op (op_load ti3 rfl rfl rfl rfl rfl) rfl rfl rfl ?_
      obtain ⟨t2, ht3, H⟩ := Option.bind_eq_some_iff.1 H
      refine RE.op (op_call (f := 18) rfl rfl rfl rfl en18 closing_to.ok ⟨_, _, _, rfl, ht3, rfl⟩) rfl rfl rfl ?_
      refine RE.op (op_move rfl rfl) rfl rfl rfl ?_
      by_cases h1 : t2 = true
      · rw [if_pos h1] at H
        refine RE.opg (op_faddr Try.underlying23 rfl ti3 rfl rfl rfl) rfl rfl (getb h1 rfl) rfl rfl ?_
        refine RE.opg (op_load ti3 rfl rfl rfl rfl rfl) rfl rfl (getb h1 rfl) rfl rfl ?_
        obtain ⟨t4, ht5, H⟩ := Option.bind_eq_some_iff.1 H
        refine RE.opg (op_call (f := 18) rfl rfl rfl rfl en18 closing_to.ok ⟨_, _, _, rfl, ht5, rfl⟩) rfl rfl (getb h1 rfl) rfl rfl ?_
        refine RE.op (op_pick_true rfl (evb h1 rfl) rfl) rfl rfl rfl ?_
        refine RE.op (op_assign rfl rfl) rfl rfl rfl ?_
        simp only [Option.some.injEq] at H
        subst H
        exact RE.nil (weak_sel (env' := [(2, .bool t4)]) ⟨rfl, trivial⟩ rfl)
      · rw [if_neg h1] at H
        refine RE.skip rfl rfl (getb (Bool.eq_false_iff.mpr h1) rfl) rfl rfl rfl ?_
        refine RE.skip rfl rfl (getb (Bool.eq_false_iff.mpr h1) rfl) rfl rfl rfl ?_
        refine RE.skip rfl rfl (getb (Bool.eq_false_iff.mpr h1) rfl) rfl rfl rfl ?_
        refine RE.op (op_pick_false rfl (evb (Bool.eq_false_iff.mpr h1) rfl) rfl) rfl rfl rfl ?_
        refine RE.op (op_assign rfl rfl) rfl rfl rfl ?_
        simp only [Option.some.injEq] at H
        subst H
        exact RE.nil (weak_sel (env' := [(2, .bool false)]) ⟨rfl, trivial⟩ rfl)
    · clear hj6
      refine then_normal ?_
      refine T_ret ?_
      simp only [Option.some.injEq] at H
      subst H
      exact ret1 rfl rfl rfl

/-! ### 7 bandplan/closing.Needed -/
def closing_Needed.f (a0 : S_api_Terms) (a1 : Int) (a2 : Int) : Option (Int × Int) := ((closing_ValidTerms.f a0).bind fun t2 => (if ¬ (t2 = true) then some true else (closing_to.f a1 1125899906842624).bind fun t4 => (if ¬ (t4 = true) then some true else (closing_to.f a2 2457600000).bind fun t6 => some (!t6)))).bind fun x1 => (if x1 = true then some (0, 2) else some (mx (IntKind.i64.wrap (a1 + a0.f_Fixed)) (IntKind.i64.wrap (a0.f_Benchmark * a2)), 0))
def closing_Needed.S (args : List AV) (v : AV) : Prop := ∃ (a0 : S_api_Terms) (a1 : Int) (a2 : Int) (r : Int × Int), args = [S_api_Terms.enc a0, .int .i64 a1, .int .i64 a2] ∧ closing_Needed.f a0 a1 a2 = some r ∧ v = .tup [.int .i64 r.1, .int .i64 r.2]
theorem closing_Needed.ok : VOk Try.prog 7 closing_Needed.S := by
  refine V_ok Try.func7 rfl fun args v hS => ⟨?_, ?_⟩
  · obtain ⟨a0, a1, a2, r, rfl, H, rfl⟩ := hS
    exact Nat.le_of_ble_eq_true rfl
  · obtain ⟨a0, a1, a2, r, rfl, H, rfl⟩ := hS
    unfold closing_Needed.f at H
    refine T_seq ?_
    refine T_reg ?_
    refine RE.op (op_box (k := 0) rfl rfl rfl rfl) rfl rfl rfl ?_
    refine RE.op (op_assign rfl rfl) rfl rfl rfl ?_
    refine RE.op (op_assign rfl rfl) rfl rfl rfl ?_
    refine RE.nil ⟨⟨[(1, .int .i64 a1), (2, .int .i64 a2), (3, .ptr 0 0)], [.cells [.int .i64 a0.f_Fixed, .int .i64 a0.f_Benchmark]]⟩, weak_sel ⟨rfl, rfl, rfl, trivial⟩ rfl, ?_⟩
    refine then_normal ?_
    refine T_seq ?_
    refine T_seq ?_
    obtain ⟨x1, hj8, H⟩ := Option.bind_eq_some_iff.1 H
    refine T_reg_out ⟨[(1, .int .i64 a1), (2, .int .i64 a2), (3, .ptr 0 0), (20, .bool x1)], [.cells [.int .i64 a0.f_Fixed, .int .i64 a0.f_Benchmark]]⟩ ?_ ?_
    · clear H
      have H := hj8
      clear hj8
      refine RE.op (op_load_agg (ds := [.int .i64 a0.f_Fixed, .int .i64 a0.f_Benchmark]) ti23 rfl rfl rfl rfl (Nat.le_of_ble_eq_true rfl) rfl) rfl rfl rfl ?_
      obtain ⟨t2, ht3, H⟩ := Option.bind_eq_some_iff.1 H
      refine RE.op (op_call (f := 9) rfl rfl rfl rfl en9 closing_ValidTerms.ok ⟨_, _, rfl, ht3, rfl⟩) rfl rfl rfl ?_
      refine RE.op (op_not rfl rfl) rfl rfl rfl ?_
      refine RE.op (op_move rfl rfl) rfl rfl rfl ?_
      by_cases h1 : ¬ (t2 = true)
      · rw [if_pos h1] at H
        refine RE.skip rfl rfl (getb (not_t (Bool.eq_false_iff.mpr h1)) rfl) rfl rfl rfl ?_
        refine RE.skip rfl rfl (getb (not_t (Bool.eq_false_iff.mpr h1)) rfl) rfl rfl rfl ?_
        refine RE.skip rfl rfl (getb (not_t (Bool.eq_false_iff.mpr h1)) rfl) rfl rfl rfl ?_
        refine RE.op (op_pick_true rfl (evb (not_t (Bool.eq_false_iff.mpr h1)) rfl) rfl) rfl rfl rfl ?_
        refine RE.op (op_move rfl rfl) rfl rfl rfl ?_
        refine RE.skip rfl rfl rfl rfl rfl rfl ?_
        refine RE.skip rfl rfl rfl rfl rfl rfl ?_
        refine RE.skip rfl rfl rfl rfl rfl rfl ?_
        refine RE.op (op_pick_true rfl rfl rfl) rfl rfl rfl ?_
        simp only [Option.some.injEq] at H
        subst H
        exact RE.nil (weak_sel (env' := [(1, .int .i64 a1), (2, .int .i64 a2), (3, .ptr 0 0), (20, .bool true)]) ⟨rfl, rfl, rfl, rfl, trivial⟩ rfl)
      · rw [if_neg h1] at H
        refine RE.opg (op_move rfl rfl) rfl rfl (getb (not_f (Decidable.of_not_not h1)) rfl) rfl rfl ?_
        obtain ⟨t4, ht5, H⟩ := Option.bind_eq_some_iff.1 H
        refine RE.opg (op_call (f := 18) rfl rfl rfl rfl en18 closing_to.ok ⟨_, _, _, rfl, ht5, rfl⟩) rfl rfl (getb (not_f (Decidable.of_not_not h1)) rfl) rfl rfl ?_
        refine RE.opg (op_not rfl rfl) rfl rfl (getb (not_f (Decidable.of_not_not h1)) rfl) rfl rfl ?_
        refine RE.op (op_pick_false rfl (evb (not_f (Decidable.of_not_not h1)) rfl) rfl) rfl rfl rfl ?_
        refine RE.op (op_move rfl rfl) rfl rfl rfl ?_
        by_cases h2 : ¬ (t4 = true)
        · rw [if_pos h2] at H
          refine RE.skip rfl rfl (getb (not_t (Bool.eq_false_iff.mpr h2)) rfl) rfl rfl rfl ?_
          refine RE.skip rfl rfl (getb (not_t (Bool.eq_false_iff.mpr h2)) rfl) rfl rfl rfl ?_
          refine RE.skip rfl rfl (getb (not_t (Bool.eq_false_iff.mpr h2)) rfl) rfl rfl rfl ?_
          refine RE.op (op_pick_true rfl (evb (not_t (Bool.eq_false_iff.mpr h2)) rfl) rfl) rfl rfl rfl ?_
          simp only [Option.some.injEq] at H
          subst H
          exact RE.nil (weak_sel (env' := [(1, .int .i64 a1), (2, .int .i64 a2), (3, .ptr 0 0), (20, .bool true)]) ⟨rfl, rfl, rfl, rfl, trivial⟩ rfl)
        · rw [if_neg h2] at H
          refine RE.opg (op_move rfl rfl) rfl rfl (getb (not_f (Decidable.of_not_not h2)) rfl) rfl rfl ?_
          obtain ⟨t6, ht7, H⟩ := Option.bind_eq_some_iff.1 H
          refine RE.opg (op_call (f := 18) rfl rfl rfl rfl en18 closing_to.ok ⟨_, _, _, rfl, ht7, rfl⟩) rfl rfl (getb (not_f (Decidable.of_not_not h2)) rfl) rfl rfl ?_
          refine RE.opg (op_not rfl rfl) rfl rfl (getb (not_f (Decidable.of_not_not h2)) rfl) rfl rfl ?_
          refine RE.op (op_pick_false rfl (evb (not_f (Decidable.of_not_not h2)) rfl) rfl) rfl rfl rfl ?_
          simp only [Option.some.injEq] at H
          subst H
          exact RE.nil (weak_sel (env' := [(1, .int .i64 a1), (2, .int .i64 a2), (3, .ptr 0 0), (20, .bool (!t6))]) ⟨rfl, rfl, rfl, rfl, trivial⟩ rfl)
    · clear hj8
      refine then_normal ?_
      by_cases h3 : x1 = true
      · rw [if_pos h3] at H
        refine T_yes rfl h3 ?_
        refine T_seq ?_
        refine T_reg ?_
        refine RE.op (op_assign rfl rfl) rfl rfl rfl ?_
        refine RE.op (op_assign rfl rfl) rfl rfl rfl ?_
        refine RE.nil ⟨⟨[(6, .int .i64 0), (7, .int .i64 2)], [.cells [.int .i64 a0.f_Fixed, .int .i64 a0.f_Benchmark]]⟩, weak_sel ⟨rfl, rfl, trivial⟩ rfl, ?_⟩
        refine then_normal ?_
        refine T_ret ?_
        simp only [Option.some.injEq] at H
        subst H
        refine then_ret ?_
        exact ret2 rfl rfl rfl rfl
      · rw [if_neg h3] at H
        refine T_no rfl (Bool.eq_false_iff.mpr h3) ?_
        refine T_skip ?_
        refine then_normal ?_
        refine T_seq ?_
        refine T_reg ?_
        refine RE.op (op_move rfl rfl) rfl rfl rfl ?_
        refine RE.op (op_faddr Try.underlying23 rfl ti3 rfl rfl rfl) rfl rfl rfl ?_
        refine RE.op (op_load ti3 rfl rfl rfl rfl rfl) rfl rfl rfl ?_
        refine RE.op (op_bin rfl rfl rfl rfl) rfl rfl rfl ?_
        refine RE.op (op_faddr Try.underlying23 rfl ti3 rfl rfl rfl) rfl rfl rfl ?_
        refine RE.op (op_load ti3 rfl rfl rfl rfl rfl) rfl rfl rfl ?_
        refine RE.op (op_move rfl rfl) rfl rfl rfl ?_
        refine RE.op (op_bin rfl rfl rfl rfl) rfl rfl rfl ?_
        refine RE.op (op_max rfl rfl rfl) rfl rfl rfl ?_
        refine RE.op (op_assign rfl rfl) rfl rfl rfl ?_
        refine RE.op (op_assign rfl rfl) rfl rfl rfl ?_
        refine RE.nil ⟨⟨[(6, .int .i64 (mx (IntKind.i64.wrap (a1 + a0.f_Fixed)) (IntKind.i64.wrap (a0.f_Benchmark * a2)))), (7, .int .i64 0)], [.cells [.int .i64 a0.f_Fixed, .int .i64 a0.f_Benchmark]]⟩, weak_sel ⟨rfl, rfl, trivial⟩ rfl, ?_⟩
        refine then_normal ?_
        refine T_ret ?_
        simp only [Option.some.injEq] at H
        subst H
        exact ret2 rfl rfl rfl rfl

/-! ### 10 bandplan/bandplanref37.Terms -/
def bandplanref37_Terms.f (a0 : S_api_Terms) : Option (Bool) := ((if a0.f_Fixed ≥ 0 then (if a0.f_Fixed ≤ 1125899906842624 then (if a0.f_Benchmark ≥ 0 then some (decide (a0.f_Benchmark ≤ 1000000000)) else some false) else some false) else some false)).bind fun x1 => some x1
def bandplanref37_Terms.S (args : List AV) (v : AV) : Prop := ∃ (a0 : S_api_Terms) (r : Bool), args = [S_api_Terms.enc a0] ∧ bandplanref37_Terms.f a0 = some r ∧ v = .bool r
theorem bandplanref37_Terms.ok : VOk Try.prog 10 bandplanref37_Terms.S := by
  refine V_ok Try.func10 rfl fun args v hS => ⟨?_, ?_⟩
  · obtain ⟨a0, r, rfl, H, rfl⟩ := hS
    exact Nat.le_of_ble_eq_true rfl
  · obtain ⟨a0, r, rfl, H, rfl⟩ := hS
    unfold bandplanref37_Terms.f at H
    refine T_seq ?_
    refine T_reg ?_
    refine RE.op (op_box (k := 0) rfl rfl rfl rfl) rfl rfl rfl ?_
    refine RE.op (op_assign rfl rfl) rfl rfl rfl ?_
    refine RE.nil ⟨⟨[(1, .ptr 0 0)], [.cells [.int .i64 a0.f_Fixed, .int .i64 a0.f_Benchmark]]⟩, weak_sel ⟨rfl, trivial⟩ rfl, ?_⟩
    refine then_normal ?_
    refine T_seq ?_
    obtain ⟨x1, hj2, H⟩ := Option.bind_eq_some_iff.1 H
    refine T_reg_out ⟨[(2, .bool x1)], [.cells [.int .i64 a0.f_Fixed, .int .i64 a0.f_Benchmark]]⟩ ?_ ?_
    · clear H
      have H := hj2
      clear hj2
      refine RE.op (op_faddr Try.underlying23 rfl ti3 rfl rfl rfl) rfl rfl rfl ?_
      refine RE.op (op_load ti3 rfl rfl rfl rfl rfl) rfl rfl rfl ?_
      refine RE.op (op_bin rfl rfl rfl rfl) rfl rfl rfl ?_
      refine RE.op (op_move rfl rfl) rfl rfl rfl ?_
      by_cases h1 : a0.f_Fixed ≥ 0
      · rw [if_pos h1] at H
        refine RE.opg (op_faddr Try.underlying23 rfl ti3 rfl rfl rfl) rfl rfl (getb (decide_eq_true h1) rfl) rfl rfl ?_
        refine RE.opg (op_load ti3 rfl rfl rfl rfl rfl) rfl rfl (getb (decide_eq_true h1) rfl) rfl rfl ?_
        refine RE.opg (op_bin rfl rfl rfl rfl) rfl rfl (getb (decide_eq_true h1) rfl) rfl rfl ?_
        refine RE.op (op_pick_true rfl (evb (decide_eq_true h1) rfl) rfl) rfl rfl rfl ?_
        refine RE.op (op_move rfl rfl) rfl rfl rfl ?_
        by_cases h2 : a0.f_Fixed ≤ 1125899906842624
        · rw [if_pos h2] at H
          refine RE.opg (op_faddr Try.underlying23 rfl ti3 rfl rfl rfl) rfl rfl (getb (decide_eq_true h2) rfl) rfl rfl ?_
          refine RE.opg (op_load ti3 rfl rfl rfl rfl rfl) rfl rfl (getb (decide_eq_true h2) rfl) rfl rfl ?_
          refine RE.opg (op_bin rfl rfl rfl rfl) rfl rfl (getb (decide_eq_true h2) rfl) rfl rfl ?_
          refine RE.op (op_pick_true rfl (evb (decide_eq_true h2) rfl) rfl) rfl rfl rfl ?_
          refine RE.op (op_move rfl rfl) rfl rfl rfl ?_
          by_cases h3 : a0.f_Benchmark ≥ 0
          · rw [if_pos h3] at H
            refine RE.opg (op_faddr Try.underlying23 rfl ti3 rfl rfl rfl) rfl rfl (getb (decide_eq_true h3) rfl) rfl rfl ?_
            refine RE.opg (op_load ti3 rfl rfl rfl rfl rfl) rfl rfl (getb (decide_eq_true h3) rfl) rfl rfl ?_
            refine RE.opg (op_bin rfl rfl rfl rfl) rfl rfl (getb (decide_eq_true h3) rfl) rfl rfl ?_
            refine RE.op (op_pick_true rfl (evb (decide_eq_true h3) rfl) rfl) rfl rfl rfl ?_
            refine RE.op (op_assign rfl rfl) rfl rfl rfl ?_
            simp only [Option.some.injEq] at H
            subst H
            exact RE.nil (weak_sel (env' := [(2, .bool (decide (a0.f_Benchmark ≤ 1000000000)))]) ⟨rfl, trivial⟩ rfl)
          · rw [if_neg h3] at H
            refine RE.skip rfl rfl (getb (decide_eq_false h3) rfl) rfl rfl rfl ?_
            refine RE.skip rfl rfl (getb (decide_eq_false h3) rfl) rfl rfl rfl ?_
            refine RE.skip rfl rfl (getb (decide_eq_false h3) rfl) rfl rfl rfl ?_
            refine RE.op (op_pick_false rfl (evb (decide_eq_false h3) rfl) rfl) rfl rfl rfl ?_
            refine RE.op (op_assign rfl rfl) rfl rfl rfl ?_
            simp only [Option.some.injEq] at H
            subst H
            exact RE.nil (weak_sel (env' := [(2, .bool false)]) ⟨rfl, trivial⟩ rfl)
        · rw [if_neg h2] at H
          refine RE.skip rfl rfl (getb (decide_eq_false h2) rfl) rfl rfl rfl ?_
          refine RE.skip rfl rfl (getb (decide_eq_false h2) rfl) rfl rfl rfl ?_
          refine RE.skip rfl rfl (getb (decide_eq_false h2) rfl) rfl rfl rfl ?_
          refine RE.op (op_pick_false rfl (evb (decide_eq_false h2) rfl) rfl) rfl rfl rfl ?_
          refine RE.op (op_move rfl rfl) rfl rfl rfl ?_
          refine RE.skip rfl rfl rfl rfl rfl rfl ?_
          refine RE.skip rfl rfl rfl rfl rfl rfl ?_
          refine RE.skip rfl rfl rfl rfl rfl rfl ?_
          refine RE.op (op_pick_false rfl rfl rfl) rfl rfl rfl ?_
          refine RE.op (op_assign rfl rfl) rfl rfl rfl ?_
          simp only [Option.some.injEq] at H
          subst H
          exact RE.nil (weak_sel (env' := [(2, .bool false)]) ⟨rfl, trivial⟩ rfl)
      · rw [if_neg h1] at H
        refine RE.skip rfl rfl (getb (decide_eq_false h1) rfl) rfl rfl rfl ?_
        refine RE.skip rfl rfl (getb (decide_eq_false h1) rfl) rfl rfl rfl ?_
        refine RE.skip rfl rfl (getb (decide_eq_false h1) rfl) rfl rfl rfl ?_
        refine RE.op (op_pick_false rfl (evb (decide_eq_false h1) rfl) rfl) rfl rfl rfl ?_
        refine RE.op (op_move rfl rfl) rfl rfl rfl ?_
        refine RE.skip rfl rfl rfl rfl rfl rfl ?_
        refine RE.skip rfl rfl rfl rfl rfl rfl ?_
        refine RE.skip rfl rfl rfl rfl rfl rfl ?_
        refine RE.op (op_pick_false rfl rfl rfl) rfl rfl rfl ?_
        refine RE.op (op_move rfl rfl) rfl rfl rfl ?_
        refine RE.skip rfl rfl rfl rfl rfl rfl ?_
        refine RE.skip rfl rfl rfl rfl rfl rfl ?_
        refine RE.skip rfl rfl rfl rfl rfl rfl ?_
        refine RE.op (op_pick_false rfl rfl rfl) rfl rfl rfl ?_
        refine RE.op (op_assign rfl rfl) rfl rfl rfl ?_
        simp only [Option.some.injEq] at H
        subst H
        exact RE.nil (weak_sel (env' := [(2, .bool false)]) ⟨rfl, trivial⟩ rfl)
    · clear hj2
      refine then_normal ?_
      refine T_ret ?_
      simp only [Option.some.injEq] at H
      subst H
      exact ret1 rfl rfl rfl

/-! ### 8 bandplan/bandplanref37.Needed -/
def bandplanref37_Needed.f (a0 : S_api_Terms) (a1 : Int) (a2 : Int) : Option (Int × Int) := ((bandplanref37_Terms.f a0).bind fun t2 => (if ¬ (t2 = true) then some true else (if a1 < 0 then some true else (if a1 > 1125899906842624 then some true else (if a2 < 0 then some true else some (decide (a2 > 2457600000))))))).bind fun x1 => (if x1 = true then some (0, 2) else ((if (IntKind.i64.wrap (a0.f_Benchmark * a2)) > (IntKind.i64.wrap (a1 + a0.f_Fixed)) then some (IntKind.i64.wrap (a0.f_Benchmark * a2)) else some (IntKind.i64.wrap (a1 + a0.f_Fixed)))).bind fun x5 => some (x5, 0))
def bandplanref37_Needed.S (args : List AV) (v : AV) : Prop := ∃ (a0 : S_api_Terms) (a1 : Int) (a2 : Int) (r : Int × Int), args = [S_api_Terms.enc a0, .int .i64 a1, .int .i64 a2] ∧ bandplanref37_Needed.f a0 a1 a2 = some r ∧ v = .tup [.int .i64 r.1, .int .i64 r.2]
theorem bandplanref37_Needed.ok : VOk Try.prog 8 bandplanref37_Needed.S := by
  refine V_ok Try.func8 rfl fun args v hS => ⟨?_, ?_⟩
  · obtain ⟨a0, a1, a2, r, rfl, H, rfl⟩ := hS
    exact Nat.le_of_ble_eq_true rfl
  · obtain ⟨a0, a1, a2, r, rfl, H, rfl⟩ := hS
    unfold bandplanref37_Needed.f at H
    refine T_seq ?_
    refine T_reg ?_
    refine RE.op (op_box (k := 0) rfl rfl rfl rfl) rfl rfl rfl ?_
    refine RE.op (op_assign rfl rfl) rfl rfl rfl ?_
    refine RE.op (op_assign rfl rfl) rfl rfl rfl ?_
    refine RE.nil ⟨⟨[(1, .int .i64 a1), (2, .int .i64 a2), (3, .ptr 0 0)], [.cells [.int .i64 a0.f_Fixed, .int .i64 a0.f_Benchmark]]⟩, weak_sel ⟨rfl, rfl, rfl, trivial⟩ rfl, ?_⟩
    refine then_normal ?_
    refine T_seq ?_
    refine T_seq ?_
    obtain ⟨x1, hj4, H⟩ := Option.bind_eq_some_iff.1 H
    refine T_reg_out ⟨[(1, .int .i64 a1), (2, .int .i64 a2), (3, .ptr 0 0), (27, .bool x1)], [.cells [.int .i64 a0.f_Fixed, .int .i64 a0.f_Benchmark]]⟩ ?_ ?_
    · clear H
      have H := hj4
      clear hj4
      refine RE.op (op_load_agg (ds := [.int .i64 a0.f_Fixed, .int .i64 a0.f_Benchmark]) ti23 rfl rfl rfl rfl (Nat.le_of_ble_eq_true rfl) rfl) rfl rfl rfl ?_
      obtain ⟨t2, ht3, H⟩ := Option.bind_eq_some_iff.1 H
      refine RE.op (op_call (f := 10) rfl rfl rfl rfl en10 bandplanref37_Terms.ok ⟨_, _, rfl, ht3, rfl⟩) rfl rfl rfl ?_
      refine RE.op (op_not rfl rfl) rfl rfl rfl ?_
      refine RE.op (op_move rfl rfl) rfl rfl rfl ?_
      by_cases h1 : ¬ (t2 = true)
      · rw [if_pos h1] at H
        refine RE.skip rfl rfl (getb (not_t (Bool.eq_false_iff.mpr h1)) rfl) rfl rfl rfl ?_
        refine RE.skip rfl rfl (getb (not_t (Bool.eq_false_iff.mpr h1)) rfl) rfl rfl rfl ?_
        refine RE.op (op_pick_true rfl (evb (not_t (Bool.eq_false_iff.mpr h1)) rfl) rfl) rfl rfl rfl ?_
        refine RE.op (op_move rfl rfl) rfl rfl rfl ?_
        refine RE.skip rfl rfl rfl rfl rfl rfl ?_
        refine RE.skip rfl rfl rfl rfl rfl rfl ?_
        refine RE.op (op_pick_true rfl rfl rfl) rfl rfl rfl ?_
        refine RE.op (op_move rfl rfl) rfl rfl rfl ?_
        refine RE.skip rfl rfl rfl rfl rfl rfl ?_
        refine RE.skip rfl rfl rfl rfl rfl rfl ?_
        refine RE.op (op_pick_true rfl rfl rfl) rfl rfl rfl ?_
        refine RE.op (op_move rfl rfl) rfl rfl rfl ?_
        refine RE.skip rfl rfl rfl rfl rfl rfl ?_
        refine RE.skip rfl rfl rfl rfl rfl rfl ?_
        refine RE.op (op_pick_true rfl rfl rfl) rfl rfl rfl ?_
        simp only [Option.some.injEq] at H
        subst H
        exact RE.nil (weak_sel (env' := [(1, .int .i64 a1), (2, .int .i64 a2), (3, .ptr 0 0), (27, .bool true)]) ⟨rfl, rfl, rfl, rfl, trivial⟩ rfl)
      · rw [if_neg h1] at H
        refine RE.opg (op_move rfl rfl) rfl rfl (getb (not_f (Decidable.of_not_not h1)) rfl) rfl rfl ?_
        refine RE.opg (op_bin rfl rfl rfl rfl) rfl rfl (getb (not_f (Decidable.of_not_not h1)) rfl) rfl rfl ?_
        refine RE.op (op_pick_false rfl (evb (not_f (Decidable.of_not_not h1)) rfl) rfl) rfl rfl rfl ?_
        refine RE.op (op_move rfl rfl) rfl rfl rfl ?_
        by_cases h2 : a1 < 0
        · rw [if_pos h2] at H
          refine RE.skip rfl rfl (getb (decide_eq_true h2) rfl) rfl rfl rfl ?_
          refine RE.skip rfl rfl (getb (decide_eq_true h2) rfl) rfl rfl rfl ?_
          refine RE.op (op_pick_true rfl (evb (decide_eq_true h2) rfl) rfl) rfl rfl rfl ?_
          refine RE.op (op_move rfl rfl) rfl rfl rfl ?_
          refine RE.skip rfl rfl rfl rfl rfl rfl ?_
          refine RE.skip rfl rfl rfl rfl rfl rfl ?_
          refine RE.op (op_pick_true rfl rfl rfl) rfl rfl rfl ?_
          refine RE.op (op_move rfl rfl) rfl rfl rfl ?_
          refine RE.skip rfl rfl rfl rfl rfl rfl ?_
          refine RE.skip rfl rfl rfl rfl rfl rfl ?_
          refine RE.op (op_pick_true rfl rfl rfl) rfl rfl rfl ?_
          simp only [Option.some.injEq] at H
          subst H
          exact RE.nil (weak_sel (env' := [(1, .int .i64 a1), (2, .int .i64 a2), (3, .ptr 0 0), (27, .bool true)]) ⟨rfl, rfl, rfl, rfl, trivial⟩ rfl)
        · rw [if_neg h2] at H
          refine RE.opg (op_move rfl rfl) rfl rfl (getb (decide_eq_false h2) rfl) rfl rfl ?_
          refine RE.opg (op_bin rfl rfl rfl rfl) rfl rfl (getb (decide_eq_false h2) rfl) rfl rfl ?_
          refine RE.op (op_pick_false rfl (evb (decide_eq_false h2) rfl) rfl) rfl rfl rfl ?_
          refine RE.op (op_move rfl rfl) rfl rfl rfl ?_
          by_cases h3 : a1 > 1125899906842624
          · rw [if_pos h3] at H
            refine RE.skip rfl rfl (getb (decide_eq_true h3) rfl) rfl rfl rfl ?_
            refine RE.skip rfl rfl (getb (decide_eq_true h3) rfl) rfl rfl rfl ?_
            refine RE.op (op_pick_true rfl (evb (decide_eq_true h3) rfl) rfl) rfl rfl rfl ?_
            refine RE.op (op_move rfl rfl) rfl rfl rfl ?_
            refine RE.skip rfl rfl rfl rfl rfl rfl ?_
            refine RE.skip rfl rfl rfl rfl rfl rfl ?_
            refine RE.op (op_pick_true rfl rfl rfl) rfl rfl rfl ?_
            simp only [Option.some.injEq] at H
            subst H
            exact RE.nil (weak_sel (env' := [(1, .int .i64 a1), (2, .int .i64 a2), (3, .ptr 0 0), (27, .bool true)]) ⟨rfl, rfl, rfl, rfl, trivial⟩ rfl)
          · rw [if_neg h3] at H
            refine RE.opg (op_move rfl rfl) rfl rfl (getb (decide_eq_false h3) rfl) rfl rfl ?_
            refine RE.opg (op_bin rfl rfl rfl rfl) rfl rfl (getb (decide_eq_false h3) rfl) rfl rfl ?_
            refine RE.op (op_pick_false rfl (evb (decide_eq_false h3) rfl) rfl) rfl rfl rfl ?_
            refine RE.op (op_move rfl rfl) rfl rfl rfl ?_
            by_cases h4 : a2 < 0
            · rw [if_pos h4] at H
              refine RE.skip rfl rfl (getb (decide_eq_true h4) rfl) rfl rfl rfl ?_
              refine RE.skip rfl rfl (getb (decide_eq_true h4) rfl) rfl rfl rfl ?_
              refine RE.op (op_pick_true rfl (evb (decide_eq_true h4) rfl) rfl) rfl rfl rfl ?_
              simp only [Option.some.injEq] at H
              subst H
              exact RE.nil (weak_sel (env' := [(1, .int .i64 a1), (2, .int .i64 a2), (3, .ptr 0 0), (27, .bool true)]) ⟨rfl, rfl, rfl, rfl, trivial⟩ rfl)
            · rw [if_neg h4] at H
              refine RE.opg (op_move rfl rfl) rfl rfl (getb (decide_eq_false h4) rfl) rfl rfl ?_
              refine RE.opg (op_bin rfl rfl rfl rfl) rfl rfl (getb (decide_eq_false h4) rfl) rfl rfl ?_
              refine RE.op (op_pick_false rfl (evb (decide_eq_false h4) rfl) rfl) rfl rfl rfl ?_
              simp only [Option.some.injEq] at H
              subst H
              exact RE.nil (weak_sel (env' := [(1, .int .i64 a1), (2, .int .i64 a2), (3, .ptr 0 0), (27, .bool (decide (a2 > 2457600000)))]) ⟨rfl, rfl, rfl, rfl, trivial⟩ rfl)
    · clear hj4
      refine then_normal ?_
      by_cases h5 : x1 = true
      · rw [if_pos h5] at H
        refine T_yes rfl h5 ?_
        refine T_seq ?_
        refine T_reg ?_
        refine RE.op (op_assign rfl rfl) rfl rfl rfl ?_
        refine RE.op (op_assign rfl rfl) rfl rfl rfl ?_
        refine RE.nil ⟨⟨[(6, .int .i64 0), (7, .int .i64 2)], [.cells [.int .i64 a0.f_Fixed, .int .i64 a0.f_Benchmark]]⟩, weak_sel ⟨rfl, rfl, trivial⟩ rfl, ?_⟩
        refine then_normal ?_
        refine T_ret ?_
        simp only [Option.some.injEq] at H
        subst H
        refine then_ret ?_
        exact ret2 rfl rfl rfl rfl
      · rw [if_neg h5] at H
        refine T_no rfl (Bool.eq_false_iff.mpr h5) ?_
        refine T_skip ?_
        refine then_normal ?_
        refine T_seq ?_
        refine T_reg ?_
        refine RE.op (op_move rfl rfl) rfl rfl rfl ?_
        refine RE.op (op_faddr Try.underlying23 rfl ti3 rfl rfl rfl) rfl rfl rfl ?_
        refine RE.op (op_load ti3 rfl rfl rfl rfl rfl) rfl rfl rfl ?_
        refine RE.op (op_bin rfl rfl rfl rfl) rfl rfl rfl ?_
        refine RE.op (op_assign rfl rfl) rfl rfl rfl ?_
        refine RE.nil ⟨⟨[(2, .int .i64 a2), (3, .ptr 0 0), (8, .int .i64 (IntKind.i64.wrap (a1 + a0.f_Fixed)))], [.cells [.int .i64 a0.f_Fixed, .int .i64 a0.f_Benchmark]]⟩, weak_sel ⟨rfl, rfl, rfl, trivial⟩ rfl, ?_⟩
        refine then_normal ?_
        refine T_seq ?_
        refine T_seq ?_
        refine T_reg ?_
        refine RE.op (op_faddr Try.underlying23 rfl ti3 rfl rfl rfl) rfl rfl rfl ?_
        refine RE.op (op_load ti3 rfl rfl rfl rfl rfl) rfl rfl rfl ?_
        refine RE.op (op_move rfl rfl) rfl rfl rfl ?_
        refine RE.op (op_bin rfl rfl rfl rfl) rfl rfl rfl ?_
        refine RE.op (op_move rfl rfl) rfl rfl rfl ?_
        refine RE.op (op_bin rfl rfl rfl rfl) rfl rfl rfl ?_
        refine RE.nil ⟨⟨[(2, .int .i64 a2), (3, .ptr 0 0), (8, .int .i64 (IntKind.i64.wrap (a1 + a0.f_Fixed))), (37, .bool (decide ((IntKind.i64.wrap (a0.f_Benchmark * a2)) > (IntKind.i64.wrap (a1 + a0.f_Fixed)))))], [.cells [.int .i64 a0.f_Fixed, .int .i64 a0.f_Benchmark]]⟩, weak_sel ⟨rfl, rfl, rfl, rfl, trivial⟩ rfl, ?_⟩
        refine then_normal ?_
        obtain ⟨x5, hj7, H⟩ := Option.bind_eq_some_iff.1 H
        refine T_out ((fun _ => .normal) x5) ((fun (x_ : (Int)) => ⟨[(8, .int .i64 x_)], [.cells [.int .i64 a0.f_Fixed, .int .i64 a0.f_Benchmark]]⟩) x5) ?_ ?_
        · clear H
          have H := hj7
          clear hj7
          by_cases h6 : (IntKind.i64.wrap (a0.f_Benchmark * a2)) > (IntKind.i64.wrap (a1 + a0.f_Fixed))
          · rw [if_pos h6] at H
            refine T_yes rfl (decide_eq_true h6) ?_
            refine T_reg ?_
            refine RE.op (op_faddr Try.underlying23 rfl ti3 rfl rfl rfl) rfl rfl rfl ?_
            refine RE.op (op_load ti3 rfl rfl rfl rfl rfl) rfl rfl rfl ?_
            refine RE.op (op_move rfl rfl) rfl rfl rfl ?_
            refine RE.op (op_bin rfl rfl rfl rfl) rfl rfl rfl ?_
            refine RE.op (op_assign rfl rfl) rfl rfl rfl ?_
            refine RE.nil ⟨⟨[(8, .int .i64 (IntKind.i64.wrap (a0.f_Benchmark * a2)))], [.cells [.int .i64 a0.f_Fixed, .int .i64 a0.f_Benchmark]]⟩, weak_sel ⟨rfl, trivial⟩ rfl, ?_⟩
            simp only [Option.some.injEq] at H
            subst H
            exact ⟨rfl, weak_sel (env' := [(8, .int .i64 (IntKind.i64.wrap (a0.f_Benchmark * a2)))]) ⟨rfl, trivial⟩ rfl⟩
          · rw [if_neg h6] at H
            refine T_no rfl (decide_eq_false h6) ?_
            refine T_skip ?_
            simp only [Option.some.injEq] at H
            subst H
            exact ⟨rfl, weak_sel (env' := [(8, .int .i64 (IntKind.i64.wrap (a1 + a0.f_Fixed)))]) ⟨rfl, trivial⟩ rfl⟩
        · clear hj7
          refine then_normal ?_
          refine T_seq ?_
          refine T_reg ?_
          refine RE.op (op_move rfl rfl) rfl rfl rfl ?_
          refine RE.op (op_assign rfl rfl) rfl rfl rfl ?_
          refine RE.op (op_assign rfl rfl) rfl rfl rfl ?_
          refine RE.nil ⟨⟨[(6, .int .i64 x5), (7, .int .i64 0)], [.cells [.int .i64 a0.f_Fixed, .int .i64 a0.f_Benchmark]]⟩, weak_sel ⟨rfl, rfl, trivial⟩ rfl, ?_⟩
          refine then_normal ?_
          refine T_ret ?_
          simp only [Option.some.injEq] at H
          subst H
          exact ret2 rfl rfl rfl rfl

/-! ### 12 bandplan/closing.Missing -/
def closing_Missing.f (a0 : S_api_Terms) (a1 : Int) (a2 : Int) (a3 : Int) : Option (Int × Int) := (closing_Needed.f a0 a1 a2).bind fun t1 => ((if ¬ t1.2 = 0 then some true else (closing_to.f a3 1125899906842624).bind fun t4 => some (!t4))).bind fun x3 => (if x3 = true then some (0, 2) else some (mx 0 (IntKind.i64.wrap (t1.1 - a3)), 0))
def closing_Missing.S (args : List AV) (v : AV) : Prop := ∃ (a0 : S_api_Terms) (a1 : Int) (a2 : Int) (a3 : Int) (r : Int × Int), args = [S_api_Terms.enc a0, .int .i64 a1, .int .i64 a2, .int .i64 a3] ∧ closing_Missing.f a0 a1 a2 a3 = some r ∧ v = .tup [.int .i64 r.1, .int .i64 r.2]
theorem closing_Missing.ok : VOk Try.prog 12 closing_Missing.S := by
  refine V_ok Try.func12 rfl fun args v hS => ⟨?_, ?_⟩
  · obtain ⟨a0, a1, a2, a3, r, rfl, H, rfl⟩ := hS
    exact Nat.le_of_ble_eq_true rfl
  · obtain ⟨a0, a1, a2, a3, r, rfl, H, rfl⟩ := hS
    unfold closing_Missing.f at H
    refine T_seq ?_
    refine T_reg ?_
    refine RE.op (op_box (k := 0) rfl rfl rfl rfl) rfl rfl rfl ?_
    refine RE.op (op_assign rfl rfl) rfl rfl rfl ?_
    refine RE.op (op_assign rfl rfl) rfl rfl rfl ?_
    refine RE.nil ⟨⟨[(1, .int .i64 a1), (2, .int .i64 a2), (3, .int .i64 a3), (4, .ptr 0 0)], [.cells [.int .i64 a0.f_Fixed, .int .i64 a0.f_Benchmark]]⟩, weak_sel ⟨rfl, rfl, rfl, rfl, trivial⟩ rfl, ?_⟩
    refine then_normal ?_
    refine T_seq ?_
    refine T_reg ?_
    refine RE.op (op_load_agg (ds := [.int .i64 a0.f_Fixed, .int .i64 a0.f_Benchmark]) ti23 rfl rfl rfl rfl (Nat.le_of_ble_eq_true rfl) rfl) rfl rfl rfl ?_
    refine RE.op (op_move rfl rfl) rfl rfl rfl ?_
    refine RE.op (op_move rfl rfl) rfl rfl rfl ?_
    obtain ⟨t1, ht2, H⟩ := Option.bind_eq_some_iff.1 H
    refine RE.op (op_call (f := 7) rfl rfl rfl rfl en7 closing_Needed.ok ⟨_, _, _, _, rfl, ht2, rfl⟩) rfl rfl rfl ?_
    refine RE.op (op_move rfl rfl) rfl rfl rfl ?_
    refine RE.op (op_extract rfl rfl rfl) rfl rfl rfl ?_
    refine RE.op (op_extract rfl rfl rfl) rfl rfl rfl ?_
    refine RE.op (op_assign rfl rfl) rfl rfl rfl ?_
    refine RE.op (op_assign rfl rfl) rfl rfl rfl ?_
    refine RE.nil ⟨⟨[(3, .int .i64 a3), (10, .int .i64 t1.1), (11, .int .i64 t1.2)], [.cells [.int .i64 a0.f_Fixed, .int .i64 a0.f_Benchmark]]⟩, weak_sel ⟨rfl, rfl, rfl, trivial⟩ rfl, ?_⟩
    refine then_normal ?_
    refine T_seq ?_
    refine T_seq ?_
    obtain ⟨x3, hj6, H⟩ := Option.bind_eq_some_iff.1 H
    refine T_reg_out ⟨[(3, .int .i64 a3), (10, .int .i64 t1.1), (25, .bool x3)], [.cells [.int .i64 a0.f_Fixed, .int .i64 a0.f_Benchmark]]⟩ ?_ ?_
    · clear H
      have H := hj6
      clear hj6
      refine RE.op (op_move rfl rfl) rfl rfl rfl ?_
      refine RE.op (op_bin rfl rfl rfl rfl) rfl rfl rfl ?_
      refine RE.op (op_move rfl rfl) rfl rfl rfl ?_
      by_cases h1 : ¬ t1.2 = 0
      · rw [if_pos h1] at H
        refine RE.skip rfl rfl (getb (bne_iff_ne.mpr h1) rfl) rfl rfl rfl ?_
        refine RE.skip rfl rfl (getb (bne_iff_ne.mpr h1) rfl) rfl rfl rfl ?_
        refine RE.skip rfl rfl (getb (bne_iff_ne.mpr h1) rfl) rfl rfl rfl ?_
        refine RE.op (op_pick_true rfl (evb (bne_iff_ne.mpr h1) rfl) rfl) rfl rfl rfl ?_
        simp only [Option.some.injEq] at H
        subst H
        exact RE.nil (weak_sel (env' := [(3, .int .i64 a3), (10, .int .i64 t1.1), (25, .bool true)]) ⟨rfl, rfl, rfl, trivial⟩ rfl)
      · rw [if_neg h1] at H
        refine RE.opg (op_move rfl rfl) rfl rfl (getb (bne_eq_false_iff_eq.mpr (Decidable.of_not_not h1)) rfl) rfl rfl ?_
        obtain ⟨t4, ht5, H⟩ := Option.bind_eq_some_iff.1 H
        refine RE.opg (op_call (f := 18) rfl rfl rfl rfl en18 closing_to.ok ⟨_, _, _, rfl, ht5, rfl⟩) rfl rfl (getb (bne_eq_false_iff_eq.mpr (Decidable.of_not_not h1)) rfl) rfl rfl ?_
        refine RE.opg (op_not rfl rfl) rfl rfl (getb (bne_eq_false_iff_eq.mpr (Decidable.of_not_not h1)) rfl) rfl rfl ?_
        refine RE.op (op_pick_false rfl (evb (bne_eq_false_iff_eq.mpr (Decidable.of_not_not h1)) rfl) rfl) rfl rfl rfl ?_
        simp only [Option.some.injEq] at H
        subst H
        exact RE.nil (weak_sel (env' := [(3, .int .i64 a3), (10, .int .i64 t1.1), (25, .bool (!t4))]) ⟨rfl, rfl, rfl, trivial⟩ rfl)
    · clear hj6
      refine then_normal ?_
      by_cases h2 : x3 = true
      · rw [if_pos h2] at H
        refine T_yes rfl h2 ?_
        refine T_seq ?_
        refine T_reg ?_
        refine RE.op (op_assign rfl rfl) rfl rfl rfl ?_
        refine RE.op (op_assign rfl rfl) rfl rfl rfl ?_
        refine RE.nil ⟨⟨[(8, .int .i64 0), (9, .int .i64 2)], [.cells [.int .i64 a0.f_Fixed, .int .i64 a0.f_Benchmark]]⟩, weak_sel ⟨rfl, rfl, trivial⟩ rfl, ?_⟩
        refine then_normal ?_
        refine T_ret ?_
        simp only [Option.some.injEq] at H
        subst H
        refine then_ret ?_
        exact ret2 rfl rfl rfl rfl
      · rw [if_neg h2] at H
        refine T_no rfl (Bool.eq_false_iff.mpr h2) ?_
        refine T_skip ?_
        refine then_normal ?_
        refine T_seq ?_
        refine T_reg ?_
        refine RE.op (op_move rfl rfl) rfl rfl rfl ?_
        refine RE.op (op_move rfl rfl) rfl rfl rfl ?_
        refine RE.op (op_bin rfl rfl rfl rfl) rfl rfl rfl ?_
        refine RE.op (op_max rfl rfl rfl) rfl rfl rfl ?_
        refine RE.op (op_assign rfl rfl) rfl rfl rfl ?_
        refine RE.op (op_assign rfl rfl) rfl rfl rfl ?_
        refine RE.nil ⟨⟨[(8, .int .i64 (mx 0 (IntKind.i64.wrap (t1.1 - a3)))), (9, .int .i64 0)], [.cells [.int .i64 a0.f_Fixed, .int .i64 a0.f_Benchmark]]⟩, weak_sel ⟨rfl, rfl, trivial⟩ rfl, ?_⟩
        refine then_normal ?_
        refine T_ret ?_
        simp only [Option.some.injEq] at H
        subst H
        exact ret2 rfl rfl rfl rfl

/-! ### 14 bandplan/closing.Met -/
def closing_Met.f (a0 : S_api_Terms) (a1 : Int) (a2 : Int) (a3 : Int) : Option (Bool × Int) := (closing_Missing.f a0 a1 a2 a3).bind fun t1 => ((if t1.2 = 0 then some (t1.1 == 0) else some false)).bind fun x3 => some (x3, t1.2)
def closing_Met.S (args : List AV) (v : AV) : Prop := ∃ (a0 : S_api_Terms) (a1 : Int) (a2 : Int) (a3 : Int) (r : Bool × Int), args = [S_api_Terms.enc a0, .int .i64 a1, .int .i64 a2, .int .i64 a3] ∧ closing_Met.f a0 a1 a2 a3 = some r ∧ v = .tup [.bool r.1, .int .i64 r.2]
theorem closing_Met.ok : VOk Try.prog 14 closing_Met.S := by
  refine V_ok Try.func14 rfl fun args v hS => ⟨?_, ?_⟩
  · obtain ⟨a0, a1, a2, a3, r, rfl, H, rfl⟩ := hS
    exact Nat.le_of_ble_eq_true rfl
  · obtain ⟨a0, a1, a2, a3, r, rfl, H, rfl⟩ := hS
    unfold closing_Met.f at H
    refine T_seq ?_
    refine T_reg ?_
    refine RE.op (op_box (k := 0) rfl rfl rfl rfl) rfl rfl rfl ?_
    refine RE.op (op_assign rfl rfl) rfl rfl rfl ?_
    refine RE.op (op_assign rfl rfl) rfl rfl rfl ?_
    refine RE.nil ⟨⟨[(1, .int .i64 a1), (2, .int .i64 a2), (3, .int .i64 a3), (4, .ptr 0 0)], [.cells [.int .i64 a0.f_Fixed, .int .i64 a0.f_Benchmark]]⟩, weak_sel ⟨rfl, rfl, rfl, rfl, trivial⟩ rfl, ?_⟩
    refine then_normal ?_
    refine T_seq ?_
    refine T_reg ?_
    refine RE.op (op_load_agg (ds := [.int .i64 a0.f_Fixed, .int .i64 a0.f_Benchmark]) ti23 rfl rfl rfl rfl (Nat.le_of_ble_eq_true rfl) rfl) rfl rfl rfl ?_
    refine RE.op (op_move rfl rfl) rfl rfl rfl ?_
    refine RE.op (op_move rfl rfl) rfl rfl rfl ?_
    refine RE.op (op_move rfl rfl) rfl rfl rfl ?_
    obtain ⟨t1, ht2, H⟩ := Option.bind_eq_some_iff.1 H
    refine RE.op (op_call (f := 12) rfl rfl rfl rfl en12 closing_Missing.ok ⟨_, _, _, _, _, rfl, ht2, rfl⟩) rfl rfl rfl ?_
    refine RE.op (op_move rfl rfl) rfl rfl rfl ?_
    refine RE.op (op_extract rfl rfl rfl) rfl rfl rfl ?_
    refine RE.op (op_extract rfl rfl rfl) rfl rfl rfl ?_
    refine RE.op (op_assign rfl rfl) rfl rfl rfl ?_
    refine RE.op (op_assign rfl rfl) rfl rfl rfl ?_
    refine RE.nil ⟨⟨[(10, .int .i64 t1.1), (11, .int .i64 t1.2)], [.cells [.int .i64 a0.f_Fixed, .int .i64 a0.f_Benchmark]]⟩, weak_sel ⟨rfl, rfl, trivial⟩ rfl, ?_⟩
    refine then_normal ?_
    refine T_seq ?_
    obtain ⟨x3, hj4, H⟩ := Option.bind_eq_some_iff.1 H
    refine T_reg_out ⟨[(8, .bool x3), (9, .int .i64 t1.2)], [.cells [.int .i64 a0.f_Fixed, .int .i64 a0.f_Benchmark]]⟩ ?_ ?_
    · clear H
      have H := hj4
      clear hj4
      refine RE.op (op_move rfl rfl) rfl rfl rfl ?_
      refine RE.op (op_bin rfl rfl rfl rfl) rfl rfl rfl ?_
      refine RE.op (op_move rfl rfl) rfl rfl rfl ?_
      by_cases h1 : t1.2 = 0
      · rw [if_pos h1] at H
        refine RE.opg (op_move rfl rfl) rfl rfl (getb (beq_iff_eq.mpr h1) rfl) rfl rfl ?_
        refine RE.opg (op_bin rfl rfl rfl rfl) rfl rfl (getb (beq_iff_eq.mpr h1) rfl) rfl rfl ?_
        refine RE.op (op_pick_true rfl (evb (beq_iff_eq.mpr h1) rfl) rfl) rfl rfl rfl ?_
        refine RE.op (op_move rfl rfl) rfl rfl rfl ?_
        refine RE.op (op_assign rfl rfl) rfl rfl rfl ?_
        refine RE.op (op_assign rfl rfl) rfl rfl rfl ?_
        simp only [Option.some.injEq] at H
        subst H
        exact RE.nil (weak_sel (env' := [(8, .bool (t1.1 == 0)), (9, .int .i64 t1.2)]) ⟨rfl, rfl, trivial⟩ rfl)
      · rw [if_neg h1] at H
        refine RE.skip rfl rfl (getb (beq_eq_false_iff_ne.mpr h1) rfl) rfl rfl rfl ?_
        refine RE.skip rfl rfl (getb (beq_eq_false_iff_ne.mpr h1) rfl) rfl rfl rfl ?_
        refine RE.op (op_pick_false rfl (evb (beq_eq_false_iff_ne.mpr h1) rfl) rfl) rfl rfl rfl ?_
        refine RE.op (op_move rfl rfl) rfl rfl rfl ?_
        refine RE.op (op_assign rfl rfl) rfl rfl rfl ?_
        refine RE.op (op_assign rfl rfl) rfl rfl rfl ?_
        simp only [Option.some.injEq] at H
        subst H
        exact RE.nil (weak_sel (env' := [(8, .bool false), (9, .int .i64 t1.2)]) ⟨rfl, rfl, trivial⟩ rfl)
    · clear hj4
      refine then_normal ?_
      refine T_ret ?_
      simp only [Option.some.injEq] at H
      subst H
      exact ret2 rfl rfl rfl rfl

/-! ### 13 bandplan/bandplanref37.Missing -/
def bandplanref37_Missing.f (a0 : S_api_Terms) (a1 : Int) (a2 : Int) (a3 : Int) : Option (Int × Int) := (bandplanref37_Needed.f a0 a1 a2).bind fun t1 => ((if ¬ t1.2 = 0 then some true else (if a3 < 0 then some true else some (decide (a3 > 1125899906842624))))).bind fun x3 => (if x3 = true then some (0, 2) else some (mx 0 (IntKind.i64.wrap (t1.1 - a3)), 0))
def bandplanref37_Missing.S (args : List AV) (v : AV) : Prop := ∃ (a0 : S_api_Terms) (a1 : Int) (a2 : Int) (a3 : Int) (r : Int × Int), args = [S_api_Terms.enc a0, .int .i64 a1, .int .i64 a2, .int .i64 a3] ∧ bandplanref37_Missing.f a0 a1 a2 a3 = some r ∧ v = .tup [.int .i64 r.1, .int .i64 r.2]
theorem bandplanref37_Missing.ok : VOk Try.prog 13 bandplanref37_Missing.S := by
  refine V_ok Try.func13 rfl fun args v hS => ⟨?_, ?_⟩
  · obtain ⟨a0, a1, a2, a3, r, rfl, H, rfl⟩ := hS
    exact Nat.le_of_ble_eq_true rfl
  · obtain ⟨a0, a1, a2, a3, r, rfl, H, rfl⟩ := hS
    unfold bandplanref37_Missing.f at H
    refine T_seq ?_
    refine T_reg ?_
    refine RE.op (op_box (k := 0) rfl rfl rfl rfl) rfl rfl rfl ?_
    refine RE.op (op_assign rfl rfl) rfl rfl rfl ?_
    refine RE.op (op_assign rfl rfl) rfl rfl rfl ?_
    refine RE.nil ⟨⟨[(1, .int .i64 a1), (2, .int .i64 a2), (3, .int .i64 a3), (4, .ptr 0 0)], [.cells [.int .i64 a0.f_Fixed, .int .i64 a0.f_Benchmark]]⟩, weak_sel ⟨rfl, rfl, rfl, rfl, trivial⟩ rfl, ?_⟩
    refine then_normal ?_
    refine T_seq ?_
    refine T_reg ?_
    refine RE.op (op_load_agg (ds := [.int .i64 a0.f_Fixed, .int .i64 a0.f_Benchmark]) ti23 rfl rfl rfl rfl (Nat.le_of_ble_eq_true rfl) rfl) rfl rfl rfl ?_
    refine RE.op (op_move rfl rfl) rfl rfl rfl ?_
    refine RE.op (op_move rfl rfl) rfl rfl rfl ?_
    obtain ⟨t1, ht2, H⟩ := Option.bind_eq_some_iff.1 H
    refine RE.op (op_call (f := 8) rfl rfl rfl rfl en8 bandplanref37_Needed.ok ⟨_, _, _, _, rfl, ht2, rfl⟩) rfl rfl rfl ?_
    refine RE.op (op_move rfl rfl) rfl rfl rfl ?_
    refine RE.op (op_extract rfl rfl rfl) rfl rfl rfl ?_
    refine RE.op (op_extract rfl rfl rfl) rfl rfl rfl ?_
    refine RE.op (op_assign rfl rfl) rfl rfl rfl ?_
    refine RE.op (op_assign rfl rfl) rfl rfl rfl ?_
    refine RE.nil ⟨⟨[(3, .int .i64 a3), (10, .int .i64 t1.1), (11, .int .i64 t1.2)], [.cells [.int .i64 a0.f_Fixed, .int .i64 a0.f_Benchmark]]⟩, weak_sel ⟨rfl, rfl, rfl, trivial⟩ rfl, ?_⟩
    refine then_normal ?_
    refine T_seq ?_
    refine T_seq ?_
    obtain ⟨x3, hj4, H⟩ := Option.bind_eq_some_iff.1 H
    refine T_reg_out ⟨[(3, .int .i64 a3), (10, .int .i64 t1.1), (28, .bool x3)], [.cells [.int .i64 a0.f_Fixed, .int .i64 a0.f_Benchmark]]⟩ ?_ ?_
    · clear H
      have H := hj4
      clear hj4
      refine RE.op (op_move rfl rfl) rfl rfl rfl ?_
      refine RE.op (op_bin rfl rfl rfl rfl) rfl rfl rfl ?_
      refine RE.op (op_move rfl rfl) rfl rfl rfl ?_
      by_cases h1 : ¬ t1.2 = 0
      · rw [if_pos h1] at H
        refine RE.skip rfl rfl (getb (bne_iff_ne.mpr h1) rfl) rfl rfl rfl ?_
        refine RE.skip rfl rfl (getb (bne_iff_ne.mpr h1) rfl) rfl rfl rfl ?_
        refine RE.op (op_pick_true rfl (evb (bne_iff_ne.mpr h1) rfl) rfl) rfl rfl rfl ?_
        refine RE.op (op_move rfl rfl) rfl rfl rfl ?_
        refine RE.skip rfl rfl rfl rfl rfl rfl ?_
        refine RE.skip rfl rfl rfl rfl rfl rfl ?_
        refine RE.op (op_pick_true rfl rfl rfl) rfl rfl rfl ?_
        simp only [Option.some.injEq] at H
        subst H
        exact RE.nil (weak_sel (env' := [(3, .int .i64 a3), (10, .int .i64 t1.1), (28, .bool true)]) ⟨rfl, rfl, rfl, trivial⟩ rfl)
      · rw [if_neg h1] at H
        refine RE.opg (op_move rfl rfl) rfl rfl (getb (bne_eq_false_iff_eq.mpr (Decidable.of_not_not h1)) rfl) rfl rfl ?_
        refine RE.opg (op_bin rfl rfl rfl rfl) rfl rfl (getb (bne_eq_false_iff_eq.mpr (Decidable.of_not_not h1)) rfl) rfl rfl ?_
        refine RE.op (op_pick_false rfl (evb (bne_eq_false_iff_eq.mpr (Decidable.of_not_not h1)) rfl) rfl) rfl rfl rfl ?_
        refine RE.op (op_move rfl rfl) rfl rfl rfl ?_
        by_cases h2 : a3 < 0
        · rw [if_pos h2] at H
          refine RE.skip rfl rfl (getb (decide_eq_true h2) rfl) rfl rfl rfl ?_
          refine RE.skip rfl rfl (getb (decide_eq_true h2) rfl) rfl rfl rfl ?_
          refine RE.op (op_pick_true rfl (evb (decide_eq_true h2) rfl) rfl) rfl rfl rfl ?_
          simp only [Option.some.injEq] at H
          subst H
          exact RE.nil (weak_sel (env' := [(3, .int .i64 a3), (10, .int .i64 t1.1), (28, .bool true)]) ⟨rfl, rfl, rfl, trivial⟩ rfl)
        · rw [if_neg h2] at H
          refine RE.opg (op_move rfl rfl) rfl rfl (getb (decide_eq_false h2) rfl) rfl rfl ?_
          refine RE.opg (op_bin rfl rfl rfl rfl) rfl rfl (getb (decide_eq_false h2) rfl) rfl rfl ?_
          refine RE.op (op_pick_false rfl (evb (decide_eq_false h2) rfl) rfl) rfl rfl rfl ?_
          simp only [Option.some.injEq] at H
          subst H
          exact RE.nil (weak_sel (env' := [(3, .int .i64 a3), (10, .int .i64 t1.1), (28, .bool (decide (a3 > 1125899906842624)))]) ⟨rfl, rfl, rfl, trivial⟩ rfl)
    · clear hj4
      refine then_normal ?_
      by_cases h3 : x3 = true
      · rw [if_pos h3] at H
        refine T_yes rfl h3 ?_
        refine T_seq ?_
        refine T_reg ?_
        refine RE.op (op_assign rfl rfl) rfl rfl rfl ?_
        refine RE.op (op_assign rfl rfl) rfl rfl rfl ?_
        refine RE.nil ⟨⟨[(8, .int .i64 0), (9, .int .i64 2)], [.cells [.int .i64 a0.f_Fixed, .int .i64 a0.f_Benchmark]]⟩, weak_sel ⟨rfl, rfl, trivial⟩ rfl, ?_⟩
        refine then_normal ?_
        refine T_ret ?_
        simp only [Option.some.injEq] at H
        subst H
        refine then_ret ?_
        exact ret2 rfl rfl rfl rfl
      · rw [if_neg h3] at H
        refine T_no rfl (Bool.eq_false_iff.mpr h3) ?_
        refine T_skip ?_
        refine then_normal ?_
        refine T_seq ?_
        refine T_reg ?_
        refine RE.op (op_move rfl rfl) rfl rfl rfl ?_
        refine RE.op (op_move rfl rfl) rfl rfl rfl ?_
        refine RE.op (op_bin rfl rfl rfl rfl) rfl rfl rfl ?_
        refine RE.op (op_max rfl rfl rfl) rfl rfl rfl ?_
        refine RE.op (op_assign rfl rfl) rfl rfl rfl ?_
        refine RE.op (op_assign rfl rfl) rfl rfl rfl ?_
        refine RE.nil ⟨⟨[(8, .int .i64 (mx 0 (IntKind.i64.wrap (t1.1 - a3)))), (9, .int .i64 0)], [.cells [.int .i64 a0.f_Fixed, .int .i64 a0.f_Benchmark]]⟩, weak_sel ⟨rfl, rfl, trivial⟩ rfl, ?_⟩
        refine then_normal ?_
        refine T_ret ?_
        simp only [Option.some.injEq] at H
        subst H
        exact ret2 rfl rfl rfl rfl

/-! ### 15 bandplan/bandplanref37.Met -/
def bandplanref37_Met.f (a0 : S_api_Terms) (a1 : Int) (a2 : Int) (a3 : Int) : Option (Bool × Int) := (bandplanref37_Missing.f a0 a1 a2 a3).bind fun t1 => ((if t1.2 = 0 then some (t1.1 == 0) else some false)).bind fun x3 => some (x3, t1.2)
def bandplanref37_Met.S (args : List AV) (v : AV) : Prop := ∃ (a0 : S_api_Terms) (a1 : Int) (a2 : Int) (a3 : Int) (r : Bool × Int), args = [S_api_Terms.enc a0, .int .i64 a1, .int .i64 a2, .int .i64 a3] ∧ bandplanref37_Met.f a0 a1 a2 a3 = some r ∧ v = .tup [.bool r.1, .int .i64 r.2]
theorem bandplanref37_Met.ok : VOk Try.prog 15 bandplanref37_Met.S := by
  refine V_ok Try.func15 rfl fun args v hS => ⟨?_, ?_⟩
  · obtain ⟨a0, a1, a2, a3, r, rfl, H, rfl⟩ := hS
    exact Nat.le_of_ble_eq_true rfl
  · obtain ⟨a0, a1, a2, a3, r, rfl, H, rfl⟩ := hS
    unfold bandplanref37_Met.f at H
    refine T_seq ?_
    refine T_reg ?_
    refine RE.op (op_box (k := 0) rfl rfl rfl rfl) rfl rfl rfl ?_
    refine RE.op (op_assign rfl rfl) rfl rfl rfl ?_
    refine RE.op (op_assign rfl rfl) rfl rfl rfl ?_
    refine RE.nil ⟨⟨[(1, .int .i64 a1), (2, .int .i64 a2), (3, .int .i64 a3), (4, .ptr 0 0)], [.cells [.int .i64 a0.f_Fixed, .int .i64 a0.f_Benchmark]]⟩, weak_sel ⟨rfl, rfl, rfl, rfl, trivial⟩ rfl, ?_⟩
    refine then_normal ?_
    refine T_seq ?_
    refine T_reg ?_
    refine RE.op (op_load_agg (ds := [.int .i64 a0.f_Fixed, .int .i64 a0.f_Benchmark]) ti23 rfl rfl rfl rfl (Nat.le_of_ble_eq_true rfl) rfl) rfl rfl rfl ?_
    refine RE.op (op_move rfl rfl) rfl rfl rfl ?_
    refine RE.op (op_move rfl rfl) rfl rfl rfl ?_
    refine RE.op (op_move rfl rfl) rfl rfl rfl ?_
    obtain ⟨t1, ht2, H⟩ := Option.bind_eq_some_iff.1 H
    refine RE.op (op_call (f := 13) rfl rfl rfl rfl en13 bandplanref37_Missing.ok ⟨_, _, _, _, _, rfl, ht2, rfl⟩) rfl rfl rfl ?_
    refine RE.op (op_move rfl rfl) rfl rfl rfl ?_
    refine RE.op (op_extract rfl rfl rfl) rfl rfl rfl ?_
    refine RE.op (op_extract rfl rfl rfl) rfl rfl rfl ?_
    refine RE.op (op_assign rfl rfl) rfl rfl rfl ?_
    refine RE.op (op_assign rfl rfl) rfl rfl rfl ?_
    refine RE.nil ⟨⟨[(10, .int .i64 t1.1), (11, .int .i64 t1.2)], [.cells [.int .i64 a0.f_Fixed, .int .i64 a0.f_Benchmark]]⟩, weak_sel ⟨rfl, rfl, trivial⟩ rfl, ?_⟩
    refine then_normal ?_
    refine T_seq ?_
    obtain ⟨x3, hj4, H⟩ := Option.bind_eq_some_iff.1 H
    refine T_reg_out ⟨[(8, .bool x3), (9, .int .i64 t1.2)], [.cells [.int .i64 a0.f_Fixed, .int .i64 a0.f_Benchmark]]⟩ ?_ ?_
    · clear H
      have H := hj4
      clear hj4
      refine RE.op (op_move rfl rfl) rfl rfl rfl ?_
      refine RE.op (op_bin rfl rfl rfl rfl) rfl rfl rfl ?_
      refine RE.op (op_move rfl rfl) rfl rfl rfl ?_
      by_cases h1 : t1.2 = 0
      · rw [if_pos h1] at H
        refine RE.opg (op_move rfl rfl) rfl rfl (getb (beq_iff_eq.mpr h1) rfl) rfl rfl ?_
        refine RE.opg (op_bin rfl rfl rfl rfl) rfl rfl (getb (beq_iff_eq.mpr h1) rfl) rfl rfl ?_
        refine RE.op (op_pick_true rfl (evb (beq_iff_eq.mpr h1) rfl) rfl) rfl rfl rfl ?_
        refine RE.op (op_move rfl rfl) rfl rfl rfl ?_
        refine RE.op (op_assign rfl rfl) rfl rfl rfl ?_
        refine RE.op (op_assign rfl rfl) rfl rfl rfl ?_
        simp only [Option.some.injEq] at H
        subst H
        exact RE.nil (weak_sel (env' := [(8, .bool (t1.1 == 0)), (9, .int .i64 t1.2)]) ⟨rfl, rfl, trivial⟩ rfl)
      · rw [if_neg h1] at H
        refine RE.skip rfl rfl (getb (beq_eq_false_iff_ne.mpr h1) rfl) rfl rfl rfl ?_
        refine RE.skip rfl rfl (getb (beq_eq_false_iff_ne.mpr h1) rfl) rfl rfl rfl ?_
        refine RE.op (op_pick_false rfl (evb (beq_eq_false_iff_ne.mpr h1) rfl) rfl) rfl rfl rfl ?_
        refine RE.op (op_move rfl rfl) rfl rfl rfl ?_
        refine RE.op (op_assign rfl rfl) rfl rfl rfl ?_
        refine RE.op (op_assign rfl rfl) rfl rfl rfl ?_
        simp only [Option.some.injEq] at H
        subst H
        exact RE.nil (weak_sel (env' := [(8, .bool false), (9, .int .i64 t1.2)]) ⟨rfl, rfl, trivial⟩ rfl)
    · clear hj4
      refine then_normal ?_
      refine T_ret ?_
      simp only [Option.some.injEq] at H
      subst H
      exact ret2 rfl rfl rfl rfl

/-! ### 19 sort.Search -/
def sort_Search.l0 (a1 : Int → Option Bool) : Nat → (Int × Int) → Option (Int)
  | 0, _ => none
  | k + 1, (x1, x2) => (if x1 < x2 then (a1 (IntKind.i64.wrap (Int.fdiv (IntKind.u64.wrap (IntKind.i64.wrap (x1 + x2))) (2 ^ (min (Int.toNat 1) (IntKind.bits .u64)))))).bind fun t6 => ((if ¬ (t6 = true) then some (IntKind.i64.wrap ((IntKind.i64.wrap (Int.fdiv (IntKind.u64.wrap (IntKind.i64.wrap (x1 + x2))) (2 ^ (min (Int.toNat 1) (IntKind.bits .u64))))) + 1), x2) else some (x1, IntKind.i64.wrap (Int.fdiv (IntKind.u64.wrap (IntKind.i64.wrap (x1 + x2))) (2 ^ (min (Int.toNat 1) (IntKind.bits .u64))))))).bind fun ⟨x8, x9⟩ => sort_Search.l0 a1 k (x8, x9) else some x1)
def sort_Search.f (k : Nat) (a0 : Int) (a1 : Int → Option Bool) : Option (Int) := (sort_Search.l0 a1 k (0, a0)).bind fun x3 => some x3
def sort_Search.S (args : List AV) (v : AV) : Prop := ∃ (k : Nat) (a0 : Int) (a1 : Int → Option Bool) (f1 : Nat) (c1 : List AV) (S1 : List AV → AV → Prop) (r : Int), args = [.int .i64 a0, .fn f1 c1] ∧ Enters Try.prog f1 ∧ VOk Try.prog f1 S1 ∧ (∀ bs, imms bs c1 = some c1) ∧ (∀ (y0 : Int) (z : Bool), a1 y0 = some z → S1 ([.int .i64 y0] ++ c1) (.bool z)) ∧ sort_Search.f k a0 a1 = some r ∧ v = .int .i64 r
theorem sort_Search.ok : VOk Try.prog 19 sort_Search.S := by
  refine V_ok Try.func19 rfl fun args v hS => ⟨?_, ?_⟩
  · obtain ⟨k, a0, a1, f1, c1, S1, r, rfl, hE1, hV1, hC1, hP1, H, rfl⟩ := hS
    exact Nat.le_of_ble_eq_true rfl
  · obtain ⟨k, a0, a1, f1, c1, S1, r, rfl, hE1, hV1, hC1, hP1, H, rfl⟩ := hS
    unfold sort_Search.f at H
    refine T_seq ?_
    refine T_reg ?_
    refine RE.op (op_assign rfl rfl) rfl rfl rfl ?_
    refine RE.nil ⟨⟨[(0, .int .i64 a0), (1, .fn f1 c1)], []⟩, weak_sel ⟨rfl, rfl, trivial⟩ rfl, ?_⟩
    refine then_normal ?_
    refine T_seq ?_
    refine T_reg ?_
    refine RE.op (op_move rfl rfl) rfl rfl rfl ?_
    refine RE.op (op_assign rfl rfl) rfl rfl rfl ?_
    refine RE.op (op_assign rfl rfl) rfl rfl rfl ?_
    refine RE.nil ⟨⟨[(1, .fn f1 c1), (5, .int .i64 0), (6, .int .i64 a0)], []⟩, weak_sel ⟨rfl, rfl, rfl, trivial⟩ rfl, ?_⟩
    refine then_normal ?_
    refine T_seq ?_
    refine T_block ?_
    obtain ⟨x3, hj5, H⟩ := Option.bind_eq_some_iff.1 H
    refine T_loop_out ((fun (x_ : Int × Int) => ⟨[(1, .fn f1 c1), (5, .int .i64 x_.1), (6, .int .i64 x_.2)], []⟩) (0, a0)) ((fun _ => .exit 0) x3) ((fun (x_ : (Int)) => ⟨[(5, .int .i64 x_)], []⟩) x3) (weak_sel (env' := [(1, .fn f1 c1), (5, .int .i64 0), (6, .int .i64 a0)]) ⟨rfl, rfl, rfl, trivial⟩ rfl) ?_ ?_
    · refine T_fix (sort_Search.l0 a1) (fun (x_ : Int × Int) => ⟨[(1, .fn f1 c1), (5, .int .i64 x_.1), (6, .int .i64 x_.2)], []⟩) (fun _ => .exit 0) (fun (x_ : (Int)) => ⟨[(5, .int .i64 x_)], []⟩) (fun _ => rfl) ?_ _ (0, a0) _ hj5
      clear H hj5
      intro k IH x_ o H
      obtain ⟨x1, x2⟩ := x_
      unfold sort_Search.l0 at H
      (try simp only at H)
      refine T_seq ?_
      refine T_seq ?_
      refine T_reg ?_
      refine RE.op (op_move rfl rfl) rfl rfl rfl ?_
      refine RE.op (op_move rfl rfl) rfl rfl rfl ?_
      refine RE.op (op_bin rfl rfl rfl rfl) rfl rfl rfl ?_
      refine RE.nil ⟨⟨[(1, .fn f1 c1), (5, .int .i64 x1), (6, .int .i64 x2), (11, .bool (decide (x1 < x2)))], []⟩, weak_sel ⟨rfl, rfl, rfl, rfl, trivial⟩ rfl, ?_⟩
      refine then_normal ?_
      by_cases h1 : x1 < x2
      · rw [if_pos h1] at H
        refine T_yes rfl (decide_eq_true h1) ?_
        refine T_skip ?_
        refine then_normal ?_
        refine T_block ?_
        refine T_seq ?_
        refine T_reg ?_
        refine RE.op (op_move rfl rfl) rfl rfl rfl ?_
        refine RE.op (op_move rfl rfl) rfl rfl rfl ?_
        refine RE.op (op_bin rfl rfl rfl rfl) rfl rfl rfl ?_
        refine RE.op (op_conv Try.underlying3 Try.underlying43 rfl rfl) rfl rfl rfl ?_
        refine RE.op (op_shr rfl rfl rfl (by decide)) rfl rfl rfl ?_
        refine RE.op (op_conv Try.underlying43 Try.underlying3 rfl rfl) rfl rfl rfl ?_
        refine RE.op (op_assign rfl rfl) rfl rfl rfl ?_
        refine RE.nil ⟨⟨[(1, .fn f1 c1), (5, .int .i64 x1), (6, .int .i64 x2), (7, .int .i64 (IntKind.i64.wrap (Int.fdiv (IntKind.u64.wrap (IntKind.i64.wrap (x1 + x2))) (2 ^ (min (Int.toNat 1) (IntKind.bits .u64))))))], []⟩, weak_sel ⟨rfl, rfl, rfl, rfl, trivial⟩ rfl, ?_⟩
        refine then_normal ?_
        refine T_seq ?_
        refine T_reg ?_
        refine RE.op (op_move rfl rfl) rfl rfl rfl ?_
        refine RE.op (op_move rfl rfl) rfl rfl rfl ?_
        obtain ⟨t6, ht7, H⟩ := Option.bind_eq_some_iff.1 H
        refine RE.op (op_callp rfl rfl rfl hC1 hE1 hV1 (hP1 _ _ ht7)) rfl rfl rfl ?_
        refine RE.op (op_not rfl rfl) rfl rfl rfl ?_
        refine RE.nil ⟨⟨[(1, .fn f1 c1), (5, .int .i64 x1), (6, .int .i64 x2), (7, .int .i64 (IntKind.i64.wrap (Int.fdiv (IntKind.u64.wrap (IntKind.i64.wrap (x1 + x2))) (2 ^ (min (Int.toNat 1) (IntKind.bits .u64)))))), (21, .bool (!t6))], []⟩, weak_sel ⟨rfl, rfl, rfl, rfl, rfl, trivial⟩ rfl, ?_⟩
        refine then_normal ?_
        obtain ⟨o10, hj11, H⟩ := Option.bind_eq_some_iff.1 H
        refine T_out ((fun _ => .normal) o10) ((fun (x_ : (Int × Int)) => ⟨[(1, .fn f1 c1), (5, .int .i64 x_.1), (6, .int .i64 x_.2)], []⟩) o10) ?_ ?_
        · clear H
          have H := hj11
          clear hj11
          by_cases h2 : ¬ (t6 = true)
          · rw [if_pos h2] at H
            refine T_yes rfl (not_t (Bool.eq_false_iff.mpr h2)) ?_
            refine T_reg ?_
            refine RE.op (op_move rfl rfl) rfl rfl rfl ?_
            refine RE.op (op_bin rfl rfl rfl rfl) rfl rfl rfl ?_
            refine RE.op (op_assign rfl rfl) rfl rfl rfl ?_
            refine RE.nil ⟨⟨[(1, .fn f1 c1), (5, .int .i64 (IntKind.i64.wrap ((IntKind.i64.wrap (Int.fdiv (IntKind.u64.wrap (IntKind.i64.wrap (x1 + x2))) (2 ^ (min (Int.toNat 1) (IntKind.bits .u64))))) + 1))), (6, .int .i64 x2)], []⟩, weak_sel ⟨rfl, rfl, rfl, trivial⟩ rfl, ?_⟩
            simp only [Option.some.injEq] at H
            subst H
            exact ⟨rfl, weak_sel (env' := [(1, .fn f1 c1), (5, .int .i64 (IntKind.i64.wrap ((IntKind.i64.wrap (Int.fdiv (IntKind.u64.wrap (IntKind.i64.wrap (x1 + x2))) (2 ^ (min (Int.toNat 1) (IntKind.bits .u64))))) + 1))), (6, .int .i64 x2)]) ⟨rfl, rfl, rfl, trivial⟩ rfl⟩
          · rw [if_neg h2] at H
            refine T_no rfl (not_f (Decidable.of_not_not h2)) ?_
            refine T_reg ?_
            refine RE.op (op_move rfl rfl) rfl rfl rfl ?_
            refine RE.op (op_assign rfl rfl) rfl rfl rfl ?_
            refine RE.nil ⟨⟨[(1, .fn f1 c1), (5, .int .i64 x1), (6, .int .i64 (IntKind.i64.wrap (Int.fdiv (IntKind.u64.wrap (IntKind.i64.wrap (x1 + x2))) (2 ^ (min (Int.toNat 1) (IntKind.bits .u64))))))], []⟩, weak_sel ⟨rfl, rfl, rfl, trivial⟩ rfl, ?_⟩
            simp only [Option.some.injEq] at H
            subst H
            exact ⟨rfl, weak_sel (env' := [(1, .fn f1 c1), (5, .int .i64 x1), (6, .int .i64 (IntKind.i64.wrap (Int.fdiv (IntKind.u64.wrap (IntKind.i64.wrap (x1 + x2))) (2 ^ (min (Int.toNat 1) (IntKind.bits .u64))))))]) ⟨rfl, rfl, rfl, trivial⟩ rfl⟩
        · clear hj11
          obtain ⟨x8, x9⟩ := o10
          refine block_normal ?_
          refine then_normal ?_
          exact LoopAt.weak (weak_sel (env' := [(1, .fn f1 c1), (5, .int .i64 x8), (6, .int .i64 x9)]) ⟨rfl, rfl, rfl, trivial⟩ rfl) (IH _ _ H)
      · rw [if_neg h1] at H
        refine T_no rfl (decide_eq_false h1) ?_
        refine T_exit ?_
        simp only [Option.some.injEq] at H
        subst H
        refine then_exit ?_
        refine then_exit ?_
        exact ⟨rfl, weak_sel (env' := [(5, .int .i64 x1)]) ⟨rfl, trivial⟩ rfl⟩
    · clear hj5
      refine block_eq ?_
      refine then_normal ?_
      refine T_seq ?_
      refine T_reg ?_
      refine RE.op (op_move rfl rfl) rfl rfl rfl ?_
      refine RE.op (op_assign rfl rfl) rfl rfl rfl ?_
      refine RE.nil ⟨⟨[(4, .int .i64 x3)], []⟩, weak_sel ⟨rfl, trivial⟩ rfl, ?_⟩
      refine then_normal ?_
      refine T_ret ?_
      simp only [Option.some.injEq] at H
      subst H
      exact ret1 rfl rfl rfl

/-! ### 20 bandplan/closing.Raise$1 -/
def closing_Raise_1.f (a0 : Int) (a1 : Int) (a2 : Int) : Option (Bool) := some (decide ((IntKind.i64.wrap (Int.tdiv (IntKind.i64.wrap (a1 * (IntKind.i64.wrap (100 + a0)))) 100)) ≥ a2))
def closing_Raise_1.S (args : List AV) (v : AV) : Prop := ∃ (a0 : Int) (a1 : Int) (a2 : Int) (r : Bool), args = [.int .i64 a0, .eptr [.agg [.int .i64 a1]] 0 0, .eptr [.agg [.int .i64 a2]] 0 0] ∧ closing_Raise_1.f a0 a1 a2 = some r ∧ v = .bool r
theorem closing_Raise_1.ok : VOk Try.prog 20 closing_Raise_1.S := by
  refine V_ok Try.func20 rfl fun args v hS => ⟨?_, ?_⟩
  · obtain ⟨a0, a1, a2, r, rfl, H, rfl⟩ := hS
    exact Nat.le_of_ble_eq_true rfl
  · obtain ⟨a0, a1, a2, r, rfl, H, rfl⟩ := hS
    unfold closing_Raise_1.f at H
    refine T_seq ?_
    refine T_reg ?_
    refine RE.op (op_assign rfl rfl) rfl rfl rfl ?_
    refine RE.nil ⟨⟨[(0, .int .i64 a0), (1, .eptr [.agg [.int .i64 a1]] 0 0), (2, .eptr [.agg [.int .i64 a2]] 0 0)], []⟩, weak_sel ⟨rfl, rfl, rfl, trivial⟩ rfl, ?_⟩
    refine then_normal ?_
    refine T_seq ?_
    refine T_reg ?_
    refine RE.op (op_load_e ti3 rfl rfl rfl rfl rfl) rfl rfl rfl ?_
    refine RE.op (op_move rfl rfl) rfl rfl rfl ?_
    refine RE.op (op_bin rfl rfl rfl rfl) rfl rfl rfl ?_
    refine RE.op (op_bin rfl rfl rfl rfl) rfl rfl rfl ?_
    refine RE.op (op_quo rfl rfl rfl (by decide)) rfl rfl rfl ?_
    refine RE.op (op_load_e ti3 rfl rfl rfl rfl rfl) rfl rfl rfl ?_
    refine RE.op (op_bin rfl rfl rfl rfl) rfl rfl rfl ?_
    refine RE.op (op_assign rfl rfl) rfl rfl rfl ?_
    refine RE.nil ⟨⟨[(4, .bool (decide ((IntKind.i64.wrap (Int.tdiv (IntKind.i64.wrap (a1 * (IntKind.i64.wrap (100 + a0)))) 100)) ≥ a2)))], []⟩, weak_sel ⟨rfl, trivial⟩ rfl, ?_⟩
    refine then_normal ?_
    refine T_ret ?_
    simp only [Option.some.injEq] at H
    subst H
    exact ret1 rfl rfl rfl

/-! ### 16 bandplan/closing.Raise -/
def closing_Raise.f (k : Nat) (a0 : S_api_Terms) (a1 : Int) (a2 : Int) (a3 : Int) : Option (Int × Int) := (closing_Needed.f a0 a1 a2).bind fun t1 => ((if ¬ t1.2 = 0 then some true else (closing_to.f a3 1125899906842624).bind fun t4 => some (!t4))).bind fun x3 => (if x3 = true then some (0, 2) else (sort_Search.f k 1001 (fun y0 => closing_Raise_1.f y0 a3 t1.1)).bind fun t7 => (if t7 > 1000 then some (0, 9) else some (t7, 0)))
def closing_Raise.S (args : List AV) (v : AV) : Prop := ∃ (k : Nat) (a0 : S_api_Terms) (a1 : Int) (a2 : Int) (a3 : Int) (r : Int × Int), args = [S_api_Terms.enc a0, .int .i64 a1, .int .i64 a2, .int .i64 a3] ∧ closing_Raise.f k a0 a1 a2 a3 = some r ∧ v = .tup [.int .i64 r.1, .int .i64 r.2]
theorem closing_Raise.ok : VOk Try.prog 16 closing_Raise.S := by
  refine V_ok Try.func16 rfl fun args v hS => ⟨?_, ?_⟩
  · obtain ⟨k, a0, a1, a2, a3, r, rfl, H, rfl⟩ := hS
    exact Nat.le_of_ble_eq_true rfl
  · obtain ⟨k, a0, a1, a2, a3, r, rfl, H, rfl⟩ := hS
    unfold closing_Raise.f at H
    refine T_seq ?_
    refine T_reg ?_
    refine RE.op (op_box (k := 0) rfl rfl rfl rfl) rfl rfl rfl ?_
    refine RE.op (op_box (k := 1) rfl rfl rfl rfl) rfl rfl rfl ?_
    refine RE.op (op_assign rfl rfl) rfl rfl rfl ?_
    refine RE.op (op_assign rfl rfl) rfl rfl rfl ?_
    refine RE.nil ⟨⟨[(1, .int .i64 a1), (2, .int .i64 a2), (4, .ptr 0 0), (7, .ptr 1 0)], [.cells [.int .i64 a0.f_Fixed, .int .i64 a0.f_Benchmark], .cells [.int .i64 a3]]⟩, weak_sel ⟨rfl, rfl, rfl, rfl, trivial⟩ rfl, ?_⟩
    refine then_normal ?_
    refine T_seq ?_
    refine T_reg ?_
    refine RE.op (op_load_agg (ds := [.int .i64 a0.f_Fixed, .int .i64 a0.f_Benchmark]) ti23 rfl rfl rfl rfl (Nat.le_of_ble_eq_true rfl) rfl) rfl rfl rfl ?_
    refine RE.op (op_move rfl rfl) rfl rfl rfl ?_
    refine RE.op (op_move rfl rfl) rfl rfl rfl ?_
    obtain ⟨t1, ht2, H⟩ := Option.bind_eq_some_iff.1 H
    refine RE.op (op_call (f := 7) rfl rfl rfl rfl en7 closing_Needed.ok ⟨_, _, _, _, rfl, ht2, rfl⟩) rfl rfl rfl ?_
    refine RE.op (op_move rfl rfl) rfl rfl rfl ?_
    refine RE.op (op_extract rfl rfl rfl) rfl rfl rfl ?_
    refine RE.op (op_extract rfl rfl rfl) rfl rfl rfl ?_
    refine RE.op (op_alloc (k := 2) ti3 rfl rfl rfl rfl) rfl rfl rfl ?_
    refine RE.op0 (op_store (cs' := [.int .i64 t1.1]) ti3 rfl rfl rfl rfl rfl rfl (Nat.le_of_ble_eq_true rfl) rfl) rfl rfl ?_
    refine RE.op (op_assign rfl rfl) rfl rfl rfl ?_
    refine RE.nil ⟨⟨[(7, .ptr 1 0), (10, .ptr 2 0), (11, .int .i64 t1.2)], [.cells [.int .i64 a0.f_Fixed, .int .i64 a0.f_Benchmark], .cells [.int .i64 a3], .cells [.int .i64 t1.1]]⟩, weak_sel ⟨rfl, rfl, rfl, trivial⟩ rfl, ?_⟩
    refine then_normal ?_
    refine T_seq ?_
    refine T_seq ?_
    obtain ⟨x3, hj6, H⟩ := Option.bind_eq_some_iff.1 H
    refine T_reg_out ⟨[(7, .ptr 1 0), (10, .ptr 2 0), (26, .bool x3)], [.cells [.int .i64 a0.f_Fixed, .int .i64 a0.f_Benchmark], .cells [.int .i64 a3], .cells [.int .i64 t1.1]]⟩ ?_ ?_
    · clear H
      have H := hj6
      clear hj6
      refine RE.op (op_move rfl rfl) rfl rfl rfl ?_
      refine RE.op (op_bin rfl rfl rfl rfl) rfl rfl rfl ?_
      refine RE.op (op_move rfl rfl) rfl rfl rfl ?_
      by_cases h1 : ¬ t1.2 = 0
      · rw [if_pos h1] at H
        refine RE.skip rfl rfl (getb (bne_iff_ne.mpr h1) rfl) rfl rfl rfl ?_
        refine RE.skip rfl rfl (getb (bne_iff_ne.mpr h1) rfl) rfl rfl rfl ?_
        refine RE.skip rfl rfl (getb (bne_iff_ne.mpr h1) rfl) rfl rfl rfl ?_
        refine RE.op (op_pick_true rfl (evb (bne_iff_ne.mpr h1) rfl) rfl) rfl rfl rfl ?_
        simp only [Option.some.injEq] at H
        subst H
        exact RE.nil (weak_sel (env' := [(7, .ptr 1 0), (10, .ptr 2 0), (26, .bool true)]) ⟨rfl, rfl, rfl, trivial⟩ rfl)
      · rw [if_neg h1] at H
        refine RE.opg (op_load ti3 rfl rfl rfl rfl rfl) rfl rfl (getb (bne_eq_false_iff_eq.mpr (Decidable.of_not_not h1)) rfl) rfl rfl ?_
        obtain ⟨t4, ht5, H⟩ := Option.bind_eq_some_iff.1 H
        refine RE.opg (op_call (f := 18) rfl rfl rfl rfl en18 closing_to.ok ⟨_, _, _, rfl, ht5, rfl⟩) rfl rfl (getb (bne_eq_false_iff_eq.mpr (Decidable.of_not_not h1)) rfl) rfl rfl ?_
        refine RE.opg (op_not rfl rfl) rfl rfl (getb (bne_eq_false_iff_eq.mpr (Decidable.of_not_not h1)) rfl) rfl rfl ?_
        refine RE.op (op_pick_false rfl (evb (bne_eq_false_iff_eq.mpr (Decidable.of_not_not h1)) rfl) rfl) rfl rfl rfl ?_
        simp only [Option.some.injEq] at H
        subst H
        exact RE.nil (weak_sel (env' := [(7, .ptr 1 0), (10, .ptr 2 0), (26, .bool (!t4))]) ⟨rfl, rfl, rfl, trivial⟩ rfl)
    · clear hj6
      refine then_normal ?_
      by_cases h2 : x3 = true
      · rw [if_pos h2] at H
        refine T_yes rfl h2 ?_
        refine T_seq ?_
        refine T_reg ?_
        refine RE.op (op_assign rfl rfl) rfl rfl rfl ?_
        refine RE.op (op_assign rfl rfl) rfl rfl rfl ?_
        refine RE.nil ⟨⟨[(8, .int .i64 0), (9, .int .i64 2)], [.cells [.int .i64 a0.f_Fixed, .int .i64 a0.f_Benchmark], .cells [.int .i64 a3], .cells [.int .i64 t1.1]]⟩, weak_sel ⟨rfl, rfl, trivial⟩ rfl, ?_⟩
        refine then_normal ?_
        refine T_ret ?_
        simp only [Option.some.injEq] at H
        subst H
        refine then_ret ?_
        exact ret2 rfl rfl rfl rfl
      · rw [if_neg h2] at H
        refine T_no rfl (Bool.eq_false_iff.mpr h2) ?_
        refine T_skip ?_
        refine then_normal ?_
        refine T_seq ?_
        refine T_reg ?_
        refine RE.op (op_mkfunc rfl rfl) rfl rfl rfl ?_
        obtain ⟨t7, ht8, H⟩ := Option.bind_eq_some_iff.1 H
        refine RE.op (op_call_ro (f := 19) rfl rfl rfl rfl en19 sort_Search.ok ⟨_, _, _, 20, _, _, _, rfl, en20, closing_Raise_1.ok, (fun _ => rfl), (fun _ z h => ⟨_, _, _, _, rfl, h, rfl⟩), ht8, rfl⟩ rfl) rfl rfl rfl ?_
        refine RE.op (op_assign rfl rfl) rfl rfl rfl ?_
        refine RE.nil ⟨⟨[(12, .int .i64 t7)], [.cells [.int .i64 a0.f_Fixed, .int .i64 a0.f_Benchmark], .cells [.int .i64 a3], .cells [.int .i64 t1.1]]⟩, weak_sel ⟨rfl, trivial⟩ rfl, ?_⟩
        refine then_normal ?_
        refine T_seq ?_
        refine T_seq ?_
        refine T_reg ?_
        refine RE.op (op_move rfl rfl) rfl rfl rfl ?_
        refine RE.op (op_bin rfl rfl rfl rfl) rfl rfl rfl ?_
        refine RE.nil ⟨⟨[(12, .int .i64 t7), (30, .bool (decide (t7 > 1000)))], [.cells [.int .i64 a0.f_Fixed, .int .i64 a0.f_Benchmark], .cells [.int .i64 a3], .cells [.int .i64 t1.1]]⟩, weak_sel ⟨rfl, rfl, trivial⟩ rfl, ?_⟩
        refine then_normal ?_
        by_cases h3 : t7 > 1000
        · rw [if_pos h3] at H
          refine T_yes rfl (decide_eq_true h3) ?_
          refine T_seq ?_
          refine T_reg ?_
          refine RE.op (op_assign rfl rfl) rfl rfl rfl ?_
          refine RE.op (op_assign rfl rfl) rfl rfl rfl ?_
          refine RE.nil ⟨⟨[(8, .int .i64 0), (9, .int .i64 9)], [.cells [.int .i64 a0.f_Fixed, .int .i64 a0.f_Benchmark], .cells [.int .i64 a3], .cells [.int .i64 t1.1]]⟩, weak_sel ⟨rfl, rfl, trivial⟩ rfl, ?_⟩
          refine then_normal ?_
          refine T_ret ?_
          simp only [Option.some.injEq] at H
          subst H
          refine then_ret ?_
          exact ret2 rfl rfl rfl rfl
        · rw [if_neg h3] at H
          refine T_no rfl (decide_eq_false h3) ?_
          refine T_skip ?_
          refine then_normal ?_
          refine T_seq ?_
          refine T_reg ?_
          refine RE.op (op_move rfl rfl) rfl rfl rfl ?_
          refine RE.op (op_assign rfl rfl) rfl rfl rfl ?_
          refine RE.op (op_assign rfl rfl) rfl rfl rfl ?_
          refine RE.nil ⟨⟨[(8, .int .i64 t7), (9, .int .i64 0)], [.cells [.int .i64 a0.f_Fixed, .int .i64 a0.f_Benchmark], .cells [.int .i64 a3], .cells [.int .i64 t1.1]]⟩, weak_sel ⟨rfl, rfl, trivial⟩ rfl, ?_⟩
          refine then_normal ?_
          refine T_ret ?_
          simp only [Option.some.injEq] at H
          subst H
          exact ret2 rfl rfl rfl rfl

/-! ### 17 bandplan/bandplanref37.Raise -/
def bandplanref37_Raise.l0 (a3 : Int) (t1 : Int × Int) : Nat → Int → Option (Sum (Int) (Unit))
  | 0, _ => none
  | k + 1, x5 => (if x5 ≤ 1000 then (if (IntKind.i64.wrap (Int.tdiv (IntKind.i64.wrap (a3 * (IntKind.i64.wrap (100 + x5)))) 100)) ≥ t1.1 then some (.inl x5) else bandplanref37_Raise.l0 a3 t1 k (IntKind.i64.wrap (x5 + 1))) else some (.inr ()))
def bandplanref37_Raise.f (k : Nat) (a0 : S_api_Terms) (a1 : Int) (a2 : Int) (a3 : Int) : Option (Int × Int) := (bandplanref37_Needed.f a0 a1 a2).bind fun t1 => ((if ¬ t1.2 = 0 then some true else (if a3 < 0 then some true else some (decide (a3 > 1125899906842624))))).bind fun x3 => (if x3 = true then some (0, 2) else ((bandplanref37_Raise.l0 a3 t1 k 0).bind fun o => match o with | (.inl x6) => some (x6, 0) | (.inr _) => some (0, 9)))
def bandplanref37_Raise.S (args : List AV) (v : AV) : Prop := ∃ (k : Nat) (a0 : S_api_Terms) (a1 : Int) (a2 : Int) (a3 : Int) (r : Int × Int), args = [S_api_Terms.enc a0, .int .i64 a1, .int .i64 a2, .int .i64 a3] ∧ bandplanref37_Raise.f k a0 a1 a2 a3 = some r ∧ v = .tup [.int .i64 r.1, .int .i64 r.2]
theorem bandplanref37_Raise.ok : VOk Try.prog 17 bandplanref37_Raise.S := by
  refine V_ok Try.func17 rfl fun args v hS => ⟨?_, ?_⟩
  · obtain ⟨k, a0, a1, a2, a3, r, rfl, H, rfl⟩ := hS
    exact Nat.le_of_ble_eq_true rfl
  · obtain ⟨k, a0, a1, a2, a3, r, rfl, H, rfl⟩ := hS
    unfold bandplanref37_Raise.f at H
    refine T_seq ?_
    refine T_reg ?_
    refine RE.op (op_box (k := 0) rfl rfl rfl rfl) rfl rfl rfl ?_
    refine RE.op (op_assign rfl rfl) rfl rfl rfl ?_
    refine RE.op (op_assign rfl rfl) rfl rfl rfl ?_
    refine RE.nil ⟨⟨[(1, .int .i64 a1), (2, .int .i64 a2), (3, .int .i64 a3), (4, .ptr 0 0)], [.cells [.int .i64 a0.f_Fixed, .int .i64 a0.f_Benchmark]]⟩, weak_sel ⟨rfl, rfl, rfl, rfl, trivial⟩ rfl, ?_⟩
    refine then_normal ?_
    refine T_seq ?_
    refine T_reg ?_
    refine RE.op (op_load_agg (ds := [.int .i64 a0.f_Fixed, .int .i64 a0.f_Benchmark]) ti23 rfl rfl rfl rfl (Nat.le_of_ble_eq_true rfl) rfl) rfl rfl rfl ?_
    refine RE.op (op_move rfl rfl) rfl rfl rfl ?_
    refine RE.op (op_move rfl rfl) rfl rfl rfl ?_
    obtain ⟨t1, ht2, H⟩ := Option.bind_eq_some_iff.1 H
    refine RE.op (op_call (f := 8) rfl rfl rfl rfl en8 bandplanref37_Needed.ok ⟨_, _, _, _, rfl, ht2, rfl⟩) rfl rfl rfl ?_
    refine RE.op (op_move rfl rfl) rfl rfl rfl ?_
    refine RE.op (op_extract rfl rfl rfl) rfl rfl rfl ?_
    refine RE.op (op_extract rfl rfl rfl) rfl rfl rfl ?_
    refine RE.op (op_assign rfl rfl) rfl rfl rfl ?_
    refine RE.op (op_assign rfl rfl) rfl rfl rfl ?_
    refine RE.nil ⟨⟨[(3, .int .i64 a3), (10, .int .i64 t1.1), (11, .int .i64 t1.2)], [.cells [.int .i64 a0.f_Fixed, .int .i64 a0.f_Benchmark]]⟩, weak_sel ⟨rfl, rfl, rfl, trivial⟩ rfl, ?_⟩
    refine then_normal ?_
    refine T_seq ?_
    refine T_seq ?_
    obtain ⟨x3, hj4, H⟩ := Option.bind_eq_some_iff.1 H
    refine T_reg_out ⟨[(3, .int .i64 a3), (10, .int .i64 t1.1), (29, .bool x3)], [.cells [.int .i64 a0.f_Fixed, .int .i64 a0.f_Benchmark]]⟩ ?_ ?_
    · clear H
      have H := hj4
      clear hj4
      refine RE.op (op_move rfl rfl) rfl rfl rfl ?_
      refine RE.op (op_bin rfl rfl rfl rfl) rfl rfl rfl ?_
      refine RE.op (op_move rfl rfl) rfl rfl rfl ?_
      by_cases h1 : ¬ t1.2 = 0
      · rw [if_pos h1] at H
        refine RE.skip rfl rfl (getb (bne_iff_ne.mpr h1) rfl) rfl rfl rfl ?_
        refine RE.skip rfl rfl (getb (bne_iff_ne.mpr h1) rfl) rfl rfl rfl ?_
        refine RE.op (op_pick_true rfl (evb (bne_iff_ne.mpr h1) rfl) rfl) rfl rfl rfl ?_
        refine RE.op (op_move rfl rfl) rfl rfl rfl ?_
        refine RE.skip rfl rfl rfl rfl rfl rfl ?_
        refine RE.skip rfl rfl rfl rfl rfl rfl ?_
        refine RE.op (op_pick_true rfl rfl rfl) rfl rfl rfl ?_
        simp only [Option.some.injEq] at H
        subst H
        exact RE.nil (weak_sel (env' := [(3, .int .i64 a3), (10, .int .i64 t1.1), (29, .bool true)]) ⟨rfl, rfl, rfl, trivial⟩ rfl)
      · rw [if_neg h1] at H
        refine RE.opg (op_move rfl rfl) rfl rfl (getb (bne_eq_false_iff_eq.mpr (Decidable.of_not_not h1)) rfl) rfl rfl ?_
        refine RE.opg (op_bin rfl rfl rfl rfl) rfl rfl (getb (bne_eq_false_iff_eq.mpr (Decidable.of_not_not h1)) rfl) rfl rfl ?_
        refine RE.op (op_pick_false rfl (evb (bne_eq_false_iff_eq.mpr (Decidable.of_not_not h1)) rfl) rfl) rfl rfl rfl ?_
        refine RE.op (op_move rfl rfl) rfl rfl rfl ?_
        by_cases h2 : a3 < 0
        · rw [if_pos h2] at H
          refine RE.skip rfl rfl (getb (decide_eq_true h2) rfl) rfl rfl rfl ?_
          refine RE.skip rfl rfl (getb (decide_eq_true h2) rfl) rfl rfl rfl ?_
          refine RE.op (op_pick_true rfl (evb (decide_eq_true h2) rfl) rfl) rfl rfl rfl ?_
          simp only [Option.some.injEq] at H
          subst H
          exact RE.nil (weak_sel (env' := [(3, .int .i64 a3), (10, .int .i64 t1.1), (29, .bool true)]) ⟨rfl, rfl, rfl, trivial⟩ rfl)
        · rw [if_neg h2] at H
          refine RE.opg (op_move rfl rfl) rfl rfl (getb (decide_eq_false h2) rfl) rfl rfl ?_
          refine RE.opg (op_bin rfl rfl rfl rfl) rfl rfl (getb (decide_eq_false h2) rfl) rfl rfl ?_
          refine RE.op (op_pick_false rfl (evb (decide_eq_false h2) rfl) rfl) rfl rfl rfl ?_
          simp only [Option.some.injEq] at H
          subst H
          exact RE.nil (weak_sel (env' := [(3, .int .i64 a3), (10, .int .i64 t1.1), (29, .bool (decide (a3 > 1125899906842624)))]) ⟨rfl, rfl, rfl, trivial⟩ rfl)
    · clear hj4
      refine then_normal ?_
      by_cases h3 : x3 = true
      · rw [if_pos h3] at H
        refine T_yes rfl h3 ?_
        refine T_seq ?_
        refine T_reg ?_
        refine RE.op (op_assign rfl rfl) rfl rfl rfl ?_
        refine RE.op (op_assign rfl rfl) rfl rfl rfl ?_
        refine RE.nil ⟨⟨[(8, .int .i64 0), (9, .int .i64 2)], [.cells [.int .i64 a0.f_Fixed, .int .i64 a0.f_Benchmark]]⟩, weak_sel ⟨rfl, rfl, trivial⟩ rfl, ?_⟩
        refine then_normal ?_
        refine T_ret ?_
        simp only [Option.some.injEq] at H
        subst H
        refine then_ret ?_
        exact ret2 rfl rfl rfl rfl
      · rw [if_neg h3] at H
        refine T_no rfl (Bool.eq_false_iff.mpr h3) ?_
        refine T_skip ?_
        refine then_normal ?_
        refine T_seq ?_
        refine T_seq ?_
        refine T_reg ?_
        refine RE.op (op_assign rfl rfl) rfl rfl rfl ?_
        refine RE.nil ⟨⟨[(3, .int .i64 a3), (10, .int .i64 t1.1), (12, .int .i64 0)], [.cells [.int .i64 a0.f_Fixed, .int .i64 a0.f_Benchmark]]⟩, weak_sel ⟨rfl, rfl, rfl, trivial⟩ rfl, ?_⟩
        refine then_normal ?_
        refine T_block ?_
        obtain ⟨o7, hj8, H⟩ := Option.bind_eq_some_iff.1 H
        refine T_loop_out ((fun (x_ : Int) => ⟨[(3, .int .i64 a3), (10, .int .i64 t1.1), (12, .int .i64 x_)], [.cells [.int .i64 a0.f_Fixed, .int .i64 a0.f_Benchmark]]⟩) 0) ((fun o => match o with | (.inl _) => .ret | (.inr _) => .exit 0) o7) ((fun o => match o with | (.inl x6) => ⟨[(8, .int .i64 x6), (9, .int .i64 0)], [.cells [.int .i64 a0.f_Fixed, .int .i64 a0.f_Benchmark]]⟩ | (.inr ()) => ⟨[], [.cells [.int .i64 a0.f_Fixed, .int .i64 a0.f_Benchmark]]⟩) o7) (weak_sel (env' := [(3, .int .i64 a3), (10, .int .i64 t1.1), (12, .int .i64 0)]) ⟨rfl, rfl, rfl, trivial⟩ rfl) ?_ ?_
        · refine T_fix (bandplanref37_Raise.l0 a3 t1) (fun (x_ : Int) => ⟨[(3, .int .i64 a3), (10, .int .i64 t1.1), (12, .int .i64 x_)], [.cells [.int .i64 a0.f_Fixed, .int .i64 a0.f_Benchmark]]⟩) (fun o => match o with | (.inl _) => .ret | (.inr _) => .exit 0) (fun o => match o with | (.inl x6) => ⟨[(8, .int .i64 x6), (9, .int .i64 0)], [.cells [.int .i64 a0.f_Fixed, .int .i64 a0.f_Benchmark]]⟩ | (.inr ()) => ⟨[], [.cells [.int .i64 a0.f_Fixed, .int .i64 a0.f_Benchmark]]⟩) (fun _ => rfl) ?_ _ 0 _ hj8
          clear H hj8
          intro k IH x5 o H
          unfold bandplanref37_Raise.l0 at H
          (try simp only at H)
          refine T_seq ?_
          refine T_seq ?_
          refine T_reg ?_
          refine RE.op (op_move rfl rfl) rfl rfl rfl ?_
          refine RE.op (op_bin rfl rfl rfl rfl) rfl rfl rfl ?_
          refine RE.nil ⟨⟨[(3, .int .i64 a3), (10, .int .i64 t1.1), (12, .int .i64 x5), (31, .bool (decide (x5 ≤ 1000)))], [.cells [.int .i64 a0.f_Fixed, .int .i64 a0.f_Benchmark]]⟩, weak_sel ⟨rfl, rfl, rfl, rfl, trivial⟩ rfl, ?_⟩
          refine then_normal ?_
          by_cases h4 : x5 ≤ 1000
          · rw [if_pos h4] at H
            refine T_yes rfl (decide_eq_true h4) ?_
            refine T_skip ?_
            refine then_normal ?_
            refine T_seq ?_
            refine T_block ?_
            refine T_seq ?_
            refine T_reg ?_
            refine RE.op (op_move rfl rfl) rfl rfl rfl ?_
            refine RE.op (op_move rfl rfl) rfl rfl rfl ?_
            refine RE.op (op_bin rfl rfl rfl rfl) rfl rfl rfl ?_
            refine RE.op (op_bin rfl rfl rfl rfl) rfl rfl rfl ?_
            refine RE.op (op_quo rfl rfl rfl (by decide)) rfl rfl rfl ?_
            refine RE.op (op_move rfl rfl) rfl rfl rfl ?_
            refine RE.op (op_bin rfl rfl rfl rfl) rfl rfl rfl ?_
            refine RE.nil ⟨⟨[(3, .int .i64 a3), (10, .int .i64 t1.1), (12, .int .i64 x5), (40, .bool (decide ((IntKind.i64.wrap (Int.tdiv (IntKind.i64.wrap (a3 * (IntKind.i64.wrap (100 + x5)))) 100)) ≥ t1.1)))], [.cells [.int .i64 a0.f_Fixed, .int .i64 a0.f_Benchmark]]⟩, weak_sel ⟨rfl, rfl, rfl, rfl, trivial⟩ rfl, ?_⟩
            refine then_normal ?_
            by_cases h5 : (IntKind.i64.wrap (Int.tdiv (IntKind.i64.wrap (a3 * (IntKind.i64.wrap (100 + x5)))) 100)) ≥ t1.1
            · rw [if_pos h5] at H
              refine T_yes rfl (decide_eq_true h5) ?_
              refine T_seq ?_
              refine T_reg ?_
              refine RE.op (op_move rfl rfl) rfl rfl rfl ?_
              refine RE.op (op_assign rfl rfl) rfl rfl rfl ?_
              refine RE.op (op_assign rfl rfl) rfl rfl rfl ?_
              refine RE.nil ⟨⟨[(8, .int .i64 x5), (9, .int .i64 0)], [.cells [.int .i64 a0.f_Fixed, .int .i64 a0.f_Benchmark]]⟩, weak_sel ⟨rfl, rfl, trivial⟩ rfl, ?_⟩
              refine then_normal ?_
              refine T_ret ?_
              simp only [Option.some.injEq] at H
              subst H
              refine block_ret ?_
              refine then_ret ?_
              refine then_ret ?_
              exact ⟨rfl, weak_sel (env' := [(8, .int .i64 x5), (9, .int .i64 0)]) ⟨rfl, rfl, trivial⟩ rfl⟩
            · rw [if_neg h5] at H
              refine T_no rfl (decide_eq_false h5) ?_
              refine T_skip ?_
              refine block_normal ?_
              refine then_normal ?_
              refine T_reg ?_
              refine RE.op (op_move rfl rfl) rfl rfl rfl ?_
              refine RE.op (op_bin rfl rfl rfl rfl) rfl rfl rfl ?_
              refine RE.op (op_assign rfl rfl) rfl rfl rfl ?_
              refine RE.nil ⟨⟨[(3, .int .i64 a3), (10, .int .i64 t1.1), (12, .int .i64 (IntKind.i64.wrap (x5 + 1)))], [.cells [.int .i64 a0.f_Fixed, .int .i64 a0.f_Benchmark]]⟩, weak_sel ⟨rfl, rfl, rfl, trivial⟩ rfl, ?_⟩
              refine then_normal ?_
              exact LoopAt.weak (weak_sel (env' := [(3, .int .i64 a3), (10, .int .i64 t1.1), (12, .int .i64 (IntKind.i64.wrap (x5 + 1)))]) ⟨rfl, rfl, rfl, trivial⟩ rfl) (IH _ _ H)
          · rw [if_neg h4] at H
            refine T_no rfl (decide_eq_false h4) ?_
            refine T_exit ?_
            simp only [Option.some.injEq] at H
            subst H
            refine then_exit ?_
            refine then_exit ?_
            exact ⟨rfl, weak_sel (env' := []) trivial rfl⟩
        · clear hj8
          rcases o7 with x6 | _
          · simp only [Option.some.injEq] at H
            subst H
            refine block_ret ?_
            refine then_ret ?_
            exact ret2 rfl rfl rfl rfl
          · refine block_eq ?_
            refine then_normal ?_
            refine T_seq ?_
            refine T_reg ?_
            refine RE.op (op_assign rfl rfl) rfl rfl rfl ?_
            refine RE.op (op_assign rfl rfl) rfl rfl rfl ?_
            refine RE.nil ⟨⟨[(8, .int .i64 0), (9, .int .i64 9)], [.cells [.int .i64 a0.f_Fixed, .int .i64 a0.f_Benchmark]]⟩, weak_sel ⟨rfl, rfl, trivial⟩ rfl, ?_⟩
            refine then_normal ?_
            refine T_ret ?_
            simp only [Option.some.injEq] at H
            subst H
            exact ret2 rfl rfl rfl rfl

/-! ### 11 bandplan/bandplanlaw37.known -/
def bandplanlaw37_known.f (k : Nat) : Option (Bool) := (closing_Needed.f (⟨100, 3⟩ : S_api_Terms) 500 150).bind fun t1 => (closing_Needed.f (⟨100, 3⟩ : S_api_Terms) 500 250).bind fun t3 => (closing_Missing.f (⟨100, 3⟩ : S_api_Terms) 500 150 550).bind fun t5 => (closing_Met.f (⟨100, 3⟩ : S_api_Terms) 500 150 550).bind fun t7 => (closing_Raise.f k (⟨100, 3⟩ : S_api_Terms) 500 150 550).bind fun t9 => (closing_Raise.f k (⟨100, 3⟩ : S_api_Terms) 500 150 54).bind fun t11 => (closing_Raise.f k (⟨100, 3⟩ : S_api_Terms) 500 150 55).bind fun t13 => ((if t1.1 = 600 then (if t3.1 = 750 then (if t5.1 = 50 then (if ¬ (t7.1 = true) then (if t9.1 = 10 then (if t13.1 = 991 then (if t1.2 = 0 then (if t3.2 = 0 then (if t5.2 = 0 then (if t7.2 = 0 then (if t9.2 = 0 then (if t11.2 = 9 then some (t13.2 == 0) else some false) else some false) else some false) else some false) else some false) else some false) else some false) else some false) else some false) else some false) else some false) else some false)).bind fun x15 => some x15
def bandplanlaw37_known.S (args : List AV) (v : AV) : Prop := ∃ (k : Nat) (r : Bool), args = [] ∧ bandplanlaw37_known.f k  = some r ∧ v = .bool r
theorem bandplanlaw37_known.ok : VOk Try.prog 11 bandplanlaw37_known.S := by
  refine V_ok Try.func11 rfl fun args v hS => ⟨?_, ?_⟩
  · obtain ⟨k, r, rfl, H, rfl⟩ := hS
    exact Nat.le_of_ble_eq_true rfl
  · obtain ⟨k, r, rfl, H, rfl⟩ := hS
    unfold bandplanlaw37_known.f at H
    refine T_seq ?_
    refine T_reg ?_
    refine RE.op (op_assign rfl rfl) rfl rfl rfl ?_
    refine RE.nil ⟨⟨[], []⟩, weak_sel trivial rfl, ?_⟩
    refine then_normal ?_
    refine T_seq ?_
    refine T_reg ?_
    refine RE.op (op_build (cs := [.int .i64 100, .int .i64 3]) ti23 pl23 rfl rfl rfl rfl) rfl rfl rfl ?_
    refine RE.op (op_alloc (k := 0) ti23 rfl rfl rfl rfl) rfl rfl rfl ?_
    refine RE.op0 (op_store (cs' := [.int .i64 100, .int .i64 3]) ti23 rfl rfl rfl rfl rfl rfl (Nat.le_of_ble_eq_true rfl) rfl) rfl rfl ?_
    refine RE.nil ⟨⟨[(1, .ptr 0 0)], [.cells [.int .i64 100, .int .i64 3]]⟩, weak_sel ⟨rfl, trivial⟩ rfl, ?_⟩
    refine then_normal ?_
    refine T_seq ?_
    refine T_reg ?_
    refine RE.op (op_load_agg (ds := [.int .i64 100, .int .i64 3]) ti23 rfl rfl rfl rfl (Nat.le_of_ble_eq_true rfl) rfl) rfl rfl rfl ?_
    obtain ⟨t1, ht2, H⟩ := Option.bind_eq_some_iff.1 H
    refine RE.op (op_call (f := 7) rfl rfl rfl rfl en7 closing_Needed.ok ⟨_, _, _, _, rfl, ht2, rfl⟩) rfl rfl rfl ?_
    refine RE.op (op_move rfl rfl) rfl rfl rfl ?_
    refine RE.op (op_extract rfl rfl rfl) rfl rfl rfl ?_
    refine RE.op (op_extract rfl rfl rfl) rfl rfl rfl ?_
    refine RE.op (op_assign rfl rfl) rfl rfl rfl ?_
    refine RE.op (op_assign rfl rfl) rfl rfl rfl ?_
    refine RE.nil ⟨⟨[(1, .ptr 0 0), (2, .int .i64 t1.1), (3, .int .i64 t1.2)], [.cells [.int .i64 100, .int .i64 3]]⟩, weak_sel ⟨rfl, rfl, rfl, trivial⟩ rfl, ?_⟩
    refine then_normal ?_
    refine T_seq ?_
    refine T_reg ?_
    refine RE.op (op_load_agg (ds := [.int .i64 100, .int .i64 3]) ti23 rfl rfl rfl rfl (Nat.le_of_ble_eq_true rfl) rfl) rfl rfl rfl ?_
    obtain ⟨t3, ht4, H⟩ := Option.bind_eq_some_iff.1 H
    refine RE.op (op_call (f := 7) rfl rfl rfl rfl en7 closing_Needed.ok ⟨_, _, _, _, rfl, ht4, rfl⟩) rfl rfl rfl ?_
    refine RE.op (op_move rfl rfl) rfl rfl rfl ?_
    refine RE.op (op_extract rfl rfl rfl) rfl rfl rfl ?_
    refine RE.op (op_extract rfl rfl rfl) rfl rfl rfl ?_
    refine RE.op (op_assign rfl rfl) rfl rfl rfl ?_
    refine RE.op (op_assign rfl rfl) rfl rfl rfl ?_
    refine RE.nil ⟨⟨[(1, .ptr 0 0), (2, .int .i64 t1.1), (3, .int .i64 t1.2), (4, .int .i64 t3.1), (5, .int .i64 t3.2)], [.cells [.int .i64 100, .int .i64 3]]⟩, weak_sel ⟨rfl, rfl, rfl, rfl, rfl, trivial⟩ rfl, ?_⟩
    refine then_normal ?_
    refine T_seq ?_
    refine T_reg ?_
    refine RE.op (op_load_agg (ds := [.int .i64 100, .int .i64 3]) ti23 rfl rfl rfl rfl (Nat.le_of_ble_eq_true rfl) rfl) rfl rfl rfl ?_
    obtain ⟨t5, ht6, H⟩ := Option.bind_eq_some_iff.1 H
    refine RE.op (op_call (f := 12) rfl rfl rfl rfl en12 closing_Missing.ok ⟨_, _, _, _, _, rfl, ht6, rfl⟩) rfl rfl rfl ?_
    refine RE.op (op_move rfl rfl) rfl rfl rfl ?_
    refine RE.op (op_extract rfl rfl rfl) rfl rfl rfl ?_
    refine RE.op (op_extract rfl rfl rfl) rfl rfl rfl ?_
    refine RE.op (op_assign rfl rfl) rfl rfl rfl ?_
    refine RE.op (op_assign rfl rfl) rfl rfl rfl ?_
    refine RE.nil ⟨⟨[(1, .ptr 0 0), (2, .int .i64 t1.1), (3, .int .i64 t1.2), (4, .int .i64 t3.1), (5, .int .i64 t3.2), (6, .int .i64 t5.1), (7, .int .i64 t5.2)], [.cells [.int .i64 100, .int .i64 3]]⟩, weak_sel ⟨rfl, rfl, rfl, rfl, rfl, rfl, rfl, trivial⟩ rfl, ?_⟩
    refine then_normal ?_
    refine T_seq ?_
    refine T_reg ?_
    refine RE.op (op_load_agg (ds := [.int .i64 100, .int .i64 3]) ti23 rfl rfl rfl rfl (Nat.le_of_ble_eq_true rfl) rfl) rfl rfl rfl ?_
    obtain ⟨t7, ht8, H⟩ := Option.bind_eq_some_iff.1 H
    refine RE.op (op_call (f := 14) rfl rfl rfl rfl en14 closing_Met.ok ⟨_, _, _, _, _, rfl, ht8, rfl⟩) rfl rfl rfl ?_
    refine RE.op (op_move rfl rfl) rfl rfl rfl ?_
    refine RE.op (op_extract rfl rfl rfl) rfl rfl rfl ?_
    refine RE.op (op_extract rfl rfl rfl) rfl rfl rfl ?_
    refine RE.op (op_assign rfl rfl) rfl rfl rfl ?_
    refine RE.op (op_assign rfl rfl) rfl rfl rfl ?_
    refine RE.nil ⟨⟨[(1, .ptr 0 0), (2, .int .i64 t1.1), (3, .int .i64 t1.2), (4, .int .i64 t3.1), (5, .int .i64 t3.2), (6, .int .i64 t5.1), (7, .int .i64 t5.2), (8, .bool t7.1), (9, .int .i64 t7.2)], [.cells [.int .i64 100, .int .i64 3]]⟩, weak_sel ⟨rfl, rfl, rfl, rfl, rfl, rfl, rfl, rfl, rfl, trivial⟩ rfl, ?_⟩
    refine then_normal ?_
    refine T_seq ?_
    refine T_reg ?_
    refine RE.op (op_load_agg (ds := [.int .i64 100, .int .i64 3]) ti23 rfl rfl rfl rfl (Nat.le_of_ble_eq_true rfl) rfl) rfl rfl rfl ?_
    obtain ⟨t9, ht10, H⟩ := Option.bind_eq_some_iff.1 H
    refine RE.op (op_call (f := 16) rfl rfl rfl rfl en16 closing_Raise.ok ⟨_, _, _, _, _, _, rfl, ht10, rfl⟩) rfl rfl rfl ?_
    refine RE.op (op_move rfl rfl) rfl rfl rfl ?_
    refine RE.op (op_extract rfl rfl rfl) rfl rfl rfl ?_
    refine RE.op (op_extract rfl rfl rfl) rfl rfl rfl ?_
    refine RE.op (op_assign rfl rfl) rfl rfl rfl ?_
    refine RE.op (op_assign rfl rfl) rfl rfl rfl ?_
    refine RE.nil ⟨⟨[(1, .ptr 0 0), (2, .int .i64 t1.1), (3, .int .i64 t1.2), (4, .int .i64 t3.1), (5, .int .i64 t3.2), (6, .int .i64 t5.1), (7, .int .i64 t5.2), (8, .bool t7.1), (9, .int .i64 t7.2), (10, .int .i64 t9.1), (11, .int .i64 t9.2)], [.cells [.int .i64 100, .int .i64 3]]⟩, weak_sel ⟨rfl, rfl, rfl, rfl, rfl, rfl, rfl, rfl, rfl, rfl, rfl, trivial⟩ rfl, ?_⟩
    refine then_normal ?_
    refine T_seq ?_
    refine T_reg ?_
    refine RE.op (op_load_agg (ds := [.int .i64 100, .int .i64 3]) ti23 rfl rfl rfl rfl (Nat.le_of_ble_eq_true rfl) rfl) rfl rfl rfl ?_
    obtain ⟨t11, ht12, H⟩ := Option.bind_eq_some_iff.1 H
    refine RE.op (op_call (f := 16) rfl rfl rfl rfl en16 closing_Raise.ok ⟨_, _, _, _, _, _, rfl, ht12, rfl⟩) rfl rfl rfl ?_
    refine RE.op (op_move rfl rfl) rfl rfl rfl ?_
    refine RE.op (op_extract rfl rfl rfl) rfl rfl rfl ?_
    refine RE.op (op_extract rfl rfl rfl) rfl rfl rfl ?_
    refine RE.op (op_assign rfl rfl) rfl rfl rfl ?_
    refine RE.op (op_assign rfl rfl) rfl rfl rfl ?_
    refine RE.nil ⟨⟨[(1, .ptr 0 0), (2, .int .i64 t1.1), (3, .int .i64 t1.2), (4, .int .i64 t3.1), (5, .int .i64 t3.2), (6, .int .i64 t5.1), (7, .int .i64 t5.2), (8, .bool t7.1), (9, .int .i64 t7.2), (10, .int .i64 t9.1), (11, .int .i64 t9.2), (13, .int .i64 t11.2)], [.cells [.int .i64 100, .int .i64 3]]⟩, weak_sel ⟨rfl, rfl, rfl, rfl, rfl, rfl, rfl, rfl, rfl, rfl, rfl, rfl, trivial⟩ rfl, ?_⟩
    refine then_normal ?_
    refine T_seq ?_
    refine T_reg ?_
    refine RE.op (op_load_agg (ds := [.int .i64 100, .int .i64 3]) ti23 rfl rfl rfl rfl (Nat.le_of_ble_eq_true rfl) rfl) rfl rfl rfl ?_
    obtain ⟨t13, ht14, H⟩ := Option.bind_eq_some_iff.1 H
    refine RE.op (op_call (f := 16) rfl rfl rfl rfl en16 closing_Raise.ok ⟨_, _, _, _, _, _, rfl, ht14, rfl⟩) rfl rfl rfl ?_
    refine RE.op (op_move rfl rfl) rfl rfl rfl ?_
    refine RE.op (op_extract rfl rfl rfl) rfl rfl rfl ?_
    refine RE.op (op_extract rfl rfl rfl) rfl rfl rfl ?_
    refine RE.op (op_assign rfl rfl) rfl rfl rfl ?_
    refine RE.op (op_assign rfl rfl) rfl rfl rfl ?_
    refine RE.nil ⟨⟨[(2, .int .i64 t1.1), (3, .int .i64 t1.2), (4, .int .i64 t3.1), (5, .int .i64 t3.2), (6, .int .i64 t5.1), (7, .int .i64 t5.2), (8, .bool t7.1), (9, .int .i64 t7.2), (10, .int .i64 t9.1), (11, .int .i64 t9.2), (13, .int .i64 t11.2), (14, .int .i64 t13.1), (15, .int .i64 t13.2)], [.cells [.int .i64 100, .int .i64 3]]⟩, weak_sel ⟨rfl, rfl, rfl, rfl, rfl, rfl, rfl, rfl, rfl, rfl, rfl, rfl, rfl, trivial⟩ rfl, ?_⟩
    refine then_normal ?_
    refine T_seq ?_
    obtain ⟨x15, hj16, H⟩ := Option.bind_eq_some_iff.1 H
    refine T_reg_out ⟨[(0, .bool x15)], [.cells [.int .i64 100, .int .i64 3]]⟩ ?_ ?_
    · clear H
      have H := hj16
      clear hj16
      refine RE.op (op_move rfl rfl) rfl rfl rfl ?_
      refine RE.op (op_bin rfl rfl rfl rfl) rfl rfl rfl ?_
      refine RE.op (op_move rfl rfl) rfl rfl rfl ?_
      by_cases h1 : t1.1 = 600
      · rw [if_pos h1] at H
        refine RE.opg (op_move rfl rfl) rfl rfl (getb (beq_iff_eq.mpr h1) rfl) rfl rfl ?_
        refine RE.opg (op_bin rfl rfl rfl rfl) rfl rfl (getb (beq_iff_eq.mpr h1) rfl) rfl rfl ?_
        refine RE.op (op_pick_true rfl (evb (beq_iff_eq.mpr h1) rfl) rfl) rfl rfl rfl ?_
        refine RE.op (op_move rfl rfl) rfl rfl rfl ?_
        by_cases h2 : t3.1 = 750
        · rw [if_pos h2] at H
          refine RE.opg (op_move rfl rfl) rfl rfl (getb (beq_iff_eq.mpr h2) rfl) rfl rfl ?_
          refine RE.opg (op_bin rfl rfl rfl rfl) rfl rfl (getb (beq_iff_eq.mpr h2) rfl) rfl rfl ?_
          refine RE.op (op_pick_true rfl (evb (beq_iff_eq.mpr h2) rfl) rfl) rfl rfl rfl ?_
          refine RE.op (op_move rfl rfl) rfl rfl rfl ?_
          by_cases h3 : t5.1 = 50
          · rw [if_pos h3] at H
            refine RE.opg (op_move rfl rfl) rfl rfl (getb (beq_iff_eq.mpr h3) rfl) rfl rfl ?_
            refine RE.opg (op_not rfl rfl) rfl rfl (getb (beq_iff_eq.mpr h3) rfl) rfl rfl ?_
            refine RE.op (op_pick_true rfl (evb (beq_iff_eq.mpr h3) rfl) rfl) rfl rfl rfl ?_
            refine RE.op (op_move rfl rfl) rfl rfl rfl ?_
            by_cases h4 : ¬ (t7.1 = true)
            · rw [if_pos h4] at H
              refine RE.opg (op_move rfl rfl) rfl rfl (getb (not_t (Bool.eq_false_iff.mpr h4)) rfl) rfl rfl ?_
              refine RE.opg (op_bin rfl rfl rfl rfl) rfl rfl (getb (not_t (Bool.eq_false_iff.mpr h4)) rfl) rfl rfl ?_
              refine RE.op (op_pick_true rfl (evb (not_t (Bool.eq_false_iff.mpr h4)) rfl) rfl) rfl rfl rfl ?_
              refine RE.op (op_move rfl rfl) rfl rfl rfl ?_
              by_cases h5 : t9.1 = 10
              · rw [if_pos h5] at H
                refine RE.opg (op_move rfl rfl) rfl rfl (getb (beq_iff_eq.mpr h5) rfl) rfl rfl ?_
                refine RE.opg (op_bin rfl rfl rfl rfl) rfl rfl (getb (beq_iff_eq.mpr h5) rfl) rfl rfl ?_
                refine RE.op (op_pick_true rfl (evb (beq_iff_eq.mpr h5) rfl) rfl) rfl rfl rfl ?_
                refine RE.op (op_move rfl rfl) rfl rfl rfl ?_
                by_cases h6 : t13.1 = 991
                · rw [if_pos h6] at H
                  refine RE.opg (op_move rfl rfl) rfl rfl (getb (beq_iff_eq.mpr h6) rfl) rfl rfl ?_
                  refine RE.opg (op_bin rfl rfl rfl rfl) rfl rfl (getb (beq_iff_eq.mpr h6) rfl) rfl rfl ?_
                  refine RE.op (op_pick_true rfl (evb (beq_iff_eq.mpr h6) rfl) rfl) rfl rfl rfl ?_
                  refine RE.op (op_move rfl rfl) rfl rfl rfl ?_
                  by_cases h7 : t1.2 = 0
                  · rw [if_pos h7] at H
                    refine RE.opg (op_move rfl rfl) rfl rfl (getb (beq_iff_eq.mpr h7) rfl) rfl rfl ?_
                    refine RE.opg (op_bin rfl rfl rfl rfl) rfl rfl (getb (beq_iff_eq.mpr h7) rfl) rfl rfl ?_
                    refine RE.op (op_pick_true rfl (evb (beq_iff_eq.mpr h7) rfl) rfl) rfl rfl rfl ?_
                    refine RE.op (op_move rfl rfl) rfl rfl rfl ?_
                    by_cases h8 : t3.2 = 0
                    · rw [if_pos h8] at H
                      refine RE.opg (op_move rfl rfl) rfl rfl (getb (beq_iff_eq.mpr h8) rfl) rfl rfl ?_
                      refine RE.opg (op_bin rfl rfl rfl rfl) rfl rfl (getb (beq_iff_eq.mpr h8) rfl) rfl rfl ?_
                      refine RE.op (op_pick_true rfl (evb (beq_iff_eq.mpr h8) rfl) rfl) rfl rfl rfl ?_
                      refine RE.op (op_move rfl rfl) rfl rfl rfl ?_
                      by_cases h9 : t5.2 = 0
                      · rw [if_pos h9] at H
                        refine RE.opg (op_move rfl rfl) rfl rfl (getb (beq_iff_eq.mpr h9) rfl) rfl rfl ?_
                        refine RE.opg (op_bin rfl rfl rfl rfl) rfl rfl (getb (beq_iff_eq.mpr h9) rfl) rfl rfl ?_
                        refine RE.op (op_pick_true rfl (evb (beq_iff_eq.mpr h9) rfl) rfl) rfl rfl rfl ?_
                        refine RE.op (op_move rfl rfl) rfl rfl rfl ?_
                        by_cases h10 : t7.2 = 0
                        · rw [if_pos h10] at H
                          refine RE.opg (op_move rfl rfl) rfl rfl (getb (beq_iff_eq.mpr h10) rfl) rfl rfl ?_
                          refine RE.opg (op_bin rfl rfl rfl rfl) rfl rfl (getb (beq_iff_eq.mpr h10) rfl) rfl rfl ?_
                          refine RE.op (op_pick_true rfl (evb (beq_iff_eq.mpr h10) rfl) rfl) rfl rfl rfl ?_
                          refine RE.op (op_move rfl rfl) rfl rfl rfl ?_
                          by_cases h11 : t9.2 = 0
                          · rw [if_pos h11] at H
                            refine RE.opg (op_move rfl rfl) rfl rfl (getb (beq_iff_eq.mpr h11) rfl) rfl rfl ?_
                            refine RE.opg (op_bin rfl rfl rfl rfl) rfl rfl (getb (beq_iff_eq.mpr h11) rfl) rfl rfl ?_
                            refine RE.op (op_pick_true rfl (evb (beq_iff_eq.mpr h11) rfl) rfl) rfl rfl rfl ?_
                            refine RE.op (op_move rfl rfl) rfl rfl rfl ?_
                            by_cases h12 : t11.2 = 9
                            · rw [if_pos h12] at H
                              refine RE.opg (op_move rfl rfl) rfl rfl (getb (beq_iff_eq.mpr h12) rfl) rfl rfl ?_
                              refine RE.opg (op_bin rfl rfl rfl rfl) rfl rfl (getb (beq_iff_eq.mpr h12) rfl) rfl rfl ?_
                              refine RE.op (op_pick_true rfl (evb (beq_iff_eq.mpr h12) rfl) rfl) rfl rfl rfl ?_
                              refine RE.op (op_assign rfl rfl) rfl rfl rfl ?_
                              simp only [Option.some.injEq] at H
                              subst H
                              exact RE.nil (weak_sel (env' := [(0, .bool (t13.2 == 0))]) ⟨rfl, trivial⟩ rfl)
                            · rw [if_neg h12] at H
                              refine RE.skip rfl rfl (getb (beq_eq_false_iff_ne.mpr h12) rfl) rfl rfl rfl ?_
                              refine RE.skip rfl rfl (getb (beq_eq_false_iff_ne.mpr h12) rfl) rfl rfl rfl ?_
                              refine RE.op (op_pick_false rfl (evb (beq_eq_false_iff_ne.mpr h12) rfl) rfl) rfl rfl rfl ?_
                              refine RE.op (op_assign rfl rfl) rfl rfl rfl ?_
                              simp only [Option.some.injEq] at H
                              subst H
                              exact RE.nil (weak_sel (env' := [(0, .bool false)]) ⟨rfl, trivial⟩ rfl)
                          · rw [if_neg h11] at H
                            refine RE.skip rfl rfl (getb (beq_eq_false_iff_ne.mpr h11) rfl) rfl rfl rfl ?_
                            refine RE.skip rfl rfl (getb (beq_eq_false_iff_ne.mpr h11) rfl) rfl rfl rfl ?_
                            refine RE.op (op_pick_false rfl (evb (beq_eq_false_iff_ne.mpr h11) rfl) rfl) rfl rfl rfl ?_
                            refine RE.op (op_move rfl rfl) rfl rfl rfl ?_
                            refine RE.skip rfl rfl rfl rfl rfl rfl ?_
                            refine RE.skip rfl rfl rfl rfl rfl rfl ?_
                            refine RE.op (op_pick_false rfl rfl rfl) rfl rfl rfl ?_
                            refine RE.op (op_assign rfl rfl) rfl rfl rfl ?_
                            simp only [Option.some.injEq] at H
                            subst H
                            exact RE.nil (weak_sel (env' := [(0, .bool false)]) ⟨rfl, trivial⟩ rfl)
                        · rw [if_neg h10] at H
                          refine RE.skip rfl rfl (getb (beq_eq_false_iff_ne.mpr h10) rfl) rfl rfl rfl ?_
                          refine RE.skip rfl rfl (getb (beq_eq_false_iff_ne.mpr h10) rfl) rfl rfl rfl ?_
                          refine RE.op (op_pick_false rfl (evb (beq_eq_false_iff_ne.mpr h10) rfl) rfl) rfl rfl rfl ?_
                          refine RE.op (op_move rfl rfl) rfl rfl rfl ?_
                          refine RE.skip rfl rfl rfl rfl rfl rfl ?_
                          refine RE.skip rfl rfl rfl rfl rfl rfl ?_
                          refine RE.op (op_pick_false rfl rfl rfl) rfl rfl rfl ?_
                          refine RE.op (op_move rfl rfl) rfl rfl rfl ?_
                          refine RE.skip rfl rfl rfl rfl rfl rfl ?_
                          refine RE.skip rfl rfl rfl rfl rfl rfl ?_
                          refine RE.op (op_pick_false rfl rfl rfl) rfl rfl rfl ?_
                          refine RE.op (op_assign rfl rfl) rfl rfl rfl ?_
                          simp only [Option.some.injEq] at H
                          subst H
                          exact RE.nil (weak_sel (env' := [(0, .bool false)]) ⟨rfl, trivial⟩ rfl)
                      · rw [if_neg h9] at H
                        refine RE.skip rfl rfl (getb (beq_eq_false_iff_ne.mpr h9) rfl) rfl rfl rfl ?_
                        refine RE.skip rfl rfl (getb (beq_eq_false_iff_ne.mpr h9) rfl) rfl rfl rfl ?_
                        refine RE.op (op_pick_false rfl (evb (beq_eq_false_iff_ne.mpr h9) rfl) rfl) rfl rfl rfl ?_
                        refine RE.op (op_move rfl rfl) rfl rfl rfl ?_
                        refine RE.skip rfl rfl rfl rfl rfl rfl ?_
                        refine RE.skip rfl rfl rfl rfl rfl rfl ?_
                        refine RE.op (op_pick_false rfl rfl rfl) rfl rfl rfl ?_
                        refine RE.op (op_move rfl rfl) rfl rfl rfl ?_
                        refine RE.skip rfl rfl rfl rfl rfl rfl ?_
                        refine RE.skip rfl rfl rfl rfl rfl rfl ?_
                        refine RE.op (op_pick_false rfl rfl rfl) rfl rfl rfl ?_
                        refine RE.op (op_move rfl rfl) rfl rfl rfl ?_
                        refine RE.skip rfl rfl rfl rfl rfl rfl ?_
                        refine RE.skip rfl rfl rfl rfl rfl rfl ?_
                        refine RE.op (op_pick_false rfl rfl rfl) rfl rfl rfl ?_
                        refine RE.op (op_assign rfl rfl) rfl rfl rfl ?_
                        simp only [Option.some.injEq] at H
                        subst H
                        exact RE.nil (weak_sel (env' := [(0, .bool false)]) ⟨rfl, trivial⟩ rfl)
                    · rw [if_neg h8] at H
                      refine RE.skip rfl rfl (getb (beq_eq_false_iff_ne.mpr h8) rfl) rfl rfl rfl ?_
                      refine RE.skip rfl rfl (getb (beq_eq_false_iff_ne.mpr h8) rfl) rfl rfl rfl ?_
                      refine RE.op (op_pick_false rfl (evb (beq_eq_false_iff_ne.mpr h8) rfl) rfl) rfl rfl rfl ?_
                      refine RE.op (op_move rfl rfl) rfl rfl rfl ?_
                      refine RE.skip rfl rfl rfl rfl rfl rfl ?_
                      refine RE.skip rfl rfl rfl rfl rfl rfl ?_
                      refine RE.op (op_pick_false rfl rfl rfl) rfl rfl rfl ?_
                      refine RE.op (op_move rfl rfl) rfl rfl rfl ?_
                      refine RE.skip rfl rfl rfl rfl rfl rfl ?_
                      refine RE.skip rfl rfl rfl rfl rfl rfl ?_
                      refine RE.op (op_pick_false rfl rfl rfl) rfl rfl rfl ?_
                      refine RE.op (op_move rfl rfl) rfl rfl rfl ?_
                      refine RE.skip rfl rfl rfl rfl rfl rfl ?_
                      refine RE.skip rfl rfl rfl rfl rfl rfl ?_
                      refine RE.op (op_pick_false rfl rfl rfl) rfl rfl rfl ?_
                      refine RE.op (op_move rfl rfl) rfl rfl rfl ?_
                      refine RE.skip rfl rfl rfl rfl rfl rfl ?_
                      refine RE.skip rfl rfl rfl rfl rfl rfl ?_
                      refine RE.op (op_pick_false rfl rfl rfl) rfl rfl rfl ?_
                      refine RE.op (op_assign rfl rfl) rfl rfl rfl ?_
                      simp only [Option.some.injEq] at H
                      subst H
                      exact RE.nil (weak_sel (env' := [(0, .bool false)]) ⟨rfl, trivial⟩ rfl)
                  · rw [if_neg h7] at H
                    refine RE.skip rfl rfl (getb (beq_eq_false_iff_ne.mpr h7) rfl) rfl rfl rfl ?_
                    refine RE.skip rfl rfl (getb (beq_eq_false_iff_ne.mpr h7) rfl) rfl rfl rfl ?_
                    refine RE.op (op_pick_false rfl (evb (beq_eq_false_iff_ne.mpr h7) rfl) rfl) rfl rfl rfl ?_
                    refine RE.op (op_move rfl rfl) rfl rfl rfl ?_
                    refine RE.skip rfl rfl rfl rfl rfl rfl ?_
                    refine RE.skip rfl rfl rfl rfl rfl rfl ?_
                    refine RE.op (op_pick_false rfl rfl rfl) rfl rfl rfl ?_
                    refine RE.op (op_move rfl rfl) rfl rfl rfl ?_
                    refine RE.skip rfl rfl rfl rfl rfl rfl ?_
                    refine RE.skip rfl rfl rfl rfl rfl rfl ?_
                    refine RE.op (op_pick_false rfl rfl rfl) rfl rfl rfl ?_
                    refine RE.op (op_move rfl rfl) rfl rfl rfl ?_
                    refine RE.skip rfl rfl rfl rfl rfl rfl ?_
                    refine RE.skip rfl rfl rfl rfl rfl rfl ?_
                    refine RE.op (op_pick_false rfl rfl rfl) rfl rfl rfl ?_
                    refine RE.op (op_move rfl rfl) rfl rfl rfl ?_
                    refine RE.skip rfl rfl rfl rfl rfl rfl ?_
                    refine RE.skip rfl rfl rfl rfl rfl rfl ?_
                    refine RE.op (op_pick_false rfl rfl rfl) rfl rfl rfl ?_
                    refine RE.op (op_move rfl rfl) rfl rfl rfl ?_
                    refine RE.skip rfl rfl rfl rfl rfl rfl ?_
                    refine RE.skip rfl rfl rfl rfl rfl rfl ?_
                    refine RE.op (op_pick_false rfl rfl rfl) rfl rfl rfl ?_
                    refine RE.op (op_assign rfl rfl) rfl rfl rfl ?_
                    simp only [Option.some.injEq] at H
                    subst H
                    exact RE.nil (weak_sel (env' := [(0, .bool false)]) ⟨rfl, trivial⟩ rfl)
                · rw [if_neg h6] at H
                  refine RE.skip rfl rfl (getb (beq_eq_false_iff_ne.mpr h6) rfl) rfl rfl rfl ?_
                  refine RE.skip rfl rfl (getb (beq_eq_false_iff_ne.mpr h6) rfl) rfl rfl rfl ?_
                  refine RE.op (op_pick_false rfl (evb (beq_eq_false_iff_ne.mpr h6) rfl) rfl) rfl rfl rfl ?_
                  refine RE.op (op_move rfl rfl) rfl rfl rfl ?_
                  refine RE.skip rfl rfl rfl rfl rfl rfl ?_
                  refine RE.skip rfl rfl rfl rfl rfl rfl ?_
                  refine RE.op (op_pick_false rfl rfl rfl) rfl rfl rfl ?_
                  refine RE.op (op_move rfl rfl) rfl rfl rfl ?_
                  refine RE.skip rfl rfl rfl rfl rfl rfl ?_
                  refine RE.skip rfl rfl rfl rfl rfl rfl ?_
                  refine RE.op (op_pick_false rfl rfl rfl) rfl rfl rfl ?_
                  refine RE.op (op_move rfl rfl) rfl rfl rfl ?_
                  refine RE.skip rfl rfl rfl rfl rfl rfl ?_
                  refine RE.skip rfl rfl rfl rfl rfl rfl ?_
                  refine RE.op (op_pick_false rfl rfl rfl) rfl rfl rfl ?_
                  refine RE.op (op_move rfl rfl) rfl rfl rfl ?_
                  refine RE.skip rfl rfl rfl rfl rfl rfl ?_
                  refine RE.skip rfl rfl rfl rfl rfl rfl ?_
                  refine RE.op (op_pick_false rfl rfl rfl) rfl rfl rfl ?_
                  refine RE.op (op_move rfl rfl) rfl rfl rfl ?_
                  refine RE.skip rfl rfl rfl rfl rfl rfl ?_
                  refine RE.skip rfl rfl rfl rfl rfl rfl ?_
                  refine RE.op (op_pick_false rfl rfl rfl) rfl rfl rfl ?_
                  refine RE.op (op_move rfl rfl) rfl rfl rfl ?_
                  refine RE.skip rfl rfl rfl rfl rfl rfl ?_
                  refine RE.skip rfl rfl rfl rfl rfl rfl ?_
                  refine RE.op (op_pick_false rfl rfl rfl) rfl rfl rfl ?_
                  refine RE.op (op_assign rfl rfl) rfl rfl rfl ?_
                  simp only [Option.some.injEq] at H
                  subst H
                  exact RE.nil (weak_sel (env' := [(0, .bool false)]) ⟨rfl, trivial⟩ rfl)
              · rw [if_neg h5] at H
                refine RE.skip rfl rfl (getb (beq_eq_false_iff_ne.mpr h5) rfl) rfl rfl rfl ?_
                refine RE.skip rfl rfl (getb (beq_eq_false_iff_ne.mpr h5) rfl) rfl rfl rfl ?_
                refine RE.op (op_pick_false rfl (evb (beq_eq_false_iff_ne.mpr h5) rfl) rfl) rfl rfl rfl ?_
                refine RE.op (op_move rfl rfl) rfl rfl rfl ?_
                refine RE.skip rfl rfl rfl rfl rfl rfl ?_
                refine RE.skip rfl rfl rfl rfl rfl rfl ?_
                refine RE.op (op_pick_false rfl rfl rfl) rfl rfl rfl ?_
                refine RE.op (op_move rfl rfl) rfl rfl rfl ?_
                refine RE.skip rfl rfl rfl rfl rfl rfl ?_
                refine RE.skip rfl rfl rfl rfl rfl rfl ?_
                refine RE.op (op_pick_false rfl rfl rfl) rfl rfl rfl ?_
                refine RE.op (op_move rfl rfl) rfl rfl rfl ?_
                refine RE.skip rfl rfl rfl rfl rfl rfl ?_
                refine RE.skip rfl rfl rfl rfl rfl rfl ?_
                refine RE.op (op_pick_false rfl rfl rfl) rfl rfl rfl ?_
                refine RE.op (op_move rfl rfl) rfl rfl rfl ?_
                refine RE.skip rfl rfl rfl rfl rfl rfl ?_
                refine RE.skip rfl rfl rfl rfl rfl rfl ?_
                refine RE.op (op_pick_false rfl rfl rfl) rfl rfl rfl ?_
                refine RE.op (op_move rfl rfl) rfl rfl rfl ?_
                refine RE.skip rfl rfl rfl rfl rfl rfl ?_
                refine RE.skip rfl rfl rfl rfl rfl rfl ?_
                refine RE.op (op_pick_false rfl rfl rfl) rfl rfl rfl ?_
                refine RE.op (op_move rfl rfl) rfl rfl rfl ?_
                refine RE.skip rfl rfl rfl rfl rfl rfl ?_
                refine RE.skip rfl rfl rfl rfl rfl rfl ?_
                refine RE.op (op_pick_false rfl rfl rfl) rfl rfl rfl ?_
                refine RE.op (op_move rfl rfl) rfl rfl rfl ?_
                refine RE.skip rfl rfl rfl rfl rfl rfl ?_
                refine RE.skip rfl rfl rfl rfl rfl rfl ?_
                refine RE.op (op_pick_false rfl rfl rfl) rfl rfl rfl ?_
                refine RE.op (op_assign rfl rfl) rfl rfl rfl ?_
                simp only [Option.some.injEq] at H
                subst H
                exact RE.nil (weak_sel (env' := [(0, .bool false)]) ⟨rfl, trivial⟩ rfl)
            · rw [if_neg h4] at H
              refine RE.skip rfl rfl (getb (not_f (Decidable.of_not_not h4)) rfl) rfl rfl rfl ?_
              refine RE.skip rfl rfl (getb (not_f (Decidable.of_not_not h4)) rfl) rfl rfl rfl ?_
              refine RE.op (op_pick_false rfl (evb (not_f (Decidable.of_not_not h4)) rfl) rfl) rfl rfl rfl ?_
              refine RE.op (op_move rfl rfl) rfl rfl rfl ?_
              refine RE.skip rfl rfl rfl rfl rfl rfl ?_
              refine RE.skip rfl rfl rfl rfl rfl rfl ?_
              refine RE.op (op_pick_false rfl rfl rfl) rfl rfl rfl ?_
              refine RE.op (op_move rfl rfl) rfl rfl rfl ?_
              refine RE.skip rfl rfl rfl rfl rfl rfl ?_
              refine RE.skip rfl rfl rfl rfl rfl rfl ?_
              refine RE.op (op_pick_false rfl rfl rfl) rfl rfl rfl ?_
              refine RE.op (op_move rfl rfl) rfl rfl rfl ?_
              refine RE.skip rfl rfl rfl rfl rfl rfl ?_
              refine RE.skip rfl rfl rfl rfl rfl rfl ?_
              refine RE.op (op_pick_false rfl rfl rfl) rfl rfl rfl ?_
              refine RE.op (op_move rfl rfl) rfl rfl rfl ?_
              refine RE.skip rfl rfl rfl rfl rfl rfl ?_
              refine RE.skip rfl rfl rfl rfl rfl rfl ?_
              refine RE.op (op_pick_false rfl rfl rfl) rfl rfl rfl ?_
              refine RE.op (op_move rfl rfl) rfl rfl rfl ?_
              refine RE.skip rfl rfl rfl rfl rfl rfl ?_
              refine RE.skip rfl rfl rfl rfl rfl rfl ?_
              refine RE.op (op_pick_false rfl rfl rfl) rfl rfl rfl ?_
              refine RE.op (op_move rfl rfl) rfl rfl rfl ?_
              refine RE.skip rfl rfl rfl rfl rfl rfl ?_
              refine RE.skip rfl rfl rfl rfl rfl rfl ?_
              refine RE.op (op_pick_false rfl rfl rfl) rfl rfl rfl ?_
              refine RE.op (op_move rfl rfl) rfl rfl rfl ?_
              refine RE.skip rfl rfl rfl rfl rfl rfl ?_
              refine RE.skip rfl rfl rfl rfl rfl rfl ?_
              refine RE.op (op_pick_false rfl rfl rfl) rfl rfl rfl ?_
              refine RE.op (op_move rfl rfl) rfl rfl rfl ?_
              refine RE.skip rfl rfl rfl rfl rfl rfl ?_
              refine RE.skip rfl rfl rfl rfl rfl rfl ?_
              refine RE.op (op_pick_false rfl rfl rfl) rfl rfl rfl ?_
              refine RE.op (op_assign rfl rfl) rfl rfl rfl ?_
              simp only [Option.some.injEq] at H
              subst H
              exact RE.nil (weak_sel (env' := [(0, .bool false)]) ⟨rfl, trivial⟩ rfl)
          · rw [if_neg h3] at H
            refine RE.skip rfl rfl (getb (beq_eq_false_iff_ne.mpr h3) rfl) rfl rfl rfl ?_
            refine RE.skip rfl rfl (getb (beq_eq_false_iff_ne.mpr h3) rfl) rfl rfl rfl ?_
            refine RE.op (op_pick_false rfl (evb (beq_eq_false_iff_ne.mpr h3) rfl) rfl) rfl rfl rfl ?_
            refine RE.op (op_move rfl rfl) rfl rfl rfl ?_
            refine RE.skip rfl rfl rfl rfl rfl rfl ?_
            refine RE.skip rfl rfl rfl rfl rfl rfl ?_
            refine RE.op (op_pick_false rfl rfl rfl) rfl rfl rfl ?_
            refine RE.op (op_move rfl rfl) rfl rfl rfl ?_
            refine RE.skip rfl rfl rfl rfl rfl rfl ?_
            refine RE.skip rfl rfl rfl rfl rfl rfl ?_
            refine RE.op (op_pick_false rfl rfl rfl) rfl rfl rfl ?_
            refine RE.op (op_move rfl rfl) rfl rfl rfl ?_
            refine RE.skip rfl rfl rfl rfl rfl rfl ?_
            refine RE.skip rfl rfl rfl rfl rfl rfl ?_
            refine RE.op (op_pick_false rfl rfl rfl) rfl rfl rfl ?_
            refine RE.op (op_move rfl rfl) rfl rfl rfl ?_
            refine RE.skip rfl rfl rfl rfl rfl rfl ?_
            refine RE.skip rfl rfl rfl rfl rfl rfl ?_
            refine RE.op (op_pick_false rfl rfl rfl) rfl rfl rfl ?_
            refine RE.op (op_move rfl rfl) rfl rfl rfl ?_
            refine RE.skip rfl rfl rfl rfl rfl rfl ?_
            refine RE.skip rfl rfl rfl rfl rfl rfl ?_
            refine RE.op (op_pick_false rfl rfl rfl) rfl rfl rfl ?_
            refine RE.op (op_move rfl rfl) rfl rfl rfl ?_
            refine RE.skip rfl rfl rfl rfl rfl rfl ?_
            refine RE.skip rfl rfl rfl rfl rfl rfl ?_
            refine RE.op (op_pick_false rfl rfl rfl) rfl rfl rfl ?_
            refine RE.op (op_move rfl rfl) rfl rfl rfl ?_
            refine RE.skip rfl rfl rfl rfl rfl rfl ?_
            refine RE.skip rfl rfl rfl rfl rfl rfl ?_
            refine RE.op (op_pick_false rfl rfl rfl) rfl rfl rfl ?_
            refine RE.op (op_move rfl rfl) rfl rfl rfl ?_
            refine RE.skip rfl rfl rfl rfl rfl rfl ?_
            refine RE.skip rfl rfl rfl rfl rfl rfl ?_
            refine RE.op (op_pick_false rfl rfl rfl) rfl rfl rfl ?_
            refine RE.op (op_move rfl rfl) rfl rfl rfl ?_
            refine RE.skip rfl rfl rfl rfl rfl rfl ?_
            refine RE.skip rfl rfl rfl rfl rfl rfl ?_
            refine RE.op (op_pick_false rfl rfl rfl) rfl rfl rfl ?_
            refine RE.op (op_assign rfl rfl) rfl rfl rfl ?_
            simp only [Option.some.injEq] at H
            subst H
            exact RE.nil (weak_sel (env' := [(0, .bool false)]) ⟨rfl, trivial⟩ rfl)
        · rw [if_neg h2] at H
          refine RE.skip rfl rfl (getb (beq_eq_false_iff_ne.mpr h2) rfl) rfl rfl rfl ?_
          refine RE.skip rfl rfl (getb (beq_eq_false_iff_ne.mpr h2) rfl) rfl rfl rfl ?_
          refine RE.op (op_pick_false rfl (evb (beq_eq_false_iff_ne.mpr h2) rfl) rfl) rfl rfl rfl ?_
          refine RE.op (op_move rfl rfl) rfl rfl rfl ?_
          refine RE.skip rfl rfl rfl rfl rfl rfl ?_
          refine RE.skip rfl rfl rfl rfl rfl rfl ?_
          refine RE.op (op_pick_false rfl rfl rfl) rfl rfl rfl ?_
          refine RE.op (op_move rfl rfl) rfl rfl rfl ?_
          refine RE.skip rfl rfl rfl rfl rfl rfl ?_
          refine RE.skip rfl rfl rfl rfl rfl rfl ?_
          refine RE.op (op_pick_false rfl rfl rfl) rfl rfl rfl ?_
          refine RE.op (op_move rfl rfl) rfl rfl rfl ?_
          refine RE.skip rfl rfl rfl rfl rfl rfl ?_
          refine RE.skip rfl rfl rfl rfl rfl rfl ?_
          refine RE.op (op_pick_false rfl rfl rfl) rfl rfl rfl ?_
          refine RE.op (op_move rfl rfl) rfl rfl rfl ?_
          refine RE.skip rfl rfl rfl rfl rfl rfl ?_
          refine RE.skip rfl rfl rfl rfl rfl rfl ?_
          refine RE.op (op_pick_false rfl rfl rfl) rfl rfl rfl ?_
          refine RE.op (op_move rfl rfl) rfl rfl rfl ?_
          refine RE.skip rfl rfl rfl rfl rfl rfl ?_
          refine RE.skip rfl rfl rfl rfl rfl rfl ?_
          refine RE.op (op_pick_false rfl rfl rfl) rfl rfl rfl ?_
          refine RE.op (op_move rfl rfl) rfl rfl rfl ?_
          refine RE.skip rfl rfl rfl rfl rfl rfl ?_
          refine RE.skip rfl rfl rfl rfl rfl rfl ?_
          refine RE.op (op_pick_false rfl rfl rfl) rfl rfl rfl ?_
          refine RE.op (op_move rfl rfl) rfl rfl rfl ?_
          refine RE.skip rfl rfl rfl rfl rfl rfl ?_
          refine RE.skip rfl rfl rfl rfl rfl rfl ?_
          refine RE.op (op_pick_false rfl rfl rfl) rfl rfl rfl ?_
          refine RE.op (op_move rfl rfl) rfl rfl rfl ?_
          refine RE.skip rfl rfl rfl rfl rfl rfl ?_
          refine RE.skip rfl rfl rfl rfl rfl rfl ?_
          refine RE.op (op_pick_false rfl rfl rfl) rfl rfl rfl ?_
          refine RE.op (op_move rfl rfl) rfl rfl rfl ?_
          refine RE.skip rfl rfl rfl rfl rfl rfl ?_
          refine RE.skip rfl rfl rfl rfl rfl rfl ?_
          refine RE.op (op_pick_false rfl rfl rfl) rfl rfl rfl ?_
          refine RE.op (op_move rfl rfl) rfl rfl rfl ?_
          refine RE.skip rfl rfl rfl rfl rfl rfl ?_
          refine RE.skip rfl rfl rfl rfl rfl rfl ?_
          refine RE.op (op_pick_false rfl rfl rfl) rfl rfl rfl ?_
          refine RE.op (op_assign rfl rfl) rfl rfl rfl ?_
          simp only [Option.some.injEq] at H
          subst H
          exact RE.nil (weak_sel (env' := [(0, .bool false)]) ⟨rfl, trivial⟩ rfl)
      · rw [if_neg h1] at H
        refine RE.skip rfl rfl (getb (beq_eq_false_iff_ne.mpr h1) rfl) rfl rfl rfl ?_
        refine RE.skip rfl rfl (getb (beq_eq_false_iff_ne.mpr h1) rfl) rfl rfl rfl ?_
        refine RE.op (op_pick_false rfl (evb (beq_eq_false_iff_ne.mpr h1) rfl) rfl) rfl rfl rfl ?_
        refine RE.op (op_move rfl rfl) rfl rfl rfl ?_
        refine RE.skip rfl rfl rfl rfl rfl rfl ?_
        refine RE.skip rfl rfl rfl rfl rfl rfl ?_
        refine RE.op (op_pick_false rfl rfl rfl) rfl rfl rfl ?_
        refine RE.op (op_move rfl rfl) rfl rfl rfl ?_
        refine RE.skip rfl rfl rfl rfl rfl rfl ?_
        refine RE.skip rfl rfl rfl rfl rfl rfl ?_
        refine RE.op (op_pick_false rfl rfl rfl) rfl rfl rfl ?_
        refine RE.op (op_move rfl rfl) rfl rfl rfl ?_
        refine RE.skip rfl rfl rfl rfl rfl rfl ?_
        refine RE.skip rfl rfl rfl rfl rfl rfl ?_
        refine RE.op (op_pick_false rfl rfl rfl) rfl rfl rfl ?_
        refine RE.op (op_move rfl rfl) rfl rfl rfl ?_
        refine RE.skip rfl rfl rfl rfl rfl rfl ?_
        refine RE.skip rfl rfl rfl rfl rfl rfl ?_
        refine RE.op (op_pick_false rfl rfl rfl) rfl rfl rfl ?_
        refine RE.op (op_move rfl rfl) rfl rfl rfl ?_
        refine RE.skip rfl rfl rfl rfl rfl rfl ?_
        refine RE.skip rfl rfl rfl rfl rfl rfl ?_
        refine RE.op (op_pick_false rfl rfl rfl) rfl rfl rfl ?_
        refine RE.op (op_move rfl rfl) rfl rfl rfl ?_
        refine RE.skip rfl rfl rfl rfl rfl rfl ?_
        refine RE.skip rfl rfl rfl rfl rfl rfl ?_
        refine RE.op (op_pick_false rfl rfl rfl) rfl rfl rfl ?_
        refine RE.op (op_move rfl rfl) rfl rfl rfl ?_
        refine RE.skip rfl rfl rfl rfl rfl rfl ?_
        refine RE.skip rfl rfl rfl rfl rfl rfl ?_
        refine RE.op (op_pick_false rfl rfl rfl) rfl rfl rfl ?_
        refine RE.op (op_move rfl rfl) rfl rfl rfl ?_
        refine RE.skip rfl rfl rfl rfl rfl rfl ?_
        refine RE.skip rfl rfl rfl rfl rfl rfl ?_
        refine RE.op (op_pick_false rfl rfl rfl) rfl rfl rfl ?_
        refine RE.op (op_move rfl rfl) rfl rfl rfl ?_
        refine RE.skip rfl rfl rfl rfl rfl rfl ?_
        refine RE.skip rfl rfl rfl rfl rfl rfl ?_
        refine RE.op (op_pick_false rfl rfl rfl) rfl rfl rfl ?_
        refine RE.op (op_move rfl rfl) rfl rfl rfl ?_
        refine RE.skip rfl rfl rfl rfl rfl rfl ?_
        refine RE.skip rfl rfl rfl rfl rfl rfl ?_
        refine RE.op (op_pick_false rfl rfl rfl) rfl rfl rfl ?_
        refine RE.op (op_move rfl rfl) rfl rfl rfl ?_
        refine RE.skip rfl rfl rfl rfl rfl rfl ?_
        refine RE.skip rfl rfl rfl rfl rfl rfl ?_
        refine RE.op (op_pick_false rfl rfl rfl) rfl rfl rfl ?_
        refine RE.op (op_assign rfl rfl) rfl rfl rfl ?_
        simp only [Option.some.injEq] at H
        subst H
        exact RE.nil (weak_sel (env' := [(0, .bool false)]) ⟨rfl, trivial⟩ rfl)
    · clear hj16
      refine then_normal ?_
      refine T_ret ?_
      simp only [Option.some.injEq] at H
      subst H
      exact ret1 rfl rfl rfl

/-! ### 4 bandplan/bandplanlaw37.ClosingMet -/
def bandplanlaw37_ClosingMet.f (k : Nat) (a0 : S_api_Terms) (a1 : Int) (a2 : Int) (a3 : Int) : Option (Bool) := (closing_Missing.f a0 a1 a2 a3).bind fun t1 => (bandplanref37_Missing.f a0 a1 a2 a3).bind fun t3 => (closing_Met.f a0 a1 a2 a3).bind fun t5 => (bandplanref37_Met.f a0 a1 a2 a3).bind fun t7 => ((if t1.1 = t3.1 then (if t1.2 = t3.2 then (if t5.1 = t7.1 then (if t5.2 = t7.2 then (bandplanlaw37_known.f k ).bind fun t10 => some t10 else some false) else some false) else some false) else some false)).bind fun x9 => some x9
def bandplanlaw37_ClosingMet.S (args : List AV) (v : AV) : Prop := ∃ (k : Nat) (a0 : S_api_Terms) (a1 : Int) (a2 : Int) (a3 : Int) (r : Bool), args = [S_api_Terms.enc a0, .int .i64 a1, .int .i64 a2, .int .i64 a3] ∧ bandplanlaw37_ClosingMet.f k a0 a1 a2 a3 = some r ∧ v = .bool r
theorem bandplanlaw37_ClosingMet.ok : VOk Try.prog 4 bandplanlaw37_ClosingMet.S := by
  refine V_ok Try.func4 rfl fun args v hS => ⟨?_, ?_⟩
  · obtain ⟨k, a0, a1, a2, a3, r, rfl, H, rfl⟩ := hS
    exact Nat.le_of_ble_eq_true rfl
  · obtain ⟨k, a0, a1, a2, a3, r, rfl, H, rfl⟩ := hS
    unfold bandplanlaw37_ClosingMet.f at H
    refine T_seq ?_
    refine T_reg ?_
    refine RE.op (op_box (k := 0) rfl rfl rfl rfl) rfl rfl rfl ?_
    refine RE.op (op_assign rfl rfl) rfl rfl rfl ?_
    refine RE.nil ⟨⟨[(1, .int .i64 a1), (2, .int .i64 a2), (3, .int .i64 a3), (4, .ptr 0 0)], [.cells [.int .i64 a0.f_Fixed, .int .i64 a0.f_Benchmark]]⟩, weak_sel ⟨rfl, rfl, rfl, rfl, trivial⟩ rfl, ?_⟩
    refine then_normal ?_
    refine T_seq ?_
    refine T_reg ?_
    refine RE.op (op_load_agg (ds := [.int .i64 a0.f_Fixed, .int .i64 a0.f_Benchmark]) ti23 rfl rfl rfl rfl (Nat.le_of_ble_eq_true rfl) rfl) rfl rfl rfl ?_
    refine RE.op (op_move rfl rfl) rfl rfl rfl ?_
    refine RE.op (op_move rfl rfl) rfl rfl rfl ?_
    refine RE.op (op_move rfl rfl) rfl rfl rfl ?_
    obtain ⟨t1, ht2, H⟩ := Option.bind_eq_some_iff.1 H
    refine RE.op (op_call (f := 12) rfl rfl rfl rfl en12 closing_Missing.ok ⟨_, _, _, _, _, rfl, ht2, rfl⟩) rfl rfl rfl ?_
    refine RE.op (op_move rfl rfl) rfl rfl rfl ?_
    refine RE.op (op_extract rfl rfl rfl) rfl rfl rfl ?_
    refine RE.op (op_extract rfl rfl rfl) rfl rfl rfl ?_
    refine RE.op (op_assign rfl rfl) rfl rfl rfl ?_
    refine RE.op (op_assign rfl rfl) rfl rfl rfl ?_
    refine RE.nil ⟨⟨[(1, .int .i64 a1), (2, .int .i64 a2), (3, .int .i64 a3), (4, .ptr 0 0), (9, .int .i64 t1.1), (10, .int .i64 t1.2)], [.cells [.int .i64 a0.f_Fixed, .int .i64 a0.f_Benchmark]]⟩, weak_sel ⟨rfl, rfl, rfl, rfl, rfl, rfl, trivial⟩ rfl, ?_⟩
    refine then_normal ?_
    refine T_seq ?_
    refine T_reg ?_
    refine RE.op (op_load_agg (ds := [.int .i64 a0.f_Fixed, .int .i64 a0.f_Benchmark]) ti23 rfl rfl rfl rfl (Nat.le_of_ble_eq_true rfl) rfl) rfl rfl rfl ?_
    refine RE.op (op_move rfl rfl) rfl rfl rfl ?_
    refine RE.op (op_move rfl rfl) rfl rfl rfl ?_
    refine RE.op (op_move rfl rfl) rfl rfl rfl ?_
    obtain ⟨t3, ht4, H⟩ := Option.bind_eq_some_iff.1 H
    refine RE.op (op_call (f := 13) rfl rfl rfl rfl en13 bandplanref37_Missing.ok ⟨_, _, _, _, _, rfl, ht4, rfl⟩) rfl rfl rfl ?_
    refine RE.op (op_move rfl rfl) rfl rfl rfl ?_
    refine RE.op (op_extract rfl rfl rfl) rfl rfl rfl ?_
    refine RE.op (op_extract rfl rfl rfl) rfl rfl rfl ?_
    refine RE.op (op_assign rfl rfl) rfl rfl rfl ?_
    refine RE.op (op_assign rfl rfl) rfl rfl rfl ?_
    refine RE.nil ⟨⟨[(1, .int .i64 a1), (2, .int .i64 a2), (3, .int .i64 a3), (4, .ptr 0 0), (9, .int .i64 t1.1), (10, .int .i64 t1.2), (11, .int .i64 t3.1), (12, .int .i64 t3.2)], [.cells [.int .i64 a0.f_Fixed, .int .i64 a0.f_Benchmark]]⟩, weak_sel ⟨rfl, rfl, rfl, rfl, rfl, rfl, rfl, rfl, trivial⟩ rfl, ?_⟩
    refine then_normal ?_
    refine T_seq ?_
    refine T_reg ?_
    refine RE.op (op_load_agg (ds := [.int .i64 a0.f_Fixed, .int .i64 a0.f_Benchmark]) ti23 rfl rfl rfl rfl (Nat.le_of_ble_eq_true rfl) rfl) rfl rfl rfl ?_
    refine RE.op (op_move rfl rfl) rfl rfl rfl ?_
    refine RE.op (op_move rfl rfl) rfl rfl rfl ?_
    refine RE.op (op_move rfl rfl) rfl rfl rfl ?_
    obtain ⟨t5, ht6, H⟩ := Option.bind_eq_some_iff.1 H
    refine RE.op (op_call (f := 14) rfl rfl rfl rfl en14 closing_Met.ok ⟨_, _, _, _, _, rfl, ht6, rfl⟩) rfl rfl rfl ?_
    refine RE.op (op_move rfl rfl) rfl rfl rfl ?_
    refine RE.op (op_extract rfl rfl rfl) rfl rfl rfl ?_
    refine RE.op (op_extract rfl rfl rfl) rfl rfl rfl ?_
    refine RE.op (op_assign rfl rfl) rfl rfl rfl ?_
    refine RE.op (op_assign rfl rfl) rfl rfl rfl ?_
    refine RE.nil ⟨⟨[(1, .int .i64 a1), (2, .int .i64 a2), (3, .int .i64 a3), (4, .ptr 0 0), (9, .int .i64 t1.1), (10, .int .i64 t1.2), (11, .int .i64 t3.1), (12, .int .i64 t3.2), (13, .bool t5.1), (14, .int .i64 t5.2)], [.cells [.int .i64 a0.f_Fixed, .int .i64 a0.f_Benchmark]]⟩, weak_sel ⟨rfl, rfl, rfl, rfl, rfl, rfl, rfl, rfl, rfl, rfl, trivial⟩ rfl, ?_⟩
    refine then_normal ?_
    refine T_seq ?_
    refine T_reg ?_
    refine RE.op (op_load_agg (ds := [.int .i64 a0.f_Fixed, .int .i64 a0.f_Benchmark]) ti23 rfl rfl rfl rfl (Nat.le_of_ble_eq_true rfl) rfl) rfl rfl rfl ?_
    refine RE.op (op_move rfl rfl) rfl rfl rfl ?_
    refine RE.op (op_move rfl rfl) rfl rfl rfl ?_
    refine RE.op (op_move rfl rfl) rfl rfl rfl ?_
    obtain ⟨t7, ht8, H⟩ := Option.bind_eq_some_iff.1 H
    refine RE.op (op_call (f := 15) rfl rfl rfl rfl en15 bandplanref37_Met.ok ⟨_, _, _, _, _, rfl, ht8, rfl⟩) rfl rfl rfl ?_
    refine RE.op (op_move rfl rfl) rfl rfl rfl ?_
    refine RE.op (op_extract rfl rfl rfl) rfl rfl rfl ?_
    refine RE.op (op_extract rfl rfl rfl) rfl rfl rfl ?_
    refine RE.op (op_assign rfl rfl) rfl rfl rfl ?_
    refine RE.op (op_assign rfl rfl) rfl rfl rfl ?_
    refine RE.nil ⟨⟨[(9, .int .i64 t1.1), (10, .int .i64 t1.2), (11, .int .i64 t3.1), (12, .int .i64 t3.2), (13, .bool t5.1), (14, .int .i64 t5.2), (15, .bool t7.1), (16, .int .i64 t7.2)], [.cells [.int .i64 a0.f_Fixed, .int .i64 a0.f_Benchmark]]⟩, weak_sel ⟨rfl, rfl, rfl, rfl, rfl, rfl, rfl, rfl, trivial⟩ rfl, ?_⟩
    refine then_normal ?_
    refine T_seq ?_
    obtain ⟨x9, hj12, H⟩ := Option.bind_eq_some_iff.1 H
    refine T_reg_out ⟨[(8, .bool x9)], [.cells [.int .i64 a0.f_Fixed, .int .i64 a0.f_Benchmark]]⟩ ?_ ?_
    · clear H
      have H := hj12
      clear hj12
      refine RE.op (op_move rfl rfl) rfl rfl rfl ?_
      refine RE.op (op_move rfl rfl) rfl rfl rfl ?_
      refine RE.op (op_bin rfl rfl rfl rfl) rfl rfl rfl ?_
      refine RE.op (op_move rfl rfl) rfl rfl rfl ?_
      by_cases h1 : t1.1 = t3.1
      · rw [if_pos h1] at H
        refine RE.opg (op_move rfl rfl) rfl rfl (getb (beq_iff_eq.mpr h1) rfl) rfl rfl ?_
        refine RE.opg (op_move rfl rfl) rfl rfl (getb (beq_iff_eq.mpr h1) rfl) rfl rfl ?_
        refine RE.opg (op_bin rfl rfl rfl rfl) rfl rfl (getb (beq_iff_eq.mpr h1) rfl) rfl rfl ?_
        refine RE.op (op_pick_true rfl (evb (beq_iff_eq.mpr h1) rfl) rfl) rfl rfl rfl ?_
        refine RE.op (op_move rfl rfl) rfl rfl rfl ?_
        by_cases h2 : t1.2 = t3.2
        · rw [if_pos h2] at H
          refine RE.opg (op_move rfl rfl) rfl rfl (getb (beq_iff_eq.mpr h2) rfl) rfl rfl ?_
          refine RE.opg (op_move rfl rfl) rfl rfl (getb (beq_iff_eq.mpr h2) rfl) rfl rfl ?_
          refine RE.opg (op_eqb Try.underlying4 rfl rfl rfl) rfl rfl (getb (beq_iff_eq.mpr h2) rfl) rfl rfl ?_
          refine RE.op (op_pick_true rfl (evb (beq_iff_eq.mpr h2) rfl) rfl) rfl rfl rfl ?_
          refine RE.op (op_move rfl rfl) rfl rfl rfl ?_
          by_cases h3 : t5.1 = t7.1
          · rw [if_pos h3] at H
            refine RE.opg (op_move rfl rfl) rfl rfl (getb (beq_iff_eq.mpr h3) rfl) rfl rfl ?_
            refine RE.opg (op_move rfl rfl) rfl rfl (getb (beq_iff_eq.mpr h3) rfl) rfl rfl ?_
            refine RE.opg (op_bin rfl rfl rfl rfl) rfl rfl (getb (beq_iff_eq.mpr h3) rfl) rfl rfl ?_
            refine RE.op (op_pick_true rfl (evb (beq_iff_eq.mpr h3) rfl) rfl) rfl rfl rfl ?_
            refine RE.op (op_move rfl rfl) rfl rfl rfl ?_
            by_cases h4 : t5.2 = t7.2
            · rw [if_pos h4] at H
              obtain ⟨t10, ht11, H⟩ := Option.bind_eq_some_iff.1 H
              refine RE.opg (op_call (f := 11) rfl rfl rfl rfl en11 bandplanlaw37_known.ok ⟨_, _, rfl, ht11, rfl⟩) rfl rfl (getb (beq_iff_eq.mpr h4) rfl) rfl rfl ?_
              refine RE.op (op_pick_true rfl (evb (beq_iff_eq.mpr h4) rfl) rfl) rfl rfl rfl ?_
              refine RE.op (op_assign rfl rfl) rfl rfl rfl ?_
              simp only [Option.some.injEq] at H
              subst H
              exact RE.nil (weak_sel (env' := [(8, .bool t10)]) ⟨rfl, trivial⟩ rfl)
            · rw [if_neg h4] at H
              refine RE.skip rfl rfl (getb (beq_eq_false_iff_ne.mpr h4) rfl) rfl rfl rfl ?_
              refine RE.op (op_pick_false rfl (evb (beq_eq_false_iff_ne.mpr h4) rfl) rfl) rfl rfl rfl ?_
              refine RE.op (op_assign rfl rfl) rfl rfl rfl ?_
              simp only [Option.some.injEq] at H
              subst H
              exact RE.nil (weak_sel (env' := [(8, .bool false)]) ⟨rfl, trivial⟩ rfl)
          · rw [if_neg h3] at H
            refine RE.skip rfl rfl (getb (beq_eq_false_iff_ne.mpr h3) rfl) rfl rfl rfl ?_
            refine RE.skip rfl rfl (getb (beq_eq_false_iff_ne.mpr h3) rfl) rfl rfl rfl ?_
            refine RE.skip rfl rfl (getb (beq_eq_false_iff_ne.mpr h3) rfl) rfl rfl rfl ?_
            refine RE.op (op_pick_false rfl (evb (beq_eq_false_iff_ne.mpr h3) rfl) rfl) rfl rfl rfl ?_
            refine RE.op (op_move rfl rfl) rfl rfl rfl ?_
            refine RE.skip rfl rfl rfl rfl rfl rfl ?_
            refine RE.op (op_pick_false rfl rfl rfl) rfl rfl rfl ?_
            refine RE.op (op_assign rfl rfl) rfl rfl rfl ?_
            simp only [Option.some.injEq] at H
            subst H
            exact RE.nil (weak_sel (env' := [(8, .bool false)]) ⟨rfl, trivial⟩ rfl)
        · rw [if_neg h2] at H
          refine RE.skip rfl rfl (getb (beq_eq_false_iff_ne.mpr h2) rfl) rfl rfl rfl ?_
          refine RE.skip rfl rfl (getb (beq_eq_false_iff_ne.mpr h2) rfl) rfl rfl rfl ?_
          refine RE.skip rfl rfl (getb (beq_eq_false_iff_ne.mpr h2) rfl) rfl rfl rfl ?_
          refine RE.op (op_pick_false rfl (evb (beq_eq_false_iff_ne.mpr h2) rfl) rfl) rfl rfl rfl ?_
          refine RE.op (op_move rfl rfl) rfl rfl rfl ?_
          refine RE.skip rfl rfl rfl rfl rfl rfl ?_
          refine RE.skip rfl rfl rfl rfl rfl rfl ?_
          refine RE.skip rfl rfl rfl rfl rfl rfl ?_
          refine RE.op (op_pick_false rfl rfl rfl) rfl rfl rfl ?_
          refine RE.op (op_move rfl rfl) rfl rfl rfl ?_
          refine RE.skip rfl rfl rfl rfl rfl rfl ?_
          refine RE.op (op_pick_false rfl rfl rfl) rfl rfl rfl ?_
          refine RE.op (op_assign rfl rfl) rfl rfl rfl ?_
          simp only [Option.some.injEq] at H
          subst H
          exact RE.nil (weak_sel (env' := [(8, .bool false)]) ⟨rfl, trivial⟩ rfl)
      · rw [if_neg h1] at H
        refine RE.skip rfl rfl (getb (beq_eq_false_iff_ne.mpr h1) rfl) rfl rfl rfl ?_
        refine RE.skip rfl rfl (getb (beq_eq_false_iff_ne.mpr h1) rfl) rfl rfl rfl ?_
        refine RE.skip rfl rfl (getb (beq_eq_false_iff_ne.mpr h1) rfl) rfl rfl rfl ?_
        refine RE.op (op_pick_false rfl (evb (beq_eq_false_iff_ne.mpr h1) rfl) rfl) rfl rfl rfl ?_
        refine RE.op (op_move rfl rfl) rfl rfl rfl ?_
        refine RE.skip rfl rfl rfl rfl rfl rfl ?_
        refine RE.skip rfl rfl rfl rfl rfl rfl ?_
        refine RE.skip rfl rfl rfl rfl rfl rfl ?_
        refine RE.op (op_pick_false rfl rfl rfl) rfl rfl rfl ?_
        refine RE.op (op_move rfl rfl) rfl rfl rfl ?_
        refine RE.skip rfl rfl rfl rfl rfl rfl ?_
        refine RE.skip rfl rfl rfl rfl rfl rfl ?_
        refine RE.skip rfl rfl rfl rfl rfl rfl ?_
        refine RE.op (op_pick_false rfl rfl rfl) rfl rfl rfl ?_
        refine RE.op (op_move rfl rfl) rfl rfl rfl ?_
        refine RE.skip rfl rfl rfl rfl rfl rfl ?_
        refine RE.op (op_pick_false rfl rfl rfl) rfl rfl rfl ?_
        refine RE.op (op_assign rfl rfl) rfl rfl rfl ?_
        simp only [Option.some.injEq] at H
        subst H
        exact RE.nil (weak_sel (env' := [(8, .bool false)]) ⟨rfl, trivial⟩ rfl)
    · clear hj12
      refine then_normal ?_
      refine T_ret ?_
      simp only [Option.some.injEq] at H
      subst H
      exact ret1 rfl rfl rfl

/-! ### 5 bandplan/bandplanlaw37.ClosingRaise -/
def bandplanlaw37_ClosingRaise.f (k : Nat) (a0 : S_api_Terms) (a1 : Int) (a2 : Int) (a3 : Int) : Option (Bool) := (closing_Raise.f k a0 a1 a2 a3).bind fun t1 => (bandplanref37_Raise.f k a0 a1 a2 a3).bind fun t3 => ((if t1.1 = t3.1 then (if t1.2 = t3.2 then (bandplanlaw37_known.f k ).bind fun t6 => some t6 else some false) else some false)).bind fun x5 => some x5
def bandplanlaw37_ClosingRaise.S (args : List AV) (v : AV) : Prop := ∃ (k : Nat) (a0 : S_api_Terms) (a1 : Int) (a2 : Int) (a3 : Int) (r : Bool), args = [S_api_Terms.enc a0, .int .i64 a1, .int .i64 a2, .int .i64 a3] ∧ bandplanlaw37_ClosingRaise.f k a0 a1 a2 a3 = some r ∧ v = .bool r
theorem bandplanlaw37_ClosingRaise.ok : VOk Try.prog 5 bandplanlaw37_ClosingRaise.S := by
  refine V_ok Try.func5 rfl fun args v hS => ⟨?_, ?_⟩
  · obtain ⟨k, a0, a1, a2, a3, r, rfl, H, rfl⟩ := hS
    exact Nat.le_of_ble_eq_true rfl
  · obtain ⟨k, a0, a1, a2, a3, r, rfl, H, rfl⟩ := hS
    unfold bandplanlaw37_ClosingRaise.f at H
    refine T_seq ?_
    refine T_reg ?_
    refine RE.op (op_box (k := 0) rfl rfl rfl rfl) rfl rfl rfl ?_
    refine RE.op (op_assign rfl rfl) rfl rfl rfl ?_
    refine RE.nil ⟨⟨[(1, .int .i64 a1), (2, .int .i64 a2), (3, .int .i64 a3), (4, .ptr 0 0)], [.cells [.int .i64 a0.f_Fixed, .int .i64 a0.f_Benchmark]]⟩, weak_sel ⟨rfl, rfl, rfl, rfl, trivial⟩ rfl, ?_⟩
    refine then_normal ?_
    refine T_seq ?_
    refine T_reg ?_
    refine RE.op (op_load_agg (ds := [.int .i64 a0.f_Fixed, .int .i64 a0.f_Benchmark]) ti23 rfl rfl rfl rfl (Nat.le_of_ble_eq_true rfl) rfl) rfl rfl rfl ?_
    refine RE.op (op_move rfl rfl) rfl rfl rfl ?_
    refine RE.op (op_move rfl rfl) rfl rfl rfl ?_
    refine RE.op (op_move rfl rfl) rfl rfl rfl ?_
    obtain ⟨t1, ht2, H⟩ := Option.bind_eq_some_iff.1 H
    refine RE.op (op_call (f := 16) rfl rfl rfl rfl en16 closing_Raise.ok ⟨_, _, _, _, _, _, rfl, ht2, rfl⟩) rfl rfl rfl ?_
    refine RE.op (op_move rfl rfl) rfl rfl rfl ?_
    refine RE.op (op_extract rfl rfl rfl) rfl rfl rfl ?_
    refine RE.op (op_extract rfl rfl rfl) rfl rfl rfl ?_
    refine RE.op (op_assign rfl rfl) rfl rfl rfl ?_
    refine RE.op (op_assign rfl rfl) rfl rfl rfl ?_
    refine RE.nil ⟨⟨[(1, .int .i64 a1), (2, .int .i64 a2), (3, .int .i64 a3), (4, .ptr 0 0), (9, .int .i64 t1.1), (10, .int .i64 t1.2)], [.cells [.int .i64 a0.f_Fixed, .int .i64 a0.f_Benchmark]]⟩, weak_sel ⟨rfl, rfl, rfl, rfl, rfl, rfl, trivial⟩ rfl, ?_⟩
    refine then_normal ?_
    refine T_seq ?_
    refine T_reg ?_
    refine RE.op (op_load_agg (ds := [.int .i64 a0.f_Fixed, .int .i64 a0.f_Benchmark]) ti23 rfl rfl rfl rfl (Nat.le_of_ble_eq_true rfl) rfl) rfl rfl rfl ?_
    refine RE.op (op_move rfl rfl) rfl rfl rfl ?_
    refine RE.op (op_move rfl rfl) rfl rfl rfl ?_
    refine RE.op (op_move rfl rfl) rfl rfl rfl ?_
    obtain ⟨t3, ht4, H⟩ := Option.bind_eq_some_iff.1 H
    refine RE.op (op_call (f := 17) rfl rfl rfl rfl en17 bandplanref37_Raise.ok ⟨_, _, _, _, _, _, rfl, ht4, rfl⟩) rfl rfl rfl ?_
    refine RE.op (op_move rfl rfl) rfl rfl rfl ?_
    refine RE.op (op_extract rfl rfl rfl) rfl rfl rfl ?_
    refine RE.op (op_extract rfl rfl rfl) rfl rfl rfl ?_
    refine RE.op (op_assign rfl rfl) rfl rfl rfl ?_
    refine RE.op (op_assign rfl rfl) rfl rfl rfl ?_
    refine RE.nil ⟨⟨[(9, .int .i64 t1.1), (10, .int .i64 t1.2), (11, .int .i64 t3.1), (12, .int .i64 t3.2)], [.cells [.int .i64 a0.f_Fixed, .int .i64 a0.f_Benchmark]]⟩, weak_sel ⟨rfl, rfl, rfl, rfl, trivial⟩ rfl, ?_⟩
    refine then_normal ?_
    refine T_seq ?_
    obtain ⟨x5, hj8, H⟩ := Option.bind_eq_some_iff.1 H
    refine T_reg_out ⟨[(8, .bool x5)], [.cells [.int .i64 a0.f_Fixed, .int .i64 a0.f_Benchmark]]⟩ ?_ ?_
    · clear H
      have H := hj8
      clear hj8
      refine RE.op (op_move rfl rfl) rfl rfl rfl ?_
      refine RE.op (op_move rfl rfl) rfl rfl rfl ?_
      refine RE.op (op_bin rfl rfl rfl rfl) rfl rfl rfl ?_
      refine RE.op (op_move rfl rfl) rfl rfl rfl ?_
      by_cases h1 : t1.1 = t3.1
      · rw [if_pos h1] at H
        refine RE.opg (op_move rfl rfl) rfl rfl (getb (beq_iff_eq.mpr h1) rfl) rfl rfl ?_
        refine RE.opg (op_move rfl rfl) rfl rfl (getb (beq_iff_eq.mpr h1) rfl) rfl rfl ?_
        refine RE.opg (op_bin rfl rfl rfl rfl) rfl rfl (getb (beq_iff_eq.mpr h1) rfl) rfl rfl ?_
        refine RE.op (op_pick_true rfl (evb (beq_iff_eq.mpr h1) rfl) rfl) rfl rfl rfl ?_
        refine RE.op (op_move rfl rfl) rfl rfl rfl ?_
        by_cases h2 : t1.2 = t3.2
        · rw [if_pos h2] at H
          obtain ⟨t6, ht7, H⟩ := Option.bind_eq_some_iff.1 H
          refine RE.opg (op_call (f := 11) rfl rfl rfl rfl en11 bandplanlaw37_known.ok ⟨_, _, rfl, ht7, rfl⟩) rfl rfl (getb (beq_iff_eq.mpr h2) rfl) rfl rfl ?_
          refine RE.op (op_pick_true rfl (evb (beq_iff_eq.mpr h2) rfl) rfl) rfl rfl rfl ?_
          refine RE.op (op_assign rfl rfl) rfl rfl rfl ?_
          simp only [Option.some.injEq] at H
          subst H
          exact RE.nil (weak_sel (env' := [(8, .bool t6)]) ⟨rfl, trivial⟩ rfl)
        · rw [if_neg h2] at H
          refine RE.skip rfl rfl (getb (beq_eq_false_iff_ne.mpr h2) rfl) rfl rfl rfl ?_
          refine RE.op (op_pick_false rfl (evb (beq_eq_false_iff_ne.mpr h2) rfl) rfl) rfl rfl rfl ?_
          refine RE.op (op_assign rfl rfl) rfl rfl rfl ?_
          simp only [Option.some.injEq] at H
          subst H
          exact RE.nil (weak_sel (env' := [(8, .bool false)]) ⟨rfl, trivial⟩ rfl)
      · rw [if_neg h1] at H
        refine RE.skip rfl rfl (getb (beq_eq_false_iff_ne.mpr h1) rfl) rfl rfl rfl ?_
        refine RE.skip rfl rfl (getb (beq_eq_false_iff_ne.mpr h1) rfl) rfl rfl rfl ?_
        refine RE.skip rfl rfl (getb (beq_eq_false_iff_ne.mpr h1) rfl) rfl rfl rfl ?_
        refine RE.op (op_pick_false rfl (evb (beq_eq_false_iff_ne.mpr h1) rfl) rfl) rfl rfl rfl ?_
        refine RE.op (op_move rfl rfl) rfl rfl rfl ?_
        refine RE.skip rfl rfl rfl rfl rfl rfl ?_
        refine RE.op (op_pick_false rfl rfl rfl) rfl rfl rfl ?_
        refine RE.op (op_assign rfl rfl) rfl rfl rfl ?_
        simp only [Option.some.injEq] at H
        subst H
        exact RE.nil (weak_sel (env' := [(8, .bool false)]) ⟨rfl, trivial⟩ rfl)
    · clear hj8
      refine then_normal ?_
      refine T_ret ?_
      simp only [Option.some.injEq] at H
      subst H
      exact ret1 rfl rfl rfl

/-! ### 6 bandplan/bandplanlaw37.ClosingHolds -/
def bandplanlaw37_ClosingHolds.f (k : Nat) (a0 : S_api_Terms) (a1 : Int) (a2 : Int) (a3 : Int) (a4 : Int) (a5 : Int) (a6 : Int) : Option (Bool) := (closing_Met.f a0 a1 a2 a3).bind fun t1 => (if ¬ t1.2 = 0 then ((if t1.2 = 2 then (if ¬ (t1.1 = true) then (bandplanlaw37_known.f k ).bind fun t4 => some t4 else some false) else some false)).bind fun x3 => some x3 else (closing_Missing.f a0 a1 a2 a3).bind fun t7 => (closing_Raise.f k a0 a1 a2 a3).bind fun t9 => ((if ¬ t7.2 = 0 then some true else (if ¬ t1.1 = (t7.1 == 0) then some true else (if t9.2 = 0 then (if ¬ t1.1 = (t9.1 == 0) then some true else (if t1.1 = true then (if a3 < a1 then some true else (if ¬ t9.2 = 0 then some (t9.2 != 9) else some false)) else (if ¬ t9.2 = 0 then some (t9.2 != 9) else some false))) else (if ¬ t1.1 = false then some true else (if t1.1 = true then (if a3 < a1 then some true else (if ¬ t9.2 = 0 then some (t9.2 != 9) else some false)) else (if ¬ t9.2 = 0 then some (t9.2 != 9) else some false))))))).bind fun x11 => (if x11 = true then some false else ((if a4 < a3 then some true else (if a5 > a1 then some true else some (decide (a6 > a2))))).bind fun x13 => (if x13 = true then (bandplanlaw37_known.f k ).bind fun t15 => some t15 else (closing_Met.f a0 a5 a6 a4).bind fun t17 => ((if ¬ t17.2 = 0 then (bandplanlaw37_known.f k ).bind fun t20 => some t20 else (if t17.1 = true then (bandplanlaw37_known.f k ).bind fun t22 => some t22 else (if ¬ (t1.1 = true) then (bandplanlaw37_known.f k ).bind fun t24 => some t24 else some false)))).bind fun x19 => some x19)))
def bandplanlaw37_ClosingHolds.S (args : List AV) (v : AV) : Prop := ∃ (k : Nat) (a0 : S_api_Terms) (a1 : Int) (a2 : Int) (a3 : Int) (a4 : Int) (a5 : Int) (a6 : Int) (r : Bool), args = [S_api_Terms.enc a0, .int .i64 a1, .int .i64 a2, .int .i64 a3, .int .i64 a4, .int .i64 a5, .int .i64 a6] ∧ bandplanlaw37_ClosingHolds.f k a0 a1 a2 a3 a4 a5 a6 = some r ∧ v = .bool r
theorem bandplanlaw37_ClosingHolds.ok : VOk Try.prog 6 bandplanlaw37_ClosingHolds.S := by
  refine V_ok Try.func6 rfl fun args v hS => ⟨?_, ?_⟩
  · obtain ⟨k, a0, a1, a2, a3, a4, a5, a6, r, rfl, H, rfl⟩ := hS
    exact Nat.le_of_ble_eq_true rfl
  · obtain ⟨k, a0, a1, a2, a3, a4, a5, a6, r, rfl, H, rfl⟩ := hS
    unfold bandplanlaw37_ClosingHolds.f at H
    refine T_seq ?_
    refine T_reg ?_
    refine RE.op (op_box (k := 0) rfl rfl rfl rfl) rfl rfl rfl ?_
    refine RE.op (op_assign rfl rfl) rfl rfl rfl ?_
    refine RE.nil ⟨⟨[(1, .int .i64 a1), (2, .int .i64 a2), (3, .int .i64 a3), (4, .int .i64 a4), (5, .int .i64 a5), (6, .int .i64 a6), (7, .ptr 0 0)], [.cells [.int .i64 a0.f_Fixed, .int .i64 a0.f_Benchmark]]⟩, weak_sel ⟨rfl, rfl, rfl, rfl, rfl, rfl, rfl, trivial⟩ rfl, ?_⟩
    refine then_normal ?_
    refine T_seq ?_
    refine T_reg ?_
    refine RE.op (op_load_agg (ds := [.int .i64 a0.f_Fixed, .int .i64 a0.f_Benchmark]) ti23 rfl rfl rfl rfl (Nat.le_of_ble_eq_true rfl) rfl) rfl rfl rfl ?_
    refine RE.op (op_move rfl rfl) rfl rfl rfl ?_
    refine RE.op (op_move rfl rfl) rfl rfl rfl ?_
    refine RE.op (op_move rfl rfl) rfl rfl rfl ?_
    obtain ⟨t1, ht2, H⟩ := Option.bind_eq_some_iff.1 H
    refine RE.op (op_call (f := 14) rfl rfl rfl rfl en14 closing_Met.ok ⟨_, _, _, _, _, rfl, ht2, rfl⟩) rfl rfl rfl ?_
    refine RE.op (op_move rfl rfl) rfl rfl rfl ?_
    refine RE.op (op_extract rfl rfl rfl) rfl rfl rfl ?_
    refine RE.op (op_extract rfl rfl rfl) rfl rfl rfl ?_
    refine RE.op (op_assign rfl rfl) rfl rfl rfl ?_
    refine RE.op (op_assign rfl rfl) rfl rfl rfl ?_
    refine RE.nil ⟨⟨[(1, .int .i64 a1), (2, .int .i64 a2), (3, .int .i64 a3), (4, .int .i64 a4), (5, .int .i64 a5), (6, .int .i64 a6), (7, .ptr 0 0), (15, .bool t1.1), (16, .int .i64 t1.2)], [.cells [.int .i64 a0.f_Fixed, .int .i64 a0.f_Benchmark]]⟩, weak_sel ⟨rfl, rfl, rfl, rfl, rfl, rfl, rfl, rfl, rfl, trivial⟩ rfl, ?_⟩
    refine then_normal ?_
    refine T_seq ?_
    refine T_seq ?_
    refine T_reg ?_
    refine RE.op (op_move rfl rfl) rfl rfl rfl ?_
    refine RE.op (op_bin rfl rfl rfl rfl) rfl rfl rfl ?_
    refine RE.nil ⟨⟨[(1, .int .i64 a1), (2, .int .i64 a2), (3, .int .i64 a3), (4, .int .i64 a4), (5, .int .i64 a5), (6, .int .i64 a6), (7, .ptr 0 0), (15, .bool t1.1), (16, .int .i64 t1.2), (32, .bool (t1.2 != 0))], [.cells [.int .i64 a0.f_Fixed, .int .i64 a0.f_Benchmark]]⟩, weak_sel ⟨rfl, rfl, rfl, rfl, rfl, rfl, rfl, rfl, rfl, rfl, trivial⟩ rfl, ?_⟩
    refine then_normal ?_
    by_cases h1 : ¬ t1.2 = 0
    · rw [if_pos h1] at H
      refine T_yes rfl (bne_iff_ne.mpr h1) ?_
      refine T_seq ?_
      obtain ⟨x3, hj6, H⟩ := Option.bind_eq_some_iff.1 H
      refine T_reg_out ⟨[(14, .bool x3)], [.cells [.int .i64 a0.f_Fixed, .int .i64 a0.f_Benchmark]]⟩ ?_ ?_
      · clear H
        have H := hj6
        clear hj6
        refine RE.op (op_move rfl rfl) rfl rfl rfl ?_
        refine RE.op (op_bin rfl rfl rfl rfl) rfl rfl rfl ?_
        refine RE.op (op_move rfl rfl) rfl rfl rfl ?_
        by_cases h2 : t1.2 = 2
        · rw [if_pos h2] at H
          refine RE.opg (op_move rfl rfl) rfl rfl (getb (beq_iff_eq.mpr h2) rfl) rfl rfl ?_
          refine RE.opg (op_not rfl rfl) rfl rfl (getb (beq_iff_eq.mpr h2) rfl) rfl rfl ?_
          refine RE.op (op_pick_true rfl (evb (beq_iff_eq.mpr h2) rfl) rfl) rfl rfl rfl ?_
          refine RE.op (op_move rfl rfl) rfl rfl rfl ?_
          by_cases h3 : ¬ (t1.1 = true)
          · rw [if_pos h3] at H
            obtain ⟨t4, ht5, H⟩ := Option.bind_eq_some_iff.1 H
            refine RE.opg (op_call (f := 11) rfl rfl rfl rfl en11 bandplanlaw37_known.ok ⟨_, _, rfl, ht5, rfl⟩) rfl rfl (getb (not_t (Bool.eq_false_iff.mpr h3)) rfl) rfl rfl ?_
            refine RE.op (op_pick_true rfl (evb (not_t (Bool.eq_false_iff.mpr h3)) rfl) rfl) rfl rfl rfl ?_
            refine RE.op (op_assign rfl rfl) rfl rfl rfl ?_
            simp only [Option.some.injEq] at H
            subst H
            exact RE.nil (weak_sel (env' := [(14, .bool t4)]) ⟨rfl, trivial⟩ rfl)
          · rw [if_neg h3] at H
            refine RE.skip rfl rfl (getb (not_f (Decidable.of_not_not h3)) rfl) rfl rfl rfl ?_
            refine RE.op (op_pick_false rfl (evb (not_f (Decidable.of_not_not h3)) rfl) rfl) rfl rfl rfl ?_
            refine RE.op (op_assign rfl rfl) rfl rfl rfl ?_
            simp only [Option.some.injEq] at H
            subst H
            exact RE.nil (weak_sel (env' := [(14, .bool false)]) ⟨rfl, trivial⟩ rfl)
        · rw [if_neg h2] at H
          refine RE.skip rfl rfl (getb (beq_eq_false_iff_ne.mpr h2) rfl) rfl rfl rfl ?_
          refine RE.skip rfl rfl (getb (beq_eq_false_iff_ne.mpr h2) rfl) rfl rfl rfl ?_
          refine RE.op (op_pick_false rfl (evb (beq_eq_false_iff_ne.mpr h2) rfl) rfl) rfl rfl rfl ?_
          refine RE.op (op_move rfl rfl) rfl rfl rfl ?_
          refine RE.skip rfl rfl rfl rfl rfl rfl ?_
          refine RE.op (op_pick_false rfl rfl rfl) rfl rfl rfl ?_
          refine RE.op (op_assign rfl rfl) rfl rfl rfl ?_
          simp only [Option.some.injEq] at H
          subst H
          exact RE.nil (weak_sel (env' := [(14, .bool false)]) ⟨rfl, trivial⟩ rfl)
      · clear hj6
        refine then_normal ?_
        refine T_ret ?_
        simp only [Option.some.injEq] at H
        subst H
        refine then_ret ?_
        exact ret1 rfl rfl rfl
    · rw [if_neg h1] at H
      refine T_no rfl (bne_eq_false_iff_eq.mpr (Decidable.of_not_not h1)) ?_
      refine T_skip ?_
      refine then_normal ?_
      refine T_seq ?_
      refine T_reg ?_
      refine RE.op (op_load_agg (ds := [.int .i64 a0.f_Fixed, .int .i64 a0.f_Benchmark]) ti23 rfl rfl rfl rfl (Nat.le_of_ble_eq_true rfl) rfl) rfl rfl rfl ?_
      refine RE.op (op_move rfl rfl) rfl rfl rfl ?_
      refine RE.op (op_move rfl rfl) rfl rfl rfl ?_
      refine RE.op (op_move rfl rfl) rfl rfl rfl ?_
      obtain ⟨t7, ht8, H⟩ := Option.bind_eq_some_iff.1 H
      refine RE.op (op_call (f := 12) rfl rfl rfl rfl en12 closing_Missing.ok ⟨_, _, _, _, _, rfl, ht8, rfl⟩) rfl rfl rfl ?_
      refine RE.op (op_move rfl rfl) rfl rfl rfl ?_
      refine RE.op (op_extract rfl rfl rfl) rfl rfl rfl ?_
      refine RE.op (op_extract rfl rfl rfl) rfl rfl rfl ?_
      refine RE.op (op_assign rfl rfl) rfl rfl rfl ?_
      refine RE.op (op_assign rfl rfl) rfl rfl rfl ?_
      refine RE.nil ⟨⟨[(1, .int .i64 a1), (2, .int .i64 a2), (3, .int .i64 a3), (4, .int .i64 a4), (5, .int .i64 a5), (6, .int .i64 a6), (7, .ptr 0 0), (15, .bool t1.1), (17, .int .i64 t7.1), (18, .int .i64 t7.2)], [.cells [.int .i64 a0.f_Fixed, .int .i64 a0.f_Benchmark]]⟩, weak_sel ⟨rfl, rfl, rfl, rfl, rfl, rfl, rfl, rfl, rfl, rfl, trivial⟩ rfl, ?_⟩
      refine then_normal ?_
      refine T_seq ?_
      refine T_reg ?_
      refine RE.op (op_load_agg (ds := [.int .i64 a0.f_Fixed, .int .i64 a0.f_Benchmark]) ti23 rfl rfl rfl rfl (Nat.le_of_ble_eq_true rfl) rfl) rfl rfl rfl ?_
      refine RE.op (op_move rfl rfl) rfl rfl rfl ?_
      refine RE.op (op_move rfl rfl) rfl rfl rfl ?_
      refine RE.op (op_move rfl rfl) rfl rfl rfl ?_
      obtain ⟨t9, ht10, H⟩ := Option.bind_eq_some_iff.1 H
      refine RE.op (op_call (f := 16) rfl rfl rfl rfl en16 closing_Raise.ok ⟨_, _, _, _, _, _, rfl, ht10, rfl⟩) rfl rfl rfl ?_
      refine RE.op (op_move rfl rfl) rfl rfl rfl ?_
      refine RE.op (op_extract rfl rfl rfl) rfl rfl rfl ?_
      refine RE.op (op_extract rfl rfl rfl) rfl rfl rfl ?_
      refine RE.op (op_assign rfl rfl) rfl rfl rfl ?_
      refine RE.op (op_assign rfl rfl) rfl rfl rfl ?_
      refine RE.nil ⟨⟨[(1, .int .i64 a1), (2, .int .i64 a2), (3, .int .i64 a3), (4, .int .i64 a4), (5, .int .i64 a5), (6, .int .i64 a6), (7, .ptr 0 0), (15, .bool t1.1), (17, .int .i64 t7.1), (18, .int .i64 t7.2), (19, .int .i64 t9.1), (20, .int .i64 t9.2)], [.cells [.int .i64 a0.f_Fixed, .int .i64 a0.f_Benchmark]]⟩, weak_sel ⟨rfl, rfl, rfl, rfl, rfl, rfl, rfl, rfl, rfl, rfl, rfl, rfl, trivial⟩ rfl, ?_⟩
      refine then_normal ?_
      refine T_seq ?_
      refine T_seq ?_
      obtain ⟨x11, hj12, H⟩ := Option.bind_eq_some_iff.1 H
      refine T_reg_out ⟨[(1, .int .i64 a1), (2, .int .i64 a2), (3, .int .i64 a3), (4, .int .i64 a4), (5, .int .i64 a5), (6, .int .i64 a6), (7, .ptr 0 0), (15, .bool t1.1), (91, .bool x11)], [.cells [.int .i64 a0.f_Fixed, .int .i64 a0.f_Benchmark]]⟩ ?_ ?_
      · clear H
        have H := hj12
        clear hj12
        refine RE.op (op_move rfl rfl) rfl rfl rfl ?_
        refine RE.op (op_bin rfl rfl rfl rfl) rfl rfl rfl ?_
        refine RE.op (op_move rfl rfl) rfl rfl rfl ?_
        by_cases h4 : ¬ t7.2 = 0
        · rw [if_pos h4] at H
          refine RE.skip rfl rfl (getb (bne_iff_ne.mpr h4) rfl) rfl rfl rfl ?_
          refine RE.skip rfl rfl (getb (bne_iff_ne.mpr h4) rfl) rfl rfl rfl ?_
          refine RE.skip rfl rfl (getb (bne_iff_ne.mpr h4) rfl) rfl rfl rfl ?_
          refine RE.skip rfl rfl (getb (bne_iff_ne.mpr h4) rfl) rfl rfl rfl ?_
          refine RE.op (op_pick_true rfl (evb (bne_iff_ne.mpr h4) rfl) rfl) rfl rfl rfl ?_
          refine RE.op (op_move rfl rfl) rfl rfl rfl ?_
          refine RE.skip rfl rfl rfl rfl rfl rfl ?_
          refine RE.skip rfl rfl rfl rfl rfl rfl ?_
          refine RE.skip rfl rfl rfl rfl rfl rfl ?_
          refine RE.skip rfl rfl rfl rfl rfl rfl ?_
          refine RE.skipu rfl rfl rfl rfl rfl ?_
          refine RE.skipu rfl rfl rfl rfl rfl ?_
          refine RE.skip rfl rfl rfl rfl rfl rfl ?_
          refine RE.skip rfl rfl rfl rfl rfl rfl ?_
          refine RE.op (op_pick_true rfl rfl rfl) rfl rfl rfl ?_
          refine RE.op (op_move rfl rfl) rfl rfl rfl ?_
          refine RE.skip rfl rfl rfl rfl rfl rfl ?_
          refine RE.skip rfl rfl rfl rfl rfl rfl ?_
          refine RE.skipu rfl rfl rfl rfl rfl ?_
          refine RE.skipu rfl rfl rfl rfl rfl ?_
          refine RE.skipu rfl rfl rfl rfl rfl ?_
          refine RE.skip rfl rfl rfl rfl rfl rfl ?_
          refine RE.op (op_pick_true rfl rfl rfl) rfl rfl rfl ?_
          refine RE.op (op_move rfl rfl) rfl rfl rfl ?_
          refine RE.skip rfl rfl rfl rfl rfl rfl ?_
          refine RE.skip rfl rfl rfl rfl rfl rfl ?_
          refine RE.skip rfl rfl rfl rfl rfl rfl ?_
          refine RE.skipu rfl rfl rfl rfl rfl ?_
          refine RE.skipu rfl rfl rfl rfl rfl ?_
          refine RE.skip rfl rfl rfl rfl rfl rfl ?_
          refine RE.op (op_pick_true rfl rfl rfl) rfl rfl rfl ?_
          simp only [Option.some.injEq] at H
          subst H
          exact RE.nil (weak_sel (env' := [(1, .int .i64 a1), (2, .int .i64 a2), (3, .int .i64 a3), (4, .int .i64 a4), (5, .int .i64 a5), (6, .int .i64 a6), (7, .ptr 0 0), (15, .bool t1.1), (91, .bool true)]) ⟨rfl, rfl, rfl, rfl, rfl, rfl, rfl, rfl, rfl, trivial⟩ rfl)
        · rw [if_neg h4] at H
          refine RE.opg (op_move rfl rfl) rfl rfl (getb (bne_eq_false_iff_eq.mpr (Decidable.of_not_not h4)) rfl) rfl rfl ?_
          refine RE.opg (op_move rfl rfl) rfl rfl (getb (bne_eq_false_iff_eq.mpr (Decidable.of_not_not h4)) rfl) rfl rfl ?_
          refine RE.opg (op_bin rfl rfl rfl rfl) rfl rfl (getb (bne_eq_false_iff_eq.mpr (Decidable.of_not_not h4)) rfl) rfl rfl ?_
          refine RE.opg (op_neb Try.underlying4 rfl rfl rfl) rfl rfl (getb (bne_eq_false_iff_eq.mpr (Decidable.of_not_not h4)) rfl) rfl rfl ?_
          refine RE.op (op_pick_false rfl (evb (bne_eq_false_iff_eq.mpr (Decidable.of_not_not h4)) rfl) rfl) rfl rfl rfl ?_
          refine RE.op (op_move rfl rfl) rfl rfl rfl ?_
          by_cases h5 : ¬ t1.1 = (t7.1 == 0)
          · rw [if_pos h5] at H
            refine RE.skip rfl rfl (getb (not_t (beq_eq_false_iff_ne.mpr h5)) rfl) rfl rfl rfl ?_
            refine RE.skip rfl rfl (getb (not_t (beq_eq_false_iff_ne.mpr h5)) rfl) rfl rfl rfl ?_
            refine RE.skip rfl rfl (getb (not_t (beq_eq_false_iff_ne.mpr h5)) rfl) rfl rfl rfl ?_
            refine RE.skip rfl rfl (getb (not_t (beq_eq_false_iff_ne.mpr h5)) rfl) rfl rfl rfl ?_
            refine RE.skipu rfl rfl rfl rfl rfl ?_
            refine RE.skipu rfl rfl rfl rfl rfl ?_
            refine RE.skip rfl rfl (getb (not_t (beq_eq_false_iff_ne.mpr h5)) rfl) rfl rfl rfl ?_
            refine RE.skip rfl rfl (getb (not_t (beq_eq_false_iff_ne.mpr h5)) rfl) rfl rfl rfl ?_
            refine RE.op (op_pick_true rfl (evb (not_t (beq_eq_false_iff_ne.mpr h5)) rfl) rfl) rfl rfl rfl ?_
            refine RE.op (op_move rfl rfl) rfl rfl rfl ?_
            refine RE.skip rfl rfl rfl rfl rfl rfl ?_
            refine RE.skip rfl rfl rfl rfl rfl rfl ?_
            refine RE.skipu rfl rfl rfl rfl rfl ?_
            refine RE.skipu rfl rfl rfl rfl rfl ?_
            refine RE.skipu rfl rfl rfl rfl rfl ?_
            refine RE.skip rfl rfl rfl rfl rfl rfl ?_
            refine RE.op (op_pick_true rfl rfl rfl) rfl rfl rfl ?_
            refine RE.op (op_move rfl rfl) rfl rfl rfl ?_
            refine RE.skip rfl rfl rfl rfl rfl rfl ?_
            refine RE.skip rfl rfl rfl rfl rfl rfl ?_
            refine RE.skip rfl rfl rfl rfl rfl rfl ?_
            refine RE.skipu rfl rfl rfl rfl rfl ?_
            refine RE.skipu rfl rfl rfl rfl rfl ?_
            refine RE.skip rfl rfl rfl rfl rfl rfl ?_
            refine RE.op (op_pick_true rfl rfl rfl) rfl rfl rfl ?_
            simp only [Option.some.injEq] at H
            subst H
            exact RE.nil (weak_sel (env' := [(1, .int .i64 a1), (2, .int .i64 a2), (3, .int .i64 a3), (4, .int .i64 a4), (5, .int .i64 a5), (6, .int .i64 a6), (7, .ptr 0 0), (15, .bool t1.1), (91, .bool true)]) ⟨rfl, rfl, rfl, rfl, rfl, rfl, rfl, rfl, rfl, trivial⟩ rfl)
          · rw [if_neg h5] at H
            refine RE.opg (op_move rfl rfl) rfl rfl (getb (not_f (beq_iff_eq.mpr (Decidable.of_not_not h5))) rfl) rfl rfl ?_
            refine RE.opg (op_move rfl rfl) rfl rfl (getb (not_f (beq_iff_eq.mpr (Decidable.of_not_not h5))) rfl) rfl rfl ?_
            refine RE.opg (op_bin rfl rfl rfl rfl) rfl rfl (getb (not_f (beq_iff_eq.mpr (Decidable.of_not_not h5))) rfl) rfl rfl ?_
            refine RE.opg (op_move rfl rfl) rfl rfl (getb (not_f (beq_iff_eq.mpr (Decidable.of_not_not h5))) rfl) rfl rfl ?_
            by_cases h6 : t9.2 = 0
            · rw [if_pos h6] at H
              refine RE.opg (op_move rfl rfl) rfl rfl (getb (beq_iff_eq.mpr h6) rfl) rfl rfl ?_
              refine RE.opg (op_bin rfl rfl rfl rfl) rfl rfl (getb (beq_iff_eq.mpr h6) rfl) rfl rfl ?_
              refine RE.opg (op_pick_true rfl (evb (beq_iff_eq.mpr h6) rfl) rfl) rfl rfl (getb (not_f (beq_iff_eq.mpr (Decidable.of_not_not h5))) rfl) rfl rfl ?_
              refine RE.opg (op_neb Try.underlying4 rfl rfl rfl) rfl rfl (getb (not_f (beq_iff_eq.mpr (Decidable.of_not_not h5))) rfl) rfl rfl ?_
              refine RE.op (op_pick_false rfl (evb (not_f (beq_iff_eq.mpr (Decidable.of_not_not h5))) rfl) rfl) rfl rfl rfl ?_
              refine RE.op (op_move rfl rfl) rfl rfl rfl ?_
              by_cases h7 : ¬ t1.1 = (t9.1 == 0)
              · rw [if_pos h7] at H
                refine RE.skip rfl rfl (getb (not_t (beq_eq_false_iff_ne.mpr h7)) rfl) rfl rfl rfl ?_
                refine RE.skip rfl rfl (getb (not_t (beq_eq_false_iff_ne.mpr h7)) rfl) rfl rfl rfl ?_
                refine RE.skipu rfl rfl rfl rfl rfl ?_
                refine RE.skipu rfl rfl rfl rfl rfl ?_
                refine RE.skipu rfl rfl rfl rfl rfl ?_
                refine RE.skip rfl rfl (getb (not_t (beq_eq_false_iff_ne.mpr h7)) rfl) rfl rfl rfl ?_
                refine RE.op (op_pick_true rfl (evb (not_t (beq_eq_false_iff_ne.mpr h7)) rfl) rfl) rfl rfl rfl ?_
                refine RE.op (op_move rfl rfl) rfl rfl rfl ?_
                refine RE.skip rfl rfl rfl rfl rfl rfl ?_
                refine RE.skip rfl rfl rfl rfl rfl rfl ?_
                refine RE.skip rfl rfl rfl rfl rfl rfl ?_
                refine RE.skipu rfl rfl rfl rfl rfl ?_
                refine RE.skipu rfl rfl rfl rfl rfl ?_
                refine RE.skip rfl rfl rfl rfl rfl rfl ?_
                refine RE.op (op_pick_true rfl rfl rfl) rfl rfl rfl ?_
                simp only [Option.some.injEq] at H
                subst H
                exact RE.nil (weak_sel (env' := [(1, .int .i64 a1), (2, .int .i64 a2), (3, .int .i64 a3), (4, .int .i64 a4), (5, .int .i64 a5), (6, .int .i64 a6), (7, .ptr 0 0), (15, .bool t1.1), (91, .bool true)]) ⟨rfl, rfl, rfl, rfl, rfl, rfl, rfl, rfl, rfl, trivial⟩ rfl)
              · rw [if_neg h7] at H
                refine RE.opg (op_move rfl rfl) rfl rfl (getb (not_f (beq_iff_eq.mpr (Decidable.of_not_not h7))) rfl) rfl rfl ?_
                refine RE.opg (op_move rfl rfl) rfl rfl (getb (not_f (beq_iff_eq.mpr (Decidable.of_not_not h7))) rfl) rfl rfl ?_
                by_cases h8 : t1.1 = true
                · rw [if_pos h8] at H
                  refine RE.opg (op_move rfl rfl) rfl rfl (getb h8 rfl) rfl rfl ?_
                  refine RE.opg (op_move rfl rfl) rfl rfl (getb h8 rfl) rfl rfl ?_
                  refine RE.opg (op_bin rfl rfl rfl rfl) rfl rfl (getb h8 rfl) rfl rfl ?_
                  refine RE.opg (op_pick_true rfl (evb h8 rfl) rfl) rfl rfl (getb (not_f (beq_iff_eq.mpr (Decidable.of_not_not h7))) rfl) rfl rfl ?_
                  refine RE.op (op_pick_false rfl (evb (not_f (beq_iff_eq.mpr (Decidable.of_not_not h7))) rfl) rfl) rfl rfl rfl ?_
                  refine RE.op (op_move rfl rfl) rfl rfl rfl ?_
                  by_cases h9 : a3 < a1
                  · rw [if_pos h9] at H
                    refine RE.skip rfl rfl (getb (decide_eq_true h9) rfl) rfl rfl rfl ?_
                    refine RE.skip rfl rfl (getb (decide_eq_true h9) rfl) rfl rfl rfl ?_
                    refine RE.skip rfl rfl (getb (decide_eq_true h9) rfl) rfl rfl rfl ?_
                    refine RE.skipu rfl rfl rfl rfl rfl ?_
                    refine RE.skipu rfl rfl rfl rfl rfl ?_
                    refine RE.skip rfl rfl (getb (decide_eq_true h9) rfl) rfl rfl rfl ?_
                    refine RE.op (op_pick_true rfl (evb (decide_eq_true h9) rfl) rfl) rfl rfl rfl ?_
                    simp only [Option.some.injEq] at H
                    subst H
                    exact RE.nil (weak_sel (env' := [(1, .int .i64 a1), (2, .int .i64 a2), (3, .int .i64 a3), (4, .int .i64 a4), (5, .int .i64 a5), (6, .int .i64 a6), (7, .ptr 0 0), (15, .bool t1.1), (91, .bool true)]) ⟨rfl, rfl, rfl, rfl, rfl, rfl, rfl, rfl, rfl, trivial⟩ rfl)
                  · rw [if_neg h9] at H
                    refine RE.opg (op_move rfl rfl) rfl rfl (getb (decide_eq_false h9) rfl) rfl rfl ?_
                    refine RE.opg (op_bin rfl rfl rfl rfl) rfl rfl (getb (decide_eq_false h9) rfl) rfl rfl ?_
                    refine RE.opg (op_move rfl rfl) rfl rfl (getb (decide_eq_false h9) rfl) rfl rfl ?_
                    by_cases h10 : ¬ t9.2 = 0
                    · rw [if_pos h10] at H
                      refine RE.opg (op_move rfl rfl) rfl rfl (getb (bne_iff_ne.mpr h10) rfl) rfl rfl ?_
                      refine RE.opg (op_bin rfl rfl rfl rfl) rfl rfl (getb (bne_iff_ne.mpr h10) rfl) rfl rfl ?_
                      refine RE.opg (op_pick_true rfl (evb (bne_iff_ne.mpr h10) rfl) rfl) rfl rfl (getb (decide_eq_false h9) rfl) rfl rfl ?_
                      refine RE.op (op_pick_false rfl (evb (decide_eq_false h9) rfl) rfl) rfl rfl rfl ?_
                      simp only [Option.some.injEq] at H
                      subst H
                      exact RE.nil (weak_sel (env' := [(1, .int .i64 a1), (2, .int .i64 a2), (3, .int .i64 a3), (4, .int .i64 a4), (5, .int .i64 a5), (6, .int .i64 a6), (7, .ptr 0 0), (15, .bool t1.1), (91, .bool (t9.2 != 9))]) ⟨rfl, rfl, rfl, rfl, rfl, rfl, rfl, rfl, rfl, trivial⟩ rfl)
                    · rw [if_neg h10] at H
                      refine RE.skip rfl rfl (getb (bne_eq_false_iff_eq.mpr (Decidable.of_not_not h10)) rfl) rfl rfl rfl ?_
                      refine RE.skip rfl rfl (getb (bne_eq_false_iff_eq.mpr (Decidable.of_not_not h10)) rfl) rfl rfl rfl ?_
                      refine RE.opg (op_pick_false rfl (evb (bne_eq_false_iff_eq.mpr (Decidable.of_not_not h10)) rfl) rfl) rfl rfl (getb (decide_eq_false h9) rfl) rfl rfl ?_
                      refine RE.op (op_pick_false rfl (evb (decide_eq_false h9) rfl) rfl) rfl rfl rfl ?_
                      simp only [Option.some.injEq] at H
                      subst H
                      exact RE.nil (weak_sel (env' := [(1, .int .i64 a1), (2, .int .i64 a2), (3, .int .i64 a3), (4, .int .i64 a4), (5, .int .i64 a5), (6, .int .i64 a6), (7, .ptr 0 0), (15, .bool t1.1), (91, .bool false)]) ⟨rfl, rfl, rfl, rfl, rfl, rfl, rfl, rfl, rfl, trivial⟩ rfl)
                · rw [if_neg h8] at H
                  refine RE.skip rfl rfl (getb (Bool.eq_false_iff.mpr h8) rfl) rfl rfl rfl ?_
                  refine RE.skip rfl rfl (getb (Bool.eq_false_iff.mpr h8) rfl) rfl rfl rfl ?_
                  refine RE.skip rfl rfl (getb (Bool.eq_false_iff.mpr h8) rfl) rfl rfl rfl ?_
                  refine RE.opg (op_pick_false rfl (evb (Bool.eq_false_iff.mpr h8) rfl) rfl) rfl rfl (getb (not_f (beq_iff_eq.mpr (Decidable.of_not_not h7))) rfl) rfl rfl ?_
                  refine RE.op (op_pick_false rfl (evb (not_f (beq_iff_eq.mpr (Decidable.of_not_not h7))) rfl) rfl) rfl rfl rfl ?_
                  refine RE.op (op_move rfl rfl) rfl rfl rfl ?_
                  refine RE.opg (op_move rfl rfl) rfl rfl rfl rfl rfl ?_
                  refine RE.opg (op_bin rfl rfl rfl rfl) rfl rfl rfl rfl rfl ?_
                  refine RE.opg (op_move rfl rfl) rfl rfl rfl rfl rfl ?_
                  by_cases h11 : ¬ t9.2 = 0
                  · rw [if_pos h11] at H
                    refine RE.opg (op_move rfl rfl) rfl rfl (getb (bne_iff_ne.mpr h11) rfl) rfl rfl ?_
                    refine RE.opg (op_bin rfl rfl rfl rfl) rfl rfl (getb (bne_iff_ne.mpr h11) rfl) rfl rfl ?_
                    refine RE.opg (op_pick_true rfl (evb (bne_iff_ne.mpr h11) rfl) rfl) rfl rfl rfl rfl rfl ?_
                    refine RE.op (op_pick_false rfl rfl rfl) rfl rfl rfl ?_
                    simp only [Option.some.injEq] at H
                    subst H
                    exact RE.nil (weak_sel (env' := [(1, .int .i64 a1), (2, .int .i64 a2), (3, .int .i64 a3), (4, .int .i64 a4), (5, .int .i64 a5), (6, .int .i64 a6), (7, .ptr 0 0), (15, .bool t1.1), (91, .bool (t9.2 != 9))]) ⟨rfl, rfl, rfl, rfl, rfl, rfl, rfl, rfl, rfl, trivial⟩ rfl)
                  · rw [if_neg h11] at H
                    refine RE.skip rfl rfl (getb (bne_eq_false_iff_eq.mpr (Decidable.of_not_not h11)) rfl) rfl rfl rfl ?_
                    refine RE.skip rfl rfl (getb (bne_eq_false_iff_eq.mpr (Decidable.of_not_not h11)) rfl) rfl rfl rfl ?_
                    refine RE.opg (op_pick_false rfl (evb (bne_eq_false_iff_eq.mpr (Decidable.of_not_not h11)) rfl) rfl) rfl rfl rfl rfl rfl ?_
                    refine RE.op (op_pick_false rfl rfl rfl) rfl rfl rfl ?_
                    simp only [Option.some.injEq] at H
                    subst H
                    exact RE.nil (weak_sel (env' := [(1, .int .i64 a1), (2, .int .i64 a2), (3, .int .i64 a3), (4, .int .i64 a4), (5, .int .i64 a5), (6, .int .i64 a6), (7, .ptr 0 0), (15, .bool t1.1), (91, .bool false)]) ⟨rfl, rfl, rfl, rfl, rfl, rfl, rfl, rfl, rfl, trivial⟩ rfl)
            · rw [if_neg h6] at H
              refine RE.skip rfl rfl (getb (beq_eq_false_iff_ne.mpr h6) rfl) rfl rfl rfl ?_
              refine RE.skip rfl rfl (getb (beq_eq_false_iff_ne.mpr h6) rfl) rfl rfl rfl ?_
              refine RE.opg (op_pick_false rfl (evb (beq_eq_false_iff_ne.mpr h6) rfl) rfl) rfl rfl (getb (not_f (beq_iff_eq.mpr (Decidable.of_not_not h5))) rfl) rfl rfl ?_
              refine RE.opg (op_neb Try.underlying4 rfl rfl rfl) rfl rfl (getb (not_f (beq_iff_eq.mpr (Decidable.of_not_not h5))) rfl) rfl rfl ?_
              refine RE.op (op_pick_false rfl (evb (not_f (beq_iff_eq.mpr (Decidable.of_not_not h5))) rfl) rfl) rfl rfl rfl ?_
              refine RE.op (op_move rfl rfl) rfl rfl rfl ?_
              by_cases h12 : ¬ t1.1 = false
              · rw [if_pos h12] at H
                refine RE.skip rfl rfl (getb (not_t (beq_eq_false_iff_ne.mpr h12)) rfl) rfl rfl rfl ?_
                refine RE.skip rfl rfl (getb (not_t (beq_eq_false_iff_ne.mpr h12)) rfl) rfl rfl rfl ?_
                refine RE.skipu rfl rfl rfl rfl rfl ?_
                refine RE.skipu rfl rfl rfl rfl rfl ?_
                refine RE.skipu rfl rfl rfl rfl rfl ?_
                refine RE.skip rfl rfl (getb (not_t (beq_eq_false_iff_ne.mpr h12)) rfl) rfl rfl rfl ?_
                refine RE.op (op_pick_true rfl (evb (not_t (beq_eq_false_iff_ne.mpr h12)) rfl) rfl) rfl rfl rfl ?_
                refine RE.op (op_move rfl rfl) rfl rfl rfl ?_
                refine RE.skip rfl rfl rfl rfl rfl rfl ?_
                refine RE.skip rfl rfl rfl rfl rfl rfl ?_
                refine RE.skip rfl rfl rfl rfl rfl rfl ?_
                refine RE.skipu rfl rfl rfl rfl rfl ?_
                refine RE.skipu rfl rfl rfl rfl rfl ?_
                refine RE.skip rfl rfl rfl rfl rfl rfl ?_
                refine RE.op (op_pick_true rfl rfl rfl) rfl rfl rfl ?_
                simp only [Option.some.injEq] at H
                subst H
                exact RE.nil (weak_sel (env' := [(1, .int .i64 a1), (2, .int .i64 a2), (3, .int .i64 a3), (4, .int .i64 a4), (5, .int .i64 a5), (6, .int .i64 a6), (7, .ptr 0 0), (15, .bool t1.1), (91, .bool true)]) ⟨rfl, rfl, rfl, rfl, rfl, rfl, rfl, rfl, rfl, trivial⟩ rfl)
              · rw [if_neg h12] at H
                refine RE.opg (op_move rfl rfl) rfl rfl (getb (not_f (beq_iff_eq.mpr (Decidable.of_not_not h12))) rfl) rfl rfl ?_
                refine RE.opg (op_move rfl rfl) rfl rfl (getb (not_f (beq_iff_eq.mpr (Decidable.of_not_not h12))) rfl) rfl rfl ?_
                by_cases h13 : t1.1 = true
                · rw [if_pos h13] at H
                  refine RE.opg (op_move rfl rfl) rfl rfl (getb h13 rfl) rfl rfl ?_
                  refine RE.opg (op_move rfl rfl) rfl rfl (getb h13 rfl) rfl rfl ?_
                  refine RE.opg (op_bin rfl rfl rfl rfl) rfl rfl (getb h13 rfl) rfl rfl ?_
                  refine RE.opg (op_pick_true rfl (evb h13 rfl) rfl) rfl rfl (getb (not_f (beq_iff_eq.mpr (Decidable.of_not_not h12))) rfl) rfl rfl ?_
                  refine RE.op (op_pick_false rfl (evb (not_f (beq_iff_eq.mpr (Decidable.of_not_not h12))) rfl) rfl) rfl rfl rfl ?_
                  refine RE.op (op_move rfl rfl) rfl rfl rfl ?_
                  by_cases h14 : a3 < a1
                  · rw [if_pos h14] at H
                    refine RE.skip rfl rfl (getb (decide_eq_true h14) rfl) rfl rfl rfl ?_
                    refine RE.skip rfl rfl (getb (decide_eq_true h14) rfl) rfl rfl rfl ?_
                    refine RE.skip rfl rfl (getb (decide_eq_true h14) rfl) rfl rfl rfl ?_
                    refine RE.skipu rfl rfl rfl rfl rfl ?_
                    refine RE.skipu rfl rfl rfl rfl rfl ?_
                    refine RE.skip rfl rfl (getb (decide_eq_true h14) rfl) rfl rfl rfl ?_
                    refine RE.op (op_pick_true rfl (evb (decide_eq_true h14) rfl) rfl) rfl rfl rfl ?_
                    simp only [Option.some.injEq] at H
                    subst H
                    exact RE.nil (weak_sel (env' := [(1, .int .i64 a1), (2, .int .i64 a2), (3, .int .i64 a3), (4, .int .i64 a4), (5, .int .i64 a5), (6, .int .i64 a6), (7, .ptr 0 0), (15, .bool t1.1), (91, .bool true)]) ⟨rfl, rfl, rfl, rfl, rfl, rfl, rfl, rfl, rfl, trivial⟩ rfl)
                  · rw [if_neg h14] at H
                    refine RE.opg (op_move rfl rfl) rfl rfl (getb (decide_eq_false h14) rfl) rfl rfl ?_
                    refine RE.opg (op_bin rfl rfl rfl rfl) rfl rfl (getb (decide_eq_false h14) rfl) rfl rfl ?_
                    refine RE.opg (op_move rfl rfl) rfl rfl (getb (decide_eq_false h14) rfl) rfl rfl ?_
                    by_cases h15 : ¬ t9.2 = 0
                    · rw [if_pos h15] at H
                      refine RE.opg (op_move rfl rfl) rfl rfl (getb (bne_iff_ne.mpr h15) rfl) rfl rfl ?_
                      refine RE.opg (op_bin rfl rfl rfl rfl) rfl rfl (getb (bne_iff_ne.mpr h15) rfl) rfl rfl ?_
                      refine RE.opg (op_pick_true rfl (evb (bne_iff_ne.mpr h15) rfl) rfl) rfl rfl (getb (decide_eq_false h14) rfl) rfl rfl ?_
                      refine RE.op (op_pick_false rfl (evb (decide_eq_false h14) rfl) rfl) rfl rfl rfl ?_
                      simp only [Option.some.injEq] at H
                      subst H
                      exact RE.nil (weak_sel (env' := [(1, .int .i64 a1), (2, .int .i64 a2), (3, .int .i64 a3), (4, .int .i64 a4), (5, .int .i64 a5), (6, .int .i64 a6), (7, .ptr 0 0), (15, .bool t1.1), (91, .bool (t9.2 != 9))]) ⟨rfl, rfl, rfl, rfl, rfl, rfl, rfl, rfl, rfl, trivial⟩ rfl)
                    · rw [if_neg h15] at H
                      refine RE.skip rfl rfl (getb (bne_eq_false_iff_eq.mpr (Decidable.of_not_not h15)) rfl) rfl rfl rfl ?_
                      refine RE.skip rfl rfl (getb (bne_eq_false_iff_eq.mpr (Decidable.of_not_not h15)) rfl) rfl rfl rfl ?_
                      refine RE.opg (op_pick_false rfl (evb (bne_eq_false_iff_eq.mpr (Decidable.of_not_not h15)) rfl) rfl) rfl rfl (getb (decide_eq_false h14) rfl) rfl rfl ?_
                      refine RE.op (op_pick_false rfl (evb (decide_eq_false h14) rfl) rfl) rfl rfl rfl ?_
                      simp only [Option.some.injEq] at H
                      subst H
                      exact RE.nil (weak_sel (env' := [(1, .int .i64 a1), (2, .int .i64 a2), (3, .int .i64 a3), (4, .int .i64 a4), (5, .int .i64 a5), (6, .int .i64 a6), (7, .ptr 0 0), (15, .bool t1.1), (91, .bool false)]) ⟨rfl, rfl, rfl, rfl, rfl, rfl, rfl, rfl, rfl, trivial⟩ rfl)
                · rw [if_neg h13] at H
                  refine RE.skip rfl rfl (getb (Bool.eq_false_iff.mpr h13) rfl) rfl rfl rfl ?_
                  refine RE.skip rfl rfl (getb (Bool.eq_false_iff.mpr h13) rfl) rfl rfl rfl ?_
                  refine RE.skip rfl rfl (getb (Bool.eq_false_iff.mpr h13) rfl) rfl rfl rfl ?_
                  refine RE.opg (op_pick_false rfl (evb (Bool.eq_false_iff.mpr h13) rfl) rfl) rfl rfl (getb (not_f (beq_iff_eq.mpr (Decidable.of_not_not h12))) rfl) rfl rfl ?_
                  refine RE.op (op_pick_false rfl (evb (not_f (beq_iff_eq.mpr (Decidable.of_not_not h12))) rfl) rfl) rfl rfl rfl ?_
                  refine RE.op (op_move rfl rfl) rfl rfl rfl ?_
                  refine RE.opg (op_move rfl rfl) rfl rfl rfl rfl rfl ?_
                  refine RE.opg (op_bin rfl rfl rfl rfl) rfl rfl rfl rfl rfl ?_
                  refine RE.opg (op_move rfl rfl) rfl rfl rfl rfl rfl ?_
                  by_cases h16 : ¬ t9.2 = 0
                  · rw [if_pos h16] at H
                    refine RE.opg (op_move rfl rfl) rfl rfl (getb (bne_iff_ne.mpr h16) rfl) rfl rfl ?_
                    refine RE.opg (op_bin rfl rfl rfl rfl) rfl rfl (getb (bne_iff_ne.mpr h16) rfl) rfl rfl ?_
                    refine RE.opg (op_pick_true rfl (evb (bne_iff_ne.mpr h16) rfl) rfl) rfl rfl rfl rfl rfl ?_
                    refine RE.op (op_pick_false rfl rfl rfl) rfl rfl rfl ?_
                    simp only [Option.some.injEq] at H
                    subst H
                    exact RE.nil (weak_sel (env' := [(1, .int .i64 a1), (2, .int .i64 a2), (3, .int .i64 a3), (4, .int .i64 a4), (5, .int .i64 a5), (6, .int .i64 a6), (7, .ptr 0 0), (15, .bool t1.1), (91, .bool (t9.2 != 9))]) ⟨rfl, rfl, rfl, rfl, rfl, rfl, rfl, rfl, rfl, trivial⟩ rfl)
                  · rw [if_neg h16] at H
                    refine RE.skip rfl rfl (getb (bne_eq_false_iff_eq.mpr (Decidable.of_not_not h16)) rfl) rfl rfl rfl ?_
                    refine RE.skip rfl rfl (getb (bne_eq_false_iff_eq.mpr (Decidable.of_not_not h16)) rfl) rfl rfl rfl ?_
                    refine RE.opg (op_pick_false rfl (evb (bne_eq_false_iff_eq.mpr (Decidable.of_not_not h16)) rfl) rfl) rfl rfl rfl rfl rfl ?_
                    refine RE.op (op_pick_false rfl rfl rfl) rfl rfl rfl ?_
                    simp only [Option.some.injEq] at H
                    subst H
                    exact RE.nil (weak_sel (env' := [(1, .int .i64 a1), (2, .int .i64 a2), (3, .int .i64 a3), (4, .int .i64 a4), (5, .int .i64 a5), (6, .int .i64 a6), (7, .ptr 0 0), (15, .bool t1.1), (91, .bool false)]) ⟨rfl, rfl, rfl, rfl, rfl, rfl, rfl, rfl, rfl, trivial⟩ rfl)
      · clear hj12
        refine then_normal ?_
        by_cases h17 : x11 = true
        · rw [if_pos h17] at H
          refine T_yes rfl h17 ?_
          refine T_seq ?_
          refine T_reg ?_
          refine RE.op (op_assign rfl rfl) rfl rfl rfl ?_
          refine RE.nil ⟨⟨[(14, .bool false)], [.cells [.int .i64 a0.f_Fixed, .int .i64 a0.f_Benchmark]]⟩, weak_sel ⟨rfl, trivial⟩ rfl, ?_⟩
          refine then_normal ?_
          refine T_ret ?_
          simp only [Option.some.injEq] at H
          subst H
          refine then_ret ?_
          exact ret1 rfl rfl rfl
        · rw [if_neg h17] at H
          refine T_no rfl (Bool.eq_false_iff.mpr h17) ?_
          refine T_skip ?_
          refine then_normal ?_
          refine T_seq ?_
          refine T_seq ?_
          obtain ⟨x13, hj14, H⟩ := Option.bind_eq_some_iff.1 H
          refine T_reg_out ⟨[(4, .int .i64 a4), (5, .int .i64 a5), (6, .int .i64 a6), (7, .ptr 0 0), (15, .bool t1.1), (104, .bool x13)], [.cells [.int .i64 a0.f_Fixed, .int .i64 a0.f_Benchmark]]⟩ ?_ ?_
          · clear H
            have H := hj14
            clear hj14
            refine RE.op (op_move rfl rfl) rfl rfl rfl ?_
            refine RE.op (op_move rfl rfl) rfl rfl rfl ?_
            refine RE.op (op_bin rfl rfl rfl rfl) rfl rfl rfl ?_
            refine RE.op (op_move rfl rfl) rfl rfl rfl ?_
            by_cases h18 : a4 < a3
            · rw [if_pos h18] at H
              refine RE.skip rfl rfl (getb (decide_eq_true h18) rfl) rfl rfl rfl ?_
              refine RE.skip rfl rfl (getb (decide_eq_true h18) rfl) rfl rfl rfl ?_
              refine RE.skip rfl rfl (getb (decide_eq_true h18) rfl) rfl rfl rfl ?_
              refine RE.op (op_pick_true rfl (evb (decide_eq_true h18) rfl) rfl) rfl rfl rfl ?_
              refine RE.op (op_move rfl rfl) rfl rfl rfl ?_
              refine RE.skip rfl rfl rfl rfl rfl rfl ?_
              refine RE.skip rfl rfl rfl rfl rfl rfl ?_
              refine RE.skip rfl rfl rfl rfl rfl rfl ?_
              refine RE.op (op_pick_true rfl rfl rfl) rfl rfl rfl ?_
              simp only [Option.some.injEq] at H
              subst H
              exact RE.nil (weak_sel (env' := [(4, .int .i64 a4), (5, .int .i64 a5), (6, .int .i64 a6), (7, .ptr 0 0), (15, .bool t1.1), (104, .bool true)]) ⟨rfl, rfl, rfl, rfl, rfl, rfl, trivial⟩ rfl)
            · rw [if_neg h18] at H
              refine RE.opg (op_move rfl rfl) rfl rfl (getb (decide_eq_false h18) rfl) rfl rfl ?_
              refine RE.opg (op_move rfl rfl) rfl rfl (getb (decide_eq_false h18) rfl) rfl rfl ?_
              refine RE.opg (op_bin rfl rfl rfl rfl) rfl rfl (getb (decide_eq_false h18) rfl) rfl rfl ?_
              refine RE.op (op_pick_false rfl (evb (decide_eq_false h18) rfl) rfl) rfl rfl rfl ?_
              refine RE.op (op_move rfl rfl) rfl rfl rfl ?_
              by_cases h19 : a5 > a1
              · rw [if_pos h19] at H
                refine RE.skip rfl rfl (getb (decide_eq_true h19) rfl) rfl rfl rfl ?_
                refine RE.skip rfl rfl (getb (decide_eq_true h19) rfl) rfl rfl rfl ?_
                refine RE.skip rfl rfl (getb (decide_eq_true h19) rfl) rfl rfl rfl ?_
                refine RE.op (op_pick_true rfl (evb (decide_eq_true h19) rfl) rfl) rfl rfl rfl ?_
                simp only [Option.some.injEq] at H
                subst H
                exact RE.nil (weak_sel (env' := [(4, .int .i64 a4), (5, .int .i64 a5), (6, .int .i64 a6), (7, .ptr 0 0), (15, .bool t1.1), (104, .bool true)]) ⟨rfl, rfl, rfl, rfl, rfl, rfl, trivial⟩ rfl)
              · rw [if_neg h19] at H
                refine RE.opg (op_move rfl rfl) rfl rfl (getb (decide_eq_false h19) rfl) rfl rfl ?_
                refine RE.opg (op_move rfl rfl) rfl rfl (getb (decide_eq_false h19) rfl) rfl rfl ?_
                refine RE.opg (op_bin rfl rfl rfl rfl) rfl rfl (getb (decide_eq_false h19) rfl) rfl rfl ?_
                refine RE.op (op_pick_false rfl (evb (decide_eq_false h19) rfl) rfl) rfl rfl rfl ?_
                simp only [Option.some.injEq] at H
                subst H
                exact RE.nil (weak_sel (env' := [(4, .int .i64 a4), (5, .int .i64 a5), (6, .int .i64 a6), (7, .ptr 0 0), (15, .bool t1.1), (104, .bool (decide (a6 > a2)))]) ⟨rfl, rfl, rfl, rfl, rfl, rfl, trivial⟩ rfl)
          · clear hj14
            refine then_normal ?_
            by_cases h20 : x13 = true
            · rw [if_pos h20] at H
              refine T_yes rfl h20 ?_
              refine T_seq ?_
              refine T_reg ?_
              obtain ⟨t15, ht16, H⟩ := Option.bind_eq_some_iff.1 H
              refine RE.op (op_call (f := 11) rfl rfl rfl rfl en11 bandplanlaw37_known.ok ⟨_, _, rfl, ht16, rfl⟩) rfl rfl rfl ?_
              refine RE.op (op_assign rfl rfl) rfl rfl rfl ?_
              refine RE.nil ⟨⟨[(14, .bool t15)], [.cells [.int .i64 a0.f_Fixed, .int .i64 a0.f_Benchmark]]⟩, weak_sel ⟨rfl, trivial⟩ rfl, ?_⟩
              refine then_normal ?_
              refine T_ret ?_
              simp only [Option.some.injEq] at H
              subst H
              refine then_ret ?_
              exact ret1 rfl rfl rfl
            · rw [if_neg h20] at H
              refine T_no rfl (Bool.eq_false_iff.mpr h20) ?_
              refine T_skip ?_
              refine then_normal ?_
              refine T_seq ?_
              refine T_reg ?_
              refine RE.op (op_load_agg (ds := [.int .i64 a0.f_Fixed, .int .i64 a0.f_Benchmark]) ti23 rfl rfl rfl rfl (Nat.le_of_ble_eq_true rfl) rfl) rfl rfl rfl ?_
              refine RE.op (op_move rfl rfl) rfl rfl rfl ?_
              refine RE.op (op_move rfl rfl) rfl rfl rfl ?_
              refine RE.op (op_move rfl rfl) rfl rfl rfl ?_
              obtain ⟨t17, ht18, H⟩ := Option.bind_eq_some_iff.1 H
              refine RE.op (op_call (f := 14) rfl rfl rfl rfl en14 closing_Met.ok ⟨_, _, _, _, _, rfl, ht18, rfl⟩) rfl rfl rfl ?_
              refine RE.op (op_move rfl rfl) rfl rfl rfl ?_
              refine RE.op (op_extract rfl rfl rfl) rfl rfl rfl ?_
              refine RE.op (op_extract rfl rfl rfl) rfl rfl rfl ?_
              refine RE.op (op_assign rfl rfl) rfl rfl rfl ?_
              refine RE.op (op_assign rfl rfl) rfl rfl rfl ?_
              refine RE.nil ⟨⟨[(15, .bool t1.1), (21, .bool t17.1), (22, .int .i64 t17.2)], [.cells [.int .i64 a0.f_Fixed, .int .i64 a0.f_Benchmark]]⟩, weak_sel ⟨rfl, rfl, rfl, trivial⟩ rfl, ?_⟩
              refine then_normal ?_
              refine T_seq ?_
              obtain ⟨x19, hj26, H⟩ := Option.bind_eq_some_iff.1 H
              refine T_reg_out ⟨[(14, .bool x19)], [.cells [.int .i64 a0.f_Fixed, .int .i64 a0.f_Benchmark]]⟩ ?_ ?_
              · clear H
                have H := hj26
                clear hj26
                refine RE.op (op_move rfl rfl) rfl rfl rfl ?_
                refine RE.op (op_bin rfl rfl rfl rfl) rfl rfl rfl ?_
                refine RE.op (op_move rfl rfl) rfl rfl rfl ?_
                by_cases h21 : ¬ t17.2 = 0
                · rw [if_pos h21] at H
                  refine RE.skip rfl rfl (getb (bne_iff_ne.mpr h21) rfl) rfl rfl rfl ?_
                  refine RE.op (op_pick_true rfl (evb (bne_iff_ne.mpr h21) rfl) rfl) rfl rfl rfl ?_
                  refine RE.op (op_move rfl rfl) rfl rfl rfl ?_
                  refine RE.skip rfl rfl rfl rfl rfl rfl ?_
                  refine RE.skip rfl rfl rfl rfl rfl rfl ?_
                  refine RE.op (op_pick_true rfl rfl rfl) rfl rfl rfl ?_
                  refine RE.op (op_move rfl rfl) rfl rfl rfl ?_
                  obtain ⟨t20, ht21, H⟩ := Option.bind_eq_some_iff.1 H
                  refine RE.opg (op_call (f := 11) rfl rfl rfl rfl en11 bandplanlaw37_known.ok ⟨_, _, rfl, ht21, rfl⟩) rfl rfl rfl rfl rfl ?_
                  refine RE.op (op_pick_true rfl rfl rfl) rfl rfl rfl ?_
                  refine RE.op (op_assign rfl rfl) rfl rfl rfl ?_
                  simp only [Option.some.injEq] at H
                  subst H
                  exact RE.nil (weak_sel (env' := [(14, .bool t20)]) ⟨rfl, trivial⟩ rfl)
                · rw [if_neg h21] at H
                  refine RE.opg (op_move rfl rfl) rfl rfl (getb (bne_eq_false_iff_eq.mpr (Decidable.of_not_not h21)) rfl) rfl rfl ?_
                  refine RE.op (op_pick_false rfl (evb (bne_eq_false_iff_eq.mpr (Decidable.of_not_not h21)) rfl) rfl) rfl rfl rfl ?_
                  refine RE.op (op_move rfl rfl) rfl rfl rfl ?_
                  by_cases h22 : t17.1 = true
                  · rw [if_pos h22] at H
                    refine RE.skip rfl rfl (getb h22 rfl) rfl rfl rfl ?_
                    refine RE.skip rfl rfl (getb h22 rfl) rfl rfl rfl ?_
                    refine RE.op (op_pick_true rfl (evb h22 rfl) rfl) rfl rfl rfl ?_
                    refine RE.op (op_move rfl rfl) rfl rfl rfl ?_
                    obtain ⟨t22, ht23, H⟩ := Option.bind_eq_some_iff.1 H
                    refine RE.opg (op_call (f := 11) rfl rfl rfl rfl en11 bandplanlaw37_known.ok ⟨_, _, rfl, ht23, rfl⟩) rfl rfl rfl rfl rfl ?_
                    refine RE.op (op_pick_true rfl rfl rfl) rfl rfl rfl ?_
                    refine RE.op (op_assign rfl rfl) rfl rfl rfl ?_
                    simp only [Option.some.injEq] at H
                    subst H
                    exact RE.nil (weak_sel (env' := [(14, .bool t22)]) ⟨rfl, trivial⟩ rfl)
                  · rw [if_neg h22] at H
                    refine RE.opg (op_move rfl rfl) rfl rfl (getb (Bool.eq_false_iff.mpr h22) rfl) rfl rfl ?_
                    refine RE.opg (op_not rfl rfl) rfl rfl (getb (Bool.eq_false_iff.mpr h22) rfl) rfl rfl ?_
                    refine RE.op (op_pick_false rfl (evb (Bool.eq_false_iff.mpr h22) rfl) rfl) rfl rfl rfl ?_
                    refine RE.op (op_move rfl rfl) rfl rfl rfl ?_
                    by_cases h23 : ¬ (t1.1 = true)
                    · rw [if_pos h23] at H
                      obtain ⟨t24, ht25, H⟩ := Option.bind_eq_some_iff.1 H
                      refine RE.opg (op_call (f := 11) rfl rfl rfl rfl en11 bandplanlaw37_known.ok ⟨_, _, rfl, ht25, rfl⟩) rfl rfl (getb (not_t (Bool.eq_false_iff.mpr h23)) rfl) rfl rfl ?_
                      refine RE.op (op_pick_true rfl (evb (not_t (Bool.eq_false_iff.mpr h23)) rfl) rfl) rfl rfl rfl ?_
                      refine RE.op (op_assign rfl rfl) rfl rfl rfl ?_
                      simp only [Option.some.injEq] at H
                      subst H
                      exact RE.nil (weak_sel (env' := [(14, .bool t24)]) ⟨rfl, trivial⟩ rfl)
                    · rw [if_neg h23] at H
                      refine RE.skip rfl rfl (getb (not_f (Decidable.of_not_not h23)) rfl) rfl rfl rfl ?_
                      refine RE.op (op_pick_false rfl (evb (not_f (Decidable.of_not_not h23)) rfl) rfl) rfl rfl rfl ?_
                      refine RE.op (op_assign rfl rfl) rfl rfl rfl ?_
                      simp only [Option.some.injEq] at H
                      subst H
                      exact RE.nil (weak_sel (env' := [(14, .bool false)]) ⟨rfl, trivial⟩ rfl)
              · clear hj26
                refine then_normal ?_
                refine T_ret ?_
                simp only [Option.some.injEq] at H
                subst H
                exact ret1 rfl rfl rfl

/-! ### 3 bandplan/bandplanlaw37.ClosingNeeded -/
def bandplanlaw37_ClosingNeeded.f (k : Nat) (a0 : S_api_Terms) (a1 : Int) (a2 : Int) : Option (Bool) := (closing_Needed.f a0 a1 a2).bind fun t1 => (bandplanref37_Needed.f a0 a1 a2).bind fun t3 => ((closing_ValidTerms.f a0).bind fun t6 => (bandplanref37_Terms.f a0).bind fun t8 => (if t6 = t8 then (if t1.1 = t3.1 then (if t1.2 = t3.2 then (bandplanlaw37_known.f k ).bind fun t10 => some t10 else some false) else some false) else some false)).bind fun x5 => some x5
def bandplanlaw37_ClosingNeeded.S (args : List AV) (v : AV) : Prop := ∃ (k : Nat) (a0 : S_api_Terms) (a1 : Int) (a2 : Int) (r : Bool), args = [S_api_Terms.enc a0, .int .i64 a1, .int .i64 a2] ∧ bandplanlaw37_ClosingNeeded.f k a0 a1 a2 = some r ∧ v = .bool r
theorem bandplanlaw37_ClosingNeeded.ok : VOk Try.prog 3 bandplanlaw37_ClosingNeeded.S := by
  refine V_ok Try.func3 rfl fun args v hS => ⟨?_, ?_⟩
  · obtain ⟨k, a0, a1, a2, r, rfl, H, rfl⟩ := hS
    exact Nat.le_of_ble_eq_true rfl
  · obtain ⟨k, a0, a1, a2, r, rfl, H, rfl⟩ := hS
    unfold bandplanlaw37_ClosingNeeded.f at H
    refine T_seq ?_
    refine T_reg ?_
    refine RE.op (op_box (k := 0) rfl rfl rfl rfl) rfl rfl rfl ?_
    refine RE.op (op_assign rfl rfl) rfl rfl rfl ?_
    refine RE.nil ⟨⟨[(1, .int .i64 a1), (2, .int .i64 a2), (3, .ptr 0 0)], [.cells [.int .i64 a0.f_Fixed, .int .i64 a0.f_Benchmark]]⟩, weak_sel ⟨rfl, rfl, rfl, trivial⟩ rfl, ?_⟩
    refine then_normal ?_
    refine T_seq ?_
    refine T_reg ?_
    refine RE.op (op_load_agg (ds := [.int .i64 a0.f_Fixed, .int .i64 a0.f_Benchmark]) ti23 rfl rfl rfl rfl (Nat.le_of_ble_eq_true rfl) rfl) rfl rfl rfl ?_
    refine RE.op (op_move rfl rfl) rfl rfl rfl ?_
    refine RE.op (op_move rfl rfl) rfl rfl rfl ?_
    obtain ⟨t1, ht2, H⟩ := Option.bind_eq_some_iff.1 H
    refine RE.op (op_call (f := 7) rfl rfl rfl rfl en7 closing_Needed.ok ⟨_, _, _, _, rfl, ht2, rfl⟩) rfl rfl rfl ?_
    refine RE.op (op_move rfl rfl) rfl rfl rfl ?_
    refine RE.op (op_extract rfl rfl rfl) rfl rfl rfl ?_
    refine RE.op (op_extract rfl rfl rfl) rfl rfl rfl ?_
    refine RE.op (op_assign rfl rfl) rfl rfl rfl ?_
    refine RE.op (op_assign rfl rfl) rfl rfl rfl ?_
    refine RE.nil ⟨⟨[(1, .int .i64 a1), (2, .int .i64 a2), (3, .ptr 0 0), (7, .int .i64 t1.1), (8, .int .i64 t1.2)], [.cells [.int .i64 a0.f_Fixed, .int .i64 a0.f_Benchmark]]⟩, weak_sel ⟨rfl, rfl, rfl, rfl, rfl, trivial⟩ rfl, ?_⟩
    refine then_normal ?_
    refine T_seq ?_
    refine T_reg ?_
    refine RE.op (op_load_agg (ds := [.int .i64 a0.f_Fixed, .int .i64 a0.f_Benchmark]) ti23 rfl rfl rfl rfl (Nat.le_of_ble_eq_true rfl) rfl) rfl rfl rfl ?_
    refine RE.op (op_move rfl rfl) rfl rfl rfl ?_
    refine RE.op (op_move rfl rfl) rfl rfl rfl ?_
    obtain ⟨t3, ht4, H⟩ := Option.bind_eq_some_iff.1 H
    refine RE.op (op_call (f := 8) rfl rfl rfl rfl en8 bandplanref37_Needed.ok ⟨_, _, _, _, rfl, ht4, rfl⟩) rfl rfl rfl ?_
    refine RE.op (op_move rfl rfl) rfl rfl rfl ?_
    refine RE.op (op_extract rfl rfl rfl) rfl rfl rfl ?_
    refine RE.op (op_extract rfl rfl rfl) rfl rfl rfl ?_
    refine RE.op (op_assign rfl rfl) rfl rfl rfl ?_
    refine RE.op (op_assign rfl rfl) rfl rfl rfl ?_
    refine RE.nil ⟨⟨[(3, .ptr 0 0), (7, .int .i64 t1.1), (8, .int .i64 t1.2), (9, .int .i64 t3.1), (10, .int .i64 t3.2)], [.cells [.int .i64 a0.f_Fixed, .int .i64 a0.f_Benchmark]]⟩, weak_sel ⟨rfl, rfl, rfl, rfl, rfl, trivial⟩ rfl, ?_⟩
    refine then_normal ?_
    refine T_seq ?_
    obtain ⟨x5, hj12, H⟩ := Option.bind_eq_some_iff.1 H
    refine T_drawn_out mix [0, 1, 0, 7, 15, 31, 63, 63, 255, 511, 1023, 2047, 2047, 8191, 16383, 32767, 65535, 131071, 262143] (by kernel_rfl) ⟨[(6, .bool x5)], [.cells [.int .i64 a0.f_Fixed, .int .i64 a0.f_Benchmark]]⟩ ?_ ?_
    · clear H
      have H := hj12
      clear hj12
      refine RD.l (i := 0) [(3, .ptr 0 0)] (by repeat (first | exact trivial | refine ⟨rfl, ?_⟩)) rfl (fun _ hb => (op_load_agg (ds := [.int .i64 a0.f_Fixed, .int .i64 a0.f_Benchmark]) ti23 rfl rfl rfl hb (Nat.le_of_ble_eq_true rfl) rfl)) rfl rfl rfl ?_
      obtain ⟨t6, ht7, H⟩ := Option.bind_eq_some_iff.1 H
      refine RD.q [(25, .agg [.int .i64 a0.f_Fixed, .int .i64 a0.f_Benchmark])] (by repeat (first | exact trivial | refine ⟨rfl, ?_⟩)) (fun _ => (op_call (f := 9) rfl rfl rfl rfl en9 closing_ValidTerms.ok ⟨_, _, rfl, ht7, rfl⟩)) rfl rfl rfl ?_
      refine RD.l (i := 0) [(3, .ptr 0 0)] (by repeat (first | exact trivial | refine ⟨rfl, ?_⟩)) rfl (fun _ hb => (op_load_agg (ds := [.int .i64 a0.f_Fixed, .int .i64 a0.f_Benchmark]) ti23 rfl rfl rfl hb (Nat.le_of_ble_eq_true rfl) rfl)) rfl rfl rfl ?_
      obtain ⟨t8, ht9, H⟩ := Option.bind_eq_some_iff.1 H
      refine RD.q [(27, .agg [.int .i64 a0.f_Fixed, .int .i64 a0.f_Benchmark])] (by repeat (first | exact trivial | refine ⟨rfl, ?_⟩)) (fun _ => (op_call (f := 10) rfl rfl rfl rfl en10 bandplanref37_Terms.ok ⟨_, _, rfl, ht9, rfl⟩)) rfl rfl rfl ?_
      refine RD.q [(26, .bool t6), (28, .bool t8)] (by repeat (first | exact trivial | refine ⟨rfl, ?_⟩)) (fun _ => (op_eqb Try.underlying4 rfl rfl rfl)) rfl rfl rfl ?_
      refine RD.q [(29, .bool (t6 == t8))] (by repeat (first | exact trivial | refine ⟨rfl, ?_⟩)) (fun _ => (op_move rfl rfl)) rfl rfl rfl ?_
      by_cases h1 : t6 = t8
      · rw [if_pos h1] at H
        refine RD.qg [(7, .int .i64 t1.1)] (by repeat (first | exact trivial | refine ⟨rfl, ?_⟩)) (fun _ => (op_move rfl rfl)) rfl rfl (getb (beq_iff_eq.mpr h1) rfl) rfl rfl ?_
        refine RD.qg [(9, .int .i64 t3.1)] (by repeat (first | exact trivial | refine ⟨rfl, ?_⟩)) (fun _ => (op_move rfl rfl)) rfl rfl (getb (beq_iff_eq.mpr h1) rfl) rfl rfl ?_
        refine RD.qg [(31, .int .i64 t1.1), (32, .int .i64 t3.1)] (by repeat (first | exact trivial | refine ⟨rfl, ?_⟩)) (fun _ => (op_bin rfl rfl rfl rfl)) rfl rfl (getb (beq_iff_eq.mpr h1) rfl) rfl rfl ?_
        refine RD.q [(30, .bool (t6 == t8)), (33, .bool (t1.1 == t3.1))] (by repeat (first | exact trivial | refine ⟨rfl, ?_⟩)) (fun _ => (op_pick_true rfl (evb (beq_iff_eq.mpr h1) rfl) rfl)) rfl rfl rfl ?_
        refine RD.q [(34, .bool (t1.1 == t3.1))] (by repeat (first | exact trivial | refine ⟨rfl, ?_⟩)) (fun _ => (op_move rfl rfl)) rfl rfl rfl ?_
        by_cases h2 : t1.1 = t3.1
        · rw [if_pos h2] at H
          refine RD.qg [(8, .int .i64 t1.2)] (by repeat (first | exact trivial | refine ⟨rfl, ?_⟩)) (fun _ => (op_move rfl rfl)) rfl rfl (getb (beq_iff_eq.mpr h2) rfl) rfl rfl ?_
          refine RD.qg [(10, .int .i64 t3.2)] (by repeat (first | exact trivial | refine ⟨rfl, ?_⟩)) (fun _ => (op_move rfl rfl)) rfl rfl (getb (beq_iff_eq.mpr h2) rfl) rfl rfl ?_
          refine RD.qg [(36, .int .i64 t1.2), (37, .int .i64 t3.2)] (by repeat (first | exact trivial | refine ⟨rfl, ?_⟩)) (fun _ => (op_bin rfl rfl rfl rfl)) rfl rfl (getb (beq_iff_eq.mpr h2) rfl) rfl rfl ?_
          refine RD.q [(35, .bool (t1.1 == t3.1)), (38, .bool (t1.2 == t3.2))] (by repeat (first | exact trivial | refine ⟨rfl, ?_⟩)) (fun _ => (op_pick_true rfl (evb (beq_iff_eq.mpr h2) rfl) rfl)) rfl rfl rfl ?_
          refine RD.q [(39, .bool (t1.2 == t3.2))] (by repeat (first | exact trivial | refine ⟨rfl, ?_⟩)) (fun _ => (op_move rfl rfl)) rfl rfl rfl ?_
          by_cases h3 : t1.2 = t3.2
          · rw [if_pos h3] at H
            obtain ⟨t10, ht11, H⟩ := Option.bind_eq_some_iff.1 H
            refine RD.qg [] (by repeat (first | exact trivial | refine ⟨rfl, ?_⟩)) (fun _ => (op_call (f := 11) rfl rfl rfl rfl en11 bandplanlaw37_known.ok ⟨_, _, rfl, ht11, rfl⟩)) rfl rfl (getb (beq_iff_eq.mpr h3) rfl) rfl rfl ?_
            refine RD.q [(40, .bool (t1.2 == t3.2)), (41, .bool t10)] (by repeat (first | exact trivial | refine ⟨rfl, ?_⟩)) (fun _ => (op_pick_true rfl (evb (beq_iff_eq.mpr h3) rfl) rfl)) rfl rfl rfl ?_
            refine RD.q [(42, .bool t10)] (by repeat (first | exact trivial | refine ⟨rfl, ?_⟩)) (fun _ => (op_assign rfl rfl)) rfl rfl rfl ?_
            simp only [Option.some.injEq] at H
            subst H
            exact RD.nil (by kernel_rfl) (weak_sel (env' := [(6, .bool t10)]) ⟨rfl, trivial⟩ rfl)
          · rw [if_neg h3] at H
            refine RD.skip rfl rfl (getb (beq_eq_false_iff_ne.mpr h3) rfl) rfl rfl rfl ?_
            refine RD.q [(40, .bool (t1.2 == t3.2)), (41, .tup [])] (by repeat (first | exact trivial | refine ⟨rfl, ?_⟩)) (fun _ => (op_pick_false rfl (evb (beq_eq_false_iff_ne.mpr h3) rfl) rfl)) rfl rfl rfl ?_
            refine RD.q [(42, .bool false)] (by repeat (first | exact trivial | refine ⟨rfl, ?_⟩)) (fun _ => (op_assign rfl rfl)) rfl rfl rfl ?_
            simp only [Option.some.injEq] at H
            subst H
            exact RD.nil (by kernel_rfl) (weak_sel (env' := [(6, .bool false)]) ⟨rfl, trivial⟩ rfl)
        · rw [if_neg h2] at H
          refine RD.skip rfl rfl (getb (beq_eq_false_iff_ne.mpr h2) rfl) rfl rfl rfl ?_
          refine RD.skip rfl rfl (getb (beq_eq_false_iff_ne.mpr h2) rfl) rfl rfl rfl ?_
          refine RD.skip rfl rfl (getb (beq_eq_false_iff_ne.mpr h2) rfl) rfl rfl rfl ?_
          refine RD.q [(35, .bool (t1.1 == t3.1)), (38, .tup [])] (by repeat (first | exact trivial | refine ⟨rfl, ?_⟩)) (fun _ => (op_pick_false rfl (evb (beq_eq_false_iff_ne.mpr h2) rfl) rfl)) rfl rfl rfl ?_
          refine RD.q [(39, .bool false)] (by repeat (first | exact trivial | refine ⟨rfl, ?_⟩)) (fun _ => (op_move rfl rfl)) rfl rfl rfl ?_
          refine RD.skip rfl rfl rfl rfl rfl rfl ?_
          refine RD.q [(40, .bool false), (41, .tup [])] (by repeat (first | exact trivial | refine ⟨rfl, ?_⟩)) (fun _ => (op_pick_false rfl rfl rfl)) rfl rfl rfl ?_
          refine RD.q [(42, .bool false)] (by repeat (first | exact trivial | refine ⟨rfl, ?_⟩)) (fun _ => (op_assign rfl rfl)) rfl rfl rfl ?_
          simp only [Option.some.injEq] at H
          subst H
          exact RD.nil (by kernel_rfl) (weak_sel (env' := [(6, .bool false)]) ⟨rfl, trivial⟩ rfl)
      · rw [if_neg h1] at H
        refine RD.skip rfl rfl (getb (beq_eq_false_iff_ne.mpr h1) rfl) rfl rfl rfl ?_
        refine RD.skip rfl rfl (getb (beq_eq_false_iff_ne.mpr h1) rfl) rfl rfl rfl ?_
        refine RD.skip rfl rfl (getb (beq_eq_false_iff_ne.mpr h1) rfl) rfl rfl rfl ?_
        refine RD.q [(30, .bool (t6 == t8)), (33, .tup [])] (by repeat (first | exact trivial | refine ⟨rfl, ?_⟩)) (fun _ => (op_pick_false rfl (evb (beq_eq_false_iff_ne.mpr h1) rfl) rfl)) rfl rfl rfl ?_
        refine RD.q [(34, .bool false)] (by repeat (first | exact trivial | refine ⟨rfl, ?_⟩)) (fun _ => (op_move rfl rfl)) rfl rfl rfl ?_
        refine RD.skip rfl rfl rfl rfl rfl rfl ?_
        refine RD.skip rfl rfl rfl rfl rfl rfl ?_
        refine RD.skip rfl rfl rfl rfl rfl rfl ?_
        refine RD.q [(35, .bool false), (38, .tup [])] (by repeat (first | exact trivial | refine ⟨rfl, ?_⟩)) (fun _ => (op_pick_false rfl rfl rfl)) rfl rfl rfl ?_
        refine RD.q [(39, .bool false)] (by repeat (first | exact trivial | refine ⟨rfl, ?_⟩)) (fun _ => (op_move rfl rfl)) rfl rfl rfl ?_
        refine RD.skip rfl rfl rfl rfl rfl rfl ?_
        refine RD.q [(40, .bool false), (41, .tup [])] (by repeat (first | exact trivial | refine ⟨rfl, ?_⟩)) (fun _ => (op_pick_false rfl rfl rfl)) rfl rfl rfl ?_
        refine RD.q [(42, .bool false)] (by repeat (first | exact trivial | refine ⟨rfl, ?_⟩)) (fun _ => (op_assign rfl rfl)) rfl rfl rfl ?_
        simp only [Option.some.injEq] at H
        subst H
        exact RD.nil (by kernel_rfl) (weak_sel (env' := [(6, .bool false)]) ⟨rfl, trivial⟩ rfl)
    · clear hj12
      refine then_normal ?_
      refine T_ret ?_
      simp only [Option.some.injEq] at H
      subst H
      exact ret1 rfl rfl rfl
end Go.Proofs.Ytgobepjodkggoaa.Fn
