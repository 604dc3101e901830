/- What the functions compute, and that they do: part 1. -/
import Derived.Test.YtgobepjodkggoaaDoorTi
import Derived.Test.YtgobepjodkggoaaDoorDt
namespace Go.Proofs.YtgobepjodkggoaaDoor.Fn
open Go Go.Proofs Go.Proofs.YtgobepjodkggoaaDoor.Ai Go.Proofs.YtgobepjodkggoaaDoor.Dt Go.Proofs.YtgobepjodkggoaaDoor.Ti
set_option linter.unusedVariables false
set_option maxRecDepth 100000

/-! ### 65 bandplan/band.spans -/
def band_spans.f : Option (A4_A2_Int) := some (⟨(⟨0, 0⟩ : A2_Int), (⟨2, 6⟩ : A2_Int), (⟨7, 13⟩ : A2_Int), (⟨14, 51⟩ : A2_Int)⟩ : A4_A2_Int)
def band_spans.S (args : List AV) (v : AV) : Prop := ∃ (r : A4_A2_Int), args = [] ∧ band_spans.f  = some r ∧ v = A4_A2_Int.enc r
theorem band_spans.ok : VOk Tryd.prog 65 band_spans.S := by
  refine V_ok Tryd.func65 rfl fun args v hS => ⟨?_, ?_⟩
  · obtain ⟨r, rfl, H, rfl⟩ := hS
    exact Nat.le_of_ble_eq_true rfl
  · obtain ⟨r, rfl, H, rfl⟩ := hS
    unfold band_spans.f at H
    refine T_seq ?_
    refine T_reg ?_
    refine RE.op (op_alloc (k := 0) ti86 rfl rfl rfl rfl) rfl rfl rfl ?_
    refine RE.nil ⟨⟨[(0, .ptr 0 0)], [.cells [.int .i64 0, .int .i64 0, .int .i64 0, .int .i64 0, .int .i64 0, .int .i64 0, .int .i64 0, .int .i64 0]]⟩, weak_sel ⟨rfl, trivial⟩ rfl, ?_⟩
    refine then_normal ?_
    refine T_seq ?_
    refine T_reg ?_
    refine RE.op (op_build_a (cs := [.int .i64 2, .int .i64 6]) ti85 ti3 rfl rfl rfl rfl) rfl rfl rfl ?_
    refine RE.op (op_build_a (cs := [.int .i64 7, .int .i64 13]) ti85 ti3 rfl rfl rfl rfl) rfl rfl rfl ?_
    refine RE.op (op_build_a (cs := [.int .i64 14, .int .i64 51]) ti85 ti3 rfl rfl rfl rfl) rfl rfl rfl ?_
    refine RE.op (op_build_a (cs := [.int .i64 0, .int .i64 0, .int .i64 2, .int .i64 6, .int .i64 7, .int .i64 13, .int .i64 14, .int .i64 51]) ti86 ti85 rfl rfl rfl rfl) rfl rfl rfl ?_
    refine RE.op0 (op_store (cs' := [.int .i64 0, .int .i64 0, .int .i64 2, .int .i64 6, .int .i64 7, .int .i64 13, .int .i64 14, .int .i64 51]) ti86 rfl rfl rfl rfl rfl rfl (Nat.le_of_ble_eq_true rfl) rfl) rfl rfl ?_
    refine RE.nil ⟨⟨[(0, .ptr 0 0)], [.cells [.int .i64 0, .int .i64 0, .int .i64 2, .int .i64 6, .int .i64 7, .int .i64 13, .int .i64 14, .int .i64 51]]⟩, weak_sel ⟨rfl, trivial⟩ rfl, ?_⟩
    refine then_normal ?_
    refine T_ret ?_
    simp only [Option.some.injEq] at H
    subst H
    exact ret1c ti86 rfl rfl rfl rfl (Nat.le_of_ble_eq_true rfl) rfl rfl

/-! ### 54 bandplan/band.Of -/
def band_Of.f (a0 : Int) : Option (Int × Int) := (band_spans.f ).bind fun t1 => ((if t1.f_e1.f_e0 ≤ a0 then some (decide (a0 ≤ t1.f_e1.f_e1)) else some false)).bind fun x3 => (if x3 = true then some (1, 0) else ((if t1.f_e2.f_e0 ≤ a0 then some (decide (a0 ≤ t1.f_e2.f_e1)) else some false)).bind fun x5 => (if x5 = true then some (2, 0) else ((if t1.f_e3.f_e0 ≤ a0 then some (decide (a0 ≤ t1.f_e3.f_e1)) else some false)).bind fun x7 => (if x7 = true then some (3, 0) else some (0, 2))))
def band_Of.S (args : List AV) (v : AV) : Prop := ∃ (a0 : Int) (r : Int × Int), args = [.int .i64 a0] ∧ band_Of.f a0 = some r ∧ v = .tup [.int .i64 r.1, .int .i64 r.2]
theorem band_Of.ok : VOk Tryd.prog 54 band_Of.S := by
  refine V_ok Tryd.func54 rfl fun args v hS => ⟨?_, ?_⟩
  · obtain ⟨a0, r, rfl, H, rfl⟩ := hS
    exact Nat.le_of_ble_eq_true rfl
  · obtain ⟨a0, r, rfl, H, rfl⟩ := hS
    unfold band_Of.f at H
    refine T_seq ?_
    refine T_reg ?_
    refine RE.op (op_assign rfl rfl) rfl rfl rfl ?_
    refine RE.op (op_assign rfl rfl) rfl rfl rfl ?_
    refine RE.nil ⟨⟨[(0, .int .i64 a0)], []⟩, weak_sel ⟨rfl, trivial⟩ rfl, ?_⟩
    refine then_normal ?_
    refine T_seq ?_
    refine T_seq ?_
    refine T_reg ?_
    obtain ⟨t1, ht2, H⟩ := Option.bind_eq_some_iff.1 H
    refine RE.op (op_call (f := 65) rfl rfl rfl rfl en65 band_spans.ok ⟨_, rfl, ht2, rfl⟩) rfl rfl rfl ?_
    refine RE.op (op_move rfl rfl) rfl rfl rfl ?_
    refine RE.nil ⟨⟨[(0, .int .i64 a0), (6, .agg [.int .i64 t1.f_e0.f_e0, .int .i64 t1.f_e0.f_e1, .int .i64 t1.f_e1.f_e0, .int .i64 t1.f_e1.f_e1, .int .i64 t1.f_e2.f_e0, .int .i64 t1.f_e2.f_e1, .int .i64 t1.f_e3.f_e0, .int .i64 t1.f_e3.f_e1]), (7, .int .i64 0)], []⟩, weak_sel ⟨rfl, rfl, rfl, trivial⟩ rfl, ?_⟩
    refine then_normal ?_
    refine T_block ?_
    refine T_head (loop_round ?_)
    refine T_seq ?_
    refine T_reg ?_
    refine RE.op (op_bin rfl rfl rfl rfl) rfl rfl rfl ?_
    refine RE.nil ⟨⟨[(0, .int .i64 a0), (6, .agg [.int .i64 t1.f_e0.f_e0, .int .i64 t1.f_e0.f_e1, .int .i64 t1.f_e1.f_e0, .int .i64 t1.f_e1.f_e1, .int .i64 t1.f_e2.f_e0, .int .i64 t1.f_e2.f_e1, .int .i64 t1.f_e3.f_e0, .int .i64 t1.f_e3.f_e1]), (7, .int .i64 0), (8, .bool true)], []⟩, weak_sel ⟨rfl, rfl, rfl, rfl, trivial⟩ rfl, ?_⟩
    refine then_normal ?_
    refine T_seq ?_
    refine T_yes rfl rfl ?_
    refine T_skip ?_
    refine then_normal ?_
    refine T_seq ?_
    refine T_block ?_
    refine T_seq ?_
    refine T_reg ?_
    refine RE.op (op_move rfl rfl) rfl rfl rfl ?_
    refine RE.op (op_index_agg (m := 0) (ds := [.int .i64 t1.f_e0.f_e0, .int .i64 t1.f_e0.f_e1]) Tryd.underlying86 ti85 rfl rfl rfl rfl rfl rfl (Nat.le_of_ble_eq_true rfl) rfl) rfl rfl rfl ?_
    refine RE.op (op_alloc (k := 0) ti85 rfl rfl rfl rfl) rfl rfl rfl ?_
    refine RE.op (op_assign rfl rfl) rfl rfl rfl ?_
    refine RE.op0 (op_store (cs' := [.int .i64 t1.f_e0.f_e0, .int .i64 t1.f_e0.f_e1]) ti85 rfl rfl rfl rfl rfl rfl (Nat.le_of_ble_eq_true rfl) rfl) rfl rfl ?_
    refine RE.nil ⟨⟨[(0, .int .i64 a0), (4, .int .i64 0), (5, .ptr 0 0), (6, .agg [.int .i64 t1.f_e0.f_e0, .int .i64 t1.f_e0.f_e1, .int .i64 t1.f_e1.f_e0, .int .i64 t1.f_e1.f_e1, .int .i64 t1.f_e2.f_e0, .int .i64 t1.f_e2.f_e1, .int .i64 t1.f_e3.f_e0, .int .i64 t1.f_e3.f_e1]), (7, .int .i64 0)], [.cells [.int .i64 t1.f_e0.f_e0, .int .i64 t1.f_e0.f_e1]]⟩, weak_sel ⟨rfl, rfl, rfl, rfl, rfl, trivial⟩ rfl, ?_⟩
    refine then_normal ?_
    refine T_seq ?_
    refine T_reg ?_
    refine RE.op (op_move rfl rfl) rfl rfl rfl ?_
    refine RE.op (op_bin rfl rfl rfl rfl) rfl rfl rfl ?_
    refine RE.op (op_move rfl rfl) rfl rfl rfl ?_
    refine RE.skip rfl rfl rfl rfl rfl rfl ?_
    refine RE.skip rfl rfl rfl rfl rfl rfl ?_
    refine RE.skip rfl rfl rfl rfl rfl rfl ?_
    refine RE.skip rfl rfl rfl rfl rfl rfl ?_
    refine RE.op (op_pick_false rfl rfl rfl) rfl rfl rfl ?_
    refine RE.op (op_move rfl rfl) rfl rfl rfl ?_
    refine RE.skip rfl rfl rfl rfl rfl rfl ?_
    refine RE.skip rfl rfl rfl rfl rfl rfl ?_
    refine RE.skip rfl rfl rfl rfl rfl rfl ?_
    refine RE.skip rfl rfl rfl rfl rfl rfl ?_
    refine RE.op (op_pick_false rfl rfl rfl) rfl rfl rfl ?_
    refine RE.nil ⟨⟨[(0, .int .i64 a0), (4, .int .i64 0), (6, .agg [.int .i64 t1.f_e0.f_e0, .int .i64 t1.f_e0.f_e1, .int .i64 t1.f_e1.f_e0, .int .i64 t1.f_e1.f_e1, .int .i64 t1.f_e2.f_e0, .int .i64 t1.f_e2.f_e1, .int .i64 t1.f_e3.f_e0, .int .i64 t1.f_e3.f_e1]), (7, .int .i64 0), (14, .tup []), (15, .tup []), (16, .tup []), (17, .tup []), (20, .tup []), (21, .tup []), (22, .tup []), (23, .tup []), (24, .bool false)], [.cells [.int .i64 t1.f_e0.f_e0, .int .i64 t1.f_e0.f_e1]]⟩, weak_sel ⟨rfl, rfl, rfl, rfl, rfl, rfl, rfl, rfl, rfl, rfl, rfl, rfl, rfl, trivial⟩ rfl, ?_⟩
    refine then_normal ?_
    refine T_no rfl rfl ?_
    refine T_skip ?_
    refine block_normal ?_
    refine then_normal ?_
    refine T_reg ?_
    refine RE.op (op_bin rfl rfl rfl rfl) rfl rfl rfl ?_
    refine RE.op (op_move rfl rfl) rfl rfl rfl ?_
    refine RE.nil ⟨⟨[(0, .int .i64 a0), (6, .agg [.int .i64 t1.f_e0.f_e0, .int .i64 t1.f_e0.f_e1, .int .i64 t1.f_e1.f_e0, .int .i64 t1.f_e1.f_e1, .int .i64 t1.f_e2.f_e0, .int .i64 t1.f_e2.f_e1, .int .i64 t1.f_e3.f_e0, .int .i64 t1.f_e3.f_e1]), (7, .int .i64 1), (14, .tup []), (15, .tup []), (16, .tup []), (17, .tup []), (20, .tup []), (21, .tup []), (22, .tup []), (23, .tup [])], [.cells [.int .i64 t1.f_e0.f_e0, .int .i64 t1.f_e0.f_e1]]⟩, weak_sel ⟨rfl, rfl, rfl, rfl, rfl, rfl, rfl, rfl, rfl, rfl, rfl, trivial⟩ rfl, ?_⟩
    refine then_normal ?_
    refine loop_round ?_
    refine T_seq ?_
    refine T_reg ?_
    refine RE.op (op_bin rfl rfl rfl rfl) rfl rfl rfl ?_
    refine RE.nil ⟨⟨[(0, .int .i64 a0), (6, .agg [.int .i64 t1.f_e0.f_e0, .int .i64 t1.f_e0.f_e1, .int .i64 t1.f_e1.f_e0, .int .i64 t1.f_e1.f_e1, .int .i64 t1.f_e2.f_e0, .int .i64 t1.f_e2.f_e1, .int .i64 t1.f_e3.f_e0, .int .i64 t1.f_e3.f_e1]), (7, .int .i64 1), (8, .bool true), (14, .tup []), (15, .tup []), (16, .tup []), (17, .tup []), (20, .tup []), (21, .tup []), (22, .tup []), (23, .tup [])], [.cells [.int .i64 t1.f_e0.f_e0, .int .i64 t1.f_e0.f_e1]]⟩, weak_sel ⟨rfl, rfl, rfl, rfl, rfl, rfl, rfl, rfl, rfl, rfl, rfl, rfl, trivial⟩ rfl, ?_⟩
    refine then_normal ?_
    refine T_seq ?_
    refine T_yes rfl rfl ?_
    refine T_skip ?_
    refine then_normal ?_
    refine T_seq ?_
    refine T_block ?_
    refine T_seq ?_
    refine T_reg ?_
    refine RE.op (op_move rfl rfl) rfl rfl rfl ?_
    refine RE.op (op_index_agg (m := 1) (ds := [.int .i64 t1.f_e1.f_e0, .int .i64 t1.f_e1.f_e1]) Tryd.underlying86 ti85 rfl rfl rfl rfl rfl rfl (Nat.le_of_ble_eq_true rfl) rfl) rfl rfl rfl ?_
    refine RE.op (op_alloc (k := 1) ti85 rfl rfl rfl rfl) rfl rfl rfl ?_
    refine RE.op (op_assign rfl rfl) rfl rfl rfl ?_
    refine RE.op0 (op_store (cs' := [.int .i64 t1.f_e1.f_e0, .int .i64 t1.f_e1.f_e1]) ti85 rfl rfl rfl rfl rfl rfl (Nat.le_of_ble_eq_true rfl) rfl) rfl rfl ?_
    refine RE.nil ⟨⟨[(0, .int .i64 a0), (4, .int .i64 1), (5, .ptr 1 0), (6, .agg [.int .i64 t1.f_e0.f_e0, .int .i64 t1.f_e0.f_e1, .int .i64 t1.f_e1.f_e0, .int .i64 t1.f_e1.f_e1, .int .i64 t1.f_e2.f_e0, .int .i64 t1.f_e2.f_e1, .int .i64 t1.f_e3.f_e0, .int .i64 t1.f_e3.f_e1]), (7, .int .i64 1), (14, .tup []), (15, .tup []), (16, .tup []), (17, .tup []), (20, .tup []), (21, .tup []), (22, .tup []), (23, .tup [])], [.cells [.int .i64 t1.f_e0.f_e0, .int .i64 t1.f_e0.f_e1], .cells [.int .i64 t1.f_e1.f_e0, .int .i64 t1.f_e1.f_e1]]⟩, weak_sel ⟨rfl, rfl, rfl, rfl, rfl, rfl, rfl, rfl, rfl, rfl, rfl, rfl, rfl, trivial⟩ rfl, ?_⟩
    refine then_normal ?_
    refine T_seq ?_
    obtain ⟨x3, hj4, H⟩ := Option.bind_eq_some_iff.1 H
    refine T_reg_out ⟨[(0, .int .i64 a0), (4, .int .i64 1), (6, .agg [.int .i64 t1.f_e0.f_e0, .int .i64 t1.f_e0.f_e1, .int .i64 t1.f_e1.f_e0, .int .i64 t1.f_e1.f_e1, .int .i64 t1.f_e2.f_e0, .int .i64 t1.f_e2.f_e1, .int .i64 t1.f_e3.f_e0, .int .i64 t1.f_e3.f_e1]), (7, .int .i64 1), (14, .ptr 1 0), (15, .int .i64 t1.f_e1.f_e0), (16, .int .i64 a0), (17, .bool (decide (t1.f_e1.f_e0 ≤ a0))), (24, .bool x3)], [.cells [.int .i64 t1.f_e0.f_e0, .int .i64 t1.f_e0.f_e1], .cells [.int .i64 t1.f_e1.f_e0, .int .i64 t1.f_e1.f_e1]]⟩ ?_ ?_
    · clear H
      have H := hj4
      clear hj4
      refine RE.op (op_move rfl rfl) rfl rfl rfl ?_
      refine RE.op (op_bin rfl rfl rfl rfl) rfl rfl rfl ?_
      refine RE.op (op_move rfl rfl) rfl rfl rfl ?_
      refine RE.opg (op_iaddr_a (m := 0) Tryd.underlying85 ti3 rfl rfl rfl rfl rfl) rfl rfl rfl rfl rfl ?_
      refine RE.opg (op_load ti3 rfl rfl rfl rfl rfl) rfl rfl rfl rfl rfl ?_
      refine RE.opg (op_move rfl rfl) rfl rfl rfl rfl rfl ?_
      refine RE.opg (op_bin rfl rfl rfl rfl) rfl rfl rfl rfl rfl ?_
      refine RE.op (op_pick_true rfl rfl rfl) rfl rfl rfl ?_
      refine RE.op (op_move rfl rfl) rfl rfl rfl ?_
      by_cases h1 : t1.f_e1.f_e0 ≤ a0
      · rw [if_pos h1] at H
        refine RE.opg (op_move rfl rfl) rfl rfl (getb (decide_eq_true h1) rfl) rfl rfl ?_
        refine RE.opg (op_iaddr_a (m := 1) Tryd.underlying85 ti3 rfl rfl rfl rfl rfl) rfl rfl (getb (decide_eq_true h1) rfl) rfl rfl ?_
        refine RE.opg (op_load ti3 rfl rfl rfl rfl rfl) rfl rfl (getb (decide_eq_true h1) rfl) rfl rfl ?_
        refine RE.opg (op_bin rfl rfl rfl rfl) rfl rfl (getb (decide_eq_true h1) rfl) rfl rfl ?_
        refine RE.op (op_pick_true rfl (evb (decide_eq_true h1) rfl) rfl) rfl rfl rfl ?_
        simp only [Option.some.injEq] at H
        subst H
        exact RE.nil (weak_sel (env' := [(0, .int .i64 a0), (4, .int .i64 1), (6, .agg [.int .i64 t1.f_e0.f_e0, .int .i64 t1.f_e0.f_e1, .int .i64 t1.f_e1.f_e0, .int .i64 t1.f_e1.f_e1, .int .i64 t1.f_e2.f_e0, .int .i64 t1.f_e2.f_e1, .int .i64 t1.f_e3.f_e0, .int .i64 t1.f_e3.f_e1]), (7, .int .i64 1), (14, .ptr 1 0), (15, .int .i64 t1.f_e1.f_e0), (16, .int .i64 a0), (17, .bool (decide (t1.f_e1.f_e0 ≤ a0))), (24, .bool (decide (a0 ≤ t1.f_e1.f_e1)))]) ⟨rfl, rfl, rfl, rfl, rfl, rfl, rfl, rfl, rfl, trivial⟩ rfl)
      · rw [if_neg h1] at H
        refine RE.skip rfl rfl (getb (decide_eq_false h1) rfl) rfl rfl rfl ?_
        refine RE.skip rfl rfl (getb (decide_eq_false h1) rfl) rfl rfl rfl ?_
        refine RE.skip rfl rfl (getb (decide_eq_false h1) rfl) rfl rfl rfl ?_
        refine RE.skip rfl rfl (getb (decide_eq_false h1) rfl) rfl rfl rfl ?_
        refine RE.op (op_pick_false rfl (evb (decide_eq_false h1) rfl) rfl) rfl rfl rfl ?_
        simp only [Option.some.injEq] at H
        subst H
        exact RE.nil (weak_sel (env' := [(0, .int .i64 a0), (4, .int .i64 1), (6, .agg [.int .i64 t1.f_e0.f_e0, .int .i64 t1.f_e0.f_e1, .int .i64 t1.f_e1.f_e0, .int .i64 t1.f_e1.f_e1, .int .i64 t1.f_e2.f_e0, .int .i64 t1.f_e2.f_e1, .int .i64 t1.f_e3.f_e0, .int .i64 t1.f_e3.f_e1]), (7, .int .i64 1), (14, .ptr 1 0), (15, .int .i64 t1.f_e1.f_e0), (16, .int .i64 a0), (17, .bool (decide (t1.f_e1.f_e0 ≤ a0))), (24, .bool false)]) ⟨rfl, rfl, rfl, rfl, rfl, rfl, rfl, rfl, rfl, trivial⟩ rfl)
    · clear hj4
      refine then_normal ?_
      by_cases h2 : x3 = true
      · rw [if_pos h2] at H
        refine T_yes rfl h2 ?_
        refine T_seq ?_
        refine T_reg ?_
        refine RE.op (op_move rfl rfl) rfl rfl rfl ?_
        refine RE.op (op_assign rfl rfl) rfl rfl rfl ?_
        refine RE.op (op_assign rfl rfl) rfl rfl rfl ?_
        refine RE.nil ⟨⟨[(2, .int .i64 1), (3, .int .i64 0)], [.cells [.int .i64 t1.f_e0.f_e0, .int .i64 t1.f_e0.f_e1], .cells [.int .i64 t1.f_e1.f_e0, .int .i64 t1.f_e1.f_e1]]⟩, weak_sel ⟨rfl, rfl, trivial⟩ rfl, ?_⟩
        refine then_normal ?_
        refine T_ret ?_
        simp only [Option.some.injEq] at H
        subst H
        refine block_ret ?_
        refine then_ret ?_
        refine then_ret ?_
        refine block_ret ?_
        refine then_ret ?_
        exact ret2 rfl rfl rfl rfl
      · rw [if_neg h2] at H
        refine T_no rfl (Bool.eq_false_iff.mpr h2) ?_
        refine T_skip ?_
        refine block_normal ?_
        refine then_normal ?_
        refine T_reg ?_
        refine RE.op (op_bin rfl rfl rfl rfl) rfl rfl rfl ?_
        refine RE.op (op_move rfl rfl) rfl rfl rfl ?_
        refine RE.nil ⟨⟨[(0, .int .i64 a0), (6, .agg [.int .i64 t1.f_e0.f_e0, .int .i64 t1.f_e0.f_e1, .int .i64 t1.f_e1.f_e0, .int .i64 t1.f_e1.f_e1, .int .i64 t1.f_e2.f_e0, .int .i64 t1.f_e2.f_e1, .int .i64 t1.f_e3.f_e0, .int .i64 t1.f_e3.f_e1]), (7, .int .i64 2), (14, .ptr 1 0), (15, .int .i64 t1.f_e1.f_e0), (16, .int .i64 a0), (17, .bool (decide (t1.f_e1.f_e0 ≤ a0)))], [.cells [.int .i64 t1.f_e0.f_e0, .int .i64 t1.f_e0.f_e1], .cells [.int .i64 t1.f_e1.f_e0, .int .i64 t1.f_e1.f_e1]]⟩, weak_sel ⟨rfl, rfl, rfl, rfl, rfl, rfl, rfl, trivial⟩ rfl, ?_⟩
        refine then_normal ?_
        refine loop_round ?_
        refine T_seq ?_
        refine T_reg ?_
        refine RE.op (op_bin rfl rfl rfl rfl) rfl rfl rfl ?_
        refine RE.nil ⟨⟨[(0, .int .i64 a0), (6, .agg [.int .i64 t1.f_e0.f_e0, .int .i64 t1.f_e0.f_e1, .int .i64 t1.f_e1.f_e0, .int .i64 t1.f_e1.f_e1, .int .i64 t1.f_e2.f_e0, .int .i64 t1.f_e2.f_e1, .int .i64 t1.f_e3.f_e0, .int .i64 t1.f_e3.f_e1]), (7, .int .i64 2), (8, .bool true), (14, .ptr 1 0), (15, .int .i64 t1.f_e1.f_e0), (16, .int .i64 a0), (17, .bool (decide (t1.f_e1.f_e0 ≤ a0)))], [.cells [.int .i64 t1.f_e0.f_e0, .int .i64 t1.f_e0.f_e1], .cells [.int .i64 t1.f_e1.f_e0, .int .i64 t1.f_e1.f_e1]]⟩, weak_sel ⟨rfl, rfl, rfl, rfl, rfl, rfl, rfl, rfl, trivial⟩ rfl, ?_⟩
        refine then_normal ?_
        refine T_seq ?_
        refine T_yes rfl rfl ?_
        refine T_skip ?_
        refine then_normal ?_
        refine T_seq ?_
        refine T_block ?_
        refine T_seq ?_
        refine T_reg ?_
        refine RE.op (op_move rfl rfl) rfl rfl rfl ?_
        refine RE.op (op_index_agg (m := 2) (ds := [.int .i64 t1.f_e2.f_e0, .int .i64 t1.f_e2.f_e1]) Tryd.underlying86 ti85 rfl rfl rfl rfl rfl rfl (Nat.le_of_ble_eq_true rfl) rfl) rfl rfl rfl ?_
        refine RE.op (op_alloc (k := 2) ti85 rfl rfl rfl rfl) rfl rfl rfl ?_
        refine RE.op (op_assign rfl rfl) rfl rfl rfl ?_
        refine RE.op0 (op_store (cs' := [.int .i64 t1.f_e2.f_e0, .int .i64 t1.f_e2.f_e1]) ti85 rfl rfl rfl rfl rfl rfl (Nat.le_of_ble_eq_true rfl) rfl) rfl rfl ?_
        refine RE.nil ⟨⟨[(0, .int .i64 a0), (4, .int .i64 2), (5, .ptr 2 0), (6, .agg [.int .i64 t1.f_e0.f_e0, .int .i64 t1.f_e0.f_e1, .int .i64 t1.f_e1.f_e0, .int .i64 t1.f_e1.f_e1, .int .i64 t1.f_e2.f_e0, .int .i64 t1.f_e2.f_e1, .int .i64 t1.f_e3.f_e0, .int .i64 t1.f_e3.f_e1]), (7, .int .i64 2), (14, .ptr 1 0), (15, .int .i64 t1.f_e1.f_e0), (16, .int .i64 a0), (17, .bool (decide (t1.f_e1.f_e0 ≤ a0)))], [.cells [.int .i64 t1.f_e0.f_e0, .int .i64 t1.f_e0.f_e1], .cells [.int .i64 t1.f_e1.f_e0, .int .i64 t1.f_e1.f_e1], .cells [.int .i64 t1.f_e2.f_e0, .int .i64 t1.f_e2.f_e1]]⟩, weak_sel ⟨rfl, rfl, rfl, rfl, rfl, rfl, rfl, rfl, rfl, trivial⟩ rfl, ?_⟩
        refine then_normal ?_
        refine T_seq ?_
        obtain ⟨x5, hj6, H⟩ := Option.bind_eq_some_iff.1 H
        refine T_reg_out ⟨[(0, .int .i64 a0), (4, .int .i64 2), (6, .agg [.int .i64 t1.f_e0.f_e0, .int .i64 t1.f_e0.f_e1, .int .i64 t1.f_e1.f_e0, .int .i64 t1.f_e1.f_e1, .int .i64 t1.f_e2.f_e0, .int .i64 t1.f_e2.f_e1, .int .i64 t1.f_e3.f_e0, .int .i64 t1.f_e3.f_e1]), (7, .int .i64 2), (14, .ptr 2 0), (15, .int .i64 t1.f_e2.f_e0), (16, .int .i64 a0), (17, .bool (decide (t1.f_e2.f_e0 ≤ a0))), (24, .bool x5)], [.cells [.int .i64 t1.f_e0.f_e0, .int .i64 t1.f_e0.f_e1], .cells [.int .i64 t1.f_e1.f_e0, .int .i64 t1.f_e1.f_e1], .cells [.int .i64 t1.f_e2.f_e0, .int .i64 t1.f_e2.f_e1]]⟩ ?_ ?_
        · clear H
          have H := hj6
          clear hj6
          refine RE.op (op_move rfl rfl) rfl rfl rfl ?_
          refine RE.op (op_bin rfl rfl rfl rfl) rfl rfl rfl ?_
          refine RE.op (op_move rfl rfl) rfl rfl rfl ?_
          refine RE.opg (op_iaddr_a (m := 0) Tryd.underlying85 ti3 rfl rfl rfl rfl rfl) rfl rfl rfl rfl rfl ?_
          refine RE.opg (op_load ti3 rfl rfl rfl rfl rfl) rfl rfl rfl rfl rfl ?_
          refine RE.opg (op_move rfl rfl) rfl rfl rfl rfl rfl ?_
          refine RE.opg (op_bin rfl rfl rfl rfl) rfl rfl rfl rfl rfl ?_
          refine RE.op (op_pick_true rfl rfl rfl) rfl rfl rfl ?_
          refine RE.op (op_move rfl rfl) rfl rfl rfl ?_
          by_cases h3 : t1.f_e2.f_e0 ≤ a0
          · rw [if_pos h3] at H
            refine RE.opg (op_move rfl rfl) rfl rfl (getb (decide_eq_true h3) rfl) rfl rfl ?_
            refine RE.opg (op_iaddr_a (m := 1) Tryd.underlying85 ti3 rfl rfl rfl rfl rfl) rfl rfl (getb (decide_eq_true h3) rfl) rfl rfl ?_
            refine RE.opg (op_load ti3 rfl rfl rfl rfl rfl) rfl rfl (getb (decide_eq_true h3) rfl) rfl rfl ?_
            refine RE.opg (op_bin rfl rfl rfl rfl) rfl rfl (getb (decide_eq_true h3) rfl) rfl rfl ?_
            refine RE.op (op_pick_true rfl (evb (decide_eq_true h3) rfl) rfl) rfl rfl rfl ?_
            simp only [Option.some.injEq] at H
            subst H
            exact RE.nil (weak_sel (env' := [(0, .int .i64 a0), (4, .int .i64 2), (6, .agg [.int .i64 t1.f_e0.f_e0, .int .i64 t1.f_e0.f_e1, .int .i64 t1.f_e1.f_e0, .int .i64 t1.f_e1.f_e1, .int .i64 t1.f_e2.f_e0, .int .i64 t1.f_e2.f_e1, .int .i64 t1.f_e3.f_e0, .int .i64 t1.f_e3.f_e1]), (7, .int .i64 2), (14, .ptr 2 0), (15, .int .i64 t1.f_e2.f_e0), (16, .int .i64 a0), (17, .bool (decide (t1.f_e2.f_e0 ≤ a0))), (24, .bool (decide (a0 ≤ t1.f_e2.f_e1)))]) ⟨rfl, rfl, rfl, rfl, rfl, rfl, rfl, rfl, rfl, trivial⟩ rfl)
          · rw [if_neg h3] at H
            refine RE.skip rfl rfl (getb (decide_eq_false h3) rfl) rfl rfl rfl ?_
            refine RE.skip rfl rfl (getb (decide_eq_false h3) rfl) rfl rfl rfl ?_
            refine RE.skip rfl rfl (getb (decide_eq_false h3) rfl) rfl rfl rfl ?_
            refine RE.skip rfl rfl (getb (decide_eq_false h3) rfl) rfl rfl rfl ?_
            refine RE.op (op_pick_false rfl (evb (decide_eq_false h3) rfl) rfl) rfl rfl rfl ?_
            simp only [Option.some.injEq] at H
            subst H
            exact RE.nil (weak_sel (env' := [(0, .int .i64 a0), (4, .int .i64 2), (6, .agg [.int .i64 t1.f_e0.f_e0, .int .i64 t1.f_e0.f_e1, .int .i64 t1.f_e1.f_e0, .int .i64 t1.f_e1.f_e1, .int .i64 t1.f_e2.f_e0, .int .i64 t1.f_e2.f_e1, .int .i64 t1.f_e3.f_e0, .int .i64 t1.f_e3.f_e1]), (7, .int .i64 2), (14, .ptr 2 0), (15, .int .i64 t1.f_e2.f_e0), (16, .int .i64 a0), (17, .bool (decide (t1.f_e2.f_e0 ≤ a0))), (24, .bool false)]) ⟨rfl, rfl, rfl, rfl, rfl, rfl, rfl, rfl, rfl, trivial⟩ rfl)
        · clear hj6
          refine then_normal ?_
          by_cases h4 : x5 = true
          · rw [if_pos h4] at H
            refine T_yes rfl h4 ?_
            refine T_seq ?_
            refine T_reg ?_
            refine RE.op (op_move rfl rfl) rfl rfl rfl ?_
            refine RE.op (op_assign rfl rfl) rfl rfl rfl ?_
            refine RE.op (op_assign rfl rfl) rfl rfl rfl ?_
            refine RE.nil ⟨⟨[(2, .int .i64 2), (3, .int .i64 0)], [.cells [.int .i64 t1.f_e0.f_e0, .int .i64 t1.f_e0.f_e1], .cells [.int .i64 t1.f_e1.f_e0, .int .i64 t1.f_e1.f_e1], .cells [.int .i64 t1.f_e2.f_e0, .int .i64 t1.f_e2.f_e1]]⟩, weak_sel ⟨rfl, rfl, trivial⟩ rfl, ?_⟩
            refine then_normal ?_
            refine T_ret ?_
            simp only [Option.some.injEq] at H
            subst H
            refine block_ret ?_
            refine then_ret ?_
            refine then_ret ?_
            refine block_ret ?_
            refine then_ret ?_
            exact ret2 rfl rfl rfl rfl
          · rw [if_neg h4] at H
            refine T_no rfl (Bool.eq_false_iff.mpr h4) ?_
            refine T_skip ?_
            refine block_normal ?_
            refine then_normal ?_
            refine T_reg ?_
            refine RE.op (op_bin rfl rfl rfl rfl) rfl rfl rfl ?_
            refine RE.op (op_move rfl rfl) rfl rfl rfl ?_
            refine RE.nil ⟨⟨[(0, .int .i64 a0), (6, .agg [.int .i64 t1.f_e0.f_e0, .int .i64 t1.f_e0.f_e1, .int .i64 t1.f_e1.f_e0, .int .i64 t1.f_e1.f_e1, .int .i64 t1.f_e2.f_e0, .int .i64 t1.f_e2.f_e1, .int .i64 t1.f_e3.f_e0, .int .i64 t1.f_e3.f_e1]), (7, .int .i64 3), (14, .ptr 2 0), (15, .int .i64 t1.f_e2.f_e0), (16, .int .i64 a0), (17, .bool (decide (t1.f_e2.f_e0 ≤ a0)))], [.cells [.int .i64 t1.f_e0.f_e0, .int .i64 t1.f_e0.f_e1], .cells [.int .i64 t1.f_e1.f_e0, .int .i64 t1.f_e1.f_e1], .cells [.int .i64 t1.f_e2.f_e0, .int .i64 t1.f_e2.f_e1]]⟩, weak_sel ⟨rfl, rfl, rfl, rfl, rfl, rfl, rfl, trivial⟩ rfl, ?_⟩
            refine then_normal ?_
            refine loop_round ?_
            refine T_seq ?_
            refine T_reg ?_
            refine RE.op (op_bin rfl rfl rfl rfl) rfl rfl rfl ?_
            refine RE.nil ⟨⟨[(0, .int .i64 a0), (6, .agg [.int .i64 t1.f_e0.f_e0, .int .i64 t1.f_e0.f_e1, .int .i64 t1.f_e1.f_e0, .int .i64 t1.f_e1.f_e1, .int .i64 t1.f_e2.f_e0, .int .i64 t1.f_e2.f_e1, .int .i64 t1.f_e3.f_e0, .int .i64 t1.f_e3.f_e1]), (7, .int .i64 3), (8, .bool true), (14, .ptr 2 0), (15, .int .i64 t1.f_e2.f_e0), (16, .int .i64 a0), (17, .bool (decide (t1.f_e2.f_e0 ≤ a0)))], [.cells [.int .i64 t1.f_e0.f_e0, .int .i64 t1.f_e0.f_e1], .cells [.int .i64 t1.f_e1.f_e0, .int .i64 t1.f_e1.f_e1], .cells [.int .i64 t1.f_e2.f_e0, .int .i64 t1.f_e2.f_e1]]⟩, weak_sel ⟨rfl, rfl, rfl, rfl, rfl, rfl, rfl, rfl, trivial⟩ rfl, ?_⟩
            refine then_normal ?_
            refine T_seq ?_
            refine T_yes rfl rfl ?_
            refine T_skip ?_
            refine then_normal ?_
            refine T_seq ?_
            refine T_block ?_
            refine T_seq ?_
            refine T_reg ?_
            refine RE.op (op_move rfl rfl) rfl rfl rfl ?_
            refine RE.op (op_index_agg (m := 3) (ds := [.int .i64 t1.f_e3.f_e0, .int .i64 t1.f_e3.f_e1]) Tryd.underlying86 ti85 rfl rfl rfl rfl rfl rfl (Nat.le_of_ble_eq_true rfl) rfl) rfl rfl rfl ?_
            refine RE.op (op_alloc (k := 3) ti85 rfl rfl rfl rfl) rfl rfl rfl ?_
            refine RE.op (op_assign rfl rfl) rfl rfl rfl ?_
            refine RE.op0 (op_store (cs' := [.int .i64 t1.f_e3.f_e0, .int .i64 t1.f_e3.f_e1]) ti85 rfl rfl rfl rfl rfl rfl (Nat.le_of_ble_eq_true rfl) rfl) rfl rfl ?_
            refine RE.nil ⟨⟨[(0, .int .i64 a0), (4, .int .i64 3), (5, .ptr 3 0), (6, .agg [.int .i64 t1.f_e0.f_e0, .int .i64 t1.f_e0.f_e1, .int .i64 t1.f_e1.f_e0, .int .i64 t1.f_e1.f_e1, .int .i64 t1.f_e2.f_e0, .int .i64 t1.f_e2.f_e1, .int .i64 t1.f_e3.f_e0, .int .i64 t1.f_e3.f_e1]), (7, .int .i64 3), (14, .ptr 2 0), (15, .int .i64 t1.f_e2.f_e0), (16, .int .i64 a0), (17, .bool (decide (t1.f_e2.f_e0 ≤ a0)))], [.cells [.int .i64 t1.f_e0.f_e0, .int .i64 t1.f_e0.f_e1], .cells [.int .i64 t1.f_e1.f_e0, .int .i64 t1.f_e1.f_e1], .cells [.int .i64 t1.f_e2.f_e0, .int .i64 t1.f_e2.f_e1], .cells [.int .i64 t1.f_e3.f_e0, .int .i64 t1.f_e3.f_e1]]⟩, weak_sel ⟨rfl, rfl, rfl, rfl, rfl, rfl, rfl, rfl, rfl, trivial⟩ rfl, ?_⟩
            refine then_normal ?_
            refine T_seq ?_
            obtain ⟨x7, hj8, H⟩ := Option.bind_eq_some_iff.1 H
            refine T_reg_out ⟨[(0, .int .i64 a0), (4, .int .i64 3), (6, .agg [.int .i64 t1.f_e0.f_e0, .int .i64 t1.f_e0.f_e1, .int .i64 t1.f_e1.f_e0, .int .i64 t1.f_e1.f_e1, .int .i64 t1.f_e2.f_e0, .int .i64 t1.f_e2.f_e1, .int .i64 t1.f_e3.f_e0, .int .i64 t1.f_e3.f_e1]), (7, .int .i64 3), (14, .ptr 3 0), (15, .int .i64 t1.f_e3.f_e0), (16, .int .i64 a0), (17, .bool (decide (t1.f_e3.f_e0 ≤ a0))), (24, .bool x7)], [.cells [.int .i64 t1.f_e0.f_e0, .int .i64 t1.f_e0.f_e1], .cells [.int .i64 t1.f_e1.f_e0, .int .i64 t1.f_e1.f_e1], .cells [.int .i64 t1.f_e2.f_e0, .int .i64 t1.f_e2.f_e1], .cells [.int .i64 t1.f_e3.f_e0, .int .i64 t1.f_e3.f_e1]]⟩ ?_ ?_
            · clear H
              have H := hj8
              clear hj8
              refine RE.op (op_move rfl rfl) rfl rfl rfl ?_
              refine RE.op (op_bin rfl rfl rfl rfl) rfl rfl rfl ?_
              refine RE.op (op_move rfl rfl) rfl rfl rfl ?_
              refine RE.opg (op_iaddr_a (m := 0) Tryd.underlying85 ti3 rfl rfl rfl rfl rfl) rfl rfl rfl rfl rfl ?_
              refine RE.opg (op_load ti3 rfl rfl rfl rfl rfl) rfl rfl rfl rfl rfl ?_
              refine RE.opg (op_move rfl rfl) rfl rfl rfl rfl rfl ?_
              refine RE.opg (op_bin rfl rfl rfl rfl) rfl rfl rfl rfl rfl ?_
              refine RE.op (op_pick_true rfl rfl rfl) rfl rfl rfl ?_
              refine RE.op (op_move rfl rfl) rfl rfl rfl ?_
              by_cases h5 : t1.f_e3.f_e0 ≤ a0
              · rw [if_pos h5] at H
                refine RE.opg (op_move rfl rfl) rfl rfl (getb (decide_eq_true h5) rfl) rfl rfl ?_
                refine RE.opg (op_iaddr_a (m := 1) Tryd.underlying85 ti3 rfl rfl rfl rfl rfl) rfl rfl (getb (decide_eq_true h5) rfl) rfl rfl ?_
                refine RE.opg (op_load ti3 rfl rfl rfl rfl rfl) rfl rfl (getb (decide_eq_true h5) rfl) rfl rfl ?_
                refine RE.opg (op_bin rfl rfl rfl rfl) rfl rfl (getb (decide_eq_true h5) rfl) rfl rfl ?_
                refine RE.op (op_pick_true rfl (evb (decide_eq_true h5) rfl) rfl) rfl rfl rfl ?_
                simp only [Option.some.injEq] at H
                subst H
                exact RE.nil (weak_sel (env' := [(0, .int .i64 a0), (4, .int .i64 3), (6, .agg [.int .i64 t1.f_e0.f_e0, .int .i64 t1.f_e0.f_e1, .int .i64 t1.f_e1.f_e0, .int .i64 t1.f_e1.f_e1, .int .i64 t1.f_e2.f_e0, .int .i64 t1.f_e2.f_e1, .int .i64 t1.f_e3.f_e0, .int .i64 t1.f_e3.f_e1]), (7, .int .i64 3), (14, .ptr 3 0), (15, .int .i64 t1.f_e3.f_e0), (16, .int .i64 a0), (17, .bool (decide (t1.f_e3.f_e0 ≤ a0))), (24, .bool (decide (a0 ≤ t1.f_e3.f_e1)))]) ⟨rfl, rfl, rfl, rfl, rfl, rfl, rfl, rfl, rfl, trivial⟩ rfl)
              · rw [if_neg h5] at H
                refine RE.skip rfl rfl (getb (decide_eq_false h5) rfl) rfl rfl rfl ?_
                refine RE.skip rfl rfl (getb (decide_eq_false h5) rfl) rfl rfl rfl ?_
                refine RE.skip rfl rfl (getb (decide_eq_false h5) rfl) rfl rfl rfl ?_
                refine RE.skip rfl rfl (getb (decide_eq_false h5) rfl) rfl rfl rfl ?_
                refine RE.op (op_pick_false rfl (evb (decide_eq_false h5) rfl) rfl) rfl rfl rfl ?_
                simp only [Option.some.injEq] at H
                subst H
                exact RE.nil (weak_sel (env' := [(0, .int .i64 a0), (4, .int .i64 3), (6, .agg [.int .i64 t1.f_e0.f_e0, .int .i64 t1.f_e0.f_e1, .int .i64 t1.f_e1.f_e0, .int .i64 t1.f_e1.f_e1, .int .i64 t1.f_e2.f_e0, .int .i64 t1.f_e2.f_e1, .int .i64 t1.f_e3.f_e0, .int .i64 t1.f_e3.f_e1]), (7, .int .i64 3), (14, .ptr 3 0), (15, .int .i64 t1.f_e3.f_e0), (16, .int .i64 a0), (17, .bool (decide (t1.f_e3.f_e0 ≤ a0))), (24, .bool false)]) ⟨rfl, rfl, rfl, rfl, rfl, rfl, rfl, rfl, rfl, trivial⟩ rfl)
            · clear hj8
              refine then_normal ?_
              by_cases h6 : x7 = true
              · rw [if_pos h6] at H
                refine T_yes rfl h6 ?_
                refine T_seq ?_
                refine T_reg ?_
                refine RE.op (op_move rfl rfl) rfl rfl rfl ?_
                refine RE.op (op_assign rfl rfl) rfl rfl rfl ?_
                refine RE.op (op_assign rfl rfl) rfl rfl rfl ?_
                refine RE.nil ⟨⟨[(2, .int .i64 3), (3, .int .i64 0)], [.cells [.int .i64 t1.f_e0.f_e0, .int .i64 t1.f_e0.f_e1], .cells [.int .i64 t1.f_e1.f_e0, .int .i64 t1.f_e1.f_e1], .cells [.int .i64 t1.f_e2.f_e0, .int .i64 t1.f_e2.f_e1], .cells [.int .i64 t1.f_e3.f_e0, .int .i64 t1.f_e3.f_e1]]⟩, weak_sel ⟨rfl, rfl, trivial⟩ rfl, ?_⟩
                refine then_normal ?_
                refine T_ret ?_
                simp only [Option.some.injEq] at H
                subst H
                refine block_ret ?_
                refine then_ret ?_
                refine then_ret ?_
                refine block_ret ?_
                refine then_ret ?_
                exact ret2 rfl rfl rfl rfl
              · rw [if_neg h6] at H
                refine T_no rfl (Bool.eq_false_iff.mpr h6) ?_
                refine T_skip ?_
                refine block_normal ?_
                refine then_normal ?_
                refine T_reg ?_
                refine RE.op (op_bin rfl rfl rfl rfl) rfl rfl rfl ?_
                refine RE.op (op_move rfl rfl) rfl rfl rfl ?_
                refine RE.nil ⟨⟨[(0, .int .i64 a0), (6, .agg [.int .i64 t1.f_e0.f_e0, .int .i64 t1.f_e0.f_e1, .int .i64 t1.f_e1.f_e0, .int .i64 t1.f_e1.f_e1, .int .i64 t1.f_e2.f_e0, .int .i64 t1.f_e2.f_e1, .int .i64 t1.f_e3.f_e0, .int .i64 t1.f_e3.f_e1]), (7, .int .i64 4), (14, .ptr 3 0), (15, .int .i64 t1.f_e3.f_e0), (16, .int .i64 a0), (17, .bool (decide (t1.f_e3.f_e0 ≤ a0)))], [.cells [.int .i64 t1.f_e0.f_e0, .int .i64 t1.f_e0.f_e1], .cells [.int .i64 t1.f_e1.f_e0, .int .i64 t1.f_e1.f_e1], .cells [.int .i64 t1.f_e2.f_e0, .int .i64 t1.f_e2.f_e1], .cells [.int .i64 t1.f_e3.f_e0, .int .i64 t1.f_e3.f_e1]]⟩, weak_sel ⟨rfl, rfl, rfl, rfl, rfl, rfl, rfl, trivial⟩ rfl, ?_⟩
                refine then_normal ?_
                refine loop_round ?_
                refine T_seq ?_
                refine T_reg ?_
                refine RE.op (op_bin rfl rfl rfl rfl) rfl rfl rfl ?_
                refine RE.nil ⟨⟨[(0, .int .i64 a0), (6, .agg [.int .i64 t1.f_e0.f_e0, .int .i64 t1.f_e0.f_e1, .int .i64 t1.f_e1.f_e0, .int .i64 t1.f_e1.f_e1, .int .i64 t1.f_e2.f_e0, .int .i64 t1.f_e2.f_e1, .int .i64 t1.f_e3.f_e0, .int .i64 t1.f_e3.f_e1]), (7, .int .i64 4), (8, .bool false), (14, .ptr 3 0), (15, .int .i64 t1.f_e3.f_e0), (16, .int .i64 a0), (17, .bool (decide (t1.f_e3.f_e0 ≤ a0)))], [.cells [.int .i64 t1.f_e0.f_e0, .int .i64 t1.f_e0.f_e1], .cells [.int .i64 t1.f_e1.f_e0, .int .i64 t1.f_e1.f_e1], .cells [.int .i64 t1.f_e2.f_e0, .int .i64 t1.f_e2.f_e1], .cells [.int .i64 t1.f_e3.f_e0, .int .i64 t1.f_e3.f_e1]]⟩, weak_sel ⟨rfl, rfl, rfl, rfl, rfl, rfl, rfl, rfl, trivial⟩ rfl, ?_⟩
                refine then_normal ?_
                refine T_seq ?_
                refine T_no rfl rfl ?_
                refine T_exit ?_
                refine then_exit ?_
                refine then_exit ?_
                refine block_eq ?_
                refine then_normal ?_
                refine T_seq ?_
                refine T_reg ?_
                refine RE.op (op_assign rfl rfl) rfl rfl rfl ?_
                refine RE.op (op_assign rfl rfl) rfl rfl rfl ?_
                refine RE.nil ⟨⟨[(2, .int .i64 0), (3, .int .i64 2)], [.cells [.int .i64 t1.f_e0.f_e0, .int .i64 t1.f_e0.f_e1], .cells [.int .i64 t1.f_e1.f_e0, .int .i64 t1.f_e1.f_e1], .cells [.int .i64 t1.f_e2.f_e0, .int .i64 t1.f_e2.f_e1], .cells [.int .i64 t1.f_e3.f_e0, .int .i64 t1.f_e3.f_e1]]⟩, weak_sel ⟨rfl, rfl, trivial⟩ rfl, ?_⟩
                refine then_normal ?_
                refine T_ret ?_
                simp only [Option.some.injEq] at H
                subst H
                exact ret2 rfl rfl rfl rfl

/-! ### 58 bandplan/problem.station -/
def problem_station.f (a0 : Int) : Option (Bool) := ((if a0 ≥ 0 then some (decide (a0 < 512)) else some false)).bind fun x1 => some x1
def problem_station.S (args : List AV) (v : AV) : Prop := ∃ (a0 : Int) (r : Bool), args = [.int .i64 a0] ∧ problem_station.f a0 = some r ∧ v = .bool r
theorem problem_station.ok : VOk Tryd.prog 58 problem_station.S := by
  refine V_ok Tryd.func58 rfl fun args v hS => ⟨?_, ?_⟩
  · obtain ⟨a0, r, rfl, H, rfl⟩ := hS
    exact Nat.le_of_ble_eq_true rfl
  · obtain ⟨a0, r, rfl, H, rfl⟩ := hS
    unfold problem_station.f at H
    refine T_seq ?_
    refine T_reg ?_
    refine RE.op (op_assign rfl rfl) rfl rfl rfl ?_
    refine RE.nil ⟨⟨[(0, .int .i64 a0)], []⟩, weak_sel ⟨rfl, trivial⟩ rfl, ?_⟩
    refine then_normal ?_
    refine T_seq ?_
    obtain ⟨x1, hj2, H⟩ := Option.bind_eq_some_iff.1 H
    refine T_reg_out ⟨[(2, .bool x1)], []⟩ ?_ ?_
    · clear H
      have H := hj2
      clear hj2
      refine RE.op (op_move rfl rfl) rfl rfl rfl ?_
      refine RE.op (op_bin rfl rfl rfl rfl) rfl rfl rfl ?_
      refine RE.op (op_move rfl rfl) rfl rfl rfl ?_
      by_cases h1 : a0 ≥ 0
      · rw [if_pos h1] at H
        refine RE.opg (op_move rfl rfl) rfl rfl (getb (decide_eq_true h1) rfl) rfl rfl ?_
        refine RE.opg (op_bin rfl rfl rfl rfl) rfl rfl (getb (decide_eq_true h1) rfl) rfl rfl ?_
        refine RE.op (op_pick_true rfl (evb (decide_eq_true h1) rfl) rfl) rfl rfl rfl ?_
        refine RE.op (op_assign rfl rfl) rfl rfl rfl ?_
        simp only [Option.some.injEq] at H
        subst H
        exact RE.nil (weak_sel (env' := [(2, .bool (decide (a0 < 512)))]) ⟨rfl, trivial⟩ rfl)
      · rw [if_neg h1] at H
        refine RE.skip rfl rfl (getb (decide_eq_false h1) rfl) rfl rfl rfl ?_
        refine RE.skip rfl rfl (getb (decide_eq_false h1) rfl) rfl rfl rfl ?_
        refine RE.op (op_pick_false rfl (evb (decide_eq_false h1) rfl) rfl) rfl rfl rfl ?_
        refine RE.op (op_assign rfl rfl) rfl rfl rfl ?_
        simp only [Option.some.injEq] at H
        subst H
        exact RE.nil (weak_sel (env' := [(2, .bool false)]) ⟨rfl, trivial⟩ rfl)
    · clear hj2
      refine then_normal ?_
      refine T_ret ?_
      simp only [Option.some.injEq] at H
      subst H
      exact ret1 rfl rfl rfl

/-! ### 59 bandplan/problem.span -/
def problem_span.f (a0 : Int) (a1 : Int) : Option (Bool) := ((if a0 ≥ 2 then (if a0 ≤ a1 then some (decide (a1 ≤ 51)) else some false) else some false)).bind fun x1 => some x1
def problem_span.S (args : List AV) (v : AV) : Prop := ∃ (a0 : Int) (a1 : Int) (r : Bool), args = [.int .i64 a0, .int .i64 a1] ∧ problem_span.f a0 a1 = some r ∧ v = .bool r
theorem problem_span.ok : VOk Tryd.prog 59 problem_span.S := by
  refine V_ok Tryd.func59 rfl fun args v hS => ⟨?_, ?_⟩
  · obtain ⟨a0, a1, r, rfl, H, rfl⟩ := hS
    exact Nat.le_of_ble_eq_true rfl
  · obtain ⟨a0, a1, r, rfl, H, rfl⟩ := hS
    unfold problem_span.f at H
    refine T_seq ?_
    refine T_reg ?_
    refine RE.op (op_assign rfl rfl) rfl rfl rfl ?_
    refine RE.nil ⟨⟨[(0, .int .i64 a0), (1, .int .i64 a1)], []⟩, weak_sel ⟨rfl, rfl, trivial⟩ rfl, ?_⟩
    refine then_normal ?_
    refine T_seq ?_
    obtain ⟨x1, hj2, H⟩ := Option.bind_eq_some_iff.1 H
    refine T_reg_out ⟨[(4, .bool x1)], []⟩ ?_ ?_
    · clear H
      have H := hj2
      clear hj2
      refine RE.op (op_move rfl rfl) rfl rfl rfl ?_
      refine RE.op (op_bin rfl rfl rfl rfl) rfl rfl rfl ?_
      refine RE.op (op_move rfl rfl) rfl rfl rfl ?_
      by_cases h1 : a0 ≥ 2
      · rw [if_pos h1] at H
        refine RE.opg (op_move rfl rfl) rfl rfl (getb (decide_eq_true h1) rfl) rfl rfl ?_
        refine RE.opg (op_move rfl rfl) rfl rfl (getb (decide_eq_true h1) rfl) rfl rfl ?_
        refine RE.opg (op_bin rfl rfl rfl rfl) rfl rfl (getb (decide_eq_true h1) rfl) rfl rfl ?_
        refine RE.op (op_pick_true rfl (evb (decide_eq_true h1) rfl) rfl) rfl rfl rfl ?_
        refine RE.op (op_move rfl rfl) rfl rfl rfl ?_
        by_cases h2 : a0 ≤ a1
        · rw [if_pos h2] at H
          refine RE.opg (op_move rfl rfl) rfl rfl (getb (decide_eq_true h2) rfl) rfl rfl ?_
          refine RE.opg (op_bin rfl rfl rfl rfl) rfl rfl (getb (decide_eq_true h2) rfl) rfl rfl ?_
          refine RE.op (op_pick_true rfl (evb (decide_eq_true h2) rfl) rfl) rfl rfl rfl ?_
          refine RE.op (op_assign rfl rfl) rfl rfl rfl ?_
          simp only [Option.some.injEq] at H
          subst H
          exact RE.nil (weak_sel (env' := [(4, .bool (decide (a1 ≤ 51)))]) ⟨rfl, trivial⟩ rfl)
        · rw [if_neg h2] at H
          refine RE.skip rfl rfl (getb (decide_eq_false h2) rfl) rfl rfl rfl ?_
          refine RE.skip rfl rfl (getb (decide_eq_false h2) rfl) rfl rfl rfl ?_
          refine RE.op (op_pick_false rfl (evb (decide_eq_false h2) rfl) rfl) rfl rfl rfl ?_
          refine RE.op (op_assign rfl rfl) rfl rfl rfl ?_
          simp only [Option.some.injEq] at H
          subst H
          exact RE.nil (weak_sel (env' := [(4, .bool false)]) ⟨rfl, trivial⟩ rfl)
      · rw [if_neg h1] at H
        refine RE.skip rfl rfl (getb (decide_eq_false h1) rfl) rfl rfl rfl ?_
        refine RE.skip rfl rfl (getb (decide_eq_false h1) rfl) rfl rfl rfl ?_
        refine RE.skip rfl rfl (getb (decide_eq_false h1) rfl) rfl rfl rfl ?_
        refine RE.op (op_pick_false rfl (evb (decide_eq_false h1) rfl) rfl) rfl rfl rfl ?_
        refine RE.op (op_move rfl rfl) rfl rfl rfl ?_
        refine RE.skip rfl rfl rfl rfl rfl rfl ?_
        refine RE.skip rfl rfl rfl rfl rfl rfl ?_
        refine RE.op (op_pick_false rfl rfl rfl) rfl rfl rfl ?_
        refine RE.op (op_assign rfl rfl) rfl rfl rfl ?_
        simp only [Option.some.injEq] at H
        subst H
        exact RE.nil (weak_sel (env' := [(4, .bool false)]) ⟨rfl, trivial⟩ rfl)
    · clear hj2
      refine then_normal ?_
      refine T_ret ?_
      simp only [Option.some.injEq] at H
      subst H
      exact ret1 rfl rfl rfl

/-! ### 56 bandplan/problem.rising[bandplan/api.Choice] -/
def problem_rising_api_Choice.l0 (a0 : (List S_api_Choice)) (a1 : S_api_Choice → Option Bool) (a2 : S_api_Choice → S_api_Choice → Option Int) : Nat → Int → Option (Sum (Int × Int) (Unit))
  | 0, _ => none
  | k + 1, x1 => (if x1 < ((a0.map S_api_Choice.enc).length : Int) then (idx a0 x1).bind fun y6 => ((a1 y6).bind fun t9 => (if ¬ (t9 = true) then some true else (if x1 > 0 then (idx a0 (IntKind.i64.wrap (x1 - 1))).bind fun y11 => (a2 y11 y6).bind fun t13 => some (decide (t13 ≥ 0)) else some false))).bind fun x8 => (if x8 = true then some (.inl (y6.f_Station, y6.f_Channel)) else problem_rising_api_Choice.l0 a0 a1 a2 k (IntKind.i64.wrap (x1 + 1))) else some (.inr ()))
def problem_rising_api_Choice.f (k : Nat) (a0 : (List S_api_Choice)) (a1 : S_api_Choice → Option Bool) (a2 : S_api_Choice → S_api_Choice → Option Int) : Option (Bool) := ((problem_rising_api_Choice.l0 a0 a1 a2 k 0).bind fun o => match o with | (.inl (x2, x3)) => some false | (.inr _) => some true)
def problem_rising_api_Choice.S (args : List AV) (v : AV) : Prop := ∃ (k : Nat) (a0 : (List S_api_Choice)) (a1 : S_api_Choice → Option Bool) (a2 : S_api_Choice → S_api_Choice → Option Int) (f1 : Nat) (c1 : List AV) (S1 : List AV → AV → Prop) (f2 : Nat) (c2 : List AV) (S2 : List AV → AV → Prop) (r : Bool), args = [.lst false (a0.map S_api_Choice.enc), .fn f1 c1, .fn f2 c2] ∧ Enters Tryd.prog f1 ∧ VOk Tryd.prog f1 S1 ∧ (∀ bs, imms bs c1 = some c1) ∧ (∀ (y0 : S_api_Choice) (z : Bool), a1 y0 = some z → S1 ([S_api_Choice.enc y0] ++ c1) (.bool z)) ∧ Enters Tryd.prog f2 ∧ VOk Tryd.prog f2 S2 ∧ (∀ bs, imms bs c2 = some c2) ∧ (∀ (y0 : S_api_Choice) (y1 : S_api_Choice) (z : Int), a2 y0 y1 = some z → S2 ([S_api_Choice.enc y0, S_api_Choice.enc y1] ++ c2) (.int .i64 z)) ∧ problem_rising_api_Choice.f k a0 a1 a2 = some r ∧ v = .bool r
theorem problem_rising_api_Choice.ok : VOk Tryd.prog 56 problem_rising_api_Choice.S := by
  refine V_ok Tryd.func56 rfl fun args v hS => ⟨?_, ?_⟩
  · obtain ⟨k, a0, a1, a2, f1, c1, S1, f2, c2, S2, r, rfl, hE1, hV1, hC1, hP1, hE2, hV2, hC2, hP2, H, rfl⟩ := hS
    exact Nat.le_of_ble_eq_true rfl
  · obtain ⟨k, a0, a1, a2, f1, c1, S1, f2, c2, S2, r, rfl, hE1, hV1, hC1, hP1, hE2, hV2, hC2, hP2, H, rfl⟩ := hS
    unfold problem_rising_api_Choice.f at H
    have hB1 := fun k => imms_below k (hC1 [])
    have hB2 := fun k => imms_below k (hC2 [])
    refine T_seq ?_
    refine T_reg ?_
    refine RE.op (op_assign rfl rfl) rfl rfl rfl ?_
    refine RE.nil ⟨⟨[(0, .lst false (a0.map S_api_Choice.enc)), (1, .fn f1 c1), (2, .fn f2 c2)], []⟩, weak_sel ⟨rfl, rfl, rfl, trivial⟩ rfl, ?_⟩
    refine then_normal ?_
    refine T_seq ?_
    refine T_seq ?_
    refine T_reg ?_
    refine RE.op (op_move rfl rfl) rfl rfl rfl ?_
    refine RE.op (op_len Tryd.underlying24 rfl rfl) rfl rfl rfl ?_
    refine RE.op (op_move rfl rfl) rfl rfl rfl ?_
    refine RE.nil ⟨⟨[(0, .lst false (a0.map S_api_Choice.enc)), (1, .fn f1 c1), (2, .fn f2 c2), (9, .lst false (a0.map S_api_Choice.enc)), (10, .int .i64 ((a0.map S_api_Choice.enc).length : Int)), (11, .int .i64 0)], []⟩, weak_sel ⟨rfl, rfl, rfl, rfl, rfl, rfl, trivial⟩ rfl, ?_⟩
    refine then_normal ?_
    refine T_block ?_
    obtain ⟨o4, hj5, H⟩ := Option.bind_eq_some_iff.1 H
    refine T_loop_out ((fun (x_ : Int) => ⟨[(0, .lst false (a0.map S_api_Choice.enc)), (1, .fn f1 c1), (2, .fn f2 c2), (9, .lst false (a0.map S_api_Choice.enc)), (10, .int .i64 ((a0.map S_api_Choice.enc).length : Int)), (11, .int .i64 x_)], []⟩) 0) ((fun o => match o with | (.inl _) => .ret | (.inr _) => .exit 0) o4) ((fun o => match o with | (.inl (x2, x3)) => ⟨[(6, .bool false)], [.cells [.int .i64 x2, .int .i64 x3]]⟩ | (.inr ()) => ⟨[], []⟩) o4) (weak_sel (env' := [(0, .lst false (a0.map S_api_Choice.enc)), (1, .fn f1 c1), (2, .fn f2 c2), (9, .lst false (a0.map S_api_Choice.enc)), (10, .int .i64 ((a0.map S_api_Choice.enc).length : Int)), (11, .int .i64 0)]) ⟨rfl, rfl, rfl, rfl, rfl, rfl, trivial⟩ rfl) ?_ ?_
    · refine T_fix (problem_rising_api_Choice.l0 a0 a1 a2) (fun (x_ : Int) => ⟨[(0, .lst false (a0.map S_api_Choice.enc)), (1, .fn f1 c1), (2, .fn f2 c2), (9, .lst false (a0.map S_api_Choice.enc)), (10, .int .i64 ((a0.map S_api_Choice.enc).length : Int)), (11, .int .i64 x_)], []⟩) (fun o => match o with | (.inl _) => .ret | (.inr _) => .exit 0) (fun o => match o with | (.inl (x2, x3)) => ⟨[(6, .bool false)], [.cells [.int .i64 x2, .int .i64 x3]]⟩ | (.inr ()) => ⟨[], []⟩) (fun _ => rfl) ?_ _ 0 _ hj5
      clear H hj5
      intro k IH x1 o H
      unfold problem_rising_api_Choice.l0 at H
      (try simp only at H)
      refine T_seq ?_
      refine T_reg ?_
      refine RE.op (op_bin rfl rfl rfl rfl) rfl rfl rfl ?_
      refine RE.nil ⟨⟨[(0, .lst false (a0.map S_api_Choice.enc)), (1, .fn f1 c1), (2, .fn f2 c2), (9, .lst false (a0.map S_api_Choice.enc)), (10, .int .i64 ((a0.map S_api_Choice.enc).length : Int)), (11, .int .i64 x1), (12, .bool (decide (x1 < ((a0.map S_api_Choice.enc).length : Int))))], []⟩, weak_sel ⟨rfl, rfl, rfl, rfl, rfl, rfl, rfl, trivial⟩ rfl, ?_⟩
      refine then_normal ?_
      refine T_seq ?_
      by_cases h1 : x1 < ((a0.map S_api_Choice.enc).length : Int)
      · rw [if_pos h1] at H
        refine T_yes rfl (decide_eq_true h1) ?_
        refine T_skip ?_
        refine then_normal ?_
        refine T_seq ?_
        refine T_block ?_
        refine T_seq ?_
        refine T_reg ?_
        refine RE.op (op_move rfl rfl) rfl rfl rfl ?_
        obtain ⟨y6, hy7, H⟩ := Option.bind_eq_some_iff.1 H
        refine RE.op (op_iaddr Tryd.underlying24 ti50 rfl rfl rfl (idx_pos hy7) (idx_map hy7 S_api_Choice.enc) rfl (Nat.le_of_ble_eq_true rfl)) rfl rfl rfl ?_
        refine RE.op (op_load_agg_e (ds := [.int .i64 y6.f_Station, .int .i64 y6.f_Channel]) ti50 rfl rfl rfl (idx_map hy7 S_api_Choice.enc) (Nat.le_of_ble_eq_true rfl) rfl) rfl rfl rfl ?_
        refine RE.op (op_alloc (k := 0) ti50 rfl rfl rfl rfl) rfl rfl rfl ?_
        refine RE.op (op_assign rfl rfl) rfl rfl rfl ?_
        refine RE.op0 (op_store (cs' := [.int .i64 y6.f_Station, .int .i64 y6.f_Channel]) ti50 rfl rfl rfl rfl rfl rfl (Nat.le_of_ble_eq_true rfl) rfl) rfl rfl ?_
        refine RE.nil ⟨⟨[(0, .lst false (a0.map S_api_Choice.enc)), (1, .fn f1 c1), (2, .fn f2 c2), (7, .int .i64 x1), (8, .ptr 0 0), (9, .lst false (a0.map S_api_Choice.enc)), (10, .int .i64 ((a0.map S_api_Choice.enc).length : Int)), (11, .int .i64 x1)], [.cells [.int .i64 y6.f_Station, .int .i64 y6.f_Channel]]⟩, weak_sel ⟨rfl, rfl, rfl, rfl, rfl, rfl, rfl, rfl, trivial⟩ rfl, ?_⟩
        refine then_normal ?_
        refine T_seq ?_
        obtain ⟨x8, hj15, H⟩ := Option.bind_eq_some_iff.1 H
        refine T_drawn_out mix [0, 0, 3, 7, 15, 31, 63, 127, 255, 255, 255, 1279, 3839, 7935, 255, 32767, 65535, 131071, 262143] (by kernel_rfl) ⟨[(0, .lst false (a0.map S_api_Choice.enc)), (1, .fn f1 c1), (2, .fn f2 c2), (9, .lst false (a0.map S_api_Choice.enc)), (10, .int .i64 ((a0.map S_api_Choice.enc).length : Int)), (11, .int .i64 x1), (34, .bool x8)], [.cells [.int .i64 y6.f_Station, .int .i64 y6.f_Channel]]⟩ ?_ ?_
        · clear H
          have H := hj15
          clear hj15
          refine RD.q [(1, .fn f1 c1)] (by repeat (first | exact trivial | refine ⟨rfl, ?_⟩)) (fun _ => (op_move rfl rfl)) rfl rfl rfl ?_
          refine RD.l (i := 0) [(8, .ptr 0 0)] (by repeat (first | exact trivial | refine ⟨rfl, ?_⟩)) rfl (fun _ hb => (op_load_agg (ds := [.int .i64 y6.f_Station, .int .i64 y6.f_Channel]) ti50 rfl rfl rfl hb (Nat.le_of_ble_eq_true rfl) rfl)) rfl rfl rfl ?_
          obtain ⟨t9, ht10, H⟩ := Option.bind_eq_some_iff.1 H
          refine RD.q [(16, .fn f1 c1), (17, .agg [.int .i64 y6.f_Station, .int .i64 y6.f_Channel])] (by repeat (first | exact trivial | refine ⟨rfl, ?_⟩)) (fun _ => (op_callp rfl rfl rfl hC1 hE1 hV1 (hP1 _ _ ht10))) rfl rfl rfl ?_
          refine RD.q [(18, .bool t9)] (by repeat (first | exact trivial | refine ⟨rfl, ?_⟩)) (fun _ => (op_not rfl rfl)) rfl rfl rfl ?_
          refine RD.q [(19, .bool (!t9))] (by repeat (first | exact trivial | refine ⟨rfl, ?_⟩)) (fun _ => (op_move rfl rfl)) rfl rfl rfl ?_
          by_cases h2 : ¬ (t9 = true)
          · rw [if_pos h2] at H
            refine RD.skip rfl rfl (getb (not_t (Bool.eq_false_iff.mpr h2)) rfl) rfl rfl rfl ?_
            refine RD.skip rfl rfl (getb (not_t (Bool.eq_false_iff.mpr h2)) rfl) rfl rfl rfl ?_
            refine RD.skip rfl rfl (getb (not_t (Bool.eq_false_iff.mpr h2)) rfl) rfl rfl rfl ?_
            refine RD.skipu rfl rfl rfl rfl rfl ?_
            refine RD.skipu rfl rfl rfl rfl rfl ?_
            refine RD.skipu rfl rfl rfl rfl rfl ?_
            refine RD.skipu rfl rfl rfl rfl rfl ?_
            refine RD.skipu rfl rfl rfl rfl rfl ?_
            refine RD.skipu rfl rfl rfl rfl rfl ?_
            refine RD.skipu rfl rfl rfl rfl rfl ?_
            refine RD.skipu rfl rfl rfl rfl rfl ?_
            refine RD.skipu rfl rfl rfl rfl rfl ?_
            refine RD.skip rfl rfl (getb (not_t (Bool.eq_false_iff.mpr h2)) rfl) rfl rfl rfl ?_
            refine RD.q [(20, .bool (!t9)), (33, .tup [])] (by repeat (first | exact trivial | refine ⟨rfl, ?_⟩)) (fun _ => (op_pick_true rfl (evb (not_t (Bool.eq_false_iff.mpr h2)) rfl) rfl)) rfl rfl rfl ?_
            simp only [Option.some.injEq] at H
            subst H
            exact RD.nil (by kernel_rfl) (weak_sel (env' := [(0, .lst false (a0.map S_api_Choice.enc)), (1, .fn f1 c1), (2, .fn f2 c2), (9, .lst false (a0.map S_api_Choice.enc)), (10, .int .i64 ((a0.map S_api_Choice.enc).length : Int)), (11, .int .i64 x1), (34, .bool true)]) ⟨rfl, rfl, rfl, rfl, rfl, rfl, rfl, trivial⟩ rfl)
          · rw [if_neg h2] at H
            refine RD.qg [(7, .int .i64 x1)] (by repeat (first | exact trivial | refine ⟨rfl, ?_⟩)) (fun _ => (op_move rfl rfl)) rfl rfl (getb (not_f (Decidable.of_not_not h2)) rfl) rfl rfl ?_
            refine RD.qg [(21, .int .i64 x1)] (by repeat (first | exact trivial | refine ⟨rfl, ?_⟩)) (fun _ => (op_bin rfl rfl rfl rfl)) rfl rfl (getb (not_f (Decidable.of_not_not h2)) rfl) rfl rfl ?_
            refine RD.qg [(22, .bool (decide (x1 > 0)))] (by repeat (first | exact trivial | refine ⟨rfl, ?_⟩)) (fun _ => (op_move rfl rfl)) rfl rfl (getb (not_f (Decidable.of_not_not h2)) rfl) rfl rfl ?_
            by_cases h3 : x1 > 0
            · rw [if_pos h3] at H
              refine RD.qg [(2, .fn f2 c2)] (by repeat (first | exact trivial | refine ⟨rfl, ?_⟩)) (fun _ => (op_move rfl rfl)) rfl rfl (getb (decide_eq_true h3) rfl) rfl rfl ?_
              refine RD.qg [(0, .lst false (a0.map S_api_Choice.enc))] (by repeat (first | exact trivial | refine ⟨rfl, ?_⟩)) (fun _ => (op_move rfl rfl)) rfl rfl (getb (decide_eq_true h3) rfl) rfl rfl ?_
              refine RD.qg [(7, .int .i64 x1)] (by repeat (first | exact trivial | refine ⟨rfl, ?_⟩)) (fun _ => (op_move rfl rfl)) rfl rfl (getb (decide_eq_true h3) rfl) rfl rfl ?_
              refine RD.qg [(26, .int .i64 x1)] (by repeat (first | exact trivial | refine ⟨rfl, ?_⟩)) (fun _ => (op_bin rfl rfl rfl rfl)) rfl rfl (getb (decide_eq_true h3) rfl) rfl rfl ?_
              obtain ⟨y11, hy12, H⟩ := Option.bind_eq_some_iff.1 H
              refine RD.qg [(25, .lst false (a0.map S_api_Choice.enc)), (27, .int .i64 (IntKind.i64.wrap (x1 - 1)))] (by repeat (first | exact trivial | refine ⟨rfl, ?_⟩)) (fun _ => (op_iaddr Tryd.underlying24 ti50 rfl rfl rfl (idx_pos hy12) (idx_map hy12 S_api_Choice.enc) rfl (Nat.le_of_ble_eq_true rfl))) rfl rfl (getb (decide_eq_true h3) rfl) rfl rfl ?_
              refine RD.qg [(28, .eptr (a0.map S_api_Choice.enc) ((IntKind.i64.wrap (x1 - 1)).toNat) 0)] (by repeat (first | exact trivial | refine ⟨rfl, ?_⟩)) (fun _ => (op_load_agg_e (ds := [.int .i64 y11.f_Station, .int .i64 y11.f_Channel]) ti50 rfl rfl rfl (idx_map hy12 S_api_Choice.enc) (Nat.le_of_ble_eq_true rfl) rfl)) rfl rfl (getb (decide_eq_true h3) rfl) rfl rfl ?_
              refine RD.lg (i := 0) [(8, .ptr 0 0)] (by repeat (first | exact trivial | refine ⟨rfl, ?_⟩)) rfl (fun _ hb => (op_load_agg (ds := [.int .i64 y6.f_Station, .int .i64 y6.f_Channel]) ti50 rfl rfl rfl hb (Nat.le_of_ble_eq_true rfl) rfl)) rfl rfl (getb (decide_eq_true h3) rfl) rfl rfl ?_
              obtain ⟨t13, ht14, H⟩ := Option.bind_eq_some_iff.1 H
              refine RD.qg [(24, .fn f2 c2), (29, .agg [.int .i64 y11.f_Station, .int .i64 y11.f_Channel]), (30, .agg [.int .i64 y6.f_Station, .int .i64 y6.f_Channel])] (by repeat (first | exact trivial | refine ⟨rfl, ?_⟩)) (fun _ => (op_callp rfl rfl rfl hC2 hE2 hV2 (hP2 _ _ _ ht14))) rfl rfl (getb (decide_eq_true h3) rfl) rfl rfl ?_
              refine RD.qg [(31, .int .i64 t13)] (by repeat (first | exact trivial | refine ⟨rfl, ?_⟩)) (fun _ => (op_bin rfl rfl rfl rfl)) rfl rfl (getb (decide_eq_true h3) rfl) rfl rfl ?_
              refine RD.qg [(23, .bool (decide (x1 > 0))), (32, .bool (decide (t13 ≥ 0)))] (by repeat (first | exact trivial | refine ⟨rfl, ?_⟩)) (fun _ => (op_pick_true rfl (evb (decide_eq_true h3) rfl) rfl)) rfl rfl (getb (not_f (Decidable.of_not_not h2)) rfl) rfl rfl ?_
              refine RD.q [(20, .bool (!t9)), (33, .bool (decide (t13 ≥ 0)))] (by repeat (first | exact trivial | refine ⟨rfl, ?_⟩)) (fun _ => (op_pick_false rfl (evb (not_f (Decidable.of_not_not h2)) rfl) rfl)) rfl rfl rfl ?_
              simp only [Option.some.injEq] at H
              subst H
              exact RD.nil (by kernel_rfl) (weak_sel (env' := [(0, .lst false (a0.map S_api_Choice.enc)), (1, .fn f1 c1), (2, .fn f2 c2), (9, .lst false (a0.map S_api_Choice.enc)), (10, .int .i64 ((a0.map S_api_Choice.enc).length : Int)), (11, .int .i64 x1), (34, .bool (decide (t13 ≥ 0)))]) ⟨rfl, rfl, rfl, rfl, rfl, rfl, rfl, trivial⟩ rfl)
            · rw [if_neg h3] at H
              refine RD.skip rfl rfl (getb (decide_eq_false h3) rfl) rfl rfl rfl ?_
              refine RD.skip rfl rfl (getb (decide_eq_false h3) rfl) rfl rfl rfl ?_
              refine RD.skip rfl rfl (getb (decide_eq_false h3) rfl) rfl rfl rfl ?_
              refine RD.skip rfl rfl (getb (decide_eq_false h3) rfl) rfl rfl rfl ?_
              refine RD.skip rfl rfl (getb (decide_eq_false h3) rfl) rfl rfl rfl ?_
              refine RD.skip rfl rfl (getb (decide_eq_false h3) rfl) rfl rfl rfl ?_
              refine RD.skip rfl rfl (getb (decide_eq_false h3) rfl) rfl rfl rfl ?_
              refine RD.skip rfl rfl (getb (decide_eq_false h3) rfl) rfl rfl rfl ?_
              refine RD.skip rfl rfl (getb (decide_eq_false h3) rfl) rfl rfl rfl ?_
              refine RD.qg [(23, .bool (decide (x1 > 0))), (32, .tup [])] (by repeat (first | exact trivial | refine ⟨rfl, ?_⟩)) (fun _ => (op_pick_false rfl (evb (decide_eq_false h3) rfl) rfl)) rfl rfl (getb (not_f (Decidable.of_not_not h2)) rfl) rfl rfl ?_
              refine RD.q [(20, .bool (!t9)), (33, .bool false)] (by repeat (first | exact trivial | refine ⟨rfl, ?_⟩)) (fun _ => (op_pick_false rfl (evb (not_f (Decidable.of_not_not h2)) rfl) rfl)) rfl rfl rfl ?_
              simp only [Option.some.injEq] at H
              subst H
              exact RD.nil (by kernel_rfl) (weak_sel (env' := [(0, .lst false (a0.map S_api_Choice.enc)), (1, .fn f1 c1), (2, .fn f2 c2), (9, .lst false (a0.map S_api_Choice.enc)), (10, .int .i64 ((a0.map S_api_Choice.enc).length : Int)), (11, .int .i64 x1), (34, .bool false)]) ⟨rfl, rfl, rfl, rfl, rfl, rfl, rfl, trivial⟩ rfl)
        · clear hj15
          refine then_normal ?_
          by_cases h4 : x8 = true
          · rw [if_pos h4] at H
            refine T_yes rfl h4 ?_
            refine T_seq ?_
            refine T_reg ?_
            refine RE.op (op_assign rfl rfl) rfl rfl rfl ?_
            refine RE.nil ⟨⟨[(6, .bool false)], [.cells [.int .i64 y6.f_Station, .int .i64 y6.f_Channel]]⟩, weak_sel ⟨rfl, trivial⟩ rfl, ?_⟩
            refine then_normal ?_
            refine T_ret ?_
            simp only [Option.some.injEq] at H
            subst H
            refine block_ret ?_
            refine then_ret ?_
            refine then_ret ?_
            exact ⟨rfl, weak_sel (env' := [(6, .bool false)]) ⟨rfl, trivial⟩ rfl⟩
          · rw [if_neg h4] at H
            refine T_no rfl (Bool.eq_false_iff.mpr h4) ?_
            refine T_skip ?_
            refine block_normal ?_
            refine then_normal ?_
            refine T_reg ?_
            refine RE.op (op_bin rfl rfl rfl rfl) rfl rfl rfl ?_
            refine RE.op (op_move rfl rfl) rfl rfl rfl ?_
            refine RE.nil ⟨⟨[(0, .lst false (a0.map S_api_Choice.enc)), (1, .fn f1 c1), (2, .fn f2 c2), (9, .lst false (a0.map S_api_Choice.enc)), (10, .int .i64 ((a0.map S_api_Choice.enc).length : Int)), (11, .int .i64 (IntKind.i64.wrap (x1 + 1)))], [.cells [.int .i64 y6.f_Station, .int .i64 y6.f_Channel]]⟩, weak_sel ⟨rfl, rfl, rfl, rfl, rfl, rfl, trivial⟩ rfl, ?_⟩
            refine then_normal ?_
            exact LoopAt.weak (weak_cut (env' := [(0, .lst false (a0.map S_api_Choice.enc)), (1, .fn f1 c1), (2, .fn f2 c2), (9, .lst false (a0.map S_api_Choice.enc)), (10, .int .i64 ((a0.map S_api_Choice.enc).length : Int)), (11, .int .i64 (IntKind.i64.wrap (x1 + 1)))]) (bs' := []) 0 ⟨rfl, rfl, rfl, rfl, rfl, rfl, trivial⟩ rfl rfl (by simp [belowE, below, hB1, hB2]) rfl) (IH _ _ H)
      · rw [if_neg h1] at H
        refine T_no rfl (decide_eq_false h1) ?_
        refine T_exit ?_
        simp only [Option.some.injEq] at H
        subst H
        refine then_exit ?_
        refine then_exit ?_
        exact ⟨rfl, weak_sel (env' := []) trivial rfl⟩
    · clear hj5
      rcases o4 with ⟨x2, x3⟩ | _
      · simp only [Option.some.injEq] at H
        subst H
        refine block_ret ?_
        refine then_ret ?_
        exact ret1 rfl rfl rfl
      · refine block_eq ?_
        refine then_normal ?_
        refine T_seq ?_
        refine T_reg ?_
        refine RE.op (op_assign rfl rfl) rfl rfl rfl ?_
        refine RE.nil ⟨⟨[(6, .bool true)], []⟩, weak_sel ⟨rfl, trivial⟩ rfl, ?_⟩
        refine then_normal ?_
        refine T_ret ?_
        simp only [Option.some.injEq] at H
        subst H
        exact ret1 rfl rfl rfl

/-! ### 57 bandplan/problem.ValidList$1 -/
def problem_ValidList_1.f (a0 : S_api_Choice) : Option (Bool) := ((problem_station.f a0.f_Station).bind fun t2 => (if t2 = true then (problem_span.f a0.f_Channel a0.f_Channel).bind fun t4 => some t4 else some false)).bind fun x1 => some x1
def problem_ValidList_1.S (args : List AV) (v : AV) : Prop := ∃ (a0 : S_api_Choice) (r : Bool), args = [S_api_Choice.enc a0] ∧ problem_ValidList_1.f a0 = some r ∧ v = .bool r
theorem problem_ValidList_1.ok : VOk Tryd.prog 57 problem_ValidList_1.S := by
  refine V_ok Tryd.func57 rfl fun args v hS => ⟨?_, ?_⟩
  · obtain ⟨a0, r, rfl, H, rfl⟩ := hS
    exact Nat.le_of_ble_eq_true rfl
  · obtain ⟨a0, r, rfl, H, rfl⟩ := hS
    unfold problem_ValidList_1.f at H
    refine T_seq ?_
    refine T_reg ?_
    refine RE.op (op_box (k := 0) rfl rfl rfl rfl) rfl rfl rfl ?_
    refine RE.op (op_assign rfl rfl) rfl rfl rfl ?_
    refine RE.nil ⟨⟨[(1, .ptr 0 0)], [.cells [.int .i64 a0.f_Station, .int .i64 a0.f_Channel]]⟩, weak_sel ⟨rfl, trivial⟩ rfl, ?_⟩
    refine then_normal ?_
    refine T_seq ?_
    obtain ⟨x1, hj6, H⟩ := Option.bind_eq_some_iff.1 H
    refine T_reg_out ⟨[(2, .bool x1)], [.cells [.int .i64 a0.f_Station, .int .i64 a0.f_Channel]]⟩ ?_ ?_
    · clear H
      have H := hj6
      clear hj6
      refine RE.op (op_faddr Tryd.underlying50 rfl ti3 rfl rfl rfl) rfl rfl rfl ?_
      refine RE.op (op_load ti3 rfl rfl rfl rfl rfl) rfl rfl rfl ?_
      obtain ⟨t2, ht3, H⟩ := Option.bind_eq_some_iff.1 H
      refine RE.op (op_call (f := 58) rfl rfl rfl rfl en58 problem_station.ok ⟨_, _, rfl, ht3, rfl⟩) rfl rfl rfl ?_
      refine RE.op (op_move rfl rfl) rfl rfl rfl ?_
      by_cases h1 : t2 = true
      · rw [if_pos h1] at H
        refine RE.opg (op_faddr Tryd.underlying50 rfl ti3 rfl rfl rfl) rfl rfl (getb h1 rfl) rfl rfl ?_
        refine RE.opg (op_load ti3 rfl rfl rfl rfl rfl) rfl rfl (getb h1 rfl) rfl rfl ?_
        refine RE.opg (op_faddr Tryd.underlying50 rfl ti3 rfl rfl rfl) rfl rfl (getb h1 rfl) rfl rfl ?_
        refine RE.opg (op_load ti3 rfl rfl rfl rfl rfl) rfl rfl (getb h1 rfl) rfl rfl ?_
        obtain ⟨t4, ht5, H⟩ := Option.bind_eq_some_iff.1 H
        refine RE.opg (op_call (f := 59) rfl rfl rfl rfl en59 problem_span.ok ⟨_, _, _, rfl, ht5, rfl⟩) rfl rfl (getb h1 rfl) rfl rfl ?_
        refine RE.op (op_pick_true rfl (evb h1 rfl) rfl) rfl rfl rfl ?_
        refine RE.op (op_assign rfl rfl) rfl rfl rfl ?_
        simp only [Option.some.injEq] at H
        subst H
        exact RE.nil (weak_sel (env' := [(2, .bool t4)]) ⟨rfl, trivial⟩ rfl)
      · rw [if_neg h1] at H
        refine RE.skip rfl rfl (getb (Bool.eq_false_iff.mpr h1) rfl) rfl rfl rfl ?_
        refine RE.skip rfl rfl (getb (Bool.eq_false_iff.mpr h1) rfl) rfl rfl rfl ?_
        refine RE.skip rfl rfl (getb (Bool.eq_false_iff.mpr h1) rfl) rfl rfl rfl ?_
        refine RE.skip rfl rfl (getb (Bool.eq_false_iff.mpr h1) rfl) rfl rfl rfl ?_
        refine RE.skip rfl rfl (getb (Bool.eq_false_iff.mpr h1) rfl) rfl rfl rfl ?_
        refine RE.op (op_pick_false rfl (evb (Bool.eq_false_iff.mpr h1) rfl) rfl) rfl rfl rfl ?_
        refine RE.op (op_assign rfl rfl) rfl rfl rfl ?_
        simp only [Option.some.injEq] at H
        subst H
        exact RE.nil (weak_sel (env' := [(2, .bool false)]) ⟨rfl, trivial⟩ rfl)
    · clear hj6
      refine then_normal ?_
      refine T_ret ?_
      simp only [Option.some.injEq] at H
      subst H
      exact ret1 rfl rfl rfl

/-! ### 60 bandplan/problem.ValidList$2 -/
def problem_ValidList_2.f (a0 : S_api_Choice) (a1 : S_api_Choice) : Option (Int) := some (IntKind.i64.wrap (a0.f_Station - a1.f_Station))
def problem_ValidList_2.S (args : List AV) (v : AV) : Prop := ∃ (a0 : S_api_Choice) (a1 : S_api_Choice) (r : Int), args = [S_api_Choice.enc a0, S_api_Choice.enc a1] ∧ problem_ValidList_2.f a0 a1 = some r ∧ v = .int .i64 r
theorem problem_ValidList_2.ok : VOk Tryd.prog 60 problem_ValidList_2.S := by
  refine V_ok Tryd.func60 rfl fun args v hS => ⟨?_, ?_⟩
  · obtain ⟨a0, a1, r, rfl, H, rfl⟩ := hS
    exact Nat.le_of_ble_eq_true rfl
  · obtain ⟨a0, a1, r, rfl, H, rfl⟩ := hS
    unfold problem_ValidList_2.f at H
    refine T_seq ?_
    refine T_reg ?_
    refine RE.op (op_box (k := 0) rfl rfl rfl rfl) rfl rfl rfl ?_
    refine RE.op (op_box (k := 1) rfl rfl rfl rfl) rfl rfl rfl ?_
    refine RE.op (op_assign rfl rfl) rfl rfl rfl ?_
    refine RE.nil ⟨⟨[(2, .ptr 0 0), (3, .ptr 1 0)], [.cells [.int .i64 a0.f_Station, .int .i64 a0.f_Channel], .cells [.int .i64 a1.f_Station, .int .i64 a1.f_Channel]]⟩, weak_sel ⟨rfl, rfl, trivial⟩ rfl, ?_⟩
    refine then_normal ?_
    refine T_seq ?_
    refine T_reg ?_
    refine RE.op (op_faddr Tryd.underlying50 rfl ti3 rfl rfl rfl) rfl rfl rfl ?_
    refine RE.op (op_load ti3 rfl rfl rfl rfl rfl) rfl rfl rfl ?_
    refine RE.op (op_faddr Tryd.underlying50 rfl ti3 rfl rfl rfl) rfl rfl rfl ?_
    refine RE.op (op_load ti3 rfl rfl rfl rfl rfl) rfl rfl rfl ?_
    refine RE.op (op_bin rfl rfl rfl rfl) rfl rfl rfl ?_
    refine RE.op (op_assign rfl rfl) rfl rfl rfl ?_
    refine RE.nil ⟨⟨[(4, .int .i64 (IntKind.i64.wrap (a0.f_Station - a1.f_Station)))], [.cells [.int .i64 a0.f_Station, .int .i64 a0.f_Channel], .cells [.int .i64 a1.f_Station, .int .i64 a1.f_Channel]]⟩, weak_sel ⟨rfl, trivial⟩ rfl, ?_⟩
    refine then_normal ?_
    refine T_ret ?_
    simp only [Option.some.injEq] at H
    subst H
    exact ret1 rfl rfl rfl

/-! ### 36 bandplan/problem.ValidList -/
def problem_ValidList.f (k : Nat) (a0 : (List S_api_Choice)) : Option (Bool) := (problem_rising_api_Choice.f k a0 (fun y0 => problem_ValidList_1.f y0) (fun y0 y1 => problem_ValidList_2.f y0 y1)).bind fun t1 => some t1
def problem_ValidList.S (args : List AV) (v : AV) : Prop := ∃ (k : Nat) (a0 : (List S_api_Choice)) (r : Bool), args = [.lst false (a0.map S_api_Choice.enc)] ∧ problem_ValidList.f k a0 = some r ∧ v = .bool r
theorem problem_ValidList.ok : VOk Tryd.prog 36 problem_ValidList.S := by
  refine V_ok Tryd.func36 rfl fun args v hS => ⟨?_, ?_⟩
  · obtain ⟨k, a0, r, rfl, H, rfl⟩ := hS
    exact Nat.le_of_ble_eq_true rfl
  · obtain ⟨k, a0, r, rfl, H, rfl⟩ := hS
    unfold problem_ValidList.f at H
    refine T_seq ?_
    refine T_reg ?_
    refine RE.op (op_assign rfl rfl) rfl rfl rfl ?_
    refine RE.nil ⟨⟨[(0, .lst false (a0.map S_api_Choice.enc))], []⟩, weak_sel ⟨rfl, trivial⟩ rfl, ?_⟩
    refine then_normal ?_
    refine T_seq ?_
    refine T_reg ?_
    refine RE.op (op_move rfl rfl) rfl rfl rfl ?_
    obtain ⟨t1, ht2, H⟩ := Option.bind_eq_some_iff.1 H
    refine RE.op (op_call (f := 56) rfl rfl rfl rfl en56 problem_rising_api_Choice.ok ⟨_, _, _, _, 57, _, _, 60, _, _, _, rfl, en57, problem_ValidList_1.ok, (fun _ => rfl), (fun _ z h => ⟨_, _, rfl, h, rfl⟩), en60, problem_ValidList_2.ok, (fun _ => rfl), (fun _ _ z h => ⟨_, _, _, rfl, h, rfl⟩), ht2, rfl⟩) rfl rfl rfl ?_
    refine RE.op (op_assign rfl rfl) rfl rfl rfl ?_
    refine RE.nil ⟨⟨[(2, .bool t1)], []⟩, weak_sel ⟨rfl, trivial⟩ rfl, ?_⟩
    refine then_normal ?_
    refine T_ret ?_
    simp only [Option.some.injEq] at H
    subst H
    exact ret1 rfl rfl rfl

/-! ### 35 bandplan/outcome.Valid$1 -/
def outcome_Valid_1.f (a0 : Int) : Option (Int) := some a0
def outcome_Valid_1.S (args : List AV) (v : AV) : Prop := ∃ (a0 : Int) (r : Int), args = [.int .i64 a0] ∧ outcome_Valid_1.f a0 = some r ∧ v = .int .i64 r
theorem outcome_Valid_1.ok : VOk Tryd.prog 35 outcome_Valid_1.S := by
  refine V_ok Tryd.func35 rfl fun args v hS => ⟨?_, ?_⟩
  · obtain ⟨a0, r, rfl, H, rfl⟩ := hS
    exact Nat.le_of_ble_eq_true rfl
  · obtain ⟨a0, r, rfl, H, rfl⟩ := hS
    unfold outcome_Valid_1.f at H
    refine T_seq ?_
    refine T_reg ?_
    refine RE.op (op_assign rfl rfl) rfl rfl rfl ?_
    refine RE.nil ⟨⟨[(0, .int .i64 a0)], []⟩, weak_sel ⟨rfl, trivial⟩ rfl, ?_⟩
    refine then_normal ?_
    refine T_seq ?_
    refine T_reg ?_
    refine RE.op (op_move rfl rfl) rfl rfl rfl ?_
    refine RE.op (op_assign rfl rfl) rfl rfl rfl ?_
    refine RE.nil ⟨⟨[(2, .int .i64 a0)], []⟩, weak_sel ⟨rfl, trivial⟩ rfl, ?_⟩
    refine then_normal ?_
    refine T_ret ?_
    simp only [Option.some.injEq] at H
    subst H
    exact ret1 rfl rfl rfl

/-! ### 34 bandplan/outcome.rising[int] -/
def outcome_rising_int.l0 (a0 : (List Int)) (a1 : Int → Option Int) : Nat → (Int × Int) → Option (Sum (Unit) (Unit))
  | 0, _ => none
  | k + 1, (x1, x2) => (if x2 < ((a0.map (AV.int .i64)).length : Int) then (idx a0 x2).bind fun y5 => (a1 y5).bind fun t7 => ((if t7 ≤ x1 then some true else some (decide (t7 ≥ 512)))).bind fun x9 => (if x9 = true then some (.inl ()) else outcome_rising_int.l0 a0 a1 k (t7, IntKind.i64.wrap (x2 + 1))) else some (.inr ()))
def outcome_rising_int.f (k : Nat) (a0 : (List Int)) (a1 : Int → Option Int) : Option (Bool) := ((outcome_rising_int.l0 a0 a1 k ((-1), 0)).bind fun o => match o with | (.inl _) => some false | (.inr _) => some true)
def outcome_rising_int.S (args : List AV) (v : AV) : Prop := ∃ (k : Nat) (a0 : (List Int)) (a1 : Int → Option Int) (f1 : Nat) (c1 : List AV) (S1 : List AV → AV → Prop) (r : Bool), args = [.lst false (a0.map (AV.int .i64)), .fn f1 c1] ∧ Enters Tryd.prog f1 ∧ VOk Tryd.prog f1 S1 ∧ (∀ bs, imms bs c1 = some c1) ∧ (∀ (y0 : Int) (z : Int), a1 y0 = some z → S1 ([.int .i64 y0] ++ c1) (.int .i64 z)) ∧ outcome_rising_int.f k a0 a1 = some r ∧ v = .bool r
theorem outcome_rising_int.ok : VOk Tryd.prog 34 outcome_rising_int.S := by
  refine V_ok Tryd.func34 rfl fun args v hS => ⟨?_, ?_⟩
  · obtain ⟨k, a0, a1, f1, c1, S1, r, rfl, hE1, hV1, hC1, hP1, H, rfl⟩ := hS
    exact Nat.le_of_ble_eq_true rfl
  · obtain ⟨k, a0, a1, f1, c1, S1, r, rfl, hE1, hV1, hC1, hP1, H, rfl⟩ := hS
    unfold outcome_rising_int.f at H
    have hB1 := fun k => imms_below k (hC1 [])
    refine T_seq ?_
    refine T_reg ?_
    refine RE.op (op_assign rfl rfl) rfl rfl rfl ?_
    refine RE.nil ⟨⟨[(0, .lst false (a0.map (AV.int .i64))), (1, .fn f1 c1)], []⟩, weak_sel ⟨rfl, rfl, trivial⟩ rfl, ?_⟩
    refine then_normal ?_
    refine T_seq ?_
    refine T_reg ?_
    refine RE.op (op_assign rfl rfl) rfl rfl rfl ?_
    refine RE.nil ⟨⟨[(0, .lst false (a0.map (AV.int .i64))), (1, .fn f1 c1), (5, .int .i64 (-1))], []⟩, weak_sel ⟨rfl, rfl, rfl, trivial⟩ rfl, ?_⟩
    refine then_normal ?_
    refine T_seq ?_
    refine T_seq ?_
    refine T_reg ?_
    refine RE.op (op_move rfl rfl) rfl rfl rfl ?_
    refine RE.op (op_len Tryd.underlying23 rfl rfl) rfl rfl rfl ?_
    refine RE.op (op_move rfl rfl) rfl rfl rfl ?_
    refine RE.nil ⟨⟨[(1, .fn f1 c1), (5, .int .i64 (-1)), (9, .lst false (a0.map (AV.int .i64))), (10, .int .i64 ((a0.map (AV.int .i64)).length : Int)), (11, .int .i64 0)], []⟩, weak_sel ⟨rfl, rfl, rfl, rfl, rfl, trivial⟩ rfl, ?_⟩
    refine then_normal ?_
    refine T_block ?_
    obtain ⟨o3, hj4, H⟩ := Option.bind_eq_some_iff.1 H
    refine T_loop_out ((fun (x_ : Int × Int) => ⟨[(1, .fn f1 c1), (5, .int .i64 x_.1), (9, .lst false (a0.map (AV.int .i64))), (10, .int .i64 ((a0.map (AV.int .i64)).length : Int)), (11, .int .i64 x_.2)], []⟩) ((-1), 0)) ((fun o => match o with | (.inl _) => .ret | (.inr _) => .exit 0) o3) ((fun o => match o with | (.inl ()) => ⟨[(4, .bool false)], []⟩ | (.inr ()) => ⟨[], []⟩) o3) (weak_sel (env' := [(1, .fn f1 c1), (5, .int .i64 (-1)), (9, .lst false (a0.map (AV.int .i64))), (10, .int .i64 ((a0.map (AV.int .i64)).length : Int)), (11, .int .i64 0)]) ⟨rfl, rfl, rfl, rfl, rfl, trivial⟩ rfl) ?_ ?_
    · refine T_fix (outcome_rising_int.l0 a0 a1) (fun (x_ : Int × Int) => ⟨[(1, .fn f1 c1), (5, .int .i64 x_.1), (9, .lst false (a0.map (AV.int .i64))), (10, .int .i64 ((a0.map (AV.int .i64)).length : Int)), (11, .int .i64 x_.2)], []⟩) (fun o => match o with | (.inl _) => .ret | (.inr _) => .exit 0) (fun o => match o with | (.inl ()) => ⟨[(4, .bool false)], []⟩ | (.inr ()) => ⟨[], []⟩) (fun _ => rfl) ?_ _ ((-1), 0) _ hj4
      clear H hj4
      intro k IH x_ o H
      obtain ⟨x1, x2⟩ := x_
      unfold outcome_rising_int.l0 at H
      (try simp only at H)
      refine T_seq ?_
      refine T_reg ?_
      refine RE.op (op_bin rfl rfl rfl rfl) rfl rfl rfl ?_
      refine RE.nil ⟨⟨[(1, .fn f1 c1), (5, .int .i64 x1), (9, .lst false (a0.map (AV.int .i64))), (10, .int .i64 ((a0.map (AV.int .i64)).length : Int)), (11, .int .i64 x2), (12, .bool (decide (x2 < ((a0.map (AV.int .i64)).length : Int))))], []⟩, weak_sel ⟨rfl, rfl, rfl, rfl, rfl, rfl, trivial⟩ rfl, ?_⟩
      refine then_normal ?_
      refine T_seq ?_
      by_cases h1 : x2 < ((a0.map (AV.int .i64)).length : Int)
      · rw [if_pos h1] at H
        refine T_yes rfl (decide_eq_true h1) ?_
        refine T_skip ?_
        refine then_normal ?_
        refine T_seq ?_
        refine T_block ?_
        refine T_seq ?_
        refine T_reg ?_
        obtain ⟨y5, hy6, H⟩ := Option.bind_eq_some_iff.1 H
        refine RE.op (op_iaddr Tryd.underlying23 ti3 rfl rfl rfl (idx_pos hy6) (idx_map hy6 (AV.int .i64)) rfl (Nat.le_of_ble_eq_true rfl)) rfl rfl rfl ?_
        refine RE.op (op_load_e ti3 rfl rfl rfl (idx_map hy6 (AV.int .i64)) rfl) rfl rfl rfl ?_
        refine RE.op (op_assign rfl rfl) rfl rfl rfl ?_
        refine RE.nil ⟨⟨[(1, .fn f1 c1), (5, .int .i64 x1), (7, .int .i64 y5), (9, .lst false (a0.map (AV.int .i64))), (10, .int .i64 ((a0.map (AV.int .i64)).length : Int)), (11, .int .i64 x2)], []⟩, weak_sel ⟨rfl, rfl, rfl, rfl, rfl, rfl, trivial⟩ rfl, ?_⟩
        refine then_normal ?_
        refine T_seq ?_
        refine T_reg ?_
        refine RE.op (op_move rfl rfl) rfl rfl rfl ?_
        refine RE.op (op_move rfl rfl) rfl rfl rfl ?_
        obtain ⟨t7, ht8, H⟩ := Option.bind_eq_some_iff.1 H
        refine RE.op (op_callp rfl rfl rfl hC1 hE1 hV1 (hP1 _ _ ht8)) rfl rfl rfl ?_
        refine RE.op (op_assign rfl rfl) rfl rfl rfl ?_
        refine RE.nil ⟨⟨[(1, .fn f1 c1), (5, .int .i64 x1), (8, .int .i64 t7), (9, .lst false (a0.map (AV.int .i64))), (10, .int .i64 ((a0.map (AV.int .i64)).length : Int)), (11, .int .i64 x2)], []⟩, weak_sel ⟨rfl, rfl, rfl, rfl, rfl, rfl, trivial⟩ rfl, ?_⟩
        refine then_normal ?_
        refine T_seq ?_
        refine T_seq ?_
        obtain ⟨x9, hj10, H⟩ := Option.bind_eq_some_iff.1 H
        refine T_reg_out ⟨[(1, .fn f1 c1), (8, .int .i64 t7), (9, .lst false (a0.map (AV.int .i64))), (10, .int .i64 ((a0.map (AV.int .i64)).length : Int)), (11, .int .i64 x2), (24, .bool x9)], []⟩ ?_ ?_
        · clear H
          have H := hj10
          clear hj10
          refine RE.op (op_move rfl rfl) rfl rfl rfl ?_
          refine RE.op (op_move rfl rfl) rfl rfl rfl ?_
          refine RE.op (op_bin rfl rfl rfl rfl) rfl rfl rfl ?_
          refine RE.op (op_move rfl rfl) rfl rfl rfl ?_
          by_cases h2 : t7 ≤ x1
          · rw [if_pos h2] at H
            refine RE.skip rfl rfl (getb (decide_eq_true h2) rfl) rfl rfl rfl ?_
            refine RE.skip rfl rfl (getb (decide_eq_true h2) rfl) rfl rfl rfl ?_
            refine RE.op (op_pick_true rfl (evb (decide_eq_true h2) rfl) rfl) rfl rfl rfl ?_
            simp only [Option.some.injEq] at H
            subst H
            exact RE.nil (weak_sel (env' := [(1, .fn f1 c1), (8, .int .i64 t7), (9, .lst false (a0.map (AV.int .i64))), (10, .int .i64 ((a0.map (AV.int .i64)).length : Int)), (11, .int .i64 x2), (24, .bool true)]) ⟨rfl, rfl, rfl, rfl, rfl, rfl, trivial⟩ rfl)
          · rw [if_neg h2] at H
            refine RE.opg (op_move rfl rfl) rfl rfl (getb (decide_eq_false h2) rfl) rfl rfl ?_
            refine RE.opg (op_bin rfl rfl rfl rfl) rfl rfl (getb (decide_eq_false h2) rfl) rfl rfl ?_
            refine RE.op (op_pick_false rfl (evb (decide_eq_false h2) rfl) rfl) rfl rfl rfl ?_
            simp only [Option.some.injEq] at H
            subst H
            exact RE.nil (weak_sel (env' := [(1, .fn f1 c1), (8, .int .i64 t7), (9, .lst false (a0.map (AV.int .i64))), (10, .int .i64 ((a0.map (AV.int .i64)).length : Int)), (11, .int .i64 x2), (24, .bool (decide (t7 ≥ 512)))]) ⟨rfl, rfl, rfl, rfl, rfl, rfl, trivial⟩ rfl)
        · clear hj10
          refine then_normal ?_
          by_cases h3 : x9 = true
          · rw [if_pos h3] at H
            refine T_yes rfl h3 ?_
            refine T_seq ?_
            refine T_reg ?_
            refine RE.op (op_assign rfl rfl) rfl rfl rfl ?_
            refine RE.nil ⟨⟨[(4, .bool false)], []⟩, weak_sel ⟨rfl, trivial⟩ rfl, ?_⟩
            refine then_normal ?_
            refine T_ret ?_
            simp only [Option.some.injEq] at H
            subst H
            refine then_ret ?_
            refine block_ret ?_
            refine then_ret ?_
            refine then_ret ?_
            exact ⟨rfl, weak_sel (env' := [(4, .bool false)]) ⟨rfl, trivial⟩ rfl⟩
          · rw [if_neg h3] at H
            refine T_no rfl (Bool.eq_false_iff.mpr h3) ?_
            refine T_skip ?_
            refine then_normal ?_
            refine T_reg ?_
            refine RE.op (op_move rfl rfl) rfl rfl rfl ?_
            refine RE.op (op_assign rfl rfl) rfl rfl rfl ?_
            refine RE.nil ⟨⟨[(1, .fn f1 c1), (5, .int .i64 t7), (9, .lst false (a0.map (AV.int .i64))), (10, .int .i64 ((a0.map (AV.int .i64)).length : Int)), (11, .int .i64 x2)], []⟩, weak_sel ⟨rfl, rfl, rfl, rfl, rfl, trivial⟩ rfl, ?_⟩
            refine block_normal ?_
            refine then_normal ?_
            refine T_reg ?_
            refine RE.op (op_bin rfl rfl rfl rfl) rfl rfl rfl ?_
            refine RE.op (op_move rfl rfl) rfl rfl rfl ?_
            refine RE.nil ⟨⟨[(1, .fn f1 c1), (5, .int .i64 t7), (9, .lst false (a0.map (AV.int .i64))), (10, .int .i64 ((a0.map (AV.int .i64)).length : Int)), (11, .int .i64 (IntKind.i64.wrap (x2 + 1)))], []⟩, weak_sel ⟨rfl, rfl, rfl, rfl, rfl, trivial⟩ rfl, ?_⟩
            refine then_normal ?_
            exact LoopAt.weak (weak_sel (env' := [(1, .fn f1 c1), (5, .int .i64 t7), (9, .lst false (a0.map (AV.int .i64))), (10, .int .i64 ((a0.map (AV.int .i64)).length : Int)), (11, .int .i64 (IntKind.i64.wrap (x2 + 1)))]) ⟨rfl, rfl, rfl, rfl, rfl, trivial⟩ rfl) (IH _ _ H)
      · rw [if_neg h1] at H
        refine T_no rfl (decide_eq_false h1) ?_
        refine T_exit ?_
        simp only [Option.some.injEq] at H
        subst H
        refine then_exit ?_
        refine then_exit ?_
        exact ⟨rfl, weak_sel (env' := []) trivial rfl⟩
    · clear hj4
      rcases o3 with _ | _
      · simp only [Option.some.injEq] at H
        subst H
        refine block_ret ?_
        refine then_ret ?_
        exact ret1 rfl rfl rfl
      · refine block_eq ?_
        refine then_normal ?_
        refine T_seq ?_
        refine T_reg ?_
        refine RE.op (op_assign rfl rfl) rfl rfl rfl ?_
        refine RE.nil ⟨⟨[(4, .bool true)], []⟩, weak_sel ⟨rfl, trivial⟩ rfl, ?_⟩
        refine then_normal ?_
        refine T_ret ?_
        simp only [Option.some.injEq] at H
        subst H
        exact ret1 rfl rfl rfl

/-! ### 44 bandplan/outcome.rising[bandplan/api.Winner] -/
def outcome_rising_api_Winner.l0 (a0 : (List S_api_Winner)) (a1 : S_api_Winner → Option Int) : Nat → (Int × Int) → Option (Sum (Int × Int × Int) (Unit))
  | 0, _ => none
  | k + 1, (x1, x2) => (if x2 < ((a0.map S_api_Winner.enc).length : Int) then (idx a0 x2).bind fun y8 => (a1 y8).bind fun t10 => ((if t10 ≤ x1 then some true else some (decide (t10 ≥ 512)))).bind fun x12 => (if x12 = true then some (.inl (y8.f_Station, y8.f_Option, y8.f_Payment)) else outcome_rising_api_Winner.l0 a0 a1 k (t10, IntKind.i64.wrap (x2 + 1))) else some (.inr ()))
def outcome_rising_api_Winner.f (k : Nat) (a0 : (List S_api_Winner)) (a1 : S_api_Winner → Option Int) : Option (Bool) := ((outcome_rising_api_Winner.l0 a0 a1 k ((-1), 0)).bind fun o => match o with | (.inl (x3, x4, x5)) => some false | (.inr _) => some true)
def outcome_rising_api_Winner.S (args : List AV) (v : AV) : Prop := ∃ (k : Nat) (a0 : (List S_api_Winner)) (a1 : S_api_Winner → Option Int) (f1 : Nat) (c1 : List AV) (S1 : List AV → AV → Prop) (r : Bool), args = [.lst false (a0.map S_api_Winner.enc), .fn f1 c1] ∧ Enters Tryd.prog f1 ∧ VOk Tryd.prog f1 S1 ∧ (∀ bs, imms bs c1 = some c1) ∧ (∀ (y0 : S_api_Winner) (z : Int), a1 y0 = some z → S1 ([S_api_Winner.enc y0] ++ c1) (.int .i64 z)) ∧ outcome_rising_api_Winner.f k a0 a1 = some r ∧ v = .bool r
theorem outcome_rising_api_Winner.ok : VOk Tryd.prog 44 outcome_rising_api_Winner.S := by
  refine V_ok Tryd.func44 rfl fun args v hS => ⟨?_, ?_⟩
  · obtain ⟨k, a0, a1, f1, c1, S1, r, rfl, hE1, hV1, hC1, hP1, H, rfl⟩ := hS
    exact Nat.le_of_ble_eq_true rfl
  · obtain ⟨k, a0, a1, f1, c1, S1, r, rfl, hE1, hV1, hC1, hP1, H, rfl⟩ := hS
    unfold outcome_rising_api_Winner.f at H
    have hB1 := fun k => imms_below k (hC1 [])
    refine T_seq ?_
    refine T_reg ?_
    refine RE.op (op_assign rfl rfl) rfl rfl rfl ?_
    refine RE.nil ⟨⟨[(0, .lst false (a0.map S_api_Winner.enc)), (1, .fn f1 c1)], []⟩, weak_sel ⟨rfl, rfl, trivial⟩ rfl, ?_⟩
    refine then_normal ?_
    refine T_seq ?_
    refine T_reg ?_
    refine RE.op (op_assign rfl rfl) rfl rfl rfl ?_
    refine RE.nil ⟨⟨[(0, .lst false (a0.map S_api_Winner.enc)), (1, .fn f1 c1), (5, .int .i64 (-1))], []⟩, weak_sel ⟨rfl, rfl, rfl, trivial⟩ rfl, ?_⟩
    refine then_normal ?_
    refine T_seq ?_
    refine T_seq ?_
    refine T_reg ?_
    refine RE.op (op_move rfl rfl) rfl rfl rfl ?_
    refine RE.op (op_len Tryd.underlying22 rfl rfl) rfl rfl rfl ?_
    refine RE.op (op_move rfl rfl) rfl rfl rfl ?_
    refine RE.nil ⟨⟨[(1, .fn f1 c1), (5, .int .i64 (-1)), (9, .lst false (a0.map S_api_Winner.enc)), (10, .int .i64 ((a0.map S_api_Winner.enc).length : Int)), (11, .int .i64 0)], []⟩, weak_sel ⟨rfl, rfl, rfl, rfl, rfl, trivial⟩ rfl, ?_⟩
    refine then_normal ?_
    refine T_block ?_
    obtain ⟨o6, hj7, H⟩ := Option.bind_eq_some_iff.1 H
    refine T_loop_out ((fun (x_ : Int × Int) => ⟨[(1, .fn f1 c1), (5, .int .i64 x_.1), (9, .lst false (a0.map S_api_Winner.enc)), (10, .int .i64 ((a0.map S_api_Winner.enc).length : Int)), (11, .int .i64 x_.2)], []⟩) ((-1), 0)) ((fun o => match o with | (.inl _) => .ret | (.inr _) => .exit 0) o6) ((fun o => match o with | (.inl (x3, x4, x5)) => ⟨[(4, .bool false)], [.cells [.int .i64 x3, .int .i64 x4, .int .i64 x5]]⟩ | (.inr ()) => ⟨[], []⟩) o6) (weak_sel (env' := [(1, .fn f1 c1), (5, .int .i64 (-1)), (9, .lst false (a0.map S_api_Winner.enc)), (10, .int .i64 ((a0.map S_api_Winner.enc).length : Int)), (11, .int .i64 0)]) ⟨rfl, rfl, rfl, rfl, rfl, trivial⟩ rfl) ?_ ?_
    · refine T_fix (outcome_rising_api_Winner.l0 a0 a1) (fun (x_ : Int × Int) => ⟨[(1, .fn f1 c1), (5, .int .i64 x_.1), (9, .lst false (a0.map S_api_Winner.enc)), (10, .int .i64 ((a0.map S_api_Winner.enc).length : Int)), (11, .int .i64 x_.2)], []⟩) (fun o => match o with | (.inl _) => .ret | (.inr _) => .exit 0) (fun o => match o with | (.inl (x3, x4, x5)) => ⟨[(4, .bool false)], [.cells [.int .i64 x3, .int .i64 x4, .int .i64 x5]]⟩ | (.inr ()) => ⟨[], []⟩) (fun _ => rfl) ?_ _ ((-1), 0) _ hj7
      clear H hj7
      intro k IH x_ o H
      obtain ⟨x1, x2⟩ := x_
      unfold outcome_rising_api_Winner.l0 at H
      (try simp only at H)
      refine T_seq ?_
      refine T_reg ?_
      refine RE.op (op_bin rfl rfl rfl rfl) rfl rfl rfl ?_
      refine RE.nil ⟨⟨[(1, .fn f1 c1), (5, .int .i64 x1), (9, .lst false (a0.map S_api_Winner.enc)), (10, .int .i64 ((a0.map S_api_Winner.enc).length : Int)), (11, .int .i64 x2), (12, .bool (decide (x2 < ((a0.map S_api_Winner.enc).length : Int))))], []⟩, weak_sel ⟨rfl, rfl, rfl, rfl, rfl, rfl, trivial⟩ rfl, ?_⟩
      refine then_normal ?_
      refine T_seq ?_
      by_cases h1 : x2 < ((a0.map S_api_Winner.enc).length : Int)
      · rw [if_pos h1] at H
        refine T_yes rfl (decide_eq_true h1) ?_
        refine T_skip ?_
        refine then_normal ?_
        refine T_seq ?_
        refine T_block ?_
        refine T_seq ?_
        refine T_reg ?_
        obtain ⟨y8, hy9, H⟩ := Option.bind_eq_some_iff.1 H
        refine RE.op (op_iaddr Tryd.underlying22 ti48 rfl rfl rfl (idx_pos hy9) (idx_map hy9 S_api_Winner.enc) rfl (Nat.le_of_ble_eq_true rfl)) rfl rfl rfl ?_
        refine RE.op (op_load_agg_e (ds := [.int .i64 y8.f_Station, .int .i64 y8.f_Option, .int .i64 y8.f_Payment]) ti48 rfl rfl rfl (idx_map hy9 S_api_Winner.enc) (Nat.le_of_ble_eq_true rfl) rfl) rfl rfl rfl ?_
        refine RE.op (op_alloc (k := 0) ti48 rfl rfl rfl rfl) rfl rfl rfl ?_
        refine RE.op0 (op_store (cs' := [.int .i64 y8.f_Station, .int .i64 y8.f_Option, .int .i64 y8.f_Payment]) ti48 rfl rfl rfl rfl rfl rfl (Nat.le_of_ble_eq_true rfl) rfl) rfl rfl ?_
        refine RE.nil ⟨⟨[(1, .fn f1 c1), (5, .int .i64 x1), (7, .ptr 0 0), (9, .lst false (a0.map S_api_Winner.enc)), (10, .int .i64 ((a0.map S_api_Winner.enc).length : Int)), (11, .int .i64 x2)], [.cells [.int .i64 y8.f_Station, .int .i64 y8.f_Option, .int .i64 y8.f_Payment]]⟩, weak_sel ⟨rfl, rfl, rfl, rfl, rfl, rfl, trivial⟩ rfl, ?_⟩
        refine then_normal ?_
        refine T_seq ?_
        refine T_reg ?_
        refine RE.op (op_move rfl rfl) rfl rfl rfl ?_
        refine RE.op (op_load_agg (ds := [.int .i64 y8.f_Station, .int .i64 y8.f_Option, .int .i64 y8.f_Payment]) ti48 rfl rfl rfl rfl (Nat.le_of_ble_eq_true rfl) rfl) rfl rfl rfl ?_
        obtain ⟨t10, ht11, H⟩ := Option.bind_eq_some_iff.1 H
        refine RE.op (op_callp rfl rfl rfl hC1 hE1 hV1 (hP1 _ _ ht11)) rfl rfl rfl ?_
        refine RE.op (op_assign rfl rfl) rfl rfl rfl ?_
        refine RE.nil ⟨⟨[(1, .fn f1 c1), (5, .int .i64 x1), (8, .int .i64 t10), (9, .lst false (a0.map S_api_Winner.enc)), (10, .int .i64 ((a0.map S_api_Winner.enc).length : Int)), (11, .int .i64 x2)], [.cells [.int .i64 y8.f_Station, .int .i64 y8.f_Option, .int .i64 y8.f_Payment]]⟩, weak_sel ⟨rfl, rfl, rfl, rfl, rfl, rfl, trivial⟩ rfl, ?_⟩
        refine then_normal ?_
        refine T_seq ?_
        refine T_seq ?_
        obtain ⟨x12, hj13, H⟩ := Option.bind_eq_some_iff.1 H
        refine T_reg_out ⟨[(1, .fn f1 c1), (8, .int .i64 t10), (9, .lst false (a0.map S_api_Winner.enc)), (10, .int .i64 ((a0.map S_api_Winner.enc).length : Int)), (11, .int .i64 x2), (24, .bool x12)], [.cells [.int .i64 y8.f_Station, .int .i64 y8.f_Option, .int .i64 y8.f_Payment]]⟩ ?_ ?_
        · clear H
          have H := hj13
          clear hj13
          refine RE.op (op_move rfl rfl) rfl rfl rfl ?_
          refine RE.op (op_move rfl rfl) rfl rfl rfl ?_
          refine RE.op (op_bin rfl rfl rfl rfl) rfl rfl rfl ?_
          refine RE.op (op_move rfl rfl) rfl rfl rfl ?_
          by_cases h2 : t10 ≤ x1
          · rw [if_pos h2] at H
            refine RE.skip rfl rfl (getb (decide_eq_true h2) rfl) rfl rfl rfl ?_
            refine RE.skip rfl rfl (getb (decide_eq_true h2) rfl) rfl rfl rfl ?_
            refine RE.op (op_pick_true rfl (evb (decide_eq_true h2) rfl) rfl) rfl rfl rfl ?_
            simp only [Option.some.injEq] at H
            subst H
            exact RE.nil (weak_sel (env' := [(1, .fn f1 c1), (8, .int .i64 t10), (9, .lst false (a0.map S_api_Winner.enc)), (10, .int .i64 ((a0.map S_api_Winner.enc).length : Int)), (11, .int .i64 x2), (24, .bool true)]) ⟨rfl, rfl, rfl, rfl, rfl, rfl, trivial⟩ rfl)
          · rw [if_neg h2] at H
            refine RE.opg (op_move rfl rfl) rfl rfl (getb (decide_eq_false h2) rfl) rfl rfl ?_
            refine RE.opg (op_bin rfl rfl rfl rfl) rfl rfl (getb (decide_eq_false h2) rfl) rfl rfl ?_
            refine RE.op (op_pick_false rfl (evb (decide_eq_false h2) rfl) rfl) rfl rfl rfl ?_
            simp only [Option.some.injEq] at H
            subst H
            exact RE.nil (weak_sel (env' := [(1, .fn f1 c1), (8, .int .i64 t10), (9, .lst false (a0.map S_api_Winner.enc)), (10, .int .i64 ((a0.map S_api_Winner.enc).length : Int)), (11, .int .i64 x2), (24, .bool (decide (t10 ≥ 512)))]) ⟨rfl, rfl, rfl, rfl, rfl, rfl, trivial⟩ rfl)
        · clear hj13
          refine then_normal ?_
          by_cases h3 : x12 = true
          · rw [if_pos h3] at H
            refine T_yes rfl h3 ?_
            refine T_seq ?_
            refine T_reg ?_
            refine RE.op (op_assign rfl rfl) rfl rfl rfl ?_
            refine RE.nil ⟨⟨[(4, .bool false)], [.cells [.int .i64 y8.f_Station, .int .i64 y8.f_Option, .int .i64 y8.f_Payment]]⟩, weak_sel ⟨rfl, trivial⟩ rfl, ?_⟩
            refine then_normal ?_
            refine T_ret ?_
            simp only [Option.some.injEq] at H
            subst H
            refine then_ret ?_
            refine block_ret ?_
            refine then_ret ?_
            refine then_ret ?_
            exact ⟨rfl, weak_sel (env' := [(4, .bool false)]) ⟨rfl, trivial⟩ rfl⟩
          · rw [if_neg h3] at H
            refine T_no rfl (Bool.eq_false_iff.mpr h3) ?_
            refine T_skip ?_
            refine then_normal ?_
            refine T_reg ?_
            refine RE.op (op_move rfl rfl) rfl rfl rfl ?_
            refine RE.op (op_assign rfl rfl) rfl rfl rfl ?_
            refine RE.nil ⟨⟨[(1, .fn f1 c1), (5, .int .i64 t10), (9, .lst false (a0.map S_api_Winner.enc)), (10, .int .i64 ((a0.map S_api_Winner.enc).length : Int)), (11, .int .i64 x2)], [.cells [.int .i64 y8.f_Station, .int .i64 y8.f_Option, .int .i64 y8.f_Payment]]⟩, weak_sel ⟨rfl, rfl, rfl, rfl, rfl, trivial⟩ rfl, ?_⟩
            refine block_normal ?_
            refine then_normal ?_
            refine T_reg ?_
            refine RE.op (op_bin rfl rfl rfl rfl) rfl rfl rfl ?_
            refine RE.op (op_move rfl rfl) rfl rfl rfl ?_
            refine RE.nil ⟨⟨[(1, .fn f1 c1), (5, .int .i64 t10), (9, .lst false (a0.map S_api_Winner.enc)), (10, .int .i64 ((a0.map S_api_Winner.enc).length : Int)), (11, .int .i64 (IntKind.i64.wrap (x2 + 1)))], [.cells [.int .i64 y8.f_Station, .int .i64 y8.f_Option, .int .i64 y8.f_Payment]]⟩, weak_sel ⟨rfl, rfl, rfl, rfl, rfl, trivial⟩ rfl, ?_⟩
            refine then_normal ?_
            exact LoopAt.weak (weak_cut (env' := [(1, .fn f1 c1), (5, .int .i64 t10), (9, .lst false (a0.map S_api_Winner.enc)), (10, .int .i64 ((a0.map S_api_Winner.enc).length : Int)), (11, .int .i64 (IntKind.i64.wrap (x2 + 1)))]) (bs' := []) 0 ⟨rfl, rfl, rfl, rfl, rfl, trivial⟩ rfl rfl (by simp [belowE, below, hB1]) rfl) (IH _ _ H)
      · rw [if_neg h1] at H
        refine T_no rfl (decide_eq_false h1) ?_
        refine T_exit ?_
        simp only [Option.some.injEq] at H
        subst H
        refine then_exit ?_
        refine then_exit ?_
        exact ⟨rfl, weak_sel (env' := []) trivial rfl⟩
    · clear hj7
      rcases o6 with ⟨x3, x4, x5⟩ | _
      · simp only [Option.some.injEq] at H
        subst H
        refine block_ret ?_
        refine then_ret ?_
        exact ret1 rfl rfl rfl
      · refine block_eq ?_
        refine then_normal ?_
        refine T_seq ?_
        refine T_reg ?_
        refine RE.op (op_assign rfl rfl) rfl rfl rfl ?_
        refine RE.nil ⟨⟨[(4, .bool true)], []⟩, weak_sel ⟨rfl, trivial⟩ rfl, ?_⟩
        refine then_normal ?_
        refine T_ret ?_
        simp only [Option.some.injEq] at H
        subst H
        exact ret1 rfl rfl rfl

/-! ### 45 bandplan/outcome.winners$1 -/
def outcome_winners_1.f (a0 : S_api_Winner) : Option (Int) := some a0.f_Station
def outcome_winners_1.S (args : List AV) (v : AV) : Prop := ∃ (a0 : S_api_Winner) (r : Int), args = [S_api_Winner.enc a0] ∧ outcome_winners_1.f a0 = some r ∧ v = .int .i64 r
theorem outcome_winners_1.ok : VOk Tryd.prog 45 outcome_winners_1.S := by
  refine V_ok Tryd.func45 rfl fun args v hS => ⟨?_, ?_⟩
  · obtain ⟨a0, r, rfl, H, rfl⟩ := hS
    exact Nat.le_of_ble_eq_true rfl
  · obtain ⟨a0, r, rfl, H, rfl⟩ := hS
    unfold outcome_winners_1.f at H
    refine T_seq ?_
    refine T_reg ?_
    refine RE.op (op_box (k := 0) rfl rfl rfl rfl) rfl rfl rfl ?_
    refine RE.op (op_assign rfl rfl) rfl rfl rfl ?_
    refine RE.nil ⟨⟨[(1, .ptr 0 0)], [.cells [.int .i64 a0.f_Station, .int .i64 a0.f_Option, .int .i64 a0.f_Payment]]⟩, weak_sel ⟨rfl, trivial⟩ rfl, ?_⟩
    refine then_normal ?_
    refine T_seq ?_
    refine T_reg ?_
    refine RE.op (op_faddr Tryd.underlying48 rfl ti3 rfl rfl rfl) rfl rfl rfl ?_
    refine RE.op (op_load ti3 rfl rfl rfl rfl rfl) rfl rfl rfl ?_
    refine RE.op (op_assign rfl rfl) rfl rfl rfl ?_
    refine RE.nil ⟨⟨[(2, .int .i64 a0.f_Station)], [.cells [.int .i64 a0.f_Station, .int .i64 a0.f_Option, .int .i64 a0.f_Payment]]⟩, weak_sel ⟨rfl, trivial⟩ rfl, ?_⟩
    refine then_normal ?_
    refine T_ret ?_
    simp only [Option.some.injEq] at H
    subst H
    exact ret1 rfl rfl rfl

/-! ### 47 bandplan/outcome.winners$2 -/
def outcome_winners_2.f (a0 : S_api_Winner) : Option (Bool) := ((if a0.f_Option < 0 then some true else (if a0.f_Option > 2 then some true else (if a0.f_Payment < 0 then some true else some (decide (a0.f_Payment > 1000000000)))))).bind fun x1 => some x1
def outcome_winners_2.S (args : List AV) (v : AV) : Prop := ∃ (a0 : S_api_Winner) (r : Bool), args = [S_api_Winner.enc a0] ∧ outcome_winners_2.f a0 = some r ∧ v = .bool r
theorem outcome_winners_2.ok : VOk Tryd.prog 47 outcome_winners_2.S := by
  refine V_ok Tryd.func47 rfl fun args v hS => ⟨?_, ?_⟩
  · obtain ⟨a0, r, rfl, H, rfl⟩ := hS
    exact Nat.le_of_ble_eq_true rfl
  · obtain ⟨a0, r, rfl, H, rfl⟩ := hS
    unfold outcome_winners_2.f at H
    refine T_seq ?_
    refine T_reg ?_
    refine RE.op (op_box (k := 0) rfl rfl rfl rfl) rfl rfl rfl ?_
    refine RE.op (op_assign rfl rfl) rfl rfl rfl ?_
    refine RE.nil ⟨⟨[(1, .ptr 0 0)], [.cells [.int .i64 a0.f_Station, .int .i64 a0.f_Option, .int .i64 a0.f_Payment]]⟩, weak_sel ⟨rfl, trivial⟩ rfl, ?_⟩
    refine then_normal ?_
    refine T_seq ?_
    obtain ⟨x1, hj2, H⟩ := Option.bind_eq_some_iff.1 H
    refine T_reg_out ⟨[(2, .bool x1)], [.cells [.int .i64 a0.f_Station, .int .i64 a0.f_Option, .int .i64 a0.f_Payment]]⟩ ?_ ?_
    · clear H
      have H := hj2
      clear hj2
      refine RE.op (op_faddr Tryd.underlying48 rfl ti3 rfl rfl rfl) rfl rfl rfl ?_
      refine RE.op (op_load ti3 rfl rfl rfl rfl rfl) rfl rfl rfl ?_
      refine RE.op (op_bin rfl rfl rfl rfl) rfl rfl rfl ?_
      refine RE.op (op_move rfl rfl) rfl rfl rfl ?_
      by_cases h1 : a0.f_Option < 0
      · rw [if_pos h1] at H
        refine RE.skip rfl rfl (getb (decide_eq_true h1) rfl) rfl rfl rfl ?_
        refine RE.skip rfl rfl (getb (decide_eq_true h1) rfl) rfl rfl rfl ?_
        refine RE.skip rfl rfl (getb (decide_eq_true h1) rfl) rfl rfl rfl ?_
        refine RE.op (op_pick_true rfl (evb (decide_eq_true h1) rfl) rfl) rfl rfl rfl ?_
        refine RE.op (op_move rfl rfl) rfl rfl rfl ?_
        refine RE.skip rfl rfl rfl rfl rfl rfl ?_
        refine RE.skip rfl rfl rfl rfl rfl rfl ?_
        refine RE.skip rfl rfl rfl rfl rfl rfl ?_
        refine RE.op (op_pick_true rfl rfl rfl) rfl rfl rfl ?_
        refine RE.op (op_move rfl rfl) rfl rfl rfl ?_
        refine RE.skip rfl rfl rfl rfl rfl rfl ?_
        refine RE.skip rfl rfl rfl rfl rfl rfl ?_
        refine RE.skip rfl rfl rfl rfl rfl rfl ?_
        refine RE.op (op_pick_true rfl rfl rfl) rfl rfl rfl ?_
        refine RE.op (op_assign rfl rfl) rfl rfl rfl ?_
        simp only [Option.some.injEq] at H
        subst H
        exact RE.nil (weak_sel (env' := [(2, .bool true)]) ⟨rfl, trivial⟩ rfl)
      · rw [if_neg h1] at H
        refine RE.opg (op_faddr Tryd.underlying48 rfl ti3 rfl rfl rfl) rfl rfl (getb (decide_eq_false h1) rfl) rfl rfl ?_
        refine RE.opg (op_load ti3 rfl rfl rfl rfl rfl) rfl rfl (getb (decide_eq_false h1) rfl) rfl rfl ?_
        refine RE.opg (op_bin rfl rfl rfl rfl) rfl rfl (getb (decide_eq_false h1) rfl) rfl rfl ?_
        refine RE.op (op_pick_false rfl (evb (decide_eq_false h1) rfl) rfl) rfl rfl rfl ?_
        refine RE.op (op_move rfl rfl) rfl rfl rfl ?_
        by_cases h2 : a0.f_Option > 2
        · rw [if_pos h2] at H
          refine RE.skip rfl rfl (getb (decide_eq_true h2) rfl) rfl rfl rfl ?_
          refine RE.skip rfl rfl (getb (decide_eq_true h2) rfl) rfl rfl rfl ?_
          refine RE.skip rfl rfl (getb (decide_eq_true h2) rfl) rfl rfl rfl ?_
          refine RE.op (op_pick_true rfl (evb (decide_eq_true h2) rfl) rfl) rfl rfl rfl ?_
          refine RE.op (op_move rfl rfl) rfl rfl rfl ?_
          refine RE.skip rfl rfl rfl rfl rfl rfl ?_
          refine RE.skip rfl rfl rfl rfl rfl rfl ?_
          refine RE.skip rfl rfl rfl rfl rfl rfl ?_
          refine RE.op (op_pick_true rfl rfl rfl) rfl rfl rfl ?_
          refine RE.op (op_assign rfl rfl) rfl rfl rfl ?_
          simp only [Option.some.injEq] at H
          subst H
          exact RE.nil (weak_sel (env' := [(2, .bool true)]) ⟨rfl, trivial⟩ rfl)
        · rw [if_neg h2] at H
          refine RE.opg (op_faddr Tryd.underlying48 rfl ti3 rfl rfl rfl) rfl rfl (getb (decide_eq_false h2) rfl) rfl rfl ?_
          refine RE.opg (op_load ti3 rfl rfl rfl rfl rfl) rfl rfl (getb (decide_eq_false h2) rfl) rfl rfl ?_
          refine RE.opg (op_bin rfl rfl rfl rfl) rfl rfl (getb (decide_eq_false h2) rfl) rfl rfl ?_
          refine RE.op (op_pick_false rfl (evb (decide_eq_false h2) rfl) rfl) rfl rfl rfl ?_
          refine RE.op (op_move rfl rfl) rfl rfl rfl ?_
          by_cases h3 : a0.f_Payment < 0
          · rw [if_pos h3] at H
            refine RE.skip rfl rfl (getb (decide_eq_true h3) rfl) rfl rfl rfl ?_
            refine RE.skip rfl rfl (getb (decide_eq_true h3) rfl) rfl rfl rfl ?_
            refine RE.skip rfl rfl (getb (decide_eq_true h3) rfl) rfl rfl rfl ?_
            refine RE.op (op_pick_true rfl (evb (decide_eq_true h3) rfl) rfl) rfl rfl rfl ?_
            refine RE.op (op_assign rfl rfl) rfl rfl rfl ?_
            simp only [Option.some.injEq] at H
            subst H
            exact RE.nil (weak_sel (env' := [(2, .bool true)]) ⟨rfl, trivial⟩ rfl)
          · rw [if_neg h3] at H
            refine RE.opg (op_faddr Tryd.underlying48 rfl ti3 rfl rfl rfl) rfl rfl (getb (decide_eq_false h3) rfl) rfl rfl ?_
            refine RE.opg (op_load ti3 rfl rfl rfl rfl rfl) rfl rfl (getb (decide_eq_false h3) rfl) rfl rfl ?_
            refine RE.opg (op_bin rfl rfl rfl rfl) rfl rfl (getb (decide_eq_false h3) rfl) rfl rfl ?_
            refine RE.op (op_pick_false rfl (evb (decide_eq_false h3) rfl) rfl) rfl rfl rfl ?_
            refine RE.op (op_assign rfl rfl) rfl rfl rfl ?_
            simp only [Option.some.injEq] at H
            subst H
            exact RE.nil (weak_sel (env' := [(2, .bool (decide (a0.f_Payment > 1000000000)))]) ⟨rfl, trivial⟩ rfl)
    · clear hj2
      refine then_normal ?_
      refine T_ret ?_
      simp only [Option.some.injEq] at H
      subst H
      exact ret1 rfl rfl rfl

/-! ### 48 slices.IndexFunc[[]bandplan/api.Winner,bandplan/api.Winner] -/
def slices_IndexFunc_api_Winner_api_Winner.l0 (a0 : (List S_api_Winner)) (a1 : S_api_Winner → Option Bool) : Nat → Int → Option (Sum (Int) (Unit))
  | 0, _ => none
  | k + 1, x1 => (if x1 < ((a0.map S_api_Winner.enc).length : Int) then (idx a0 x1).bind fun y5 => (a1 y5).bind fun t7 => (if t7 = true then some (.inl x1) else slices_IndexFunc_api_Winner_api_Winner.l0 a0 a1 k (IntKind.i64.wrap (x1 + 1))) else some (.inr ()))
def slices_IndexFunc_api_Winner_api_Winner.f (k : Nat) (a0 : (List S_api_Winner)) (a1 : S_api_Winner → Option Bool) : Option (Int) := ((slices_IndexFunc_api_Winner_api_Winner.l0 a0 a1 k 0).bind fun o => match o with | (.inl x2) => some x2 | (.inr _) => some (-1))
def slices_IndexFunc_api_Winner_api_Winner.S (args : List AV) (v : AV) : Prop := ∃ (k : Nat) (a0 : (List S_api_Winner)) (a1 : S_api_Winner → Option Bool) (f1 : Nat) (c1 : List AV) (S1 : List AV → AV → Prop) (r : Int), args = [.lst false (a0.map S_api_Winner.enc), .fn f1 c1] ∧ Enters Tryd.prog f1 ∧ VOk Tryd.prog f1 S1 ∧ (∀ bs, imms bs c1 = some c1) ∧ (∀ (y0 : S_api_Winner) (z : Bool), a1 y0 = some z → S1 ([S_api_Winner.enc y0] ++ c1) (.bool z)) ∧ slices_IndexFunc_api_Winner_api_Winner.f k a0 a1 = some r ∧ v = .int .i64 r
theorem slices_IndexFunc_api_Winner_api_Winner.ok : VOk Tryd.prog 48 slices_IndexFunc_api_Winner_api_Winner.S := by
  refine V_ok Tryd.func48 rfl fun args v hS => ⟨?_, ?_⟩
  · obtain ⟨k, a0, a1, f1, c1, S1, r, rfl, hE1, hV1, hC1, hP1, H, rfl⟩ := hS
    exact Nat.le_of_ble_eq_true rfl
  · obtain ⟨k, a0, a1, f1, c1, S1, r, rfl, hE1, hV1, hC1, hP1, H, rfl⟩ := hS
    unfold slices_IndexFunc_api_Winner_api_Winner.f at H
    have hB1 := fun k => imms_below k (hC1 [])
    refine T_seq ?_
    refine T_reg ?_
    refine RE.op (op_assign rfl rfl) rfl rfl rfl ?_
    refine RE.nil ⟨⟨[(0, .lst false (a0.map S_api_Winner.enc)), (1, .fn f1 c1)], []⟩, weak_sel ⟨rfl, rfl, trivial⟩ rfl, ?_⟩
    refine then_normal ?_
    refine T_seq ?_
    refine T_seq ?_
    refine T_reg ?_
    refine RE.op (op_move rfl rfl) rfl rfl rfl ?_
    refine RE.op (op_len Tryd.underlying22 rfl rfl) rfl rfl rfl ?_
    refine RE.op (op_move rfl rfl) rfl rfl rfl ?_
    refine RE.nil ⟨⟨[(0, .lst false (a0.map S_api_Winner.enc)), (1, .fn f1 c1), (7, .int .i64 ((a0.map S_api_Winner.enc).length : Int)), (8, .int .i64 0)], []⟩, weak_sel ⟨rfl, rfl, rfl, rfl, trivial⟩ rfl, ?_⟩
    refine then_normal ?_
    refine T_block ?_
    obtain ⟨o3, hj4, H⟩ := Option.bind_eq_some_iff.1 H
    refine T_loop_out ((fun (x_ : Int) => ⟨[(0, .lst false (a0.map S_api_Winner.enc)), (1, .fn f1 c1), (7, .int .i64 ((a0.map S_api_Winner.enc).length : Int)), (8, .int .i64 x_)], []⟩) 0) ((fun o => match o with | (.inl _) => .ret | (.inr _) => .exit 0) o3) ((fun o => match o with | (.inl x2) => ⟨[(4, .int .i64 x2)], []⟩ | (.inr ()) => ⟨[], []⟩) o3) (weak_sel (env' := [(0, .lst false (a0.map S_api_Winner.enc)), (1, .fn f1 c1), (7, .int .i64 ((a0.map S_api_Winner.enc).length : Int)), (8, .int .i64 0)]) ⟨rfl, rfl, rfl, rfl, trivial⟩ rfl) ?_ ?_
    · refine T_fix (slices_IndexFunc_api_Winner_api_Winner.l0 a0 a1) (fun (x_ : Int) => ⟨[(0, .lst false (a0.map S_api_Winner.enc)), (1, .fn f1 c1), (7, .int .i64 ((a0.map S_api_Winner.enc).length : Int)), (8, .int .i64 x_)], []⟩) (fun o => match o with | (.inl _) => .ret | (.inr _) => .exit 0) (fun o => match o with | (.inl x2) => ⟨[(4, .int .i64 x2)], []⟩ | (.inr ()) => ⟨[], []⟩) (fun _ => rfl) ?_ _ 0 _ hj4
      clear H hj4
      intro k IH x1 o H
      unfold slices_IndexFunc_api_Winner_api_Winner.l0 at H
      (try simp only at H)
      refine T_seq ?_
      refine T_reg ?_
      refine RE.op (op_bin rfl rfl rfl rfl) rfl rfl rfl ?_
      refine RE.nil ⟨⟨[(0, .lst false (a0.map S_api_Winner.enc)), (1, .fn f1 c1), (7, .int .i64 ((a0.map S_api_Winner.enc).length : Int)), (8, .int .i64 x1), (9, .bool (decide (x1 < ((a0.map S_api_Winner.enc).length : Int))))], []⟩, weak_sel ⟨rfl, rfl, rfl, rfl, rfl, trivial⟩ rfl, ?_⟩
      refine then_normal ?_
      refine T_seq ?_
      by_cases h1 : x1 < ((a0.map S_api_Winner.enc).length : Int)
      · rw [if_pos h1] at H
        refine T_yes rfl (decide_eq_true h1) ?_
        refine T_skip ?_
        refine then_normal ?_
        refine T_seq ?_
        refine T_block ?_
        refine T_seq ?_
        refine T_reg ?_
        refine RE.op (op_move rfl rfl) rfl rfl rfl ?_
        refine RE.op (op_assign rfl rfl) rfl rfl rfl ?_
        refine RE.nil ⟨⟨[(0, .lst false (a0.map S_api_Winner.enc)), (1, .fn f1 c1), (5, .int .i64 x1), (7, .int .i64 ((a0.map S_api_Winner.enc).length : Int)), (8, .int .i64 x1)], []⟩, weak_sel ⟨rfl, rfl, rfl, rfl, rfl, trivial⟩ rfl, ?_⟩
        refine then_normal ?_
        refine T_seq ?_
        refine T_reg ?_
        refine RE.op (op_move rfl rfl) rfl rfl rfl ?_
        refine RE.op (op_move rfl rfl) rfl rfl rfl ?_
        refine RE.op (op_move rfl rfl) rfl rfl rfl ?_
        obtain ⟨y5, hy6, H⟩ := Option.bind_eq_some_iff.1 H
        refine RE.op (op_iaddr Tryd.underlying22 ti48 rfl rfl rfl (idx_pos hy6) (idx_map hy6 S_api_Winner.enc) rfl (Nat.le_of_ble_eq_true rfl)) rfl rfl rfl ?_
        refine RE.op (op_load_agg_e (ds := [.int .i64 y5.f_Station, .int .i64 y5.f_Option, .int .i64 y5.f_Payment]) ti48 rfl rfl rfl (idx_map hy6 S_api_Winner.enc) (Nat.le_of_ble_eq_true rfl) rfl) rfl rfl rfl ?_
        obtain ⟨t7, ht8, H⟩ := Option.bind_eq_some_iff.1 H
        refine RE.op (op_callp rfl rfl rfl hC1 hE1 hV1 (hP1 _ _ ht8)) rfl rfl rfl ?_
        refine RE.nil ⟨⟨[(0, .lst false (a0.map S_api_Winner.enc)), (1, .fn f1 c1), (5, .int .i64 x1), (7, .int .i64 ((a0.map S_api_Winner.enc).length : Int)), (8, .int .i64 x1), (16, .bool t7)], []⟩, weak_sel ⟨rfl, rfl, rfl, rfl, rfl, rfl, trivial⟩ rfl, ?_⟩
        refine then_normal ?_
        by_cases h2 : t7 = true
        · rw [if_pos h2] at H
          refine T_yes rfl h2 ?_
          refine T_seq ?_
          refine T_reg ?_
          refine RE.op (op_move rfl rfl) rfl rfl rfl ?_
          refine RE.op (op_assign rfl rfl) rfl rfl rfl ?_
          refine RE.nil ⟨⟨[(4, .int .i64 x1)], []⟩, weak_sel ⟨rfl, trivial⟩ rfl, ?_⟩
          refine then_normal ?_
          refine T_ret ?_
          simp only [Option.some.injEq] at H
          subst H
          refine block_ret ?_
          refine then_ret ?_
          refine then_ret ?_
          exact ⟨rfl, weak_sel (env' := [(4, .int .i64 x1)]) ⟨rfl, trivial⟩ rfl⟩
        · rw [if_neg h2] at H
          refine T_no rfl (Bool.eq_false_iff.mpr h2) ?_
          refine T_skip ?_
          refine block_normal ?_
          refine then_normal ?_
          refine T_reg ?_
          refine RE.op (op_bin rfl rfl rfl rfl) rfl rfl rfl ?_
          refine RE.op (op_move rfl rfl) rfl rfl rfl ?_
          refine RE.nil ⟨⟨[(0, .lst false (a0.map S_api_Winner.enc)), (1, .fn f1 c1), (7, .int .i64 ((a0.map S_api_Winner.enc).length : Int)), (8, .int .i64 (IntKind.i64.wrap (x1 + 1)))], []⟩, weak_sel ⟨rfl, rfl, rfl, rfl, trivial⟩ rfl, ?_⟩
          refine then_normal ?_
          exact LoopAt.weak (weak_sel (env' := [(0, .lst false (a0.map S_api_Winner.enc)), (1, .fn f1 c1), (7, .int .i64 ((a0.map S_api_Winner.enc).length : Int)), (8, .int .i64 (IntKind.i64.wrap (x1 + 1)))]) ⟨rfl, rfl, rfl, rfl, trivial⟩ rfl) (IH _ _ H)
      · rw [if_neg h1] at H
        refine T_no rfl (decide_eq_false h1) ?_
        refine T_exit ?_
        simp only [Option.some.injEq] at H
        subst H
        refine then_exit ?_
        refine then_exit ?_
        exact ⟨rfl, weak_sel (env' := []) trivial rfl⟩
    · clear hj4
      rcases o3 with x2 | _
      · simp only [Option.some.injEq] at H
        subst H
        refine block_ret ?_
        refine then_ret ?_
        exact ret1 rfl rfl rfl
      · refine block_eq ?_
        refine then_normal ?_
        refine T_seq ?_
        refine T_reg ?_
        refine RE.op (op_assign rfl rfl) rfl rfl rfl ?_
        refine RE.nil ⟨⟨[(4, .int .i64 (-1))], []⟩, weak_sel ⟨rfl, trivial⟩ rfl, ?_⟩
        refine then_normal ?_
        refine T_ret ?_
        simp only [Option.some.injEq] at H
        subst H
        exact ret1 rfl rfl rfl

/-! ### 46 slices.ContainsFunc[[]bandplan/api.Winner,bandplan/api.Winner] -/
def slices_ContainsFunc_api_Winner_api_Winner.f (k : Nat) (a0 : (List S_api_Winner)) (a1 : S_api_Winner → Option Bool) : Option (Bool) := (slices_IndexFunc_api_Winner_api_Winner.f k a0 a1).bind fun t1 => some (decide (t1 ≥ 0))
def slices_ContainsFunc_api_Winner_api_Winner.S (args : List AV) (v : AV) : Prop := ∃ (k : Nat) (a0 : (List S_api_Winner)) (a1 : S_api_Winner → Option Bool) (f1 : Nat) (c1 : List AV) (S1 : List AV → AV → Prop) (r : Bool), args = [.lst false (a0.map S_api_Winner.enc), .fn f1 c1] ∧ Enters Tryd.prog f1 ∧ VOk Tryd.prog f1 S1 ∧ (∀ bs, imms bs c1 = some c1) ∧ (∀ (y0 : S_api_Winner) (z : Bool), a1 y0 = some z → S1 ([S_api_Winner.enc y0] ++ c1) (.bool z)) ∧ slices_ContainsFunc_api_Winner_api_Winner.f k a0 a1 = some r ∧ v = .bool r
theorem slices_ContainsFunc_api_Winner_api_Winner.ok : VOk Tryd.prog 46 slices_ContainsFunc_api_Winner_api_Winner.S := by
  refine V_ok Tryd.func46 rfl fun args v hS => ⟨?_, ?_⟩
  · obtain ⟨k, a0, a1, f1, c1, S1, r, rfl, hE1, hV1, hC1, hP1, H, rfl⟩ := hS
    exact Nat.le_of_ble_eq_true rfl
  · obtain ⟨k, a0, a1, f1, c1, S1, r, rfl, hE1, hV1, hC1, hP1, H, rfl⟩ := hS
    unfold slices_ContainsFunc_api_Winner_api_Winner.f at H
    have hB1 := fun k => imms_below k (hC1 [])
    refine T_seq ?_
    refine T_reg ?_
    refine RE.op (op_assign rfl rfl) rfl rfl rfl ?_
    refine RE.nil ⟨⟨[(0, .lst false (a0.map S_api_Winner.enc)), (1, .fn f1 c1)], []⟩, weak_sel ⟨rfl, rfl, trivial⟩ rfl, ?_⟩
    refine then_normal ?_
    refine T_seq ?_
    refine T_reg ?_
    refine RE.op (op_move rfl rfl) rfl rfl rfl ?_
    refine RE.op (op_move rfl rfl) rfl rfl rfl ?_
    obtain ⟨t1, ht2, H⟩ := Option.bind_eq_some_iff.1 H
    refine RE.op (op_call (f := 48) rfl rfl rfl (by simp [imms, imm, hC1]) en48 slices_IndexFunc_api_Winner_api_Winner.ok ⟨_, _, _, f1, c1, S1, _, rfl, hE1, hV1, hC1, hP1, ht2, rfl⟩) rfl rfl rfl ?_
    refine RE.op (op_bin rfl rfl rfl rfl) rfl rfl rfl ?_
    refine RE.op (op_assign rfl rfl) rfl rfl rfl ?_
    refine RE.nil ⟨⟨[(4, .bool (decide (t1 ≥ 0)))], []⟩, weak_sel ⟨rfl, trivial⟩ rfl, ?_⟩
    refine then_normal ?_
    refine T_ret ?_
    simp only [Option.some.injEq] at H
    subst H
    exact ret1 rfl rfl rfl

/-! ### 21 bandplan/outcome.winners -/
def outcome_winners.f (k : Nat) (a0 : (List S_api_Winner)) : Option (Bool) := ((outcome_rising_api_Winner.f k a0 (fun y0 => outcome_winners_1.f y0)).bind fun t2 => (if t2 = true then (slices_ContainsFunc_api_Winner_api_Winner.f k a0 (fun y0 => outcome_winners_2.f y0)).bind fun t4 => some (!t4) else some false)).bind fun x1 => some x1
def outcome_winners.S (args : List AV) (v : AV) : Prop := ∃ (k : Nat) (a0 : (List S_api_Winner)) (r : Bool), args = [.lst false (a0.map S_api_Winner.enc)] ∧ outcome_winners.f k a0 = some r ∧ v = .bool r
theorem outcome_winners.ok : VOk Tryd.prog 21 outcome_winners.S := by
  refine V_ok Tryd.func21 rfl fun args v hS => ⟨?_, ?_⟩
  · obtain ⟨k, a0, r, rfl, H, rfl⟩ := hS
    exact Nat.le_of_ble_eq_true rfl
  · obtain ⟨k, a0, r, rfl, H, rfl⟩ := hS
    unfold outcome_winners.f at H
    refine T_seq ?_
    refine T_reg ?_
    refine RE.op (op_assign rfl rfl) rfl rfl rfl ?_
    refine RE.nil ⟨⟨[(0, .lst false (a0.map S_api_Winner.enc))], []⟩, weak_sel ⟨rfl, trivial⟩ rfl, ?_⟩
    refine then_normal ?_
    refine T_seq ?_
    obtain ⟨x1, hj6, H⟩ := Option.bind_eq_some_iff.1 H
    refine T_reg_out ⟨[(2, .bool x1)], []⟩ ?_ ?_
    · clear H
      have H := hj6
      clear hj6
      refine RE.op (op_move rfl rfl) rfl rfl rfl ?_
      obtain ⟨t2, ht3, H⟩ := Option.bind_eq_some_iff.1 H
      refine RE.op (op_call (f := 44) rfl rfl rfl rfl en44 outcome_rising_api_Winner.ok ⟨_, _, _, 45, _, _, _, rfl, en45, outcome_winners_1.ok, (fun _ => rfl), (fun _ z h => ⟨_, _, rfl, h, rfl⟩), ht3, rfl⟩) rfl rfl rfl ?_
      refine RE.op (op_move rfl rfl) rfl rfl rfl ?_
      by_cases h1 : t2 = true
      · rw [if_pos h1] at H
        refine RE.opg (op_move rfl rfl) rfl rfl (getb h1 rfl) rfl rfl ?_
        obtain ⟨t4, ht5, H⟩ := Option.bind_eq_some_iff.1 H
        refine RE.opg (op_call (f := 46) rfl rfl rfl rfl en46 slices_ContainsFunc_api_Winner_api_Winner.ok ⟨_, _, _, 47, _, _, _, rfl, en47, outcome_winners_2.ok, (fun _ => rfl), (fun _ z h => ⟨_, _, rfl, h, rfl⟩), ht5, rfl⟩) rfl rfl (getb h1 rfl) rfl rfl ?_
        refine RE.opg (op_not rfl rfl) rfl rfl (getb h1 rfl) rfl rfl ?_
        refine RE.op (op_pick_true rfl (evb h1 rfl) rfl) rfl rfl rfl ?_
        refine RE.op (op_assign rfl rfl) rfl rfl rfl ?_
        simp only [Option.some.injEq] at H
        subst H
        exact RE.nil (weak_sel (env' := [(2, .bool (!t4))]) ⟨rfl, trivial⟩ rfl)
      · rw [if_neg h1] at H
        refine RE.skip rfl rfl (getb (Bool.eq_false_iff.mpr h1) rfl) rfl rfl rfl ?_
        refine RE.skip rfl rfl (getb (Bool.eq_false_iff.mpr h1) rfl) rfl rfl rfl ?_
        refine RE.skip rfl rfl (getb (Bool.eq_false_iff.mpr h1) rfl) rfl rfl rfl ?_
        refine RE.op (op_pick_false rfl (evb (Bool.eq_false_iff.mpr h1) rfl) rfl) rfl rfl rfl ?_
        refine RE.op (op_assign rfl rfl) rfl rfl rfl ?_
        simp only [Option.some.injEq] at H
        subst H
        exact RE.nil (weak_sel (env' := [(2, .bool false)]) ⟨rfl, trivial⟩ rfl)
    · clear hj6
      refine then_normal ?_
      refine T_ret ?_
      simp only [Option.some.injEq] at H
      subst H
      exact ret1 rfl rfl rfl

/-! ### 9 bandplan/outcome.Cost -/
def outcome_Cost.l0 (a0 : (List S_api_Winner)) : Nat → (Int × Int) → Option (Int)
  | 0, _ => none
  | k + 1, (x3, x4) => (if x4 < ((a0.map S_api_Winner.enc).length : Int) then (idx a0 x4).bind fun y8 => outcome_Cost.l0 a0 k (IntKind.i64.wrap (x3 + y8.f_Payment), IntKind.i64.wrap (x4 + 1)) else some x3)
def outcome_Cost.f (k : Nat) (a0 : (List S_api_Winner)) : Option (Int × Int) := (outcome_winners.f k a0).bind fun t1 => (if ¬ (t1 = true) then some (0, 2) else (outcome_Cost.l0 a0 k (0, 0)).bind fun x5 => some (x5, 0))
def outcome_Cost.S (args : List AV) (v : AV) : Prop := ∃ (k : Nat) (a0 : (List S_api_Winner)) (r : Int × Int), args = [.lst false (a0.map S_api_Winner.enc)] ∧ outcome_Cost.f k a0 = some r ∧ v = .tup [.int .i64 r.1, .int .i64 r.2]
theorem outcome_Cost.ok : VOk Tryd.prog 9 outcome_Cost.S := by
  refine V_ok Tryd.func9 rfl fun args v hS => ⟨?_, ?_⟩
  · obtain ⟨k, a0, r, rfl, H, rfl⟩ := hS
    exact Nat.le_of_ble_eq_true rfl
  · obtain ⟨k, a0, r, rfl, H, rfl⟩ := hS
    unfold outcome_Cost.f at H
    refine T_seq ?_
    refine T_reg ?_
    refine RE.op (op_assign rfl rfl) rfl rfl rfl ?_
    refine RE.op (op_assign rfl rfl) rfl rfl rfl ?_
    refine RE.nil ⟨⟨[(0, .lst false (a0.map S_api_Winner.enc))], []⟩, weak_sel ⟨rfl, trivial⟩ rfl, ?_⟩
    refine then_normal ?_
    refine T_seq ?_
    refine T_seq ?_
    refine T_reg ?_
    refine RE.op (op_move rfl rfl) rfl rfl rfl ?_
    obtain ⟨t1, ht2, H⟩ := Option.bind_eq_some_iff.1 H
    refine RE.op (op_call (f := 21) rfl rfl rfl rfl en21 outcome_winners.ok ⟨_, _, _, rfl, ht2, rfl⟩) rfl rfl rfl ?_
    refine RE.op (op_not rfl rfl) rfl rfl rfl ?_
    refine RE.nil ⟨⟨[(0, .lst false (a0.map S_api_Winner.enc)), (9, .bool (!t1))], []⟩, weak_sel ⟨rfl, rfl, trivial⟩ rfl, ?_⟩
    refine then_normal ?_
    by_cases h1 : ¬ (t1 = true)
    · rw [if_pos h1] at H
      refine T_yes rfl (not_t (Bool.eq_false_iff.mpr h1)) ?_
      refine T_seq ?_
      refine T_reg ?_
      refine RE.op (op_assign rfl rfl) rfl rfl rfl ?_
      refine RE.op (op_assign rfl rfl) rfl rfl rfl ?_
      refine RE.nil ⟨⟨[(2, .int .i64 0), (3, .int .i64 2)], []⟩, weak_sel ⟨rfl, rfl, trivial⟩ rfl, ?_⟩
      refine then_normal ?_
      refine T_ret ?_
      simp only [Option.some.injEq] at H
      subst H
      refine then_ret ?_
      exact ret2 rfl rfl rfl rfl
    · rw [if_neg h1] at H
      refine T_no rfl (not_f (Decidable.of_not_not h1)) ?_
      refine T_skip ?_
      refine then_normal ?_
      refine T_seq ?_
      refine T_reg ?_
      refine RE.op (op_assign rfl rfl) rfl rfl rfl ?_
      refine RE.nil ⟨⟨[(0, .lst false (a0.map S_api_Winner.enc)), (4, .int .i64 0)], []⟩, weak_sel ⟨rfl, rfl, trivial⟩ rfl, ?_⟩
      refine then_normal ?_
      refine T_seq ?_
      refine T_seq ?_
      refine T_reg ?_
      refine RE.op (op_move rfl rfl) rfl rfl rfl ?_
      refine RE.op (op_len Tryd.underlying22 rfl rfl) rfl rfl rfl ?_
      refine RE.op (op_move rfl rfl) rfl rfl rfl ?_
      refine RE.nil ⟨⟨[(4, .int .i64 0), (10, .lst false (a0.map S_api_Winner.enc)), (11, .int .i64 ((a0.map S_api_Winner.enc).length : Int)), (12, .int .i64 0)], []⟩, weak_sel ⟨rfl, rfl, rfl, rfl, trivial⟩ rfl, ?_⟩
      refine then_normal ?_
      refine T_block ?_
      obtain ⟨x5, hj7, H⟩ := Option.bind_eq_some_iff.1 H
      refine T_loop_out ((fun (x_ : Int × Int) => ⟨[(4, .int .i64 x_.1), (10, .lst false (a0.map S_api_Winner.enc)), (11, .int .i64 ((a0.map S_api_Winner.enc).length : Int)), (12, .int .i64 x_.2)], []⟩) (0, 0)) ((fun _ => .exit 0) x5) ((fun (x_ : (Int)) => ⟨[(4, .int .i64 x_)], []⟩) x5) (weak_sel (env' := [(4, .int .i64 0), (10, .lst false (a0.map S_api_Winner.enc)), (11, .int .i64 ((a0.map S_api_Winner.enc).length : Int)), (12, .int .i64 0)]) ⟨rfl, rfl, rfl, rfl, trivial⟩ rfl) ?_ ?_
      · refine T_fix (outcome_Cost.l0 a0) (fun (x_ : Int × Int) => ⟨[(4, .int .i64 x_.1), (10, .lst false (a0.map S_api_Winner.enc)), (11, .int .i64 ((a0.map S_api_Winner.enc).length : Int)), (12, .int .i64 x_.2)], []⟩) (fun _ => .exit 0) (fun (x_ : (Int)) => ⟨[(4, .int .i64 x_)], []⟩) (fun _ => rfl) ?_ _ (0, 0) _ hj7
        clear H hj7
        intro k IH x_ o H
        obtain ⟨x3, x4⟩ := x_
        unfold outcome_Cost.l0 at H
        (try simp only at H)
        refine T_seq ?_
        refine T_reg ?_
        refine RE.op (op_bin rfl rfl rfl rfl) rfl rfl rfl ?_
        refine RE.nil ⟨⟨[(4, .int .i64 x3), (10, .lst false (a0.map S_api_Winner.enc)), (11, .int .i64 ((a0.map S_api_Winner.enc).length : Int)), (12, .int .i64 x4), (13, .bool (decide (x4 < ((a0.map S_api_Winner.enc).length : Int))))], []⟩, weak_sel ⟨rfl, rfl, rfl, rfl, rfl, trivial⟩ rfl, ?_⟩
        refine then_normal ?_
        refine T_seq ?_
        by_cases h2 : x4 < ((a0.map S_api_Winner.enc).length : Int)
        · rw [if_pos h2] at H
          refine T_yes rfl (decide_eq_true h2) ?_
          refine T_skip ?_
          refine then_normal ?_
          refine T_seq ?_
          refine T_block ?_
          refine T_seq ?_
          refine T_reg ?_
          obtain ⟨y8, hy9, H⟩ := Option.bind_eq_some_iff.1 H
          refine RE.op (op_iaddr Tryd.underlying22 ti48 rfl rfl rfl (idx_pos hy9) (idx_map hy9 S_api_Winner.enc) rfl (Nat.le_of_ble_eq_true rfl)) rfl rfl rfl ?_
          refine RE.op (op_load_agg_e (ds := [.int .i64 y8.f_Station, .int .i64 y8.f_Option, .int .i64 y8.f_Payment]) ti48 rfl rfl rfl (idx_map hy9 S_api_Winner.enc) (Nat.le_of_ble_eq_true rfl) rfl) rfl rfl rfl ?_
          refine RE.op (op_alloc (k := 0) ti48 rfl rfl rfl rfl) rfl rfl rfl ?_
          refine RE.op0 (op_store (cs' := [.int .i64 y8.f_Station, .int .i64 y8.f_Option, .int .i64 y8.f_Payment]) ti48 rfl rfl rfl rfl rfl rfl (Nat.le_of_ble_eq_true rfl) rfl) rfl rfl ?_
          refine RE.nil ⟨⟨[(4, .int .i64 x3), (6, .ptr 0 0), (10, .lst false (a0.map S_api_Winner.enc)), (11, .int .i64 ((a0.map S_api_Winner.enc).length : Int)), (12, .int .i64 x4)], [.cells [.int .i64 y8.f_Station, .int .i64 y8.f_Option, .int .i64 y8.f_Payment]]⟩, weak_sel ⟨rfl, rfl, rfl, rfl, rfl, trivial⟩ rfl, ?_⟩
          refine then_normal ?_
          refine T_reg ?_
          refine RE.op (op_move rfl rfl) rfl rfl rfl ?_
          refine RE.op (op_faddr Tryd.underlying48 rfl ti3 rfl rfl rfl) rfl rfl rfl ?_
          refine RE.op (op_load ti3 rfl rfl rfl rfl rfl) rfl rfl rfl ?_
          refine RE.op (op_bin rfl rfl rfl rfl) rfl rfl rfl ?_
          refine RE.op (op_assign rfl rfl) rfl rfl rfl ?_
          refine RE.nil ⟨⟨[(4, .int .i64 (IntKind.i64.wrap (x3 + y8.f_Payment))), (10, .lst false (a0.map S_api_Winner.enc)), (11, .int .i64 ((a0.map S_api_Winner.enc).length : Int)), (12, .int .i64 x4)], [.cells [.int .i64 y8.f_Station, .int .i64 y8.f_Option, .int .i64 y8.f_Payment]]⟩, weak_sel ⟨rfl, rfl, rfl, rfl, trivial⟩ rfl, ?_⟩
          refine block_normal ?_
          refine then_normal ?_
          refine T_reg ?_
          refine RE.op (op_bin rfl rfl rfl rfl) rfl rfl rfl ?_
          refine RE.op (op_move rfl rfl) rfl rfl rfl ?_
          refine RE.nil ⟨⟨[(4, .int .i64 (IntKind.i64.wrap (x3 + y8.f_Payment))), (10, .lst false (a0.map S_api_Winner.enc)), (11, .int .i64 ((a0.map S_api_Winner.enc).length : Int)), (12, .int .i64 (IntKind.i64.wrap (x4 + 1)))], [.cells [.int .i64 y8.f_Station, .int .i64 y8.f_Option, .int .i64 y8.f_Payment]]⟩, weak_sel ⟨rfl, rfl, rfl, rfl, trivial⟩ rfl, ?_⟩
          refine then_normal ?_
          exact LoopAt.weak (weak_cut (env' := [(4, .int .i64 (IntKind.i64.wrap (x3 + y8.f_Payment))), (10, .lst false (a0.map S_api_Winner.enc)), (11, .int .i64 ((a0.map S_api_Winner.enc).length : Int)), (12, .int .i64 (IntKind.i64.wrap (x4 + 1)))]) (bs' := []) 0 ⟨rfl, rfl, rfl, rfl, trivial⟩ rfl rfl rfl rfl) (IH _ _ H)
        · rw [if_neg h2] at H
          refine T_no rfl (decide_eq_false h2) ?_
          refine T_exit ?_
          simp only [Option.some.injEq] at H
          subst H
          refine then_exit ?_
          refine then_exit ?_
          exact ⟨rfl, weak_sel (env' := [(4, .int .i64 x3)]) ⟨rfl, trivial⟩ rfl⟩
      · clear hj7
        refine block_eq ?_
        refine then_normal ?_
        refine T_seq ?_
        refine T_reg ?_
        refine RE.op (op_move rfl rfl) rfl rfl rfl ?_
        refine RE.op (op_assign rfl rfl) rfl rfl rfl ?_
        refine RE.op (op_assign rfl rfl) rfl rfl rfl ?_
        refine RE.nil ⟨⟨[(2, .int .i64 x5), (3, .int .i64 0)], []⟩, weak_sel ⟨rfl, rfl, trivial⟩ rfl, ?_⟩
        refine then_normal ?_
        refine T_ret ?_
        simp only [Option.some.injEq] at H
        subst H
        exact ret2 rfl rfl rfl rfl

/-! ### 30 bandplan/outcome.bands -/
def outcome_bands.l0 (a0 : (List S_api_Choice)) : Nat → (Int × (List (Int × Int))) → Option ((List (Int × Int)))
  | 0, _ => none
  | k + 1, (x1, x2) => (if x1 < ((a0.map S_api_Choice.enc).length : Int) then (idx a0 x1).bind fun y6 => (band_Of.f y6.f_Channel).bind fun t8 => outcome_bands.l0 a0 k (IntKind.i64.wrap (x1 + 1), mset x2 y6.f_Station t8.1) else some x2)
def outcome_bands.f (k : Nat) (a0 : (List S_api_Choice)) : Option ((List (Int × Int))) := (outcome_bands.l0 a0 k (0, ([] : List (Int × Int)))).bind fun x3 => some x3
def outcome_bands.S (args : List AV) (bs : List Blk) (v : AV) (bs' : List Blk) : Prop := ∃ (k : Nat) (a0 : (List S_api_Choice)) (r : (List (Int × Int))), args = [.lst false (a0.map S_api_Choice.enc)] ∧ bs = [] ∧ outcome_bands.f k a0 = some r ∧ v = .map 0 ∧ bs' = [mb .i64 (AV.int .i64) r]
theorem outcome_bands.ok : FOk Tryd.prog 30 outcome_bands.S := by
  refine F_ok Tryd.func30 rfl fun args bs v bs' hS => ⟨?_, ?_⟩
  · obtain ⟨k, a0, r, rfl, rfl, H, rfl, rfl⟩ := hS
    exact Nat.le_of_ble_eq_true rfl
  · obtain ⟨k, a0, r, rfl, rfl, H, rfl, rfl⟩ := hS
    unfold outcome_bands.f at H
    refine T_seq ?_
    refine T_reg ?_
    refine RE.op (op_assign rfl rfl) rfl rfl rfl ?_
    refine RE.nil ⟨⟨[(0, .lst false (a0.map S_api_Choice.enc))], []⟩, weak_sel ⟨rfl, trivial⟩ rfl, ?_⟩
    refine then_normal ?_
    refine T_seq ?_
    refine T_reg ?_
    refine RE.op (op_mkmap (k := 0) rfl rfl) rfl rfl rfl ?_
    refine RE.op (op_assign rfl rfl) rfl rfl rfl ?_
    refine RE.nil ⟨⟨[(0, .lst false (a0.map S_api_Choice.enc)), (3, .map 0)], [mb .i64 (AV.int .i64) ([] : List (Int × Int))]⟩, weak_sel ⟨rfl, rfl, trivial⟩ rfl, ?_⟩
    refine then_normal ?_
    refine T_seq ?_
    refine T_seq ?_
    refine T_reg ?_
    refine RE.op (op_move rfl rfl) rfl rfl rfl ?_
    refine RE.op (op_len Tryd.underlying24 rfl rfl) rfl rfl rfl ?_
    refine RE.op (op_move rfl rfl) rfl rfl rfl ?_
    refine RE.nil ⟨⟨[(3, .map 0), (7, .lst false (a0.map S_api_Choice.enc)), (8, .int .i64 ((a0.map S_api_Choice.enc).length : Int)), (9, .int .i64 0)], [mb .i64 (AV.int .i64) ([] : List (Int × Int))]⟩, weak_sel ⟨rfl, rfl, rfl, rfl, trivial⟩ rfl, ?_⟩
    refine then_normal ?_
    refine T_block ?_
    obtain ⟨x3, hj5, H⟩ := Option.bind_eq_some_iff.1 H
    refine T_loop_out ((fun (x_ : Int × (List (Int × Int))) => ⟨[(3, .map 0), (7, .lst false (a0.map S_api_Choice.enc)), (8, .int .i64 ((a0.map S_api_Choice.enc).length : Int)), (9, .int .i64 x_.1)], [mb .i64 (AV.int .i64) x_.2]⟩) (0, ([] : List (Int × Int)))) ((fun _ => .exit 0) x3) ((fun (x_ : ((List (Int × Int)))) => ⟨[(3, .map 0)], [mb .i64 (AV.int .i64) x_]⟩) x3) (weak_sel (env' := [(3, .map 0), (7, .lst false (a0.map S_api_Choice.enc)), (8, .int .i64 ((a0.map S_api_Choice.enc).length : Int)), (9, .int .i64 0)]) ⟨rfl, rfl, rfl, rfl, trivial⟩ rfl) ?_ ?_
    · refine T_fix (outcome_bands.l0 a0) (fun (x_ : Int × (List (Int × Int))) => ⟨[(3, .map 0), (7, .lst false (a0.map S_api_Choice.enc)), (8, .int .i64 ((a0.map S_api_Choice.enc).length : Int)), (9, .int .i64 x_.1)], [mb .i64 (AV.int .i64) x_.2]⟩) (fun _ => .exit 0) (fun (x_ : ((List (Int × Int)))) => ⟨[(3, .map 0)], [mb .i64 (AV.int .i64) x_]⟩) (fun _ => rfl) ?_ _ (0, ([] : List (Int × Int))) _ hj5
      clear H hj5
      intro k IH x_ o H
      obtain ⟨x1, x2⟩ := x_
      unfold outcome_bands.l0 at H
      (try simp only at H)
      refine T_seq ?_
      refine T_reg ?_
      refine RE.op (op_bin rfl rfl rfl rfl) rfl rfl rfl ?_
      refine RE.nil ⟨⟨[(3, .map 0), (7, .lst false (a0.map S_api_Choice.enc)), (8, .int .i64 ((a0.map S_api_Choice.enc).length : Int)), (9, .int .i64 x1), (10, .bool (decide (x1 < ((a0.map S_api_Choice.enc).length : Int))))], [mb .i64 (AV.int .i64) x2]⟩, weak_sel ⟨rfl, rfl, rfl, rfl, rfl, trivial⟩ rfl, ?_⟩
      refine then_normal ?_
      refine T_seq ?_
      by_cases h1 : x1 < ((a0.map S_api_Choice.enc).length : Int)
      · rw [if_pos h1] at H
        refine T_yes rfl (decide_eq_true h1) ?_
        refine T_skip ?_
        refine then_normal ?_
        refine T_seq ?_
        refine T_block ?_
        refine T_seq ?_
        refine T_reg ?_
        obtain ⟨y6, hy7, H⟩ := Option.bind_eq_some_iff.1 H
        refine RE.op (op_iaddr Tryd.underlying24 ti50 rfl rfl rfl (idx_pos hy7) (idx_map hy7 S_api_Choice.enc) rfl (Nat.le_of_ble_eq_true rfl)) rfl rfl rfl ?_
        refine RE.op (op_load_agg_e (ds := [.int .i64 y6.f_Station, .int .i64 y6.f_Channel]) ti50 rfl rfl rfl (idx_map hy7 S_api_Choice.enc) (Nat.le_of_ble_eq_true rfl) rfl) rfl rfl rfl ?_
        refine RE.op (op_alloc (k := 1) ti50 rfl rfl rfl rfl) rfl rfl rfl ?_
        refine RE.op0 (op_store (cs' := [.int .i64 y6.f_Station, .int .i64 y6.f_Channel]) ti50 rfl rfl rfl rfl rfl rfl (Nat.le_of_ble_eq_true rfl) rfl) rfl rfl ?_
        refine RE.nil ⟨⟨[(3, .map 0), (5, .ptr 1 0), (7, .lst false (a0.map S_api_Choice.enc)), (8, .int .i64 ((a0.map S_api_Choice.enc).length : Int)), (9, .int .i64 x1)], [mb .i64 (AV.int .i64) x2, .cells [.int .i64 y6.f_Station, .int .i64 y6.f_Channel]]⟩, weak_sel ⟨rfl, rfl, rfl, rfl, rfl, trivial⟩ rfl, ?_⟩
        refine then_normal ?_
        refine T_drawn mix [0, 0, 2, 0, 8, 24, 56, 120, 120, 255] (by kernel_rfl) ?_
        refine RD.q [(3, .map 0)] (by repeat (first | exact trivial | refine ⟨rfl, ?_⟩)) (fun _ => (op_move rfl rfl)) rfl rfl rfl ?_
        refine RD.q [(5, .ptr 1 0)] (by repeat (first | exact trivial | refine ⟨rfl, ?_⟩)) (fun _ => (op_faddr Tryd.underlying50 rfl ti3 rfl rfl rfl)) rfl rfl rfl ?_
        refine RD.l (i := 1) [(15, .ptr 1 0)] (by repeat (first | exact trivial | refine ⟨rfl, ?_⟩)) rfl (fun _ hb => (op_load ti3 rfl rfl rfl hb rfl)) rfl rfl rfl ?_
        refine RD.q [(5, .ptr 1 0)] (by repeat (first | exact trivial | refine ⟨rfl, ?_⟩)) (fun _ => (op_faddr Tryd.underlying50 rfl ti3 rfl rfl rfl)) rfl rfl rfl ?_
        refine RD.l (i := 1) [(17, .ptr 1 1)] (by repeat (first | exact trivial | refine ⟨rfl, ?_⟩)) rfl (fun _ hb => (op_load ti3 rfl rfl rfl hb rfl)) rfl rfl rfl ?_
        obtain ⟨t8, ht9, H⟩ := Option.bind_eq_some_iff.1 H
        refine RD.q [(18, .int .i64 y6.f_Channel)] (by repeat (first | exact trivial | refine ⟨rfl, ?_⟩)) (fun _ => (op_call (f := 54) rfl rfl rfl rfl en54 band_Of.ok ⟨_, _, rfl, ht9, rfl⟩)) rfl rfl rfl ?_
        refine RD.q [(19, .tup [.int .i64 t8.1, .int .i64 t8.2])] (by repeat (first | exact trivial | refine ⟨rfl, ?_⟩)) (fun _ => (op_move rfl rfl)) rfl rfl rfl ?_
        refine RD.q [(13, .tup [.int .i64 t8.1, .int .i64 t8.2])] (by repeat (first | exact trivial | refine ⟨rfl, ?_⟩)) (fun _ => (op_extract rfl rfl rfl)) rfl rfl rfl ?_
        refine RD.q [(13, .tup [.int .i64 t8.1, .int .i64 t8.2])] (by repeat (first | exact trivial | refine ⟨rfl, ?_⟩)) (fun _ => (op_extract rfl rfl rfl)) rfl rfl rfl ?_
        refine RD.w (i := 0) (b' := mb .i64 (AV.int .i64) (mset x2 y6.f_Station t8.1)) [(14, .map 0), (16, .int .i64 y6.f_Station), (20, .int .i64 t8.1)] (by repeat (first | exact trivial | refine ⟨rfl, ?_⟩)) rfl (fun _ hb => (op_mapset (kk := .i64) (e := (AV.int .i64)) (l := x2) (v := t8.1) Tryd.underlying58 Tryd.underlying3 rfl rfl rfl rfl hb rfl)) rfl rfl ?_
        refine RD.nil (by kernel_rfl) ⟨⟨[(3, .map 0), (7, .lst false (a0.map S_api_Choice.enc)), (8, .int .i64 ((a0.map S_api_Choice.enc).length : Int)), (9, .int .i64 x1)], [mb .i64 (AV.int .i64) (mset x2 y6.f_Station t8.1), .cells [.int .i64 y6.f_Station, .int .i64 y6.f_Channel]]⟩, weak_sel ⟨rfl, rfl, rfl, rfl, trivial⟩ rfl, ?_⟩
        refine block_normal ?_
        refine then_normal ?_
        refine T_reg ?_
        refine RE.op (op_bin rfl rfl rfl rfl) rfl rfl rfl ?_
        refine RE.op (op_move rfl rfl) rfl rfl rfl ?_
        refine RE.nil ⟨⟨[(3, .map 0), (7, .lst false (a0.map S_api_Choice.enc)), (8, .int .i64 ((a0.map S_api_Choice.enc).length : Int)), (9, .int .i64 (IntKind.i64.wrap (x1 + 1)))], [mb .i64 (AV.int .i64) (mset x2 y6.f_Station t8.1), .cells [.int .i64 y6.f_Station, .int .i64 y6.f_Channel]]⟩, weak_sel ⟨rfl, rfl, rfl, rfl, trivial⟩ rfl, ?_⟩
        refine then_normal ?_
        exact LoopAt.weak (weak_cut (env' := [(3, .map 0), (7, .lst false (a0.map S_api_Choice.enc)), (8, .int .i64 ((a0.map S_api_Choice.enc).length : Int)), (9, .int .i64 (IntKind.i64.wrap (x1 + 1)))]) (bs' := [mb .i64 (AV.int .i64) (mset x2 y6.f_Station t8.1)]) 1 ⟨rfl, rfl, rfl, rfl, trivial⟩ rfl rfl rfl (by first | rfl | (rw [belowB_mb (fun _ => rfl)]; rfl) | (simp only [belowB, belows, below]; rw [belowB_mb (fun _ => rfl)]; rfl))) (IH _ _ H)
      · rw [if_neg h1] at H
        refine T_no rfl (decide_eq_false h1) ?_
        refine T_exit ?_
        simp only [Option.some.injEq] at H
        subst H
        refine then_exit ?_
        refine then_exit ?_
        exact ⟨rfl, weak_sel (env' := [(3, .map 0)]) ⟨rfl, trivial⟩ rfl⟩
    · clear hj5
      refine block_eq ?_
      refine then_normal ?_
      refine T_seq ?_
      refine T_reg ?_
      refine RE.op (op_move rfl rfl) rfl rfl rfl ?_
      refine RE.op (op_assign rfl rfl) rfl rfl rfl ?_
      refine RE.nil ⟨⟨[(2, .map 0)], [mb .i64 (AV.int .i64) x3]⟩, weak_sel ⟨rfl, trivial⟩ rfl, ?_⟩
      refine then_normal ?_
      refine T_ret ?_
      simp only [Option.some.injEq] at H
      subst H
      exact retF1 rfl rfl rfl

/-! ### 49 bandplan/outcome.find$1 -/
def outcome_find_1.f (a0 : S_api_Winner) (a1 : Int) : Option (Bool) := some (a0.f_Station == a1)
def outcome_find_1.S (args : List AV) (v : AV) : Prop := ∃ (a0 : S_api_Winner) (a1 : Int) (r : Bool), args = [S_api_Winner.enc a0, .eptr [.agg [.int .i64 a1]] 0 0] ∧ outcome_find_1.f a0 a1 = some r ∧ v = .bool r
theorem outcome_find_1.ok : VOk Tryd.prog 49 outcome_find_1.S := by
  refine V_ok Tryd.func49 rfl fun args v hS => ⟨?_, ?_⟩
  · obtain ⟨a0, a1, r, rfl, H, rfl⟩ := hS
    exact Nat.le_of_ble_eq_true rfl
  · obtain ⟨a0, a1, r, rfl, H, rfl⟩ := hS
    unfold outcome_find_1.f at H
    refine T_seq ?_
    refine T_reg ?_
    refine RE.op (op_box (k := 0) rfl rfl rfl rfl) rfl rfl rfl ?_
    refine RE.op (op_assign rfl rfl) rfl rfl rfl ?_
    refine RE.nil ⟨⟨[(1, .eptr [.agg [.int .i64 a1]] 0 0), (2, .ptr 0 0)], [.cells [.int .i64 a0.f_Station, .int .i64 a0.f_Option, .int .i64 a0.f_Payment]]⟩, weak_sel ⟨rfl, rfl, trivial⟩ rfl, ?_⟩
    refine then_normal ?_
    refine T_seq ?_
    refine T_reg ?_
    refine RE.op (op_faddr Tryd.underlying48 rfl ti3 rfl rfl rfl) rfl rfl rfl ?_
    refine RE.op (op_load ti3 rfl rfl rfl rfl rfl) rfl rfl rfl ?_
    refine RE.op (op_load_e ti3 rfl rfl rfl rfl rfl) rfl rfl rfl ?_
    refine RE.op (op_bin rfl rfl rfl rfl) rfl rfl rfl ?_
    refine RE.op (op_assign rfl rfl) rfl rfl rfl ?_
    refine RE.nil ⟨⟨[(3, .bool (a0.f_Station == a1))], [.cells [.int .i64 a0.f_Station, .int .i64 a0.f_Option, .int .i64 a0.f_Payment]]⟩, weak_sel ⟨rfl, trivial⟩ rfl, ?_⟩
    refine then_normal ?_
    refine T_ret ?_
    simp only [Option.some.injEq] at H
    subst H
    exact ret1 rfl rfl rfl

/-! ### 24 bandplan/outcome.find -/
def outcome_find.f (k : Nat) (a0 : (List S_api_Winner)) (a1 : Int) : Option (Int) := (slices_IndexFunc_api_Winner_api_Winner.f k a0 (fun y0 => outcome_find_1.f y0 a1)).bind fun t1 => some t1
def outcome_find.S (args : List AV) (v : AV) : Prop := ∃ (k : Nat) (a0 : (List S_api_Winner)) (a1 : Int) (r : Int), args = [.lst false (a0.map S_api_Winner.enc), .int .i64 a1] ∧ outcome_find.f k a0 a1 = some r ∧ v = .int .i64 r
theorem outcome_find.ok : VOk Tryd.prog 24 outcome_find.S := by
  refine V_ok Tryd.func24 rfl fun args v hS => ⟨?_, ?_⟩
  · obtain ⟨k, a0, a1, r, rfl, H, rfl⟩ := hS
    exact Nat.le_of_ble_eq_true rfl
  · obtain ⟨k, a0, a1, r, rfl, H, rfl⟩ := hS
    unfold outcome_find.f at H
    refine T_seq ?_
    refine T_reg ?_
    refine RE.op (op_box (k := 0) rfl rfl rfl rfl) rfl rfl rfl ?_
    refine RE.op (op_assign rfl rfl) rfl rfl rfl ?_
    refine RE.nil ⟨⟨[(0, .lst false (a0.map S_api_Winner.enc)), (3, .ptr 0 0)], [.cells [.int .i64 a1]]⟩, weak_sel ⟨rfl, rfl, trivial⟩ rfl, ?_⟩
    refine then_normal ?_
    refine T_seq ?_
    refine T_reg ?_
    refine RE.op (op_move rfl rfl) rfl rfl rfl ?_
    refine RE.op (op_mkfunc rfl rfl) rfl rfl rfl ?_
    obtain ⟨t1, ht2, H⟩ := Option.bind_eq_some_iff.1 H
    refine RE.op (op_call_ro (f := 48) rfl rfl rfl rfl en48 slices_IndexFunc_api_Winner_api_Winner.ok ⟨_, _, _, 49, _, _, _, rfl, en49, outcome_find_1.ok, (fun _ => rfl), (fun _ z h => ⟨_, _, _, rfl, h, rfl⟩), ht2, rfl⟩ rfl) rfl rfl rfl ?_
    refine RE.op (op_assign rfl rfl) rfl rfl rfl ?_
    refine RE.nil ⟨⟨[(4, .int .i64 t1)], [.cells [.int .i64 a1]]⟩, weak_sel ⟨rfl, trivial⟩ rfl, ?_⟩
    refine then_normal ?_
    refine T_ret ?_
    simp only [Option.some.injEq] at H
    subst H
    exact ret1 rfl rfl rfl

/-! ### 62 bandplan/score.Reduction -/
def score_Reduction.f (a0 : Int) (a1 : Int) : Option (Int × Int) := ((if a0 < 1 then some true else (if a0 > 3 then some true else (if a1 < 0 then some true else some (decide (a1 > a0)))))).bind fun x1 => (if x1 = true then some (0, 2) else (if a0 = 0 then (if a1 = 0 then some (0, 0) else (if a1 = 1 then some ((-250), 0) else (if a1 = 2 then some ((-600), 0) else (if a1 = 3 then some ((-1000), 0) else none)))) else (if a0 = 1 then (if a1 = 0 then some (250, 0) else (if a1 = 1 then some (0, 0) else (if a1 = 2 then some ((-350), 0) else (if a1 = 3 then some ((-750), 0) else none)))) else (if a0 = 2 then (if a1 = 0 then some (600, 0) else (if a1 = 1 then some (350, 0) else (if a1 = 2 then some (0, 0) else (if a1 = 3 then some ((-400), 0) else none)))) else (if a0 = 3 then (if a1 = 0 then some (1000, 0) else (if a1 = 1 then some (750, 0) else (if a1 = 2 then some (400, 0) else (if a1 = 3 then some (0, 0) else none)))) else none)))))
def score_Reduction.S (args : List AV) (v : AV) : Prop := ∃ (a0 : Int) (a1 : Int) (r : Int × Int), args = [.int .i64 a0, .int .i64 a1] ∧ score_Reduction.f a0 a1 = some r ∧ v = .tup [.int .i64 r.1, .int .i64 r.2]
theorem score_Reduction.ok : VOk Tryd.prog 62 score_Reduction.S := by
  refine V_ok Tryd.func62 rfl fun args v hS => ⟨?_, ?_⟩
  · obtain ⟨a0, a1, r, rfl, H, rfl⟩ := hS
    exact Nat.le_of_ble_eq_true rfl
  · obtain ⟨a0, a1, r, rfl, H, rfl⟩ := hS
    unfold score_Reduction.f at H
    refine T_seq ?_
    refine T_reg ?_
    refine RE.op (op_assign rfl rfl) rfl rfl rfl ?_
    refine RE.op (op_assign rfl rfl) rfl rfl rfl ?_
    refine RE.nil ⟨⟨[(0, .int .i64 a0), (1, .int .i64 a1)], []⟩, weak_sel ⟨rfl, rfl, trivial⟩ rfl, ?_⟩
    refine then_normal ?_
    refine T_seq ?_
    refine T_seq ?_
    obtain ⟨x1, hj2, H⟩ := Option.bind_eq_some_iff.1 H
    refine T_reg_out ⟨[(0, .int .i64 a0), (1, .int .i64 a1), (20, .bool x1)], []⟩ ?_ ?_
    · clear H
      have H := hj2
      clear hj2
      refine RE.op (op_move rfl rfl) rfl rfl rfl ?_
      refine RE.op (op_bin rfl rfl rfl rfl) rfl rfl rfl ?_
      refine RE.op (op_move rfl rfl) rfl rfl rfl ?_
      by_cases h1 : a0 < 1
      · rw [if_pos h1] at H
        refine RE.skip rfl rfl (getb (decide_eq_true h1) rfl) rfl rfl rfl ?_
        refine RE.skip rfl rfl (getb (decide_eq_true h1) rfl) rfl rfl rfl ?_
        refine RE.op (op_pick_true rfl (evb (decide_eq_true h1) rfl) rfl) rfl rfl rfl ?_
        refine RE.op (op_move rfl rfl) rfl rfl rfl ?_
        refine RE.skip rfl rfl rfl rfl rfl rfl ?_
        refine RE.skip rfl rfl rfl rfl rfl rfl ?_
        refine RE.op (op_pick_true rfl rfl rfl) rfl rfl rfl ?_
        refine RE.op (op_move rfl rfl) rfl rfl rfl ?_
        refine RE.skip rfl rfl rfl rfl rfl rfl ?_
        refine RE.skip rfl rfl rfl rfl rfl rfl ?_
        refine RE.skip rfl rfl rfl rfl rfl rfl ?_
        refine RE.op (op_pick_true rfl rfl rfl) rfl rfl rfl ?_
        simp only [Option.some.injEq] at H
        subst H
        exact RE.nil (weak_sel (env' := [(0, .int .i64 a0), (1, .int .i64 a1), (20, .bool true)]) ⟨rfl, rfl, rfl, trivial⟩ rfl)
      · rw [if_neg h1] at H
        refine RE.opg (op_move rfl rfl) rfl rfl (getb (decide_eq_false h1) rfl) rfl rfl ?_
        refine RE.opg (op_bin rfl rfl rfl rfl) rfl rfl (getb (decide_eq_false h1) rfl) rfl rfl ?_
        refine RE.op (op_pick_false rfl (evb (decide_eq_false h1) rfl) rfl) rfl rfl rfl ?_
        refine RE.op (op_move rfl rfl) rfl rfl rfl ?_
        by_cases h2 : a0 > 3
        · rw [if_pos h2] at H
          refine RE.skip rfl rfl (getb (decide_eq_true h2) rfl) rfl rfl rfl ?_
          refine RE.skip rfl rfl (getb (decide_eq_true h2) rfl) rfl rfl rfl ?_
          refine RE.op (op_pick_true rfl (evb (decide_eq_true h2) rfl) rfl) rfl rfl rfl ?_
          refine RE.op (op_move rfl rfl) rfl rfl rfl ?_
          refine RE.skip rfl rfl rfl rfl rfl rfl ?_
          refine RE.skip rfl rfl rfl rfl rfl rfl ?_
          refine RE.skip rfl rfl rfl rfl rfl rfl ?_
          refine RE.op (op_pick_true rfl rfl rfl) rfl rfl rfl ?_
          simp only [Option.some.injEq] at H
          subst H
          exact RE.nil (weak_sel (env' := [(0, .int .i64 a0), (1, .int .i64 a1), (20, .bool true)]) ⟨rfl, rfl, rfl, trivial⟩ rfl)
        · rw [if_neg h2] at H
          refine RE.opg (op_move rfl rfl) rfl rfl (getb (decide_eq_false h2) rfl) rfl rfl ?_
          refine RE.opg (op_bin rfl rfl rfl rfl) rfl rfl (getb (decide_eq_false h2) rfl) rfl rfl ?_
          refine RE.op (op_pick_false rfl (evb (decide_eq_false h2) rfl) rfl) rfl rfl rfl ?_
          refine RE.op (op_move rfl rfl) rfl rfl rfl ?_
          by_cases h3 : a1 < 0
          · rw [if_pos h3] at H
            refine RE.skip rfl rfl (getb (decide_eq_true h3) rfl) rfl rfl rfl ?_
            refine RE.skip rfl rfl (getb (decide_eq_true h3) rfl) rfl rfl rfl ?_
            refine RE.skip rfl rfl (getb (decide_eq_true h3) rfl) rfl rfl rfl ?_
            refine RE.op (op_pick_true rfl (evb (decide_eq_true h3) rfl) rfl) rfl rfl rfl ?_
            simp only [Option.some.injEq] at H
            subst H
            exact RE.nil (weak_sel (env' := [(0, .int .i64 a0), (1, .int .i64 a1), (20, .bool true)]) ⟨rfl, rfl, rfl, trivial⟩ rfl)
          · rw [if_neg h3] at H
            refine RE.opg (op_move rfl rfl) rfl rfl (getb (decide_eq_false h3) rfl) rfl rfl ?_
            refine RE.opg (op_move rfl rfl) rfl rfl (getb (decide_eq_false h3) rfl) rfl rfl ?_
            refine RE.opg (op_bin rfl rfl rfl rfl) rfl rfl (getb (decide_eq_false h3) rfl) rfl rfl ?_
            refine RE.op (op_pick_false rfl (evb (decide_eq_false h3) rfl) rfl) rfl rfl rfl ?_
            simp only [Option.some.injEq] at H
            subst H
            exact RE.nil (weak_sel (env' := [(0, .int .i64 a0), (1, .int .i64 a1), (20, .bool (decide (a1 > a0)))]) ⟨rfl, rfl, rfl, trivial⟩ rfl)
    · clear hj2
      refine then_normal ?_
      by_cases h4 : x1 = true
      · rw [if_pos h4] at H
        refine T_yes rfl h4 ?_
        refine T_seq ?_
        refine T_reg ?_
        refine RE.op (op_assign rfl rfl) rfl rfl rfl ?_
        refine RE.op (op_assign rfl rfl) rfl rfl rfl ?_
        refine RE.nil ⟨⟨[(4, .int .i64 0), (5, .int .i64 2)], []⟩, weak_sel ⟨rfl, rfl, trivial⟩ rfl, ?_⟩
        refine then_normal ?_
        refine T_ret ?_
        simp only [Option.some.injEq] at H
        subst H
        refine then_ret ?_
        exact ret2 rfl rfl rfl rfl
      · rw [if_neg h4] at H
        refine T_no rfl (Bool.eq_false_iff.mpr h4) ?_
        refine T_skip ?_
        refine then_normal ?_
        refine T_seq ?_
        refine T_drawn mix [0, 1, 3, 0, 8, 24, 63, 127, 255] (by kernel_rfl) ?_
        refine RD.q [(0, .int .i64 a0)] (by repeat (first | exact trivial | refine ⟨rfl, ?_⟩)) (fun _ => (op_move rfl rfl)) rfl rfl rfl ?_
        by_cases h5 : a0 = 0
        · rw [if_pos h5] at H
          refine RD.q [(21, .int .i64 a0)] (by repeat (first | exact trivial | refine ⟨rfl, ?_⟩)) (fun _ => (op_iaddr_ae (m := 0) Tryd.underlying88 ti3 rfl rfl rfl h5 rfl rfl (Nat.le_of_ble_eq_true rfl))) rfl rfl rfl ?_
          refine RD.q [(22, .eptr [.agg [.int .i64 0, .int .i64 250, .int .i64 600, .int .i64 1000]] 0 0)] (by repeat (first | exact trivial | refine ⟨rfl, ?_⟩)) (fun _ => (op_load_e ti3 rfl rfl rfl rfl rfl)) rfl rfl rfl ?_
          refine RD.q [(1, .int .i64 a1)] (by repeat (first | exact trivial | refine ⟨rfl, ?_⟩)) (fun _ => (op_move rfl rfl)) rfl rfl rfl ?_
          by_cases h6 : a1 = 0
          · rw [if_pos h6] at H
            refine RD.q [(24, .int .i64 a1)] (by repeat (first | exact trivial | refine ⟨rfl, ?_⟩)) (fun _ => (op_iaddr_ae (m := 0) Tryd.underlying88 ti3 rfl rfl rfl h6 rfl rfl (Nat.le_of_ble_eq_true rfl))) rfl rfl rfl ?_
            refine RD.q [(25, .eptr [.agg [.int .i64 0, .int .i64 250, .int .i64 600, .int .i64 1000]] 0 0)] (by repeat (first | exact trivial | refine ⟨rfl, ?_⟩)) (fun _ => (op_load_e ti3 rfl rfl rfl rfl rfl)) rfl rfl rfl ?_
            refine RD.q [(23, .int .i64 0), (26, .int .i64 0)] (by repeat (first | exact trivial | refine ⟨rfl, ?_⟩)) (fun _ => (op_bin rfl rfl rfl rfl)) rfl rfl rfl ?_
            refine RD.q [(27, .int .i64 0)] (by repeat (first | exact trivial | refine ⟨rfl, ?_⟩)) (fun _ => (op_assign rfl rfl)) rfl rfl rfl ?_
            refine RD.q [] (by repeat (first | exact trivial | refine ⟨rfl, ?_⟩)) (fun _ => (op_assign rfl rfl)) rfl rfl rfl ?_
            refine RD.nil (by kernel_rfl) ⟨⟨[(4, .int .i64 0), (5, .int .i64 0)], []⟩, weak_sel ⟨rfl, rfl, trivial⟩ rfl, ?_⟩
            refine then_normal ?_
            refine T_ret ?_
            simp only [Option.some.injEq] at H
            subst H
            exact ret2 rfl rfl rfl rfl
          · rw [if_neg h6] at H
            by_cases h7 : a1 = 1
            · rw [if_pos h7] at H
              refine RD.q [(24, .int .i64 a1)] (by repeat (first | exact trivial | refine ⟨rfl, ?_⟩)) (fun _ => (op_iaddr_ae (m := 1) Tryd.underlying88 ti3 rfl rfl rfl h7 rfl rfl (Nat.le_of_ble_eq_true rfl))) rfl rfl rfl ?_
              refine RD.q [(25, .eptr [.agg [.int .i64 0, .int .i64 250, .int .i64 600, .int .i64 1000]] 0 1)] (by repeat (first | exact trivial | refine ⟨rfl, ?_⟩)) (fun _ => (op_load_e ti3 rfl rfl rfl rfl rfl)) rfl rfl rfl ?_
              refine RD.q [(23, .int .i64 0), (26, .int .i64 250)] (by repeat (first | exact trivial | refine ⟨rfl, ?_⟩)) (fun _ => (op_bin rfl rfl rfl rfl)) rfl rfl rfl ?_
              refine RD.q [(27, .int .i64 (-250))] (by repeat (first | exact trivial | refine ⟨rfl, ?_⟩)) (fun _ => (op_assign rfl rfl)) rfl rfl rfl ?_
              refine RD.q [] (by repeat (first | exact trivial | refine ⟨rfl, ?_⟩)) (fun _ => (op_assign rfl rfl)) rfl rfl rfl ?_
              refine RD.nil (by kernel_rfl) ⟨⟨[(4, .int .i64 (-250)), (5, .int .i64 0)], []⟩, weak_sel ⟨rfl, rfl, trivial⟩ rfl, ?_⟩
              refine then_normal ?_
              refine T_ret ?_
              simp only [Option.some.injEq] at H
              subst H
              exact ret2 rfl rfl rfl rfl
            · rw [if_neg h7] at H
              by_cases h8 : a1 = 2
              · rw [if_pos h8] at H
                refine RD.q [(24, .int .i64 a1)] (by repeat (first | exact trivial | refine ⟨rfl, ?_⟩)) (fun _ => (op_iaddr_ae (m := 2) Tryd.underlying88 ti3 rfl rfl rfl h8 rfl rfl (Nat.le_of_ble_eq_true rfl))) rfl rfl rfl ?_
                refine RD.q [(25, .eptr [.agg [.int .i64 0, .int .i64 250, .int .i64 600, .int .i64 1000]] 0 2)] (by repeat (first | exact trivial | refine ⟨rfl, ?_⟩)) (fun _ => (op_load_e ti3 rfl rfl rfl rfl rfl)) rfl rfl rfl ?_
                refine RD.q [(23, .int .i64 0), (26, .int .i64 600)] (by repeat (first | exact trivial | refine ⟨rfl, ?_⟩)) (fun _ => (op_bin rfl rfl rfl rfl)) rfl rfl rfl ?_
                refine RD.q [(27, .int .i64 (-600))] (by repeat (first | exact trivial | refine ⟨rfl, ?_⟩)) (fun _ => (op_assign rfl rfl)) rfl rfl rfl ?_
                refine RD.q [] (by repeat (first | exact trivial | refine ⟨rfl, ?_⟩)) (fun _ => (op_assign rfl rfl)) rfl rfl rfl ?_
                refine RD.nil (by kernel_rfl) ⟨⟨[(4, .int .i64 (-600)), (5, .int .i64 0)], []⟩, weak_sel ⟨rfl, rfl, trivial⟩ rfl, ?_⟩
                refine then_normal ?_
                refine T_ret ?_
                simp only [Option.some.injEq] at H
                subst H
                exact ret2 rfl rfl rfl rfl
              · rw [if_neg h8] at H
                by_cases h9 : a1 = 3
                · rw [if_pos h9] at H
                  refine RD.q [(24, .int .i64 a1)] (by repeat (first | exact trivial | refine ⟨rfl, ?_⟩)) (fun _ => (op_iaddr_ae (m := 3) Tryd.underlying88 ti3 rfl rfl rfl h9 rfl rfl (Nat.le_of_ble_eq_true rfl))) rfl rfl rfl ?_
                  refine RD.q [(25, .eptr [.agg [.int .i64 0, .int .i64 250, .int .i64 600, .int .i64 1000]] 0 3)] (by repeat (first | exact trivial | refine ⟨rfl, ?_⟩)) (fun _ => (op_load_e ti3 rfl rfl rfl rfl rfl)) rfl rfl rfl ?_
                  refine RD.q [(23, .int .i64 0), (26, .int .i64 1000)] (by repeat (first | exact trivial | refine ⟨rfl, ?_⟩)) (fun _ => (op_bin rfl rfl rfl rfl)) rfl rfl rfl ?_
                  refine RD.q [(27, .int .i64 (-1000))] (by repeat (first | exact trivial | refine ⟨rfl, ?_⟩)) (fun _ => (op_assign rfl rfl)) rfl rfl rfl ?_
                  refine RD.q [] (by repeat (first | exact trivial | refine ⟨rfl, ?_⟩)) (fun _ => (op_assign rfl rfl)) rfl rfl rfl ?_
                  refine RD.nil (by kernel_rfl) ⟨⟨[(4, .int .i64 (-1000)), (5, .int .i64 0)], []⟩, weak_sel ⟨rfl, rfl, trivial⟩ rfl, ?_⟩
                  refine then_normal ?_
                  refine T_ret ?_
                  simp only [Option.some.injEq] at H
                  subst H
                  exact ret2 rfl rfl rfl rfl
                · rw [if_neg h9] at H
                  cases H
        · rw [if_neg h5] at H
          by_cases h10 : a0 = 1
          · rw [if_pos h10] at H
            refine RD.q [(21, .int .i64 a0)] (by repeat (first | exact trivial | refine ⟨rfl, ?_⟩)) (fun _ => (op_iaddr_ae (m := 1) Tryd.underlying88 ti3 rfl rfl rfl h10 rfl rfl (Nat.le_of_ble_eq_true rfl))) rfl rfl rfl ?_
            refine RD.q [(22, .eptr [.agg [.int .i64 0, .int .i64 250, .int .i64 600, .int .i64 1000]] 0 1)] (by repeat (first | exact trivial | refine ⟨rfl, ?_⟩)) (fun _ => (op_load_e ti3 rfl rfl rfl rfl rfl)) rfl rfl rfl ?_
            refine RD.q [(1, .int .i64 a1)] (by repeat (first | exact trivial | refine ⟨rfl, ?_⟩)) (fun _ => (op_move rfl rfl)) rfl rfl rfl ?_
            by_cases h11 : a1 = 0
            · rw [if_pos h11] at H
              refine RD.q [(24, .int .i64 a1)] (by repeat (first | exact trivial | refine ⟨rfl, ?_⟩)) (fun _ => (op_iaddr_ae (m := 0) Tryd.underlying88 ti3 rfl rfl rfl h11 rfl rfl (Nat.le_of_ble_eq_true rfl))) rfl rfl rfl ?_
              refine RD.q [(25, .eptr [.agg [.int .i64 0, .int .i64 250, .int .i64 600, .int .i64 1000]] 0 0)] (by repeat (first | exact trivial | refine ⟨rfl, ?_⟩)) (fun _ => (op_load_e ti3 rfl rfl rfl rfl rfl)) rfl rfl rfl ?_
              refine RD.q [(23, .int .i64 250), (26, .int .i64 0)] (by repeat (first | exact trivial | refine ⟨rfl, ?_⟩)) (fun _ => (op_bin rfl rfl rfl rfl)) rfl rfl rfl ?_
              refine RD.q [(27, .int .i64 250)] (by repeat (first | exact trivial | refine ⟨rfl, ?_⟩)) (fun _ => (op_assign rfl rfl)) rfl rfl rfl ?_
              refine RD.q [] (by repeat (first | exact trivial | refine ⟨rfl, ?_⟩)) (fun _ => (op_assign rfl rfl)) rfl rfl rfl ?_
              refine RD.nil (by kernel_rfl) ⟨⟨[(4, .int .i64 250), (5, .int .i64 0)], []⟩, weak_sel ⟨rfl, rfl, trivial⟩ rfl, ?_⟩
              refine then_normal ?_
              refine T_ret ?_
              simp only [Option.some.injEq] at H
              subst H
              exact ret2 rfl rfl rfl rfl
            · rw [if_neg h11] at H
              by_cases h12 : a1 = 1
              · rw [if_pos h12] at H
                refine RD.q [(24, .int .i64 a1)] (by repeat (first | exact trivial | refine ⟨rfl, ?_⟩)) (fun _ => (op_iaddr_ae (m := 1) Tryd.underlying88 ti3 rfl rfl rfl h12 rfl rfl (Nat.le_of_ble_eq_true rfl))) rfl rfl rfl ?_
                refine RD.q [(25, .eptr [.agg [.int .i64 0, .int .i64 250, .int .i64 600, .int .i64 1000]] 0 1)] (by repeat (first | exact trivial | refine ⟨rfl, ?_⟩)) (fun _ => (op_load_e ti3 rfl rfl rfl rfl rfl)) rfl rfl rfl ?_
                refine RD.q [(23, .int .i64 250), (26, .int .i64 250)] (by repeat (first | exact trivial | refine ⟨rfl, ?_⟩)) (fun _ => (op_bin rfl rfl rfl rfl)) rfl rfl rfl ?_
                refine RD.q [(27, .int .i64 0)] (by repeat (first | exact trivial | refine ⟨rfl, ?_⟩)) (fun _ => (op_assign rfl rfl)) rfl rfl rfl ?_
                refine RD.q [] (by repeat (first | exact trivial | refine ⟨rfl, ?_⟩)) (fun _ => (op_assign rfl rfl)) rfl rfl rfl ?_
                refine RD.nil (by kernel_rfl) ⟨⟨[(4, .int .i64 0), (5, .int .i64 0)], []⟩, weak_sel ⟨rfl, rfl, trivial⟩ rfl, ?_⟩
                refine then_normal ?_
                refine T_ret ?_
                simp only [Option.some.injEq] at H
                subst H
                exact ret2 rfl rfl rfl rfl
              · rw [if_neg h12] at H
                by_cases h13 : a1 = 2
                · rw [if_pos h13] at H
                  refine RD.q [(24, .int .i64 a1)] (by repeat (first | exact trivial | refine ⟨rfl, ?_⟩)) (fun _ => (op_iaddr_ae (m := 2) Tryd.underlying88 ti3 rfl rfl rfl h13 rfl rfl (Nat.le_of_ble_eq_true rfl))) rfl rfl rfl ?_
                  refine RD.q [(25, .eptr [.agg [.int .i64 0, .int .i64 250, .int .i64 600, .int .i64 1000]] 0 2)] (by repeat (first | exact trivial | refine ⟨rfl, ?_⟩)) (fun _ => (op_load_e ti3 rfl rfl rfl rfl rfl)) rfl rfl rfl ?_
                  refine RD.q [(23, .int .i64 250), (26, .int .i64 600)] (by repeat (first | exact trivial | refine ⟨rfl, ?_⟩)) (fun _ => (op_bin rfl rfl rfl rfl)) rfl rfl rfl ?_
                  refine RD.q [(27, .int .i64 (-350))] (by repeat (first | exact trivial | refine ⟨rfl, ?_⟩)) (fun _ => (op_assign rfl rfl)) rfl rfl rfl ?_
                  refine RD.q [] (by repeat (first | exact trivial | refine ⟨rfl, ?_⟩)) (fun _ => (op_assign rfl rfl)) rfl rfl rfl ?_
                  refine RD.nil (by kernel_rfl) ⟨⟨[(4, .int .i64 (-350)), (5, .int .i64 0)], []⟩, weak_sel ⟨rfl, rfl, trivial⟩ rfl, ?_⟩
                  refine then_normal ?_
                  refine T_ret ?_
                  simp only [Option.some.injEq] at H
                  subst H
                  exact ret2 rfl rfl rfl rfl
                · rw [if_neg h13] at H
                  by_cases h14 : a1 = 3
                  · rw [if_pos h14] at H
                    refine RD.q [(24, .int .i64 a1)] (by repeat (first | exact trivial | refine ⟨rfl, ?_⟩)) (fun _ => (op_iaddr_ae (m := 3) Tryd.underlying88 ti3 rfl rfl rfl h14 rfl rfl (Nat.le_of_ble_eq_true rfl))) rfl rfl rfl ?_
                    refine RD.q [(25, .eptr [.agg [.int .i64 0, .int .i64 250, .int .i64 600, .int .i64 1000]] 0 3)] (by repeat (first | exact trivial | refine ⟨rfl, ?_⟩)) (fun _ => (op_load_e ti3 rfl rfl rfl rfl rfl)) rfl rfl rfl ?_
                    refine RD.q [(23, .int .i64 250), (26, .int .i64 1000)] (by repeat (first | exact trivial | refine ⟨rfl, ?_⟩)) (fun _ => (op_bin rfl rfl rfl rfl)) rfl rfl rfl ?_
                    refine RD.q [(27, .int .i64 (-750))] (by repeat (first | exact trivial | refine ⟨rfl, ?_⟩)) (fun _ => (op_assign rfl rfl)) rfl rfl rfl ?_
                    refine RD.q [] (by repeat (first | exact trivial | refine ⟨rfl, ?_⟩)) (fun _ => (op_assign rfl rfl)) rfl rfl rfl ?_
                    refine RD.nil (by kernel_rfl) ⟨⟨[(4, .int .i64 (-750)), (5, .int .i64 0)], []⟩, weak_sel ⟨rfl, rfl, trivial⟩ rfl, ?_⟩
                    refine then_normal ?_
                    refine T_ret ?_
                    simp only [Option.some.injEq] at H
                    subst H
                    exact ret2 rfl rfl rfl rfl
                  · rw [if_neg h14] at H
                    cases H
          · rw [if_neg h10] at H
            by_cases h15 : a0 = 2
            · rw [if_pos h15] at H
              refine RD.q [(21, .int .i64 a0)] (by repeat (first | exact trivial | refine ⟨rfl, ?_⟩)) (fun _ => (op_iaddr_ae (m := 2) Tryd.underlying88 ti3 rfl rfl rfl h15 rfl rfl (Nat.le_of_ble_eq_true rfl))) rfl rfl rfl ?_
              refine RD.q [(22, .eptr [.agg [.int .i64 0, .int .i64 250, .int .i64 600, .int .i64 1000]] 0 2)] (by repeat (first | exact trivial | refine ⟨rfl, ?_⟩)) (fun _ => (op_load_e ti3 rfl rfl rfl rfl rfl)) rfl rfl rfl ?_
              refine RD.q [(1, .int .i64 a1)] (by repeat (first | exact trivial | refine ⟨rfl, ?_⟩)) (fun _ => (op_move rfl rfl)) rfl rfl rfl ?_
              by_cases h16 : a1 = 0
              · rw [if_pos h16] at H
                refine RD.q [(24, .int .i64 a1)] (by repeat (first | exact trivial | refine ⟨rfl, ?_⟩)) (fun _ => (op_iaddr_ae (m := 0) Tryd.underlying88 ti3 rfl rfl rfl h16 rfl rfl (Nat.le_of_ble_eq_true rfl))) rfl rfl rfl ?_
                refine RD.q [(25, .eptr [.agg [.int .i64 0, .int .i64 250, .int .i64 600, .int .i64 1000]] 0 0)] (by repeat (first | exact trivial | refine ⟨rfl, ?_⟩)) (fun _ => (op_load_e ti3 rfl rfl rfl rfl rfl)) rfl rfl rfl ?_
                refine RD.q [(23, .int .i64 600), (26, .int .i64 0)] (by repeat (first | exact trivial | refine ⟨rfl, ?_⟩)) (fun _ => (op_bin rfl rfl rfl rfl)) rfl rfl rfl ?_
                refine RD.q [(27, .int .i64 600)] (by repeat (first | exact trivial | refine ⟨rfl, ?_⟩)) (fun _ => (op_assign rfl rfl)) rfl rfl rfl ?_
                refine RD.q [] (by repeat (first | exact trivial | refine ⟨rfl, ?_⟩)) (fun _ => (op_assign rfl rfl)) rfl rfl rfl ?_
                refine RD.nil (by kernel_rfl) ⟨⟨[(4, .int .i64 600), (5, .int .i64 0)], []⟩, weak_sel ⟨rfl, rfl, trivial⟩ rfl, ?_⟩
                refine then_normal ?_
                refine T_ret ?_
                simp only [Option.some.injEq] at H
                subst H
                exact ret2 rfl rfl rfl rfl
              · rw [if_neg h16] at H
                by_cases h17 : a1 = 1
                · rw [if_pos h17] at H
                  refine RD.q [(24, .int .i64 a1)] (by repeat (first | exact trivial | refine ⟨rfl, ?_⟩)) (fun _ => (op_iaddr_ae (m := 1) Tryd.underlying88 ti3 rfl rfl rfl h17 rfl rfl (Nat.le_of_ble_eq_true rfl))) rfl rfl rfl ?_
                  refine RD.q [(25, .eptr [.agg [.int .i64 0, .int .i64 250, .int .i64 600, .int .i64 1000]] 0 1)] (by repeat (first | exact trivial | refine ⟨rfl, ?_⟩)) (fun _ => (op_load_e ti3 rfl rfl rfl rfl rfl)) rfl rfl rfl ?_
                  refine RD.q [(23, .int .i64 600), (26, .int .i64 250)] (by repeat (first | exact trivial | refine ⟨rfl, ?_⟩)) (fun _ => (op_bin rfl rfl rfl rfl)) rfl rfl rfl ?_
                  refine RD.q [(27, .int .i64 350)] (by repeat (first | exact trivial | refine ⟨rfl, ?_⟩)) (fun _ => (op_assign rfl rfl)) rfl rfl rfl ?_
                  refine RD.q [] (by repeat (first | exact trivial | refine ⟨rfl, ?_⟩)) (fun _ => (op_assign rfl rfl)) rfl rfl rfl ?_
                  refine RD.nil (by kernel_rfl) ⟨⟨[(4, .int .i64 350), (5, .int .i64 0)], []⟩, weak_sel ⟨rfl, rfl, trivial⟩ rfl, ?_⟩
                  refine then_normal ?_
                  refine T_ret ?_
                  simp only [Option.some.injEq] at H
                  subst H
                  exact ret2 rfl rfl rfl rfl
                · rw [if_neg h17] at H
                  by_cases h18 : a1 = 2
                  · rw [if_pos h18] at H
                    refine RD.q [(24, .int .i64 a1)] (by repeat (first | exact trivial | refine ⟨rfl, ?_⟩)) (fun _ => (op_iaddr_ae (m := 2) Tryd.underlying88 ti3 rfl rfl rfl h18 rfl rfl (Nat.le_of_ble_eq_true rfl))) rfl rfl rfl ?_
                    refine RD.q [(25, .eptr [.agg [.int .i64 0, .int .i64 250, .int .i64 600, .int .i64 1000]] 0 2)] (by repeat (first | exact trivial | refine ⟨rfl, ?_⟩)) (fun _ => (op_load_e ti3 rfl rfl rfl rfl rfl)) rfl rfl rfl ?_
                    refine RD.q [(23, .int .i64 600), (26, .int .i64 600)] (by repeat (first | exact trivial | refine ⟨rfl, ?_⟩)) (fun _ => (op_bin rfl rfl rfl rfl)) rfl rfl rfl ?_
                    refine RD.q [(27, .int .i64 0)] (by repeat (first | exact trivial | refine ⟨rfl, ?_⟩)) (fun _ => (op_assign rfl rfl)) rfl rfl rfl ?_
                    refine RD.q [] (by repeat (first | exact trivial | refine ⟨rfl, ?_⟩)) (fun _ => (op_assign rfl rfl)) rfl rfl rfl ?_
                    refine RD.nil (by kernel_rfl) ⟨⟨[(4, .int .i64 0), (5, .int .i64 0)], []⟩, weak_sel ⟨rfl, rfl, trivial⟩ rfl, ?_⟩
                    refine then_normal ?_
                    refine T_ret ?_
                    simp only [Option.some.injEq] at H
                    subst H
                    exact ret2 rfl rfl rfl rfl
                  · rw [if_neg h18] at H
                    by_cases h19 : a1 = 3
                    · rw [if_pos h19] at H
                      refine RD.q [(24, .int .i64 a1)] (by repeat (first | exact trivial | refine ⟨rfl, ?_⟩)) (fun _ => (op_iaddr_ae (m := 3) Tryd.underlying88 ti3 rfl rfl rfl h19 rfl rfl (Nat.le_of_ble_eq_true rfl))) rfl rfl rfl ?_
                      refine RD.q [(25, .eptr [.agg [.int .i64 0, .int .i64 250, .int .i64 600, .int .i64 1000]] 0 3)] (by repeat (first | exact trivial | refine ⟨rfl, ?_⟩)) (fun _ => (op_load_e ti3 rfl rfl rfl rfl rfl)) rfl rfl rfl ?_
                      refine RD.q [(23, .int .i64 600), (26, .int .i64 1000)] (by repeat (first | exact trivial | refine ⟨rfl, ?_⟩)) (fun _ => (op_bin rfl rfl rfl rfl)) rfl rfl rfl ?_
                      refine RD.q [(27, .int .i64 (-400))] (by repeat (first | exact trivial | refine ⟨rfl, ?_⟩)) (fun _ => (op_assign rfl rfl)) rfl rfl rfl ?_
                      refine RD.q [] (by repeat (first | exact trivial | refine ⟨rfl, ?_⟩)) (fun _ => (op_assign rfl rfl)) rfl rfl rfl ?_
                      refine RD.nil (by kernel_rfl) ⟨⟨[(4, .int .i64 (-400)), (5, .int .i64 0)], []⟩, weak_sel ⟨rfl, rfl, trivial⟩ rfl, ?_⟩
                      refine then_normal ?_
                      refine T_ret ?_
                      simp only [Option.some.injEq] at H
                      subst H
                      exact ret2 rfl rfl rfl rfl
                    · rw [if_neg h19] at H
                      cases H
            · rw [if_neg h15] at H
              by_cases h20 : a0 = 3
              · rw [if_pos h20] at H
                refine RD.q [(21, .int .i64 a0)] (by repeat (first | exact trivial | refine ⟨rfl, ?_⟩)) (fun _ => (op_iaddr_ae (m := 3) Tryd.underlying88 ti3 rfl rfl rfl h20 rfl rfl (Nat.le_of_ble_eq_true rfl))) rfl rfl rfl ?_
                refine RD.q [(22, .eptr [.agg [.int .i64 0, .int .i64 250, .int .i64 600, .int .i64 1000]] 0 3)] (by repeat (first | exact trivial | refine ⟨rfl, ?_⟩)) (fun _ => (op_load_e ti3 rfl rfl rfl rfl rfl)) rfl rfl rfl ?_
                refine RD.q [(1, .int .i64 a1)] (by repeat (first | exact trivial | refine ⟨rfl, ?_⟩)) (fun _ => (op_move rfl rfl)) rfl rfl rfl ?_
                by_cases h21 : a1 = 0
                · rw [if_pos h21] at H
                  refine RD.q [(24, .int .i64 a1)] (by repeat (first | exact trivial | refine ⟨rfl, ?_⟩)) (fun _ => (op_iaddr_ae (m := 0) Tryd.underlying88 ti3 rfl rfl rfl h21 rfl rfl (Nat.le_of_ble_eq_true rfl))) rfl rfl rfl ?_
                  refine RD.q [(25, .eptr [.agg [.int .i64 0, .int .i64 250, .int .i64 600, .int .i64 1000]] 0 0)] (by repeat (first | exact trivial | refine ⟨rfl, ?_⟩)) (fun _ => (op_load_e ti3 rfl rfl rfl rfl rfl)) rfl rfl rfl ?_
                  refine RD.q [(23, .int .i64 1000), (26, .int .i64 0)] (by repeat (first | exact trivial | refine ⟨rfl, ?_⟩)) (fun _ => (op_bin rfl rfl rfl rfl)) rfl rfl rfl ?_
                  refine RD.q [(27, .int .i64 1000)] (by repeat (first | exact trivial | refine ⟨rfl, ?_⟩)) (fun _ => (op_assign rfl rfl)) rfl rfl rfl ?_
                  refine RD.q [] (by repeat (first | exact trivial | refine ⟨rfl, ?_⟩)) (fun _ => (op_assign rfl rfl)) rfl rfl rfl ?_
                  refine RD.nil (by kernel_rfl) ⟨⟨[(4, .int .i64 1000), (5, .int .i64 0)], []⟩, weak_sel ⟨rfl, rfl, trivial⟩ rfl, ?_⟩
                  refine then_normal ?_
                  refine T_ret ?_
                  simp only [Option.some.injEq] at H
                  subst H
                  exact ret2 rfl rfl rfl rfl
                · rw [if_neg h21] at H
                  by_cases h22 : a1 = 1
                  · rw [if_pos h22] at H
                    refine RD.q [(24, .int .i64 a1)] (by repeat (first | exact trivial | refine ⟨rfl, ?_⟩)) (fun _ => (op_iaddr_ae (m := 1) Tryd.underlying88 ti3 rfl rfl rfl h22 rfl rfl (Nat.le_of_ble_eq_true rfl))) rfl rfl rfl ?_
                    refine RD.q [(25, .eptr [.agg [.int .i64 0, .int .i64 250, .int .i64 600, .int .i64 1000]] 0 1)] (by repeat (first | exact trivial | refine ⟨rfl, ?_⟩)) (fun _ => (op_load_e ti3 rfl rfl rfl rfl rfl)) rfl rfl rfl ?_
                    refine RD.q [(23, .int .i64 1000), (26, .int .i64 250)] (by repeat (first | exact trivial | refine ⟨rfl, ?_⟩)) (fun _ => (op_bin rfl rfl rfl rfl)) rfl rfl rfl ?_
                    refine RD.q [(27, .int .i64 750)] (by repeat (first | exact trivial | refine ⟨rfl, ?_⟩)) (fun _ => (op_assign rfl rfl)) rfl rfl rfl ?_
                    refine RD.q [] (by repeat (first | exact trivial | refine ⟨rfl, ?_⟩)) (fun _ => (op_assign rfl rfl)) rfl rfl rfl ?_
                    refine RD.nil (by kernel_rfl) ⟨⟨[(4, .int .i64 750), (5, .int .i64 0)], []⟩, weak_sel ⟨rfl, rfl, trivial⟩ rfl, ?_⟩
                    refine then_normal ?_
                    refine T_ret ?_
                    simp only [Option.some.injEq] at H
                    subst H
                    exact ret2 rfl rfl rfl rfl
                  · rw [if_neg h22] at H
                    by_cases h23 : a1 = 2
                    · rw [if_pos h23] at H
                      refine RD.q [(24, .int .i64 a1)] (by repeat (first | exact trivial | refine ⟨rfl, ?_⟩)) (fun _ => (op_iaddr_ae (m := 2) Tryd.underlying88 ti3 rfl rfl rfl h23 rfl rfl (Nat.le_of_ble_eq_true rfl))) rfl rfl rfl ?_
                      refine RD.q [(25, .eptr [.agg [.int .i64 0, .int .i64 250, .int .i64 600, .int .i64 1000]] 0 2)] (by repeat (first | exact trivial | refine ⟨rfl, ?_⟩)) (fun _ => (op_load_e ti3 rfl rfl rfl rfl rfl)) rfl rfl rfl ?_
                      refine RD.q [(23, .int .i64 1000), (26, .int .i64 600)] (by repeat (first | exact trivial | refine ⟨rfl, ?_⟩)) (fun _ => (op_bin rfl rfl rfl rfl)) rfl rfl rfl ?_
                      refine RD.q [(27, .int .i64 400)] (by repeat (first | exact trivial | refine ⟨rfl, ?_⟩)) (fun _ => (op_assign rfl rfl)) rfl rfl rfl ?_
                      refine RD.q [] (by repeat (first | exact trivial | refine ⟨rfl, ?_⟩)) (fun _ => (op_assign rfl rfl)) rfl rfl rfl ?_
                      refine RD.nil (by kernel_rfl) ⟨⟨[(4, .int .i64 400), (5, .int .i64 0)], []⟩, weak_sel ⟨rfl, rfl, trivial⟩ rfl, ?_⟩
                      refine then_normal ?_
                      refine T_ret ?_
                      simp only [Option.some.injEq] at H
                      subst H
                      exact ret2 rfl rfl rfl rfl
                    · rw [if_neg h23] at H
                      by_cases h24 : a1 = 3
                      · rw [if_pos h24] at H
                        refine RD.q [(24, .int .i64 a1)] (by repeat (first | exact trivial | refine ⟨rfl, ?_⟩)) (fun _ => (op_iaddr_ae (m := 3) Tryd.underlying88 ti3 rfl rfl rfl h24 rfl rfl (Nat.le_of_ble_eq_true rfl))) rfl rfl rfl ?_
                        refine RD.q [(25, .eptr [.agg [.int .i64 0, .int .i64 250, .int .i64 600, .int .i64 1000]] 0 3)] (by repeat (first | exact trivial | refine ⟨rfl, ?_⟩)) (fun _ => (op_load_e ti3 rfl rfl rfl rfl rfl)) rfl rfl rfl ?_
                        refine RD.q [(23, .int .i64 1000), (26, .int .i64 1000)] (by repeat (first | exact trivial | refine ⟨rfl, ?_⟩)) (fun _ => (op_bin rfl rfl rfl rfl)) rfl rfl rfl ?_
                        refine RD.q [(27, .int .i64 0)] (by repeat (first | exact trivial | refine ⟨rfl, ?_⟩)) (fun _ => (op_assign rfl rfl)) rfl rfl rfl ?_
                        refine RD.q [] (by repeat (first | exact trivial | refine ⟨rfl, ?_⟩)) (fun _ => (op_assign rfl rfl)) rfl rfl rfl ?_
                        refine RD.nil (by kernel_rfl) ⟨⟨[(4, .int .i64 0), (5, .int .i64 0)], []⟩, weak_sel ⟨rfl, rfl, trivial⟩ rfl, ?_⟩
                        refine then_normal ?_
                        refine T_ret ?_
                        simp only [Option.some.injEq] at H
                        subst H
                        exact ret2 rfl rfl rfl rfl
                      · rw [if_neg h24] at H
                        cases H
              · rw [if_neg h20] at H
                cases H

/-! ### 61 bandplan/score.prices$1 -/
def score_prices_1.f (a0 : Int) (a1 : Int) (a2 : Bool) (a3 : Int) (a4 : Int) : Option (Int × Int) := (score_Reduction.f a1 a0).bind fun t1 => ((if ¬ t1.2 = 0 then some true else some (!a2))).bind fun x3 => (if x3 = true then some (0, 2) else some (IntKind.i64.wrap (Int.tdiv (IntKind.i64.wrap ((IntKind.i64.wrap (a3 * a4)) * t1.1)) 1000000000), 0))
def score_prices_1.S (args : List AV) (v : AV) : Prop := ∃ (a0 : Int) (a1 : Int) (a2 : Bool) (a3 : Int) (a4 : Int) (r : Int × Int), args = [.int .i64 a0, .eptr [.agg [.int .i64 a1]] 0 0, .eptr [.agg [.bool a2]] 0 0, .eptr [.agg [.int .i64 a3]] 0 0, .eptr [.agg [.int .i64 a4]] 0 0] ∧ score_prices_1.f a0 a1 a2 a3 a4 = some r ∧ v = .tup [.int .i64 r.1, .int .i64 r.2]
theorem score_prices_1.ok : VOk Tryd.prog 61 score_prices_1.S := by
  refine V_ok Tryd.func61 rfl fun args v hS => ⟨?_, ?_⟩
  · obtain ⟨a0, a1, a2, a3, a4, r, rfl, H, rfl⟩ := hS
    exact Nat.le_of_ble_eq_true rfl
  · obtain ⟨a0, a1, a2, a3, a4, r, rfl, H, rfl⟩ := hS
    unfold score_prices_1.f at H
    refine T_seq ?_
    refine T_reg ?_
    refine RE.op (op_assign rfl rfl) rfl rfl rfl ?_
    refine RE.op (op_assign rfl rfl) rfl rfl rfl ?_
    refine RE.nil ⟨⟨[(0, .int .i64 a0), (1, .eptr [.agg [.int .i64 a1]] 0 0), (2, .eptr [.agg [.bool a2]] 0 0), (3, .eptr [.agg [.int .i64 a3]] 0 0), (4, .eptr [.agg [.int .i64 a4]] 0 0)], []⟩, weak_sel ⟨rfl, rfl, rfl, rfl, rfl, trivial⟩ rfl, ?_⟩
    refine then_normal ?_
    refine T_seq ?_
    refine T_reg ?_
    refine RE.op (op_load_e ti3 rfl rfl rfl rfl rfl) rfl rfl rfl ?_
    refine RE.op (op_move rfl rfl) rfl rfl rfl ?_
    obtain ⟨t1, ht2, H⟩ := Option.bind_eq_some_iff.1 H
    refine RE.op (op_call (f := 62) rfl rfl rfl rfl en62 score_Reduction.ok ⟨_, _, _, rfl, ht2, rfl⟩) rfl rfl rfl ?_
    refine RE.op (op_move rfl rfl) rfl rfl rfl ?_
    refine RE.op (op_extract rfl rfl rfl) rfl rfl rfl ?_
    refine RE.op (op_extract rfl rfl rfl) rfl rfl rfl ?_
    refine RE.op (op_assign rfl rfl) rfl rfl rfl ?_
    refine RE.op (op_assign rfl rfl) rfl rfl rfl ?_
    refine RE.nil ⟨⟨[(2, .eptr [.agg [.bool a2]] 0 0), (3, .eptr [.agg [.int .i64 a3]] 0 0), (4, .eptr [.agg [.int .i64 a4]] 0 0), (8, .int .i64 t1.1), (9, .int .i64 t1.2)], []⟩, weak_sel ⟨rfl, rfl, rfl, rfl, rfl, trivial⟩ rfl, ?_⟩
    refine then_normal ?_
    refine T_seq ?_
    refine T_seq ?_
    obtain ⟨x3, hj4, H⟩ := Option.bind_eq_some_iff.1 H
    refine T_reg_out ⟨[(3, .eptr [.agg [.int .i64 a3]] 0 0), (4, .eptr [.agg [.int .i64 a4]] 0 0), (8, .int .i64 t1.1), (21, .bool x3)], []⟩ ?_ ?_
    · clear H
      have H := hj4
      clear hj4
      refine RE.op (op_move rfl rfl) rfl rfl rfl ?_
      refine RE.op (op_bin rfl rfl rfl rfl) rfl rfl rfl ?_
      refine RE.op (op_move rfl rfl) rfl rfl rfl ?_
      by_cases h1 : ¬ t1.2 = 0
      · rw [if_pos h1] at H
        refine RE.skip rfl rfl (getb (bne_iff_ne.mpr h1) rfl) rfl rfl rfl ?_
        refine RE.skip rfl rfl (getb (bne_iff_ne.mpr h1) rfl) rfl rfl rfl ?_
        refine RE.op (op_pick_true rfl (evb (bne_iff_ne.mpr h1) rfl) rfl) rfl rfl rfl ?_
        simp only [Option.some.injEq] at H
        subst H
        exact RE.nil (weak_sel (env' := [(3, .eptr [.agg [.int .i64 a3]] 0 0), (4, .eptr [.agg [.int .i64 a4]] 0 0), (8, .int .i64 t1.1), (21, .bool true)]) ⟨rfl, rfl, rfl, rfl, trivial⟩ rfl)
      · rw [if_neg h1] at H
        refine RE.opg (op_load_e ti4 rfl rfl rfl rfl rfl) rfl rfl (getb (bne_eq_false_iff_eq.mpr (Decidable.of_not_not h1)) rfl) rfl rfl ?_
        refine RE.opg (op_not rfl rfl) rfl rfl (getb (bne_eq_false_iff_eq.mpr (Decidable.of_not_not h1)) rfl) rfl rfl ?_
        refine RE.op (op_pick_false rfl (evb (bne_eq_false_iff_eq.mpr (Decidable.of_not_not h1)) rfl) rfl) rfl rfl rfl ?_
        simp only [Option.some.injEq] at H
        subst H
        exact RE.nil (weak_sel (env' := [(3, .eptr [.agg [.int .i64 a3]] 0 0), (4, .eptr [.agg [.int .i64 a4]] 0 0), (8, .int .i64 t1.1), (21, .bool (!a2))]) ⟨rfl, rfl, rfl, rfl, trivial⟩ rfl)
    · clear hj4
      refine then_normal ?_
      by_cases h2 : x3 = true
      · rw [if_pos h2] at H
        refine T_yes rfl h2 ?_
        refine T_seq ?_
        refine T_reg ?_
        refine RE.op (op_assign rfl rfl) rfl rfl rfl ?_
        refine RE.op (op_assign rfl rfl) rfl rfl rfl ?_
        refine RE.nil ⟨⟨[(6, .int .i64 0), (7, .int .i64 2)], []⟩, weak_sel ⟨rfl, rfl, trivial⟩ rfl, ?_⟩
        refine then_normal ?_
        refine T_ret ?_
        simp only [Option.some.injEq] at H
        subst H
        refine then_ret ?_
        exact ret2 rfl rfl rfl rfl
      · rw [if_neg h2] at H
        refine T_no rfl (Bool.eq_false_iff.mpr h2) ?_
        refine T_skip ?_
        refine then_normal ?_
        refine T_seq ?_
        refine T_reg ?_
        refine RE.op (op_load_e ti3 rfl rfl rfl rfl rfl) rfl rfl rfl ?_
        refine RE.op (op_load_e ti3 rfl rfl rfl rfl rfl) rfl rfl rfl ?_
        refine RE.op (op_bin rfl rfl rfl rfl) rfl rfl rfl ?_
        refine RE.op (op_move rfl rfl) rfl rfl rfl ?_
        refine RE.op (op_bin rfl rfl rfl rfl) rfl rfl rfl ?_
        refine RE.op (op_quo rfl rfl rfl (by decide)) rfl rfl rfl ?_
        refine RE.op (op_assign rfl rfl) rfl rfl rfl ?_
        refine RE.op (op_assign rfl rfl) rfl rfl rfl ?_
        refine RE.nil ⟨⟨[(6, .int .i64 (IntKind.i64.wrap (Int.tdiv (IntKind.i64.wrap ((IntKind.i64.wrap (a3 * a4)) * t1.1)) 1000000000))), (7, .int .i64 0)], []⟩, weak_sel ⟨rfl, rfl, trivial⟩ rfl, ?_⟩
        refine then_normal ?_
        refine T_ret ?_
        simp only [Option.some.injEq] at H
        subst H
        exact ret2 rfl rfl rfl rfl

/-! ### 51 bandplan/score.prices -/
def score_prices.f (a0 : Int) (a1 : Int) (a2 : Int) : Option (Int × Bool × Int × Int) := ((if a0 ≥ 1 then (if a0 ≤ 1000000 then (if a1 ≥ 0 then some (decide (a1 ≤ 1000000000)) else some false) else some false) else some false)).bind fun x1 => some (a2, x1, a0, a1)
def score_prices.S (args : List AV) (v : AV) : Prop := ∃ (a0 : Int) (a1 : Int) (a2 : Int) (r : Int × Bool × Int × Int), args = [.int .i64 a0, .int .i64 a1, .int .i64 a2] ∧ score_prices.f a0 a1 a2 = some r ∧ v = .fn 61 [.eptr [.agg [.int .i64 r.1]] 0 0, .eptr [.agg [.bool r.2.1]] 0 0, .eptr [.agg [.int .i64 r.2.2.1]] 0 0, .eptr [.agg [.int .i64 r.2.2.2]] 0 0]
theorem score_prices.ok : VOk Tryd.prog 51 score_prices.S := by
  refine V_okr Tryd.func51 rfl fun args v hS => ⟨?_, ?_⟩
  · obtain ⟨a0, a1, a2, r, rfl, H, rfl⟩ := hS
    exact Nat.le_of_ble_eq_true rfl
  · obtain ⟨a0, a1, a2, r, rfl, H, rfl⟩ := hS
    unfold score_prices.f at H
    refine T_seq ?_
    refine T_reg ?_
    refine RE.op (op_box (k := 0) rfl rfl rfl rfl) rfl rfl rfl ?_
    refine RE.op (op_box (k := 1) rfl rfl rfl rfl) rfl rfl rfl ?_
    refine RE.op (op_box (k := 2) rfl rfl rfl rfl) rfl rfl rfl ?_
    refine RE.op (op_assign rfl rfl) rfl rfl rfl ?_
    refine RE.nil ⟨⟨[(3, .ptr 0 0), (4, .ptr 1 0), (5, .ptr 2 0)], [.cells [.int .i64 a0], .cells [.int .i64 a1], .cells [.int .i64 a2]]⟩, weak_sel ⟨rfl, rfl, rfl, trivial⟩ rfl, ?_⟩
    refine then_normal ?_
    refine T_seq ?_
    obtain ⟨x1, hj2, H⟩ := Option.bind_eq_some_iff.1 H
    refine T_reg_out ⟨[(3, .ptr 0 0), (4, .ptr 1 0), (5, .ptr 2 0), (7, .ptr 3 0)], [.cells [.int .i64 a0], .cells [.int .i64 a1], .cells [.int .i64 a2], .cells [.bool x1]]⟩ ?_ ?_
    · clear H
      have H := hj2
      clear hj2
      refine RE.op (op_load ti3 rfl rfl rfl rfl rfl) rfl rfl rfl ?_
      refine RE.op (op_bin rfl rfl rfl rfl) rfl rfl rfl ?_
      refine RE.op (op_move rfl rfl) rfl rfl rfl ?_
      by_cases h1 : a0 ≥ 1
      · rw [if_pos h1] at H
        refine RE.opg (op_load ti3 rfl rfl rfl rfl rfl) rfl rfl (getb (decide_eq_true h1) rfl) rfl rfl ?_
        refine RE.opg (op_bin rfl rfl rfl rfl) rfl rfl (getb (decide_eq_true h1) rfl) rfl rfl ?_
        refine RE.op (op_pick_true rfl (evb (decide_eq_true h1) rfl) rfl) rfl rfl rfl ?_
        refine RE.op (op_move rfl rfl) rfl rfl rfl ?_
        by_cases h2 : a0 ≤ 1000000
        · rw [if_pos h2] at H
          refine RE.opg (op_load ti3 rfl rfl rfl rfl rfl) rfl rfl (getb (decide_eq_true h2) rfl) rfl rfl ?_
          refine RE.opg (op_bin rfl rfl rfl rfl) rfl rfl (getb (decide_eq_true h2) rfl) rfl rfl ?_
          refine RE.op (op_pick_true rfl (evb (decide_eq_true h2) rfl) rfl) rfl rfl rfl ?_
          refine RE.op (op_move rfl rfl) rfl rfl rfl ?_
          by_cases h3 : a1 ≥ 0
          · rw [if_pos h3] at H
            refine RE.opg (op_load ti3 rfl rfl rfl rfl rfl) rfl rfl (getb (decide_eq_true h3) rfl) rfl rfl ?_
            refine RE.opg (op_bin rfl rfl rfl rfl) rfl rfl (getb (decide_eq_true h3) rfl) rfl rfl ?_
            refine RE.op (op_pick_true rfl (evb (decide_eq_true h3) rfl) rfl) rfl rfl rfl ?_
            refine RE.op (op_alloc (k := 3) ti4 rfl rfl rfl rfl) rfl rfl rfl ?_
            refine RE.op0 (op_store (cs' := [.bool (decide (a1 ≤ 1000000000))]) ti4 rfl rfl rfl rfl rfl rfl (Nat.le_of_ble_eq_true rfl) rfl) rfl rfl ?_
            simp only [Option.some.injEq] at H
            subst H
            exact RE.nil (weak_sel (env' := [(3, .ptr 0 0), (4, .ptr 1 0), (5, .ptr 2 0), (7, .ptr 3 0)]) ⟨rfl, rfl, rfl, rfl, trivial⟩ rfl)
          · rw [if_neg h3] at H
            refine RE.skip rfl rfl (getb (decide_eq_false h3) rfl) rfl rfl rfl ?_
            refine RE.skip rfl rfl (getb (decide_eq_false h3) rfl) rfl rfl rfl ?_
            refine RE.op (op_pick_false rfl (evb (decide_eq_false h3) rfl) rfl) rfl rfl rfl ?_
            refine RE.op (op_alloc (k := 3) ti4 rfl rfl rfl rfl) rfl rfl rfl ?_
            refine RE.op0 (op_store (cs' := [.bool false]) ti4 rfl rfl rfl rfl rfl rfl (Nat.le_of_ble_eq_true rfl) rfl) rfl rfl ?_
            simp only [Option.some.injEq] at H
            subst H
            exact RE.nil (weak_sel (env' := [(3, .ptr 0 0), (4, .ptr 1 0), (5, .ptr 2 0), (7, .ptr 3 0)]) ⟨rfl, rfl, rfl, rfl, trivial⟩ rfl)
        · rw [if_neg h2] at H
          refine RE.skip rfl rfl (getb (decide_eq_false h2) rfl) rfl rfl rfl ?_
          refine RE.skip rfl rfl (getb (decide_eq_false h2) rfl) rfl rfl rfl ?_
          refine RE.op (op_pick_false rfl (evb (decide_eq_false h2) rfl) rfl) rfl rfl rfl ?_
          refine RE.op (op_move rfl rfl) rfl rfl rfl ?_
          refine RE.skip rfl rfl rfl rfl rfl rfl ?_
          refine RE.skip rfl rfl rfl rfl rfl rfl ?_
          refine RE.op (op_pick_false rfl rfl rfl) rfl rfl rfl ?_
          refine RE.op (op_alloc (k := 3) ti4 rfl rfl rfl rfl) rfl rfl rfl ?_
          refine RE.op0 (op_store (cs' := [.bool false]) ti4 rfl rfl rfl rfl rfl rfl (Nat.le_of_ble_eq_true rfl) rfl) rfl rfl ?_
          simp only [Option.some.injEq] at H
          subst H
          exact RE.nil (weak_sel (env' := [(3, .ptr 0 0), (4, .ptr 1 0), (5, .ptr 2 0), (7, .ptr 3 0)]) ⟨rfl, rfl, rfl, rfl, trivial⟩ rfl)
      · rw [if_neg h1] at H
        refine RE.skip rfl rfl (getb (decide_eq_false h1) rfl) rfl rfl rfl ?_
        refine RE.skip rfl rfl (getb (decide_eq_false h1) rfl) rfl rfl rfl ?_
        refine RE.op (op_pick_false rfl (evb (decide_eq_false h1) rfl) rfl) rfl rfl rfl ?_
        refine RE.op (op_move rfl rfl) rfl rfl rfl ?_
        refine RE.skip rfl rfl rfl rfl rfl rfl ?_
        refine RE.skip rfl rfl rfl rfl rfl rfl ?_
        refine RE.op (op_pick_false rfl rfl rfl) rfl rfl rfl ?_
        refine RE.op (op_move rfl rfl) rfl rfl rfl ?_
        refine RE.skip rfl rfl rfl rfl rfl rfl ?_
        refine RE.skip rfl rfl rfl rfl rfl rfl ?_
        refine RE.op (op_pick_false rfl rfl rfl) rfl rfl rfl ?_
        refine RE.op (op_alloc (k := 3) ti4 rfl rfl rfl rfl) rfl rfl rfl ?_
        refine RE.op0 (op_store (cs' := [.bool false]) ti4 rfl rfl rfl rfl rfl rfl (Nat.le_of_ble_eq_true rfl) rfl) rfl rfl ?_
        simp only [Option.some.injEq] at H
        subst H
        exact RE.nil (weak_sel (env' := [(3, .ptr 0 0), (4, .ptr 1 0), (5, .ptr 2 0), (7, .ptr 3 0)]) ⟨rfl, rfl, rfl, rfl, trivial⟩ rfl)
    · clear hj2
      refine then_normal ?_
      refine T_seq ?_
      refine T_reg ?_
      refine RE.op (op_mkfunc rfl rfl) rfl rfl rfl ?_
      refine RE.op (op_assign rfl rfl) rfl rfl rfl ?_
      refine RE.nil ⟨⟨[(6, .fn 61 [.ptr 2 0, .ptr 3 0, .ptr 0 0, .ptr 1 0])], [.cells [.int .i64 a0], .cells [.int .i64 a1], .cells [.int .i64 a2], .cells [.bool x1]]⟩, weak_sel ⟨rfl, trivial⟩ rfl, ?_⟩
      refine then_normal ?_
      refine T_ret ?_
      simp only [Option.some.injEq] at H
      subst H
      exact ret1r rfl rfl rfl

/-! ### 27 bandplan/score.Offer -/
def score_Offer.f (a0 : Int) (a1 : Int) (a2 : Int) (a3 : Int) : Option (Int × Int) := (score_prices.f a0 a1 a2).bind fun t1 => (score_prices_1.f a3 t1.1 t1.2.1 t1.2.2.1 t1.2.2.2).bind fun t3 => some (t3.1, t3.2)
def score_Offer.S (args : List AV) (v : AV) : Prop := ∃ (a0 : Int) (a1 : Int) (a2 : Int) (a3 : Int) (r : Int × Int), args = [.int .i64 a0, .int .i64 a1, .int .i64 a2, .int .i64 a3] ∧ score_Offer.f a0 a1 a2 a3 = some r ∧ v = .tup [.int .i64 r.1, .int .i64 r.2]
theorem score_Offer.ok : VOk Tryd.prog 27 score_Offer.S := by
  refine V_ok Tryd.func27 rfl fun args v hS => ⟨?_, ?_⟩
  · obtain ⟨a0, a1, a2, a3, r, rfl, H, rfl⟩ := hS
    exact Nat.le_of_ble_eq_true rfl
  · obtain ⟨a0, a1, a2, a3, r, rfl, H, rfl⟩ := hS
    unfold score_Offer.f at H
    refine T_seq ?_
    refine T_reg ?_
    refine RE.op (op_assign rfl rfl) rfl rfl rfl ?_
    refine RE.op (op_assign rfl rfl) rfl rfl rfl ?_
    refine RE.nil ⟨⟨[(0, .int .i64 a0), (1, .int .i64 a1), (2, .int .i64 a2), (3, .int .i64 a3)], []⟩, weak_sel ⟨rfl, rfl, rfl, rfl, trivial⟩ rfl, ?_⟩
    refine then_normal ?_
    refine T_seq ?_
    refine T_reg ?_
    refine RE.op (op_move rfl rfl) rfl rfl rfl ?_
    refine RE.op (op_move rfl rfl) rfl rfl rfl ?_
    refine RE.op (op_move rfl rfl) rfl rfl rfl ?_
    obtain ⟨t1, ht2, H⟩ := Option.bind_eq_some_iff.1 H
    refine RE.op (op_call (f := 51) rfl rfl rfl rfl en51 score_prices.ok ⟨_, _, _, _, rfl, ht2, rfl⟩) rfl rfl rfl ?_
    refine RE.op (op_move rfl rfl) rfl rfl rfl ?_
    obtain ⟨t3, ht4, H⟩ := Option.bind_eq_some_iff.1 H
    refine RE.op (op_call (f := 61) rfl rfl rfl rfl en61 score_prices_1.ok ⟨_, _, _, _, _, _, rfl, ht4, rfl⟩) rfl rfl rfl ?_
    refine RE.op (op_extract rfl rfl rfl) rfl rfl rfl ?_
    refine RE.op (op_extract rfl rfl rfl) rfl rfl rfl ?_
    refine RE.op (op_assign rfl rfl) rfl rfl rfl ?_
    refine RE.op (op_assign rfl rfl) rfl rfl rfl ?_
    refine RE.nil ⟨⟨[(8, .int .i64 t3.1), (9, .int .i64 t3.2)], []⟩, weak_sel ⟨rfl, rfl, trivial⟩ rfl, ?_⟩
    refine then_normal ?_
    refine T_ret ?_
    simp only [Option.some.injEq] at H
    subst H
    exact ret2 rfl rfl rfl rfl
end Go.Proofs.YtgobepjodkggoaaDoor.Fn
