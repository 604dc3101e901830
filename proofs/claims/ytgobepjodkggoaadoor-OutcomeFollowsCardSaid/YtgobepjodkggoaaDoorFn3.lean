/- What the functions compute, and that they do: part 3. -/
import Derived.Test.YtgobepjodkggoaaDoorTi
import Derived.Test.YtgobepjodkggoaaDoorDt
import Derived.Test.YtgobepjodkggoaaDoorFn2
namespace Go.Proofs.YtgobepjodkggoaaDoor.Fn
open Go Go.Proofs Go.Proofs.YtgobepjodkggoaaDoor.Ai Go.Proofs.YtgobepjodkggoaaDoor.Dt Go.Proofs.YtgobepjodkggoaaDoor.Ti
set_option linter.unusedVariables false
set_option maxRecDepth 100000

/-! ### 52 bandplan/bandplanref31.Valid -/
def bandplanref31_Valid.l0 (a0 : (List S_api_Entrant)) : Nat → Int → Option (Sum (Int × Int × Int) (Unit))
  | 0, _ => none
  | k + 1, x1 => (if x1 < ((a0.map S_api_Entrant.enc).length : Int) then (idx a0 x1).bind fun y7 => ((if y7.f_Station < 0 then some true else (if y7.f_Station > 511 then some true else (if y7.f_Home < 1 then some true else (if y7.f_Home > 3 then some true else (if y7.f_Volume < 1 then some true else (if y7.f_Volume > 1000000 then some true else (if x1 > 0 then (idx a0 (IntKind.i64.wrap (x1 - 1))).bind fun y10 => some (decide (y7.f_Station ≤ y10.f_Station)) else some false)))))))).bind fun x9 => (if x9 = true then some (.inl (y7.f_Station, y7.f_Home, y7.f_Volume)) else bandplanref31_Valid.l0 a0 k (IntKind.i64.wrap (x1 + 1))) else some (.inr ()))
def bandplanref31_Valid.f (k : Nat) (a0 : (List S_api_Entrant)) : Option (Bool) := ((bandplanref31_Valid.l0 a0 k 0).bind fun o => match o with | (.inl (x2, x3, x4)) => some false | (.inr _) => some true)
def bandplanref31_Valid.S (args : List AV) (v : AV) : Prop := ∃ (k : Nat) (a0 : (List S_api_Entrant)) (r : Bool), args = [.lst false (a0.map S_api_Entrant.enc)] ∧ bandplanref31_Valid.f k a0 = some r ∧ v = .bool r
theorem bandplanref31_Valid.ok : VOk Tryd.prog 52 bandplanref31_Valid.S := by
  refine V_ok Tryd.func52 rfl fun args v hS => ⟨?_, ?_⟩
  · obtain ⟨k, a0, r, rfl, H, rfl⟩ := hS
    exact Nat.le_of_ble_eq_true rfl
  · obtain ⟨k, a0, r, rfl, H, rfl⟩ := hS
    unfold bandplanref31_Valid.f at H
    refine T_seq ?_
    refine T_reg ?_
    refine RE.op (op_assign rfl rfl) rfl rfl rfl ?_
    refine RE.nil ⟨⟨[(0, .lst false (a0.map S_api_Entrant.enc))], []⟩, weak_sel ⟨rfl, trivial⟩ rfl, ?_⟩
    refine then_normal ?_
    refine T_seq ?_
    refine T_seq ?_
    refine T_reg ?_
    refine RE.op (op_assign rfl rfl) rfl rfl rfl ?_
    refine RE.nil ⟨⟨[(0, .lst false (a0.map S_api_Entrant.enc)), (3, .int .i64 0)], []⟩, weak_sel ⟨rfl, rfl, trivial⟩ rfl, ?_⟩
    refine then_normal ?_
    refine T_block ?_
    obtain ⟨o5, hj6, H⟩ := Option.bind_eq_some_iff.1 H
    refine T_loop_out ((fun (x_ : Int) => ⟨[(0, .lst false (a0.map S_api_Entrant.enc)), (3, .int .i64 x_)], []⟩) 0) ((fun o => match o with | (.inl _) => .ret | (.inr _) => .exit 0) o5) ((fun o => match o with | (.inl (x2, x3, x4)) => ⟨[(2, .bool false)], [.cells [.int .i64 x2, .int .i64 x3, .int .i64 x4]]⟩ | (.inr ()) => ⟨[], []⟩) o5) (weak_sel (env' := [(0, .lst false (a0.map S_api_Entrant.enc)), (3, .int .i64 0)]) ⟨rfl, rfl, trivial⟩ rfl) ?_ ?_
    · refine T_fix (bandplanref31_Valid.l0 a0) (fun (x_ : Int) => ⟨[(0, .lst false (a0.map S_api_Entrant.enc)), (3, .int .i64 x_)], []⟩) (fun o => match o with | (.inl _) => .ret | (.inr _) => .exit 0) (fun o => match o with | (.inl (x2, x3, x4)) => ⟨[(2, .bool false)], [.cells [.int .i64 x2, .int .i64 x3, .int .i64 x4]]⟩ | (.inr ()) => ⟨[], []⟩) (fun _ => rfl) ?_ _ 0 _ hj6
      clear H hj6
      intro k IH x1 o H
      unfold bandplanref31_Valid.l0 at H
      (try simp only at H)
      refine T_seq ?_
      refine T_seq ?_
      refine T_reg ?_
      refine RE.op (op_move rfl rfl) rfl rfl rfl ?_
      refine RE.op (op_move rfl rfl) rfl rfl rfl ?_
      refine RE.op (op_len Tryd.underlying37 rfl rfl) rfl rfl rfl ?_
      refine RE.op (op_bin rfl rfl rfl rfl) rfl rfl rfl ?_
      refine RE.nil ⟨⟨[(0, .lst false (a0.map S_api_Entrant.enc)), (3, .int .i64 x1), (8, .bool (decide (x1 < ((a0.map S_api_Entrant.enc).length : Int))))], []⟩, weak_sel ⟨rfl, rfl, rfl, trivial⟩ rfl, ?_⟩
      refine then_normal ?_
      by_cases h1 : x1 < ((a0.map S_api_Entrant.enc).length : Int)
      · rw [if_pos h1] at H
        refine T_yes rfl (decide_eq_true h1) ?_
        refine T_skip ?_
        refine then_normal ?_
        refine T_seq ?_
        refine T_block ?_
        refine T_seq ?_
        refine T_reg ?_
        refine RE.op (op_move rfl rfl) rfl rfl rfl ?_
        refine RE.op (op_move rfl rfl) rfl rfl rfl ?_
        obtain ⟨y7, hy8, H⟩ := Option.bind_eq_some_iff.1 H
        refine RE.op (op_iaddr Tryd.underlying37 ti52 rfl rfl rfl (idx_pos hy8) (idx_map hy8 S_api_Entrant.enc) rfl (Nat.le_of_ble_eq_true rfl)) rfl rfl rfl ?_
        refine RE.op (op_load_agg_e (ds := [.int .i64 y7.f_Station, .int .i64 y7.f_Home, .int .i64 y7.f_Volume]) ti52 rfl rfl rfl (idx_map hy8 S_api_Entrant.enc) (Nat.le_of_ble_eq_true rfl) rfl) rfl rfl rfl ?_
        refine RE.op (op_alloc (k := 0) ti52 rfl rfl rfl rfl) rfl rfl rfl ?_
        refine RE.op0 (op_store (cs' := [.int .i64 y7.f_Station, .int .i64 y7.f_Home, .int .i64 y7.f_Volume]) ti52 rfl rfl rfl rfl rfl rfl (Nat.le_of_ble_eq_true rfl) rfl) rfl rfl ?_
        refine RE.nil ⟨⟨[(0, .lst false (a0.map S_api_Entrant.enc)), (3, .int .i64 x1), (4, .ptr 0 0)], [.cells [.int .i64 y7.f_Station, .int .i64 y7.f_Home, .int .i64 y7.f_Volume]]⟩, weak_sel ⟨rfl, rfl, rfl, trivial⟩ rfl, ?_⟩
        refine then_normal ?_
        refine T_seq ?_
        obtain ⟨x9, hj12, H⟩ := Option.bind_eq_some_iff.1 H
        refine T_drawn_out mix [0, 1, 3, 7, 15, 31, 63, 127, 255, 511, 1023, 2047, 4095, 8191, 16383, 32767, 65535, 131071, 262143, 524287, 1048575, 2097151, 4194303, 8388607, 16777215, 33554431, 67108863, 134217727, 268435455, 536870911, 1073741823, 2147483647, 4294967295, 8589934591, 4294967295, 4294967295, 38654705663, 124554051583, 261993005055, 536870911999, 1099511627775, 2199023255551, 4398046511103] (by kernel_rfl) ⟨[(0, .lst false (a0.map S_api_Entrant.enc)), (3, .int .i64 x1), (57, .bool x9)], [.cells [.int .i64 y7.f_Station, .int .i64 y7.f_Home, .int .i64 y7.f_Volume]]⟩ ?_ ?_
        · clear H
          have H := hj12
          clear hj12
          refine RD.q [(4, .ptr 0 0)] (by repeat (first | exact trivial | refine ⟨rfl, ?_⟩)) (fun _ => (op_faddr Tryd.underlying52 rfl ti3 rfl rfl rfl)) rfl rfl rfl ?_
          refine RD.l (i := 0) [(15, .ptr 0 0)] (by repeat (first | exact trivial | refine ⟨rfl, ?_⟩)) rfl (fun _ hb => (op_load ti3 rfl rfl rfl hb rfl)) rfl rfl rfl ?_
          refine RD.q [(16, .int .i64 y7.f_Station)] (by repeat (first | exact trivial | refine ⟨rfl, ?_⟩)) (fun _ => (op_bin rfl rfl rfl rfl)) rfl rfl rfl ?_
          refine RD.q [(17, .bool (decide (y7.f_Station < 0)))] (by repeat (first | exact trivial | refine ⟨rfl, ?_⟩)) (fun _ => (op_move rfl rfl)) rfl rfl rfl ?_
          by_cases h2 : y7.f_Station < 0
          · rw [if_pos h2] at H
            refine RD.skip rfl rfl (getb (decide_eq_true h2) rfl) rfl rfl rfl ?_
            refine RD.skip rfl rfl (getb (decide_eq_true h2) rfl) rfl rfl rfl ?_
            refine RD.skip rfl rfl (getb (decide_eq_true h2) rfl) rfl rfl rfl ?_
            refine RD.q [(18, .bool (decide (y7.f_Station < 0))), (21, .tup [])] (by repeat (first | exact trivial | refine ⟨rfl, ?_⟩)) (fun _ => (op_pick_true rfl (evb (decide_eq_true h2) rfl) rfl)) rfl rfl rfl ?_
            refine RD.q [(22, .bool true)] (by repeat (first | exact trivial | refine ⟨rfl, ?_⟩)) (fun _ => (op_move rfl rfl)) rfl rfl rfl ?_
            refine RD.skip rfl rfl rfl rfl rfl rfl ?_
            refine RD.skip rfl rfl rfl rfl rfl rfl ?_
            refine RD.skip rfl rfl rfl rfl rfl rfl ?_
            refine RD.q [(23, .bool true), (26, .tup [])] (by repeat (first | exact trivial | refine ⟨rfl, ?_⟩)) (fun _ => (op_pick_true rfl rfl rfl)) rfl rfl rfl ?_
            refine RD.q [(27, .bool true)] (by repeat (first | exact trivial | refine ⟨rfl, ?_⟩)) (fun _ => (op_move rfl rfl)) rfl rfl rfl ?_
            refine RD.skip rfl rfl rfl rfl rfl rfl ?_
            refine RD.skip rfl rfl rfl rfl rfl rfl ?_
            refine RD.skip rfl rfl rfl rfl rfl rfl ?_
            refine RD.q [(28, .bool true), (31, .tup [])] (by repeat (first | exact trivial | refine ⟨rfl, ?_⟩)) (fun _ => (op_pick_true rfl rfl rfl)) rfl rfl rfl ?_
            refine RD.q [(32, .bool true)] (by repeat (first | exact trivial | refine ⟨rfl, ?_⟩)) (fun _ => (op_move rfl rfl)) rfl rfl rfl ?_
            refine RD.skip rfl rfl rfl rfl rfl rfl ?_
            refine RD.skip rfl rfl rfl rfl rfl rfl ?_
            refine RD.skip rfl rfl rfl rfl rfl rfl ?_
            refine RD.q [(33, .bool true), (36, .tup [])] (by repeat (first | exact trivial | refine ⟨rfl, ?_⟩)) (fun _ => (op_pick_true rfl rfl rfl)) rfl rfl rfl ?_
            refine RD.q [(37, .bool true)] (by repeat (first | exact trivial | refine ⟨rfl, ?_⟩)) (fun _ => (op_move rfl rfl)) rfl rfl rfl ?_
            refine RD.skip rfl rfl rfl rfl rfl rfl ?_
            refine RD.skip rfl rfl rfl rfl rfl rfl ?_
            refine RD.skip rfl rfl rfl rfl rfl rfl ?_
            refine RD.q [(38, .bool true), (41, .tup [])] (by repeat (first | exact trivial | refine ⟨rfl, ?_⟩)) (fun _ => (op_pick_true rfl rfl rfl)) rfl rfl rfl ?_
            refine RD.q [(42, .bool true)] (by repeat (first | exact trivial | refine ⟨rfl, ?_⟩)) (fun _ => (op_move rfl rfl)) rfl rfl rfl ?_
            refine RD.skip rfl rfl rfl rfl rfl rfl ?_
            refine RD.skip rfl rfl rfl rfl rfl rfl ?_
            refine RD.skip rfl rfl rfl rfl rfl rfl ?_
            refine RD.skipu rfl rfl rfl rfl rfl ?_
            refine RD.skipu rfl rfl rfl rfl rfl ?_
            refine RD.skipu rfl rfl rfl rfl rfl ?_
            refine RD.skipu rfl rfl rfl rfl rfl ?_
            refine RD.skipu rfl rfl rfl rfl rfl ?_
            refine RD.skipu rfl rfl rfl rfl rfl ?_
            refine RD.skipu rfl rfl rfl rfl rfl ?_
            refine RD.skipu rfl rfl rfl rfl rfl ?_
            refine RD.skipu rfl rfl rfl rfl rfl ?_
            refine RD.skip rfl rfl rfl rfl rfl rfl ?_
            refine RD.q [(43, .bool true), (56, .tup [])] (by repeat (first | exact trivial | refine ⟨rfl, ?_⟩)) (fun _ => (op_pick_true rfl rfl rfl)) rfl rfl rfl ?_
            simp only [Option.some.injEq] at H
            subst H
            exact RD.nil (by kernel_rfl) (weak_sel (env' := [(0, .lst false (a0.map S_api_Entrant.enc)), (3, .int .i64 x1), (57, .bool true)]) ⟨rfl, rfl, rfl, trivial⟩ rfl)
          · rw [if_neg h2] at H
            refine RD.qg [(4, .ptr 0 0)] (by repeat (first | exact trivial | refine ⟨rfl, ?_⟩)) (fun _ => (op_faddr Tryd.underlying52 rfl ti3 rfl rfl rfl)) rfl rfl (getb (decide_eq_false h2) rfl) rfl rfl ?_
            refine RD.lg (i := 0) [(19, .ptr 0 0)] (by repeat (first | exact trivial | refine ⟨rfl, ?_⟩)) rfl (fun _ hb => (op_load ti3 rfl rfl rfl hb rfl)) rfl rfl (getb (decide_eq_false h2) rfl) rfl rfl ?_
            refine RD.qg [(20, .int .i64 y7.f_Station)] (by repeat (first | exact trivial | refine ⟨rfl, ?_⟩)) (fun _ => (op_bin rfl rfl rfl rfl)) rfl rfl (getb (decide_eq_false h2) rfl) rfl rfl ?_
            refine RD.q [(18, .bool (decide (y7.f_Station < 0))), (21, .bool (decide (y7.f_Station > 511)))] (by repeat (first | exact trivial | refine ⟨rfl, ?_⟩)) (fun _ => (op_pick_false rfl (evb (decide_eq_false h2) rfl) rfl)) rfl rfl rfl ?_
            refine RD.q [(22, .bool (decide (y7.f_Station > 511)))] (by repeat (first | exact trivial | refine ⟨rfl, ?_⟩)) (fun _ => (op_move rfl rfl)) rfl rfl rfl ?_
            by_cases h3 : y7.f_Station > 511
            · rw [if_pos h3] at H
              refine RD.skip rfl rfl (getb (decide_eq_true h3) rfl) rfl rfl rfl ?_
              refine RD.skip rfl rfl (getb (decide_eq_true h3) rfl) rfl rfl rfl ?_
              refine RD.skip rfl rfl (getb (decide_eq_true h3) rfl) rfl rfl rfl ?_
              refine RD.q [(23, .bool (decide (y7.f_Station > 511))), (26, .tup [])] (by repeat (first | exact trivial | refine ⟨rfl, ?_⟩)) (fun _ => (op_pick_true rfl (evb (decide_eq_true h3) rfl) rfl)) rfl rfl rfl ?_
              refine RD.q [(27, .bool true)] (by repeat (first | exact trivial | refine ⟨rfl, ?_⟩)) (fun _ => (op_move rfl rfl)) rfl rfl rfl ?_
              refine RD.skip rfl rfl rfl rfl rfl rfl ?_
              refine RD.skip rfl rfl rfl rfl rfl rfl ?_
              refine RD.skip rfl rfl rfl rfl rfl rfl ?_
              refine RD.q [(28, .bool true), (31, .tup [])] (by repeat (first | exact trivial | refine ⟨rfl, ?_⟩)) (fun _ => (op_pick_true rfl rfl rfl)) rfl rfl rfl ?_
              refine RD.q [(32, .bool true)] (by repeat (first | exact trivial | refine ⟨rfl, ?_⟩)) (fun _ => (op_move rfl rfl)) rfl rfl rfl ?_
              refine RD.skip rfl rfl rfl rfl rfl rfl ?_
              refine RD.skip rfl rfl rfl rfl rfl rfl ?_
              refine RD.skip rfl rfl rfl rfl rfl rfl ?_
              refine RD.q [(33, .bool true), (36, .tup [])] (by repeat (first | exact trivial | refine ⟨rfl, ?_⟩)) (fun _ => (op_pick_true rfl rfl rfl)) rfl rfl rfl ?_
              refine RD.q [(37, .bool true)] (by repeat (first | exact trivial | refine ⟨rfl, ?_⟩)) (fun _ => (op_move rfl rfl)) rfl rfl rfl ?_
              refine RD.skip rfl rfl rfl rfl rfl rfl ?_
              refine RD.skip rfl rfl rfl rfl rfl rfl ?_
              refine RD.skip rfl rfl rfl rfl rfl rfl ?_
              refine RD.q [(38, .bool true), (41, .tup [])] (by repeat (first | exact trivial | refine ⟨rfl, ?_⟩)) (fun _ => (op_pick_true rfl rfl rfl)) rfl rfl rfl ?_
              refine RD.q [(42, .bool true)] (by repeat (first | exact trivial | refine ⟨rfl, ?_⟩)) (fun _ => (op_move rfl rfl)) rfl rfl rfl ?_
              refine RD.skip rfl rfl rfl rfl rfl rfl ?_
              refine RD.skip rfl rfl rfl rfl rfl rfl ?_
              refine RD.skip rfl rfl rfl rfl rfl rfl ?_
              refine RD.skipu rfl rfl rfl rfl rfl ?_
              refine RD.skipu rfl rfl rfl rfl rfl ?_
              refine RD.skipu rfl rfl rfl rfl rfl ?_
              refine RD.skipu rfl rfl rfl rfl rfl ?_
              refine RD.skipu rfl rfl rfl rfl rfl ?_
              refine RD.skipu rfl rfl rfl rfl rfl ?_
              refine RD.skipu rfl rfl rfl rfl rfl ?_
              refine RD.skipu rfl rfl rfl rfl rfl ?_
              refine RD.skipu rfl rfl rfl rfl rfl ?_
              refine RD.skip rfl rfl rfl rfl rfl rfl ?_
              refine RD.q [(43, .bool true), (56, .tup [])] (by repeat (first | exact trivial | refine ⟨rfl, ?_⟩)) (fun _ => (op_pick_true rfl rfl rfl)) rfl rfl rfl ?_
              simp only [Option.some.injEq] at H
              subst H
              exact RD.nil (by kernel_rfl) (weak_sel (env' := [(0, .lst false (a0.map S_api_Entrant.enc)), (3, .int .i64 x1), (57, .bool true)]) ⟨rfl, rfl, rfl, trivial⟩ rfl)
            · rw [if_neg h3] at H
              refine RD.qg [(4, .ptr 0 0)] (by repeat (first | exact trivial | refine ⟨rfl, ?_⟩)) (fun _ => (op_faddr Tryd.underlying52 rfl ti3 rfl rfl rfl)) rfl rfl (getb (decide_eq_false h3) rfl) rfl rfl ?_
              refine RD.lg (i := 0) [(24, .ptr 0 1)] (by repeat (first | exact trivial | refine ⟨rfl, ?_⟩)) rfl (fun _ hb => (op_load ti3 rfl rfl rfl hb rfl)) rfl rfl (getb (decide_eq_false h3) rfl) rfl rfl ?_
              refine RD.qg [(25, .int .i64 y7.f_Home)] (by repeat (first | exact trivial | refine ⟨rfl, ?_⟩)) (fun _ => (op_bin rfl rfl rfl rfl)) rfl rfl (getb (decide_eq_false h3) rfl) rfl rfl ?_
              refine RD.q [(23, .bool (decide (y7.f_Station > 511))), (26, .bool (decide (y7.f_Home < 1)))] (by repeat (first | exact trivial | refine ⟨rfl, ?_⟩)) (fun _ => (op_pick_false rfl (evb (decide_eq_false h3) rfl) rfl)) rfl rfl rfl ?_
              refine RD.q [(27, .bool (decide (y7.f_Home < 1)))] (by repeat (first | exact trivial | refine ⟨rfl, ?_⟩)) (fun _ => (op_move rfl rfl)) rfl rfl rfl ?_
              by_cases h4 : y7.f_Home < 1
              · rw [if_pos h4] at H
                refine RD.skip rfl rfl (getb (decide_eq_true h4) rfl) rfl rfl rfl ?_
                refine RD.skip rfl rfl (getb (decide_eq_true h4) rfl) rfl rfl rfl ?_
                refine RD.skip rfl rfl (getb (decide_eq_true h4) rfl) rfl rfl rfl ?_
                refine RD.q [(28, .bool (decide (y7.f_Home < 1))), (31, .tup [])] (by repeat (first | exact trivial | refine ⟨rfl, ?_⟩)) (fun _ => (op_pick_true rfl (evb (decide_eq_true h4) rfl) rfl)) rfl rfl rfl ?_
                refine RD.q [(32, .bool true)] (by repeat (first | exact trivial | refine ⟨rfl, ?_⟩)) (fun _ => (op_move rfl rfl)) rfl rfl rfl ?_
                refine RD.skip rfl rfl rfl rfl rfl rfl ?_
                refine RD.skip rfl rfl rfl rfl rfl rfl ?_
                refine RD.skip rfl rfl rfl rfl rfl rfl ?_
                refine RD.q [(33, .bool true), (36, .tup [])] (by repeat (first | exact trivial | refine ⟨rfl, ?_⟩)) (fun _ => (op_pick_true rfl rfl rfl)) rfl rfl rfl ?_
                refine RD.q [(37, .bool true)] (by repeat (first | exact trivial | refine ⟨rfl, ?_⟩)) (fun _ => (op_move rfl rfl)) rfl rfl rfl ?_
                refine RD.skip rfl rfl rfl rfl rfl rfl ?_
                refine RD.skip rfl rfl rfl rfl rfl rfl ?_
                refine RD.skip rfl rfl rfl rfl rfl rfl ?_
                refine RD.q [(38, .bool true), (41, .tup [])] (by repeat (first | exact trivial | refine ⟨rfl, ?_⟩)) (fun _ => (op_pick_true rfl rfl rfl)) rfl rfl rfl ?_
                refine RD.q [(42, .bool true)] (by repeat (first | exact trivial | refine ⟨rfl, ?_⟩)) (fun _ => (op_move rfl rfl)) rfl rfl rfl ?_
                refine RD.skip rfl rfl rfl rfl rfl rfl ?_
                refine RD.skip rfl rfl rfl rfl rfl rfl ?_
                refine RD.skip rfl rfl rfl rfl rfl rfl ?_
                refine RD.skipu rfl rfl rfl rfl rfl ?_
                refine RD.skipu rfl rfl rfl rfl rfl ?_
                refine RD.skipu rfl rfl rfl rfl rfl ?_
                refine RD.skipu rfl rfl rfl rfl rfl ?_
                refine RD.skipu rfl rfl rfl rfl rfl ?_
                refine RD.skipu rfl rfl rfl rfl rfl ?_
                refine RD.skipu rfl rfl rfl rfl rfl ?_
                refine RD.skipu rfl rfl rfl rfl rfl ?_
                refine RD.skipu rfl rfl rfl rfl rfl ?_
                refine RD.skip rfl rfl rfl rfl rfl rfl ?_
                refine RD.q [(43, .bool true), (56, .tup [])] (by repeat (first | exact trivial | refine ⟨rfl, ?_⟩)) (fun _ => (op_pick_true rfl rfl rfl)) rfl rfl rfl ?_
                simp only [Option.some.injEq] at H
                subst H
                exact RD.nil (by kernel_rfl) (weak_sel (env' := [(0, .lst false (a0.map S_api_Entrant.enc)), (3, .int .i64 x1), (57, .bool true)]) ⟨rfl, rfl, rfl, trivial⟩ rfl)
              · rw [if_neg h4] at H
                refine RD.qg [(4, .ptr 0 0)] (by repeat (first | exact trivial | refine ⟨rfl, ?_⟩)) (fun _ => (op_faddr Tryd.underlying52 rfl ti3 rfl rfl rfl)) rfl rfl (getb (decide_eq_false h4) rfl) rfl rfl ?_
                refine RD.lg (i := 0) [(29, .ptr 0 1)] (by repeat (first | exact trivial | refine ⟨rfl, ?_⟩)) rfl (fun _ hb => (op_load ti3 rfl rfl rfl hb rfl)) rfl rfl (getb (decide_eq_false h4) rfl) rfl rfl ?_
                refine RD.qg [(30, .int .i64 y7.f_Home)] (by repeat (first | exact trivial | refine ⟨rfl, ?_⟩)) (fun _ => (op_bin rfl rfl rfl rfl)) rfl rfl (getb (decide_eq_false h4) rfl) rfl rfl ?_
                refine RD.q [(28, .bool (decide (y7.f_Home < 1))), (31, .bool (decide (y7.f_Home > 3)))] (by repeat (first | exact trivial | refine ⟨rfl, ?_⟩)) (fun _ => (op_pick_false rfl (evb (decide_eq_false h4) rfl) rfl)) rfl rfl rfl ?_
                refine RD.q [(32, .bool (decide (y7.f_Home > 3)))] (by repeat (first | exact trivial | refine ⟨rfl, ?_⟩)) (fun _ => (op_move rfl rfl)) rfl rfl rfl ?_
                by_cases h5 : y7.f_Home > 3
                · rw [if_pos h5] at H
                  refine RD.skip rfl rfl (getb (decide_eq_true h5) rfl) rfl rfl rfl ?_
                  refine RD.skip rfl rfl (getb (decide_eq_true h5) rfl) rfl rfl rfl ?_
                  refine RD.skip rfl rfl (getb (decide_eq_true h5) rfl) rfl rfl rfl ?_
                  refine RD.q [(33, .bool (decide (y7.f_Home > 3))), (36, .tup [])] (by repeat (first | exact trivial | refine ⟨rfl, ?_⟩)) (fun _ => (op_pick_true rfl (evb (decide_eq_true h5) rfl) rfl)) rfl rfl rfl ?_
                  refine RD.q [(37, .bool true)] (by repeat (first | exact trivial | refine ⟨rfl, ?_⟩)) (fun _ => (op_move rfl rfl)) rfl rfl rfl ?_
                  refine RD.skip rfl rfl rfl rfl rfl rfl ?_
                  refine RD.skip rfl rfl rfl rfl rfl rfl ?_
                  refine RD.skip rfl rfl rfl rfl rfl rfl ?_
                  refine RD.q [(38, .bool true), (41, .tup [])] (by repeat (first | exact trivial | refine ⟨rfl, ?_⟩)) (fun _ => (op_pick_true rfl rfl rfl)) rfl rfl rfl ?_
                  refine RD.q [(42, .bool true)] (by repeat (first | exact trivial | refine ⟨rfl, ?_⟩)) (fun _ => (op_move rfl rfl)) rfl rfl rfl ?_
                  refine RD.skip rfl rfl rfl rfl rfl rfl ?_
                  refine RD.skip rfl rfl rfl rfl rfl rfl ?_
                  refine RD.skip rfl rfl rfl rfl rfl rfl ?_
                  refine RD.skipu rfl rfl rfl rfl rfl ?_
                  refine RD.skipu rfl rfl rfl rfl rfl ?_
                  refine RD.skipu rfl rfl rfl rfl rfl ?_
                  refine RD.skipu rfl rfl rfl rfl rfl ?_
                  refine RD.skipu rfl rfl rfl rfl rfl ?_
                  refine RD.skipu rfl rfl rfl rfl rfl ?_
                  refine RD.skipu rfl rfl rfl rfl rfl ?_
                  refine RD.skipu rfl rfl rfl rfl rfl ?_
                  refine RD.skipu rfl rfl rfl rfl rfl ?_
                  refine RD.skip rfl rfl rfl rfl rfl rfl ?_
                  refine RD.q [(43, .bool true), (56, .tup [])] (by repeat (first | exact trivial | refine ⟨rfl, ?_⟩)) (fun _ => (op_pick_true rfl rfl rfl)) rfl rfl rfl ?_
                  simp only [Option.some.injEq] at H
                  subst H
                  exact RD.nil (by kernel_rfl) (weak_sel (env' := [(0, .lst false (a0.map S_api_Entrant.enc)), (3, .int .i64 x1), (57, .bool true)]) ⟨rfl, rfl, rfl, trivial⟩ rfl)
                · rw [if_neg h5] at H
                  refine RD.qg [(4, .ptr 0 0)] (by repeat (first | exact trivial | refine ⟨rfl, ?_⟩)) (fun _ => (op_faddr Tryd.underlying52 rfl ti3 rfl rfl rfl)) rfl rfl (getb (decide_eq_false h5) rfl) rfl rfl ?_
                  refine RD.lg (i := 0) [(34, .ptr 0 2)] (by repeat (first | exact trivial | refine ⟨rfl, ?_⟩)) rfl (fun _ hb => (op_load ti3 rfl rfl rfl hb rfl)) rfl rfl (getb (decide_eq_false h5) rfl) rfl rfl ?_
                  refine RD.qg [(35, .int .i64 y7.f_Volume)] (by repeat (first | exact trivial | refine ⟨rfl, ?_⟩)) (fun _ => (op_bin rfl rfl rfl rfl)) rfl rfl (getb (decide_eq_false h5) rfl) rfl rfl ?_
                  refine RD.q [(33, .bool (decide (y7.f_Home > 3))), (36, .bool (decide (y7.f_Volume < 1)))] (by repeat (first | exact trivial | refine ⟨rfl, ?_⟩)) (fun _ => (op_pick_false rfl (evb (decide_eq_false h5) rfl) rfl)) rfl rfl rfl ?_
                  refine RD.q [(37, .bool (decide (y7.f_Volume < 1)))] (by repeat (first | exact trivial | refine ⟨rfl, ?_⟩)) (fun _ => (op_move rfl rfl)) rfl rfl rfl ?_
                  by_cases h6 : y7.f_Volume < 1
                  · rw [if_pos h6] at H
                    refine RD.skip rfl rfl (getb (decide_eq_true h6) rfl) rfl rfl rfl ?_
                    refine RD.skip rfl rfl (getb (decide_eq_true h6) rfl) rfl rfl rfl ?_
                    refine RD.skip rfl rfl (getb (decide_eq_true h6) rfl) rfl rfl rfl ?_
                    refine RD.q [(38, .bool (decide (y7.f_Volume < 1))), (41, .tup [])] (by repeat (first | exact trivial | refine ⟨rfl, ?_⟩)) (fun _ => (op_pick_true rfl (evb (decide_eq_true h6) rfl) rfl)) rfl rfl rfl ?_
                    refine RD.q [(42, .bool true)] (by repeat (first | exact trivial | refine ⟨rfl, ?_⟩)) (fun _ => (op_move rfl rfl)) rfl rfl rfl ?_
                    refine RD.skip rfl rfl rfl rfl rfl rfl ?_
                    refine RD.skip rfl rfl rfl rfl rfl rfl ?_
                    refine RD.skip rfl rfl rfl rfl rfl rfl ?_
                    refine RD.skipu rfl rfl rfl rfl rfl ?_
                    refine RD.skipu rfl rfl rfl rfl rfl ?_
                    refine RD.skipu rfl rfl rfl rfl rfl ?_
                    refine RD.skipu rfl rfl rfl rfl rfl ?_
                    refine RD.skipu rfl rfl rfl rfl rfl ?_
                    refine RD.skipu rfl rfl rfl rfl rfl ?_
                    refine RD.skipu rfl rfl rfl rfl rfl ?_
                    refine RD.skipu rfl rfl rfl rfl rfl ?_
                    refine RD.skipu rfl rfl rfl rfl rfl ?_
                    refine RD.skip rfl rfl rfl rfl rfl rfl ?_
                    refine RD.q [(43, .bool true), (56, .tup [])] (by repeat (first | exact trivial | refine ⟨rfl, ?_⟩)) (fun _ => (op_pick_true rfl rfl rfl)) rfl rfl rfl ?_
                    simp only [Option.some.injEq] at H
                    subst H
                    exact RD.nil (by kernel_rfl) (weak_sel (env' := [(0, .lst false (a0.map S_api_Entrant.enc)), (3, .int .i64 x1), (57, .bool true)]) ⟨rfl, rfl, rfl, trivial⟩ rfl)
                  · rw [if_neg h6] at H
                    refine RD.qg [(4, .ptr 0 0)] (by repeat (first | exact trivial | refine ⟨rfl, ?_⟩)) (fun _ => (op_faddr Tryd.underlying52 rfl ti3 rfl rfl rfl)) rfl rfl (getb (decide_eq_false h6) rfl) rfl rfl ?_
                    refine RD.lg (i := 0) [(39, .ptr 0 2)] (by repeat (first | exact trivial | refine ⟨rfl, ?_⟩)) rfl (fun _ hb => (op_load ti3 rfl rfl rfl hb rfl)) rfl rfl (getb (decide_eq_false h6) rfl) rfl rfl ?_
                    refine RD.qg [(40, .int .i64 y7.f_Volume)] (by repeat (first | exact trivial | refine ⟨rfl, ?_⟩)) (fun _ => (op_bin rfl rfl rfl rfl)) rfl rfl (getb (decide_eq_false h6) rfl) rfl rfl ?_
                    refine RD.q [(38, .bool (decide (y7.f_Volume < 1))), (41, .bool (decide (y7.f_Volume > 1000000)))] (by repeat (first | exact trivial | refine ⟨rfl, ?_⟩)) (fun _ => (op_pick_false rfl (evb (decide_eq_false h6) rfl) rfl)) rfl rfl rfl ?_
                    refine RD.q [(42, .bool (decide (y7.f_Volume > 1000000)))] (by repeat (first | exact trivial | refine ⟨rfl, ?_⟩)) (fun _ => (op_move rfl rfl)) rfl rfl rfl ?_
                    by_cases h7 : y7.f_Volume > 1000000
                    · rw [if_pos h7] at H
                      refine RD.skip rfl rfl (getb (decide_eq_true h7) rfl) rfl rfl rfl ?_
                      refine RD.skip rfl rfl (getb (decide_eq_true h7) rfl) rfl rfl rfl ?_
                      refine RD.skip rfl rfl (getb (decide_eq_true h7) rfl) rfl rfl rfl ?_
                      refine RD.skipu rfl rfl rfl rfl rfl ?_
                      refine RD.skipu rfl rfl rfl rfl rfl ?_
                      refine RD.skipu rfl rfl rfl rfl rfl ?_
                      refine RD.skipu rfl rfl rfl rfl rfl ?_
                      refine RD.skipu rfl rfl rfl rfl rfl ?_
                      refine RD.skipu rfl rfl rfl rfl rfl ?_
                      refine RD.skipu rfl rfl rfl rfl rfl ?_
                      refine RD.skipu rfl rfl rfl rfl rfl ?_
                      refine RD.skipu rfl rfl rfl rfl rfl ?_
                      refine RD.skip rfl rfl (getb (decide_eq_true h7) rfl) rfl rfl rfl ?_
                      refine RD.q [(43, .bool (decide (y7.f_Volume > 1000000))), (56, .tup [])] (by repeat (first | exact trivial | refine ⟨rfl, ?_⟩)) (fun _ => (op_pick_true rfl (evb (decide_eq_true h7) rfl) rfl)) rfl rfl rfl ?_
                      simp only [Option.some.injEq] at H
                      subst H
                      exact RD.nil (by kernel_rfl) (weak_sel (env' := [(0, .lst false (a0.map S_api_Entrant.enc)), (3, .int .i64 x1), (57, .bool true)]) ⟨rfl, rfl, rfl, trivial⟩ rfl)
                    · rw [if_neg h7] at H
                      refine RD.qg [(3, .int .i64 x1)] (by repeat (first | exact trivial | refine ⟨rfl, ?_⟩)) (fun _ => (op_move rfl rfl)) rfl rfl (getb (decide_eq_false h7) rfl) rfl rfl ?_
                      refine RD.qg [(44, .int .i64 x1)] (by repeat (first | exact trivial | refine ⟨rfl, ?_⟩)) (fun _ => (op_bin rfl rfl rfl rfl)) rfl rfl (getb (decide_eq_false h7) rfl) rfl rfl ?_
                      refine RD.qg [(45, .bool (decide (x1 > 0)))] (by repeat (first | exact trivial | refine ⟨rfl, ?_⟩)) (fun _ => (op_move rfl rfl)) rfl rfl (getb (decide_eq_false h7) rfl) rfl rfl ?_
                      by_cases h8 : x1 > 0
                      · rw [if_pos h8] at H
                        refine RD.qg [(4, .ptr 0 0)] (by repeat (first | exact trivial | refine ⟨rfl, ?_⟩)) (fun _ => (op_faddr Tryd.underlying52 rfl ti3 rfl rfl rfl)) rfl rfl (getb (decide_eq_true h8) rfl) rfl rfl ?_
                        refine RD.lg (i := 0) [(47, .ptr 0 0)] (by repeat (first | exact trivial | refine ⟨rfl, ?_⟩)) rfl (fun _ hb => (op_load ti3 rfl rfl rfl hb rfl)) rfl rfl (getb (decide_eq_true h8) rfl) rfl rfl ?_
                        refine RD.qg [(0, .lst false (a0.map S_api_Entrant.enc))] (by repeat (first | exact trivial | refine ⟨rfl, ?_⟩)) (fun _ => (op_move rfl rfl)) rfl rfl (getb (decide_eq_true h8) rfl) rfl rfl ?_
                        refine RD.qg [(3, .int .i64 x1)] (by repeat (first | exact trivial | refine ⟨rfl, ?_⟩)) (fun _ => (op_move rfl rfl)) rfl rfl (getb (decide_eq_true h8) rfl) rfl rfl ?_
                        refine RD.qg [(50, .int .i64 x1)] (by repeat (first | exact trivial | refine ⟨rfl, ?_⟩)) (fun _ => (op_bin rfl rfl rfl rfl)) rfl rfl (getb (decide_eq_true h8) rfl) rfl rfl ?_
                        obtain ⟨y10, hy11, H⟩ := Option.bind_eq_some_iff.1 H
                        refine RD.qg [(49, .lst false (a0.map S_api_Entrant.enc)), (51, .int .i64 (IntKind.i64.wrap (x1 - 1)))] (by repeat (first | exact trivial | refine ⟨rfl, ?_⟩)) (fun _ => (op_iaddr Tryd.underlying37 ti52 rfl rfl rfl (idx_pos hy11) (idx_map hy11 S_api_Entrant.enc) rfl (Nat.le_of_ble_eq_true rfl))) rfl rfl (getb (decide_eq_true h8) rfl) rfl rfl ?_
                        refine RD.qg [(52, .eptr (a0.map S_api_Entrant.enc) ((IntKind.i64.wrap (x1 - 1)).toNat) 0)] (by repeat (first | exact trivial | refine ⟨rfl, ?_⟩)) (fun _ => (op_faddr_e Tryd.underlying52 rfl ti3 rfl rfl rfl (idx_map hy11 S_api_Entrant.enc) (Nat.le_of_ble_eq_true rfl))) rfl rfl (getb (decide_eq_true h8) rfl) rfl rfl ?_
                        refine RD.qg [(53, .eptr (a0.map S_api_Entrant.enc) ((IntKind.i64.wrap (x1 - 1)).toNat) 0)] (by repeat (first | exact trivial | refine ⟨rfl, ?_⟩)) (fun _ => (op_load_e ti3 rfl rfl rfl (idx_map hy11 S_api_Entrant.enc) rfl)) rfl rfl (getb (decide_eq_true h8) rfl) rfl rfl ?_
                        refine RD.qg [(48, .int .i64 y7.f_Station), (54, .int .i64 y10.f_Station)] (by repeat (first | exact trivial | refine ⟨rfl, ?_⟩)) (fun _ => (op_bin rfl rfl rfl rfl)) rfl rfl (getb (decide_eq_true h8) rfl) rfl rfl ?_
                        refine RD.qg [(46, .bool (decide (x1 > 0))), (55, .bool (decide (y7.f_Station ≤ y10.f_Station)))] (by repeat (first | exact trivial | refine ⟨rfl, ?_⟩)) (fun _ => (op_pick_true rfl (evb (decide_eq_true h8) rfl) rfl)) rfl rfl (getb (decide_eq_false h7) rfl) rfl rfl ?_
                        refine RD.q [(43, .bool (decide (y7.f_Volume > 1000000))), (56, .bool (decide (y7.f_Station ≤ y10.f_Station)))] (by repeat (first | exact trivial | refine ⟨rfl, ?_⟩)) (fun _ => (op_pick_false rfl (evb (decide_eq_false h7) rfl) rfl)) rfl rfl rfl ?_
                        simp only [Option.some.injEq] at H
                        subst H
                        exact RD.nil (by kernel_rfl) (weak_sel (env' := [(0, .lst false (a0.map S_api_Entrant.enc)), (3, .int .i64 x1), (57, .bool (decide (y7.f_Station ≤ y10.f_Station)))]) ⟨rfl, rfl, rfl, trivial⟩ rfl)
                      · rw [if_neg h8] at H
                        refine RD.skip rfl rfl (getb (decide_eq_false h8) rfl) rfl rfl rfl ?_
                        refine RD.skip rfl rfl (getb (decide_eq_false h8) rfl) rfl rfl rfl ?_
                        refine RD.skip rfl rfl (getb (decide_eq_false h8) rfl) rfl rfl rfl ?_
                        refine RD.skip rfl rfl (getb (decide_eq_false h8) rfl) rfl rfl rfl ?_
                        refine RD.skip rfl rfl (getb (decide_eq_false h8) rfl) rfl rfl rfl ?_
                        refine RD.skip rfl rfl (getb (decide_eq_false h8) rfl) rfl rfl rfl ?_
                        refine RD.skip rfl rfl (getb (decide_eq_false h8) rfl) rfl rfl rfl ?_
                        refine RD.skip rfl rfl (getb (decide_eq_false h8) rfl) rfl rfl rfl ?_
                        refine RD.skip rfl rfl (getb (decide_eq_false h8) rfl) rfl rfl rfl ?_
                        refine RD.qg [(46, .bool (decide (x1 > 0))), (55, .tup [])] (by repeat (first | exact trivial | refine ⟨rfl, ?_⟩)) (fun _ => (op_pick_false rfl (evb (decide_eq_false h8) rfl) rfl)) rfl rfl (getb (decide_eq_false h7) rfl) rfl rfl ?_
                        refine RD.q [(43, .bool (decide (y7.f_Volume > 1000000))), (56, .bool false)] (by repeat (first | exact trivial | refine ⟨rfl, ?_⟩)) (fun _ => (op_pick_false rfl (evb (decide_eq_false h7) rfl) rfl)) rfl rfl rfl ?_
                        simp only [Option.some.injEq] at H
                        subst H
                        exact RD.nil (by kernel_rfl) (weak_sel (env' := [(0, .lst false (a0.map S_api_Entrant.enc)), (3, .int .i64 x1), (57, .bool false)]) ⟨rfl, rfl, rfl, trivial⟩ rfl)
        · clear hj12
          refine then_normal ?_
          by_cases h9 : x9 = true
          · rw [if_pos h9] at H
            refine T_yes rfl h9 ?_
            refine T_seq ?_
            refine T_reg ?_
            refine RE.op (op_assign rfl rfl) rfl rfl rfl ?_
            refine RE.nil ⟨⟨[(2, .bool false)], [.cells [.int .i64 y7.f_Station, .int .i64 y7.f_Home, .int .i64 y7.f_Volume]]⟩, weak_sel ⟨rfl, trivial⟩ rfl, ?_⟩
            refine then_normal ?_
            refine T_ret ?_
            simp only [Option.some.injEq] at H
            subst H
            refine block_ret ?_
            refine then_ret ?_
            refine then_ret ?_
            exact ⟨rfl, weak_sel (env' := [(2, .bool false)]) ⟨rfl, trivial⟩ rfl⟩
          · rw [if_neg h9] at H
            refine T_no rfl (Bool.eq_false_iff.mpr h9) ?_
            refine T_skip ?_
            refine block_normal ?_
            refine then_normal ?_
            refine T_reg ?_
            refine RE.op (op_move rfl rfl) rfl rfl rfl ?_
            refine RE.op (op_bin rfl rfl rfl rfl) rfl rfl rfl ?_
            refine RE.op (op_assign rfl rfl) rfl rfl rfl ?_
            refine RE.nil ⟨⟨[(0, .lst false (a0.map S_api_Entrant.enc)), (3, .int .i64 (IntKind.i64.wrap (x1 + 1)))], [.cells [.int .i64 y7.f_Station, .int .i64 y7.f_Home, .int .i64 y7.f_Volume]]⟩, weak_sel ⟨rfl, rfl, trivial⟩ rfl, ?_⟩
            refine then_normal ?_
            exact LoopAt.weak (weak_cut (env' := [(0, .lst false (a0.map S_api_Entrant.enc)), (3, .int .i64 (IntKind.i64.wrap (x1 + 1)))]) (bs' := []) 0 ⟨rfl, rfl, trivial⟩ rfl rfl rfl rfl) (IH _ _ H)
      · rw [if_neg h1] at H
        refine T_no rfl (decide_eq_false h1) ?_
        refine T_exit ?_
        simp only [Option.some.injEq] at H
        subst H
        refine then_exit ?_
        refine then_exit ?_
        exact ⟨rfl, weak_sel (env' := []) trivial rfl⟩
    · clear hj6
      rcases o5 with ⟨x2, x3, x4⟩ | _
      · simp only [Option.some.injEq] at H
        subst H
        refine block_ret ?_
        refine then_ret ?_
        exact ret1 rfl rfl rfl
      · refine block_eq ?_
        refine then_normal ?_
        refine T_seq ?_
        refine T_reg ?_
        refine RE.op (op_assign rfl rfl) rfl rfl rfl ?_
        refine RE.nil ⟨⟨[(2, .bool true)], []⟩, weak_sel ⟨rfl, trivial⟩ rfl, ?_⟩
        refine then_normal ?_
        refine T_ret ?_
        simp only [Option.some.injEq] at H
        subst H
        exact ret1 rfl rfl rfl

/-! ### 28 bandplan/bandplanref32.Good -/
def bandplanref32_Good.f (k : Nat) (a0 : (List S_api_Entrant)) (a1 : Int) : Option (Bool) := ((bandplanref31_Valid.f k a0).bind fun t2 => (if t2 = true then (if a1 ≥ 1 then some (decide (a1 ≤ 1000000000)) else some false) else some false)).bind fun x1 => some x1
def bandplanref32_Good.S (args : List AV) (v : AV) : Prop := ∃ (k : Nat) (a0 : (List S_api_Entrant)) (a1 : Int) (r : Bool), args = [.lst false (a0.map S_api_Entrant.enc), .int .i64 a1] ∧ bandplanref32_Good.f k a0 a1 = some r ∧ v = .bool r
theorem bandplanref32_Good.ok : VOk Tryd.prog 28 bandplanref32_Good.S := by
  refine V_ok Tryd.func28 rfl fun args v hS => ⟨?_, ?_⟩
  · obtain ⟨k, a0, a1, r, rfl, H, rfl⟩ := hS
    exact Nat.le_of_ble_eq_true rfl
  · obtain ⟨k, a0, a1, r, rfl, H, rfl⟩ := hS
    unfold bandplanref32_Good.f at H
    refine T_seq ?_
    refine T_reg ?_
    refine RE.op (op_assign rfl rfl) rfl rfl rfl ?_
    refine RE.nil ⟨⟨[(0, .lst false (a0.map S_api_Entrant.enc)), (1, .int .i64 a1)], []⟩, weak_sel ⟨rfl, rfl, trivial⟩ rfl, ?_⟩
    refine then_normal ?_
    refine T_seq ?_
    obtain ⟨x1, hj4, H⟩ := Option.bind_eq_some_iff.1 H
    refine T_reg_out ⟨[(4, .bool x1)], []⟩ ?_ ?_
    · clear H
      have H := hj4
      clear hj4
      refine RE.op (op_move rfl rfl) rfl rfl rfl ?_
      obtain ⟨t2, ht3, H⟩ := Option.bind_eq_some_iff.1 H
      refine RE.op (op_call (f := 52) rfl rfl rfl rfl en52 bandplanref31_Valid.ok ⟨_, _, _, rfl, ht3, rfl⟩) rfl rfl rfl ?_
      refine RE.op (op_move rfl rfl) rfl rfl rfl ?_
      by_cases h1 : t2 = true
      · rw [if_pos h1] at H
        refine RE.opg (op_move rfl rfl) rfl rfl (getb h1 rfl) rfl rfl ?_
        refine RE.opg (op_bin rfl rfl rfl rfl) rfl rfl (getb h1 rfl) rfl rfl ?_
        refine RE.op (op_pick_true rfl (evb h1 rfl) rfl) rfl rfl rfl ?_
        refine RE.op (op_move rfl rfl) rfl rfl rfl ?_
        by_cases h2 : a1 ≥ 1
        · rw [if_pos h2] at H
          refine RE.opg (op_move rfl rfl) rfl rfl (getb (decide_eq_true h2) rfl) rfl rfl ?_
          refine RE.opg (op_bin rfl rfl rfl rfl) rfl rfl (getb (decide_eq_true h2) rfl) rfl rfl ?_
          refine RE.op (op_pick_true rfl (evb (decide_eq_true h2) rfl) rfl) rfl rfl rfl ?_
          refine RE.op (op_assign rfl rfl) rfl rfl rfl ?_
          simp only [Option.some.injEq] at H
          subst H
          exact RE.nil (weak_sel (env' := [(4, .bool (decide (a1 ≤ 1000000000)))]) ⟨rfl, trivial⟩ rfl)
        · rw [if_neg h2] at H
          refine RE.skip rfl rfl (getb (decide_eq_false h2) rfl) rfl rfl rfl ?_
          refine RE.skip rfl rfl (getb (decide_eq_false h2) rfl) rfl rfl rfl ?_
          refine RE.op (op_pick_false rfl (evb (decide_eq_false h2) rfl) rfl) rfl rfl rfl ?_
          refine RE.op (op_assign rfl rfl) rfl rfl rfl ?_
          simp only [Option.some.injEq] at H
          subst H
          exact RE.nil (weak_sel (env' := [(4, .bool false)]) ⟨rfl, trivial⟩ rfl)
      · rw [if_neg h1] at H
        refine RE.skip rfl rfl (getb (Bool.eq_false_iff.mpr h1) rfl) rfl rfl rfl ?_
        refine RE.skip rfl rfl (getb (Bool.eq_false_iff.mpr h1) rfl) rfl rfl rfl ?_
        refine RE.op (op_pick_false rfl (evb (Bool.eq_false_iff.mpr h1) rfl) rfl) rfl rfl rfl ?_
        refine RE.op (op_move rfl rfl) rfl rfl rfl ?_
        refine RE.skip rfl rfl rfl rfl rfl rfl ?_
        refine RE.skip rfl rfl rfl rfl rfl rfl ?_
        refine RE.op (op_pick_false rfl rfl rfl) rfl rfl rfl ?_
        refine RE.op (op_assign rfl rfl) rfl rfl rfl ?_
        simp only [Option.some.injEq] at H
        subst H
        exact RE.nil (weak_sel (env' := [(4, .bool false)]) ⟨rfl, trivial⟩ rfl)
    · clear hj4
      refine then_normal ?_
      refine T_ret ?_
      simp only [Option.some.injEq] at H
      subst H
      exact ret1 rfl rfl rfl

/-! ### 14 bandplan/bandplanref32.Ceiling -/
def bandplanref32_Ceiling.l0 (a0 : (List S_api_Entrant)) (a1 : Int) : Nat → (Int × Int) → Option (Int)
  | 0, _ => none
  | k + 1, (x3, x4) => (if x4 < ((a0.map S_api_Entrant.enc).length : Int) then (idx a0 x4).bind fun y8 => (idx a0 x4).bind fun y10 => (bandplanref28_Offer.f y8.f_Volume a1 y10.f_Home 0).bind fun t12 => bandplanref32_Ceiling.l0 a0 a1 k (IntKind.i64.wrap (x3 + t12.1), IntKind.i64.wrap (x4 + 1)) else some x3)
def bandplanref32_Ceiling.f (k : Nat) (a0 : (List S_api_Entrant)) (a1 : Int) : Option (Int × Int) := (bandplanref32_Good.f k a0 a1).bind fun t1 => (if ¬ (t1 = true) then some (0, 2) else (bandplanref32_Ceiling.l0 a0 a1 k (0, 0)).bind fun x5 => some (x5, 0))
def bandplanref32_Ceiling.S (args : List AV) (v : AV) : Prop := ∃ (k : Nat) (a0 : (List S_api_Entrant)) (a1 : Int) (r : Int × Int), args = [.lst false (a0.map S_api_Entrant.enc), .int .i64 a1] ∧ bandplanref32_Ceiling.f k a0 a1 = some r ∧ v = .tup [.int .i64 r.1, .int .i64 r.2]
theorem bandplanref32_Ceiling.ok : VOk Tryd.prog 14 bandplanref32_Ceiling.S := by
  refine V_ok Tryd.func14 rfl fun args v hS => ⟨?_, ?_⟩
  · obtain ⟨k, a0, a1, r, rfl, H, rfl⟩ := hS
    exact Nat.le_of_ble_eq_true rfl
  · obtain ⟨k, a0, a1, r, rfl, H, rfl⟩ := hS
    unfold bandplanref32_Ceiling.f at H
    refine T_seq ?_
    refine T_reg ?_
    refine RE.op (op_assign rfl rfl) rfl rfl rfl ?_
    refine RE.op (op_assign rfl rfl) rfl rfl rfl ?_
    refine RE.nil ⟨⟨[(0, .lst false (a0.map S_api_Entrant.enc)), (1, .int .i64 a1)], []⟩, weak_sel ⟨rfl, rfl, trivial⟩ rfl, ?_⟩
    refine then_normal ?_
    refine T_seq ?_
    refine T_seq ?_
    refine T_reg ?_
    refine RE.op (op_move rfl rfl) rfl rfl rfl ?_
    refine RE.op (op_move rfl rfl) rfl rfl rfl ?_
    obtain ⟨t1, ht2, H⟩ := Option.bind_eq_some_iff.1 H
    refine RE.op (op_call (f := 28) rfl rfl rfl rfl en28 bandplanref32_Good.ok ⟨_, _, _, _, rfl, ht2, rfl⟩) rfl rfl rfl ?_
    refine RE.op (op_not rfl rfl) rfl rfl rfl ?_
    refine RE.nil ⟨⟨[(0, .lst false (a0.map S_api_Entrant.enc)), (1, .int .i64 a1), (13, .bool (!t1))], []⟩, weak_sel ⟨rfl, rfl, rfl, trivial⟩ rfl, ?_⟩
    refine then_normal ?_
    by_cases h1 : ¬ (t1 = true)
    · rw [if_pos h1] at H
      refine T_yes rfl (not_t (Bool.eq_false_iff.mpr h1)) ?_
      refine T_seq ?_
      refine T_reg ?_
      refine RE.op (op_assign rfl rfl) rfl rfl rfl ?_
      refine RE.op (op_assign rfl rfl) rfl rfl rfl ?_
      refine RE.nil ⟨⟨[(4, .int .i64 0), (5, .int .i64 2)], []⟩, weak_sel ⟨rfl, rfl, trivial⟩ rfl, ?_⟩
      refine then_normal ?_
      refine T_ret ?_
      simp only [Option.some.injEq] at H
      subst H
      refine then_ret ?_
      exact ret2 rfl rfl rfl rfl
    · rw [if_neg h1] at H
      refine T_no rfl (not_f (Decidable.of_not_not h1)) ?_
      refine T_skip ?_
      refine then_normal ?_
      refine T_seq ?_
      refine T_reg ?_
      refine RE.op (op_assign rfl rfl) rfl rfl rfl ?_
      refine RE.nil ⟨⟨[(0, .lst false (a0.map S_api_Entrant.enc)), (1, .int .i64 a1), (6, .int .i64 0)], []⟩, weak_sel ⟨rfl, rfl, rfl, trivial⟩ rfl, ?_⟩
      refine then_normal ?_
      refine T_seq ?_
      refine T_seq ?_
      refine T_reg ?_
      refine RE.op (op_assign rfl rfl) rfl rfl rfl ?_
      refine RE.nil ⟨⟨[(0, .lst false (a0.map S_api_Entrant.enc)), (1, .int .i64 a1), (6, .int .i64 0), (7, .int .i64 0)], []⟩, weak_sel ⟨rfl, rfl, rfl, rfl, trivial⟩ rfl, ?_⟩
      refine then_normal ?_
      refine T_block ?_
      obtain ⟨x5, hj7, H⟩ := Option.bind_eq_some_iff.1 H
      refine T_loop_out ((fun (x_ : Int × Int) => ⟨[(0, .lst false (a0.map S_api_Entrant.enc)), (1, .int .i64 a1), (6, .int .i64 x_.1), (7, .int .i64 x_.2)], []⟩) (0, 0)) ((fun _ => .exit 0) x5) ((fun (x_ : (Int)) => ⟨[(6, .int .i64 x_)], []⟩) x5) (weak_sel (env' := [(0, .lst false (a0.map S_api_Entrant.enc)), (1, .int .i64 a1), (6, .int .i64 0), (7, .int .i64 0)]) ⟨rfl, rfl, rfl, rfl, trivial⟩ rfl) ?_ ?_
      · refine T_fix (bandplanref32_Ceiling.l0 a0 a1) (fun (x_ : Int × Int) => ⟨[(0, .lst false (a0.map S_api_Entrant.enc)), (1, .int .i64 a1), (6, .int .i64 x_.1), (7, .int .i64 x_.2)], []⟩) (fun _ => .exit 0) (fun (x_ : (Int)) => ⟨[(6, .int .i64 x_)], []⟩) (fun _ => rfl) ?_ _ (0, 0) _ hj7
        clear H hj7
        intro k IH x_ o H
        obtain ⟨x3, x4⟩ := x_
        unfold bandplanref32_Ceiling.l0 at H
        (try simp only at H)
        refine T_seq ?_
        refine T_seq ?_
        refine T_reg ?_
        refine RE.op (op_move rfl rfl) rfl rfl rfl ?_
        refine RE.op (op_move rfl rfl) rfl rfl rfl ?_
        refine RE.op (op_len Tryd.underlying37 rfl rfl) rfl rfl rfl ?_
        refine RE.op (op_bin rfl rfl rfl rfl) rfl rfl rfl ?_
        refine RE.nil ⟨⟨[(0, .lst false (a0.map S_api_Entrant.enc)), (1, .int .i64 a1), (6, .int .i64 x3), (7, .int .i64 x4), (17, .bool (decide (x4 < ((a0.map S_api_Entrant.enc).length : Int))))], []⟩, weak_sel ⟨rfl, rfl, rfl, rfl, rfl, trivial⟩ rfl, ?_⟩
        refine then_normal ?_
        by_cases h2 : x4 < ((a0.map S_api_Entrant.enc).length : Int)
        · rw [if_pos h2] at H
          refine T_yes rfl (decide_eq_true h2) ?_
          refine T_skip ?_
          refine then_normal ?_
          refine T_seq ?_
          refine T_block ?_
          refine T_seq ?_
          refine T_drawn mix [0, 0, 3, 7, 15, 0, 0, 0, 192, 448, 960, 2047, 4095, 8191, 8191, 16383, 65535] (by kernel_rfl) ?_
          refine RD.q [(0, .lst false (a0.map S_api_Entrant.enc))] (by repeat (first | exact trivial | refine ⟨rfl, ?_⟩)) (fun _ => (op_move rfl rfl)) rfl rfl rfl ?_
          refine RD.q [(7, .int .i64 x4)] (by repeat (first | exact trivial | refine ⟨rfl, ?_⟩)) (fun _ => (op_move rfl rfl)) rfl rfl rfl ?_
          obtain ⟨y8, hy9, H⟩ := Option.bind_eq_some_iff.1 H
          refine RD.q [(21, .lst false (a0.map S_api_Entrant.enc)), (22, .int .i64 x4)] (by repeat (first | exact trivial | refine ⟨rfl, ?_⟩)) (fun _ => (op_iaddr Tryd.underlying37 ti52 rfl rfl rfl (idx_pos hy9) (idx_map hy9 S_api_Entrant.enc) rfl (Nat.le_of_ble_eq_true rfl))) rfl rfl rfl ?_
          refine RD.q [(23, .eptr (a0.map S_api_Entrant.enc) x4.toNat 0)] (by repeat (first | exact trivial | refine ⟨rfl, ?_⟩)) (fun _ => (op_faddr_e Tryd.underlying52 rfl ti3 rfl rfl rfl (idx_map hy9 S_api_Entrant.enc) (Nat.le_of_ble_eq_true rfl))) rfl rfl rfl ?_
          refine RD.q [(24, .eptr (a0.map S_api_Entrant.enc) x4.toNat 2)] (by repeat (first | exact trivial | refine ⟨rfl, ?_⟩)) (fun _ => (op_load_e ti3 rfl rfl rfl (idx_map hy9 S_api_Entrant.enc) rfl)) rfl rfl rfl ?_
          refine RD.q [(1, .int .i64 a1)] (by repeat (first | exact trivial | refine ⟨rfl, ?_⟩)) (fun _ => (op_move rfl rfl)) rfl rfl rfl ?_
          refine RD.q [(0, .lst false (a0.map S_api_Entrant.enc))] (by repeat (first | exact trivial | refine ⟨rfl, ?_⟩)) (fun _ => (op_move rfl rfl)) rfl rfl rfl ?_
          refine RD.q [(7, .int .i64 x4)] (by repeat (first | exact trivial | refine ⟨rfl, ?_⟩)) (fun _ => (op_move rfl rfl)) rfl rfl rfl ?_
          obtain ⟨y10, hy11, H⟩ := Option.bind_eq_some_iff.1 H
          refine RD.q [(27, .lst false (a0.map S_api_Entrant.enc)), (28, .int .i64 x4)] (by repeat (first | exact trivial | refine ⟨rfl, ?_⟩)) (fun _ => (op_iaddr Tryd.underlying37 ti52 rfl rfl rfl (idx_pos hy11) (idx_map hy11 S_api_Entrant.enc) rfl (Nat.le_of_ble_eq_true rfl))) rfl rfl rfl ?_
          refine RD.q [(29, .eptr (a0.map S_api_Entrant.enc) x4.toNat 0)] (by repeat (first | exact trivial | refine ⟨rfl, ?_⟩)) (fun _ => (op_faddr_e Tryd.underlying52 rfl ti3 rfl rfl rfl (idx_map hy11 S_api_Entrant.enc) (Nat.le_of_ble_eq_true rfl))) rfl rfl rfl ?_
          refine RD.q [(30, .eptr (a0.map S_api_Entrant.enc) x4.toNat 1)] (by repeat (first | exact trivial | refine ⟨rfl, ?_⟩)) (fun _ => (op_load_e ti3 rfl rfl rfl (idx_map hy11 S_api_Entrant.enc) rfl)) rfl rfl rfl ?_
          obtain ⟨t12, ht13, H⟩ := Option.bind_eq_some_iff.1 H
          refine RD.q [(25, .int .i64 y8.f_Volume), (26, .int .i64 a1), (31, .int .i64 y10.f_Home)] (by repeat (first | exact trivial | refine ⟨rfl, ?_⟩)) (fun _ => (op_call (f := 29) rfl rfl rfl rfl en29 bandplanref28_Offer.ok ⟨_, _, _, _, _, rfl, ht13, rfl⟩)) rfl rfl rfl ?_
          refine RD.q [(32, .tup [.int .i64 t12.1, .int .i64 t12.2])] (by repeat (first | exact trivial | refine ⟨rfl, ?_⟩)) (fun _ => (op_move rfl rfl)) rfl rfl rfl ?_
          refine RD.q [(20, .tup [.int .i64 t12.1, .int .i64 t12.2])] (by repeat (first | exact trivial | refine ⟨rfl, ?_⟩)) (fun _ => (op_extract rfl rfl rfl)) rfl rfl rfl ?_
          refine RD.q [(20, .tup [.int .i64 t12.1, .int .i64 t12.2])] (by repeat (first | exact trivial | refine ⟨rfl, ?_⟩)) (fun _ => (op_extract rfl rfl rfl)) rfl rfl rfl ?_
          refine RD.q [(33, .int .i64 t12.1)] (by repeat (first | exact trivial | refine ⟨rfl, ?_⟩)) (fun _ => (op_assign rfl rfl)) rfl rfl rfl ?_
          refine RD.q [(34, .int .i64 t12.2)] (by repeat (first | exact trivial | refine ⟨rfl, ?_⟩)) (fun _ => (op_assign rfl rfl)) rfl rfl rfl ?_
          refine RD.nil (by kernel_rfl) ⟨⟨[(0, .lst false (a0.map S_api_Entrant.enc)), (1, .int .i64 a1), (6, .int .i64 x3), (7, .int .i64 x4), (8, .int .i64 t12.1)], []⟩, weak_sel ⟨rfl, rfl, rfl, rfl, rfl, trivial⟩ rfl, ?_⟩
          refine then_normal ?_
          refine T_reg ?_
          refine RE.op (op_move rfl rfl) rfl rfl rfl ?_
          refine RE.op (op_move rfl rfl) rfl rfl rfl ?_
          refine RE.op (op_bin rfl rfl rfl rfl) rfl rfl rfl ?_
          refine RE.op (op_assign rfl rfl) rfl rfl rfl ?_
          refine RE.nil ⟨⟨[(0, .lst false (a0.map S_api_Entrant.enc)), (1, .int .i64 a1), (6, .int .i64 (IntKind.i64.wrap (x3 + t12.1))), (7, .int .i64 x4)], []⟩, weak_sel ⟨rfl, rfl, rfl, rfl, trivial⟩ rfl, ?_⟩
          refine block_normal ?_
          refine then_normal ?_
          refine T_reg ?_
          refine RE.op (op_move rfl rfl) rfl rfl rfl ?_
          refine RE.op (op_bin rfl rfl rfl rfl) rfl rfl rfl ?_
          refine RE.op (op_assign rfl rfl) rfl rfl rfl ?_
          refine RE.nil ⟨⟨[(0, .lst false (a0.map S_api_Entrant.enc)), (1, .int .i64 a1), (6, .int .i64 (IntKind.i64.wrap (x3 + t12.1))), (7, .int .i64 (IntKind.i64.wrap (x4 + 1)))], []⟩, weak_sel ⟨rfl, rfl, rfl, rfl, trivial⟩ rfl, ?_⟩
          refine then_normal ?_
          exact LoopAt.weak (weak_sel (env' := [(0, .lst false (a0.map S_api_Entrant.enc)), (1, .int .i64 a1), (6, .int .i64 (IntKind.i64.wrap (x3 + t12.1))), (7, .int .i64 (IntKind.i64.wrap (x4 + 1)))]) ⟨rfl, rfl, rfl, rfl, trivial⟩ rfl) (IH _ _ H)
        · rw [if_neg h2] at H
          refine T_no rfl (decide_eq_false h2) ?_
          refine T_exit ?_
          simp only [Option.some.injEq] at H
          subst H
          refine then_exit ?_
          refine then_exit ?_
          exact ⟨rfl, weak_sel (env' := [(6, .int .i64 x3)]) ⟨rfl, trivial⟩ rfl⟩
      · clear hj7
        refine block_eq ?_
        refine then_normal ?_
        refine T_seq ?_
        refine T_reg ?_
        refine RE.op (op_move rfl rfl) rfl rfl rfl ?_
        refine RE.op (op_assign rfl rfl) rfl rfl rfl ?_
        refine RE.op (op_assign rfl rfl) rfl rfl rfl ?_
        refine RE.nil ⟨⟨[(4, .int .i64 x5), (5, .int .i64 0)], []⟩, weak_sel ⟨rfl, rfl, trivial⟩ rfl, ?_⟩
        refine then_normal ?_
        refine T_ret ?_
        simp only [Option.some.injEq] at H
        subst H
        exact ret2 rfl rfl rfl rfl

/-! ### 38 bandplan/bandplanref32.Choices -/
def bandplanref32_Choices.l0 (a0 : (List S_api_Choice)) : Nat → Int → Option (Sum (Unit) (Unit))
  | 0, _ => none
  | k + 1, x1 => (if x1 < ((a0.map S_api_Choice.enc).length : Int) then ((idx a0 x1).bind fun y5 => (if y5.f_Station < 0 then some true else (idx a0 x1).bind fun y7 => (if y7.f_Station > 511 then some true else (idx a0 x1).bind fun y9 => (if y9.f_Channel < 2 then some true else (idx a0 x1).bind fun y11 => (if y11.f_Channel > 51 then some true else (if x1 > 0 then (idx a0 x1).bind fun y13 => (idx a0 (IntKind.i64.wrap (x1 - 1))).bind fun y15 => some (decide (y13.f_Station ≤ y15.f_Station)) else some false)))))).bind fun x4 => (if x4 = true then some (.inl ()) else bandplanref32_Choices.l0 a0 k (IntKind.i64.wrap (x1 + 1))) else some (.inr ()))
def bandplanref32_Choices.f (k : Nat) (a0 : (List S_api_Choice)) : Option (Bool) := ((bandplanref32_Choices.l0 a0 k 0).bind fun o => match o with | (.inl _) => some false | (.inr _) => some true)
def bandplanref32_Choices.S (args : List AV) (v : AV) : Prop := ∃ (k : Nat) (a0 : (List S_api_Choice)) (r : Bool), args = [.lst false (a0.map S_api_Choice.enc)] ∧ bandplanref32_Choices.f k a0 = some r ∧ v = .bool r
theorem bandplanref32_Choices.ok : VOk Tryd.prog 38 bandplanref32_Choices.S := by
  refine V_ok Tryd.func38 rfl fun args v hS => ⟨?_, ?_⟩
  · obtain ⟨k, a0, r, rfl, H, rfl⟩ := hS
    exact Nat.le_of_ble_eq_true rfl
  · obtain ⟨k, a0, r, rfl, H, rfl⟩ := hS
    unfold bandplanref32_Choices.f at H
    refine T_seq ?_
    refine T_reg ?_
    refine RE.op (op_assign rfl rfl) rfl rfl rfl ?_
    refine RE.nil ⟨⟨[(0, .lst false (a0.map S_api_Choice.enc))], []⟩, weak_sel ⟨rfl, trivial⟩ rfl, ?_⟩
    refine then_normal ?_
    refine T_seq ?_
    refine T_seq ?_
    refine T_reg ?_
    refine RE.op (op_assign rfl rfl) rfl rfl rfl ?_
    refine RE.nil ⟨⟨[(0, .lst false (a0.map S_api_Choice.enc)), (3, .int .i64 0)], []⟩, weak_sel ⟨rfl, rfl, trivial⟩ rfl, ?_⟩
    refine then_normal ?_
    refine T_block ?_
    obtain ⟨o2, hj3, H⟩ := Option.bind_eq_some_iff.1 H
    refine T_loop_out ((fun (x_ : Int) => ⟨[(0, .lst false (a0.map S_api_Choice.enc)), (3, .int .i64 x_)], []⟩) 0) ((fun o => match o with | (.inl _) => .ret | (.inr _) => .exit 0) o2) ((fun o => match o with | (.inl ()) => ⟨[(2, .bool false)], []⟩ | (.inr ()) => ⟨[], []⟩) o2) (weak_sel (env' := [(0, .lst false (a0.map S_api_Choice.enc)), (3, .int .i64 0)]) ⟨rfl, rfl, trivial⟩ rfl) ?_ ?_
    · refine T_fix (bandplanref32_Choices.l0 a0) (fun (x_ : Int) => ⟨[(0, .lst false (a0.map S_api_Choice.enc)), (3, .int .i64 x_)], []⟩) (fun o => match o with | (.inl _) => .ret | (.inr _) => .exit 0) (fun o => match o with | (.inl ()) => ⟨[(2, .bool false)], []⟩ | (.inr ()) => ⟨[], []⟩) (fun _ => rfl) ?_ _ 0 _ hj3
      clear H hj3
      intro k IH x1 o H
      unfold bandplanref32_Choices.l0 at H
      (try simp only at H)
      refine T_seq ?_
      refine T_seq ?_
      refine T_reg ?_
      refine RE.op (op_move rfl rfl) rfl rfl rfl ?_
      refine RE.op (op_move rfl rfl) rfl rfl rfl ?_
      refine RE.op (op_len Tryd.underlying24 rfl rfl) rfl rfl rfl ?_
      refine RE.op (op_bin rfl rfl rfl rfl) rfl rfl rfl ?_
      refine RE.nil ⟨⟨[(0, .lst false (a0.map S_api_Choice.enc)), (3, .int .i64 x1), (7, .bool (decide (x1 < ((a0.map S_api_Choice.enc).length : Int))))], []⟩, weak_sel ⟨rfl, rfl, rfl, trivial⟩ rfl, ?_⟩
      refine then_normal ?_
      by_cases h1 : x1 < ((a0.map S_api_Choice.enc).length : Int)
      · rw [if_pos h1] at H
        refine T_yes rfl (decide_eq_true h1) ?_
        refine T_skip ?_
        refine then_normal ?_
        refine T_seq ?_
        refine T_block ?_
        refine T_seq ?_
        obtain ⟨x4, hj17, H⟩ := Option.bind_eq_some_iff.1 H
        refine T_drawn_out mix [0, 0, 3, 7, 15, 31, 63, 127, 127, 511, 1023, 2047, 4095, 8191, 16383, 32767, 32767, 131071, 262143, 524287, 1048575, 2097151, 4194303, 8388607, 8388607, 33554431, 67108863, 134217727, 268435455, 536870911, 1073741823, 2147483647, 4294967295, 8589934591, 17179869183, 17179869183, 68719476735, 137438953471, 274877906943, 17179869183, 17179869183, 1116691496959, 3865470566399, 8263517077503, 17059610099711, 35184372088831, 70368744177663, 140737488355327] (by kernel_rfl) ⟨[(0, .lst false (a0.map S_api_Choice.enc)), (3, .int .i64 x1), (57, .bool x4)], []⟩ ?_ ?_
        · clear H
          have H := hj17
          clear hj17
          refine RD.q [(0, .lst false (a0.map S_api_Choice.enc))] (by repeat (first | exact trivial | refine ⟨rfl, ?_⟩)) (fun _ => (op_move rfl rfl)) rfl rfl rfl ?_
          refine RD.q [(3, .int .i64 x1)] (by repeat (first | exact trivial | refine ⟨rfl, ?_⟩)) (fun _ => (op_move rfl rfl)) rfl rfl rfl ?_
          obtain ⟨y5, hy6, H⟩ := Option.bind_eq_some_iff.1 H
          refine RD.q [(10, .lst false (a0.map S_api_Choice.enc)), (11, .int .i64 x1)] (by repeat (first | exact trivial | refine ⟨rfl, ?_⟩)) (fun _ => (op_iaddr Tryd.underlying24 ti50 rfl rfl rfl (idx_pos hy6) (idx_map hy6 S_api_Choice.enc) rfl (Nat.le_of_ble_eq_true rfl))) rfl rfl rfl ?_
          refine RD.q [(12, .eptr (a0.map S_api_Choice.enc) x1.toNat 0)] (by repeat (first | exact trivial | refine ⟨rfl, ?_⟩)) (fun _ => (op_faddr_e Tryd.underlying50 rfl ti3 rfl rfl rfl (idx_map hy6 S_api_Choice.enc) (Nat.le_of_ble_eq_true rfl))) rfl rfl rfl ?_
          refine RD.q [(13, .eptr (a0.map S_api_Choice.enc) x1.toNat 0)] (by repeat (first | exact trivial | refine ⟨rfl, ?_⟩)) (fun _ => (op_load_e ti3 rfl rfl rfl (idx_map hy6 S_api_Choice.enc) rfl)) rfl rfl rfl ?_
          refine RD.q [(14, .int .i64 y5.f_Station)] (by repeat (first | exact trivial | refine ⟨rfl, ?_⟩)) (fun _ => (op_bin rfl rfl rfl rfl)) rfl rfl rfl ?_
          refine RD.q [(15, .bool (decide (y5.f_Station < 0)))] (by repeat (first | exact trivial | refine ⟨rfl, ?_⟩)) (fun _ => (op_move rfl rfl)) rfl rfl rfl ?_
          by_cases h2 : y5.f_Station < 0
          · rw [if_pos h2] at H
            refine RD.skip rfl rfl (getb (decide_eq_true h2) rfl) rfl rfl rfl ?_
            refine RD.skip rfl rfl (getb (decide_eq_true h2) rfl) rfl rfl rfl ?_
            refine RD.skip rfl rfl (getb (decide_eq_true h2) rfl) rfl rfl rfl ?_
            refine RD.skip rfl rfl (getb (decide_eq_true h2) rfl) rfl rfl rfl ?_
            refine RD.skip rfl rfl (getb (decide_eq_true h2) rfl) rfl rfl rfl ?_
            refine RD.skip rfl rfl (getb (decide_eq_true h2) rfl) rfl rfl rfl ?_
            refine RD.q [(16, .bool (decide (y5.f_Station < 0))), (22, .tup [])] (by repeat (first | exact trivial | refine ⟨rfl, ?_⟩)) (fun _ => (op_pick_true rfl (evb (decide_eq_true h2) rfl) rfl)) rfl rfl rfl ?_
            refine RD.q [(23, .bool true)] (by repeat (first | exact trivial | refine ⟨rfl, ?_⟩)) (fun _ => (op_move rfl rfl)) rfl rfl rfl ?_
            refine RD.skip rfl rfl rfl rfl rfl rfl ?_
            refine RD.skip rfl rfl rfl rfl rfl rfl ?_
            refine RD.skip rfl rfl rfl rfl rfl rfl ?_
            refine RD.skip rfl rfl rfl rfl rfl rfl ?_
            refine RD.skip rfl rfl rfl rfl rfl rfl ?_
            refine RD.skip rfl rfl rfl rfl rfl rfl ?_
            refine RD.q [(24, .bool true), (30, .tup [])] (by repeat (first | exact trivial | refine ⟨rfl, ?_⟩)) (fun _ => (op_pick_true rfl rfl rfl)) rfl rfl rfl ?_
            refine RD.q [(31, .bool true)] (by repeat (first | exact trivial | refine ⟨rfl, ?_⟩)) (fun _ => (op_move rfl rfl)) rfl rfl rfl ?_
            refine RD.skip rfl rfl rfl rfl rfl rfl ?_
            refine RD.skip rfl rfl rfl rfl rfl rfl ?_
            refine RD.skip rfl rfl rfl rfl rfl rfl ?_
            refine RD.skip rfl rfl rfl rfl rfl rfl ?_
            refine RD.skip rfl rfl rfl rfl rfl rfl ?_
            refine RD.skip rfl rfl rfl rfl rfl rfl ?_
            refine RD.q [(32, .bool true), (38, .tup [])] (by repeat (first | exact trivial | refine ⟨rfl, ?_⟩)) (fun _ => (op_pick_true rfl rfl rfl)) rfl rfl rfl ?_
            refine RD.q [(39, .bool true)] (by repeat (first | exact trivial | refine ⟨rfl, ?_⟩)) (fun _ => (op_move rfl rfl)) rfl rfl rfl ?_
            refine RD.skip rfl rfl rfl rfl rfl rfl ?_
            refine RD.skip rfl rfl rfl rfl rfl rfl ?_
            refine RD.skip rfl rfl rfl rfl rfl rfl ?_
            refine RD.skipu rfl rfl rfl rfl rfl ?_
            refine RD.skipu rfl rfl rfl rfl rfl ?_
            refine RD.skipu rfl rfl rfl rfl rfl ?_
            refine RD.skipu rfl rfl rfl rfl rfl ?_
            refine RD.skipu rfl rfl rfl rfl rfl ?_
            refine RD.skipu rfl rfl rfl rfl rfl ?_
            refine RD.skipu rfl rfl rfl rfl rfl ?_
            refine RD.skipu rfl rfl rfl rfl rfl ?_
            refine RD.skipu rfl rfl rfl rfl rfl ?_
            refine RD.skipu rfl rfl rfl rfl rfl ?_
            refine RD.skipu rfl rfl rfl rfl rfl ?_
            refine RD.skipu rfl rfl rfl rfl rfl ?_
            refine RD.skip rfl rfl rfl rfl rfl rfl ?_
            refine RD.q [(40, .bool true), (56, .tup [])] (by repeat (first | exact trivial | refine ⟨rfl, ?_⟩)) (fun _ => (op_pick_true rfl rfl rfl)) rfl rfl rfl ?_
            simp only [Option.some.injEq] at H
            subst H
            exact RD.nil (by kernel_rfl) (weak_sel (env' := [(0, .lst false (a0.map S_api_Choice.enc)), (3, .int .i64 x1), (57, .bool true)]) ⟨rfl, rfl, rfl, trivial⟩ rfl)
          · rw [if_neg h2] at H
            refine RD.qg [(0, .lst false (a0.map S_api_Choice.enc))] (by repeat (first | exact trivial | refine ⟨rfl, ?_⟩)) (fun _ => (op_move rfl rfl)) rfl rfl (getb (decide_eq_false h2) rfl) rfl rfl ?_
            refine RD.qg [(3, .int .i64 x1)] (by repeat (first | exact trivial | refine ⟨rfl, ?_⟩)) (fun _ => (op_move rfl rfl)) rfl rfl (getb (decide_eq_false h2) rfl) rfl rfl ?_
            obtain ⟨y7, hy8, H⟩ := Option.bind_eq_some_iff.1 H
            refine RD.qg [(17, .lst false (a0.map S_api_Choice.enc)), (18, .int .i64 x1)] (by repeat (first | exact trivial | refine ⟨rfl, ?_⟩)) (fun _ => (op_iaddr Tryd.underlying24 ti50 rfl rfl rfl (idx_pos hy8) (idx_map hy8 S_api_Choice.enc) rfl (Nat.le_of_ble_eq_true rfl))) rfl rfl (getb (decide_eq_false h2) rfl) rfl rfl ?_
            refine RD.qg [(19, .eptr (a0.map S_api_Choice.enc) x1.toNat 0)] (by repeat (first | exact trivial | refine ⟨rfl, ?_⟩)) (fun _ => (op_faddr_e Tryd.underlying50 rfl ti3 rfl rfl rfl (idx_map hy8 S_api_Choice.enc) (Nat.le_of_ble_eq_true rfl))) rfl rfl (getb (decide_eq_false h2) rfl) rfl rfl ?_
            refine RD.qg [(20, .eptr (a0.map S_api_Choice.enc) x1.toNat 0)] (by repeat (first | exact trivial | refine ⟨rfl, ?_⟩)) (fun _ => (op_load_e ti3 rfl rfl rfl (idx_map hy8 S_api_Choice.enc) rfl)) rfl rfl (getb (decide_eq_false h2) rfl) rfl rfl ?_
            refine RD.qg [(21, .int .i64 y7.f_Station)] (by repeat (first | exact trivial | refine ⟨rfl, ?_⟩)) (fun _ => (op_bin rfl rfl rfl rfl)) rfl rfl (getb (decide_eq_false h2) rfl) rfl rfl ?_
            refine RD.q [(16, .bool (decide (y5.f_Station < 0))), (22, .bool (decide (y7.f_Station > 511)))] (by repeat (first | exact trivial | refine ⟨rfl, ?_⟩)) (fun _ => (op_pick_false rfl (evb (decide_eq_false h2) rfl) rfl)) rfl rfl rfl ?_
            refine RD.q [(23, .bool (decide (y7.f_Station > 511)))] (by repeat (first | exact trivial | refine ⟨rfl, ?_⟩)) (fun _ => (op_move rfl rfl)) rfl rfl rfl ?_
            by_cases h3 : y7.f_Station > 511
            · rw [if_pos h3] at H
              refine RD.skip rfl rfl (getb (decide_eq_true h3) rfl) rfl rfl rfl ?_
              refine RD.skip rfl rfl (getb (decide_eq_true h3) rfl) rfl rfl rfl ?_
              refine RD.skip rfl rfl (getb (decide_eq_true h3) rfl) rfl rfl rfl ?_
              refine RD.skip rfl rfl (getb (decide_eq_true h3) rfl) rfl rfl rfl ?_
              refine RD.skip rfl rfl (getb (decide_eq_true h3) rfl) rfl rfl rfl ?_
              refine RD.skip rfl rfl (getb (decide_eq_true h3) rfl) rfl rfl rfl ?_
              refine RD.q [(24, .bool (decide (y7.f_Station > 511))), (30, .tup [])] (by repeat (first | exact trivial | refine ⟨rfl, ?_⟩)) (fun _ => (op_pick_true rfl (evb (decide_eq_true h3) rfl) rfl)) rfl rfl rfl ?_
              refine RD.q [(31, .bool true)] (by repeat (first | exact trivial | refine ⟨rfl, ?_⟩)) (fun _ => (op_move rfl rfl)) rfl rfl rfl ?_
              refine RD.skip rfl rfl rfl rfl rfl rfl ?_
              refine RD.skip rfl rfl rfl rfl rfl rfl ?_
              refine RD.skip rfl rfl rfl rfl rfl rfl ?_
              refine RD.skip rfl rfl rfl rfl rfl rfl ?_
              refine RD.skip rfl rfl rfl rfl rfl rfl ?_
              refine RD.skip rfl rfl rfl rfl rfl rfl ?_
              refine RD.q [(32, .bool true), (38, .tup [])] (by repeat (first | exact trivial | refine ⟨rfl, ?_⟩)) (fun _ => (op_pick_true rfl rfl rfl)) rfl rfl rfl ?_
              refine RD.q [(39, .bool true)] (by repeat (first | exact trivial | refine ⟨rfl, ?_⟩)) (fun _ => (op_move rfl rfl)) rfl rfl rfl ?_
              refine RD.skip rfl rfl rfl rfl rfl rfl ?_
              refine RD.skip rfl rfl rfl rfl rfl rfl ?_
              refine RD.skip rfl rfl rfl rfl rfl rfl ?_
              refine RD.skipu rfl rfl rfl rfl rfl ?_
              refine RD.skipu rfl rfl rfl rfl rfl ?_
              refine RD.skipu rfl rfl rfl rfl rfl ?_
              refine RD.skipu rfl rfl rfl rfl rfl ?_
              refine RD.skipu rfl rfl rfl rfl rfl ?_
              refine RD.skipu rfl rfl rfl rfl rfl ?_
              refine RD.skipu rfl rfl rfl rfl rfl ?_
              refine RD.skipu rfl rfl rfl rfl rfl ?_
              refine RD.skipu rfl rfl rfl rfl rfl ?_
              refine RD.skipu rfl rfl rfl rfl rfl ?_
              refine RD.skipu rfl rfl rfl rfl rfl ?_
              refine RD.skipu rfl rfl rfl rfl rfl ?_
              refine RD.skip rfl rfl rfl rfl rfl rfl ?_
              refine RD.q [(40, .bool true), (56, .tup [])] (by repeat (first | exact trivial | refine ⟨rfl, ?_⟩)) (fun _ => (op_pick_true rfl rfl rfl)) rfl rfl rfl ?_
              simp only [Option.some.injEq] at H
              subst H
              exact RD.nil (by kernel_rfl) (weak_sel (env' := [(0, .lst false (a0.map S_api_Choice.enc)), (3, .int .i64 x1), (57, .bool true)]) ⟨rfl, rfl, rfl, trivial⟩ rfl)
            · rw [if_neg h3] at H
              refine RD.qg [(0, .lst false (a0.map S_api_Choice.enc))] (by repeat (first | exact trivial | refine ⟨rfl, ?_⟩)) (fun _ => (op_move rfl rfl)) rfl rfl (getb (decide_eq_false h3) rfl) rfl rfl ?_
              refine RD.qg [(3, .int .i64 x1)] (by repeat (first | exact trivial | refine ⟨rfl, ?_⟩)) (fun _ => (op_move rfl rfl)) rfl rfl (getb (decide_eq_false h3) rfl) rfl rfl ?_
              obtain ⟨y9, hy10, H⟩ := Option.bind_eq_some_iff.1 H
              refine RD.qg [(25, .lst false (a0.map S_api_Choice.enc)), (26, .int .i64 x1)] (by repeat (first | exact trivial | refine ⟨rfl, ?_⟩)) (fun _ => (op_iaddr Tryd.underlying24 ti50 rfl rfl rfl (idx_pos hy10) (idx_map hy10 S_api_Choice.enc) rfl (Nat.le_of_ble_eq_true rfl))) rfl rfl (getb (decide_eq_false h3) rfl) rfl rfl ?_
              refine RD.qg [(27, .eptr (a0.map S_api_Choice.enc) x1.toNat 0)] (by repeat (first | exact trivial | refine ⟨rfl, ?_⟩)) (fun _ => (op_faddr_e Tryd.underlying50 rfl ti3 rfl rfl rfl (idx_map hy10 S_api_Choice.enc) (Nat.le_of_ble_eq_true rfl))) rfl rfl (getb (decide_eq_false h3) rfl) rfl rfl ?_
              refine RD.qg [(28, .eptr (a0.map S_api_Choice.enc) x1.toNat 1)] (by repeat (first | exact trivial | refine ⟨rfl, ?_⟩)) (fun _ => (op_load_e ti3 rfl rfl rfl (idx_map hy10 S_api_Choice.enc) rfl)) rfl rfl (getb (decide_eq_false h3) rfl) rfl rfl ?_
              refine RD.qg [(29, .int .i64 y9.f_Channel)] (by repeat (first | exact trivial | refine ⟨rfl, ?_⟩)) (fun _ => (op_bin rfl rfl rfl rfl)) rfl rfl (getb (decide_eq_false h3) rfl) rfl rfl ?_
              refine RD.q [(24, .bool (decide (y7.f_Station > 511))), (30, .bool (decide (y9.f_Channel < 2)))] (by repeat (first | exact trivial | refine ⟨rfl, ?_⟩)) (fun _ => (op_pick_false rfl (evb (decide_eq_false h3) rfl) rfl)) rfl rfl rfl ?_
              refine RD.q [(31, .bool (decide (y9.f_Channel < 2)))] (by repeat (first | exact trivial | refine ⟨rfl, ?_⟩)) (fun _ => (op_move rfl rfl)) rfl rfl rfl ?_
              by_cases h4 : y9.f_Channel < 2
              · rw [if_pos h4] at H
                refine RD.skip rfl rfl (getb (decide_eq_true h4) rfl) rfl rfl rfl ?_
                refine RD.skip rfl rfl (getb (decide_eq_true h4) rfl) rfl rfl rfl ?_
                refine RD.skip rfl rfl (getb (decide_eq_true h4) rfl) rfl rfl rfl ?_
                refine RD.skip rfl rfl (getb (decide_eq_true h4) rfl) rfl rfl rfl ?_
                refine RD.skip rfl rfl (getb (decide_eq_true h4) rfl) rfl rfl rfl ?_
                refine RD.skip rfl rfl (getb (decide_eq_true h4) rfl) rfl rfl rfl ?_
                refine RD.q [(32, .bool (decide (y9.f_Channel < 2))), (38, .tup [])] (by repeat (first | exact trivial | refine ⟨rfl, ?_⟩)) (fun _ => (op_pick_true rfl (evb (decide_eq_true h4) rfl) rfl)) rfl rfl rfl ?_
                refine RD.q [(39, .bool true)] (by repeat (first | exact trivial | refine ⟨rfl, ?_⟩)) (fun _ => (op_move rfl rfl)) rfl rfl rfl ?_
                refine RD.skip rfl rfl rfl rfl rfl rfl ?_
                refine RD.skip rfl rfl rfl rfl rfl rfl ?_
                refine RD.skip rfl rfl rfl rfl rfl rfl ?_
                refine RD.skipu rfl rfl rfl rfl rfl ?_
                refine RD.skipu rfl rfl rfl rfl rfl ?_
                refine RD.skipu rfl rfl rfl rfl rfl ?_
                refine RD.skipu rfl rfl rfl rfl rfl ?_
                refine RD.skipu rfl rfl rfl rfl rfl ?_
                refine RD.skipu rfl rfl rfl rfl rfl ?_
                refine RD.skipu rfl rfl rfl rfl rfl ?_
                refine RD.skipu rfl rfl rfl rfl rfl ?_
                refine RD.skipu rfl rfl rfl rfl rfl ?_
                refine RD.skipu rfl rfl rfl rfl rfl ?_
                refine RD.skipu rfl rfl rfl rfl rfl ?_
                refine RD.skipu rfl rfl rfl rfl rfl ?_
                refine RD.skip rfl rfl rfl rfl rfl rfl ?_
                refine RD.q [(40, .bool true), (56, .tup [])] (by repeat (first | exact trivial | refine ⟨rfl, ?_⟩)) (fun _ => (op_pick_true rfl rfl rfl)) rfl rfl rfl ?_
                simp only [Option.some.injEq] at H
                subst H
                exact RD.nil (by kernel_rfl) (weak_sel (env' := [(0, .lst false (a0.map S_api_Choice.enc)), (3, .int .i64 x1), (57, .bool true)]) ⟨rfl, rfl, rfl, trivial⟩ rfl)
              · rw [if_neg h4] at H
                refine RD.qg [(0, .lst false (a0.map S_api_Choice.enc))] (by repeat (first | exact trivial | refine ⟨rfl, ?_⟩)) (fun _ => (op_move rfl rfl)) rfl rfl (getb (decide_eq_false h4) rfl) rfl rfl ?_
                refine RD.qg [(3, .int .i64 x1)] (by repeat (first | exact trivial | refine ⟨rfl, ?_⟩)) (fun _ => (op_move rfl rfl)) rfl rfl (getb (decide_eq_false h4) rfl) rfl rfl ?_
                obtain ⟨y11, hy12, H⟩ := Option.bind_eq_some_iff.1 H
                refine RD.qg [(33, .lst false (a0.map S_api_Choice.enc)), (34, .int .i64 x1)] (by repeat (first | exact trivial | refine ⟨rfl, ?_⟩)) (fun _ => (op_iaddr Tryd.underlying24 ti50 rfl rfl rfl (idx_pos hy12) (idx_map hy12 S_api_Choice.enc) rfl (Nat.le_of_ble_eq_true rfl))) rfl rfl (getb (decide_eq_false h4) rfl) rfl rfl ?_
                refine RD.qg [(35, .eptr (a0.map S_api_Choice.enc) x1.toNat 0)] (by repeat (first | exact trivial | refine ⟨rfl, ?_⟩)) (fun _ => (op_faddr_e Tryd.underlying50 rfl ti3 rfl rfl rfl (idx_map hy12 S_api_Choice.enc) (Nat.le_of_ble_eq_true rfl))) rfl rfl (getb (decide_eq_false h4) rfl) rfl rfl ?_
                refine RD.qg [(36, .eptr (a0.map S_api_Choice.enc) x1.toNat 1)] (by repeat (first | exact trivial | refine ⟨rfl, ?_⟩)) (fun _ => (op_load_e ti3 rfl rfl rfl (idx_map hy12 S_api_Choice.enc) rfl)) rfl rfl (getb (decide_eq_false h4) rfl) rfl rfl ?_
                refine RD.qg [(37, .int .i64 y11.f_Channel)] (by repeat (first | exact trivial | refine ⟨rfl, ?_⟩)) (fun _ => (op_bin rfl rfl rfl rfl)) rfl rfl (getb (decide_eq_false h4) rfl) rfl rfl ?_
                refine RD.q [(32, .bool (decide (y9.f_Channel < 2))), (38, .bool (decide (y11.f_Channel > 51)))] (by repeat (first | exact trivial | refine ⟨rfl, ?_⟩)) (fun _ => (op_pick_false rfl (evb (decide_eq_false h4) rfl) rfl)) rfl rfl rfl ?_
                refine RD.q [(39, .bool (decide (y11.f_Channel > 51)))] (by repeat (first | exact trivial | refine ⟨rfl, ?_⟩)) (fun _ => (op_move rfl rfl)) rfl rfl rfl ?_
                by_cases h5 : y11.f_Channel > 51
                · rw [if_pos h5] at H
                  refine RD.skip rfl rfl (getb (decide_eq_true h5) rfl) rfl rfl rfl ?_
                  refine RD.skip rfl rfl (getb (decide_eq_true h5) rfl) rfl rfl rfl ?_
                  refine RD.skip rfl rfl (getb (decide_eq_true h5) rfl) rfl rfl rfl ?_
                  refine RD.skipu rfl rfl rfl rfl rfl ?_
                  refine RD.skipu rfl rfl rfl rfl rfl ?_
                  refine RD.skipu rfl rfl rfl rfl rfl ?_
                  refine RD.skipu rfl rfl rfl rfl rfl ?_
                  refine RD.skipu rfl rfl rfl rfl rfl ?_
                  refine RD.skipu rfl rfl rfl rfl rfl ?_
                  refine RD.skipu rfl rfl rfl rfl rfl ?_
                  refine RD.skipu rfl rfl rfl rfl rfl ?_
                  refine RD.skipu rfl rfl rfl rfl rfl ?_
                  refine RD.skipu rfl rfl rfl rfl rfl ?_
                  refine RD.skipu rfl rfl rfl rfl rfl ?_
                  refine RD.skipu rfl rfl rfl rfl rfl ?_
                  refine RD.skip rfl rfl (getb (decide_eq_true h5) rfl) rfl rfl rfl ?_
                  refine RD.q [(40, .bool (decide (y11.f_Channel > 51))), (56, .tup [])] (by repeat (first | exact trivial | refine ⟨rfl, ?_⟩)) (fun _ => (op_pick_true rfl (evb (decide_eq_true h5) rfl) rfl)) rfl rfl rfl ?_
                  simp only [Option.some.injEq] at H
                  subst H
                  exact RD.nil (by kernel_rfl) (weak_sel (env' := [(0, .lst false (a0.map S_api_Choice.enc)), (3, .int .i64 x1), (57, .bool true)]) ⟨rfl, rfl, rfl, trivial⟩ rfl)
                · rw [if_neg h5] at H
                  refine RD.qg [(3, .int .i64 x1)] (by repeat (first | exact trivial | refine ⟨rfl, ?_⟩)) (fun _ => (op_move rfl rfl)) rfl rfl (getb (decide_eq_false h5) rfl) rfl rfl ?_
                  refine RD.qg [(41, .int .i64 x1)] (by repeat (first | exact trivial | refine ⟨rfl, ?_⟩)) (fun _ => (op_bin rfl rfl rfl rfl)) rfl rfl (getb (decide_eq_false h5) rfl) rfl rfl ?_
                  refine RD.qg [(42, .bool (decide (x1 > 0)))] (by repeat (first | exact trivial | refine ⟨rfl, ?_⟩)) (fun _ => (op_move rfl rfl)) rfl rfl (getb (decide_eq_false h5) rfl) rfl rfl ?_
                  by_cases h6 : x1 > 0
                  · rw [if_pos h6] at H
                    refine RD.qg [(0, .lst false (a0.map S_api_Choice.enc))] (by repeat (first | exact trivial | refine ⟨rfl, ?_⟩)) (fun _ => (op_move rfl rfl)) rfl rfl (getb (decide_eq_true h6) rfl) rfl rfl ?_
                    refine RD.qg [(3, .int .i64 x1)] (by repeat (first | exact trivial | refine ⟨rfl, ?_⟩)) (fun _ => (op_move rfl rfl)) rfl rfl (getb (decide_eq_true h6) rfl) rfl rfl ?_
                    obtain ⟨y13, hy14, H⟩ := Option.bind_eq_some_iff.1 H
                    refine RD.qg [(44, .lst false (a0.map S_api_Choice.enc)), (45, .int .i64 x1)] (by repeat (first | exact trivial | refine ⟨rfl, ?_⟩)) (fun _ => (op_iaddr Tryd.underlying24 ti50 rfl rfl rfl (idx_pos hy14) (idx_map hy14 S_api_Choice.enc) rfl (Nat.le_of_ble_eq_true rfl))) rfl rfl (getb (decide_eq_true h6) rfl) rfl rfl ?_
                    refine RD.qg [(46, .eptr (a0.map S_api_Choice.enc) x1.toNat 0)] (by repeat (first | exact trivial | refine ⟨rfl, ?_⟩)) (fun _ => (op_faddr_e Tryd.underlying50 rfl ti3 rfl rfl rfl (idx_map hy14 S_api_Choice.enc) (Nat.le_of_ble_eq_true rfl))) rfl rfl (getb (decide_eq_true h6) rfl) rfl rfl ?_
                    refine RD.qg [(47, .eptr (a0.map S_api_Choice.enc) x1.toNat 0)] (by repeat (first | exact trivial | refine ⟨rfl, ?_⟩)) (fun _ => (op_load_e ti3 rfl rfl rfl (idx_map hy14 S_api_Choice.enc) rfl)) rfl rfl (getb (decide_eq_true h6) rfl) rfl rfl ?_
                    refine RD.qg [(0, .lst false (a0.map S_api_Choice.enc))] (by repeat (first | exact trivial | refine ⟨rfl, ?_⟩)) (fun _ => (op_move rfl rfl)) rfl rfl (getb (decide_eq_true h6) rfl) rfl rfl ?_
                    refine RD.qg [(3, .int .i64 x1)] (by repeat (first | exact trivial | refine ⟨rfl, ?_⟩)) (fun _ => (op_move rfl rfl)) rfl rfl (getb (decide_eq_true h6) rfl) rfl rfl ?_
                    refine RD.qg [(50, .int .i64 x1)] (by repeat (first | exact trivial | refine ⟨rfl, ?_⟩)) (fun _ => (op_bin rfl rfl rfl rfl)) rfl rfl (getb (decide_eq_true h6) rfl) rfl rfl ?_
                    obtain ⟨y15, hy16, H⟩ := Option.bind_eq_some_iff.1 H
                    refine RD.qg [(49, .lst false (a0.map S_api_Choice.enc)), (51, .int .i64 (IntKind.i64.wrap (x1 - 1)))] (by repeat (first | exact trivial | refine ⟨rfl, ?_⟩)) (fun _ => (op_iaddr Tryd.underlying24 ti50 rfl rfl rfl (idx_pos hy16) (idx_map hy16 S_api_Choice.enc) rfl (Nat.le_of_ble_eq_true rfl))) rfl rfl (getb (decide_eq_true h6) rfl) rfl rfl ?_
                    refine RD.qg [(52, .eptr (a0.map S_api_Choice.enc) ((IntKind.i64.wrap (x1 - 1)).toNat) 0)] (by repeat (first | exact trivial | refine ⟨rfl, ?_⟩)) (fun _ => (op_faddr_e Tryd.underlying50 rfl ti3 rfl rfl rfl (idx_map hy16 S_api_Choice.enc) (Nat.le_of_ble_eq_true rfl))) rfl rfl (getb (decide_eq_true h6) rfl) rfl rfl ?_
                    refine RD.qg [(53, .eptr (a0.map S_api_Choice.enc) ((IntKind.i64.wrap (x1 - 1)).toNat) 0)] (by repeat (first | exact trivial | refine ⟨rfl, ?_⟩)) (fun _ => (op_load_e ti3 rfl rfl rfl (idx_map hy16 S_api_Choice.enc) rfl)) rfl rfl (getb (decide_eq_true h6) rfl) rfl rfl ?_
                    refine RD.qg [(48, .int .i64 y13.f_Station), (54, .int .i64 y15.f_Station)] (by repeat (first | exact trivial | refine ⟨rfl, ?_⟩)) (fun _ => (op_bin rfl rfl rfl rfl)) rfl rfl (getb (decide_eq_true h6) rfl) rfl rfl ?_
                    refine RD.qg [(43, .bool (decide (x1 > 0))), (55, .bool (decide (y13.f_Station ≤ y15.f_Station)))] (by repeat (first | exact trivial | refine ⟨rfl, ?_⟩)) (fun _ => (op_pick_true rfl (evb (decide_eq_true h6) rfl) rfl)) rfl rfl (getb (decide_eq_false h5) rfl) rfl rfl ?_
                    refine RD.q [(40, .bool (decide (y11.f_Channel > 51))), (56, .bool (decide (y13.f_Station ≤ y15.f_Station)))] (by repeat (first | exact trivial | refine ⟨rfl, ?_⟩)) (fun _ => (op_pick_false rfl (evb (decide_eq_false h5) rfl) rfl)) rfl rfl rfl ?_
                    simp only [Option.some.injEq] at H
                    subst H
                    exact RD.nil (by kernel_rfl) (weak_sel (env' := [(0, .lst false (a0.map S_api_Choice.enc)), (3, .int .i64 x1), (57, .bool (decide (y13.f_Station ≤ y15.f_Station)))]) ⟨rfl, rfl, rfl, trivial⟩ rfl)
                  · rw [if_neg h6] at H
                    refine RD.skip rfl rfl (getb (decide_eq_false h6) rfl) rfl rfl rfl ?_
                    refine RD.skip rfl rfl (getb (decide_eq_false h6) rfl) rfl rfl rfl ?_
                    refine RD.skip rfl rfl (getb (decide_eq_false h6) rfl) rfl rfl rfl ?_
                    refine RD.skip rfl rfl (getb (decide_eq_false h6) rfl) rfl rfl rfl ?_
                    refine RD.skip rfl rfl (getb (decide_eq_false h6) rfl) rfl rfl rfl ?_
                    refine RD.skip rfl rfl (getb (decide_eq_false h6) rfl) rfl rfl rfl ?_
                    refine RD.skip rfl rfl (getb (decide_eq_false h6) rfl) rfl rfl rfl ?_
                    refine RD.skip rfl rfl (getb (decide_eq_false h6) rfl) rfl rfl rfl ?_
                    refine RD.skip rfl rfl (getb (decide_eq_false h6) rfl) rfl rfl rfl ?_
                    refine RD.skip rfl rfl (getb (decide_eq_false h6) rfl) rfl rfl rfl ?_
                    refine RD.skip rfl rfl (getb (decide_eq_false h6) rfl) rfl rfl rfl ?_
                    refine RD.skip rfl rfl (getb (decide_eq_false h6) rfl) rfl rfl rfl ?_
                    refine RD.qg [(43, .bool (decide (x1 > 0))), (55, .tup [])] (by repeat (first | exact trivial | refine ⟨rfl, ?_⟩)) (fun _ => (op_pick_false rfl (evb (decide_eq_false h6) rfl) rfl)) rfl rfl (getb (decide_eq_false h5) rfl) rfl rfl ?_
                    refine RD.q [(40, .bool (decide (y11.f_Channel > 51))), (56, .bool false)] (by repeat (first | exact trivial | refine ⟨rfl, ?_⟩)) (fun _ => (op_pick_false rfl (evb (decide_eq_false h5) rfl) rfl)) rfl rfl rfl ?_
                    simp only [Option.some.injEq] at H
                    subst H
                    exact RD.nil (by kernel_rfl) (weak_sel (env' := [(0, .lst false (a0.map S_api_Choice.enc)), (3, .int .i64 x1), (57, .bool false)]) ⟨rfl, rfl, rfl, trivial⟩ rfl)
        · clear hj17
          refine then_normal ?_
          by_cases h7 : x4 = true
          · rw [if_pos h7] at H
            refine T_yes rfl h7 ?_
            refine T_seq ?_
            refine T_reg ?_
            refine RE.op (op_assign rfl rfl) rfl rfl rfl ?_
            refine RE.nil ⟨⟨[(2, .bool false)], []⟩, weak_sel ⟨rfl, trivial⟩ rfl, ?_⟩
            refine then_normal ?_
            refine T_ret ?_
            simp only [Option.some.injEq] at H
            subst H
            refine block_ret ?_
            refine then_ret ?_
            refine then_ret ?_
            exact ⟨rfl, weak_sel (env' := [(2, .bool false)]) ⟨rfl, trivial⟩ rfl⟩
          · rw [if_neg h7] at H
            refine T_no rfl (Bool.eq_false_iff.mpr h7) ?_
            refine T_skip ?_
            refine block_normal ?_
            refine then_normal ?_
            refine T_reg ?_
            refine RE.op (op_move rfl rfl) rfl rfl rfl ?_
            refine RE.op (op_bin rfl rfl rfl rfl) rfl rfl rfl ?_
            refine RE.op (op_assign rfl rfl) rfl rfl rfl ?_
            refine RE.nil ⟨⟨[(0, .lst false (a0.map S_api_Choice.enc)), (3, .int .i64 (IntKind.i64.wrap (x1 + 1)))], []⟩, weak_sel ⟨rfl, rfl, trivial⟩ rfl, ?_⟩
            refine then_normal ?_
            exact LoopAt.weak (weak_sel (env' := [(0, .lst false (a0.map S_api_Choice.enc)), (3, .int .i64 (IntKind.i64.wrap (x1 + 1)))]) ⟨rfl, rfl, trivial⟩ rfl) (IH _ _ H)
      · rw [if_neg h1] at H
        refine T_no rfl (decide_eq_false h1) ?_
        refine T_exit ?_
        simp only [Option.some.injEq] at H
        subst H
        refine then_exit ?_
        refine then_exit ?_
        exact ⟨rfl, weak_sel (env' := []) trivial rfl⟩
    · clear hj3
      rcases o2 with _ | _
      · simp only [Option.some.injEq] at H
        subst H
        refine block_ret ?_
        refine then_ret ?_
        exact ret1 rfl rfl rfl
      · refine block_eq ?_
        refine then_normal ?_
        refine T_seq ?_
        refine T_reg ?_
        refine RE.op (op_assign rfl rfl) rfl rfl rfl ?_
        refine RE.nil ⟨⟨[(2, .bool true)], []⟩, weak_sel ⟨rfl, trivial⟩ rfl, ?_⟩
        refine then_normal ?_
        refine T_ret ?_
        simp only [Option.some.injEq] at H
        subst H
        exact ret1 rfl rfl rfl

/-! ### 37 bandplan/bandplanref32.Stations -/
def bandplanref32_Stations.l0 (a0 : (List Int)) : Nat → Int → Option (Sum (Unit) (Unit))
  | 0, _ => none
  | k + 1, x1 => (if x1 < ((a0.map (AV.int .i64)).length : Int) then ((idx a0 x1).bind fun y5 => (if y5 < 0 then some true else (idx a0 x1).bind fun y7 => (if y7 > 511 then some true else (if x1 > 0 then (idx a0 x1).bind fun y9 => (idx a0 (IntKind.i64.wrap (x1 - 1))).bind fun y11 => some (decide (y9 ≤ y11)) else some false)))).bind fun x4 => (if x4 = true then some (.inl ()) else bandplanref32_Stations.l0 a0 k (IntKind.i64.wrap (x1 + 1))) else some (.inr ()))
def bandplanref32_Stations.f (k : Nat) (a0 : (List Int)) : Option (Bool) := ((bandplanref32_Stations.l0 a0 k 0).bind fun o => match o with | (.inl _) => some false | (.inr _) => some true)
def bandplanref32_Stations.S (args : List AV) (v : AV) : Prop := ∃ (k : Nat) (a0 : (List Int)) (r : Bool), args = [.lst false (a0.map (AV.int .i64))] ∧ bandplanref32_Stations.f k a0 = some r ∧ v = .bool r
theorem bandplanref32_Stations.ok : VOk Tryd.prog 37 bandplanref32_Stations.S := by
  refine V_ok Tryd.func37 rfl fun args v hS => ⟨?_, ?_⟩
  · obtain ⟨k, a0, r, rfl, H, rfl⟩ := hS
    exact Nat.le_of_ble_eq_true rfl
  · obtain ⟨k, a0, r, rfl, H, rfl⟩ := hS
    unfold bandplanref32_Stations.f at H
    refine T_seq ?_
    refine T_reg ?_
    refine RE.op (op_assign rfl rfl) rfl rfl rfl ?_
    refine RE.nil ⟨⟨[(0, .lst false (a0.map (AV.int .i64)))], []⟩, weak_sel ⟨rfl, trivial⟩ rfl, ?_⟩
    refine then_normal ?_
    refine T_seq ?_
    refine T_seq ?_
    refine T_reg ?_
    refine RE.op (op_assign rfl rfl) rfl rfl rfl ?_
    refine RE.nil ⟨⟨[(0, .lst false (a0.map (AV.int .i64))), (3, .int .i64 0)], []⟩, weak_sel ⟨rfl, rfl, trivial⟩ rfl, ?_⟩
    refine then_normal ?_
    refine T_block ?_
    obtain ⟨o2, hj3, H⟩ := Option.bind_eq_some_iff.1 H
    refine T_loop_out ((fun (x_ : Int) => ⟨[(0, .lst false (a0.map (AV.int .i64))), (3, .int .i64 x_)], []⟩) 0) ((fun o => match o with | (.inl _) => .ret | (.inr _) => .exit 0) o2) ((fun o => match o with | (.inl ()) => ⟨[(2, .bool false)], []⟩ | (.inr ()) => ⟨[], []⟩) o2) (weak_sel (env' := [(0, .lst false (a0.map (AV.int .i64))), (3, .int .i64 0)]) ⟨rfl, rfl, trivial⟩ rfl) ?_ ?_
    · refine T_fix (bandplanref32_Stations.l0 a0) (fun (x_ : Int) => ⟨[(0, .lst false (a0.map (AV.int .i64))), (3, .int .i64 x_)], []⟩) (fun o => match o with | (.inl _) => .ret | (.inr _) => .exit 0) (fun o => match o with | (.inl ()) => ⟨[(2, .bool false)], []⟩ | (.inr ()) => ⟨[], []⟩) (fun _ => rfl) ?_ _ 0 _ hj3
      clear H hj3
      intro k IH x1 o H
      unfold bandplanref32_Stations.l0 at H
      (try simp only at H)
      refine T_seq ?_
      refine T_seq ?_
      refine T_reg ?_
      refine RE.op (op_move rfl rfl) rfl rfl rfl ?_
      refine RE.op (op_move rfl rfl) rfl rfl rfl ?_
      refine RE.op (op_len Tryd.underlying23 rfl rfl) rfl rfl rfl ?_
      refine RE.op (op_bin rfl rfl rfl rfl) rfl rfl rfl ?_
      refine RE.nil ⟨⟨[(0, .lst false (a0.map (AV.int .i64))), (3, .int .i64 x1), (7, .bool (decide (x1 < ((a0.map (AV.int .i64)).length : Int))))], []⟩, weak_sel ⟨rfl, rfl, rfl, trivial⟩ rfl, ?_⟩
      refine then_normal ?_
      by_cases h1 : x1 < ((a0.map (AV.int .i64)).length : Int)
      · rw [if_pos h1] at H
        refine T_yes rfl (decide_eq_true h1) ?_
        refine T_skip ?_
        refine then_normal ?_
        refine T_seq ?_
        refine T_block ?_
        refine T_seq ?_
        obtain ⟨x4, hj13, H⟩ := Option.bind_eq_some_iff.1 H
        refine T_drawn_out mix [0, 0, 3, 7, 15, 31, 63, 63, 255, 511, 1023, 2047, 4095, 8191, 16383, 32767, 65535, 65535, 262143, 524287, 65535, 65535, 2162687, 7405567, 15794175, 33554431, 67108863, 134217727] (by kernel_rfl) ⟨[(0, .lst false (a0.map (AV.int .i64))), (3, .int .i64 x1), (37, .bool x4)], []⟩ ?_ ?_
        · clear H
          have H := hj13
          clear hj13
          refine RD.q [(0, .lst false (a0.map (AV.int .i64)))] (by repeat (first | exact trivial | refine ⟨rfl, ?_⟩)) (fun _ => (op_move rfl rfl)) rfl rfl rfl ?_
          refine RD.q [(3, .int .i64 x1)] (by repeat (first | exact trivial | refine ⟨rfl, ?_⟩)) (fun _ => (op_move rfl rfl)) rfl rfl rfl ?_
          obtain ⟨y5, hy6, H⟩ := Option.bind_eq_some_iff.1 H
          refine RD.q [(10, .lst false (a0.map (AV.int .i64))), (11, .int .i64 x1)] (by repeat (first | exact trivial | refine ⟨rfl, ?_⟩)) (fun _ => (op_iaddr Tryd.underlying23 ti3 rfl rfl rfl (idx_pos hy6) (idx_map hy6 (AV.int .i64)) rfl (Nat.le_of_ble_eq_true rfl))) rfl rfl rfl ?_
          refine RD.q [(12, .eptr (a0.map (AV.int .i64)) x1.toNat 0)] (by repeat (first | exact trivial | refine ⟨rfl, ?_⟩)) (fun _ => (op_load_e ti3 rfl rfl rfl (idx_map hy6 (AV.int .i64)) rfl)) rfl rfl rfl ?_
          refine RD.q [(13, .int .i64 y5)] (by repeat (first | exact trivial | refine ⟨rfl, ?_⟩)) (fun _ => (op_bin rfl rfl rfl rfl)) rfl rfl rfl ?_
          refine RD.q [(14, .bool (decide (y5 < 0)))] (by repeat (first | exact trivial | refine ⟨rfl, ?_⟩)) (fun _ => (op_move rfl rfl)) rfl rfl rfl ?_
          by_cases h2 : y5 < 0
          · rw [if_pos h2] at H
            refine RD.skip rfl rfl (getb (decide_eq_true h2) rfl) rfl rfl rfl ?_
            refine RD.skip rfl rfl (getb (decide_eq_true h2) rfl) rfl rfl rfl ?_
            refine RD.skip rfl rfl (getb (decide_eq_true h2) rfl) rfl rfl rfl ?_
            refine RD.skip rfl rfl (getb (decide_eq_true h2) rfl) rfl rfl rfl ?_
            refine RD.skip rfl rfl (getb (decide_eq_true h2) rfl) rfl rfl rfl ?_
            refine RD.q [(15, .bool (decide (y5 < 0))), (20, .tup [])] (by repeat (first | exact trivial | refine ⟨rfl, ?_⟩)) (fun _ => (op_pick_true rfl (evb (decide_eq_true h2) rfl) rfl)) rfl rfl rfl ?_
            refine RD.q [(21, .bool true)] (by repeat (first | exact trivial | refine ⟨rfl, ?_⟩)) (fun _ => (op_move rfl rfl)) rfl rfl rfl ?_
            refine RD.skip rfl rfl rfl rfl rfl rfl ?_
            refine RD.skip rfl rfl rfl rfl rfl rfl ?_
            refine RD.skip rfl rfl rfl rfl rfl rfl ?_
            refine RD.skipu rfl rfl rfl rfl rfl ?_
            refine RD.skipu rfl rfl rfl rfl rfl ?_
            refine RD.skipu rfl rfl rfl rfl rfl ?_
            refine RD.skipu rfl rfl rfl rfl rfl ?_
            refine RD.skipu rfl rfl rfl rfl rfl ?_
            refine RD.skipu rfl rfl rfl rfl rfl ?_
            refine RD.skipu rfl rfl rfl rfl rfl ?_
            refine RD.skipu rfl rfl rfl rfl rfl ?_
            refine RD.skipu rfl rfl rfl rfl rfl ?_
            refine RD.skipu rfl rfl rfl rfl rfl ?_
            refine RD.skip rfl rfl rfl rfl rfl rfl ?_
            refine RD.q [(22, .bool true), (36, .tup [])] (by repeat (first | exact trivial | refine ⟨rfl, ?_⟩)) (fun _ => (op_pick_true rfl rfl rfl)) rfl rfl rfl ?_
            simp only [Option.some.injEq] at H
            subst H
            exact RD.nil (by kernel_rfl) (weak_sel (env' := [(0, .lst false (a0.map (AV.int .i64))), (3, .int .i64 x1), (37, .bool true)]) ⟨rfl, rfl, rfl, trivial⟩ rfl)
          · rw [if_neg h2] at H
            refine RD.qg [(0, .lst false (a0.map (AV.int .i64)))] (by repeat (first | exact trivial | refine ⟨rfl, ?_⟩)) (fun _ => (op_move rfl rfl)) rfl rfl (getb (decide_eq_false h2) rfl) rfl rfl ?_
            refine RD.qg [(3, .int .i64 x1)] (by repeat (first | exact trivial | refine ⟨rfl, ?_⟩)) (fun _ => (op_move rfl rfl)) rfl rfl (getb (decide_eq_false h2) rfl) rfl rfl ?_
            obtain ⟨y7, hy8, H⟩ := Option.bind_eq_some_iff.1 H
            refine RD.qg [(16, .lst false (a0.map (AV.int .i64))), (17, .int .i64 x1)] (by repeat (first | exact trivial | refine ⟨rfl, ?_⟩)) (fun _ => (op_iaddr Tryd.underlying23 ti3 rfl rfl rfl (idx_pos hy8) (idx_map hy8 (AV.int .i64)) rfl (Nat.le_of_ble_eq_true rfl))) rfl rfl (getb (decide_eq_false h2) rfl) rfl rfl ?_
            refine RD.qg [(18, .eptr (a0.map (AV.int .i64)) x1.toNat 0)] (by repeat (first | exact trivial | refine ⟨rfl, ?_⟩)) (fun _ => (op_load_e ti3 rfl rfl rfl (idx_map hy8 (AV.int .i64)) rfl)) rfl rfl (getb (decide_eq_false h2) rfl) rfl rfl ?_
            refine RD.qg [(19, .int .i64 y7)] (by repeat (first | exact trivial | refine ⟨rfl, ?_⟩)) (fun _ => (op_bin rfl rfl rfl rfl)) rfl rfl (getb (decide_eq_false h2) rfl) rfl rfl ?_
            refine RD.q [(15, .bool (decide (y5 < 0))), (20, .bool (decide (y7 > 511)))] (by repeat (first | exact trivial | refine ⟨rfl, ?_⟩)) (fun _ => (op_pick_false rfl (evb (decide_eq_false h2) rfl) rfl)) rfl rfl rfl ?_
            refine RD.q [(21, .bool (decide (y7 > 511)))] (by repeat (first | exact trivial | refine ⟨rfl, ?_⟩)) (fun _ => (op_move rfl rfl)) rfl rfl rfl ?_
            by_cases h3 : y7 > 511
            · rw [if_pos h3] at H
              refine RD.skip rfl rfl (getb (decide_eq_true h3) rfl) rfl rfl rfl ?_
              refine RD.skip rfl rfl (getb (decide_eq_true h3) rfl) rfl rfl rfl ?_
              refine RD.skip rfl rfl (getb (decide_eq_true h3) rfl) rfl rfl rfl ?_
              refine RD.skipu rfl rfl rfl rfl rfl ?_
              refine RD.skipu rfl rfl rfl rfl rfl ?_
              refine RD.skipu rfl rfl rfl rfl rfl ?_
              refine RD.skipu rfl rfl rfl rfl rfl ?_
              refine RD.skipu rfl rfl rfl rfl rfl ?_
              refine RD.skipu rfl rfl rfl rfl rfl ?_
              refine RD.skipu rfl rfl rfl rfl rfl ?_
              refine RD.skipu rfl rfl rfl rfl rfl ?_
              refine RD.skipu rfl rfl rfl rfl rfl ?_
              refine RD.skipu rfl rfl rfl rfl rfl ?_
              refine RD.skip rfl rfl (getb (decide_eq_true h3) rfl) rfl rfl rfl ?_
              refine RD.q [(22, .bool (decide (y7 > 511))), (36, .tup [])] (by repeat (first | exact trivial | refine ⟨rfl, ?_⟩)) (fun _ => (op_pick_true rfl (evb (decide_eq_true h3) rfl) rfl)) rfl rfl rfl ?_
              simp only [Option.some.injEq] at H
              subst H
              exact RD.nil (by kernel_rfl) (weak_sel (env' := [(0, .lst false (a0.map (AV.int .i64))), (3, .int .i64 x1), (37, .bool true)]) ⟨rfl, rfl, rfl, trivial⟩ rfl)
            · rw [if_neg h3] at H
              refine RD.qg [(3, .int .i64 x1)] (by repeat (first | exact trivial | refine ⟨rfl, ?_⟩)) (fun _ => (op_move rfl rfl)) rfl rfl (getb (decide_eq_false h3) rfl) rfl rfl ?_
              refine RD.qg [(23, .int .i64 x1)] (by repeat (first | exact trivial | refine ⟨rfl, ?_⟩)) (fun _ => (op_bin rfl rfl rfl rfl)) rfl rfl (getb (decide_eq_false h3) rfl) rfl rfl ?_
              refine RD.qg [(24, .bool (decide (x1 > 0)))] (by repeat (first | exact trivial | refine ⟨rfl, ?_⟩)) (fun _ => (op_move rfl rfl)) rfl rfl (getb (decide_eq_false h3) rfl) rfl rfl ?_
              by_cases h4 : x1 > 0
              · rw [if_pos h4] at H
                refine RD.qg [(0, .lst false (a0.map (AV.int .i64)))] (by repeat (first | exact trivial | refine ⟨rfl, ?_⟩)) (fun _ => (op_move rfl rfl)) rfl rfl (getb (decide_eq_true h4) rfl) rfl rfl ?_
                refine RD.qg [(3, .int .i64 x1)] (by repeat (first | exact trivial | refine ⟨rfl, ?_⟩)) (fun _ => (op_move rfl rfl)) rfl rfl (getb (decide_eq_true h4) rfl) rfl rfl ?_
                obtain ⟨y9, hy10, H⟩ := Option.bind_eq_some_iff.1 H
                refine RD.qg [(26, .lst false (a0.map (AV.int .i64))), (27, .int .i64 x1)] (by repeat (first | exact trivial | refine ⟨rfl, ?_⟩)) (fun _ => (op_iaddr Tryd.underlying23 ti3 rfl rfl rfl (idx_pos hy10) (idx_map hy10 (AV.int .i64)) rfl (Nat.le_of_ble_eq_true rfl))) rfl rfl (getb (decide_eq_true h4) rfl) rfl rfl ?_
                refine RD.qg [(28, .eptr (a0.map (AV.int .i64)) x1.toNat 0)] (by repeat (first | exact trivial | refine ⟨rfl, ?_⟩)) (fun _ => (op_load_e ti3 rfl rfl rfl (idx_map hy10 (AV.int .i64)) rfl)) rfl rfl (getb (decide_eq_true h4) rfl) rfl rfl ?_
                refine RD.qg [(0, .lst false (a0.map (AV.int .i64)))] (by repeat (first | exact trivial | refine ⟨rfl, ?_⟩)) (fun _ => (op_move rfl rfl)) rfl rfl (getb (decide_eq_true h4) rfl) rfl rfl ?_
                refine RD.qg [(3, .int .i64 x1)] (by repeat (first | exact trivial | refine ⟨rfl, ?_⟩)) (fun _ => (op_move rfl rfl)) rfl rfl (getb (decide_eq_true h4) rfl) rfl rfl ?_
                refine RD.qg [(31, .int .i64 x1)] (by repeat (first | exact trivial | refine ⟨rfl, ?_⟩)) (fun _ => (op_bin rfl rfl rfl rfl)) rfl rfl (getb (decide_eq_true h4) rfl) rfl rfl ?_
                obtain ⟨y11, hy12, H⟩ := Option.bind_eq_some_iff.1 H
                refine RD.qg [(30, .lst false (a0.map (AV.int .i64))), (32, .int .i64 (IntKind.i64.wrap (x1 - 1)))] (by repeat (first | exact trivial | refine ⟨rfl, ?_⟩)) (fun _ => (op_iaddr Tryd.underlying23 ti3 rfl rfl rfl (idx_pos hy12) (idx_map hy12 (AV.int .i64)) rfl (Nat.le_of_ble_eq_true rfl))) rfl rfl (getb (decide_eq_true h4) rfl) rfl rfl ?_
                refine RD.qg [(33, .eptr (a0.map (AV.int .i64)) ((IntKind.i64.wrap (x1 - 1)).toNat) 0)] (by repeat (first | exact trivial | refine ⟨rfl, ?_⟩)) (fun _ => (op_load_e ti3 rfl rfl rfl (idx_map hy12 (AV.int .i64)) rfl)) rfl rfl (getb (decide_eq_true h4) rfl) rfl rfl ?_
                refine RD.qg [(29, .int .i64 y9), (34, .int .i64 y11)] (by repeat (first | exact trivial | refine ⟨rfl, ?_⟩)) (fun _ => (op_bin rfl rfl rfl rfl)) rfl rfl (getb (decide_eq_true h4) rfl) rfl rfl ?_
                refine RD.qg [(25, .bool (decide (x1 > 0))), (35, .bool (decide (y9 ≤ y11)))] (by repeat (first | exact trivial | refine ⟨rfl, ?_⟩)) (fun _ => (op_pick_true rfl (evb (decide_eq_true h4) rfl) rfl)) rfl rfl (getb (decide_eq_false h3) rfl) rfl rfl ?_
                refine RD.q [(22, .bool (decide (y7 > 511))), (36, .bool (decide (y9 ≤ y11)))] (by repeat (first | exact trivial | refine ⟨rfl, ?_⟩)) (fun _ => (op_pick_false rfl (evb (decide_eq_false h3) rfl) rfl)) rfl rfl rfl ?_
                simp only [Option.some.injEq] at H
                subst H
                exact RD.nil (by kernel_rfl) (weak_sel (env' := [(0, .lst false (a0.map (AV.int .i64))), (3, .int .i64 x1), (37, .bool (decide (y9 ≤ y11)))]) ⟨rfl, rfl, rfl, trivial⟩ rfl)
              · rw [if_neg h4] at H
                refine RD.skip rfl rfl (getb (decide_eq_false h4) rfl) rfl rfl rfl ?_
                refine RD.skip rfl rfl (getb (decide_eq_false h4) rfl) rfl rfl rfl ?_
                refine RD.skip rfl rfl (getb (decide_eq_false h4) rfl) rfl rfl rfl ?_
                refine RD.skip rfl rfl (getb (decide_eq_false h4) rfl) rfl rfl rfl ?_
                refine RD.skip rfl rfl (getb (decide_eq_false h4) rfl) rfl rfl rfl ?_
                refine RD.skip rfl rfl (getb (decide_eq_false h4) rfl) rfl rfl rfl ?_
                refine RD.skip rfl rfl (getb (decide_eq_false h4) rfl) rfl rfl rfl ?_
                refine RD.skip rfl rfl (getb (decide_eq_false h4) rfl) rfl rfl rfl ?_
                refine RD.skip rfl rfl (getb (decide_eq_false h4) rfl) rfl rfl rfl ?_
                refine RD.skip rfl rfl (getb (decide_eq_false h4) rfl) rfl rfl rfl ?_
                refine RD.qg [(25, .bool (decide (x1 > 0))), (35, .tup [])] (by repeat (first | exact trivial | refine ⟨rfl, ?_⟩)) (fun _ => (op_pick_false rfl (evb (decide_eq_false h4) rfl) rfl)) rfl rfl (getb (decide_eq_false h3) rfl) rfl rfl ?_
                refine RD.q [(22, .bool (decide (y7 > 511))), (36, .bool false)] (by repeat (first | exact trivial | refine ⟨rfl, ?_⟩)) (fun _ => (op_pick_false rfl (evb (decide_eq_false h3) rfl) rfl)) rfl rfl rfl ?_
                simp only [Option.some.injEq] at H
                subst H
                exact RD.nil (by kernel_rfl) (weak_sel (env' := [(0, .lst false (a0.map (AV.int .i64))), (3, .int .i64 x1), (37, .bool false)]) ⟨rfl, rfl, rfl, trivial⟩ rfl)
        · clear hj13
          refine then_normal ?_
          by_cases h5 : x4 = true
          · rw [if_pos h5] at H
            refine T_yes rfl h5 ?_
            refine T_seq ?_
            refine T_reg ?_
            refine RE.op (op_assign rfl rfl) rfl rfl rfl ?_
            refine RE.nil ⟨⟨[(2, .bool false)], []⟩, weak_sel ⟨rfl, trivial⟩ rfl, ?_⟩
            refine then_normal ?_
            refine T_ret ?_
            simp only [Option.some.injEq] at H
            subst H
            refine block_ret ?_
            refine then_ret ?_
            refine then_ret ?_
            exact ⟨rfl, weak_sel (env' := [(2, .bool false)]) ⟨rfl, trivial⟩ rfl⟩
          · rw [if_neg h5] at H
            refine T_no rfl (Bool.eq_false_iff.mpr h5) ?_
            refine T_skip ?_
            refine block_normal ?_
            refine then_normal ?_
            refine T_reg ?_
            refine RE.op (op_move rfl rfl) rfl rfl rfl ?_
            refine RE.op (op_bin rfl rfl rfl rfl) rfl rfl rfl ?_
            refine RE.op (op_assign rfl rfl) rfl rfl rfl ?_
            refine RE.nil ⟨⟨[(0, .lst false (a0.map (AV.int .i64))), (3, .int .i64 (IntKind.i64.wrap (x1 + 1)))], []⟩, weak_sel ⟨rfl, rfl, trivial⟩ rfl, ?_⟩
            refine then_normal ?_
            exact LoopAt.weak (weak_sel (env' := [(0, .lst false (a0.map (AV.int .i64))), (3, .int .i64 (IntKind.i64.wrap (x1 + 1)))]) ⟨rfl, rfl, trivial⟩ rfl) (IH _ _ H)
      · rw [if_neg h1] at H
        refine T_no rfl (decide_eq_false h1) ?_
        refine T_exit ?_
        simp only [Option.some.injEq] at H
        subst H
        refine then_exit ?_
        refine then_exit ?_
        exact ⟨rfl, weak_sel (env' := []) trivial rfl⟩
    · clear hj3
      rcases o2 with _ | _
      · simp only [Option.some.injEq] at H
        subst H
        refine block_ret ?_
        refine then_ret ?_
        exact ret1 rfl rfl rfl
      · refine block_eq ?_
        refine then_normal ?_
        refine T_seq ?_
        refine T_reg ?_
        refine RE.op (op_assign rfl rfl) rfl rfl rfl ?_
        refine RE.nil ⟨⟨[(2, .bool true)], []⟩, weak_sel ⟨rfl, trivial⟩ rfl, ?_⟩
        refine then_normal ?_
        refine T_ret ?_
        simp only [Option.some.injEq] at H
        subst H
        exact ret1 rfl rfl rfl

/-! ### 33 bandplan/bandplanref32.On -/
def bandplanref32_On.l0 (a0 : (List S_api_Choice)) (a1 : Int) : Nat → Int → Option (Sum (Int) (Unit))
  | 0, _ => none
  | k + 1, x1 => (if x1 < ((a0.map S_api_Choice.enc).length : Int) then (idx a0 x1).bind fun y5 => (if ¬ y5.f_Station = a1 then bandplanref32_On.l0 a0 a1 k (IntKind.i64.wrap (x1 + 1)) else (idx a0 x1).bind fun y7 => (if y7.f_Channel ≤ 6 then some (.inl 1) else (idx a0 x1).bind fun y9 => (if y9.f_Channel ≤ 13 then some (.inl 2) else some (.inl 3)))) else some (.inr ()))
def bandplanref32_On.f (k : Nat) (a0 : (List S_api_Choice)) (a1 : Int) : Option (Int) := ((bandplanref32_On.l0 a0 a1 k 0).bind fun o => match o with | (.inl x2) => some x2 | (.inr _) => some 0)
def bandplanref32_On.S (args : List AV) (v : AV) : Prop := ∃ (k : Nat) (a0 : (List S_api_Choice)) (a1 : Int) (r : Int), args = [.lst false (a0.map S_api_Choice.enc), .int .i64 a1] ∧ bandplanref32_On.f k a0 a1 = some r ∧ v = .int .i64 r
theorem bandplanref32_On.ok : VOk Tryd.prog 33 bandplanref32_On.S := by
  refine V_ok Tryd.func33 rfl fun args v hS => ⟨?_, ?_⟩
  · obtain ⟨k, a0, a1, r, rfl, H, rfl⟩ := hS
    exact Nat.le_of_ble_eq_true rfl
  · obtain ⟨k, a0, a1, r, rfl, H, rfl⟩ := hS
    unfold bandplanref32_On.f at H
    refine T_seq ?_
    refine T_reg ?_
    refine RE.op (op_assign rfl rfl) rfl rfl rfl ?_
    refine RE.nil ⟨⟨[(0, .lst false (a0.map S_api_Choice.enc)), (1, .int .i64 a1)], []⟩, weak_sel ⟨rfl, rfl, trivial⟩ rfl, ?_⟩
    refine then_normal ?_
    refine T_seq ?_
    refine T_seq ?_
    refine T_reg ?_
    refine RE.op (op_assign rfl rfl) rfl rfl rfl ?_
    refine RE.nil ⟨⟨[(0, .lst false (a0.map S_api_Choice.enc)), (1, .int .i64 a1), (5, .int .i64 0)], []⟩, weak_sel ⟨rfl, rfl, rfl, trivial⟩ rfl, ?_⟩
    refine then_normal ?_
    refine T_block ?_
    obtain ⟨o3, hj4, H⟩ := Option.bind_eq_some_iff.1 H
    refine T_loop_out ((fun (x_ : Int) => ⟨[(0, .lst false (a0.map S_api_Choice.enc)), (1, .int .i64 a1), (5, .int .i64 x_)], []⟩) 0) ((fun o => match o with | (.inl _) => .ret | (.inr _) => .exit 0) o3) ((fun o => match o with | (.inl x2) => ⟨[(4, .int .i64 x2)], []⟩ | (.inr ()) => ⟨[], []⟩) o3) (weak_sel (env' := [(0, .lst false (a0.map S_api_Choice.enc)), (1, .int .i64 a1), (5, .int .i64 0)]) ⟨rfl, rfl, rfl, trivial⟩ rfl) ?_ ?_
    · refine T_fix (bandplanref32_On.l0 a0 a1) (fun (x_ : Int) => ⟨[(0, .lst false (a0.map S_api_Choice.enc)), (1, .int .i64 a1), (5, .int .i64 x_)], []⟩) (fun o => match o with | (.inl _) => .ret | (.inr _) => .exit 0) (fun o => match o with | (.inl x2) => ⟨[(4, .int .i64 x2)], []⟩ | (.inr ()) => ⟨[], []⟩) (fun _ => rfl) ?_ _ 0 _ hj4
      clear H hj4
      intro k IH x1 o H
      unfold bandplanref32_On.l0 at H
      (try simp only at H)
      refine T_seq ?_
      refine T_seq ?_
      refine T_reg ?_
      refine RE.op (op_move rfl rfl) rfl rfl rfl ?_
      refine RE.op (op_move rfl rfl) rfl rfl rfl ?_
      refine RE.op (op_len Tryd.underlying24 rfl rfl) rfl rfl rfl ?_
      refine RE.op (op_bin rfl rfl rfl rfl) rfl rfl rfl ?_
      refine RE.nil ⟨⟨[(0, .lst false (a0.map S_api_Choice.enc)), (1, .int .i64 a1), (5, .int .i64 x1), (9, .bool (decide (x1 < ((a0.map S_api_Choice.enc).length : Int))))], []⟩, weak_sel ⟨rfl, rfl, rfl, rfl, trivial⟩ rfl, ?_⟩
      refine then_normal ?_
      by_cases h1 : x1 < ((a0.map S_api_Choice.enc).length : Int)
      · rw [if_pos h1] at H
        refine T_yes rfl (decide_eq_true h1) ?_
        refine T_skip ?_
        refine then_normal ?_
        refine T_seq ?_
        refine T_block ?_
        refine T_seq ?_
        refine T_seq ?_
        refine T_reg ?_
        refine RE.op (op_move rfl rfl) rfl rfl rfl ?_
        refine RE.op (op_move rfl rfl) rfl rfl rfl ?_
        obtain ⟨y5, hy6, H⟩ := Option.bind_eq_some_iff.1 H
        refine RE.op (op_iaddr Tryd.underlying24 ti50 rfl rfl rfl (idx_pos hy6) (idx_map hy6 S_api_Choice.enc) rfl (Nat.le_of_ble_eq_true rfl)) rfl rfl rfl ?_
        refine RE.op (op_faddr_e Tryd.underlying50 rfl ti3 rfl rfl rfl (idx_map hy6 S_api_Choice.enc) (Nat.le_of_ble_eq_true rfl)) rfl rfl rfl ?_
        refine RE.op (op_load_e ti3 rfl rfl rfl (idx_map hy6 S_api_Choice.enc) rfl) rfl rfl rfl ?_
        refine RE.op (op_move rfl rfl) rfl rfl rfl ?_
        refine RE.op (op_bin rfl rfl rfl rfl) rfl rfl rfl ?_
        refine RE.nil ⟨⟨[(0, .lst false (a0.map S_api_Choice.enc)), (1, .int .i64 a1), (5, .int .i64 x1), (18, .bool (y5.f_Station != a1))], []⟩, weak_sel ⟨rfl, rfl, rfl, rfl, trivial⟩ rfl, ?_⟩
        refine then_normal ?_
        by_cases h2 : ¬ y5.f_Station = a1
        · rw [if_pos h2] at H
          refine T_yes rfl (bne_iff_ne.mpr h2) ?_
          refine T_exit ?_
          refine then_exit ?_
          refine block_eq ?_
          refine then_normal ?_
          refine T_reg ?_
          refine RE.op (op_move rfl rfl) rfl rfl rfl ?_
          refine RE.op (op_bin rfl rfl rfl rfl) rfl rfl rfl ?_
          refine RE.op (op_assign rfl rfl) rfl rfl rfl ?_
          refine RE.nil ⟨⟨[(0, .lst false (a0.map S_api_Choice.enc)), (1, .int .i64 a1), (5, .int .i64 (IntKind.i64.wrap (x1 + 1)))], []⟩, weak_sel ⟨rfl, rfl, rfl, trivial⟩ rfl, ?_⟩
          refine then_normal ?_
          exact LoopAt.weak (weak_sel (env' := [(0, .lst false (a0.map S_api_Choice.enc)), (1, .int .i64 a1), (5, .int .i64 (IntKind.i64.wrap (x1 + 1)))]) ⟨rfl, rfl, rfl, trivial⟩ rfl) (IH _ _ H)
        · rw [if_neg h2] at H
          refine T_no rfl (bne_eq_false_iff_eq.mpr (Decidable.of_not_not h2)) ?_
          refine T_skip ?_
          refine then_normal ?_
          refine T_seq ?_
          refine T_seq ?_
          refine T_reg ?_
          refine RE.op (op_move rfl rfl) rfl rfl rfl ?_
          refine RE.op (op_move rfl rfl) rfl rfl rfl ?_
          obtain ⟨y7, hy8, H⟩ := Option.bind_eq_some_iff.1 H
          refine RE.op (op_iaddr Tryd.underlying24 ti50 rfl rfl rfl (idx_pos hy8) (idx_map hy8 S_api_Choice.enc) rfl (Nat.le_of_ble_eq_true rfl)) rfl rfl rfl ?_
          refine RE.op (op_faddr_e Tryd.underlying50 rfl ti3 rfl rfl rfl (idx_map hy8 S_api_Choice.enc) (Nat.le_of_ble_eq_true rfl)) rfl rfl rfl ?_
          refine RE.op (op_load_e ti3 rfl rfl rfl (idx_map hy8 S_api_Choice.enc) rfl) rfl rfl rfl ?_
          refine RE.op (op_bin rfl rfl rfl rfl) rfl rfl rfl ?_
          refine RE.nil ⟨⟨[(0, .lst false (a0.map S_api_Choice.enc)), (5, .int .i64 x1), (24, .bool (decide (y7.f_Channel ≤ 6)))], []⟩, weak_sel ⟨rfl, rfl, rfl, trivial⟩ rfl, ?_⟩
          refine then_normal ?_
          by_cases h3 : y7.f_Channel ≤ 6
          · rw [if_pos h3] at H
            refine T_yes rfl (decide_eq_true h3) ?_
            refine T_seq ?_
            refine T_reg ?_
            refine RE.op (op_assign rfl rfl) rfl rfl rfl ?_
            refine RE.nil ⟨⟨[(4, .int .i64 1)], []⟩, weak_sel ⟨rfl, trivial⟩ rfl, ?_⟩
            refine then_normal ?_
            refine T_ret ?_
            simp only [Option.some.injEq] at H
            subst H
            refine then_ret ?_
            refine block_ret ?_
            refine then_ret ?_
            refine then_ret ?_
            exact ⟨rfl, weak_sel (env' := [(4, .int .i64 1)]) ⟨rfl, trivial⟩ rfl⟩
          · rw [if_neg h3] at H
            refine T_no rfl (decide_eq_false h3) ?_
            refine T_skip ?_
            refine then_normal ?_
            refine T_seq ?_
            refine T_seq ?_
            refine T_reg ?_
            refine RE.op (op_move rfl rfl) rfl rfl rfl ?_
            refine RE.op (op_move rfl rfl) rfl rfl rfl ?_
            obtain ⟨y9, hy10, H⟩ := Option.bind_eq_some_iff.1 H
            refine RE.op (op_iaddr Tryd.underlying24 ti50 rfl rfl rfl (idx_pos hy10) (idx_map hy10 S_api_Choice.enc) rfl (Nat.le_of_ble_eq_true rfl)) rfl rfl rfl ?_
            refine RE.op (op_faddr_e Tryd.underlying50 rfl ti3 rfl rfl rfl (idx_map hy10 S_api_Choice.enc) (Nat.le_of_ble_eq_true rfl)) rfl rfl rfl ?_
            refine RE.op (op_load_e ti3 rfl rfl rfl (idx_map hy10 S_api_Choice.enc) rfl) rfl rfl rfl ?_
            refine RE.op (op_bin rfl rfl rfl rfl) rfl rfl rfl ?_
            refine RE.nil ⟨⟨[(30, .bool (decide (y9.f_Channel ≤ 13)))], []⟩, weak_sel ⟨rfl, trivial⟩ rfl, ?_⟩
            refine then_normal ?_
            by_cases h4 : y9.f_Channel ≤ 13
            · rw [if_pos h4] at H
              refine T_yes rfl (decide_eq_true h4) ?_
              refine T_seq ?_
              refine T_reg ?_
              refine RE.op (op_assign rfl rfl) rfl rfl rfl ?_
              refine RE.nil ⟨⟨[(4, .int .i64 2)], []⟩, weak_sel ⟨rfl, trivial⟩ rfl, ?_⟩
              refine then_normal ?_
              refine T_ret ?_
              simp only [Option.some.injEq] at H
              subst H
              refine then_ret ?_
              refine block_ret ?_
              refine then_ret ?_
              refine then_ret ?_
              exact ⟨rfl, weak_sel (env' := [(4, .int .i64 2)]) ⟨rfl, trivial⟩ rfl⟩
            · rw [if_neg h4] at H
              refine T_no rfl (decide_eq_false h4) ?_
              refine T_skip ?_
              refine then_normal ?_
              refine T_seq ?_
              refine T_reg ?_
              refine RE.op (op_assign rfl rfl) rfl rfl rfl ?_
              refine RE.nil ⟨⟨[(4, .int .i64 3)], []⟩, weak_sel ⟨rfl, trivial⟩ rfl, ?_⟩
              refine then_normal ?_
              refine T_ret ?_
              simp only [Option.some.injEq] at H
              subst H
              refine block_ret ?_
              refine then_ret ?_
              refine then_ret ?_
              exact ⟨rfl, weak_sel (env' := [(4, .int .i64 3)]) ⟨rfl, trivial⟩ rfl⟩
      · rw [if_neg h1] at H
        refine T_no rfl (decide_eq_false h1) ?_
        refine T_exit ?_
        simp only [Option.some.injEq] at H
        subst H
        refine then_exit ?_
        refine then_exit ?_
        exact ⟨rfl, weak_sel (env' := []) trivial rfl⟩
    · clear hj4
      rcases o3 with x2 | _
      · simp only [Option.some.injEq] at H
        subst H
        refine block_ret ?_
        refine then_ret ?_
        exact ret1 rfl rfl rfl
      · refine block_eq ?_
        refine then_normal ?_
        refine T_seq ?_
        refine T_reg ?_
        refine RE.op (op_assign rfl rfl) rfl rfl rfl ?_
        refine RE.nil ⟨⟨[(4, .int .i64 0)], []⟩, weak_sel ⟨rfl, trivial⟩ rfl, ?_⟩
        refine then_normal ?_
        refine T_ret ?_
        simp only [Option.some.injEq] at H
        subst H
        exact ret1 rfl rfl rfl

/-! ### 32 bandplan/bandplanref32.Has -/
def bandplanref32_Has.l0 (a0 : (List Int)) (a1 : Int) : Nat → Int → Option (Sum (Unit) (Unit))
  | 0, _ => none
  | k + 1, x1 => (if x1 < ((a0.map (AV.int .i64)).length : Int) then (idx a0 x1).bind fun y4 => (if y4 = a1 then some (.inl ()) else bandplanref32_Has.l0 a0 a1 k (IntKind.i64.wrap (x1 + 1))) else some (.inr ()))
def bandplanref32_Has.f (k : Nat) (a0 : (List Int)) (a1 : Int) : Option (Bool) := ((bandplanref32_Has.l0 a0 a1 k 0).bind fun o => match o with | (.inl _) => some true | (.inr _) => some false)
def bandplanref32_Has.S (args : List AV) (v : AV) : Prop := ∃ (k : Nat) (a0 : (List Int)) (a1 : Int) (r : Bool), args = [.lst false (a0.map (AV.int .i64)), .int .i64 a1] ∧ bandplanref32_Has.f k a0 a1 = some r ∧ v = .bool r
theorem bandplanref32_Has.ok : VOk Tryd.prog 32 bandplanref32_Has.S := by
  refine V_ok Tryd.func32 rfl fun args v hS => ⟨?_, ?_⟩
  · obtain ⟨k, a0, a1, r, rfl, H, rfl⟩ := hS
    exact Nat.le_of_ble_eq_true rfl
  · obtain ⟨k, a0, a1, r, rfl, H, rfl⟩ := hS
    unfold bandplanref32_Has.f at H
    refine T_seq ?_
    refine T_reg ?_
    refine RE.op (op_assign rfl rfl) rfl rfl rfl ?_
    refine RE.nil ⟨⟨[(0, .lst false (a0.map (AV.int .i64))), (1, .int .i64 a1)], []⟩, weak_sel ⟨rfl, rfl, trivial⟩ rfl, ?_⟩
    refine then_normal ?_
    refine T_seq ?_
    refine T_seq ?_
    refine T_reg ?_
    refine RE.op (op_assign rfl rfl) rfl rfl rfl ?_
    refine RE.nil ⟨⟨[(0, .lst false (a0.map (AV.int .i64))), (1, .int .i64 a1), (5, .int .i64 0)], []⟩, weak_sel ⟨rfl, rfl, rfl, trivial⟩ rfl, ?_⟩
    refine then_normal ?_
    refine T_block ?_
    obtain ⟨o2, hj3, H⟩ := Option.bind_eq_some_iff.1 H
    refine T_loop_out ((fun (x_ : Int) => ⟨[(0, .lst false (a0.map (AV.int .i64))), (1, .int .i64 a1), (5, .int .i64 x_)], []⟩) 0) ((fun o => match o with | (.inl _) => .ret | (.inr _) => .exit 0) o2) ((fun o => match o with | (.inl ()) => ⟨[(4, .bool true)], []⟩ | (.inr ()) => ⟨[], []⟩) o2) (weak_sel (env' := [(0, .lst false (a0.map (AV.int .i64))), (1, .int .i64 a1), (5, .int .i64 0)]) ⟨rfl, rfl, rfl, trivial⟩ rfl) ?_ ?_
    · refine T_fix (bandplanref32_Has.l0 a0 a1) (fun (x_ : Int) => ⟨[(0, .lst false (a0.map (AV.int .i64))), (1, .int .i64 a1), (5, .int .i64 x_)], []⟩) (fun o => match o with | (.inl _) => .ret | (.inr _) => .exit 0) (fun o => match o with | (.inl ()) => ⟨[(4, .bool true)], []⟩ | (.inr ()) => ⟨[], []⟩) (fun _ => rfl) ?_ _ 0 _ hj3
      clear H hj3
      intro k IH x1 o H
      unfold bandplanref32_Has.l0 at H
      (try simp only at H)
      refine T_seq ?_
      refine T_seq ?_
      refine T_reg ?_
      refine RE.op (op_move rfl rfl) rfl rfl rfl ?_
      refine RE.op (op_move rfl rfl) rfl rfl rfl ?_
      refine RE.op (op_len Tryd.underlying23 rfl rfl) rfl rfl rfl ?_
      refine RE.op (op_bin rfl rfl rfl rfl) rfl rfl rfl ?_
      refine RE.nil ⟨⟨[(0, .lst false (a0.map (AV.int .i64))), (1, .int .i64 a1), (5, .int .i64 x1), (9, .bool (decide (x1 < ((a0.map (AV.int .i64)).length : Int))))], []⟩, weak_sel ⟨rfl, rfl, rfl, rfl, trivial⟩ rfl, ?_⟩
      refine then_normal ?_
      by_cases h1 : x1 < ((a0.map (AV.int .i64)).length : Int)
      · rw [if_pos h1] at H
        refine T_yes rfl (decide_eq_true h1) ?_
        refine T_skip ?_
        refine then_normal ?_
        refine T_seq ?_
        refine T_block ?_
        refine T_seq ?_
        refine T_reg ?_
        refine RE.op (op_move rfl rfl) rfl rfl rfl ?_
        refine RE.op (op_move rfl rfl) rfl rfl rfl ?_
        obtain ⟨y4, hy5, H⟩ := Option.bind_eq_some_iff.1 H
        refine RE.op (op_iaddr Tryd.underlying23 ti3 rfl rfl rfl (idx_pos hy5) (idx_map hy5 (AV.int .i64)) rfl (Nat.le_of_ble_eq_true rfl)) rfl rfl rfl ?_
        refine RE.op (op_load_e ti3 rfl rfl rfl (idx_map hy5 (AV.int .i64)) rfl) rfl rfl rfl ?_
        refine RE.op (op_move rfl rfl) rfl rfl rfl ?_
        refine RE.op (op_bin rfl rfl rfl rfl) rfl rfl rfl ?_
        refine RE.nil ⟨⟨[(0, .lst false (a0.map (AV.int .i64))), (1, .int .i64 a1), (5, .int .i64 x1), (17, .bool (y4 == a1))], []⟩, weak_sel ⟨rfl, rfl, rfl, rfl, trivial⟩ rfl, ?_⟩
        refine then_normal ?_
        by_cases h2 : y4 = a1
        · rw [if_pos h2] at H
          refine T_yes rfl (beq_iff_eq.mpr h2) ?_
          refine T_seq ?_
          refine T_reg ?_
          refine RE.op (op_assign rfl rfl) rfl rfl rfl ?_
          refine RE.nil ⟨⟨[(4, .bool true)], []⟩, weak_sel ⟨rfl, trivial⟩ rfl, ?_⟩
          refine then_normal ?_
          refine T_ret ?_
          simp only [Option.some.injEq] at H
          subst H
          refine block_ret ?_
          refine then_ret ?_
          refine then_ret ?_
          exact ⟨rfl, weak_sel (env' := [(4, .bool true)]) ⟨rfl, trivial⟩ rfl⟩
        · rw [if_neg h2] at H
          refine T_no rfl (beq_eq_false_iff_ne.mpr h2) ?_
          refine T_skip ?_
          refine block_normal ?_
          refine then_normal ?_
          refine T_reg ?_
          refine RE.op (op_move rfl rfl) rfl rfl rfl ?_
          refine RE.op (op_bin rfl rfl rfl rfl) rfl rfl rfl ?_
          refine RE.op (op_assign rfl rfl) rfl rfl rfl ?_
          refine RE.nil ⟨⟨[(0, .lst false (a0.map (AV.int .i64))), (1, .int .i64 a1), (5, .int .i64 (IntKind.i64.wrap (x1 + 1)))], []⟩, weak_sel ⟨rfl, rfl, rfl, trivial⟩ rfl, ?_⟩
          refine then_normal ?_
          exact LoopAt.weak (weak_sel (env' := [(0, .lst false (a0.map (AV.int .i64))), (1, .int .i64 a1), (5, .int .i64 (IntKind.i64.wrap (x1 + 1)))]) ⟨rfl, rfl, rfl, trivial⟩ rfl) (IH _ _ H)
      · rw [if_neg h1] at H
        refine T_no rfl (decide_eq_false h1) ?_
        refine T_exit ?_
        simp only [Option.some.injEq] at H
        subst H
        refine then_exit ?_
        refine then_exit ?_
        exact ⟨rfl, weak_sel (env' := []) trivial rfl⟩
    · clear hj3
      rcases o2 with _ | _
      · simp only [Option.some.injEq] at H
        subst H
        refine block_ret ?_
        refine then_ret ?_
        exact ret1 rfl rfl rfl
      · refine block_eq ?_
        refine then_normal ?_
        refine T_seq ?_
        refine T_reg ?_
        refine RE.op (op_assign rfl rfl) rfl rfl rfl ?_
        refine RE.nil ⟨⟨[(4, .bool false)], []⟩, weak_sel ⟨rfl, trivial⟩ rfl, ?_⟩
        refine then_normal ?_
        refine T_ret ?_
        simp only [Option.some.injEq] at H
        subst H
        exact ret1 rfl rfl rfl

/-! ### 25 bandplan/bandplanref32.Winner -/
def bandplanref32_Winner.l0 (a0 : (List S_api_Winner)) (a1 : Int) : Nat → Int → Option (Sum (Int) (Unit))
  | 0, _ => none
  | k + 1, x1 => (if x1 < ((a0.map S_api_Winner.enc).length : Int) then (idx a0 x1).bind fun y5 => (if y5.f_Station = a1 then some (.inl x1) else bandplanref32_Winner.l0 a0 a1 k (IntKind.i64.wrap (x1 + 1))) else some (.inr ()))
def bandplanref32_Winner.f (k : Nat) (a0 : (List S_api_Winner)) (a1 : Int) : Option (Int) := ((bandplanref32_Winner.l0 a0 a1 k 0).bind fun o => match o with | (.inl x2) => some x2 | (.inr _) => some (-1))
def bandplanref32_Winner.S (args : List AV) (v : AV) : Prop := ∃ (k : Nat) (a0 : (List S_api_Winner)) (a1 : Int) (r : Int), args = [.lst false (a0.map S_api_Winner.enc), .int .i64 a1] ∧ bandplanref32_Winner.f k a0 a1 = some r ∧ v = .int .i64 r
theorem bandplanref32_Winner.ok : VOk Tryd.prog 25 bandplanref32_Winner.S := by
  refine V_ok Tryd.func25 rfl fun args v hS => ⟨?_, ?_⟩
  · obtain ⟨k, a0, a1, r, rfl, H, rfl⟩ := hS
    exact Nat.le_of_ble_eq_true rfl
  · obtain ⟨k, a0, a1, r, rfl, H, rfl⟩ := hS
    unfold bandplanref32_Winner.f at H
    refine T_seq ?_
    refine T_reg ?_
    refine RE.op (op_assign rfl rfl) rfl rfl rfl ?_
    refine RE.nil ⟨⟨[(0, .lst false (a0.map S_api_Winner.enc)), (1, .int .i64 a1)], []⟩, weak_sel ⟨rfl, rfl, trivial⟩ rfl, ?_⟩
    refine then_normal ?_
    refine T_seq ?_
    refine T_seq ?_
    refine T_reg ?_
    refine RE.op (op_assign rfl rfl) rfl rfl rfl ?_
    refine RE.nil ⟨⟨[(0, .lst false (a0.map S_api_Winner.enc)), (1, .int .i64 a1), (5, .int .i64 0)], []⟩, weak_sel ⟨rfl, rfl, rfl, trivial⟩ rfl, ?_⟩
    refine then_normal ?_
    refine T_block ?_
    obtain ⟨o3, hj4, H⟩ := Option.bind_eq_some_iff.1 H
    refine T_loop_out ((fun (x_ : Int) => ⟨[(0, .lst false (a0.map S_api_Winner.enc)), (1, .int .i64 a1), (5, .int .i64 x_)], []⟩) 0) ((fun o => match o with | (.inl _) => .ret | (.inr _) => .exit 0) o3) ((fun o => match o with | (.inl x2) => ⟨[(4, .int .i64 x2)], []⟩ | (.inr ()) => ⟨[], []⟩) o3) (weak_sel (env' := [(0, .lst false (a0.map S_api_Winner.enc)), (1, .int .i64 a1), (5, .int .i64 0)]) ⟨rfl, rfl, rfl, trivial⟩ rfl) ?_ ?_
    · refine T_fix (bandplanref32_Winner.l0 a0 a1) (fun (x_ : Int) => ⟨[(0, .lst false (a0.map S_api_Winner.enc)), (1, .int .i64 a1), (5, .int .i64 x_)], []⟩) (fun o => match o with | (.inl _) => .ret | (.inr _) => .exit 0) (fun o => match o with | (.inl x2) => ⟨[(4, .int .i64 x2)], []⟩ | (.inr ()) => ⟨[], []⟩) (fun _ => rfl) ?_ _ 0 _ hj4
      clear H hj4
      intro k IH x1 o H
      unfold bandplanref32_Winner.l0 at H
      (try simp only at H)
      refine T_seq ?_
      refine T_seq ?_
      refine T_reg ?_
      refine RE.op (op_move rfl rfl) rfl rfl rfl ?_
      refine RE.op (op_move rfl rfl) rfl rfl rfl ?_
      refine RE.op (op_len Tryd.underlying22 rfl rfl) rfl rfl rfl ?_
      refine RE.op (op_bin rfl rfl rfl rfl) rfl rfl rfl ?_
      refine RE.nil ⟨⟨[(0, .lst false (a0.map S_api_Winner.enc)), (1, .int .i64 a1), (5, .int .i64 x1), (9, .bool (decide (x1 < ((a0.map S_api_Winner.enc).length : Int))))], []⟩, weak_sel ⟨rfl, rfl, rfl, rfl, trivial⟩ rfl, ?_⟩
      refine then_normal ?_
      by_cases h1 : x1 < ((a0.map S_api_Winner.enc).length : Int)
      · rw [if_pos h1] at H
        refine T_yes rfl (decide_eq_true h1) ?_
        refine T_skip ?_
        refine then_normal ?_
        refine T_seq ?_
        refine T_block ?_
        refine T_seq ?_
        refine T_reg ?_
        refine RE.op (op_move rfl rfl) rfl rfl rfl ?_
        refine RE.op (op_move rfl rfl) rfl rfl rfl ?_
        obtain ⟨y5, hy6, H⟩ := Option.bind_eq_some_iff.1 H
        refine RE.op (op_iaddr Tryd.underlying22 ti48 rfl rfl rfl (idx_pos hy6) (idx_map hy6 S_api_Winner.enc) rfl (Nat.le_of_ble_eq_true rfl)) rfl rfl rfl ?_
        refine RE.op (op_faddr_e Tryd.underlying48 rfl ti3 rfl rfl rfl (idx_map hy6 S_api_Winner.enc) (Nat.le_of_ble_eq_true rfl)) rfl rfl rfl ?_
        refine RE.op (op_load_e ti3 rfl rfl rfl (idx_map hy6 S_api_Winner.enc) rfl) rfl rfl rfl ?_
        refine RE.op (op_move rfl rfl) rfl rfl rfl ?_
        refine RE.op (op_bin rfl rfl rfl rfl) rfl rfl rfl ?_
        refine RE.nil ⟨⟨[(0, .lst false (a0.map S_api_Winner.enc)), (1, .int .i64 a1), (5, .int .i64 x1), (18, .bool (y5.f_Station == a1))], []⟩, weak_sel ⟨rfl, rfl, rfl, rfl, trivial⟩ rfl, ?_⟩
        refine then_normal ?_
        by_cases h2 : y5.f_Station = a1
        · rw [if_pos h2] at H
          refine T_yes rfl (beq_iff_eq.mpr h2) ?_
          refine T_seq ?_
          refine T_reg ?_
          refine RE.op (op_move rfl rfl) rfl rfl rfl ?_
          refine RE.op (op_assign rfl rfl) rfl rfl rfl ?_
          refine RE.nil ⟨⟨[(4, .int .i64 x1)], []⟩, weak_sel ⟨rfl, trivial⟩ rfl, ?_⟩
          refine then_normal ?_
          refine T_ret ?_
          simp only [Option.some.injEq] at H
          subst H
          refine block_ret ?_
          refine then_ret ?_
          refine then_ret ?_
          exact ⟨rfl, weak_sel (env' := [(4, .int .i64 x1)]) ⟨rfl, trivial⟩ rfl⟩
        · rw [if_neg h2] at H
          refine T_no rfl (beq_eq_false_iff_ne.mpr h2) ?_
          refine T_skip ?_
          refine block_normal ?_
          refine then_normal ?_
          refine T_reg ?_
          refine RE.op (op_move rfl rfl) rfl rfl rfl ?_
          refine RE.op (op_bin rfl rfl rfl rfl) rfl rfl rfl ?_
          refine RE.op (op_assign rfl rfl) rfl rfl rfl ?_
          refine RE.nil ⟨⟨[(0, .lst false (a0.map S_api_Winner.enc)), (1, .int .i64 a1), (5, .int .i64 (IntKind.i64.wrap (x1 + 1)))], []⟩, weak_sel ⟨rfl, rfl, rfl, trivial⟩ rfl, ?_⟩
          refine then_normal ?_
          exact LoopAt.weak (weak_sel (env' := [(0, .lst false (a0.map S_api_Winner.enc)), (1, .int .i64 a1), (5, .int .i64 (IntKind.i64.wrap (x1 + 1)))]) ⟨rfl, rfl, rfl, trivial⟩ rfl) (IH _ _ H)
      · rw [if_neg h1] at H
        refine T_no rfl (decide_eq_false h1) ?_
        refine T_exit ?_
        simp only [Option.some.injEq] at H
        subst H
        refine then_exit ?_
        refine then_exit ?_
        exact ⟨rfl, weak_sel (env' := []) trivial rfl⟩
    · clear hj4
      rcases o3 with x2 | _
      · simp only [Option.some.injEq] at H
        subst H
        refine block_ret ?_
        refine then_ret ?_
        exact ret1 rfl rfl rfl
      · refine block_eq ?_
        refine then_normal ?_
        refine T_seq ?_
        refine T_reg ?_
        refine RE.op (op_assign rfl rfl) rfl rfl rfl ?_
        refine RE.nil ⟨⟨[(4, .int .i64 (-1))], []⟩, weak_sel ⟨rfl, trivial⟩ rfl, ?_⟩
        refine then_normal ?_
        refine T_ret ?_
        simp only [Option.some.injEq] at H
        subst H
        exact ret1 rfl rfl rfl

/-! ### 22 bandplan/bandplanref32.Winners -/
def bandplanref32_Winners.l0 (a0 : (List S_api_Winner)) : Nat → Int → Option (Sum (Unit) (Unit))
  | 0, _ => none
  | k + 1, x1 => (if x1 < ((a0.map S_api_Winner.enc).length : Int) then ((idx a0 x1).bind fun y5 => (if y5.f_Station < 0 then some true else (idx a0 x1).bind fun y7 => (if y7.f_Station > 511 then some true else (idx a0 x1).bind fun y9 => (if y9.f_Option < 0 then some true else (idx a0 x1).bind fun y11 => (if y11.f_Option > 2 then some true else (idx a0 x1).bind fun y13 => (if y13.f_Payment < 0 then some true else (idx a0 x1).bind fun y15 => (if y15.f_Payment > 1000000000 then some true else (if x1 > 0 then (idx a0 x1).bind fun y17 => (idx a0 (IntKind.i64.wrap (x1 - 1))).bind fun y19 => some (decide (y17.f_Station ≤ y19.f_Station)) else some false)))))))).bind fun x4 => (if x4 = true then some (.inl ()) else bandplanref32_Winners.l0 a0 k (IntKind.i64.wrap (x1 + 1))) else some (.inr ()))
def bandplanref32_Winners.f (k : Nat) (a0 : (List S_api_Winner)) : Option (Bool) := ((bandplanref32_Winners.l0 a0 k 0).bind fun o => match o with | (.inl _) => some false | (.inr _) => some true)
def bandplanref32_Winners.S (args : List AV) (v : AV) : Prop := ∃ (k : Nat) (a0 : (List S_api_Winner)) (r : Bool), args = [.lst false (a0.map S_api_Winner.enc)] ∧ bandplanref32_Winners.f k a0 = some r ∧ v = .bool r
theorem bandplanref32_Winners.ok : VOk Tryd.prog 22 bandplanref32_Winners.S := by
  refine V_ok Tryd.func22 rfl fun args v hS => ⟨?_, ?_⟩
  · obtain ⟨k, a0, r, rfl, H, rfl⟩ := hS
    exact Nat.le_of_ble_eq_true rfl
  · obtain ⟨k, a0, r, rfl, H, rfl⟩ := hS
    unfold bandplanref32_Winners.f at H
    refine T_seq ?_
    refine T_reg ?_
    refine RE.op (op_assign rfl rfl) rfl rfl rfl ?_
    refine RE.nil ⟨⟨[(0, .lst false (a0.map S_api_Winner.enc))], []⟩, weak_sel ⟨rfl, trivial⟩ rfl, ?_⟩
    refine then_normal ?_
    refine T_seq ?_
    refine T_seq ?_
    refine T_reg ?_
    refine RE.op (op_assign rfl rfl) rfl rfl rfl ?_
    refine RE.nil ⟨⟨[(0, .lst false (a0.map S_api_Winner.enc)), (3, .int .i64 0)], []⟩, weak_sel ⟨rfl, rfl, trivial⟩ rfl, ?_⟩
    refine then_normal ?_
    refine T_block ?_
    obtain ⟨o2, hj3, H⟩ := Option.bind_eq_some_iff.1 H
    refine T_loop_out ((fun (x_ : Int) => ⟨[(0, .lst false (a0.map S_api_Winner.enc)), (3, .int .i64 x_)], []⟩) 0) ((fun o => match o with | (.inl _) => .ret | (.inr _) => .exit 0) o2) ((fun o => match o with | (.inl ()) => ⟨[(2, .bool false)], []⟩ | (.inr ()) => ⟨[], []⟩) o2) (weak_sel (env' := [(0, .lst false (a0.map S_api_Winner.enc)), (3, .int .i64 0)]) ⟨rfl, rfl, trivial⟩ rfl) ?_ ?_
    · refine T_fix (bandplanref32_Winners.l0 a0) (fun (x_ : Int) => ⟨[(0, .lst false (a0.map S_api_Winner.enc)), (3, .int .i64 x_)], []⟩) (fun o => match o with | (.inl _) => .ret | (.inr _) => .exit 0) (fun o => match o with | (.inl ()) => ⟨[(2, .bool false)], []⟩ | (.inr ()) => ⟨[], []⟩) (fun _ => rfl) ?_ _ 0 _ hj3
      clear H hj3
      intro k IH x1 o H
      unfold bandplanref32_Winners.l0 at H
      (try simp only at H)
      refine T_seq ?_
      refine T_seq ?_
      refine T_reg ?_
      refine RE.op (op_move rfl rfl) rfl rfl rfl ?_
      refine RE.op (op_move rfl rfl) rfl rfl rfl ?_
      refine RE.op (op_len Tryd.underlying22 rfl rfl) rfl rfl rfl ?_
      refine RE.op (op_bin rfl rfl rfl rfl) rfl rfl rfl ?_
      refine RE.nil ⟨⟨[(0, .lst false (a0.map S_api_Winner.enc)), (3, .int .i64 x1), (7, .bool (decide (x1 < ((a0.map S_api_Winner.enc).length : Int))))], []⟩, weak_sel ⟨rfl, rfl, rfl, trivial⟩ rfl, ?_⟩
      refine then_normal ?_
      by_cases h1 : x1 < ((a0.map S_api_Winner.enc).length : Int)
      · rw [if_pos h1] at H
        refine T_yes rfl (decide_eq_true h1) ?_
        refine T_skip ?_
        refine then_normal ?_
        refine T_seq ?_
        refine T_block ?_
        refine T_seq ?_
        obtain ⟨x4, hj21, H⟩ := Option.bind_eq_some_iff.1 H
        refine T_drawn_out mix [0, 0, 3, 7, 15, 31, 63, 127, 127, 511, 1023, 2047, 4095, 8191, 16383, 32767, 32767, 131071, 262143, 524287, 1048575, 2097151, 4194303, 8388607, 8388607, 33554431, 67108863, 134217727, 268435455, 536870911, 1073741823, 2147483647, 2147483647, 8589934591, 17179869183, 34359738367, 68719476735, 137438953471, 274877906943, 549755813887, 549755813887, 2199023255551, 4398046511103, 8796093022207, 17592186044415, 35184372088831, 70368744177663, 140737488355327, 281474976710655, 562949953421311, 1125899906842623, 1125899906842623, 4503599627370495, 9007199254740991, 18014398509481983, 1125899906842623, 1125899906842623, 73183493944770559, 253327479039590399, 541557855191302143, 1118018607494725631, 2305843009213693951, 4611686018427387903, 9223372036854775807] (by kernel_rfl) ⟨[(0, .lst false (a0.map S_api_Winner.enc)), (3, .int .i64 x1), (73, .bool x4)], []⟩ ?_ ?_
        · clear H
          have H := hj21
          clear hj21
          refine RD.q [(0, .lst false (a0.map S_api_Winner.enc))] (by repeat (first | exact trivial | refine ⟨rfl, ?_⟩)) (fun _ => (op_move rfl rfl)) rfl rfl rfl ?_
          refine RD.q [(3, .int .i64 x1)] (by repeat (first | exact trivial | refine ⟨rfl, ?_⟩)) (fun _ => (op_move rfl rfl)) rfl rfl rfl ?_
          obtain ⟨y5, hy6, H⟩ := Option.bind_eq_some_iff.1 H
          refine RD.q [(10, .lst false (a0.map S_api_Winner.enc)), (11, .int .i64 x1)] (by repeat (first | exact trivial | refine ⟨rfl, ?_⟩)) (fun _ => (op_iaddr Tryd.underlying22 ti48 rfl rfl rfl (idx_pos hy6) (idx_map hy6 S_api_Winner.enc) rfl (Nat.le_of_ble_eq_true rfl))) rfl rfl rfl ?_
          refine RD.q [(12, .eptr (a0.map S_api_Winner.enc) x1.toNat 0)] (by repeat (first | exact trivial | refine ⟨rfl, ?_⟩)) (fun _ => (op_faddr_e Tryd.underlying48 rfl ti3 rfl rfl rfl (idx_map hy6 S_api_Winner.enc) (Nat.le_of_ble_eq_true rfl))) rfl rfl rfl ?_
          refine RD.q [(13, .eptr (a0.map S_api_Winner.enc) x1.toNat 0)] (by repeat (first | exact trivial | refine ⟨rfl, ?_⟩)) (fun _ => (op_load_e ti3 rfl rfl rfl (idx_map hy6 S_api_Winner.enc) rfl)) rfl rfl rfl ?_
          refine RD.q [(14, .int .i64 y5.f_Station)] (by repeat (first | exact trivial | refine ⟨rfl, ?_⟩)) (fun _ => (op_bin rfl rfl rfl rfl)) rfl rfl rfl ?_
          refine RD.q [(15, .bool (decide (y5.f_Station < 0)))] (by repeat (first | exact trivial | refine ⟨rfl, ?_⟩)) (fun _ => (op_move rfl rfl)) rfl rfl rfl ?_
          by_cases h2 : y5.f_Station < 0
          · rw [if_pos h2] at H
            refine RD.skip rfl rfl (getb (decide_eq_true h2) rfl) rfl rfl rfl ?_
            refine RD.skip rfl rfl (getb (decide_eq_true h2) rfl) rfl rfl rfl ?_
            refine RD.skip rfl rfl (getb (decide_eq_true h2) rfl) rfl rfl rfl ?_
            refine RD.skip rfl rfl (getb (decide_eq_true h2) rfl) rfl rfl rfl ?_
            refine RD.skip rfl rfl (getb (decide_eq_true h2) rfl) rfl rfl rfl ?_
            refine RD.skip rfl rfl (getb (decide_eq_true h2) rfl) rfl rfl rfl ?_
            refine RD.q [(16, .bool (decide (y5.f_Station < 0))), (22, .tup [])] (by repeat (first | exact trivial | refine ⟨rfl, ?_⟩)) (fun _ => (op_pick_true rfl (evb (decide_eq_true h2) rfl) rfl)) rfl rfl rfl ?_
            refine RD.q [(23, .bool true)] (by repeat (first | exact trivial | refine ⟨rfl, ?_⟩)) (fun _ => (op_move rfl rfl)) rfl rfl rfl ?_
            refine RD.skip rfl rfl rfl rfl rfl rfl ?_
            refine RD.skip rfl rfl rfl rfl rfl rfl ?_
            refine RD.skip rfl rfl rfl rfl rfl rfl ?_
            refine RD.skip rfl rfl rfl rfl rfl rfl ?_
            refine RD.skip rfl rfl rfl rfl rfl rfl ?_
            refine RD.skip rfl rfl rfl rfl rfl rfl ?_
            refine RD.q [(24, .bool true), (30, .tup [])] (by repeat (first | exact trivial | refine ⟨rfl, ?_⟩)) (fun _ => (op_pick_true rfl rfl rfl)) rfl rfl rfl ?_
            refine RD.q [(31, .bool true)] (by repeat (first | exact trivial | refine ⟨rfl, ?_⟩)) (fun _ => (op_move rfl rfl)) rfl rfl rfl ?_
            refine RD.skip rfl rfl rfl rfl rfl rfl ?_
            refine RD.skip rfl rfl rfl rfl rfl rfl ?_
            refine RD.skip rfl rfl rfl rfl rfl rfl ?_
            refine RD.skip rfl rfl rfl rfl rfl rfl ?_
            refine RD.skip rfl rfl rfl rfl rfl rfl ?_
            refine RD.skip rfl rfl rfl rfl rfl rfl ?_
            refine RD.q [(32, .bool true), (38, .tup [])] (by repeat (first | exact trivial | refine ⟨rfl, ?_⟩)) (fun _ => (op_pick_true rfl rfl rfl)) rfl rfl rfl ?_
            refine RD.q [(39, .bool true)] (by repeat (first | exact trivial | refine ⟨rfl, ?_⟩)) (fun _ => (op_move rfl rfl)) rfl rfl rfl ?_
            refine RD.skip rfl rfl rfl rfl rfl rfl ?_
            refine RD.skip rfl rfl rfl rfl rfl rfl ?_
            refine RD.skip rfl rfl rfl rfl rfl rfl ?_
            refine RD.skip rfl rfl rfl rfl rfl rfl ?_
            refine RD.skip rfl rfl rfl rfl rfl rfl ?_
            refine RD.skip rfl rfl rfl rfl rfl rfl ?_
            refine RD.q [(40, .bool true), (46, .tup [])] (by repeat (first | exact trivial | refine ⟨rfl, ?_⟩)) (fun _ => (op_pick_true rfl rfl rfl)) rfl rfl rfl ?_
            refine RD.q [(47, .bool true)] (by repeat (first | exact trivial | refine ⟨rfl, ?_⟩)) (fun _ => (op_move rfl rfl)) rfl rfl rfl ?_
            refine RD.skip rfl rfl rfl rfl rfl rfl ?_
            refine RD.skip rfl rfl rfl rfl rfl rfl ?_
            refine RD.skip rfl rfl rfl rfl rfl rfl ?_
            refine RD.skip rfl rfl rfl rfl rfl rfl ?_
            refine RD.skip rfl rfl rfl rfl rfl rfl ?_
            refine RD.skip rfl rfl rfl rfl rfl rfl ?_
            refine RD.q [(48, .bool true), (54, .tup [])] (by repeat (first | exact trivial | refine ⟨rfl, ?_⟩)) (fun _ => (op_pick_true rfl rfl rfl)) rfl rfl rfl ?_
            refine RD.q [(55, .bool true)] (by repeat (first | exact trivial | refine ⟨rfl, ?_⟩)) (fun _ => (op_move rfl rfl)) rfl rfl rfl ?_
            refine RD.skip rfl rfl rfl rfl rfl rfl ?_
            refine RD.skip rfl rfl rfl rfl rfl rfl ?_
            refine RD.skip rfl rfl rfl rfl rfl rfl ?_
            refine RD.skipu rfl rfl rfl rfl rfl ?_
            refine RD.skipu rfl rfl rfl rfl rfl ?_
            refine RD.skipu rfl rfl rfl rfl rfl ?_
            refine RD.skipu rfl rfl rfl rfl rfl ?_
            refine RD.skipu rfl rfl rfl rfl rfl ?_
            refine RD.skipu rfl rfl rfl rfl rfl ?_
            refine RD.skipu rfl rfl rfl rfl rfl ?_
            refine RD.skipu rfl rfl rfl rfl rfl ?_
            refine RD.skipu rfl rfl rfl rfl rfl ?_
            refine RD.skipu rfl rfl rfl rfl rfl ?_
            refine RD.skipu rfl rfl rfl rfl rfl ?_
            refine RD.skipu rfl rfl rfl rfl rfl ?_
            refine RD.skip rfl rfl rfl rfl rfl rfl ?_
            refine RD.q [(56, .bool true), (72, .tup [])] (by repeat (first | exact trivial | refine ⟨rfl, ?_⟩)) (fun _ => (op_pick_true rfl rfl rfl)) rfl rfl rfl ?_
            simp only [Option.some.injEq] at H
            subst H
            exact RD.nil (by kernel_rfl) (weak_sel (env' := [(0, .lst false (a0.map S_api_Winner.enc)), (3, .int .i64 x1), (73, .bool true)]) ⟨rfl, rfl, rfl, trivial⟩ rfl)
          · rw [if_neg h2] at H
            refine RD.qg [(0, .lst false (a0.map S_api_Winner.enc))] (by repeat (first | exact trivial | refine ⟨rfl, ?_⟩)) (fun _ => (op_move rfl rfl)) rfl rfl (getb (decide_eq_false h2) rfl) rfl rfl ?_
            refine RD.qg [(3, .int .i64 x1)] (by repeat (first | exact trivial | refine ⟨rfl, ?_⟩)) (fun _ => (op_move rfl rfl)) rfl rfl (getb (decide_eq_false h2) rfl) rfl rfl ?_
            obtain ⟨y7, hy8, H⟩ := Option.bind_eq_some_iff.1 H
            refine RD.qg [(17, .lst false (a0.map S_api_Winner.enc)), (18, .int .i64 x1)] (by repeat (first | exact trivial | refine ⟨rfl, ?_⟩)) (fun _ => (op_iaddr Tryd.underlying22 ti48 rfl rfl rfl (idx_pos hy8) (idx_map hy8 S_api_Winner.enc) rfl (Nat.le_of_ble_eq_true rfl))) rfl rfl (getb (decide_eq_false h2) rfl) rfl rfl ?_
            refine RD.qg [(19, .eptr (a0.map S_api_Winner.enc) x1.toNat 0)] (by repeat (first | exact trivial | refine ⟨rfl, ?_⟩)) (fun _ => (op_faddr_e Tryd.underlying48 rfl ti3 rfl rfl rfl (idx_map hy8 S_api_Winner.enc) (Nat.le_of_ble_eq_true rfl))) rfl rfl (getb (decide_eq_false h2) rfl) rfl rfl ?_
            refine RD.qg [(20, .eptr (a0.map S_api_Winner.enc) x1.toNat 0)] (by repeat (first | exact trivial | refine ⟨rfl, ?_⟩)) (fun _ => (op_load_e ti3 rfl rfl rfl (idx_map hy8 S_api_Winner.enc) rfl)) rfl rfl (getb (decide_eq_false h2) rfl) rfl rfl ?_
            refine RD.qg [(21, .int .i64 y7.f_Station)] (by repeat (first | exact trivial | refine ⟨rfl, ?_⟩)) (fun _ => (op_bin rfl rfl rfl rfl)) rfl rfl (getb (decide_eq_false h2) rfl) rfl rfl ?_
            refine RD.q [(16, .bool (decide (y5.f_Station < 0))), (22, .bool (decide (y7.f_Station > 511)))] (by repeat (first | exact trivial | refine ⟨rfl, ?_⟩)) (fun _ => (op_pick_false rfl (evb (decide_eq_false h2) rfl) rfl)) rfl rfl rfl ?_
            refine RD.q [(23, .bool (decide (y7.f_Station > 511)))] (by repeat (first | exact trivial | refine ⟨rfl, ?_⟩)) (fun _ => (op_move rfl rfl)) rfl rfl rfl ?_
            by_cases h3 : y7.f_Station > 511
            · rw [if_pos h3] at H
              refine RD.skip rfl rfl (getb (decide_eq_true h3) rfl) rfl rfl rfl ?_
              refine RD.skip rfl rfl (getb (decide_eq_true h3) rfl) rfl rfl rfl ?_
              refine RD.skip rfl rfl (getb (decide_eq_true h3) rfl) rfl rfl rfl ?_
              refine RD.skip rfl rfl (getb (decide_eq_true h3) rfl) rfl rfl rfl ?_
              refine RD.skip rfl rfl (getb (decide_eq_true h3) rfl) rfl rfl rfl ?_
              refine RD.skip rfl rfl (getb (decide_eq_true h3) rfl) rfl rfl rfl ?_
              refine RD.q [(24, .bool (decide (y7.f_Station > 511))), (30, .tup [])] (by repeat (first | exact trivial | refine ⟨rfl, ?_⟩)) (fun _ => (op_pick_true rfl (evb (decide_eq_true h3) rfl) rfl)) rfl rfl rfl ?_
              refine RD.q [(31, .bool true)] (by repeat (first | exact trivial | refine ⟨rfl, ?_⟩)) (fun _ => (op_move rfl rfl)) rfl rfl rfl ?_
              refine RD.skip rfl rfl rfl rfl rfl rfl ?_
              refine RD.skip rfl rfl rfl rfl rfl rfl ?_
              refine RD.skip rfl rfl rfl rfl rfl rfl ?_
              refine RD.skip rfl rfl rfl rfl rfl rfl ?_
              refine RD.skip rfl rfl rfl rfl rfl rfl ?_
              refine RD.skip rfl rfl rfl rfl rfl rfl ?_
              refine RD.q [(32, .bool true), (38, .tup [])] (by repeat (first | exact trivial | refine ⟨rfl, ?_⟩)) (fun _ => (op_pick_true rfl rfl rfl)) rfl rfl rfl ?_
              refine RD.q [(39, .bool true)] (by repeat (first | exact trivial | refine ⟨rfl, ?_⟩)) (fun _ => (op_move rfl rfl)) rfl rfl rfl ?_
              refine RD.skip rfl rfl rfl rfl rfl rfl ?_
              refine RD.skip rfl rfl rfl rfl rfl rfl ?_
              refine RD.skip rfl rfl rfl rfl rfl rfl ?_
              refine RD.skip rfl rfl rfl rfl rfl rfl ?_
              refine RD.skip rfl rfl rfl rfl rfl rfl ?_
              refine RD.skip rfl rfl rfl rfl rfl rfl ?_
              refine RD.q [(40, .bool true), (46, .tup [])] (by repeat (first | exact trivial | refine ⟨rfl, ?_⟩)) (fun _ => (op_pick_true rfl rfl rfl)) rfl rfl rfl ?_
              refine RD.q [(47, .bool true)] (by repeat (first | exact trivial | refine ⟨rfl, ?_⟩)) (fun _ => (op_move rfl rfl)) rfl rfl rfl ?_
              refine RD.skip rfl rfl rfl rfl rfl rfl ?_
              refine RD.skip rfl rfl rfl rfl rfl rfl ?_
              refine RD.skip rfl rfl rfl rfl rfl rfl ?_
              refine RD.skip rfl rfl rfl rfl rfl rfl ?_
              refine RD.skip rfl rfl rfl rfl rfl rfl ?_
              refine RD.skip rfl rfl rfl rfl rfl rfl ?_
              refine RD.q [(48, .bool true), (54, .tup [])] (by repeat (first | exact trivial | refine ⟨rfl, ?_⟩)) (fun _ => (op_pick_true rfl rfl rfl)) rfl rfl rfl ?_
              refine RD.q [(55, .bool true)] (by repeat (first | exact trivial | refine ⟨rfl, ?_⟩)) (fun _ => (op_move rfl rfl)) rfl rfl rfl ?_
              refine RD.skip rfl rfl rfl rfl rfl rfl ?_
              refine RD.skip rfl rfl rfl rfl rfl rfl ?_
              refine RD.skip rfl rfl rfl rfl rfl rfl ?_
              refine RD.skipu rfl rfl rfl rfl rfl ?_
              refine RD.skipu rfl rfl rfl rfl rfl ?_
              refine RD.skipu rfl rfl rfl rfl rfl ?_
              refine RD.skipu rfl rfl rfl rfl rfl ?_
              refine RD.skipu rfl rfl rfl rfl rfl ?_
              refine RD.skipu rfl rfl rfl rfl rfl ?_
              refine RD.skipu rfl rfl rfl rfl rfl ?_
              refine RD.skipu rfl rfl rfl rfl rfl ?_
              refine RD.skipu rfl rfl rfl rfl rfl ?_
              refine RD.skipu rfl rfl rfl rfl rfl ?_
              refine RD.skipu rfl rfl rfl rfl rfl ?_
              refine RD.skipu rfl rfl rfl rfl rfl ?_
              refine RD.skip rfl rfl rfl rfl rfl rfl ?_
              refine RD.q [(56, .bool true), (72, .tup [])] (by repeat (first | exact trivial | refine ⟨rfl, ?_⟩)) (fun _ => (op_pick_true rfl rfl rfl)) rfl rfl rfl ?_
              simp only [Option.some.injEq] at H
              subst H
              exact RD.nil (by kernel_rfl) (weak_sel (env' := [(0, .lst false (a0.map S_api_Winner.enc)), (3, .int .i64 x1), (73, .bool true)]) ⟨rfl, rfl, rfl, trivial⟩ rfl)
            · rw [if_neg h3] at H
              refine RD.qg [(0, .lst false (a0.map S_api_Winner.enc))] (by repeat (first | exact trivial | refine ⟨rfl, ?_⟩)) (fun _ => (op_move rfl rfl)) rfl rfl (getb (decide_eq_false h3) rfl) rfl rfl ?_
              refine RD.qg [(3, .int .i64 x1)] (by repeat (first | exact trivial | refine ⟨rfl, ?_⟩)) (fun _ => (op_move rfl rfl)) rfl rfl (getb (decide_eq_false h3) rfl) rfl rfl ?_
              obtain ⟨y9, hy10, H⟩ := Option.bind_eq_some_iff.1 H
              refine RD.qg [(25, .lst false (a0.map S_api_Winner.enc)), (26, .int .i64 x1)] (by repeat (first | exact trivial | refine ⟨rfl, ?_⟩)) (fun _ => (op_iaddr Tryd.underlying22 ti48 rfl rfl rfl (idx_pos hy10) (idx_map hy10 S_api_Winner.enc) rfl (Nat.le_of_ble_eq_true rfl))) rfl rfl (getb (decide_eq_false h3) rfl) rfl rfl ?_
              refine RD.qg [(27, .eptr (a0.map S_api_Winner.enc) x1.toNat 0)] (by repeat (first | exact trivial | refine ⟨rfl, ?_⟩)) (fun _ => (op_faddr_e Tryd.underlying48 rfl ti3 rfl rfl rfl (idx_map hy10 S_api_Winner.enc) (Nat.le_of_ble_eq_true rfl))) rfl rfl (getb (decide_eq_false h3) rfl) rfl rfl ?_
              refine RD.qg [(28, .eptr (a0.map S_api_Winner.enc) x1.toNat 1)] (by repeat (first | exact trivial | refine ⟨rfl, ?_⟩)) (fun _ => (op_load_e ti3 rfl rfl rfl (idx_map hy10 S_api_Winner.enc) rfl)) rfl rfl (getb (decide_eq_false h3) rfl) rfl rfl ?_
              refine RD.qg [(29, .int .i64 y9.f_Option)] (by repeat (first | exact trivial | refine ⟨rfl, ?_⟩)) (fun _ => (op_bin rfl rfl rfl rfl)) rfl rfl (getb (decide_eq_false h3) rfl) rfl rfl ?_
              refine RD.q [(24, .bool (decide (y7.f_Station > 511))), (30, .bool (decide (y9.f_Option < 0)))] (by repeat (first | exact trivial | refine ⟨rfl, ?_⟩)) (fun _ => (op_pick_false rfl (evb (decide_eq_false h3) rfl) rfl)) rfl rfl rfl ?_
              refine RD.q [(31, .bool (decide (y9.f_Option < 0)))] (by repeat (first | exact trivial | refine ⟨rfl, ?_⟩)) (fun _ => (op_move rfl rfl)) rfl rfl rfl ?_
              by_cases h4 : y9.f_Option < 0
              · rw [if_pos h4] at H
                refine RD.skip rfl rfl (getb (decide_eq_true h4) rfl) rfl rfl rfl ?_
                refine RD.skip rfl rfl (getb (decide_eq_true h4) rfl) rfl rfl rfl ?_
                refine RD.skip rfl rfl (getb (decide_eq_true h4) rfl) rfl rfl rfl ?_
                refine RD.skip rfl rfl (getb (decide_eq_true h4) rfl) rfl rfl rfl ?_
                refine RD.skip rfl rfl (getb (decide_eq_true h4) rfl) rfl rfl rfl ?_
                refine RD.skip rfl rfl (getb (decide_eq_true h4) rfl) rfl rfl rfl ?_
                refine RD.q [(32, .bool (decide (y9.f_Option < 0))), (38, .tup [])] (by repeat (first | exact trivial | refine ⟨rfl, ?_⟩)) (fun _ => (op_pick_true rfl (evb (decide_eq_true h4) rfl) rfl)) rfl rfl rfl ?_
                refine RD.q [(39, .bool true)] (by repeat (first | exact trivial | refine ⟨rfl, ?_⟩)) (fun _ => (op_move rfl rfl)) rfl rfl rfl ?_
                refine RD.skip rfl rfl rfl rfl rfl rfl ?_
                refine RD.skip rfl rfl rfl rfl rfl rfl ?_
                refine RD.skip rfl rfl rfl rfl rfl rfl ?_
                refine RD.skip rfl rfl rfl rfl rfl rfl ?_
                refine RD.skip rfl rfl rfl rfl rfl rfl ?_
                refine RD.skip rfl rfl rfl rfl rfl rfl ?_
                refine RD.q [(40, .bool true), (46, .tup [])] (by repeat (first | exact trivial | refine ⟨rfl, ?_⟩)) (fun _ => (op_pick_true rfl rfl rfl)) rfl rfl rfl ?_
                refine RD.q [(47, .bool true)] (by repeat (first | exact trivial | refine ⟨rfl, ?_⟩)) (fun _ => (op_move rfl rfl)) rfl rfl rfl ?_
                refine RD.skip rfl rfl rfl rfl rfl rfl ?_
                refine RD.skip rfl rfl rfl rfl rfl rfl ?_
                refine RD.skip rfl rfl rfl rfl rfl rfl ?_
                refine RD.skip rfl rfl rfl rfl rfl rfl ?_
                refine RD.skip rfl rfl rfl rfl rfl rfl ?_
                refine RD.skip rfl rfl rfl rfl rfl rfl ?_
                refine RD.q [(48, .bool true), (54, .tup [])] (by repeat (first | exact trivial | refine ⟨rfl, ?_⟩)) (fun _ => (op_pick_true rfl rfl rfl)) rfl rfl rfl ?_
                refine RD.q [(55, .bool true)] (by repeat (first | exact trivial | refine ⟨rfl, ?_⟩)) (fun _ => (op_move rfl rfl)) rfl rfl rfl ?_
                refine RD.skip rfl rfl rfl rfl rfl rfl ?_
                refine RD.skip rfl rfl rfl rfl rfl rfl ?_
                refine RD.skip rfl rfl rfl rfl rfl rfl ?_
                refine RD.skipu rfl rfl rfl rfl rfl ?_
                refine RD.skipu rfl rfl rfl rfl rfl ?_
                refine RD.skipu rfl rfl rfl rfl rfl ?_
                refine RD.skipu rfl rfl rfl rfl rfl ?_
                refine RD.skipu rfl rfl rfl rfl rfl ?_
                refine RD.skipu rfl rfl rfl rfl rfl ?_
                refine RD.skipu rfl rfl rfl rfl rfl ?_
                refine RD.skipu rfl rfl rfl rfl rfl ?_
                refine RD.skipu rfl rfl rfl rfl rfl ?_
                refine RD.skipu rfl rfl rfl rfl rfl ?_
                refine RD.skipu rfl rfl rfl rfl rfl ?_
                refine RD.skipu rfl rfl rfl rfl rfl ?_
                refine RD.skip rfl rfl rfl rfl rfl rfl ?_
                refine RD.q [(56, .bool true), (72, .tup [])] (by repeat (first | exact trivial | refine ⟨rfl, ?_⟩)) (fun _ => (op_pick_true rfl rfl rfl)) rfl rfl rfl ?_
                simp only [Option.some.injEq] at H
                subst H
                exact RD.nil (by kernel_rfl) (weak_sel (env' := [(0, .lst false (a0.map S_api_Winner.enc)), (3, .int .i64 x1), (73, .bool true)]) ⟨rfl, rfl, rfl, trivial⟩ rfl)
              · rw [if_neg h4] at H
                refine RD.qg [(0, .lst false (a0.map S_api_Winner.enc))] (by repeat (first | exact trivial | refine ⟨rfl, ?_⟩)) (fun _ => (op_move rfl rfl)) rfl rfl (getb (decide_eq_false h4) rfl) rfl rfl ?_
                refine RD.qg [(3, .int .i64 x1)] (by repeat (first | exact trivial | refine ⟨rfl, ?_⟩)) (fun _ => (op_move rfl rfl)) rfl rfl (getb (decide_eq_false h4) rfl) rfl rfl ?_
                obtain ⟨y11, hy12, H⟩ := Option.bind_eq_some_iff.1 H
                refine RD.qg [(33, .lst false (a0.map S_api_Winner.enc)), (34, .int .i64 x1)] (by repeat (first | exact trivial | refine ⟨rfl, ?_⟩)) (fun _ => (op_iaddr Tryd.underlying22 ti48 rfl rfl rfl (idx_pos hy12) (idx_map hy12 S_api_Winner.enc) rfl (Nat.le_of_ble_eq_true rfl))) rfl rfl (getb (decide_eq_false h4) rfl) rfl rfl ?_
                refine RD.qg [(35, .eptr (a0.map S_api_Winner.enc) x1.toNat 0)] (by repeat (first | exact trivial | refine ⟨rfl, ?_⟩)) (fun _ => (op_faddr_e Tryd.underlying48 rfl ti3 rfl rfl rfl (idx_map hy12 S_api_Winner.enc) (Nat.le_of_ble_eq_true rfl))) rfl rfl (getb (decide_eq_false h4) rfl) rfl rfl ?_
                refine RD.qg [(36, .eptr (a0.map S_api_Winner.enc) x1.toNat 1)] (by repeat (first | exact trivial | refine ⟨rfl, ?_⟩)) (fun _ => (op_load_e ti3 rfl rfl rfl (idx_map hy12 S_api_Winner.enc) rfl)) rfl rfl (getb (decide_eq_false h4) rfl) rfl rfl ?_
                refine RD.qg [(37, .int .i64 y11.f_Option)] (by repeat (first | exact trivial | refine ⟨rfl, ?_⟩)) (fun _ => (op_bin rfl rfl rfl rfl)) rfl rfl (getb (decide_eq_false h4) rfl) rfl rfl ?_
                refine RD.q [(32, .bool (decide (y9.f_Option < 0))), (38, .bool (decide (y11.f_Option > 2)))] (by repeat (first | exact trivial | refine ⟨rfl, ?_⟩)) (fun _ => (op_pick_false rfl (evb (decide_eq_false h4) rfl) rfl)) rfl rfl rfl ?_
                refine RD.q [(39, .bool (decide (y11.f_Option > 2)))] (by repeat (first | exact trivial | refine ⟨rfl, ?_⟩)) (fun _ => (op_move rfl rfl)) rfl rfl rfl ?_
                by_cases h5 : y11.f_Option > 2
                · rw [if_pos h5] at H
                  refine RD.skip rfl rfl (getb (decide_eq_true h5) rfl) rfl rfl rfl ?_
                  refine RD.skip rfl rfl (getb (decide_eq_true h5) rfl) rfl rfl rfl ?_
                  refine RD.skip rfl rfl (getb (decide_eq_true h5) rfl) rfl rfl rfl ?_
                  refine RD.skip rfl rfl (getb (decide_eq_true h5) rfl) rfl rfl rfl ?_
                  refine RD.skip rfl rfl (getb (decide_eq_true h5) rfl) rfl rfl rfl ?_
                  refine RD.skip rfl rfl (getb (decide_eq_true h5) rfl) rfl rfl rfl ?_
                  refine RD.q [(40, .bool (decide (y11.f_Option > 2))), (46, .tup [])] (by repeat (first | exact trivial | refine ⟨rfl, ?_⟩)) (fun _ => (op_pick_true rfl (evb (decide_eq_true h5) rfl) rfl)) rfl rfl rfl ?_
                  refine RD.q [(47, .bool true)] (by repeat (first | exact trivial | refine ⟨rfl, ?_⟩)) (fun _ => (op_move rfl rfl)) rfl rfl rfl ?_
                  refine RD.skip rfl rfl rfl rfl rfl rfl ?_
                  refine RD.skip rfl rfl rfl rfl rfl rfl ?_
                  refine RD.skip rfl rfl rfl rfl rfl rfl ?_
                  refine RD.skip rfl rfl rfl rfl rfl rfl ?_
                  refine RD.skip rfl rfl rfl rfl rfl rfl ?_
                  refine RD.skip rfl rfl rfl rfl rfl rfl ?_
                  refine RD.q [(48, .bool true), (54, .tup [])] (by repeat (first | exact trivial | refine ⟨rfl, ?_⟩)) (fun _ => (op_pick_true rfl rfl rfl)) rfl rfl rfl ?_
                  refine RD.q [(55, .bool true)] (by repeat (first | exact trivial | refine ⟨rfl, ?_⟩)) (fun _ => (op_move rfl rfl)) rfl rfl rfl ?_
                  refine RD.skip rfl rfl rfl rfl rfl rfl ?_
                  refine RD.skip rfl rfl rfl rfl rfl rfl ?_
                  refine RD.skip rfl rfl rfl rfl rfl rfl ?_
                  refine RD.skipu rfl rfl rfl rfl rfl ?_
                  refine RD.skipu rfl rfl rfl rfl rfl ?_
                  refine RD.skipu rfl rfl rfl rfl rfl ?_
                  refine RD.skipu rfl rfl rfl rfl rfl ?_
                  refine RD.skipu rfl rfl rfl rfl rfl ?_
                  refine RD.skipu rfl rfl rfl rfl rfl ?_
                  refine RD.skipu rfl rfl rfl rfl rfl ?_
                  refine RD.skipu rfl rfl rfl rfl rfl ?_
                  refine RD.skipu rfl rfl rfl rfl rfl ?_
                  refine RD.skipu rfl rfl rfl rfl rfl ?_
                  refine RD.skipu rfl rfl rfl rfl rfl ?_
                  refine RD.skipu rfl rfl rfl rfl rfl ?_
                  refine RD.skip rfl rfl rfl rfl rfl rfl ?_
                  refine RD.q [(56, .bool true), (72, .tup [])] (by repeat (first | exact trivial | refine ⟨rfl, ?_⟩)) (fun _ => (op_pick_true rfl rfl rfl)) rfl rfl rfl ?_
                  simp only [Option.some.injEq] at H
                  subst H
                  exact RD.nil (by kernel_rfl) (weak_sel (env' := [(0, .lst false (a0.map S_api_Winner.enc)), (3, .int .i64 x1), (73, .bool true)]) ⟨rfl, rfl, rfl, trivial⟩ rfl)
                · rw [if_neg h5] at H
                  refine RD.qg [(0, .lst false (a0.map S_api_Winner.enc))] (by repeat (first | exact trivial | refine ⟨rfl, ?_⟩)) (fun _ => (op_move rfl rfl)) rfl rfl (getb (decide_eq_false h5) rfl) rfl rfl ?_
                  refine RD.qg [(3, .int .i64 x1)] (by repeat (first | exact trivial | refine ⟨rfl, ?_⟩)) (fun _ => (op_move rfl rfl)) rfl rfl (getb (decide_eq_false h5) rfl) rfl rfl ?_
                  obtain ⟨y13, hy14, H⟩ := Option.bind_eq_some_iff.1 H
                  refine RD.qg [(41, .lst false (a0.map S_api_Winner.enc)), (42, .int .i64 x1)] (by repeat (first | exact trivial | refine ⟨rfl, ?_⟩)) (fun _ => (op_iaddr Tryd.underlying22 ti48 rfl rfl rfl (idx_pos hy14) (idx_map hy14 S_api_Winner.enc) rfl (Nat.le_of_ble_eq_true rfl))) rfl rfl (getb (decide_eq_false h5) rfl) rfl rfl ?_
                  refine RD.qg [(43, .eptr (a0.map S_api_Winner.enc) x1.toNat 0)] (by repeat (first | exact trivial | refine ⟨rfl, ?_⟩)) (fun _ => (op_faddr_e Tryd.underlying48 rfl ti3 rfl rfl rfl (idx_map hy14 S_api_Winner.enc) (Nat.le_of_ble_eq_true rfl))) rfl rfl (getb (decide_eq_false h5) rfl) rfl rfl ?_
                  refine RD.qg [(44, .eptr (a0.map S_api_Winner.enc) x1.toNat 2)] (by repeat (first | exact trivial | refine ⟨rfl, ?_⟩)) (fun _ => (op_load_e ti3 rfl rfl rfl (idx_map hy14 S_api_Winner.enc) rfl)) rfl rfl (getb (decide_eq_false h5) rfl) rfl rfl ?_
                  refine RD.qg [(45, .int .i64 y13.f_Payment)] (by repeat (first | exact trivial | refine ⟨rfl, ?_⟩)) (fun _ => (op_bin rfl rfl rfl rfl)) rfl rfl (getb (decide_eq_false h5) rfl) rfl rfl ?_
                  refine RD.q [(40, .bool (decide (y11.f_Option > 2))), (46, .bool (decide (y13.f_Payment < 0)))] (by repeat (first | exact trivial | refine ⟨rfl, ?_⟩)) (fun _ => (op_pick_false rfl (evb (decide_eq_false h5) rfl) rfl)) rfl rfl rfl ?_
                  refine RD.q [(47, .bool (decide (y13.f_Payment < 0)))] (by repeat (first | exact trivial | refine ⟨rfl, ?_⟩)) (fun _ => (op_move rfl rfl)) rfl rfl rfl ?_
                  by_cases h6 : y13.f_Payment < 0
                  · rw [if_pos h6] at H
                    refine RD.skip rfl rfl (getb (decide_eq_true h6) rfl) rfl rfl rfl ?_
                    refine RD.skip rfl rfl (getb (decide_eq_true h6) rfl) rfl rfl rfl ?_
                    refine RD.skip rfl rfl (getb (decide_eq_true h6) rfl) rfl rfl rfl ?_
                    refine RD.skip rfl rfl (getb (decide_eq_true h6) rfl) rfl rfl rfl ?_
                    refine RD.skip rfl rfl (getb (decide_eq_true h6) rfl) rfl rfl rfl ?_
                    refine RD.skip rfl rfl (getb (decide_eq_true h6) rfl) rfl rfl rfl ?_
                    refine RD.q [(48, .bool (decide (y13.f_Payment < 0))), (54, .tup [])] (by repeat (first | exact trivial | refine ⟨rfl, ?_⟩)) (fun _ => (op_pick_true rfl (evb (decide_eq_true h6) rfl) rfl)) rfl rfl rfl ?_
                    refine RD.q [(55, .bool true)] (by repeat (first | exact trivial | refine ⟨rfl, ?_⟩)) (fun _ => (op_move rfl rfl)) rfl rfl rfl ?_
                    refine RD.skip rfl rfl rfl rfl rfl rfl ?_
                    refine RD.skip rfl rfl rfl rfl rfl rfl ?_
                    refine RD.skip rfl rfl rfl rfl rfl rfl ?_
                    refine RD.skipu rfl rfl rfl rfl rfl ?_
                    refine RD.skipu rfl rfl rfl rfl rfl ?_
                    refine RD.skipu rfl rfl rfl rfl rfl ?_
                    refine RD.skipu rfl rfl rfl rfl rfl ?_
                    refine RD.skipu rfl rfl rfl rfl rfl ?_
                    refine RD.skipu rfl rfl rfl rfl rfl ?_
                    refine RD.skipu rfl rfl rfl rfl rfl ?_
                    refine RD.skipu rfl rfl rfl rfl rfl ?_
                    refine RD.skipu rfl rfl rfl rfl rfl ?_
                    refine RD.skipu rfl rfl rfl rfl rfl ?_
                    refine RD.skipu rfl rfl rfl rfl rfl ?_
                    refine RD.skipu rfl rfl rfl rfl rfl ?_
                    refine RD.skip rfl rfl rfl rfl rfl rfl ?_
                    refine RD.q [(56, .bool true), (72, .tup [])] (by repeat (first | exact trivial | refine ⟨rfl, ?_⟩)) (fun _ => (op_pick_true rfl rfl rfl)) rfl rfl rfl ?_
                    simp only [Option.some.injEq] at H
                    subst H
                    exact RD.nil (by kernel_rfl) (weak_sel (env' := [(0, .lst false (a0.map S_api_Winner.enc)), (3, .int .i64 x1), (73, .bool true)]) ⟨rfl, rfl, rfl, trivial⟩ rfl)
                  · rw [if_neg h6] at H
                    refine RD.qg [(0, .lst false (a0.map S_api_Winner.enc))] (by repeat (first | exact trivial | refine ⟨rfl, ?_⟩)) (fun _ => (op_move rfl rfl)) rfl rfl (getb (decide_eq_false h6) rfl) rfl rfl ?_
                    refine RD.qg [(3, .int .i64 x1)] (by repeat (first | exact trivial | refine ⟨rfl, ?_⟩)) (fun _ => (op_move rfl rfl)) rfl rfl (getb (decide_eq_false h6) rfl) rfl rfl ?_
                    obtain ⟨y15, hy16, H⟩ := Option.bind_eq_some_iff.1 H
                    refine RD.qg [(49, .lst false (a0.map S_api_Winner.enc)), (50, .int .i64 x1)] (by repeat (first | exact trivial | refine ⟨rfl, ?_⟩)) (fun _ => (op_iaddr Tryd.underlying22 ti48 rfl rfl rfl (idx_pos hy16) (idx_map hy16 S_api_Winner.enc) rfl (Nat.le_of_ble_eq_true rfl))) rfl rfl (getb (decide_eq_false h6) rfl) rfl rfl ?_
                    refine RD.qg [(51, .eptr (a0.map S_api_Winner.enc) x1.toNat 0)] (by repeat (first | exact trivial | refine ⟨rfl, ?_⟩)) (fun _ => (op_faddr_e Tryd.underlying48 rfl ti3 rfl rfl rfl (idx_map hy16 S_api_Winner.enc) (Nat.le_of_ble_eq_true rfl))) rfl rfl (getb (decide_eq_false h6) rfl) rfl rfl ?_
                    refine RD.qg [(52, .eptr (a0.map S_api_Winner.enc) x1.toNat 2)] (by repeat (first | exact trivial | refine ⟨rfl, ?_⟩)) (fun _ => (op_load_e ti3 rfl rfl rfl (idx_map hy16 S_api_Winner.enc) rfl)) rfl rfl (getb (decide_eq_false h6) rfl) rfl rfl ?_
                    refine RD.qg [(53, .int .i64 y15.f_Payment)] (by repeat (first | exact trivial | refine ⟨rfl, ?_⟩)) (fun _ => (op_bin rfl rfl rfl rfl)) rfl rfl (getb (decide_eq_false h6) rfl) rfl rfl ?_
                    refine RD.q [(48, .bool (decide (y13.f_Payment < 0))), (54, .bool (decide (y15.f_Payment > 1000000000)))] (by repeat (first | exact trivial | refine ⟨rfl, ?_⟩)) (fun _ => (op_pick_false rfl (evb (decide_eq_false h6) rfl) rfl)) rfl rfl rfl ?_
                    refine RD.q [(55, .bool (decide (y15.f_Payment > 1000000000)))] (by repeat (first | exact trivial | refine ⟨rfl, ?_⟩)) (fun _ => (op_move rfl rfl)) rfl rfl rfl ?_
                    by_cases h7 : y15.f_Payment > 1000000000
                    · rw [if_pos h7] at H
                      refine RD.skip rfl rfl (getb (decide_eq_true h7) rfl) rfl rfl rfl ?_
                      refine RD.skip rfl rfl (getb (decide_eq_true h7) rfl) rfl rfl rfl ?_
                      refine RD.skip rfl rfl (getb (decide_eq_true h7) rfl) rfl rfl rfl ?_
                      refine RD.skipu rfl rfl rfl rfl rfl ?_
                      refine RD.skipu rfl rfl rfl rfl rfl ?_
                      refine RD.skipu rfl rfl rfl rfl rfl ?_
                      refine RD.skipu rfl rfl rfl rfl rfl ?_
                      refine RD.skipu rfl rfl rfl rfl rfl ?_
                      refine RD.skipu rfl rfl rfl rfl rfl ?_
                      refine RD.skipu rfl rfl rfl rfl rfl ?_
                      refine RD.skipu rfl rfl rfl rfl rfl ?_
                      refine RD.skipu rfl rfl rfl rfl rfl ?_
                      refine RD.skipu rfl rfl rfl rfl rfl ?_
                      refine RD.skipu rfl rfl rfl rfl rfl ?_
                      refine RD.skipu rfl rfl rfl rfl rfl ?_
                      refine RD.skip rfl rfl (getb (decide_eq_true h7) rfl) rfl rfl rfl ?_
                      refine RD.q [(56, .bool (decide (y15.f_Payment > 1000000000))), (72, .tup [])] (by repeat (first | exact trivial | refine ⟨rfl, ?_⟩)) (fun _ => (op_pick_true rfl (evb (decide_eq_true h7) rfl) rfl)) rfl rfl rfl ?_
                      simp only [Option.some.injEq] at H
                      subst H
                      exact RD.nil (by kernel_rfl) (weak_sel (env' := [(0, .lst false (a0.map S_api_Winner.enc)), (3, .int .i64 x1), (73, .bool true)]) ⟨rfl, rfl, rfl, trivial⟩ rfl)
                    · rw [if_neg h7] at H
                      refine RD.qg [(3, .int .i64 x1)] (by repeat (first | exact trivial | refine ⟨rfl, ?_⟩)) (fun _ => (op_move rfl rfl)) rfl rfl (getb (decide_eq_false h7) rfl) rfl rfl ?_
                      refine RD.qg [(57, .int .i64 x1)] (by repeat (first | exact trivial | refine ⟨rfl, ?_⟩)) (fun _ => (op_bin rfl rfl rfl rfl)) rfl rfl (getb (decide_eq_false h7) rfl) rfl rfl ?_
                      refine RD.qg [(58, .bool (decide (x1 > 0)))] (by repeat (first | exact trivial | refine ⟨rfl, ?_⟩)) (fun _ => (op_move rfl rfl)) rfl rfl (getb (decide_eq_false h7) rfl) rfl rfl ?_
                      by_cases h8 : x1 > 0
                      · rw [if_pos h8] at H
                        refine RD.qg [(0, .lst false (a0.map S_api_Winner.enc))] (by repeat (first | exact trivial | refine ⟨rfl, ?_⟩)) (fun _ => (op_move rfl rfl)) rfl rfl (getb (decide_eq_true h8) rfl) rfl rfl ?_
                        refine RD.qg [(3, .int .i64 x1)] (by repeat (first | exact trivial | refine ⟨rfl, ?_⟩)) (fun _ => (op_move rfl rfl)) rfl rfl (getb (decide_eq_true h8) rfl) rfl rfl ?_
                        obtain ⟨y17, hy18, H⟩ := Option.bind_eq_some_iff.1 H
                        refine RD.qg [(60, .lst false (a0.map S_api_Winner.enc)), (61, .int .i64 x1)] (by repeat (first | exact trivial | refine ⟨rfl, ?_⟩)) (fun _ => (op_iaddr Tryd.underlying22 ti48 rfl rfl rfl (idx_pos hy18) (idx_map hy18 S_api_Winner.enc) rfl (Nat.le_of_ble_eq_true rfl))) rfl rfl (getb (decide_eq_true h8) rfl) rfl rfl ?_
                        refine RD.qg [(62, .eptr (a0.map S_api_Winner.enc) x1.toNat 0)] (by repeat (first | exact trivial | refine ⟨rfl, ?_⟩)) (fun _ => (op_faddr_e Tryd.underlying48 rfl ti3 rfl rfl rfl (idx_map hy18 S_api_Winner.enc) (Nat.le_of_ble_eq_true rfl))) rfl rfl (getb (decide_eq_true h8) rfl) rfl rfl ?_
                        refine RD.qg [(63, .eptr (a0.map S_api_Winner.enc) x1.toNat 0)] (by repeat (first | exact trivial | refine ⟨rfl, ?_⟩)) (fun _ => (op_load_e ti3 rfl rfl rfl (idx_map hy18 S_api_Winner.enc) rfl)) rfl rfl (getb (decide_eq_true h8) rfl) rfl rfl ?_
                        refine RD.qg [(0, .lst false (a0.map S_api_Winner.enc))] (by repeat (first | exact trivial | refine ⟨rfl, ?_⟩)) (fun _ => (op_move rfl rfl)) rfl rfl (getb (decide_eq_true h8) rfl) rfl rfl ?_
                        refine RD.qg [(3, .int .i64 x1)] (by repeat (first | exact trivial | refine ⟨rfl, ?_⟩)) (fun _ => (op_move rfl rfl)) rfl rfl (getb (decide_eq_true h8) rfl) rfl rfl ?_
                        refine RD.qg [(66, .int .i64 x1)] (by repeat (first | exact trivial | refine ⟨rfl, ?_⟩)) (fun _ => (op_bin rfl rfl rfl rfl)) rfl rfl (getb (decide_eq_true h8) rfl) rfl rfl ?_
                        obtain ⟨y19, hy20, H⟩ := Option.bind_eq_some_iff.1 H
                        refine RD.qg [(65, .lst false (a0.map S_api_Winner.enc)), (67, .int .i64 (IntKind.i64.wrap (x1 - 1)))] (by repeat (first | exact trivial | refine ⟨rfl, ?_⟩)) (fun _ => (op_iaddr Tryd.underlying22 ti48 rfl rfl rfl (idx_pos hy20) (idx_map hy20 S_api_Winner.enc) rfl (Nat.le_of_ble_eq_true rfl))) rfl rfl (getb (decide_eq_true h8) rfl) rfl rfl ?_
                        refine RD.qg [(68, .eptr (a0.map S_api_Winner.enc) ((IntKind.i64.wrap (x1 - 1)).toNat) 0)] (by repeat (first | exact trivial | refine ⟨rfl, ?_⟩)) (fun _ => (op_faddr_e Tryd.underlying48 rfl ti3 rfl rfl rfl (idx_map hy20 S_api_Winner.enc) (Nat.le_of_ble_eq_true rfl))) rfl rfl (getb (decide_eq_true h8) rfl) rfl rfl ?_
                        refine RD.qg [(69, .eptr (a0.map S_api_Winner.enc) ((IntKind.i64.wrap (x1 - 1)).toNat) 0)] (by repeat (first | exact trivial | refine ⟨rfl, ?_⟩)) (fun _ => (op_load_e ti3 rfl rfl rfl (idx_map hy20 S_api_Winner.enc) rfl)) rfl rfl (getb (decide_eq_true h8) rfl) rfl rfl ?_
                        refine RD.qg [(64, .int .i64 y17.f_Station), (70, .int .i64 y19.f_Station)] (by repeat (first | exact trivial | refine ⟨rfl, ?_⟩)) (fun _ => (op_bin rfl rfl rfl rfl)) rfl rfl (getb (decide_eq_true h8) rfl) rfl rfl ?_
                        refine RD.qg [(59, .bool (decide (x1 > 0))), (71, .bool (decide (y17.f_Station ≤ y19.f_Station)))] (by repeat (first | exact trivial | refine ⟨rfl, ?_⟩)) (fun _ => (op_pick_true rfl (evb (decide_eq_true h8) rfl) rfl)) rfl rfl (getb (decide_eq_false h7) rfl) rfl rfl ?_
                        refine RD.q [(56, .bool (decide (y15.f_Payment > 1000000000))), (72, .bool (decide (y17.f_Station ≤ y19.f_Station)))] (by repeat (first | exact trivial | refine ⟨rfl, ?_⟩)) (fun _ => (op_pick_false rfl (evb (decide_eq_false h7) rfl) rfl)) rfl rfl rfl ?_
                        simp only [Option.some.injEq] at H
                        subst H
                        exact RD.nil (by kernel_rfl) (weak_sel (env' := [(0, .lst false (a0.map S_api_Winner.enc)), (3, .int .i64 x1), (73, .bool (decide (y17.f_Station ≤ y19.f_Station)))]) ⟨rfl, rfl, rfl, trivial⟩ rfl)
                      · rw [if_neg h8] at H
                        refine RD.skip rfl rfl (getb (decide_eq_false h8) rfl) rfl rfl rfl ?_
                        refine RD.skip rfl rfl (getb (decide_eq_false h8) rfl) rfl rfl rfl ?_
                        refine RD.skip rfl rfl (getb (decide_eq_false h8) rfl) rfl rfl rfl ?_
                        refine RD.skip rfl rfl (getb (decide_eq_false h8) rfl) rfl rfl rfl ?_
                        refine RD.skip rfl rfl (getb (decide_eq_false h8) rfl) rfl rfl rfl ?_
                        refine RD.skip rfl rfl (getb (decide_eq_false h8) rfl) rfl rfl rfl ?_
                        refine RD.skip rfl rfl (getb (decide_eq_false h8) rfl) rfl rfl rfl ?_
                        refine RD.skip rfl rfl (getb (decide_eq_false h8) rfl) rfl rfl rfl ?_
                        refine RD.skip rfl rfl (getb (decide_eq_false h8) rfl) rfl rfl rfl ?_
                        refine RD.skip rfl rfl (getb (decide_eq_false h8) rfl) rfl rfl rfl ?_
                        refine RD.skip rfl rfl (getb (decide_eq_false h8) rfl) rfl rfl rfl ?_
                        refine RD.skip rfl rfl (getb (decide_eq_false h8) rfl) rfl rfl rfl ?_
                        refine RD.qg [(59, .bool (decide (x1 > 0))), (71, .tup [])] (by repeat (first | exact trivial | refine ⟨rfl, ?_⟩)) (fun _ => (op_pick_false rfl (evb (decide_eq_false h8) rfl) rfl)) rfl rfl (getb (decide_eq_false h7) rfl) rfl rfl ?_
                        refine RD.q [(56, .bool (decide (y15.f_Payment > 1000000000))), (72, .bool false)] (by repeat (first | exact trivial | refine ⟨rfl, ?_⟩)) (fun _ => (op_pick_false rfl (evb (decide_eq_false h7) rfl) rfl)) rfl rfl rfl ?_
                        simp only [Option.some.injEq] at H
                        subst H
                        exact RD.nil (by kernel_rfl) (weak_sel (env' := [(0, .lst false (a0.map S_api_Winner.enc)), (3, .int .i64 x1), (73, .bool false)]) ⟨rfl, rfl, rfl, trivial⟩ rfl)
        · clear hj21
          refine then_normal ?_
          by_cases h9 : x4 = true
          · rw [if_pos h9] at H
            refine T_yes rfl h9 ?_
            refine T_seq ?_
            refine T_reg ?_
            refine RE.op (op_assign rfl rfl) rfl rfl rfl ?_
            refine RE.nil ⟨⟨[(2, .bool false)], []⟩, weak_sel ⟨rfl, trivial⟩ rfl, ?_⟩
            refine then_normal ?_
            refine T_ret ?_
            simp only [Option.some.injEq] at H
            subst H
            refine block_ret ?_
            refine then_ret ?_
            refine then_ret ?_
            exact ⟨rfl, weak_sel (env' := [(2, .bool false)]) ⟨rfl, trivial⟩ rfl⟩
          · rw [if_neg h9] at H
            refine T_no rfl (Bool.eq_false_iff.mpr h9) ?_
            refine T_skip ?_
            refine block_normal ?_
            refine then_normal ?_
            refine T_reg ?_
            refine RE.op (op_move rfl rfl) rfl rfl rfl ?_
            refine RE.op (op_bin rfl rfl rfl rfl) rfl rfl rfl ?_
            refine RE.op (op_assign rfl rfl) rfl rfl rfl ?_
            refine RE.nil ⟨⟨[(0, .lst false (a0.map S_api_Winner.enc)), (3, .int .i64 (IntKind.i64.wrap (x1 + 1)))], []⟩, weak_sel ⟨rfl, rfl, trivial⟩ rfl, ?_⟩
            refine then_normal ?_
            exact LoopAt.weak (weak_sel (env' := [(0, .lst false (a0.map S_api_Winner.enc)), (3, .int .i64 (IntKind.i64.wrap (x1 + 1)))]) ⟨rfl, rfl, trivial⟩ rfl) (IH _ _ H)
      · rw [if_neg h1] at H
        refine T_no rfl (decide_eq_false h1) ?_
        refine T_exit ?_
        simp only [Option.some.injEq] at H
        subst H
        refine then_exit ?_
        refine then_exit ?_
        exact ⟨rfl, weak_sel (env' := []) trivial rfl⟩
    · clear hj3
      rcases o2 with _ | _
      · simp only [Option.some.injEq] at H
        subst H
        refine block_ret ?_
        refine then_ret ?_
        exact ret1 rfl rfl rfl
      · refine block_eq ?_
        refine then_normal ?_
        refine T_seq ?_
        refine T_reg ?_
        refine RE.op (op_assign rfl rfl) rfl rfl rfl ?_
        refine RE.nil ⟨⟨[(2, .bool true)], []⟩, weak_sel ⟨rfl, trivial⟩ rfl, ?_⟩
        refine then_normal ?_
        refine T_ret ?_
        simp only [Option.some.injEq] at H
        subst H
        exact ret1 rfl rfl rfl

/-! ### 23 bandplan/bandplanref32.Sum -/
def bandplanref32_Sum.l0 (a0 : (List S_api_Winner)) : Nat → (Int × Int) → Option (Int)
  | 0, _ => none
  | k + 1, (x1, x2) => (if x2 < ((a0.map S_api_Winner.enc).length : Int) then (idx a0 x2).bind fun y6 => bandplanref32_Sum.l0 a0 k (IntKind.i64.wrap (x1 + y6.f_Payment), IntKind.i64.wrap (x2 + 1)) else some x1)
def bandplanref32_Sum.f (k : Nat) (a0 : (List S_api_Winner)) : Option (Int) := (bandplanref32_Sum.l0 a0 k (0, 0)).bind fun x3 => some x3
def bandplanref32_Sum.S (args : List AV) (v : AV) : Prop := ∃ (k : Nat) (a0 : (List S_api_Winner)) (r : Int), args = [.lst false (a0.map S_api_Winner.enc)] ∧ bandplanref32_Sum.f k a0 = some r ∧ v = .int .i64 r
theorem bandplanref32_Sum.ok : VOk Tryd.prog 23 bandplanref32_Sum.S := by
  refine V_ok Tryd.func23 rfl fun args v hS => ⟨?_, ?_⟩
  · obtain ⟨k, a0, r, rfl, H, rfl⟩ := hS
    exact Nat.le_of_ble_eq_true rfl
  · obtain ⟨k, a0, r, rfl, H, rfl⟩ := hS
    unfold bandplanref32_Sum.f at H
    refine T_seq ?_
    refine T_reg ?_
    refine RE.op (op_assign rfl rfl) rfl rfl rfl ?_
    refine RE.nil ⟨⟨[(0, .lst false (a0.map S_api_Winner.enc))], []⟩, weak_sel ⟨rfl, trivial⟩ rfl, ?_⟩
    refine then_normal ?_
    refine T_seq ?_
    refine T_reg ?_
    refine RE.op (op_assign rfl rfl) rfl rfl rfl ?_
    refine RE.nil ⟨⟨[(0, .lst false (a0.map S_api_Winner.enc)), (3, .int .i64 0)], []⟩, weak_sel ⟨rfl, rfl, trivial⟩ rfl, ?_⟩
    refine then_normal ?_
    refine T_seq ?_
    refine T_seq ?_
    refine T_reg ?_
    refine RE.op (op_assign rfl rfl) rfl rfl rfl ?_
    refine RE.nil ⟨⟨[(0, .lst false (a0.map S_api_Winner.enc)), (3, .int .i64 0), (4, .int .i64 0)], []⟩, weak_sel ⟨rfl, rfl, rfl, trivial⟩ rfl, ?_⟩
    refine then_normal ?_
    refine T_block ?_
    obtain ⟨x3, hj5, H⟩ := Option.bind_eq_some_iff.1 H
    refine T_loop_out ((fun (x_ : Int × Int) => ⟨[(0, .lst false (a0.map S_api_Winner.enc)), (3, .int .i64 x_.1), (4, .int .i64 x_.2)], []⟩) (0, 0)) ((fun _ => .exit 0) x3) ((fun (x_ : (Int)) => ⟨[(3, .int .i64 x_)], []⟩) x3) (weak_sel (env' := [(0, .lst false (a0.map S_api_Winner.enc)), (3, .int .i64 0), (4, .int .i64 0)]) ⟨rfl, rfl, rfl, trivial⟩ rfl) ?_ ?_
    · refine T_fix (bandplanref32_Sum.l0 a0) (fun (x_ : Int × Int) => ⟨[(0, .lst false (a0.map S_api_Winner.enc)), (3, .int .i64 x_.1), (4, .int .i64 x_.2)], []⟩) (fun _ => .exit 0) (fun (x_ : (Int)) => ⟨[(3, .int .i64 x_)], []⟩) (fun _ => rfl) ?_ _ (0, 0) _ hj5
      clear H hj5
      intro k IH x_ o H
      obtain ⟨x1, x2⟩ := x_
      unfold bandplanref32_Sum.l0 at H
      (try simp only at H)
      refine T_seq ?_
      refine T_seq ?_
      refine T_reg ?_
      refine RE.op (op_move rfl rfl) rfl rfl rfl ?_
      refine RE.op (op_move rfl rfl) rfl rfl rfl ?_
      refine RE.op (op_len Tryd.underlying22 rfl rfl) rfl rfl rfl ?_
      refine RE.op (op_bin rfl rfl rfl rfl) rfl rfl rfl ?_
      refine RE.nil ⟨⟨[(0, .lst false (a0.map S_api_Winner.enc)), (3, .int .i64 x1), (4, .int .i64 x2), (8, .bool (decide (x2 < ((a0.map S_api_Winner.enc).length : Int))))], []⟩, weak_sel ⟨rfl, rfl, rfl, rfl, trivial⟩ rfl, ?_⟩
      refine then_normal ?_
      by_cases h1 : x2 < ((a0.map S_api_Winner.enc).length : Int)
      · rw [if_pos h1] at H
        refine T_yes rfl (decide_eq_true h1) ?_
        refine T_skip ?_
        refine then_normal ?_
        refine T_seq ?_
        refine T_block ?_
        refine T_reg ?_
        refine RE.op (op_move rfl rfl) rfl rfl rfl ?_
        refine RE.op (op_move rfl rfl) rfl rfl rfl ?_
        refine RE.op (op_move rfl rfl) rfl rfl rfl ?_
        obtain ⟨y6, hy7, H⟩ := Option.bind_eq_some_iff.1 H
        refine RE.op (op_iaddr Tryd.underlying22 ti48 rfl rfl rfl (idx_pos hy7) (idx_map hy7 S_api_Winner.enc) rfl (Nat.le_of_ble_eq_true rfl)) rfl rfl rfl ?_
        refine RE.op (op_faddr_e Tryd.underlying48 rfl ti3 rfl rfl rfl (idx_map hy7 S_api_Winner.enc) (Nat.le_of_ble_eq_true rfl)) rfl rfl rfl ?_
        refine RE.op (op_load_e ti3 rfl rfl rfl (idx_map hy7 S_api_Winner.enc) rfl) rfl rfl rfl ?_
        refine RE.op (op_bin rfl rfl rfl rfl) rfl rfl rfl ?_
        refine RE.op (op_assign rfl rfl) rfl rfl rfl ?_
        refine RE.nil ⟨⟨[(0, .lst false (a0.map S_api_Winner.enc)), (3, .int .i64 (IntKind.i64.wrap (x1 + y6.f_Payment))), (4, .int .i64 x2)], []⟩, weak_sel ⟨rfl, rfl, rfl, trivial⟩ rfl, ?_⟩
        refine block_normal ?_
        refine then_normal ?_
        refine T_reg ?_
        refine RE.op (op_move rfl rfl) rfl rfl rfl ?_
        refine RE.op (op_bin rfl rfl rfl rfl) rfl rfl rfl ?_
        refine RE.op (op_assign rfl rfl) rfl rfl rfl ?_
        refine RE.nil ⟨⟨[(0, .lst false (a0.map S_api_Winner.enc)), (3, .int .i64 (IntKind.i64.wrap (x1 + y6.f_Payment))), (4, .int .i64 (IntKind.i64.wrap (x2 + 1)))], []⟩, weak_sel ⟨rfl, rfl, rfl, trivial⟩ rfl, ?_⟩
        refine then_normal ?_
        exact LoopAt.weak (weak_sel (env' := [(0, .lst false (a0.map S_api_Winner.enc)), (3, .int .i64 (IntKind.i64.wrap (x1 + y6.f_Payment))), (4, .int .i64 (IntKind.i64.wrap (x2 + 1)))]) ⟨rfl, rfl, rfl, trivial⟩ rfl) (IH _ _ H)
      · rw [if_neg h1] at H
        refine T_no rfl (decide_eq_false h1) ?_
        refine T_exit ?_
        simp only [Option.some.injEq] at H
        subst H
        refine then_exit ?_
        refine then_exit ?_
        exact ⟨rfl, weak_sel (env' := [(3, .int .i64 x1)]) ⟨rfl, trivial⟩ rfl⟩
    · clear hj5
      refine block_eq ?_
      refine then_normal ?_
      refine T_seq ?_
      refine T_reg ?_
      refine RE.op (op_move rfl rfl) rfl rfl rfl ?_
      refine RE.op (op_assign rfl rfl) rfl rfl rfl ?_
      refine RE.nil ⟨⟨[(2, .int .i64 x3)], []⟩, weak_sel ⟨rfl, trivial⟩ rfl, ?_⟩
      refine then_normal ?_
      refine T_ret ?_
      simp only [Option.some.injEq] at H
      subst H
      exact ret1 rfl rfl rfl

/-! ### 10 bandplan/bandplanref32.Cost -/
def bandplanref32_Cost.f (k : Nat) (a0 : (List S_api_Winner)) : Option (Int × Int) := (bandplanref32_Winners.f k a0).bind fun t1 => (if ¬ (t1 = true) then some (0, 2) else (bandplanref32_Sum.f k a0).bind fun t3 => some (t3, 0))
def bandplanref32_Cost.S (args : List AV) (v : AV) : Prop := ∃ (k : Nat) (a0 : (List S_api_Winner)) (r : Int × Int), args = [.lst false (a0.map S_api_Winner.enc)] ∧ bandplanref32_Cost.f k a0 = some r ∧ v = .tup [.int .i64 r.1, .int .i64 r.2]
theorem bandplanref32_Cost.ok : VOk Tryd.prog 10 bandplanref32_Cost.S := by
  refine V_ok Tryd.func10 rfl fun args v hS => ⟨?_, ?_⟩
  · obtain ⟨k, a0, r, rfl, H, rfl⟩ := hS
    exact Nat.le_of_ble_eq_true rfl
  · obtain ⟨k, a0, r, rfl, H, rfl⟩ := hS
    unfold bandplanref32_Cost.f at H
    refine T_seq ?_
    refine T_reg ?_
    refine RE.op (op_assign rfl rfl) rfl rfl rfl ?_
    refine RE.op (op_assign rfl rfl) rfl rfl rfl ?_
    refine RE.nil ⟨⟨[(0, .lst false (a0.map S_api_Winner.enc))], []⟩, weak_sel ⟨rfl, trivial⟩ rfl, ?_⟩
    refine then_normal ?_
    refine T_seq ?_
    refine T_seq ?_
    refine T_reg ?_
    refine RE.op (op_move rfl rfl) rfl rfl rfl ?_
    obtain ⟨t1, ht2, H⟩ := Option.bind_eq_some_iff.1 H
    refine RE.op (op_call (f := 22) rfl rfl rfl rfl en22 bandplanref32_Winners.ok ⟨_, _, _, rfl, ht2, rfl⟩) rfl rfl rfl ?_
    refine RE.op (op_not rfl rfl) rfl rfl rfl ?_
    refine RE.nil ⟨⟨[(0, .lst false (a0.map S_api_Winner.enc)), (6, .bool (!t1))], []⟩, weak_sel ⟨rfl, rfl, trivial⟩ rfl, ?_⟩
    refine then_normal ?_
    by_cases h1 : ¬ (t1 = true)
    · rw [if_pos h1] at H
      refine T_yes rfl (not_t (Bool.eq_false_iff.mpr h1)) ?_
      refine T_seq ?_
      refine T_reg ?_
      refine RE.op (op_assign rfl rfl) rfl rfl rfl ?_
      refine RE.op (op_assign rfl rfl) rfl rfl rfl ?_
      refine RE.nil ⟨⟨[(2, .int .i64 0), (3, .int .i64 2)], []⟩, weak_sel ⟨rfl, rfl, trivial⟩ rfl, ?_⟩
      refine then_normal ?_
      refine T_ret ?_
      simp only [Option.some.injEq] at H
      subst H
      refine then_ret ?_
      exact ret2 rfl rfl rfl rfl
    · rw [if_neg h1] at H
      refine T_no rfl (not_f (Decidable.of_not_not h1)) ?_
      refine T_skip ?_
      refine then_normal ?_
      refine T_seq ?_
      refine T_reg ?_
      refine RE.op (op_move rfl rfl) rfl rfl rfl ?_
      obtain ⟨t3, ht4, H⟩ := Option.bind_eq_some_iff.1 H
      refine RE.op (op_call (f := 23) rfl rfl rfl rfl en23 bandplanref32_Sum.ok ⟨_, _, _, rfl, ht4, rfl⟩) rfl rfl rfl ?_
      refine RE.op (op_assign rfl rfl) rfl rfl rfl ?_
      refine RE.op (op_assign rfl rfl) rfl rfl rfl ?_
      refine RE.nil ⟨⟨[(2, .int .i64 t3), (3, .int .i64 0)], []⟩, weak_sel ⟨rfl, rfl, trivial⟩ rfl, ?_⟩
      refine then_normal ?_
      refine T_ret ?_
      simp only [Option.some.injEq] at H
      subst H
      exact ret2 rfl rfl rfl rfl
end Go.Proofs.YtgobepjodkggoaaDoor.Fn
