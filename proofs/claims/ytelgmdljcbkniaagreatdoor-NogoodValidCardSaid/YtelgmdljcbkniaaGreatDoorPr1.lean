/- Problems: small functions. -/
import Derived.Test.YtelgmdljcbkniaaGreatDoorCx
import Derived.Test.YtelgmdljcbkniaaGreatDoorDt
import Derived.Test.YtelgmdljcbkniaaGreatDoorBM5
namespace Go.Proofs.YtelgmdljcbkniaaGreatDoor.Pr
open Go Go.Proofs Go.Proofs.YtelgmdljcbkniaaGreatDoor.Ai Go.Proofs.YtelgmdljcbkniaaGreatDoor.Ti Go.Proofs.YtelgmdljcbkniaaGreatDoor.Dt
set_option maxRecDepth 100000
theorem notT {b : Bool} (h : b = false) : (!b) = true := by rw [h]; rfl
theorem notF {b : Bool} (h : b = true) : (!b) = false := by rw [h]; rfl
theorem retB {bs : List Blk} {b c : Bool} (h : b = c) : RetT bs (.bool b) (.bool c) := ⟨1, h ▸ rfl⟩
theorem retI {bs : List Blk} {k : IntKind} {b c : Int} (h : b = c) : RetT bs (.int k b) (.int k c) := ⟨1, h ▸ rfl⟩
theorem station_ok (n : Int) : V cx.P 92 [.int .i64 n] (.bool (decide (0 ≤ n ∧ n < 512))) := by
  refine V_of Tryz.func92 rfl en92 (by kernel_rfl) (by kernel_rfl) ?_
  repeat' ((conv => whnf); first | refine bT (decide_eq_true (by assumption)) ?_ | refine bF (decide_eq_false (by assumption)) ?_ | refine bT (by assumption) ?_ | refine bF (by assumption) ?_ | refine bT (notT (by assumption)) ?_ | refine bF (notF (by assumption)) ?_ | refine bD (fun _ => ?_) (fun _ => ?_) | refine OrdT.mk (by rfl) ?_ | refine bS (fun _ => ?_) (fun _ => ?_))
  all_goals exact retB (by grind)
theorem span_ok (a b : Int) : V cx.P 95 [.int .i64 a, .int .i64 b] (.bool (decide (2 ≤ a ∧ a ≤ b ∧ b ≤ 51))) := by
  refine V_of Tryz.func95 rfl en95 (by kernel_rfl) (by kernel_rfl) ?_
  repeat' ((conv => whnf); first | refine bT (decide_eq_true (by assumption)) ?_ | refine bF (decide_eq_false (by assumption)) ?_ | refine bT (by assumption) ?_ | refine bF (by assumption) ?_ | refine bT (notT (by assumption)) ?_ | refine bF (notF (by assumption)) ?_ | refine bD (fun _ => ?_) (fun _ => ?_) | refine OrdT.mk (by rfl) ?_ | refine bS (fun _ => ?_) (fun _ => ?_))
  all_goals exact retB (by grind)
theorem isNaN_ok (n : Int) : V cx.P 144 [.int .i64 n] (.bool false) := by
  refine V_of Tryz.func144 rfl en144 (by kernel_rfl) (by kernel_rfl) ?_
  repeat' ((conv => whnf); first | refine bT (decide_eq_true (by assumption)) ?_ | refine bF (decide_eq_false (by assumption)) ?_ | refine bT (by assumption) ?_ | refine bF (by assumption) ?_ | refine bT (notT (by assumption)) ?_ | refine bF (notF (by assumption)) ?_ | refine bD (fun _ => ?_) (fun _ => ?_) | refine OrdT.mk (by rfl) ?_ | refine bS (fun _ => ?_) (fun _ => ?_))
  all_goals exact retB (by grind)
theorem cmp_ok (a b : Int) : V cx.P 96 [.int .i64 a, .int .i64 b] (.int .i64 (if a < b then -1 else if b < a then 1 else 0)) := by
  refine V_of Tryz.func96 rfl en96 (by kernel_rfl) (by kernel_rfl) ?_
  repeat' ((conv => whnf); first | refine bT (decide_eq_true (by assumption)) ?_ | refine bF (decide_eq_false (by assumption)) ?_ | refine bT (by assumption) ?_ | refine bF (by assumption) ?_ | refine bT (notT (by assumption)) ?_ | refine bF (notF (by assumption)) ?_ | refine bD (fun _ => ?_) (fun _ => ?_) | refine OrdT.mk (by rfl) ?_ | refine callV (isNaN_ok _) ?_ | refine bS (fun _ => ?_) (fun _ => ?_))
  all_goals exact retI (by grind)
theorem chan_ok (n : Int) : V cx.P 94 [.int .i64 n] (.bool (decide (2 ≤ n ∧ n ≤ 51))) := by
  refine V_of Tryz.func94 rfl en94 (by kernel_rfl) (by kernel_rfl) ?_
  repeat' ((conv => whnf); first | refine bT (decide_eq_true (by assumption)) ?_ | refine bF (decide_eq_false (by assumption)) ?_ | refine bT (by assumption) ?_ | refine bF (by assumption) ?_ | refine bT (notT (by assumption)) ?_ | refine bF (notF (by assumption)) ?_ | refine bD (fun _ => ?_) (fun _ => ?_) | refine OrdT.mk (by rfl) ?_ | refine callV (span_ok _ _) ?_ | refine bS (fun _ => ?_) (fun _ => ?_))
  all_goals exact retB (by grind)
end Go.Proofs.YtelgmdljcbkniaaGreatDoor.Pr
