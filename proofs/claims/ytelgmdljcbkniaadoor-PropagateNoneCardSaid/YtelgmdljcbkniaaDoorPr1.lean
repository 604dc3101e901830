/- Problems: small functions. -/
import Derived.Test.YtelgmdljcbkniaaDoorCx
import Derived.Test.YtelgmdljcbkniaaDoorDt
import Derived.Test.YtelgmdljcbkniaaDoorB37
namespace Go.Proofs.YtelgmdljcbkniaaDoor.Pr
open Go Go.Proofs Go.Proofs.YtelgmdljcbkniaaDoor.Ai Go.Proofs.YtelgmdljcbkniaaDoor.Ti Go.Proofs.YtelgmdljcbkniaaDoor.Dt
set_option maxRecDepth 100000
theorem notT {b : Bool} (h : b = false) : (!b) = true := by rw [h]; rfl
theorem notF {b : Bool} (h : b = true) : (!b) = false := by rw [h]; rfl
theorem retB {bs : List Blk} {b c : Bool} (h : b = c) : RetT bs (.bool b) (.bool c) := ⟨1, h ▸ rfl⟩
theorem retI {bs : List Blk} {k : IntKind} {b c : Int} (h : b = c) : RetT bs (.int k b) (.int k c) := ⟨1, h ▸ rfl⟩
theorem station_ok (n : Int) : V cx.P 60 [.int .i64 n] (.bool (decide (0 ≤ n ∧ n < 512))) := by
  refine V_of Tryd.func60 rfl en60 (by kernel_rfl) (by kernel_rfl) ?_
  repeat' ((conv => whnf); first | refine bT (decide_eq_true (by assumption)) ?_ | refine bF (decide_eq_false (by assumption)) ?_ | refine bT (by assumption) ?_ | refine bF (by assumption) ?_ | refine bT (notT (by assumption)) ?_ | refine bF (notF (by assumption)) ?_ | refine bD (fun _ => ?_) (fun _ => ?_) | refine OrdT.mk (by rfl) ?_ | refine bS (fun _ => ?_) (fun _ => ?_))
  all_goals exact retB (by grind)
theorem span_ok (a b : Int) : V cx.P 63 [.int .i64 a, .int .i64 b] (.bool (decide (2 ≤ a ∧ a ≤ b ∧ b ≤ 51))) := by
  refine V_of Tryd.func63 rfl en63 (by kernel_rfl) (by kernel_rfl) ?_
  repeat' ((conv => whnf); first | refine bT (decide_eq_true (by assumption)) ?_ | refine bF (decide_eq_false (by assumption)) ?_ | refine bT (by assumption) ?_ | refine bF (by assumption) ?_ | refine bT (notT (by assumption)) ?_ | refine bF (notF (by assumption)) ?_ | refine bD (fun _ => ?_) (fun _ => ?_) | refine OrdT.mk (by rfl) ?_ | refine bS (fun _ => ?_) (fun _ => ?_))
  all_goals exact retB (by grind)
theorem isNaN_ok (n : Int) : V cx.P 86 [.int .i64 n] (.bool false) := by
  refine V_of Tryd.func86 rfl en86 (by kernel_rfl) (by kernel_rfl) ?_
  repeat' ((conv => whnf); first | refine bT (decide_eq_true (by assumption)) ?_ | refine bF (decide_eq_false (by assumption)) ?_ | refine bT (by assumption) ?_ | refine bF (by assumption) ?_ | refine bT (notT (by assumption)) ?_ | refine bF (notF (by assumption)) ?_ | refine bD (fun _ => ?_) (fun _ => ?_) | refine OrdT.mk (by rfl) ?_ | refine bS (fun _ => ?_) (fun _ => ?_))
  all_goals exact retB (by grind)
theorem cmp_ok (a b : Int) : V cx.P 64 [.int .i64 a, .int .i64 b] (.int .i64 (if a < b then -1 else if b < a then 1 else 0)) := by
  refine V_of Tryd.func64 rfl en64 (by kernel_rfl) (by kernel_rfl) ?_
  repeat' ((conv => whnf); first | refine bT (decide_eq_true (by assumption)) ?_ | refine bF (decide_eq_false (by assumption)) ?_ | refine bT (by assumption) ?_ | refine bF (by assumption) ?_ | refine bT (notT (by assumption)) ?_ | refine bF (notF (by assumption)) ?_ | refine bD (fun _ => ?_) (fun _ => ?_) | refine OrdT.mk (by rfl) ?_ | refine callV (isNaN_ok _) ?_ | refine bS (fun _ => ?_) (fun _ => ?_))
  all_goals exact retI (by grind)
theorem chan_ok (n : Int) : V cx.P 62 [.int .i64 n] (.bool (decide (2 ≤ n ∧ n ≤ 51))) := by
  refine V_of Tryd.func62 rfl en62 (by kernel_rfl) (by kernel_rfl) ?_
  repeat' ((conv => whnf); first | refine bT (decide_eq_true (by assumption)) ?_ | refine bF (decide_eq_false (by assumption)) ?_ | refine bT (by assumption) ?_ | refine bF (by assumption) ?_ | refine bT (notT (by assumption)) ?_ | refine bF (notF (by assumption)) ?_ | refine bD (fun _ => ?_) (fun _ => ?_) | refine OrdT.mk (by rfl) ?_ | refine callV (span_ok _ _) ?_ | refine bS (fun _ => ?_) (fun _ => ?_))
  all_goals exact retB (by grind)
end Go.Proofs.YtelgmdljcbkniaaDoor.Pr
