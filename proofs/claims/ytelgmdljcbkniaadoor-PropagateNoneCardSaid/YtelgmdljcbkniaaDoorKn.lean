/- The examples of the chapter, reckoned. -/
import Derived.Test.YtelgmdljcbkniaaDoorCt
namespace Go.Proofs.YtelgmdljcbkniaaDoor.Pr
open Go Go.Proofs Go.Proofs.YtelgmdljcbkniaaDoor.Ai Go.Proofs.YtelgmdljcbkniaaDoor.Ti
theorem known_ok : V cx.P 9 [] (.bool true) := V_true ftok ct_ok true 4000 (by kernel_rfl)
noncomputable section
def cKnown : List AV → Option AV
  | [] => some (.bool true)
  | _ => none
def ctk (f : Nat) : Option (List AV → Option AV) := Bool.rec (ct f) (some cKnown) (Nat.beq f 9)
theorem ctk_ok (f : Nat) (C : List AV → Option AV) (vs : List AV) (v : AV) (h : ctk f = some C) (hv : C vs = some v) : V cx.P f vs v := by
  unfold ctk at h
  cases hf : Nat.beq f 9 with
  | false => rw [hf] at h; exact ct_ok f C vs v h hv
  | true =>
    rw [hf] at h
    obtain rfl := Option.some.inj h
    rw [Nat.eq_of_beq_eq_true hf]
    unfold cKnown at hv
    split at hv
    · obtain rfl := Option.some.inj hv; exact known_ok
    · cases hv
theorem none_ok (a b n : Int) : V cx.P 6 [.agg [.int .i64 a, .int .i64 b], .int .i64 n] (.bool true) := V_true ftok ctk_ok false 4000 (by kernel_rfl)
end
end Go.Proofs.YtelgmdljcbkniaaDoor.Pr
