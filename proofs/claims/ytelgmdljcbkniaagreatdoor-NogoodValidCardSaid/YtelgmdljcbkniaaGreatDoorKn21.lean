/- The examples of the chapter, reckoned. -/
import Derived.Test.YtelgmdljcbkniaaGreatDoorCt
namespace Go.Proofs.YtelgmdljcbkniaaGreatDoor.Pr
open Go Go.Proofs Go.Proofs.YtelgmdljcbkniaaGreatDoor.Ai Go.Proofs.YtelgmdljcbkniaaGreatDoor.Ti
theorem known21: V cx.P 12 [] (.bool true) := V_true ftok ct_ok true 4000 (by kernel_rfl)
end Go.Proofs.YtelgmdljcbkniaaGreatDoor.Pr
