/-
  The last steps of one way of a run: it ends, and answers true.
-/
import Derived.Test.YtbdoaifijdlkjaaGreatDoorStands
import Derived.KernelRfl
namespace Go.Proofs.YtbdoaifijdlkjaaGreatDoor
open Go Go.AM

theorem part3 : EndsWell env 8 isTrue (stood blocks3 stand3) := ends_of_runs env_ok (n := 2188) (by kernel_rfl)

end Go.Proofs.YtbdoaifijdlkjaaGreatDoor
