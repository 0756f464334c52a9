/-
  Some steps of a run, to where it is written that they lead; and on from there.
-/
import Derived.Test.YtbdoaifijdlkjaaGreatDoorPart1
import Derived.KernelRfl
namespace Go.Proofs.YtbdoaifijdlkjaaGreatDoor
open Go Go.AM

theorem steps0 : (stepsA env 9000 (stood blocks0 stand0)).bind (sees [blocks1]) = some [stand1] := by kernel_rfl

theorem part0 : EndsWell env 8 isTrue (stood blocks0 stand0) := ends_part env_ok steps0 ⟨part1, trivial⟩

end Go.Proofs.YtbdoaifijdlkjaaGreatDoor
