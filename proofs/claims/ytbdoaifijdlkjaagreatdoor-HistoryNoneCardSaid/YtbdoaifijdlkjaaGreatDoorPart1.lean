/-
  Some steps of a run, to where it is written that they lead; and on from there.
-/
import Derived.Test.YtbdoaifijdlkjaaGreatDoorPart2
import Derived.Test.YtbdoaifijdlkjaaGreatDoorPart3
import Derived.KernelRfl
namespace Go.Proofs.YtbdoaifijdlkjaaGreatDoor
open Go Go.AM

theorem steps1 : (stepsA env 9000 (stood blocks1 stand1)).bind (sees [blocks2, blocks3]) = some [stand2, stand3] := by kernel_rfl

theorem part1 : EndsWell env 8 isTrue (stood blocks1 stand1) := ends_part env_ok steps1 ⟨part2, part3, trivial⟩

end Go.Proofs.YtbdoaifijdlkjaaGreatDoor
