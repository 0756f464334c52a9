/-
  No function of the program starts a goroutine, in parts (written by a program of ours, tools/Via.lean).
-/
import Derived.Test.YtbdoaifijdlkjaaGreatDoorAM35
import Derived.KernelRfl
import Derived.Test.YtbdoaifijdlkjaaGreatDoorProg
namespace Go.Proofs.YtbdoaifijdlkjaaGreatDoor
open Go Go.AM
set_option maxRecDepth 100000

theorem quiet0 : quietPart Tryz.prog 80 0 = true := by kernel_rfl
theorem quiet1 : quietPart Tryz.prog 80 1 = true := by kernel_rfl
theorem quiet2 : quietPart Tryz.prog 80 2 = true := by kernel_rfl
theorem quiet3 : quietPart Tryz.prog 80 3 = true := by kernel_rfl
theorem quiet4 : quietPart Tryz.prog 80 4 = true := by kernel_rfl
theorem quiet5 : quietPart Tryz.prog 80 5 = true := by kernel_rfl
theorem quiet6 : quietPart Tryz.prog 80 6 = true := by kernel_rfl
theorem quiet_all : ∀ i, i < 7 → quietPart Tryz.prog 80 i = true
  | 0, _ => quiet0
  | 1, _ => quiet1
  | 2, _ => quiet2
  | 3, _ => quiet3
  | 4, _ => quiet4
  | 5, _ => quiet5
  | 6, _ => quiet6
  | n + 7, h => absurd h (by omega)
theorem quiet_size : Tryz.prog.funcs.size ≤ 7 * 80 := of_decide_eq_true (by kernel_rfl)
theorem no_goroutine (f : Nat) : Tryz.prog.goes f = false := goes_false (n := 80) (k := 7) (by decide) quiet_all quiet_size

end Go.Proofs.YtbdoaifijdlkjaaGreatDoor
