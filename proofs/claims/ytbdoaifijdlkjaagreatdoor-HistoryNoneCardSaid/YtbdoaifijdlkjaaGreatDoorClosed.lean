/-
  HistoryNone: the closed facts on the program that the row asks, one by one.
-/
import Derived.Test.YtbdoaifijdlkjaaGreatDoorVia
import Derived.JoinedOf
import Derived.Test.YtbdoaifijdlkjaaGreatDoorRows
namespace Go.Proofs.YtbdoaifijdlkjaaGreatDoor
open Go Go.AM
set_option maxRecDepth 100000

theorem closed1 : (Rows.historyNoneRow.inPlace == Tryz.prog.inPlace 3) = true := by
  unfold Program.inPlace
  rw [closure_is]
  kernel_rfl
theorem unfollowed_is : Tryz.prog.unfollowed 3 = true := by
  unfold Program.unfollowed
  rw [closure_is]
  kernel_rfl
theorem closed2 : (Rows.historyNoneRow.unfollowed == Tryz.prog.unfollowed 3) = true := by
  rw [unfollowed_is]
  rfl
theorem closed3 : (Rows.historyNoneRow.recurses == Tryz.prog.recurses 3) = true := by
  unfold Program.recurses
  rw [unfollowed_is, Bool.true_or]
  rfl
theorem closed4 : (Rows.historyNoneRow.named == Tryz.prog.varsNamed 3) = true := by
  unfold Program.varsNamed
  rw [closure_is]
  kernel_rfl
theorem closed : joinedFacts Tryz.prog 3 Tryz.f3 Rows.historyNoneSpec Rows.historyNoneRow = true := by
  unfold joinedFacts
  rw [closed1, closed2, closed3, closed4]
  kernel_rfl
theorem func_named : Tryz.prog.funcNamed "breviary/breviarylaw28.HistoryNone" = some 3 := by kernel_rfl
theorem no_instance : Tryz.f3.isInstance Tryz.prog Rows.historyNoneRow.origin Rows.historyNoneRow.targs := of_decide_eq_true (by kernel_rfl)
theorem no_wrapper : Tryz.f3.isWrapper Tryz.prog Rows.historyNoneRow.wrapper Rows.historyNoneRow.mainSum := by
  unfold Func.isWrapper
  first
    | (rw [if_neg (by decide +kernel)]; exact ⟨rfl, rfl⟩)
    | (rw [if_pos (by decide +kernel)]; kernel_rfl)

end Go.Proofs.YtbdoaifijdlkjaaGreatDoor
