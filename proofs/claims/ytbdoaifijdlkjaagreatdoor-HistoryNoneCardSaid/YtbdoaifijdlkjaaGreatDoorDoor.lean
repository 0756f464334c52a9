/-
  HistoryNone: the start-up code lays the listed tables as they are listed: each closed fact by itself, so that each fits in memory.
-/
import Derived.LaidOnce
import Derived.LaidByTextLater
import Derived.KernelRfl
import Derived.Test.YtbdoaifijdlkjaaGreatDoorRows
namespace Go.Proofs.YtbdoaifijdlkjaaGreatDoor
open Go
set_option maxRecDepth 100000

def three : List (String × DataW Unit) := [("unicode/utf8.acceptRanges", Rows.laid_unicode_utf8_acceptRanges), ("unicode.asciiFold", Rows.laid_unicode_asciiFold), ("unicode.caseOrbit", Rows.laid_unicode_caseOrbit)]

theorem door1 : Tryz.prog.worded (varsWordLater true) = true := by kernel_rfl
theorem door2 : Tryz.prog.worded (varsWordLater !true) = false := by kernel_rfl
theorem door3 : Tryz.prog.worded rootWordLater = true := by kernel_rfl
theorem door4 : three.map (fun x => Tryz.prog.kindOfLater x.1) = [LaidKind.data, LaidKind.data, LaidKind.data].map some := by kernel_rfl
theorem door5 : (Tryz.prog.funcNamed "gosem.cut.vars").isSome = true := by kernel_rfl
theorem door6 : varsNamedLaterB Tryz.prog (varsId Tryz.prog) three = true := by kernel_rfl
theorem door7 (os : Os) (tape : Tape) : doorLeaves Tryz.prog 400 8 800 three os tape = some (three.filter fun x => x.2.handleName?.isNone, (funcsListed three).map (·.2.funcsOut)) := by kernel_rfl
theorem door : Tryz.prog.laidByTextLater three [.data, .data, .data] true := Program.laidByTextLater_by_one 400 8 800 door1 door2 door3 door4 door5 door6 door7

theorem pin1 : Tryz.pinned.checked.prog.pinnedFits "unicode/utf8.first" = true := by kernel_rfl
theorem pin2 : Tryz.pinned.checked.prog.pinnedFits "unicode.CaseRanges" = true := by kernel_rfl
theorem pin3 : Pinned.datum "unicode/utf8.first" = some Rows.laid_unicode_utf8_first := by kernel_rfl
theorem pin4 : Pinned.datum "unicode.CaseRanges" = some Rows.laid_unicode_CaseRanges := by kernel_rfl
theorem no_unsafe : Tryz.pinned.checked.prog.headLifts.contains "ownunsafe" = false := by kernel_rfl
theorem listed : Tryz.pinned.checked.prog.listedFits Rows.historyNoneRow.laid = true := by
  unfold Program.listedFits
  rw [no_unsafe]
  kernel_rfl

theorem row_tie : Rows.historyNoneRow.laidByTextAt .later Tryz.pinned [.pinned, .data, .data, .data, .pinned] true :=
  OpenClaim.laidByTextAt_pinned rfl rfl door rfl rfl rfl rfl (fun y hy e => by
    simp only [Rows.historyNoneRow, List.zip_cons_cons, List.zip_nil_right, List.mem_cons, List.mem_nil_iff, or_false] at hy
    rcases hy with rfl | rfl | rfl | rfl | rfl
    · exact ⟨pin1, pin3⟩
    · cases e
    · cases e
    · cases e
    · exact ⟨pin2, pin4⟩) listed

end Go.Proofs.YtbdoaifijdlkjaaGreatDoor
