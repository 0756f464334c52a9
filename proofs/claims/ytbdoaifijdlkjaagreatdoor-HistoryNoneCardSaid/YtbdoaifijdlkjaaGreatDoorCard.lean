/-
  HistoryNone, the tied card: a machine that is not there, and one that no call made, takes nothing.
  Condition: none beyond the card's own.
-/
import Derived.Test.YtbdoaifijdlkjaaGreatDoorRow
import Derived.Test.YtbdoaifijdlkjaaGreatDoorDoor
import Derived.Test.YtbdoaifijdlkjaaGreatDoorGoes
import Derived.Test.YtbdoaifijdlkjaaGreatDoorCards
import Derived.SevenTiedAt
namespace Go.Proofs.YtbdoaifijdlkjaaGreatDoor
open Go Go.AM
set_option maxRecDepth 100000

theorem card_wf : Rows.historyNoneRow.wfByText (OpenSpec.ofChange Rows.historyNoneSpec) = true := by kernel_rfl
theorem card_main : Tryz.prog.mainIs = some (true, "b57292a8b4486b7e53e96d11cdcf5a103c2251c02fc5af79024a3ab95f1c7a45".toList) := by kernel_rfl
theorem card_looks : true = Tryz.prog.looks [] := by kernel_rfl
theorem card_stand : (Tryz.f3.params.toList.all fun u => !Tryz.prog.wantsStandIn u) = true := by kernel_rfl
theorem card_goes : false = Rows.historyNoneRow.goesBy Tryz.prog := by
  have h : Rows.historyNoneRow.goesBy Tryz.prog = Tryz.prog.goesAt .entering "breviary/breviarylaw28.HistoryNone" := rfl
  rw [h]
  unfold Program.goesAt Program.goesFrom
  rw [func_named, Option.any_some, no_goroutine]
  rfl

theorem card_holds : Rows.HistoryNoneCardSaid :=
  Claim7.holds_tied_plain_at (p := Tryz.pinned) .later [] [.pinned, .data, .data, .data, .pinned] true (true, "b57292a8b4486b7e53e96d11cdcf5a103c2251c02fc5af79024a3ab95f1c7a45") true
    row_holds (fun _ h => by cases h) card_wf (fun _ h => by cases h) row_tie rfl ⟨rfl, rfl⟩ card_main rfl
    (fun f fn hf hfn => by
      obtain rfl : f = 3 := Option.some.inj (func_named.symm.trans hf) |>.symm
      obtain rfl : fn = Tryz.f3 := (Option.some.inj (Tryz.func3.symm.trans hfn)).symm
      exact ⟨card_looks, fun j t ht => by
        have hm : t ∈ Tryz.f3.params.toList := Array.mem_toList_iff.2 (Array.mem_of_getElem? ht)
        have h : Tryz.prog.wantsStandIn t = false := by simpa using List.all_eq_true.1 card_stand t hm
        exact h⟩)
    card_goes
#print axioms card_holds

end Go.Proofs.YtbdoaifijdlkjaaGreatDoor
