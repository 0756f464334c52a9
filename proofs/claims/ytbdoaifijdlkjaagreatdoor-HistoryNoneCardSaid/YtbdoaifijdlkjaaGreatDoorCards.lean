/-
  DERIVED. GIVEN WITH THE SEED: THE CARDS: each row of YtbdoaifijdlkjaaGreatDoorRows.lean that lists a variable, with what it lists TIED to the program's text (the seventh form; the later family's looks); each row that meets fmt, with fmt's text TOLD by the authors' own Lean function (tested against real Go, not proved from fmt's source: count such statements apart). THE CARD IS WHAT COUNTS. Prove the row's statement (the work); the ties are given (YtbdoaifijdlkjaaGreatDoorTie.lean); close each card by the builder's one call (the guide's Derived/Test/ToyasCard.lean, 'card_holds'). Laid BY PROGRAM, IN A SANDBOX (cutbox-door.mjs). By AI agents, Wed Nov 11 2026. No macro, syntax, notation, axiom, sorry.
-/
import Derived.Test.YtbdoaifijdlkjaaGreatDoorRows
import GoSem.ClaimSeven
namespace Go.Proofs.YtbdoaifijdlkjaaGreatDoor
namespace Rows

/-- THE TIED CARD OF 'breviarylaw28.HistoryNone'. -/
def historyNoneCard : Claim7 := { stood := { row := historyNoneRow, standIns := [], harness := (true, "b57292a8b4486b7e53e96d11cdcf5a103c2251c02fc5af79024a3ab95f1c7a45"), looks := true }, kinds := [], alts := [], laidByText := true, laidKinds := [.pinned, .data, .data, .data, .pinned], laidTests := true, laidLooks := .later }
def HistoryNoneCardSaid : Prop := Claim7.holds Tryz.pinned (.plain (OpenSpec.ofChange historyNoneSpec)) historyNoneCard

/-- THE SECOND FORM's CARD OF 'breviarylaw28.HistoryNone'. -/
def historyNoneUptoCard : Claim7 := { stood := { row := historyNoneUptoRow, standIns := [], harness := (true, "b57292a8b4486b7e53e96d11cdcf5a103c2251c02fc5af79024a3ab95f1c7a45"), looks := true }, kinds := [], alts := [], laidByText := true, laidKinds := [.pinned, .data, .data, .data, .pinned], laidTests := true, laidLooks := .later }
def HistoryNoneUptoCardSaid : Prop := Claim7.holds Tryz.pinned (.plain (OpenSpec.upto historyNoneSpec)) historyNoneUptoCard
end Rows
end Go.Proofs.YtbdoaifijdlkjaaGreatDoor
