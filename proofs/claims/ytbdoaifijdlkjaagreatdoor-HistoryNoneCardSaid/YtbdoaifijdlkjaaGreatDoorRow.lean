/-
  HistoryNone: a machine that is not there, and one that no call made, takes nothing, and 'works' answers true: the given row, for every event and every place.
  Condition: the row's own (the five library tables that it lists read as it lists them; the proof makes no use of them).
-/
import Derived.Test.YtbdoaifijdlkjaaGreatDoorLaw
import Derived.Test.YtbdoaifijdlkjaaGreatDoorClosed
import Derived.Test.YtbdoaifijdlkjaaGreatDoorAM34
import Derived.MakeChecks
import Derived.Test.YtbdoaifijdlkjaaGreatDoorRows
namespace Go.Proofs.YtbdoaifijdlkjaaGreatDoor
open Go Go.AM Go.RowKit

set_option maxRecDepth 100000

theorem Tryz.own : ownKnob Tryz.prog.godebug = none := by kernel_rfl
theorem Tryz.laidOut : laidOutB Tryz.prog = true := by kernel_rfl

/-- The types of an event's cells. -/
noncomputable def eventTypes : List Nat := (Tryz.prog.cellTypes Tryz.prog.depth 36).getD []

theorem eventTypes_eq : Tryz.prog.cellTypes Tryz.prog.depth 36 = some eventTypes := by kernel_rfl
theorem eventTypes_len : eventTypes.length = Tryz.prog.cellsOf 36 := by kernel_rfl
theorem eventTypes_tok : (eventTypes.all fun u => tokenType Tryz.prog u || boolType Tryz.prog u) = true := by kernel_rfl
theorem eventFlags : eventTypes.map (boolType Tryz.prog) = [false, false, false, false, false, false, false, false, false, false, false, false, false, false, false, true, false, false, false, false] := by kernel_rfl

/-- Every call. -/
theorem law_of_args {W : World} {base : Nat} {args : Array Value} (hsh : W.ShapedOpen Tryz.prog) (hn : args.size = 2) (h0 : ∀ v, args[0]? = some v → Value.okWide Tryz.prog W .any base 36 v) (h1 : ∀ v, args[1]? = some v → Value.okWide Tryz.prog W .any base 3 v) :
    Calls Tryz.prog 3 args W fun e W' => e = .returned (.bool true) ∧ Kept W W' := by
  obtain ⟨l⟩ := args
  match l, hn with
  | [v0, v1], _ =>
    obtain ⟨n, rfl, _⟩ := okWide_int (h1 v1 rfl) Tryz.underlying3
    obtain ⟨cs, flags, rfl, hf, _, hr⟩ := tokStruct_ok (ρ := rho0 8 []) (h0 v0 rfl) Tryz.underlying36 eventTypes_eq eventTypes_len eventTypes_tok
    rw [eventFlags] at hf hr
    match flags, hf with
    | [b], _ => exact law_calls (b := b) hsh hr n

def someEvent : Value :=
  let i : Value := .int .i64 0
  let s : Value := .string .empty
  .agg ⟨[i, i, s, i, i, i, s, s, i, i, i, i, .int .u64 0, i, .slice none 0 0, .bool false, i, i, s, s]⟩

noncomputable def startWorld (os : Os) : World := World.laidAll Tryz.prog os Rows.historyNoneRow.laid
def startArgs : Array Value := #[someEvent, .int .i64 0]

theorem start_zip (os : Os) : ((startWorld os).forCall (fun _ _ => 0) ⟨#[], startArgs, []⟩).variablesZipB Tryz.prog = true := by kernel_rfl
theorem start_rest (os : Os) : (((startWorld os).forCall (fun _ _ => 0) ⟨#[], startArgs, []⟩).heap.toList.drop Tryz.prog.globals.size).take ((begin Tryz.prog (fun _ _ => 0) default).world.heap.size - Tryz.prog.globals.size) =
    (begin Tryz.prog (fun _ _ => 0) default).world.heap.toList.drop Tryz.prog.globals.size := by kernel_rfl
theorem start_okay (os : Os) : Input.okWideB Tryz.prog ((startWorld os).forCall (fun _ _ => 0) ⟨#[], startArgs, []⟩) 3 ⟨#[], startArgs, []⟩ = true := by kernel_rfl
theorem start_pre (os : Os) (H : Type) (enc : TypeId × Value → H) : Rows.historyNoneSpec.preB enc Tryz.prog Tryz.f3 [] false ((startWorld os).forCall (fun _ _ => 0) ⟨#[], startArgs, []⟩).memory startArgs 8 = true := by kernel_rfl
theorem start_sized (os : Os) (H : Type) (enc : TypeId × Value → H) : Rows.historyNoneSpec.sizedB enc Tryz.prog Tryz.f3 false ((startWorld os).forCall (fun _ _ => 0) ⟨#[], startArgs, []⟩).memory startArgs 8 = true := by kernel_rfl
theorem laid_plain : (Rows.historyNoneRow.laid.all fun x => x.2.handleName?.isNone) = true := by kernel_rfl
theorem laid_fits (os : Os) : (World.holding Tryz.prog os ⟨#[], #[], []⟩).layFits Tryz.prog Rows.historyNoneRow.laid [] = true := by kernel_rfl
theorem laid_ifaces (os : Os) : (World.holding Tryz.prog os ⟨#[], #[], []⟩).layIfaces Tryz.prog Rows.historyNoneRow.laid (World.laidAll Tryz.prog os Rows.historyNoneRow.laid) = true := by kernel_rfl
theorem start_laid (os : Os) : laidMetH Tryz.prog Rows.historyNoneRow.laid ((startWorld os).forCall (fun _ _ => 0) ⟨#[], startArgs, []⟩).memory := by
  rw [MakeChecks.laidMetH_plain _ _ _ laid_plain]
  exact laidMet_laidAll _ (laid_fits os) (laid_ifaces os)

theorem not_init : Tryz.prog.inits.idxOf? 3 = none := by kernel_rfl
theorem params_rowed : typesRowed Tryz.prog Tryz.f3.params.toList = true := by kernel_rfl
theorem vars_rowed : varsRowed Tryz.prog Rows.historyNoneSpec.vars = true := by kernel_rfl
theorem result_types : Tryz.f3.resultTypes = #[4] := by kernel_rfl

theorem lifted (os : Os) (started : os.Started) (H : Type) (enc : TypeId × Value → H) :
    ReturnsInHanded {} Tryz.checked os 3 .any (fun w args => (Rows.historyNoneSpec.pre enc Tryz.prog Tryz.f3 [] false w args ∧ laidMetH Tryz.prog Rows.historyNoneRow.laid w) ∧ sizedMet enc Tryz.prog Tryz.f3 (OpenSpec.ofChange Rows.historyNoneSpec) false w args)
      (Rows.historyNoneSpec.post enc Tryz.prog Tryz.f3 false true false false) := by
  refine still_row (C := Tryz.checked) (laid := Rows.historyNoneRow.laid) (t := 4) Tryz.own started not_init Tryz.func3 Tryz.laidOut params_rowed vars_rowed result_types Tryz.underlying4 (fun ds gs h1 h2 => ?_)
    (ChangeSpec.witness_shaped (enc := enc) (C := Tryz.checked) (os := os) (X := fun w _ => laidMetH Tryz.prog Rows.historyNoneRow.laid w) false (startWorld os) startArgs 8 (World.laidAll_os _ _ _)
      (World.shaped_of_ZipB (start_zip os) (start_rest os)) (start_okay os) (start_pre os H enc) (start_sized os H enc) (start_laid os)) ?_
  · have h1 : ds.length = 2 := h1
    have h2 : gs.length = 0 := h2
    match ds, gs, h1, h2 with
    | [d0, d1], [], _, _ => rfl
  · intro W base args hsh hn hval _
    exact law_of_args hsh hn (fun v hv => hval 0 36 v rfl hv) (fun v hv => hval 1 3 v rfl hv)

theorem row_holds : Rows.HistoryNoneSaid :=
  OpenClaim.holds_of_wide (p := Tryz.pinned) 3 Tryz.f3 rfl rfl rfl rfl rfl rfl rfl ⟨rfl, rfl, rfl, rfl, rfl⟩ rfl rfl rfl rfl rfl func_named Tryz.func3 closed no_instance no_wrapper
    (fun os started H enc _ => lifted os started H enc)

end Go.Proofs.YtbdoaifijdlkjaaGreatDoor
