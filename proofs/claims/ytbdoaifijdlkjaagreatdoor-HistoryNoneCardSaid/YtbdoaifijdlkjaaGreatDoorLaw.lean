/-
  The law's own function, at whatever event and place: it answers true, and leaves all that stood.
-/
import Derived.Test.YtbdoaifijdlkjaaGreatDoorWorks
namespace Go.Proofs.YtbdoaifijdlkjaaGreatDoor
open Go Go.AM

def worked : List Value → Option Value
  | [] => some (.bool true)
  | _ => none

noncomputable def env2 : Env := { env with orc := fun f => bif Nat.beq f 196 then some searched else bif Nat.beq f 8 then some worked else none }

theorem env2_ok : EnvOk env2 := ⟨env_ok.name, env_ok.ext, env_ok.mixed⟩

theorem orc2_ok {w : World} (h : w.ShapedOpen Tryz.prog) : OrcOk env2 w := by
  intro f g hf args v hv ρ H args' hr hl
  have hf' : (bif Nat.beq f 196 then some searched else bif Nat.beq f 8 then some worked else none) = some g := hf
  cases h1 : Nat.beq f 196 with
  | true =>
    refine orc_ok h f g ?_ args v hv ρ H args' hr hl
    show (bif Nat.beq f 196 then some searched else none) = some g
    rw [h1] at hf' ⊢
    exact hf'
  | false =>
    rw [h1] at hf'
    cases h2 : Nat.beq f 8 with
    | false => rw [h2] at hf'; cases hf'
    | true =>
      have := Nat.eq_of_beq_eq_true h2
      subst this
      rw [h2] at hf'
      cases hf'
      unfold worked at hv
      split at hv
      · cases hv
        cases hl.nil_inv
        exact ⟨_, .flat rfl, works_calls h⟩
      · cases hv

/-- An event's cells, as tokens, but for its one flag. -/
def eventCells (b : Bool) : List Value :=
  let t : Value := .chan (some 0)
  [t, t, t, t, t, t, t, t, t, t, t, t, t, t, t, .bool b, t, t, t, t]

noncomputable def lawRuns (b : Bool) (place : Value) : Bool :=
  match enterFr env2 3 [.agg ⟨eventCells b⟩, place] false with
  | some fr => runs env2 3 isTrue 1000 ⟨fr, [], ⟨.nil, 8⟩⟩
  | none => false

theorem law_runs : (lawRuns true (.chan (some 1)) && lawRuns true (.int .i64 0) && lawRuns true (.chan (some 2)) && lawRuns false (.chan (some 1)) && lawRuns false (.int .i64 0) && lawRuns false (.chan (some 2))) = true := by
  kernel_rfl

theorem law_at {b : Bool} {place : Value} (h : lawRuns b place = true) {w : World} (hw : w.ShapedOpen Tryz.prog) {cells' : List Value} {p' : Value} (hc : LR (rho0 8 []) (eventCells b) cells') (hp : VR (rho0 8 []) place p') :
    Calls Tryz.prog 3 #[.agg ⟨cells'⟩, p'] w fun e w' => e = .returned (.bool true) ∧ Kept w w' := by
  unfold lawRuns at h
  cases hf : enterFr env2 3 [.agg ⟨eventCells b⟩, place] false with
  | none => rw [hf] at h; cases h
  | some fr =>
    rw [hf] at h
    exact calls_true (E := env2) (bs := []) env2_ok (fun _ k => orc2_ok (shaped_kept hw k)) (.cons (.mk_agg hc) (.cons hp (.nil _))) hf h

/-- WHATEVER THE EVENT, WHATEVER THE PLACE. -/
theorem law_calls {w : World} (hw : w.ShapedOpen Tryz.prog) {b : Bool} {cells' : List Value} (hc : LR (rho0 8 []) (eventCells b) cells') (place : Int) :
    Calls Tryz.prog 3 #[.agg ⟨cells'⟩, .int .i64 place] w fun e w' => e = .returned (.bool true) ∧ Kept w w' := by
  have hr := law_runs
  simp only [Bool.and_eq_true] at hr
  obtain ⟨⟨⟨⟨⟨r1, r2⟩, r3⟩, r4⟩, r5⟩, r6⟩ := hr
  have both : ∀ {v : Value}, lawRuns true v = true → lawRuns false v = true → lawRuns b v = true := by intro v h1 h2; cases b; exact h2; exact h1
  match place with
  | .negSucc m => exact law_at (both r1 r4) hw hc (.tok ⟨rfl, fun _ q => (by cases q), fun _ => ⟨m, rfl⟩, fun e => (by cases e)⟩)
  | .ofNat 0 => exact law_at (both r2 r5) hw hc (.flat rfl)
  | .ofNat (m + 1) => exact law_at (both r3 r6) hw hc (.tok ⟨rfl, fun _ q => (by cases q), fun e => (by cases e), fun _ => ⟨m, rfl⟩⟩)

end Go.Proofs.YtbdoaifijdlkjaaGreatDoor
