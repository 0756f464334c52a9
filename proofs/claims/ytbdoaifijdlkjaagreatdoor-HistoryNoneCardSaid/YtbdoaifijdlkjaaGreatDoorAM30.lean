/-
  AM30: a call, by the abstract machine.
-/
import Derived.Test.YtbdoaifijdlkjaaGreatDoorAM29
namespace Go.AM
open Go

theorem calls_of_runs {E : Env} (hE : EnvOk E) {ρ0 : Rn} {H0 : Hp} {w0 : World} (hO : ∀ (w' : World) (ρ' : Rn) (H' : Hp), Grw 0 ρ0 H0 w0 ρ' H' w' → OrcOk E w') {f : Nat} {ok : Value → Bool} {args args' : List Value} {fr : AFr}
    (hr : HR ρ0 H0 w0.heap) (hg : GlobR E.G ρ0) (hl : LR ρ0 args args') (hf : enterFr E f args false = some fr) {n : Nat} (h : runs E f ok n ⟨fr, [], H0⟩ = true) :
    Calls E.P f ⟨args'⟩ w0 fun e w' => ∃ ρ' H' v v', e = .returned v' ∧ HR ρ' H' w'.heap ∧ Grw 0 ρ0 H0 w0 ρ' H' w' ∧ VR ρ' v v' ∧ ok v = true := by
  intro cs
  have hfr := enter_ok hf hl H0.nxt H0.nxt
  simp only [Bool.false_eq_true, if_false] at hfr
  obtain ⟨ρ', H', w', fr2, v, v', h1, h2, h3, h4, h5, h6, h7⟩ := runs_ok (cs0 := cs) hE hO n ⟨fr, [], H0⟩ ρ0 w0 (Frame.enter E.P f ⟨args'⟩ .normal) cs h hg (.refl _ _ _ _) ⟨hr, H0.nxt, Nat.le_refl _, hfr, .nil _⟩
  exact ⟨.returned v', w', fr2, ⟨ρ', H', v, v', rfl, h2, h3, h6, h7⟩, h1, h4, h5⟩

/-- At the beginning: nothing is known of the memory; the globals' blocks, and those that the arguments name, stand for themselves. -/
def rho0 (G : Nat) (bs : List Nat) : Rn := fun b => if b < G then some ⟨b, 0, 0, 0, 0, false⟩ else (bs[b - G]?).map fun c => ⟨c, 0, 0, 0, 0, false⟩

theorem rho0_glob (G : Nat) (bs : List Nat) : GlobR G (rho0 G bs) := fun g hg => ⟨_, by unfold rho0; rw [if_pos hg], rfl, rfl⟩

theorem rho0_arg {G : Nat} {bs : List Nat} {j c : Nat} (h : bs[j]? = some c) : rho0 G bs (G + j) = some ⟨c, 0, 0, 0, 0, false⟩ := by
  unfold rho0
  rw [if_neg (by omega), Nat.add_sub_cancel_left, h]; rfl

theorem hr_empty (G : Nat) (bs : List Nat) (h : Array Obj) : HR (rho0 G bs) ⟨.nil, G + bs.length⟩ h := by
  refine ⟨fun b o i e => (by cases e), fun b b' i i' e => absurd rfl e, fun b hb => ⟨?_, rfl⟩⟩
  have hb : G + bs.length ≤ b := hb
  unfold rho0
  rw [if_neg (by omega), List.getElem?_eq_none (by omega)]
  rfl

theorem Kept.of_empty {G : Nat} {bs : List Nat} {w w' : World} {ρ' : Rn} {H' : Hp} (g : Grw 0 (rho0 G bs) ⟨.nil, G + bs.length⟩ w ρ' H' w') : Kept w w' :=
  ⟨fun cb hcb => (g.keep cb hcb fun _b _i hb => absurd rfl hb).1, g.size, g.os, g.tape, g.output⟩

/-- The answer 'true'. -/
def isTrue : Value → Bool
  | .bool b => b
  | _ => false

theorem isTrue_eq {ρ : Rn} {v v' : Value} (h : isTrue v = true) (hv : VR ρ v v') : v' = .bool true := by
  cases v <;> try (simp [isTrue] at h; done)
  simp only [isTrue] at h
  subst h
  exact hv.bool_inv

/-- A call that runs from nothing known, and answers true: all that stood stays. -/
theorem calls_true {E : Env} (hE : EnvOk E) {bs : List Nat} {w0 : World} (hO : ∀ w', Kept w0 w' → OrcOk E w') {f : Nat} {args args' : List Value} {fr : AFr} (hl : LR (rho0 E.G bs) args args') (hf : enterFr E f args false = some fr) {n : Nat}
    (h : runs E f isTrue n ⟨fr, [], ⟨.nil, E.G + bs.length⟩⟩ = true) : Calls E.P f ⟨args'⟩ w0 fun e w' => e = .returned (.bool true) ∧ Kept w0 w' := by
  intro cs
  obtain ⟨e, w', fr2, ⟨ρ', H', v, v', rfl, _, g, hv, hok⟩, h1, h2, h3⟩ := calls_of_runs hE (ρ0 := rho0 E.G bs) (H0 := ⟨.nil, E.G + bs.length⟩) (fun w' ρ' H' g => hO w' (.of_empty g)) (hr_empty _ _ _) (rho0_glob _ _) hl hf h cs
  exact ⟨_, w', fr2, ⟨by rw [isTrue_eq hok hv], .of_empty g⟩, h1, h2, h3⟩

end Go.AM
