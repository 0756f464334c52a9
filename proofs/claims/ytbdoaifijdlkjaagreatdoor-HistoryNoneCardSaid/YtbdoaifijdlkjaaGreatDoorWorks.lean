/-
  'works': in every world of the program's shape the call answers true, and leaves all that stood.
-/
import Derived.Test.YtbdoaifijdlkjaaGreatDoorPart0
import Derived.ChangeAgain
namespace Go.Proofs.YtbdoaifijdlkjaaGreatDoor
open Go Go.AM

theorem kept_but {w w' : World} (k : Kept w w') (may : MemPlace → Prop) : w.keptBut w' may := by
  refine ⟨k.os, k.output, fun i hi => ?_⟩
  rw [k.heap i hi]
  cases w.heap[i]? with
  | none => trivial
  | some o => cases o <;> simp

theorem shaped_kept {w w' : World} (h : w.ShapedOpen Tryz.prog) (k : Kept w w') : w'.ShapedOpen Tryz.prog :=
  h.keptBut (kept_but k fun _ => False) fun _ q => q.elim

theorem orc_ok {w : World} (h : w.ShapedOpen Tryz.prog) : OrcOk env w := by
  intro f g hf args v hv ρ H args' _ hl
  have hf' : (bif Nat.beq f 196 then some searched else none) = some g := hf
  cases h1 : Nat.beq f 196 with
  | false => rw [h1] at hf'; cases hf'
  | true =>
    have := Nat.eq_of_beq_eq_true h1
    subst this
    rw [h1] at hf'
    cases hf'
    unfold searched at hv
    split at hv
    · rename_i s t
      split at hv
      · rename_i hlt
        cases hv
        obtain ⟨s', r, rfl, hs, hr⟩ := hl.cons_inv
        obtain ⟨t', r2, rfl, ht, hr2⟩ := hr.cons_inv
        cases hr2.nil_inv
        cases hs.str_inv
        cases ht.str_inv
        refine ⟨_, .flat rfl, (Tryz.stringslite_Index_shaped s t w h (by simpa using blt_lt hlt)).mono ?_⟩
        rintro e w' ⟨rfl, rfl⟩
        exact ⟨rfl, .refl _⟩
      · cases hv
    · cases hv

theorem works_enter : enterFr env 8 [] false = some stand0.2.1 := by kernel_rfl

theorem works_calls {w : World} (h : w.ShapedOpen Tryz.prog) : Calls Tryz.prog 8 #[] w fun e w' => e = .returned (.bool true) ∧ Kept w w' :=
  calls_of_ends (E := env) (bs := []) (fun _ k => orc_ok (shaped_kept h k)) (.nil _) works_enter part0

end Go.Proofs.YtbdoaifijdlkjaaGreatDoor
