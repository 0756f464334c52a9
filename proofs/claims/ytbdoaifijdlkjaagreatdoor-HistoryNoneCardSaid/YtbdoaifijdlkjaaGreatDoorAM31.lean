/-
  AM31: arguments as tokens.
-/
import Derived.Test.YtbdoaifijdlkjaaGreatDoorAM30
import GoSem.ClaimWide
namespace Go.AM
open Go

/-- Types whose values a token may stand for. -/
def tokenType (P : Program) (u : Nat) : Bool := match P.underlying u with
  | some (.int _) | some .string | some (.slice _) | some (.pointer _) => true
  | _ => false

theorem cell_tok {P : Program} {ρ : Rn} {w : World} {r : Reach} {base u : Nat} {v : Value} (h : Cell.okWide P w r base u v) (hk : tokenType P u = true) : VR ρ (.chan (some 0)) v := by
  refine .tok ⟨?_, ?_, fun e => (by cases e), fun e => (by cases e)⟩
  · unfold tokenType at hk
    unfold Cell.okWide Cell.ok at h
    cases hu : P.underlying u with
    | none => rw [hu] at hk; cases hk
    | some d => rw [hu] at hk h; cases d <;> first | (cases hk; done) | (cases v <;> first | rfl | exact h.elim)
  · rintro b rfl
    unfold tokenType at hk
    unfold Cell.okWide Cell.ok at h
    cases hu : P.underlying u with
    | none => rw [hu] at hk; cases hk
    | some d => rw [hu] at hk h; cases d <;> first | (cases hk; done) | exact h.elim

theorem cell_bool {P : Program} {w : World} {r : Reach} {base u : Nat} {v : Value} (h : Cell.okWide P w r base u v) (hk : P.underlying u = some .bool) : ∃ b, v = .bool b := by
  unfold Cell.okWide Cell.ok at h
  rw [hk] at h
  cases v <;> first | exact ⟨_, rfl⟩ | exact h.elim

/-- A row of cells: each a token, but for the flags. -/
def absRow (P : Program) : List Nat → List Value → List Value
  | u :: us, v :: vs => (if tokenType P u then .chan (some 0) else v) :: absRow P us vs
  | _, _ => []

theorem absRow_ok {P : Program} {ρ : Rn} {w : World} {r : Reach} {base : Nat} : ∀ {us : List Nat} {vs : List Value}, us.length = vs.length → (∀ u ∈ us, tokenType P u = true ∨ P.underlying u = some .bool) →
    (∀ (i : Nat) (u : Nat) (v : Value), us[i]? = some u → vs[i]? = some v → Cell.okWide P w r base u v) → LR ρ (absRow P us vs) vs
  | [], [], _, _, _ => .nil ρ
  | u :: us, v :: vs, hl, hk, h => by
    have h0 := h 0 u v rfl rfl
    refine .cons ?_ (absRow_ok (by simpa using hl) (fun u hu => hk u (List.mem_cons_of_mem _ hu)) fun i u v a b => h (i + 1) u v (by simpa using a) (by simpa using b))
    split
    · rename_i ht; exact cell_tok h0 ht
    · rename_i ht
      rcases hk u List.mem_cons_self with hb | hb
      · exact absurd hb ht
      · obtain ⟨b, rfl⟩ := cell_bool h0 hb
        exact .flat rfl
  | [], _ :: _, hl, _, _ => by simp at hl
  | _ :: _, [], hl, _, _ => by simp at hl

end Go.AM
