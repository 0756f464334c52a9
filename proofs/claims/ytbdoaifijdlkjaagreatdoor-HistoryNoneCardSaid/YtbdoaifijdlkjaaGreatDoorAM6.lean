/-
  AM6: the other reckoning operations; 'pure_ok': all of them.
-/
import Derived.Test.YtbdoaifijdlkjaaGreatDoorAM5
namespace Go.AM
open Go

section
variable {P : Program} {ρ : Rn} {H : Hp} {w : World}

theorem VR.int_inv {k : IntKind} {n : Int} {v : Value} (h : VR ρ (.int k n) v) : v = .int k n := h.flat_inv rfl
theorem VR.bool_inv {b : Bool} {v : Value} (h : VR ρ (.bool b) v) : v = .bool b := h.flat_inv rfl
theorem VR.str_inv {s : ByteArray} {v : Value} (h : VR ρ (.string s) v) : v = .string s := h.flat_inv rfl

theorem guard_triv (op : BinOp) (t : Nat) (ox oy : Operand) : ∀ a b : Value, (∀ u v, ¬ (a = .agg u ∧ b = .agg v)) → ¬ (a = .nilIface ∧ b = .nilIface) → (eqGuard op t ox oy a b).run P w = .ok () w := by
  intro a b
  cases op <;> first
    | (intro _ _; rfl)
    | (unfold eqGuard
       simp only [Bool.not_true, Bool.false_eq_true, if_false]
       split
       · intro _ h2; exact absurd ⟨rfl, rfl⟩ h2
       · intro h1 _; exact absurd ⟨rfl, rfl⟩ (h1 _ _)
       · intro _ _; rfl)

theorem guard_nil {op : BinOp} {t : Nat} {ox oy : Operand} (h : (isConst ox || isConst oy || (match P.underlying t with | some (.interface ms) => ms.toList.isEmpty | _ => false)) = true) :
    (eqGuard op t ox oy .nilIface .nilIface).run P w = .ok () w := by
  by_cases hc : (isConst ox || isConst oy) = true
  · cases ox <;> cases oy <;> first | (simp [isConst] at hc; done) | (cases op <;> rfl)
  · simp only [Bool.not_eq_true] at hc
    rw [hc, Bool.false_or] at h
    split at h
    · rename_i ms hu
      have he : ms.isEmpty = true := by simpa using h
      have hr : (Op.eqGuardIn Op.maxDepth t .nilIface .nilIface).run P w = .ok false w := by
        rw [show Op.maxDepth = 9999 + 1 from rfl]
        unfold Op.eqGuardIn
        simp only [Sem.run_bind, run_under (w := w) hu, Result.andThen_ok, Sem.run_pure, he, Bool.not_true]
      cases ox <;> cases oy <;> first | (simp [isConst] at hc; done) | (cases op <;> first | rfl | simp only [eqGuard, Bool.not_true, Bool.false_eq_true, if_false, Bool.or_self, Sem.run_bind, hr, Result.andThen_ok, Sem.run_pure])
    · cases h

theorem guard_ok {t : Nat} {ox oy : Operand} {x y x' y' : Value} (h : eqMay P t ox oy x y = true) (hx : VR ρ x x') (hy : VR ρ y y') (op : BinOp) :
    (eqGuard op t ox oy x' y').run P w = .ok () w := by
  have nx : ∀ k, x ≠ .chan (some k) := by rintro k rfl; simp [eqMay] at h
  have ny : ∀ k, y ≠ .chan (some k) := by rintro k rfl; cases x <;> simp [eqMay] at h
  by_cases hn : x' = .nilIface ∧ y' = .nilIface
  · obtain ⟨rfl, rfl⟩ := hn
    have hx0 : x = .nilIface := by cases hx <;> first | rfl | exact (nx _ rfl).elim
    have hy0 : y = .nilIface := by cases hy <;> first | rfl | exact (ny _ rfl).elim
    subst hx0; subst hy0
    exact guard_nil h
  · by_cases ha : ∃ u v, x' = .agg u ∧ y' = .agg v
    · obtain ⟨u, v, rfl, rfl⟩ := ha
      have hx0 : ∃ u0, x = .agg u0 := by cases hx <;> first | exact ⟨_, rfl⟩ | exact (nx _ rfl).elim
      have hy0 : ∃ u0, y = .agg u0 := by cases hy <;> first | exact ⟨_, rfl⟩ | exact (ny _ rfl).elim
      obtain ⟨u0, rfl⟩ := hx0
      obtain ⟨v0, rfl⟩ := hy0
      simp only [eqMay, Bool.not_eq_true'] at h
      exact run_eqGuard_agg w op t ox oy u v h
    · exact guard_triv op t ox oy _ _ (fun u v q => ha ⟨u, v, q⟩) hn

theorem go_eql (t : Nat) (x y : Value) (h1 : ∀ k a k' b, x = .int k a → y = .int k' b → False) (h2 : ∀ k a k' b, x = .float k a → y = .float k' b → False)
    (h3 : ∀ k a b k' c d, x = .complex k a b → y = .complex k' c d → False) (h4 : ∀ a b, x = .string a → y = .string b → False) :
    Go.binOp .eql t x y = (do pure (.bool (← Op.equal t x y))) ∧ Go.binOp .neq t x y = (do pure (.bool (!(← Op.equal t x y)))) := by
  cases x <;> cases y <;> first
    | exact ⟨rfl, rfl⟩
    | exact (h1 _ _ _ _ rfl rfl).elim
    | exact (h2 _ _ _ _ rfl rfl).elim
    | exact (h3 _ _ _ _ _ _ rfl rfl).elim
    | exact (h4 _ _ rfl rfl).elim

theorem VR.int_rev {k : IntKind} {n : Int} {v : Value} (h : VR ρ v (.int k n)) (hn : ∀ k, v ≠ .chan (some k)) : v = .int k n := by cases h <;> first | rfl | exact (hn _ rfl).elim
theorem VR.str_rev {s : ByteArray} {v : Value} (h : VR ρ v (.string s)) (hn : ∀ k, v ≠ .chan (some k)) : v = .string s := by cases h <;> first | rfl | exact (hn _ rfl).elim
theorem VR.float_rev {k : FloatKind} {n : Nat} {v : Value} (h : VR ρ v (.float k n)) (hn : ∀ k, v ≠ .chan (some k)) : v = .float k n := by cases h <;> first | rfl | exact (hn _ rfl).elim
theorem VR.complex_rev {k : FloatKind} {n m : Nat} {v : Value} (h : VR ρ v (.complex k n m)) (hn : ∀ k, v ≠ .chan (some k)) : v = .complex k n m := by cases h <;> first | rfl | exact (hn _ rfl).elim

theorem eqv_both {d t : Nat} {x y x' y' : Value} {b : Bool} (h : eqv P d t x y = some b) (hx : VR ρ x x') (hy : VR ρ y y')
    (hni : ∀ k a k' b, x = .int k a → y = .int k' b → False) (hns : ∀ a b, x = .string a → y = .string b → False) :
    Go.binOp .eql t x' y' = (do pure (.bool (← Op.equal t x' y'))) ∧ Go.binOp .neq t x' y' = (do pure (.bool (!(← Op.equal t x' y')))) := by
  have nx : ∀ k, x ≠ .chan (some k) := by
    rintro k rfl
    cases d with
    | zero => simp [eqv] at h
    | succ d => unfold eqv at h; split at h <;> simp_all
  have ny : ∀ k, y ≠ .chan (some k) := by
    rintro k rfl
    cases d with
    | zero => simp [eqv] at h
    | succ d => unfold eqv at h; split at h <;> simp_all
  refine go_eql t x' y' ?_ ?_ ?_ ?_
  · rintro k a k' b rfl rfl; exact hni _ _ _ _ (hx.int_rev nx) (hy.int_rev ny)
  · rintro k a k' b rfl rfl
    rw [hx.float_rev nx, hy.float_rev ny] at h
    cases d with
    | zero => simp [eqv] at h
    | succ d => unfold eqv at h; split at h <;> simp_all
  · rintro k a b k' c d' rfl rfl
    rw [hx.complex_rev nx, hy.complex_rev ny] at h
    cases d with
    | zero => simp [eqv] at h
    | succ d => unfold eqv at h; split at h <;> simp_all
  · rintro a b rfl rfl; exact hns _ _ (hx.str_rev nx) (hy.str_rev ny)

theorem binOp_ok {op : BinOp} {t : Nat} {ox oy : Operand} {x y x' y' v : Value} (h : AM.binOp P op t ox oy x y = some v) (hx : VR ρ x x') (hy : VR ρ y y') :
    ∃ v', (do eqGuard op t ox oy x' y'; Go.binOp op t x' y' : Sem Value).run P w = .ok v' w ∧ VR ρ v v' := by
  have fin : ∀ {v}, eqMay P t ox oy x y = true → (Go.binOp op t x' y').run P w = .ok v w → flatV v = true →
      ∃ v', (do eqGuard op t ox oy x' y'; Go.binOp op t x' y' : Sem Value).run P w = .ok v' w ∧ VR ρ v v' := by
    intro v hm hr hf
    exact ⟨v, by simp only [Sem.run_bind, guard_ok (w := w) hm hx hy op, Result.andThen_ok, hr], .flat hf⟩
  unfold AM.binOp at h
  split at h
  · cases hy.int_inv
    cases hx with
    | flat hf => simp [flatV] at hf
    | tok hk =>
      obtain ⟨n, rfl⟩ := hk.neg rfl
      cases h
      rename_i m
      obtain ⟨h1, _⟩ := intOp_ok (P := P) (w := w) (t := t) (op := .lss) (k := .i64) (a := .negSucc n) (b := .ofNat m) (v := .bool true) rfl
      exact ⟨.bool true, h1, .flat rfl⟩
  · cases hy.int_inv
    cases hx with
    | flat hf => simp [flatV] at hf
    | tok hk =>
      obtain ⟨n, rfl⟩ := hk.pos rfl
      cases h
      obtain ⟨h1, _⟩ := intOp_ok (P := P) (w := w) (t := t) (op := .lss) (k := .i64) (a := .ofNat (n + 1)) (b := .ofNat 0) (v := .bool false) rfl
      exact ⟨.bool false, h1, .flat rfl⟩
  · cases hy.int_inv
    cases hx with
    | flat hf => simp [flatV] at hf
    | tok hk =>
      obtain ⟨n, rfl⟩ := hk.pos rfl
      cases h
      obtain ⟨h1, _⟩ := intOp_ok (P := P) (w := w) (t := t) (op := .geq) (k := .i64) (a := .ofNat (n + 1)) (b := .ofNat 0) (v := .bool true) rfl
      exact ⟨.bool true, h1, .flat rfl⟩
  · cases hx.int_inv; cases hy.int_inv
    obtain ⟨h1, h2⟩ := shiftOp_ok (P := P) (w := w) (t := t) (yk := _) (.inl rfl) h
    exact fin rfl h1 h2
  · cases hx.int_inv; cases hy.int_inv
    obtain ⟨h1, h2⟩ := shiftOp_ok (P := P) (w := w) (t := t) (yk := _) (.inr rfl) h
    exact fin rfl h1 h2
  · cases hx.int_inv; cases hy.int_inv
    split at h
    · rename_i hk; cases sameKind_eq hk
      obtain ⟨h1, h2⟩ := intOp_ok (P := P) (w := w) (t := t) h
      exact fin rfl h1 h2
    · cases h
  · cases hx.str_inv; cases hy.str_inv
    obtain ⟨h1, h2⟩ := strOp_ok (P := P) (w := w) (t := t) h
    exact fin rfl h1 h2
  · rename_i hni hns
    split at h
    · rename_i hm
      cases hb : eqv P 50 t x y with
      | none => rw [hb] at h; cases h
      | some b =>
        rw [hb] at h; cases h
        have hr := eqv_ok (P := P) (ρ := ρ) (w := w) 50 t x y x' y' b hb hx hy 9950
        have e : (Go.binOp .eql t x' y').run P w = .ok (.bool b) w := by
          rw [(eqv_both hb hx hy (fun k a k' b h1 h2 => hni k a k' b h1 h2) (fun a b h1 h2 => hns a b h1 h2)).1]
          simp only [Sem.run_bind, Op.equal, Op.maxDepth, hr, Result.andThen_ok, Sem.run_pure]
        exact fin hm e rfl
    · cases h
  · rename_i hni hns
    split at h
    · rename_i hm
      cases hb : eqv P 50 t x y with
      | none => rw [hb] at h; cases h
      | some b =>
        rw [hb] at h; cases h
        have hr := eqv_ok (P := P) (ρ := ρ) (w := w) 50 t x y x' y' b hb hx hy 9950
        have e : (Go.binOp .neq t x' y').run P w = .ok (.bool (!b)) w := by
          rw [(eqv_both hb hx hy (fun k a k' b h1 h2 => hni k a k' b h1 h2) (fun a b h1 h2 => hns a b h1 h2)).2]
          simp only [Sem.run_bind, Op.equal, Op.maxDepth, hr, Result.andThen_ok, Sem.run_pure]
        exact fin hm e rfl
    · cases h
  · cases h

end
end Go.AM
