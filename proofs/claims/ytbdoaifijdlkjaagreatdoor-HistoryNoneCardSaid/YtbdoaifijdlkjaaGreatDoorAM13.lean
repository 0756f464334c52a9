/-
  AM13: copy, clear, delete, unsafe.String; make; a text's bytes; ranges.
-/
import Derived.Test.YtbdoaifijdlkjaaGreatDoorAM12
namespace Go.AM
open Go

section
variable {P : Program} {ρ : Rn} {H : Hp} {w : World}

theorem copy_ok (k : HR ρ H w.heap) {ts : List Nat} {ty : Nat} {args args' : List Value} {v : Value} {H' : Hp} (h : copyB P H ts args = .val v H') (hl : LR ρ args args') (m : Nat) :
    ValR P m ρ H w v H' (Builtin.copy_ ⟨ts⟩ ty ⟨args'⟩) := by
  unfold copyB at h
  split at h
  rotate_left
  · cases h
  rename_i t r base dl dc s
  obtain ⟨d', r', rfl, hd, hr⟩ := hl.cons_inv
  obtain ⟨s', r', rfl, hs, hr⟩ := hr.cons_inv
  cases hr.nil_inv
  split at h
  rotate_left
  · cases h
  rename_i e hu
  split at h
  rotate_left
  · cases h
  rename_i sl z hln hz
  simp only [] at h
  split at h
  rotate_left
  · cases h
  rename_i cs hcs
  obtain ⟨cs', f1, f2⟩ := first_ok2 (P := P) k hcs hs
  have hdst : ∃ base' dc', d' = .slice base' dl dc' := by
    cases base with
    | none => exact ⟨_, _, hd.slice_none⟩
    | some a => obtain ⟨i, a', cap', h1, _⟩ := hd.slice_inv; exact ⟨_, _, h1⟩
  obtain ⟨base', dc', rfl⟩ := hdst
  have hmin : Nat.min sl dl = if Nat.ble sl dl = true then sl else dl := by
    by_cases q : sl ≤ dl
    · rw [if_pos (Nat.ble_eq_true_of_le q)]; exact Nat.min_eq_left q
    · have : ¬ Nat.ble sl dl = true := fun q2 => q (Nat.le_of_ble_eq_true q2)
      rw [if_neg this]; exact Nat.min_eq_right (by omega)
  have hrun : ∀ (w' : World) (vv : Value), (match base' with | some a => storeCells a cs' | none => pure () : Sem Unit).run P w = .ok () w' →
      (Builtin.copy_ ⟨t :: r⟩ ty ⟨[.slice base' dl dc', s']⟩).run P w = .ok (goInt (if Nat.ble sl dl = true then sl else dl : Nat)) w' := by
    intro w' vv hst
    have e0 : (⟨t :: r⟩ : Array Nat)[0]? = some t := rfl
    have e2 : (⟨[.slice base' dl dc', s']⟩ : Array Value)[0]? = some (.slice base' dl dc') := rfl
    have e3 : (⟨[.slice base' dl dc', s']⟩ : Array Value)[1]? = some s' := rfl
    simp only [Builtin.copy_, e0, e2, e3, Sem.run_bind, run_under (w := w) hu, Result.andThen_ok, len_ok (P := P) (w := w) hln hs, hmin, run_size (w := w) hz, f2 w rfl]
    cases base' with
    | none => cases hst; simp only [Sem.run_pure]
    | some a => simp only [] at hst; simp only [Sem.run_bind, hst, Result.andThen_ok, Sem.run_pure]
  split at h
  · cases h
  rename_i hone
  simp only [Bool.not_eq_true', Bool.not_eq_false] at hone
  split at h
  · rename_i hemp
    cases h
    have hnil : cs = [] := by simpa using hemp
    subst hnil
    cases f1.nil_inv
    exact ⟨_, w, ρ, hrun w undefV (by cases base' <;> rfl), k, .refl _ _ _ _, .flat rfl⟩
  · rename_i hne
    split at h
    · cases h
    · rename_i a
      split at h
      · rename_i c el z' op _ hg
        split at h
        · rename_i hbnd
          cases h
          have hbnd := Nat.le_of_ble_eq_true hbnd
          obtain ⟨i, a', cap'', h1, q1, q2, q3, q4, hor⟩ := hd.slice_inv
          cases h1
          have haddr : a' = ⟨i.blk, i.sh + a.off, none⟩ := by
            rcases hor with ⟨h, _⟩ | ⟨h, _, _⟩
            · exact h
            · exfalso
              subst h
              have hn0 : (if Nat.ble sl 0 = true then sl else 0) = 0 := by
                split
                · rename_i q; have := Nat.le_of_ble_eq_true q; omega
                · rfl
              rw [hn0] at hcs
              have : cs = [] := by
                unfold AM.firstCells at hcs
                split at hcs
                · simp at hcs; exact hcs
                · cases hcs; rfl
                · cases hcs; simp
                · cases hcs
              rw [this] at hne; simp at hne
          subst haddr
          obtain ⟨w', r1, r2, r3⟩ := write_ok (P := P) k q2 hg f1 hone hbnd m
          exact ⟨_, w', ρ, hrun w' undefV r1, r2, r3, .flat rfl⟩
        · cases h
      · cases h

theorem clear_ok (k : HR ρ H w.heap) {ts : List Nat} {ty : Nat} {args args' : List Value} {v : Value} {H' : Hp} (h : clearB P H ts args = .val v H') (hl : LR ρ args args') (m : Nat) :
    ValR P m ρ H w v H' (Builtin.clear_ ⟨ts⟩ ty ⟨args'⟩) := by
  unfold clearB at h
  split at h
  · rename_i t r a n cap
    obtain ⟨d', r', rfl, hd, hr⟩ := hl.cons_inv
    cases hr.nil_inv
    obtain ⟨i, a', cap', rfl, q1, q2, q3, q4, hor⟩ := hd.slice_inv
    split at h
    rotate_left
    · cases h
    rename_i e hu
    split at h
    rotate_left
    · cases h
    rename_i zv hzv
    have e0 : (⟨t :: r⟩ : Array Nat)[0]? = some t := rfl
    have e2 : (⟨[.slice (some a') n cap']⟩ : Array Value)[0]? = some (.slice (some a') n cap') := rfl
    split at h
    · rename_i h0
      cases h
      have h0 := Nat.eq_of_beq_eq_true h0
      subst h0
      exact ⟨.tuple #[], w, ρ, by simp only [Builtin.clear_, e0, e2, Sem.run_bind, run_under (w := w) hu, Result.andThen_ok, Sem.run_pure], k, .refl _ _ _ _, .flat rfl⟩
    · rename_i h0
      have hn : n ≠ 0 := by rintro rfl; simp at h0
      simp only [] at h
      split at h
      rotate_left
      · cases h
      rename_i c el z' op _ hg
      split at h
      rotate_left
      · cases h
      rename_i hc
      cases h
      simp only [Bool.and_eq_true] at hc
      rcases hor with ⟨rfl, _⟩ | ⟨h, _, _⟩
      · obtain ⟨w', r1, r2, r3⟩ := write_ok (P := P) k q2 hg (rep_LR (zero_LR hzv ρ) n) hc.2 (Nat.le_of_ble_eq_true hc.1) m
        refine ⟨.tuple #[], w', ρ, ?_, r2, r3, .flat rfl⟩
        obtain ⟨n, rfl⟩ : ∃ q, n = q + 1 := ⟨n - 1, by omega⟩
        simp only [Builtin.clear_, e0, e2, Sem.run_bind, run_under (w := w) hu, Result.andThen_ok, run_zero (w := w) hzv, zeroCells_eq, r1, Sem.run_pure]
      · exact absurd h hn
  · rename_i t r n cap
    obtain ⟨d', r', rfl, hd, hr⟩ := hl.cons_inv
    cases hr.nil_inv
    cases hd.slice_none
    split at h
    · rename_i d hu
      cases h
      have e0 : (⟨t :: r⟩ : Array Nat)[0]? = some t := rfl
      have e2 : (⟨[.slice none n cap]⟩ : Array Value)[0]? = some (.slice none n cap) := rfl
      refine ⟨.tuple #[], w, ρ, ?_, k, .refl _ _ _ _, .flat rfl⟩
      simp only [Builtin.clear_, e0, e2, Sem.run_bind, run_under (w := w) hu, Result.andThen_ok, Sem.run_pure]
    · cases h
  · cases h

theorem delete_ok (k : HR ρ H w.heap) {ts : List Nat} {ty : Nat} {args args' : List Value} {v : Value} {H' : Hp} (h : deleteB P H ts args = .val v H') (hl : LR ρ args args') (q : Nat) :
    ValR P q ρ H w v H' (Builtin.delete_ ⟨ts⟩ ty ⟨args'⟩) := by
  unfold deleteB at h
  split at h
  rotate_left
  · cases h
  rename_i t r m x
  obtain ⟨m', r', rfl, hm, hr⟩ := hl.cons_inv
  obtain ⟨x', r', rfl, hx, hr⟩ := hr.cons_inv
  cases hr.nil_inv
  split at h
  rotate_left
  · cases h
  rename_i H1 hd
  cases h
  have e0 : (⟨t :: r⟩ : Array Nat)[0]? = some t := rfl
  have e2 : (⟨[m', x']⟩ : Array Value)[0]? = some m' := rfl
  have e3 : (⟨[m', x']⟩ : Array Value)[1]? = some x' := rfl
  unfold mapDelete at hd
  split at hd
  · rename_i kt et r hu
    split at hd
    rotate_left
    · cases hd
    rename_i kd es clock hkd hg
    split at hd
    · cases hd
    rename_i hp
    simp only [Bool.not_eq_true', Bool.not_eq_false] at hp
    have hxf := hx.flat_inv (plain_key hp)
    subst hxf
    obtain ⟨i, hb, hs, rfl⟩ := hm.map_inv
    obtain ⟨es', ho, hl⟩ := map_at k hg hb
    split at hd
    · rename_i j u hf
      cases hd
      rcases find_now hl hf with ⟨h1, _⟩ | ⟨j', u1, u', h1, h2, h3, h4⟩
      · cases h1
      · simp only [Nat.zero_add] at h1 h2
        cases h1
        have hor : OR ρ i (.map (eraseAt es j) clock) (.map ⟨es'.eraseIdx j⟩ clock) := .map hs (l2_eraseAt hl j)
        obtain ⟨r1, r2⟩ := k.set hg hb hor q
        refine ⟨.tuple #[], _, ρ, ?_, r1, r2, .flat rfl⟩
        have e6 : (⟨es'⟩ : Array MapEntry).eraseIdxIfInBounds j = ⟨es'.eraseIdx j⟩ := by
          apply Array.ext'
          simp [Array.eraseIdxIfInBounds]
          split
          · simp
          · rename_i hj; rw [List.eraseIdx_of_length_le (by omega)]
        simp only [Builtin.delete_, e0, e2, e3, Sem.run_bind, run_under (w := w) hu, Result.andThen_ok, run_getObj' (P := P) ho (by simp), check_key (w := w) hp hkd, Instr.findKey, run_under (w := w) hkd, h2, Sem.run_pure, e6,
          run_setObj' (P := P) ho (by simp)]
    · rename_i hf
      cases hd
      rcases find_now hl hf with ⟨_, h2⟩ | ⟨j', u1, u', h1, _⟩
      · have hor : OR ρ i (.map es clock) (.map ⟨es'⟩ clock) := .map hs hl
        refine ⟨.tuple #[], w, ρ, ?_, k, .refl _ _ _ _, .flat rfl⟩
        have hsame : setW w i.blk (.map ⟨es'⟩ clock) = w := by
          unfold setW
          cases w with
          | mk heap tape drawn os output =>
            congr 1
            apply Array.ext_getElem?
            intro j
            rw [set_get _ (Array.getElem?_eq_some_iff.1 ho).1]
            by_cases e : j = i.blk
            · subst e; simp; exact ho.symm
            · simp [e]
        simp only [Builtin.delete_, e0, e2, e3, Sem.run_bind, run_under (w := w) hu, Result.andThen_ok, run_getObj' (P := P) ho (by simp), check_key (w := w) hp hkd, Instr.findKey, run_under (w := w) hkd, h2, Sem.run_pure,
          run_setObj' (P := P) ho (by simp), hsame]
      · cases h1
    · cases hd
  · rename_i kt et hu
    cases hm.map_none
    split at hd
    rotate_left
    · cases hd
    rename_i kd hkd
    split at hd
    · rename_i hp
      cases hd
      have hxf := hx.flat_inv (plain_key hp)
      subst hxf
      refine ⟨.tuple #[], w, ρ, ?_, k, .refl _ _ _ _, .flat rfl⟩
      simp only [Builtin.delete_, e0, e2, e3, Sem.run_bind, run_under (w := w) hu, Result.andThen_ok, check_key (w := w) hp hkd, Sem.run_pure]
    · cases hd
  · cases hd

end
end Go.AM
