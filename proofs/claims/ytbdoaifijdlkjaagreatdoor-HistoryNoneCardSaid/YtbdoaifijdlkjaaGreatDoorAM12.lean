/-
  AM12: the builtins that write, and other operations that make memory.
-/
import Derived.Test.YtbdoaifijdlkjaaGreatDoorAM11
import Derived.IntWalk
namespace Go.AM
open Go

section
variable {P : Program} {ρ : Rn} {H : Hp} {w : World}

theorem zeroCells_eq (z : Array Value) (n : Nat) : (Builtin.zeroCells z n) = ⟨rep n z.toList⟩ := by
  by_cases hz : 0 < z.size
  · exact (rep_eq n z hz).symm
  · have h0 : z.size = 0 := by omega
    have h1 : z.toList = [] := List.eq_nil_of_length_eq_zero (by simpa using h0)
    apply Array.ext'
    have : (rep n z.toList).length = 0 := by rw [rep_length, h1]; simp
    rw [List.eq_nil_of_length_eq_zero this]
    simp [Builtin.zeroCells, h0]

theorem run_step {α β : Type} {x : Sem α} {f : α → Sem β} {w w' : World} {a : α} (h : x.run P w = .ok a w') : (x >>= f).run P w = (f a).run P w' := by
  rw [Sem.run_bind, h]; rfl

/-- What an operation comes to, with a value. -/
def ValR (P : Program) (m : Nat) (ρ : Rn) (H : Hp) (w : World) (v : Value) (H' : Hp) (s : Sem Value) : Prop :=
  ∃ v' w' ρ', s.run P w = .ok v' w' ∧ HR ρ' H' w'.heap ∧ Grw m ρ H w ρ' H' w' ∧ VR ρ' v v'

/-- As 'first_ok', the values known ahead of the world. -/
theorem first_ok2 (k : HR ρ H w.heap) {z n : Nat} {x x' : Value} {l : List Value} (h : AM.firstCells H z n x = some l) (hx : VR ρ x x') :
    ∃ l', LR ρ l l' ∧ ∀ w2 : World, w2.heap = w.heap → (Builtin.firstCells z n x').run P w2 = .ok ⟨l'⟩ w2 := by
  unfold AM.firstCells at h
  split at h
  · rename_i a len cap
    obtain ⟨i, a', cap', rfl, hs, hb, hb', hs', hor⟩ := hx.slice_inv
    split at h
    · rename_i h0
      cases h
      have h0 := Nat.eq_of_beq_eq_true h0
      subst h0
      exact ⟨[], LR.nil ρ, fun w2 _ => by simp [Builtin.firstCells, load_zero]⟩
    · rename_i h0
      split at h
      · cases h
      · rename_i hle
        simp only [Bool.not_eq_true', Bool.not_eq_false] at hle
        have hle := Nat.le_of_ble_eq_true hle
        have hn : n ≠ 0 := by rintro rfl; simp at h0
        rcases hor with ⟨rfl, _⟩ | ⟨rfl, _, _⟩
        · split at h
          · rename_i c el z' fz op _ hg
            obtain ⟨o', ho, hor⟩ := k.obj _ _ _ hg hb
            obtain ⟨c', fr, rfl, _, _, _, _, _, hc, _⟩ := hor.cells_inv
            obtain ⟨l', h1, h2, _, h3⟩ := run_cells2 (P := P) (blk := i.blk) (el := el) (fr := fr) hc h
            exact ⟨l', h1, fun w2 hw => by simpa [Builtin.firstCells] using h3 w2 (by rw [hw]; exact ho)⟩
          · cases h
        · omega
  · cases h; cases hx.slice_none; exact ⟨[], LR.nil ρ, fun w2 _ => by simp [Builtin.firstCells]⟩
  · rename_i s
    cases hx.str_inv; cases h
    refine ⟨(s.data.toList.take n).map fun b => .int .u8 b.toNat, LR.refl_flat (by intro v hv; obtain ⟨b, _, rfl⟩ := List.mem_map.1 hv; rfl), fun w2 _ => ?_⟩
    simp only [Builtin.firstCells, Sem.run_pure]
    congr 1
    apply Array.ext'
    simp [ByteArray.data_extract]
  · cases h

theorem appendV_slice {e : Nat} {s : Value} {new : List Value} {n : Nat} {v : Value} {H' : Hp} (h : appendV P H e s new n = .val v H') : ∃ base sLen sCap, s = .slice base sLen sCap := by
  unfold appendV at h
  split at h
  · exact ⟨_, _, _, rfl⟩
  · cases h

theorem VR.slice_form {base : Option Addr} {len cap : Nat} {s' : Value} (hs : VR ρ (.slice base len cap) s') : ∃ base' cap', s' = .slice base' len cap' := by
  cases base with
  | none => exact ⟨none, cap, hs.slice_none⟩
  | some a =>
    obtain ⟨i, a', cap', h1, _⟩ := hs.slice_inv
    exact ⟨some a', cap', h1⟩

theorem append_ok (k : HR ρ H w.heap) {ts : List Nat} {ty : Nat} {args args' : List Value} {v : Value} {H' : Hp} (h : appendB P H ts args = .val v H') (hl : LR ρ args args') {m : Nat} (hm : m ≤ H.nxt) :
    ValR P m ρ H w v H' (Builtin.append_ ⟨ts⟩ ty ⟨args'⟩) := by
  unfold appendB at h
  split at h
  rotate_left
  · cases h
  rename_i t xT r s x
  obtain ⟨s', r', rfl, hs, hr⟩ := hl.cons_inv
  obtain ⟨x', r', rfl, hx, hr⟩ := hr.cons_inv
  cases hr.nil_inv
  split at h
  rotate_left
  · cases h
  rename_i e hu
  split at h
  rotate_left
  · cases h
  rename_i z by_ hz hb
  obtain ⟨i, hi, hib⟩ := run_bytes hb
  split at h
  · cases h
  · rename_i kx hux
    split at h
    rotate_left
    · cases h
    rename_i n
    cases hx.int_inv
    split at h
    rotate_left
    · cases h
    rename_i zv hzv
    split at h
    rotate_left
    · cases h
    rename_i hc
    simp only [Bool.and_eq_true] at hc
    have c1 := Nat.le_of_ble_eq_true hc.1.1.1
    have c2 := Nat.le_of_ble_eq_true hc.1.1.2
    have c3 := Nat.le_of_ble_eq_true hc.1.2
    have c4 : zv.cells.size = z := by have := Nat.eq_of_beq_eq_true hc.2; simpa using this
    obtain ⟨base, sLen, sCap, rfl⟩ := appendV_slice h
    have happ : ∀ w2 : World, w2.heap = w.heap → (if n * z = 0 then pure #[] else do pure (Builtin.zeroCells (← zeroValue e).cells n) : Sem (Array Value)).run P w2 = .ok ⟨rep n zv.cells.toList⟩ w2 := by
      intro w2 _
      by_cases q : n * z = 0
      · have hn0 : n = 0 := by rcases Nat.mul_eq_zero.1 q with q | q <;> omega
        subst hn0
        simp [rep]
      · simp only [q, if_false, Sem.run_bind, run_zero (w := w2) hzv, Result.andThen_ok, Sem.run_pure, zeroCells_eq]
    obtain ⟨base', cap', rfl⟩ := hs.slice_form
    have hw : IntKind.i64.wrap (Int.ofNat n) = (n : Int) := IntWalk.i64_in (Int.ofNat n) ⟨Int.le_trans (by decide) (Int.natCast_nonneg n), Int.le_trans (Int.ofNat_le.2 c1) (by decide)⟩
    have hneg : ¬ ((n : Int) < 0) := by omega
    have hby : ¬ ((n : Int) * (i.bytes : Int) > 2 ^ 48) := by
      rw [hib]
      have h9 : ((n * by_ : Nat) : Int) ≤ 1000000000 := Int.ofNat_le.2 c2
      rw [Int.natCast_mul] at h9
      generalize (n : Int) * (by_ : Int) = q at h9
      omega
    have e0 : (⟨t :: xT :: r⟩ : Array Nat)[0]? = some t := rfl
    have e1 : (⟨t :: xT :: r⟩ : Array Nat)[1]? = some xT := rfl
    have e2 : (⟨[.slice base' sLen cap', .int .i64 (Int.ofNat n)]⟩ : Array Value)[0]? = some (.slice base' sLen cap') := rfl
    have e3 : (⟨[.slice base' sLen cap', .int .i64 (Int.ofNat n)]⟩ : Array Value)[1]? = some (.int .i64 (Int.ofNat n)) := rfl
    refine tail_ok k hz hb hs (rep_LR (zero_LR hzv ρ) n) ⟨fun hfit w' h1 h2 => ?_, fun hno inf zv' nc old' q1 q2 q3 q4 q5 q6 => ?_⟩ h hm
    · have f1 := happ w rfl
      simp only [Builtin.append_, e0, e1, e2, e3, Sem.run_bind, run_under (w := w) hu, Result.andThen_ok, run_size (w := w) hz, run_under (w := w) hux, Sem.run_pure, if_true, asInt, asIntOf, hw, Sem.run_ite, hneg, if_false,
        run_info (w := w) hi, hby, Int.toNat_natCast, Bool.not_true, Bool.false_eq_true, hfit]
      simp only [Sem.run_ite, Sem.run_pure, Sem.run_bind] at f1
      rw [f1]
      simp only [Result.andThen_ok]
      cases base' with
      | none => rw [h2 rfl]; rfl
      | some a => simp only [Sem.run_bind, h1 a rfl, Result.andThen_ok, Sem.run_pure]
    · have f1 := happ (drewW w) rfl
      simp only [Builtin.append_, e0, e1, e2, e3, Sem.run_bind, run_under (w := w) hu, Result.andThen_ok, run_size (w := w) hz, run_under (w := w) hux, Sem.run_pure, if_true, asInt, asIntOf, hw, Sem.run_ite, hneg, if_false,
        run_info (w := w) hi, hby, Int.toNat_natCast, Bool.not_true, Bool.false_eq_true, hno]
      simp only [Sem.run_ite, Sem.run_pure, Sem.run_bind] at f1
      obtain rfl : inf = i := by
        have := q3 w
        rw [run_info (w := w) hi] at this
        exact (Result.ok.inj this).1.symm
      have g1 : ¬ (((sLen + n : Nat) : Int) > IntKind.i64.max) := by omega
      have g2 : ¬ (Builtin.nextslicecap (sLen + n) cap' * inf.bytes > 2 ^ 48) := by omega
      have g3 : (Question.appendCap (sLen + n) cap' e).forced = false := rfl
      have eW : ({ heap := w.heap, tape := w.tape, drawn := w.drawn + 1, os := w.os, output := w.output } : World) = drewW w := rfl
      have eA : ((⟨old'⟩ : Array Value) ++ (⟨rep n zv.cells.toList⟩ : Array Value) ++ Builtin.zeroCells zv'.cells (nc - (sLen + n))) = ⟨(old' ++ rep n zv.cells.toList) ++ (Builtin.zeroCells zv'.cells (nc - (sLen + n))).toList⟩ := by apply Array.ext'; simp
      have q3' := q3 (drewW w)
      have q4' := q4 (drewW w)
      simp only [g1, false_and, if_false, g2, run_choose, g3, Bool.false_eq_true, q5, Result.andThen_ok, eW, q3', run_askRoom, q6]
      rw [f1]
      simp only [Result.andThen_ok, q4', Go.newRow, Sem.run_bind, run_newObj, Sem.run_pure, eA]
      rfl
  · rename_i d hnd hux
    split at h
    rotate_left
    · cases h
    rename_i n hln
    split at h
    rotate_left
    · cases h
    rename_i new hnew
    obtain ⟨base, sLen, sCap, rfl⟩ := appendV_slice h
    obtain ⟨new', f2, hnew2⟩ := first_ok2 (P := P) k hnew hx
    have happ : ∀ w2 : World, w2.heap = w.heap → (Builtin.firstCells z n x').run P w2 = .ok ⟨new'⟩ w2 := by
      intro w2 hw2
      exact hnew2 w2 hw2
    obtain ⟨base', cap', rfl⟩ := hs.slice_form
    have e0 : (⟨t :: xT :: r⟩ : Array Nat)[0]? = some t := rfl
    have e1 : (⟨t :: xT :: r⟩ : Array Nat)[1]? = some xT := rfl
    have e2 : (⟨[.slice base' sLen cap', x']⟩ : Array Value)[0]? = some (.slice base' sLen cap') := rfl
    have e3 : (⟨[.slice base' sLen cap', x']⟩ : Array Value)[1]? = some x' := rfl
    have hni : (d matches .int _) = false := by cases d <;> first | rfl | exact (hnd _ rfl).elim
    refine tail_ok k hz hb hs f2 ⟨fun hfit w' h1 h2 => ?_, fun hno inf zv' nc old' q1 q2 q3 q4 q5 q6 => ?_⟩ h hm
    · have f1 := happ w rfl
      simp only [Builtin.append_, e0, e1, e2, e3, Sem.run_bind, run_under (w := w) hu, Result.andThen_ok, run_size (w := w) hz, run_under (w := w) hux, Sem.run_pure, Bool.false_eq_true, if_false, len_ok (P := P) (w := w) hln hx,
        Bool.not_false, if_true, Sem.run_ite, hfit, f1]
      cases base' with
      | none => rw [h2 rfl]; rfl
      | some a => simp only [Sem.run_bind, h1 a rfl, Result.andThen_ok, Sem.run_pure]
    · have f1 := happ (drewW w) rfl
      simp only [Builtin.append_, e0, e1, e2, e3, Sem.run_bind, run_under (w := w) hu, Result.andThen_ok, run_size (w := w) hz, run_under (w := w) hux, Sem.run_pure, Bool.false_eq_true, if_false, len_ok (P := P) (w := w) hln hx,
        Bool.not_false, if_true, Sem.run_ite, hno]
      have q3w := q3 w
      have g1 : ¬ (((sLen + n : Nat) : Int) > IntKind.i64.max) := by omega
      have g2 : ¬ (Builtin.nextslicecap (sLen + n) cap' * inf.bytes > 2 ^ 48) := by omega
      have g3 : (Question.appendCap (sLen + n) cap' e).forced = false := rfl
      have eW : ({ heap := w.heap, tape := w.tape, drawn := w.drawn + 1, os := w.os, output := w.output } : World) = drewW w := rfl
      have eA : ((⟨old'⟩ : Array Value) ++ (⟨new'⟩ : Array Value) ++ Builtin.zeroCells zv'.cells (nc - (sLen + n))) = ⟨(old' ++ new') ++ (Builtin.zeroCells zv'.cells (nc - (sLen + n))).toList⟩ := by apply Array.ext'; simp
      have q3' := q3 (drewW w)
      have q4' := q4 (drewW w)
      simp only [q3w, g1, false_and, if_false, g2, run_choose, g3, Bool.false_eq_true, q5, Result.andThen_ok, eW, q3', run_askRoom, q6, f1, q4', Go.newRow, Sem.run_bind, run_newObj, Sem.run_pure, eA]
      rfl

end
end Go.AM
