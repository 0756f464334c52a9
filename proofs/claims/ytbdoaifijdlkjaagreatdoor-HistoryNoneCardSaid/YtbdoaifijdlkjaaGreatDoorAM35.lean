/-
  AM35: which functions a call may come to, reckoned in parts: each part a closed fact of its own, so that each fits in memory.
-/
import GoSem.ClaimGoes
namespace Go.AM
open Go

def leads (P : Program) (f : FuncId) : List FuncId := (P.funcs[f]?).elim [] P.leadsTo

/-- Some rounds: what is still to be looked at, and what was. -/
def viaTo (P : Program) : Nat → List FuncId → List FuncId → List FuncId × List FuncId
  | 0, t, s => (t, s)
  | _ + 1, [], s => ([], s)
  | n + 1, f :: t, s => if s.contains f then viaTo P n t s else viaTo P n (leads P f ++ t) (f :: s)

theorem via_nil {P : Program} (n : Nat) (s : List FuncId) : P.closureVia n [] s = s.reverse := by
  cases n <;> simp [Program.closureVia]

theorem via_split {P : Program} : ∀ (k n : Nat) (t s : List FuncId), P.closureVia (k + n) t s = P.closureVia n (viaTo P k t s).1 (viaTo P k t s).2
  | 0, n, t, s => by simp [viaTo]
  | k + 1, n, [], s => by simp [viaTo, via_nil]
  | k + 1, n, f :: t, s => by
    have e : P.closureVia (k + n + 1) (f :: t) s = if s.contains f then P.closureVia (k + n) t s else P.closureVia (k + n) (leads P f ++ t) (f :: s) := rfl
    rw [show k + 1 + n = (k + n) + 1 by omega, e]
    simp only [viaTo]
    split
    · exact via_split k n t s
    · exact via_split k n _ _

theorem viaTo_add {P : Program} : ∀ (k n : Nat) (t s : List FuncId), viaTo P (k + n) t s = viaTo P n (viaTo P k t s).1 (viaTo P k t s).2
  | 0, n, t, s => by simp [viaTo]
  | k + 1, n, [], s => by
    rw [show k + 1 + n = (k + n) + 1 by omega]
    simp only [viaTo]
    cases n <;> simp [viaTo]
  | k + 1, n, f :: t, s => by
    rw [show k + 1 + n = (k + n) + 1 by omega]
    simp only [viaTo]
    split
    · exact viaTo_add k n t s
    · exact viaTo_add k n _ _

/-- How many names are still to come, at most. -/
def leftL (P : Program) : List Func → Nat → List FuncId → Nat
  | [], _, _ => 0
  | g :: gs, i, s => (if s.contains i then 0 else (P.leadsTo g).length + 1) + leftL P gs (i + 1) s

theorem leftL_nil {P : Program} : ∀ (gs : List Func) (i : Nat), leftL P gs i [] = (gs.map fun g => (P.leadsTo g).length + 1).sum
  | [], _ => rfl
  | g :: gs, i => by simp [leftL, leftL_nil gs]

theorem leftL_le {P : Program} (f : FuncId) (s : List FuncId) : ∀ (gs : List Func) (i : Nat), leftL P gs i (f :: s) ≤ leftL P gs i s
  | [], _ => Nat.le_refl _
  | g :: gs, i => by
    have := leftL_le (P := P) f s gs (i + 1)
    simp only [leftL]
    by_cases h : s.contains i = true
    · have h2 : (f :: s).contains i = true := by simp only [List.contains_cons, h, Bool.or_true]
      rw [if_pos h, if_pos h2]; omega
    · rw [if_neg h]
      split <;> omega

theorem leftL_cons {P : Program} {f : FuncId} {s : List FuncId} (hf : s.contains f = false) : ∀ (gs : List Func) (i : Nat) (g : Func), i ≤ f → gs[f - i]? = some g → leftL P gs i (f :: s) + ((P.leadsTo g).length + 1) ≤ leftL P gs i s
  | [], _, _, _, h => by simp at h
  | g0 :: gs, i, g, hi, h => by
    simp only [leftL]
    by_cases e : f = i
    · subst e
      rw [Nat.sub_self] at h
      cases h
      have h2 : (f :: s).contains f = true := by simp
      have := leftL_le (P := P) f s gs (f + 1)
      rw [if_pos h2, if_neg (by rw [hf]; simp)]
      omega
    · have hlt : i < f := Nat.lt_of_le_of_ne hi (fun q => e q.symm)
      have h3 : gs[f - (i + 1)]? = some g := by
        have : f - i = (f - (i + 1)) + 1 := by rw [Nat.sub_add_eq, Nat.sub_add_cancel (Nat.sub_pos_of_lt hlt)]
        rw [this] at h
        simpa using h
      have ih := leftL_cons (P := P) hf gs (i + 1) g (Nat.lt_of_le_of_ne hi (fun q => e q.symm)) h3
      have h4 : (f :: s).contains i = s.contains i := by
        simp only [List.contains_cons]
        have : (i == f) = false := by simpa using fun q : i = f => e q.symm
        rw [this, Bool.false_or]
      rw [h4]
      omega

theorem via_enough {P : Program} : ∀ (n k : Nat) (t s : List FuncId), t.length + leftL P P.funcs.toList 0 s ≤ n → P.closureVia (n + k) t s = P.closureVia n t s
  | n, k, [], s, _ => by rw [via_nil, via_nil]
  | 0, k, f :: t, s, h => by simp at h
  | n + 1, k, f :: t, s, h => by
    rw [show n + 1 + k = (n + k) + 1 by omega]
    unfold Program.closureVia
    simp only [List.length_cons] at h
    split
    · exact via_enough n k t s (by omega)
    · rename_i hc
      have hc : s.contains f = false := by simpa using hc
      refine via_enough n k _ _ ?_
      cases hf : P.funcs[f]? with
      | none =>
        simp only [Option.elim_none, List.nil_append]
        have := leftL_le (P := P) f s P.funcs.toList 0
        omega
      | some g =>
        have h2 := leftL_cons (P := P) hc P.funcs.toList 0 g (Nat.zero_le _) (by rw [Nat.sub_zero]; simpa using hf)
        simp only [Option.elim_some, List.length_append]
        omega

/-- THE LAW: if k rounds leave nothing to be looked at, what was looked at is the whole. -/
theorem closure_of_via {P : Program} {f : FuncId} {k : Nat} {s : List FuncId} (h : viaTo P k [f] [] = ([], s)) : P.closure f = s.reverse := by
  unfold Program.closure
  generalize hN : 1 + (P.funcs.toList.map fun g => (P.leadsTo g).length + 1).sum = N
  have h1 := via_enough (P := P) N k [f] [] (by rw [leftL_nil, ← hN]; simp)
  rw [← h1, Nat.add_comm, via_split, h, via_nil]

theorem via_step {P : Program} {k n : Nat} {t s t1 s1 : List FuncId} {r : List FuncId × List FuncId} (h : viaTo P k t s = (t1, s1)) (h1 : viaTo P n t1 s1 = r) : viaTo P (k + n) t s = r := by
  rw [viaTo_add, h]; exact h1

/-! ### no goroutine is started -/
/-- A piece of the functions: none of them starts one. -/
def quietPart (P : Program) (n i : Nat) : Bool := ((P.funcs.toList.drop (i * n)).take n).all fun fn => !fn.goes

theorem all_parts {α : Type} {p : α → Bool} {l : List α} {n k : Nat} (hn : 0 < n) (h : ∀ i, i < k → ((l.drop (i * n)).take n).all p = true) (hl : l.length ≤ k * n) : ∀ x ∈ l, p x = true := by
  intro x hx
  obtain ⟨j, hj, rfl⟩ := List.getElem_of_mem hx
  have hi : j / n < k := by
    rw [Nat.div_lt_iff_lt_mul hn]; omega
  have h1 := List.all_eq_true.1 (h (j / n) hi)
  refine h1 _ ?_
  rw [List.mem_iff_getElem?]
  refine ⟨j % n, ?_⟩
  rw [List.getElem?_take, if_pos (Nat.mod_lt _ hn), List.getElem?_drop, Nat.mul_comm, Nat.div_add_mod]
  exact List.getElem?_eq_getElem hj

theorem goes_false {P : Program} {f : FuncId} {n k : Nat} (hn : 0 < n) (h : ∀ i, i < k → quietPart P n i = true) (hl : P.funcs.size ≤ k * n) : P.goes f = false := by
  have hall := all_parts (p := fun fn : Func => !fn.goes) hn h (by simpa using hl)
  have h1 : P.funcs.any Func.goes = false := by
    rw [Array.any_eq_false]
    intro i hi
    have := hall (P.funcs[i]) (by simp)
    simpa using this
  unfold Program.goes
  rw [h1, Bool.and_false, Bool.or_false, List.any_eq_false]
  intro g _
  cases hg : P.funcs[g]? with
  | none => simp
  | some fn =>
    have := hall fn (Array.mem_toList_iff.2 (Array.mem_of_getElem? hg))
    simpa using this

end Go.AM
