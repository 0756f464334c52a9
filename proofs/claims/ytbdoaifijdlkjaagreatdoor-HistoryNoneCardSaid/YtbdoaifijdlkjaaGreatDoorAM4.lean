/-
  AM4: operations that only reckon, and read: both machines come to related values.
-/
import Derived.Test.YtbdoaifijdlkjaaGreatDoorAM3
import Derived.Laws.StructEq
import Derived.WideLaws
namespace Go.AM
open Go

section
variable {P : Program} {ρ : Rn} {H : Hp} {w : World}

/-! ### parts and builds -/
theorem part_ok {t : Nat} {cs : List Value} {off : Nat} {v : Value} (h : AM.part P t cs off = some v) {cs' : List Value} (hc : LR ρ cs cs') :
    ∃ v', (Go.part t ⟨cs'⟩ off).run P w = .ok v' w ∧ VR ρ v v' := by
  unfold AM.part at h
  split at h
  · rename_i n ha hz
    cases h
    refine ⟨.agg ⟨(cs'.drop off).take n⟩, ?_, .mk_agg ((hc.drop off).take n)⟩
    simp only [Go.part, Sem.run_bind, run_agg (w := w) ha, Result.andThen_ok, if_true, run_size (w := w) hz, Sem.run_pure]
    congr 2
    apply Array.ext'
    simp
  · rename_i ha
    obtain ⟨v', h1, h2⟩ := hc.get h
    refine ⟨v', ?_, h2⟩
    have e : (⟨cs'⟩ : Array Value)[off]? = some v' := by rw [← Array.getElem?_toList]; exact h1
    simp [Go.part, run_agg (w := w) ha, e]
  · cases h

theorem foldl_splice (off : Nat) : ∀ (vs : List Value) (k : Nat) (cs : Array Value), off + k + vs.length ≤ cs.size →
    (vs.zipIdx k).foldl (fun (cs : Array Value) (c, j) => cs.setIfInBounds (off + j) c) cs = ⟨splice cs.toList (off + k) vs⟩
  | [], k, cs, _ => by
    apply Array.ext'
    simp [splice]
  | v :: vs, k, cs, h => by
    simp only [List.zipIdx_cons, List.foldl_cons]
    rw [foldl_splice off vs (k + 1) _ (by simp at h ⊢; omega)]
    apply Array.ext'
    show splice (cs.setIfInBounds (off + k) v).toList (off + (k + 1)) vs = splice cs.toList (off + k) (v :: vs)
    simp only [List.length_cons] at h
    apply List.ext_getElem?
    intro j
    rw [splice_get (by simp; omega), splice_get (by simp; omega)]
    simp only [Array.getElem?_toList, Array.getElem?_setIfInBounds, List.length_cons]
    by_cases q : j = off + k
    · subst q; rw [if_neg (by omega), if_pos (by omega)]; simp; omega
    · have q2 : ¬ off + k = j := fun e => q e.symm
      by_cases q1 : off + (k + 1) ≤ j ∧ j < off + (k + 1) + vs.length
      · rw [if_pos q1, if_pos (by omega), show j - (off + k) = (j - (off + (k + 1))) + 1 by omega]; simp
      · rw [if_neg q1, if_neg q2, if_neg (by omega)]

theorem lr_splice0 {c c' vs vs' : List Value} {off : Nat} (hc : LR ρ c c') (hv : LR ρ vs vs') (ho : off + vs.length ≤ c.length) : LR ρ (splice c off vs) (splice c' off vs') := by
  have h := LR.splice (ρ := ρ) (c := c) (c' := c') (sh := 0) (vs := vs) (vs' := vs') (off := off) (by
    have : (c'.drop 0).take c.length = c' := by rw [List.drop_zero, hc.1, List.take_length]
    rw [this]; exact hc) (by rw [← hc.1]; omega) hv ho
  have : (((AM.splice c' (0 + off) vs').drop 0).take (AM.splice c off vs).length) = AM.splice c' off vs' := by
    rw [List.drop_zero, Nat.zero_add, splice_length ho]
    have e : (AM.splice c' off vs').length = c.length := by rw [splice_length (by rw [← hv.1, ← hc.1]; exact ho), hc.1]
    rw [← e, List.take_length]
  rw [this] at h
  exact h

theorem fill_ok {place place' : Nat → Option (Nat × Nat)} (hp : ∀ i x, place i = some x → place' i = some x) : ∀ {parts parts' : List (Nat × Value)} {c c' r : List Value}, LR ρ c c' →
    L2 (fun p q => q.1 = p.1 ∧ VR ρ p.2 q.2) parts parts' → AM.fill place c parts = some r → ∃ r', Instr.fill place' ⟨c'⟩ parts' = some ⟨r'⟩ ∧ LR ρ r r' := by
  intro parts parts' c c' r hc hl h
  induction hl generalizing c c' with
  | nil => simp only [AM.fill] at h; cases h; exact ⟨c', rfl, hc⟩
  | cons ha hl ih =>
    rename_i a b l m
    obtain ⟨i, v⟩ := a
    obtain ⟨i', v'⟩ := b
    obtain ⟨hi, hv⟩ := ha
    simp only at hi hv
    subst hi
    simp only [AM.fill] at h
    split at h
    · cases h
    · rename_i off size hpl
      split at h
      · rename_i hcond
        simp only [Bool.and_eq_true, decide_eq_true_eq] at hcond
        obtain ⟨e1, e2⟩ := hcond
        have e2 := Nat.le_of_ble_eq_true e2
        have hvc := hv.cells
        have hle : off + v.cells.toList.length ≤ c.length := by rw [e1]; exact e2
        obtain ⟨r', h1, h2⟩ := ih (lr_splice0 hc hvc hle) h
        refine ⟨r', ?_, h2⟩
        simp only [Instr.fill, hp _ _ hpl]
        have s1 : v'.cells.size = size := by rw [← Array.length_toList, ← hvc.1, e1]
        have s2 : ¬ (⟨c'⟩ : Array Value).size < off + v'.cells.size := by
          show ¬ c'.length < _
          rw [s1, ← hc.1]; omega
        have hf := foldl_splice off v'.cells.toList 0 ⟨c'⟩ (by
          show off + 0 + v'.cells.toList.length ≤ c'.length
          rw [← hvc.1, ← hc.1]; omega)
        rw [show off + 0 = off by omega] at hf
        have hz : (v'.cells.zipIdx.foldl (fun (cs : Array Value) (c, j) => cs.setIfInBounds (off + j) c) ⟨c'⟩) = ⟨splice c' off v'.cells.toList⟩ := by
          rw [← Array.foldl_toList, Array.toList_zipIdx]
          exact hf
        simp only [s1, ne_eq, not_true_eq_false, decide_false, Bool.false_or, gt_iff_lt]
        rw [if_neg (by rw [← s1]; simpa using s2)]
        rw [hz]
        exact h1
      · cases h

theorem run_mapM_list {α β : Type} (f : α → Sem β) (g : α → β) : ∀ (l : List α) (w : World), (∀ a ∈ l, ∀ w, (f a).run P w = .ok (g a) w) → (l.mapM f).run P w = .ok (l.map g) w
  | [], w, _ => by simp
  | a :: l, w, h => by
    rw [List.mapM_cons]
    simp only [Sem.run_bind, h a (by simp) w, Result.andThen_ok, run_mapM_list f g l w (fun b hb => h b (by simp [hb])), Sem.run_pure, List.map_cons]

theorem run_mapM_arr {α β : Type} (f : α → Sem β) (g : α → β) (as : Array α) (h : ∀ a ∈ as.toList, ∀ w, (f a).run P w = .ok (g a) w) : (as.mapM f).run P w = .ok (as.map g) w := by
  rw [Array.mapM_eq_mapM_toList]
  simp only [Sem.run_map, run_mapM_list f g as.toList w h, Result.andThen_ok]
  congr 1
  apply Array.ext'
  simp

theorem build_ok {t : Nat} {parts parts' : List (Nat × Value)} (hl : L2 (fun p q => q.1 = p.1 ∧ VR ρ p.2 q.2) parts parts') {v : Value} (h : AM.build P t parts = some v) :
    ∃ v', (Instr.build t ⟨parts'⟩).run P w = .ok v' w ∧ VR ρ v v' := by
  unfold AM.build at h
  split at h
  · rename_i z fs hz hu
    split at h
    · cases h
    · rename_i hall
      simp only [Bool.not_eq_true', Bool.not_eq_false] at hall
      cases hf : AM.fill (fun i => (fs.toList[i]?).bind fun f => (szOf P f.type).map fun s => (f.offset, s)) z.cells.toList parts with
      | none => rw [hf] at h; cases h
      | some r =>
        rw [hf] at h; cases h
        have hm := run_mapM_arr (P := P) (w := w) (fun f : Field => do pure (f.offset, ← sizeOf f.type)) (fun f => (f.offset, (szOf P f.type).getD 0)) fs (by
          intro f hf w
          have := List.all_eq_true.1 hall f hf
          obtain ⟨n, hn⟩ := Option.isSome_iff_exists.1 this
          simp [run_size (w := w) hn, hn])
        have zz : (⟨z.cells.toList⟩ : Array Value) = z.cells := rfl
        obtain ⟨r', h1, h2⟩ := fill_ok (place' := ((fs.map fun f => (f.offset, (szOf P f.type).getD 0))[·]?)) (by
          intro i x hx
          rw [← Array.getElem?_toList] at *
          simp only [Array.toList_map, List.getElem?_map]
          cases hi : fs.toList[i]? with
          | none => simp [hi] at hx
          | some f =>
            simp only [hi, Option.bind_some] at hx
            cases hn : szOf P f.type with
            | none => simp [hn] at hx
            | some n => simp [hn] at hx; subst hx; simp [hn]) (zero_LR hz ρ) hl hf
        rw [zz] at h1
        refine ⟨.agg ⟨r'⟩, ?_, .mk_agg h2⟩
        unfold Instr.build
        simp only [Sem.run_bind, run_zero (w := w) hz, Result.andThen_ok, run_under (w := w) hu, hm, h1, Sem.run_pure]
  · rename_i z n e hz hu
    split at h
    · rename_i s hs
      cases hf : AM.fill (fun i => some (i * s, s)) z.cells.toList parts with
      | none => rw [hf] at h; cases h
      | some r =>
        rw [hf] at h; cases h
        have zz : (⟨z.cells.toList⟩ : Array Value) = z.cells := rfl
        obtain ⟨r', h1, h2⟩ := fill_ok (place' := fun i => some (i * s, s)) (fun i x hx => hx) (zero_LR hz ρ) hl hf
        rw [zz] at h1
        refine ⟨.agg ⟨r'⟩, ?_, .mk_agg h2⟩
        unfold Instr.build
        simp only [Sem.run_bind, run_zero (w := w) hz, Result.andThen_ok, run_under (w := w) hu, run_size (w := w) hs, h1, Sem.run_pure]
    · cases h
  · cases h

end
end Go.AM
