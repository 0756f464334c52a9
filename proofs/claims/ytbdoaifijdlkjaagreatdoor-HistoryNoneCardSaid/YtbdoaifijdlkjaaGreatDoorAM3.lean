/-
  AM3: reads and writes of memory, in both machines.
-/
import Derived.Test.YtbdoaifijdlkjaaGreatDoorAM2
import Derived.Laws.IdiomCopy
import Derived.Laws.Cells
namespace Go.AM
open Go

section
variable {P : Program} {w : World} {t : Nat}
theorem run_info {i : TypeInfo} (h : P.info? t = some i) : (typeInfo t).run P w = .ok i w := by simp [typeInfo, h]
theorem run_under {d : TypeDesc} (h : P.underlying t = some d) : (underlying t).run P w = .ok d w := run_underlying h w
theorem run_size {n : Nat} (h : szOf P t = some n) : (sizeOf t).run P w = .ok n w := by
  unfold szOf at h
  cases e : P.info? t with
  | none => simp [e] at h
  | some i => simp [e] at h; simp [sizeOf, run_info e, h]
theorem run_bytes {n : Nat} (h : byOf P t = some n) : ∃ i, P.info? t = some i ∧ i.bytes = n := by
  unfold byOf at h
  cases e : P.info? t with
  | none => simp [e] at h
  | some i => simp [e] at h; exact ⟨i, rfl, h⟩
theorem zero_info {v : Value} (h : zeroOf P t = some v) : (P.info? t).bind (·.zero) = some v ∧ v.cells.toList.all flatV = true ∧ (flatV v = true ∨ AM.oneCell v = false) := by
  unfold zeroOf at h
  split at h
  · rename_i v' e
    split at h
    · rename_i hc
      cases h
      simp only [Bool.and_eq_true, Bool.or_eq_true, Bool.not_eq_true'] at hc
      exact ⟨e, hc.1, hc.2⟩
    · cases h
  · cases h
theorem run_zero {v : Value} (h : zeroOf P t = some v) : (zeroValue t).run P w = .ok v w := by
  have h := (zero_info h).1
  cases e : P.info? t with
  | none => simp [e] at h
  | some i => simp [e] at h; simp [zeroValue, run_info e, h]
theorem zero_VR {v : Value} (h : zeroOf P t = some v) (ρ : Rn) : VR ρ v v := by
  obtain ⟨_, h1, h2⟩ := zero_info h
  rcases h2 with h2 | h2
  · exact .flat h2
  · cases v <;> simp [AM.oneCell] at h2
    · rename_i cs; exact .mk_agg (LR.refl_flat fun v hv => List.all_eq_true.1 h1 v hv)
    · rename_i cs; simp only [Value.cells, List.all_cons, List.all_nil, Bool.and_true] at h1; exact .flat h1
theorem zero_LR {v : Value} (h : zeroOf P t = some v) (ρ : Rn) : LR ρ v.cells.toList v.cells.toList := (zero_VR h ρ).cells
theorem run_agg {b : Bool} (h : aggT P t = some b) : (isAgg t).run P w = .ok b w := by
  unfold aggT at h
  cases e : P.underlying t with
  | none => simp [e] at h
  | some d => cases d <;> simp [e] at h <;> subst h <;> simp [isAgg, run_under e]
end

theorem oneCell_eq (v : Value) : AM.oneCell v = v.oneCell' := by cases v <;> rfl

theorem sub_some {c l : List Value} {off n : Nat} (h : sub c off n = some l) : off + n ≤ c.length ∧ l = (c.drop off).take n := by
  unfold sub at h
  cases hb : Nat.ble (off + n) c.length with
  | false => simp [hb] at h
  | true => simp [hb] at h; exact ⟨Nat.le_of_ble_eq_true hb, h.symm⟩

theorem add_none (b o n : Nat) : (⟨b, o, none⟩ : Addr).add n = ⟨b, o + n, none⟩ := by
  unfold Addr.add; split <;> simp_all

theorem cell_of {w : World} {b : Nat} {c : Array Value} {el : Nat} {fr : Nat × Nat} (h : w.heap[b]? = some (.cells c el fr)) (o : Nat) :
    w.cell? ⟨b, o, none⟩ = c[o]? := by simp [World.cell?, h]

theorem LR.get' {ρ : Rn} {c : List Value} {c' : Array Value} {sh n j : Nat} {v : Value} (h : LR ρ c ((c'.toList.drop sh).take n)) (e : c[j]? = some v) :
    ∃ v', c'[sh + j]? = some v' ∧ VR ρ v v' := by
  obtain ⟨v', h1, h2⟩ := h.get e
  refine ⟨v', ?_, h2⟩
  rw [List.getElem?_take] at h1
  split at h1
  · rw [List.getElem?_drop] at h1; rw [← Array.getElem?_toList]; exact h1
  · cases h1

/-- A run of related cells is read. -/
theorem run_cells {P : Program} {ρ : Rn} {w : World} {blk : Nat} {c : List Value} {c' : Array Value} {el : Nat} {fr : Nat × Nat} {sh : Nat} {l : List Value} {off n : Nat}
    (h : w.heap[blk]? = some (.cells c' el fr)) (hc : LR ρ c ((c'.toList.drop sh).take c.length)) (hs : sub c off n = some l) :
    ∃ l', LR ρ l l' ∧ l'.length = n ∧ (loadCells ⟨blk, sh + off, none⟩ n).run P w = .ok ⟨l'⟩ w := by
  obtain ⟨hle, rfl⟩ := sub_some hs
  have hl : ((c.drop off).take n).length = n := by simp; omega
  refine ⟨(((c'.toList.drop sh).take c.length).drop off).take n, (hc.drop off).take n, ?_, ?_⟩
  · rw [← ((hc.drop off).take n).1, hl]
  · have hlen : ((((c'.toList.drop sh).take c.length).drop off).take n).length = n := by rw [← ((hc.drop off).take n).1, hl]
    have := run_loadCells_list (P := P) w ⟨blk, sh + off, none⟩ ((((c'.toList.drop sh).take c.length).drop off).take n) (by
      intro j v hv
      rw [add_none, cell_of h]
      rw [List.getElem?_take] at hv
      split at hv
      · rw [List.getElem?_drop, List.getElem?_take] at hv
        split at hv
        · rw [List.getElem?_drop] at hv
          rw [← Array.getElem?_toList, show sh + off + j = sh + (off + j) by omega]; exact hv
        · cases hv
      · cases hv)
    rw [hlen] at this
    exact this

/-- The same, in whatever world that holds the block so. -/
theorem run_cells2 {P : Program} {ρ : Rn} {blk : Nat} {c : List Value} {c' : Array Value} {el : Nat} {fr : Nat × Nat} {sh : Nat} {l : List Value} {off n : Nat}
    (hc : LR ρ c ((c'.toList.drop sh).take c.length)) (hs : sub c off n = some l) :
    ∃ l', LR ρ l l' ∧ l'.length = n ∧ l' = (((c'.toList.drop sh).take c.length).drop off).take n ∧ ∀ w : World, w.heap[blk]? = some (.cells c' el fr) → (loadCells ⟨blk, sh + off, none⟩ n).run P w = .ok ⟨l'⟩ w := by
  obtain ⟨hle, rfl⟩ := sub_some hs
  have hl : ((c.drop off).take n).length = n := by simp; omega
  refine ⟨(((c'.toList.drop sh).take c.length).drop off).take n, (hc.drop off).take n, ?_, rfl, ?_⟩
  · rw [← ((hc.drop off).take n).1, hl]
  · intro w h
    have hlen : ((((c'.toList.drop sh).take c.length).drop off).take n).length = n := by rw [← ((hc.drop off).take n).1, hl]
    have := run_loadCells_list (P := P) w ⟨blk, sh + off, none⟩ ((((c'.toList.drop sh).take c.length).drop off).take n) (by
      intro j v hv
      rw [add_none, cell_of h]
      rw [List.getElem?_take] at hv
      split at hv
      · rw [List.getElem?_drop, List.getElem?_take] at hv
        split at hv
        · rw [List.getElem?_drop] at hv
          rw [← Array.getElem?_toList, show sh + off + j = sh + (off + j) by omega]; exact hv
        · cases hv
      · cases hv)
    rw [hlen] at this
    exact this

theorem VR.ptr_inv {ρ : Rn} {a : Addr} {v : Value} (h : VR ρ (.pointer (some a)) v) : ∃ i, a.spot = none ∧ ρ a.block = some i ∧ v = .pointer (some ⟨i.blk, i.sh + a.off, none⟩) := by
  cases h with
  | flat hf => simp [flatV] at hf
  | ptr hs hb => exact ⟨_, hs, hb, rfl⟩

theorem OR.cells_inv {ρ : Rn} {i : BI} {c : List Value} {el z : Nat} {fz op : Bool} {o' : Obj} (h : OR ρ i (.cells c el z fz op) o') :
    ∃ c' fr, o' = .cells c' el fr ∧ z = i.esz ∧ op = i.op ∧ i.n = c.length ∧ c'.size = i.room ∧ i.sh + i.n ≤ i.room ∧
      LR ρ c ((c'.toList.drop i.sh).take c.length) ∧ (fz = false → ∀ off, off < i.room → ¬ (fr.1 ≤ off ∧ off < fr.2)) := by
  cases h with
  | cells hn hr hle hc hf _ => exact ⟨_, _, rfl, rfl, rfl, hn, hr, hle, hc, hf⟩

theorem HR.closed {ρ : Rn} {H : Hp} {h : Array Obj} (k : HR ρ H h) (b : Nat) (i : BI) {c : List Value} {el z : Nat} {fz op : Bool} (_q : Unit) (hg : H.get b = some (.cells c el z fz op)) (hb : ρ b = some i) (ho : i.op = false) : i.sh = 0 ∧ i.room = i.n := by
  obtain ⟨o', _, hor⟩ := k.obj _ _ _ hg hb
  cases hor with
  | cells hn hr hle hc hf hcl => exact hcl ho

theorem load_ok {P : Program} {t : Nat} {ρ : Rn} {H : Hp} {w : World} (k : HR ρ H w.heap) {a : Addr} {v : Value} (h : AM.loadVar P H t a = some v) {p : Value} (hp : VR ρ (.pointer (some a)) p) :
    ∃ a' v', p = .pointer (some a') ∧ (Go.loadVar t a').run P w = .ok v' w ∧ VR ρ v v' := by
  obtain ⟨i, hs, hb, rfl⟩ := hp.ptr_inv
  unfold AM.loadVar at h
  split at h
  · rename_i c el z fz op hs' hg
    obtain ⟨o', ho, hor⟩ := k.obj _ _ _ hg hb
    obtain ⟨c', fr, rfl, _, _, hn, hr, hle, hc, _⟩ := hor.cells_inv
    refine ⟨⟨i.blk, i.sh + a.off, none⟩, ?_⟩
    split at h
    · rename_i n ha hz
      split at h
      · rename_i l hl
        cases h
        obtain ⟨l', h1, h2, h3⟩ := run_cells (P := P) ho hc hl
        exact ⟨.agg ⟨l'⟩, rfl, by simp [Go.loadVar, run_agg (w := w) ha, run_size (w := w) hz, h3], .mk_agg h1⟩
      · cases h
    · rename_i ha
      obtain ⟨v', h1, h2⟩ := hc.get' h
      refine ⟨v', rfl, ?_, h2⟩
      have : w.cell? ⟨i.blk, i.sh + a.off, none⟩ = some v' := by rw [cell_of ho]; exact h1
      simp [Go.loadVar, run_agg (w := w) ha, this]
    · cases h
  · cases h

/-! ### writes -/
theorem splice_length {c vs : List Value} {off : Nat} (h : off + vs.length ≤ c.length) : (splice c off vs).length = c.length := by
  unfold splice; simp; omega

theorem splice_get {c vs : List Value} {off : Nat} (h : off + vs.length ≤ c.length) (j : Nat) :
    (splice c off vs)[j]? = if off ≤ j ∧ j < off + vs.length then vs[j - off]? else c[j]? := by
  unfold splice
  by_cases h1 : j < off
  · rw [List.append_assoc, List.getElem?_append_left (by simp; omega), if_neg (by omega), List.getElem?_take, if_pos h1]
  · by_cases h2 : j < off + vs.length
    · rw [List.append_assoc, List.getElem?_append_right (by simp; omega), List.getElem?_append_left (by simp; omega), if_pos (by omega)]
      simp; congr 1; omega
    · rw [List.getElem?_append_right (by simp; omega), if_neg (by omega), List.getElem?_drop]
      congr 1; simp; omega

theorem setCells_heap {b el : Nat} {fr : Nat × Nat} : ∀ (vs : List Value) (o : Nat) (c : Array Value) (w : World), w.heap[b]? = some (.cells c el fr) → o + vs.length ≤ c.size →
    w.setCells b o vs = setW w b (.cells ⟨splice c.toList o vs⟩ el fr)
  | [], o, c, w, h, _ => by
    simp only [World.setCells, setW, splice, List.append_nil, List.length_nil, Nat.add_zero, List.take_append_drop]
    have hb := (Array.getElem?_eq_some_iff.1 h)
    cases w with
    | mk heap tape drawn os output =>
      congr 1
      apply Array.ext_getElem?
      intro j
      rw [set_get _ hb.1]
      by_cases e : j = b
      · subst e; simp; exact h
      · simp [e]
  | v :: vs, o, c, w, h, hl => by
    have hb := (Array.getElem?_eq_some_iff.1 h)
    have hlt : o < c.size := by simp at hl; omega
    have e1 : w.setCell ⟨b, o, none⟩ v = setW w b (.cells (c.setIfInBounds o v) el fr) := by
      cases w with
      | mk heap tape drawn os output =>
        unfold World.setCell setW
        congr 1
        apply Array.ext_getElem?
        intro j
        rw [set_get _ hb.1, Array.getElem?_modify]
        by_cases e : b = j
        · subst e; simp at h; simp [h]
        · have : ¬ j = b := fun q => e q.symm
          simp [e, this]
    rw [World.setCells, e1]
    have h2 : (setW w b (.cells (c.setIfInBounds o v) el fr)).heap[b]? = some (.cells (c.setIfInBounds o v) el fr) := by simp [setW, set_get _ hb.1]
    rw [setCells_heap vs (o + 1) _ _ h2 (by simp at hl ⊢; omega)]
    have e3 : splice (c.setIfInBounds o v).toList (o + 1) vs = splice c.toList o (v :: vs) := by
      apply List.ext_getElem?
      intro j
      rw [splice_get (by simp at hl ⊢; omega), splice_get (by simpa using hl)]
      simp only [Array.getElem?_toList, Array.getElem?_setIfInBounds, List.length_cons]
      by_cases q : j = o
      · subst q; rw [if_neg (by omega), if_pos (by omega)]; simp [hlt]
      · by_cases q1 : o + 1 ≤ j ∧ j < o + 1 + vs.length
        · rw [if_pos q1, if_pos (by omega), show j - o = (j - (o + 1)) + 1 by omega]; simp
        · have q2 : ¬ o = j := fun e => q e.symm
          rw [if_neg q1, if_neg q2, if_neg (by omega)]
    rw [e3]
    simp only [setW, Array.setIfInBounds_setIfInBounds]

/-- A row of cells is written into a living block that is not frozen. -/
theorem run_write {P : Program} {w : World} {b el o : Nat} {fr : Nat × Nat} {c : Array Value} {vs : List Value} (h : w.heap[b]? = some (.cells c el fr)) (hl : o + vs.length ≤ c.size)
    (hf : ∀ off, off < c.size → ¬ (fr.1 ≤ off ∧ off < fr.2)) (h1 : ∀ v ∈ vs, v.oneCell' = true) :
    (storeCells ⟨b, o, none⟩ vs).run P w = .ok () (setW w b (.cells ⟨splice c.toList o vs⟩ el fr)) := by
  have := run_storeCells_cells (P := P) b o vs 0 w (fun j hj => by
      rw [cell_of h, show o + 0 + j = o + j by omega]
      rw [Option.isSome_iff_exists]; exact ⟨c[o + j]'(by omega), by simp⟩)
    (fun j hj => by
      unfold World.frozen?
      simp only [h]
      have := hf (o + 0 + j) (by omega)
      simp only [Bool.and_eq_false_imp, decide_eq_true_eq, decide_eq_false_iff_not]
      intro q q2; exact this ⟨q, q2⟩) h1
  rw [show o + 0 = o by omega] at this
  rw [setCells_heap vs o c w h hl] at this
  exact this

theorem LR.splice {ρ : Rn} {c : List Value} {c' : List Value} {sh : Nat} {vs vs' : List Value} {off : Nat} (hc : LR ρ c ((c'.drop sh).take c.length)) (hle : sh + c.length ≤ c'.length)
    (hv : LR ρ vs vs') (ho : off + vs.length ≤ c.length) : LR ρ (splice c off vs) (((AM.splice c' (sh + off) vs').drop sh).take (splice c off vs).length) := by
  have hl' : sh + off + vs'.length ≤ c'.length := by rw [← hv.1]; omega
  rw [splice_length ho]
  refine LR.of_get ?_ ?_
  · rw [splice_length ho]; simp [splice_length hl']; omega
  · intro j hj hj'
    rw [splice_length ho] at hj
    have e1 : (AM.splice c off vs)[j]? = if off ≤ j ∧ j < off + vs.length then vs[j - off]? else c[j]? := splice_get ho j
    have e2 : (((AM.splice c' (sh + off) vs').drop sh).take c.length)[j]? = if off ≤ j ∧ j < off + vs.length then vs'[j - off]? else ((c'.drop sh).take c.length)[j]? := by
      rw [List.getElem?_take, if_pos hj, List.getElem?_drop, splice_get hl', List.getElem?_take, if_pos hj, List.getElem?_drop, ← hv.1]
      by_cases q : off ≤ j ∧ j < off + vs.length
      · rw [if_pos (by omega), if_pos q]; congr 1; omega
      · rw [if_neg (by omega), if_neg q]
    by_cases q : off ≤ j ∧ j < off + vs.length
    · rw [if_pos q] at e1 e2
      have hq : j - off < vs.length := by omega
      obtain ⟨v', h1, h2⟩ := hv.get (j := j - off) (v := vs[j - off]) (by simp)
      rw [h1] at e2
      rw [List.getElem?_eq_getElem hq] at e1
      have a1 := List.getElem_eq_iff (h := by rw [splice_length ho]; exact hj) |>.2 e1
      have a2 := List.getElem_eq_iff (h := hj') |>.2 e2
      rw [a1, a2]; exact h2
    · rw [if_neg q] at e1 e2
      obtain ⟨v', h1, h2⟩ := hc.get (j := j) (v := c[j]) (by simp)
      rw [h1] at e2
      rw [List.getElem?_eq_getElem hj] at e1
      have a1 := List.getElem_eq_iff (h := by rw [splice_length ho]; exact hj) |>.2 e1
      have a2 := List.getElem_eq_iff (h := hj') |>.2 e2
      rw [a1, a2]; exact h2

/-- A write of related cells, in both machines. -/
theorem write_ok {P : Program} {ρ : Rn} {H : Hp} {w : World} (k : HR ρ H w.heap) {b : Nat} {i : BI} (hb : ρ b = some i) {c : List Value} {el z : Nat} {op : Bool} (hg : H.get b = some (.cells c el z false op))
    {vs vs' : List Value} (hv : LR ρ vs vs') (h1 : vs.all AM.oneCell = true) {off : Nat} (ho : off + vs.length ≤ c.length) (m : Nat) :
    ∃ w', (storeCells ⟨i.blk, i.sh + off, none⟩ vs').run P w = .ok () w' ∧ HR ρ (H.set b (.cells (splice c off vs) el z false op)) w'.heap ∧
      Grw m ρ H w ρ (H.set b (.cells (splice c off vs) el z false op)) w' := by
  obtain ⟨o', ho', hor⟩ := k.obj _ _ _ hg hb
  obtain ⟨c', fr, rfl, rfl, rfl, hn, hr, hle, hc, hf⟩ := hor.cells_inv
  have hl' : i.sh + off + vs'.length ≤ c'.size := by rw [← hv.1, hr]; omega
  have hw := run_write (P := P) ho' hl' (fun off h => hf rfl off (hr ▸ h)) (by
    intro v hm
    obtain ⟨j, hj, rfl⟩ := List.getElem_of_mem hm
    have hj2 : j < vs.length := hv.1 ▸ hj
    obtain ⟨v', e1, e2⟩ := hv.get (j := j) (v := vs[j]) (by simp)
    rw [List.getElem?_eq_getElem hj] at e1; cases e1
    rw [← oneCell_eq, e2.oneCell]
    exact List.all_eq_true.1 h1 _ (List.getElem_mem hj2))
  have hor2 : OR ρ i (.cells (splice c off vs) el i.esz false i.op) (.cells ⟨AM.splice c'.toList (i.sh + off) vs'⟩ el fr) := by
    refine .cells (by rw [splice_length ho]; exact hn) ?_ hle ?_ hf (k.closed _ _ () hg hb)
    · show (AM.splice c'.toList (i.sh + off) vs').length = i.room
      rw [splice_length (by simpa using hl')]; simpa using hr
    · exact LR.splice hc (by simp [hr]; omega) hv ho
  obtain ⟨h1, h2⟩ := k.set hg hb hor2 m
  exact ⟨_, hw, h1, h2⟩

end Go.AM
