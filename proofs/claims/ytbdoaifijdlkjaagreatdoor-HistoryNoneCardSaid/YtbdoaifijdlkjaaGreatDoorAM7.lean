/-
  AM7: conversions, slices, indexes, maps that are read.
-/
import Derived.Test.YtbdoaifijdlkjaaGreatDoorAM6
namespace Go.AM
open Go

section
variable {P : Program} {ρ : Rn} {H : Hp} {w : World}

theorem blt_lt {a b : Nat} (h : Nat.blt a b = true) : a < b := by rw [Nat.blt_eq] at h; exact h

theorem unOp_ok {op : UnOp} {x x' v : Value} (h : AM.unOp op x = some v) (hx : VR ρ x x') : (Op.unary op x').run P w = .ok v w ∧ flatV v = true := by
  unfold AM.unOp at h
  split at h
  · cases hx.int_inv; cases h; exact ⟨by simp [Op.unary, Op.intArith], rfl⟩
  · rename_i k n
    cases hx.int_inv; cases h
    refine ⟨?_, rfl⟩
    rw [bitsOf_eq k _ n Nat.xor (fun x y => x ^^^ y) (fun x y => rfl)]
    simp [Op.unary, Op.intBits]
  · cases hx.bool_inv; cases h; exact ⟨by simp [Op.unary], rfl⟩
  · cases h

theorem bytes_vals : ∀ {l l' : List Value} {bs : List UInt8}, bytesOfVals l = some bs → LR ρ l l' → l' = l
  | [], l', bs, _, hl => hl.nil_inv
  | v :: l, l', bs, h, hl => by
    obtain ⟨v', m, rfl, hv, hm⟩ := hl.cons_inv
    unfold bytesOfVals at h
    split at h
    · rename_i e; cases e
    · rename_i b l2 e
      cases e
      cases hv.int_inv
      split at h
      · rename_i bs' hb
        rw [bytes_vals hb hm]
      · cases h
    · cases h

theorem loop_bytes (f : Value → ByteArray → Sem (ForInStep ByteArray)) (hf : ∀ n s, f (.int .u8 n) s = pure (.yield (s.push (UInt8.ofNat n.toNat)))) :
    ∀ {l : List Value} {bs : List UInt8} (s : ByteArray), bytesOfVals l = some bs → (forIn l s f).run P w = .ok ⟨⟨s.data.toList ++ bs⟩⟩ w
  | [], bs, s, h => by
    simp only [bytesOfVals] at h; cases h
    simp
  | v :: l, bs, s, h => by
    unfold bytesOfVals at h
    split at h
    · rename_i e; cases e
    · rename_i b l2 e
      cases e
      split at h
      · rename_i bs' hb
        cases h
        simp only [List.forIn_cons, hf, Sem.run_bind, Sem.run_pure, Result.andThen_ok]
        rw [loop_bytes f hf _ hb]
        simp [ByteArray.push]
      · cases h
    · cases h

theorem load_zero (a : Addr) : (loadCells a 0).run P w = .ok #[] w := rfl

theorem VR.slice_inv {a : Addr} {len cap : Nat} {v : Value} (h : VR ρ (.slice (some a) len cap) v) :
    ∃ i a' cap', v = .slice (some a') len cap' ∧ a.spot = none ∧ ρ a.block = some i ∧ a'.block = i.blk ∧ a'.spot = none ∧
      ((a' = ⟨i.blk, i.sh + a.off, none⟩ ∧ (cap' = cap ∨ (i.op = true ∧ a.off + cap * i.esz = i.n ∧ i.sh + a.off + cap' * i.esz ≤ i.room ∧ cap ≤ cap'))) ∨ (len = 0 ∧ cap = 0 ∧ cap' = 0)) := by
  cases h with
  | flat hf => simp [flatV] at hf
  | slice hs hb hx => exact ⟨_, _, _, rfl, hs, hb, rfl, rfl, .inl ⟨rfl, hx⟩⟩
  | slice0 hs hb h1 h2 => exact ⟨_, _, _, rfl, hs, hb, h1, h2, .inr ⟨rfl, rfl, rfl⟩⟩

theorem VR.slice_none {len cap : Nat} {v : Value} (h : VR ρ (.slice none len cap) v) : v = .slice none len cap := h.flat_inv rfl

/-- The first cells of a slice or a text. -/
theorem first_ok (k : HR ρ H w.heap) {z n : Nat} {x x' : Value} {l : List Value} (h : AM.firstCells H z n x = some l) (hx : VR ρ x x') :
    ∃ l', (Builtin.firstCells z n x').run P w = .ok ⟨l'⟩ w ∧ LR ρ l l' ∧ l'.length = l.length := by
  unfold AM.firstCells at h
  split at h
  · rename_i a len cap
    obtain ⟨i, a', cap', rfl, hs, hb, hb', hs', hor⟩ := hx.slice_inv
    split at h
    · rename_i h0
      cases h
      have h0 := Nat.eq_of_beq_eq_true h0
      subst h0
      exact ⟨[], by simp [Builtin.firstCells, load_zero], LR.nil ρ, rfl⟩
    · rename_i h0
      split at h
      · cases h
      · rename_i hle
        simp only [Bool.not_eq_true', Bool.not_eq_false] at hle
        have hle := Nat.le_of_ble_eq_true hle
        have hn : n ≠ 0 := by rintro rfl; simp at h0
        rcases hor with ⟨rfl, _⟩ | ⟨rfl, _, _⟩
        · split at h
          · rename_i c el z' fz op _ hg
            obtain ⟨o', ho, hor⟩ := k.obj _ _ _ hg hb
            obtain ⟨c', fr, rfl, _, _, _, _, _, hc, _⟩ := hor.cells_inv
            obtain ⟨l', h1, h2, h3⟩ := run_cells (P := P) ho hc h
            exact ⟨l', by simpa [Builtin.firstCells] using h3, h1, h1.1.symm⟩
          · cases h
        · omega
  · cases h; cases hx.slice_none; exact ⟨[], by simp [Builtin.firstCells], LR.nil ρ, rfl⟩
  · rename_i s
    cases hx.str_inv; cases h
    refine ⟨(s.data.toList.take n).map fun b => .int .u8 b.toNat, ?_, LR.refl_flat (by intro v hv; obtain ⟨b, _, rfl⟩ := List.mem_map.1 hv; rfl), rfl⟩
    simp only [Builtin.firstCells, Sem.run_pure]
    congr 1
    apply Array.ext'
    simp [ByteArray.data_extract]
  · cases h

theorem len_ok {x x' : Value} {n : Nat} (h : AM.lenOf x = some n) (hx : VR ρ x x') : (Builtin.lenOf x').run P w = .ok n w := by
  unfold AM.lenOf at h
  split at h
  · rename_i o _ _
    cases h
    cases o with
    | none => cases hx.slice_none; simp [Builtin.lenOf]
    | some a => obtain ⟨i, a', cap', rfl, _⟩ := hx.slice_inv; simp [Builtin.lenOf]
  · cases hx.str_inv; cases h; simp [Builtin.lenOf]
  · cases h

theorem convertP_ok (k : HR ρ H w.heap) {src dst : Nat} {x x' v : Value} (h : convertP P H src dst x = some v) (hx : VR ρ x x') :
    ∃ v', (Go.convert src dst x').run P w = .ok v' w ∧ VR ρ v v' := by
  unfold convertP at h
  split at h
  · rename_i d k _ n hs hd
    cases hx.int_inv; cases h
    exact ⟨_, by simp [Go.convert, run_under (w := w) hs, run_under (w := w) hd, Conv.intToInt], .flat rfl⟩
  · rename_i d _ n hs hd
    cases hx.int_inv; cases h
    exact ⟨_, by simp [Go.convert, run_under (w := w) hs, run_under (w := w) hd, Conv.intToString], .flat rfl⟩
  · rename_i d s hs hd
    cases hx.str_inv; cases h
    exact ⟨_, by simp [Go.convert, run_under (w := w) hs, run_under (w := w) hd], .flat rfl⟩
  · rename_i x e hs hd hni hns
    split at h
    · rename_i he
      cases h; cases hx.slice_none
      exact ⟨_, by simp [Go.convert, run_under (w := w) hs, run_under (w := w) hd, run_under (w := w) he, Conv.bytesToString], .flat rfl⟩
    · rename_i a n cap he
      split at h
      · rename_i l hl
        split at h
        · rename_i bs hb
          cases h
          obtain ⟨i, a', cap', rfl, hs', hbk, hb', hs2, hor⟩ := hx.slice_inv
          have hx2 : VR ρ (.slice (some a) n n) (.slice (some a') n (if n = 0 then 0 else n)) := by
            rcases hor with ⟨rfl, _⟩ | ⟨rfl, rfl, rfl⟩
            · by_cases hn : n = 0
              · subst hn; exact .slice0 hs' hbk rfl rfl
              · simp only [hn, if_false]; exact .slice hs' hbk (.inl rfl)
            · exact .slice0 hs' hbk hb' hs2
          obtain ⟨l', h1, h2, h3⟩ := first_ok (P := P) k hl hx2
          have e := bytes_vals hb h2
          subst e
          simp only [Builtin.firstCells, Nat.mul_one] at h1
          refine ⟨.string ⟨⟨bs⟩⟩, ?_, .flat rfl⟩
          simp only [Go.convert, Sem.run_bind, run_under (w := w) hs, run_under (w := w) hd, run_under (w := w) he, Result.andThen_ok, Conv.bytesToString, h1]
          rw [← Array.forIn_toList]
          rw [loop_bytes (P := P) (w := w) _ (fun _ _ => rfl) ByteArray.empty hb]
          simp
        · cases h
      · cases h
    · rename_i he
      cases h; cases hx.slice_none
      exact ⟨_, by simp [Go.convert, run_under (w := w) hs, run_under (w := w) hd, run_under (w := w) he, Conv.runesToString], .flat rfl⟩
    · cases h
  · rename_i e hs hd
    cases h; cases hx.ptr_none
    exact ⟨_, by simp [Go.convert, run_under (w := w) hs, run_under (w := w) hd, Conv.unsafePointer], .flat rfl⟩
  · rename_i e hs hd
    cases h; cases hx.ptr_none
    exact ⟨_, by simp [Go.convert, run_under (w := w) hs, run_under (w := w) hd, Conv.unsafePointer], .flat rfl⟩
  · rename_i t a hs hd
    split at h
    · rename_i n c el z fz op hz _ hg
      split at h
      · rename_i hlt
        cases h
        obtain ⟨i, hsp, hb, rfl⟩ := hx.ptr_inv
        obtain ⟨o', ho, hor⟩ := k.obj _ _ _ hg hb
        obtain ⟨c', fr, rfl, _, _, hn, hr, hle, hc, _⟩ := hor.cells_inv
        have hlt := blt_lt hlt
        have hsh : w.shape? i.blk = some (el, c'.size) := by simp [World.shape?, ho]
        refine ⟨_, ?_, hx⟩
        have hno : ¬ (i.sh + a.off ≥ c'.size) := by rw [hr]; omega
        simp [Go.convert, run_under (w := w) hs, run_under (w := w) hd, Conv.unsafePointer, Conv.seenAt, viewAt, hsh, cellsIn, run_size (w := w) hz, hno]
      · cases h
    · cases h
  · rename_i u a hs hd
    split at h
    · rename_i n c el z fz hz _ hg
      split at h
      · rename_i hl
        cases h
        obtain ⟨i, hsp, hb, rfl⟩ := hx.ptr_inv
        obtain ⟨o', ho, hor⟩ := k.obj _ _ _ hg hb
        obtain ⟨c', fr, rfl, _, hop, hn, hr, hle, hc, _⟩ := hor.cells_inv
        have hcl := k.closed _ _ () hg hb hop.symm
        have hsh : w.shape? i.blk = some (el, c'.size) := by simp [World.shape?, ho]
        refine ⟨_, ?_, hx⟩
        have hv : (variablesAt ⟨i.blk, i.sh + a.off, none⟩ u 1).run P w = .ok true w := by
          simp only [variablesAt, Sem.run_bind, run_program, Result.andThen_ok, run_shape, hsh, Sem.run_pure]
          rw [hr, hcl.2, hcl.1, Nat.zero_add, hn, hl]
        simp [Go.convert, run_under (w := w) hs, run_under (w := w) hd, Conv.unsafePointer, Conv.seenAt, viewAt, hsh, run_size (w := w) hz, hv]
      · cases h
    · cases h
  · cases h

end
end Go.AM
