/-
  AM8: cutting slices; indexes; maps that are read; 'pure_ok'.
-/
import Derived.Test.YtbdoaifijdlkjaaGreatDoorAM7
namespace Go.AM
open Go

section
variable {P : Program} {ρ : Rn} {H : Hp} {w : World}

theorem natOf_inv {v : Value} {n : Nat} (h : natOf v = some n) : ∃ k, v = .int k (Int.ofNat n) := by
  unfold natOf at h
  split at h
  · cases h; exact ⟨_, rfl⟩
  · cases h

theorem bound_ok {v v' : Value} {n y : Nat} (h : natOf v = some n) (hv : VR ρ v v') (hn : n ≤ y) (code : BoundsCode) : (Instr.sliceBound v' y code).run P w = .ok n w := by
  obtain ⟨k, rfl⟩ := natOf_inv h
  cases hv.int_inv
  have : (0 : Int) ≤ Int.ofNat n ∧ Int.ofNat n ≤ (y : Int) := ⟨by simp, by simp; exact hn⟩
  simp [Instr.sliceBound, asIntOf]
  omega

/-- Related optional values. -/
inductive OV (ρ : Rn) : Option Value → Option Value → Prop where
  | none : OV ρ none none
  | some {v v' : Value} (h : VR ρ v v') : OV ρ (some v) (some v')

theorem bounds_ok {isS : Bool} {len cap cap' m h l : Nat} {lo hi mx lo' hi' mx' : Option Value} (h1 : OV ρ lo lo') (h2 : OV ρ hi hi') (h3 : OV ρ mx mx') (hm : optNat cap mx = some m) (hh : optNat len hi = some h)
    (hl : optNat 0 lo = some l) (c1 : m ≤ cap) (c2 : h ≤ m) (c3 : l ≤ h) (hc : cap ≤ cap') (hmh : mx = none ∨ hi ≠ none) :
    (Instr.sliceBounds isS len cap' lo' hi' mx').run P w = .ok (l, h, if mx = none then cap' else m) w := by
  unfold Instr.sliceBounds
  cases h3 with
  | none =>
    simp only [optNat] at hm; cases hm
    cases h2 with
    | none =>
      simp only [optNat] at hh; cases hh
      cases h1 with
      | none => simp only [optNat] at hl; cases hl; simp
      | some hv => simp only [optNat] at hl; simp [bound_ok (P := P) (w := w) hl hv c3]
    | some hv2 =>
      simp only [optNat] at hh
      cases h1 with
      | none => simp only [optNat] at hl; cases hl; simp [bound_ok (P := P) (w := w) (y := cap') hh hv2 (by omega)]
      | some hv => simp only [optNat] at hl; simp [bound_ok (P := P) (w := w) (y := cap') hh hv2 (by omega), bound_ok (P := P) (w := w) hl hv c3]
  | some hv3 =>
    simp only [optNat] at hm
    cases h2 with
    | none => rcases hmh with q | q <;> simp at q
    | some hv2 =>
      simp only [optNat] at hh
      cases h1 with
      | none => simp only [optNat] at hl; cases hl; simp [bound_ok (P := P) (w := w) (y := cap') hm hv3 (by omega), bound_ok (P := P) (w := w) hh hv2 c2]
      | some hv => simp only [optNat] at hl; simp [bound_ok (P := P) (w := w) (y := cap') hm hv3 (by omega), bound_ok (P := P) (w := w) hh hv2 c2, bound_ok (P := P) (w := w) hl hv c3]

theorem fits_ok {b z : Nat} (k : HR ρ H w.heap) {i : BI} (hb : ρ b = some i) (h : fitsRow H b z = true) : i.op = true → z = i.esz := by
  unfold fitsRow at h
  split at h
  · rename_i c el z' fz op hg
    obtain ⟨o', ho, hor⟩ := k.obj _ _ _ hg hb
    obtain ⟨c', fr, rfl, rfl, rfl, _⟩ := hor.cells_inv
    intro hop
    rw [hop] at h
    simpa using h
  · cases h

theorem cut_ok (k : HR ρ H w.heap) {a : Addr} {z l h m cap cap' : Nat} {i : BI} (_hs : a.spot = none) (hb : ρ a.block = some i) (hf : fitsRow H a.block z = true) (c1 : m ≤ cap) (c2 : h ≤ m) (c3 : l ≤ h)
    (hx : cap' = cap ∨ (i.op = true ∧ a.off + cap * i.esz = i.n ∧ i.sh + a.off + cap' * i.esz ≤ i.room ∧ cap ≤ cap')) (last : Bool) (hlast : last = true → m = cap) :
    VR ρ (.slice (some (addrOff a (l * z))) (h - l) (m - l))
      (.slice (some (if (if last then cap' else m) = l then ⟨i.blk, i.sh + a.off, none⟩ else (⟨i.blk, i.sh + a.off, none⟩ : Addr).add (l * z))) (h - l) ((if last then cap' else m) - l)) := by
  have hcc : cap ≤ cap' := by rcases hx with h | h <;> omega
  by_cases e : (if last then cap' else m) = l
  · rw [if_pos e, e]
    have hm : m = l := by cases last <;> simp at e <;> omega
    have : h - l = 0 := by omega
    rw [this, hm, Nat.sub_self]
    exact .slice0 rfl hb rfl rfl
  · rw [if_neg e, add_none, show i.sh + a.off + l * z = i.sh + (addrOff a (l * z)).off by simp [addrOff]; omega]
    refine .slice rfl hb ?_
    cases last with
    | false => exact .inl rfl
    | true =>
      have hm := hlast rfl
      subst hm
      simp only [if_true]
      rcases hx with h | ⟨h1, h2, h3, h4⟩
      · left; rw [h]
      · right
        have hz := fits_ok (w := w) k hb hf h1
        subst hz
        refine ⟨h1, ?_, ?_, by omega⟩
        · have : l * i.esz + (m - l) * i.esz = m * i.esz := by rw [← Nat.add_mul]; congr 1; omega
          simp only [addrOff]; omega
        · have : l * i.esz + (cap' - l) * i.esz = cap' * i.esz := by rw [← Nat.add_mul]; congr 1; omega
          simp only [addrOff]; omega

theorem sliceV_ok (k : HR ρ H w.heap) {t : Nat} {x x' v : Value} {lo hi mx lo' hi' mx' : Option Value} (h1 : OV ρ lo lo') (h2 : OV ρ hi hi') (h3 : OV ρ mx mx')
    (h : sliceV P H t x lo hi mx = some v) (hx : VR ρ x x') : ∃ v', (Instr.sliceAt t x' lo' hi' mx').run P w = .ok v' w ∧ VR ρ v v' := by
  unfold sliceV at h
  split at h
  · rename_i s hu
    cases hx.str_inv
    split at h
    · cases h
    · cases h3
      split at h
      · cases h
      · rename_i hh e
        split at h
        · cases h
        · rename_i l hl
          split at h
          · rename_i hc
            cases h
            simp only [Bool.and_eq_true] at hc
            have c1 := Nat.le_of_ble_eq_true hc.1
            have c2 := Nat.le_of_ble_eq_true hc.2
            have hb := bounds_ok (P := P) (w := w) (isS := false) (cap := s.size) (cap' := s.size) (m := s.size) h1 h2 OV.none (by simp [optNat]) e hl (Nat.le_refl _) c1 c2 (Nat.le_refl _) (.inl rfl)
            refine ⟨_, ?_, .flat rfl⟩
            simp only [Instr.sliceAt, Instr.slice, Sem.run_bind, run_under (w := w) hu, Result.andThen_ok]
            have e2 : s.data.toList.length = s.size := rfl
            rw [e2] at hb
            simp only [Option.isSome_none, Bool.false_eq_true, if_false, hb, Sem.run_bind, Result.andThen_ok, pure]
            simp only [Sem.run_pure']
            congr 2
            apply ByteArray.ext
            apply Array.ext'
            simp [ByteArray.data_extract, Array.toList_extract, List.drop_take]
          · cases h
  · rename_i e a len cap hu
    split at h
    · rename_i m hm
      split at h
      · rename_i hh e2
        split at h
        · rename_i l z hl hz
          split at h
          · rename_i hc
            simp only [Bool.and_eq_true] at hc
            have c1 := Nat.le_of_ble_eq_true hc.1.1.1
            have c2 := Nat.le_of_ble_eq_true hc.1.1.2
            have c3 := Nat.le_of_ble_eq_true hc.1.2
            have hmh : mx = none ∨ hi ≠ none := by
              have := hc.2
              cases mx with
              | none => exact .inl rfl
              | some _ => cases hi with
                | none => simp at this
                | some _ => exact .inr (by simp)
            split at h
            · cases h
              cases hx.slice_none
              have hb := bounds_ok (P := P) (w := w) (isS := true) (cap := cap) (cap' := cap) h1 h2 h3 hm e2 hl c1 c2 c3 (Nat.le_refl _) hmh
              have hmm : (if mx = none then cap else m) = m := by
                cases mx with
                | none => simp only [optNat] at hm; cases hm; rfl
                | some _ => rfl
              rw [hmm] at hb
              refine ⟨.slice none (hh - l) (m - l), ?_, .flat rfl⟩
              simp only [Instr.sliceAt, Instr.slice, Sem.run_bind, run_under (w := w) hu, Result.andThen_ok, hb, run_size (w := w) hz, Sem.run_pure]
              split <;> simp
            · rename_i a
              split at h
              · split at h
                · rename_i hf
                  cases h
                  obtain ⟨i, a', cap', rfl, hs, hbk, hb', hs', hor⟩ := hx.slice_inv
                  rcases hor with ⟨rfl, hx2⟩ | ⟨rfl, rfl, rfl⟩
                  · have hb := bounds_ok (P := P) (w := w) (isS := true) (cap := cap) (cap' := cap') h1 h2 h3 hm e2 hl c1 c2 c3 (by rcases hx2 with q | q <;> omega) hmh
                    have hcut := cut_ok (w := w) k hs hbk hf c1 c2 c3 hx2 (decide (mx = none)) (by
                      intro q; simp at q; subst q; simp only [optNat] at hm; cases hm; rfl)
                    refine ⟨_, ?_, hcut⟩
                    simp only [Instr.sliceAt, Instr.slice, Sem.run_bind, run_under (w := w) hu, Result.andThen_ok, hb, run_size (w := w) hz, Sem.run_pure, Option.map_some]
                    by_cases hq : mx = none
                    · simp only [hq, decide_true, if_true]; split <;> rfl
                    · simp only [hq, decide_false, if_false, Bool.false_eq_true]; split <;> rfl
                  · have hb := bounds_ok (P := P) (w := w) (isS := true) (cap := 0) (cap' := 0) h1 h2 h3 hm e2 hl c1 c2 c3 (Nat.le_refl _) hmh
                    obtain rfl : m = 0 := by omega
                    obtain rfl : hh = 0 := by omega
                    obtain rfl : l = 0 := by omega
                    refine ⟨.slice (some a') 0 0, ?_, ?_⟩
                    · simp only [Instr.sliceAt, Instr.slice, Sem.run_bind, run_under (w := w) hu, Result.andThen_ok, hb, run_size (w := w) hz, Sem.run_pure, Option.map_some]
                      simp
                    · exact .slice0 rfl hbk hb' hs'
                · cases h
              · cases h
          · cases h
        · cases h
      · cases h
    · cases h
  · rename_i n e a hu
    split at h
    · rename_i m hm
      split at h
      · rename_i hh e2
        split at h
        · rename_i l z hl hz hsp
          split at h
          · rename_i hc
            cases h
            simp only [Bool.and_eq_true] at hc
            have c1 := Nat.le_of_ble_eq_true hc.1.1.1.1
            have c2 := Nat.le_of_ble_eq_true hc.1.1.1.2
            have c3 := Nat.le_of_ble_eq_true hc.1.1.2
            have hmh : mx = none ∨ hi ≠ none := by
              have := hc.1.2
              cases mx with
              | none => exact .inl rfl
              | some _ => cases hi with
                | none => simp at this
                | some _ => exact .inr (by simp)
            obtain ⟨i, hs, hbk, rfl⟩ := hx.ptr_inv
            have hb := bounds_ok (P := P) (w := w) (isS := false) (cap := n) (cap' := n) h1 h2 h3 hm e2 hl c1 c2 c3 (Nat.le_refl _) hmh
            have hcut := cut_ok (w := w) k hs hbk hc.2 c1 c2 c3 (.inl rfl) (decide (mx = none)) (by
              intro q; simp at q; subst q; simp only [optNat] at hm; cases hm; rfl)
            refine ⟨_, ?_, hcut⟩
            simp only [Instr.sliceAt, Sem.run_bind, run_under (w := w) hu, Result.andThen_ok, Instr.sureAddr, hb, run_size (w := w) hz, Sem.run_pure]
            by_cases hq : mx = none
            · simp only [hq, decide_true, if_true]
            · simp only [hq, decide_false, if_false, Bool.false_eq_true]
          · cases h
        · cases h
      · cases h
    · cases h
  · cases h

end
end Go.AM
