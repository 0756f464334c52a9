/-
  AM14: unsafe.String, make, a text's bytes, ranges.
-/
import Derived.Test.YtbdoaifijdlkjaaGreatDoorAM13
namespace Go.AM
open Go

section
variable {P : Program} {ρ : Rn} {H : Hp} {w : World}

theorem load_bytes : ∀ (n : Nat) (b o : Nat) (acc : ByteArray) (l : List Value) (bs : List UInt8), l.length = n → bytesOfVals l = some bs → (∀ j v, l[j]? = some v → w.cell? ⟨b, o + j, none⟩ = some v) →
    (loadBytes ⟨b, o, none⟩ acc n).run P w = .ok ⟨⟨acc.data.toList ++ bs⟩⟩ w
  | 0, b, o, acc, l, bs, hl, hb, _ => by
    have : l = [] := List.eq_nil_of_length_eq_zero hl
    subst this
    simp only [bytesOfVals] at hb; cases hb
    simp [loadBytes]
  | n + 1, b, o, acc, l, bs, hl, hb, hc => by
    cases l with
    | nil => simp at hl
    | cons v l =>
      unfold bytesOfVals at hb
      split at hb
      · rename_i e; cases e
      · rename_i x l2 e
        cases e
        split at hb
        · rename_i bs' hbs
          cases hb
          have h0 := hc 0 _ (by simp; rfl)
          simp only [Nat.add_zero] at h0
          have ih := load_bytes n b (o + 1) (acc.push (UInt8.ofNat x)) l bs' (by simpa using hl) hbs (fun j v hv => by
            have := hc (j + 1) v (by simpa using hv)
            rwa [show o + (j + 1) = o + 1 + j by omega] at this)
          simp only [loadBytes, Sem.run_bind, run_load, h0, Result.andThen_ok, add_none]
          have e1 : ((x : Int)).toNat.toUInt8 = UInt8.ofNat x := rfl
          rw [e1, ih]
          simp [ByteArray.push]
        · cases hb
      · cases hb

theorem same_layout_refl (d t : Nat) : sameLayout P (d + 1) t t = true := by simp [sameLayout]

theorem lies_bytes {u count off n : Nat} (hz : P.cellsOf u = 1) (h : off + n ≤ count) : liesAt P P.depth u count off u n = true := by
  obtain ⟨d, hd⟩ : ∃ d, P.depth = d + 1 := ⟨2 * (P.types.size + Made.depth) + 1, by unfold Program.depth; omega⟩
  rw [hd]
  simp only [liesAt, Bool.or_eq_true]
  left
  rw [hd]
  simp only [rowAt, hz]
  simp [same_layout_refl, h, Nat.mod_one]

theorem cellsOf_of {u n : Nat} (h : szOf P u = some n) : P.cellsOf u = n := by
  unfold szOf at h; unfold Program.cellsOf; rw [h]; rfl

theorem freeze_eq {b el : Nat} {c : Array Value} {fr : Nat × Nat} (h : w.heap[b]? = some (.cells c el fr)) (o n : Nat) (hn : n ≠ 0) : ∃ fr', w.freeze ⟨b, o, none⟩ n = setW w b (.cells c el fr') := by
  obtain ⟨lo, hi⟩ := fr
  refine ⟨if lo == hi then (o, o + n) else (min lo o, max hi (o + n)), ?_⟩
  have hlt := (Array.getElem?_eq_some_iff.1 h).1
  unfold World.freeze setW
  rw [if_neg hn]
  congr 1
  apply Array.ext_getElem?
  intro j
  rw [set_get _ hlt, Array.getElem?_modify]
  by_cases e : b = j
  · subst e; simp [h]
  · have : ¬ j = b := fun q => e q.symm
    simp [e, this]

theorem ustr_ok (k : HR ρ H w.heap) {ts : List Nat} {ty : Nat} {args args' : List Value} {v : Value} {H' : Hp} (h : ustrB P H ts args = .val v H') (hl : LR ρ args args') (m : Nat) :
    ValR P m ρ H w v H' (Builtin.unsafeString_ ⟨ts⟩ ty ⟨args'⟩) := by
  unfold ustrB at h
  split at h
  rotate_left
  · cases h
  rename_i t r p kn n
  obtain ⟨p', r', rfl, hp, hr⟩ := hl.cons_inv
  obtain ⟨n', r', rfl, hn, hr⟩ := hr.cons_inv
  cases hr.nil_inv
  cases hn.int_inv
  have hmax : ¬ ((Int.ofNat n) > IntKind.i64.max) ∨ n > 1000000000 := by
    by_cases q : n ≤ 1000000000
    · left; simp [IntKind.max, IntKind.signed, IntKind.bits]; omega
    · right; omega
  have e0 : (⟨t :: r⟩ : Array Nat)[0]? = some t := rfl
  split at h
  · rename_i h0
    cases h
    have h0 := Nat.eq_of_beq_eq_true h0
    subst h0
    refine ⟨.string .empty, w, ρ, ?_, k, .refl _ _ _ _, .flat rfl⟩
    have hpp : ∃ q, p' = .pointer q := by cases hp <;> exact ⟨_, rfl⟩
    obtain ⟨q, rfl⟩ := hpp
    have e1 : ¬ ((0 : Int) > IntKind.i64.max) := by simp [IntKind.max, IntKind.signed, IntKind.bits]
    show Sem.run P (Builtin.unsafeString_ ⟨t :: r⟩ ty #[.pointer q, .int kn 0]) w = _
    change Sem.run P (asInt (.int _ _) >>= _) w = _
    cases q with
    | none => simp [asInt, asIntOf]
    | some a => simp [asInt, asIntOf]
  · rename_i h0
    have hn0 : n ≠ 0 := by rintro rfl; simp at h0
    split at h
    · cases h
    rename_i hle
    simp only [Bool.not_eq_true', Bool.not_eq_false] at hle
    have hle := Nat.le_of_ble_eq_true hle
    have hmax : ¬ ((Int.ofNat n) > IntKind.i64.max) := by rcases hmax with q | q; exact q; omega
    split at h
    · cases h
    rename_i a
    split at h
    rotate_left
    · cases h
    rename_i u hu
    split at h
    rotate_left
    · cases h
    rename_i hu8 hz
    split at h
    rotate_left
    · cases h
    rename_i c el z fz op _ hg
    split at h
    rotate_left
    · cases h
    rename_i heu
    have heu := Nat.eq_of_beq_eq_true heu
    subst heu
    split at h
    rotate_left
    · cases h
    rename_i l hsub
    split at h
    rotate_left
    · cases h
    rename_i bs hbs
    cases h
    obtain ⟨i, hs, hb, rfl⟩ := hp.ptr_inv
    obtain ⟨o', ho, hor⟩ := k.obj _ _ _ hg hb
    have hor0 := hor
    obtain ⟨c', fr, rfl, rfl, rfl, hnn, hr, hle2, hc, hf⟩ := hor.cells_inv
    obtain ⟨l', s1, s2, s3, _⟩ := run_cells2 (P := P) (blk := i.blk) (el := el) (fr := fr) hc hsub
    have e := bytes_vals hbs s1
    rw [e] at s2 s3
    obtain ⟨fr', hfr⟩ := freeze_eq ho (i.sh + a.off) n hn0
    have hor2 : OR ρ i (.cells c el i.esz true i.op) (.cells c' el fr') := .cells hnn hr hle2 hc (fun q => by cases q) (k.closed _ _ () hg hb)
    obtain ⟨r1, r2⟩ := k.set hg hb hor2 m
    refine ⟨.string ⟨⟨bs⟩⟩, _, ρ, ?_, r1, r2, .flat rfl⟩
    have hsh : w.shape? i.blk = some (el, c'.size) := by simp [World.shape?, ho]
    have hbnd := (sub_some hsub).1
    have hcl : P.cellsOf el = 1 := cellsOf_of hz
    have hv : (variablesAt ⟨i.blk, i.sh + a.off, none⟩ el n).run P w = .ok true w := by
      simp only [variablesAt, Sem.run_bind, run_program, Result.andThen_ok, run_shape, hsh, Sem.run_pure]
      rw [lies_bytes hcl (by rw [hcl, Nat.div_one, hr]; omega)]
    have hlb := load_bytes (P := P) (w := w) n i.blk (i.sh + a.off) .empty l bs s2 hbs (by
      intro j v hv
      rw [cell_of ho]
      rw [s3] at hv
      rw [List.getElem?_take] at hv
      split at hv
      · rw [List.getElem?_drop, List.getElem?_take] at hv
        split at hv
        · rw [List.getElem?_drop] at hv
          rw [← Array.getElem?_toList, show i.sh + a.off + j = i.sh + (a.off + j) by omega]; exact hv
        · cases hv
      · cases hv)
    have hneg : ¬ ((Int.ofNat n) < 0) := by simp
    have hn0' : ¬ ((Int.ofNat n) = 0) := by simp; exact hn0
    show Sem.run P (Builtin.unsafeString_ ⟨t :: r⟩ ty #[.pointer (some ⟨i.blk, i.sh + a.off, none⟩), .int kn (Int.ofNat n)]) w = _
    have hto : (Int.ofNat n).toNat = n := rfl
    change Sem.run P (asInt (.int _ _) >>= _) w = _
    simp only [asInt, asIntOf, Sem.run_bind, Sem.run_pure, Result.andThen_ok, e0, Sem.run_ite, hneg, if_false, hmax, hn0', elemOf, run_under (w := w) hu, hto, hv, if_true, hlb, run_freeze, hfr]
    simp

theorem makeSlice_ok (k : HR ρ H w.heap) {t e l c z b : Nat} {ln cp ln' cp' zv : Value} (hu : P.underlying t = some (.slice e)) (hln : natOf ln = some l) (hcp : natOf cp = some c) (h1 : VR ρ ln ln') (h2 : VR ρ cp cp')
    (hz : szOf P e = some z) (hb : byOf P e = some b) (hzv : zeroOf P e = some zv) (c1 : l ≤ c) (c2 : c * b ≤ 1000000000) (c3 : c ≤ 1000000) (c4 : 1 ≤ z) (c5 : zv.cells.size = z) {m : Nat} (hm : m ≤ H.nxt) :
    ValR P m ρ H w (.slice (some ⟨H.nxt, 0, none⟩) l c) (H.new (.cells (rep c zv.cells.toList) e z false false)) (Instr.makeSlice t ln' cp') := by
  obtain ⟨k1, rfl⟩ := natOf_inv hln
  obtain ⟨k2, rfl⟩ := natOf_inv hcp
  cases h1.int_inv
  cases h2.int_inv
  obtain ⟨i, hi, hib⟩ := run_bytes hb
  have hrep := rep_eq c zv.cells (by omega)
  rw [c5] at hrep
  have hlen : (rep c zv.cells.toList).length = c * z := by rw [rep_length]; simp [c5]
  have hor : OR (ρ.add H.nxt ⟨w.heap.size, 0, (rep c zv.cells.toList).length, z, (rep c zv.cells.toList).length, false⟩) ⟨w.heap.size, 0, (rep c zv.cells.toList).length, z, (rep c zv.cells.toList).length, false⟩
      (.cells (rep c zv.cells.toList) e z false false) (.cells ⟨rep c zv.cells.toList⟩ e (0, 0)) := OR.fresh (rep_LR (zero_LR hzv _) c)
  obtain ⟨r1, r2⟩ := k.new (i := ⟨w.heap.size, 0, (rep c zv.cells.toList).length, z, (rep c zv.cells.toList).length, false⟩) rfl hor hm
  refine ⟨.slice (some ⟨w.heap.size, 0, none⟩) l c, _, _, ?_, r1, r2, ?_⟩
  · have w1 : IntKind.i64.wrap (Int.ofNat c) = Int.ofNat c := IntWalk.i64_in (Int.ofNat c) ⟨Int.le_trans (by decide) (Int.natCast_nonneg c), Int.le_trans (Int.ofNat_le.2 c3) (by decide)⟩
    have w2 : IntKind.i64.wrap (Int.ofNat l) = Int.ofNat l := IntWalk.i64_in (Int.ofNat l) ⟨Int.le_trans (by decide) (Int.natCast_nonneg l), Int.le_trans (Int.ofNat_le.2 (Nat.le_trans c1 c3)) (by decide)⟩
    have hb2 : ¬ ((i.bytes : Int) * (Int.ofNat c) > 2 ^ 48) := by
      rw [hib]
      have h9 : ((c * b : Nat) : Int) ≤ 1000000000 := Int.ofNat_le.2 c2
      rw [Nat.mul_comm, Int.natCast_mul] at h9
      show ¬ ((b : Int) * (c : Int) > 2 ^ 48)
      generalize (b : Int) * (c : Int) = q at h9
      omega
    have hn1 : ¬ ((Int.ofNat c) < 0) := by simp
    have hn2 : ¬ ((Int.ofNat l) < 0) := by simp
    have hn3 : ¬ ((Int.ofNat l) > Int.ofNat c) := by simp; exact c1
    simp only [Instr.makeSlice, Sem.run_bind, run_under (w := w) hu, Result.andThen_ok, asInt, asIntOf, Sem.run_pure, run_info (w := w) hi, w1, w2]
    simp only [hn1, hn2, hn3, hb2, decide_false, Bool.or_self, Bool.false_or, Bool.false_eq_true, if_false, Sem.run_bind, run_askRoom, Result.andThen_ok, run_size (w := w) hz]
    have ht1 : (Int.ofNat c).toNat = c := rfl
    have ht2 : (Int.ofNat l).toNat = l := rfl
    simp only [ht1, ht2]
    by_cases q : c * z = 0
    · have hc0 : c = 0 := by rcases Nat.mul_eq_zero.1 q with q | q <;> omega
      subst hc0
      simp only [Nat.zero_mul, if_true, Sem.run_pure, Result.andThen_ok, Go.newRow, Sem.run_bind, run_newObj]
      have : (Array.map (fun x => (#[] : Array Value)[x % (#[] : Array Value).size]!) (Array.range 0)) = ⟨rep 0 zv.cells.toList⟩ := by apply Array.ext'; simp [rep]
      rw [this]; rfl
    · simp only [q, if_false, Sem.run_bind, run_zero (w := w) hzv, Result.andThen_ok, Sem.run_pure, Go.newRow, run_newObj]
      rw [c5, ← hrep]; rfl
  · have := VR.slice (ρ := ρ.add H.nxt ⟨w.heap.size, 0, (rep c zv.cells.toList).length, z, (rep c zv.cells.toList).length, false⟩) (a := ⟨H.nxt, 0, none⟩) (i := ⟨w.heap.size, 0, (rep c zv.cells.toList).length, z, (rep c zv.cells.toList).length, false⟩)
      (len := l) (cap := c) (cap' := c) rfl (Rn.add_same _ _ _) (.inl rfl)
    simpa using this

theorem bytes_ok (k : HR ρ H w.heap) {src dst e : Nat} {d : TypeDesc} {s : ByteArray} (hs : P.underlying src = some d) (hd : P.underlying dst = some (.slice e)) (he : P.underlying e = some (.int .u8)) {m : Nat} (hm : m ≤ H.nxt) :
    ValR P m ρ H w (.slice (some ⟨H.nxt, 0, none⟩) (s.data.toList.map fun b => Value.int .u8 b.toNat).length (s.data.toList.map fun b => Value.int .u8 b.toNat).length)
      (H.new (.cells (s.data.toList.map fun b => Value.int .u8 b.toNat) e 1 false true)) (Go.convert src dst (.string s)) := by
  obtain ⟨l, hl⟩ : ∃ l, (s.data.toList.map fun b => Value.int .u8 b.toNat) = l := ⟨_, rfl⟩
  rw [hl]
  have hsz : s.size = l.length := by rw [← hl]; simp
  obtain ⟨cap, hcap⟩ : ∃ cap, (Question.appendCap s.size 0 e).cut (w.tape w.drawn (.appendCap s.size 0 e)) = cap := ⟨_, rfl⟩
  have hge : s.size ≤ cap := by rw [← hcap]; simp only [Question.cut]; omega
  have hLR : LR ρ l l := LR.refl_flat (by intro v hv; rw [← hl] at hv; obtain ⟨b, _, rfl⟩ := List.mem_map.1 hv; rfl)
  have hor : OR (ρ.add H.nxt ⟨w.heap.size, 0, l.length, 1, cap, true⟩) ⟨w.heap.size, 0, l.length, 1, cap, true⟩ (.cells l e 1 false true) (.cells ⟨l ++ List.replicate (cap - s.size) (.int .u8 0)⟩ e (cap, cap + 1)) := by
    refine .cells (i := ⟨w.heap.size, 0, l.length, 1, cap, true⟩) rfl ?_ ?_ ?_ ?_ (fun h => by simp at h)
    · show (l ++ List.replicate (cap - s.size) (Value.int .u8 0)).length = cap
      simp; omega
    · simp only; omega
    · simp only [List.drop_zero, List.take_left]
      exact hLR.mono (Rn.le_add _ (k.fresh _ (Nat.le_refl _)).1)
    · intro _ off h1 h2; simp only at h1 h2; omega
  obtain ⟨r1, r2⟩ := HR.new (w := drewW w) k (i := ⟨w.heap.size, 0, l.length, 1, cap, true⟩) rfl hor hm
  refine ⟨.slice (some ⟨w.heap.size, 0, none⟩) l.length cap, _, _, ?_, r1, (Grw.drew _ _ _ _).trans r2, ?_⟩
  · have hf : (Question.appendCap s.size 0 e).forced = false := rfl
    have hcv : (Go.convert src dst (.string s)).run P w = (Conv.stringToBytes e s).run P w := by
      unfold Go.convert
      simp only [Sem.run_bind, run_under (w := w) hs, run_under (w := w) hd, Result.andThen_ok, run_under (w := w) he]
    rw [hcv]
    have hA : ((s.data.map fun b => Value.int .u8 b.toNat) ++ Array.replicate (cap - s.size) (.int .u8 0)) = ⟨l ++ List.replicate (cap - s.size) (.int .u8 0)⟩ := by
      apply Array.ext'
      rw [Array.toList_append, Array.toList_map, hl, Array.toList_replicate]
      try rfl
    have h1 : (choose (.appendCap s.size 0 e)).run P w = .ok cap (drewW w) := by
      rw [run_choose, hf, hcap]; rfl
    have h2 : (Go.newRow e ((s.data.map fun b => Value.int .u8 b.toNat) ++ Array.replicate (cap - s.size) (.int .u8 0))).run P (drewW w) =
        .ok ⟨w.heap.size, 0, none⟩ (pushW (drewW w) (.cells ⟨l ++ List.replicate (cap - s.size) (.int .u8 0)⟩ e (0, 0))) := by rw [hA]; rfl
    have hget : (pushW (drewW w) (.cells ⟨l ++ List.replicate (cap - s.size) (.int .u8 0)⟩ e (0, 0))).heap[w.heap.size]? = some (.cells ⟨l ++ List.replicate (cap - s.size) (.int .u8 0)⟩ e (0, 0)) := by
      show (w.heap.push _)[w.heap.size]? = _
      rw [push_get]; simp
    have hsz2 : (⟨l ++ List.replicate (cap - s.size) (Value.int .u8 0)⟩ : Array Value).size = cap := by
      show (l ++ List.replicate (cap - s.size) (Value.int .u8 0)).length = cap
      simp; omega
    have h3 : (markStringish ⟨w.heap.size, 0, none⟩).run P (pushW (drewW w) (.cells ⟨l ++ List.replicate (cap - s.size) (.int .u8 0)⟩ e (0, 0))) =
        .ok () (pushW (drewW w) (.cells ⟨l ++ List.replicate (cap - s.size) (.int .u8 0)⟩ e (cap, cap + 1))) := by
      simp only [markStringish, Sem.run_bind, run_shape, World.shape?, hget, Result.andThen_ok, hsz2, run_freeze]
      congr 1
      unfold World.freeze pushW drewW
      simp only [Nat.one_ne_zero, if_false]
      congr 1
      apply Array.ext_getElem?
      intro j
      rw [Array.getElem?_modify, Array.getElem?_push, Array.getElem?_push]
      by_cases q : w.heap.size = j
      · subst q; simp
      · have : ¬ j = w.heap.size := fun e => q e.symm
        simp [q, this]
    unfold Conv.stringToBytes
    refine (run_step h1).trans ?_
    refine (run_step h2).trans ?_
    refine (run_step h3).trans ?_
    rw [← hsz]; rfl
  · have := VR.slice (ρ := ρ.add H.nxt ⟨w.heap.size, 0, l.length, 1, cap, true⟩) (a := ⟨H.nxt, 0, none⟩) (i := ⟨w.heap.size, 0, l.length, 1, cap, true⟩) (len := l.length) (cap := l.length) (cap' := cap) rfl (Rn.add_same _ _ _)
      (.inr ⟨rfl, by simp, by simp, by omega⟩)
    simpa using this

end
end Go.AM
