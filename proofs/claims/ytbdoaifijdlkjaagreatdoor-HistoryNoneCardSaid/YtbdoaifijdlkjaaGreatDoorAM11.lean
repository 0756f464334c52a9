/-
  AM11: append.
-/
import Derived.Test.YtbdoaifijdlkjaaGreatDoorAM10
namespace Go.AM
open Go

section
variable {P : Program} {ρ : Rn} {H : Hp} {w : World}

/-- What an append comes to, from where the lengths are known: into the room that is there, or into a new row. -/
structure Tail (P : Program) (w : World) (e z : Nat) (base : Option Addr) (sLen cap n : Nat) (new : List Value) (X : Sem Value) : Prop where
  fits : sLen + n ≤ cap → ∀ w', (∀ a, base = some a → (storeCells (a.add (sLen * z)) new).run P w = .ok () w') → (base = none → w' = w) → X.run P w = .ok (.slice base (sLen + n) cap) w'
  grows : ¬ sLen + n ≤ cap → ∀ (inf : TypeInfo) (zv : Value) (nc : Nat) (old : List Value), ((sLen + n : Nat) : Int) ≤ IntKind.i64.max → Builtin.nextslicecap (sLen + n) cap * inf.bytes ≤ 2 ^ 48 →
    (∀ w2 : World, (typeInfo e).run P w2 = .ok inf w2) → (∀ w2 : World, (Go.zeroValue e).run P w2 = .ok zv w2) → (Question.appendCap (sLen + n) cap e).cut (w.tape w.drawn (.appendCap (sLen + n) cap e)) = nc →
    (Builtin.firstCells z sLen (.slice base sLen cap)).run P (drewW w) = .ok ⟨old⟩ (drewW w) →
    X.run P w = .ok (.slice (some ⟨w.heap.size, 0, none⟩) (sLen + n) nc) (pushW (drewW w) (.cells ⟨(old ++ new) ++ (Builtin.zeroCells zv.cells (nc - (sLen + n))).toList⟩ e (0, 0)))

theorem grow_le (newLen : Nat) : ∀ (r c B : Nat), c ≤ B → newLen ≤ B → Builtin.growBy newLen r c ≤ 2 * B + 1000 := by
  have key : ∀ (r c : Nat) (B : Nat), c ≤ B → newLen ≤ B → Builtin.growBy newLen r c ≤ B + (B + 768) / 4 := by
    intro r
    induction r with
    | zero => intro c B h1 h2; simp only [Builtin.growBy]; omega
    | succ r ih =>
      intro c B h1 h2
      simp only [Builtin.growBy]
      split
      · omega
      · rename_i hc
        by_cases q : c + (c + 768) / 4 ≤ newLen
        · exact ih _ _ (by omega) h2
        · -- the next round ends
          have : c + (c + 768) / 4 ≥ newLen := by omega
          cases r with
          | zero => simp only [Builtin.growBy]; omega
          | succ r => simp only [Builtin.growBy]; rw [if_pos this]; omega
  intro r c B h1 h2
  have := key r c B h1 h2
  omega

theorem next_le {need cap : Nat} (h : cap < need) : Builtin.nextslicecap need cap ≤ 2 * need + 1000 := by
  unfold Builtin.nextslicecap
  split
  · omega
  · split
    · omega
    · exact grow_le need 4 cap need (by omega) (Nat.le_refl _)

theorem zeroCells_size (z : Array Value) (n : Nat) : (Builtin.zeroCells z n).size = n * z.size := by simp [Builtin.zeroCells]

theorem sub_zero_len {c l : List Value} {off n : Nat} (h : sub c off n = some l) : l.length = n := by
  obtain ⟨h1, rfl⟩ := sub_some h; simp; omega

/-- A row that is laid by an append: the cells that are known, and what lies behind them. -/
theorem OR.grown {c : List Value} {c' rest : List Value} {el z blk room : Nat} (hc : LR ρ c c') (hr : room = c'.length + rest.length) :
    OR ρ ⟨blk, 0, c.length, z, room, true⟩ (.cells c el z false true) (.cells ⟨c' ++ rest⟩ el (0, 0)) :=
  .cells (i := ⟨blk, 0, c.length, z, room, true⟩) rfl (by show (c' ++ rest).length = room; simp [hr]) (by simp only; rw [hr, hc.1]; omega) (by
    simp only [List.drop_zero]; rw [hc.1, List.take_left]; exact hc) (fun _ off _ h => by have h1 := h.1; have h2 := h.2; simp at h1 h2) (fun h => by simp at h)

theorem tail_ok (k : HR ρ H w.heap) {e z by_ : Nat} (hz : szOf P e = some z) (hby : byOf P e = some by_) {base : Option Addr} {sLen sCap n : Nat} {base' : Option Addr} {cap' : Nat} (hs : VR ρ (.slice base sLen sCap) (.slice base' sLen cap'))
    {new : List Value} {new' : List Value} (hnew : LR ρ new new') {X : Sem Value} (hX : Tail P w e z base' sLen cap' n new' X) {v : Value} {H' : Hp}
    (h : appendV P H e (.slice base sLen sCap) new n = .val v H') {m : Nat} (hm : m ≤ H.nxt) :
    ∃ v' w' ρ', X.run P w = .ok v' w' ∧ HR ρ' H' w'.heap ∧ Grw m ρ H w ρ' H' w' ∧ VR ρ' v v' := by
  obtain ⟨inf, hinf, hbytes⟩ := run_bytes hby
  unfold appendV at h
  simp only [hz, hby] at h
  split at h
  · cases h
  rename_i hall
  simp only [Bool.not_eq_true', Bool.not_eq_false, Bool.and_eq_true] at hall
  have hone := hall.1
  have hlen := Nat.eq_of_beq_eq_true hall.2
  -- the slice in the model
  have hcc : sCap ≤ cap' := by
    cases base with
    | none => have := hs.slice_none; cases this; exact Nat.le_refl _
    | some a =>
      obtain ⟨i, a', cap'', h1, _, _, _, _, hor⟩ := hs.slice_inv
      cases h1
      rcases hor with ⟨_, q | q⟩ | q <;> omega
  split at h
  · -- there is room in what is known
    rename_i hroom
    have hroom := Nat.le_of_ble_eq_true hroom
    have hroom' : sLen + n ≤ cap' := by omega
    split at h
    · -- nothing is appended
      rename_i hemp
      cases h
      have hnil : new = [] := by simpa using hemp
      subst hnil
      cases hnew.nil_inv
      refine ⟨.slice base' (sLen + n) cap', w, ρ, ?_, k, .refl _ _ _ _, ?_⟩
      · exact hX.fits hroom' w (fun a _ => by simp [storeCells]) fun _ => rfl
      · cases base with
        | none => cases hs.slice_none; exact .flat rfl
        | some a =>
          obtain ⟨i, a', cap'', h1, q1, q2, q3, q4, hor⟩ := hs.slice_inv
          cases h1
          rcases hor with ⟨rfl, q⟩ | ⟨rfl, rfl, rfl⟩
          · exact .slice q1 q2 q
          · obtain rfl : n = 0 := by omega
            exact .slice0 q1 q2 q3 q4
    · rename_i hne
      have hnpos : 0 < new.length := by
        cases new with
        | nil => simp at hne
        | cons a l => simp
      split at h
      · cases h
      · rename_i a
        split at h
        · rename_i c el z' op _ hg
          split at h
          · rename_i hbnd
            cases h
            have hbnd := Nat.le_of_ble_eq_true hbnd
            obtain ⟨i, a', cap'', h1, q1, q2, q3, q4, hor⟩ := hs.slice_inv
            cases h1
            rcases hor with ⟨rfl, q⟩ | ⟨rfl, rfl, rfl⟩
            · have hb2 : (a.off + sLen * z) + new.length ≤ c.length := by
                rw [hlen]; rw [Nat.add_mul] at hbnd; omega
              obtain ⟨w', r1, r2, r3⟩ := write_ok (P := P) k q2 hg hnew hone hb2 m
              refine ⟨.slice (some ⟨i.blk, i.sh + a.off, none⟩) (sLen + n) cap', w', ρ, ?_, r2, r3, .slice q1 q2 q⟩
              refine hX.fits hroom' w' (fun a0 ha0 => ?_) fun q => (by cases q)
              cases ha0
              simp only [add_none]
              rw [show i.sh + a.off + sLen * z = i.sh + (a.off + sLen * z) by omega, r1]
            · exfalso
              have : n = 0 := by omega
              rw [this] at hlen; omega
          · cases h
        · cases h
  · rename_i hroom
    have hroom : ¬ sLen + n ≤ sCap := fun q => hroom (Nat.ble_eq_true_of_le q)
    split at h
    rotate_left
    · cases h
    rename_i hc
    simp only [Bool.and_eq_true] at hc
    have c1 := Nat.le_of_ble_eq_true hc.1.1.1
    have c2 := Nat.le_of_ble_eq_true hc.1.1.2
    have c3 := Nat.le_of_ble_eq_true hc.1.2
    obtain ⟨zv, hzv, hzl⟩ : ∃ zv, zeroOf P e = some zv ∧ zv.cells.size = z := by
      have := hc.2
      unfold zeroFits at this
      split at this
      · rename_i zv hzv; exact ⟨zv, hzv, by have := Nat.eq_of_beq_eq_true this; simpa using this⟩
      · cases this
    -- the way by a new row
    have realloc : ∀ (old old' : List Value) (H1 : Hp), HR ρ H1 w.heap → H1.nxt = H.nxt → Grw m ρ H w ρ H1 w → ¬ sLen + n ≤ cap' → LR ρ old old' → old.length = sLen * z →
        (∀ w2 : World, w2.heap = w.heap → (Builtin.firstCells z sLen (.slice base' sLen cap')).run P w2 = .ok ⟨old'⟩ w2) →
        ∃ v' w' ρ', X.run P w = .ok v' w' ∧ HR ρ' (H1.new (.cells (old ++ new) e z false true)) w'.heap ∧
          Grw m ρ H w ρ' (H1.new (.cells (old ++ new) e z false true)) w' ∧ VR ρ' (.slice (some ⟨H.nxt, 0, none⟩) (sLen + n) (sLen + n)) v' := by
      intro old old' H1 k1 hn1 g1 hno hold holdl hfirst
      obtain ⟨nc, hnc⟩ : ∃ nc, (Question.appendCap (sLen + n) cap' e).cut (w.tape w.drawn (.appendCap (sLen + n) cap' e)) = nc := ⟨_, rfl⟩
      have hge : sLen + n ≤ nc := by rw [← hnc]; simp only [Question.cut]; omega
      have hor : OR (ρ.add H1.nxt ⟨w.heap.size, 0, (old ++ new).length, z, nc * z, true⟩) ⟨w.heap.size, 0, (old ++ new).length, z, nc * z, true⟩ (.cells (old ++ new) e z false true)
          (.cells ⟨(old' ++ new') ++ (Builtin.zeroCells zv.cells (nc - (sLen + n))).toList⟩ e (0, 0)) :=
        .grown ((hold.append hnew).mono (Rn.le_add _ (k1.fresh _ (Nat.le_refl _)).1)) (by
          show nc * z = (old' ++ new').length + (Builtin.zeroCells zv.cells (nc - (sLen + n))).size
          rw [zeroCells_size, hzl, ← (hold.append hnew).1, List.length_append, holdl, hlen, ← Nat.add_mul, ← Nat.add_mul]; congr 1; omega)
      obtain ⟨r1, r2⟩ := HR.new (w := drewW w) k1 (i := ⟨w.heap.size, 0, (old ++ new).length, z, nc * z, true⟩) rfl hor (m := m) (by omega)
      refine ⟨.slice (some ⟨w.heap.size, 0, none⟩) (sLen + n) nc, _, _, ?_, r1, (g1.trans (.drew _ _ _ _)).trans r2, ?_⟩
      · have e1 : ((sLen + n : Nat) : Int) ≤ IntKind.i64.max := by simp [IntKind.max, IntKind.signed, IntKind.bits]; omega
        have e2 : Builtin.nextslicecap (sLen + n) cap' * inf.bytes ≤ 2 ^ 48 := by
          have := next_le (need := sLen + n) (cap := cap') (by omega)
          rw [hbytes]
          have q1 : Builtin.nextslicecap (sLen + n) cap' * by_ ≤ (2 * (sLen + n) + 1000) * by_ := Nat.mul_le_mul_right _ this
          have q2 : by_ ≤ 1000000000 := by
            have : 1 ≤ sLen + n := by omega
            calc by_ = 1 * by_ := (Nat.one_mul _).symm
              _ ≤ (sLen + n) * by_ := Nat.mul_le_mul_right _ this
              _ ≤ 1000000000 := c1
          have q3 : (2 * (sLen + n) + 1000) * by_ = 2 * ((sLen + n) * by_) + 1000 * by_ := by rw [Nat.add_mul, Nat.mul_assoc]
          omega
        exact hX.grows hno inf zv nc old' e1 e2 (fun w2 => run_info hinf) (fun w2 => run_zero hzv) hnc (hfirst (drewW w) rfl)
      · rw [← hn1]
        have := VR.slice (ρ := ρ.add H1.nxt ⟨w.heap.size, 0, (old ++ new).length, z, nc * z, true⟩) (a := ⟨H1.nxt, 0, none⟩) (i := ⟨w.heap.size, 0, (old ++ new).length, z, nc * z, true⟩) (len := sLen + n) (cap := sLen + n) (cap' := nc) rfl (Rn.add_same _ _ _)
          (.inr ⟨rfl, by simp only [List.length_append, holdl, hlen, Nat.zero_add, ← Nat.add_mul], by simp, hge⟩)
        simpa using this
    unfold appendNew at h
    split at h
    · -- a nil slice
      have hnone := hs.slice_none
      cases hnone
      split at h
      · rename_i h0
        have h0 := Nat.eq_of_beq_eq_true h0
        subst h0
        cases h
        exact realloc [] [] H k rfl (.refl _ _ _ _) hroom (.nil ρ) (by simp) (fun w2 _ => by simp [Builtin.firstCells])
      · cases h
    · rename_i a
      split at h
      · rename_i c el z' fz op _ hg
        split at h
        · cases h
        · rename_i old hold
          obtain ⟨i, a', cap'', h1, q1, q2, q3, q4, hor⟩ := hs.slice_inv
          cases h1
          obtain ⟨o', ho, hob⟩ := k.obj _ _ _ hg q2
          obtain ⟨c', fr, rfl, rfl, rfl, hn, hr, hle, hcl, hf⟩ := hob.cells_inv
          have hfirst : ∃ old', LR ρ old old' ∧ (∀ w2 : World, w2.heap = w.heap → (Builtin.firstCells z sLen (.slice (some a') sLen cap')).run P w2 = .ok ⟨old'⟩ w2) := by
            rcases hor with ⟨rfl, _⟩ | ⟨rfl, _, _⟩
            · obtain ⟨old', s1, s2, _, s3⟩ := run_cells2 (P := P) (blk := i.blk) (el := el) (fr := fr) hcl hold
              exact ⟨old', s1, fun w2 hw => by simpa [Builtin.firstCells] using s3 w2 (by rw [hw]; exact ho)⟩
            · refine ⟨[], ?_, fun w2 hw => by simp [Builtin.firstCells, load_zero]⟩
              have h0 := sub_zero_len hold
              have : old = [] := List.eq_nil_of_length_eq_zero (by simpa using h0)
              rw [this]
              exact .nil ρ
          obtain ⟨old', hold', hfirst⟩ := hfirst
          split at h
          · rename_i hopen
            simp only [Bool.and_eq_true] at hopen
            have hend := Nat.eq_of_beq_eq_true hopen.2
            split at h
            · rename_i hk
              cases h
              simp only [Bool.and_eq_true, Bool.not_eq_true'] at hk
              have hzz := Nat.eq_of_beq_eq_true hk.1.2
              have hee := Nat.eq_of_beq_eq_true hk.2
              subst hee
              have hfz := hk.1.1
              by_cases hin : sLen + n ≤ cap'
              · -- in place, behind what is known
                rcases hor with ⟨rfl, q | ⟨p1, p2, p3, p4⟩⟩ | ⟨_, _, q⟩
                · omega
                · subst hzz
                  have hl2 : i.sh + (a.off + sLen * i.esz) + new'.length ≤ c'.size := by
                    rw [← hnew.1, hlen, hr]
                    have : (sLen + n) * i.esz ≤ cap' * i.esz := Nat.mul_le_mul_right _ hin
                    rw [Nat.add_mul] at this
                    omega
                  have hw := run_write (P := P) (vs := new') ho hl2 (fun off h => hf hfz off (hr ▸ h)) (by
                    intro v hmem
                    obtain ⟨j, hj, rfl⟩ := List.getElem_of_mem hmem
                    have hj2 : j < new.length := hnew.1 ▸ hj
                    obtain ⟨v', e1, e2⟩ := hnew.get (j := j) (v := new[j]) (by simp)
                    rw [List.getElem?_eq_getElem hj] at e1; cases e1
                    rw [← oneCell_eq, e2.oneCell]
                    exact List.all_eq_true.1 hone _ (List.getElem_mem hj2))
                  obtain ⟨hle2, hold2⟩ := sub_some hold
                  have hnl : (old ++ new).length = (sLen + n) * i.esz := by rw [List.length_append, sub_zero_len hold, hlen, ← Nat.add_mul]
                  have hor2 : OR (ρ.add H.nxt ⟨i.blk, i.sh + a.off, (old ++ new).length, i.esz, i.room, true⟩) ⟨i.blk, i.sh + a.off, (old ++ new).length, i.esz, i.room, true⟩ (.cells (old ++ new) el i.esz false true)
                      (.cells ⟨AM.splice c'.toList (i.sh + (a.off + sLen * i.esz)) new'⟩ el fr) := by
                    refine .cells (i := ⟨i.blk, i.sh + a.off, (old ++ new).length, i.esz, i.room, true⟩) rfl ?_ ?_ ?_ (fun _ => hf hfz) (fun h => by simp at h)
                    · show (AM.splice c'.toList (i.sh + (a.off + sLen * i.esz)) new').length = i.room
                      rw [splice_length (by simpa using hl2)]; simpa using hr
                    · simp only []
                      rw [hnl]
                      have : (sLen + n) * i.esz ≤ cap' * i.esz := Nat.mul_le_mul_right _ hin
                      omega
                    · simp only []
                      have hcells : ((AM.splice c'.toList (i.sh + (a.off + sLen * i.esz)) new').drop (i.sh + a.off)).take (old ++ new).length = (((c'.toList.drop i.sh).take c.length).drop a.off).take (sLen * i.esz) ++ new' := by
                        apply List.ext_getElem?
                        intro j
                        rw [List.getElem?_take, List.getElem?_drop, splice_get (by simpa using hl2)]
                        have hlo : ((((c'.toList.drop i.sh).take c.length).drop a.off).take (sLen * i.esz)).length = sLen * i.esz := by
                          have := ((hcl.drop a.off).take (sLen * i.esz)).1
                          rw [← this, ← hold2, sub_zero_len hold]
                        have hnn : (old ++ new).length = sLen * i.esz + new'.length := by rw [List.length_append, sub_zero_len hold, hnew.1]
                        by_cases q1 : j < sLen * i.esz
                        · rw [if_pos (by omega), if_neg (by omega), List.getElem?_append_left (by omega), List.getElem?_take, if_pos q1, List.getElem?_drop, List.getElem?_take, if_pos (by omega), List.getElem?_drop]
                          congr 1; omega
                        · rw [List.getElem?_append_right (by omega), hlo]
                          by_cases q2 : j < (old ++ new).length
                          · rw [if_pos q2, if_pos (by omega)]; congr 1; omega
                          · rw [if_neg q2, List.getElem?_eq_none (by omega)]
                      rw [hcells]
                      have ho2 : LR ρ old ((((c'.toList.drop i.sh).take c.length).drop a.off).take (sLen * i.esz)) := by rw [hold2]; exact (hcl.drop a.off).take _
                      exact (ho2.append hnew).mono (Rn.le_add _ (k.fresh _ (Nat.le_refl _)).1)
                  obtain ⟨r1, r2⟩ := k.regrow hg q2 (j := ⟨i.blk, i.sh + a.off, (old ++ new).length, i.esz, i.room, true⟩) rfl hor2 hm
                  refine ⟨.slice (some ⟨i.blk, i.sh + a.off, none⟩) (sLen + n) cap', _, _, ?_, r1, r2, ?_⟩
                  · refine hX.fits hin _ (fun a0 ha0 => ?_) fun q => (by cases q)
                    cases ha0
                    simp only [add_none]
                    rw [show i.sh + a.off + sLen * i.esz = i.sh + (a.off + sLen * i.esz) by omega, hw]
                  · have := VR.slice (ρ := ρ.add H.nxt ⟨i.blk, i.sh + a.off, (old ++ new).length, i.esz, i.room, true⟩) (a := ⟨H.nxt, 0, none⟩) (i := ⟨i.blk, i.sh + a.off, (old ++ new).length, i.esz, i.room, true⟩)
                      (len := sLen + n) (cap := sLen + n) (cap' := cap') rfl (Rn.add_same _ _ _) (.inr ⟨rfl, by simp only [Nat.zero_add]; exact hnl.symm, by simp only [Nat.add_zero]; exact p3, hin⟩)
                    simpa using this
                · omega
              · exact realloc old old' (H.kill a.block) (k.kill _) rfl (.kill _ _ _ _ _) hin hold' (sub_zero_len hold) hfirst
            · cases h
          · rename_i hopen
            cases h
            have hin : ¬ sLen + n ≤ cap' := by
              rcases hor with ⟨rfl, q | ⟨p1, p2, p3, p4⟩⟩ | ⟨_, _, q⟩
              · omega
              · exfalso; apply hopen; rw [p1, ← hn, p2]; simp
              · omega
            exact realloc old old' H k rfl (.refl _ _ _ _) hin hold' (sub_zero_len hold) hfirst
      · cases h

end
end Go.AM
