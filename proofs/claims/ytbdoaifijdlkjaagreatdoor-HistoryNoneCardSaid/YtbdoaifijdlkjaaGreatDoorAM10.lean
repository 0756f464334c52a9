/-
  AM10: operations that make memory, or write it.
-/
import Derived.Test.YtbdoaifijdlkjaaGreatDoorAM9
namespace Go.AM
open Go

section
variable {P : Program} {ρ : Rn} {H : Hp} {w : World}

theorem rep_length (n : Nat) (zs : List Value) : (rep n zs).length = n * zs.length := by
  induction n with
  | zero => simp [rep]
  | succ n ih => simp [rep, ih, Nat.succ_mul]; omega

theorem rep_get {zs : List Value} : ∀ (n i : Nat), i < n * zs.length → (rep n zs)[i]? = zs[i % zs.length]?
  | 0, i, h => by simp at h
  | n + 1, i, h => by
    simp only [rep]
    by_cases hi : i < zs.length
    · rw [List.getElem?_append_left hi, Nat.mod_eq_of_lt hi]
    · rw [List.getElem?_append_right (by omega), rep_get n (i - zs.length) (by rw [Nat.succ_mul] at h; omega)]
      rw [← Nat.mod_eq_sub_mod (by omega)]

theorem rep_eq (n : Nat) (zs : Array Value) (hz : 0 < zs.size) : (⟨rep n zs.toList⟩ : Array Value) = (Array.range (n * zs.size)).map fun i => zs[i % zs.size]! := by
  apply Array.ext'
  apply List.ext_getElem?
  intro i
  simp only [Array.toList_map, Array.toList_range, List.getElem?_map]
  by_cases hi : i < n * zs.size
  · have := rep_get (zs := zs.toList) n i (by simpa using hi)
    rw [this, List.getElem?_range hi]
    have hm : i % zs.size < zs.size := Nat.mod_lt _ hz
    simp only [Array.length_toList, Option.map_some, Array.getElem?_toList]
    rw [Array.getElem?_eq_getElem hm]
    simp [hm]
  · rw [List.getElem?_eq_none (by rw [rep_length]; simpa using hi), List.getElem?_eq_none (by simpa using hi)]
    rfl

theorem rep_LR {zs zs' : List Value} (h : LR ρ zs zs') (n : Nat) : LR ρ (rep n zs) (rep n zs') := by
  induction n with
  | zero => exact .nil ρ
  | succ n ih => exact h.append ih

theorem LR.map {ra rc : Operand → Value} {l : List Operand} (h : ∀ x ∈ l, VR ρ (ra x) (rc x)) : LR ρ (l.map ra) (l.map rc) := by
  induction l with
  | nil => exact .nil ρ
  | cons p l ih => exact .cons (h p (by simp)) (ih fun q hq => h q (by simp [hq]))

theorem parts_L2 {ra rc : Operand → Value} {parts : Array (Nat × Operand)} (h : ∀ p ∈ parts.toList, VR ρ (ra p.2) (rc p.2)) :
    L2 (fun p q => q.1 = p.1 ∧ VR ρ p.2 q.2) (parts.toList.map fun p => (p.1, ra p.2)) (parts.map fun (i, x) => (i, rc x)).toList := by
  rw [Array.toList_map]
  generalize parts.toList = l at h ⊢
  induction l with
  | nil => exact .nil
  | cons p l ih => exact .cons ⟨rfl, h p (by simp)⟩ (ih fun q hq => h q (by simp [hq]))

/-- A new object of cells. -/
theorem OR.fresh {c : List Value} {c' : Array Value} {el z blk : Nat} (hc : LR ρ c c'.toList) :
    OR ρ ⟨blk, 0, c.length, z, c.length, false⟩ (.cells c el z false false) (.cells c' el (0, 0)) :=
  .cells (i := ⟨blk, 0, c.length, z, c.length, false⟩) rfl (show c'.size = c.length by rw [← Array.length_toList, ← hc.1]) (by simp) (by
    simp only [List.drop_zero]; rw [hc.1, List.take_length]; exact hc) (fun _ off _ h => by have h1 := h.1; have h2 := h.2; simp at h1 h2) (fun _ => ⟨rfl, rfl⟩)

theorem newObj_ok {E : Env} (hE : E.P = P) {o : Oper} {ra rc : Operand → Value} (hev : EvR ρ o ra rc) {cs : List Value} {e z : Nat} {v : Nat → Value} (h : newObjOf E ra o = some (cs, e, z, v)) :
    ∃ cs' : Array Value, LR ρ cs cs'.toList ∧ (Go.execOp rc o).run P w = .ok (.value (v w.heap.size)) (pushW w (.cells cs' e)) ∧ (∀ b, blockOf (v b) = some b) ∧
      (∀ (ρ' : Rn) b i, ρ' b = some i → i.sh = 0 → VR ρ' (v b) (v i.blk)) := by
  subst hE
  obtain ⟨dst, op, type, pos, after, guard⟩ := o
  unfold EvR at hev
  cases op <;> simp only [Op.operands] at hev <;> simp only [newObjOf] at h <;> simp only [Go.execOp] <;> try (cases h; done)
  case alloc el =>
    split at h
    · rename_i zv n hz hs
      cases h
      refine ⟨zv.cells, zero_LR hz ρ, ?_, fun b => rfl, fun ρ' b i hb hsh => ?_⟩
      · simp only [Instr.alloc, Sem.run_bind, run_zero (w := w) hz, Result.andThen_ok, Sem.run_pure]; rfl
      · have := VR.ptr (ρ := ρ') (a := ⟨b, 0, none⟩) (i := i) rfl hb
        simpa [hsh] using this
    · cases h
  case box el x =>
    split at h
    · rename_i n hs
      cases h
      refine ⟨(rc x).cells, (hev x (by simp)).cells, ?_, fun b => rfl, fun ρ' b i hb hsh => ?_⟩
      · simp only [Instr.box, Sem.run_bind, Sem.run_pure]; rfl
      · have := VR.ptr (ρ := ρ') (a := ⟨b, 0, none⟩) (i := i) rfl hb
        simpa [hsh] using this
    · cases h
  case buildSlice t len parts =>
    split at h
    · rename_i el hu
      split at h
      · rename_i z zv hz hzv
        split at h
        · rename_i hc
          simp only [Bool.and_eq_true] at hc
          have c1 := Nat.le_of_ble_eq_true hc.1.1
          have c2 := Nat.le_of_ble_eq_true hc.1.2
          have c3 := Nat.eq_of_beq_eq_true hc.2
          split at h
          · rename_i cs0 hf
            cases h
            have hp := parts_L2 (ρ := ρ) (ra := ra) (rc := rc) (parts := parts) (fun p hp => hev p.2 (by simp; exact ⟨p.1, by simpa using hp⟩))
            obtain ⟨r', h1, h2⟩ := fill_ok (place' := fun i => some (i * z, z)) (fun i x hx => hx) (rep_LR (zero_LR hzv ρ) len) hp hf
            have hsz : zv.cells.size = z := by simpa using c3
            refine ⟨⟨r'⟩, h2, ?_, fun b => rfl, fun ρ' b i hb hsh => ?_⟩
            · have c4 : ¬ len * z > 2 ^ 24 := by omega
              have hrep := rep_eq len zv.cells (by omega)
              rw [hsz] at hrep
              simp only [Instr.buildSlice, Sem.run_bind, run_under (w := w) hu, Result.andThen_ok, run_size (w := w) hz, Sem.run_ite, c4, if_false, Sem.run_pure]
              by_cases h0 : len * z = 0
              · have hl0 : len = 0 := by
                  rcases Nat.mul_eq_zero.1 h0 with q | q <;> omega
                subst hl0
                simp only [Nat.zero_mul, if_true]
                have : (Array.map (fun x => (#[] : Array Value)[x % (#[] : Array Value).size]!) (Array.range 0)) = ⟨rep 0 zv.cells.toList⟩ := by
                  apply Array.ext'; simp [rep]
                rw [this, h1]
                simp only [Sem.run_bind, Sem.run_pure]; rfl
              · simp only [h0, if_false, run_zero (w := w) hzv, Result.andThen_ok]
                rw [hsz, ← hrep, h1]
                simp only [Sem.run_bind, Sem.run_pure]; rfl
            · have := VR.slice (ρ := ρ') (a := ⟨b, 0, none⟩) (i := i) (len := len) (cap := len) (cap' := len) rfl hb (.inl rfl)
              simpa [hsh] using this
          · cases h
        · cases h
      · cases h
    · cases h

/-! ### maps that are written -/
theorem l2_get {α β : Type} {R : α → β → Prop} {l : List α} {m : List β} (h : L2 R l m) : ∀ {i : Nat} {a : α}, l[i]? = some a → ∃ b, m[i]? = some b ∧ R a b := by
  induction h with
  | nil => intro i a h; simp at h
  | cons x _ ih =>
    intro i a h
    cases i with
    | zero => simp at h; subst h; exact ⟨_, by simp, x⟩
    | succ i => simp at h; obtain ⟨b, h1, h2⟩ := ih h; exact ⟨b, by simpa using h1, h2⟩

theorem l2_setAt {l m : List MapEntry} (h : L2 (EntR ρ) l m) {f g : MapEntry → MapEntry} (hfg : ∀ a b, EntR ρ a b → EntR ρ (f a) (g b)) : ∀ i, L2 (EntR ρ) (setAt l i f) (m.modify i g) := by
  induction h with
  | nil => intro i; cases i <;> exact .nil
  | cons x k ih =>
    intro i
    cases i with
    | zero => exact .cons (hfg _ _ x) k
    | succ i => exact .cons x (ih i)

theorem l2_eraseAt {l m : List MapEntry} (h : L2 (EntR ρ) l m) : ∀ i, L2 (EntR ρ) (eraseAt l i) (m.eraseIdx i) := by
  induction h with
  | nil => intro i; cases i <;> exact .nil
  | cons x k ih =>
    intro i
    cases i with
    | zero => exact k
    | succ i => exact .cons x (ih i)

theorem same_key {k : TypeDesc} {x y : Value} (h : AM.sameNow k x y = some true) : y = x ∧ ∀ n, Instr.sameBits n x x = true := by
  unfold AM.sameNow at h
  split at h
  · split at h
    · rename_i hk; cases sameKind_eq hk
      rw [beqInt_eq] at h; simp at h; subst h
      exact ⟨rfl, fun n => by simp [Instr.sameBits]⟩
    · cases h
  · rename_i a b
    rw [beqBytes_eq] at h; simp at h
    have : a = b := ByteArray.ext h
    subst this
    exact ⟨rfl, fun n => by cases n <;> (simp only [Instr.sameBits]; rw [beq_toListBytes]; simp)⟩
  · simp at h; subst h; exact ⟨rfl, fun n => by simp [Instr.sameBits]⟩
  · cases h

theorem find_key {k : TypeDesc} {x : Value} : ∀ {es : List MapEntry} {i j : Nat} {v : Value}, AM.findNow k x es i = some (some (i + j, v)) → ∃ e, es[j]? = some e ∧ AM.sameNow k x e.key = some true
  | [], i, j, v, h => by simp [AM.findNow] at h
  | e :: es, i, j, v, h => by
    simp only [AM.findNow] at h
    split at h
    · rename_i hs
      simp at h
      have : j = 0 := by omega
      subst this
      exact ⟨e, by simp, hs⟩
    · have hj : j ≠ 0 := by
        rintro rfl
        have : ∀ (es : List MapEntry) (i m : Nat) (v : Value), AM.findNow k x es i = some (some (m, v)) → i ≤ m := by
          intro es
          induction es with
          | nil => intro i m v h; simp [AM.findNow] at h
          | cons e es ih =>
            intro i m v h
            simp only [AM.findNow] at h
            split at h
            · simp at h; omega
            · have := ih _ _ _ h; omega
            · cases h
        have := this _ _ _ _ h
        omega
      obtain ⟨j, rfl⟩ : ∃ m, j = m + 1 := ⟨j - 1, by omega⟩
      rw [show i + (j + 1) = i + 1 + j by omega] at h
      obtain ⟨e', h1, h2⟩ := find_key h
      exact ⟨e', by simpa using h1, h2⟩
    · cases h

theorem run_setObj' {b : Nat} {o : Obj} (h : w.heap[b]? = some o) (hn : ∀ c e f, o ≠ .cells c e f) (o' : Obj) : (setObj b o').run P w = .ok () (setW w b o') := by
  unfold setObj Sem.run
  rw [h]
  cases o <;> first | rfl | exact absurd rfl (hn _ _ _)

theorem mapUpdate_ok (k : HR ρ H w.heap) {t : Nat} {m m' x x' v v' : Value} {H' : Hp} (h : AM.mapUpdate P H t m x v = some H') (hm : VR ρ m m') (hx : VR ρ x x') (hv : VR ρ v v') (q : Nat) :
    ∃ w', (Instr.mapUpdate t m' x' v').run P w = .ok () w' ∧ HR ρ H' w'.heap ∧ Grw q ρ H w ρ H' w' := by
  unfold AM.mapUpdate at h
  split at h
  · rename_i kt et r hu
    split at h
    · rename_i kd es clock hkd hg
      split at h
      · cases h
      · rename_i hp
        simp only [Bool.not_eq_true', Bool.not_eq_false] at hp
        have hxf := hx.flat_inv (plain_key hp)
        subst hxf
        obtain ⟨i, hb, hs, rfl⟩ := hm.map_inv
        obtain ⟨es', ho, hl⟩ := map_at k hg hb
        split at h
        · rename_i j u hf
          cases h
          rcases find_now hl hf with ⟨h1, _⟩ | ⟨j', u1, u', h1, h2, h3, h4⟩
          · cases h1
          · simp only [Nat.zero_add] at h1 h2
            cases h1
            obtain ⟨e, he, hsame⟩ := find_key (i := 0) (by simpa using hf)
            obtain ⟨e', he', her⟩ := l2_get hl he
            obtain ⟨hk1, hk2⟩ := same_key hsame
            have hkey : e'.key = x' := by
              have := her.key
              rw [hk1] at this
              exact this.flat_inv (plain_key hp)
            have hor : OR ρ i (.map (setAt es j fun e => { e with key := x', val := v }) clock) (.map ⟨es'.modify j fun e => { e with key := x', val := v' }⟩ clock) :=
              .map hs (l2_setAt hl (f := fun e => { e with key := x', val := v }) (g := fun e => { e with key := x', val := v' }) (fun a b hab => ⟨hx, hv, hab.born⟩) j)
            obtain ⟨r1, r2⟩ := k.set hg hb hor q
            refine ⟨_, ?_, r1, r2⟩
            have e5 : (⟨es'⟩ : Array MapEntry)[j]? = some e' := by rw [← Array.getElem?_toList]; exact he'
            have e6 : (⟨es'⟩ : Array MapEntry).modify j (fun e => { e with key := x', val := v' }) = ⟨es'.modify j fun e => { e with key := x', val := v' }⟩ := by apply Array.ext'; simp
            simp only [Instr.mapUpdate, Sem.run_bind, run_under (w := w) hu, Result.andThen_ok, run_getObj' (P := P) ho (by simp), check_key (w := w) hp hkd, Instr.findKey, run_under (w := w) hkd, h2, Sem.run_pure,
              e5, Option.map_some, Option.getD_some, hkey, Instr.keyThatStays, hk2, if_true, e6]
            exact run_setObj' (P := P) ho (by simp) _
        · rename_i hf
          cases h
          rcases find_now hl hf with ⟨_, h2⟩ | ⟨j', u1, u', h1, _⟩
          · have hor : OR ρ i (.map (es ++ [{ key := x', val := v, born := clock }]) (clock + 1)) (.map ⟨es' ++ [{ key := x', val := v', born := clock }]⟩ (clock + 1)) :=
              .map hs (hl.append (.cons ⟨hx, hv, rfl⟩ .nil))
            obtain ⟨r1, r2⟩ := k.set hg hb hor q
            refine ⟨_, ?_, r1, r2⟩
            have e6 : (⟨es'⟩ : Array MapEntry).push { key := x', val := v', born := clock } = ⟨es' ++ [{ key := x', val := v', born := clock }]⟩ := by apply Array.ext'; simp
            simp only [Instr.mapUpdate, Sem.run_bind, run_under (w := w) hu, Result.andThen_ok, run_getObj' (P := P) ho (by simp), check_key (w := w) hp hkd, Instr.findKey, run_under (w := w) hkd, h2, Sem.run_pure, e6]
            exact run_setObj' (P := P) ho (by simp) _
          · cases h1
        · cases h
    · cases h
  · cases h

end
end Go.AM
