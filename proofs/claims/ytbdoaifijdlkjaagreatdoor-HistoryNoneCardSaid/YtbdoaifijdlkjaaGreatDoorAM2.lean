/-
  AM2: the two heaps: what is related, and how it stays so.
-/
import Derived.Test.YtbdoaifijdlkjaaGreatDoorAM1
namespace Go.AM
open Go

/-! ### entries, deferred calls, temporaries -/
inductive L2 {α β : Type} (R : α → β → Prop) : List α → List β → Prop where
  | nil : L2 R [] []
  | cons {a b l m} (h : R a b) (k : L2 R l m) : L2 R (a :: l) (b :: m)

theorem L2.mono {α β : Type} {R S : α → β → Prop} (h : ∀ a b, R a b → S a b) {l : List α} {m : List β} (k : L2 R l m) : L2 S l m := by
  induction k with
  | nil => exact .nil
  | cons x _ ih => exact .cons (h _ _ x) ih
theorem L2.length {α β : Type} {R : α → β → Prop} {l : List α} {m : List β} (k : L2 R l m) : l.length = m.length := by
  induction k with
  | nil => rfl
  | cons _ _ ih => simp [ih]
theorem L2.append {α β : Type} {R : α → β → Prop} {l l' : List α} {m m' : List β} (k : L2 R l m) (k' : L2 R l' m') : L2 R (l ++ l') (m ++ m') := by
  induction k with
  | nil => exact k'
  | cons x _ ih => exact .cons x ih

structure EntR (ρ : Rn) (e e' : MapEntry) : Prop where
  key : VR ρ e.key e'.key
  val : VR ρ e.val e'.val
  born : e'.born = e.born
theorem EntR.mono {ρ ρ' : Rn} (h : ρ.le ρ') (e e' : MapEntry) (k : EntR ρ e e') : EntR ρ' e e' := ⟨k.key.mono h, k.val.mono h, k.born⟩

inductive TgR (ρ : Rn) : Target → Target → Prop where
  | fn {f f' c c'} (hf : FnR ρ f f') (hc : LR ρ c c') : TgR ρ (.fn f ⟨c⟩) (.fn f' ⟨c'⟩)
  | collected {b : Nat} {i : BI} (h : ρ b = some i) (hs : i.sh = 0) : TgR ρ (.collected b) (.collected i.blk)
theorem TgR.mono {ρ ρ' : Rn} (h : ρ.le ρ') {x y : Target} (k : TgR ρ x y) : TgR ρ' x y := by
  cases k with
  | fn hf hc => exact .fn (hf.mono h) (hc.mono h)
  | collected e hs => exact .collected (h _ _ e) hs

structure DefR (ρ : Rn) (d d' : Deferred) : Prop where
  target : TgR ρ d.target d'.target
  args : LR ρ d.args.toList d'.args.toList
theorem DefR.mono {ρ ρ' : Rn} (h : ρ.le ρ') (x y : Deferred) (k : DefR ρ x y) : DefR ρ' x y := ⟨k.target.mono h, k.args.mono h⟩

structure TmR (ρ : Rn) (nt : Nat) (tm : Tr Value) (a : Array Value) : Prop where
  size : a.size = nt
  get : ∀ t, VR ρ ((tm.get t).getD undefV) (a.getD t undef)
theorem TmR.mono {ρ ρ' : Rn} (h : ρ.le ρ') {nt : Nat} {tm : Tr Value} {a : Array Value} (k : TmR ρ nt tm a) : TmR ρ' nt tm a := ⟨k.size, fun t => (k.get t).mono h⟩

/-! ### objects -/
inductive OR (ρ : Rn) (i : BI) : AObj → Obj → Prop where
  | cells {c : List Value} {c' : Array Value} {el : Nat} {fz : Bool} {fr : Nat × Nat} (hn : i.n = c.length) (hr : c'.size = i.room) (hle : i.sh + i.n ≤ i.room)
      (hc : LR ρ c ((c'.toList.drop i.sh).take c.length)) (hf : fz = false → ∀ off, off < i.room → ¬ (fr.1 ≤ off ∧ off < fr.2))
      (hcl : i.op = false → i.sh = 0 ∧ i.room = i.n) : OR ρ i (.cells c el i.esz fz i.op) (.cells c' el fr)
  | map {es es' : List MapEntry} {clock : Nat} (hs : i.sh = 0) (h : L2 (EntR ρ) es es') : OR ρ i (.map es clock) (.map ⟨es'⟩ clock)
  | siter {s : ByteArray} {pos : Nat} (hs : i.sh = 0) : OR ρ i (.siter s pos) (.stringIter s pos)
  | miter0 {since stepped : Nat} {seen : List Nat} (hs : i.sh = 0) : OR ρ i (.miter none since seen stepped) (.mapIter none since ⟨seen⟩ stepped)
  | miter {m since stepped : Nat} {seen : List Nat} {j : BI} (hs : i.sh = 0) (h : ρ m = some j) (hj : j.sh = 0) :
      OR ρ i (.miter (some m) since seen stepped) (.mapIter (some j.blk) since ⟨seen⟩ stepped)
  | loop {st : LoopState} {pend : Option Code} {fn nt : Nat} {tm : Tr Value} {a : Array Value} {ps : List Tmp} {as body : Code} {d : Nat} {j : BI} (hs : i.sh = 0)
      (ht : TmR ρ nt tm a) (h : ρ d = some j) (hj : j.sh = 0) :
      OR ρ i (.loop st pend fn nt tm ps as body d) (.loop { state := st, pending := pend, fn, tmps := a, params := ⟨ps⟩, assign := as, body, defers := j.blk })
  | dfr0 (hs : i.sh = 0) : OR ρ i (.dfr none) (.deferred none)
  | dfr {ds ds' : List Deferred} (hs : i.sh = 0) (h : L2 (DefR ρ) ds ds') : OR ρ i (.dfr (some ds)) (.deferred (some ds'))

theorem OR.mono {ρ ρ' : Rn} (h : ρ.le ρ') {i : BI} {o : AObj} {o' : Obj} (k : OR ρ i o o') : OR ρ' i o o' := by
  cases k with
  | cells hn hr hle hc hf hcl => exact .cells hn hr hle (hc.mono h) hf hcl
  | map hs k => exact .map hs (k.mono (EntR.mono h))
  | siter hs => exact .siter hs
  | miter0 hs => exact .miter0 hs
  | miter hs e hj => exact .miter hs (h _ _ e) hj
  | loop hs ht e hj => exact .loop hs (ht.mono h) (h _ _ e) hj
  | dfr0 hs => exact .dfr0 hs
  | dfr hs k => exact .dfr hs (k.mono (DefR.mono h))

/-! ### heaps -/
structure HR (ρ : Rn) (H : Hp) (h : Array Obj) : Prop where
  obj : ∀ b o i, H.get b = some o → ρ b = some i → ∃ o', h[i.blk]? = some o' ∧ OR ρ i o o'
  inj : ∀ b b' i i', H.get b ≠ none → H.get b' ≠ none → ρ b = some i → ρ b' = some i' → i.blk = i'.blk → b = b'
  fresh : ∀ b, H.nxt ≤ b → ρ b = none ∧ H.get b = none

/-- What a step may do: names grow; what no living block stands for stays; no block goes. 'low': names below m are not given anew. -/
structure Grw (m : Nat) (ρ : Rn) (H : Hp) (w : World) (ρ' : Rn) (H' : Hp) (w' : World) : Prop where
  le : ρ.le ρ'
  keep : ∀ cb, cb < w.heap.size → (∀ b i, H.get b ≠ none → ρ b = some i → i.blk ≠ cb) →
    w'.heap[cb]? = w.heap[cb]? ∧ (∀ b i, H'.get b ≠ none → ρ' b = some i → i.blk ≠ cb)
  size : w.heap.size ≤ w'.heap.size
  low : ∀ b, b < m → ρ b = none → ρ' b = none
  nxt : H.nxt ≤ H'.nxt
  os : w'.os = w.os
  tape : w'.tape = w.tape
  output : w'.output = w.output

theorem Grw.refl (m : Nat) (ρ : Rn) (H : Hp) (w : World) : Grw m ρ H w ρ H w :=
  ⟨Rn.le_refl ρ, fun _ _ h => ⟨rfl, h⟩, Nat.le_refl _, fun _ _ h => h, Nat.le_refl _, rfl, rfl, rfl⟩

theorem Grw.trans {m : Nat} {ρ ρ1 ρ2 : Rn} {H H1 H2 : Hp} {w w1 w2 : World} (a : Grw m ρ H w ρ1 H1 w1) (b : Grw m ρ1 H1 w1 ρ2 H2 w2) : Grw m ρ H w ρ2 H2 w2 :=
  ⟨Rn.le_trans a.le b.le, fun cb hcb h => by
      obtain ⟨e1, h1⟩ := a.keep cb hcb h
      obtain ⟨e2, h2⟩ := b.keep cb (Nat.lt_of_lt_of_le hcb a.size) h1
      exact ⟨e2.trans e1, h2⟩,
    Nat.le_trans a.size b.size, fun x hx h => b.low x hx (a.low x hx h), Nat.le_trans a.nxt b.nxt, b.os.trans a.os, b.tape.trans a.tape, b.output.trans a.output⟩

theorem Grw.mono {m m' : Nat} (hm : m' ≤ m) {ρ ρ1 : Rn} {H H1 : Hp} {w w1 : World} (a : Grw m ρ H w ρ1 H1 w1) : Grw m' ρ H w ρ1 H1 w1 :=
  ⟨a.le, a.keep, a.size, fun x hx h => a.low x (Nat.lt_of_lt_of_le hx hm) h, a.nxt, a.os, a.tape, a.output⟩

def pushW (w : World) (o : Obj) : World := { w with heap := w.heap.push o }
def setW (w : World) (b : Nat) (o : Obj) : World := { w with heap := w.heap.setIfInBounds b o }
def drewW (w : World) : World := { w with drawn := w.drawn + 1 }

theorem push_get (h : Array Obj) (o : Obj) (b : Nat) : (h.push o)[b]? = if b = h.size then some o else h[b]? := by
  rw [Array.getElem?_push]
theorem set_get {h : Array Obj} {b : Nat} (o : Obj) (hb : b < h.size) (x : Nat) : (h.setIfInBounds b o)[x]? = if x = b then some o else h[x]? := by
  rw [Array.getElem?_setIfInBounds]
  by_cases e : b = x
  · subst e; simp [hb]
  · have : ¬ x = b := fun k => e k.symm
    simp [e, this]

theorem HR.lt {ρ : Rn} {H : Hp} {h : Array Obj} (k : HR ρ H h) {b : Nat} {o : AObj} {i : BI} (e : H.get b = some o) (hb : ρ b = some i) : i.blk < h.size := by
  obtain ⟨o', ho, _⟩ := k.obj b o i e hb
  exact (Array.getElem?_eq_some_iff.1 ho).1

/-- A living block is turned. -/
theorem HR.set {ρ : Rn} {H : Hp} {w : World} (k : HR ρ H w.heap) {b : Nat} {o o2 : AObj} {i : BI} (e : H.get b = some o) (hb : ρ b = some i) {o' : Obj} (ho : OR ρ i o2 o') (m : Nat) :
    HR ρ (H.set b o2) (setW w i.blk o').heap ∧ Grw m ρ H w ρ (H.set b o2) (setW w i.blk o') := by
  have hlt := k.lt e hb
  refine ⟨⟨?_, ?_, ?_⟩, ?_⟩
  · intro b' o1 i' e' hb'
    rw [Hp.get_set] at e'
    by_cases hbb : b' = b
    · subst hbb
      rw [hb] at hb'; cases hb'
      simp at e'; subst e'
      exact ⟨o', by simp [setW, set_get _ hlt], ho⟩
    · simp [hbb] at e'
      obtain ⟨o1', h1, h2⟩ := k.obj b' o1 i' e' hb'
      refine ⟨o1', ?_, h2⟩
      have : i'.blk ≠ i.blk := fun q => hbb (k.inj b' b i' i (by simp [e']) (by simp [e]) hb' hb q)
      simp [setW, set_get _ hlt, this, h1]
  · intro b1 b2 i1 i2 h1 h2
    rw [Hp.get_set] at h1 h2
    have f1 : H.get b1 ≠ none := by by_cases q : b1 = b <;> simp_all
    have f2 : H.get b2 ≠ none := by by_cases q : b2 = b <;> simp_all
    exact k.inj b1 b2 i1 i2 f1 f2
  · intro x hx
    have := k.fresh x hx
    have hne : x ≠ b := by rintro rfl; rw [e] at this; simp at this
    exact ⟨this.1, by rw [Hp.get_set]; simp [hne, this.2]⟩
  · refine ⟨Rn.le_refl _, ?_, by simp [setW], fun _ _ h => h, Nat.le_refl _, rfl, rfl, rfl⟩
    intro cb hcb hno
    have hne : cb ≠ i.blk := fun q => hno b i (by simp [e]) hb q.symm
    refine ⟨by simp [setW, set_get _ hlt, hne], fun x j hx hj => ?_⟩
    rw [Hp.get_set] at hx
    by_cases hxb : x = b
    · subst hxb; exact hno x j (by simp [e]) hj
    · simp [hxb] at hx; exact hno x j hx hj

/-- A new block. -/
theorem HR.new {ρ : Rn} {H : Hp} {w : World} (k : HR ρ H w.heap) {i : BI} (hi : i.blk = w.heap.size) {o : AObj} {o' : Obj} (ho : OR (ρ.add H.nxt i) i o o') {m : Nat} (hm : m ≤ H.nxt) :
    HR (ρ.add H.nxt i) (H.new o) (pushW w o').heap ∧ Grw m ρ H w (ρ.add H.nxt i) (H.new o) (pushW w o') := by
  have hf := k.fresh H.nxt (Nat.le_refl _)
  have hle : ρ.le (ρ.add H.nxt i) := Rn.le_add i hf.1
  refine ⟨⟨?_, ?_, ?_⟩, ?_⟩
  · intro b o1 j e hj
    rw [Hp.get_new] at e
    by_cases hb : b = H.nxt
    · subst hb
      rw [Rn.add_same] at hj; cases hj
      simp at e; subst e
      exact ⟨o', by simp [pushW, hi], ho⟩
    · simp [hb] at e
      rw [Rn.add_other _ _ hb] at hj
      obtain ⟨o1', h1, h2⟩ := k.obj b o1 j e hj
      have hlt := (Array.getElem?_eq_some_iff.1 h1).1
      refine ⟨o1', ?_, h2.mono hle⟩
      have : j.blk ≠ w.heap.size := by omega
      simp [pushW, push_get, this, h1]
  · intro b1 b2 i1 i2 h1 h2 e1 e2 hq
    rw [Hp.get_new] at h1 h2
    by_cases q1 : b1 = H.nxt
    · subst q1
      rw [Rn.add_same] at e1; cases e1
      by_cases q2 : b2 = H.nxt
      · exact q2.symm
      · simp [q2] at h2
        rw [Rn.add_other _ _ q2] at e2
        cases hh : H.get b2 with
        | none => exact absurd hh h2
        | some o2 => have := k.lt hh e2; omega
    · simp [q1] at h1
      rw [Rn.add_other _ _ q1] at e1
      by_cases q2 : b2 = H.nxt
      · subst q2
        rw [Rn.add_same] at e2; cases e2
        cases hh : H.get b1 with
        | none => exact absurd hh h1
        | some o2 => have := k.lt hh e1; omega
      · simp [q2] at h2
        rw [Rn.add_other _ _ q2] at e2
        exact k.inj b1 b2 i1 i2 h1 h2 e1 e2 hq
  · intro x hx
    have hx' : H.nxt + 1 ≤ x := hx
    have hne : x ≠ H.nxt := by omega
    have := k.fresh x (by omega)
    exact ⟨by rw [Rn.add_other _ _ hne]; exact this.1, by rw [Hp.get_new]; simp [hne, this.2]⟩
  · refine ⟨hle, ?_, by simp [pushW], ?_, by simp [Hp.new], rfl, rfl, rfl⟩
    · intro cb hcb hno
      have hne : cb ≠ w.heap.size := by omega
      refine ⟨by simp [pushW, push_get, hne], fun x j hx hj => ?_⟩
      rw [Hp.get_new] at hx
      by_cases hxb : x = H.nxt
      · subst hxb; rw [Rn.add_same] at hj; cases hj; omega
      · simp [hxb] at hx; rw [Rn.add_other _ _ hxb] at hj; exact hno x j hx hj
    · intro b hb h0
      have : b ≠ H.nxt := by omega
      rw [Rn.add_other _ _ this]; exact h0

/-- A block that the abstract machine has laid ahead: it stands for none as yet. -/
theorem HR.unborn {ρ : Rn} {H : Hp} {h : Array Obj} (k : HR ρ H h) (o : AObj) : HR ρ (H.new o) h := by
  have hf := k.fresh H.nxt (Nat.le_refl _)
  refine ⟨?_, ?_, ?_⟩
  · intro b o1 j e hj
    rw [Hp.get_new] at e
    by_cases hb : b = H.nxt
    · subst hb; rw [hf.1] at hj; cases hj
    · simp [hb] at e; exact k.obj b o1 j e hj
  · intro b1 b2 i1 i2 h1 h2 e1 e2 hq
    rw [Hp.get_new] at h1 h2
    have q1 : b1 ≠ H.nxt := by rintro rfl; rw [hf.1] at e1; cases e1
    have q2 : b2 ≠ H.nxt := by rintro rfl; rw [hf.1] at e2; cases e2
    simp [q1] at h1; simp [q2] at h2
    exact k.inj b1 b2 i1 i2 h1 h2 e1 e2 hq
  · intro x hx
    have hx' : H.nxt + 1 ≤ x := hx
    have hne : x ≠ H.nxt := by omega
    have := k.fresh x (by omega)
    exact ⟨this.1, by rw [Hp.get_new]; simp [hne, this.2]⟩

theorem Grw.unborn {ρ : Rn} {H : Hp} {w : World} (k : HR ρ H w.heap) (o : AObj) (m : Nat) : Grw m ρ H w ρ (H.new o) w := by
  have hf := k.fresh H.nxt (Nat.le_refl _)
  refine ⟨Rn.le_refl _, fun cb _ hno => ⟨rfl, fun x j hx hj => ?_⟩, Nat.le_refl _, fun _ _ h => h, by simp [Hp.new], rfl, rfl, rfl⟩
  have q1 : x ≠ H.nxt := by rintro rfl; rw [hf.1] at hj; cases hj
  rw [Hp.get_new] at hx
  simp [q1] at hx
  exact hno x j hx hj

/-- The block that was laid ahead comes to stand for a new one. -/
theorem HR.born {ρ : Rn} {H : Hp} {w : World} (k : HR ρ H w.heap) {b : Nat} {o : AObj} (hb : ρ b = none) (e : H.get b = some o) {i : BI} (hi : i.blk = w.heap.size) {o' : Obj}
    (ho : OR (ρ.add b i) i o o') {m : Nat} (hm : m ≤ b) : HR (ρ.add b i) H (pushW w o').heap ∧ Grw m ρ H w (ρ.add b i) H (pushW w o') := by
  have hle : ρ.le (ρ.add b i) := Rn.le_add i hb
  have hlt : b < H.nxt := by
    rcases Nat.lt_or_ge b H.nxt with h | h
    · exact h
    · have := (k.fresh b h).2; rw [e] at this; cases this
  refine ⟨⟨?_, ?_, ?_⟩, ?_⟩
  · intro x o1 j e1 hj
    by_cases hx : x = b
    · subst hx
      rw [Rn.add_same] at hj; cases hj
      rw [e] at e1; cases e1
      exact ⟨o', by simp [pushW, hi], ho⟩
    · rw [Rn.add_other _ _ hx] at hj
      obtain ⟨o1', h1, h2⟩ := k.obj x o1 j e1 hj
      have hlt := (Array.getElem?_eq_some_iff.1 h1).1
      refine ⟨o1', ?_, h2.mono hle⟩
      have : j.blk ≠ w.heap.size := by omega
      simp [pushW, push_get, this, h1]
  · intro b1 b2 i1 i2 h1 h2 e1 e2 hq
    by_cases q1 : b1 = b
    · subst q1
      rw [Rn.add_same] at e1; cases e1
      by_cases q2 : b2 = b1
      · exact q2.symm
      · rw [Rn.add_other _ _ q2] at e2
        cases hh : H.get b2 with
        | none => exact absurd hh h2
        | some o2 => have := k.lt hh e2; omega
    · rw [Rn.add_other _ _ q1] at e1
      by_cases q2 : b2 = b
      · subst q2
        rw [Rn.add_same] at e2; cases e2
        cases hh : H.get b1 with
        | none => exact absurd hh h1
        | some o2 => have := k.lt hh e1; omega
      · rw [Rn.add_other _ _ q2] at e2
        exact k.inj b1 b2 i1 i2 h1 h2 e1 e2 hq
  · intro x hx
    have hne : x ≠ b := by omega
    have := k.fresh x hx
    exact ⟨by rw [Rn.add_other _ _ hne]; exact this.1, this.2⟩
  · refine ⟨hle, ?_, by simp [pushW], ?_, Nat.le_refl _, rfl, rfl, rfl⟩
    · intro cb hcb hno
      have hne : cb ≠ w.heap.size := by omega
      refine ⟨by simp [pushW, push_get, hne], fun x j hx hj => ?_⟩
      by_cases hxb : x = b
      · subst hxb; rw [Rn.add_same] at hj; cases hj; omega
      · rw [Rn.add_other _ _ hxb] at hj; exact hno x j hx hj
    · intro x hx h0
      have : x ≠ b := by omega
      rw [Rn.add_other _ _ this]; exact h0

/-- A block grows where it stands: its elder name is given up, a new name stands for it from a cell on. -/
theorem HR.regrow {ρ : Rn} {H : Hp} {w : World} (k : HR ρ H w.heap) {b : Nat} {o : AObj} {i : BI} (e : H.get b = some o) (hb : ρ b = some i) {j : BI} (hj : j.blk = i.blk) {o2 : AObj} {o' : Obj}
    (ho : OR (ρ.add H.nxt j) j o2 o') {m : Nat} (hm : m ≤ H.nxt) :
    HR (ρ.add H.nxt j) ((H.kill b).new o2) (setW w i.blk o').heap ∧ Grw m ρ H w (ρ.add H.nxt j) ((H.kill b).new o2) (setW w i.blk o') := by
  have hlt := k.lt e hb
  have hf := k.fresh H.nxt (Nat.le_refl _)
  have hle : ρ.le (ρ.add H.nxt j) := Rn.le_add j hf.1
  have hn : (H.kill b).nxt = H.nxt := rfl
  have get : ∀ x, ((H.kill b).new o2).get x = if x = H.nxt then some o2 else if x = b then none else H.get x := by
    intro x; rw [Hp.get_new, hn, Hp.get_kill]
  have nof : ∀ {x : Nat} {jx : BI}, x ≠ H.nxt → ((H.kill b).new o2).get x ≠ none → ρ x = some jx → jx.blk ≠ i.blk ∧ H.get x ≠ none := by
    intro x jx hx hg hr
    rw [get, if_neg hx] at hg
    by_cases q : x = b
    · simp [q] at hg
    · simp only [q, if_false] at hg
      exact ⟨fun q2 => q (k.inj x b jx i hg (by simp [e]) hr hb q2), hg⟩
  refine ⟨⟨?_, ?_, ?_⟩, ?_⟩
  · intro x o1 jx e1 hx
    by_cases q : x = H.nxt
    · subst q
      rw [Rn.add_same] at hx; cases hx
      rw [get, if_pos rfl] at e1; cases e1
      exact ⟨o', by simp [setW, set_get _ hlt, hj], ho⟩
    · rw [Rn.add_other _ _ q] at hx
      obtain ⟨h1, h2⟩ := nof q (by rw [e1]; simp) hx
      rw [get, if_neg q] at e1
      have q2 : x ≠ b := by rintro rfl; simp at e1
      simp only [q2, if_false] at e1
      obtain ⟨o1', h3, h4⟩ := k.obj x o1 jx e1 hx
      exact ⟨o1', by simp [setW, set_get _ hlt, h1, h3], h4.mono hle⟩
  · intro b1 b2 i1 i2 h1 h2 e1 e2 hq
    by_cases q1 : b1 = H.nxt
    · subst q1
      rw [Rn.add_same] at e1; cases e1
      by_cases q2 : b2 = H.nxt
      · exact q2.symm
      · rw [Rn.add_other _ _ q2] at e2
        exact absurd (hq.symm.trans hj) (nof q2 h2 e2).1
    · rw [Rn.add_other _ _ q1] at e1
      by_cases q2 : b2 = H.nxt
      · subst q2
        rw [Rn.add_same] at e2; cases e2
        exact absurd (hq.trans hj) (nof q1 h1 e1).1
      · rw [Rn.add_other _ _ q2] at e2
        exact k.inj b1 b2 i1 i2 (nof q1 h1 e1).2 (nof q2 h2 e2).2 e1 e2 hq
  · intro x hx
    have hx' : H.nxt + 1 ≤ x := hx
    have hne : x ≠ H.nxt := by omega
    have := k.fresh x (by omega)
    exact ⟨by rw [Rn.add_other _ _ hne]; exact this.1, by rw [get, if_neg hne, this.2]; simp⟩
  · refine ⟨hle, ?_, by simp [setW], ?_, by simp [Hp.new, Hp.kill], rfl, rfl, rfl⟩
    · intro cb hcb hno
      have hne : cb ≠ i.blk := fun q => hno b i (by simp [e]) hb q.symm
      refine ⟨by simp [setW, set_get _ hlt, hne], fun x jx hx hr => ?_⟩
      by_cases q : x = H.nxt
      · subst q; rw [Rn.add_same] at hr; cases hr; rw [hj]; exact fun q => hne q.symm
      · rw [Rn.add_other _ _ q] at hr
        exact hno x jx (nof q hx hr).2 hr
    · intro x hx h0
      have : x ≠ H.nxt := by omega
      rw [Rn.add_other _ _ this]; exact h0

/-- A block that nobody may ask for any more. -/
theorem HR.kill {ρ : Rn} {H : Hp} {h : Array Obj} (k : HR ρ H h) (b : Nat) : HR ρ (H.kill b) h := by
  have sub : ∀ x, (H.kill b).get x ≠ none → H.get x ≠ none := by
    intro x hx q; apply hx; rw [Hp.get_kill, q]; simp
  refine ⟨?_, ?_, ?_⟩
  · intro x o1 j e hj
    rw [Hp.get_kill] at e
    by_cases hb : x = b
    · simp [hb] at e
    · simp [hb] at e; exact k.obj x o1 j e hj
  · intro b1 b2 i1 i2 h1 h2
    exact k.inj b1 b2 i1 i2 (sub _ h1) (sub _ h2)
  · intro x hx
    have := k.fresh x hx
    exact ⟨this.1, by rw [Hp.get_kill, this.2]; simp⟩

theorem Grw.kill (m : Nat) (ρ : Rn) (H : Hp) (w : World) (b : Nat) : Grw m ρ H w ρ (H.kill b) w := by
  refine ⟨Rn.le_refl _, fun cb _ hno => ⟨rfl, fun x j hx hj => hno x j (fun q => hx ?_) hj⟩, Nat.le_refl _, fun _ _ h => h, Nat.le_refl _, rfl, rfl, rfl⟩
  rw [Hp.get_kill, q]; simp

theorem Grw.drew (m : Nat) (ρ : Rn) (H : Hp) (w : World) : Grw m ρ H w ρ H (drewW w) :=
  ⟨Rn.le_refl ρ, fun _ _ h => ⟨rfl, h⟩, Nat.le_refl _, fun _ _ h => h, Nat.le_refl _, rfl, rfl, rfl⟩

end Go.AM
