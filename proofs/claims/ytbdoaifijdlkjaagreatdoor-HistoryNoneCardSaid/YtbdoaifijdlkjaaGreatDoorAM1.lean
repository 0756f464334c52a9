/-
  AM1: the relation between the abstract machine's memory and the model's: renaming of blocks.
-/
import Derived.Test.YtbdoaifijdlkjaaGreatDoorAM0
namespace Go.AM
open Go

/-! ### the trie -/
theorem Tr.get_nil {α : Type} (n : Nat) : (Tr.nil : Tr α).get n = none := by cases n <;> rfl

theorem parity {m n : Nat} (h : m % 2 = n % 2) (h2 : m / 2 = n / 2) : m = n := by omega

theorem Tr.get_putF {α : Type} : ∀ (f : Nat) (t : Tr α) (n : Nat) (x : Option α) (m : Nat), n < f →
    (t.putF f n x).get m = if m = n then x else t.get m := by
  intro f
  induction f with
  | zero => intro t n x m h; omega
  | succ f ih =>
    intro t n x m h
    have key : ∀ (l : Tr α) (v : Option α) (r : Tr α), (match n with
        | 0 => Tr.node l x r
        | k + 1 => bif Nat.beq (k % 2) 0 then .node (putF f l (k / 2) x) v r else .node l v (putF f r (k / 2) x)).get m =
        if m = n then x else (Tr.node l v r).get m := by
      intro l v r
      cases n with
      | zero =>
        cases m with
        | zero => simp [Tr.get]
        | succ m => simp [Tr.get]
      | succ k =>
        have hk : k / 2 < f := by omega
        by_cases hk0 : k % 2 = 0
        · have hb : Nat.beq (k % 2) 0 = true := by simp [hk0]
          simp only [hb, cond_true]
          cases m with
          | zero => simp [Tr.get]
          | succ m =>
            simp only [Tr.get]
            by_cases hm0 : m % 2 = 0
            · have hb' : Nat.beq (m % 2) 0 = true := by simp [hm0]
              simp only [hb', cond_true]
              rw [ih _ _ _ _ hk]
              by_cases e : m / 2 = k / 2
              · have : m = k := parity (by omega) e
                simp [this]
              · have h3 : ¬ m = k := by intro e'; apply e; rw [e']
                simp [e, h3]
            · have hb' : Nat.beq (m % 2) 0 = false := by
                have : ¬ m % 2 = 0 := hm0
                cases hh : Nat.beq (m % 2) 0 with
                | true => exact absurd (Nat.eq_of_beq_eq_true hh) this
                | false => rfl
              simp only [hb', cond_false]
              have h3 : ¬ m = k := by intro e'; apply hm0; rw [e']; exact hk0
              simp [h3]
        · have hb : Nat.beq (k % 2) 0 = false := by
            cases hh : Nat.beq (k % 2) 0 with
            | true => exact absurd (Nat.eq_of_beq_eq_true hh) hk0
            | false => rfl
          simp only [hb, cond_false]
          cases m with
          | zero => simp [Tr.get]
          | succ m =>
            simp only [Tr.get]
            by_cases hm0 : m % 2 = 0
            · have hb' : Nat.beq (m % 2) 0 = true := by simp [hm0]
              simp only [hb', cond_true]
              have h3 : ¬ m = k := by intro e'; apply hk0; rw [← e']; exact hm0
              simp [h3]
            · have hb' : Nat.beq (m % 2) 0 = false := by
                cases hh : Nat.beq (m % 2) 0 with
                | true => exact absurd (Nat.eq_of_beq_eq_true hh) hm0
                | false => rfl
              simp only [hb', cond_false]
              rw [ih _ _ _ _ hk]
              by_cases e : m / 2 = k / 2
              · have : m = k := parity (by omega) e
                simp [this]
              · have h3 : ¬ m = k := by intro e'; apply e; rw [e']
                simp [e, h3]
    cases t with
    | nil =>
      have := key .nil none .nil
      simp only [Tr.putF]
      have e : (Tr.node Tr.nil none Tr.nil : Tr α).get m = (Tr.nil : Tr α).get m := by
        rw [Tr.get_nil]; cases m with
        | zero => rfl
        | succ m => simp only [Tr.get]; cases Nat.beq (m % 2) 0 <;> simp
      rw [e] at this
      exact this
    | node l v r => simp only [Tr.putF]; exact key l v r

theorem Tr.get_put {α : Type} (t : Tr α) (n m : Nat) (x : Option α) : (t.put n x).get m = if m = n then x else t.get m :=
  Tr.get_putF _ _ _ _ _ (Nat.lt_succ_self n)

theorem Hp.get_set (H : Hp) (b b' : Nat) (o : AObj) : (H.set b o).get b' = if b' = b then some o else H.get b' := Tr.get_put _ _ _ _
theorem Hp.get_kill (H : Hp) (b b' : Nat) : (H.kill b).get b' = if b' = b then none else H.get b' := Tr.get_put _ _ _ _
theorem Hp.get_new (H : Hp) (b' : Nat) (o : AObj) : (H.new o).get b' = if b' = H.nxt then some o else H.get b' := Tr.get_put _ _ _ _

/-! ### values -/
/-- Where an abstract block lies: in which block of the model, from which cell on; how many cells are known; the size of its elements; how many cells the block has;
  whether what lies behind the known ones is open. -/
structure BI where
  blk : Nat
  sh : Nat
  n : Nat
  esz : Nat
  room : Nat
  op : Bool

abbrev Rn := Nat → Option BI

def Rn.le (ρ ρ' : Rn) : Prop := ∀ b i, ρ b = some i → ρ' b = some i
theorem Rn.le_refl (ρ : Rn) : ρ.le ρ := fun _ _ h => h
theorem Rn.le_trans {a b c : Rn} (h : a.le b) (k : b.le c) : a.le c := fun x i e => k x i (h x i e)

def Rn.add (ρ : Rn) (b : Nat) (i : BI) : Rn := fun x => if x = b then some i else ρ x
theorem Rn.add_same (ρ : Rn) (b : Nat) (i : BI) : ρ.add b i b = some i := by simp [Rn.add]
theorem Rn.add_other (ρ : Rn) {b x : Nat} (i : BI) (h : x ≠ b) : ρ.add b i x = ρ x := by simp [Rn.add, h]
theorem Rn.le_add {ρ : Rn} {b : Nat} (i : BI) (h : ρ b = none) : ρ.le (ρ.add b i) := by
  intro x j e
  by_cases hx : x = b
  · subst hx; rw [h] at e; cases e
  · rw [Rn.add_other _ _ hx]; exact e

/-- Functions' names: a loop's yield bears a block's number. -/
inductive FnR (ρ : Rn) : Fn → Fn → Prop where
  | func (f) : FnR ρ (.func f) (.func f)
  | via (t p f q) : FnR ρ (.via t p f q) (.via t p f q)
  | yield {l : Nat} {i : BI} (h : ρ l = some i) (hs : i.sh = 0) : FnR ρ (.yield l) (.yield i.blk)

/-- A token stands for a value that nobody looks into: 1: a negative number, 2: a positive one. -/
structure TokOk (k : Nat) (v : Value) : Prop where
  one : oneCell v = true
  bool : ∀ b, v ≠ .bool b
  neg : k = 1 → ∃ n, v = .int .i64 (.negSucc n)
  pos : k = 2 → ∃ n, v = .int .i64 (.ofNat (n + 1))

inductive VR (ρ : Rn) : Value → Value → Prop where
  | tok {k : Nat} {v : Value} (h : TokOk k v) : VR ρ (.chan (some k)) v
  | flat {v : Value} (h : flatV v = true) : VR ρ v v
  | ptr {a : Addr} {i : BI} (hs : a.spot = none) (hb : ρ a.block = some i) : VR ρ (.pointer (some a)) (.pointer (some ⟨i.blk, i.sh + a.off, none⟩))
  | slice {a : Addr} {i : BI} {len cap cap' : Nat} (hs : a.spot = none) (hb : ρ a.block = some i)
      (hx : cap' = cap ∨ (i.op = true ∧ a.off + cap * i.esz = i.n ∧ i.sh + a.off + cap' * i.esz ≤ i.room ∧ cap ≤ cap')) :
      VR ρ (.slice (some a) len cap) (.slice (some ⟨i.blk, i.sh + a.off, none⟩) len cap')
  | slice0 {a a' : Addr} {i : BI} (hs : a.spot = none) (hb : ρ a.block = some i) (hb' : a'.block = i.blk) (hs' : a'.spot = none) :
      VR ρ (.slice (some a) 0 0) (.slice (some a') 0 0)
  | map {r : Nat} {i : BI} (h : ρ r = some i) (hs : i.sh = 0) : VR ρ (.map (some r)) (.map (some i.blk))
  | func {f f' : Fn} {x x' c c' : List Value} (hf : FnR ρ f f') (hx : x.length = x'.length) (hc : c.length = c'.length)
      (h1 : ∀ j, VR ρ (x.getD j undefV) (x'.getD j undefV)) (h2 : ∀ j, VR ρ (c.getD j undefV) (c'.getD j undefV)) :
      VR ρ (.func f ⟨x⟩ ⟨c⟩) (.func f' ⟨x'⟩ ⟨c'⟩)
  | iface {t : Nat} {v v' : Value} (h : VR ρ v v') : VR ρ (.iface t v) (.iface t v')
  | agg {x x' : List Value} (hx : x.length = x'.length) (h : ∀ j, VR ρ (x.getD j undefV) (x'.getD j undefV)) : VR ρ (.agg ⟨x⟩) (.agg ⟨x'⟩)
  | tuple {x x' : List Value} (hx : x.length = x'.length) (h : ∀ j, VR ρ (x.getD j undefV) (x'.getD j undefV)) : VR ρ (.tuple ⟨x⟩) (.tuple ⟨x'⟩)

theorem FnR.mono {ρ ρ' : Rn} (h : ρ.le ρ') {f f' : Fn} (k : FnR ρ f f') : FnR ρ' f f' := by
  cases k with
  | func f => exact .func f
  | via t p f q => exact .via t p f q
  | yield e hs => exact .yield (h _ _ e) hs

theorem VR.mono {ρ ρ' : Rn} (h : ρ.le ρ') {v v' : Value} (k : VR ρ v v') : VR ρ' v v' := by
  induction k with
  | tok hk => exact .tok hk
  | flat hf => exact .flat hf
  | ptr hs hb => exact .ptr hs (h _ _ hb)
  | slice hs hb hx => exact .slice hs (h _ _ hb) hx
  | slice0 hs hb hb' hs' => exact .slice0 hs (h _ _ hb) hb' hs'
  | map hb hs => exact .map (h _ _ hb) hs
  | func hf hx hc _ _ i1 i2 => exact .func (hf.mono h) hx hc i1 i2
  | iface _ ih => exact .iface ih
  | agg hx _ ih => exact .agg hx ih
  | tuple hx _ ih => exact .tuple hx ih

theorem VR.undef (ρ : Rn) : VR ρ undefV undefV := .flat rfl

/-- Two lists of values, one by one. -/
def LR (ρ : Rn) (x x' : List Value) : Prop := x.length = x'.length ∧ ∀ j, VR ρ (x.getD j undefV) (x'.getD j undefV)

theorem LR.mono {ρ ρ' : Rn} (h : ρ.le ρ') {x x' : List Value} (k : LR ρ x x') : LR ρ' x x' := ⟨k.1, fun j => (k.2 j).mono h⟩
theorem LR.nil (ρ : Rn) : LR ρ [] [] := ⟨rfl, fun j => by simpa using VR.undef ρ⟩
theorem LR.cons {ρ : Rn} {v v' : Value} {x x' : List Value} (h : VR ρ v v') (k : LR ρ x x') : LR ρ (v :: x) (v' :: x') :=
  ⟨by simp [k.1], fun j => by cases j with
    | zero => simpa using h
    | succ j => simpa using k.2 j⟩
theorem LR.cons_inv {ρ : Rn} {v : Value} {x y : List Value} (h : LR ρ (v :: x) y) : ∃ v' x', y = v' :: x' ∧ VR ρ v v' ∧ LR ρ x x' := by
  cases y with
  | nil => simp [LR] at h
  | cons v' x' =>
    refine ⟨v', x', rfl, by simpa using h.2 0, by simpa using h.1, fun j => by simpa using h.2 (j + 1)⟩
theorem LR.nil_inv {ρ : Rn} {y : List Value} (h : LR ρ [] y) : y = [] := by
  cases y with
  | nil => rfl
  | cons v' x' => simp [LR] at h

theorem LR.append {ρ : Rn} {x x' y y' : List Value} (h : LR ρ x x') (k : LR ρ y y') : LR ρ (x ++ y) (x' ++ y') := by
  induction x generalizing x' with
  | nil => rw [h.nil_inv]; simpa using k
  | cons v x ih => obtain ⟨v', x'', rfl, hv, hx⟩ := h.cons_inv; exact .cons hv (ih hx)

theorem LR.drop {ρ : Rn} {x x' : List Value} (h : LR ρ x x') (n : Nat) : LR ρ (x.drop n) (x'.drop n) := by
  induction n generalizing x x' with
  | zero => simpa using h
  | succ n ih =>
    cases x with
    | nil => rw [h.nil_inv]; simpa using LR.nil ρ
    | cons v x => obtain ⟨v', x'', rfl, hv, hx⟩ := h.cons_inv; simpa using ih hx

theorem LR.take {ρ : Rn} {x x' : List Value} (h : LR ρ x x') (n : Nat) : LR ρ (x.take n) (x'.take n) := by
  induction n generalizing x x' with
  | zero => simpa using LR.nil ρ
  | succ n ih =>
    cases x with
    | nil => rw [h.nil_inv]; simpa using LR.nil ρ
    | cons v x => obtain ⟨v', x'', rfl, hv, hx⟩ := h.cons_inv; simpa using LR.cons hv (ih hx)

theorem LR.get {ρ : Rn} {x x' : List Value} (h : LR ρ x x') {j : Nat} {v : Value} (e : x[j]? = some v) : ∃ v', x'[j]? = some v' ∧ VR ρ v v' := by
  have hj : j < x.length := by
    rcases Nat.lt_or_ge j x.length with h | h
    · exact h
    · simp [List.getElem?_eq_none h] at e
  have hj' : j < x'.length := h.1 ▸ hj
  refine ⟨x'[j], by simp [hj'], ?_⟩
  have := h.2 j
  simp [List.getD, e, hj'] at this
  simpa using this

theorem LR.of_get {ρ : Rn} {x x' : List Value} (hl : x.length = x'.length) (h : ∀ j (hj : j < x.length) (hj' : j < x'.length), VR ρ x[j] x'[j]) : LR ρ x x' := by
  refine ⟨hl, fun j => ?_⟩
  rcases Nat.lt_or_ge j x.length with hj | hj
  · have hj' : j < x'.length := hl ▸ hj
    simpa [List.getD, hj, hj'] using h j hj hj'
  · simpa [List.getD, List.getElem?_eq_none hj, List.getElem?_eq_none (hl ▸ hj)] using VR.undef ρ

theorem LR.refl_flat {ρ : Rn} {x : List Value} (h : ∀ v ∈ x, flatV v = true) : LR ρ x x :=
  LR.of_get rfl fun _j hj _ => .flat (h _ (List.getElem_mem hj))

theorem VR.agg_inv {ρ : Rn} {x : List Value} {v : Value} (h : VR ρ (.agg ⟨x⟩) v) : ∃ x', v = .agg ⟨x'⟩ ∧ LR ρ x x' := by
  cases h with
  | flat hf => simp [flatV] at hf; subst hf; exact ⟨[], rfl, LR.nil ρ⟩
  | agg hx h => exact ⟨_, rfl, hx, h⟩
theorem VR.tuple_inv {ρ : Rn} {x : List Value} {v : Value} (h : VR ρ (.tuple ⟨x⟩) v) : ∃ x', v = .tuple ⟨x'⟩ ∧ LR ρ x x' := by
  cases h with
  | flat hf => simp [flatV] at hf; subst hf; exact ⟨[], rfl, LR.nil ρ⟩
  | tuple hx h => exact ⟨_, rfl, hx, h⟩
theorem VR.func_inv {ρ : Rn} {f : Fn} {x c : List Value} {v : Value} (h : VR ρ (.func f ⟨x⟩ ⟨c⟩) v) :
    ∃ f' x' c', v = .func f' ⟨x'⟩ ⟨c'⟩ ∧ FnR ρ f f' ∧ LR ρ x x' ∧ LR ρ c c' := by
  cases h with
  | flat hf => simp [flatV] at hf
  | func hf hx hc h1 h2 => exact ⟨_, _, _, rfl, hf, ⟨hx, h1⟩, hc, h2⟩
theorem VR.mk_agg {ρ : Rn} {x x' : List Value} (h : LR ρ x x') : VR ρ (.agg ⟨x⟩) (.agg ⟨x'⟩) := .agg h.1 h.2
theorem VR.mk_tuple {ρ : Rn} {x x' : List Value} (h : LR ρ x x') : VR ρ (.tuple ⟨x⟩) (.tuple ⟨x'⟩) := .tuple h.1 h.2
theorem VR.mk_func {ρ : Rn} {f f' : Fn} {x x' c c' : List Value} (hf : FnR ρ f f') (h : LR ρ x x') (k : LR ρ c c') : VR ρ (.func f ⟨x⟩ ⟨c⟩) (.func f' ⟨x'⟩ ⟨c'⟩) := .func hf h.1 k.1 h.2 k.2

/-- What is flat is related to itself alone. -/
theorem VR.flat_inv {ρ : Rn} {v v' : Value} (h : VR ρ v v') (hf : flatV v = true) : v' = v := by
  cases h with
  | flat _ => rfl
  | agg hx h => simp [flatV] at hf; subst hf; rw [List.eq_nil_of_length_eq_zero hx.symm]
  | tuple hx h => simp [flatV] at hf; subst hf; rw [List.eq_nil_of_length_eq_zero hx.symm]
  | _ => simp [flatV] at hf

/-- A value's cells. -/
theorem VR.cells {ρ : Rn} {v v' : Value} (h : VR ρ v v') : LR ρ v.cells.toList v'.cells.toList := by
  cases h with
  | tok hk =>
    rename_i k
    have e : v'.cells.toList = [v'] := by have := hk.one; cases v' <;> first | rfl | (simp [AM.oneCell] at this)
    rw [e]
    exact .cons (.tok hk) (.nil ρ)
  | flat hf =>
    cases v <;> first | exact LR.cons (.flat hf) (LR.nil ρ) | (rename_i cs; simp [flatV] at hf; subst hf; exact LR.nil ρ)
  | ptr hs hb => exact .cons (.ptr hs hb) (.nil ρ)
  | slice hs hb hx => exact .cons (.slice hs hb hx) (.nil ρ)
  | slice0 hs hb h1 h2 => exact .cons (.slice0 hs hb h1 h2) (.nil ρ)
  | map h hs => exact .cons (.map h hs) (.nil ρ)
  | func hf hx hc h1 h2 => exact .cons (.func hf hx hc h1 h2) (.nil ρ)
  | iface h => exact .cons (.iface h) (.nil ρ)
  | agg hx h => exact ⟨hx, h⟩
  | tuple hx h => exact .cons (.tuple hx h) (.nil ρ)

theorem VR.oneCell {ρ : Rn} {v v' : Value} (h : VR ρ v v') : AM.oneCell v' = AM.oneCell v := by
  cases h <;> first | rfl | (rename_i hk; rw [hk.one]; rfl)

end Go.AM
