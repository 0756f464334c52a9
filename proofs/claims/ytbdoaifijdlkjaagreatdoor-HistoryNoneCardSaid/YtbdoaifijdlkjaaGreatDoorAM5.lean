/-
  AM5: numbers, texts, equality.
-/
import Derived.Test.YtbdoaifijdlkjaaGreatDoorAM4
namespace Go.AM
open Go

theorem sameKind_eq {a b : IntKind} (h : sameKind a b = true) : a = b := by
  cases a <;> cases b <;> first | rfl | (simp [sameKind] at h)

theorem beqInt_eq (a b : Int) : beqInt a b = (a == b) := by
  cases a <;> cases b <;> simp [beqInt] <;> (rw [Bool.eq_iff_iff]; simp <;> omega)
theorem bleInt_eq (a b : Int) : bleInt a b = decide (a ≤ b) := by
  cases a with
  | ofNat a => cases b with
    | ofNat b =>
      simp only [bleInt]; rw [Bool.eq_iff_iff, Nat.ble_eq]; simp
    | negSucc b => simp only [bleInt]; symm; simp; omega
  | negSucc a => cases b with
    | ofNat b => simp only [bleInt]; symm; simp; omega
    | negSucc b =>
      simp only [bleInt]; rw [Bool.eq_iff_iff, Nat.ble_eq]; simp; omega

theorem bitsOf_eq (k : IntKind) (a b : Int) (f : Nat → Nat → Nat) (g : BitVec k.bits → BitVec k.bits → BitVec k.bits) (h : ∀ x y : BitVec k.bits, (g x y).toNat = f x.toNat y.toNat) :
    bitsOf f k a b = k.wrap (g (BitVec.ofInt k.bits a) (BitVec.ofInt k.bits b)).toNat := by
  unfold bitsOf
  simp only []
  rw [h, BitVec.toNat_ofInt, BitVec.toNat_ofInt]
  norm_cast

theorem beqBytes_eq : ∀ a b : List UInt8, beqBytes a b = (a == b)
  | [], [] => rfl
  | [], _ :: _ => rfl
  | _ :: _, [] => rfl
  | a :: x, b :: y => by
    simp only [beqBytes]
    rw [beqBytes_eq x y]
    cases h : Nat.beq a.toNat b.toNat with
    | true =>
      have : a = b := by have := Nat.eq_of_beq_eq_true h; exact UInt8.toNat_inj.1 this
      subst this
      simp
    | false =>
      have : a ≠ b := by rintro rfl; simp at h
      symm; simp [this]

theorem ltBytes_eq : ∀ a b : List UInt8, ltBytes a b = Op.bytesLess a b
  | _, [] => by cases ‹List UInt8› <;> rfl
  | [], _ :: _ => rfl
  | a :: x, b :: y => by
    simp only [ltBytes, Op.bytesLess]
    rw [ltBytes_eq x y]
    cases h : Nat.beq a.toNat b.toNat with
    | true =>
      have : a = b := by have := Nat.eq_of_beq_eq_true h; exact UInt8.toNat_inj.1 this
      subst this
      simp
    | false =>
      have hne : a ≠ b := by rintro rfl; simp at h
      simp only [cond_false]
      have : (a == b) = false := by simpa using hne
      rw [this]; simp only [Bool.false_and, Bool.or_false]
      rw [Bool.eq_iff_iff, Nat.blt_eq]; simp [UInt8.lt_iff_toNat_lt]

theorem bytesLess_total : ∀ a b : List UInt8, (Op.bytesLess a b || a == b) = !Op.bytesLess b a
  | [], [] => rfl
  | [], _ :: _ => rfl
  | _ :: _, [] => rfl
  | a :: x, b :: y => by
    simp only [Op.bytesLess]
    have ih := bytesLess_total x y
    by_cases h1 : a = b
    · subst h1; simp only [beq_self_eq_true, Bool.true_and]
      have : ¬ a < a := by simp
      simp only [this, decide_false, Bool.false_or]
      rw [← ih]; simp
    · have h2 : (a == b) = false := by simpa using h1
      have h3 : (b == a) = false := by simpa using fun e => h1 e.symm
      have h4 : (a :: x == b :: y) = false := by simp [h1]
      rw [h2, h3, h4]
      simp only [Bool.false_and, Bool.or_false]
      by_cases q : a < b
      · have : ¬ b < a := by intro q'; exact absurd (UInt8.lt_iff_toNat_lt.1 q) (by have := UInt8.lt_iff_toNat_lt.1 q'; omega)
        simp [q, this]
      · have : b < a := by
          have n1 : ¬ a.toNat < b.toNat := fun e => q (UInt8.lt_iff_toNat_lt.2 e)
          have n2 : a.toNat ≠ b.toNat := fun e => h1 (UInt8.toNat_inj.1 e)
          exact UInt8.lt_iff_toNat_lt.2 (by omega)
        simp [q, this]

section
variable {P : Program} {ρ : Rn} {w : World}

theorem intOp_ok {op : BinOp} {t : Nat} {k : IntKind} {a b : Int} {v : Value} (h : intOp op k a b = some v) : (Go.binOp op t (.int k a) (.int k b)).run P w = .ok v w ∧ flatV v = true := by
  cases op <;> simp only [intOp] at h <;> try (cases h; done)
  case add => cases h; exact ⟨by simp [Go.binOp, Op.intArith], rfl⟩
  case sub => cases h; exact ⟨by simp [Go.binOp, Op.intArith], rfl⟩
  case mul => cases h; exact ⟨by simp [Go.binOp, Op.intArith], rfl⟩
  case quo =>
    split at h
    · cases h
    · rename_i hb; rw [beqInt_eq] at hb
      cases h; exact ⟨by simp at hb; simp [Go.binOp, Op.intDiv, hb], rfl⟩
  case rem =>
    split at h
    · cases h
    · rename_i hb; rw [beqInt_eq] at hb
      cases h; exact ⟨by simp at hb; simp [Go.binOp, Op.intDiv, hb], rfl⟩
  case and => cases h; exact ⟨by rw [bitsOf_eq k a b Nat.land (fun x y => x &&& y) (fun x y => rfl)]; simp [Go.binOp, Op.intBits], rfl⟩
  case or => cases h; exact ⟨by rw [bitsOf_eq k a b Nat.lor (fun x y => x ||| y) (fun x y => rfl)]; simp [Go.binOp, Op.intBits], rfl⟩
  case xor => cases h; exact ⟨by rw [bitsOf_eq k a b Nat.xor (fun x y => x ^^^ y) (fun x y => rfl)]; simp [Go.binOp, Op.intBits], rfl⟩
  case andNot => cases h; exact ⟨by rw [bitsOf_eq k a b (fun x y => Nat.land x (2 ^ k.bits - 1 - y)) (fun x y => x &&& ~~~y) (fun x y => by simp only [BitVec.toNat_and, BitVec.toNat_not]; rfl)]; simp [Go.binOp, Op.intBits], rfl⟩
  case eql => cases h; exact ⟨by rw [beqInt_eq]; simp [Go.binOp, Op.intCmp], rfl⟩
  case neq => cases h; exact ⟨by rw [beqInt_eq]; simp [Go.binOp, Op.intCmp]; rfl, rfl⟩
  case lss => cases h; exact ⟨by rw [bleInt_eq]; simp [Go.binOp, Op.intCmp]; rw [Bool.eq_iff_iff]; simp, rfl⟩
  case leq => cases h; exact ⟨by rw [bleInt_eq]; simp [Go.binOp, Op.intCmp], rfl⟩
  case gtr => cases h; exact ⟨by rw [bleInt_eq]; simp [Go.binOp, Op.intCmp]; rw [Bool.eq_iff_iff]; simp, rfl⟩
  case geq => cases h; exact ⟨by rw [bleInt_eq]; simp [Go.binOp, Op.intCmp], rfl⟩

theorem shiftOp_ok {op : BinOp} {t : Nat} {k yk : IntKind} {a b : Int} {v : Value} (hop : op = .shl ∨ op = .shr) (h : shiftOp op k a b = some v) :
    (Go.binOp op t (.int k a) (.int yk b)).run P w = .ok v w ∧ flatV v = true := by
  cases b with
  | negSucc m => simp [shiftOp] at h
  | ofNat m =>
    have hm : ¬ (Int.ofNat m < 0) := by simp
    rcases hop with rfl | rfl <;> simp only [shiftOp] at h <;> cases h <;>
      exact ⟨by simp [Go.binOp, Op.shift]; try omega, rfl⟩

theorem str_eq (x : ByteArray) : x.toList = x.data.toList := ByteArray.toList_eq x

theorem strOp_ok {op : BinOp} {t : Nat} {x y : ByteArray} {v : Value} (h : strOp op x y = some v) : (Go.binOp op t (.string x) (.string y)).run P w = .ok v w ∧ flatV v = true := by
  have e1 : (x.data.toList == y.data.toList) = beqBytes x.data.toList y.data.toList := (beqBytes_eq _ _).symm
  have e2 : Op.bytesLess x.data.toList y.data.toList = ltBytes x.data.toList y.data.toList := (ltBytes_eq _ _).symm
  have e3 : (ltBytes x.data.toList y.data.toList || beqBytes x.data.toList y.data.toList) = !ltBytes y.data.toList x.data.toList := by
    rw [← e1, ← e2, ltBytes_eq]; exact bytesLess_total _ _
  cases op <;> simp only [strOp] at h <;> try (cases h; done)
  case add =>
    split at h
    · rename_i hb
      cases h
      have hb := Nat.le_of_ble_eq_true hb
      refine ⟨?_, rfl⟩
      have hn : ¬ (((x.size + y.size : Nat) : Int) > IntKind.i64.max) := by
        have : x.size = x.data.toList.length := rfl
        have : y.size = y.data.toList.length := rfl
        simp [IntKind.max, IntKind.signed, IntKind.bits]; omega
      simp only [Go.binOp, Op.stringOp, hn, if_false, Sem.run_pure]
      congr 2
    · cases h
  case eql => cases h; exact ⟨by simp [Go.binOp, Op.stringOp, str_eq, e1], rfl⟩
  case neq => cases h; exact ⟨by simp only [Go.binOp, Op.stringOp, str_eq, e1, Sem.run_pure], rfl⟩
  case lss => cases h; exact ⟨by simp [Go.binOp, Op.stringOp, str_eq, e2], rfl⟩
  case leq => cases h; exact ⟨by simp only [Go.binOp, Op.stringOp, str_eq, e1, e2, e3, Sem.run_pure], rfl⟩
  case gtr => cases h; exact ⟨by simp only [Go.binOp, Op.stringOp, str_eq, e1, e2, e3, Sem.run_pure, Bool.not_not], rfl⟩
  case geq => cases h; exact ⟨by simp only [Go.binOp, Op.stringOp, str_eq, e2, Sem.run_pure], rfl⟩

/-! ### equality -/
theorem eqFields_ok {eq : Nat → Value → Value → Option Bool} {D : Nat} (heq : ∀ t x y x' y' b, eq t x y = some b → VR ρ x x' → VR ρ y y' → (Op.equalIn D t x' y').run P w = .ok b w) :
    ∀ (fs : List Field) (xs ys xs' ys' : List Value) (b : Bool), LR ρ xs xs' → LR ρ ys ys' → eqFields P eq fs xs ys = some b → (Op.eqFields D ⟨xs'⟩ ⟨ys'⟩ fs).run P w = .ok b w
  | [], xs, ys, xs', ys', b, _, _, h => by simp only [eqFields] at h; cases h; simp [Op.eqFields]
  | f :: fs, xs, ys, xs', ys', b, hx, hy, h => by
    simp only [eqFields] at h
    split at h
    · cases h
    · rename_i hn
      have hn' : f.name ≠ "_" := by simpa using hn
      split at h
      · rename_i a c ha hc
        obtain ⟨a', ra, va⟩ := part_ok (P := P) (w := w) ha hx
        obtain ⟨c', rc, vc⟩ := part_ok (P := P) (w := w) hc hy
        simp only [Op.eqFields, hn', ne_eq, not_false_eq_true, if_true, Sem.run_bind, ra, rc, Result.andThen_ok]
        split at h
        · rename_i e
          rw [heq _ _ _ _ _ _ e va vc]
          simp only [Result.andThen_ok, Bool.not_true, Bool.false_eq_true, if_false]
          exact eqFields_ok heq fs xs ys xs' ys' b hx hy h
        · rename_i r hr
          rw [heq _ _ _ _ _ _ h va vc]
          cases b with
          | true => exact absurd h hr
          | false => simp
      · cases h

theorem VR.ptr_none {v : Value} (h : VR ρ (.pointer none) v) : v = .pointer none := h.flat_inv rfl

set_option maxHeartbeats 2000000 in
theorem eqv_ok : ∀ (d t : Nat) (x y x' y' : Value) (b : Bool), eqv P d t x y = some b → VR ρ x x' → VR ρ y y' → ∀ k, (Op.equalIn (d + k) t x' y').run P w = .ok b w
  | 0, _, _, _, _, _, _, h, _, _, _ => by simp [eqv] at h
  | d + 1, t, x, y, x', y', b, h, hx, hy, k => by
    have e0 : d + 1 + k = (d + k) + 1 := by omega
    rw [e0]
    unfold eqv at h
    split at h
    case h_1 hu => cases h; cases hx.flat_inv rfl; cases hy.flat_inv rfl; simp [Op.equalIn, run_under (w := w) hu]
    case h_2 hu =>
      cases hx.flat_inv rfl; cases hy.flat_inv rfl
      split at h
      · rename_i hk
        cases h
        cases sameKind_eq hk
        simp [Op.equalIn, run_under (w := w) hu, beqInt_eq]
      · cases h
    case h_3 hu =>
      cases hx.flat_inv rfl; cases hy.flat_inv rfl; cases h
      rw [run_equalIn_string w _ _ _ _ hu, str_eq, str_eq, beqBytes_eq]
    case h_4 hu =>
      rename_i o
      cases hx.flat_inv rfl
      cases h
      cases o with
      | none => cases hy.flat_inv rfl; simp [Op.equalIn, run_under (w := w) hu]
      | some a => obtain ⟨i, _, _, rfl⟩ := hy.ptr_inv; simp [Op.equalIn, run_under (w := w) hu]
    case h_5 hne hu =>
      rename_i o
      cases hy.flat_inv rfl
      cases h
      cases o with
      | none => exact (hne rfl).elim
      | some a => obtain ⟨i, _, _, rfl⟩ := hx.ptr_inv; simp [Op.equalIn, run_under (w := w) hu]
    case h_6 hu =>
      rename_i a c
      obtain ⟨i, ha, hb, rfl⟩ := hx.ptr_inv
      obtain ⟨j, hc, hd, rfl⟩ := hy.ptr_inv
      split at h
      · rename_i n hz
        split at h
        · rename_i hcond
          cases h
          simp only [Bool.and_eq_true] at hcond
          have e := Nat.eq_of_beq_eq_true hcond.2
          rw [e, hd] at hb; cases hb
          simp only [Op.equalIn, Sem.run_bind, run_under (w := w) hu, Result.andThen_ok, run_size (w := w) hz]
          simp only [ne_eq, if_true, sameAddr, beq_self_eq_true, Sem.run_ite, pure]
          refine congrArg (fun b => Result.ok b w) ?_
          rw [Bool.eq_iff_iff, Nat.beq_eq]
          simp
        · cases h
      · cases h
    case h_7 hu => cases h; cases hx.flat_inv rfl; cases hy.flat_inv rfl; simp [Op.equalIn, run_under (w := w) hu]
    case h_8 hu => cases h; cases hx.flat_inv rfl; cases hy with
      | iface _ => simp [Op.equalIn, run_under (w := w) hu]
      | flat hf => simp [flatV] at hf
    case h_9 hu => cases h; cases hy.flat_inv rfl; cases hx with
      | iface _ => simp [Op.equalIn, run_under (w := w) hu]
      | flat hf => simp [flatV] at hf
    case h_10 hu =>
      rename_i tx vx ty vy
      cases hx with
      | flat hf => simp [flatV] at hf
      | iface hx =>
        cases hy with
        | flat hf => simp [flatV] at hf
        | iface hy =>
          rename_i vx' vy'
          split at h
          · rename_i hne
            cases h
            have hne' : tx ≠ ty := by rintro rfl; simp at hne
            simp [Op.equalIn, run_under (w := w) hu, hne']
          · rename_i heq
            have heq' : tx = ty := by
              simp only [Bool.not_eq_true', Bool.not_eq_false] at heq
              exact Nat.eq_of_beq_eq_true heq
            subst heq'
            split at h
            · rename_i i hi
              split at h
              · rename_i hcomp
                have := eqv_ok d tx vx vy vx' vy' b h hx hy k
                simp [Op.equalIn, run_under (w := w) hu, run_info (w := w) hi, hcomp, this]
              · cases h
            · cases h
    case h_11 hu =>
      rename_i fields xs ys
      obtain ⟨xs⟩ := xs
      obtain ⟨ys⟩ := ys
      obtain ⟨xs', rfl, hxs⟩ := hx.agg_inv
      obtain ⟨ys', rfl, hys⟩ := hy.agg_inv
      split at h
      · cases h
      · rename_i hp
        have hf : P.fieldsOf t = fields := by simp [Program.fieldsOf, hu]
        rw [run_equalIn_struct w (d + k) t ⟨xs'⟩ ⟨ys'⟩ (by rw [hf]; exact hu) (by simpa using hp), hf]
        exact eqFields_ok (fun t x y x' y' b h hx hy => eqv_ok d t x y x' y' b h hx hy k) _ _ _ _ _ _ hxs hys h
    case h_12 hu =>
      rename_i o _ _
      cases h; cases hx.flat_inv rfl
      cases hy with
      | flat hf => cases o <;> simp [flatV] at hf; simp [Op.equalIn, run_under (w := w) hu]
      | slice _ _ _ => simp [Op.equalIn, run_under (w := w) hu]
      | slice0 _ _ _ _ => simp [Op.equalIn, run_under (w := w) hu]
    case h_13 hne hu =>
      rename_i o _ _ _ _
      cases h; cases hy.flat_inv rfl
      cases hx with
      | flat hf => cases o <;> simp [flatV] at hf; exact (hne rfl).elim
      | slice _ _ _ => simp [Op.equalIn, run_under (w := w) hu]
      | slice0 _ _ _ _ => simp [Op.equalIn, run_under (w := w) hu]
    case h_14 hu =>
      rename_i o
      cases h; cases hx.flat_inv rfl
      cases hy with
      | flat hf => cases o <;> simp [flatV] at hf; simp [Op.equalIn, run_under (w := w) hu]
      | map _ _ => simp [Op.equalIn, run_under (w := w) hu]
    case h_15 hne hu =>
      rename_i o
      cases h; cases hy.flat_inv rfl
      cases hx with
      | flat hf => cases o <;> simp [flatV] at hf; exact (hne rfl).elim
      | map _ _ => simp [Op.equalIn, run_under (w := w) hu]
    case h_16 hu => cases h; cases hx.flat_inv rfl; cases hy.flat_inv rfl; simp [Op.equalIn, run_under (w := w) hu]
    case h_17 hu => cases h; cases hx.flat_inv rfl; cases hy with
      | flat hf => simp [flatV] at hf
      | func _ _ _ _ _ => simp [Op.equalIn, run_under (w := w) hu]
    case h_18 hu => cases h; cases hy.flat_inv rfl; cases hx with
      | flat hf => simp [flatV] at hf
      | func _ _ _ _ _ => simp [Op.equalIn, run_under (w := w) hu]
    case h_19 => cases h

end
end Go.AM
