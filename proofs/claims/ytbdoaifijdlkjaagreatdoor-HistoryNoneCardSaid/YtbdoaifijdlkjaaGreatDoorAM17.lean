/-
  AM17: 'exec_ok': what an operation comes to, in both machines.
-/
import Derived.Test.YtbdoaifijdlkjaaGreatDoorAM16
namespace Go.AM
open Go

section
variable {E : Env} {ρ : Rn} {H : Hp} {w : World} {m : Nat}

theorem liftN {P : Program} {s : Sem Value} {v : Value} {w w' : World} (h : s.run P w = .ok v w') : (do pure (Next.value (← s)) : Sem Next).run P w = .ok (.value v) w' := by
  simp only [Sem.run_bind, h, Result.andThen_ok, Sem.run_pure]
theorem liftU {P : Program} {s : Sem Unit} {w w' : World} (h : s.run P w = .ok () w') : (do s; pure Next.skip : Sem Next).run P w = .ok .skip w' := by
  simp only [Sem.run_bind, h, Result.andThen_ok, Sem.run_pure]

theorem ExecR.ofVal {v : Value} {H' : Hp} {s : Sem Value} (h : ValR E.P m ρ H w v H' s) : ExecR E.orc m ρ H w (.val v H') ((do pure (Next.value (← s)) : Sem Next).run E.P w) := by
  obtain ⟨v', w', ρ', h1, h2, h3, h4⟩ := h
  rw [liftN h1]
  exact .val h2 h3 h4

def VF (r : ARes) : Prop := r = .fail ∨ ∃ v H', r = .val v H'

theorem vf_new {H : Hp} {e z : Nat} {base : Option Addr} {a b : Nat} {new : List Value} {n : Nat} : VF (appendNew H e z base a b new n) := by
  unfold appendNew
  repeat' split
  all_goals first | exact .inl rfl | exact .inr ⟨_, _, rfl⟩
theorem vf_appendV {P : Program} {H : Hp} {e : Nat} {s : Value} {new : List Value} {n : Nat} : VF (appendV P H e s new n) := by
  unfold appendV
  simp only
  repeat' (first | exact .inl rfl | exact .inr ⟨_, _, rfl⟩ | exact vf_new | split)
theorem vf_append {P : Program} {H : Hp} {ts : List Nat} {args : List Value} : VF (appendB P H ts args) := by
  unfold appendB
  repeat' (first | exact .inl rfl | exact .inr ⟨_, _, rfl⟩ | exact vf_appendV | split)
theorem vf_copy {P : Program} {H : Hp} {ts : List Nat} {args : List Value} : VF (copyB P H ts args) := by
  unfold copyB
  repeat' (first | exact .inl rfl | exact .inr ⟨_, _, rfl⟩ | (simp only; fail_if_success (exact .inl rfl); split) | split)
theorem vf_delete {P : Program} {H : Hp} {ts : List Nat} {args : List Value} : VF (deleteB P H ts args) := by
  unfold deleteB
  repeat' (first | exact .inl rfl | exact .inr ⟨_, _, rfl⟩ | split)
theorem vf_clear {P : Program} {H : Hp} {ts : List Nat} {args : List Value} : VF (clearB P H ts args) := by
  unfold clearB
  repeat' (first | exact .inl rfl | exact .inr ⟨_, _, rfl⟩ | (simp only; fail_if_success (exact .inl rfl); split) | split)
theorem vf_ustr {P : Program} {H : Hp} {ts : List Nat} {args : List Value} : VF (ustrB P H ts args) := by
  unfold ustrB
  repeat' (first | exact .inl rfl | exact .inr ⟨_, _, rfl⟩ | split)

theorem VF.val {r : ARes} (h : VF r) (hn : r ≠ .fail) : ∃ v H', r = .val v H' := h.resolve_left hn

theorem builtin_ok (k : HR ρ H w.heap) (hm : m ≤ H.nxt) {b : Builtin} {ts : List Nat} {ty : Nat} {cs : Array Bool} {args args' : List Value} (h : builtinV E b ts args H ≠ .fail) (hl : LR ρ args args') :
    ExecR E.orc m ρ H w (builtinV E b ts args H) ((builtin b ⟨ts⟩ ty cs ⟨args'⟩).run E.P w) := by
  unfold builtinV at h ⊢
  split at h
  · obtain ⟨v, H', e⟩ := vf_append.val h
    rw [e]; exact .ofVal (append_ok k e hl hm)
  · obtain ⟨v, H', e⟩ := vf_copy.val h
    rw [e]; exact .ofVal (copy_ok k e hl m)
  · obtain ⟨v, H', e⟩ := vf_delete.val h
    rw [e]; exact .ofVal (delete_ok k e hl m)
  · obtain ⟨v, H', e⟩ := vf_clear.val h
    rw [e]; exact .ofVal (clear_ok k e hl m)
  · obtain ⟨v, H', e⟩ := vf_ustr.val h
    rw [e]; exact .ofVal (ustr_ok k e hl m)
  · exact .recover
  · split at h
    · obtain ⟨v', r, rfl, hv, hr⟩ := hl.cons_inv
      cases hr.nil_inv
      cases hv with
      | flat hf => simp [flatV] at hf
      | iface hv =>
        rename_i t v v'
        have : (builtin .panic ⟨ts⟩ ty cs ⟨[.iface t v']⟩).run E.P w = .halt (.panic (.iface t v')) w := rfl
        rw [this]
        exact .panic (.iface hv)
    · exact absurd rfl h
  · exact absurd rfl h

theorem pureA {ra rc : Operand → Value} {o : Oper} (k : HR ρ H w.heap) (hev : EvR ρ o ra rc) {r : ARes} (e : r = (match pureOp E ra o H with | some v => .val v H | none => .fail)) (h : r ≠ .fail) :
    ExecR E.orc m ρ H w r ((Go.execOp rc o).run E.P w) := by
  subst e
  cases hp : pureOp E ra o H with
  | none => rw [hp] at h; exact absurd rfl h
  | some v =>
    obtain ⟨v', h1, h2⟩ := pure_ok (E := E) rfl k hev hp
    rw [h1]
    exact .val k (.refl _ _ _ _) h2

theorem call_args {c : Call} {ra rc : Operand → Value} (hev : ∀ x ∈ c.operands.toList, VR ρ (ra x) (rc x)) : LR ρ (c.args.toList.map ra) (c.args.toList.map rc) :=
  LR.map fun x hx => hev x (by simp only [Call.operands]; rw [Array.toList_append]; exact List.mem_append_right _ hx)

theorem store_ok {P : Program} (k : HR ρ H w.heap) {t : Nat} {a : Addr} {a' v v' : Value} {H' : Hp} (h : AM.storeVar P H t a v = some H') (ha : VR ρ (.pointer (some a)) a') (hv : VR ρ v v') (m : Nat) :
    ∃ w', (Instr.storeAt t a' v').run P w = .ok () w' ∧ HR ρ H' w'.heap ∧ Grw m ρ H w ρ H' w' := by
  obtain ⟨i, hs, hb, rfl⟩ := ha.ptr_inv
  unfold AM.storeVar at h
  split at h
  · rename_i c e z op _ hg
    simp only at h
    split at h
    · rename_i hc
      cases h
      simp only [Bool.and_eq_true, decide_eq_true_eq] at hc
      obtain ⟨⟨h1, h2⟩, h3⟩ := hc
      obtain ⟨w', r1, r2, r3⟩ := write_ok (P := P) k hb hg hv.cells h2 (Nat.le_of_ble_eq_true h3) m
      refine ⟨w', ?_, r2, r3⟩
      have hl : v'.cells.size = v.cells.toList.length := by rw [← Array.length_toList, ← hv.cells.1]
      have hn : ¬ (v'.cells.size ≠ v.cells.toList.length) := fun q => q hl
      simp only [Instr.storeAt, Instr.sureAddr, Sem.run_bind, Sem.run_pure, Result.andThen_ok, Go.storeVar, run_size (w := w) h1, hn, if_false]
      exact r1
    · cases h
  · cases h

theorem exec_ok (hE : EnvOk E) (k : HR ρ H w.heap) (hm : m ≤ H.nxt) {o : Oper} {ra rc : Operand → Value} (hev : EvR ρ o ra rc) (h : AM.execOp E ra o H ≠ .fail) :
    ExecR E.orc m ρ H w (AM.execOp E ra o H) ((Go.execOp rc o).run E.P w) := by
  have newcase : ∀ {r : ARes}, r = (match newObjOf E ra o with | some (cs, e, z, v) => .val (v H.nxt) (H.new (.cells cs e z false false)) | none => .fail) → r ≠ .fail → ExecR E.orc m ρ H w r ((Go.execOp rc o).run E.P w) := by
    intro r e hr
    subst e
    cases hn : newObjOf E ra o with
    | none => rw [hn] at hr; exact absurd rfl hr
    | some q =>
      obtain ⟨cs, e, z, v⟩ := q
      obtain ⟨cs', h1, h2, _, h4⟩ := newObj_ok (E := E) (w := w) rfl hev hn
      rw [h2]
      have hle : ρ.le (ρ.add H.nxt ⟨w.heap.size, 0, cs.length, z, cs.length, false⟩) := Rn.le_add _ (k.fresh _ (Nat.le_refl _)).1
      obtain ⟨r1, r2⟩ := HR.new k (i := ⟨w.heap.size, 0, cs.length, z, cs.length, false⟩) rfl (OR.fresh (el := e) (h1.mono hle)) hm
      exact .val r1 r2 (h4 _ _ _ (Rn.add_same _ _ _) rfl)
  have hcase := h
  obtain ⟨dst, op, type, pos, after, guard⟩ := o
  have hev' := hev
  unfold EvR at hev'
  cases op
  case alloc e => exact newcase rfl h
  case box e x => exact newcase rfl h
  case buildSlice t n ps => exact newcase rfl h
  case store t a x =>
    simp only [AM.execOp] at h ⊢
    simp only [Op.operands] at hev'
    have ha := hev' a (by simp)
    have hx := hev' x (by simp)
    split at h
    · rename_i a0 e
      rw [e] at ha
      cases hs : AM.storeVar E.P H t a0 (ra x) with
      | none => rw [hs] at h; exact absurd rfl h
      | some H' =>
        obtain ⟨w', r1, r2, r3⟩ := store_ok k hs ha hx m
        simp only [opt, Go.execOp]
        rw [liftU r1]
        exact .skip r2 r3
    · exact absurd rfl h
  case makeMap t r =>
    simp only [AM.execOp] at h ⊢
    cases r with
    | some _ => exact absurd rfl h
    | none =>
      obtain ⟨r1, r2, _, r4⟩ := newPtr_ok (o := .map [] 0) (o' := .map ⟨[]⟩ 0) k hm (.map rfl .nil)
      simp only [Go.execOp]
      have : (Instr.makeMap t none).run E.P w = .ok (.map (some w.heap.size)) (pushW w (.map ⟨[]⟩ 0)) := by
        simp only [Instr.makeMap, Sem.run_bind, run_newObj, Result.andThen_ok, Sem.run_pure]; rfl
      rw [Option.map_none, liftN this]
      exact .val r1 r2 r4
  case makeSlice t l c =>
    simp only [AM.execOp] at h ⊢
    simp only [Op.operands] at hev'
    have h1 := hev' l (by simp)
    have h2 := hev' c (by simp)
    split at h
    · rename_i e ln cp hu hln hcp
      cases hz : szOf E.P e with
      | none => simp only [hz, opt] at h; exact absurd rfl h
      | some z =>
        cases hb : byOf E.P e with
        | none => simp only [hz, hb, opt] at h; exact absurd rfl h
        | some b =>
          cases hzv : zeroOf E.P e with
          | none => simp only [hz, hb, hzv, opt] at h; exact absurd rfl h
          | some zv =>
            simp only [hz, hb, hzv, opt] at h ⊢
            split at h
            · rename_i hc
              simp only [Bool.and_eq_true] at hc
              obtain ⟨⟨⟨⟨c1, c2⟩, c3⟩, c4⟩, c5⟩ := hc
              simp only [c1, c2, c3, c4, c5, Bool.and_self, if_true]
              exact .ofVal (makeSlice_ok k hu hln hcp h1 h2 hz hb hzv (Nat.le_of_ble_eq_true c1) (Nat.le_of_ble_eq_true c2) (Nat.le_of_ble_eq_true c3) (Nat.le_of_ble_eq_true c4)
                (by rw [← Array.length_toList]; exact Nat.eq_of_beq_eq_true c5) hm)
            · exact absurd rfl h
    · exact absurd rfl h
  case mapUpdate t mp kk x =>
    simp only [AM.execOp] at h ⊢
    simp only [Op.operands] at hev'
    cases hs : AM.mapUpdate E.P H t (ra mp) (ra kk) (ra x) with
    | none => simp only [hs, opt] at h; exact absurd rfl h
    | some H' =>
      obtain ⟨w', r1, r2, r3⟩ := mapUpdate_ok k hs (hev' mp (by simp)) (hev' kk (by simp)) (hev' x (by simp)) m
      simp only [opt, Go.execOp]
      rw [liftU r1]
      exact .skip r2 r3
  case insert t mp kk x =>
    simp only [AM.execOp] at h ⊢
    simp only [Op.operands] at hev'
    cases hs : AM.mapUpdate E.P H t (ra mp) (ra kk) (ra x) with
    | none => simp only [hs, opt] at h; exact absurd rfl h
    | some H' =>
      obtain ⟨w', r1, r2, r3⟩ := mapUpdate_ok k hs (hev' mp (by simp)) (hev' kk (by simp)) (hev' x (by simp)) m
      simp only [opt, Go.execOp]
      rw [liftU r1]
      exact .skip r2 r3
  case range t x =>
    simp only [AM.execOp] at h ⊢
    simp only [Op.operands] at hev'
    have hx := hev' x (by simp)
    simp only [Go.execOp]
    split at h
    · rename_i s hu e
      rw [e] at hx
      rw [hx.str_inv]
      obtain ⟨r1, r2, r3, _⟩ := newPtr_ok (o := .siter s 0) (o' := .stringIter s 0) k hm (.siter rfl)
      rw [liftN (run_range_str hu)]
      exact .val r1 r2 r3
    · rename_i kt et hu e
      rw [e] at hx
      rw [hx.map_none]
      obtain ⟨r1, r2, r3, _⟩ := newPtr_ok (o := .miter none 0 [] 0) (o' := .mapIter none 0 ⟨[]⟩ 0) k hm (.miter0 rfl)
      rw [liftN (run_range_nil hu)]
      exact .val r1 r2 r3
    · rename_i kt et mp hu e
      rw [e] at hx
      obtain ⟨i, hi, hs, e2⟩ := hx.map_inv
      rw [e2]
      split at h
      · rename_i es clock hg
        obtain ⟨es', ho, _⟩ := map_at k hg hi
        have hle : ρ.le (ρ.add H.nxt ⟨w.heap.size, 0, 0, 0, 0, false⟩) := Rn.le_add _ (k.fresh _ (Nat.le_refl _)).1
        obtain ⟨r1, r2, r3, _⟩ := newPtr_ok (o := .miter (some mp) clock [] clock) (o' := .mapIter (some i.blk) clock ⟨[]⟩ clock) k hm (.miter rfl (hle _ _ hi) hs)
        rw [liftN (run_range_map hu ho)]
        exact .val r1 r2 r3
      · exact absurd rfl h
    · exact absurd rfl h
  case next it s =>
    simp only [AM.execOp] at h ⊢
    simp only [Op.operands] at hev'
    exact next_ok k type h (hev' it (by simp)) m
  case call c =>
    simp only [Op.operands] at hev'
    have hargs := call_args hev'
    simp only [AM.execOp] at h ⊢
    simp only [Go.execOp]
    have eargs : (⟨c.args.toList.map rc⟩ : Array Value) = c.args.map rc := by apply Array.ext'; simp
    cases hcal : c.callee with
    | builtin b =>
      simp only [hcal] at h ⊢
      have e1 : (resolve rc c type >>= fun d => invoke d.target d.args).run E.P w = (builtin b ⟨c.argTypes.toList⟩ type (c.args.map fun | .const _ => true | _ => false) ⟨c.args.toList.map rc⟩).run E.P w := by
        rw [eargs]
        simp only [resolve, hcal, Sem.run_bind, Sem.run_pure, Result.andThen_ok, invoke]
        rfl
      rw [e1]
      cases hr : readV E.P H b c.argTypes.toList (c.args.toList.map ra) with
      | some v =>
        obtain ⟨v', h1, h2⟩ := readV_ok (ty := type) (cs := c.args.map fun | .const _ => true | _ => false) k hr hargs
        rw [h1]
        exact .val k (.refl _ _ _ _) h2
      | none =>
        simp only [hr] at h ⊢
        exact builtin_ok k hm h hargs
    | invoke r n => simp only [hcal] at h; exact absurd rfl h
    | value f =>
      simp only [hcal] at h ⊢
      have hf := hev' f (by simp [Call.operands, hcal])
      cases hd : deferredOf (ra f) (c.args.toList.map ra) with
      | none => simp only [hd, opt] at h; exact absurd rfl h
      | some q =>
        obtain ⟨t, as⟩ := q
        simp only [hd, opt] at h ⊢
        obtain ⟨t', as', h1, h2, h3⟩ := deferred_ok (P := E.P) (w := w) hd hf hargs
        have e1 : (resolve rc c type >>= fun d => invoke d.target d.args).run E.P w = (invoke t' ⟨as'⟩).run E.P w := by
          have : (resolve rc c type).run E.P w = .ok { target := t', args := ⟨as'⟩ } w := by
            rw [← h1, eargs]; simp only [resolve, hcal]
          rw [run_step this]
        rw [e1]
        exact invoke_ok hE k hm h h2 h3
  case defer c =>
    simp only [Op.operands] at hev'
    have hargs := call_args hev'
    simp only [AM.execOp] at h ⊢
    simp only [Go.execOp]
    have eargs : (⟨c.args.toList.map rc⟩ : Array Value) = c.args.map rc := by apply Array.ext'; simp
    cases hcal : c.callee with
    | builtin b => simp only [hcal] at h; exact absurd rfl h
    | invoke r n => simp only [hcal] at h; exact absurd rfl h
    | value f =>
      simp only [hcal] at h ⊢
      have hf := hev' f (by simp [Call.operands, hcal])
      cases hd : deferredOf (ra f) (c.args.toList.map ra) with
      | none => simp only [hd, opt] at h; exact absurd rfl h
      | some q =>
        obtain ⟨t, as⟩ := q
        simp only [hd, opt] at h ⊢
        obtain ⟨t', as', h1, h2, h3⟩ := deferred_ok (P := E.P) (w := w) hd hf hargs
        have this : (resolve rc c type).run E.P w = .ok { target := t', args := ⟨as'⟩ } w := by
          rw [← h1, eargs]; simp only [resolve, hcal]
        rw [run_step this]
        exact .defer ⟨h2, h3⟩
  case panic x =>
    simp only [AM.execOp] at h ⊢
    simp only [Op.operands] at hev'
    have hx := hev' x (by simp)
    simp only [Go.execOp]
    split at h
    · rename_i t v e
      rw [e] at hx
      generalize rc x = y at hx ⊢
      cases hx with
      | flat hf => simp [flatV] at hf
      | iface hv =>
        rename_i v'
        have : (do pure (Next.value (← Instr.panic (.iface t v'))) : Sem Next).run E.P w = .halt (.panic (.iface t v')) w := rfl
        rw [this]
        exact .panic (.iface hv)
    · exact absurd rfl h
  case convert s d x =>
    simp only [AM.execOp] at h ⊢
    simp only [Op.operands] at hev'
    have hx := hev' x (by simp)
    simp only [Go.execOp]
    cases hc : convertP E.P H s d (ra x) with
    | some v =>
      obtain ⟨v', h1, h2⟩ := convertP_ok (P := E.P) (w := w) k hc hx
      rw [liftN h1]
      exact .val k (.refl _ _ _ _) h2
    | none =>
      simp only [hc] at h ⊢
      split at h
      · rename_i _ e b hs hd e2
        rw [e2] at hx
        rw [hx.str_inv]
        split at h
        · rename_i he hz
          exact .ofVal (bytes_ok k hs hd he hm)
        · exact absurd rfl h
      · exact absurd rfl h
  all_goals first
    | exact pureA k hev rfl h
    | exact absurd rfl h

end
end Go.AM
