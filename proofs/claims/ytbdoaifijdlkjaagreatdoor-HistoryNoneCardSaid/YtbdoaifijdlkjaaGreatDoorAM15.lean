/-
  AM15: ranges, calls; 'exec_ok': what an operation comes to, in both machines.
-/
import Derived.Test.YtbdoaifijdlkjaaGreatDoorAM14
import Derived.Lib.Bytealg
import Derived.Lib.MakeNoZero
namespace Go.AM
open Go

theorem TmR.put {ρ : Rn} {nt : Nat} {tm : Tr Value} {a : Array Value} (h : TmR ρ nt tm a) {v v' : Value} (hv : VR ρ v v') (d : Nat) :
    TmR ρ nt (bif Nat.blt d nt then tm.put d (some v) else tm) (a.setIfInBounds d v') := by
  refine ⟨by simp [h.size], fun t => ?_⟩
  cases hb : Nat.blt d nt with
  | true =>
    have hlt := blt_lt hb
    simp only [cond_true, Tr.get_put]
    by_cases e : t = d
    · subst e
      have : t < a.size := by rw [h.size]; exact hlt
      simp only [if_true, Option.getD_some]
      rw [Array.getD_eq_getD_getElem?, Array.getElem?_setIfInBounds_self_of_lt this]
      exact hv
    · simp only [e, if_false]
      have := h.get t
      rw [Array.getD_eq_getD_getElem?] at this ⊢
      rw [Array.getElem?_setIfInBounds_ne (fun q => e q.symm)]
      exact this
  | false =>
    have hge : ¬ d < nt := fun q => by rw [← Nat.blt_eq, hb] at q; cases q
    simp only [cond_false]
    have : a.setIfInBounds d v' = a := by
      apply Array.ext_getElem?
      intro i
      rw [Array.getElem?_setIfInBounds]
      by_cases e : d = i
      · subst e
        rw [if_pos rfl, if_neg (by rw [h.size]; exact hge), Array.getElem?_eq_none (by rw [h.size]; omega)]
      · rw [if_neg e]
    rw [this]
    exact h.get t

theorem setParams_ok {ρ : Rn} {nt : Nat} : ∀ {ps : List Tmp} {args args' : List Value} {tm : Tr Value} {a : Array Value}, TmR ρ nt tm a → LR ρ args args' →
    TmR ρ nt (setParams nt tm ps args) ((ps.zip args').foldl (fun tmps (t, v) => tmps.setIfInBounds t v) a)
  | [], args, args', tm, a, h, _ => by simpa [setParams] using h
  | p :: ps, [], args', tm, a, h, hl => by rw [hl.nil_inv]; simpa [setParams] using h
  | p :: ps, v :: vs, args', tm, a, h, hl => by
    obtain ⟨v', r, rfl, hv, hr⟩ := hl.cons_inv
    simp only [setParams, List.zip_cons_cons, List.foldl_cons]
    exact setParams_ok (h.put hv p) hr

/-- What an operation comes to, in both machines. -/
inductive ExecR (oc : Nat → Option (List Value → Option Value)) (m : Nat) (ρ : Rn) (H : Hp) (w : World) : ARes → Result Next → Prop where
  | val {v v' : Value} {H' : Hp} {w' : World} {ρ' : Rn} (hr : HR ρ' H' w'.heap) (g : Grw m ρ H w ρ' H' w') (hv : VR ρ' v v') : ExecR oc m ρ H w (.val v H') (.ok (.value v') w')
  | skip {H' : Hp} {w' : World} {ρ' : Rn} (hr : HR ρ' H' w'.heap) (g : Grw m ρ H w ρ' H' w') : ExecR oc m ρ H w (.skip H') (.ok .skip w')
  | enter {f : Nat} {args args' : List Value} (ha : LR ρ args args') : ExecR oc m ρ H w (.enter f args H) (.ok (.enter f ⟨args'⟩) w)
  | orc {f : Nat} {args args' : List Value} {v : Value} {g : List Value → Option Value} (ha : LR ρ args args') (ho : oc f = some g) (hg : g args = some v) : ExecR oc m ρ H w (.orc f args v H) (.ok (.enter f ⟨args'⟩) w)
  | round {l : Nat} {args : List Value} {st : LoopState} {pend : Option Code} {fn nt : Nat} {tm : Tr Value} {ps : List Tmp} {as body : Code} {d : Nat} {i : BI} {tmps' : Array Value}
      (hg : H.get l = some (.loop st pend fn nt tm ps as body d)) (hb : ρ l = some i) (hl : args.length = ps.length) (ht : TmR ρ nt (setParams nt tm ps args) tmps') :
      ExecR oc m ρ H w (.round l args H) (.ok (.round i.blk fn tmps' as body) w)
  | defer {d d' : Deferred} (hd : DefR ρ d d') : ExecR oc m ρ H w (.defer d H) (.ok (.defer d') w)
  | recover : ExecR oc m ρ H w (.recover H) (.ok .recover w)
  | panic {v v' : Value} (hv : VR ρ v v') : ExecR oc m ρ H w (.panic v H) (.halt (.panic v') w)
  | fork {v v' : Value} {H' : Hp} {w' : World} {ρ' : Rn} {rs : List (Value × Hp)} (hm : (v, H') ∈ rs) (hr : HR ρ' H' w'.heap) (g : Grw m ρ H w ρ' H' w') (hv : VR ρ' v v') :
      ExecR oc m ρ H w (.fork rs) (.ok (.value v') w')

def extSem : Ext → Array Value → Sem Value
  | .count => Extern.BytealgCount.count
  | .same => Extern.AbiNoEscape.same
  | .noZero ps t => Extern.BytealgMakeNoZero.makeNoZero ⟨ps⟩ #[t]

/-- What is asked of a program ahead. -/
structure EnvOk (E : Env) : Prop where
  name : ∀ (f : Nat) (fn : Func), E.P.funcs[f]? = some fn → fn.body.isSome = true → (fn.name == "runtime.NumGoroutine") = false
  ext : ∀ (f : Nat) (fn : Func) (x : Ext), E.P.funcs[f]? = some fn → fn.body = none → E.ext f = some x → ∀ (args : Array Value) (w : World), (callFunc f args).run E.P w = (do pure (Next.value (← extSem x args)) : Sem Next).run E.P w
  mixed : E.P.follows .mixedOrders = true

section
variable {E : Env} {ρ : Rn} {H : Hp} {w : World} {m : Nat}

theorem extV_ok {x : Ext} {args args' : List Value} {v : Value} (h : extV x args = some v) (hl : LR ρ args args') : ∃ v', (extSem x ⟨args'⟩).run E.P w = .ok v' w ∧ VR ρ v v' := by
  unfold extV at h
  split at h
  · cases h
    obtain ⟨v', r, rfl, hv, hr⟩ := hl.cons_inv
    cases hr.nil_inv
    exact ⟨v', rfl, hv⟩
  · cases h
  · rename_i s c
    obtain ⟨s', r, rfl, hs, hr⟩ := hl.cons_inv
    obtain ⟨c', r, rfl, hc, hr⟩ := hr.cons_inv
    cases hr.nil_inv; cases hs.str_inv; cases hc.int_inv
    split at h
    · rename_i hlt
      cases h
      have hlt := blt_lt hlt
      refine ⟨_, Lib.run_countString s (Int.ofNat c) w, ?_⟩
      have : Lib.countByte s.data.toList (Int.ofNat c).toNat.toUInt8 = (s.data.toList.filter fun b => Nat.beq b.toNat c).length := by
        unfold Lib.countByte
        rw [List.count_eq_countP, List.countP_eq_length_filter]
        congr 1
        apply List.filter_congr
        intro b _
        have e1 : ((Int.ofNat c).toNat.toUInt8).toNat = c := by
          show (UInt8.ofNat c).toNat = c
          simp; omega
        rw [Bool.eq_iff_iff, Nat.beq_eq, beq_iff_eq]
        constructor
        · rintro rfl; exact e1
        · intro q; apply UInt8.toNat_inj.1; rw [e1, q]
      rw [this]
      exact .flat rfl
    · cases h
  · cases h

theorem digits_tok : ∀ (n t : Nat) (acc : Array Value), (∀ v ∈ acc.toList, ∃ k j, v = .int k j) → ∀ v ∈ (Extern.BytealgMakeNoZero.digits n t acc).toList, ∃ k j, v = .int k j
  | 0, _, _, h => h
  | n + 1, t, acc, h => by
    rw [Extern.BytealgMakeNoZero.digits]
    refine digits_tok n _ _ fun v hv => ?_
    rw [Array.toList_push, List.mem_append] at hv
    rcases hv with hv | hv
    · exact h v hv
    · exact ⟨_, _, List.mem_singleton.1 hv⟩

theorem rep_tok {ρ : Rn} : ∀ {l : List Value} (n : Nat), (∀ v ∈ l, ∃ k j, v = .int k j) → l.length = n → LR ρ (rep n [.chan (some 0)]) l
  | [], 0, _, _ => .nil ρ
  | v :: l, n + 1, h, hn => by
    obtain ⟨k, j, rfl⟩ := h v List.mem_cons_self
    exact .cons (.tok ⟨rfl, fun b q => (by cases q), fun e => (by cases e), fun e => (by cases e)⟩) (rep_tok n (fun v hv => h v (List.mem_cons_of_mem _ hv)) (by simpa using hn))
  | [], _ + 1, _, hn => by simp at hn
  | _ :: _, 0, _, hn => by simp at hn

theorem noZero_ok (k : HR ρ H w.heap) (hm : m ≤ H.nxt) {ps : List Nat} {t : Nat} {args args' : List Value} (hne : noZeroV E.P t args H ≠ .fail) (hl : LR ρ args args') :
    ExecR E.orc m ρ H w (noZeroV E.P t args H) ((do pure (Next.value (← extSem (.noZero ps t) ⟨args'⟩)) : Sem Next).run E.P w) := by
  unfold noZeroV at hne ⊢
  split at hne
  rotate_left
  · exact absurd rfl hne
  rename_i n e hu
  split at hne
  rotate_left
  · exact absurd rfl hne
  rename_i hc
  rw [if_pos hc]
  rw [Bool.and_eq_true] at hc
  have hn := Nat.le_of_ble_eq_true hc.1
  obtain ⟨n', r, rfl, hn', hr⟩ := hl.cons_inv
  cases hr.nil_inv; cases hn'.int_inv
  obtain ⟨nc, hnc⟩ : ∃ nc, grownCap w n 0 e = nc := ⟨_, rfl⟩
  have hge : n ≤ nc := by have := grownCap_ge w n 0 e; rw [hnc] at this; simpa using this
  obtain ⟨cs, hcs, hsz, h1⟩ : ∃ cs : Array Value, (∀ v ∈ cs.toList, ∃ k j, v = .int k j) ∧ cs.size = nc ∧
      (Extern.BytealgMakeNoZero.makeNoZero ⟨ps⟩ #[t] #[.int .i64 n]).run E.P w = .ok (.slice (some ⟨w.heap.size, 0, none⟩) n nc) (w.drew.drew.alloc (.cells cs e)) := by
    refine ⟨Extern.BytealgMakeNoZero.digits (grownCap w n 0 e) ((Question.extern "internal/bytealg.MakeNoZero.bytes" 0).cut (w.tape (w.drawn + 1) (.extern "internal/bytealg.MakeNoZero.bytes" 0))) #[], ?_, ?_, ?_⟩
    · exact digits_tok _ _ _ fun v hv => by cases hv
    · rw [Lib.size_digits, hnc]; simp
    · change (underlying t >>= _).run E.P w = _
      have h1 : ¬ (n : Int) < 0 := by omega
      have h2 : ¬ (281474976710656 : Int) < (n : Int) := by omega
      simp [run_underlying hu, h1, h2, Question.forced, Go.newRow, grownCap, ← hnc]
  have h2 : ((do pure (Next.value (← extSem (.noZero ps t) ⟨[.int .i64 (Int.ofNat n)]⟩)) : Sem Next)).run E.P w = .ok (.value (.slice (some ⟨w.heap.size, 0, none⟩) n nc)) (pushW (drewW (drewW w)) (.cells cs e (0, 0))) := by
    rw [Sem.run_bind]
    show Result.andThen ((Extern.BytealgMakeNoZero.makeNoZero ⟨ps⟩ #[t] #[.int .i64 n]).run E.P w) _ = _
    rw [h1]; rfl
  rw [h2]
  obtain ⟨lst, hlst⟩ : ∃ l : List Value, cs = ⟨l⟩ := ⟨cs.toList, rfl⟩
  subst hlst
  have hor : OR (ρ.add H.nxt ⟨w.heap.size, 0, (rep n [Value.chan (some 0)]).length, 1, nc, true⟩) ⟨w.heap.size, 0, (rep n [Value.chan (some 0)]).length, 1, nc, true⟩ (.cells (rep n [.chan (some 0)]) e 1 false true)
      (.cells ⟨lst.take n ++ lst.drop n⟩ e (0, 0)) :=
    .grown (rep_tok n (fun v hv => hcs v (List.mem_of_mem_take hv)) (by have : lst.length = nc := hsz; simp; omega)) (by have : lst.length = nc := hsz; simp; omega)
  rw [List.take_append_drop] at hor
  obtain ⟨r1, r2⟩ := HR.new (w := drewW (drewW w)) k (i := ⟨w.heap.size, 0, (rep n [Value.chan (some 0)]).length, 1, nc, true⟩) rfl hor hm
  refine .val r1 (((Grw.drew _ _ _ _).trans (Grw.drew _ _ _ _)).trans r2) ?_
  have hl1 : (rep n [Value.chan (some 0)]).length = n := by rw [rep_length]; simp
  have := VR.slice (ρ := ρ.add H.nxt ⟨w.heap.size, 0, (rep n [Value.chan (some 0)]).length, 1, nc, true⟩) (a := ⟨H.nxt, 0, none⟩) (i := ⟨w.heap.size, 0, (rep n [Value.chan (some 0)]).length, 1, nc, true⟩) (len := n) (cap := n) (cap' := nc) rfl (Rn.add_same _ _ _)
    (.inr ⟨rfl, by simp [hl1], by simp, hge⟩)
  simpa using this

theorem callF_ok (hE : EnvOk E) (k : HR ρ H w.heap) (hm : m ≤ H.nxt) {f : Nat} {args args' : List Value} {r : ARes} (h : callF E f args H = r) (hne : r ≠ .fail) (hl : LR ρ args args') :
    ∃ res, (callFunc f ⟨args'⟩).run E.P w = res ∧ ExecR E.orc m ρ H w r res := by
  subst h
  refine ⟨_, rfl, ?_⟩
  unfold callF at hne ⊢
  cases hf : E.P.funcs.toList[f]? with
  | none => rw [hf] at hne; exact absurd rfl hne
  | some fn =>
    rw [hf] at hne
    have hf' : E.P.funcs[f]? = some fn := by rw [← Array.getElem?_toList]; exact hf
    cases hb : fn.body with
    | some c =>
      have hn := hE.name f fn hf' (by rw [hb]; rfl)
      have hrun : (callFunc f ⟨args'⟩).run E.P w = .ok (.enter f ⟨args'⟩) w := by
        simp only [callFunc, Sem.run_bind, run_program, Result.andThen_ok, hf', hn, Bool.false_eq_true, if_false, hb, Option.isNone_some, Sem.run_pure]
      rw [hrun]
      simp only [hb] at hne ⊢
      cases ho : E.orc f with
      | none => exact .enter hl
      | some g =>
        rw [ho] at hne
        simp only [opt] at hne ⊢
        cases hg : g args with
        | none => rw [hg] at hne; exact absurd rfl hne
        | some v => exact .orc hl ho hg
    | none =>
      simp only [hb] at hne ⊢
      cases hx : E.ext f with
      | none => rw [hx] at hne; exact absurd rfl hne
      | some x =>
        rw [hx] at hne
        have old : opt (extV x args) (fun v => ARes.val v H) ≠ .fail → ExecR E.orc m ρ H w (opt (extV x args) fun v => .val v H) ((callFunc f ⟨args'⟩).run E.P w) := by
          intro hne
          simp only [opt] at hne ⊢
          cases hv : extV x args with
          | none => rw [hv] at hne; exact absurd rfl hne
          | some v =>
            obtain ⟨v', h1, h2⟩ := extV_ok (E := E) (w := w) hv hl
            rw [hE.ext f fn x hf' hb hx, Sem.run_bind, h1]
            exact .val k (.refl _ _ _ _) h2
        cases x with
        | noZero ps t =>
          rw [hE.ext f fn _ hf' hb hx]
          exact noZero_ok k hm hne hl
        | count => exact old hne
        | same => exact old hne

theorem invoke_ok (hE : EnvOk E) (k : HR ρ H w.heap) (hm : m ≤ H.nxt) {t t' : Target} {args args' : List Value} (hne : invokeT E t args H ≠ .fail) (ht : TgR ρ t t') (hl : LR ρ args args') :
    ExecR E.orc m ρ H w (invokeT E t args H) ((invoke t' ⟨args'⟩).run E.P w) := by
  cases ht with
  | collected _ _ => exact absurd rfl hne
  | fn hf hc =>
    cases hf with
    | func f =>
      unfold invokeT at hne ⊢
      simp only [] at hne ⊢
      obtain ⟨res, h1, h2⟩ := callF_ok hE k hm rfl hne (hl.append hc)
      have e : ∀ (c' : List Value), (invoke (.fn (.func f) ⟨c'⟩) ⟨args'⟩).run E.P w = (callFunc f ⟨args' ++ c'⟩).run E.P w := by
        intro c'
        have : (⟨args'⟩ : Array Value) ++ (⟨c'⟩ : Array Value) = ⟨args' ++ c'⟩ := by apply Array.ext'; simp
        simp only [invoke, this]
      rw [e, h1]; exact h2
    | via ty p f q =>
      rename_i c c'
      unfold invokeT at hne ⊢
      simp only [] at hne ⊢
      split at hne
      · rename_i x rest hp
        obtain ⟨x', r', rfl, hx, hr⟩ := hl.cons_inv
        have hpath : p = #[] := by apply Array.ext'; simpa using hp
        subst hpath
        have e : ∀ xt : Value, (receiverVia ty x' #[] q).run E.P w = .ok x' w →
            (invoke (.fn (.via ty #[] f q) ⟨c'⟩) ⟨x' :: r'⟩).run E.P w = (callFunc f ⟨x' :: r'⟩).run E.P w := by
          intro _ hrv
          have e0 : (⟨x' :: r'⟩ : Array Value)[0]? = some x' := rfl
          have e1 : #[x'] ++ (⟨x' :: r'⟩ : Array Value).extract 1 (⟨x' :: r'⟩ : Array Value).size = ⟨x' :: r'⟩ := by
            apply Array.ext'
            simp [List.extract_eq_take_drop]
          simp only [invoke, e0, Sem.run_bind, hrv, Result.andThen_ok, e1]
        split at hne
        · rename_i u hu
          obtain ⟨res, h1, h2⟩ := callF_ok hE k hm rfl hne (LR.cons hx hr)
          rw [e x' (by simp [receiverVia, follow, receiverAt, run_under (w := w) hu, Place.get]), h1]
          exact h2
        · exact absurd rfl hne
        · rename_i d hnp hu
          have hd : ∀ el : Nat, d = .pointer el → False := by first | exact hnp | exact hu
          obtain ⟨res, h1, h2⟩ := callF_ok hE k hm rfl hne (LR.cons hx hr)
          rw [e x' (by
            simp only [receiverVia, follow, Sem.run_bind, Sem.run_pure, Result.andThen_ok, receiverAt, run_under (w := w) hu]
            cases d <;> first | (exact (hd _ rfl).elim) | rfl), h1]
          cases d <;> first | (exact (hd _ rfl).elim) | exact h2
        · exact absurd rfl hne
      · exact absurd rfl hne
    | yield hb hs =>
      rename_i c c' l i
      unfold invokeT at hne ⊢
      simp only [] at hne ⊢
      split at hne
      · rename_i st pend fn nt tm ps as body d hg
        split at hne
        · rename_i hlen
          have hlen := Nat.eq_of_beq_eq_true hlen
          obtain ⟨o', ho, hor⟩ := k.obj _ _ _ hg hb
          cases hor with
          | loop hs2 ht h hj =>
            rename_i a j
            have hsz : ¬ ((⟨args'⟩ : Array Value).size ≠ (⟨ps⟩ : Array Tmp).size) := by
              show ¬ (args'.length ≠ ps.length)
              rw [← hl.1, hlen]; simp
            have hfold : (((⟨ps⟩ : Array Tmp).zip (⟨args'⟩ : Array Value)).foldl (fun (tmps : Array Value) (t, v) => tmps.setIfInBounds t v) a) = (ps.zip args').foldl (fun tmps (t, v) => tmps.setIfInBounds t v) a := by
              rw [← Array.foldl_toList, Array.toList_zip]
            have hrun : (invoke (.fn (.yield i.blk) ⟨c'⟩) ⟨args'⟩).run E.P w = .ok (.round i.blk fn ((ps.zip args').foldl (fun tmps (t, v) => tmps.setIfInBounds t v) a) as body) w := by
              simp only [invoke, Instr.yield, Instr.getLoop, Sem.run_bind, run_getObj' (P := E.P) ho (by simp), Result.andThen_ok, Sem.run_pure, hsz, if_false, hfold]
            rw [hrun]
            rw [if_pos (by rw [hlen]; simp)]
            exact .round hg hb hlen (setParams_ok ht hl)
        · exact absurd rfl hne
      · exact absurd rfl hne

end
end Go.AM
