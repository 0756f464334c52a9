/-
  AM29: a step of the abstract machine, in the model.
-/
import Derived.Test.YtbdoaifijdlkjaaGreatDoorAM28
namespace Go.AM
open Go

section
variable {E : Env} {cs0 : List Frame} {ρ : Rn} {H : Hp} {w : World}

theorem exec_step {P : Program} {fr : Frame} {cs : List Frame} {w : World} {s : GStep} (hm : fr.mode = .run) (h : stepG.exec P true true fr cs none w = s) :
    ∀ fr2 cs2 w2, s.bare = .go { frame := fr2, callers := cs2, status := .running, dying := none } w2 → step P (lone fr cs w) = .next (lone fr2 cs2 w2) :=
  go_step ((stepG_run hm).trans h)

theorem exec_nil {P : Program} {fr : Frame} {cs : List Frame} {w : World} (h : fr.todo = []) : stepG.exec P true true fr cs none w = leaveC P fr cs w none := by
  obtain ⟨fn, tmps, todo, defers, mode, kind, round⟩ := fr
  cases h
  cases round <;> rfl
theorem exec_ret {P : Program} {fr : Frame} {cs : List Frame} {w : World} {k : List Item} (h : fr.todo = .code .ret :: k) : stepG.exec P true true fr cs none w = leaveC P fr cs w (some .ret) := by
  obtain ⟨fn, tmps, todo, defers, mode, kind, round⟩ := fr
  cases h
  cases round <;> rfl
theorem exec_exit {P : Program} {fr : Frame} {cs : List Frame} {w : World} {k : List Item} {id : Nat} (h : fr.todo = .code (.exit id) :: k) (hx : Go.exitTo id k = none) : stepG.exec P true true fr cs none w = leaveC P fr cs w (some (.exit id)) := by
  obtain ⟨fn, tmps, todo, defers, mode, kind, round⟩ := fr
  cases h
  unfold stepG.exec
  simp only [hx, Option.elim]
  cases round <;> rfl
theorem exec_goto {P : Program} {fr : Frame} {cs : List Frame} {w : World} {k : List Item} {l : Nat} (h : fr.todo = .code (.goto l) :: k) (hx : Go.gotoIn l k = none) : stepG.exec P true true fr cs none w = leaveC P fr cs w (some (.goto l)) := by
  obtain ⟨fn, tmps, todo, defers, mode, kind, round⟩ := fr
  cases h
  unfold stepG.exec
  simp only [hx, Option.elim]
  cases round <;> rfl

/-- A deferred call in a loop's round: the abstract machine does not know it. -/
theorem defer_round {fr : AFr} {cs : List AFr} {fr' : Frame} {r : Operand → Value} {o : Oper} {H H0 : Hp} {w : World} {M : Machine} (hrd : RdR ρ fr.round fr'.roundOf) (hdf : ¬ (fr'.roundOf = none ∨ ∀ c, o.op ≠ .defer c)) :
    Went E cs0 ρ H w M (applyR E fr cs (AM.execOp E r o H) H0) := by
  have hex : AM.execOp E r o H = .fail ∨ ∃ d, AM.execOp E r o H = .defer d H := by
    have : ∃ c, o.op = .defer c := by
      apply Classical.byContradiction
      intro h
      exact hdf (.inr fun c q => h ⟨c, q⟩)
    obtain ⟨c, hc⟩ := this
    unfold AM.execOp
    rw [hc]
    simp only
    cases c.callee with
    | builtin b => exact .inl rfl
    | invoke r n => exact .inl rfl
    | value f =>
      simp only
      cases deferredOf (r f) (c.args.toList.map r) with
      | none => exact .inl rfl
      | some q => exact .inr ⟨_, rfl⟩
  have hround : fr.round ≠ none := by
    intro h
    apply hdf
    left
    rw [h] at hrd
    cases hro : fr'.roundOf with
    | none => rfl
    | some _ => rw [hro] at hrd; exact hrd.elim
  rcases hex with h | ⟨dd, h⟩
  · rw [h]; trivial
  · rw [h]
    unfold applyR
    simp only
    cases hro : fr.round with
    | none => exact absurd hro hround
    | some _ => trivial

theorem cond_ok {fr : AFr} {fr' : Frame} (t : TmR ρ fr.nt fr.tm fr'.tmps) {c : Operand} {b : Bool} (h : fr.ev c = .bool b) : fr'.eval c = .bool b := by
  cases c with
  | tmp i =>
    have := t.get i
    rw [show (fr.tm.get i).getD undefV = .bool b from h] at this
    exact this.bool_inv
  | const v => exact h
  | global g => cases h
  | func f => cases h

/-- A loop over a function begins. -/
theorem enterLoop_ok (hr : HR ρ H w.heap) {fr : AFr} {fr' : Frame} (c : FrC ρ fr fr') (t : TmR ρ fr.nt fr.tm fr'.tmps) {ps : Array Tmp} {a b : Code} {d : Nat} {mark : List Deferred} {H1 : Hp}
    (h : (match fr.round with
          | some l => match H.get l with
            | some (.loop _ _ _ _ _ _ _ _ d) => some (d, [], H)
            | _ => none
          | none => some (H.nxt, [{ target := .collected H.nxt, args := ⟨[]⟩ }], H.new (.dfr (some [])))) = some (d, mark, H1)) :
    ∃ ρ' w' l' mark', (Instr.enterLoop fr'.fn fr'.tmps ps a b fr'.roundOf).run E.P w = .ok (l', mark') w' ∧ HR ρ' (H1.new (.loop .ready none fr.fn fr.nt fr.tm ps.toList a b d)) w'.heap ∧
      Grw H.nxt ρ H w ρ' (H1.new (.loop .ready none fr.fn fr.nt fr.tm ps.toList a b d)) w' ∧ L2 (DefR ρ') mark mark' ∧ ∃ i, ρ' H1.nxt = some i ∧ i.sh = 0 ∧ l' = i.blk := by
  have hrd := c.round
  -- the loop's own block
  have loop : ∀ {ρ1 : Rn} {H1 : Hp} {w1 : World} {j : BI}, HR ρ1 H1 w1.heap → ρ.le ρ1 → H.nxt ≤ H1.nxt → ρ1 d = some j → j.sh = 0 →
      HR (ρ1.add H1.nxt ⟨w1.heap.size, 0, 0, 0, 0, false⟩) (H1.new (.loop .ready none fr.fn fr.nt fr.tm ps.toList a b d)) (pushW w1 (.loop { state := .ready, pending := none, fn := fr'.fn, tmps := fr'.tmps, params := ps, assign := a, body := b, defers := j.blk })).heap ∧
      Grw H.nxt ρ1 H1 w1 (ρ1.add H1.nxt ⟨w1.heap.size, 0, 0, 0, 0, false⟩) (H1.new (.loop .ready none fr.fn fr.nt fr.tm ps.toList a b d)) (pushW w1 (.loop { state := .ready, pending := none, fn := fr'.fn, tmps := fr'.tmps, params := ps, assign := a, body := b, defers := j.blk })) := by
    intro ρ1 H1 w1 j h1 hle hn hd hj
    have hle2 : ρ1.le (ρ1.add H1.nxt ⟨w1.heap.size, 0, 0, 0, 0, false⟩) := Rn.le_add _ (h1.fresh _ (Nat.le_refl _)).1
    have hor : OR (ρ1.add H1.nxt ⟨w1.heap.size, 0, 0, 0, 0, false⟩) ⟨w1.heap.size, 0, 0, 0, 0, false⟩ (.loop .ready none fr.fn fr.nt fr.tm ps.toList a b d)
        (.loop { state := .ready, pending := none, fn := fr'.fn, tmps := fr'.tmps, params := ps, assign := a, body := b, defers := j.blk }) := by
      rw [c.fn]
      exact .loop rfl ((t.mono hle).mono hle2) (hle2 _ _ hd) hj
    obtain ⟨r1, r2, _⟩ := newPtr_ok h1 hn hor
    exact ⟨r1, r2⟩
  cases hro : fr.round with
  | some l =>
    rw [hro] at h hrd
    simp only at h
    split at h
    · rename_i st pe fn nt tm ps' as bd d' hg
      cases h
      cases hro' : fr'.roundOf with
      | none => rw [hro'] at hrd; exact hrd.elim
      | some l' =>
        rw [hro'] at hrd
        obtain ⟨i, hi, hs, rfl⟩ := hrd
        obtain ⟨t', j, ho, _, _, hd, hj⟩ := loop_at hr hg hi
        obtain ⟨r1, r2⟩ := loop hr (Rn.le_refl _) (Nat.le_refl _) hd hj
        refine ⟨_, _, w.heap.size, [], ?_, r1, r2, .nil, _, Rn.add_same _ _ _, rfl, rfl⟩
        simp only [Instr.enterLoop, Instr.getLoop, Sem.run_bind, run_getObj' (P := E.P) ho (by simp), Result.andThen_ok, Sem.run_pure, run_newObj]
        rfl
    · cases h
  | none =>
    rw [hro] at h hrd
    simp only at h
    cases h
    have hro' : fr'.roundOf = none := by
      cases h : fr'.roundOf with
      | none => rfl
      | some l => rw [h] at hrd; exact hrd.elim
    obtain ⟨a1, a2, _⟩ := newPtr_ok (o := .dfr (some [])) (o' := .deferred (some [])) hr (Nat.le_refl _) (.dfr rfl .nil)
    obtain ⟨r1, r2⟩ := loop (w1 := pushW w (.deferred (some []))) a1 a2.le a2.nxt (Rn.add_same _ _ _) rfl
    refine ⟨_, _, w.heap.size + 1, [{ target := .collected w.heap.size, args := #[] }], ?_, r1, a2.trans r2, .cons ⟨?_, ?_⟩ .nil, _, Rn.add_same _ _ _, rfl, ?_⟩
    · rw [hro']
      simp only [Instr.enterLoop, Sem.run_bind, Result.andThen_ok, Sem.run_pure, run_newObj]
      have : (w.heap.push (Obj.deferred (some []))).size = w.heap.size + 1 := by simp
      simp only [this]
      rfl
    · exact .collected (r2.le _ _ (Rn.add_same _ _ _)) rfl
    · exact .nil _
    · show w.heap.size + 1 = (w.heap.push _).size
      simp

theorem plain_ok (hE : EnvOk E) (hO : ∀ (w' : World) (ρ' : Rn) (H' : Hp), Grw 0 ρ H w ρ' H' w' → OrcOk E w') {fr : AFr} {fr' : Frame} {cs : List AFr} {cs' : List Frame} {lo : Nat} (hr : HR ρ H w.heap) (hg : GlobR E.G ρ) (hlo : lo ≤ H.nxt)
    (c : FrC ρ fr fr') (t : TmR ρ fr.nt fr.tm fr'.tmps) (k : L2 (ItR ρ) fr.todo fr'.todo) (m : fr.mode = .run) (hst : StackR E.P E.G cs0 ρ lo cs cs') : Went E cs0 ρ H w (lone fr' cs' w) (runA E fr cs H) := by
  have m' := run_mode c m
  have grefl : Grw 0 ρ H w ρ H w := .refl _ _ _ _
  have hf : FrR E.P E.G lo H.nxt ρ fr fr' := .plain c t k
  have hnd : inDraw fr = false := by
    unfold inDraw
    generalize fr.todo = td at k
    generalize fr'.todo = td' at k
    cases k with
    | nil => rfl
    | cons h _ => cases h <;> rfl
  -- the frame goes on with other things to do
  have to : ∀ {td : List AItem} {td' : List Item} {cs2 : List AFr}, L2 (ItR ρ) td td' → cs2 = cs → stepG.exec E.P true true fr' cs' none w = .go { frame := { fr' with todo := td' }, callers := cs', status := .running, dying := none } w →
      Went E cs0 ρ H w (lone fr' cs' w) (.next ⟨{ fr with todo := td }, cs2, H⟩) := by
    intro td td' cs2 hk e h
    subst e
    exact Goes.one (exec_step m' h _ _ _ rfl) ⟨hr, lo, hlo, .plain ⟨c.fn, c.defers, c.mode, c.kind, c.round⟩ t hk, hst⟩ grefl
  unfold runA
  generalize e : fr.todo = td at k
  generalize e' : fr'.todo = td' at k
  cases k with
  | nil =>
    exact leaveA_ok hr hlo hf hnd hst (exec_step m' (exec_nil e'))
  | cons hx hk =>
    cases hx with
    | inBlock id => exact to hk rfl (by unfold stepG.exec; simp only [e'])
    | inScope body => exact to hk rfl (by unfold stepG.exec; simp only [e'])
    | inLoop body => exact to (.cons (.code _) (.cons (.inLoop _) hk)) rfl (by unfold stepG.exec; simp only [e'])
    | inRangeFunc hb hs => trivial
    | endRangeFunc hb hs =>
      rename_i k k' l i
      simp only
      split
      · trivial
      · rename_i st pe fn nt tm ps a b d hbusy hgl
        obtain ⟨t', j, ho, _, ht, hd, hj⟩ := loop_at hr hgl hb
        obtain ⟨r1, r2⟩ := hr.set hgl hb (OR.loop (st := .exhausted) (pend := pe) (ps := ps) (as := a) (body := b) hs ht hd hj) H.nxt
        have hnb : (st == LoopState.busy) = false := by
          cases st with
          | busy => first | exact (hbusy rfl).elim | exact (hbusy _ _ _ _ _ _ _ _ rfl).elim
          | ready => rfl
          | done => rfl
          | exhausted => rfl
        have hrun : (Instr.endLoop i.blk).run E.P w = .ok pe (setW w i.blk (.loop { state := .exhausted, pending := pe, fn, tmps := t', params := ⟨ps⟩, assign := a, body := b, defers := j.blk })) := by
          simp only [Instr.endLoop, Instr.getLoop, Sem.run_bind, run_getObj' (P := E.P) ho (by simp), Result.andThen_ok, Sem.run_pure, hnb, Bool.false_eq_true, if_false, run_setObj' (P := E.P) ho (by simp)]
        have hex : (stepG.exec E.P true true fr' cs' none w).bare = .go { frame := { fr' with todo := (pe.map Item.code).toList ++ k' }, callers := cs', status := .running, dying := none } (setW w i.blk (.loop { state := .exhausted, pending := pe, fn, tmps := t', params := ⟨ps⟩, assign := a, body := b, defers := j.blk })) := by
          unfold stepG.exec
          simp only [e', Sem.runT_eq, hrun, GStep.bare_after, GStep.bare_go]
        refine Goes.one (exec_step m' rfl _ _ _ hex) ⟨r1, lo, hlo, ?_, hst.mono r2.le (r2.low' hlo)⟩ (r2.mono (Nat.zero_le _))
        refine .plain ⟨c.fn, c.defers, c.mode, c.kind, c.round⟩ t ?_
        cases pe with
        | none => exact hk
        | some c => exact .cons (.code _) hk
      · trivial
    | beginRound =>
      rename_i k k'
      simp only
      cases hro : fr.round with
      | none => trivial
      | some l =>
        simp only
        have hrd := c.round
        rw [hro] at hrd
        split
        · rename_i pe fn nt tm ps a b d hgl
          cases hro' : fr'.roundOf with
          | none => rw [hro'] at hrd; exact hrd.elim
          | some l' =>
            rw [hro'] at hrd
            obtain ⟨i, hb, hs, rfl⟩ := hrd
            obtain ⟨t', j, ho, _, ht, hd, hj⟩ := loop_at hr hgl hb
            obtain ⟨r1, r2⟩ := hr.set hgl hb (OR.loop (st := .busy) (pend := pe) (ps := ps) (as := a) (body := b) hs ht hd hj) H.nxt
            have hrun : (do fr'.roundOf.elim (stuck "beginRound: no round") Instr.beginRound; pure Next.skip : Sem Next).run E.P w = .ok .skip (setW w i.blk (.loop { state := .busy, pending := pe, fn, tmps := t', params := ⟨ps⟩, assign := a, body := b, defers := j.blk })) := by
              rw [hro']
              simp only [Option.elim, Instr.beginRound, Instr.getLoop, Sem.run_bind, run_getObj' (P := E.P) ho (by simp), Result.andThen_ok, Sem.run_pure, run_setObj' (P := E.P) ho (by simp)]
            have hfin : fr'.finish undef = { fr' with todo := k' } := by unfold Frame.finish; rw [e']
            have hex : stepG.exec E.P true true fr' cs' none w = stepG.apply E.P true fr' cs' none (do fr'.roundOf.elim (stuck "beginRound: no round") Instr.beginRound; pure Next.skip) w := by
              unfold stepG.exec
              simp only [e']
            have hst1 := exec_step m' hex _ _ _ (apply_skip hrun)
            rw [hfin] at hst1
            have e2 : ({ fn := fr.fn, nt := fr.nt, tm := fr.tm, todo := k, defers := fr.defers, mode := fr.mode, df := fr.df, round := some l } : AFr) = { fr with todo := k } := by rw [← hro]
            rw [e2]
            exact Goes.one hst1 ⟨r1, lo, hlo, .plain ⟨c.fn, c.defers, c.mode, c.kind, c.round⟩ t hk, hst.mono r2.le (r2.low' hlo)⟩ (r2.mono (Nat.zero_le _))
        · trivial
    | ops hj =>
      rename_i k k' all rest j
      cases rest with
      | nil => exact to hk rfl (by unfold stepG.exec; simp only [e', List.length_nil, List.range'_zero])
      | cons o rest =>
        simp only
        cases hop : opOk E.G o with
        | false => trivial
        | true =>
          simp only [Bool.not_true, Bool.false_eq_true, if_false]
          have ho : all[j]? = some o := by
            have := congrArg (fun l => l[0]?) hj
            simpa using this
          have e2 : fr'.todo = .inRegion ⟨all⟩ (j :: List.range' (j + 1) rest.length) :: k' := by rw [e']; rfl
          have hwant : Region.wanted o (yielded ⟨all⟩ fr'.tmps) = wantedOp all fr o := wanted_ok fun g b _ q d _ _ => t.get d
          have hev : EvR ρ o fr.ev fr'.eval := ev_ok hg hop fun i _ => t.get i
          cases hwt : wantedOp all fr o with
          | false =>
            simp only [Bool.false_eq_true, if_false]
            rw [hwt] at hwant
            have hstep := step_skip_region (P := E.P) (cs' := cs') (w := w) m' e2 ho hwant
            have hfin : finish fr undefV = some { fr.put o.dst undefV with todo := .ops all rest :: k } := by
              unfold finish; rw [e]
            exact Goes.one hstep ⟨hr, lo, hlo, finish_ok hf (VR.undef _) hfin, hst⟩ grefl
          | true =>
            simp only [if_true]
            rw [hwt] at hwant
            by_cases hdf : fr'.roundOf = none ∨ ∀ c, o.op ≠ .defer c
            · exact applyR_ok hE (hO w ρ H grefl) hr hlo hf hst (fun hne => exec_ok hE hr (Nat.le_refl _) hev hne) (step_op_region m' e2 ho hwant hdf) m
            · exact defer_round c.round hdf
    | code cd =>
      rename_i k k'
      cases cd with
      | ret =>
        exact leaveA_ok hr hlo hf hnd hst (exec_step m' (exec_ret e'))
      | skip => exact to hk rfl (by unfold stepG.exec; simp only [e'])
      | label l => exact to hk rfl (by unfold stepG.exec; simp only [e'])
      | seq a b => exact to (.cons (.code _) (.cons (.code _) hk)) rfl (by unfold stepG.exec; simp only [e'])
      | cond x a b =>
        simp only
        split
        · rename_i hb
          exact to (.cons (.code _) hk) rfl (by unfold stepG.exec; simp only [e', cond_ok t hb]; rfl)
        · rename_i hb
          exact to (.cons (.code _) hk) rfl (by unfold stepG.exec; simp only [e', cond_ok t hb]; rfl)
        · trivial
      | block id b => exact to (.cons (.code _) (.cons (.inBlock _) hk)) rfl (by unfold stepG.exec; simp only [e'])
      | loop b => exact to (.cons (.code _) (.cons (.inLoop _) hk)) rfl (by unfold stepG.exec; simp only [e'])
      | scope b => exact to (.cons (.code _) (.cons (.inScope _) hk)) rfl (by unfold stepG.exec; simp only [e'])
      | exit id =>
        simp only
        obtain ⟨h1, h2⟩ := exit_ok (id := id) hk
        cases hx : AM.exitTo id k with
        | some q =>
          obtain ⟨q', hq, hqr⟩ := h1 q hx
          exact to hqr rfl (by unfold stepG.exec; simp only [e', hq]; rfl)
        | none =>
          exact leaveA_ok hr hlo hf hnd hst (exec_step m' (exec_exit e' (h2 hx)))
      | goto l =>
        simp only
        obtain ⟨h1, h2⟩ := goto_ok (l := l) hk
        cases hx : AM.gotoIn l k with
        | some q =>
          obtain ⟨q', hq, hqr⟩ := h1 q hx
          exact to hqr rfl (by unfold stepG.exec; simp only [e', hq]; rfl)
        | none =>
          exact leaveA_ok hr hlo hf hnd hst (exec_step m' (exec_goto e' (h2 hx)))
      | refuse why => trivial
      | region id ops draw =>
        simp only
        cases draw with
        | false =>
          simp only [Bool.false_eq_true, if_false]
          refine to (td' := .inRegion ops (List.range ops.size) :: k') (.cons ?_ hk) rfl (by unfold stepG.exec; simp only [e']; rfl)
          have := ItR.ops (ρ := ρ) (all := ops.toList) (rest := ops.toList) (j := 0) rfl
          rw [Array.length_toList, ← List.range_eq_range'] at this
          exact this
        | true =>
          simp only [if_true]
          cases hpl : mkPlan E.P E.G ops.toList with
          | none => trivial
          | some sts =>
            simp only
            obtain ⟨ss, h1, h2, h3⟩ := Drw.init hpl (w.tape w.drawn (.order fr'.fn id)) (lo := lo) (hi := H.nxt) t
            have hex : (stepG.exec E.P true true fr' cs' none w).bare = .go { frame := { fr' with todo := .inRegion ops (Region.linearise .any ⟨ops.toList⟩ (w.tape w.drawn (.order fr'.fn id))) :: k' }, callers := cs', status := .running, dying := none } (drewW w) := by
              have hch : (choose (.order fr'.fn id)).run E.P w = .ok (w.tape w.drawn (.order fr'.fn id)) (drewW w) := by
                rw [run_choose]; rfl
              unfold stepG.exec
              simp only [e', hch, Bool.not_true, Bool.false_eq_true, if_false, Region.schedule, hE.mixed, Bool.true_or, if_true, GStep.bare_go]
            exact Goes.one (exec_step m' rfl _ _ _ hex) ⟨hr, lo, hlo, .draw ⟨c.fn, c.defers, c.mode, c.kind, c.round⟩ m rfl rfl hk h1 h3 h2, hst⟩ (.drew _ _ _ _)
      | rangeFunc f ps a b =>
        simp only
        cases hof : operandOk E.G f with
        | false => trivial
        | true =>
          simp only [Bool.not_true, Bool.false_eq_true, if_false]
          split
          · trivial
          · rename_i d mark H1 hent
            obtain ⟨ρ2, w2, l', mark', hrun, r1, g1, hmk, i, hi, hs, rfl⟩ := enterLoop_ok (E := E) (ps := ps) (a := a) (b := b) hr c t hent
            have g0 : Grw 0 ρ H w ρ2 _ w2 := g1.mono (Nat.zero_le _)
            split
            · rename_i tg args hdo
              have c2 := c.mono g1.le
              have hf2 : FrR E.P E.G lo (H1.new (.loop .ready none fr.fn fr.nt fr.tm ps.toList a b d)).nxt ρ2 { fr with todo := .inRangeFunc H1.nxt :: k, defers := mark ++ fr.defers } { fr' with todo := .inRangeFunc i.blk :: k', defers := mark' ++ fr'.defers } :=
                .plain ⟨c2.fn, hmk.append c2.defers, c2.mode, c2.kind, c2.round⟩ (t.mono g1.le) (.cons (.inRangeFunc hi hs) (hk.mono (ItR.mono g1.le)))
              have hvf : VR ρ2 (fr.ev f) (({ fr' with todo := .inRangeFunc i.blk :: k', defers := mark' ++ fr'.defers } : Frame).eval f) :=
                operand_ok (fr := fr) (fr' := { fr' with todo := .inRangeFunc i.blk :: k', defers := mark' ++ fr'.defers }) (hg.mono g1.le) hof fun i _ => (t.mono g1.le).get i
              have hva : LR ρ2 [.func (.yield H1.nxt) ⟨[]⟩ ⟨[]⟩] [.func (.yield i.blk) ⟨[]⟩ ⟨[]⟩] := .cons (.mk_func (.yield hi hs) (.nil _) (.nil _)) (.nil _)
              obtain ⟨tg', as', hd1, hd2, hd3⟩ := deferred_ok (P := E.P) (w := w2) hdo hvf hva
              have hlo2 : lo ≤ (H1.new (.loop .ready none fr.fn fr.nt fr.tm ps.toList a b d)).nxt := Nat.le_trans hlo g1.nxt
              have happ := applyR_ok (cs0 := cs0) (M := lone fr' cs' w) (H0 := H1.new (.loop .ready none fr.fn fr.nt fr.tm ps.toList a b d)) (fr := { fr with todo := .inRangeFunc H1.nxt :: k, defers := mark ++ fr.defers }) (cs := cs) (cs' := cs')
                (r := invokeT E tg args (H1.new (.loop .ready none fr.fn fr.nt fr.tm ps.toList a b d)))
                (s := do let d ← resolve ({ fr' with todo := .inRangeFunc i.blk :: k', defers := mark' ++ fr'.defers } : Frame).eval { callee := .value f, args := #[.const (.func (.yield i.blk) #[] #[])], argTypes := #[] } 0; invoke d.target d.args)
                hE (hO w2 ρ2 _ g0) r1 hlo2 hf2 (hst.mono g1.le (g1.low' hlo)) (fun hne => by
                  have e1 : (resolve ({ fr' with todo := .inRangeFunc i.blk :: k', defers := mark' ++ fr'.defers } : Frame).eval { callee := .value f, args := #[.const (.func (.yield i.blk) #[] #[])], argTypes := #[] } 0).run E.P w2 = .ok { target := tg', args := ⟨as'⟩ } w2 := by
                    rw [← hd1]
                    unfold resolve
                    simp only
                    congr 2
                    apply Array.ext'
                    simp
                    rfl
                  rw [run_step e1]
                  exact invoke_ok hE r1 (Nat.le_refl _) hne hd2 hd3) ?_ m
              · exact happ.pre (.refl _ _) g0
              · intro fr2 cs2 w3 hb
                refine exec_step m' rfl _ _ _ ?_
                unfold stepG.exec
                simp only [e', Sem.runT_eq, hrun, GStep.bare_after]
                exact hb
            · trivial

theorem step_ok (hE : EnvOk E) {c : ACf} {fr' : Frame} {cs' : List Frame} (hO : ∀ (w' : World) (ρ' : Rn) (H' : Hp), Grw 0 ρ c.H w ρ' H' w' → OrcOk E w') (hg : GlobR E.G ρ) (k : CfR E cs0 c ρ w fr' cs') : Went E cs0 ρ c.H w (lone fr' cs' w) (astep E c) := by
  unfold astep
  have hrun : c.fr.mode = .run → Went E cs0 ρ c.H w (lone fr' cs' w) (runA E c.fr c.cs c.H) := by
    intro m
    obtain ⟨hr, lo, hlo, hf, hs⟩ := k
    cases hf with
    | plain c t k => exact plain_ok hE hO hr hg hlo c t k m hs
    | draw c m e e' hk hs' hops d => exact draw_ok hE hO hr hg hlo c m e e' hk hs' hops d hs
    | draws c m e e' hk hs' hops ho ha d => unfold runA; rw [e]; trivial
  cases hm : c.fr.mode with
  | run => exact hrun hm
  | returning => exact unwindA_ok hE k (by rw [hm]; simp)
  | panicking ch => exact unwindA_ok hE k (by rw [hm]; simp)

/-- All ways end well: the model's call ends well. -/
theorem runs_ok (hE : EnvOk E) {ρ0 : Rn} {H0 : Hp} {w0 : World} (hO : ∀ (w' : World) (ρ' : Rn) (H' : Hp), Grw 0 ρ0 H0 w0 ρ' H' w' → OrcOk E w') {f : Nat} {ok : Value → Bool} : ∀ (n : Nat) (c : ACf) (ρ : Rn) (w : World) (fr' : Frame) (cs' : List Frame),
    runs E f ok n c = true → GlobR E.G ρ → Grw 0 ρ0 H0 w0 ρ c.H w → CfR E cs0 c ρ w fr' cs' →
    ∃ ρ' H' w' fr2 v v', Steps E.P (lone fr' cs' w) (lone fr2 cs0 w') ∧ HR ρ' H' w'.heap ∧ Grw 0 ρ0 H0 w0 ρ' H' w' ∧ fr2.fn = f ∧ fr2.leaving E.P w' (.returned v') ∧ VR ρ' v v' ∧ ok v = true
  | 0, c, ρ, w, fr', cs', h, _, _, _ => by simp [runs] at h
  | n + 1, c, ρ, w, fr', cs', h, hg, g, k => by
    have hs := step_ok hE (fun w' ρ' H' g' => hO w' ρ' H' (g.trans g')) hg k
    have next : ∀ c1, Goes E cs0 ρ c.H w (lone fr' cs' w) c1 → runs E f ok n c1 = true →
        ∃ ρ' H' w' fr2 v v', Steps E.P (lone fr' cs' w) (lone fr2 cs0 w') ∧ HR ρ' H' w'.heap ∧ Grw 0 ρ0 H0 w0 ρ' H' w' ∧ fr2.fn = f ∧ fr2.leaving E.P w' (.returned v') ∧ VR ρ' v v' ∧ ok v = true := by
      rintro c1 ⟨ρ1, w1, fr1, cs1, a1, a2, a3⟩ hr1
      obtain ⟨ρ', H', w', fr2, v, v', b1, b2, b3, b4, b5, b6, b7⟩ := runs_ok hE hO n c1 ρ1 w1 fr1 cs1 hr1 (hg.mono a3.le) (g.trans a3) a2
      exact ⟨ρ', H', w', fr2, v, v', a1.trans b1, b2, b3, b4, b5, b6, b7⟩
    unfold runs at h
    generalize astep E c = o at hs h
    cases o with
    | fail _ _ => cases h
    | next c1 => exact next c1 hs h
    | fork l =>
      obtain ⟨c1, hc1, hgo⟩ := hs
      exact next c1 hgo (List.all_eq_true.1 h c1 hc1)
    | done f' v H' =>
      obtain ⟨ρ', w', fr2, v', a1, a2, a3, a4, a5, a6⟩ := hs
      rw [Bool.and_eq_true] at h
      exact ⟨ρ', H', w', fr2, v, v', a1, a2, g.trans a3, a4.trans (Nat.eq_of_beq_eq_true h.1), a5, a6, h.2⟩

end
end Go.AM
