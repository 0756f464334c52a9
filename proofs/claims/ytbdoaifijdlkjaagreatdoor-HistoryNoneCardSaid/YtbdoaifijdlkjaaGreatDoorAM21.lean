/-
  AM21: a frame's leaving; results; unwinding.
-/
import Derived.Test.YtbdoaifijdlkjaaGreatDoorAM20
namespace Go.AM
open Go

section
variable {E : Env} {cs0 : List Frame} {ρ : Rn} {H : Hp} {w : World}

theorem mode_ok {P : Program} {G : Nat} {lo hi : Nat} {fr : AFr} {fr' : Frame} (k : FrR P G lo hi ρ fr fr') (hn : fr.mode ≠ .run ∨ inDraw fr = false) {m m' : FrameMode} (hm : ModeR ρ m m') :
    FrR P G lo hi ρ { fr with mode := m } { fr' with mode := m' } := by
  cases k with
  | plain c t k => exact .plain ⟨c.fn, c.defers, hm, c.kind, c.round⟩ t k
  | draw c mm e e' hk hs hops d =>
    rcases hn with hn | hn
    · exact absurd mm hn
    · simp [inDraw, e] at hn
  | draws c mm e e' hk hs hops ho ha d =>
    rcases hn with hn | hn
    · exact absurd mm hn
    · simp [inDraw, e] at hn

theorem l2_dropWhile {l m : List PanicEntry} (h : L2 (EntryR ρ) l m) : L2 (EntryR ρ) (l.dropWhile (!·.goexit)) (m.dropWhile (!·.goexit)) := by
  induction h with
  | nil => exact .nil
  | cons x hr ih =>
    rw [List.dropWhile_cons, List.dropWhile_cons, x.ends]
    split
    · exact ih
    · exact .cons x hr

def callerMode : FrameMode → FrameMode
  | .panicking ({ recovered := true, .. } :: older) => match older.dropWhile (!·.goexit) with
    | [] => .returning
    | r => .panicking r
  | m => m

theorem callerMode_ok {m m' : FrameMode} (h : ModeR ρ m m') : ModeR ρ (callerMode m) (callerMode m') := by
  cases h with
  | run => exact .run
  | returning => exact .returning
  | panicking h =>
    cases h with
    | nil => exact .panicking .nil
    | cons x hr =>
      rename_i a b l m
      obtain ⟨v0, r0, g0⟩ := a
      obtain ⟨v1, r1, g1⟩ := b
      have e1 : r1 = r0 := x.done
      subst e1
      cases r1 with
      | false => exact .panicking (.cons x hr)
      | true =>
        have hd := l2_dropWhile hr
        simp only [callerMode]
        generalize l.dropWhile (!·.goexit) = l1 at hd
        generalize m.dropWhile (!·.goexit) = m1 at hd
        cases hd with
        | nil => exact .returning
        | cons a b => exact .panicking (.cons a b)

theorem callerMode_run {m : FrameMode} (h : m = .run) : callerMode m = .run := by subst h; rfl

/-- What both machines make of the caller of a deferred call. -/
theorem doReturn_df {fr c : AFr} {rest : List AFr} {v : Value} {H : Hp} (h : fr.df = true) : AM.doReturn fr (c :: rest) v H = .next ⟨{ c with mode := callerMode c.mode }, rest, H⟩ := by
  unfold AM.doReturn
  simp only [h, if_true]
  obtain ⟨fn, nt, tm, todo, defers, mode, df, round⟩ := c
  cases mode with
  | run => rfl
  | returning => rfl
  | panicking ch =>
    cases ch with
    | nil => rfl
    | cons e older =>
      obtain ⟨v, r, g⟩ := e
      cases r with
      | false => rfl
      | true =>
        simp only [callerMode]
        cases older.dropWhile (!·.goexit) <;> rfl
theorem doReturn_def {P : Program} {fr c : Frame} {rest : List Frame} {v : Value} {w : World} (h : fr.kind = .deferred) :
    (Go.doReturn P true fr (c :: rest) none v w).bare = .go { frame := { c with mode := callerMode c.mode }, callers := rest, status := .running, dying := none } w := by
  simp only [Go.doReturn, h]
  obtain ⟨fn, tmps, todo, defers, mode, kind, round⟩ := c
  cases mode with
  | run => rfl
  | returning => rfl
  | panicking ch =>
    cases ch with
    | nil => rfl
    | cons e older =>
      obtain ⟨v, r, g⟩ := e
      cases r with
      | false => rfl
      | true =>
        simp only [callerMode]
        cases older.dropWhile (!·.goexit) <;> rfl

/-- A frame gives a value to its caller. -/
theorem doReturn_ok {fr : AFr} {fr' : Frame} {c : AFr} {rest : List AFr} {cs' : List Frame} {lo : Nat} (hr : HR ρ H w.heap) (hlo : lo ≤ H.nxt) (hk : fr'.kind = if fr.df then .deferred else .normal)
    (hs : StackR E.P E.G cs0 ρ lo (c :: rest) cs') {v v' : Value} (hv : VR ρ v v') {M : Machine}
    (hM : ∀ fr2 cs2 w2, (Go.doReturn E.P true fr' cs' none v' w).bare = .go { frame := fr2, callers := cs2, status := .running, dying := none } w2 → step E.P M = .next (lone fr2 cs2 w2)) :
    ∀ {ρa : Rn} {Ha : Hp} {wa : World}, Grw 0 ρa Ha wa ρ H w → Went E cs0 ρa Ha wa M (AM.doReturn fr (c :: rest) v H) := by
  intro ρa Ha wa g
  cases hs with
  | cons hlo2 hf ks =>
    rename_i lo2 c' rest'
    have hc : FrR E.P E.G lo2 H.nxt ρ c c' := hf.mono (Rn.le_refl _) (fun _ _ h => h) hlo
    cases hdf : fr.df with
    | true =>
      rw [hdf] at hk
      simp only [if_true] at hk
      rw [doReturn_df hdf]
      refine Goes.one (hM _ _ _ (doReturn_def hk)) ⟨hr, lo2, Nat.le_trans hlo2 hlo, ?_, ks⟩ g
      by_cases hrun : c.mode = .run
      · have hrun' : c'.mode = .run := by
          have := hc.c.mode
          rw [hrun] at this
          generalize c'.mode = m at this
          cases this; rfl
        have e1 : ({ c with mode := callerMode c.mode } : AFr) = c := by rw [callerMode_run hrun, ← hrun]
        have e2 : ({ c' with mode := callerMode c'.mode } : Frame) = c' := by rw [callerMode_run hrun', ← hrun']
        rw [e1, e2]; exact hc
      · exact mode_ok hc (.inl hrun) (callerMode_ok hc.c.mode)
    | false =>
      rw [hdf] at hk
      unfold AM.doReturn
      simp only [hdf, Bool.false_eq_true, if_false] at hk ⊢
      cases hfi : finish c v with
      | none => trivial
      | some c2 =>
        have hb : (Go.doReturn E.P true fr' (c' :: rest') none v' w).bare = .go { frame := c'.finish v', callers := rest', status := .running, dying := none } w := by
          simp only [Go.doReturn, hk, GStep.bare_go]
        exact Goes.one (hM _ _ _ hb) ⟨hr, lo2, Nat.le_trans hlo2 hlo, finish_ok hc hv hfi, ks⟩ g

/-! ### loops over functions -/
theorem loop_at (hr : HR ρ H w.heap) {l : Nat} {st : LoopState} {pe : Option Code} {fn nt : Nat} {tm : Tr Value} {ps : List Tmp} {a b : Code} {d : Nat} (hg : H.get l = some (.loop st pe fn nt tm ps a b d)) {i : BI} (hb : ρ l = some i) :
    ∃ (t : Array Value) (j : BI), w.heap[i.blk]? = some (.loop { state := st, pending := pe, fn, tmps := t, params := ⟨ps⟩, assign := a, body := b, defers := j.blk }) ∧ i.sh = 0 ∧ TmR ρ nt tm t ∧ ρ d = some j ∧ j.sh = 0 := by
  obtain ⟨o', ho, hor⟩ := hr.obj _ _ _ hg hb
  cases hor with
  | loop hs ht h hj => exact ⟨_, _, ho, hs, ht, h, hj⟩

theorem endRound_ok {P : Program} (hr : HR ρ H w.heap) {l : Nat} {i : BI} (hb : ρ l = some i) {jump : Option Code} {v : Value} {H1 : Hp} (h : AM.endRound H l jump = some (v, H1)) :
    ∃ w1, (Instr.endRound i.blk jump).run P w = .ok v w1 ∧ HR ρ H1 w1.heap ∧ Grw 0 ρ H w ρ H1 w1 ∧ flatV v = true := by
  unfold AM.endRound at h
  split at h
  · rename_i st pe fn nt tm ps a b d hg
    cases h
    obtain ⟨t, j, ho, hs, ht, hd, hj⟩ := loop_at hr hg hb
    have hor : OR ρ i (.loop (if jump.isNone then .ready else .done) jump fn nt tm ps a b d) (.loop { state := if jump.isNone then .ready else .done, pending := jump, fn, tmps := t, params := ⟨ps⟩, assign := a, body := b, defers := j.blk }) :=
      .loop hs ht hd hj
    obtain ⟨r1, r2⟩ := hr.set hg hb hor 0
    refine ⟨_, ?_, r1, r2, rfl⟩
    simp only [Instr.endRound, Instr.getLoop, Sem.run_bind, run_getObj' (P := P) ho (by simp), Result.andThen_ok, Sem.run_pure, run_setObj' (P := P) ho (by simp)]
  · cases h

/-! ### results -/
def resF (tmps : Array Value) : ResultVar → Sem Value
  | .tmp t => pure (tmps.getD t undef)
  | .cell a t => do Go.loadVar t (← asAddr (tmps.getD a undef))

theorem results_eq (fn : Func) (tmps : Array Value) : results fn tmps = (do let vs ← fn.results.mapM (resF tmps); pure (if h : vs.size = 1 then vs[0] else .tuple vs)) := by
  unfold results
  congr 2

theorem resultsV_ok {P : Program} (hr : HR ρ H w.heap) {fr : AFr} {tmps : Array Value} (ht : TmR ρ fr.nt fr.tm tmps) : ∀ {rs : List ResultVar} {l : List Value}, resultsV P fr H rs = some l →
    ∃ l', (rs.mapM (resF tmps)).run P w = .ok l' w ∧ LR ρ l l'
  | [], l, h => by cases h; exact ⟨[], rfl, .nil ρ⟩
  | .tmp t :: rs, l, h => by
    unfold resultsV at h
    cases hq : resultsV P fr H rs with
    | none => rw [hq] at h; cases h
    | some q =>
      rw [hq] at h
      cases h
      obtain ⟨l', h1, h2⟩ := resultsV_ok hr ht hq
      refine ⟨tmps.getD t undef :: l', ?_, .cons (ht.get t) h2⟩
      rw [List.mapM_cons]
      simp only [resF, Sem.run_bind, Sem.run_pure, Result.andThen_ok, h1]
  | .cell a t :: rs, l, h => by
    unfold resultsV at h
    split at h
    · rename_i ad e
      split at h
      · rename_i v q hv hq
        cases h
        obtain ⟨l', h1, h2⟩ := resultsV_ok hr ht hq
        have hp := ht.get a
        rw [e] at hp
        obtain ⟨a', v', e2, h3, h4⟩ := load_ok (P := P) hr hv hp
        refine ⟨v' :: l', ?_, .cons h4 h2⟩
        rw [List.mapM_cons]
        have e3 : (asAddr (tmps.getD a undef)).run P w = .ok a' w := by rw [e2]; rfl
        simp only [resF, Sem.run_bind, Sem.run_pure, Result.andThen_ok, h1, e3, h3]
      · cases h
    · cases h

theorem results_ok {P : Program} (hr : HR ρ H w.heap) {fr : AFr} {tmps : Array Value} (ht : TmR ρ fr.nt fr.tm tmps) {fn : Func} {l : List Value} (h : resultsV P fr H fn.results.toList = some l) :
    ∃ v', (results fn tmps).run P w = .ok v' w ∧ VR ρ (tupleOf l) v' := by
  obtain ⟨l', h1, h2⟩ := resultsV_ok hr ht h
  have e : (results fn tmps).run P w = .ok (if h : (⟨l'⟩ : Array Value).size = 1 then (⟨l'⟩ : Array Value)[0] else .tuple ⟨l'⟩) w := by
    simp only [results_eq, Array.mapM_eq_mapM_toList, Sem.run_bind, Sem.run_map, h1, Result.andThen_ok, Sem.run_pure]
  refine ⟨_, e, ?_⟩
  unfold tupleOf
  split
  · obtain ⟨v', r, rfl, hv, hr⟩ := h2.cons_inv
    cases hr.nil_inv
    exact hv
  · rename_i hn
    have : ¬ (⟨l'⟩ : Array Value).size = 1 := by
      show ¬ l'.length = 1
      rw [← h2.1]
      intro q
      match l, q with
      | [x], _ => exact hn x rfl
    rw [dif_neg this]
    exact .mk_tuple h2

end
end Go.AM
