/-
  AM22: unwinding.
-/
import Derived.Test.YtbdoaifijdlkjaaGreatDoorAM21
namespace Go.AM
open Go

section
variable {E : Env} {cs0 : List Frame} {ρ : Rn} {H : Hp} {w : World}

theorem run_call_enter (hE : EnvOk E) {f : Nat} {fn : Func} {c : Code} (hf : E.P.funcs.toList[f]? = some fn) (hc : fn.body = some c) (args : Array Value) : (callFunc f args).run E.P w = .ok (.enter f args) w := by
  have hf' : E.P.funcs[f]? = some fn := by rw [← Array.getElem?_toList]; exact hf
  have hn := hE.name f fn hf' (by rw [hc]; rfl)
  simp only [callFunc, Sem.run_bind, run_program, Result.andThen_ok, hf', hn, Bool.false_eq_true, if_false, hc, Option.isNone_some, Sem.run_pure]

theorem catches_no {P : Program} {fr : Frame} (h : notCall fr) : fr.catches P = false := by
  unfold Frame.catches
  split
  · rename_i e; exact absurd e (h _ _ _ _ _)
  · rfl

theorem stepG_unwind {P : Program} {fr : Frame} {cs : List Frame} {w : World} (h : fr.mode ≠ .run) :
    stepG P true { frame := fr, callers := cs, status := .running, dying := none } w = unwind P true fr cs none w := by
  unfold stepG
  simp only

theorem go_step {P : Program} {fr : Frame} {cs : List Frame} {w : World} {s : GStep} (h : stepG P true { frame := fr, callers := cs, status := .running, dying := none } w = s) :
    ∀ fr2 cs2 w2, s.bare = .go { frame := fr2, callers := cs2, status := .running, dying := none } w2 → step P (lone fr cs w) = .next (lone fr2 cs2 w2) := by
  intro fr2 cs2 w2 hb
  exact step_lone_go (by rw [h]; exact hb)

theorem unwindA_ok (hE : EnvOk E) {c : ACf} {fr' : Frame} {cs' : List Frame} (k : CfR E cs0 c ρ w fr' cs') (hm : c.fr.mode ≠ .run) : Went E cs0 ρ c.H w (lone fr' cs' w) (unwindA E c.fr c.cs c.H) := by
  obtain ⟨fr, cs, H⟩ := c
  obtain ⟨hr, lo, hlo, hf, hs⟩ := k
  simp only at *
  have hc := hf.c
  have hm' : fr'.mode ≠ .run := by
    intro e
    have := hc.mode
    rw [e] at this
    generalize fr.mode = m at this hm
    cases this; exact hm rfl
  have hplain : inDraw fr = false ∧ TmR ρ fr.nt fr.tm fr'.tmps := by
    cases hf with
    | plain c t k =>
      refine ⟨?_, t⟩
      unfold inDraw
      generalize fr.todo = td at k
      generalize fr'.todo = td' at k
      cases k with
      | nil => rfl
      | cons h _ => cases h <;> rfl
    | draw c m e e' hk hs hops d => exact absurd m hm
    | draws c m e e' hk hs hops ho ha d => exact absurd m hm
  have hstep := stepG_unwind (P := E.P) (cs := cs') (w := w) hm'
  have hd := hc.defers
  unfold unwindA
  generalize hds : fr.defers = ds at hd
  generalize hds' : fr'.defers = ds' at hd
  cases hd with
  | cons hdr hrest =>
    rename_i d d' dl dl'
    obtain ⟨tg, args⟩ := d
    obtain ⟨tg', args'⟩ := d'
    obtain ⟨htg, hargs⟩ := hdr
    simp only at htg hargs ⊢
    cases htg with
    | collected hb hsh =>
      rename_i b i
      simp only
      split
      · rename_i l hg
        obtain ⟨o', ho, hor⟩ := hr.obj _ _ _ hg hb
        cases hor with
        | dfr hs2 hl =>
          rename_i l'
          obtain ⟨r1, r2⟩ := hr.set hg hb (OR.dfr0 hs2) H.nxt
          have hb1 : (unwind E.P true fr' cs' none w).bare = .go { frame := { fr' with defers := l' ++ dl' }, callers := cs', status := .running, dying := none } (setW w i.blk (.deferred none)) := by
            unfold unwind
            have ht : (Instr.takeDeferred i.blk).run E.P w = .ok l' (setW w i.blk (.deferred none)) := by
              simp only [Instr.takeDeferred, Sem.run_bind, run_getObj' (P := E.P) ho (by simp), Result.andThen_ok, run_setObj' (P := E.P) ho (by simp), Sem.run_pure]
            simp only [hds', Sem.runT_eq, ht, GStep.bare_after, GStep.bare_go]
          refine Goes.one (go_step hstep _ _ _ hb1) ⟨r1, lo, hlo, ?_, hs⟩ (r2.mono (Nat.zero_le _))
          exact defers_ok (hf.mono r2.le r2.low (Nat.le_refl _)) (hl.append hrest)
      · trivial
    | fn hfn hcap =>
      rename_i f f' c c'
      cases hfn with
      | func f =>
        simp only
        cases hg : enterFr E f (args.toList ++ c) true with
        | none => trivial
        | some g =>
          have hl := hargs.append hcap
          obtain ⟨fn, c0, hf0, hc0⟩ : ∃ fn c0, E.P.funcs.toList[f]? = some fn ∧ fn.body = some c0 := by
            unfold enterFr at hg
            split at hg
            · rename_i fn hf0
              split at hg
              · rename_i c0 hc0; exact ⟨fn, c0, hf0, hc0⟩
              · cases hg
            · cases hg
          have hb1 : (unwind E.P true fr' cs' none w).bare = .go { frame := Frame.enter E.P f ⟨args'.toList ++ c'⟩ .deferred, callers := { fr' with defers := dl' } :: cs', status := .running, dying := none } w := by
            unfold unwind
            have ht : (invoke (.fn (.func f) ⟨c'⟩) args').run E.P w = .ok (.enter f ⟨args'.toList ++ c'⟩) w := by
              have : args' ++ (⟨c'⟩ : Array Value) = ⟨args'.toList ++ c'⟩ := by apply Array.ext'; simp
              simp only [invoke, this]
              exact run_call_enter hE hf0 hc0 _
            simp only [hds', callDeferred, Bool.false_and, Bool.false_eq_true, if_false, Sem.runT_eq, ht, GStep.bare_after, GStep.bare_go]
          refine Goes.one (go_step hstep _ _ _ hb1) ⟨hr, H.nxt, Nat.le_refl _, ?_, .cons hlo (defers_ok hf hrest) hs⟩ (.refl _ _ _ _)
          have := enter_ok (df := true) hg hl H.nxt H.nxt
          simpa using this
      | via t p f q => trivial
      | yield hb hs2 => trivial
  | nil =>
    simp only
    have hmd := hc.mode
    generalize hm1 : fr.mode = m1 at hmd hm
    generalize hm2 : fr'.mode = m2 at hmd
    cases hmd with
    | run => exact absurd rfl hm
    | panicking hch =>
      rename_i ch ch'
      simp only
      cases hs with
      | nil => trivial
      | cons hlo2 hf2 ks =>
        rename_i lo2 c c' rest rest'
        simp only
        cases hdr : inDraw c with
        | true => trivial
        | false =>
          simp only [Bool.false_eq_true, if_false]
          have hb1 : (unwind E.P true fr' (c' :: rest') none w).bare = .go { frame := c'.raise ch', callers := rest', status := .running, dying := none } w := by
            unfold unwind
            simp only [hds', hm2, catches_no (P := E.P) hf.notCall, Bool.false_eq_true, if_false, GStep.bare_go]
          exact Goes.one (go_step hstep _ _ _ hb1) ⟨hr, lo2, Nat.le_trans hlo2 hlo, raise_ok (hf2.mono (Rn.le_refl _) (fun _ _ h => h) hlo) hdr hch, ks⟩ (.refl _ _ _ _)
    | returning =>
      simp only
      split
      · rename_i fn hfn
        have hfn' : E.P.funcs[fr'.fn]? = some fn := by rw [hc.fn, ← Array.getElem?_toList]; exact hfn
        split
        · rename_i l hl
          obtain ⟨v', hrun, hv⟩ := results_ok (P := E.P) hr hplain.2 hl
          cases cs with
          | nil =>
            cases hs
            unfold AM.doReturn
            simp only
            cases hdf : fr.df with
            | true => trivial
            | false =>
              have hk := hc.kind
              rw [hdf] at hk
              exact ⟨ρ, w, fr', v', .refl _ _, hr, .refl _ _ _ _, hc.fn, ⟨hm2, hds', by simpa using hk, fn, hfn', hrun⟩, hv⟩
          | cons c rest =>
            refine doReturn_ok hr hlo hc.kind hs hv ?_ (.refl _ _ _ _)
            intro fr2 cs2 w2 hb
            refine go_step hstep _ _ _ ?_
            unfold unwind
            simp only [hds', hm2, hfn', Sem.runT_eq, hrun, GStep.bare_after]
            exact hb
        · trivial
      · trivial

end
end Go.AM
