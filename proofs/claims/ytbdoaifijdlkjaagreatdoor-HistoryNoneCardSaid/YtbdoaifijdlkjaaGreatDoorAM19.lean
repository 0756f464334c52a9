/-
  AM19: what an operation's outcome does to the machines.
-/
import Derived.Test.YtbdoaifijdlkjaaGreatDoorAM18
namespace Go.AM
open Go

/-- Where both machines stand. -/
structure CfR (E : Env) (cs0 : List Frame) (c : ACf) (ρ : Rn) (w : World) (fr' : Frame) (cs' : List Frame) : Prop where
  hr : HR ρ c.H w.heap
  frs : ∃ lo, lo ≤ c.H.nxt ∧ FrR E.P E.G lo c.H.nxt ρ c.fr fr' ∧ StackR E.P E.G cs0 ρ lo c.cs cs'

def Goes (E : Env) (cs0 : List Frame) (ρ : Rn) (H : Hp) (w : World) (M : Machine) (c : ACf) : Prop :=
  ∃ ρ' w' fr' cs', Steps E.P M (lone fr' cs' w') ∧ CfR E cs0 c ρ' w' fr' cs' ∧ Grw 0 ρ H w ρ' c.H w'

def Went (E : Env) (cs0 : List Frame) (ρ : Rn) (H : Hp) (w : World) (M : Machine) : AOut → Prop
  | .fail _ _ => True
  | .next c => Goes E cs0 ρ H w M c
  | .fork l => ∃ c ∈ l, Goes E cs0 ρ H w M c
  | .done f v H' => ∃ ρ' w' fr' v', Steps E.P M (lone fr' cs0 w') ∧ HR ρ' H' w'.heap ∧ Grw 0 ρ H w ρ' H' w' ∧ fr'.fn = f ∧ fr'.leaving E.P w' (.returned v') ∧ VR ρ' v v'

/-- All that stood stays. -/
structure Kept (w w' : World) : Prop where
  heap : ∀ cb, cb < w.heap.size → w'.heap[cb]? = w.heap[cb]?
  size : w.heap.size ≤ w'.heap.size
  os : w'.os = w.os
  tape : w'.tape = w.tape
  output : w'.output = w.output
theorem Kept.refl (w : World) : Kept w w := ⟨fun _ _ => rfl, Nat.le_refl _, rfl, rfl, rfl⟩
theorem Kept.grw {w w' : World} (k : Kept w w') (m : Nat) (ρ : Rn) (H : Hp) : Grw m ρ H w ρ H w' :=
  ⟨Rn.le_refl ρ, fun cb hcb h => ⟨k.heap cb hcb, h⟩, k.size, fun _ _ h => h, Nat.le_refl _, k.os, k.tape, k.output⟩
theorem Kept.hr {w w' : World} (k : Kept w w') {ρ : Rn} {H : Hp} (h : HR ρ H w.heap) : HR ρ H w'.heap :=
  ⟨fun b o i a c => by
    obtain ⟨o', h1, h2⟩ := h.obj b o i a c
    exact ⟨o', by rw [k.heap _ (Array.getElem?_eq_some_iff.1 h1).1]; exact h1, h2⟩, h.inj, h.fresh⟩

/-- What the oracles answer, in a world. -/
def OrcOk (E : Env) (w : World) : Prop :=
  ∀ f g, E.orc f = some g → ∀ args v, g args = some v → ∀ (ρ : Rn) (H : Hp) args', HR ρ H w.heap → LR ρ args args' → ∃ v', VR ρ v v' ∧ Calls E.P f ⟨args'⟩ w fun e w' => e = .returned v' ∧ Kept w w'

section
variable {E : Env} {cs0 : List Frame} {ρ : Rn} {H : Hp} {w : World}

theorem Goes.pre {ρ1 : Rn} {H1 : Hp} {w1 : World} {M M1 : Machine} {c : ACf} (hs : Steps E.P M M1) (g : Grw 0 ρ H w ρ1 H1 w1) (k : Goes E cs0 ρ1 H1 w1 M1 c) : Goes E cs0 ρ H w M c := by
  obtain ⟨ρ', w', fr', cs', h1, h2, h3⟩ := k
  exact ⟨ρ', w', fr', cs', hs.trans h1, h2, g.trans h3⟩

theorem Went.pre {ρ1 : Rn} {H1 : Hp} {w1 : World} {M M1 : Machine} {o : AOut} (hs : Steps E.P M M1) (g : Grw 0 ρ H w ρ1 H1 w1) (k : Went E cs0 ρ1 H1 w1 M1 o) : Went E cs0 ρ H w M o := by
  cases o with
  | fail _ _ => trivial
  | next c => exact Goes.pre hs g k
  | fork l => obtain ⟨c, hc, k⟩ := k; exact ⟨c, hc, k.pre hs g⟩
  | done f v H' =>
    obtain ⟨ρ', w', fr', v', h1, h2, h3, h4, h5, h6⟩ := k
    exact ⟨ρ', w', fr', v', hs.trans h1, h2, g.trans h3, h4, h5, h6⟩

theorem Goes.one {M : Machine} {c : ACf} {ρ' : Rn} {w' : World} {fr' : Frame} {cs' : List Frame} (hs : step E.P M = .next (lone fr' cs' w')) (hc : CfR E cs0 c ρ' w' fr' cs') (g : Grw 0 ρ H w ρ' c.H w') : Goes E cs0 ρ H w M c :=
  ⟨ρ', w', fr', cs', .one hs, hc, g⟩

/-! ### the model's 'apply' -/
variable {fr : Frame} {cs : List Frame} {s : Sem Next} {w1 : World}

def notCall (fr : Frame) : Prop := ∀ d b r sv k, fr.todo ≠ .call d b r sv :: k

theorem FrR.notCall {P : Program} {G : Nat} {lo hi : Nat} {a : AFr} {fr' : Frame} (k : FrR P G lo hi ρ a fr') : notCall fr' := by
  intro d b r sv kk e
  cases k with
  | plain c t k =>
    rw [e] at k
    generalize a.todo = td at k
    cases k with
    | cons h1 _ => cases h1
  | draw c m e1 e' hk hs hops d => rw [e'] at e; cases e
  | draws c m e1 e' hk hs hops ho ha d => rw [e'] at e; cases e

theorem apply_value {v : Value} (h : s.run E.P w = .ok (.value v) w1) :
    (stepG.apply E.P true fr cs none s w).bare = .go { frame := fr.finish v, callers := cs, status := .running, dying := none } w1 := by
  simp only [stepG.apply, if_true, Sem.runT_eq, h, GStep.bare_after]; rfl
theorem apply_skip (h : s.run E.P w = .ok .skip w1) :
    (stepG.apply E.P true fr cs none s w).bare = .go { frame := fr.finish undef, callers := cs, status := .running, dying := none } w1 := by
  simp only [stepG.apply, if_true, Sem.runT_eq, h, GStep.bare_after]; rfl
theorem apply_enter (hn : notCall fr) {f : Nat} {args : Array Value} (h : s.run E.P w = .ok (.enter f args) w1) :
    (stepG.apply E.P true fr cs none s w).bare = .go { frame := Frame.enter E.P f args .normal, callers := fr :: cs, status := .running, dying := none } w1 := by
  simp only [stepG.apply, if_true, Sem.runT_eq, h, GStep.bare_after, GStep.bare_go]
  split
  · rename_i e; exact absurd e (hn _ _ _ _ _)
  · rfl
theorem apply_round {l f : Nat} {tmps : Array Value} {a b : Code} (h : s.run E.P w = .ok (.round l f tmps a b) w1) :
    (stepG.apply E.P true fr cs none s w).bare = .go { frame := Frame.round l f tmps a b .normal, callers := fr :: cs, status := .running, dying := none } w1 := by
  simp only [stepG.apply, if_true, Sem.runT_eq, h, GStep.bare_after]; rfl
theorem apply_defer {d : Deferred} (h : s.run E.P w = .ok (.defer d) w1) :
    (stepG.apply E.P true fr cs none s w).bare = .go { frame := ({ fr with defers := d :: fr.defers } : Frame).finish undef, callers := cs, status := .running, dying := none } w1 := by
  simp only [stepG.apply, if_true, Sem.runT_eq, h, GStep.bare_after]; rfl
theorem apply_recover_none (hr : fr.roundOf = none) (ht : tryRecover fr cs = none) (h : s.run E.P w = .ok .recover w1) :
    (stepG.apply E.P true fr cs none s w).bare = .go { frame := fr.finish .nilIface, callers := cs, status := .running, dying := none } w1 := by
  simp only [stepG.apply, if_true, Sem.runT_eq, h, GStep.bare_after, hr, ht]; rfl
theorem apply_recover_some {v : Value} {cs2 : List Frame} (hr : fr.roundOf = none) (ht : tryRecover fr cs = some (v, cs2)) (h : s.run E.P w = .ok .recover w1) :
    (stepG.apply E.P true fr cs none s w).bare = .go { frame := fr.finish v, callers := cs2, status := .running, dying := none } w1 := by
  simp only [stepG.apply, if_true, Sem.runT_eq, h, GStep.bare_after, hr, ht]; rfl
theorem apply_panic {v : Value} (h : s.run E.P w = .halt (.panic v) w1) :
    (stepG.apply E.P true fr cs none s w).bare = .go { frame := fr.raise [{ v, recovered := false }], callers := cs, status := .running, dying := none } w1 := by
  simp only [stepG.apply, if_true, Sem.runT_eq, h, GStep.bare_after]; rfl
end

/-! ### frames -/
theorem bindArgs_get : ∀ (vs : List Value) (t : Tr Value) (i j : Nat), (bindArgs t i vs).get j = if i ≤ j ∧ j < i + vs.length then vs[j - i]? else t.get j
  | [], t, i, j => by
    simp only [bindArgs, List.length_nil]
    rw [if_neg (by omega)]
  | v :: vs, t, i, j => by
    rw [bindArgs, bindArgs_get vs _ (i + 1) j, Tr.get_put]
    simp only [List.length_cons]
    by_cases h1 : j = i
    · subst h1
      rw [if_neg (by omega), if_pos rfl, if_pos (by omega)]
      simp
    · by_cases h2 : i + 1 ≤ j ∧ j < i + 1 + vs.length
      · rw [if_pos h2, if_pos (by omega)]
        obtain ⟨k, rfl⟩ : ∃ k, j = i + 1 + k := ⟨j - (i + 1), by omega⟩
        have e1 : i + 1 + k - (i + 1) = k := by omega
        have e2 : i + 1 + k - i = k + 1 := by omega
        rw [e1, e2]; simp
      · rw [if_neg h2, if_neg h1, if_neg (by omega)]

theorem bind_ok {ρ : Rn} {nt : Nat} {args args' : List Value} (h : LR ρ args args') (hl : args.length ≤ nt) : TmR ρ nt (bindArgs .nil 0 args) ((⟨args'⟩ : Array Value) ++ Array.replicate (nt - args'.length) undef) := by
  refine ⟨?_, fun t => ?_⟩
  · rw [Array.size_append, Array.size_replicate]
    show args'.length + _ = nt
    have := h.1
    omega
  · rw [bindArgs_get, Array.getD_eq_getD_getElem?, Array.getElem?_append]
    simp only [Nat.zero_le, Nat.zero_add, true_and, Nat.sub_zero]
    show VR ρ _ ((if t < args'.length then (⟨args'⟩ : Array Value)[t]? else _).getD undef)
    by_cases ht : t < args.length
    · rw [if_pos ht, if_pos (h.1 ▸ ht)]
      have := h.2 t
      rw [List.getD_eq_getElem?_getD, List.getD_eq_getElem?_getD] at this
      have e : (⟨args'⟩ : Array Value)[t]? = args'[t]? := by rw [← Array.getElem?_toList]
      rw [e]; exact this
    · rw [if_neg ht, if_neg (h.1 ▸ ht)]
      have e : (Tr.nil : Tr Value).get t = none := rfl
      rw [e, Array.getElem?_replicate]
      split <;> exact VR.undef ρ

theorem enter_ok {E : Env} {ρ : Rn} {f : Nat} {args args' : List Value} {df : Bool} {g : AFr} (h : enterFr E f args df = some g) (hl : LR ρ args args') (lo hi : Nat) :
    FrR E.P E.G lo hi ρ g (Frame.enter E.P f ⟨args'⟩ (if df then .deferred else .normal)) := by
  unfold enterFr at h
  split at h
  · rename_i fn hf
    split at h
    · rename_i c hc
      split at h
      · rename_i hle
        cases h
        have hf' : E.P.funcs[f]? = some fn := by rw [← Array.getElem?_toList]; exact hf
        refine .plain ⟨rfl, .nil, .run, rfl, trivial⟩ ?_ ?_
        · show TmR ρ fn.ntmps _ (Frame.enter E.P f ⟨args'⟩ _).tmps
          unfold Frame.enter
          simp only [hf', Option.map_some, Option.getD_some]
          exact bind_ok hl (Nat.le_of_ble_eq_true hle)
        · show L2 _ _ (Frame.enter E.P f ⟨args'⟩ _).todo
          unfold Frame.enter
          simp only [hf', Option.bind_some, hc, Option.getD_some]
          exact .cons (.code _) .nil
      · cases h
    · cases h
  · cases h

theorem defers_ok {P : Program} {G : Nat} {lo hi : Nat} {ρ : Rn} {fr : AFr} {fr' : Frame} (k : FrR P G lo hi ρ fr fr') {ds : List Deferred} {ds' : List Deferred} (h : L2 (DefR ρ) ds ds') :
    FrR P G lo hi ρ { fr with defers := ds } { fr' with defers := ds' } := by
  cases k with
  | plain c t k => exact .plain ⟨c.fn, h, c.mode, c.kind, c.round⟩ t k
  | draw c m e e' hk hs hops d => exact .draw ⟨c.fn, h, c.mode, c.kind, c.round⟩ m e e' hk hs hops d
  | draws c m e e' hk hs hops ho ha d => exact .draws ⟨c.fn, h, c.mode, c.kind, c.round⟩ m e e' hk hs hops ho ha d

theorem not_draw {P : Program} {G : Nat} {lo hi : Nat} {ρ : Rn} {fr : AFr} {fr' : Frame} (k : FrR P G lo hi ρ fr fr') (h : inDraw fr = false) : TmR ρ fr.nt fr.tm fr'.tmps ∧ L2 (ItR ρ) fr.todo fr'.todo := by
  cases k with
  | plain c t k => exact ⟨t, k⟩
  | draw c m e e' hk hs hops d => simp [inDraw, e] at h
  | draws c m e e' hk hs hops ho ha d => simp [inDraw, e] at h

theorem raise_ok {P : Program} {G : Nat} {lo hi : Nat} {ρ : Rn} {fr : AFr} {fr' : Frame} (k : FrR P G lo hi ρ fr fr') (hd : inDraw fr = false) {vs vs' : List PanicEntry} (h : L2 (EntryR ρ) vs vs') :
    FrR P G lo hi ρ (raiseFr fr vs) (fr'.raise vs') := by
  obtain ⟨t, it⟩ := not_draw k hd
  have c := k.c
  have hm := c.mode
  unfold raiseFr Frame.raise
  generalize h1 : fr.mode = m1 at hm
  generalize h2 : fr'.mode = m2 at hm
  cases hm with
  | run => exact .plain ⟨c.fn, c.defers, .panicking h, c.kind, c.round⟩ t it
  | returning => exact .plain ⟨c.fn, c.defers, .panicking h, c.kind, c.round⟩ t it
  | panicking hc => exact .plain ⟨c.fn, c.defers, .panicking (h.append hc), c.kind, c.round⟩ t it

theorem try_ok {P : Program} {G : Nat} {cs0 : List Frame} {lo hi : Nat} {ρ : Rn} {fr : AFr} {fr' : Frame} {cs : List AFr} {cs' : List Frame} (k : FrR P G lo hi ρ fr fr') (ks : StackR P G cs0 ρ lo cs cs') {r : Option (Value × List AFr)}
    (h : tryRec fr cs = some r) : (r = none ∧ tryRecover fr' cs' = none) ∨ ∃ v cs2 v' cs2', r = some (v, cs2) ∧ tryRecover fr' cs' = some (v', cs2') ∧ VR ρ v v' ∧ StackR P G cs0 ρ lo cs2 cs2' := by
  have c := k.c
  have hk := c.kind
  unfold tryRec at h
  split at h
  · rename_i c1 rest hdf
    rw [hdf] at hk
    simp only [if_true] at hk
    cases ks with
    | cons hlo hf ks =>
      rename_i lo2 c1' rest'
      have cc := hf.c
      have hm := cc.mode
      split at h
      · rename_i v older e
        cases h
        right
        rw [e] at hm
        generalize h2 : c1'.mode = m2 at hm
        cases hm with
        | panicking hc =>
          cases hc with
          | cons he ho =>
            rename_i e' older'
            have hrec : e'.recovered = false := he.done
            have hex : e'.goexit = false := he.ends
            refine ⟨_, _, e'.v, { c1' with mode := .panicking ({ e' with recovered := true } :: older') } :: rest', rfl, ?_, he.v, .cons hlo ?_ ks⟩
            · unfold tryRecover
              obtain ⟨v0, r0, g0⟩ := e'
              simp only at hrec hex
              subst hrec; subst hex
              simp only [hk, h2]
            · have hnew : L2 (EntryR ρ) ({ v := v, recovered := true } :: older) ({ e' with recovered := true } :: older') := .cons ⟨he.v, rfl, hex⟩ ho
              cases hf with
              | plain c t k => exact .plain ⟨c.fn, c.defers, .panicking hnew, c.kind, c.round⟩ t k
              | draw c m e1 e' hk hs hops d => rw [e] at m; cases m
              | draws c m e1 e' hk hs hops ho ha d => rw [e] at m; cases m
      · rename_i hno
        cases h
        left
        refine ⟨rfl, ?_⟩
        unfold tryRecover
        simp only [hk]
        generalize h1 : c1.mode = m1 at hm hno
        generalize h2 : c1'.mode = m2 at hm
        cases hm with
        | run => rfl
        | returning => rfl
        | panicking hc =>
          cases hc with
          | nil => rfl
          | cons he ho =>
            rename_i e e' l1 l2
            obtain ⟨v0, r0, g0⟩ := e
            obtain ⟨v1, r1, g1⟩ := e'
            have a1 : r1 = r0 := he.done
            have a2 : g1 = g0 := he.ends
            subst a1; subst a2
            cases r1 with
            | true => rfl
            | false =>
              cases g1 with
              | true => rfl
              | false => exact (hno _ _ rfl).elim
  · cases h
  · rename_i hdf
    cases h
    rw [hdf] at hk
    simp only [Bool.false_eq_true, if_false] at hk
    left
    refine ⟨rfl, ?_⟩
    unfold tryRecover
    rw [hk]

end Go.AM
