/-
  AM23: code, outside the regions that draw.
-/
import Derived.Test.YtbdoaifijdlkjaaGreatDoorAM22
namespace Go.AM
open Go

theorem stepG_run {P : Program} {fr : Frame} {cs : List Frame} {w : World} (h : fr.mode = .run) :
    stepG P true { frame := fr, callers := cs, status := .running, dying := none } w = stepG.exec P true true fr cs none w := by
  obtain ⟨fn, tmps, todo, defers, mode, kind, round⟩ := fr
  cases h
  rfl

def leaveC (P : Program) (fr : Frame) (cs : List Frame) (w : World) (jump : Option Code) : GStep :=
  match fr.roundOf with
  | none => if jump matches none | some .ret then .go { frame := { fr with mode := .returning }, callers := cs, status := .running, dying := none } w else .ended (.stuck "exit, goto: no such block or label" (fr.pos P)) w
  | some l =>
    let (r, es) := (Instr.endRound l jump).runT P w #[]
    GStep.after (seen P fr.fn es) <| match r with
    | .ok v w => Go.doReturn P true fr cs none v w
    | .halt _ w => .ended (.stuck "range over a function: no such loop" (fr.pos P)) w

section
variable {E : Env} {cs0 : List Frame} {ρ : Rn} {H : Hp} {w : World}

theorem leaveA_ok {fr : AFr} {fr' : Frame} {cs : List AFr} {cs' : List Frame} {lo : Nat} (hr : HR ρ H w.heap) (hlo : lo ≤ H.nxt) (hf : FrR E.P E.G lo H.nxt ρ fr fr') (hnd : inDraw fr = false) (hs : StackR E.P E.G cs0 ρ lo cs cs') {jump : Option Code}
    (hM : ∀ fr2 cs2 w2, (leaveC E.P fr' cs' w jump).bare = .go { frame := fr2, callers := cs2, status := .running, dying := none } w2 → step E.P (lone fr' cs' w) = .next (lone fr2 cs2 w2)) :
    Went E cs0 ρ H w (lone fr' cs' w) (leaveA fr cs H jump) := by
  have hrd := hf.c.round
  unfold leaveA
  cases hro : fr.round with
  | none =>
    rw [hro] at hrd
    have hro' : fr'.roundOf = none := by
      cases h : fr'.roundOf with
      | none => rfl
      | some l => rw [h] at hrd; exact hrd.elim
    have e2 : ({ fn := fr.fn, nt := fr.nt, tm := fr.tm, todo := fr.todo, defers := fr.defers, mode := .returning, df := fr.df, round := none } : AFr) = { fr with mode := .returning } := by rw [← hro]
    have key : (jump = none ∨ jump = some .ret) → Went E cs0 ρ H w (lone fr' cs' w) (.next ⟨{ fr with mode := .returning }, cs, H⟩) := by
      intro hj
      have hb : (leaveC E.P fr' cs' w jump).bare = .go { frame := { fr' with mode := .returning }, callers := cs', status := .running, dying := none } w := by
        unfold leaveC
        rcases hj with rfl | rfl <;> simp [hro']
      exact Goes.one (hM _ _ _ hb) ⟨hr, lo, hlo, mode_ok hf (.inr hnd) .returning, hs⟩ (.refl _ _ _ _)
    simp only
    split
    · rw [e2]; exact key (.inl rfl)
    · rw [e2]; exact key (.inr rfl)
    · trivial
  | some l =>
    rw [hro] at hrd
    simp only
    cases her : AM.endRound H l jump with
    | none => trivial
    | some q =>
      obtain ⟨v, H1⟩ := q
      simp only
      cases cs with
      | nil => trivial
      | cons c rest =>
        simp only
        obtain ⟨l', hro', hl'⟩ : ∃ l', fr'.roundOf = some l' ∧ ∃ i, ρ l = some i ∧ i.sh = 0 ∧ l' = i.blk := by
          cases h : fr'.roundOf with
          | none => rw [h] at hrd; exact hrd.elim
          | some l' => rw [h] at hrd; exact ⟨l', rfl, hrd⟩
        obtain ⟨i, hb, hsh, rfl⟩ := hl'
        obtain ⟨w1, h1, h2, h3, h4⟩ := endRound_ok (P := E.P) hr hb her
        have hnx : H1.nxt = H.nxt := by
          unfold AM.endRound at her
          split at her
          · cases her; rfl
          · cases her
        refine doReturn_ok (w := w1) h2 (by rw [hnx]; exact hlo) hf.c.kind hs (.flat h4) ?_ h3
        intro fr2 cs2 w2 hb2
        refine hM _ _ _ ?_
        unfold leaveC
        simp only [hro', Sem.runT_eq, h1, GStep.bare_after]
        exact hb2

theorem exit_ok {id : Nat} {k : List AItem} {k' : List Item} (h : L2 (ItR ρ) k k') : (∀ q, AM.exitTo id k = some q → ∃ q', Go.exitTo id k' = some q' ∧ L2 (ItR ρ) q q') ∧ (AM.exitTo id k = none → Go.exitTo id k' = none) := by
  induction h with
  | nil => exact ⟨fun q h => (by cases h), fun _ => rfl⟩
  | cons hx hr ih =>
    cases hx with
    | inBlock id' =>
      have e : (id' == id) = Nat.beq id' id := by rw [Bool.eq_iff_iff, Nat.beq_eq, beq_iff_eq]
      unfold AM.exitTo Go.exitTo
      rw [e]
      cases Nat.beq id' id with
      | true => exact ⟨fun q h => (by simp only [if_true] at h ⊢; cases h; exact ⟨_, rfl, hr⟩), fun h => (by cases h)⟩
      | false => simpa using ih
    | _ => exact ih

theorem goto_ok {l : Nat} {k : List AItem} {k' : List Item} (h : L2 (ItR ρ) k k') : (∀ q, AM.gotoIn l k = some q → ∃ q', Go.gotoIn l k' = some q' ∧ L2 (ItR ρ) q q') ∧ (AM.gotoIn l k = none → Go.gotoIn l k' = none) := by
  induction h with
  | nil => exact ⟨fun q h => (by cases h), fun _ => rfl⟩
  | cons hx hr ih =>
    cases hx with
    | inScope body =>
      unfold AM.gotoIn Go.gotoIn
      cases findLabel body l with
      | none => exact ih
      | some rest => exact ⟨fun q h => (by cases h; exact ⟨_, rfl, .cons (.code _) (.cons (.inScope _) hr)⟩), fun h => (by cases h)⟩
    | _ => exact ih

/-- The globals' blocks stand for themselves. -/
def GlobR (G : Nat) (ρ : Rn) : Prop := ∀ g, g < G → ∃ i, ρ g = some i ∧ i.blk = g ∧ i.sh = 0

theorem GlobR.mono {G : Nat} {ρ ρ' : Rn} (h : ρ.le ρ') (k : GlobR G ρ) : GlobR G ρ' := fun g hg => by
  obtain ⟨i, h1, h2⟩ := k g hg
  exact ⟨i, h _ _ h1, h2⟩

theorem operand_ok {G : Nat} (hg : GlobR G ρ) {fr : AFr} {fr' : Frame} {x : Operand} (hx : operandOk G x = true) (ht : ∀ t, x = .tmp t → VR ρ ((fr.tm.get t).getD undefV) (fr'.tmps.getD t undef)) : VR ρ (fr.ev x) (fr'.eval x) := by
  cases x with
  | tmp t => exact ht t rfl
  | global g =>
    obtain ⟨i, h1, h2, h3⟩ := hg g (blt_lt hx)
    have := VR.ptr (ρ := ρ) (a := ⟨g, 0, none⟩) rfl h1
    rw [h2, h3] at this
    exact this
  | func f => exact .mk_func (.func f) (.nil ρ) (.nil ρ)
  | const v =>
    simp only [operandOk, Bool.or_eq_true] at hx
    show VR ρ v v
    rcases hx with hx | hx
    · exact .flat hx
    · split at hx
      · exact .iface (.flat hx)
      · rename_i cs
        exact .mk_agg (x := cs.toList) (x' := cs.toList) (.refl_flat fun v hv => List.all_eq_true.1 hx v hv)
      · cases hx

theorem ev_ok {G : Nat} (hg : GlobR G ρ) {fr : AFr} {fr' : Frame} {o : Oper} (ho : opOk G o = true) (ht : ∀ t, t ∈ tmpsOf o → VR ρ ((fr.tm.get t).getD undefV) (fr'.tmps.getD t undef)) : EvR ρ o fr.ev fr'.eval := by
  intro x hx
  have h1 := List.all_eq_true.1 ho x hx
  refine operand_ok hg h1 fun t e => ht t ?_
  subst e
  unfold tmpsOf
  exact List.mem_filterMap.2 ⟨_, hx, rfl⟩

theorem yield_ok {all : List Oper} {fr : AFr} {tmps : Array Value} {j : Nat} (ht : ∀ o d, all[j]? = some o → o.dst = some d → VR ρ ((fr.tm.get d).getD undefV) (tmps.getD d undef)) :
    yielded ⟨all⟩ tmps j = yieldedOp all fr j := by
  unfold yielded yieldedOp
  have e0 : (⟨all⟩ : Array Oper)[j]? = all[j]? := by rw [← Array.getElem?_toList]
  rw [e0]
  cases ho : all[j]? with
  | none => rfl
  | some o =>
    simp only [Option.bind_some]
    cases hd : o.dst with
    | none => rfl
    | some d =>
      simp only [Option.bind_some]
      have hv := ht o d ho hd
      rw [Array.getD_eq_getD_getElem?] at hv
      generalize fr.tm.get d = a at hv
      generalize tmps[d]? = b at hv
      cases a with
      | none =>
        have := hv.flat_inv rfl
        cases b with
        | none => rfl
        | some b => simp only [Option.getD_none, Option.getD_some] at this; subst this; rfl
      | some a =>
        cases b with
        | none =>
          simp only [Option.getD_none, Option.getD_some] at hv
          cases a <;> first | rfl | (have := hv.flat_inv rfl; cases this)
        | some b =>
          simp only [Option.getD_some] at hv
          cases a <;> first | (have := hv.flat_inv rfl; subst this; rfl) | (cases hv <;> first | rfl | (rename_i hk; cases b <;> first | rfl | exact (hk.bool _ rfl).elim))

theorem wanted_ok {all : List Oper} {fr : AFr} {tmps : Array Value} {o : Oper} (ht : ∀ g b, o.guard = some (g, b) → ∀ q d, all[g]? = some q → q.dst = some d → VR ρ ((fr.tm.get d).getD undefV) (tmps.getD d undef)) :
    Region.wanted o (yielded ⟨all⟩ tmps) = wantedOp all fr o := by
  unfold Region.wanted wantedOp
  cases hg : o.guard with
  | none => rfl
  | some q =>
    obtain ⟨g, b⟩ := q
    simp only
    rw [yield_ok (fr := fr) (ht g b hg)]
    cases yieldedOp all fr g with
    | none => rfl
    | some c => cases c <;> cases b <;> rfl

end
end Go.AM
