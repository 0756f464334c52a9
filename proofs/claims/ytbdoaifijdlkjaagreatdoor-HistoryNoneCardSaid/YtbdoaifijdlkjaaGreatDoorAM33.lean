/-
  AM33: a run in parts: what one part ends in, written out, begins the next; what the next does not want is forgotten.
-/
import Derived.Test.YtbdoaifijdlkjaaGreatDoorAM32
namespace Go.AM
open Go

/-! ### where a machine stands, written out -/
/-- A piece of code, by the way to it. -/
def codeSub : List Nat → Code → Code
  | [], c => c
  | i :: p, c => match c with
    | .seq a b => codeSub p (bif Nat.beq i 0 then a else b)
    | .cond _ a b => codeSub p (bif Nat.beq i 0 then a else b)
    | .rangeFunc _ _ a b => codeSub p (bif Nat.beq i 0 then a else b)
    | .block _ b => codeSub p b
    | .loop b => codeSub p b
    | .scope b => codeSub p b
    | c => c

def pieceOf (P : Program) (f : Nat) (p : List Nat) : Code :=
  match P.funcs.toList[f]? with
  | some fn => match fn.body with
    | some c => codeSub p c
    | none => .skip
  | none => .skip

def opsOf (P : Program) (f : Nat) (p : List Nat) : List Oper :=
  match pieceOf P f p with
  | .region _ ops _ => ops.toList
  | _ => []

def planOf (E : Env) (f : Nat) (p : List Nat) : List Stage := (mkPlan E.P E.G (opsOf E.P f p)).getD []

def dropN {α : Type} : Nat → List α → List α
  | 0, l => l
  | _ + 1, [] => []
  | n + 1, _ :: l => dropN n l

def iCode (E : Env) (f : Nat) (p : List Nat) : AItem := .code (pieceOf E.P f p)
def iLoop (E : Env) (f : Nat) (p : List Nat) : AItem := .inLoop (pieceOf E.P f p)
def iScope (E : Env) (f : Nat) (p : List Nat) : AItem := .inScope (pieceOf E.P f p)
def iOps (E : Env) (f : Nat) (p : List Nat) (k : Nat) : AItem := .ops (opsOf E.P f p) (dropN k (opsOf E.P f p))
def iDr (E : Env) (f : Nat) (p : List Nat) (k : Nat) : AItem := .dr (opsOf E.P f p) (dropN k (planOf E f p))
def iDrs (E : Env) (f : Nat) (p : List Nat) (i k : Nat) : AItem :=
  match dropN i (opsOf E.P f p) with
  | o :: _ => .drs (opsOf E.P f p) o (dropN k (planOf E f p))
  | [] => .beginRound

/-- A text, by its bytes. -/
def bytesOf (l : List Nat) : ByteArray := ⟨⟨l.map UInt8.ofNat⟩⟩

/-! ### steps -/
def stepsAll (g : ACf → Option (List ACf)) : List ACf → Option (List ACf)
  | [] => some []
  | c :: cs => match g c with
    | some l => match stepsAll g cs with
      | some m => some (l ++ m)
      | none => none
    | none => none

/-- All ways of n steps, none of which ends. -/
def stepsA (E : Env) : Nat → ACf → Option (List ACf)
  | 0, c => some [c]
  | n + 1, c => match astep E c with
    | .next c => stepsA E n c
    | .fork l => stepsAll (stepsA E n) l
    | _ => none

theorem stepsAll_mem {g : ACf → Option (List ACf)} : ∀ {l m : List ACf} {c : ACf}, stepsAll g l = some m → c ∈ l → ∃ k, g c = some k ∧ ∀ x ∈ k, x ∈ m
  | c :: cs, m, d, h, hd => by
    unfold stepsAll at h
    cases hg : g c with
    | none => rw [hg] at h; cases h
    | some k =>
      rw [hg] at h
      cases hr : stepsAll g cs with
      | none => rw [hr] at h; cases h
      | some r =>
        rw [hr] at h
        cases h
        rcases List.mem_cons.1 hd with rfl | hd
        · exact ⟨k, hg, fun x hx => List.mem_append_left _ hx⟩
        · obtain ⟨k', h1, h2⟩ := stepsAll_mem hr hd
          exact ⟨k', h1, fun x hx => List.mem_append_right _ (h2 x hx)⟩

/-! ### what it means that all ways end well -/
def EndsWell (E : Env) (f : Nat) (ok : Value → Bool) (c : ACf) : Prop :=
  ∀ (cs0 : List Frame) (ρ0 : Rn) (H0 : Hp) (w0 : World), (∀ (w' : World) (ρ' : Rn) (H' : Hp), Grw 0 ρ0 H0 w0 ρ' H' w' → OrcOk E w') → ∀ (ρ : Rn) (w : World) (fr' : Frame) (cs' : List Frame),
    GlobR E.G ρ → Grw 0 ρ0 H0 w0 ρ c.H w → CfR E cs0 c ρ w fr' cs' →
    ∃ ρ' H' w' fr2 v v', Steps E.P (lone fr' cs' w) (lone fr2 cs0 w') ∧ HR ρ' H' w'.heap ∧ Grw 0 ρ0 H0 w0 ρ' H' w' ∧ fr2.fn = f ∧ fr2.leaving E.P w' (.returned v') ∧ VR ρ' v v' ∧ ok v = true

theorem ends_of_runs {E : Env} (hE : EnvOk E) {f : Nat} {ok : Value → Bool} {n : Nat} {c : ACf} (h : runs E f ok n c = true) : EndsWell E f ok c :=
  fun _ _ _ _ hO ρ w fr' cs' hg g k => runs_ok hE hO n c ρ w fr' cs' h hg g k

theorem ends_of_steps {E : Env} (hE : EnvOk E) {f : Nat} {ok : Value → Bool} : ∀ {n : Nat} {c : ACf} {l : List ACf}, stepsA E n c = some l → (∀ x ∈ l, EndsWell E f ok x) → EndsWell E f ok c
  | 0, c, l, h, hl => by
    simp only [stepsA] at h
    cases h
    exact hl c List.mem_cons_self
  | n + 1, c, l, h, hl => by
    intro cs0 ρ0 H0 w0 hO ρ w fr' cs' hg g k
    have hs := step_ok hE (fun w' ρ' H' g' => hO w' ρ' H' (g.trans g')) hg k
    have next : ∀ c1, Goes E cs0 ρ c.H w (lone fr' cs' w) c1 → EndsWell E f ok c1 →
        ∃ ρ' H' w' fr2 v v', Steps E.P (lone fr' cs' w) (lone fr2 cs0 w') ∧ HR ρ' H' w'.heap ∧ Grw 0 ρ0 H0 w0 ρ' H' w' ∧ fr2.fn = f ∧ fr2.leaving E.P w' (.returned v') ∧ VR ρ' v v' ∧ ok v = true := by
      rintro c1 ⟨ρ1, w1, fr1, cs1, a1, a2, a3⟩ hr1
      obtain ⟨ρ', H', w', fr2, v, v', b1, b2⟩ := hr1 cs0 ρ0 H0 w0 hO ρ1 w1 fr1 cs1 (hg.mono a3.le) (g.trans a3) a2
      exact ⟨ρ', H', w', fr2, v, v', a1.trans b1, b2⟩
    unfold stepsA at h
    generalize astep E c = o at hs h
    cases o with
    | fail _ _ => cases h
    | next c1 => exact next c1 hs (ends_of_steps hE h hl)
    | fork m =>
      obtain ⟨c1, hc1, hgo⟩ := hs
      obtain ⟨k1, h1, h2⟩ := stepsAll_mem h hc1
      exact next c1 hgo (ends_of_steps hE h1 fun x hx => hl x (h2 x hx))
    | done f' v H' => cases h

/-! ### forgetting -/
def putAll : List Nat → List (Option AObj) → Tr AObj
  | b :: bs, o :: os => (putAll bs os).put b o
  | _, _ => .nil

def mkHp (nxt : Nat) (bs : List Nat) (os : List (Option AObj)) : Hp := ⟨putAll bs os, nxt⟩

theorem putAll_get {H : Hp} : ∀ {bs : List Nat} {b : Nat} {o : AObj}, (putAll bs (bs.map H.get)).get b = some o → H.get b = some o
  | [], b, o, h => by simp [putAll, Tr.get] at h
  | c :: bs, b, o, h => by
    simp only [putAll, List.map_cons, Tr.get_put] at h
    split at h
    · rename_i e; subst e; exact h
    · exact putAll_get h

theorem ends_weak {E : Env} {f : Nat} {ok : Value → Bool} {fr : AFr} {cs : List AFr} {H H1 : Hp} (hn : H1.nxt = H.nxt) (hs : ∀ b o, H1.get b = some o → H.get b = some o) (h : EndsWell E f ok ⟨fr, cs, H1⟩) : EndsWell E f ok ⟨fr, cs, H⟩ := by
  intro cs0 ρ0 H0 w0 hO ρ w fr' cs' hg g k
  have hne : ∀ b, H1.get b ≠ none → H.get b ≠ none := by
    intro b hb
    cases h1 : H1.get b with
    | none => exact absurd h1 hb
    | some o => rw [hs b o h1]; simp
  have hr := k.hr
  obtain ⟨lo, hlo, hf, hst⟩ := k.frs
  refine h cs0 ρ0 H0 w0 hO ρ w fr' cs' hg ⟨g.le, fun cb hcb hh => ?_, g.size, g.low, by rw [hn]; exact g.nxt, g.os, g.tape, g.output⟩ ⟨⟨?_, ?_, ?_⟩, ⟨lo, by rw [hn]; exact hlo, by rw [hn]; exact hf, hst⟩⟩
  · obtain ⟨e, e2⟩ := g.keep cb hcb hh
    exact ⟨e, fun b i hb hi => e2 b i (hne b hb) hi⟩
  · intro b o i h1 h2
    exact hr.obj b o i (hs b o h1) h2
  · intro b b' i i' h1 h2 h3 h4
    exact hr.inj b b' i i' (hne b h1) (hne b' h2) h3 h4
  · intro b hb
    obtain ⟨e1, e2⟩ := hr.fresh b (by rw [← hn]; exact hb)
    refine ⟨e1, ?_⟩
    cases h1 : H1.get b with
    | none => rfl
    | some o => have := hs b o h1; rw [e2] at this; cases this

/-- Where a machine stands, of the blocks that are wanted. -/
abbrev Stand := Nat × AFr × List AFr × List (Option AObj)

def seen (bs : List Nat) (c : ACf) : Stand := (c.H.nxt, c.fr, c.cs, bs.map c.H.get)

def sees : List (List Nat) → List ACf → Option (List Stand)
  | [], [] => some []
  | b :: bs, c :: cs => match sees bs cs with
    | some l => some (seen b c :: l)
    | none => none
  | _, _ => none

/-- The machine that stands so. -/
def stood (bs : List Nat) (s : Stand) : ACf := ⟨s.2.1, s.2.2.1, mkHp s.1 bs s.2.2.2⟩

def endsAll (E : Env) (f : Nat) (ok : Value → Bool) : List (List Nat) → List Stand → Prop
  | b :: bs, s :: ss => EndsWell E f ok (stood b s) ∧ endsAll E f ok bs ss
  | _, _ => True

theorem ends_sees {E : Env} {f : Nat} {ok : Value → Bool} : ∀ {bss : List (List Nat)} {l : List ACf} {ss : List Stand}, sees bss l = some ss → endsAll E f ok bss ss → ∀ x ∈ l, EndsWell E f ok x
  | [], [], _, _, _, x, hx => by cases hx
  | b :: bs, c :: cs, ss, h, hl, x, hx => by
    unfold sees at h
    cases hr : sees bs cs with
    | none => rw [hr] at h; cases h
    | some r =>
      rw [hr] at h
      cases h
      obtain ⟨h1, h2⟩ := hl
      rcases List.mem_cons.1 hx with rfl | hx
      · exact ends_weak (H1 := mkHp x.H.nxt b (b.map x.H.get)) rfl (fun b' o h => putAll_get h) h1
      · exact ends_sees hr h2 x hx
  | [], _ :: _, _, h, _, _, _ => by cases h
  | _ :: _, [], _, h, _, _, _ => by cases h

/-- A PART: n steps lead to where it is written that they lead; from there all ways end well. -/
theorem ends_part {E : Env} (hE : EnvOk E) {f : Nat} {ok : Value → Bool} {n : Nat} {c : ACf} {bss : List (List Nat)} {ss : List Stand} (h : (stepsA E n c).bind (sees bss) = some ss) (hl : endsAll E f ok bss ss) : EndsWell E f ok c := by
  cases hs : stepsA E n c with
  | none => rw [hs] at h; cases h
  | some l =>
    rw [hs] at h
    exact ends_of_steps hE hs (ends_sees h hl)

/-- A call whose ways all end well, from nothing known. -/
theorem calls_of_ends {E : Env} {bs : List Nat} {w0 : World} (hO : ∀ w', Kept w0 w' → OrcOk E w') {f : Nat} {args args' : List Value} {fr : AFr} (hl : LR (rho0 E.G bs) args args') (hf : enterFr E f args false = some fr)
    (h : EndsWell E f isTrue ⟨fr, [], ⟨.nil, E.G + bs.length⟩⟩) : Calls E.P f ⟨args'⟩ w0 fun e w' => e = .returned (.bool true) ∧ Kept w0 w' := by
  intro cs
  have hfr := enter_ok hf hl (E.G + bs.length) (E.G + bs.length)
  simp only [Bool.false_eq_true, if_false] at hfr
  obtain ⟨ρ', H', w', fr2, v, v', h1, h2, h3, h4, h5, h6, h7⟩ := h cs (rho0 E.G bs) ⟨.nil, E.G + bs.length⟩ w0 (fun w' ρ' H' g => hO w' (.of_empty g)) (rho0 E.G bs) w0 (Frame.enter E.P f ⟨args'⟩ .normal) cs (rho0_glob _ _) (.refl _ _ _ _)
    ⟨hr_empty _ _ _, E.G + bs.length, Nat.le_refl _, hfr, .nil _⟩
  exact ⟨.returned v', w', fr2, ⟨by rw [isTrue_eq h7 h6], .of_empty h3⟩, h1, h4, h5⟩

end Go.AM
