/-
  AM20: 'applyR' against the model's 'apply'.
-/
import Derived.Test.YtbdoaifijdlkjaaGreatDoorAM19
namespace Go.AM
open Go

theorem Grw.low' {m : Nat} {ρ ρ' : Rn} {H H' : Hp} {w w' : World} (g : Grw m ρ H w ρ' H' w') {lo : Nat} (h : lo ≤ m) : ∀ b, b < lo → ρ b = none → ρ' b = none :=
  fun b hb => g.low b (Nat.lt_of_lt_of_le hb h)

theorem finish_some (fr : AFr) (a b : Value) : (finish fr a).isSome = (finish fr b).isSome := by
  unfold finish
  split <;> rfl

theorem applyR_ok {E : Env} {cs0 : List Frame} {ρ : Rn} {H H0 : Hp} {w : World} {fr : AFr} {fr' : Frame} {cs : List AFr} {cs' : List Frame} {lo : Nat} (_hE : EnvOk E) (hO : OrcOk E w)
    (hr : HR ρ H w.heap) (hlo : lo ≤ H.nxt) (hf : FrR E.P E.G lo H.nxt ρ fr fr') (hs : StackR E.P E.G cs0 ρ lo cs cs') {r : ARes} {s : Sem Next} (hx : r ≠ .fail → ExecR E.orc H.nxt ρ H w r (s.run E.P w)) {M : Machine}
    (hM : ∀ fr2 cs2 w2, (stepG.apply E.P true fr' cs' none s w).bare = .go { frame := fr2, callers := cs2, status := .running, dying := none } w2 → step E.P M = .next (lone fr2 cs2 w2))
    (_hmode : fr.mode = .run) : Went E cs0 ρ H w M (applyR E fr cs r H0) := by
  -- a value comes
  have fin : ∀ {fr : AFr} {fr' : Frame} {g : AFr} {cs : List AFr} {cs' : List Frame} {v v' : Value} {ρ1 : Rn} {H1 : Hp} {w1 : World}, FrR E.P E.G lo H.nxt ρ fr fr' → StackR E.P E.G cs0 ρ lo cs cs' → HR ρ1 H1 w1.heap → Grw H.nxt ρ H w ρ1 H1 w1 → VR ρ1 v v' → finish fr v = some g →
      CfR E cs0 ⟨g, cs, H1⟩ ρ1 w1 (fr'.finish v') cs' := by
    intro fr fr' g cs cs' v v' ρ1 H1 w1 hf hs h1 g1 hv hg
    refine ⟨h1, lo, Nat.le_trans hlo g1.nxt, ?_, hs.mono g1.le (g1.low' hlo)⟩
    exact finish_ok (hf.mono g1.le g1.low g1.nxt) hv hg
  have grw0 : ∀ {ρ1 : Rn} {H1 : Hp} {w1 : World}, Grw H.nxt ρ H w ρ1 H1 w1 → Grw 0 ρ H w ρ1 H1 w1 := fun g => g.mono (Nat.zero_le _)
  have grefl : Grw H.nxt ρ H w ρ H w := .refl _ _ _ _
  have finW : ∀ {fr : AFr} {fr' : Frame} {cs : List AFr} {cs' : List Frame} {v v' : Value} {ρ1 : Rn} {H1 : Hp} {w1 : World}, FrR E.P E.G lo H.nxt ρ fr fr' → StackR E.P E.G cs0 ρ lo cs cs' → HR ρ1 H1 w1.heap → Grw H.nxt ρ H w ρ1 H1 w1 → VR ρ1 v v' →
      step E.P M = .next (lone (fr'.finish v') cs' w1) → Went E cs0 ρ H w M (match finish fr v with | some fr => .next ⟨fr, cs, H1⟩ | none => .fail "finish" ⟨fr, cs, H1⟩) := by
    intro fr fr' cs cs' v v' ρ1 H1 w1 hf hs h1 g1 hv hst
    cases hg : finish fr v with
    | none => trivial
    | some g => exact Goes.one hst (fin hf hs h1 g1 hv hg) (grw0 g1)
  by_cases hfail : r = .fail
  · subst hfail; trivial
  have hx := hx hfail
  generalize hres : s.run E.P w = res at hx
  have round_none : fr.round = none → fr'.roundOf = none := by
    intro e
    have hrd := hf.c.round
    rw [e] at hrd
    cases hro : fr'.roundOf with
    | none => rfl
    | some l => rw [hro] at hrd; exact hrd.elim
  cases hx with
  | val h1 g1 hv => exact finW hf hs h1 g1 hv (hM _ _ _ (apply_value hres))
  | skip h1 g1 => exact finW (v := undefV) (v' := undef) hf hs h1 g1 (VR.undef _) (hM _ _ _ (apply_skip hres))
  | enter ha =>
    rename_i f args args'
    simp only [applyR]
    cases hg : enterFr E f args false with
    | none => trivial
    | some g =>
      refine Goes.one (hM _ _ _ (apply_enter hf.notCall hres)) ⟨hr, H.nxt, Nat.le_refl _, ?_, .cons hlo hf hs⟩ (grw0 grefl)
      have := enter_ok hg ha H.nxt H.nxt
      simpa using this
  | orc ha ho hg =>
    rename_i f args args' v g
    obtain ⟨v', hv, hcalls⟩ := hO _ _ ho _ _ hg ρ H _ hr ha
    simp only [applyR]
    cases hfi : finish fr v with
    | none => trivial
    | some g2 =>
      obtain ⟨e, w2, fr2, ⟨rfl, hkept⟩, hcomes, hfn, hleave⟩ := hcalls (fr' :: cs')
      have s1 : Steps E.P M (lone (Frame.enter E.P f ⟨args'⟩ .normal) (fr' :: cs') w) := .one (hM _ _ _ (apply_enter hf.notCall hres))
      have s2 : Steps E.P M (lone (fr'.finish v') cs' w2) := (s1.trans hcomes).trans (.one (step_leave_returned hleave))
      exact ⟨ρ, w2, _, _, s2, fin hf hs (hkept.hr hr) (hkept.grw _ _ _) hv hfi, hkept.grw _ _ _⟩
  | round hg hb hl ht =>
    rename_i l args st pend fn nt tm ps as body d i tmps'
    simp only [applyR]
    rw [hg]
    simp only
    rw [if_pos (by rw [hl]; simp)]
    refine Goes.one (hM _ _ _ (apply_round hres)) ⟨hr, H.nxt, Nat.le_refl _, ?_, .cons hlo hf hs⟩ (grw0 grefl)
    have hs0 : i.sh = 0 := by
      obtain ⟨o', _, hor⟩ := hr.obj _ _ _ hg hb
      cases hor; assumption
    exact .plain ⟨rfl, .nil, .run, rfl, ⟨i, hb, hs0, rfl⟩⟩ ht (.cons (.code _) (.cons .beginRound (.cons (.code _) .nil)))
  | defer hd =>
    rename_i d d'
    simp only [applyR]
    cases hro : fr.round with
    | some _ => trivial
    | none =>
      simp only
      have e2 : ({ fn := fr.fn, nt := fr.nt, tm := fr.tm, todo := fr.todo, defers := d :: fr.defers, mode := fr.mode, df := fr.df, round := none } : AFr) = { fr with defers := d :: fr.defers } := by rw [← hro]
      have hf2 := defers_ok hf (.cons hd hf.c.defers)
      rw [← e2] at hf2
      exact finW (v := undefV) (v' := undef) hf2 hs hr grefl (VR.undef _) (hM _ _ _ (apply_defer hres))
  | recover =>
    simp only [applyR]
    cases hro : fr.round with
    | some _ => trivial
    | none =>
      simp only
      cases htr : tryRec fr cs with
      | none => trivial
      | some q =>
        rcases try_ok hf hs htr with ⟨rfl, hn⟩ | ⟨v, cs2, v', cs2', rfl, hn, hv, hs2⟩
        · exact finW (v := .nilIface) (v' := .nilIface) hf hs hr grefl (.flat rfl) (hM _ _ _ (apply_recover_none (round_none hro) hn hres))
        · exact finW hf hs2 hr grefl hv (hM _ _ _ (apply_recover_some (round_none hro) hn hres))
  | panic hv =>
    rename_i v v'
    simp only [applyR]
    cases hd : inDraw fr with
    | true => trivial
    | false =>
      simp only [Bool.false_eq_true, if_false]
      refine Goes.one (hM _ _ _ (apply_panic hres)) ⟨hr, lo, hlo, raise_ok hf hd (.cons ⟨hv, rfl, rfl⟩ .nil), hs⟩ (grw0 grefl)
  | fork hm h1 g1 hv =>
    rename_i v v' H1 w1 ρ1 rs
    simp only [applyR]
    split
    rotate_left
    · trivial
    rename_i hsome
    cases hfi : finish fr v with
    | none => rw [finish_some fr undefV v, hfi] at hsome; cases hsome
    | some g =>
      exact ⟨⟨g, cs, H1⟩, List.mem_filterMap.2 ⟨(v, H1), hm, by simp [hfi]⟩, Goes.one (hM _ _ _ (apply_value hres)) (fin hf hs h1 g1 hv hfi) (grw0 g1)⟩

end Go.AM
