/-
  AM26: a region that draws: what is reckoned ahead, and what the model does of it.
-/
import Derived.Test.YtbdoaifijdlkjaaGreatDoorAM25
namespace Go.AM
open Go

/-! ### the model's steps in a region -/
section
variable {P : Program} {fr' : Frame} {cs' : List Frame} {w : World} {all : List Oper} {j : Nat} {l' : List Nat} {k' : List Item} {o : Oper}

theorem finish_region (ht : fr'.todo = .inRegion ⟨all⟩ (j :: l') :: k') (ho : all[j]? = some o) (v : Value) : fr'.finish v = { fr' with tmps := putC o.dst v fr'.tmps, todo := .inRegion ⟨all⟩ l' :: k' } := by
  unfold Frame.finish
  have e0 : (⟨all⟩ : Array Oper)[j]? = some o := by rw [← Array.getElem?_toList]; exact ho
  rw [ht]
  simp only [e0, Option.bind_some, putC]
  cases o.dst <;> rfl

theorem exec_region (ht : fr'.todo = .inRegion ⟨all⟩ (j :: l') :: k') (ho : all[j]? = some o) :
    stepG.exec P true true fr' cs' none w = if Region.wanted o (yielded ⟨all⟩ fr'.tmps) then stepG.oper P true fr' cs' none w else .go { frame := fr'.finish undef, callers := cs', status := .running, dying := none } w := by
  have e0 : (⟨all⟩ : Array Oper)[j]? = some o := by rw [← Array.getElem?_toList]; exact ho
  unfold stepG.exec
  simp only [ht, e0, Option.map_some, Option.getD_some]

theorem oper_region (ht : fr'.todo = .inRegion ⟨all⟩ (j :: l') :: k') (ho : all[j]? = some o) (hd : fr'.roundOf = none ∨ ∀ c, o.op ≠ .defer c) :
    stepG.oper P true fr' cs' none w = stepG.apply P true fr' cs' none (Go.execOp fr'.eval o) w := by
  have e0 : (⟨all⟩ : Array Oper)[j]? = some o := by rw [← Array.getElem?_toList]; exact ho
  have e1 : fr'.oper? = some o := by unfold Frame.oper?; rw [ht]; exact e0
  unfold stepG.oper
  rw [e1]
  simp only
  rcases hd with hd | hd
  · rw [hd]
  · split
    · rename_i e; exact absurd e (hd _)
    · rfl

theorem step_skip_region (hm : fr'.mode = .run) (ht : fr'.todo = .inRegion ⟨all⟩ (j :: l') :: k') (ho : all[j]? = some o) (hw : Region.wanted o (yielded ⟨all⟩ fr'.tmps) = false) :
    step P (lone fr' cs' w) = .next (lone (fr'.finish undef) cs' w) := by
  refine step_lone_go ?_
  rw [stepG_run hm, exec_region ht ho, hw]
  rfl

theorem step_op_region (hm : fr'.mode = .run) (ht : fr'.todo = .inRegion ⟨all⟩ (j :: l') :: k') (ho : all[j]? = some o) (hw : Region.wanted o (yielded ⟨all⟩ fr'.tmps) = true) (hd : fr'.roundOf = none ∨ ∀ c, o.op ≠ .defer c) :
    ∀ fr2 cs2 w2, (stepG.apply P true fr' cs' none (Go.execOp fr'.eval o) w).bare = .go { frame := fr2, callers := cs2, status := .running, dying := none } w2 → step P (lone fr' cs' w) = .next (lone fr2 cs2 w2) := by
  intro fr2 cs2 w2 hb
  refine step_lone_go ?_
  rw [stepG_run hm, exec_region ht ho, if_pos hw, oper_region ht ho hd]
  exact hb
end

theorem newObj_block {E : Env} {r : Operand → Value} {o : Oper} {cs : List Value} {e z : Nat} {v : Nat → Value} (h : newObjOf E r o = some (cs, e, z, v)) (b : Nat) : blockOf (v b) = some b := by
  unfold newObjOf at h
  simp only at h
  repeat' split at h
  all_goals first | (cases h; done) | (cases h; rfl)

theorem put_at {fr : AFr} {o : Oper} {d : Nat} (hd : o.dst = some d) (hlt : d < fr.nt) (v : Value) : fr.put o.dst v = { fr with tm := fr.tm.put d (some v) } := by
  unfold AFr.put
  rw [hd]
  simp only
  rw [show Nat.blt d fr.nt = true from by rw [Nat.blt_eq]; exact hlt]
  rfl

section
variable {E : Env} {all : List Oper} {acted : Nat} {ss : List (List (Nat × Oper))} {l : List Nat} {lo : Nat} {ρ : Rn} {tmps : Array Value} {w : World}

theorem firsts_ok (m : Nat) : ∀ (nw : List (Nat × Oper)) (fr : AFr) (H : Hp) (done : Nat) {fr1 : AFr} {H1 : Hp} {done' : Nat}, HR ρ H w.heap → lo ≤ H.nxt → Drw E.P all done acted ss l lo H.nxt ρ fr.nt fr.tm tmps →
    (∀ p ∈ nw, p.1 ∈ l ∧ all[p.1]? = some p.2 ∧ acts E.P p.2 = false) → firsts E all (nw.map (·.2)) fr H = some (fr1, H1) → (∀ k, bit done' k = true ↔ (bit done k = true ∨ ∃ p ∈ nw, p.1 = k)) →
    HR ρ H1 w.heap ∧ H.nxt ≤ H1.nxt ∧ Grw m ρ H w ρ H1 w ∧ Drw E.P all done' acted ss l lo H1.nxt ρ fr1.nt fr1.tm tmps ∧ ∃ tm1, fr1 = { fr with tm := tm1 }
  | [], fr, H, done, fr1, H1, done', hr, hlo, d, hp, h, hd => by
    simp only [List.map_nil, firsts, Option.some.injEq, Prod.mk.injEq] at h
    obtain ⟨rfl, rfl⟩ := h
    refine ⟨hr, Nat.le_refl _, .refl _ _ _ _, d.done_ext fun i => ?_, fr.tm, rfl⟩
    rw [Bool.eq_iff_iff, hd]; simp
  | p :: nw, fr, H, done, fr1, H1, done', hr, hlo, d, hp, h, hd => by
    obtain ⟨hil, ho, ha⟩ := hp p List.mem_cons_self
    have hp' : ∀ q ∈ nw, q.1 ∈ l ∧ all[q.1]? = some q.2 ∧ acts E.P q.2 = false := fun q hq => hp q (List.mem_cons_of_mem _ hq)
    have hdone : ∀ k, bit (Nat.lor done (2 ^ p.1)) k = (bit done k || decide (k = p.1)) := by
      intro k; rw [bit_lor, bit_pow]; congr 1; rw [Bool.eq_iff_iff, decide_eq_true_iff, decide_eq_true_iff]; exact eq_comm
    have hd' : ∀ k, bit done' k = true ↔ (bit (Nat.lor done (2 ^ p.1)) k = true ∨ ∃ q ∈ nw, q.1 = k) := by
      intro k
      rw [hd, bit_lor, bit_pow, Bool.or_eq_true, decide_eq_true_iff]
      simp only [List.mem_cons]
      constructor
      · rintro (h | ⟨q, (rfl | h1), h2⟩)
        · exact .inl (.inl h)
        · exact .inl (.inr h2)
        · exact .inr ⟨q, h1, h2⟩
      · rintro ((h | h) | ⟨q, h1, h2⟩)
        · exact .inl h
        · exact .inr ⟨p, .inl rfl, h⟩
        · exact .inr ⟨q, .inr h1, h2⟩
    simp only [List.map_cons, firsts] at h
    split at h
    · cases h
    rename_i hfit
    simp only [Bool.not_eq_true', Bool.not_eq_false] at hfit
    obtain ⟨dd, hdd, hlt⟩ : ∃ dd, p.2.dst = some dd ∧ dd < fr.nt := by
      unfold dstFits at hfit
      split at hfit
      · rename_i dd e; exact ⟨dd, e, blt_lt hfit⟩
      · cases hfit
    -- no block is laid
    have plain : ∀ v, (isNew p.2 = true → blockOf v = none) → firsts E all (nw.map (·.2)) (fr.put p.2.dst v) H = some (fr1, H1) →
        HR ρ H1 w.heap ∧ H.nxt ≤ H1.nxt ∧ Grw m ρ H w ρ H1 w ∧ Drw E.P all done' acted ss l lo H1.nxt ρ fr1.nt fr1.tm tmps ∧ ∃ tm1, fr1 = { fr with tm := tm1 } := by
      intro v hv h
      rw [put_at hdd hlt] at h
      have d1 := d.first (v := v) (hi' := H.nxt) hil ho ha hdd hlt hdone (fun hn b hb => by rw [hv hn] at hb; cases hb) (Nat.le_refl _)
      obtain ⟨r1, r2, r3, r4, tm1, r5⟩ := firsts_ok m nw { fr with tm := fr.tm.put dd (some v) } H _ hr hlo d1 hp' h hd'
      exact ⟨r1, r2, r3, r4, tm1, r5⟩
    split at h
    · split at h
      · rename_i hn
        split at h
        · rename_i cs e z v hnew
          rw [put_at hdd hlt] at h
          have hb := newObj_block hnew
          have d1 := d.first (v := v H.nxt) (hi' := (H.new (.cells cs e z false false)).nxt) hil ho ha hdd hlt hdone (fun _ b hb2 => by
            rw [hb] at hb2; cases hb2
            exact ⟨(hr.fresh _ (Nat.le_refl _)).1, hlo, Nat.le_refl _, Nat.lt_succ_self _⟩) (Nat.le_succ _)
          obtain ⟨r1, r2, r3, r4, tm1, r5⟩ := firsts_ok m nw { fr with tm := fr.tm.put dd (some (v H.nxt)) } (H.new (.cells cs e z false false)) _ (hr.unborn _) (Nat.le_trans hlo (Nat.le_succ _)) d1 hp' h hd'
          exact ⟨r1, Nat.le_trans (Nat.le_succ _) r2, (Grw.unborn hr _ m).trans r3, r4, tm1, r5⟩
        · cases h
      · rename_i hn
        split at h
        · rename_i v hv
          exact plain v (fun q => absurd q hn) h
        · cases h
    · exact plain undefV (fun _ => rfl) h

/-- The model does one that the stage has reckoned. -/
theorem holds_step {hi : Nat} {H : Hp} {fr : AFr} {fr' : Frame} {cs' : List Frame} {done : Nat} {j : Nat} {l' : List Nat} {k' : List Item} {o : Oper} (hr : HR ρ H w.heap) (hg : GlobR E.G ρ) (d : Drw E.P all done acted ss (j :: l') lo hi ρ fr.nt fr.tm fr'.tmps)
    (ho : all[j]? = some o) (ha : acts E.P o = false) (hop : opOk E.G o = true) (hdn : bit done j = true) (hh : holds E all fr H o = true) (hm : fr'.mode = .run) (ht : fr'.todo = .inRegion ⟨all⟩ (j :: l') :: k') :
    ∃ ρ' w' tmps', step E.P (lone fr' cs' w) = .next (lone { fr' with tmps := tmps', todo := .inRegion ⟨all⟩ l' :: k' } cs' w') ∧ HR ρ' H w'.heap ∧ Grw lo ρ H w ρ' H w' ∧ Drw E.P all done acted ss l' lo hi ρ' fr.nt fr.tm tmps' := by
  obtain ⟨dd, hdd, _⟩ := fit_at d.fit ho ha
  have hwant : Region.wanted o (yielded ⟨all⟩ fr'.tmps) = wantedOp all fr o := wanted_ok (d.guards ho)
  have hev : EvR ρ o fr.ev fr'.eval := ev_ok hg hop fun t => d.reads ho
  have hnd : ∀ c, o.op ≠ .defer c := by
    intro c e
    unfold acts isNew isFloat at ha
    rw [e] at ha
    simp at ha
  have fin : ∀ v, fr'.finish v = { fr' with tmps := fr'.tmps.setIfInBounds dd v, todo := .inRegion ⟨all⟩ l' :: k' } := by
    intro v; rw [finish_region ht ho, hdd]; rfl
  unfold holds at hh
  rw [hdd] at hh
  simp only at hh
  split at hh
  · rename_i hwt
    rw [hwt] at hwant
    split at hh
    · rename_i hn
      split at hh
      · rename_i cs e z v b hnew hbl
        simp only [Bool.and_eq_true] at hh
        obtain ⟨hv, hc⟩ := hh
        have hv := veq_eq _ _ _ hv
        split at hc
        · rename_i c e' z' hgb
          simp only [Bool.and_eq_true] at hc
          obtain ⟨⟨h1, h2⟩, h3⟩ := hc
          have h1 := Nat.eq_of_beq_eq_true h1
          have h2 := Nat.eq_of_beq_eq_true h2
          have h3 := veqs_eq (veq_eq 20) _ _ h3
          subst h1; subst h2; subst h3
          obtain ⟨cs', a1, a2, _, a4⟩ := newObj_ok (E := E) (w := w) rfl hev hnew
          obtain ⟨n1, n2, _⟩ := d.new j List.mem_cons_self o dd b ho hn hdn hdd hbl
          have hle : ρ.le (ρ.add b ⟨w.heap.size, 0, cs.length, z, cs.length, false⟩) := Rn.le_add _ n1
          obtain ⟨r1, r2⟩ := hr.born n1 hgb (i := ⟨w.heap.size, 0, cs.length, z, cs.length, false⟩) rfl (OR.fresh (el := e) (a1.mono hle)) n2
          refine ⟨_, _, _, ?_, r1, r2, d.pend ho ha hdd hdn hle (v' := v w.heap.size) ?_ ?_⟩
          · rw [← fin]
            exact step_op_region hm ht ho hwant (.inr hnd) _ _ _ (apply_value a2)
          · intro b' hb' hne
            have : b' ≠ b := fun q => hne hn (q ▸ hbl)
            rw [Rn.add_other _ _ this]; exact hb'
          · rw [← hv]
            exact a4 _ _ _ (Rn.add_same _ _ _) rfl
        · cases hc
      · cases hh
    · rename_i hn
      split at hh
      · rename_i v hp
        have hv := veq_eq _ _ _ hh
        obtain ⟨v', a1, a2⟩ := pure_ok (E := E) rfl hr hev hp
        refine ⟨ρ, w, _, ?_, hr, .refl _ _ _ _, d.pend ho ha hdd hdn (Rn.le_refl _) (fun _ h _ => h) (v' := v') (hv ▸ a2)⟩
        rw [← fin]
        exact step_op_region hm ht ho hwant (.inr hnd) _ _ _ (apply_value a1)
      · cases hh
  · rename_i hwt
    simp only [Bool.not_eq_true] at hwt
    rw [hwt] at hwant
    have hv := veq_eq _ _ _ hh
    refine ⟨ρ, w, _, ?_, hr, .refl _ _ _ _, d.pend ho ha hdd hdn (Rn.le_refl _) (fun _ h _ => h) (v' := undef) (by rw [hv]; exact VR.undef ρ)⟩
    rw [← fin]
    exact step_skip_region hm ht ho hwant

end
end Go.AM
