/-
  AM28: one stage of a region that draws.
-/
import Derived.Test.YtbdoaifijdlkjaaGreatDoorAM27
namespace Go.AM
open Go

theorem runA_dr {E : Env} {fr : AFr} {cs : List AFr} {H : Hp} {all : List Oper} {st : Stage} {sts : List Stage} {k : List AItem} (e : fr.todo = .dr all (st :: sts) :: k) {o : AOut} (h : runA E fr cs H = o) :
    (∃ why c, o = .fail why c) ∨ ∃ fr1 H1, firsts E all st.fst fr H = some (fr1, H1) ∧ st.chk.all (holds E all fr1 H1) = true ∧
      o = (match st.s with
        | [] => .next ⟨{ fr1 with todo := k }, cs, H1⟩
        | [o] =>
          if wantedOp all fr1 o then applyR E { fr1 with todo := .drs all o sts :: k } cs (AM.execOp E fr1.ev o H1) H1
          else .next ⟨{ fr1.put o.dst undefV with todo := .dr all sts :: k }, cs, H1⟩
        | [o, q] => match twoStores E fr1.ev o q H1 with
          | some H => .next ⟨{ fr1 with todo := .dr all sts :: k }, cs, H⟩
          | none => .fail "two stores" ⟨fr, cs, H⟩
        | _ => .fail "stage" ⟨fr, cs, H⟩) := by
  subst h
  unfold runA
  simp only [e]
  cases hf : firsts E all st.fst fr H with
  | none => exact .inl ⟨_, _, rfl⟩
  | some q =>
    obtain ⟨fr1, H1⟩ := q
    simp only
    cases hc : st.chk.all (holds E all fr1 H1) with
    | false => simp only [Bool.false_eq_true, if_false]; exact .inl ⟨_, _, rfl⟩
    | true =>
      refine .inr ⟨fr1, H1, rfl, hc, ?_⟩
      simp only [if_true]
      rcases st.s with _ | ⟨a, _ | ⟨b, _ | ⟨c, r⟩⟩⟩
      · rfl
      · rfl
      · simp only
        cases twoStores E fr1.ev a b H1 <;> rfl
      · rfl

section
variable {E : Env} {cs0 : List Frame} {ρ : Rn} {H : Hp} {w : World}

theorem run_mode {fr : AFr} {fr' : Frame} (c : FrC ρ fr fr') (m : fr.mode = .run) : fr'.mode = .run := by
  have := c.mode
  rw [m] at this
  generalize fr'.mode = m' at this
  cases this; rfl

theorem draw_ok (hE : EnvOk E) (hO : ∀ (w' : World) (ρ' : Rn) (H' : Hp), Grw 0 ρ H w ρ' H' w' → OrcOk E w') {fr : AFr} {fr' : Frame} {cs : List AFr} {cs' : List Frame} {lo : Nat} (hr : HR ρ H w.heap) (hg : GlobR E.G ρ) (hlo : lo ≤ H.nxt)
    {all : List Oper} {sts : List Stage} {k : List AItem} {k' : List Item} {l : List Nat} {done acted : Nat} {ss : List (List (Nat × Oper))} (c : FrC ρ fr fr') (m : fr.mode = .run)
    (e : fr.todo = .dr all sts :: k) (e' : fr'.todo = .inRegion ⟨all⟩ l :: k') (hk : L2 (ItR ρ) k k') (hs : sts = stages E.P (masks all 0 []) (zipIx all 0) done acted ss) (hops : ∀ o ∈ all, opOk E.G o = true)
    (d : Drw E.P all done acted ss l lo H.nxt ρ fr.nt fr.tm fr'.tmps) (hst : StackR E.P E.G cs0 ρ lo cs cs') : Went E cs0 ρ H w (lone fr' cs' w) (runA E fr cs H) := by
  obtain ⟨st, sts', hcons, hfst, hchk⟩ : ∃ st sts', sts = st :: sts' ∧ st.fst = (newOf done (hereOf E.P (masks all 0 []) (zipIx all 0) acted ss)).map (·.2) ∧ st.chk = (hereOf E.P (masks all 0 []) (zipIx all 0) acted ss).map (·.2) := by
    cases ss with
    | nil => exact ⟨_, _, hs.trans stages_nil, rfl, rfl⟩
    | cons g ss => exact ⟨_, _, hs.trans stages_cons, rfl, rfl⟩
  rw [hcons] at e
  rcases runA_dr e rfl with ⟨why, c1, e1⟩ | ⟨fr1, H1, hfirst, hhold, e1⟩
  · rw [e1]; trivial
  rw [e1]
  rw [hfst] at hfirst
  rw [hchk] at hhold
  have hm' := run_mode c m
  generalize hhere : hereOf E.P (masks all 0 []) (zipIx all 0) acted ss = here at hfirst hhold
  have inhere : ∀ p ∈ here, all[p.1]? = some p.2 ∧ acts E.P p.2 = false := by
    intro p hp
    rw [← hhere] at hp
    obtain ⟨h1, h2⟩ := List.mem_filter.1 hp
    obtain ⟨i, h3, h4⟩ := zipIx_inv all 0 p h1
    rw [Nat.zero_add] at h3
    subst h3
    refine ⟨h4, ?_⟩
    unfold mayB at h2
    simp only [Bool.and_eq_true, Bool.not_eq_true'] at h2
    exact h2.1.1
  have hbits : ∀ q, bit (done2 done here) q = true ↔ (bit done q = true ∨ ∃ p ∈ newOf done here, p.1 = q) := by
    intro q
    unfold done2
    rw [bit_lor, Bool.or_eq_true, bit_mask]
  obtain ⟨r1, n1, g1, d1, tm1, hfr1⟩ := firsts_ok (E := E) (w := w) 0 (newOf done here) fr H done hr hlo d (fun p hp => by
    obtain ⟨h1, h2⟩ := List.mem_filter.1 hp
    obtain ⟨h3, h4⟩ := inhere p h1
    refine ⟨?_, h3, h4⟩
    by_cases hl : p.1 ∈ l
    · exact hl
    · rw [d.dn p.1 p.2 h3 h4 hl] at h2; cases h2) hfirst hbits
  have K0 : ∀ p ∈ here, bit (done2 done here) p.1 = true ∧ holds E all fr1 H1 p.2 = true := by
    intro p hp
    refine ⟨?_, List.all_eq_true.1 hhold p.2 (List.mem_map.2 ⟨p, hp, rfl⟩)⟩
    rw [hbits]
    cases hb : bit done p.1 with
    | true => exact .inl rfl
    | false => exact .inr ⟨p, List.mem_filter.2 ⟨hp, by simp [hb]⟩, rfl⟩
  obtain ⟨l2, ρ2, w2, tmps2, s2, r2, g2, d2, e2⟩ := pend_run (cs' := cs') (k' := k') (H := H1) hops (fun j l1 ρ tmps o dd ho ha => by
    obtain ⟨m1, m2⟩ := dd.may ho ha
    exact K0 (j, o) (by rw [← hhere]; exact here_of ho ha m1 m2)) l fr' ρ w r1 hg d1 hm' e'
  have gg : Grw 0 ρ H w ρ2 H1 w2 := g1.trans (g2.mono (Nat.zero_le _))
  have hlo1 : lo ≤ H1.nxt := Nat.le_trans hlo n1
  have hst2 : StackR E.P E.G cs0 ρ2 lo cs cs' := hst.mono g2.le (g2.low' (Nat.le_refl _))
  have hf1 : fr1.fn = fr.fn ∧ fr1.nt = fr.nt ∧ fr1.defers = fr.defers ∧ fr1.mode = fr.mode ∧ fr1.df = fr.df ∧ fr1.round = fr.round := by rw [hfr1]; exact ⟨rfl, rfl, rfl, rfl, rfl, rfl⟩
  obtain ⟨f1, f2, f3, f4, f5, f6⟩ := hf1
  have c2 : ∀ (td : List AItem) (tm' : Array Value) (td' : List Item), FrC ρ2 { fr1 with todo := td } { fr' with tmps := tm', todo := td' } := by
    intro td tm' td'
    have c2 := c.mono g2.le
    exact ⟨by simp only [f1]; exact c2.fn, by simp only [f3]; exact c2.defers, by simp only [f4]; exact c2.mode, by simp only [f5]; exact c2.kind, by simp only [f6]; exact c2.round⟩
  have hk2 : L2 (ItR ρ2) k k' := hk.mono (ItR.mono g2.le)
  have hg2 := hg.mono g2.le
  have m1 : fr1.mode = .run := by rw [f4]; exact m
  cases ss with
  | nil =>
    have hs0 : st.s = [] ∧ sts' = [] := by rw [hs, stages_nil] at hcons; cases hcons; exact ⟨rfl, rfl⟩
    rw [hs0.1]
    simp only
    have hl2 : l2 = [] := by
      rcases e2 with e2 | ⟨j, l3, o, rfl, hoj, haj⟩
      · exact e2
      · obtain ⟨g, hgm, _⟩ := d2.act j List.mem_cons_self o hoj haj
        simp at hgm
    subst hl2
    have hend : step E.P (lone { fr' with tmps := tmps2, todo := .inRegion ⟨all⟩ [] :: k' } cs' w2) = .next (lone { fr' with tmps := tmps2, todo := k' } cs' w2) := by
      refine step_lone_go ?_
      rw [stepG_run (fr := { fr' with tmps := tmps2, todo := .inRegion ⟨all⟩ [] :: k' }) hm']
      rfl
    refine ⟨ρ2, w2, _, cs', s2.trans (.one hend), ⟨r2, lo, hlo1, ?_, hst2⟩, gg⟩
    exact .plain (c2 _ _ _) ⟨d2.size, fun t => d2.tmr t fun i hi => by simp at hi⟩ hk2
  | cons g ss =>
    have hs0 : st.s = g.map (·.2) ∧ sts' = stages E.P (masks all 0 []) (zipIx all 0) (done2 done here) (g.foldl (fun m p => Nat.lor m (((masks all 0 [])[p.1]?).getD 0)) acted) ss := by
      rw [hs, stages_cons, hhere] at hcons; cases hcons; exact ⟨rfl, rfl⟩
    have hord := List.pairwise_cons.1 d2.ord
    have hdup := d2.sdup
    rcases d2.grp g List.mem_cons_self with ⟨s, rfl⟩ | ⟨s, t, rfl, hpair⟩
    · -- one that acts
      rw [hs0.1]
      simp only [List.map_cons, List.map_nil]
      have hsin : s.1 ∈ l2 := (d2.mem _ List.mem_cons_self s (by simp)).2.2
      rcases e2 with e2 | ⟨j, l3, o, rfl, hoj, haj⟩
      · rw [e2] at hsin; simp at hsin
      have hjs := d2.head hoj haj
      have ejs : (j, o) = s := by simpa using hjs
      obtain ⟨ej, eo⟩ : s.1 = j ∧ s.2 = o := by rw [← ejs]; exact ⟨rfl, rfl⟩
      simp only [List.flatten_cons, List.cons_append, List.nil_append, List.map_cons, List.nodup_cons] at hdup
      have notin : ∀ g ∈ ss, ∀ p ∈ g, p.1 ≠ j := fun g hg p hp q => hdup.1 (List.mem_map.2 ⟨p, List.mem_flatten.2 ⟨g, hg, hp⟩, by rw [q, ej]⟩)
      have d3 : Drw E.P all (done2 done here) ([s].foldl (fun m p => Nat.lor m (((masks all 0 [])[p.1]?).getD 0)) acted) ss l3 lo H1.nxt ρ2 fr1.nt fr1.tm tmps2 := by
        refine d2.did hoj haj (fun g' hg' p hp => ⟨notin g' hg' p hp, g', List.mem_cons_of_mem _ hg', hp⟩) (fun g hg p hp hpj => ?_) hord.2 (fun g hg => d2.grp g (List.mem_cons_of_mem _ hg)) hdup.2 (fun i hi => ?_)
        · rcases List.mem_cons.1 hg with rfl | hg
          · have : p = s := by simpa using hp
            exact absurd (by rw [this, ej]) hpj
          · exact ⟨g, hg, hp⟩
        · simp only [List.foldl_cons, List.foldl_nil] at hi
          rw [bit_lor, Bool.or_eq_true, ej] at hi
          exact hi
      rw [eo]
      have hwant : Region.wanted o (yielded ⟨all⟩ tmps2) = wantedOp all fr1 o := wanted_ok (d2.guards hoj)
      have hev : EvR ρ2 o fr1.ev ({ fr' with tmps := tmps2, todo := .inRegion ⟨all⟩ (j :: l3) :: k' } : Frame).eval := ev_ok hg2 (hops _ (List.mem_of_getElem? hoj)) fun t => d2.reads hoj
      have hfd : FrR E.P E.G lo H1.nxt ρ2 { fr1 with todo := .drs all o sts' :: k } { fr' with tmps := tmps2, todo := .inRegion ⟨all⟩ (j :: l3) :: k' } :=
        .draws (c2 _ _ _) m1 rfl rfl hk2 hs0.2 hops hoj haj d3
      cases hwt : wantedOp all fr1 o with
      | false =>
        simp only [Bool.false_eq_true, if_false]
        rw [hwt] at hwant
        have hstep := step_skip_region (P := E.P) (cs' := cs') (w := w2) (fr' := { fr' with tmps := tmps2, todo := .inRegion ⟨all⟩ (j :: l3) :: k' }) hm' rfl hoj hwant
        have hfin : finish { fr1 with todo := .drs all o sts' :: k } undefV = some { fr1.put o.dst undefV with todo := .dr all sts' :: k } := by
          unfold finish
          simp only
          congr 1
          unfold AFr.put
          cases o.dst with
          | none => rfl
          | some dd => simp only; cases Nat.blt dd fr1.nt <;> rfl
        refine ⟨ρ2, w2, _, cs', s2.trans (.one hstep), ⟨r2, lo, hlo1, finish_ok hfd (VR.undef _) hfin, hst2⟩, gg⟩
      | true =>
        simp only [if_true]
        rw [hwt] at hwant
        by_cases hdf : fr'.roundOf = none ∨ ∀ c, o.op ≠ .defer c
        · have happ := applyR_ok (M := lone { fr' with tmps := tmps2, todo := .inRegion ⟨all⟩ (j :: l3) :: k' } cs' w2) (H0 := H1) hE (hO w2 ρ2 H1 gg) r2 hlo1 hfd hst2 (fun hne => exec_ok hE r2 (Nat.le_refl _) hev hne)
            (step_op_region (P := E.P) (cs' := cs') (w := w2) (fr' := { fr' with tmps := tmps2, todo := .inRegion ⟨all⟩ (j :: l3) :: k' }) hm' rfl hoj hwant hdf) m1
          exact happ.pre s2 gg
        · -- a deferred call in a loop's round: the abstract machine does not know it
          have hex : AM.execOp E fr1.ev o H1 = .fail ∨ ∃ d, AM.execOp E fr1.ev o H1 = .defer d H1 := by
            have : ∃ c, o.op = .defer c := by
              apply Classical.byContradiction
              intro h
              exact hdf (.inr fun c q => h ⟨c, q⟩)
            obtain ⟨c, hc⟩ := this
            unfold AM.execOp
            rw [hc]
            simp only
            cases c.callee with
            | builtin b => exact .inl rfl
            | invoke r n => exact .inl rfl
            | value f =>
              simp only
              cases deferredOf (fr1.ev f) (c.args.toList.map fr1.ev) with
              | none => exact .inl rfl
              | some q => exact .inr ⟨_, rfl⟩
          have hround : fr1.round ≠ none := by
            intro h
            apply hdf
            left
            have := c.round
            rw [← f6, h] at this
            cases hro : fr'.roundOf with
            | none => rfl
            | some _ => rw [hro] at this; exact this.elim
          rcases hex with h | ⟨dd, h⟩
          · rw [h]; trivial
          · rw [h]
            unfold applyR
            simp only
            cases hro : fr1.round with
            | none => exact absurd hro hround
            | some _ => trivial
    · -- two stores
      rw [hs0.1]
      simp only [List.map_cons, List.map_nil]
      cases htw : twoStores E fr1.ev s.2 t.2 H1 with
      | none => trivial
      | some H2 =>
        simp only
        unfold twoStores at htw
        split at htw
        rotate_left
        · cases htw
        rename_i Hs bs Ht bt hs1 ht1
        split at htw
        rotate_left
        · cases htw
        rename_i Hst b1 Hts b2 hs2 ht2
        split at htw
        rotate_left
        · cases htw
        rename_i hsame
        cases htw
        rw [Bool.and_eq_true] at hsame
        have eb1 := storeOp_block ht1 hs2
        have eb2 := storeOp_block hs1 ht2
        have far1 := storeOp_far hs1
        have far2 := storeOp_far ht1
        have far3 := storeOp_far hs2
        have far4 := storeOp_far ht2
        have hget : ∀ b, Hts.get b = H2.get b := by
          intro b
          by_cases q1 : b = bs
          · subst q1; exact (sameBlock_get hsame.1).symm
          · by_cases q2 : b = bt
            · subst q2; exact (sameBlock_get hsame.2).symm
            · rw [far4.2 b (by rw [eb2]; exact q1), far2.2 b q2, far3.2 b (by rw [eb1]; exact q2), far1.2 b q1]
        have hnx : Hts.nxt = H2.nxt := by rw [far4.1, far2.1, far3.1, far1.1]
        have hnx2 : H2.nxt = H1.nxt := by rw [far3.1, far1.1]
        have hact : ∀ i, bit ([s, t].foldl (fun m p => Nat.lor m (((masks all 0 [])[p.1]?).getD 0)) acted) i = true → bit acted i = true ∨ Pre all s.1 i ∨ Pre all t.1 i := by
          intro i hi
          simp only [List.foldl_cons, List.foldl_nil] at hi
          rw [bit_lor, bit_lor, Bool.or_eq_true, Bool.or_eq_true] at hi
          rcases hi with (hi | hi) | hi
          · exact .inl hi
          · exact .inr (.inl hi)
          · exact .inr (.inr hi)
        have hsin : s.1 ∈ l2 := (d2.mem _ List.mem_cons_self s (by simp)).2.2
        rcases e2 with e2 | ⟨j, l3, o, rfl, hoj, haj⟩
        · rw [e2] at hsin; simp at hsin
        have hjs := d2.head hoj haj
        have last : ∀ {l4 : List Nat} {ρ' : Rn} {w' : World} {tmps' : Array Value}, Steps E.P (lone { fr' with tmps := tmps2, todo := .inRegion ⟨all⟩ (j :: l3) :: k' } cs' w2) (lone { fr' with tmps := tmps', todo := .inRegion ⟨all⟩ l4 :: k' } cs' w') →
            HR ρ' H2 w'.heap → Grw lo ρ2 H1 w2 ρ' H2 w' → Drw E.P all (done2 done here) ([s, t].foldl (fun m p => Nat.lor m (((masks all 0 [])[p.1]?).getD 0)) acted) ss l4 lo H1.nxt ρ' fr1.nt fr1.tm tmps' →
            Went E cs0 ρ H w (lone fr' cs' w) (.next ⟨{ fr1 with todo := .dr all sts' :: k }, cs, H2⟩) := by
          intro l4 ρ' w' tmps' a1 a2 a3 a4
          refine ⟨ρ', w', _, cs', s2.trans a1, ⟨a2, lo, by rw [hnx2]; exact hlo1, ?_, hst2.mono a3.le (a3.low' (Nat.le_refl _))⟩, gg.trans (a3.mono (Nat.zero_le _))⟩
          have c3 := (c2 (.dr all sts' :: k) tmps' (.inRegion ⟨all⟩ l4 :: k')).mono a3.le
          exact .draw c3 m1 rfl rfl (hk2.mono (ItR.mono a3.le)) hs0.2 hops (by
            show Drw E.P all _ _ ss l4 lo H2.nxt ρ' fr1.nt fr1.tm tmps'
            rw [hnx2]; exact a4)
        rcases List.mem_cons.1 hjs with ejs | hjt
        · obtain ⟨ej, eo⟩ : j = s.1 ∧ o = s.2 := by rw [← ejs]; exact ⟨rfl, rfl⟩
          subst ej; subst eo
          obtain ⟨l4, ρ', w', tmps', a1, a2, a3, a4⟩ := two_ok (cs' := cs') (k' := k') (u := s) (v := t) (fr' := { fr' with tmps := tmps2, todo := .inRegion ⟨all⟩ (s.1 :: l3) :: k' }) hops r2 hg2 d2 (.inl ⟨rfl, rfl⟩) hs1 hs2 (by rw [hhere]; exact K0) hact hm' rfl
          exact last a1 a2 a3 a4
        · have ejt : (j, o) = t := by simpa using hjt
          obtain ⟨ej, eo⟩ : j = t.1 ∧ o = t.2 := by rw [← ejt]; exact ⟨rfl, rfl⟩
          subst ej; subst eo
          obtain ⟨l4, ρ', w', tmps', a1, a2, a3, a4⟩ := two_ok (cs' := cs') (k' := k') (u := t) (v := s) (fr' := { fr' with tmps := tmps2, todo := .inRegion ⟨all⟩ (t.1 :: l3) :: k' }) hops r2 hg2 d2 (.inr ⟨rfl, rfl⟩) ht1 ht2 (by rw [hhere]; exact K0) hact hm' rfl
          exact last a1 (a2.congr (fun b => (hget b).symm) hnx.symm) (a3.congr (fun b => (hget b).symm) hnx.symm) a4

end
end Go.AM
