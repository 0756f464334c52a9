/-
  AM25: a region that draws: how its standing goes on.
-/
import Derived.Test.YtbdoaifijdlkjaaGreatDoorAM24
namespace Go.AM
open Go

/-! ### the same, to the sign -/
theorem veqs_eq {f : Value → Value → Bool} (hf : ∀ x y, f x y = true → x = y) : ∀ l m : List Value, veqs f l m = true → l = m
  | [], [], _ => rfl
  | [], _ :: _, h => by simp [veqs] at h
  | _ :: _, [], h => by simp [veqs] at h
  | x :: l, y :: m, h => by
    simp only [veqs] at h
    cases hxy : f x y with
    | false => rw [hxy] at h; cases h
    | true =>
      rw [hxy] at h
      rw [hf _ _ hxy, veqs_eq hf l m h]

theorem arr_eq {α : Type} {a b : Array α} (h : a.toList = b.toList) : a = b := Array.ext' h

theorem addr_eq {a b : Addr} (h1 : a.spot.isNone = true) (h2 : b.spot.isNone = true) (h3 : Nat.beq a.block b.block = true) (h4 : Nat.beq a.off b.off = true) : a = b := by
  obtain ⟨a1, a2, a3⟩ := a
  obtain ⟨b1, b2, b3⟩ := b
  simp only at h1 h2 h3 h4
  rw [Option.isNone_iff_eq_none] at h1 h2
  rw [Nat.eq_of_beq_eq_true h3, Nat.eq_of_beq_eq_true h4, h1, h2]

theorem veq_eq : ∀ (n : Nat) (x y : Value), veq n x y = true → x = y
  | 0, _, _, h => by simp [veq] at h
  | n + 1, x, y, h => by
    have ih := veq_eq n
    have hl := veqs_eq ih
    unfold veq at h
    simp only at h
    split at h
    · simpa using h
    · simp only [Bool.and_eq_true] at h
      rw [beqInt_eq] at h
      rw [sameKind_eq h.1, eq_of_beq h.2]
    · rename_i a b
      rw [beqBytes_eq] at h
      have := eq_of_beq h
      obtain ⟨⟨a⟩⟩ := a
      obtain ⟨⟨b⟩⟩ := b
      simp only at this
      rw [this]
    · rfl
    · simp only [Bool.and_eq_true] at h
      obtain ⟨⟨⟨h1, h2⟩, h3⟩, h4⟩ := h
      rw [addr_eq h1 h2 h3 h4]
    · simp only [Bool.and_eq_true] at h
      rw [Nat.eq_of_beq_eq_true h.1, Nat.eq_of_beq_eq_true h.2]
    · simp only [Bool.and_eq_true] at h
      obtain ⟨⟨⟨⟨⟨h1, h2⟩, h3⟩, h4⟩, h5⟩, h6⟩ := h
      rw [addr_eq h1 h2 h3 h4, Nat.eq_of_beq_eq_true h5, Nat.eq_of_beq_eq_true h6]
    · rfl
    · rw [Nat.eq_of_beq_eq_true h]
    · rw [Nat.eq_of_beq_eq_true h]
    · simp only [Bool.and_eq_true] at h
      rw [eq_of_beq h.1.1, arr_eq (hl _ _ h.1.2), arr_eq (hl _ _ h.2)]
    · rfl
    · simp only [Bool.and_eq_true] at h
      rw [Nat.eq_of_beq_eq_true h.1, ih _ _ h.2]
    · rfl
    · rw [arr_eq (hl _ _ h)]
    · rw [arr_eq (hl _ _ h)]
    · cases h

theorem new_not_acts {P : Program} {o : Oper} (h : isNew o = true) : acts P o = false := by simp [acts, h]

section
variable {P : Program} {all : List Oper} {done acted : Nat} {ss : List (List (Nat × Oper))} {l : List Nat} {lo hi : Nat} {ρ : Rn} {nt : Nat} {tm : Tr Value} {tmps : Array Value}

theorem Drw.done_ext {done' : Nat} (d : Drw P all done acted ss l lo hi ρ nt tm tmps) (h : ∀ i, bit done' i = bit done i) : Drw P all done' acted ss l lo hi ρ nt tm tmps :=
  { d with
    dn := fun i o a b c => by rw [h]; exact d.dn i o a b c
    dlt := fun i hi o dd a b c e => by rw [h] at c; exact d.dlt i hi o dd a b c e
    new := fun i hi o dd b h1 h2 h3 h4 h5 => by rw [h] at h3; exact d.new i hi o dd b h1 h2 h3 h4 h5
    inj := fun i hi i' hi' o o' dd dd' b h1 h2 h3 h4 h5 h6 h7 h8 h9 h10 => by rw [h] at h5 h6; exact d.inj i hi i' hi' o o' dd dd' b h1 h2 h3 h4 h5 h6 h7 h8 h9 h10 }
theorem Drw.act_ext {acted' : Nat} (d : Drw P all done acted ss l lo hi ρ nt tm tmps) (h : ∀ i, bit acted' i = true → bit acted i = true) : Drw P all done acted' ss l lo hi ρ nt tm tmps :=
  { d with actd := fun i hi => d.actd i (h i hi) }

/-- One dst, one operation. -/
theorem Drw.uniq (d : Drw P all done acted ss l lo hi ρ nt tm tmps) {i j : Nat} {o q : Oper} {t : Nat} (ho : all[i]? = some o) (ha : acts P o = false) (h1 : o.dst = some t) (hq : all[j]? = some q) (h2 : q.dst = some t) : i = j := by
  obtain ⟨t', e1, e2⟩ := fit_at d.fit ho ha
  rw [h1] at e1; cases e1
  rcases (e2 j q hq).1 with h | h
  · exact h
  · exact absurd h2 h

/-- What the next operation reads is alike. -/
theorem Drw.reads {j : Nat} {l' : List Nat} (d : Drw P all done acted ss (j :: l') lo hi ρ nt tm tmps) {o : Oper} (ho : all[j]? = some o) {t : Nat} (ht : t ∈ tmpsOf o) : VR ρ ((tm.get t).getD undefV) (tmps.getD t undef) := by
  refine d.tmr t fun i hi o' ho' ha e => ?_
  obtain ⟨t', e1, e2⟩ := fit_at d.fit ho' ha
  rw [e] at e1; cases e1
  have hp := (e2 j o ho).2.1 ht
  rcases List.mem_cons.1 hi with rfl | hi
  · exact absurd (d.back _ _ hp) (Nat.lt_irrefl _)
  · exact (List.pairwise_cons.1 d.pw).1 i hi hp

theorem Drw.guards {j : Nat} {l' : List Nat} (d : Drw P all done acted ss (j :: l') lo hi ρ nt tm tmps) {o : Oper} (ho : all[j]? = some o) : ∀ g b, o.guard = some (g, b) → ∀ q t, all[g]? = some q → q.dst = some t → VR ρ ((tm.get t).getD undefV) (tmps.getD t undef) := by
  intro g b hg q t hq hd
  refine d.tmr t fun i hi o' ho' ha e => ?_
  have hig := d.uniq ho' ha e hq hd
  obtain ⟨t', e1, e2⟩ := fit_at d.fit ho' ha
  have hp := (e2 j o ho).2.2 g b hg hig.symm
  rcases List.mem_cons.1 hi with rfl | hi
  · exact absurd (d.back _ _ hp) (Nat.lt_irrefl _)
  · exact (List.pairwise_cons.1 d.pw).1 i hi hp

/-- An operation is reckoned ahead. -/
theorem Drw.first (d : Drw P all done acted ss l lo hi ρ nt tm tmps) {i : Nat} {o : Oper} {dd : Nat} {v : Value} {hi' done' : Nat} (him : i ∈ l) (ho : all[i]? = some o) (ha : acts P o = false) (hd : o.dst = some dd) (hlt : dd < nt)
    (hdone : ∀ k, bit done' k = (bit done k || decide (k = i))) (hb : isNew o = true → ∀ b, blockOf v = some b → ρ b = none ∧ lo ≤ b ∧ hi ≤ b ∧ b < hi') (hh : hi ≤ hi') :
    Drw P all done' acted ss l lo hi' ρ nt (tm.put dd (some v)) tmps := by
  have get : ∀ t, ((tm.put dd (some v)).get t).getD undefV = if t = dd then v else (tm.get t).getD undefV := by
    intro t; rw [Tr.get_put]; split <;> rfl
  have other : ∀ {i' : Nat} {o' : Oper} {d' : Nat}, all[i']? = some o' → acts P o' = false → o'.dst = some d' → i' ≠ i → d' ≠ dd := by
    intro i' o' d' h1 h2 h3 h4 e
    subst e
    exact h4 (d.uniq h1 h2 h3 ho hd)
  refine { d with dn := ?_, dlt := ?_, tmr := ?_, new := ?_, inj := ?_ }
  · intro k q a b c; rw [hdone, d.dn k q a b c]; rfl
  · intro k hk q t a b c e
    rw [hdone] at c
    by_cases hki : k = i
    · subst hki; rw [ho] at a; cases a; rw [hd] at e; cases e; exact hlt
    · simp [hki] at c; exact d.dlt k hk q t a b c e
  · intro t ht
    have : t ≠ dd := fun e => ht i him o ho ha (e ▸ hd)
    rw [get, if_neg this]
    exact d.tmr t ht
  · intro k hk q t b h1 h2 h3 h4 h5
    rw [hdone] at h3
    by_cases hki : k = i
    · subst hki; rw [ho] at h1; cases h1; rw [hd] at h4; cases h4
      rw [get, if_pos rfl] at h5
      obtain ⟨a1, a2, _, a4⟩ := hb h2 b h5
      exact ⟨a1, a2, a4⟩
    · rw [get, if_neg (other h1 (new_not_acts h2) h4 hki)] at h5
      simp [hki] at h3
      obtain ⟨a1, a2, a3⟩ := d.new k hk q t b h1 h2 h3 h4 h5
      exact ⟨a1, a2, Nat.lt_of_lt_of_le a3 hh⟩
  · intro k hk k' hk' q q' t t' b h1 h2 h3 h4 h5 h6 h7 h8 h9 h10
    rw [hdone] at h5 h6
    by_cases hki : k = i
    · by_cases hki' : k' = i
      · rw [hki, hki']
      · exfalso
        subst hki; rw [ho] at h1; cases h1; rw [hd] at h7; cases h7
        rw [get, if_pos rfl] at h9
        rw [get, if_neg (other h2 (new_not_acts h4) h8 hki')] at h10
        simp [hki'] at h6
        have a1 := (hb h3 b h9).2.2.1
        have a2 := (d.new k' hk' q' t' b h2 h4 h6 h8 h10).2.2
        omega
    · by_cases hki' : k' = i
      · exfalso
        subst hki'; rw [ho] at h2; cases h2; rw [hd] at h8; cases h8
        rw [get, if_pos rfl] at h10
        rw [get, if_neg (other h1 (new_not_acts h3) h7 hki)] at h9
        simp [hki] at h5
        have a1 := (hb h4 b h10).2.2.1
        have a2 := (d.new k hk q t b h1 h3 h5 h7 h9).2.2
        omega
      · rw [get, if_neg (other h1 (new_not_acts h3) h7 hki)] at h9
        rw [get, if_neg (other h2 (new_not_acts h4) h8 hki')] at h10
        simp [hki] at h5
        simp [hki'] at h6
        exact d.inj k hk k' hk' q q' t t' b h1 h2 h3 h4 h5 h6 h7 h8 h9 h10

/-- What the model may do next, the stage reckons. -/
theorem Drw.may {j : Nat} {l' : List Nat} (d : Drw P all done acted ss (j :: l') lo hi ρ nt tm tmps) {o : Oper} (ho : all[j]? = some o) (ha : acts P o = false) :
    (∀ k, (∃ g ∈ ss, ∃ p ∈ g, p.1 = k) → ¬ Pre all j k) ∧ bit acted j = false := by
  refine ⟨?_, ?_⟩
  · rintro k ⟨g, hg, p, hp, rfl⟩ hpre
    obtain ⟨h1, h2, h3⟩ := d.mem g hg p hp
    rcases List.mem_cons.1 h3 with e | h3
    · rw [e, ho] at h1; cases h1; rw [ha] at h2; cases h2
    · exact (List.pairwise_cons.1 d.pw).1 _ h3 hpre
  · cases hb : bit acted j with
    | false => rfl
    | true => exact absurd (List.mem_cons_self) (d.actd j hb)

/-- The model does one that does not act. -/
theorem Drw.pend {j : Nat} {l' : List Nat} (d : Drw P all done acted ss (j :: l') lo hi ρ nt tm tmps) {o : Oper} (ho : all[j]? = some o) (ha : acts P o = false) {dd : Nat} (hd : o.dst = some dd) (hdn : bit done j = true) {ρ' : Rn} (hle : ρ.le ρ')
    (hnew : ∀ b, ρ b = none → (isNew o = true → blockOf ((tm.get dd).getD undefV) ≠ some b) → ρ' b = none) {v' : Value} (hv : VR ρ' ((tm.get dd).getD undefV) v') :
    Drw P all done acted ss l' lo hi ρ' nt tm (tmps.setIfInBounds dd v') := by
  have hpw := List.pairwise_cons.1 d.pw
  have hnd := List.nodup_cons.1 d.nodup
  have hsub : ∀ {i}, i ∈ l' → i ∈ j :: l' := fun h => List.mem_cons_of_mem _ h
  have hltd := d.dlt j List.mem_cons_self o dd ho ha hdn hd
  refine ⟨d.fit, d.ord, d.back, d.grp, ?_, ?_, d.sdup, fun i hi => d.lt i (hsub hi), hnd.2, hpw.2, ?_, ?_, ?_, ?_, by simp [d.size], ?_, ?_, ?_⟩
  · intro g hg p hp
    obtain ⟨h1, h2, h3⟩ := d.mem g hg p hp
    refine ⟨h1, h2, ?_⟩
    rcases List.mem_cons.1 h3 with e | h3
    · rw [e, ho] at h1; cases h1; rw [ha] at h2; cases h2
    · exact h3
  · exact fun i hi => d.act i (hsub hi)
  · intro k i hk hkl hp hi
    by_cases e : k = j
    · subst e; exact hpw.1 i hi hp
    · exact d.closed k i hk (fun h => by rcases List.mem_cons.1 h with h | h; exact e h; exact hkl h) hp (hsub hi)
  · exact fun i hb hi => d.actd i hb (hsub hi)
  · intro i q hq hqa hi
    by_cases e : i = j
    · subst e; exact hdn
    · exact d.dn i q hq hqa (fun h => by rcases List.mem_cons.1 h with h | h; exact e h; exact hi h)
  · exact fun i hi => d.dlt i (hsub hi)
  · intro t ht
    by_cases e : t = dd
    · subst e
      rw [Array.getD_eq_getD_getElem?, Array.getElem?_setIfInBounds_self_of_lt (by rw [d.size]; exact hltd)]
      exact hv
    · rw [Array.getD_eq_getD_getElem?, Array.getElem?_setIfInBounds_ne (fun q => e q.symm), ← Array.getD_eq_getD_getElem?]
      refine (d.tmr t fun i hi q hq hqa hqd => ?_).mono hle
      rcases List.mem_cons.1 hi with h | h
      · subst h; rw [ho] at hq; cases hq; rw [hd] at hqd; cases hqd; exact e rfl
      · exact ht i h q hq hqa hqd
  · intro i hi q t b h1 h2 h3 h4 h5
    obtain ⟨a1, a2, a3⟩ := d.new i (hsub hi) q t b h1 h2 h3 h4 h5
    refine ⟨hnew b a1 fun hn hb => ?_, a2, a3⟩
    have := d.inj i (hsub hi) j List.mem_cons_self q o t dd b h1 ho h2 hn h3 hdn h4 hd h5 hb
    subst this
    exact hnd.1 hi
  · exact fun i hi i' hi' => d.inj i (hsub hi) i' (hsub hi')

/-- The model does one that acts. -/
theorem Drw.did {x : Nat} {l' : List Nat} (d : Drw P all done acted ss (x :: l') lo hi ρ nt tm tmps) {o : Oper} (ho : all[x]? = some o) (ha : acts P o = true) {ss' : List (List (Nat × Oper))} {acted' : Nat}
    (h1 : ∀ g' ∈ ss', ∀ p ∈ g', p.1 ≠ x ∧ ∃ g ∈ ss, p ∈ g) (h2 : ∀ g ∈ ss, ∀ p ∈ g, p.1 ≠ x → ∃ g' ∈ ss', p ∈ g') (hord : ss'.Pairwise fun g h => ∀ s ∈ g, ∀ t ∈ h, Pre all t.1 s.1)
    (hgrp : ∀ g ∈ ss', (∃ s, g = [s]) ∨ ∃ s t, g = [s, t] ∧ pairOk P (masks all 0 []) (zipIx all 0) s t = true) (hdup : (ss'.flatten.map (·.1)).Nodup) (hact : ∀ i, bit acted' i = true → bit acted i = true ∨ Pre all x i) :
    Drw P all done acted' ss' l' lo hi ρ nt tm tmps := by
  have hpw := List.pairwise_cons.1 d.pw
  have hnd := List.nodup_cons.1 d.nodup
  have hsub : ∀ {i}, i ∈ l' → i ∈ x :: l' := fun h => List.mem_cons_of_mem _ h
  refine ⟨d.fit, hord, d.back, hgrp, ?_, ?_, hdup, fun i hi => d.lt i (hsub hi), hnd.2, hpw.2, ?_, ?_, ?_, fun i hi => d.dlt i (hsub hi), d.size, ?_, ?_, ?_⟩
  · intro g hg p hp
    obtain ⟨hne, g0, hg0, hp0⟩ := h1 g hg p hp
    obtain ⟨a1, a2, a3⟩ := d.mem g0 hg0 p hp0
    refine ⟨a1, a2, ?_⟩
    rcases List.mem_cons.1 a3 with e | a3
    · exact absurd e hne
    · exact a3
  · intro i hi q hq hqa
    obtain ⟨g, hg, hp⟩ := d.act i (hsub hi) q hq hqa
    exact h2 g hg _ hp (fun e => hnd.1 (e ▸ hi))
  · intro k i hk hkl hp hi
    by_cases e : k = x
    · subst e; exact hpw.1 i hi hp
    · exact d.closed k i hk (fun h => by rcases List.mem_cons.1 h with h | h; exact e h; exact hkl h) hp (hsub hi)
  · intro i hb hi
    rcases hact i hb with h | h
    · exact d.actd i h (hsub hi)
    · exact hpw.1 i hi h
  · intro i q hq hqa hi
    by_cases e : i = x
    · subst e; rw [ho] at hq; cases hq; rw [ha] at hqa; cases hqa
    · exact d.dn i q hq hqa (fun h => by rcases List.mem_cons.1 h with h | h; exact e h; exact hi h)
  · intro t ht
    refine d.tmr t fun i hi q hq hqa hqd => ?_
    rcases List.mem_cons.1 hi with h | h
    · subst h; rw [ho] at hq; cases hq; rw [ha] at hqa; cases hqa
    · exact ht i h q hq hqa hqd
  · exact fun i hi => d.new i (hsub hi)
  · exact fun i hi i' hi' => d.inj i (hsub hi) i' (hsub hi')

/-- What acts next stands in the first group. -/
theorem Drw.head {x : Nat} {l' : List Nat} {g : List (Nat × Oper)} {ss : List (List (Nat × Oper))} (d : Drw P all done acted (g :: ss) (x :: l') lo hi ρ nt tm tmps) {o : Oper} (ho : all[x]? = some o) (ha : acts P o = true) : (x, o) ∈ g := by
  obtain ⟨h, hh, hx⟩ := d.act x List.mem_cons_self o ho ha
  rcases List.mem_cons.1 hh with rfl | hh
  · exact hx
  · exfalso
    obtain ⟨s, hs⟩ : ∃ s, s ∈ g := by
      rcases d.grp g List.mem_cons_self with ⟨s, rfl⟩ | ⟨s, t, rfl, _⟩
      · exact ⟨s, by simp⟩
      · exact ⟨s, by simp⟩
    have hp := (List.pairwise_cons.1 d.ord).1 h hh s hs (x, o) hx
    obtain ⟨_, _, hm⟩ := d.mem g List.mem_cons_self s hs
    rcases List.mem_cons.1 hm with e | hm
    · rw [e] at hp; exact absurd (d.back _ _ hp) (Nat.lt_irrefl _)
    · exact (List.pairwise_cons.1 d.pw).1 _ hm hp

end
end Go.AM
