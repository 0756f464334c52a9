/-
  AM27: a region that draws, stage by stage.
-/
import Derived.Test.YtbdoaifijdlkjaaGreatDoorAM26
namespace Go.AM
open Go

def smaskOf (ss : List (List (Nat × Oper))) : Nat := ss.foldl (fun m g => Nat.lor m (maskOf g)) 0
def mayB (P : Program) (ms : List Nat) (acted smask : Nat) (p : Nat × Oper) : Bool := !acts P p.2 && Nat.beq (Nat.land ((ms[p.1]?).getD 0) smask) 0 && !bit acted p.1
def hereOf (P : Program) (ms : List Nat) (l : List (Nat × Oper)) (acted : Nat) (ss : List (List (Nat × Oper))) : List (Nat × Oper) := l.filter (mayB P ms acted (smaskOf ss))
def newOf (done : Nat) (here : List (Nat × Oper)) : List (Nat × Oper) := here.filter fun p => !bit done p.1
def done2 (done : Nat) (here : List (Nat × Oper)) : Nat := Nat.lor done (maskOf (newOf done here))

theorem stages_nil {P : Program} {ms : List Nat} {l : List (Nat × Oper)} {done acted : Nat} : stages P ms l done acted [] =
    [{ fst := (newOf done (hereOf P ms l acted [])).map (·.2), chk := (hereOf P ms l acted []).map (·.2), s := [] }] := rfl
theorem stages_cons {P : Program} {ms : List Nat} {l : List (Nat × Oper)} {done acted : Nat} {g : List (Nat × Oper)} {ss : List (List (Nat × Oper))} : stages P ms l done acted (g :: ss) =
    { fst := (newOf done (hereOf P ms l acted (g :: ss))).map (·.2), chk := (hereOf P ms l acted (g :: ss)).map (·.2), s := g.map (·.2) } ::
      stages P ms l (done2 done (hereOf P ms l acted (g :: ss))) (g.foldl (fun m p => Nat.lor m ((ms[p.1]?).getD 0)) acted) ss := rfl

theorem land_zero {a b : Nat} (h : ∀ k, ¬ (bit a k = true ∧ bit b k = true)) : Nat.beq (Nat.land a b) 0 = true := by
  rw [Nat.beq_eq]
  apply Nat.eq_of_testBit_eq
  intro k
  rw [Nat.zero_testBit, ← bit_eq, bit_land]
  cases h1 : bit a k with
  | false => rfl
  | true =>
    cases h2 : bit b k with
    | false => rfl
    | true => exact absurd ⟨h1, h2⟩ (h k)

theorem here_of {P : Program} {all : List Oper} {acted : Nat} {ss : List (List (Nat × Oper))} {j : Nat} {o : Oper} (ho : all[j]? = some o) (ha : acts P o = false) (h1 : ∀ k, (∃ g ∈ ss, ∃ p ∈ g, p.1 = k) → ¬ Pre all j k) (h2 : bit acted j = false) :
    (j, o) ∈ hereOf P (masks all 0 []) (zipIx all 0) acted ss := by
  refine List.mem_filter.2 ⟨by have := zipIx_get all 0 j o ho; simpa using this, ?_⟩
  unfold mayB
  simp only [ha, h2, Bool.not_false, Bool.true_and, Bool.and_true]
  refine land_zero fun k => ?_
  rintro ⟨a, b⟩
  unfold smaskOf at b
  rw [bit_smask, bit_zero] at b
  simp only [Bool.false_eq_true, false_or] at b
  exact h1 k b a

section
variable {E : Env} {all : List Oper} {done acted : Nat} {ss : List (List (Nat × Oper))} {lo hi : Nat} {fr : AFr} {H : Hp} {cs' : List Frame} {k' : List Item}

/-- The model does all that it may do here, up to one that acts. -/
theorem pend_run (hops : ∀ o ∈ all, opOk E.G o = true)
    (K : ∀ (j : Nat) (l1 : List Nat) (ρ : Rn) (tmps : Array Value) (o : Oper), Drw E.P all done acted ss (j :: l1) lo hi ρ fr.nt fr.tm tmps → all[j]? = some o → acts E.P o = false → bit done j = true ∧ holds E all fr H o = true) :
    ∀ (l : List Nat) (fr' : Frame) (ρ : Rn) (w : World), HR ρ H w.heap → GlobR E.G ρ → Drw E.P all done acted ss l lo hi ρ fr.nt fr.tm fr'.tmps → fr'.mode = .run → fr'.todo = .inRegion ⟨all⟩ l :: k' →
      ∃ l2 ρ' w' tmps', Steps E.P (lone fr' cs' w) (lone { fr' with tmps := tmps', todo := .inRegion ⟨all⟩ l2 :: k' } cs' w') ∧ HR ρ' H w'.heap ∧ Grw lo ρ H w ρ' H w' ∧ Drw E.P all done acted ss l2 lo hi ρ' fr.nt fr.tm tmps' ∧
        (l2 = [] ∨ ∃ j l3 o, l2 = j :: l3 ∧ all[j]? = some o ∧ acts E.P o = true) := by
  intro l
  induction l with
  | nil =>
    intro fr' ρ w hr hg d hm ht
    refine ⟨[], ρ, w, fr'.tmps, ?_, hr, .refl _ _ _ _, d, .inl rfl⟩
    have : ({ fr' with tmps := fr'.tmps, todo := .inRegion ⟨all⟩ [] :: k' } : Frame) = fr' := by rw [← ht]
    rw [this]; exact .refl _ _
  | cons j l ih =>
    intro fr' ρ w hr hg d hm ht
    have hj := d.lt j List.mem_cons_self
    have ho := List.getElem?_eq_getElem hj
    cases ha : acts E.P all[j] with
    | true =>
      refine ⟨j :: l, ρ, w, fr'.tmps, ?_, hr, .refl _ _ _ _, d, .inr ⟨j, l, _, rfl, ho, ha⟩⟩
      have : ({ fr' with tmps := fr'.tmps, todo := .inRegion ⟨all⟩ (j :: l) :: k' } : Frame) = fr' := by rw [← ht]
      rw [this]; exact .refl _ _
    | false =>
      obtain ⟨hdn, hh⟩ := K j l ρ fr'.tmps _ d ho ha
      obtain ⟨ρ1, w1, tmps1, s1, r1, g1, d1⟩ := holds_step (cs' := cs') hr hg d ho ha (hops _ (List.getElem_mem hj)) hdn hh hm ht
      obtain ⟨l2, ρ2, w2, tmps2, s2, r2, g2, d2, e2⟩ := ih { fr' with tmps := tmps1, todo := .inRegion ⟨all⟩ l :: k' } ρ1 w1 r1 (hg.mono g1.le) d1 hm rfl
      exact ⟨l2, ρ2, w2, tmps2, .head s1 s2, r2, g1.trans g2, d2, e2⟩
end

/-! ### two stores -/
theorem noRead_pure {E : Env} {r : Operand → Value} {o : Oper} (h : noRead o = true) (H K : Hp) : pureOp E r o H = pureOp E r o K := by
  obtain ⟨dst, op, type, pos, after, guard⟩ := o
  cases op <;> first | rfl | (simp [noRead] at h)

theorem noRead_holds {E : Env} {all : List Oper} {fr : AFr} {o : Oper} (h : noRead o = true) (hn : isNew o = false) (H K : Hp) : holds E all fr H o = holds E all fr K o := by
  unfold holds
  simp only [hn, Bool.false_eq_true, if_false, noRead_pure h H K]

theorem storeVar_inv {P : Program} {H H' : Hp} {t : Nat} {a : Addr} {v : Value} (h : AM.storeVar P H t a v = some H') : H'.nxt = H.nxt ∧ ∀ b, b ≠ a.block → H'.get b = H.get b := by
  unfold AM.storeVar at h
  simp only at h
  repeat' split at h
  all_goals first
    | (cases h; done)
    | (cases h; exact ⟨rfl, fun b hb => by rw [Hp.get_set, if_neg hb]⟩)

theorem storeOp_inv {E : Env} {r : Operand → Value} {o : Oper} {H H' : Hp} {b : Nat} (h : storeOp E r o H = some (H', b)) :
    ∃ t a x ad, o.op = .store t a x ∧ r a = .pointer (some ad) ∧ ad.block = b ∧ AM.storeVar E.P H t ad (r x) = some H' := by
  unfold storeOp at h
  split at h
  · rename_i t a x e
    split at h
    · rename_i ad ea
      cases hs : AM.storeVar E.P H t ad (r x) with
      | none => rw [hs] at h; cases h
      | some K =>
        rw [hs] at h
        cases h
        exact ⟨t, a, x, ad, e, ea, rfl, hs⟩
    · cases h
  · cases h

theorem storeOp_block {E : Env} {r : Operand → Value} {o : Oper} {H H' K K' : Hp} {b c : Nat} (h : storeOp E r o H = some (H', b)) (h2 : storeOp E r o K = some (K', c)) : c = b := by
  obtain ⟨t, a, x, ad, e1, e2, e3, _⟩ := storeOp_inv h
  obtain ⟨t', a', x', ad', f1, f2, f3, _⟩ := storeOp_inv h2
  rw [e1] at f1; cases f1
  rw [e2] at f2; cases f2
  rw [← e3, ← f3]

theorem storeOp_far {E : Env} {r : Operand → Value} {o : Oper} {H H' : Hp} {b : Nat} (h : storeOp E r o H = some (H', b)) : H'.nxt = H.nxt ∧ ∀ c, c ≠ b → H'.get c = H.get c := by
  obtain ⟨t, a, x, ad, _, _, e3, e4⟩ := storeOp_inv h
  rw [← e3]; exact storeVar_inv e4

theorem sameBlock_get {H K : Hp} {b : Nat} (h : sameBlock H K b = true) : H.get b = K.get b := by
  unfold sameBlock at h
  split at h
  · rename_i c e z f op c' e' z' f' op' h1 h2
    simp only [Bool.and_eq_true] at h
    obtain ⟨⟨⟨⟨a1, a2⟩, a3⟩, a4⟩, a5⟩ := h
    rw [h1, h2, veqs_eq (veq_eq 20) _ _ a1, Nat.eq_of_beq_eq_true a2, Nat.eq_of_beq_eq_true a3, eq_of_beq a4, eq_of_beq a5]
  · cases h

theorem HR.congr {ρ : Rn} {H K : Hp} {h : Array Obj} (k : HR ρ H h) (e : ∀ b, K.get b = H.get b) (en : K.nxt = H.nxt) : HR ρ K h :=
  ⟨fun b o i a c => k.obj b o i (by rw [← e]; exact a) c, fun b b' i i' a c => k.inj b b' i i' (by rw [← e]; exact a) (by rw [← e]; exact c), fun b hb => by
    rw [e]; exact k.fresh b (by rw [← en]; exact hb)⟩
theorem Grw.congr {m : Nat} {ρ ρ' : Rn} {H H' K : Hp} {w w' : World} (g : Grw m ρ H w ρ' H' w') (e : ∀ b, K.get b = H'.get b) (en : K.nxt = H'.nxt) : Grw m ρ H w ρ' K w' :=
  ⟨g.le, fun cb hcb h => by
    obtain ⟨a, b⟩ := g.keep cb hcb h
    exact ⟨a, fun x i hx => b x i (by rw [← e]; exact hx)⟩, g.size, g.low, by rw [en]; exact g.nxt, g.os, g.tape, g.output⟩

section
variable {E : Env} {all : List Oper} {done acted : Nat} {ss : List (List (Nat × Oper))} {lo hi : Nat} {fr : AFr} {H : Hp} {cs' : List Frame} {k' : List Item}

/-- A store that stands next. -/
theorem store_step {ρ : Rn} {w : World} {fr' : Frame} {x : Nat} {l' : List Nat} {o : Oper} {H' : Hp} {b : Nat} (hr : HR ρ H w.heap) (hg : GlobR E.G ρ) (d : Drw E.P all done acted ss (x :: l') lo hi ρ fr.nt fr.tm fr'.tmps) (ho : all[x]? = some o)
    (hop : opOk E.G o = true) (hst : isStore o = true) (hs : storeOp E fr.ev o H = some (H', b)) (hm : fr'.mode = .run) (ht : fr'.todo = .inRegion ⟨all⟩ (x :: l') :: k') (m : Nat) :
    ∃ w', step E.P (lone fr' cs' w) = .next (lone { fr' with todo := .inRegion ⟨all⟩ l' :: k' } cs' w') ∧ HR ρ H' w'.heap ∧ Grw m ρ H w ρ H' w' := by
  obtain ⟨t, a, y, ad, e1, e2, e3, e4⟩ := storeOp_inv hs
  have hev : EvR ρ o fr.ev fr'.eval := ev_ok hg hop fun t => d.reads ho
  have hdg : o.guard = none ∧ o.dst = none := by
    unfold isStore at hst
    split at hst
    · rename_i h1 h2; exact ⟨h1, h2⟩
    · cases hst
  have hop2 : o.op.operands = #[a, y] := by rw [e1]; rfl
  have ha : VR ρ (fr.ev a) (fr'.eval a) := hev a (by rw [hop2]; simp)
  have hy : VR ρ (fr.ev y) (fr'.eval y) := hev y (by rw [hop2]; simp)
  rw [e2] at ha
  obtain ⟨w', r1, r2, r3⟩ := store_ok (P := E.P) hr e4 ha hy m
  refine ⟨w', ?_, r2, r3⟩
  have hx : (Go.execOp fr'.eval o).run E.P w = .ok .skip w' := by
    have : Go.execOp fr'.eval o = (do Instr.storeAt t (fr'.eval a) (fr'.eval y); pure Next.skip) := by
      unfold Go.execOp; rw [e1]
    rw [this]; exact liftU r1
  have hw : Region.wanted o (yielded ⟨all⟩ fr'.tmps) = true := by unfold Region.wanted; rw [hdg.1]
  have := step_op_region (P := E.P) (cs' := cs') (w := w) hm ht ho hw (.inr fun c q => by rw [e1] at q; cases q) _ _ _ (apply_skip hx)
  rw [finish_region ht ho, hdg.2] at this
  exact this

/-- Two stores, and what the model does between them. -/
theorem two_ok {ρ : Rn} {w : World} {fr' : Frame} {s t u v : Nat × Oper} {l3 : List Nat} {Hu Huv : Hp} {bu bv : Nat} {acted' : Nat} (hops : ∀ o ∈ all, opOk E.G o = true) (hr : HR ρ H w.heap) (hg : GlobR E.G ρ)
    (d : Drw E.P all done acted ([s, t] :: ss) (u.1 :: l3) lo hi ρ fr.nt fr.tm fr'.tmps) (huv : (u = s ∧ v = t) ∨ (u = t ∧ v = s)) (hu : storeOp E fr.ev u.2 H = some (Hu, bu)) (hv : storeOp E fr.ev v.2 Hu = some (Huv, bv))
    (K0 : ∀ p ∈ hereOf E.P (masks all 0 []) (zipIx all 0) acted ([s, t] :: ss), bit done p.1 = true ∧ holds E all fr H p.2 = true) (hact : ∀ i, bit acted' i = true → bit acted i = true ∨ Pre all s.1 i ∨ Pre all t.1 i)
    (hm : fr'.mode = .run) (ht : fr'.todo = .inRegion ⟨all⟩ (u.1 :: l3) :: k') :
    ∃ l4 ρ' w' tmps', Steps E.P (lone fr' cs' w) (lone { fr' with tmps := tmps', todo := .inRegion ⟨all⟩ l4 :: k' } cs' w') ∧ HR ρ' Huv w'.heap ∧ Grw lo ρ H w ρ' Huv w' ∧ Drw E.P all done acted' ss l4 lo hi ρ' fr.nt fr.tm tmps' := by
  have hus : u ∈ [s, t] := by rcases huv with ⟨rfl, rfl⟩ | ⟨rfl, rfl⟩ <;> simp
  have hvs : v ∈ [s, t] := by rcases huv with ⟨rfl, rfl⟩ | ⟨rfl, rfl⟩ <;> simp
  obtain ⟨hou, hau, _⟩ := d.mem _ List.mem_cons_self u hus
  obtain ⟨hov, hav, _⟩ := d.mem _ List.mem_cons_self v hvs
  have hpair : pairOk E.P (masks all 0 []) (zipIx all 0) s t = true := by
    rcases d.grp _ List.mem_cons_self with ⟨q, e⟩ | ⟨s', t', e, h⟩
    · cases e
    · cases e; exact h
  have hp2 := hpair
  unfold pairOk at hp2
  simp only [Bool.and_eq_true] at hp2
  obtain ⟨⟨⟨_, hss⟩, hst⟩, hall⟩ := hp2
  have hsu : isStore u.2 = true := by rcases huv with ⟨rfl, rfl⟩ | ⟨rfl, rfl⟩ <;> assumption
  have hsv : isStore v.2 = true := by rcases huv with ⟨rfl, rfl⟩ | ⟨rfl, rfl⟩ <;> assumption
  -- their numbers
  have hdup := d.sdup
  simp only [List.flatten_cons, List.cons_append, List.nil_append, List.map_cons, List.nodup_cons, List.mem_cons, not_or] at hdup
  obtain ⟨⟨hst1, hs1⟩, ht1, hdup'⟩ := hdup
  have hne : v.1 ≠ u.1 := by rcases huv with ⟨rfl, rfl⟩ | ⟨rfl, rfl⟩; exact fun e => hst1 e.symm; exact hst1
  have hu1 : u.1 ∉ ss.flatten.map (·.1) := by rcases huv with ⟨rfl, rfl⟩ | ⟨rfl, rfl⟩ <;> assumption
  have hv1 : v.1 ∉ ss.flatten.map (·.1) := by rcases huv with ⟨rfl, rfl⟩ | ⟨rfl, rfl⟩ <;> assumption
  have notin : ∀ {z : Nat}, z ∉ ss.flatten.map (·.1) → ∀ g ∈ ss, ∀ p ∈ g, p.1 ≠ z := fun hz g hg p hp e => hz (List.mem_map.2 ⟨p, List.mem_flatten.2 ⟨g, hg, hp⟩, e⟩)
  have cases2 : ∀ p ∈ [s, t], p = u ∨ p = v := by
    intro p hp
    rcases huv with ⟨rfl, rfl⟩ | ⟨rfl, rfl⟩
    · simpa using hp
    · simp at hp; exact hp.symm
  have hord := List.pairwise_cons.1 d.ord
  -- the first
  obtain ⟨w1, s1, r1, g1⟩ := store_step (cs' := cs') hr hg d hou (hops _ (List.mem_of_getElem? hou)) hsu hu hm ht lo
  have d1 : Drw E.P all done (Nat.lor acted (((masks all 0 [])[u.1]?).getD 0)) ([v] :: ss) l3 lo hi ρ fr.nt fr.tm fr'.tmps := by
    refine d.did hou hau ?_ ?_ ?_ ?_ ?_ ?_
    · intro g' hg' p hp
      rcases List.mem_cons.1 hg' with rfl | hg'
      · have e : p = v := by simpa using hp
        subst e
        exact ⟨hne, _, List.mem_cons_self, hvs⟩
      · exact ⟨notin hu1 g' hg' p hp, g', List.mem_cons_of_mem _ hg', hp⟩
    · intro g hg p hp hpu
      rcases List.mem_cons.1 hg with rfl | hg
      · rcases cases2 p hp with rfl | rfl
        · exact absurd rfl hpu
        · exact ⟨_, List.mem_cons_self, by simp⟩
      · exact ⟨g, List.mem_cons_of_mem _ hg, hp⟩
    · refine .cons (fun h hh q hq t' ht' => ?_) hord.2
      have e : q = v := by simpa using hq
      subst e
      exact hord.1 h hh q hvs t' ht'
    · intro g hg
      rcases List.mem_cons.1 hg with rfl | hg
      · exact .inl ⟨v, rfl⟩
      · exact d.grp g (List.mem_cons_of_mem _ hg)
    · simp only [List.flatten_cons, List.cons_append, List.nil_append, List.map_cons, List.nodup_cons]
      exact ⟨hv1, hdup'⟩
    · intro i hi
      rw [bit_lor, Bool.or_eq_true] at hi
      exact hi
  -- between them
  obtain ⟨l2, ρ2, w2, tmps2, s2, r2, g2, d2, e2⟩ := pend_run (cs' := cs') (k' := k') (H := Hu) hops (fun j l1 ρ tmps o dd ho ha => by
    obtain ⟨m1, m2⟩ := dd.may ho ha
    have hz : (j, o) ∈ zipIx all 0 := by have := zipIx_get all 0 j o ho; simpa using this
    have h3 := List.all_eq_true.1 hall _ hz
    simp only [ha, Bool.false_or, Bool.and_eq_true, beq_iff_eq] at h3
    obtain ⟨h4, h5⟩ := h3
    have nv : ¬ Pre all j v.1 := m1 v.1 ⟨[v], List.mem_cons_self, v, by simp, rfl⟩
    have nst : ¬ Pre all j s.1 ∧ ¬ Pre all j t.1 := by
      unfold Pre at nv ⊢
      rcases huv with ⟨rfl, rfl⟩ | ⟨rfl, rfl⟩
      · rw [h4]; exact ⟨nv, nv⟩
      · rw [← h4]; exact ⟨nv, nv⟩
    have hun : u.1 ∉ j :: l1 := by
      intro hin
      obtain ⟨g, hgm, hgu⟩ := dd.act u.1 hin u.2 hou hau
      rcases List.mem_cons.1 hgm with rfl | hgm
      · have : (u.1, u.2) = v := by simpa using hgu
        exact hne (by rw [← this])
      · exact notin hu1 g hgm _ hgu rfl
    have nu : ¬ Pre all u.1 j := fun hp => dd.closed u.1 j (List.getElem?_eq_some_iff.1 hou).1 hun hp List.mem_cons_self
    have hnr : noRead o = true ∧ isNew o = false := by
      simp only [Bool.or_eq_true, Bool.and_eq_true, Bool.not_eq_true'] at h5
      rcases h5 with (h5 | h5) | h5
      · exact absurd h5 nst.1
      · exfalso
        rcases huv with ⟨rfl, rfl⟩ | ⟨rfl, rfl⟩
        · exact nu h5.1
        · exact nu h5.2
      · exact h5
    have hin : (j, o) ∈ hereOf E.P (masks all 0 []) (zipIx all 0) acted ([s, t] :: ss) := by
      refine here_of ho ha ?_ ?_
      · rintro k ⟨g, hgm, p, hp, rfl⟩
        rcases List.mem_cons.1 hgm with rfl | hgm
        · simp only [List.mem_cons, List.not_mem_nil, or_false] at hp
          rcases hp with rfl | rfl
          · exact nst.1
          · exact nst.2
        · exact m1 p.1 ⟨g, List.mem_cons_of_mem _ hgm, p, hp, rfl⟩
      · rw [bit_lor, Bool.or_eq_false_iff] at m2
        exact m2.1
    obtain ⟨k1, k2⟩ := K0 _ hin
    exact ⟨k1, by rw [noRead_holds hnr.1 hnr.2 Hu H]; exact k2⟩) l3 { fr' with todo := .inRegion ⟨all⟩ l3 :: k' } ρ w1 r1 hg d1 hm rfl
  have hvin : v.1 ∈ l2 := (d2.mem _ List.mem_cons_self v (by simp)).2.2
  rcases e2 with e2 | ⟨j, l4, o, rfl, hoj, haj⟩
  · rw [e2] at hvin; simp at hvin
  have hjv := d2.head hoj haj
  have ejv : (j, o) = v := by simpa using hjv
  obtain ⟨rfl, rfl⟩ : j = v.1 ∧ o = v.2 := by rw [← ejv]; exact ⟨rfl, rfl⟩
  -- the second
  obtain ⟨w3, s3, r3, g3⟩ := store_step (cs' := cs') (fr' := { fr' with tmps := tmps2, todo := .inRegion ⟨all⟩ (v.1 :: l4) :: k' }) r2 (hg.mono g2.le) d2 hov (hops _ (List.mem_of_getElem? hov)) hsv hv hm rfl lo
  have d3 : Drw E.P all done acted' ss l4 lo hi ρ2 fr.nt fr.tm tmps2 := by
    have h := d2.did (ss' := ss) (acted' := Nat.lor (Nat.lor acted (((masks all 0 [])[u.1]?).getD 0)) (((masks all 0 [])[v.1]?).getD 0)) hov hav ?_ ?_ hord.2 (fun g hg => d.grp g (List.mem_cons_of_mem _ hg)) hdup' ?_
    · refine h.act_ext fun i hi => ?_
      rw [bit_lor, bit_lor, Bool.or_eq_true, Bool.or_eq_true]
      rcases hact i hi with h | h | h
      · exact .inl (.inl h)
      · rcases huv with ⟨rfl, rfl⟩ | ⟨rfl, rfl⟩
        · exact .inl (.inr h)
        · exact .inr h
      · rcases huv with ⟨rfl, rfl⟩ | ⟨rfl, rfl⟩
        · exact .inr h
        · exact .inl (.inr h)
    · intro g' hg' p hp
      exact ⟨notin hv1 g' hg' p hp, g', List.mem_cons_of_mem _ hg', hp⟩
    · intro g hg p hp hpv
      rcases List.mem_cons.1 hg with rfl | hg
      · have : p = v := by simpa using hp
        exact absurd (by rw [this]) hpv
      · exact ⟨g, hg, hp⟩
    · intro i hi
      rw [bit_lor, Bool.or_eq_true] at hi
      exact hi
  exact ⟨l4, ρ2, w3, tmps2, (Steps.head s1 s2).trans (.one s3), r3, (g1.trans g2).trans g3, d3⟩

end
end Go.AM
