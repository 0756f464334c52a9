/-
  AM18: frames, in both machines.
-/
import Derived.Test.YtbdoaifijdlkjaaGreatDoorAM17
namespace Go.AM
open Go

structure EntryR (ρ : Rn) (e e' : PanicEntry) : Prop where
  v : VR ρ e.v e'.v
  done : e'.recovered = e.recovered
  ends : e'.goexit = e.goexit
theorem EntryR.mono {ρ ρ' : Rn} (h : ρ.le ρ') (e e' : PanicEntry) (k : EntryR ρ e e') : EntryR ρ' e e' := ⟨k.v.mono h, k.done, k.ends⟩

inductive ModeR (ρ : Rn) : FrameMode → FrameMode → Prop where
  | run : ModeR ρ .run .run
  | returning : ModeR ρ .returning .returning
  | panicking {c c' : List PanicEntry} (h : L2 (EntryR ρ) c c') : ModeR ρ (.panicking c) (.panicking c')
theorem ModeR.mono {ρ ρ' : Rn} (h : ρ.le ρ') {a b : FrameMode} (k : ModeR ρ a b) : ModeR ρ' a b := by
  cases k with
  | run => exact .run
  | returning => exact .returning
  | panicking k => exact .panicking (k.mono (EntryR.mono h))

inductive ItR (ρ : Rn) : AItem → Item → Prop where
  | code (c : Code) : ItR ρ (.code c) (.code c)
  | inBlock (id : Nat) : ItR ρ (.inBlock id) (.inBlock id)
  | inLoop (c : Code) : ItR ρ (.inLoop c) (.inLoop c)
  | inScope (c : Code) : ItR ρ (.inScope c) (.inScope c)
  | ops {all rest : List Oper} {j : Nat} (h : all.drop j = rest) : ItR ρ (.ops all rest) (.inRegion ⟨all⟩ (List.range' j rest.length))
  | inRangeFunc {l : Nat} {i : BI} (h : ρ l = some i) (hs : i.sh = 0) : ItR ρ (.inRangeFunc l) (.inRangeFunc i.blk)
  | endRangeFunc {l : Nat} {i : BI} (h : ρ l = some i) (hs : i.sh = 0) : ItR ρ (.endRangeFunc l) (.endRangeFunc i.blk)
  | beginRound : ItR ρ .beginRound .beginRound
theorem ItR.mono {ρ ρ' : Rn} (h : ρ.le ρ') (a : AItem) (b : Item) (k : ItR ρ a b) : ItR ρ' a b := by
  cases k with
  | code c => exact .code c
  | inBlock c => exact .inBlock c
  | inLoop c => exact .inLoop c
  | inScope c => exact .inScope c
  | ops e => exact .ops e
  | inRangeFunc e hs => exact .inRangeFunc (h _ _ e) hs
  | endRangeFunc e hs => exact .endRangeFunc (h _ _ e) hs
  | beginRound => exact .beginRound

def RdR (ρ : Rn) : Option Nat → Option Nat → Prop
  | none, none => True
  | some l, some l' => ∃ i, ρ l = some i ∧ i.sh = 0 ∧ l' = i.blk
  | _, _ => False
theorem RdR.mono {ρ ρ' : Rn} (h : ρ.le ρ') {a b : Option Nat} (k : RdR ρ a b) : RdR ρ' a b := by
  cases a <;> cases b <;> simp only [RdR] at k ⊢
  obtain ⟨i, h1, h2, h3⟩ := k
  exact ⟨i, h _ _ h1, h2, h3⟩

structure FrC (ρ : Rn) (fr : AFr) (fr' : Frame) : Prop where
  fn : fr'.fn = fr.fn
  defers : L2 (DefR ρ) fr.defers fr'.defers
  mode : ModeR ρ fr.mode fr'.mode
  kind : fr'.kind = if fr.df then .deferred else .normal
  round : RdR ρ fr.round fr'.roundOf
theorem FrC.mono {ρ ρ' : Rn} (h : ρ.le ρ') {fr : AFr} {fr' : Frame} (k : FrC ρ fr fr') : FrC ρ' fr fr' :=
  ⟨k.fn, k.defers.mono (DefR.mono h), k.mode.mono h, k.kind, k.round.mono h⟩

/-! ### regions that draw -/
/-- Must j be done ahead of i? -/
def Pre (all : List Oper) (i j : Nat) : Prop := bit (((masks all 0 [])[i]?).getD 0) j = true

/-- What a pair of stores must meet, that no order binds. -/
def pairOk (P : Program) (ms : List Nat) (l : List (Nat × Oper)) (s t : Nat × Oper) : Bool :=
  !bit ((ms[t.1]?).getD 0) s.1 && isStore s.2 && isStore t.2 && l.all (fun p => acts P p.2 || (bit ((ms[p.1]?).getD 0) s.1 == bit ((ms[p.1]?).getD 0) t.1 && (bit ((ms[p.1]?).getD 0) s.1 || (bit ((ms[s.1]?).getD 0) p.1 && bit ((ms[t.1]?).getD 0) p.1) || (noRead p.2 && !isNew p.2))))

/-- Where both machines stand in a region that draws: l is what the model has to do still. -/
structure Drw (P : Program) (all : List Oper) (done acted : Nat) (ss : List (List (Nat × Oper))) (l : List Nat) (lo hi : Nat) (ρ : Rn) (nt : Nat) (tm : Tr Value) (tmps : Array Value) : Prop where
  fit : tmpsFit P (masks all 0 []) (zipIx all 0) = true
  ord : ss.Pairwise fun g h => ∀ s ∈ g, ∀ t ∈ h, Pre all t.1 s.1
  back : ∀ i j, Pre all i j → j < i
  grp : ∀ g ∈ ss, (∃ s, g = [s]) ∨ ∃ s t, g = [s, t] ∧ pairOk P (masks all 0 []) (zipIx all 0) s t = true
  mem : ∀ g ∈ ss, ∀ p ∈ g, all[p.1]? = some p.2 ∧ acts P p.2 = true ∧ p.1 ∈ l
  act : ∀ i ∈ l, ∀ o, all[i]? = some o → acts P o = true → ∃ g ∈ ss, (i, o) ∈ g
  sdup : (ss.flatten.map (·.1)).Nodup
  lt : ∀ i ∈ l, i < all.length
  nodup : l.Nodup
  pw : l.Pairwise fun x y => ¬ Pre all x y
  closed : ∀ j i, j < all.length → j ∉ l → Pre all j i → i ∉ l
  actd : ∀ i, bit acted i = true → i ∉ l
  dn : ∀ i o, all[i]? = some o → acts P o = false → i ∉ l → bit done i = true
  dlt : ∀ i ∈ l, ∀ o d, all[i]? = some o → acts P o = false → bit done i = true → o.dst = some d → d < nt
  size : tmps.size = nt
  tmr : ∀ d, (∀ i ∈ l, ∀ o, all[i]? = some o → acts P o = false → o.dst ≠ some d) → VR ρ ((tm.get d).getD undefV) (tmps.getD d undef)
  new : ∀ i ∈ l, ∀ o d b, all[i]? = some o → isNew o = true → bit done i = true → o.dst = some d → blockOf ((tm.get d).getD undefV) = some b → ρ b = none ∧ lo ≤ b ∧ b < hi
  inj : ∀ i ∈ l, ∀ i' ∈ l, ∀ o o' d d' b, all[i]? = some o → all[i']? = some o' → isNew o = true → isNew o' = true → bit done i = true → bit done i' = true → o.dst = some d → o'.dst = some d' →
    blockOf ((tm.get d).getD undefV) = some b → blockOf ((tm.get d').getD undefV) = some b → i = i'

theorem Drw.mono {P : Program} {all : List Oper} {done acted : Nat} {ss : List (List (Nat × Oper))} {l : List Nat} {lo hi hi' : Nat} {ρ ρ' : Rn} {nt : Nat} {tm : Tr Value} {tmps : Array Value}
    (k : Drw P all done acted ss l lo hi ρ nt tm tmps) (h : ρ.le ρ') (hn : ∀ b, b < hi → ρ b = none → ρ' b = none) (hh : hi ≤ hi') : Drw P all done acted ss l lo hi' ρ' nt tm tmps :=
  { k with
    tmr := fun d hd => (k.tmr d hd).mono h
    new := fun i hi o d b h1 h2 h3 h4 h5 => by
      obtain ⟨a1, a2, a3⟩ := k.new i hi o d b h1 h2 h3 h4 h5
      exact ⟨hn b a3 a1, a2, Nat.lt_of_lt_of_le a3 hh⟩ }

inductive FrR (P : Program) (G : Nat) (lo hi : Nat) (ρ : Rn) (fr : AFr) (fr' : Frame) : Prop where
  | plain (c : FrC ρ fr fr') (t : TmR ρ fr.nt fr.tm fr'.tmps) (k : L2 (ItR ρ) fr.todo fr'.todo)
  | draw {all : List Oper} {sts : List Stage} {k : List AItem} {k' : List Item} {l : List Nat} {done acted : Nat} {ss : List (List (Nat × Oper))} (c : FrC ρ fr fr') (m : fr.mode = .run)
      (e : fr.todo = .dr all sts :: k) (e' : fr'.todo = .inRegion ⟨all⟩ l :: k') (hk : L2 (ItR ρ) k k') (hs : sts = stages P (masks all 0 []) (zipIx all 0) done acted ss)
      (hops : ∀ o ∈ all, opOk G o = true) (d : Drw P all done acted ss l lo hi ρ fr.nt fr.tm fr'.tmps)
  | draws {all : List Oper} {o : Oper} {sts : List Stage} {k : List AItem} {k' : List Item} {i : Nat} {l : List Nat} {done acted : Nat} {ss : List (List (Nat × Oper))} (c : FrC ρ fr fr') (m : fr.mode = .run)
      (e : fr.todo = .drs all o sts :: k) (e' : fr'.todo = .inRegion ⟨all⟩ (i :: l) :: k') (hk : L2 (ItR ρ) k k') (hs : sts = stages P (masks all 0 []) (zipIx all 0) done acted ss)
      (hops : ∀ o ∈ all, opOk G o = true) (ho : all[i]? = some o) (ha : acts P o = true) (d : Drw P all done acted ss l lo hi ρ fr.nt fr.tm fr'.tmps)

theorem FrR.c {P : Program} {G : Nat} {lo hi : Nat} {ρ : Rn} {fr : AFr} {fr' : Frame} (k : FrR P G lo hi ρ fr fr') : FrC ρ fr fr' := by
  cases k <;> assumption

theorem FrR.mono {P : Program} {G : Nat} {lo hi hi' : Nat} {ρ ρ' : Rn} {fr : AFr} {fr' : Frame} (k : FrR P G lo hi ρ fr fr') (h : ρ.le ρ') (hn : ∀ b, b < hi → ρ b = none → ρ' b = none) (hh : hi ≤ hi') :
    FrR P G lo hi' ρ' fr fr' := by
  cases k with
  | plain c t k => exact .plain (c.mono h) (t.mono h) (k.mono (ItR.mono h))
  | draw c m e e' hk hs hops d => exact .draw (c.mono h) m e e' (hk.mono (ItR.mono h)) hs hops (d.mono h hn hh)
  | draws c m e e' hk hs hops ho ha d => exact .draws (c.mono h) m e e' (hk.mono (ItR.mono h)) hs hops ho ha (d.mono h hn hh)

/-- The callers; what lies below a bound may not be born by those above. -/
inductive StackR (P : Program) (G : Nat) (cs0 : List Frame) (ρ : Rn) : Nat → List AFr → List Frame → Prop where
  | nil (hi : Nat) : StackR P G cs0 ρ hi [] cs0
  | cons {lo hi : Nat} {fr : AFr} {fr' : Frame} {cs : List AFr} {cs' : List Frame} (hlo : lo ≤ hi) (h : FrR P G lo hi ρ fr fr') (k : StackR P G cs0 ρ lo cs cs') : StackR P G cs0 ρ hi (fr :: cs) (fr' :: cs')

theorem StackR.mono {P : Program} {G : Nat} {cs0 : List Frame} {ρ ρ' : Rn} (h : ρ.le ρ') : ∀ {hi : Nat} {cs : List AFr} {cs' : List Frame}, StackR P G cs0 ρ hi cs cs' → (∀ b, b < hi → ρ b = none → ρ' b = none) → StackR P G cs0 ρ' hi cs cs' := by
  intro hi cs cs' k
  induction k with
  | nil hi => intro _; exact .nil hi
  | cons hlo hf _ ih => intro hn; exact .cons hlo (hf.mono h hn (Nat.le_refl _)) (ih fun b hb => hn b (Nat.lt_of_lt_of_le hb hlo))

/-! ### puts -/
theorem put_get {nt : Nat} {tm : Tr Value} {a : Array Value} (hs : a.size = nt) (v v' : Value) (d t : Nat) :
    (((bif Nat.blt d nt then tm.put d (some v) else tm).get t).getD undefV = if t = d ∧ d < nt then v else (tm.get t).getD undefV) ∧
      ((a.setIfInBounds d v').getD t undef = if t = d ∧ d < nt then v' else a.getD t undef) := by
  cases hb : Nat.blt d nt with
  | true =>
    have hlt := blt_lt hb
    simp only [cond_true, Tr.get_put]
    by_cases e : t = d
    · subst e
      have : t < a.size := by rw [hs]; exact hlt
      simp only [hlt, and_self, if_true, Option.getD_some, true_and]
      rw [Array.getD_eq_getD_getElem?, Array.getElem?_setIfInBounds_self_of_lt this]
      rfl
    · simp only [e, if_false, false_and, true_and]
      rw [Array.getD_eq_getD_getElem?, Array.getD_eq_getD_getElem?, Array.getElem?_setIfInBounds_ne (fun q => e q.symm)]
  | false =>
    have hge : ¬ d < nt := fun q => by rw [← Nat.blt_eq, hb] at q; cases q
    simp only [cond_false, hge, and_false, if_false, true_and]
    have : a.setIfInBounds d v' = a := by
      apply Array.ext_getElem?
      intro i
      rw [Array.getElem?_setIfInBounds]
      by_cases e : d = i
      · subst e
        rw [if_pos rfl, if_neg (by rw [hs]; exact hge), Array.getElem?_eq_none (by rw [hs]; omega)]
      · rw [if_neg e]
    rw [this]

def putC (d : Option Nat) (v : Value) (a : Array Value) : Array Value := match d with | some d => a.setIfInBounds d v | none => a

theorem TmR.putO {ρ : Rn} {fr : AFr} {a : Array Value} (h : TmR ρ fr.nt fr.tm a) {v v' : Value} (hv : VR ρ v v') (d : Option Nat) : TmR ρ (fr.put d v).nt (fr.put d v).tm (putC d v' a) := by
  cases d with
  | none => exact h
  | some d =>
    have := h.put hv d
    unfold AFr.put putC
    simp only
    cases hb : Nat.blt d fr.nt <;> simp only [hb, cond_true, cond_false] at this ⊢ <;> exact this

theorem zipIx_get {α : Type} : ∀ (l : List α) (k i : Nat) (a : α), l[i]? = some a → (k + i, a) ∈ zipIx l k
  | [], _, _, _, h => by simp at h
  | b :: l, k, 0, a, h => by simp at h; subst h; simp [zipIx]
  | b :: l, k, i + 1, a, h => by
    simp at h
    have := zipIx_get l (k + 1) i a h
    simp only [zipIx, List.mem_cons]
    right
    have e : k + (i + 1) = k + 1 + i := by omega
    rw [e]; exact this
theorem zipIx_inv {α : Type} : ∀ (l : List α) (k : Nat) (p : Nat × α), p ∈ zipIx l k → ∃ i, p.1 = k + i ∧ l[i]? = some p.2
  | [], _, _, h => by simp [zipIx] at h
  | b :: l, k, p, h => by
    simp only [zipIx, List.mem_cons] at h
    rcases h with rfl | h
    · exact ⟨0, rfl, rfl⟩
    · obtain ⟨i, h1, h2⟩ := zipIx_inv l (k + 1) p h
      exact ⟨i + 1, by omega, by simpa using h2⟩

/-- What 'tmpsFit' says of an operation that lays without acting. -/
theorem fit_at {P : Program} {all : List Oper} (h : tmpsFit P (masks all 0 []) (zipIx all 0) = true) {i : Nat} {o : Oper} (ho : all[i]? = some o) (ha : acts P o = false) :
    ∃ d, o.dst = some d ∧ ∀ j q, all[j]? = some q → (i = j ∨ q.dst ≠ some d) ∧ (d ∈ tmpsOf q → Pre all j i) ∧ (∀ g b, q.guard = some (g, b) → g = i → Pre all j i) := by
  unfold tmpsFit at h
  have h1 := List.all_eq_true.1 h (i, o) (by have := zipIx_get all 0 i o ho; simpa using this)
  simp only [ha, Bool.false_or] at h1
  cases hd : o.dst with
  | none => rw [hd] at h1; cases h1
  | some d =>
    rw [hd] at h1
    refine ⟨d, rfl, fun j q hq => ?_⟩
    have h2 := List.all_eq_true.1 h1 (j, q) (by have := zipIx_get all 0 j q hq; simpa using this)
    simp only [Bool.and_eq_true, Bool.or_eq_true, Bool.not_eq_true'] at h2
    obtain ⟨⟨h3, h4⟩, h5⟩ := h2
    refine ⟨?_, ?_, ?_⟩
    · rcases h3 with h3 | h3
      · exact .inl (Nat.eq_of_beq_eq_true h3)
      · refine .inr fun e => ?_
        rw [e] at h3
        simp at h3
    · intro hm
      rcases h4 with h4 | h4
      · rw [mem_contains] at h4
        have : (tmpsOf q).contains d = true := by simpa using hm
        rw [this] at h4; cases h4
      · exact h4
    · intro g b e1 e2
      rw [e1] at h5
      subst e2
      simp only [Bool.or_eq_true, Bool.not_eq_true'] at h5
      rcases h5 with h5 | h5
      · simp at h5
      · exact h5

theorem Drw.put {P : Program} {all : List Oper} {done acted : Nat} {ss : List (List (Nat × Oper))} {l : List Nat} {lo hi : Nat} {ρ : Rn} {fr : AFr} {tmps : Array Value}
    (k : Drw P all done acted ss l lo hi ρ fr.nt fr.tm tmps) {i : Nat} {o : Oper} (ho : all[i]? = some o) (ha : acts P o = true) {v v' : Value} (hv : VR ρ v v') :
    Drw P all done acted ss l lo hi ρ (fr.put o.dst v).nt (fr.put o.dst v).tm (putC o.dst v' tmps) := by
  cases hd : o.dst with
  | none => exact k
  | some d =>
    have hnt : (fr.put (some d) v).nt = fr.nt := by unfold AFr.put; simp only; cases Nat.blt d fr.nt <;> rfl
    have htm : (fr.put (some d) v).tm = (bif Nat.blt d fr.nt then fr.tm.put d (some v) else fr.tm) := by unfold AFr.put; simp only; cases Nat.blt d fr.nt <;> rfl
    rw [hnt, htm]
    have other : ∀ (i' : Nat) (o' : Oper) (d' : Nat), all[i']? = some o' → acts P o' = false → o'.dst = some d' → d' ≠ d := by
      intro i' o' d' h1 h2 h3 e
      subst e
      obtain ⟨d2, e1, e2⟩ := fit_at k.fit h1 h2
      rw [h3] at e1; cases e1
      rcases (e2 i o ho).1 with q | q
      · subst q; rw [ho] at h1; cases h1; rw [ha] at h2; cases h2
      · exact q hd
    have nac : ∀ o', isNew o' = true → acts P o' = false := by intro o' h; simp [acts, h]
    have hget := fun t => put_get (tm := fr.tm) k.size v v' d t
    refine { k with size := by simp [putC, k.size], tmr := fun t ht => ?_, new := ?_, inj := ?_ }
    · show VR ρ _ ((tmps.setIfInBounds d v').getD t undef)
      rw [(hget t).1, (hget t).2]
      split
      · exact hv
      · exact k.tmr t ht
    · intro i' hi' o' d' b h1 h2 h3 h4 h5
      rw [(hget d').1, if_neg (fun q => other i' o' d' h1 (nac _ h2) h4 q.1)] at h5
      exact k.new i' hi' o' d' b h1 h2 h3 h4 h5
    · intro i1 hi1 i2 hi2 o1 o2 d1 d2 b a1 a2 a3 a4 a5 a6 a7 a8 a9 a10
      rw [(hget d1).1, if_neg (fun q => other i1 o1 d1 a1 (nac _ a3) a7 q.1)] at a9
      rw [(hget d2).1, if_neg (fun q => other i2 o2 d2 a2 (nac _ a4) a8 q.1)] at a10
      exact k.inj i1 hi1 i2 hi2 o1 o2 d1 d2 b a1 a2 a3 a4 a5 a6 a7 a8 a9 a10

theorem put_c {ρ : Rn} {fr : AFr} {fr' : Frame} (c : FrC ρ fr fr') (d : Option Nat) (v : Value) (todo : List AItem) (tmps' : Array Value) (todo' : List Item) :
    FrC ρ { fr.put d v with todo := todo } { fr' with tmps := tmps', todo := todo' } := by
  have : (fr.put d v).fn = fr.fn ∧ (fr.put d v).defers = fr.defers ∧ (fr.put d v).mode = fr.mode ∧ (fr.put d v).df = fr.df ∧ (fr.put d v).round = fr.round := by
    unfold AFr.put; split
    · cases Nat.blt _ fr.nt <;> exact ⟨rfl, rfl, rfl, rfl, rfl⟩
    · exact ⟨rfl, rfl, rfl, rfl, rfl⟩
  obtain ⟨h1, h2, h3, h4, h5⟩ := this
  exact ⟨by simp only [h1]; exact c.fn, by simp only [h2]; exact c.defers, by simp only [h3]; exact c.mode, by simp only [h4]; exact c.kind, by simp only [h5]; exact c.round⟩

theorem put_mode (fr : AFr) (d : Option Nat) (v : Value) : (fr.put d v).mode = fr.mode := by
  unfold AFr.put; split
  · cases Nat.blt _ fr.nt <;> rfl
  · rfl

/-- A value comes to the frame that waits for it. -/
theorem finish_ok {P : Program} {G : Nat} {lo hi : Nat} {ρ : Rn} {fr g : AFr} {fr' : Frame} (k : FrR P G lo hi ρ fr fr') {v v' : Value} (hv : VR ρ v v') (h : finish fr v = some g) : FrR P G lo hi ρ g (fr'.finish v') := by
  cases k with
  | plain c t k =>
    unfold finish at h
    split at h
    · rename_i all o rest kk e
      cases h
      rw [e] at k
      generalize ht : fr'.todo = todo' at k
      cases k with
      | cons h1 h2 =>
        cases h1 with
        | ops hj =>
          rename_i m' j
          have ho : all[j]? = some o := by
            have := congrArg (fun l => l[0]?) hj
            simpa using this
          have hj' : all.drop (j + 1) = rest := by
            rw [← List.drop_drop, hj]; rfl
          have hfin : fr'.finish v' = { fr' with tmps := putC o.dst v' fr'.tmps, todo := .inRegion ⟨all⟩ (List.range' (j + 1) rest.length) :: m' } := by
            unfold Frame.finish
            rw [ht]
            simp only [List.length_cons, List.range'_succ]
            have e0 : (⟨all⟩ : Array Oper)[j]? = some o := by rw [← Array.getElem?_toList]; exact ho
            rw [e0]
            simp only [Option.bind_some, putC]
            cases o.dst <;> rfl
          rw [hfin]
          exact .plain (put_c c _ _ _ _ _) (t.putO hv _) (.cons (.ops hj') h2)
    · rename_i all o sts kk e
      rw [e] at k
      generalize fr'.todo = todo' at k
      cases k with
      | cons h1 _ => cases h1
    · rename_i l kk e
      cases h
      rw [e] at k
      generalize ht : fr'.todo = todo' at k
      cases k with
      | cons h1 h2 =>
        cases h1 with
        | inRangeFunc hb hs =>
          rename_i m' i
          have hfin : fr'.finish v' = { fr' with todo := .endRangeFunc i.blk :: m' } := by
            unfold Frame.finish
            rw [ht]
          rw [hfin]
          exact .plain ⟨c.fn, c.defers, c.mode, c.kind, c.round⟩ t (.cons (.endRangeFunc hb hs) h2)
    · cases h
  | draw c m e e' hk hs hops d =>
    unfold finish at h
    rw [e] at h
    cases h
  | draws c m e e' hk hs hops ho ha d =>
    rename_i all o sts k k' i l done acted ss
    unfold finish at h
    rw [e] at h
    cases h
    have hfin : fr'.finish v' = { fr' with tmps := putC o.dst v' fr'.tmps, todo := .inRegion ⟨all⟩ l :: k' } := by
      unfold Frame.finish
      rw [e']
      have e0 : (⟨all⟩ : Array Oper)[i]? = some o := by rw [← Array.getElem?_toList]; exact ho
      simp only [e0, Option.bind_some, putC]
      cases o.dst <;> rfl
    rw [hfin]
    exact .draw (put_c c _ _ _ _ _) (by simp only [put_mode]; exact m) rfl rfl hk hs hops (d.put ho ha hv)

end Go.AM
