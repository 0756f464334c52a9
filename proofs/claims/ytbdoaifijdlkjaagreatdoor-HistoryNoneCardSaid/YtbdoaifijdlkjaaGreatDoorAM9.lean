/-
  AM9: fields, indexes, maps that are read; 'pure_ok'.
-/
import Derived.Test.YtbdoaifijdlkjaaGreatDoorAM8
namespace Go.AM
open Go

section
variable {P : Program} {ρ : Rn} {H : Hp} {w : World}

theorem field_place {f : Field} {n : Nat} (hz : szOf P f.type = some (n + 1)) (b o : Nat) : (fieldPlace ⟨b, o, none⟩ f).run P w = .ok ⟨b, o + f.offset, none⟩ w := by
  simp only [fieldPlace, Sem.run_bind, run_size (w := w) hz, Result.andThen_ok, Nat.succ_ne_zero, if_false, Sem.run_pure, add_none]

theorem fieldOf_inv {s i : Nat} {f : Field} (h : fieldOf P s i = some f) : ∃ fs, P.underlying s = some (.struct fs) ∧ fs[i]? = some f := by
  unfold fieldOf at h
  split at h
  · rename_i fs hu; exact ⟨fs, hu, by rw [← Array.getElem?_toList]; exact h⟩
  · cases h

theorem same_now {k : TypeDesc} {x y : Value} {b : Bool} (h : AM.sameNow k x y = some b) {y' : Value} (hy : VR ρ y y') : Instr.sameNow k x y' = some b := by
  unfold AM.sameNow at h
  split at h
  · cases hy.int_inv
    split at h
    · rename_i hk; cases sameKind_eq hk; cases h; simp [Instr.sameNow, beqInt_eq]
    · cases h
  · cases hy.str_inv; cases h
    simp only [Instr.sameNow, beqBytes_eq]
    rw [beq_toListBytes, str_eq, str_eq]
  · cases hy.bool_inv; cases h; rfl
  · cases h

theorem find_now {k : TypeDesc} {x : Value} : ∀ {es es' : List MapEntry} {i : Nat} {r : Option (Nat × Value)}, L2 (EntR ρ) es es' → AM.findNow k x es i = some r →
    (r = none ∧ Instr.findNow k x es' i = some none) ∨ (∃ j v v', r = some (i + j, v) ∧ Instr.findNow k x es' i = some (some (i + j, v')) ∧ VR ρ v v' ∧ j < es.length)
  | _, _, i, r, .nil, h => by simp only [AM.findNow] at h; cases h; exact .inl ⟨rfl, rfl⟩
  | _, _, i, r, .cons (a := e) (b := e') (l := l) (m := m) he hl, h => by
    simp only [AM.findNow] at h
    split at h
    · rename_i hs
      cases h
      exact .inr ⟨0, _, e'.val, rfl, by simp [Instr.findNow, same_now hs he.key], he.val, by simp⟩
    · rename_i hs
      rcases find_now hl h with ⟨h1, h2⟩ | ⟨j, v, v', h1, h2, h3, h4⟩
      · exact .inl ⟨h1, by simp [Instr.findNow, same_now hs he.key, h2]⟩
      · refine .inr ⟨j + 1, v, v', by rw [h1]; simp; omega, ?_, h3, by simp; omega⟩
        simp only [Instr.findNow, same_now hs he.key, h2]
        simp; omega
    · cases h

theorem plain_key {k : TypeDesc} {v : Value} (h : plainKey k v = true) : flatV v = true := by
  unfold plainKey at h
  split at h <;> first | rfl | cases h

theorem check_key {k : TypeDesc} {kt : Nat} {v : Value} (h : plainKey k v = true) (hu : P.underlying kt = some k) (e : Bool) : (Instr.checkKey e 10000 kt v).run P w = .ok () w := by
  rw [show (10000 : Nat) = 9999 + 1 from rfl]
  unfold Instr.checkKey
  simp only [Sem.run_bind, run_under (w := w) hu, Result.andThen_ok]
  unfold plainKey at h
  split at h <;> first | rfl | cases h

theorem map_at (k : HR ρ H w.heap) {r : Nat} {es : List MapEntry} {clock : Nat} (hg : H.get r = some (.map es clock)) {i : BI} (hb : ρ r = some i) :
    ∃ es', w.heap[i.blk]? = some (.map ⟨es'⟩ clock) ∧ L2 (EntR ρ) es es' := by
  obtain ⟨o', ho, hor⟩ := k.obj _ _ _ hg hb
  cases hor with
  | map hs h => exact ⟨_, ho, h⟩

theorem run_getObj' {b : Nat} {o : Obj} (h : w.heap[b]? = some o) (hn : ∀ c e f, o ≠ .cells c e f) : (getObj b).run P w = .ok o w := by
  unfold getObj Sem.run
  rw [h]
  cases o <;> first | rfl | exact absurd rfl (hn _ _ _)

theorem VR.map_inv {r : Nat} {v : Value} (h : VR ρ (.map (some r)) v) : ∃ i, ρ r = some i ∧ i.sh = 0 ∧ v = .map (some i.blk) := by
  cases h with
  | flat hf => simp [flatV] at hf
  | map h hs => exact ⟨_, h, hs, rfl⟩
theorem VR.map_none {v : Value} (h : VR ρ (.map none) v) : v = .map none := h.flat_inv rfl

theorem lookup_ok (k : HR ρ H w.heap) {t : Nat} {m m' x x' v : Value} {ok : Bool} (h : AM.lookup P H t m x ok = some v) (hm : VR ρ m m') (hx : VR ρ x x') :
    ∃ v', (Instr.lookup t m' x' ok).run P w = .ok v' w ∧ VR ρ v v' := by
  unfold AM.lookup at h
  split at h
  · rename_i kt et hu
    split at h
    · rename_i kd hkd
      split at h
      · cases h
      · rename_i hp
        simp only [Bool.not_eq_true', Bool.not_eq_false] at hp
        have hxf := hx.flat_inv (plain_key hp)
        subst hxf
        have fin : ∀ (es es' : List MapEntry), L2 (EntR ρ) es es' → (m' = .map none ∧ es' = [] ∨ ∃ b clock, m' = .map (some b) ∧ w.heap[b]? = some (.map ⟨es'⟩ clock)) → ∀ r, AM.findNow kd x' es 0 = some r →
            (match r with | some (_, v) => some (if ok then Value.tuple ⟨[v, .bool true]⟩ else v) | none => (zeroOf P et).map fun v => if ok then .tuple ⟨[v, .bool false]⟩ else v) = some v →
            ∃ v', (Instr.lookup t m' x' ok).run P w = .ok v' w ∧ VR ρ v v' := by
          intro es es' hl hm' r hr hv
          rcases find_now hl hr with ⟨rfl, h2⟩ | ⟨j, u, u', rfl, h2, h3, _⟩
          · simp only [] at hv
            cases hz : zeroOf P et with
            | none => rw [hz] at hv; cases hv
            | some z =>
              rw [hz] at hv; cases hv
              refine ⟨if ok then .tuple #[z, .bool false] else z, ?_, ?_⟩
              · rcases hm' with ⟨rfl, rfl⟩ | ⟨b, clock, rfl, ho⟩
                · simp only [Instr.lookup, Sem.run_bind, run_under (w := w) hu, Result.andThen_ok, check_key (w := w) hp hkd, Instr.findKey, run_under (w := w) hkd, h2, Sem.run_pure, run_zero (w := w) hz]
                · simp only [Instr.lookup, Sem.run_bind, run_under (w := w) hu, Result.andThen_ok, run_getObj' (P := P) ho (by simp), check_key (w := w) hp hkd, Instr.findKey, run_under (w := w) hkd, h2, Sem.run_pure, run_zero (w := w) hz]
              · cases ok
                · exact zero_VR hz ρ
                · exact .mk_tuple (.cons (zero_VR hz ρ) (.cons (.flat rfl) (.nil ρ)))
          · cases hv
            refine ⟨if ok then .tuple #[u', .bool true] else u', ?_, ?_⟩
            · rcases hm' with ⟨rfl, rfl⟩ | ⟨b, clock, rfl, ho⟩
              · simp only [Instr.findNow] at h2; cases h2
              · simp only [Instr.lookup, Sem.run_bind, run_under (w := w) hu, Result.andThen_ok, run_getObj' (P := P) ho (by simp), check_key (w := w) hp hkd, Instr.findKey, run_under (w := w) hkd, h2, Sem.run_pure]
            · cases ok
              · exact h3
              · exact .mk_tuple (.cons h3 (.cons (.flat rfl) (.nil ρ)))
        simp only [] at h
        split at h
        · cases h
        · rename_i i u hr
          split at hr
          · cases hr
          · rename_i r
            split at hr
            · rename_i es clock hg
              obtain ⟨j, hb, hs, rfl⟩ := hm.map_inv
              obtain ⟨es', ho, hl⟩ := map_at k hg hb
              exact fin es es' hl (.inr ⟨_, _, rfl, ho⟩) _ hr h
            · cases hr
          · cases hr
        · rename_i hr
          split at hr
          · cases hm.map_none
            exact fin [] [] .nil (.inl ⟨rfl, rfl⟩) none rfl h
          · rename_i r
            split at hr
            · rename_i es clock hg
              obtain ⟨j, hb, hs, rfl⟩ := hm.map_inv
              obtain ⟨es', ho, hl⟩ := map_at k hg hb
              exact fin es es' hl (.inr ⟨_, _, rfl, ho⟩) _ hr h
            · cases hr
          · cases hr
    · cases h
  · cases h

theorem born_ok : ∀ {es es' : List MapEntry} {n : Nat} {e : MapEntry}, L2 (EntR ρ) es es' → findBorn es n = some e → ∃ e', es'.find? (·.born == n) = some e' ∧ EntR ρ e e'
  | _, _, n, e, .nil, h => by simp [findBorn] at h
  | _, _, n, e, .cons (a := a) (b := b) (l := l) (m := m) he hl, h => by
    simp only [findBorn] at h
    cases hb : Nat.beq a.born n with
    | true =>
      rw [hb] at h; cases h
      have := Nat.eq_of_beq_eq_true hb
      exact ⟨b, by simp [he.born, this], he⟩
    | false =>
      rw [hb] at h
      obtain ⟨e', h1, h2⟩ := born_ok hl h
      refine ⟨e', ?_, h2⟩
      have : ¬ a.born = n := by rintro rfl; simp at hb
      have hb2 : (a.born == n) = false := by simpa using this
      simp only [List.find?_cons, he.born, hb2, h1]

theorem readV_ok (k : HR ρ H w.heap) {b : Builtin} {ts : List Nat} {ty : Nat} {cs : Array Bool} {args args' : List Value} {v : Value} (h : readV P H b ts args = some v) (hl : LR ρ args args') :
    ∃ v', (builtin b ⟨ts⟩ ty cs ⟨args'⟩).run P w = .ok (.value v') w ∧ VR ρ v v' := by
  unfold readV at h
  split at h
  · rename_i t ts x
    obtain ⟨x', r, rfl, hx, hr⟩ := hl.cons_inv
    cases hr.nil_inv
    split at h
    · rename_i s hu; cases hx.str_inv; cases h
      exact ⟨_, by simp [builtin, Builtin.len_, run_under (w := w) hu, goInt], .flat rfl⟩
    · rename_i n e hu; cases h
      exact ⟨_, by simp [builtin, Builtin.len_, run_under (w := w) hu, goInt], .flat rfl⟩
    · rename_i e o n c hu; cases h
      cases o with
      | none => cases hx.slice_none; exact ⟨_, by simp [builtin, Builtin.len_, run_under (w := w) hu, goInt], .flat rfl⟩
      | some a => obtain ⟨i, a', cap', rfl, _⟩ := hx.slice_inv; exact ⟨_, by simp [builtin, Builtin.len_, run_under (w := w) hu, goInt], .flat rfl⟩
    · rename_i hu; cases hx.map_none; cases h
      exact ⟨_, by simp [builtin, Builtin.len_, run_under (w := w) hu, goInt], .flat rfl⟩
    · rename_i r hu
      split at h
      · rename_i es clock hg
        cases h
        obtain ⟨j, hb, hs, rfl⟩ := hx.map_inv
        obtain ⟨es', ho, hl⟩ := map_at k hg hb
        refine ⟨_, by simp [builtin, Builtin.len_, run_under (w := w) hu, goInt, run_getObj' (P := P) ho (by simp)]; rfl, ?_⟩
        rw [hl.length]; exact .flat rfl
      · cases h
    · cases h
  · rename_i t ts x
    obtain ⟨x', r, rfl, hx, hr⟩ := hl.cons_inv
    cases hr.nil_inv
    split at h
    · rename_i e l n hu; cases hx.slice_none; cases h
      exact ⟨_, by simp [builtin, Builtin.cap_, run_under (w := w) hu, goInt], .flat rfl⟩
    · rename_i e a l n hu
      split at h
      · split at h
        · rename_i ho
          cases h
          obtain ⟨i, a', cap', rfl, hs, hb, hb', hs', hor⟩ := hx.slice_inv
          have hcap : cap' = n := by
            rcases hor with ⟨_, h2 | ⟨h1, h2, _⟩⟩ | ⟨_, h2, h3⟩
            · exact h2
            · unfold openAt at ho
              split at ho
              · rename_i c el z fz op hg
                obtain ⟨o', ho', hor'⟩ := k.obj _ _ _ hg hb
                obtain ⟨c', fr, rfl, rfl, rfl, hn, _⟩ := hor'.cells_inv
                rw [h1, ← hn, h2] at ho
                simp at ho
              · cases ho
            · omega
          subst hcap
          exact ⟨_, by simp [builtin, Builtin.cap_, run_under (w := w) hu, goInt], .flat rfl⟩
        · cases h
      · cases h
    · cases h
  · rename_i kx x ky y
    obtain ⟨x', r, rfl, hx, hr⟩ := hl.cons_inv
    obtain ⟨y', r, rfl, hy, hr⟩ := hr.cons_inv
    cases hr.nil_inv; cases hx.int_inv; cases hy.int_inv; cases h
    refine ⟨_, by simp [builtin, Builtin.min_, Builtin.min2]; rfl, ?_⟩
    rw [bleInt_eq]
    by_cases q : x ≤ y
    · have : ¬ y < x := by omega
      simp only [q, this, decide_true, if_true, if_false]; exact .flat rfl
    · have : y < x := by omega
      simp only [q, this, decide_false, if_true, if_false, Bool.false_eq_true]; exact .flat rfl
  · rename_i kx x ky y
    obtain ⟨x', r, rfl, hx, hr⟩ := hl.cons_inv
    obtain ⟨y', r, rfl, hy, hr⟩ := hr.cons_inv
    cases hr.nil_inv; cases hx.int_inv; cases hy.int_inv; cases h
    refine ⟨_, by simp [builtin, Builtin.max_, Builtin.max2]; rfl, ?_⟩
    rw [bleInt_eq]
    by_cases q : y ≤ x
    · have : ¬ x < y := by omega
      simp only [q, this, decide_true, if_true, if_false]; exact .flat rfl
    · have : x < y := by omega
      simp only [q, this, decide_false, if_true, if_false, Bool.false_eq_true]; exact .flat rfl
  · obtain ⟨x', r, rfl, hx, hr⟩ := hl.cons_inv
    cases hr.nil_inv; cases hx.slice_none; cases h
    exact ⟨_, rfl, .flat rfl⟩
  · rename_i a l c
    obtain ⟨x', r, rfl, hx, hr⟩ := hl.cons_inv
    cases hr.nil_inv; cases h
    obtain ⟨i, a', cap', rfl, hs, hb, hb', hs', hor⟩ := hx.slice_inv
    rcases hor with ⟨rfl, h2⟩ | ⟨_, h2, _⟩
    · have : cap' ≠ 0 := by rcases h2 with h2 | h2 <;> omega
      have e : Builtin.unsafeSliceData_ ⟨ts⟩ ty #[.slice (some ⟨i.blk, i.sh + a.off, none⟩) l cap'] = (if cap' ≠ 0 then pure (.pointer (some ⟨i.blk, i.sh + a.off, none⟩)) else (do
        if (← viewAt i.blk).isSome then pure (.pointer (some ⟨i.blk, i.sh + a.off, none⟩))
        else pure (.pointer (some ⟨← newObj (.view ⟨i.blk, i.sh + a.off, none⟩ (← elemOf ty)), 0, none⟩)))) := rfl
      refine ⟨.pointer (some ⟨i.blk, i.sh + a.off, none⟩), ?_, .ptr hs hb⟩
      show ((do pure (Next.value (← Builtin.unsafeSliceData_ ⟨ts⟩ ty #[.slice (some ⟨i.blk, i.sh + a.off, none⟩) l cap']))) : Sem Next).run P w = _
      rw [e, if_pos this]; rfl
    · cases h2
  · cases h

/-- The values of operands in both machines. -/
def EvR (ρ : Rn) (o : Oper) (ra rc : Operand → Value) : Prop := ∀ x ∈ o.op.operands.toList, VR ρ (ra x) (rc x)

theorem pure_ok {E : Env} (hE : E.P = P) (k : HR ρ H w.heap) {o : Oper} {ra rc : Operand → Value} (hev : EvR ρ o ra rc) {v : Value} (h : pureOp E ra o H = some v) :
    ∃ v', (Go.execOp rc o).run P w = .ok (.value v') w ∧ VR ρ v v' := by
  subst hE
  have lift : ∀ {s : Sem Value} {v : Value}, (∃ v', s.run E.P w = .ok v' w ∧ VR ρ v v') → ∃ v', (do pure (Next.value (← s)) : Sem Next).run E.P w = .ok (.value v') w ∧ VR ρ v v' := by
    rintro s v ⟨v', h1, h2⟩
    exact ⟨v', by simp only [Sem.run_bind, h1, Result.andThen_ok, Sem.run_pure], h2⟩
  obtain ⟨dst, op, type, pos, after, guard⟩ := o
  unfold EvR at hev
  cases op <;> simp only [Op.operands] at hev <;> simp only [pureOp] at h <;> simp only [Go.execOp] <;> try (cases h; done)
  case move x => cases h; exact ⟨_, rfl, hev _ (by simp)⟩
  case assign x => cases h; exact ⟨_, rfl, hev _ (by simp)⟩
  case pick c a b =>
    have hc := hev c (by simp)
    have ha := hev a (by simp)
    have hb := hev b (by simp)
    split at h
    · rename_i e; rw [e] at hc; cases h; exact ⟨_, by simp [hc.bool_inv, asBool], ha⟩
    · rename_i e; rw [e] at hc; cases h; exact ⟨_, by simp [hc.bool_inv, asBool], hb⟩
    · cases h
  case build t parts =>
    refine lift ?_
    have hp : L2 (fun p q => q.1 = p.1 ∧ VR ρ p.2 q.2) (parts.toList.map fun p => (p.1, ra p.2)) (parts.toList.map fun p => (p.1, rc p.2)) := by
      have : ∀ p ∈ parts.toList, VR ρ (ra p.2) (rc p.2) := fun p hp => hev p.2 (by simp; exact ⟨p.1, by simpa using hp⟩)
      generalize parts.toList = l at this ⊢
      induction l with
      | nil => exact .nil
      | cons p l ih => exact .cons ⟨rfl, this p (by simp)⟩ (ih fun q hq => this q (by simp [hq]))
    have := build_ok (w := w) hp h
    have e : (⟨parts.toList.map fun p => (p.1, rc p.2)⟩ : Array (Nat × Value)) = parts.map fun (i, x) => (i, rc x) := by apply Array.ext'; simp
    rw [e] at this
    exact this
  case load t a =>
    refine lift ?_
    have ha := hev a (by simp)
    split at h
    · rename_i a0 e
      rw [e] at ha
      obtain ⟨a', v', h1, h2, h3⟩ := load_ok k h ha
      exact ⟨v', by simp [Instr.loadAt, h1, Instr.sureAddr, h2], h3⟩
    · cases h
  case nilCheck x =>
    have hx := hev x (by simp)
    generalize ra x = u at h hx
    generalize rc x = u' at hx ⊢
    split at h
    · cases h
    · cases h
    · cases h
    · cases h
    · cases h
    · rename_i h1 h2 h3 h4 h5
      cases h
      cases hx with
      | tok hk => exact (h4 _ rfl).elim
      | flat hf =>
        refine ⟨_, ?_, .flat hf⟩
        cases v <;> first | rfl | (rename_i a; cases a <;> first | rfl | exact (h1 rfl).elim) | exact (h2 rfl).elim | exact (h3 rfl).elim | (simp [flatV] at hf; done)
      | ptr hs hb => exact ⟨_, rfl, .ptr hs hb⟩
      | slice hs hb hx => exact ⟨_, rfl, .slice hs hb hx⟩
      | slice0 hs hb q1 q2 => exact ⟨_, rfl, .slice0 hs hb q1 q2⟩
      | map hb hs => exact ⟨_, rfl, .map hb hs⟩
      | func hf q1 q2 q3 q4 => cases hf <;> exact ⟨_, rfl, .func (by constructor <;> assumption) q1 q2 q3 q4⟩
      | iface q => exact ⟨_, rfl, .iface q⟩
      | agg q1 q2 => exact ⟨_, rfl, .agg q1 q2⟩
      | tuple q1 q2 => exact ⟨_, rfl, .tuple q1 q2⟩
  case binOp op t x y yt => exact lift (binOp_ok h (hev x (by simp)) (hev y (by simp)))
  case unOp op t x =>
    obtain ⟨h1, h2⟩ := unOp_ok (P := E.P) (w := w) h (hev x (by simp))
    exact lift ⟨v, h1, .flat h2⟩
  case convert s d x => exact lift (convertP_ok k h (hev x (by simp)))
  case makeInterface t x =>
    refine lift ?_
    split at h
    · cases h
    · cases h
    · rename_i d h1 h2
      cases h
      cases hd : E.P.underlying t with
      | none => exact absurd hd h2
      | some d =>
        refine ⟨_, ?_, .iface (hev x (by simp))⟩
        simp only [Instr.makeInterface, Sem.run_bind, run_under (w := w) hd, Result.andThen_ok]
        cases d <;> first | rfl | exact absurd hd (h1 _)
  case makeFunc fn first cap =>
    refine lift ?_
    have hm : ∀ (a : Array Operand), (∀ x ∈ a.toList, VR ρ (ra x) (rc x)) → LR ρ (a.toList.map ra) (a.map rc).toList := by
      intro a ha
      rw [Array.toList_map]
      generalize a.toList = l at ha ⊢
      induction l with
      | nil => exact .nil ρ
      | cons p l ih => exact .cons (ha p (by simp)) (ih fun q hq => ha q (by simp [hq]))
    have l1 := hm first fun x hx => hev x (by simp; exact .inl (by simpa using hx))
    have l2 := hm cap fun x hx => hev x (by simp; exact .inr (by simpa using hx))
    split at h
    · cases h; exact ⟨_, rfl, .mk_func (.func _) l1 l2⟩
    · cases h; exact ⟨_, rfl, .mk_func (.via _ _ _ _) l1 l2⟩
    · cases h
  case slice t x lo hi mx =>
    refine lift ?_
    have ov : ∀ (q : Option Operand), (∀ x ∈ q, VR ρ (ra x) (rc x)) → OV ρ (q.map ra) (q.map rc) := by
      intro q hq; cases q with
      | none => exact .none
      | some x => exact .some (hq x rfl)
    exact sliceV_ok k (ov lo fun x hx => hev x (by have := Option.mem_def.1 hx; simp [this])) (ov hi fun x hx => hev x (by have := Option.mem_def.1 hx; simp [this])) (ov mx fun x hx => hev x (by have := Option.mem_def.1 hx; simp [this])) h (hev x (by simp))
  case fieldAddr s x i =>
    refine lift ?_
    have hx := hev x (by simp)
    split at h
    · rename_i a f e hf
      rw [e] at hx
      split at h
      · rename_i n hz hsp
        cases h
        obtain ⟨j, hs, hb, h1⟩ := hx.ptr_inv
        obtain ⟨fs, hu, hfi⟩ := fieldOf_inv hf
        refine ⟨.pointer (some ⟨j.blk, j.sh + (addrOff a f.offset).off, none⟩), ?_, .ptr rfl hb⟩
        simp only [Instr.fieldAt, Sem.run_bind, run_under (w := w) hu, Result.andThen_ok, hfi, h1, Instr.sureAddr, Sem.run_pure, field_place (w := w) hz]
        simp [addrOff]; omega
      · cases h
    · cases h
  case field s x i =>
    refine lift ?_
    have hx := hev x (by simp)
    split at h
    · rename_i cs f e hf
      rw [e] at hx
      obtain ⟨cs⟩ := cs
      obtain ⟨cs', h1, h2⟩ := hx.agg_inv
      obtain ⟨fs, hu, hfi⟩ := fieldOf_inv hf
      obtain ⟨v', h3, h4⟩ := part_ok (w := w) h h2
      refine ⟨v', ?_, h4⟩
      simp only [Instr.field, Sem.run_bind, run_under (w := w) hu, Result.andThen_ok, hfi, h1, asAgg, Sem.run_pure, h3]
    · cases h
  case indexAddr t x ix =>
    refine lift ?_
    have hx := hev x (by simp)
    have hi := hev ix (by simp)
    split at h
    · rename_i e a len cap i hu e1 e2
      rw [e1] at hx
      obtain ⟨kk, e3⟩ := natOf_inv e2
      rw [e3] at hi
      split at h
      · rename_i z hz
        split at h
        · rename_i hc
          cases h
          simp only [Bool.and_eq_true] at hc
          have hlt := blt_lt hc.1
          obtain ⟨j, a', cap', h1, hs, hb, hb', hs', hor⟩ := hx.slice_inv
          rcases hor with ⟨rfl, _⟩ | ⟨rfl, _, _⟩
          · refine ⟨.pointer (some ⟨j.blk, j.sh + (addrOff a (i * z)).off, none⟩), ?_, .ptr rfl hb⟩
            have hc2 : (0 : Int) ≤ Int.ofNat i ∧ Int.ofNat i < (len : Int) := ⟨by simp, by simp; exact hlt⟩
            have hpos : (0 : Int) ≤ (i : Int) ∧ (i : Int) < (len : Int) := by simpa using hc2
            simp only [Instr.indexAt, Sem.run_bind, hi.int_inv, asIntOf, Sem.run_pure, Result.andThen_ok, run_under (w := w) hu, h1]
            simp only [Int.ofNat_eq_natCast, hpos, and_self, if_true, Sem.run_bind, run_size (w := w) hz, Result.andThen_ok, Sem.run_pure, add_none, Int.toNat_natCast]
            simp [addrOff]; omega
          · omega
        · cases h
      · cases h
    · rename_i len e a i hu e1 e2
      rw [e1] at hx
      obtain ⟨kk, e3⟩ := natOf_inv e2
      rw [e3] at hi
      split at h
      · rename_i z hz
        split at h
        · rename_i hc
          cases h
          simp only [Bool.and_eq_true] at hc
          have hlt := blt_lt hc.1
          obtain ⟨j, hs, hb, h1⟩ := hx.ptr_inv
          refine ⟨.pointer (some ⟨j.blk, j.sh + (addrOff a (i * z)).off, none⟩), ?_, .ptr rfl hb⟩
          have hpos : (0 : Int) ≤ (i : Int) ∧ (i : Int) < (len : Int) := ⟨by simp, by simp; exact hlt⟩
          simp only [Instr.indexAt, Sem.run_bind, hi.int_inv, asIntOf, Sem.run_pure, Result.andThen_ok, run_under (w := w) hu, h1, Instr.sureAddr]
          simp only [Int.ofNat_eq_natCast, hpos, and_self, if_true, Sem.run_bind, run_size (w := w) hz, Result.andThen_ok, Sem.run_pure, add_none, Int.toNat_natCast]
          simp [addrOff]; omega
        · cases h
      · cases h
    · cases h
  case index t x ix =>
    refine lift ?_
    have hx := hev x (by simp)
    have hi := hev ix (by simp)
    split at h
    · rename_i len e cs i hu e1 e2
      rw [e1] at hx
      obtain ⟨kk, e3⟩ := natOf_inv e2
      rw [e3] at hi
      obtain ⟨cs⟩ := cs
      obtain ⟨cs', h1, h2⟩ := hx.agg_inv
      split at h
      · rename_i z hz
        split at h
        · rename_i hc
          have hlt := blt_lt hc
          obtain ⟨v', h3, h4⟩ := part_ok (w := w) h h2
          refine ⟨v', ?_, h4⟩
          have hpos : (0 : Int) ≤ (i : Int) ∧ (i : Int) < (len : Int) := ⟨by simp, by simp; exact hlt⟩
          simp only [Instr.index, Sem.run_bind, hi.int_inv, asIntOf, Sem.run_pure, Result.andThen_ok, run_under (w := w) hu, h1]
          simp only [Int.ofNat_eq_natCast, hpos, and_self, if_true, Sem.run_bind, run_size (w := w) hz, Result.andThen_ok, Int.toNat_natCast, h3]
        · cases h
      · cases h
    · rename_i s i hu e1 e2
      rw [e1] at hx
      obtain ⟨kk, e3⟩ := natOf_inv e2
      rw [e3] at hi
      split at h
      · rename_i b hb
        cases h
        refine ⟨.int .u8 b.toNat, ?_, .flat rfl⟩
        have hlt : i < s.size := by
          have := (List.getElem?_eq_some_iff.1 hb).1
          exact this
        have hget : s[i]? = some b := by
          have h2 : s[i]? = some s[i] := by simp [hlt]
          rw [h2]
          have := (List.getElem?_eq_some_iff.1 hb).2
          rw [← this]; rfl
        simp only [Instr.index, Sem.run_bind, hi.int_inv, asIntOf, Sem.run_pure, Result.andThen_ok, run_under (w := w) hu, hx.str_inv]
        simp [hget]
      · cases h
    · cases h
  case lookup t m x ok => exact lift (lookup_ok k h (hev m (by simp)) (hev x (by simp)))
  case entry it =>
    refine lift ?_
    have hx := hev it (by simp)
    split at h
    · rename_i r e
      rw [e] at hx
      split at h
      · rename_i m since seen stepped hg
        split at h
        · rename_i es clock stamp hgm hst
          split at h
          · rename_i hck
            split at h
            · rename_i en hen
              cases h
              obtain ⟨i, hs, hb, h1⟩ := hx.ptr_inv
              obtain ⟨o', ho, hor⟩ := k.obj _ _ _ hg hb
              cases hor with
              | miter hs0 hm hj =>
                rename_i j
                obtain ⟨es', ho2, hl⟩ := map_at k hgm hm
                obtain ⟨e', h3, h4⟩ := born_ok hl hen
                have hck := Nat.eq_of_beq_eq_true hck
                refine ⟨.tuple #[e'.key, e'.val], ?_, .mk_tuple (.cons h4.key (.cons h4.val (.nil ρ)))⟩
                have hbk : (⟨seen⟩ : Array Nat).back? = some stamp := by simpa using hst
                have hfd : (⟨es'⟩ : Array MapEntry).find? (·.born == stamp) = some e' := by simpa using h3
                simp only [Instr.entry, h1, hs0, Nat.add_zero, Sem.run_bind, run_getObj' (P := E.P) ho (by simp), run_getObj' (P := E.P) ho2 (by simp), Result.andThen_ok, hbk, hfd, hck]
                simp
            · cases h
          · cases h
        · cases h
      · cases h
    · cases h
  case typeAssert x xt as ok =>
    refine lift ?_
    have hx := hev x (by simp)
    split at h
    · cases h
    · rename_i d hni hu e
      rw [e] at hx
      split at h
      · rename_i hok
        split at h
        · rename_i z hz
          cases h
          refine ⟨.tuple #[z, .bool false], ?_, .mk_tuple (.cons (zero_VR hz ρ) (.cons (.flat rfl) (.nil ρ)))⟩
          simp only [Instr.typeAssert, Sem.run_bind, run_under (w := w) hu, Result.andThen_ok, hx.flat_inv rfl]
          cases d <;> first | (exact absurd rfl (hni _ _)) | simp [hok, run_zero (w := w) hz]
        · cases h
      · cases h
    · rename_i d t u hni hu e
      rw [e] at hx
      cases hq : rc x with
      | iface t' u' =>
        rw [hq] at hx
        cases hx with
        | flat hf => simp [flatV] at hf
        | iface hu' =>
        split at h
        · rename_i hte
          have hte := Nat.eq_of_beq_eq_true hte
          subst hte
          cases h
          refine ⟨if ok then .tuple #[u', .bool true] else u', ?_, ?_⟩
          · simp only [Instr.typeAssert, Sem.run_bind, run_under (w := w) hu, Result.andThen_ok]
            cases d <;> first | (exact absurd rfl (hni _ _)) | simp
          · cases ok
            · exact hu'
            · exact .mk_tuple (.cons hu' (.cons (.flat rfl) (.nil ρ)))
        · rename_i hte
          have hte' : ¬ t = as := by rintro rfl; simp at hte
          split at h
          · rename_i hok
            split at h
            · rename_i z hz
              cases h
              refine ⟨.tuple #[z, .bool false], ?_, .mk_tuple (.cons (zero_VR hz ρ) (.cons (.flat rfl) (.nil ρ)))⟩
              simp only [Instr.typeAssert, Sem.run_bind, run_under (w := w) hu, Result.andThen_ok]
              cases d <;> first | (exact absurd rfl (hni _ _)) | simp [hok, hte', run_zero (w := w) hz]
            · cases h
          · cases h
      | _ => rw [hq] at hx; cases hx
    · cases h
  case extract t i =>
    refine lift ?_
    have hx := hev t (by simp)
    split at h
    · rename_i vs e
      rw [e] at hx
      obtain ⟨vs⟩ := vs
      obtain ⟨vs', h1, h2⟩ := hx.tuple_inv
      obtain ⟨v', h3, h4⟩ := h2.get h
      refine ⟨v', ?_, h4⟩
      have e3 : (⟨vs'⟩ : Array Value)[i]? = some v' := by rw [← Array.getElem?_toList]; exact h3
      simp [Instr.extract, h1, e3]
    · cases h
  case call c =>
    split at h
    · rename_i b hb
      have hargs : LR ρ (c.args.toList.map ra) (c.args.map rc).toList := by
        have : ∀ x ∈ c.args.toList, VR ρ (ra x) (rc x) := fun x hx => hev x (by simp only [Call.operands, hb]; simp; simpa using hx)
        rw [Array.toList_map]
        generalize c.args.toList = l at this ⊢
        induction l with
        | nil => exact .nil ρ
        | cons p l ih => exact .cons (this p (by simp)) (ih fun q hq => this q (by simp [hq]))
      obtain ⟨v', h1, h2⟩ := readV_ok (ty := type) (cs := c.args.map fun | .const _ => true | _ => false) k h hargs
      refine ⟨v', ?_, h2⟩
      have e1 : (⟨c.argTypes.toList⟩ : Array Nat) = c.argTypes := rfl
      have e2 : (⟨(c.args.map rc).toList⟩ : Array Value) = c.args.map rc := rfl
      rw [e1, e2] at h1
      simp only [resolve, hb, Sem.run_bind, Sem.run_pure, Result.andThen_ok, invoke]
      exact h1
    · cases h

end
end Go.AM
