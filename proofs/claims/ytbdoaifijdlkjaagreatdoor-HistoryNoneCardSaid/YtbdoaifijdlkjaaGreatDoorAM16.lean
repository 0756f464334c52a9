/-
  AM16: ranges; 'exec_ok': what an operation comes to, in both machines.
-/
import Derived.Test.YtbdoaifijdlkjaaGreatDoorAM15
namespace Go.AM
open Go

section
variable {oc : Nat → Option (List Value → Option Value)} {P : Program} {ρ : Rn} {H : Hp} {w : World} {m : Nat}

theorem Grw.drop_heap {ρ' : Rn} {H' : Hp} {w' : World} (g : Grw m ρ H (drewW w) ρ' H' w') : Grw m ρ H w ρ' H' w' := (Grw.drew m ρ H w).trans g

theorem newPtr_ok (k : HR ρ H w.heap) (hm : m ≤ H.nxt) {o : AObj} {o' : Obj} (ho : OR (ρ.add H.nxt ⟨w.heap.size, 0, 0, 0, 0, false⟩) ⟨w.heap.size, 0, 0, 0, 0, false⟩ o o') :
    HR (ρ.add H.nxt ⟨w.heap.size, 0, 0, 0, 0, false⟩) (H.new o) (pushW w o').heap ∧ Grw m ρ H w (ρ.add H.nxt ⟨w.heap.size, 0, 0, 0, 0, false⟩) (H.new o) (pushW w o') ∧
      VR (ρ.add H.nxt ⟨w.heap.size, 0, 0, 0, 0, false⟩) (.pointer (some ⟨H.nxt, 0, none⟩)) (.pointer (some ⟨w.heap.size, 0, none⟩)) ∧
      VR (ρ.add H.nxt ⟨w.heap.size, 0, 0, 0, 0, false⟩) (.map (some H.nxt)) (.map (some w.heap.size)) := by
  obtain ⟨r1, r2⟩ := HR.new k (i := ⟨w.heap.size, 0, 0, 0, 0, false⟩) rfl ho hm
  refine ⟨r1, r2, ?_, ?_⟩
  · have := VR.ptr (ρ := ρ.add H.nxt ⟨w.heap.size, 0, 0, 0, 0, false⟩) (a := ⟨H.nxt, 0, none⟩) (i := ⟨w.heap.size, 0, 0, 0, 0, false⟩) rfl (Rn.add_same _ _ _)
    simpa using this
  · exact VR.map (Rn.add_same _ _ _) rfl

theorem run_range_str {t : Nat} {s : ByteArray} (hu : P.underlying t = some .string) :
    (Instr.range t (.string s)).run P w = .ok (.pointer (some ⟨w.heap.size, 0, none⟩)) (pushW w (.stringIter s 0)) := by
  simp only [Instr.range, Sem.run_bind, run_under (w := w) hu, Result.andThen_ok, Sem.run_pure, run_newObj]; rfl
theorem run_range_nil {t kt et : Nat} (hu : P.underlying t = some (.map kt et)) :
    (Instr.range t (.map none)).run P w = .ok (.pointer (some ⟨w.heap.size, 0, none⟩)) (pushW w (.mapIter none 0 ⟨[]⟩ 0)) := by
  simp only [Instr.range, Sem.run_bind, run_under (w := w) hu, Result.andThen_ok, Sem.run_pure, run_newObj]; rfl
theorem run_range_map {t kt et b clock : Nat} {es : Array MapEntry} (hu : P.underlying t = some (.map kt et)) (hb : w.heap[b]? = some (.map es clock)) :
    (Instr.range t (.map (some b))).run P w = .ok (.pointer (some ⟨w.heap.size, 0, none⟩)) (pushW w (.mapIter (some b) clock ⟨[]⟩ clock)) := by
  simp only [Instr.range, Sem.run_bind, run_under (w := w) hu, Result.andThen_ok, run_getObj' (P := P) hb (by simp), Sem.run_pure, run_newObj]; rfl

theorem decode_ascii {s : ByteArray} {pos : Nat} {c : UInt8} (h : s.data.toList[pos]? = some c) (hc : c.toNat < 128) : Utf8.decode s pos = (c.toNat, 1) := by
  have hg : s.get! pos = c := by
    cases s with
    | mk a =>
      show a[pos]! = c
      rw [Array.getElem!_eq_getD, Array.getD_eq_getD_getElem?, ← Array.getElem?_toList]
      simp only at h
      rw [h]; rfl
  unfold Utf8.decode
  simp only [Nat.add_zero, hg]
  rw [if_pos hc]

theorem mem_contains {n : Nat} : ∀ {l : List Nat}, mem n l = l.contains n
  | [] => rfl
  | x :: l => by
    simp only [mem, List.contains_cons, mem_contains (l := l)]
    congr 1
    rw [Bool.eq_iff_iff, Nat.beq_eq, beq_iff_eq]
    exact eq_comm

theorem l2_filter {l m : List MapEntry} (h : L2 (EntR ρ) l m) {f g : MapEntry → Bool} (hfg : ∀ a b, EntR ρ a b → f a = g b) : L2 (EntR ρ) (l.filter f) (m.filter g) := by
  induction h with
  | nil => exact .nil
  | cons x _ ih =>
    rw [List.filter_cons, List.filter_cons, hfg _ _ x]
    split
    · exact .cons x ih
    · exact ih

theorem l2_all {l m : List MapEntry} (h : L2 (EntR ρ) l m) {f g : MapEntry → Bool} (hfg : ∀ a b, EntR ρ a b → f a = g b) : l.all f = m.all g := by
  induction h with
  | nil => rfl
  | cons x _ ih => simp only [List.all_cons, hfg _ _ x, ih]

theorem l2_map {α β γ δ : Type} {R : α → β → Prop} {S : γ → δ → Prop} {f : α → γ} {g : β → δ} (hfg : ∀ a b, R a b → S (f a) (g b)) {l : List α} {m : List β} (h : L2 R l m) : L2 S (l.map f) (m.map g) := by
  induction h with
  | nil => exact .nil
  | cons x _ ih => exact .cons (hfg _ _ x) ih

/-- Candidates. -/
def CandR (ρ : Rn) (a b : Option MapEntry) : Prop :=
  match a, b with
  | none, none => True
  | some e, some e' => EntR ρ e e'
  | _, _ => False

theorem l2_getr {α β : Type} {R : α → β → Prop} {l : List α} {m : List β} (h : L2 R l m) : ∀ {i : Nat} {b : β}, m[i]? = some b → ∃ a, l[i]? = some a ∧ R a b := by
  induction h with
  | nil => intro i b e; simp at e
  | cons x _ ih =>
    intro i b e
    cases i with
    | zero => simp at e; subst e; exact ⟨_, by simp, x⟩
    | succ i => simp at e; simpa using ih e

theorem decode_any (s : ByteArray) (pos : Nat) : Utf8.decode s pos = ((Utf8.decode s pos).1, (Utf8.decode s pos).2) := rfl

/-- The iterator of a text. -/
theorem run_next_str {b pos : Nat} {s : ByteArray} (ty : Nat) (hb : w.heap[b]? = some (.stringIter s pos)) (hlt : pos < s.size) {c wd : Nat} (hd : Utf8.decode s pos = (c, wd)) :
    (Instr.next (.pointer (some ⟨b, 0, none⟩)) true ty).run P w = .ok (.tuple #[.bool true, goInt pos, .int .i32 c]) (setW w b (.stringIter s (pos + wd))) := by
  simp only [Instr.next, Sem.run_bind, run_getObj' (P := P) hb (by simp), Result.andThen_ok, hlt, if_true, hd, run_setObj' (P := P) hb (by simp), Sem.run_pure]
theorem run_next_over {b pos : Nat} {s : ByteArray} (ty : Nat) (hb : w.heap[b]? = some (.stringIter s pos)) (hlt : ¬ pos < s.size) :
    (Instr.next (.pointer (some ⟨b, 0, none⟩)) true ty).run P w = .ok (.tuple #[.bool false]) w := by
  simp only [Instr.next, Sem.run_bind, run_getObj' (P := P) hb (by simp), Result.andThen_ok, hlt, if_false, Sem.run_pure]
theorem run_next_nil {b since stepped : Nat} {seen : Array Nat} (ty : Nat) (hb : w.heap[b]? = some (.mapIter none since seen stepped)) :
    (Instr.next (.pointer (some ⟨b, 0, none⟩)) false ty).run P w = .ok (.tuple #[.bool false]) w := by
  simp only [Instr.next, Sem.run_bind, run_getObj' (P := P) hb (by simp), Result.andThen_ok, Sem.run_pure]

def candsC (since : Nat) (seen : Array Nat) (es : Array MapEntry) : Array (Option MapEntry) :=
  let left := es.filter fun e => !seen.contains e.born
  let old := left.filter (·.born < since)
  let new := left.filter (·.born ≥ since)
  (if old.isEmpty then #[none] else #[]) ++ (old ++ new).map some

def candsA (since : Nat) (seen : List Nat) (es : List MapEntry) : List (Option MapEntry) :=
  let left := es.filter fun e => !mem e.born seen
  let old := left.filter fun e => Nat.blt e.born since
  let new := left.filter fun e => Nat.ble since e.born
  (if old.isEmpty then [none] else []) ++ (old ++ new).map some

theorem l2_isEmpty {α β : Type} {R : α → β → Prop} {l : List α} {m : List β} (h : L2 R l m) : l.isEmpty = m.isEmpty := by
  cases h <;> rfl

theorem cands_ok {since : Nat} {seen : List Nat} {es es' : List MapEntry} (h : L2 (EntR ρ) es es') : L2 (CandR ρ) (candsA since seen es) (candsC since ⟨seen⟩ ⟨es'⟩).toList := by
  have h1 : L2 (EntR ρ) (es.filter fun e => !mem e.born seen) (es'.filter fun e => !(⟨seen⟩ : Array Nat).contains e.born) :=
    l2_filter h fun a b hab => by rw [hab.born, mem_contains]; simp
  have h2 := l2_filter h1 (f := fun e => Nat.blt e.born since) (g := fun e => decide (e.born < since)) fun a b hab => by
    rw [hab.born, Bool.eq_iff_iff, Nat.blt_eq, decide_eq_true_iff]
  have h3 := l2_filter h1 (f := fun e => Nat.ble since e.born) (g := fun e => decide (e.born ≥ since)) fun a b hab => by
    rw [hab.born, Bool.eq_iff_iff, Nat.ble_eq, decide_eq_true_iff]
  unfold candsA candsC
  simp only [Array.toList_append, Array.toList_map]
  have e0 : ∀ (f : MapEntry → Bool) (a : Array MapEntry), (a.filter f).toList = a.toList.filter f := fun f a => by simp
  refine L2.append ?_ ?_
  · rw [l2_isEmpty h2]
    have : (Array.filter (fun e => decide (e.born < since)) (Array.filter (fun e => !(⟨seen⟩ : Array Nat).contains e.born) ⟨es'⟩)).isEmpty = (List.filter (fun e => decide (e.born < since)) (List.filter (fun e => !(⟨seen⟩ : Array Nat).contains e.born) es')).isEmpty := by
      rw [← Array.isEmpty_toList, e0, e0]
    rw [this]
    split
    · exact .cons trivial .nil
    · exact .nil
  · rw [e0, e0, e0, e0]
    exact l2_map (S := CandR ρ) (f := some) (g := some) (fun a b hab => hab) (h2.append h3)

theorem run_next_map {b q since stepped clock : Nat} {seen : Array Nat} {es : Array MapEntry} (ty : Nat) (hb : w.heap[b]? = some (.mapIter (some q) since seen stepped)) (hq : w.heap[q]? = some (.map es clock))
    (hne : (!seen.isEmpty && !es.isEmpty && es.all (·.born ≥ stepped)) = false) :
    ∃ n w1, (w1 = w ∨ w1 = drewW w) ∧ n < (candsC since seen es).size ∧ (Instr.next (.pointer (some ⟨b, 0, none⟩)) false ty).run P w = (match (candsC since seen es)[n]? with
      | some (some e) => .ok (.tuple #[.bool true, e.key, e.val]) (setW w1 b (.mapIter (some q) since (seen.push e.born) clock))
      | some none => .ok (.tuple #[.bool false]) w1
      | none => .halt (.stuck "Next: no such candidate") w1) := by
  have hpos : 0 < (candsC since seen es).size := by
    unfold candsC
    simp only [Array.size_append, Array.size_map]
    split
    · rw [show (#[none] : Array (Option MapEntry)).size = 1 from rfl]; omega
    · rename_i h
      have : (Array.filter (fun x => decide (x.born < since)) (Array.filter (fun e => !seen.contains e.born) es)).size ≠ 0 := fun q => h (by rw [Array.isEmpty_iff_size_eq_zero]; exact q)
      omega
  have key : ∀ n w1, w1.heap = w.heap → (choose (.mapNext (candsC since seen es).size)).run P w = .ok n w1 → (Instr.next (.pointer (some ⟨b, 0, none⟩)) false ty).run P w = (match (candsC since seen es)[n]? with
      | some (some e) => .ok (.tuple #[.bool true, e.key, e.val]) (setW w1 b (.mapIter (some q) since (seen.push e.born) clock))
      | some none => .ok (.tuple #[.bool false]) w1
      | none => .halt (.stuck "Next: no such candidate") w1) := by
    intro n w1 hw1 hch
    have hb1 : w1.heap[b]? = some (.mapIter (some q) since seen stepped) := by rw [hw1]; exact hb
    have : (Instr.next (.pointer (some ⟨b, 0, none⟩)) false ty).run P w = ((choose (.mapNext (candsC since seen es).size)) >>= fun n => (match (candsC since seen es)[n]? with
      | some (some e) => do
        setObj b (.mapIter (some q) since (seen.push e.born) clock)
        pure (.tuple #[.bool true, e.key, e.val])
      | some none => pure (.tuple #[.bool false])
      | none => stuck "Next: no such candidate" : Sem Value)).run P w := by
      simp only [Instr.next, Sem.run_bind, run_getObj' (P := P) hb (by simp), run_getObj' (P := P) hq (by simp), Result.andThen_ok, hne, Bool.false_eq_true, if_false]
      rfl
    rw [this, run_step hch]
    cases hc : (candsC since seen es)[n]? with
    | none => rfl
    | some o =>
      cases o with
      | none => rfl
      | some e =>
        simp only [Sem.run_bind, run_setObj' (P := P) hb1 (by simp), Result.andThen_ok, Sem.run_pure]
  by_cases hf : (Question.mapNext (candsC since seen es).size).forced = true
  · refine ⟨0, w, .inl rfl, hpos, key 0 w rfl ?_⟩
    rw [run_choose, if_pos hf]
  · refine ⟨_, drewW w, .inr rfl, ?_, key ((Question.mapNext (candsC since seen es).size).cut (w.tape w.drawn (.mapNext (candsC since seen es).size))) (drewW w) rfl ?_⟩
    · simp only [Question.cut]; exact Nat.mod_lt _ hpos
    · rw [run_choose, if_neg hf]; rfl

theorem next_ok (k : HR ρ H w.heap) {it it' : Value} {isString : Bool} (ty : Nat) (h : nextV H it isString ≠ .fail) (hi : VR ρ it it') (m : Nat) :
    ExecR oc m ρ H w (nextV H it isString) ((do pure (Next.value (← Instr.next it' isString ty)) : Sem Next).run P w) := by
  have lift : ∀ {s : Sem Value} {v : Value} {w' : World}, s.run P w = .ok v w' → (do pure (Next.value (← s)) : Sem Next).run P w = .ok (.value v) w' := by
    intro s v w' h; simp only [Sem.run_bind, h, Result.andThen_ok, Sem.run_pure]
  unfold nextV at h ⊢
  split at h
  rotate_left
  · exact absurd rfl h
  rename_i r
  obtain ⟨i, _, hb, rfl⟩ := hi.ptr_inv
  simp only at hb
  split at h
  · -- a text
    rename_i s pos hg
    obtain ⟨o', ho, hor⟩ := k.obj _ _ _ hg hb
    cases hor with
    | siter hs =>
      simp only [hs, Nat.zero_add]
      have hlen : s.size = s.data.toList.length := by simp
      cases hlt : Nat.blt pos s.data.toList.length with
      | false =>
        simp only [hlt, Bool.false_eq_true, if_false] at h ⊢
        have hn : ¬ pos < s.size := fun q => by rw [hlen, ← Nat.blt_eq, hlt] at q; cases q
        rw [lift (run_next_over ty ho hn)]
        exact .val k (.refl _ _ _ _) (.mk_tuple (.refl_flat (by simp [flatV])))
      | true =>
        simp only [hlt, if_true] at h ⊢
        have hp : pos < s.size := by rw [hlen]; exact blt_lt hlt
        split at h
        · rename_i c hc
          have hset : ∀ n, HR ρ (H.set r (.siter s (pos + n))) (setW w i.blk (.stringIter s (pos + n))).heap ∧ Grw m ρ H w ρ (H.set r (.siter s (pos + n))) (setW w i.blk (.stringIter s (pos + n))) :=
            fun n => k.set hg hb (.siter hs) m
          cases ha : Nat.blt c.toNat 128 with
          | true =>
            simp only [if_true]
            rw [lift (run_next_str ty ho hp (decode_ascii hc (blt_lt ha)))]
            exact .val (hset 1).1 (hset 1).2 (.mk_tuple (.refl_flat (by simp [flatV])))
          | false =>
            simp only [Bool.false_eq_true, if_false]
            rw [lift (run_next_str ty ho hp (decode_any s pos))]
            exact .val (hset _).1 (hset _).2 (.mk_tuple (.refl_flat (by simp [flatV])))
        · exact absurd rfl h
  · -- a nil map
    rename_i since seen stepped hg
    obtain ⟨o', ho, hor⟩ := k.obj _ _ _ hg hb
    cases hor with
    | miter0 hs =>
      simp only [hs, Nat.zero_add]
      rw [lift (run_next_nil ty ho)]
      exact .val k (.refl _ _ _ _) (.mk_tuple (.refl_flat (by simp [flatV])))
  · -- a map
    rename_i q since seen stepped hg
    obtain ⟨o', ho, hor⟩ := k.obj _ _ _ hg hb
    cases hor with
    | miter hs hq hj =>
      rename_i j
      simp only [hs, Nat.zero_add]
      split at h
      · rename_i es clock hgq
        obtain ⟨es', ho2, hes⟩ := map_at k hgq hq
        split at h
        · exact absurd rfl h
        · rename_i hne
          have hne' : (!(⟨seen⟩ : Array Nat).isEmpty && !(⟨es'⟩ : Array MapEntry).isEmpty && (⟨es'⟩ : Array MapEntry).all (·.born ≥ stepped)) = false := by
            rw [← Bool.not_eq_true, ← Array.isEmpty_toList, ← Array.isEmpty_toList, ← Array.all_toList]
            rw [l2_isEmpty hes, l2_all hes (f := fun e => Nat.ble stepped e.born) (g := fun e => decide (e.born ≥ stepped)) fun a b hab => by
              rw [hab.born, Bool.eq_iff_iff, Nat.ble_eq, decide_eq_true_iff]] at hne
            exact hne
          obtain ⟨n, w1, hw1, hn, hrun⟩ := run_next_map (P := P) ty ho ho2 hne'
          have hk1 : HR ρ H w1.heap := by rcases hw1 with rfl | rfl <;> exact k
          have hg1 : Grw m ρ H w ρ H w1 := by rcases hw1 with rfl | rfl; exact .refl _ _ _ _; exact .drew _ _ _ _
          simp only [hne]
          have hc := cands_ok (since := since) (seen := seen) hes
          have hcn : (candsC since ⟨seen⟩ ⟨es'⟩).toList[n]? = some ((candsC since ⟨seen⟩ ⟨es'⟩)[n]) := by rw [Array.getElem?_toList]; exact Array.getElem?_eq_getElem hn
          obtain ⟨a, ha, hab⟩ := l2_getr hc hcn
          have hmem : a ∈ candsA since seen es := List.mem_of_getElem? ha
          rw [Array.getElem?_eq_getElem hn] at hrun
          cases hx : (candsC since ⟨seen⟩ ⟨es'⟩)[n] with
          | none =>
            rw [hx] at hrun hab
            cases a with
            | some _ => exact hab.elim
            | none =>
              rw [lift hrun]
              exact .fork (v := .tuple ⟨[.bool false]⟩) (H' := H) (List.mem_map.2 ⟨none, hmem, rfl⟩) hk1 hg1 (.mk_tuple (.refl_flat (by simp [flatV])))
          | some e' =>
            rw [hx] at hrun hab
            cases a with
            | none => exact hab.elim
            | some e =>
              have he : EntR ρ e e' := hab
              rw [lift hrun]
              have hor2 : OR ρ i (.miter (some q) since (seen ++ [e.born]) clock) (.mapIter (some j.blk) since ((⟨seen⟩ : Array Nat).push e'.born) clock) := by
                have : (⟨seen⟩ : Array Nat).push e'.born = ⟨seen ++ [e.born]⟩ := by apply Array.ext'; simp [he.born]
                rw [this]
                exact .miter hs hq hj
              obtain ⟨r1, r2⟩ := HR.set (w := w1) hk1 hg hb hor2 m
              exact .fork (v := .tuple ⟨[.bool true, e.key, e.val]⟩) (H' := H.set r (.miter (some q) since (seen ++ [e.born]) clock)) (List.mem_map.2 ⟨some e, hmem, rfl⟩) r1 (hg1.trans r2)
                (.mk_tuple (.cons (.flat rfl) (.cons he.key (.cons he.val (.nil _)))))
      · exact absurd rfl h
  · exact absurd rfl h

theorem deferred_ok {f f' : Value} {args args' : List Value} {t : Target} {as : List Value} (h : deferredOf f args = some (t, as)) (hf : VR ρ f f') (ha : LR ρ args args') :
    ∃ t' as', (Deferred.ofValue f' ⟨args'⟩).run P w = .ok { target := t', args := ⟨as'⟩ } w ∧ TgR ρ t t' ∧ LR ρ as as' := by
  unfold deferredOf at h
  split at h
  · rename_i fn first cap
    cases h
    obtain ⟨fn', x', c', rfl, h1, h2, h3⟩ := VR.func_inv (x := first.toList) (c := cap.toList) hf
    refine ⟨.fn fn' ⟨c'⟩, x' ++ args', ?_, TgR.fn (c := cap.toList) h1 h3, h2.append ha⟩
    simp only [Deferred.ofValue, Sem.run_pure]
    congr 2
    apply Array.ext'; simp
  · cases h

end
end Go.AM
