/-
  AM32: a row whose call answers true and leaves all that stood.
-/
import Derived.Test.YtbdoaifijdlkjaaGreatDoorAM31
import Derived.OpenVars
import Derived.ChangeAgain
import Derived.ProofKit
namespace Go.AM
open Go Go.RowKit Go.WideElems

/-- The parameters' types can be read. -/
def typesRowed (P : Program) (ts : List TypeId) : Bool := ts.all fun t => P.readableRec t && decide (t < P.types.size)

theorem trodAll_stays {H : Type} {enc : TypeId × Value → H} {P : Program} (hl : laidOutB P = true) {W W' : World} (hb : Below W.heap.size W W') :
    ∀ {ts : List TypeId} {vs : List Value} {ds : List (DataW H)} {ps : List MemPlace}, typesRowed P ts = true → DataW.TrodAll enc P W 0 (fun _ => true) true ts vs ds ps → (∀ x ∈ ps, x.block < W.heap.size) →
      DataW.TrodAll enc P W' 0 (fun b => decide (b < W.heap.size)) true ts vs ds ps
  | [], [], [], _, _, h, _ => h
  | [], _ :: _, _, _, _, h, _ => by simp [DataW.TrodAll] at h
  | [], [], _ :: _, _, _, h, _ => by simp [DataW.TrodAll] at h
  | _ :: _, [], _, _, _, h, _ => by simp [DataW.TrodAll] at h
  | _ :: _, _ :: _, [], _, _, h, _ => by simp [DataW.TrodAll] at h
  | t :: ts, v :: vs, d :: ds, ps, ht, h, hlt => by
    obtain ⟨p, q, h1, h2, rfl⟩ := h
    simp only [typesRowed, List.all_cons, Bool.and_eq_true, decide_eq_true_eq] at ht
    exact ⟨p, q, Below.trod hl ht.1.1 ht.1.2 h1 hb (fun x hx => hlt x (List.mem_append_left _ hx)), trodAll_stays hl hb ht.2 h2 (fun x hx => hlt x (List.mem_append_right _ hx)), rfl⟩

/-- The row's contract, out of the call's. -/
theorem post_still {H : Type} {enc : TypeId × Value → H} {P : Program} {f : Func} {s : ChangeSpec} {apart fresh handsOn : Bool} {W W' : World} {args : Array Value} {ds gs : List (DataW H)} {before : List MemPlace} {t : TypeId}
    (hl : laidOutB P = true) (hts : typesRowed P f.params.toList = true) (hvs : varsRowed P s.vars = true) (hr : f.resultTypes = #[t]) (ht : P.underlying t = some .bool)
    (hfn : s.fn H (ds ++ gs) = { results := [.lit (.bool true)], args := ds, vars := gs })
    (hW : DataW.Whole enc P f.params.toList s.vars apart W args.toList ds gs before) (hk : Kept W W') :
    s.post enc P f apart fresh handsOn false W args (.bool true) W' := by
  have hW' := hW
  have hb : Below W.heap.size W W' := ⟨hk.os, hk.tape, hk.output, hk.size, hk.heap⟩
  have hlt := hW.lt
  obtain ⟨p, q, hA, hV, rfl, _, _⟩ := hW
  refine ⟨ds, gs, p ++ q, [], p, q, hW', ?_, ?_, ?_, ?_, fun h => by cases h⟩
  · rw [hfn, hr]
    exact Go.ChangeShapes.trodAll_mk1 (shut_bool ht true)
  · rw [hfn]
    exact trodAll_stays hl hb hts hA fun x hx => hlt x (List.mem_append_left _ hx)
  · rw [hfn]
    exact hb.trodVars hl hvs hV
  · refine ⟨hk.os, hk.output, fun i hi => ?_⟩
    rw [hk.heap i hi]
    cases W.heap[i]? with
    | none => trivial
    | some o => cases o <;> simp

def boolType (P : Program) (u : Nat) : Bool := match P.underlying u with
  | some .bool => true
  | _ => false

theorem boolType_eq {P : Program} {u : Nat} (h : boolType P u = true) : P.underlying u = some .bool := by
  unfold boolType at h
  split at h
  · assumption
  · cases h

/-- Cells as tokens, but for the flags: 'true' marks a flag's place. -/
def tokRow : List Bool → List Bool → List Value
  | false :: ks, fs => .chan (some 0) :: tokRow ks fs
  | true :: ks, f :: fs => .bool f :: tokRow ks fs
  | _, _ => []

theorem tokRow_ok {P : Program} {ρ : Rn} {w : World} {r : Reach} {base : Nat} : ∀ {us : List Nat} {vs : List Value}, us.length = vs.length → (us.all fun u => tokenType P u || boolType P u) = true →
    (∀ (i : Nat) (u : Nat) (v : Value), us[i]? = some u → vs[i]? = some v → Cell.okWide P w r base u v) → ∃ fs : List Bool, fs.length = (us.map (boolType P)).count true ∧ LR ρ (tokRow (us.map (boolType P)) fs) vs
  | [], [], _, _, _ => ⟨[], rfl, .nil ρ⟩
  | u :: us, v :: vs, hl, hk, h => by
    have h0 := h 0 u v rfl rfl
    simp only [List.all_cons, Bool.and_eq_true] at hk
    obtain ⟨fs, hn, hr⟩ := tokRow_ok (ρ := ρ) (us := us) (vs := vs) (by simpa using hl) hk.2 fun i u v a b => h (i + 1) u v (by simpa using a) (by simpa using b)
    cases hb : boolType P u with
    | true =>
      obtain ⟨b, rfl⟩ := cell_bool h0 (boolType_eq hb)
      refine ⟨b :: fs, ?_, ?_⟩
      · simp [hb, hn]
      · simp only [List.map_cons, hb]
        exact .cons (.flat rfl) hr
    | false =>
      have ht : tokenType P u = true := by simpa [hb] using hk.1
      refine ⟨fs, ?_, ?_⟩
      · simp [hb, hn]
      · simp only [List.map_cons, hb]
        exact .cons (cell_tok h0 ht) hr
  | [], _ :: _, hl, _, _ => by simp at hl
  | _ :: _, [], hl, _, _ => by simp at hl

/-- A struct that came in: its cells as tokens. -/
theorem tokStruct_ok {P : Program} {ρ : Rn} {w : World} {r : Reach} {base t : Nat} {v : Value} {fs : Array Field} {us : List Nat} (h : Value.okWide P w r base t v) (ht : P.underlying t = some (.struct fs))
    (hu : P.cellTypes P.depth t = some us) (hn : us.length = P.cellsOf t) (hk : (us.all fun u => tokenType P u || boolType P u) = true) :
    ∃ (cs : List Value) (flags : List Bool), v = .agg ⟨cs⟩ ∧ flags.length = (us.map (boolType P)).count true ∧ (∀ (i : Nat) (u : Nat) (v : Value), us[i]? = some u → cs[i]? = some v → Cell.okWide P w r base u v) ∧ LR ρ (tokRow (us.map (boolType P)) flags) cs := by
  unfold Value.okWide at h
  rw [ht] at h
  obtain ⟨⟨cs⟩, rfl, hs, us', hu', _, hc⟩ := h
  obtain rfl := Option.some.inj (hu.symm.trans hu')
  have hs' : cs.length = us.length := hs.trans hn.symm
  have hall : ∀ (i : Nat) (u : Nat) (v : Value), us[i]? = some u → cs[i]? = some v → Cell.okWide P w r base u v := by
    intro i u v hi hv
    obtain ⟨u', h1, h2⟩ := hc i v (by simpa using hv)
    have hlt : i < us.length := (List.getElem?_eq_some_iff.1 hi).1
    rw [Nat.mod_eq_of_lt hlt, hi] at h1
    cases h1
    exact h2
  obtain ⟨fl, hf, hr⟩ := tokRow_ok (ρ := ρ) hs'.symm hk hall
  exact ⟨cs, fl, rfl, hf, hall, hr⟩

/-- An int that came in. -/
theorem okWide_int {P : Program} {w : World} {r : Reach} {base t : Nat} {v : Value} {k : IntKind} (h : Value.okWide P w r base t v) (ht : P.underlying t = some (.int k)) : ∃ n, v = .int k n ∧ k.has n := by
  unfold Value.okWide at h
  rw [ht] at h
  unfold Cell.okWide at h
  rw [ht] at h
  unfold Cell.ok at h
  rw [ht] at h
  cases v <;> first | exact h.elim | skip
  obtain ⟨rfl, h⟩ := h
  exact ⟨_, rfl, h⟩

end Go.AM
