/-
  The program of this seat, for the abstract machine: which functions without a body it knows, what the search of a text in a text answers.
-/
import Derived.Test.YtbdoaifijdlkjaaGreatDoorAM30
import Derived.Test.YtbdoaifijdlkjaaGreatDoorShelf
import Derived.KernelRfl
namespace Go.Proofs.YtbdoaifijdlkjaaGreatDoor
open Go Go.AM

def searched : List Value → Option Value
  | [.string s, .string t] => if Nat.blt s.data.toList.length 4294967281 then some (.int .i64 (Lib.index s.data.toList t.data.toList)) else none
  | _ => none

noncomputable def env : Env :=
  { P := Tryz.prog, ext := fun f => bif Nat.beq f 473 then some .count else bif Nat.beq f 314 then some .same else none, orc := fun f => bif Nat.beq f 196 then some searched else none, G := 8 }

theorem no_count : (Tryz.prog.funcs.toList.all fun fn => !(fn.name == "runtime.NumGoroutine")) = true := by kernel_rfl

theorem run_ext {f : Nat} {fn : Func} {s : Array Value → Sem Value} (hf : Tryz.prog.funcs[f]? = some fn) (hn : (fn.name == "runtime.NumGoroutine") = false) (hb : fn.body.isNone = true) (h1 : (Extern.findNext fn).isSome = false) (h2 : Extern.find fn = some s) (args : Array Value) (w : World) :
    (callFunc f args).run Tryz.prog w = (do pure (Next.value (← s args)) : Sem Next).run Tryz.prog w := by
  have h3 : Extern.findNext fn = none := by
    cases h : Extern.findNext fn with
    | none => rfl
    | some _ => rw [h] at h1; cases h1
  simp only [callFunc, Sem.run_bind, run_program, Result.andThen_ok, hf, hn, Bool.false_eq_true, if_false, hb, if_true, h3, h2]
  rfl

theorem env_ok : EnvOk env where
  name := fun f fn hf _ => by
    have := List.all_eq_true.1 no_count fn (Array.mem_toList_iff.2 (Array.mem_of_getElem? hf))
    simpa using this
  ext := fun f fn x hf hb hx args w => by
    have hx' : (bif Nat.beq f 473 then some Ext.count else bif Nat.beq f 314 then some Ext.same else none) = some x := hx
    cases h1 : Nat.beq f 473 with
    | true =>
      have := Nat.eq_of_beq_eq_true h1
      subst this
      rw [h1] at hx'
      cases hx'
      have e : fn = Tryz.f473 := Option.some.inj (hf.symm.trans Tryz.func473)
      subst e
      exact run_ext Tryz.func473 (by kernel_rfl) (by kernel_rfl) (by kernel_rfl) (by kernel_rfl) args w
    | false =>
      cases h2 : Nat.beq f 314 with
      | true =>
        have := Nat.eq_of_beq_eq_true h2
        subst this
        cases hx'
        have e : fn = Tryz.f314 := Option.some.inj (hf.symm.trans Tryz.func314)
        subst e
        exact run_ext Tryz.func314 (by kernel_rfl) (by kernel_rfl) (by kernel_rfl) (by kernel_rfl) args w
      | false => rw [h1, h2] at hx'; cases hx'
  mixed := by kernel_rfl

end Go.Proofs.YtbdoaifijdlkjaaGreatDoor
