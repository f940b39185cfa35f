/- Facts of the program. -/
import Derived.Test.YtkplhhkmchihlaaGreatDoorPure
import Derived.Test.YtkplhhkmchihlaaGreatDoorW2
namespace Go.Abs
open Go Go.Proofs

theorem hmix : Tryz.prog.follows .mixedOrders = true := by kernel_rfl

theorem hnumAll : (Tryz.prog.funcs.toList.all fun fn => !(fn.name == "runtime.NumGoroutine")) = true := by decide +kernel

theorem hnum (f : FuncId) (fn : Func) (h : Tryz.prog.funcs[f]? = some fn) : (fn.name == "runtime.NumGoroutine") = false := by
  have := List.all_eq_true.1 hnumAll fn (by
    have := Array.mem_of_getElem? h
    exact Array.mem_toList_iff.2 this)
  simpa using this

theorem noEsc_run (v : Value) (w : World) : (callFunc 45 #[v]).run Tryz.prog w = .ok (.value v) w := by
  have hf : Tryz.prog.funcs[45]? = some Tryz.f45 := Tryz.func45
  have h1 : Extern.findNext Tryz.f45 = none := by kernel_rfl
  have h2 : Extern.find Tryz.f45 = some Extern.AbiNoEscape.same := by kernel_rfl
  have h3 : (Tryz.f45.name == "runtime.NumGoroutine") = false := by kernel_rfl
  have h4 : Tryz.f45.body.isNone = true := by kernel_rfl
  generalize Tryz.f45 = fn at *
  have h5 : Tryz.prog.funcs[45]? = some fn := hf
  have h3' : ¬ fn.name = "runtime.NumGoroutine" := by simpa using h3
  have h6 : Extern.AbiNoEscape.same #[v] = pure v := rfl
  have h4' : fn.body = none := Option.isNone_iff_eq_none.1 h4
  simp [callFunc, h5, h3', h4', h1, h2, mark, h6]
  rfl

theorem noEsc_good (xs : List AV) : Good (noEsc xs) := by
  unfold noEsc
  split
  · exact Good.pure _
  · exact Good.fail

theorem noEsc_ok {R : Rep Unit} {E : Cfg} (hE : E.P = Tryz.prog) : FuncOK R E 45 noEsc := by
  intro xs b H c v H' c' l h φ F S w vs hr hg hx hfree
  obtain ⟨P, G, fuel, raw⟩ := E
  simp only at hE
  subst hE
  cases hx with
  | nil => simp [noEsc, M.fail] at h
  | cons h1 ht =>
    cases ht with
    | nil =>
      simp only [noEsc] at h
      obtain ⟨rfl, rfl, rfl⟩ := pure_some h
      exact .inr ⟨_, w, noEsc_run _ w, φ, F, S, h1, hr, WStep.refl, fun _ _ => rfl⟩
    | cons => simp [noEsc, M.fail] at h

end Go.Abs
