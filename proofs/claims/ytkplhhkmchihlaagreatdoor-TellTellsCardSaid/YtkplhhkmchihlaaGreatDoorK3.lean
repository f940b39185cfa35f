/- alive() answers true, whatever the world. -/
import Derived.Test.YtkplhhkmchihlaaGreatDoorK2
namespace Go.Abs
open Go Go.Proofs

def isTrueA (r : Option (AV × Heap Unit × Nat × List (Act Unit))) : Bool := match r with
  | some (.bool true, _, _, _) => true
  | _ => false

set_option maxRecDepth 100000 in
theorem alive_run : isTrueA (callA E0 O1 60 (.fn (.func 7) [] []) [] false (.leaf : Heap Unit) 1) = true := by decide +kernel

theorem alive_some : ∃ H' c' l, callA E0 O1 60 (.fn (.func 7) [] []) [] false (.leaf : Heap Unit) 1 = some (.bool true, H', c', l) := by
  have h := alive_run
  revert h
  generalize callA E0 O1 60 (.fn (.func 7) [] []) [] false (.leaf : Heap Unit) 1 = r
  intro h
  cases r with
  | none => simp [isTrueA] at h
  | some q =>
    obtain ⟨v, H', c', l⟩ := q
    cases v with
    | bool b => cases b <;> simp [isTrueA] at h; exact ⟨H', c', l, rfl⟩
    | _ => simp [isTrueA] at h

def aliveS : List AV → Option AV
  | [] => some (.bool true)
  | _ => none

theorem alive_ok {R : Rep Unit} : FuncOK R E0 7 fun xs => M.lift (aliveS xs) := by
  refine FuncOK.pure (callA_func (E := E0) hmix hnum O1_good O1_ok 59 7 (by simp [O1])) (fun g a h => by cases h) aliveS ?_
  intro xs v h
  cases xs with
  | nil =>
    simp only [aliveS, Option.some.injEq] at h
    subst h
    obtain ⟨H', c', l, h⟩ := alive_some
    exact ⟨rfl, rfl, false, 1, H', c', l, h⟩
  | cons => simp [aliveS] at h

end Go.Abs
