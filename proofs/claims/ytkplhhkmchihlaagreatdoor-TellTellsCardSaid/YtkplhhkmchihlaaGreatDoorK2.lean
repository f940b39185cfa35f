/- What is known of functions: strconv.Itoa, alive. -/
import Derived.Test.YtkplhhkmchihlaaGreatDoorK1
import Derived.Test.YtkplhhkmchihlaaGreatDoorKItoa
namespace Go.Abs
open Go Go.Proofs

/-- The table of powers of ten, as the program's text lays it. -/
def raw0 (b : Nat) : Option (Array Value) := if b = 0 then some (Lib.pow10Tab.map fun z => Value.int .u64 z).toArray else none

noncomputable def E0 : Cfg := { P := Tryz.prog, G := fun _ => none, fuel := 10000, raw := raw0 }

theorem g0 : Tryz.prog.globalNamed "internal/strconv.uint64pow10" = some 0 := by kernel_rfl

theorem htab {φ : Names} {S : Nat → Prop} {w : World} (h : GOK E0 φ S w.heap) : Lib.TabIs Tryz.prog w "internal/strconv.uint64pow10" .u64 Lib.pow10Tab := by
  obtain ⟨_, t, fr, h2⟩ := h.raw 0 _ rfl
  unfold Lib.TabIs World.var?
  rw [g0]
  simp only [Option.bind_some, h2]

def itoaA : List AV → M Unit AV
  | [.int .i64 n] => if -9223372036854775808 ≤ n ∧ n ≤ 9223372036854775807 then M.pure (.str (Lib.itoa n)) else M.fail
  | _ => M.fail

theorem itoa_good (xs : List AV) : Good (itoaA xs) := by
  unfold itoaA
  split
  · split
    · exact Good.pure _
    · exact Good.fail
  · exact Good.fail

theorem itoa_ok {R : Rep Unit} : FuncOK R E0 19 itoaA := by
  intro xs b H c v H' c' l h φ F S w vs hr hg hx hfree
  cases hx with
  | nil => simp [itoaA, M.fail] at h
  | cons h1 ht =>
    cases ht with
    | nil =>
      cases h1 with
      | int k n =>
        cases k with
        | i64 =>
          simp only [itoaA] at h
          by_cases hc : -9223372036854775808 ≤ n ∧ n ≤ 9223372036854775807
          · rw [if_pos hc] at h
            obtain ⟨rfl, rfl, rfl⟩ := pure_some h
            have hname : ¬ Tryz.f19.name = "runtime.NumGoroutine" := by
              have : (Tryz.f19.name == "runtime.NumGoroutine") = false := by kernel_rfl
              simpa using this
            have hbody : Tryz.f19.body.isNone = false := by kernel_rfl
            refine .inl ⟨?_, (Tryz.strconv_Itoa n hc.1 hc.2 w (htab hg)).mono ?_⟩
            · have h5 : Tryz.prog.funcs[19]? = some Tryz.f19 := Tryz.func19
              generalize Tryz.f19 = fn at *
              have hb : ¬ fn.body = none := by intro e; rw [e] at hbody; simp at hbody
              show (callFunc 19 _).run Tryz.prog w = _
              simp [callFunc, h5, hname, hb]
            · rintro e w' ⟨rfl, k, os, rfl⟩
              have hv := VRel.str (φ := φ) (S := S) (h := (Go.Sort.grow (w.drewN k) os).heap) ⟨(Lib.itoa n).toArray⟩
              have hk : ∀ b, b < w.heap.size → (Go.Sort.grow (w.drewN k) os).heap[b]? = w.heap[b]? := fun b hb => by
                show (w.heap ++ os)[b]? = _
                rw [Array.getElem?_append_left hb]
              have hs : w.heap.size ≤ (Go.Sort.grow (w.drewN k) os).heap.size := by
                show w.heap.size ≤ (w.heap ++ os).size
                simp
              obtain ⟨k1, k2⟩ := hr.kept hs hk
              exact ⟨φ, F, S, by simpa using hv, k1, ⟨k2, rfl, rfl⟩, fun _ _ => rfl⟩
          · rw [if_neg hc] at h; simp [M.fail] at h
        | _ => simp [itoaA, M.fail] at h
      | _ => simp [itoaA, M.fail] at h
    | cons => simp [itoaA, M.fail] at h

/-- What is known of functions, to begin with. -/
def O1 (f : FuncId) : Option (List AV → M Unit AV) := if f = 45 then some noEsc else if f = 19 then some itoaA else none

theorem O1_good : ∀ f m, O1 f = some m → ∀ xs, Good (m xs) := by
  intro f m h xs
  unfold O1 at h
  split at h
  · simp at h; subst h; exact noEsc_good xs
  · split at h
    · simp at h; subst h; exact itoa_good xs
    · cases h

theorem O1_ok {R : Rep Unit} : ∀ f m, O1 f = some m → FuncOK R E0 f m := by
  intro f m h
  unfold O1 at h
  split at h
  · rename_i e; simp at h; subst h; subst e; exact noEsc_ok rfl
  · split at h
    · rename_i e; simp at h; subst h; subst e; exact itoa_ok
    · cases h

end Go.Abs
