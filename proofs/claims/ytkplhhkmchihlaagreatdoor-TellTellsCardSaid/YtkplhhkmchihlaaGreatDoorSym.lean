/- Symbolic runs: what simp is to unfold, and what is known of heaps whose new names are all fresh. -/
import Derived.Test.YtkplhhkmchihlaaGreatDoorCall
namespace Go.Abs
variable {X : Type}

def Fresh (H : Heap X) (c : Nat) : Prop := ∀ q, c ≤ q → H.get q = none

def bytesE (s : List UInt8) : List (List AV) := s.map fun b => [AV.int .u8 b.toNat]

@[simp] theorem bytesE_length (s : List UInt8) : (bytesE s).length = s.length := by simp [bytesE]
theorem bytesE_append (s t : List UInt8) : bytesE (s ++ t) = bytesE s ++ bytesE t := by simp [bytesE]
@[simp] theorem bytesE_nil : bytesE [] = [] := rfl

@[simp] theorem oneAll_bytes (s : List UInt8) : oneAll (bytesE s).flatten = true := by
  induction s with
  | nil => rfl
  | cons b s ih =>
    simp only [bytesE, List.map_cons, List.flatten_cons, oneAll, List.all_append, List.all_cons, List.all_nil, AV.one, Bool.and_true, Bool.true_and]
    exact ih

@[simp] theorem bytesOf_bytesE (s : List UInt8) : bytesOf (bytesE s) = some s := by
  induction s with
  | nil => rfl
  | cons b s ih =>
    simp only [bytesE, List.map_cons, bytesOf]
    simp only [bytesE] at ih
    rw [ih]
    simp

theorem Fresh.set {H : Heap X} {c n : Nat} (h : Fresh H c) (x : AObj X) (hn : n < c) : Fresh (H.set n x) c := fun q hq => by
  rw [T.get_set, if_neg (by omega)]; exact h q hq

theorem Fresh.new {H : Heap X} {c : Nat} (h : Fresh H c) (x : AObj X) : Fresh (H.set c x) (c + 1) := fun q hq => by
  rw [T.get_set, if_neg (by omega)]; exact h q (by omega)

theorem Fresh.del {H : Heap X} {c : Nat} (h : Fresh H c) (n : Nat) : Fresh (H.del n) c := fun q hq => by
  rw [T.get_del]; split
  · rfl
  · exact h q hq

theorem Fresh.mono {H : Heap X} {c c' : Nat} (h : Fresh H c) (hc : c ≤ c') : Fresh H c' := fun q hq => h q (by omega)

theorem Fresh.lt {H : Heap X} {c n : Nat} {o : AObj X} (h : Fresh H c) (hn : H.get n = some o) : n < c := by
  by_cases hc : c ≤ n
  · rw [h n hc] at hn; cases hn
  · omega

end Go.Abs
