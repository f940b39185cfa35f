/- A finite map from numbers, with laws for the reader and the writer: what an abstract heap is made of. -/
import GoSem.Core.Value
namespace Go.Abs

/-- A binary trie. -/
inductive T (α : Type) : Type where
  | leaf
  | node (l : T α) (v : Option α) (r : T α)

variable {α : Type}

def T.get : T α → Nat → Option α
  | .leaf, _ => none
  | .node l v r, n => if n = 0 then v else if n % 2 = 1 then l.get (n / 2) else r.get (n / 2 - 1)

def T.setAux (x : Option α) : Nat → T α → Nat → T α
  | 0, t, _ => t
  | f + 1, .leaf, n => if n = 0 then .node .leaf x .leaf else if n % 2 = 1 then .node (T.setAux x f .leaf (n / 2)) none .leaf else .node .leaf none (T.setAux x f .leaf (n / 2 - 1))
  | f + 1, .node l v r, n => if n = 0 then .node l x r else if n % 2 = 1 then .node (T.setAux x f l (n / 2)) v r else .node l v (T.setAux x f r (n / 2 - 1))

def T.put (t : T α) (n : Nat) (x : Option α) : T α := T.setAux x (n + 1) t n

def T.set (t : T α) (n : Nat) (x : α) : T α := t.put n (some x)

def T.del (t : T α) (n : Nat) : T α := t.put n none

theorem T.get_setAux (x : Option α) : ∀ (f : Nat) (t : T α) (n m : Nat), n < f → (T.setAux x f t n).get m = if m = n then x else t.get m := by
  intro f
  induction f with
  | zero => intro t n m h; omega
  | succ f ih =>
    intro t n m h
    cases t with
    | leaf =>
      simp only [T.setAux]
      by_cases h0 : n = 0
      · subst h0
        by_cases hm : m = 0 <;> simp [T.get, hm]
      · by_cases h1 : n % 2 = 1
        · simp only [h0, h1, if_false, if_true, T.get]
          by_cases hm : m = 0
          · subst hm; simp [Ne.symm h0]
          · by_cases hm1 : m % 2 = 1
            · simp only [hm, hm1, if_false, if_true]
              rw [ih _ _ _ (by omega)]
              by_cases e : m = n
              · simp [e]
              · rw [if_neg (by omega), if_neg e]; simp [T.get]
            · have e : m ≠ n := by omega
              simp [hm, hm1, e]
        · simp only [h0, h1, if_false, T.get]
          by_cases hm : m = 0
          · subst hm; simp [show ¬ (0 = n) by omega]
          · by_cases hm1 : m % 2 = 1
            · have e : m ≠ n := by omega
              simp [hm, hm1, e]
            · simp only [hm, hm1, if_false]
              rw [ih _ _ _ (by omega)]
              by_cases e : m = n
              · simp [e]
              · rw [if_neg (by omega), if_neg e]; simp [T.get]
    | node l v r =>
      simp only [T.setAux]
      by_cases h0 : n = 0
      · subst h0
        by_cases hm : m = 0 <;> simp [T.get, hm]
      · by_cases h1 : n % 2 = 1
        · simp only [h0, h1, if_false, if_true, T.get]
          by_cases hm : m = 0
          · subst hm; simp [show ¬ (0 = n) by omega]
          · by_cases hm1 : m % 2 = 1
            · simp only [hm, hm1, if_false, if_true]
              rw [ih _ _ _ (by omega)]
              by_cases e : m = n
              · simp [e]
              · rw [if_neg (by omega), if_neg e]
            · have e : m ≠ n := by omega
              simp [hm, hm1, e]
        · simp only [h0, h1, if_false, T.get]
          by_cases hm : m = 0
          · subst hm; simp [show ¬ (0 = n) by omega]
          · by_cases hm1 : m % 2 = 1
            · have e : m ≠ n := by omega
              simp [hm, hm1, e]
            · simp only [hm, hm1, if_false]
              rw [ih _ _ _ (by omega)]
              by_cases e : m = n
              · simp [e]
              · rw [if_neg (by omega), if_neg e]

theorem T.get_put (t : T α) (n m : Nat) (x : Option α) : (t.put n x).get m = if m = n then x else t.get m :=
  T.get_setAux x (n + 1) t n m (by omega)

theorem T.get_set (t : T α) (n m : Nat) (x : α) : (t.set n x).get m = if m = n then some x else t.get m := T.get_put t n m (some x)

theorem T.get_del (t : T α) (n m : Nat) : (t.del n).get m = if m = n then none else t.get m := T.get_put t n m none

@[simp] theorem T.get_set_self (t : T α) (n : Nat) (x : α) : (t.set n x).get n = some x := by simp [T.get_set]

theorem T.get_set_ne (t : T α) {n m : Nat} (x : α) (h : m ≠ n) : (t.set n x).get m = t.get m := by simp [T.get_set, h]

@[simp] theorem T.get_leaf (n : Nat) : (T.leaf : T α).get n = none := by simp [T.get]

end Go.Abs
