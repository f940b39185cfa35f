/- The abstract run's monad: a heap, a counter of names, and (where it is asked for) a list of what was read and written; steps that touch nothing in common may change places. -/
import Derived.Test.YtkplhhkmchihlaaGreatDoorCells
namespace Go.Abs

variable {X : Type}

inductive Act (X : Type) where
  | rdC (n i o k : Nat) (r : List AV)
  | rdO (n : Nat) (r : AObj X)
  | wrC (n i o : Nat) (xs : List AV)
  | wrO (n : Nat) (x : AObj X)
  | new (n : Nat) (x : AObj X)
  | del (n : Nat)

def readC (H : Heap X) (n i o k : Nat) : Option (List AV) :=
  match H.get n with
  | some (.arr _ es) => match es[i]? with
    | some e => if o + k ≤ e.length then some ((e.drop o).take k) else none
    | none => none
  | _ => none

def writeC (H : Heap X) (n i o : Nat) (xs : List AV) : Option (Heap X) :=
  match H.get n with
  | some (.arr t es) => match es[i]? with
    | some e => if o + xs.length ≤ e.length then some (H.set n (.arr t (es.set i (splice e o xs)))) else none
    | none => none
  | _ => none

abbrev M (X α : Type) : Type := Bool → Heap X → Nat → Option (α × Heap X × Nat × List (Act X))

namespace M
variable {α β : Type}

def pure (a : α) : M X α := fun _ H c => some (a, H, c, [])
def fail : M X α := fun _ _ _ => none
def bind (m : M X α) (k : α → M X β) : M X β := fun b H c =>
  match m b H c with
  | none => none
  | some (a, H1, c1, l1) => match k a b H1 c1 with
    | none => none
    | some (r, H2, c2, l2) => some (r, H2, c2, l1 ++ l2)

instance : Monad (M X) where
  pure := M.pure
  bind := M.bind

def lift : Option α → M X α
  | some a => M.pure a
  | none => M.fail

def rdC (n i o k : Nat) : M X (List AV) := fun b H c =>
  match readC H n i o k with
  | some r => some (r, H, c, if b then [.rdC n i o k r] else [])
  | none => none
def rdO (n : Nat) : M X (AObj X) := fun b H c =>
  match H.get n with
  | some o => some (o, H, c, if b then [.rdO n o] else [])
  | none => none
def wrC (n i o : Nat) (xs : List AV) : M X Unit := fun b H c =>
  match writeC H n i o xs with
  | some H' => some ((), H', c, if b then [.wrC n i o xs] else [])
  | none => none
def wrO (n : Nat) (o : AObj X) : M X Unit := fun b H c =>
  match H.get n with
  | some _ => some ((), H.set n o, c, if b then [.wrO n o] else [])
  | none => none
def new (o : AObj X) : M X Nat := fun b H c => some (c, H.set c o, c + 1, if b then [.new c o] else [])
def del (n : Nat) : M X Unit := fun b H c =>
  match H.get n with
  | some _ => some ((), H.del n, c, if b then [.del n] else [])
  | none => none
end M

/-- One thing that was done, done. -/
def RunA : Act X → Heap X → Heap X → Prop
  | .rdC n i o k r, H, H' => readC H n i o k = some r ∧ H' = H
  | .rdO n r, H, H' => H.get n = some r ∧ H' = H
  | .wrC n i o xs, H, H' => writeC H n i o xs = some H'
  | .wrO n x, H, H' => (H.get n).isSome = true ∧ H' = H.set n x
  | .new n x, H, H' => H' = H.set n x
  | .del n, H, H' => (H.get n).isSome = true ∧ H' = H.del n

inductive RunL : List (Act X) → Heap X → Heap X → Prop
  | nil (H : Heap X) : RunL [] H H
  | cons {a : Act X} {l : List (Act X)} {H H1 H2 : Heap X} (h : RunA a H H1) (t : RunL l H1 H2) : RunL (a :: l) H H2

theorem RunL.append {l k : List (Act X)} {A B C : Heap X} (h : RunL l A B) (h' : RunL k B C) : RunL (l ++ k) A C := by
  induction h with
  | nil => exact h'
  | cons ha _ ih => exact .cons ha (ih h')

theorem RunL.split {l k : List (Act X)} {A C : Heap X} (h : RunL (l ++ k) A C) : ∃ B, RunL l A B ∧ RunL k B C := by
  induction l generalizing A with
  | nil => exact ⟨A, .nil A, h⟩
  | cons a l ih =>
    cases h with
    | cons ha ht =>
      obtain ⟨B, h1, h2⟩ := ih ht
      exact ⟨B, .cons ha h1, h2⟩

theorem RunA.det {a : Act X} {H A B : Heap X} (h : RunA a H A) (k : RunA a H B) : A = B := by
  cases a <;> simp only [RunA] at h k
  · exact h.2.trans k.2.symm
  · exact h.2.trans k.2.symm
  · exact Option.some.inj (h.symm.trans k)
  · exact h.2.trans k.2.symm
  · exact h.trans k.symm
  · exact h.2.trans k.2.symm

def Act.newName : Act X → Option Nat
  | .new n _ => some n
  | _ => none

/-- A run of the monad is what its list says, wherever that can be done; its new names are of its own counters. -/
structure Good {α : Type} (m : M X α) : Prop where
  quiet : ∀ H c, m false H c = (m true H c).map fun r => (r.1, r.2.1, r.2.2.1, [])
  le : ∀ {H c a H' c' l}, m true H c = some (a, H', c', l) → c ≤ c'
  run : ∀ {H c a H' c' l}, m true H c = some (a, H', c', l) → RunL l H H'
  news : ∀ {H c a H' c' l}, m true H c = some (a, H', c', l) → ∀ x ∈ l, ∀ n, x.newName = some n → c ≤ n ∧ n < c'
  local_ : ∀ {H c a H' c' l}, m true H c = some (a, H', c', l) → ∀ {K K'}, RunL l K K' → m true K c = some (a, K', c', l)

namespace Good
variable {α β : Type}

theorem pure (a : α) : Good (M.pure a : M X α) where
  quiet _ _ := rfl
  le h := by simp [M.pure] at h; omega
  run h := by simp [M.pure] at h; obtain ⟨_, rfl, _, rfl⟩ := h; exact .nil _
  news h := by simp [M.pure] at h; obtain ⟨_, rfl, _, rfl⟩ := h; simp
  local_ h := by
    simp [M.pure] at h; obtain ⟨rfl, rfl, rfl, rfl⟩ := h
    intro K K' hk; cases hk; rfl

theorem fail : Good (M.fail : M X α) where
  quiet _ _ := rfl
  le h := by simp [M.fail] at h
  run h := by simp [M.fail] at h
  news h := by simp [M.fail] at h
  local_ h := by simp [M.fail] at h

theorem bind {m : M X α} {k : α → M X β} (hm : Good m) (hk : ∀ a, Good (k a)) : Good (m.bind k) where
  quiet H c := by
    simp only [M.bind]
    rw [hm.quiet]
    cases h1 : m true H c with
    | none => rfl
    | some r =>
      obtain ⟨a, H1, c1, l1⟩ := r
      simp only [Option.map_some]
      rw [(hk a).quiet]
      cases h2 : k a true H1 c1 with
      | none => rfl
      | some r => obtain ⟨b, H2, c2, l2⟩ := r; simp
  le := by
    intro H c b H' c' l h
    simp only [M.bind] at h
    cases h1 : m true H c with
    | none => simp [h1] at h
    | some r =>
      obtain ⟨a, H1, c1, l1⟩ := r
      simp only [h1] at h
      cases h2 : k a true H1 c1 with
      | none => simp [h2] at h
      | some r =>
        obtain ⟨b', H2, c2, l2⟩ := r
        simp only [h2, Option.some.injEq, Prod.mk.injEq] at h
        obtain ⟨_, _, rfl, _⟩ := h
        exact Nat.le_trans (hm.le h1) ((hk a).le h2)
  run := by
    intro H c b H' c' l h
    simp only [M.bind] at h
    cases h1 : m true H c with
    | none => simp [h1] at h
    | some r =>
      obtain ⟨a, H1, c1, l1⟩ := r
      simp only [h1] at h
      cases h2 : k a true H1 c1 with
      | none => simp [h2] at h
      | some r =>
        obtain ⟨b', H2, c2, l2⟩ := r
        simp only [h2, Option.some.injEq, Prod.mk.injEq] at h
        obtain ⟨_, rfl, _, rfl⟩ := h
        exact (hm.run h1).append ((hk a).run h2)
  news := by
    intro H c b H' c' l h
    simp only [M.bind] at h
    cases h1 : m true H c with
    | none => simp [h1] at h
    | some r =>
      obtain ⟨a, H1, c1, l1⟩ := r
      simp only [h1] at h
      cases h2 : k a true H1 c1 with
      | none => simp [h2] at h
      | some r =>
        obtain ⟨b', H2, c2, l2⟩ := r
        simp only [h2, Option.some.injEq, Prod.mk.injEq] at h
        obtain ⟨_, _, rfl, rfl⟩ := h
        have e1 := hm.le h1
        have e2 := (hk a).le h2
        intro x hx n hn
        rcases List.mem_append.1 hx with hx | hx
        · have := hm.news h1 x hx n hn; omega
        · have := (hk a).news h2 x hx n hn; omega
  local_ := by
    intro H c b H' c' l h K K' hK
    simp only [M.bind] at h
    cases h1 : m true H c with
    | none => simp [h1] at h
    | some r =>
      obtain ⟨a, H1, c1, l1⟩ := r
      simp only [h1] at h
      cases h2 : k a true H1 c1 with
      | none => simp [h2] at h
      | some r =>
        obtain ⟨b', H2, c2, l2⟩ := r
        simp only [h2, Option.some.injEq, Prod.mk.injEq] at h
        obtain ⟨rfl, rfl, rfl, rfl⟩ := h
        obtain ⟨B, k1, k2⟩ := hK.split
        simp only [M.bind]
        rw [hm.local_ h1 k1]
        simp only []
        rw [(hk a).local_ h2 k2]

theorem lift (o : Option α) : Good (M.lift o : M X α) := by
  cases o with
  | none => exact fail
  | some a => exact pure a

theorem rdC (n i o k : Nat) : Good (M.rdC n i o k : M X _) where
  quiet H c := by simp only [M.rdC]; cases readC H n i o k <;> rfl
  le h := by simp only [M.rdC] at h; split at h <;> simp at h; omega
  run h := by
    simp only [M.rdC] at h
    split at h
    · rename_i r hr; simp at h; obtain ⟨_, rfl, _, rfl⟩ := h; exact .cons ⟨hr, rfl⟩ (.nil _)
    · cases h
  news h := by simp only [M.rdC] at h; split at h <;> simp at h; obtain ⟨_, rfl, _, rfl⟩ := h; simp [Act.newName]
  local_ h := by
    simp only [M.rdC] at h
    split at h
    · rename_i r hr; simp at h; obtain ⟨rfl, rfl, rfl, rfl⟩ := h
      intro K K' hk
      cases hk with
      | cons ha ht => cases ht; obtain ⟨h1, rfl⟩ := ha; simp [M.rdC, h1]
    · cases h

theorem rdO (n : Nat) : Good (M.rdO n : M X _) where
  quiet H c := by simp only [M.rdO]; cases H.get n <;> rfl
  le h := by simp only [M.rdO] at h; split at h <;> simp at h; omega
  run h := by
    simp only [M.rdO] at h
    split at h
    · rename_i r hr; simp at h; obtain ⟨_, rfl, _, rfl⟩ := h; exact .cons ⟨hr, rfl⟩ (.nil _)
    · cases h
  news h := by simp only [M.rdO] at h; split at h <;> simp at h; obtain ⟨_, rfl, _, rfl⟩ := h; simp [Act.newName]
  local_ h := by
    simp only [M.rdO] at h
    split at h
    · rename_i r hr; simp at h; obtain ⟨rfl, rfl, rfl, rfl⟩ := h
      intro K K' hk
      cases hk with
      | cons ha ht => cases ht; obtain ⟨h1, rfl⟩ := ha; simp [M.rdO, h1]
    · cases h

theorem wrC (n i o : Nat) (xs : List AV) : Good (M.wrC n i o xs : M X _) where
  quiet H c := by simp only [M.wrC]; cases writeC H n i o xs <;> rfl
  le h := by simp only [M.wrC] at h; split at h <;> simp at h; omega
  run h := by
    simp only [M.wrC] at h
    split at h
    · rename_i r hr; simp at h; obtain ⟨rfl, _, rfl⟩ := h; exact .cons hr (.nil _)
    · cases h
  news h := by simp only [M.wrC] at h; split at h <;> simp at h; obtain ⟨rfl, _, rfl⟩ := h; simp [Act.newName]
  local_ h := by
    simp only [M.wrC] at h
    split at h
    · rename_i r hr; simp at h; obtain ⟨rfl, rfl, rfl⟩ := h
      intro K K' hk
      cases hk with
      | cons ha ht => cases ht; simp only [RunA] at ha; simp [M.wrC, ha]
    · cases h

theorem wrO (n : Nat) (x : AObj X) : Good (M.wrO n x : M X _) where
  quiet H c := by simp only [M.wrO]; cases H.get n <;> rfl
  le h := by simp only [M.wrO] at h; split at h <;> simp at h; omega
  run h := by
    simp only [M.wrO] at h
    split at h
    · rename_i r hr; simp at h; obtain ⟨rfl, _, rfl⟩ := h; exact .cons ⟨by simp [hr], rfl⟩ (.nil _)
    · cases h
  news h := by simp only [M.wrO] at h; split at h <;> simp at h; obtain ⟨rfl, _, rfl⟩ := h; simp [Act.newName]
  local_ h := by
    simp only [M.wrO] at h
    split at h
    · rename_i r hr; simp at h; obtain ⟨rfl, rfl, rfl⟩ := h
      intro K K' hk
      cases hk with
      | cons ha ht =>
        cases ht; obtain ⟨h1, rfl⟩ := ha
        obtain ⟨y, hy⟩ := Option.isSome_iff_exists.1 h1
        simp [M.wrO, hy]
    · cases h

theorem new (x : AObj X) : Good (M.new x : M X _) where
  quiet H c := rfl
  le h := by simp [M.new] at h; omega
  run h := by simp [M.new] at h; obtain ⟨rfl, rfl, _, rfl⟩ := h; exact .cons rfl (.nil _)
  news h := by simp [M.new] at h; obtain ⟨rfl, rfl, rfl, rfl⟩ := h; simp [Act.newName]
  local_ h := by
    simp [M.new] at h; obtain ⟨rfl, rfl, rfl, rfl⟩ := h
    intro K K' hk
    cases hk with
    | cons ha ht => cases ht; simp only [RunA] at ha; simp [M.new, ha]

theorem del (n : Nat) : Good (M.del n : M X _) where
  quiet H c := by simp only [M.del]; cases H.get n <;> rfl
  le h := by simp only [M.del] at h; split at h <;> simp at h; omega
  run h := by
    simp only [M.del] at h
    split at h
    · rename_i r hr; simp at h; obtain ⟨rfl, _, rfl⟩ := h; exact .cons ⟨by simp [hr], rfl⟩ (.nil _)
    · cases h
  news h := by simp only [M.del] at h; split at h <;> simp at h; obtain ⟨rfl, _, rfl⟩ := h; simp [Act.newName]
  local_ h := by
    simp only [M.del] at h
    split at h
    · rename_i r hr; simp at h; obtain ⟨rfl, rfl, rfl⟩ := h
      intro K K' hk
      cases hk with
      | cons ha ht =>
        cases ht; obtain ⟨h1, rfl⟩ := ha
        obtain ⟨y, hy⟩ := Option.isSome_iff_exists.1 h1
        simp [M.del, hy]
    · cases h

end Good

end Go.Abs
