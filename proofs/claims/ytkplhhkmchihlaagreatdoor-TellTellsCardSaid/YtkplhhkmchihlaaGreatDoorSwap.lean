/- Steps that touch nothing in common may change places. -/
import Derived.Test.YtkplhhkmchihlaaGreatDoorMon
namespace Go.Abs
variable {X : Type}

def Act.name : Act X → Nat
  | .rdC n _ _ _ _ | .rdO n _ | .wrC n _ _ _ | .wrO n _ | .new n _ | .del n => n

def Act.isRead : Act X → Bool
  | .rdC .. | .rdO .. => true
  | _ => false

def Act.range : Act X → Option (Nat × Nat × Nat)
  | .rdC _ i o k _ => some (i, o, k)
  | .wrC _ i o xs => some (i, o, xs.length)
  | _ => none

def indepR : Option (Nat × Nat × Nat) → Option (Nat × Nat × Nat) → Bool
  | some (i, o, k), some (j, p, m) => i != j || (decide (o + k ≤ p) || decide (p + m ≤ o))
  | _, _ => false

def indepA (a b : Act X) : Bool := a.name != b.name || (a.isRead && b.isRead || indepR a.range b.range)

def indepL (l k : List (Act X)) : Bool := l.all fun a => k.all fun b => indepA a b

/-- Heaps that read alike. -/
def Like (H K : Heap X) : Prop := ∀ n, H.get n = K.get n

theorem Like.refl (H : Heap X) : Like H H := fun _ => rfl
theorem Like.symm {H K : Heap X} (h : Like H K) : Like K H := fun n => (h n).symm
theorem Like.trans {A B C : Heap X} (h : Like A B) (k : Like B C) : Like A C := fun n => (h n).trans (k n)

/-- What a step does to the object under its name. -/
def EffA : Act X → Option (AObj X) → Option (AObj X) → Prop
  | .rdC _ i o k r, x, y => (∃ t es e, x = some (.arr t es) ∧ es[i]? = some e ∧ o + k ≤ e.length ∧ (e.drop o).take k = r) ∧ y = x
  | .rdO _ r, x, y => x = some r ∧ y = x
  | .wrC _ i o xs, x, y => ∃ t es e, x = some (.arr t es) ∧ es[i]? = some e ∧ o + xs.length ≤ e.length ∧ y = some (.arr t (es.set i (splice e o xs)))
  | .wrO _ z, x, y => x.isSome = true ∧ y = some z
  | .new _ z, _, y => y = some z
  | .del _, x, y => x.isSome = true ∧ y = none

theorem readC_some {H : Heap X} {n i o k : Nat} {r : List AV} : readC H n i o k = some r ↔ ∃ t es e, H.get n = some (.arr t es) ∧ es[i]? = some e ∧ o + k ≤ e.length ∧ (e.drop o).take k = r := by
  unfold readC
  constructor
  · intro h
    split at h
    · rename_i t es ho
      split at h
      · rename_i e he
        split at h
        · rename_i hle; exact ⟨t, es, e, ho, he, hle, Option.some.inj h⟩
        · cases h
      · cases h
    · cases h
  · rintro ⟨t, es, e, ho, he, hle, hr⟩
    simp [ho, he, hle, hr]

theorem writeC_some {H K : Heap X} {n i o : Nat} {xs : List AV} : writeC H n i o xs = some K ↔ ∃ t es e, H.get n = some (.arr t es) ∧ es[i]? = some e ∧ o + xs.length ≤ e.length ∧ K = H.set n (.arr t (es.set i (splice e o xs))) := by
  unfold writeC
  constructor
  · intro h
    split at h
    · rename_i t es ho
      split at h
      · rename_i e he
        split at h
        · rename_i hle; exact ⟨t, es, e, ho, he, hle, (Option.some.inj h).symm⟩
        · cases h
      · cases h
    · cases h
  · rintro ⟨t, es, e, ho, he, hle, hr⟩
    simp [ho, he, hle, hr]

theorem RunA.eff {a : Act X} {H K : Heap X} (h : RunA a H K) : EffA a (H.get a.name) (K.get a.name) ∧ ∀ m, m ≠ a.name → K.get m = H.get m := by
  cases a with
  | rdC n i o k r => obtain ⟨h, rfl⟩ := h; exact ⟨⟨readC_some.1 h, rfl⟩, fun _ _ => rfl⟩
  | rdO n r => obtain ⟨h, rfl⟩ := h; exact ⟨⟨h, rfl⟩, fun _ _ => rfl⟩
  | wrC n i o xs =>
    obtain ⟨t, es, e, h1, h2, h3, rfl⟩ := writeC_some.1 h
    exact ⟨⟨t, es, e, h1, h2, h3, by simp [Act.name]⟩, fun m hm => T.get_set_ne _ _ hm⟩
  | wrO n x => obtain ⟨h, rfl⟩ := h; exact ⟨⟨h, by simp [Act.name]⟩, fun m hm => T.get_set_ne _ _ hm⟩
  | new n x => simp only [RunA] at h; subst h; exact ⟨by simp [EffA, Act.name], fun m hm => T.get_set_ne _ _ hm⟩
  | del n => obtain ⟨h, rfl⟩ := h; exact ⟨⟨h, by simp [Act.name, T.get_del]⟩, fun m hm => by simp only [Act.name] at hm; simp [T.get_del, hm]⟩

theorem RunA.of_eff {a : Act X} {H : Heap X} {y : Option (AObj X)} (h : EffA a (H.get a.name) y) : ∃ K, RunA a H K ∧ K.get a.name = y ∧ ∀ m, m ≠ a.name → K.get m = H.get m := by
  cases a with
  | rdC n i o k r => obtain ⟨h, rfl⟩ := h; exact ⟨H, ⟨readC_some.2 h, rfl⟩, rfl, fun _ _ => rfl⟩
  | rdO n r => obtain ⟨h, rfl⟩ := h; exact ⟨H, ⟨h, rfl⟩, rfl, fun _ _ => rfl⟩
  | wrC n i o xs =>
    obtain ⟨t, es, e, h1, h2, h3, rfl⟩ := h
    exact ⟨_, writeC_some.2 ⟨t, es, e, h1, h2, h3, rfl⟩, by simp [Act.name], fun m hm => T.get_set_ne _ _ hm⟩
  | wrO n x => obtain ⟨h, rfl⟩ := h; exact ⟨_, ⟨h, rfl⟩, by simp [Act.name], fun m hm => T.get_set_ne _ _ hm⟩
  | new n x => simp only [EffA] at h; subst h; exact ⟨_, rfl, by simp [Act.name], fun m hm => T.get_set_ne _ _ hm⟩
  | del n => obtain ⟨h, rfl⟩ := h; exact ⟨_, ⟨h, rfl⟩, by simp [Act.name, T.get_del], fun m hm => by simp only [Act.name] at hm; simp [T.get_del, hm]⟩

theorem RunA.like {a : Act X} {H H1 K : Heap X} (h : RunA a H H1) (hk : Like H K) : ∃ K1, RunA a K K1 ∧ Like H1 K1 := by
  obtain ⟨h1, h2⟩ := h.eff
  rw [hk] at h1
  obtain ⟨K1, k1, k2, k3⟩ := RunA.of_eff h1
  refine ⟨K1, k1, fun n => ?_⟩
  by_cases e : n = a.name
  · subst e; exact k2.symm
  · rw [h2 n e, k3 n e, hk n]

theorem RunL.like {l : List (Act X)} {H H1 K : Heap X} (h : RunL l H H1) (hk : Like H K) : ∃ K1, RunL l K K1 ∧ Like H1 K1 := by
  induction h generalizing K with
  | nil => exact ⟨K, .nil K, hk⟩
  | cons ha _ ih =>
    obtain ⟨K1, k1, k2⟩ := ha.like hk
    obtain ⟨K2, k3, k4⟩ := ih k2
    exact ⟨K2, .cons k1 k3, k4⟩

theorem splice_drop_take {l xs : List AV} {o p m : Nat} (h : o + xs.length ≤ l.length) (hd : o + xs.length ≤ p ∨ p + m ≤ o) : ((splice l o xs).drop p).take m = (l.drop p).take m := by
  apply List.ext_getElem?
  intro j
  rw [List.getElem?_take, List.getElem?_take]
  split
  · rw [List.getElem?_drop, List.getElem?_drop, splice_get h, if_neg (by omega)]
  · rfl

theorem splice_comm {l xs ys : List AV} {o p : Nat} (h : o + xs.length ≤ l.length) (k : p + ys.length ≤ l.length) (hd : o + xs.length ≤ p ∨ p + ys.length ≤ o) :
    splice (splice l o xs) p ys = splice (splice l p ys) o xs := by
  apply List.ext_getElem?
  intro j
  rw [splice_get (l := splice l o xs) (by rw [splice_length h]; exact k), splice_get (l := splice l p ys) (by rw [splice_length k]; exact h), splice_get h, splice_get k]
  by_cases h1 : p ≤ j ∧ j < p + ys.length <;> by_cases h2 : o ≤ j ∧ j < o + xs.length <;> simp [h1, h2]
  omega

theorem EffA.swap {a b : Act X} {x y z : Option (AObj X)} (h : EffA a x y) (k : EffA b y z) (hi : (a.isRead && b.isRead || indepR a.range b.range) = true) : ∃ y', EffA b x y' ∧ EffA a y' z := by
  rcases Bool.or_eq_true _ _ ▸ hi with hr | hr
  · rw [Bool.and_eq_true] at hr
    have e1 : y = x := by cases a <;> simp [Act.isRead] at hr <;> exact h.2
    have e2 : z = y := by cases b <;> simp [Act.isRead] at hr <;> exact k.2
    subst e1; subst e2
    exact ⟨_, k, h⟩
  · have range_ind : ∀ {i o n j p m : Nat}, indepR (some (i, o, n)) (some (j, p, m)) = true → i ≠ j ∨ (o + n ≤ p ∨ p + m ≤ o) := by
      intro i o n j p m h
      simp only [indepR, Bool.or_eq_true, bne_iff_ne, ne_eq, decide_eq_true_eq] at h
      exact h
    cases a with
    | rdC n i o m r =>
      obtain ⟨⟨t, es, e, rfl, he, hle, hre⟩, rfl⟩ := h
      cases b with
      | rdC n' j p q r' => obtain ⟨hb, rfl⟩ := k; exact ⟨_, ⟨hb, rfl⟩, ⟨t, es, e, rfl, he, hle, hre⟩, rfl⟩
      | wrC n' j p ys =>
        obtain ⟨t', es', e', he0, he', hle', rfl⟩ := k
        cases he0
        refine ⟨_, ⟨t, es, e', rfl, he', hle', rfl⟩, ?_, rfl⟩
        rcases range_ind hr with hd | hd
        · exact ⟨t, _, e, rfl, by rw [List.getElem?_set_ne (Ne.symm hd)]; exact he, hle, hre⟩
        · by_cases hij : i = j
          · subst hij
            rw [he] at he'; cases he'
            refine ⟨t, _, _, rfl, by rw [List.getElem?_set_self (List.getElem?_eq_some_iff.1 he).1], by rw [splice_length hle']; exact hle, ?_⟩
            rw [splice_drop_take hle' (by omega)]; exact hre
          · exact ⟨t, _, e, rfl, by rw [List.getElem?_set_ne (Ne.symm hij)]; exact he, hle, hre⟩
      | rdO n' r' => simp [Act.range, indepR] at hr
      | wrO n' z' => simp [Act.range, indepR] at hr
      | new n' z' => simp [Act.range, indepR] at hr
      | del n' => simp [Act.range, indepR] at hr
    | wrC n i o xs =>
      obtain ⟨t, es, e, rfl, he, hle, rfl⟩ := h
      cases b with
      | rdC n' j p q r' =>
        obtain ⟨⟨t', es', e', he0, he', hle', hre'⟩, rfl⟩ := k
        cases he0
        refine ⟨_, ⟨?_, rfl⟩, t, es, e, rfl, he, hle, rfl⟩
        rcases range_ind hr with hd | hd
        · rw [List.getElem?_set_ne hd] at he'
          exact ⟨t, es, e', rfl, he', hle', hre'⟩
        · by_cases hij : i = j
          · subst hij
            rw [List.getElem?_set_self (List.getElem?_eq_some_iff.1 he).1] at he'; cases he'
            rw [splice_length hle] at hle'
            rw [splice_drop_take hle (by omega)] at hre'
            exact ⟨t, es, e, rfl, he, hle', hre'⟩
          · rw [List.getElem?_set_ne hij] at he'
            exact ⟨t, es, e', rfl, he', hle', hre'⟩
      | wrC n' j p ys =>
        obtain ⟨t', es', e', he0, he', hle', rfl⟩ := k
        cases he0
        rcases range_ind hr with hd | hd
        · rw [List.getElem?_set_ne hd] at he'
          refine ⟨_, ⟨t, es, e', rfl, he', hle', rfl⟩, t, _, e, rfl, by rw [List.getElem?_set_ne (Ne.symm hd)]; exact he, hle, ?_⟩
          rw [List.set_comm _ _ hd]
        · by_cases hij : i = j
          · subst hij
            rw [List.getElem?_set_self (List.getElem?_eq_some_iff.1 he).1] at he'; cases he'
            rw [splice_length hle] at hle'
            refine ⟨_, ⟨t, es, e, rfl, he, hle', rfl⟩, t, _, _, rfl, by rw [List.getElem?_set_self (List.getElem?_eq_some_iff.1 he).1], by rw [splice_length hle']; exact hle, ?_⟩
            rw [List.set_set, List.set_set, splice_comm hle hle' (by omega)]
          · rw [List.getElem?_set_ne hij] at he'
            refine ⟨_, ⟨t, es, e', rfl, he', hle', rfl⟩, t, _, e, rfl, by rw [List.getElem?_set_ne (Ne.symm hij)]; exact he, hle, ?_⟩
            rw [List.set_comm _ _ hij]
      | rdO n' r' => simp [Act.range, indepR] at hr
      | wrO n' z' => simp [Act.range, indepR] at hr
      | new n' z' => simp [Act.range, indepR] at hr
      | del n' => simp [Act.range, indepR] at hr
    | rdO n' r' => simp [Act.range, indepR] at hr
    | wrO n' z' => simp [Act.range, indepR] at hr
    | new n' z' => simp [Act.range, indepR] at hr
    | del n' => simp [Act.range, indepR] at hr

theorem RunA.swap {a b : Act X} {H H1 H2 : Heap X} (h : RunA a H H1) (k : RunA b H1 H2) (hi : indepA a b = true) : ∃ K1 K2, RunA b H K1 ∧ RunA a K1 K2 ∧ Like K2 H2 := by
  obtain ⟨h1, h2⟩ := h.eff
  obtain ⟨k1, k2⟩ := k.eff
  by_cases e : a.name = b.name
  · simp only [indepA, e, bne_self_eq_false, Bool.false_or] at hi
    rw [← e] at k1
    obtain ⟨y', s1, s2⟩ := EffA.swap h1 k1 hi
    rw [e] at s1
    obtain ⟨K1, p1, p2, p3⟩ := RunA.of_eff s1
    rw [← p2, ← e] at s2
    obtain ⟨K2, q1, q2, q3⟩ := RunA.of_eff s2
    refine ⟨K1, K2, p1, q1, fun n => ?_⟩
    by_cases en : n = a.name
    · subst en; exact q2
    · rw [q3 n en, p3 n (e ▸ en), k2 n (e ▸ en), h2 n en]
  · rw [h2 b.name (Ne.symm e)] at k1
    obtain ⟨K1, p1, p2, p3⟩ := RunA.of_eff k1
    rw [← p3 a.name e] at h1
    obtain ⟨K2, q1, q2, q3⟩ := RunA.of_eff h1
    refine ⟨K1, K2, p1, q1, fun n => ?_⟩
    by_cases ea : n = a.name
    · subst ea; rw [q2, k2 _ e]
    · rw [q3 n ea]
      by_cases eb : n = b.name
      · subst eb; exact p2
      · rw [p3 n eb, k2 n eb, h2 n ea]

/-- One step past a list. -/
theorem RunL.swap1 {a : Act X} : ∀ {l : List (Act X)} {H H1 H2 : Heap X}, RunL l H H1 → RunA a H1 H2 → (∀ b ∈ l, indepA b a = true) → ∃ K1 K2, RunA a H K1 ∧ RunL l K1 K2 ∧ Like K2 H2
  | [], H, H1, H2, h, k, _ => by cases h; exact ⟨H2, H2, k, .nil _, Like.refl _⟩
  | b :: l, H, H1, H2, h, k, hi => by
    cases h with
    | cons ha ht =>
      obtain ⟨K1, K2, p1, p2, p3⟩ := RunL.swap1 ht k fun b hb => hi b (by simp [hb])
      obtain ⟨J1, J2, q1, q2, q3⟩ := ha.swap p1 (hi b (by simp))
      obtain ⟨L, r1, r2⟩ := p2.like q3.symm
      exact ⟨J1, L, q1, .cons q2 r1, r2.symm.trans p3⟩

theorem RunL.swap : ∀ {k l : List (Act X)} {H H1 H2 : Heap X}, RunL l H H1 → RunL k H1 H2 → indepL l k = true → ∃ K1 K2, RunL k H K1 ∧ RunL l K1 K2 ∧ Like K2 H2
  | [], l, H, H1, H2, h, h', _ => by cases h'; exact ⟨H, _, .nil _, h, Like.refl _⟩
  | b :: k, l, H, H1, H2, h, h', hi => by
    cases h' with
    | cons ha ht =>
      have hb : ∀ x ∈ l, indepA x b = true := fun x hx => by
        have := List.all_eq_true.1 hi x hx
        exact List.all_eq_true.1 this b (by simp)
      have hk : indepL l k = true := List.all_eq_true.2 fun x hx => List.all_eq_true.2 fun y hy => by
        have := List.all_eq_true.1 hi x hx
        exact List.all_eq_true.1 this y (List.mem_cons_of_mem _ hy)
      obtain ⟨K1, K2, p1, p2, p3⟩ := h.swap1 ha hb
      obtain ⟨C, r1, r2⟩ := ht.like p3.symm
      obtain ⟨J1, J2, q1, q2, q3⟩ := RunL.swap p2 r1 hk
      exact ⟨J1, J2, .cons p1 q1, q2, q3.trans r2.symm⟩

end Go.Abs
