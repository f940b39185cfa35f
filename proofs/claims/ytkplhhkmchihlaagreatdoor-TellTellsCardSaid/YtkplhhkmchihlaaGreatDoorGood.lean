/- Every operation's run is what its list says. -/
import Derived.Test.YtkplhhkmchihlaaGreatDoorSlots
namespace Go.Abs
variable {X : Type}

theorem good_load (P : Program) (t : TypeId) (a : AV) : Good (loadP P t a : M X AV) := by
  unfold loadP
  dsimp only
  repeat' (first
    | exact Good.pure _ | exact Good.fail | exact Good.lift _ | exact Good.rdC _ _ _ _ | exact Good.rdO _ | exact Good.wrC _ _ _ _ | exact Good.wrO _ _ | exact Good.new _ | exact Good.del _
    | refine Good.bind ?_ (fun _ => ?_) | split)

theorem good_store (P : Program) (t : TypeId) (a v : AV) : Good (storeP P t a v : M X AV) := by
  unfold storeP
  repeat' (first
    | exact Good.pure _ | exact Good.fail | exact Good.lift _ | exact Good.rdC _ _ _ _ | exact Good.rdO _ | exact Good.wrC _ _ _ _ | exact Good.wrO _ _ | exact Good.new _ | exact Good.del _
    | refine Good.bind ?_ (fun _ => ?_) | split)

theorem good_src (z : EZ) (x : AV) : Good (srcP z x : M X (List (List AV))) := by
  unfold srcP
  repeat' (first
    | exact Good.pure _ | exact Good.fail | exact Good.lift _ | exact Good.rdC _ _ _ _ | exact Good.rdO _ | exact Good.wrC _ _ _ _ | exact Good.wrO _ _ | exact Good.new _ | exact Good.del _
    | refine Good.bind ?_ (fun _ => ?_) | split)

theorem good_append (P : Program) (t xt : TypeId) (s x : AV) : Good (appendP P t xt s x : M X AV) := by
  unfold appendP
  repeat' (first
    | exact good_src _ _ | exact Good.pure _ | exact Good.fail | exact Good.lift _ | exact Good.rdC _ _ _ _ | exact Good.rdO _ | exact Good.wrC _ _ _ _ | exact Good.wrO _ _ | exact Good.new _ | exact Good.del _
    | refine Good.bind ?_ (fun _ => ?_) | split)

theorem good_plain (P : Program) (ρ : Env) (op : Op) : Good (plainOp P ρ op : M X AV) := by
  cases op <;> simp only [plainOp] <;> repeat' (first
    | exact good_load _ _ _ | exact good_store _ _ _ _ | exact Good.pure _ | exact Good.fail | exact Good.lift _ | exact Good.rdC _ _ _ _ | exact Good.rdO _ | exact Good.wrC _ _ _ _ | exact Good.wrO _ _ | exact Good.new _ | exact Good.del _
    | refine Good.bind ?_ (fun _ => ?_) | split)

theorem good_lookup (P : Program) (t : TypeId) (m k : AV) (ok : Bool) : Good (lookupP P t m k ok : M X AV) := by
  unfold lookupP
  repeat' (first
    | exact Good.pure _ | exact Good.fail | exact Good.lift _ | exact Good.rdC _ _ _ _ | exact Good.rdO _ | exact Good.wrC _ _ _ _ | exact Good.wrO _ _ | exact Good.new _ | exact Good.del _
    | refine Good.bind ?_ (fun _ => ?_) | split)

theorem good_update (P : Program) (t : TypeId) (m k v : AV) : Good (updateP P t m k v : M X AV) := by
  unfold updateP
  repeat' (first
    | exact Good.pure _ | exact Good.fail | exact Good.lift _ | exact Good.rdC _ _ _ _ | exact Good.rdO _ | exact Good.wrC _ _ _ _ | exact Good.wrO _ _ | exact Good.new _ | exact Good.del _
    | refine Good.bind ?_ (fun _ => ?_) | split)

theorem good_delete (P : Program) (t : TypeId) (m k : AV) : Good (deleteP P t m k : M X AV) := by
  unfold deleteP
  repeat' (first
    | exact Good.pure _ | exact Good.fail | exact Good.lift _ | exact Good.rdC _ _ _ _ | exact Good.rdO _ | exact Good.wrC _ _ _ _ | exact Good.wrO _ _ | exact Good.new _ | exact Good.del _
    | refine Good.bind ?_ (fun _ => ?_) | split)

theorem good_len (P : Program) (t : TypeId) (x : AV) : Good (lenP P t x : M X AV) := by
  unfold lenP
  repeat' (first
    | exact Good.pure _ | exact Good.fail | exact Good.lift _ | exact Good.rdC _ _ _ _ | exact Good.rdO _ | exact Good.wrC _ _ _ _ | exact Good.wrO _ _ | exact Good.new _ | exact Good.del _
    | refine Good.bind ?_ (fun _ => ?_) | split)

theorem good_clear (P : Program) (t : TypeId) (x : AV) : Good (clearP P t x : M X AV) := by
  unfold clearP
  repeat' (first
    | exact Good.pure _ | exact Good.fail | exact Good.lift _ | exact Good.rdC _ _ _ _ | exact Good.rdO _ | exact Good.wrC _ _ _ _ | exact Good.wrO _ _ | exact Good.new _ | exact Good.del _
    | refine Good.bind ?_ (fun _ => ?_) | split)

theorem good_builtin (P : Program) (b : Builtin) (ts : List TypeId) (xs : List AV) : Good (builtinP P b ts xs : M X AV) := by
  unfold builtinP
  split
  · exact good_len _ _ _
  · exact good_append _ _ _ _ _
  · exact good_clear _ _ _
  · exact good_delete _ _ _ _
  · exact good_copy _ _ _ _ _
  · exact Good.lift _
  · exact good_unsafeStr _ _ _ _
  · exact Good.lift _
  · exact Good.lift _
  · exact Good.fail

def CallsGood (call : AV → List AV → M X AV) : Prop := ∀ g xs, Good (call g xs)

theorem good_oper {E : Cfg} {call : AV → List AV → M X AV} (hc : CallsGood call) (o : Oper) (ρ : Env) : Good (operA E call o ρ) := by
  unfold operA
  split
  · split
    · exact Good.fail
    · split
      · exact good_builtin _ _ _ _
      · split
        · exact hc _ _
        · exact Good.fail
      · exact Good.fail
  · split
    · exact good_lookup _ _ _ _ _
    · exact Good.fail
  · split
    · exact good_update _ _ _ _ _
    · exact Good.fail
  · split
    · exact good_convert _ _ _ _
    · exact Good.fail
  · split
    · exact good_make _ _ _ _
    · exact Good.fail
  · exact good_plain _ _ _

/-- In the quiet too. -/
theorem Good.loud {α : Type} {m : M X α} (g : Good m) {b : Bool} {H H' : Heap X} {c c' : Nat} {a : α} {l : List (Act X)} (h : m b H c = some (a, H', c', l)) : ∃ k, m true H c = some (a, H', c', k) := by
  cases b with
  | true => exact ⟨l, h⟩
  | false =>
    rw [g.quiet] at h
    cases h1 : m true H c with
    | none => simp [h1] at h
    | some r =>
      obtain ⟨a1, H1, c1, l1⟩ := r
      simp [h1] at h
      obtain ⟨rfl, rfl, rfl, _⟩ := h
      exact ⟨l1, rfl⟩

theorem Good.le' {α : Type} {m : M X α} (g : Good m) {b : Bool} {H H' : Heap X} {c c' : Nat} {a : α} {l : List (Act X)} (h : m b H c = some (a, H', c', l)) : c ≤ c' := by
  obtain ⟨k, hk⟩ := g.loud h
  exact g.le hk

theorem good_ops {E : Cfg} {call : AV → List AV → M X AV} (hc : CallsGood call) (ops : Array Oper) : ∀ (l : List Oper) (s : Slots), Good (opsA E call ops l s)
  | [], s => Good.pure _
  | o :: r, s => by
    simp only [opsA]
    split
    · exact Good.fail
    · exact good_ops hc ops r _
    · exact Good.bind (good_oper hc _ _) fun _ => good_ops hc ops r _

section
variable {E : Cfg} {call : AV → List AV → M X AV} {ops : Array Oper}

theorem drawA_facts (hc : CallsGood call) : ∀ (l : List Oper) {s s' : Slots} {H H' : Heap X} {c c' : Nat} {ls : List (List (Act X))}, drawA E call ops l s H c = some (s', H', c', ls) →
    c ≤ c' ∧ RunL ls.flatten H H' ∧ (∀ x ∈ ls.flatten, ∀ n, x.newName = some n → c ≤ n ∧ n < c') ∧ ∀ {K K' : Heap X}, RunL ls.flatten K K' → drawA E call ops l s K c = some (s', K', c', ls)
  | [], s, s', H, H', c, c', ls, h => by
    simp only [drawA, Option.some.injEq, Prod.mk.injEq] at h
    obtain ⟨rfl, rfl, rfl, rfl⟩ := h
    refine ⟨Nat.le_refl _, .nil _, by simp, fun hk => ?_⟩
    cases hk
    rfl
  | o :: r, s, s', H, H', c, c', ls, h => by
    simp only [drawA] at h
    cases hw : wantA ops s o with
    | none => simp [hw] at h
    | some t =>
      cases t with
      | false =>
        simp only [hw] at h
        cases h1 : drawA E call ops r (putA s o.dst .undef) H c with
        | none => simp [h1] at h
        | some q =>
          obtain ⟨s1, H1, c1, ls1⟩ := q
          simp only [h1, Option.some.injEq, Prod.mk.injEq] at h
          obtain ⟨rfl, rfl, rfl, rfl⟩ := h
          obtain ⟨f1, f2, f3, f4⟩ := drawA_facts hc r h1
          refine ⟨f1, by simpa using f2, by simpa using f3, fun hk => ?_⟩
          simp only [drawA, hw]
          rw [f4 (by simpa using hk)]
      | true =>
        simp only [hw] at h
        cases h0 : operA E call o (evalA E.G s) true H c with
        | none => simp [h0] at h
        | some q =>
          obtain ⟨v, H0, c0, l0⟩ := q
          simp only [h0] at h
          cases h1 : drawA E call ops r (putA s o.dst v) H0 c0 with
          | none => simp [h1] at h
          | some q =>
            obtain ⟨s1, H1, c1, ls1⟩ := q
            simp only [h1, Option.some.injEq, Prod.mk.injEq] at h
            obtain ⟨rfl, rfl, rfl, rfl⟩ := h
            have g := good_oper (E := E) hc o (evalA E.G s)
            obtain ⟨f1, f2, f3, f4⟩ := drawA_facts hc r h1
            have e1 := g.le h0
            refine ⟨Nat.le_trans e1 f1, by simpa using (g.run h0).append f2, ?_, fun hk => ?_⟩
            · intro x hx n hn
              rw [List.flatten_cons, List.mem_append] at hx
              rcases hx with hx | hx
              · have := g.news h0 x hx n hn; omega
              · have := f3 x hx n hn; omega
            · rw [List.flatten_cons] at hk
              obtain ⟨B, k1, k2⟩ := hk.split
              simp only [drawA, hw]
              rw [g.local_ h0 k1]
              simp only []
              rw [f4 k2]

theorem drawn_some {s s' : Slots} {b : Bool} {H H' : Heap X} {c c' : Nat} {l : List (Act X)} (h : drawnA E call ops s b H c = some (s', H', c', l)) :
    ∃ ls, drawA E call ops ops.toList s H c = some (s', H', c', ls) ∧ freeAll ops 0 ops.toList ls = true ∧ l = if b then ls.flatten else [] := by
  unfold drawnA at h
  cases h1 : drawA E call ops ops.toList s H c with
  | none => simp [h1] at h
  | some q =>
    obtain ⟨s1, H1, c1, ls⟩ := q
    simp only [h1] at h
    by_cases hf : freeAll ops 0 ops.toList ls = true
    · rw [if_pos hf] at h
      simp only [Option.some.injEq, Prod.mk.injEq] at h
      obtain ⟨rfl, rfl, rfl, rfl⟩ := h
      exact ⟨ls, rfl, hf, rfl⟩
    · rw [if_neg hf] at h; cases h

theorem good_drawn (hc : CallsGood call) (s : Slots) : Good (drawnA E call ops s) where
  quiet H c := by
    simp only [drawnA]
    cases drawA E call ops ops.toList s H c with
    | none => rfl
    | some q =>
      obtain ⟨s1, H1, c1, ls⟩ := q
      simp only []
      split <;> rfl
  le h := by
    obtain ⟨ls, h1, h2, rfl⟩ := drawn_some h
    exact (drawA_facts hc _ h1).1
  run h := by
    obtain ⟨ls, h1, h2, rfl⟩ := drawn_some h
    exact (drawA_facts hc _ h1).2.1
  news h := by
    obtain ⟨ls, h1, h2, rfl⟩ := drawn_some h
    exact (drawA_facts hc _ h1).2.2.1
  local_ h := by
    obtain ⟨ls, h1, h2, rfl⟩ := drawn_some h
    intro K K' hk
    simp only [drawnA]
    rw [(drawA_facts hc _ h1).2.2.2 hk]
    simp [h2]
end

end Go.Abs
