/- Frames; the operations of a region in the order of the text. -/
import Derived.Test.YtkplhhkmchihlaaGreatDoorOper
namespace Go.Abs
variable {X : Type} {R : Rep X} {P : Program} {φ : Names} {F S : Nat → Prop} {H : Heap X}

/-- A frame's places are what is known of them. -/
def SlotsOK (φ : Names) (S : Nat → Prop) (h : Array Obj) (s : Slots) (a : Go.Act) : Prop := ∀ t v, s.get t = some v → ∃ v', a.tmps[t]? = some v' ∧ VRel φ S h v v'

theorem SlotsOK.step {φ' : Names} {F' S' : Nat → Prop} {w w' : World} {s : Slots} {a : Go.Act} (k : SlotsOK φ S w.heap s a) (r : HRel R φ F S H w.heap) (st : WStep φ F S w φ' F' S' w') : SlotsOK φ' S' w'.heap s a := by
  intro t v ht
  obtain ⟨v', h1, h2⟩ := k t v ht
  exact ⟨v', h1, st.st.val r h2⟩

theorem SlotsOK.put {h : Array Obj} {s : Slots} {a : Go.Act} (k : SlotsOK φ S h s a) {v : AV} {r : Value} (hv : VRel φ S h v r) (dst : Option Tmp) : SlotsOK φ S h (putA s dst v) (a.put dst r) := by
  cases dst with
  | none => exact k
  | some d =>
    simp only [putA]
    cases hd : s.get d with
    | none =>
      intro t u ht
      simp only at ht
      obtain ⟨u', h1, h2⟩ := k t u ht
      have hne : d ≠ t := fun e => by subst e; rw [hd] at ht; cases ht
      exact ⟨u', by simpa [Go.Act.put, Array.getElem?_setIfInBounds_ne hne] using h1, h2⟩
    | some old =>
      intro t u ht
      simp only [T.get_set] at ht
      by_cases hne : d = t
      · subst hne
        simp at ht; subst ht
        obtain ⟨u', h1, _⟩ := k d old hd
        have hlt : d < a.tmps.size := (Array.getElem?_eq_some_iff.1 h1).1
        exact ⟨r, by simp [Go.Act.put, hlt], hv⟩
      · have : s.get t = some u := by simpa [hne, Ne.symm hne, eq_comm] using ht
        obtain ⟨u', h1, h2⟩ := k t u this
        exact ⟨u', by simpa [Go.Act.put, Array.getElem?_setIfInBounds_ne hne] using h1, h2⟩

theorem SlotsOK.eval {h : Array Obj} {s : Slots} {a : Go.Act} {E : Cfg} (k : SlotsOK φ S h s a) (g : GOK E φ S h) : ∀ x y, evalA E.G s x = some y → VRel φ S h y (a.eval x) := by
  intro x y hx
  cases x with
  | tmp t =>
    obtain ⟨v', h1, h2⟩ := k t y hx
    simpa [Go.Act.eval, h1] using h2
  | const v => exact ofVal_rel hx
  | global n => exact g.val n y hx
  | func f => simp only [evalA, Option.some.injEq] at hx; subst hx; exact .fn .nil .nil

theorem SlotsOK.want {h : Array Obj} {s : Slots} {a : Go.Act} {ops : Array Oper} {o : Oper} {t : Bool} (k : SlotsOK φ S h s a) (hw : wantA ops s o = some t) : Region.wanted o (yielded ops a.tmps) = t := by
  unfold wantA at hw
  unfold Region.wanted
  cases hg : o.guard with
  | none => simp [hg] at hw; simpa using hw
  | some p =>
    obtain ⟨j, want⟩ := p
    simp only [hg] at hw ⊢
    unfold yieldA at hw
    unfold yielded
    cases hd : (ops[j]?).bind (·.dst) with
    | none => simp [hd] at hw; subst hw; simp
    | some d =>
      simp only [hd] at hw
      cases hs : s.get d with
      | none => simp [hs] at hw
      | some v =>
        obtain ⟨v', h1, h2⟩ := k d v hs
        simp only [Option.bind_some, h1]
        cases h2 <;> simp [hs] at hw <;> subst hw <;> simp

section
variable {E : Cfg} {call : AV → List AV → M X AV} {ro : Option Nat} {ops : Array Oper} {Q : Exit → Go.Act → World → Prop} {b : Bool}

theorem opsA_le (hc : ∀ o ρ H c v H' c' l, operA E call o ρ b H c = some (v, H', c', l) → c ≤ c') : ∀ (l : List Oper) {s s' : Slots} {H H' : Heap X} {c c' : Nat} {k : List (Act X)}, opsA E call ops l s b H c = some (s', H', c', k) → c ≤ c'
  | [], s, s', H, H', c, c', k, h => by
    simp only [opsA] at h
    obtain ⟨rfl, rfl, rfl⟩ := pure_some h
    exact Nat.le_refl _
  | o :: r, s, s', H, H', c, c', k, h => by
    simp only [opsA] at h
    cases hw : wantA ops s o with
    | none => simp [hw, M.fail] at h
    | some t =>
      cases t with
      | false => simp only [hw] at h; exact opsA_le hc r h
      | true =>
        simp only [hw] at h
        obtain ⟨v, H1, c1, l1, l2, h1, h2⟩ := bind_some h
        exact Nat.le_trans (hc _ _ _ _ _ _ _ _ h1) (opsA_le hc r h2)

/-- A region in the order of the text. -/
theorem opsA_ok (hcall : CallsOK R E call) (hle : ∀ o ρ H c v H' c' l, operA E call o ρ b H c = some (v, H', c', l) → c ≤ c') :
    ∀ (l : List Oper) (i : Nat) {s s' : Slots} {H H' : Heap X} {c c' : Nat} {k : List (Act X)} {φ : Names} {F S : Nat → Prop} {a : Go.Act} {w : World}, opsA E call ops l s b H c = some (s', H', c', k) → (∀ j o, l[j]? = some o → ops[i + j]? = some o) →
      HRel R φ F S H w.heap → GOK E φ S w.heap → SlotsOK φ S w.heap s a → (∀ n, c ≤ n → n < c' → φ n = none) →
      (∀ φ' F' S' w' a', HRel R φ' F' S' H' w'.heap → SlotsOK φ' S' w'.heap s' a' → WStep φ F S w φ' F' S' w' → (∀ n, ¬ (c ≤ n ∧ n < c') → φ' n = φ n) → a'.tmps.size = a.tmps.size → a'.defers = a.defers → Q .normal a' w') →
      Goes E.P ro ops Q (List.range' i l.length) a w
  | [], i, s, s', H, H', c, c', k, φ, F, S, a, w, h, _, hr, hg, hs, _, K => by
    simp only [opsA] at h
    obtain ⟨rfl, rfl, rfl⟩ := pure_some h
    exact Goes.nil (K φ F S w a hr hs WStep.refl (fun _ _ => rfl) rfl rfl)
  | o :: r, i, s, s', H, H', c, c', k, φ, F, S, a, w, h, ho, hr, hg, hs, hfree, K => by
    have ho0 : ops[i]? = some o := by simpa using ho 0 o (by simp)
    have ho1 : ∀ j o', r[j]? = some o' → ops[i + 1 + j]? = some o' := fun j o' hj => by
      have := ho (j + 1) o' (by simpa using hj)
      rwa [show i + (j + 1) = i + 1 + j from by omega] at this
    simp only [List.length_cons, List.range'_succ]
    simp only [opsA] at h
    have psz : ∀ (a : Go.Act) dst v, (a.put dst v).tmps.size = a.tmps.size := fun a dst v => by cases dst <;> simp [Go.Act.put]
    have pdf : ∀ (a : Go.Act) dst v, (a.put dst v).defers = a.defers := fun a dst v => by cases dst <;> simp [Go.Act.put]
    cases hw : wantA ops s o with
    | none => simp [hw, M.fail] at h
    | some t =>
      have hwant := hs.want hw
      cases t with
      | false =>
        simp only [hw] at h
        refine Goes.unwanted ho0 hwant ?_
        refine opsA_ok hcall hle r (i + 1) h ho1 hr hg (hs.put (.tup .nil) o.dst) hfree ?_
        intro φ' F' S' w' a' q1 q2 q3 q4 q5 q6
        exact K φ' F' S' w' a' q1 q2 q3 q4 (q5.trans (psz _ _ _)) (q6.trans (pdf _ _ _))
      | true =>
        simp only [hw] at h
        obtain ⟨v, H1, c1, l1, l2, h1, h2⟩ := bind_some h
        have hc1 := hle _ _ _ _ _ _ _ _ h1
        have hc2 := opsA_le hle r h2
        refine operA_ok hcall h1 hr hg (hs.eval hg) (fun n q1 q2 => hfree n q1 (by omega)) ho0 hwant ?_
        intro rv φ1 F1 S1 w1 v1 r1 st1 n1
        refine opsA_ok hcall hle r (i + 1) h2 ho1 r1 (hg.step hr st1) ((hs.step hr st1).put v1 o.dst) ?_ ?_
        · intro n q1 q2
          rw [n1 n (by omega)]
          exact hfree n (by omega) q2
        · intro φ' F' S' w' a' q1 q2 q3 q4 q5 q6
          refine K φ' F' S' w' a' q1 q2 (st1.trans q3) (fun n hn => ?_) (q5.trans (psz _ _ _)) (q6.trans (pdf _ _ _))
          rw [q4 n (by omega), n1 n (by omega)]

end
end Go.Abs
