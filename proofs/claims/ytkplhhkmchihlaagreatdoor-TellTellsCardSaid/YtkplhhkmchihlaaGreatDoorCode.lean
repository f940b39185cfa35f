/- A function's code is met. -/
import Derived.Test.YtkplhhkmchihlaaGreatDoorDrawn2
import Derived.Scope
namespace Go.Abs
variable {X : Type} {R : Rep X} {P : Program}

def LoopGo (ro : Option Nat) (P : Program) (c : Code) (Q : Exit → Go.Act → World → Prop) (a : Go.Act) (w : World) : Prop :=
  ∀ (b : Frame) (k : List Item) (cs : List Frame), b.roundOf = ro → ∃ e a' w', Q e a' w' ∧ ArrivesIn (Machine.fenced P (wide ro)) P (lone (b.atR a (.code c :: .inLoop c :: k)) cs w) b k cs e a' w'

section rules
variable {ro : Option Nat} {Q : Exit → Go.Act → World → Prop} {a : Go.Act} {w : World} {c : Code}

theorem loopGo_step (h : c.wpIn (wide ro) 0 P (Exit.then (LoopGo ro P c Q) Q) a w) : LoopGo ro P c Q a w := by
  intro b k cs hro
  obtain ⟨e, a₁, w₁, hq, harr⟩ := h b (.inLoop c :: k) cs hro trivial (wide_room _ _)
  cases e with
  | normal =>
    obtain ⟨e₂, a₂, w₂, hq₂, harr₂⟩ := hq b k cs hro
    exact ⟨e₂, a₂, w₂, hq₂, .of_steps (StepsIn.trans harr (wide_steps.2 (.one stepR_inLoop))) harr₂⟩
  | exit id => exact ⟨_, a₁, w₁, hq, .pass (x := .inLoop c) rfl (fun _ _ => .inl (by simp)) harr⟩
  | goto l => exact ⟨_, a₁, w₁, hq, .pass (x := .inLoop c) rfl (fun _ _ => .inl (by simp)) harr⟩
  | ret => exact ⟨_, a₁, w₁, hq, .pass (x := .inLoop c) rfl (fun _ _ => .inl (by simp)) harr⟩
  | panic ch => exact ⟨_, a₁, w₁, hq, .pass (x := .inLoop c) rfl (fun _ _ => .inl (by simp)) harr⟩
  | outgrown => exact ⟨_, a₁, w₁, hq, .pass (x := .inLoop c) rfl (fun _ _ => .inl (by simp)) harr⟩

theorem wp_loopGo (h : LoopGo ro P c Q a w) : (Code.loop c).wpIn (wide ro) 0 P Q a w := by
  intro b k cs hro _ _
  obtain ⟨e, a', w', hq, harr⟩ := h b k cs hro
  exact ⟨e, a', w', hq, .of_steps (wide_steps.2 (.one stepR_loop)) harr⟩

theorem wp_scopeR (h : c.wpIn (wide ro) 0 P (Exit.noGoto Q) a w) : (Code.scope c).wpIn (wide ro) 0 P Q a w := by
  intro b k cs hro _ _
  have s1 : step P (lone (b.atR a (.code (.scope c) :: k)) cs w) = .next (lone (b.atR a (.code c :: .inScope c :: k)) cs w) := step_lone_go (by simp [stepG, stepG.exec, Frame.atR])
  have s2 : ∀ a w, step P (lone (b.atR a (.inScope c :: k)) cs w) = .next (lone (b.atR a k) cs w) := fun a w => step_lone_go (by simp [stepG, stepG.exec, Frame.atR])
  obtain ⟨e, a₁, w₁, hq, harr⟩ := h b (.inScope c :: k) cs hro trivial (wide_room _ _)
  cases e with
  | normal => exact ⟨.normal, a₁, w₁, hq, wide_steps.2 (.head s1 (Steps.trans (wide_steps.1 harr) (.one (s2 _ _))))⟩
  | exit id =>
    refine ⟨.exit id, a₁, w₁, hq, .of_steps (wide_steps.2 (.one s1)) ⟨fun k' hk => harr.1 k' (by simp [exitTo, hk]), fun hr hk => ?_⟩⟩
    exact harr.2 hr (by simp [exitTo, hk])
  | goto l => exact hq.elim
  | ret => exact ⟨_, a₁, w₁, hq, .of_steps (wide_steps.2 (.one s1)) harr⟩
  | panic ch => exact ⟨_, a₁, w₁, hq, .of_steps (wide_steps.2 (.one s1)) harr⟩
  | outgrown => exact ⟨_, a₁, w₁, hq, .of_steps (wide_steps.2 (.one s1)) harr⟩

end rules

/-- The marks among a frame's deferred calls. -/
def Marks (φ : Names) : List Nat → List Deferred → Prop
  | [], [] => True
  | d :: ds, x :: xs => (∃ pl, φ d = some pl ∧ x = { target := .collected pl.blk, args := #[] }) ∧ Marks φ ds xs
  | _, _ => False

theorem Marks.mono {φ φ' : Names} (h : Ext φ φ') : ∀ {ds : List Nat} {xs : List Deferred}, Marks φ ds xs → Marks φ' ds xs
  | [], [], _ => trivial
  | _ :: _, _ :: _, ⟨⟨pl, h1, h2⟩, h3⟩ => ⟨⟨pl, h _ _ h1, h2⟩, h3.mono h⟩
  | [], _ :: _, k => k.elim
  | _ :: _, [], k => k.elim

structure FrOK (φ : Names) (S : Nat → Prop) (h : Array Obj) (nt : Nat) (f : Fr) (a : Go.Act) : Prop where
  slots : SlotsOK φ S h f.s a
  size : a.tmps.size = nt
  marks : Marks φ f.ds a.defers

theorem FrOK.step {φ φ' : Names} {F S F' S' : Nat → Prop} {H : Heap X} {w w' : World} {nt : Nat} {f : Fr} {a : Go.Act} (k : FrOK φ S w.heap nt f a) (r : HRel R φ F S H w.heap) (st : WStep φ F S w φ' F' S' w') : FrOK φ' S' w'.heap nt f a :=
  ⟨k.slots.step r st, k.size, k.marks.mono st.st.ext⟩

/-- How it goes on behind a piece of code. -/
def CodeK (R : Rep X) (φ : Names) (F S : Nat → Prop) (w : World) (c c' : Nat) (nt : Nat) (f' : Fr) (H' : Heap X) (K : Go.Act → World → Prop) : Prop :=
  ∀ φ' F' S' w' a', HRel R φ' F' S' H' w'.heap → FrOK φ' S' w'.heap nt f' a' → WStep φ F S w φ' F' S' w' → (∀ n, ¬ (c ≤ n ∧ n < c') → φ' n = φ n) → K a' w'

section
variable {E : Cfg} {call : AV → List AV → M X AV} {fn : FuncId} {ro : Option Nat} {nt : Nat}

/-- A piece of code is met. -/
def CodeOK (R : Rep X) (E : Cfg) (ro : Option Nat) (nt : Nat) (cd : Code) (m : Fr → M X (XE × Fr)) : Prop :=
  ∀ ⦃f : Fr⦄ ⦃b : Bool⦄ ⦃H : Heap X⦄ ⦃c : Nat⦄ ⦃e : XE⦄ ⦃f' : Fr⦄ ⦃H' : Heap X⦄ ⦃c' : Nat⦄ ⦃l : List (Act X)⦄, m f b H c = some ((e, f'), H', c', l) →
    ∀ ⦃φ : Names⦄ ⦃F S : Nat → Prop⦄ ⦃a : Go.Act⦄ ⦃w : World⦄ ⦃Q : Exit → Go.Act → World → Prop⦄, HRel R φ F S H w.heap → GOK E φ S w.heap → FrOK φ S w.heap nt f a → (∀ n, c ≤ n → n < c' → φ n = none) →
      CodeK R φ F S w c c' nt f' H' (Q e.out) → cd.wpIn (wide ro) 0 E.P Q a w

theorem good_loop {f : Fr → M X (XE × Fr)} (h : ∀ s, Good (f s)) : ∀ (n : Nat) (s : Fr), Good (loopA f n s)
  | 0, _ => Good.fail
  | n + 1, s => by
    simp only [loopA]
    refine Good.bind (h s) fun r => ?_
    split
    · exact good_loop h n _
    · exact Good.pure _

theorem good_code (hc : CallsGood call) : ∀ (cd : Code) (s : Fr), Good (codeA E call fn ro nt cd s)
  | .skip, s => Good.pure _
  | .label _, s => Good.pure _
  | .region _ ops draw, s => by
    simp only [codeA]
    refine Good.bind ?_ fun _ => Good.pure _
    split
    · exact good_drawn hc s.s
    · exact good_ops hc ops _ _
  | .seq a b, s => by
    simp only [codeA]
    refine Good.bind (good_code hc a s) fun r => ?_
    split
    · exact good_code hc b _
    · exact Good.pure _
  | .cond c a b, s => by
    simp only [codeA]
    split
    · exact good_code hc a s
    · exact good_code hc b s
    · exact Good.fail
  | .block id c, s => by
    simp only [codeA]
    refine Good.bind (good_code hc c s) fun r => ?_
    split <;> exact Good.pure _
  | .loop c, s => by
    simp only [codeA]
    exact good_loop (good_code hc c) _ _
  | .exit id, s => Good.pure _
  | .ret, s => Good.pure _
  | .scope c, s => good_code hc c s
  | .rangeFunc _ _ _ _, _ => Good.fail
  | .goto _, _ => Good.fail
  | .refuse _, _ => Good.fail

/-- One run behind another. -/
theorem CodeK.chain {φ φ1 : Names} {F S F1 S1 : Nat → Prop} {w w1 : World} {c c1 c2 : Nat} {f2 : Fr} {H2 : Heap X} {K : Go.Act → World → Prop} (k : CodeK R φ F S w c c2 nt f2 H2 K) (st : WStep φ F S w φ1 F1 S1 w1)
    (hn : ∀ n, ¬ (c ≤ n ∧ n < c1) → φ1 n = φ n) (l1 : c ≤ c1) (l2 : c1 ≤ c2) : CodeK R φ1 F1 S1 w1 c1 c2 nt f2 H2 K := by
  intro φ' F' S' w' a' q1 q2 q3 q4
  refine k φ' F' S' w' a' q1 q2 (st.trans q3) fun n hh => ?_
  rw [q4 n (by omega), hn n (by omega)]

theorem loopA_ok {cd : Code} {m : Fr → M X (XE × Fr)} (hm : CodeOK R E ro nt cd m) (hg : ∀ s, Good (m s)) : ∀ (n : Nat) {f : Fr} {b : Bool} {H : Heap X} {c : Nat} {e : XE} {f' : Fr} {H' : Heap X} {c' : Nat} {l : List (Act X)}, loopA m n f b H c = some ((e, f'), H', c', l) →
    ∀ ⦃φ : Names⦄ ⦃F S : Nat → Prop⦄ ⦃a : Go.Act⦄ ⦃w : World⦄ ⦃Q : Exit → Go.Act → World → Prop⦄, HRel R φ F S H w.heap → GOK E φ S w.heap → FrOK φ S w.heap nt f a → (∀ n, c ≤ n → n < c' → φ n = none) →
      CodeK R φ F S w c c' nt f' H' (Q e.out) → LoopGo ro E.P cd Q a w
  | 0, f, b, H, c, e, f', H', c', l, h => by simp [loopA, M.fail] at h
  | n + 1, f, b, H, c, e, f', H', c', l, h => by
    intro φ F S a w Q hr hgk hf hfree K
    simp only [loopA] at h
    obtain ⟨r, H1, c1, l1, l2, h1, h2⟩ := bind_some h
    obtain ⟨e1, f1⟩ := r
    have hc1 := (hg f).le' h1
    refine loopGo_step ?_
    cases e1 with
    | normal =>
      simp only at h2
      have hc2 := (good_loop hg n f1).le' h2
      refine hm h1 hr hgk hf (fun n q1 q2 => hfree n q1 (by omega)) ?_
      intro φ1 F1 S1 w1 a1 r1 k1 st1 n1
      exact loopA_ok hm hg n h2 r1 (hgk.step hr st1) k1 (fun n q1 q2 => by rw [n1 n (by omega)]; exact hfree n (by omega) q2) (K.chain st1 n1 hc1 hc2)
    | exit i =>
      simp only at h2
      obtain ⟨h3, rfl, rfl⟩ := pure_some h2
      simp only [Prod.mk.injEq] at h3
      obtain ⟨rfl, rfl⟩ := h3
      exact hm h1 hr hgk hf hfree K
    | ret =>
      simp only at h2
      obtain ⟨h3, rfl, rfl⟩ := pure_some h2
      simp only [Prod.mk.injEq] at h3
      obtain ⟨rfl, rfl⟩ := h3
      exact hm h1 hr hgk hf hfree K

theorem VRel.bool_inv {φ : Names} {S : Nat → Prop} {h : Array Obj} {t : Bool} {v : Value} (k : VRel φ S h (.bool t) v) : v = .bool t := by cases k; rfl

theorem codeA_ok (hmix : E.P.follows .mixedOrders = true) (hcall : CallsOK R E call) (hgood : CallsGood call) : ∀ (cd : Code), CodeOK R E ro nt cd (codeA E call fn ro nt cd)
  | .skip => by
    intro f b H c e f' H' c' l h φ F S a w Q hr hgk hf hfree K
    simp only [codeA] at h
    obtain ⟨h3, rfl, rfl⟩ := pure_some h
    simp only [Prod.mk.injEq] at h3
    obtain ⟨rfl, rfl⟩ := h3
    exact wpIn_skip (K φ F S w a hr hf WStep.refl fun _ _ => rfl)
  | .label _ => by
    intro f b H c e f' H' c' l h φ F S a w Q hr hgk hf hfree K
    simp only [codeA] at h
    obtain ⟨h3, rfl, rfl⟩ := pure_some h
    simp only [Prod.mk.injEq] at h3
    obtain ⟨rfl, rfl⟩ := h3
    exact wpIn_label (K φ F S w a hr hf WStep.refl fun _ _ => rfl)
  | .exit _ => by
    intro f b H c e f' H' c' l h φ F S a w Q hr hgk hf hfree K
    simp only [codeA] at h
    obtain ⟨h3, rfl, rfl⟩ := pure_some h
    simp only [Prod.mk.injEq] at h3
    obtain ⟨rfl, rfl⟩ := h3
    exact wpIn_exit (K φ F S w a hr hf WStep.refl fun _ _ => rfl)
  | .ret => by
    intro f b H c e f' H' c' l h φ F S a w Q hr hgk hf hfree K
    simp only [codeA] at h
    obtain ⟨h3, rfl, rfl⟩ := pure_some h
    simp only [Prod.mk.injEq] at h3
    obtain ⟨rfl, rfl⟩ := h3
    exact wpIn_ret (K φ F S w a hr hf WStep.refl fun _ _ => rfl)
  | .goto _ => by
    intro f b H c e f' H' c' l h
    simp [codeA, M.fail] at h
  | .refuse _ => by
    intro f b H c e f' H' c' l h
    simp [codeA, M.fail] at h
  | .rangeFunc _ _ _ _ => by
    intro f b H c e f' H' c' l h
    simp [codeA, M.fail] at h
  | .region id ops draw => by
    intro f b H c e f' H' c' l h φ F S a w Q hr hgk hf hfree K
    simp only [codeA] at h
    obtain ⟨s', H1, c1, l1, l2, h1, h2⟩ := bind_some h
    obtain ⟨h3, rfl, rfl⟩ := pure_some h2
    simp only [Prod.mk.injEq] at h3
    obtain ⟨rfl, rfl⟩ := h3
    cases draw with
    | true =>
      simp only [if_true] at h1
      refine goes_draw fun t => drawnA_ok hmix hcall hgood h1 hr hgk hf.slots hfree (fun φ' F' S' w' a' q1 q2 q3 q4 q5 q6 => ?_) t
      exact K φ' F' S' w' a' q1 ⟨q2, q5.trans hf.size, by rw [q6]; exact hf.marks.mono q3.st.ext⟩ q3 q4
    | false =>
      simp only [Bool.false_eq_true, if_false] at h1
      refine goes_region ?_
      have hle : ∀ o ρ H c v H' c' l, operA E call o ρ b H c = some (v, H', c', l) → c ≤ c' := fun o ρ H c v H' c' l hh => (good_oper hgood o ρ).le' hh
      have := opsA_ok (ro := ro) (ops := ops) (b := b) (Q := Q) (R := R) hcall hle ops.toList 0 h1 (fun j o hj => by simpa using hj) hr hgk hf.slots hfree (fun φ' F' S' w' a' q1 q2 q3 q4 q5 q6 =>
        K φ' F' S' w' a' q1 ⟨q2, q5.trans hf.size, by rw [q6]; exact hf.marks.mono q3.st.ext⟩ q3 q4)
      simpa [List.range_eq_range'] using this
  | .seq x y => by
    intro f b H c e f' H' c' l h φ F S a w Q hr hgk hf hfree K
    simp only [codeA] at h
    obtain ⟨r, H1, c1, l1, l2, h1, h2⟩ := bind_some h
    obtain ⟨e1, f1⟩ := r
    have hc1 := (good_code (fn := fn) (ro := ro) (nt := nt) hgood x f).le' h1
    refine wpIn_seq ?_
    cases e1 with
    | normal =>
      simp only at h2
      have hc2 := (good_code (fn := fn) (ro := ro) (nt := nt) hgood y f1).le' h2
      refine codeA_ok hmix hcall hgood x h1 hr hgk hf (fun n q1 q2 => hfree n q1 (by omega)) ?_
      intro φ1 F1 S1 w1 a1 r1 k1 st1 n1
      exact codeA_ok hmix hcall hgood y h2 r1 (hgk.step hr st1) k1 (fun n q1 q2 => by rw [n1 n (by omega)]; exact hfree n (by omega) q2) (K.chain st1 n1 hc1 hc2)
    | exit i =>
      simp only at h2
      obtain ⟨h3, rfl, rfl⟩ := pure_some h2
      simp only [Prod.mk.injEq] at h3
      obtain ⟨rfl, rfl⟩ := h3
      exact codeA_ok hmix hcall hgood x h1 hr hgk hf hfree K
    | ret =>
      simp only at h2
      obtain ⟨h3, rfl, rfl⟩ := pure_some h2
      simp only [Prod.mk.injEq] at h3
      obtain ⟨rfl, rfl⟩ := h3
      exact codeA_ok hmix hcall hgood x h1 hr hgk hf hfree K
  | .cond cc x y => by
    intro f b H c e f' H' c' l h φ F S a w Q hr hgk hf hfree K
    simp only [codeA] at h
    cases hv : evalA E.G f.s cc with
    | none => simp [hv, M.fail] at h
    | some v =>
      have hr1 := hf.slots.eval hgk cc v hv
      cases v with
      | bool t =>
        cases t with
        | true =>
          simp only [hv] at h
          have he : a.eval cc = .bool true := VRel.bool_inv hr1
          exact wpIn_cond_true he (codeA_ok hmix hcall hgood x h hr hgk hf hfree K)
        | false =>
          simp only [hv] at h
          have he : a.eval cc = .bool false := VRel.bool_inv hr1
          exact wpIn_cond_false he (codeA_ok hmix hcall hgood y h hr hgk hf hfree K)
      | _ => simp [hv, M.fail] at h
  | .block id x => by
    intro f b H c e f' H' c' l h φ F S a w Q hr hgk hf hfree K
    simp only [codeA] at h
    obtain ⟨r, H1, c1, l1, l2, h1, h2⟩ := bind_some h
    obtain ⟨e1, f1⟩ := r
    refine wpIn_block ?_
    cases e1 with
    | normal =>
      simp only at h2
      obtain ⟨h3, rfl, rfl⟩ := pure_some h2
      simp only [Prod.mk.injEq] at h3
      obtain ⟨rfl, rfl⟩ := h3
      exact codeA_ok hmix hcall hgood x h1 hr hgk hf hfree K
    | exit i =>
      simp only at h2
      obtain ⟨h3, rfl, rfl⟩ := pure_some h2
      simp only [Prod.mk.injEq] at h3
      obtain ⟨rfl, rfl⟩ := h3
      refine codeA_ok hmix hcall hgood x h1 hr hgk hf hfree ?_
      intro φ' F' S' w' a' q1 q2 q3 q4
      have := K φ' F' S' w' a' q1 q2 q3 q4
      simp only [XE.out, Exit.inBlock]
      by_cases hi : i = id
      · rw [if_pos hi] at this ⊢; exact this
      · rw [if_neg hi] at this ⊢; exact this
    | ret =>
      simp only at h2
      obtain ⟨h3, rfl, rfl⟩ := pure_some h2
      simp only [Prod.mk.injEq] at h3
      obtain ⟨rfl, rfl⟩ := h3
      exact codeA_ok hmix hcall hgood x h1 hr hgk hf hfree K
  | .loop x => by
    intro f b H c e f' H' c' l h φ F S a w Q hr hgk hf hfree K
    simp only [codeA] at h
    exact wp_loopGo (loopA_ok (codeA_ok hmix hcall hgood x) (good_code hgood x) E.fuel h hr hgk hf hfree K)
  | .scope x => by
    intro f b H c e f' H' c' l h φ F S a w Q hr hgk hf hfree K
    simp only [codeA] at h
    refine wp_scopeR (codeA_ok hmix hcall hgood x h hr hgk hf hfree ?_)
    intro φ' F' S' w' a' q1 q2 q3 q4
    have := K φ' F' S' w' a' q1 q2 q3 q4
    cases e <;> exact this

end
end Go.Abs
