/- One operation, met in its place in a region. -/
import Derived.Test.YtkplhhkmchihlaaGreatDoorBuilt
import Derived.Room.AppendAsks
namespace Go.Abs
variable {X : Type} {R : Rep X} {P : Program} {φ : Names} {F S : Nat → Prop} {H : Heap X}

theorem map_arr {α β : Type} (f : α → β) (a : Array α) : (a.toList.map f).toArray = a.map f := by rw [← Array.toList_map, Array.toArray_toList]

/-- What a call has to end in. -/
def EndOK (R : Rep X) (φ : Names) (F S : Nat → Prop) (w : World) (c c' : Nat) (v : AV) (H' : Heap X) : Ending → World → Prop
  | .returned r, w' => ∃ φ' F' S', VRel φ' S' w'.heap v r ∧ HRel R φ' F' S' H' w'.heap ∧ WStep φ F S w φ' F' S' w' ∧ ∀ n, ¬ (c ≤ n ∧ n < c') → φ' n = φ n
  | .panicked _, _ => False
  | .outgrown, _ => False

/-- What is known of the program's variables. -/
structure GOK (E : Cfg) (φ : Names) (S : Nat → Prop) (h : Array Obj) : Prop where
  val : ∀ g a, E.G g = some a → VRel φ S h a (.pointer (some ⟨g, 0, none⟩))
  raw : ∀ b cs, E.raw b = some cs → S b ∧ ∃ t fr, h[b]? = some (.cells cs t fr)

theorem GOK.step {E : Cfg} {φ' : Names} {F' S' : Nat → Prop} {w w' : World} (g : GOK E φ S w.heap) (r : HRel R φ F S H w.heap) (k : WStep φ F S w φ' F' S' w') : GOK E φ' S' w'.heap :=
  ⟨fun n a hn => k.st.val r (g.val n a hn), fun b cs hb => by
    obtain ⟨h1, t, fr, h2⟩ := g.raw b cs hb
    exact ⟨k.st.grow b h1, t, fr, (k.st.sealed r b h1).trans h2⟩⟩

/-- A function's value is called. -/
def Invoked (P : Program) (vg : Value) (vs : List Value) (w : World) (Q : Ending → World → Prop) : Prop :=
  ∃ d, (Deferred.ofValue vg vs.toArray).run P w = .ok d w ∧
    ((∃ f args, (invoke d.target d.args).run P w = .ok (.enter f args) w ∧ Calls P f args w Q) ∨
     (∃ l f tmps asg body, (invoke d.target d.args).run P w = .ok (.round l f tmps asg body) w ∧ ∀ ro, RoundIn (wide ro) 0 P l f tmps asg body w Q) ∨
     (∃ r w', (invoke d.target d.args).run P w = .ok (.value r) w' ∧ Q (.returned r) w'))

/-- Calls are met. -/
def CallsOK (R : Rep X) (E : Cfg) (call : AV → List AV → M X AV) : Prop :=
  ∀ ⦃g : AV⦄ ⦃xs : List AV⦄ ⦃b : Bool⦄ ⦃H : Heap X⦄ ⦃c : Nat⦄ ⦃v : AV⦄ ⦃H' : Heap X⦄ ⦃c' : Nat⦄ ⦃l : List (Act X)⦄, call g xs b H c = some (v, H', c', l) →
    ∀ ⦃φ : Names⦄ ⦃F S : Nat → Prop⦄ ⦃w : World⦄ ⦃vg : Value⦄ ⦃vs : List Value⦄, HRel R φ F S H w.heap → GOK E φ S w.heap → VRel φ S w.heap g vg → VRels φ S w.heap xs vs → (∀ n, c ≤ n → n < c' → φ n = none) →
      Invoked E.P vg vs w (EndOK R φ F S w c c' v H')

section
variable {E : Cfg} {call : AV → List AV → M X AV} {ro : Option Nat} {ops : Array Oper} {Q : Exit → Go.Act → World → Prop} {i : Nat} {rest : List Nat} {o : Oper} {a : Go.Act} {w : World} {ρ : Env} {b : Bool} {H' : Heap X} {c c' : Nat} {l : List (Act X)} {v : AV}

/-- How it goes on. -/
def OnOK (R : Rep X) (φ : Names) (F S : Nat → Prop) (w : World) (c c' : Nat) (v : AV) (H' : Heap X) (K : Value → World → Prop) : Prop :=
  ∀ r φ' F' S' w', VRel φ' S' w'.heap v r → HRel R φ' F' S' H' w'.heap → WStep φ F S w φ' F' S' w' → (∀ n, ¬ (c ≤ n ∧ n < c') → φ' n = φ n) → K r w'

theorem goes_next (ho : ops[i]? = some o) (hw : Region.wanted o (yielded ops a.tmps) = true) (hd : ∀ c, o.op ≠ .defer c) (h : NextOK R E.P φ F S w c c' (execOp a.eval o) v H')
    (k : OnOK R φ F S w c c' v H' fun r w' => Goes E.P ro ops Q rest (a.put o.dst r) w') : Goes E.P ro ops Q (i :: rest) a w := by
  obtain ⟨r, φ', F', S', w', h1, h2, h3, h4, h5⟩ := h
  rcases h2 with ⟨v', rfl, hv⟩ | ⟨rfl, rfl⟩
  · exact Goes.value ho hw (by rw [Oper.semAt_eq _ _ _ hd]; exact h1) (k v' φ' F' S' w' hv h3 h4 h5)
  · exact Goes.skip ho hw (by rw [Oper.semAt_eq _ _ _ hd]; exact h1) (k undef φ' F' S' w' (.tup .nil) h3 h4 h5)

theorem goes_invoked (ho : ops[i]? = some o) (hw : Region.wanted o (yielded ops a.tmps) = true) {cl : Call} {f : Operand} (hop : o.op = .call cl) (hf : cl.callee = .value f)
    {vs : List Value} (hvs : cl.args.map a.eval = vs.toArray) (h : Invoked E.P (a.eval f) vs w (EndOK R φ F S w c c' v H'))
    (k : OnOK R φ F S w c c' v H' fun r w' => Goes E.P ro ops Q rest (a.put o.dst r) w') : Goes E.P ro ops Q (i :: rest) a w := by
  have hd : ∀ c, o.op ≠ .defer c := fun c e => by rw [hop] at e; cases e
  obtain ⟨d, h1, h2⟩ := h
  have hex : ∀ r : Result Next, (invoke d.target d.args).run E.P w = r → (o.semAt ro a.eval).run E.P w = r := by
    intro r hr
    rw [Oper.semAt_eq _ _ _ hd]
    unfold execOp
    simp only [hop]
    rw [Sem.run_bind]
    have : (resolve a.eval cl o.type).run E.P w = .ok d w := by
      unfold resolve
      simp only [hf, hvs]
      exact h1
    rw [this]
    exact hr
  have endK : ∀ e w', EndOK R φ F S w c c' v H' e w' → endOf Q (fun r w'' => Goes E.P ro ops Q rest (a.put o.dst r) w'') e w' := by
    intro e w' he
    cases e with
    | returned r =>
      obtain ⟨φ', F', S', q1, q2, q3, q4⟩ := he
      exact k r φ' F' S' w' q1 q2 q3 q4
    | panicked => exact he.elim
    | outgrown => exact he.elim
  rcases h2 with ⟨f', args, h2, h3⟩ | ⟨l, f', tmps, asg, body, h2, h3⟩ | ⟨r, w', h2, h3⟩
  · exact Goes.enter ho hw (hex _ h2) (h3.mono endK)
  · exact Goes.round ho hw (hex _ h2) ((h3 ro).mono endK)
  · obtain ⟨φ', F', S', q1, q2, q3, q4⟩ := h3
    exact Goes.value ho hw (hex _ h2) (k r φ' F' S' w' q1 q2 q3 q4)

/-- An operation is met. -/
theorem operA_ok (hcall : CallsOK R E call) (h : operA E call o ρ b H c = some (v, H', c', l)) (hr : HRel R φ F S H w.heap) (hg : GOK E φ S w.heap) (hρ : ∀ x y, ρ x = some y → VRel φ S w.heap y (a.eval x))
    (hfree : ∀ n, c ≤ n → n < c' → φ n = none) (ho : ops[i]? = some o) (hw : Region.wanted o (yielded ops a.tmps) = true)
    (k : OnOK R φ F S w c c' v H' fun r w' => Goes E.P ro ops Q rest (a.put o.dst r) w') : Goes E.P ro ops Q (i :: rest) a w := by
  unfold operA at h
  cases hop : o.op with
  | call cl =>
    rw [hop] at h
    dsimp only at h
    have hd : ∀ c, o.op ≠ .defer c := fun c e => by rw [hop] at e; cases e
    cases hxs : envL ρ cl.args.toList with
    | none => simp [hxs, M.fail] at h
    | some xs =>
      simp only [hxs] at h
      have hvs := envL_rel hρ hxs
      cases hc : cl.callee with
      | builtin bi =>
        simp only [hc] at h
        have hex : execOp a.eval o = builtin bi cl.argTypes o.type (cl.args.map fun | .const _ => true | _ => false) (cl.args.map a.eval) := by
          unfold execOp
          simp only [hop, resolve, hc, invoke]
          rfl
        have hat : cl.argTypes.toList.toArray = cl.argTypes := by simp
        have hav : (cl.args.toList.map a.eval).toArray = cl.args.map a.eval := map_arr _ _
        have q := builtinP_ok (ty := o.type) (cs := cl.args.map fun | .const _ => true | _ => false) hr hvs h hfree
        rw [hat, hav, ← hex] at q
        exact goes_next ho hw hd q k
      | value f =>
        simp only [hc] at h
        cases hf : ρ f with
        | none => simp [hf, M.fail] at h
        | some g =>
          simp only [hf] at h
          exact goes_invoked ho hw hop hc (vs := cl.args.toList.map a.eval) (map_arr _ _).symm (hcall h hr hg (hρ _ _ hf) hvs hfree) k
      | invoke r n => simp [hc, M.fail] at h
  | lookup t m kk ok =>
    rw [hop] at h
    dsimp only at h
    have hd : ∀ c, o.op ≠ .defer c := fun c e => by rw [hop] at e; cases e
    cases hm : ρ m with
    | none => simp [hm, M.fail] at h
    | some m' =>
      cases hk : ρ kk with
      | none => simp [hm, hk, M.fail] at h
      | some k' =>
        simp only [hm, hk] at h
        have := NextOK.of_sem (lookupP_ok hr (hρ _ _ hm) (hρ _ _ hk) h)
        refine goes_next ho hw hd ?_ k
        unfold execOp
        simp only [hop]
        exact this
  | mapUpdate t m kk x =>
    rw [hop] at h
    dsimp only at h
    have hd : ∀ c, o.op ≠ .defer c := fun c e => by rw [hop] at e; cases e
    cases hm : ρ m with
    | none => simp [hm, M.fail] at h
    | some m' =>
      cases hk : ρ kk with
      | none => simp [hm, hk, M.fail] at h
      | some k' =>
        cases hx : ρ x with
        | none => simp [hm, hk, hx, M.fail] at h
        | some x' =>
          simp only [hm, hk, hx] at h
          obtain ⟨rfl, rfl, h', q1, q2, q3⟩ := updateP_ok hr (hρ _ _ hm) (hρ _ _ hk) (hρ _ _ hx) h
          refine goes_next ho hw hd ⟨.skip, φ, F, S, { w with heap := h' }, ?_, .inr ⟨rfl, rfl⟩, q2, q3.here, fun _ _ => rfl⟩ k
          unfold execOp
          simp only [hop, Sem.run_bind, q1, Result.andThen_ok, Sem.run_pure]
  | convert src dst x =>
    rw [hop] at h
    dsimp only at h
    have hd : ∀ c, o.op ≠ .defer c := fun c e => by rw [hop] at e; cases e
    cases hx : ρ x with
    | none => simp [hx, M.fail] at h
    | some x' =>
      simp only [hx] at h
      have := NextOK.of_sem (convertP_ok hr (hρ _ _ hx) h)
      refine goes_next ho hw hd ?_ k
      unfold execOp
      simp only [hop]
      exact this
  | makeSlice t y z =>
    rw [hop] at h
    dsimp only at h
    have hd : ∀ c, o.op ≠ .defer c := fun c e => by rw [hop] at e; cases e
    cases hy : ρ y with
    | none => simp [hy, M.fail] at h
    | some y' =>
      cases hz : ρ z with
      | none => simp [hy, hz, M.fail] at h
      | some z' =>
        simp only [hy, hz] at h
        have := NextOK.of_sem (makeP_ok hr (hρ _ _ hy) (hρ _ _ hz) h hfree)
        refine goes_next ho hw hd ?_ k
        unfold execOp
        simp only [hop]
        exact this
  | _ =>
    have hd : ∀ c, o.op ≠ .defer c := fun c e => by rw [e] at h; simp [plainOp, M.fail] at h
    rw [hop] at h
    dsimp only at h
    rw [← hop] at h
    exact goes_next ho hw hd (plainOp_ok hr hρ o h hfree) k

end
end Go.Abs
