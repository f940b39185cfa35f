/- A call is met. -/
import Derived.Test.YtkplhhkmchihlaaGreatDoorCode
namespace Go.Abs
variable {X : Type} {R : Rep X}

/-- A function is called. -/
def CalledF (P : Program) (f : FuncId) (vs : List Value) (w : World) (Q : Ending → World → Prop) : Prop :=
  ((callFunc f vs.toArray).run P w = .ok (.enter f vs.toArray) w ∧ Calls P f vs.toArray w Q) ∨ (∃ r w', (callFunc f vs.toArray).run P w = .ok (.value r) w' ∧ Q (.returned r) w')

/-- What is known of a function holds. -/
def FuncOK (R : Rep X) (E : Cfg) (f : FuncId) (m : List AV → M X AV) : Prop :=
  ∀ ⦃xs : List AV⦄ ⦃b : Bool⦄ ⦃H : Heap X⦄ ⦃c : Nat⦄ ⦃v : AV⦄ ⦃H' : Heap X⦄ ⦃c' : Nat⦄ ⦃l : List (Act X)⦄, m xs b H c = some (v, H', c', l) →
    ∀ ⦃φ : Names⦄ ⦃F S : Nat → Prop⦄ ⦃w : World⦄ ⦃vs : List Value⦄, HRel R φ F S H w.heap → GOK E φ S w.heap → VRels φ S w.heap xs vs → (∀ n, c ≤ n → n < c' → φ n = none) →
      CalledF E.P f vs w (EndOK R φ F S w c c' v H')

theorem invoked_of {P : Program} {f : FuncId} {as bs vs : List Value} {w : World} {Q : Ending → World → Prop} (h : CalledF P f (as ++ vs ++ bs) w Q) : Invoked P (.func (.func f) as.toArray bs.toArray) vs w Q := by
  have e : (as.toArray ++ vs.toArray) ++ bs.toArray = (as ++ vs ++ bs).toArray := by simp
  refine ⟨{ target := .fn (.func f) bs.toArray, args := as.toArray ++ vs.toArray }, rfl, ?_⟩
  simp only [invoke, e]
  rcases h with ⟨h1, h2⟩ | ⟨r, w', h1, h2⟩
  · exact .inl ⟨f, _, h1, h2⟩
  · exact .inr (.inr ⟨r, w', h1, h2⟩)

section
variable {E : Cfg} {call : AV → List AV → M X AV}

theorem good_result (s : Slots) (r : ResultVar) : Good (resultA E.P s r : M X AV) := by
  cases r with
  | tmp t => exact Good.lift _
  | cell a t =>
    simp only [resultA]
    split
    · exact good_load _ _ _
    · exact Good.fail

theorem good_results (s : Slots) : ∀ l : List ResultVar, Good (resultsA E.P s l : M X (List AV))
  | [] => Good.pure _
  | r :: rs => by
    simp only [resultsA]
    exact Good.bind (good_result s r) fun _ => Good.bind (good_results s rs) fun _ => Good.pure _

theorem good_body (hc : CallsGood call) (f : FuncId) (args : List AV) : Good (bodyA E call f args) := by
  unfold bodyA
  split
  · exact Good.fail
  · split
    · exact Good.fail
    · split
      · refine Good.bind (good_code hc _ _) fun r => ?_
        split
        · exact Good.fail
        · split
          · exact Good.bind (good_results _ _) fun _ => Good.pure _
          · exact Good.fail
      · exact Good.fail

/-- One result. -/
def resF (tmps : Array Value) : ResultVar → Sem Value
  | .tmp t => pure (tmps.getD t undef)
  | .cell p t => do loadVar t (← asAddr (tmps.getD p undef))

theorem results_eq (fn : Func) (tmps : Array Value) : results fn tmps = (do let vs ← fn.results.mapM (resF tmps); pure (if h : vs.size = 1 then vs[0] else .tuple vs)) := by
  unfold results
  congr 1

theorem resultsA_ok {s : Slots} {H H' : Heap X} {φ : Names} {F S : Nat → Prop} {w : World} {a : Go.Act} (hr : HRel R φ F S H w.heap) (hs : SlotsOK φ S w.heap s a) : ∀ {l : List ResultVar} {vs : List AV} {b : Bool} {c c' : Nat} {k : List (Act X)},
    resultsA E.P s l b H c = some (vs, H', c', k) → H' = H ∧ c' = c ∧
      ∃ us, (l.mapM (resF a.tmps)).run E.P w = .ok us w ∧ VRels φ S w.heap vs us
  | [], vs, b, c, c', k, h => by
    simp only [resultsA] at h
    obtain ⟨rfl, rfl, rfl⟩ := pure_some h
    exact ⟨rfl, rfl, [], by simp, .nil⟩
  | r :: rs, vs, b, c, c', k, h => by
    simp only [resultsA] at h
    obtain ⟨v, H1, c1, l1, l2, h1, h2⟩ := bind_some h
    obtain ⟨vs', H2, c2, l3, l4, h3, h4⟩ := bind_some h2
    obtain ⟨rfl, rfl, rfl⟩ := pure_some h4
    have key : H1 = H ∧ c1 = c ∧ ∃ u, (resF a.tmps r).run E.P w = .ok u w ∧ VRel φ S w.heap v u := by
      cases r with
      | tmp t =>
        simp only [resultA] at h1
        obtain ⟨q, rfl, rfl⟩ := lift_some h1
        obtain ⟨u, u1, u2⟩ := hs t v q
        exact ⟨rfl, rfl, u, by simp [resF, u1], u2⟩
      | cell p t =>
        simp only [resultA] at h1
        cases hp : s.get p with
        | none => simp [hp, M.fail] at h1
        | some pv =>
          simp only [hp] at h1
          obtain ⟨u, u1, u2⟩ := hs p pv hp
          have hptr : ∃ ad, u = .pointer (some ad) := by
            unfold loadP at h1
            cases hg : aggT E.P t with
            | none => simp [hg, M.fail] at h1
            | some g =>
              cases hz : sizeT E.P t with
              | none => simp [hg, hz, M.fail] at h1
              | some z =>
                cases u2 with
                | ptr hn => exact ⟨_, rfl⟩
                | pel => exact ⟨_, rfl⟩
                | _ => simp [hg, hz, M.fail] at h1
          obtain ⟨rfl, rfl, x, q1, q2⟩ := loadP_at (P := E.P) hr u2 h1
          obtain ⟨ad, rfl⟩ := hptr
          refine ⟨rfl, rfl, x, ?_, q2⟩
          simpa [resF, u1, Instr.loadAt, Instr.sureAddr, asAddr] using q1
    obtain ⟨rfl, rfl, u, u1, u2⟩ := key
    obtain ⟨rfl, rfl, us, w1, w2⟩ := resultsA_ok hr hs h3
    refine ⟨rfl, rfl, u :: us, ?_, .cons u2 w2⟩
    rw [List.mapM_cons, Sem.run_bind, u1]
    simp only [Result.andThen_ok]
    rw [Sem.run_bind, w1]
    simp


theorem loadP_cc {P : Program} {t : TypeId} {a v : AV} {b : Bool} {H H' : Heap X} {c c' : Nat} {l : List (Act X)} (h : loadP P t a b H c = some (v, H', c', l)) : H' = H ∧ c' = c := by
  unfold loadP at h
  cases hg : aggT P t with
  | none => simp [hg, M.fail] at h
  | some g =>
    cases hz : sizeT P t with
    | none => simp [hg, hz, M.fail] at h
    | some z =>
      simp only [hg, hz] at h
      cases a with
      | ptr n i o =>
        simp only at h
        obtain ⟨x, H1, c1, l1, l2, h1, h2⟩ := bind_some h
        obtain ⟨_, rfl, rfl⟩ := lift_some h2
        simp only [M.rdC] at h1
        cases hr : readC H n i o (if g = true then z else 1) with
        | none => simp [hr] at h1
        | some r => simp [hr] at h1; obtain ⟨_, rfl, rfl, _⟩ := h1; exact ⟨rfl, rfl⟩
      | pel cs =>
        simp only at h
        by_cases hk : (if g = true then z else 1) ≤ cs.length
        · rw [if_pos hk] at h
          obtain ⟨_, rfl, rfl⟩ := lift_some h
          exact ⟨rfl, rfl⟩
        · rw [if_neg hk] at h; simp [M.fail] at h
      | _ => simp [M.fail] at h

theorem resultsA_cc {s : Slots} {H H' : Heap X} : ∀ {l : List ResultVar} {vs : List AV} {b : Bool} {c c' : Nat} {k : List (Act X)}, resultsA E.P s l b H c = some (vs, H', c', k) → H' = H ∧ c' = c
  | [], vs, b, c, c', k, h => by
    simp only [resultsA] at h
    obtain ⟨rfl, rfl, rfl⟩ := pure_some h
    exact ⟨rfl, rfl⟩
  | r :: rs, vs, b, c, c', k, h => by
    simp only [resultsA] at h
    obtain ⟨v, H1, c1, l1, l2, h1, h2⟩ := bind_some h
    obtain ⟨vs', H2, c2, l3, l4, h3, h4⟩ := bind_some h2
    obtain ⟨rfl, rfl, rfl⟩ := pure_some h4
    obtain ⟨rfl, rfl⟩ := resultsA_cc h3
    cases r with
    | tmp t =>
      simp only [resultA] at h1
      obtain ⟨q, rfl, rfl⟩ := lift_some h1
      exact ⟨rfl, rfl⟩
    | cell p t =>
      simp only [resultA] at h1
      cases hp : s.get p with
      | none => simp [hp, M.fail] at h1
      | some pv =>
        simp only [hp] at h1
        exact loadP_cc h1

theorem results_run {fn : Func} {a : Go.Act} {us : List Value} {P : Program} {w : World} (h : (fn.results.toList.mapM (resF a.tmps)).run P w = .ok us w) :
    (results fn a.tmps).run P w = .ok (if h : us.toArray.size = 1 then us.toArray[0] else .tuple us.toArray) w := by
  rw [results_eq, Sem.run_bind, Array.mapM_eq_mapM_toList, map_eq_pure_bind, Sem.run_bind, h]
  rfl

theorem pack_rel {φ : Names} {S : Nat → Prop} {h : Array Obj} {vs : List AV} {us : List Value} (k : VRels φ S h vs us) : VRel φ S h (packA vs) (if h : us.toArray.size = 1 then us.toArray[0] else .tuple us.toArray) := by
  cases k with
  | nil => simpa [packA] using VRel.tup .nil
  | cons hv ht =>
    cases ht with
    | nil => simpa [packA] using hv
    | cons hv2 ht2 => simpa [packA] using VRel.tup (.cons hv (.cons hv2 ht2))

theorem fillS_get : ∀ (xs : List AV) (i : Nat) (s : Slots) (t : Nat), (fillS xs i s).get t = if t < i then s.get t else if t < i + xs.length then xs[t - i]? else s.get t
  | [], i, s, t => by
    simp only [fillS, List.length_nil, Nat.add_zero]
    by_cases h1 : t < i
    · rw [if_pos h1]
    · rw [if_neg h1, if_neg h1]
  | x :: xs, i, s, t => by
    simp only [fillS]
    rw [fillS_get xs (i + 1), T.get_set]
    simp only [List.length_cons]
    by_cases h1 : t < i
    · rw [if_pos (by omega), if_pos h1, if_neg (by omega)]
    · rw [if_neg h1]
      by_cases h2 : t = i
      · subst h2
        rw [if_pos (by omega), if_pos rfl, if_pos (by omega)]
        simp
      · rw [if_neg (by omega)]
        by_cases h3 : t < i + (xs.length + 1)
        · rw [if_pos (by omega), if_pos h3]
          have : t - i = (t - (i + 1)) + 1 := by omega
          rw [this, List.getElem?_cons_succ]
        · rw [if_neg (by omega), if_neg h3, if_neg h2]

theorem slots_enter {φ : Names} {S : Nat → Prop} {h : Array Obj} {xs : List AV} {vs : List Value} (k : VRels φ S h xs vs) (n : Nat) (df : List Deferred) :
    SlotsOK φ S h (slotsOf xs n) { tmps := vs.toArray ++ Array.replicate (n - vs.toArray.size) undef, defers := df } := by
  have hl := k.length
  have k2 : VRels φ S h (xs ++ List.replicate (n - xs.length) AV.undef) (vs ++ List.replicate (n - xs.length) undef) := k.append (VRels.replicate (.tup .nil) _)
  intro t v ht
  unfold slotsOf at ht
  rw [fillS_get] at ht
  simp only [Nat.not_lt_zero, if_false, Nat.zero_add, Nat.sub_zero] at ht
  split at ht
  · obtain ⟨u, h1, h2⟩ := k2.get ht
    refine ⟨u, ?_, h2⟩
    have : vs.toArray ++ Array.replicate (n - vs.toArray.size) undef = (vs ++ List.replicate (n - xs.length) undef).toArray := by simp [hl]
    simp only [this]
    simpa using h1
  · have hleaf : ∀ t, (T.leaf : Slots).get t = none := fun t => by simp
    rw [hleaf] at ht; cases ht

theorem body_ok (hmix : E.P.follows .mixedOrders = true) (hnum : ∀ (f : FuncId) (fn : Func), E.P.funcs[f]? = some fn → (fn.name == "runtime.NumGoroutine") = false) (hcall : CallsOK R E call) (hgood : CallsGood call) (f : FuncId) : FuncOK R E f (bodyA E call f) := by
  intro xs b H c v H' c' l h φ F S w vs hr hg hx hfree
  unfold bodyA at h
  cases hf : E.P.funcs[f]? with
  | none => simp [hf, M.fail] at h
  | some fn =>
    simp only [hf] at h
    cases hb : fn.body with
    | none => simp [hb, M.fail] at h
    | some body =>
      simp only [hb] at h
      by_cases hlen : xs.length ≤ fn.ntmps
      · rw [if_pos hlen] at h
        obtain ⟨r, H1, c1, l1, l2, h1, h2⟩ := bind_some h
        obtain ⟨e, fr⟩ := r
        refine .inl ⟨by have := hnum f fn hf; simp only [beq_eq_false_iff_ne, ne_eq] at this; simp [callFunc, hf, this, hb], ?_⟩
        rw [← wide_calls (ro := none) (n := 0)]
        refine callsIn_of_wp hf hb trivial ?_
        have hl := hx.length
        have hfr : FrOK φ S w.heap fn.ntmps ⟨slotsOf xs fn.ntmps, []⟩ { tmps := vs.toArray ++ Array.replicate (fn.ntmps - vs.toArray.size) undef, defers := [] } :=
          ⟨slots_enter hx fn.ntmps [], by simp; omega, trivial⟩
        have hc1 := (good_code (E := E) (fn := f) (ro := none) (nt := fn.ntmps) hgood body ⟨slotsOf xs fn.ntmps, []⟩).le' h1
        have fin : ∀ {H2 : Heap X} {c2 : Nat} {l3 : List (Act X)}, (match fr.ds with
            | [] => (resultsA E.P fr.s fn.results.toList).bind fun vs => M.pure (packA vs)
            | _ => M.fail : M X AV) b H1 c1 = some (v, H2, c2, l3) → H2 = H' → c2 = c' →
            c1 = c' ∧ CodeK R φ F S w c c1 fn.ntmps fr H1 (fun a w' => a.defers = [] ∧ ∃ u, (results fn a.tmps).run E.P w' = .ok u w' ∧ EndOK R φ F S w c c' v H' (.returned u) w') := by
          intro H2 c2 l3 hh e1 e2
          subst e1 e2
          cases hds : fr.ds with
          | cons => simp [hds, M.fail] at hh
          | nil =>
            simp only [hds] at hh
            obtain ⟨vs', H3, c3, l5, l6, g1, g2⟩ := bind_some hh
            have hcc := (resultsA_cc g1).2.symm
            obtain ⟨rfl, rfl, rfl⟩ := pure_some g2
            refine ⟨hcc, ?_⟩
            intro φ' F' S' w' a' q1 q2 q3 q4
            obtain ⟨r1, r2, us, r3, r4⟩ := resultsA_ok (E := E) q1 q2.slots g1
            subst r1 r2
            have hdf : a'.defers = [] := by
              have := q2.marks
              rw [hds] at this
              cases hd : a'.defers with
              | nil => rfl
              | cons => rw [hd] at this; exact this.elim
            exact ⟨hdf, _, results_run r3, φ', F', S', pack_rel r4, q1, q3, q4⟩
        cases e with
        | normal =>
          obtain ⟨rfl, K⟩ := fin h2 rfl rfl
          refine codeA_ok hmix hcall hgood body h1 hr hg hfr hfree ?_
          exact K
        | ret =>
          obtain ⟨rfl, K⟩ := fin h2 rfl rfl
          refine codeA_ok hmix hcall hgood body h1 hr hg hfr hfree ?_
          exact K
        | exit i => simp [M.fail] at h2
      · rw [if_neg hlen] at h; simp [M.fail] at h

/-- What is known of functions, and the bodies of the others. -/
theorem callA_good {O : FuncId → Option (List AV → M X AV)} (hO : ∀ f m, O f = some m → ∀ xs, Good (m xs)) : ∀ d, CallsGood (callA E O d)
  | 0, _, _ => Good.fail
  | d + 1, g, xs => by
    unfold callA
    split
    · rename_i h; cases h
    · split
      · rename_i m hm; exact hO _ _ hm _
      · exact good_body (callA_good hO _) _ _
    · exact Good.fail

theorem callA_ok (hmix : E.P.follows .mixedOrders = true) (hnum : ∀ (f : FuncId) (fn : Func), E.P.funcs[f]? = some fn → (fn.name == "runtime.NumGoroutine") = false) {O : FuncId → Option (List AV → M X AV)}
    (hG : ∀ f m, O f = some m → ∀ xs, Good (m xs)) (hO : ∀ f m, O f = some m → FuncOK R E f m) : ∀ d, CallsOK R E (callA E O d)
  | 0 => by
    intro g xs b H c v H' c' l h
    simp [callA, M.fail] at h
  | d + 1 => by
    intro g xs b H c v H' c' l h φ F S w vg vs hr hg hgv hx hfree
    cases hgv with
    | fn ha hb =>
      rename_i f as bs us ws
      cases f with
      | func f =>
        simp only [callA] at h
        refine invoked_of ?_
        have hxs := (ha.append hx).append hb
        cases hof : O f with
        | some m =>
          simp only [hof] at h
          exact hO f m hof h hr hg hxs hfree
        | none =>
          simp only [hof] at h
          exact body_ok hmix hnum (callA_ok hmix hnum hG hO d) (callA_good hG d) f h hr hg hxs hfree
      | _ => simp [callA, M.fail] at h
    | _ => simp [callA, M.fail] at h

end
end Go.Abs
