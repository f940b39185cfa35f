/- Why TellErrors answers true: no two errors, and no two values, are told alike. -/
import Derived.Test.YtkplhhkmchihlaaGreatDoorK7
namespace Go.Abs
open Go Go.Proofs

theorem dec_unfold (u : Nat) : Lib.decDigits u = if u < 10 then [UInt8.ofNat (48 + u)] else Lib.decDigits (u / 10) ++ [UInt8.ofNat (48 + u % 10)] := by
  rw [Lib.decDigits]
  split <;> rfl

theorem dec_ne (u : Nat) : Lib.decDigits u ≠ [] := by
  rw [dec_unfold]; split <;> simp

theorem digit_inj {a b : Nat} (ha : a < 10) (hb : b < 10) (h : UInt8.ofNat (48 + a) = UInt8.ofNat (48 + b)) : a = b := by
  have := congrArg UInt8.toNat h
  simp only [UInt8.toNat_ofNat'] at this
  omega

theorem dec_inj : ∀ (u v : Nat), Lib.decDigits u = Lib.decDigits v → u = v := by
  intro u
  induction u using Nat.strongRecOn with
  | _ u ih =>
    intro v h
    rw [dec_unfold u, dec_unfold v] at h
    by_cases hu : u < 10
    · rw [if_pos hu] at h
      by_cases hv : v < 10
      · rw [if_pos hv] at h
        exact digit_inj hu hv (by simpa using h)
      · rw [if_neg hv] at h
        have hl := congrArg List.length h
        have := List.length_pos_iff.2 (dec_ne (v / 10))
        simp at hl
        exact absurd hl (dec_ne (v / 10))
    · rw [if_neg hu] at h
      by_cases hv : v < 10
      · rw [if_pos hv] at h
        have hl := congrArg List.length h
        simp at hl
        exact absurd hl (dec_ne (u / 10))
      · rw [if_neg hv] at h
        obtain ⟨h1, h2⟩ := List.append_inj' h rfl
        have h3 := ih (u / 10) (by omega) (v / 10) h1
        have h4 := digit_inj (Nat.mod_lt u (by omega)) (Nat.mod_lt v (by omega)) (by simpa using h2)
        omega

theorem itoa_inj {a b : Int} (ha : 0 ≤ a) (hb : 0 ≤ b) (h : Lib.itoa a = Lib.itoa b) : a = b := by
  unfold Lib.itoa at h
  rw [if_neg (by omega), if_neg (by omega)] at h
  have := dec_inj _ _ h
  omega

theorem law_a {a b : Int} (v : List UInt8) (ha : 0 ≤ a) (hb : 0 ≤ b) : (tellT a v [] false == tellT b v [] false) = (a == b) := by
  have key : tellT a v [] false = tellT b v [] false ↔ a = b := by
    constructor
    · intro h
      simp only [tellT, itemsT, List.map_nil, List.flatten_nil, List.append_nil, Bool.false_eq_true, if_false] at h
      have h1 := List.append_cancel_right h
      by_cases h2 : a = 0 <;> by_cases h3 : b = 0
      · omega
      · rw [if_pos h2, if_neg h3] at h1; simp at h1
      · rw [if_neg h2, if_pos h3] at h1; simp at h1
      · rw [if_neg h2, if_neg h3] at h1
        exact itoa_inj ha hb (List.append_cancel_left h1)
    · rintro rfl; rfl
  rw [Bool.eq_iff_iff]
  simp [key]

theorem law_v (v w : List UInt8) : (tellT 0 v [] false == tellT 0 w [] false) = (v == w) := by
  have key : tellT 0 v [] false = tellT 0 w [] false ↔ v = w := by
    constructor
    · intro h
      simp only [tellT, itemsT, List.map_nil, List.flatten_nil, List.append_nil, Bool.false_eq_true, if_false, if_true] at h
      have h1 := List.append_cancel_left h
      by_cases h2 : v = [] <;> by_cases h3 : w = []
      · rw [h2, h3]
      · rw [if_pos h2, if_neg h3] at h1; simp at h1
      · rw [if_neg h2, if_pos h3] at h1; simp at h1
      · rw [if_neg h2, if_neg h3] at h1; simpa using h1
    · rintro rfl; rfl
  rw [Bool.eq_iff_iff]
  simp [key]

theorem b4_eq : b4 = .seq (cfst b4) (.seq (cfst (csnd b4)) (.seq (cfst (csnd (csnd b4))) (.seq (cfst (csnd (csnd (csnd b4)))) (csnd (csnd (csnd (csnd b4))))))) := by
  simp [b4, Tryz.f4, cfst, csnd]

theorem seq_ret {E : Cfg} {call : AV → List AV → M Unit AV} {fn nt : Nat} {a b : Code} {s s1 : Slots} {H H1 : Heap Unit} {c c1 : Nat}
    (h1 : codeA E call fn none nt a ⟨s, []⟩ false H c = some ((.ret, ⟨s1, []⟩), H1, c1, [])) :
    codeA E call fn none nt (.seq a b) ⟨s, []⟩ false H c = some ((.ret, ⟨s1, []⟩), H1, c1, []) := by
  simp [codeA, M.bind, h1, M.pure]

theorem te_run {d : Nat} (a b : Int) (v w : List UInt8) :
    ∃ H' c', callA E0 O2 (d + 2) (.fn (.func 4) [] []) [.int .i64 a, .int .i64 b, .str v, .str w] false (.leaf : Heap Unit) 1 = some (.bool true, H', c', []) := by
  have hP : E0.P = Tryz.prog := rfl
  have hG : E0.G = fun _ => none := rfl
  have hd : Dom (slotsOf [.int .i64 a, .int .i64 b, .str v, .str w] 72) 72 := Dom.slotsOf _ _ (by simp)
  have g0 : (slotsOf [.int .i64 a, .int .i64 b, .str v, .str w] 72).get 0 = some (.int .i64 a) := by unfold slotsOf; rw [fillS_get]; simp
  have g1 : (slotsOf [.int .i64 a, .int .i64 b, .str v, .str w] 72).get 1 = some (.int .i64 b) := by unfold slotsOf; rw [fillS_get]; simp
  have g2 : (slotsOf [.int .i64 a, .int .i64 b, .str v, .str w] 72).get 2 = some (.str v) := by unfold slotsOf; rw [fillS_get]; simp
  have g3 : (slotsOf [.int .i64 a, .int .i64 b, .str v, .str w] 72).get 3 = some (.str w) := by unfold slotsOf; rw [fillS_get]; simp
  have fin : ∀ {s' : Slots} {H' : Heap Unit} {c' : Nat}, codeA E0 (callA E0 O2 (d + 1)) 4 none 72 b4 ⟨slotsOf [.int .i64 a, .int .i64 b, .str v, .str w] 72, []⟩ false .leaf 1 = some ((.ret, ⟨s', []⟩), H', c', []) → s'.get 8 = some (.bool true) →
      ∃ H' c', callA E0 O2 (d + 2) (.fn (.func 4) [] []) [.int .i64 a, .int .i64 b, .str v, .str w] false (.leaf : Heap Unit) 1 = some (.bool true, H', c', []) := by
    intro s' H' c' hrun g8
    have hO : O2 4 = none := by simp [O2, O1]
    have hb : Tryz.f4.body = some b4 := by simp [b4, Tryz.f4]
    have hnt : Tryz.f4.ntmps = 72 := Tryz.ntmps4
    have hres : Tryz.f4.results.toList = [.tmp 8] := by simp [Tryz.f4]
    have hf : E0.P.funcs[4]? = some Tryz.f4 := Tryz.func4
    refine ⟨H', c', ?_⟩
    simp only [callA, hO, List.nil_append, List.append_nil, bodyA, hf, hb, hnt, hres, List.length_cons, List.length_nil]
    simp only [Nat.zero_add, Nat.reduceAdd, Nat.reduceLeDiff, if_true, M.bind, hrun]
    simp [M.bind, resultsA, resultA, M.lift, M.pure, packA, g8]
  have hp0 : ∃ s1, codeA E0 (callA E0 O2 (d + 1)) 4 none 72 (cfst b4) ⟨slotsOf [.int .i64 a, .int .i64 b, .str v, .str w] 72, []⟩ false (.leaf : Heap Unit) 1 = some ((.normal, ⟨s1, []⟩), .leaf, 1, []) ∧
      Dom s1 72 ∧ s1.get 0 = some (.int .i64 a) ∧ s1.get 1 = some (.int .i64 b) ∧ s1.get 2 = some (.str v) ∧ s1.get 3 = some (.str w) := by
    clear fin
    generalize slotsOf [.int .i64 a, .int .i64 b, .str v, .str w] 72 = s0 at *
    refine ⟨s0.set 8 (.bool false), ?_, hd.set _ _, ?_, ?_, ?_, ?_⟩
    · simp [codeA, opsA, wantA, operA, plainOp, evalA, ofVal, ofCell, M.bind, M.pure, M.lift, cfst, b4, Tryz.f4, P72 hd]
    all_goals simp [T.get_set, g0, g1, g2, g3]
  obtain ⟨s1, e1, d1, k0, k1, k2, k3⟩ := hp0
  by_cases hg : ¬ (a < 0) ∧ ¬ (b < 0) ∧ ¬ (1000 < a) ∧ ¬ (1000 < b) ∧ ¬ ((60 : Int) < (v.length : Int)) ∧ ¬ ((60 : Int) < (w.length : Int))
  · obtain ⟨s2, H2, c2, e2, rfl, rfl, d2, m0, m1, m2, m3⟩ := te_in (d := d) (H := (.leaf : Heap Unit)) (c := 1) d1 k0 k1 k2 k3 hg
    obtain ⟨q1, q2, q3, q4, q5, q6⟩ := hg
    obtain ⟨s3, H3, c3, e3, rfl, rfl, d3, n0, n1, n2, n3, n9, n10⟩ := te_r3 (d := d) (H := (.leaf : Heap Unit)) (c := 1) d2 m0 m1 m2 m3 (by omega) (by omega) (by omega) (by omega) (by omega)
    obtain ⟨s4, H4, c4, e4, rfl, rfl, d4, o0, o1, o2, o3, o9, o10, o11, o12⟩ := te_r4 (d := d) (H := (.leaf : Heap Unit)) (c := 1) d3 n0 n1 n2 n3 n9 n10 (by omega) (by omega)
    obtain ⟨s5, H5, c5, e5, g8⟩ := te_r5 (d := d) (H := (.leaf : Heap Unit)) (c := 1) d4 o0 o1 o2 o3 o9 o10 o11 o12 (law_a v (by omega) (by omega)) (law_v v w)
    have hrun := seq_run e1 (seq_run e2 (seq_run e3 (seq_run e4 e5)))
    rw [← b4_eq] at hrun
    exact fin hrun g8
  · obtain ⟨s2, H2, c2, e2, g8⟩ := te_out (d := d) (H := (.leaf : Heap Unit)) (c := 1) d1 k0 k1 k2 k3 hg
    have hrun := seq_run e1 (seq_ret (b := .seq (cfst (csnd (csnd b4))) (.seq (cfst (csnd (csnd (csnd b4)))) (csnd (csnd (csnd (csnd b4)))))) e2)
    rw [← b4_eq] at hrun
    exact fin hrun g8

/-- No objects of packages. -/
def R0 : Rep Unit := ⟨fun _ _ _ _ _ => False, fun h => h.elim, fun h => h.elim, fun h _ _ _ => h.elim⟩

set_option maxRecDepth 20000 in
/-- THE WALK: whatever the arguments, TellErrors returns true; what lay in the heap lies as it lay. -/
theorem te_calls (a b : Int) (v w : ByteArray) (W : World) (htab : ∃ t fr, W.heap[0]? = some (.cells (Lib.pow10Tab.map fun z => Value.int .u64 z).toArray t fr)) :
    Calls Tryz.prog 4 #[.int .i64 a, .int .i64 b, .string v, .string w] W fun e W' => e = .returned (.bool true) ∧ W'.os = W.os ∧ W'.output = W.output ∧ W.heap.size ≤ W'.heap.size ∧ ∀ k, k < W.heap.size → W'.heap[k]? = W.heap[k]? := by
  obtain ⟨t, fr, h0⟩ := htab
  have hlt : 0 < W.heap.size := (Array.getElem?_eq_some_iff.1 h0).1
  have hf := body_ok (E := E0) (R := R0) (call := callA E0 O2 1) hmix hnum (callA_ok hmix hnum O2_good (O2_ok (R := R0)) 1) (callA_good O2_good 1) 4
  obtain ⟨H', c', hrun⟩ := te_run (d := 0) a b v.data.toList w.data.toList
  have hO : O2 4 = none := by simp [O2, O1]
  simp only [callA, hO, List.nil_append, List.append_nil] at hrun
  have hx : VRels (fun _ => none) (fun b => b = 0) W.heap [.int .i64 a, .int .i64 b, .str v.data.toList, .str w.data.toList] [.int .i64 a, .int .i64 b, .string v, .string w] :=
    .cons (.int _ _) (.cons (.int _ _) (.cons (.str v) (.cons (.str w) .nil)))
  have hraw : ∀ b cs, E0.raw b = some cs → b = 0 ∧ ∃ t fr, W.heap[b]? = some (.cells cs t fr) := by
    intro b cs h
    have h' : raw0 b = some cs := h
    unfold raw0 at h'
    split at h'
    · rename_i e
      subst e
      simp only [Option.some.injEq] at h'
      subst h'
      exact ⟨rfl, t, fr, h0⟩
    · cases h'
  have hg : GOK E0 (fun _ => none) (fun b => b = 0) W.heap := ⟨fun g a h => (by cases h), hraw⟩
  rcases hf hrun (HRel.leaf (fun b hb => by subst hb; exact hlt)) hg hx (fun _ _ _ => rfl) with ⟨_, h2⟩ | ⟨r, w', h1, _⟩
  · refine h2.mono fun e w' he => ?_
    cases e with
    | returned r =>
      obtain ⟨φ', F', S', q1, q2, q3, q4⟩ := he
      cases q1
      exact ⟨rfl, q3.os, q3.out, q3.st.size, fun k hk => q3.st.keep k hk id⟩
    | panicked => exact he.elim
    | outgrown => exact he.elim
  · exfalso
    have h5 : Tryz.prog.funcs[4]? = some Tryz.f4 := Tryz.func4
    have hname : ¬ Tryz.f4.name = "runtime.NumGoroutine" := by
      have : (Tryz.f4.name == "runtime.NumGoroutine") = false := by kernel_rfl
      simpa using this
    have hbody : Tryz.f4.body.isNone = false := by kernel_rfl
    have h6 : (callFunc 4 [Value.int .i64 a, .int .i64 b, .string v, .string w].toArray).run Tryz.prog W = .ok (.value r) w' := h1
    generalize Tryz.f4 = fn at *
    have hb : ¬ fn.body = none := by intro e; rw [e] at hbody; simp at hbody
    simp [callFunc, h5, hname, hb] at h6

end Go.Abs
