/- rosaryref19.Digits, run: it answers what strconv.Itoa answers. -/
import Derived.Test.YtkplhhkmchihlaaGreatDoorK8
namespace Go.Abs
open Go Go.Proofs

theorem P21 {s : Slots} {d : Nat} {v : AV} (h : Dom s 21) (hd : d < 21) : putA s (some d) v = s.set d v := h.put hd

noncomputable def b8 : Code := Tryz.f8.body.getD .skip
noncomputable def D8 : Code := cloop (cblk (cfst (csnd (csnd b8))))

theorem b8_eq : b8 = .seq (cfst b8) (.seq (cfst (csnd b8)) (.seq (.block 0 (.loop D8)) (csnd (csnd (csnd b8))))) := by
  simp [D8, b8, Tryz.f8, cfst, csnd, cblk, cloop]

theorem seq_assoc {E : Cfg} {call : AV → List AV → M Unit AV} {fn nt : Nat} (x y z : Code) {f : Fr} {H : Heap Unit} {c : Nat} :
    codeA E call fn none nt (.seq x (.seq y z)) f false H c = codeA E call fn none nt (.seq (.seq x y) z) f false H c := by
  simp only [codeA, M.bind]
  cases codeA E call fn none nt x f false H c with
  | none => rfl
  | some r =>
    obtain ⟨⟨e, f⟩, H, c, l⟩ := r
    cases e with
    | normal =>
      simp only [M.bind]
      cases codeA E call fn none nt y f false H c with
      | none => rfl
      | some r =>
        obtain ⟨⟨e, f⟩, H, c, l⟩ := r
        cases e with
        | normal =>
          simp only
          cases codeA E call fn none nt z f false H c with
          | none => rfl
          | some r => obtain ⟨r, H, c, l⟩ := r; simp
        | exit i => simp [M.pure]
        | ret => simp [M.pure]
    | exit i => simp [M.pure]
    | ret => simp [M.pure]

section
variable {call : AV → List AV → M Unit AV}

theorem dg_round {s : Slots} {H : Heap Unit} {c u : Nat} {t : List UInt8} (hd : Dom s 21) (g0 : s.get 0 = some (.int .i64 u)) (g3 : s.get 3 = some (.str t)) (hu : u ≤ 9223372036854775807) (ht : t.length ≤ 1000) (hc : 0 < u ∨ t = []) :
    ∃ s' H' c', codeA E0 call 8 none 21 D8 ⟨s, []⟩ false H c = some ((.normal, ⟨s', []⟩), H', c', []) ∧ Dom s' 21 ∧ s'.get 0 = some (.int .i64 (u / 10 : Nat)) ∧ s'.get 3 = some (.str (UInt8.ofNat (48 + u % 10) :: t)) := by
  have hP : E0.P = Tryz.prog := rfl
  have hG : E0.G = fun _ => none := rfl
  have h1 : 1 + t.length ≤ 4611686018427387904 := by omega
  have h2 : IntKind.i64.wrap (48 + (u : Int) % 10) = 48 + (u : Int) % 10 := by rw [IntKind.wrap_i64]; omega
  have h2' : IntKind.i64.wrap (48 + (u : Int).tmod 10) = 48 + (u : Int) % 10 := by rw [Int.tmod_eq_emod_of_nonneg (by omega)]; exact h2
  have h3 : IntKind.u8.wrap (48 + (u : Int) % 10) = 48 + (u : Int) % 10 := by rw [IntKind.wrap_u8]; omega
  have h4 : IntKind.i64.wrap ((u : Int).tdiv 10) = ((u / 10 : Nat) : Int) := by rw [Int.tdiv_eq_ediv_of_nonneg (by omega), IntKind.wrap_i64]; omega
  have h5 : ((48 + (u : Int) % 10).toNat).toUInt8 = UInt8.ofNat (48 + u % 10) := by
    have : (48 + (u : Int) % 10).toNat = 48 + u % 10 := by omega
    rw [this]
  by_cases hu0 : 0 < u
  · simp (maxDischargeDepth := 100) [codeA, opsA, wantA, operA, evalA, plainOp, M.bind, M.pure, M.lift, T.get_set, Dom.set, ofVal, ofCell, bin, intBin, strBin, yieldA, Tryz.underlying9, Tryz.underlying3, Tryz.underlying5, Tryz.underlying51, convertP, convV, bytesStrP, isByteT, envs, fillEls, AV.cells, oneAll, AV.one, M.new, srcP, M.rdO, bytesOf, et_5, zt_5, P21, cfst, csnd, cblk, cloop, D8, b8, Tryz.f8, hP, hd, g0, g3, hu0, h1, h2', h3, h5]
    rw [IntKind.wrap_i64]; omega
  · have ht0 : t = [] := hc.resolve_left hu0
    subst ht0
    simp (maxDischargeDepth := 100) [codeA, opsA, wantA, operA, evalA, plainOp, M.bind, M.pure, M.lift, T.get_set, Dom.set, ofVal, ofCell, bin, intBin, strBin, yieldA, Tryz.underlying9, Tryz.underlying3, Tryz.underlying5, Tryz.underlying51, convertP, convV, bytesStrP, isByteT, envs, fillEls, AV.cells, oneAll, AV.one, M.new, srcP, M.rdO, bytesOf, et_5, zt_5, P21, cfst, csnd, cblk, cloop, D8, b8, Tryz.f8, hP, hd, g0, g3, hu0, h2', h3, h5]
    rw [IntKind.wrap_i64]; omega

theorem dg_out {s : Slots} {H : Heap Unit} {c : Nat} {x : UInt8} {t : List UInt8} (hd : Dom s 21) (g0 : s.get 0 = some (.int .i64 (0 : Nat))) (g3 : s.get 3 = some (.str (x :: t))) :
    ∃ s' H' c', codeA E0 call 8 none 21 D8 ⟨s, []⟩ false H c = some ((.exit 0, ⟨s', []⟩), H', c', []) ∧ Dom s' 21 ∧ s'.get 3 = some (.str (x :: t)) := by
  have hP : E0.P = Tryz.prog := rfl
  have hG : E0.G = fun _ => none := rfl
  have hb : ((x :: t) == ([] : List UInt8)) = false := rfl
  simp (maxDischargeDepth := 100) [codeA, opsA, wantA, operA, evalA, plainOp, M.bind, M.pure, M.lift, T.get_set, Dom.set, ofVal, ofCell, bin, intBin, strBin, yieldA, P21, cfst, csnd, cblk, cloop, D8, b8, Tryz.f8, hd, g0, g3, hb]

theorem dg_loop : ∀ (f : Nat) {u : Nat} {t : List UInt8} {s : Slots} {H : Heap Unit} {c : Nat} (_ : u < 10 ^ (f + 1)) (_ : Dom s 21) (_ : s.get 0 = some (.int .i64 u)) (_ : s.get 3 = some (.str t)) (_ : u ≤ 9223372036854775807) (_ : t.length + f ≤ 900) (_ : 0 < u ∨ t = []) (k : Nat) (_ : f + 2 ≤ k),
    ∃ s' H' c', loopA (codeA E0 call 8 none 21 D8) k ⟨s, []⟩ false H c = some ((.exit 0, ⟨s', []⟩), H', c', []) ∧ Dom s' 21 ∧ s'.get 3 = some (.str (Lib.decDigits u ++ t)) := by
  intro f
  induction f with
  | zero =>
    intro u t s H c hlt hd g0 g3 hu ht hc k hk
    obtain ⟨s1, H1, c1, e1, d1, k0, k3⟩ := dg_round (call := call) (H := H) (c := c) hd g0 g3 hu (by omega) hc
    have hu10 : u < 10 := by simpa using hlt
    have h0 : u / 10 = 0 := by omega
    rw [h0] at k0
    obtain ⟨s2, H2, c2, e2, d2, m3⟩ := dg_out (call := call) (H := H1) (c := c1) d1 k0 k3
    obtain ⟨k, rfl⟩ : ∃ q, k = q + 2 := ⟨k - 2, by omega⟩
    refine ⟨s2, H2, c2, ?_, d2, ?_⟩
    · simp [loopA, M.bind, e1, e2, M.pure]
    · rw [m3, dec_unfold, if_pos hu10]
      have : u % 10 = u := by omega
      rw [this]; rfl
  | succ f ih =>
    intro u t s H c hlt hd g0 g3 hu ht hc k hk
    obtain ⟨s1, H1, c1, e1, d1, k0, k3⟩ := dg_round (call := call) (H := H) (c := c) hd g0 g3 hu (by omega) hc
    obtain ⟨k, rfl⟩ : ∃ q, k = q + 1 := ⟨k - 1, by omega⟩
    by_cases h10 : u < 10
    · have h0 : u / 10 = 0 := by omega
      rw [h0] at k0
      obtain ⟨s2, H2, c2, e2, d2, m3⟩ := dg_out (call := call) (H := H1) (c := c1) d1 k0 k3
      obtain ⟨k, rfl⟩ : ∃ q, k = q + 1 := ⟨k - 1, by omega⟩
      refine ⟨s2, H2, c2, ?_, d2, ?_⟩
      · simp [loopA, M.bind, e1, e2, M.pure]
      · rw [m3, dec_unfold, if_pos h10]
        have : u % 10 = u := by omega
        rw [this]; rfl
    · have hlt' : u / 10 < 10 ^ (f + 1) := by
        rw [Nat.div_lt_iff_lt_mul (by omega), ← Nat.pow_succ]; exact hlt
      obtain ⟨s2, H2, c2, e2, d2, m3⟩ := ih (u := u / 10) (t := UInt8.ofNat (48 + u % 10) :: t) (H := H1) (c := c1) hlt' d1 k0 k3 (by omega) (by simp; omega) (.inl (by omega)) k (by omega)
      refine ⟨s2, H2, c2, ?_, d2, ?_⟩
      · simp [loopA, M.bind, e1, e2]
      · rw [m3, dec_unfold u, if_neg h10]; simp

theorem dg_run {O : FuncId → Option (List AV → M Unit AV)} (hO : O 8 = none) {d : Nat} (n : Int) (h0 : 0 ≤ n) (h1 : n ≤ 9223372036854775807) :
    ∃ H' c', callA E0 O (d + 1) (.fn (.func 8) [] []) [.int .i64 n] false (.leaf : Heap Unit) 1 = some (.str (Lib.itoa n), H', c', []) := by
  have hP : E0.P = Tryz.prog := rfl
  have hG : E0.G = fun _ => none := rfl
  have hF : E0.fuel = 10000 := rfl
  obtain ⟨u, rfl⟩ : ∃ u : Nat, n = u := ⟨n.toNat, by omega⟩
  have hu : u ≤ 9223372036854775807 := by omega
  have head : ∃ s1, codeA E0 (callA E0 O d) 8 none 21 (.seq (cfst b8) (cfst (csnd b8))) ⟨slotsOf [.int .i64 u] 21, []⟩ false (.leaf : Heap Unit) 1 = some ((.normal, ⟨s1, []⟩), .leaf, 1, []) ∧
      Dom s1 21 ∧ s1.get 0 = some (.int .i64 u) ∧ s1.get 3 = some (.str []) := by
    have hd : Dom (slotsOf [.int .i64 u] 21) 21 := Dom.slotsOf _ _ (by simp)
    have g0 : (slotsOf [.int .i64 u] 21).get 0 = some (.int .i64 u) := by unfold slotsOf; rw [fillS_get]; simp
    generalize slotsOf [.int .i64 u] 21 = s0 at *
    simp (maxDischargeDepth := 100) [codeA, opsA, wantA, operA, evalA, plainOp, M.bind, M.pure, M.lift, T.get_set, Dom.set, ofVal, ofCell, P21, cfst, csnd, b8, Tryz.f8, hd, g0]
  obtain ⟨s1, e1, d1, k0, k3⟩ := head
  obtain ⟨s2, H2, c2, e2, d2, m3⟩ := dg_loop (call := callA E0 O d) 19 (H := .leaf) (c := 1) (u := u) (by omega) d1 k0 k3 hu (by simp) (.inr rfl) 10000 (by omega)
  have e2' : codeA E0 (callA E0 O d) 8 none 21 (.block 0 (.loop D8)) ⟨s1, []⟩ false (.leaf : Heap Unit) 1 = some ((.normal, ⟨s2, []⟩), H2, c2, []) := by
    simp [codeA, M.bind, hF, e2, M.pure]
  have tail : ∃ s3, codeA E0 (callA E0 O d) 8 none 21 (csnd (csnd (csnd b8))) ⟨s2, []⟩ false H2 c2 = some ((.ret, ⟨s3, []⟩), H2, c2, []) ∧ s3.get 2 = some (.str (Lib.decDigits u ++ [])) := by
    simp (maxDischargeDepth := 100) [codeA, opsA, wantA, operA, evalA, plainOp, M.bind, M.pure, M.lift, Dom.set, P21, csnd, b8, Tryz.f8, d2, m3]
  obtain ⟨s3, e3, m2⟩ := tail
  have e1' : codeA E0 (callA E0 O d) 8 none 21 (.seq (.seq (cfst b8) (cfst (csnd b8))) (.seq (.block 0 (.loop D8)) (csnd (csnd (csnd b8))))) ⟨slotsOf [.int .i64 u] 21, []⟩ false (.leaf : Heap Unit) 1 = some ((.ret, ⟨s3, []⟩), H2, c2, []) := seq_run e1 (seq_run e2' e3)
  have hrun : codeA E0 (callA E0 O d) 8 none 21 b8 ⟨slotsOf [.int .i64 u] 21, []⟩ false (.leaf : Heap Unit) 1 = some ((.ret, ⟨s3, []⟩), H2, c2, []) := by
    rw [b8_eq, ← e1']
    exact seq_assoc _ _ _
  have hb : Tryz.f8.body = some b8 := by simp [b8, Tryz.f8]
  have hnt : Tryz.f8.ntmps = 21 := Tryz.ntmps8
  have hres : Tryz.f8.results.toList = [.tmp 2] := by simp [Tryz.f8]
  have hf : E0.P.funcs[8]? = some Tryz.f8 := Tryz.func8
  have hi : Lib.itoa (u : Int) = Lib.decDigits u := by simp [Lib.itoa]
  refine ⟨H2, c2, ?_⟩
  simp only [callA, hO, List.nil_append, List.append_nil, bodyA, hf, hb, hnt, hres, List.length_cons, List.length_nil]
  simp only [Nat.zero_add, Nat.reduceLeDiff, if_true, M.bind, hrun]
  simp [M.bind, resultsA, resultA, M.lift, M.pure, packA, m2, hi]
end
end Go.Abs
