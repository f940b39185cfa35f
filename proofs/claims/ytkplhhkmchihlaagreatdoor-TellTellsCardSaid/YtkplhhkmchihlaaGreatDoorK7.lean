/- The law TellErrors, run; and why it answers true. -/
import Derived.Test.YtkplhhkmchihlaaGreatDoorK6
namespace Go.Abs
open Go Go.Proofs

theorem zt_25 : zeroT Tryz.prog 25 = some [.int .i64 0, .str [], .nils, .bool false, .str [], .int .i64 0] := by kernel_rfl
theorem sz_3 : sizeT Tryz.prog 3 = some 1 := by decide +kernel

theorem P72 {s : Slots} {d : Nat} {v : AV} (h : Dom s 72) (hd : d < 72) : putA s (some d) v = s.set d v := h.put hd

/-- What is known of functions: alive and Tell besides. -/
def O2 (f : FuncId) : Option (List AV → M Unit AV) := if f = 7 then some (fun xs => M.lift (aliveS xs)) else if f = 9 then some (fun xs => M.lift (tellS xs)) else O1 f

theorem O2_good : ∀ f m, O2 f = some m → ∀ xs, Good (m xs) := by
  intro f m h xs
  unfold O2 at h
  split at h
  · simp at h; subst h; exact Good.lift _
  · split at h
    · simp at h; subst h; exact Good.lift _
    · exact O1_good f m h xs

theorem O2_ok {R : Rep Unit} : ∀ f m, O2 f = some m → FuncOK R E0 f m := by
  intro f m h
  unfold O2 at h
  split at h
  · rename_i e; simp at h; subst h; subst e; exact alive_ok
  · split at h
    · rename_i e; simp at h; subst h; subst e; exact tell_ok
    · exact O1_ok f m h

noncomputable def b4 : Code := Tryz.f4.body.getD .skip

section
variable {d : Nat}

theorem alive_call (H : Heap Unit) (c : Nat) : callA E0 O2 (d + 1) (.fn (.func 7) [] []) [] false H c = some (.bool true, H, c, []) := by
  simp [callA, O2, aliveS, M.lift, M.pure]

theorem tell_call (n : Int) (v : List UInt8) (H : Heap Unit) (c : Nat) (h0 : 0 ≤ n) (h1 : n ≤ 1000) (hv : v.length ≤ 60) :
    callA E0 O2 (d + 1) (.fn (.func 9) [] []) [.agg [.int .i64 n, .str v, .nils, .bool false, .str [], .int .i64 0]] false H c = some (.str (tellT n v [] false), H, c, []) := by
  have h1' : n ≤ 9223372036854775807 := by omega
  have h2 : v.length ≤ 190000000000000 := by omega
  simp [callA, O2, tellS, h0, h1', itsA, itemsT, M.lift, M.pure, h2]

/-- The guard. -/
def guardE (a b : Int) (v w : List UInt8) : Bool := decide (a < 0) || decide (b < 0) || decide (a > 1000) || decide (b > 1000) || decide ((v.length : Int) > 60) || decide ((w.length : Int) > 60)

theorem te_in {s : Slots} {H : Heap Unit} {c : Nat} {a b : Int} {v w : List UInt8} (hd : Dom s 72) (g0 : s.get 0 = some (.int .i64 a)) (g1 : s.get 1 = some (.int .i64 b)) (g2 : s.get 2 = some (.str v)) (g3 : s.get 3 = some (.str w))
    (hg : ¬ (a < 0) ∧ ¬ (b < 0) ∧ ¬ (1000 < a) ∧ ¬ (1000 < b) ∧ ¬ ((60 : Int) < (v.length : Int)) ∧ ¬ ((60 : Int) < (w.length : Int))) :
    ∃ s' H' c', codeA E0 (callA E0 O2 (d + 1)) 4 none 72 (cfst (csnd b4)) ⟨s, []⟩ false H c = some ((.normal, ⟨s', []⟩), H', c', []) ∧
      H' = H ∧ c' = c ∧ Dom s' 72 ∧ s'.get 0 = some (.int .i64 a) ∧ s'.get 1 = some (.int .i64 b) ∧ s'.get 2 = some (.str v) ∧ s'.get 3 = some (.str w) := by
  have hP : E0.P = Tryz.prog := rfl
  have hG : E0.G = fun _ => none := rfl
  have al := fun (H : Heap Unit) c => alive_call (d := d) H c
  obtain ⟨c1, c2, c3, c4, c5, c6⟩ := hg
  simp (maxDischargeDepth := 100) [codeA, opsA, wantA, operA, evalA, plainOp, M.bind, M.pure, M.lift, T.get_set, envL, ofVal, ofCell, bin, intBin, yieldA, Tryz.underlying9, builtinP, lenP, goI, un, P72, Dom.set, cfst, csnd, b4, Tryz.f4, hP, hd, g0, g1, g2, g3, c1, c2, c3, c4, c5, c6, al]
  refine ⟨_, _, _, ⟨rfl, rfl, rfl⟩, rfl, rfl, ?_, ?_, ?_, ?_, ?_⟩
  · repeat (first | with_reducible exact hd | with_reducible apply Dom.set)
  all_goals simp [T.get_set, g0, g1, g2, g3]

theorem te_out {s : Slots} {H : Heap Unit} {c : Nat} {a b : Int} {v w : List UInt8} (hd : Dom s 72) (g0 : s.get 0 = some (.int .i64 a)) (g1 : s.get 1 = some (.int .i64 b)) (g2 : s.get 2 = some (.str v)) (g3 : s.get 3 = some (.str w))
    (hg : ¬ (¬ (a < 0) ∧ ¬ (b < 0) ∧ ¬ (1000 < a) ∧ ¬ (1000 < b) ∧ ¬ ((60 : Int) < (v.length : Int)) ∧ ¬ ((60 : Int) < (w.length : Int)))) :
    ∃ s' H' c', codeA E0 (callA E0 O2 (d + 1)) 4 none 72 (cfst (csnd b4)) ⟨s, []⟩ false H c = some ((.ret, ⟨s', []⟩), H', c', []) ∧ s'.get 8 = some (.bool true) := by
  have hP : E0.P = Tryz.prog := rfl
  have hG : E0.G = fun _ => none := rfl
  have al := fun (H : Heap Unit) c => alive_call (d := d) H c
  by_cases c1 : a < 0
  · simp (maxDischargeDepth := 100) [codeA, opsA, wantA, operA, evalA, plainOp, M.bind, M.pure, M.lift, T.get_set, envL, ofVal, ofCell, bin, intBin, yieldA, P72, Dom.set, cfst, csnd, b4, Tryz.f4, hd, g0, c1, al]
  · by_cases c2 : b < 0
    · simp (maxDischargeDepth := 100) [codeA, opsA, wantA, operA, evalA, plainOp, M.bind, M.pure, M.lift, T.get_set, envL, ofVal, ofCell, bin, intBin, yieldA, P72, Dom.set, cfst, csnd, b4, Tryz.f4, hd, g0, g1, c1, c2, al]
    · by_cases c3 : 1000 < a
      · simp (maxDischargeDepth := 100) [codeA, opsA, wantA, operA, evalA, plainOp, M.bind, M.pure, M.lift, T.get_set, envL, ofVal, ofCell, bin, intBin, yieldA, P72, Dom.set, cfst, csnd, b4, Tryz.f4, hd, g0, g1, c1, c2, c3, al]
      · by_cases c4 : 1000 < b
        · simp (maxDischargeDepth := 100) [codeA, opsA, wantA, operA, evalA, plainOp, M.bind, M.pure, M.lift, T.get_set, envL, ofVal, ofCell, bin, intBin, yieldA, P72, Dom.set, cfst, csnd, b4, Tryz.f4, hd, g0, g1, c1, c2, c3, c4, al]
        · by_cases c5 : (60 : Int) < (v.length : Int)
          · simp (maxDischargeDepth := 100) [codeA, opsA, wantA, operA, evalA, plainOp, M.bind, M.pure, M.lift, T.get_set, envL, ofVal, ofCell, bin, intBin, yieldA, Tryz.underlying9, builtinP, lenP, goI, P72, Dom.set, cfst, csnd, b4, Tryz.f4, hP, hd, g0, g1, g2, c1, c2, c3, c4, c5, al]
          · by_cases c6 : (60 : Int) < (w.length : Int)
            · simp (maxDischargeDepth := 100) [codeA, opsA, wantA, operA, evalA, plainOp, M.bind, M.pure, M.lift, T.get_set, envL, ofVal, ofCell, bin, intBin, yieldA, Tryz.underlying9, builtinP, lenP, goI, P72, Dom.set, cfst, csnd, b4, Tryz.f4, hP, hd, g0, g1, g2, g3, c1, c2, c3, c4, c5, c6, al]
            · exact absurd ⟨c1, c2, c3, c4, c5, c6⟩ hg

theorem te_r3 {s : Slots} {H : Heap Unit} {c : Nat} {a b : Int} {v w : List UInt8} (hd : Dom s 72) (g0 : s.get 0 = some (.int .i64 a)) (g1 : s.get 1 = some (.int .i64 b)) (g2 : s.get 2 = some (.str v)) (g3 : s.get 3 = some (.str w))
    (a0 : 0 ≤ a) (a1 : a ≤ 1000) (b0 : 0 ≤ b) (b1 : b ≤ 1000) (hv : v.length ≤ 60) :
    ∃ s' H' c', codeA E0 (callA E0 O2 (d + 1)) 4 none 72 (cfst (csnd (csnd b4))) ⟨s, []⟩ false H c = some ((.normal, ⟨s', []⟩), H', c', []) ∧
      H' = H ∧ c' = c ∧ Dom s' 72 ∧ s'.get 0 = some (.int .i64 a) ∧ s'.get 1 = some (.int .i64 b) ∧ s'.get 2 = some (.str v) ∧ s'.get 3 = some (.str w) ∧
      s'.get 9 = some (.str (tellT a v [] false)) ∧ s'.get 10 = some (.str (tellT b v [] false)) := by
  have hP : E0.P = Tryz.prog := rfl
  have hG : E0.G = fun _ => none := rfl
  have ta := fun (H : Heap Unit) c => tell_call (d := d) a v H c a0 a1 hv
  have tb := fun (H : Heap Unit) c => tell_call (d := d) b v H c b0 b1 hv
  simp (maxDischargeDepth := 100) [codeA, opsA, wantA, operA, evalA, plainOp, M.bind, M.pure, M.lift, T.get_set, envL, sz_22, sz_9, sz_23, sz_4, Tryz.underlying25, buildV, zt_25, sz_3, sz_9, sz_22, sz_23, sz_4, fillCells, structPlaces, splice, envs, AV.cells, oneAll, AV.one, P72, Dom.set, cfst, csnd, b4, Tryz.f4, hP, hd, g0, g1, g2, ta, tb]
  refine ⟨_, _, _, ⟨rfl, rfl, rfl⟩, rfl, rfl, ?_, ?_, ?_, ?_, ?_, ?_, ?_⟩
  · repeat (first | with_reducible exact hd | with_reducible apply Dom.set)
  all_goals simp [T.get_set, g0, g1, g2, g3]

theorem te_r4 {s : Slots} {H : Heap Unit} {c : Nat} {a b : Int} {v w p q : List UInt8} (hd : Dom s 72) (g0 : s.get 0 = some (.int .i64 a)) (g1 : s.get 1 = some (.int .i64 b)) (g2 : s.get 2 = some (.str v)) (g3 : s.get 3 = some (.str w))
    (g9 : s.get 9 = some (.str p)) (g10 : s.get 10 = some (.str q)) (hv : v.length ≤ 60) (hw : w.length ≤ 60) :
    ∃ s' H' c', codeA E0 (callA E0 O2 (d + 1)) 4 none 72 (cfst (csnd (csnd (csnd b4)))) ⟨s, []⟩ false H c = some ((.normal, ⟨s', []⟩), H', c', []) ∧
      H' = H ∧ c' = c ∧ Dom s' 72 ∧ s'.get 0 = some (.int .i64 a) ∧ s'.get 1 = some (.int .i64 b) ∧ s'.get 2 = some (.str v) ∧ s'.get 3 = some (.str w) ∧
      s'.get 9 = some (.str p) ∧ s'.get 10 = some (.str q) ∧ s'.get 11 = some (.str (tellT 0 v [] false)) ∧ s'.get 12 = some (.str (tellT 0 w [] false)) := by
  have hP : E0.P = Tryz.prog := rfl
  have hG : E0.G = fun _ => none := rfl
  have tv := fun (H : Heap Unit) c => tell_call (d := d) 0 v H c (by omega) (by omega) hv
  have tw := fun (H : Heap Unit) c => tell_call (d := d) 0 w H c (by omega) (by omega) hw
  simp (maxDischargeDepth := 100) [codeA, opsA, wantA, operA, evalA, plainOp, M.bind, M.pure, M.lift, T.get_set, envL, sz_22, sz_9, sz_23, sz_4, Tryz.underlying25, buildV, zt_25, sz_3, sz_9, sz_22, sz_23, sz_4, fillCells, structPlaces, splice, envs, AV.cells, oneAll, AV.one, P72, Dom.set, cfst, csnd, b4, Tryz.f4, hP, hd, g2, g3, tv, tw]
  refine ⟨_, _, _, ⟨rfl, rfl, rfl⟩, rfl, rfl, ?_, ?_, ?_, ?_, ?_, ?_, ?_, ?_, ?_⟩
  · repeat (first | with_reducible exact hd | with_reducible apply Dom.set)
  all_goals simp [T.get_set, g0, g1, g2, g3, g9, g10]

theorem te_r5 {s : Slots} {H : Heap Unit} {c : Nat} {a b : Int} {v w p q r u : List UInt8} (hd : Dom s 72) (g0 : s.get 0 = some (.int .i64 a)) (g1 : s.get 1 = some (.int .i64 b)) (g2 : s.get 2 = some (.str v)) (g3 : s.get 3 = some (.str w))
    (g9 : s.get 9 = some (.str p)) (g10 : s.get 10 = some (.str q)) (g11 : s.get 11 = some (.str r)) (g12 : s.get 12 = some (.str u)) (h1 : (p == q) = (a == b)) (h2 : (r == u) = (v == w)) :
    ∃ s' H' c', codeA E0 (callA E0 O2 (d + 1)) 4 none 72 (csnd (csnd (csnd (csnd b4)))) ⟨s, []⟩ false H c = some ((.ret, ⟨s', []⟩), H', c', []) ∧ s'.get 8 = some (.bool true) := by
  have hP : E0.P = Tryz.prog := rfl
  have hG : E0.G = fun _ => none := rfl
  simp (maxDischargeDepth := 100) [codeA, opsA, wantA, operA, evalA, plainOp, M.bind, M.pure, M.lift, T.get_set, bin, intBin, strBin, yieldA, eqBin, isBoolT, Tryz.underlying4, P72, Dom.set, csnd, b4, Tryz.f4, hP, hd, g0, g1, g2, g3, g9, g10, g11, g12, h1, h2]

end
end Go.Abs
