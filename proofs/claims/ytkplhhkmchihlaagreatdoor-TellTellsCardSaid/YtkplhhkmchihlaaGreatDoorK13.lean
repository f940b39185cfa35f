/- TellTells: every answer is told as the document says (the row's contract). -/
import Derived.Test.YtkplhhkmchihlaaGreatDoorK11
import Derived.Deep.SlicePairs
import Derived.Test.YtkplhhkmchihlaaGreatDoorCards
import Derived.WalkKit
import Derived.ProofKit
import Derived.OpenShut
import Derived.Carry
namespace Go.Abs
open Go Go.Proofs

section
variable {d : Nat} {n nd : Int} {v nx : List UInt8} {it : AV} {more : Bool} {l : List (List UInt8 × List UInt8)}

theorem TJ.grown {box : List AV} {s s' : Slots} {H : Heap Unit} {c : Nat} {bs bs' : List UInt8} {k u : List UInt8} (t : TJ box s H c bs) (hd : Dom s' 70) (h1 : s'.get 1 = some (.ptr 1 0 0)) (h3 : s'.get 3 = some (.str bs')) :
    TJ box s' ((H.set c (.arr 29 [[.str [], .str []]])).set c (.arr 29 [[.str k, .str u]])) (c + 1) bs' := by
  have hlc := t.lc
  refine ⟨hd, h1, h3, ?_, (t.fr.new _).set _ (by omega), by omega⟩
  rw [T.get_set, if_neg (by omega), T.get_set, if_neg (by omega)]; exact t.box

set_option maxHeartbeats 1000000 in
theorem tt_small {s : Slots} {H : Heap Unit} {c : Nat} {bs k u : List UInt8} {j : Nat} (t : TJ [.int .i64 n, .str v, it, .bool more, .str nx, .int .i64 nd] s H c bs)
    (g36 : s.get 36 = some (.isl ⟨2, 32⟩ (l.map itemE))) (g37 : s.get 37 = some (.int .i64 l.length)) (g38 : s.get 38 = some (.int .i64 j)) (hj : l[j]? = some (k, u)) (hl : bs.length ≤ 190000000100000) (hjs : j ≤ 1000000)
    (hk : ¬ (100 : Int) < (k.length : Int)) (hu : ¬ (100 : Int) < (u.length : Int)) :
    ∃ s' H' c', codeA E0 (callA E0 O3 (d + 1)) 3 none 70 L3 ⟨s, []⟩ false H c = some ((.normal, ⟨s', []⟩), H', c', []) ∧
      TJ [.int .i64 n, .str v, it, .bool more, .str nx, .int .i64 nd] s' H' c' (bs ++ itemT (k, u)) ∧ s'.get 36 = some (.isl ⟨2, 32⟩ (l.map itemE)) ∧ s'.get 37 = some (.int .i64 l.length) ∧ s'.get 38 = some (.int .i64 (j + 1 : Nat)) := by
  have hP : E0.P = Tryz.prog := rfl
  have hG : E0.G = fun _ => none := rfl
  have hd := t.dom
  have g1 := t.g1
  have g3 := t.g3
  have hlt : j < l.length := (List.getElem?_eq_some_iff.1 hj).1
  have hltb : decide (j < l.length) = true := decide_eq_true hlt
  have hm : (l.map itemE)[j]? = some [.str k, .str u] := by rw [List.getElem?_map, hj]; rfl
  have hw : IntKind.i64.wrap ((j : Int) + 1) = (j : Int) + 1 := by rw [IntKind.wrap_i64]; omega
  have hc1 : 1 + k.length ≤ 4611686018427387904 := by omega
  have hc2 : k.length + 1 + 1 ≤ 4611686018427387904 := by omega
  have hc3 : k.length + 1 + 1 + u.length ≤ 4611686018427387904 := by omega
  have hc3' : k.length + 1 + (u.length + 1) ≤ 4611686018427387904 := by omega
  have hc4 : bs.length + (k.length + (u.length + 1) + 1) ≤ 4611686018427387904 := by omega
  simp (maxDischargeDepth := 100) [codeA, opsA, wantA, operA, evalA, plainOp, M.bind, M.pure, M.lift, T.get_set, Dom.set, envL, fieldAt, loadP, M.rdC, readC, mkV, ofVal, ofCell, sz_9, ag_9, bin, intBin, strBin, yieldA, putN, Tryz.underlying9, Tryz.underlying23, builtinP, lenP, goI, AV.cells, oneAll, AV.one, storeP, M.wrC, writeC, splice, fo_i0, fo_i1, M.new, indexAt, asI, et_29, ag_29, sz_29, zt_29, P70, cfst, csnd, cblk, cloop, u3, x3, y3, z3, L3, b3, Tryz.f3, hP, hd, g3, g36, g37, g38, hltb, hm, hk, hu, hc1, hc2, hc3, hc4, hw]
  refine ⟨_, _, _, ⟨rfl, rfl, rfl⟩, t.grown ?_ ?_ ?_, ?_, ?_, ?_⟩
  · repeat (first | with_reducible exact hd | with_reducible apply Dom.set)
  · simp [T.get_set, g1]
  · simp [T.get_set, itemT]
  · simp [T.get_set, g36]
  · simp [T.get_set, g37]
  · simp []

theorem tt_big {s : Slots} {H : Heap Unit} {c : Nat} {bs k u : List UInt8} {j : Nat} (t : TJ [.int .i64 n, .str v, it, .bool more, .str nx, .int .i64 nd] s H c bs)
    (g36 : s.get 36 = some (.isl ⟨2, 32⟩ (l.map itemE))) (g37 : s.get 37 = some (.int .i64 l.length)) (g38 : s.get 38 = some (.int .i64 j)) (hj : l[j]? = some (k, u))
    (hk : (100 : Int) < (k.length : Int) ∨ (100 : Int) < (u.length : Int)) :
    ∃ s' H' c', codeA E0 (callA E0 O3 (d + 1)) 3 none 70 L3 ⟨s, []⟩ false H c = some ((.ret, ⟨s', []⟩), H', c', []) ∧ s'.get 2 = some (.bool true) := by
  have hP : E0.P = Tryz.prog := rfl
  have hG : E0.G = fun _ => none := rfl
  have hd := t.dom
  have g1 := t.g1
  have g3 := t.g3
  have hlt : j < l.length := (List.getElem?_eq_some_iff.1 hj).1
  have hltb : decide (j < l.length) = true := decide_eq_true hlt
  have hm : (l.map itemE)[j]? = some [.str k, .str u] := by rw [List.getElem?_map, hj]; rfl
  by_cases h1 : (100 : Int) < (k.length : Int)
  · simp (maxDischargeDepth := 100) [codeA, opsA, wantA, operA, evalA, plainOp, M.bind, M.pure, M.lift, T.get_set, Dom.set, envL, fieldAt, loadP, M.rdC, readC, mkV, ofVal, ofCell, sz_9, ag_9, bin, intBin, yieldA, putN, Tryz.underlying9, Tryz.underlying23, builtinP, lenP, goI, AV.cells, oneAll, AV.one, storeP, M.wrC, writeC, splice, fo_i0, M.new, indexAt, asI, et_29, ag_29, sz_29, zt_29, P70, cfst, csnd, cblk, cloop, u3, x3, y3, z3, L3, b3, Tryz.f3, hP, hd, g36, g37, g38, hltb, hm, h1]
  · have h2 := hk.resolve_left h1
    simp (maxDischargeDepth := 100) [codeA, opsA, wantA, operA, evalA, plainOp, M.bind, M.pure, M.lift, T.get_set, Dom.set, envL, fieldAt, loadP, M.rdC, readC, mkV, ofVal, ofCell, sz_9, ag_9, bin, intBin, yieldA, putN, Tryz.underlying9, Tryz.underlying23, builtinP, lenP, goI, AV.cells, oneAll, AV.one, storeP, M.wrC, writeC, splice, fo_i0, fo_i1, M.new, indexAt, asI, et_29, ag_29, sz_29, zt_29, P70, cfst, csnd, cblk, cloop, u3, x3, y3, z3, L3, b3, Tryz.f3, hP, hd, g36, g37, g38, hltb, hm, h1, h2]

theorem tt_out {s : Slots} {H : Heap Unit} {c : Nat} {bs : List UInt8} {j : Nat} (t : TJ [.int .i64 n, .str v, it, .bool more, .str nx, .int .i64 nd] s H c bs)
    (g37 : s.get 37 = some (.int .i64 j)) (g38 : s.get 38 = some (.int .i64 j)) :
    ∃ s', codeA E0 (callA E0 O3 (d + 1)) 3 none 70 L3 ⟨s, []⟩ false H c = some ((.exit 0, ⟨s', []⟩), H, c, []) ∧ TJ [.int .i64 n, .str v, it, .bool more, .str nx, .int .i64 nd] s' H c bs := by
  have hP : E0.P = Tryz.prog := rfl
  have hG : E0.G = fun _ => none := rfl
  have hd := t.dom
  have g1 := t.g1
  have g3 := t.g3
  simp (maxDischargeDepth := 100) [codeA, opsA, wantA, operA, evalA, plainOp, M.bind, M.pure, M.lift, bin, intBin, P70, cfst, csnd, cblk, cloop, u3, x3, y3, z3, L3, b3, Tryz.f3, hd, g37, g38]
  refine ⟨?_, ?_, ?_, t.box, t.fr, t.lc⟩
  · repeat (first | with_reducible exact hd | with_reducible apply Dom.set)
  all_goals simp [T.get_set, g1, g3]

theorem tt_loop : ∀ (k : Nat) {s : Slots} {H : Heap Unit} {c : Nat} {bs : List UInt8} {j f : Nat} (_ : l.length - j = k) (_ : j ≤ l.length) (_ : k < f) (_ : l.length ≤ 60)
    (_ : TJ [.int .i64 n, .str v, it, .bool more, .str nx, .int .i64 nd] s H c bs) (_ : s.get 36 = some (.isl ⟨2, 32⟩ (l.map itemE))) (_ : s.get 37 = some (.int .i64 l.length)) (_ : s.get 38 = some (.int .i64 j)) (_ : bs.length + 300 * k ≤ 190000000100000),
    ∃ e s' H' c', loopA (codeA E0 (callA E0 O3 (d + 1)) 3 none 70 L3) f ⟨s, []⟩ false H c = some ((e, ⟨s', []⟩), H', c', []) ∧
      ((e = .exit 0 ∧ TJ [.int .i64 n, .str v, it, .bool more, .str nx, .int .i64 nd] s' H' c' (bs ++ itemsT (l.drop j)) ∧ (itemsT (l.drop j)).length ≤ 300 * k) ∨ (e = .ret ∧ s'.get 2 = some (.bool true)))
  | 0, s, H, c, bs, j, f, h1, h2, h3, h4, t, g36, g37, g38, hb => by
    have hj : j = l.length := by omega
    subst hj
    obtain ⟨s', e1, t1⟩ := tt_out (d := d) t g37 g38
    obtain ⟨f, rfl⟩ : ∃ q, f = q + 1 := ⟨f - 1, by omega⟩
    refine ⟨.exit 0, s', H, c, ?_, .inl ⟨rfl, by simpa [itemsT] using t1, by simp [itemsT]⟩⟩
    simp [loopA, M.bind, e1, M.pure]
  | k + 1, s, H, c, bs, j, f, h1, h2, h3, h4, t, g36, g37, g38, hb => by
    have hlt : j < l.length := by omega
    have hj : l[j]? = some (l[j].1, l[j].2) := List.getElem?_eq_getElem hlt
    obtain ⟨f, rfl⟩ : ∃ q, f = q + 1 := ⟨f - 1, by omega⟩
    by_cases hbig : (100 : Int) < (l[j].1.length : Int) ∨ (100 : Int) < (l[j].2.length : Int)
    · obtain ⟨s', H', c', e1, g2⟩ := tt_big (d := d) t g36 g37 g38 hj hbig
      refine ⟨.ret, s', H', c', ?_, .inr ⟨rfl, g2⟩⟩
      simp [loopA, M.bind, e1, M.pure]
    · have hk : ¬ (100 : Int) < (l[j].1.length : Int) := fun h => hbig (.inl h)
      have hu : ¬ (100 : Int) < (l[j].2.length : Int) := fun h => hbig (.inr h)
      obtain ⟨s1, H1, c1, e1, t1, k36, k37, k38⟩ := tt_small (d := d) t g36 g37 g38 hj (by omega) (by omega) hk hu
      have hil : (itemT (l[j].1, l[j].2)).length ≤ 202 := by
        simp only [itemT, List.length_append, List.length_cons, List.length_nil]; omega
      obtain ⟨e, s', H', c', e2, hc⟩ := tt_loop k (f := f) (j := j + 1) (by omega) (by omega) (by omega) h4 t1 k36 k37 k38 (by rw [List.length_append]; omega)
      have hd : itemsT (l.drop j) = itemT (l[j].1, l[j].2) ++ itemsT (l.drop (j + 1)) := by rw [List.drop_eq_getElem_cons hlt]; simp only [itemsT, List.map_cons, List.flatten_cons]
      refine ⟨e, s', H', c', ?_, ?_⟩
      · simp [loopA, M.bind, e1, e2]
      · rcases hc with ⟨he, ht, hn⟩ | hr
        · refine .inl ⟨he, ?_, ?_⟩
          · rw [hd, ← List.append_assoc]; exact ht
          · rw [hd, List.length_append]; omega
        · exact .inr hr

theorem tt_run (hit : Its it l) (h1 : n ≤ 9223372036854775807) (hv : v.length ≤ 180000000000000) :
    ∃ H' c', callA E0 O3 (d + 2) (.fn (.func 3) [] []) [.agg [.int .i64 n, .str v, it, .bool more, .str nx, .int .i64 nd]] false (.leaf : Heap Unit) 1 = some (.bool true, H', c', []) := by
  have hP : E0.P = Tryz.prog := rfl
  have hG : E0.G = fun _ => none := rfl
  have hF : E0.fuel = 10000 := rfl
  have ho : oneAll [.int .i64 n, .str v, it, .bool more, .str nx, .int .i64 nd] = true := by
    have := hit.one
    simp only [oneAll, List.all_cons, List.all_nil, this]
    rfl
  have fin : ∀ {s' : Slots} {H' : Heap Unit} {c' : Nat}, codeA E0 (callA E0 O3 (d + 1)) 3 none 70 b3 ⟨slotsOf [.agg [.int .i64 n, .str v, it, .bool more, .str nx, .int .i64 nd]] 70, []⟩ false .leaf 1 = some ((.ret, ⟨s', []⟩), H', c', []) → s'.get 2 = some (.bool true) →
      ∃ H' c', callA E0 O3 (d + 2) (.fn (.func 3) [] []) [.agg [.int .i64 n, .str v, it, .bool more, .str nx, .int .i64 nd]] false (.leaf : Heap Unit) 1 = some (.bool true, H', c', []) := by
    intro s' H' c' hrun g2
    have hO : O3 3 = none := by simp [O3, O2, O1]
    have hb : Tryz.f3.body = some b3 := by simp [b3, Tryz.f3]
    have hnt : Tryz.f3.ntmps = 70 := Tryz.ntmps3
    have hres : Tryz.f3.results.toList = [.tmp 2] := by simp [Tryz.f3]
    have hf : E0.P.funcs[3]? = some Tryz.f3 := Tryz.func3
    refine ⟨H', c', ?_⟩
    simp only [callA, hO, List.nil_append, List.append_nil, bodyA, hf, hb, hnt, hres, List.length_cons, List.length_nil]
    simp only [Nat.zero_add, Nat.reduceLeDiff, if_true, M.bind, hrun]
    simp [M.bind, resultsA, resultA, M.lift, M.pure, packA, g2]
  have head : ∃ s1, codeA E0 (callA E0 O3 (d + 1)) 3 none 70 (cfst b3) ⟨slotsOf [.agg [.int .i64 n, .str v, it, .bool more, .str nx, .int .i64 nd]] 70, []⟩ false (.leaf : Heap Unit) 1 =
        some ((.normal, ⟨s1, []⟩), (T.leaf : Heap Unit).set 1 (.arr 25 [[.int .i64 n, .str v, it, .bool more, .str nx, .int .i64 nd]]), 2, []) ∧ Dom s1 70 ∧ s1.get 1 = some (.ptr 1 0 0) := by
    clear fin
    have hd : Dom (slotsOf [.agg [.int .i64 n, .str v, it, .bool more, .str nx, .int .i64 nd]] 70) 70 := Dom.slotsOf _ _ (by simp)
    have g0 : (slotsOf [.agg [.int .i64 n, .str v, it, .bool more, .str nx, .int .i64 nd]] 70).get 0 = some (.agg [.int .i64 n, .str v, it, .bool more, .str nx, .int .i64 nd]) := by
      unfold slotsOf
      rw [fillS_get]
      simp
    generalize slotsOf [.agg [.int .i64 n, .str v, it, .bool more, .str nx, .int .i64 nd]] 70 = s0 at *
    simp (maxDischargeDepth := 100) [codeA, opsA, wantA, operA, evalA, plainOp, M.bind, M.pure, M.lift, T.get_set, Dom.set, ofVal, ofCell, P70, cfst, b3, Tryz.f3, hd, g0, AV.cells, ho, M.new]
    repeat (first | with_reducible exact hd | with_reducible apply Dom.set)
  obtain ⟨s1, e1, d1, k1⟩ := head
  have hbox : ((T.leaf : Heap Unit).set 1 (.arr 25 [[.int .i64 n, .str v, it, .bool more, .str nx, .int .i64 nd]])).get 1 = some (.arr 25 [[.int .i64 n, .str v, it, .bool more, .str nx, .int .i64 nd]]) := by simp []
  have hfr : Fresh ((T.leaf : Heap Unit).set 1 (.arr 25 [[.int .i64 n, .str v, it, .bool more, .str nx, .int .i64 nd]])) 2 := fun q hq => by
    rw [T.get_set, if_neg (by omega)]; simp
  obtain ⟨e, s2, H2, c2, e2, rfl, rfl, d2, m1, hcase⟩ := tt_guard (d := d) hit d1 k1 hbox
  cases e with
  | exit i => exact hcase.elim
  | ret =>
    have hrun := seq_run e1 (seq_ret (b := .seq (cfst u3) (.seq (cfst x3) (.seq (cfst y3) (.seq (.seq (cfst (cfst z3)) (.block 0 (.loop L3))) (.seq (cfst w3) (csnd w3)))))) e2)
    rw [← b3_eq] at hrun
    exact fin hrun hcase
  | normal =>
    obtain ⟨hl60, h0⟩ := hcase
    obtain ⟨s3, e3, t3⟩ := tt_r3 (d := d) d2 m1 hbox hfr (by omega)
    have hi := Lib.itoa_length_le n (by omega) h1
    obtain ⟨s4, e4, t4⟩ := tt_err (d := d) t3 h0 h1 (by omega)
    have hb4 : (if n = 0 then [111, 107] else [101, 114, 114, 111, 114, 32] ++ Lib.itoa n : List UInt8).length ≤ 106 := by
      split
      · simp
      · simp; omega
    obtain ⟨s5, e5, t5⟩ := tt_val (d := d) t4 (by omega)
    have hb5 : (if v = [] then [] else 32 :: v : List UInt8).length ≤ v.length + 1 := by
      split
      · simp
      · simp
    have hd5 := t5.dom
    have g1 := t5.g1
    have g3 := t5.g3
    have hbx := t5.box
    have hlen := fun (H : Heap Unit) c => tt_len hit H c
    have r8 : ∃ s6, codeA E0 (callA E0 O3 (d + 1)) 3 none 70 (cfst (cfst z3)) ⟨s5, []⟩ false ((T.leaf : Heap Unit).set 1 (.arr 25 [[.int .i64 n, .str v, it, .bool more, .str nx, .int .i64 nd]])) 2 =
          some ((.normal, ⟨s6, []⟩), (T.leaf : Heap Unit).set 1 (.arr 25 [[.int .i64 n, .str v, it, .bool more, .str nx, .int .i64 nd]]), 2, []) ∧
        Dom s6 70 ∧ s6.get 1 = some (.ptr 1 0 0) ∧ s6.get 3 = s5.get 3 ∧ s6.get 36 = some it ∧ s6.get 37 = some (.int .i64 l.length) ∧ s6.get 38 = some (.int .i64 (0 : Nat)) := by
      clear fin e1 e2 e3 e4 e5
      simp (maxDischargeDepth := 100) [codeA, opsA, wantA, operA, evalA, plainOp, M.bind, M.pure, M.lift, T.get_set, Dom.set, envL, fieldAt, loadP, M.rdC, readC, mkV, ofVal, ofCell, fo_t2, sz_23, ag_23, builtinP, P70, cfst, csnd, u3, x3, y3, z3, b3, Tryz.f3, hP, hd5, g1, hbx, hlen]
      repeat (first | with_reducible exact hd5 | with_reducible apply Dom.set)
    obtain ⟨s6, e6, d6, n1, n3, n36, n37, n38⟩ := r8
    have t6 : TJ [.int .i64 n, .str v, it, .bool more, .str nx, .int .i64 nd] s6 ((T.leaf : Heap Unit).set 1 (.arr 25 [[.int .i64 n, .str v, it, .bool more, .str nx, .int .i64 nd]])) 2 _ := ⟨d6, n1, n3.trans g3, hbx, t5.fr, t5.lc⟩
    have lp : ∃ e s' H' c', loopA (codeA E0 (callA E0 O3 (d + 1)) 3 none 70 L3) 10000 ⟨s6, []⟩ false ((T.leaf : Heap Unit).set 1 (.arr 25 [[.int .i64 n, .str v, it, .bool more, .str nx, .int .i64 nd]])) 2 = some ((e, ⟨s', []⟩), H', c', []) ∧
        ((e = .exit 0 ∧ TJ [.int .i64 n, .str v, it, .bool more, .str nx, .int .i64 nd] s' H' c' (((if n = 0 then [111, 107] else [101, 114, 114, 111, 114, 32] ++ Lib.itoa n) ++ if v = [] then [] else 32 :: v) ++ itemsT l) ∧ (itemsT l).length ≤ 300 * 60) ∨ (e = .ret ∧ s'.get 2 = some (.bool true))) := by
      clear fin e1 e2 e3 e4 e5
      cases hit with
      | nils =>
        obtain ⟨s', q1, q2⟩ := tt_out (d := d) (j := 0) t6 n37 n38
        refine ⟨.exit 0, s', _, _, ?_, .inl ⟨rfl, by simpa [itemsT] using q2, by simp [itemsT]⟩⟩
        simp [loopA, M.bind, q1, M.pure]
      | zsl =>
        obtain ⟨s', q1, q2⟩ := tt_out (d := d) (j := 0) t6 n37 n38
        refine ⟨.exit 0, s', _, _, ?_, .inl ⟨rfl, by simpa [itemsT] using q2, by simp [itemsT]⟩⟩
        simp [loopA, M.bind, q1, M.pure]
      | isl l =>
        obtain ⟨e, s', H', c', q1, q2⟩ := tt_loop (d := d) l.length (j := 0) (f := 10000) (by omega) (by omega) (by omega) hl60 t6 n36 n37 n38 (by simp only [List.length_append]; omega)
        refine ⟨e, s', H', c', q1, ?_⟩
        rcases q2 with ⟨he, ht, hn⟩ | hr
        · exact .inl ⟨he, by simpa using ht, by simp only [List.drop_zero] at hn; omega⟩
        · exact .inr hr
    obtain ⟨e, s7, H7, c7, e7, hc7⟩ := lp
    rcases hc7 with ⟨rfl, t7, hil⟩ | ⟨rfl, g2⟩
    · have e7' : codeA E0 (callA E0 O3 (d + 1)) 3 none 70 (.seq (cfst (cfst z3)) (.block 0 (.loop L3))) ⟨s5, []⟩ false ((T.leaf : Heap Unit).set 1 (.arr 25 [[.int .i64 n, .str v, it, .bool more, .str nx, .int .i64 nd]])) 2 = some ((.normal, ⟨s7, []⟩), H7, c7, []) := by
        refine seq_run e6 ?_
        simp [codeA, M.bind, hF, e7, M.pure]
      obtain ⟨s8, e8, t8⟩ := tt_more (d := d) t7 (by simp only [List.length_append]; omega)
      obtain ⟨s9, e9, g2⟩ := tt_end (d := d) hit t8 h0 h1 (by omega) (by omega)
      have hrun := seq_run e1 (seq_run e2 (seq_run e3 (seq_run e4 (seq_run e5 (seq_run e7' (seq_run e8 e9))))))
      rw [← b3_eq] at hrun
      exact fin hrun g2
    · have e7' : codeA E0 (callA E0 O3 (d + 1)) 3 none 70 (.seq (cfst (cfst z3)) (.block 0 (.loop L3))) ⟨s5, []⟩ false ((T.leaf : Heap Unit).set 1 (.arr 25 [[.int .i64 n, .str v, it, .bool more, .str nx, .int .i64 nd]])) 2 = some ((.ret, ⟨s7, []⟩), H7, c7, []) := by
        refine seq_run e6 ?_
        simp [codeA, M.bind, hF, e7, M.pure]
      have hrun := seq_run e1 (seq_run e2 (seq_run e3 (seq_run e4 (seq_run e5 (seq_ret (b := .seq (cfst w3) (csnd w3)) e7')))))
      rw [← b3_eq] at hrun
      exact fin hrun g2
end
end Go.Abs

namespace Go.Abs
open Go Go.Proofs

set_option maxRecDepth 20000 in
/-- THE WALK: whatever the answer, TellTells returns true; what lay in the heap lies as it lay. -/
theorem tt_calls {n nd : Int} {sv nv : ByteArray} {more : Bool} {it : AV} {itv : Value} {l : List (List UInt8 × List UInt8)} {S : Nat → Prop} (W : World) (htab : ∃ t fr, W.heap[0]? = some (.cells (Lib.pow10Tab.map fun z => Value.int .u64 z).toArray t fr))
    (hS0 : S 0) (hSl : ∀ b, S b → b < W.heap.size) (hit : Its it l) (hv : VRel (fun _ => none) S W.heap it itv) (h1 : n ≤ 9223372036854775807) (hsv : sv.size ≤ 180000000000000) :
    Calls Tryz.prog 3 #[.agg #[.int .i64 n, .string sv, itv, .bool more, .string nv, .int .i64 nd]] W fun e W' => e = .returned (.bool true) ∧ W'.os = W.os ∧ W'.output = W.output ∧ W.heap.size ≤ W'.heap.size ∧ ∀ k, k < W.heap.size → W'.heap[k]? = W.heap[k]? := by
  obtain ⟨t, fr, h0⟩ := htab
  have hf := body_ok (E := E0) (R := R0) (call := callA E0 O3 1) hmix hnum (callA_ok hmix hnum O3_good (O3_ok (R := R0)) 1) (callA_good O3_good 1) 3
  have hlen : sv.data.toList.length ≤ 180000000000000 := by
    have : sv.data.toList.length = sv.size := by rw [Array.length_toList]; rfl
    omega
  obtain ⟨H', c', hrun⟩ := tt_run (d := 0) (n := n) (nd := nd) (nx := nv.data.toList) (more := more) hit h1 hlen
  have hO : O3 3 = none := by simp [O3, O2, O1]
  simp only [callA, hO, List.nil_append, List.append_nil] at hrun
  have hx : VRels (fun _ => none) S W.heap [.agg [.int .i64 n, .str sv.data.toList, it, .bool more, .str nv.data.toList, .int .i64 nd]] [.agg #[.int .i64 n, .string sv, itv, .bool more, .string nv, .int .i64 nd]] :=
    .cons (VRel.agg (vs := [.int .i64 n, .string sv, itv, .bool more, .string nv, .int .i64 nd]) (.cons (.int _ _) (.cons (.str sv) (.cons hv (.cons (.bool _) (.cons (.str nv) (.cons (.int _ _) .nil))))))) .nil
  have hraw : ∀ b cs, E0.raw b = some cs → S b ∧ ∃ t fr, W.heap[b]? = some (.cells cs t fr) := by
    intro b cs h
    have h' : raw0 b = some cs := h
    unfold raw0 at h'
    split at h'
    · rename_i e
      subst e
      simp only [Option.some.injEq] at h'
      subst h'
      exact ⟨hS0, t, fr, h0⟩
    · cases h'
  have hg : GOK E0 (fun _ => none) S W.heap := ⟨fun g a h => (by cases h), hraw⟩
  rcases hf hrun (HRel.leaf hSl) hg hx (fun _ _ _ => rfl) with ⟨_, h2⟩ | ⟨r, w', h1, _⟩
  · refine h2.mono fun e w' he => ?_
    cases e with
    | returned r =>
      obtain ⟨φ', F', S', q1, q2, q3, q4⟩ := he
      cases q1
      exact ⟨rfl, q3.os, q3.out, q3.st.size, fun k hk => q3.st.keep k hk id⟩
    | panicked => exact he.elim
    | outgrown => exact he.elim
  · exfalso
    have h5 : Tryz.prog.funcs[3]? = some Tryz.f3 := Tryz.func3
    have hname : ¬ Tryz.f3.name = "runtime.NumGoroutine" := by
      have : (Tryz.f3.name == "runtime.NumGoroutine") = false := by kernel_rfl
      simpa using this
    have hbody : Tryz.f3.body.isNone = false := by kernel_rfl
    have h6 : (callFunc 3 [Value.agg #[.int .i64 n, .string sv, itv, .bool more, .string nv, .int .i64 nd]].toArray).run Tryz.prog W = .ok (.value r) w' := h1
    generalize Tryz.f3 = fn at *
    have hb : ¬ fn.body = none := by intro e; rw [e] at hbody; simp at hbody
    simp [callFunc, h5, hname, hb] at h6

end Go.Abs
