/- rosary.Tell's loop, and the whole. -/
import Derived.Test.YtkplhhkmchihlaaGreatDoorK4
namespace Go.Abs
open Go Go.Proofs

def cblk : Code → Code
  | .block _ c => c
  | c => c
def cloop : Code → Code
  | .loop c => c
  | c => c

theorem putN (s : Slots) (v : AV) : putA s none v = s := rfl

noncomputable def L9 : Code := cloop (cblk (csnd q4))

theorem q4_eq : q4 = .seq (cfst q4) (.block 0 (.loop L9)) := by
  simp [L9, q4, r4, r3, b9, Tryz.f9, cfst, csnd, cblk, cloop]

theorem Bld.keep {H H' : Heap Unit} {n c : Nat} {buf : Option Nat} {bs : List UInt8} (h : Bld H n buf bs) (hf : Fresh H c) (hk : ∀ q, q < c → H'.get q = H.get q) : Bld H' n buf bs := by
  cases h with
  | fresh h => exact .fresh (by rw [hk _ (hf.lt h)]; exact h)
  | empty h => exact .empty (by rw [hk _ (hf.lt h)]; exact h)
  | row h hm hne h0 => exact .row (by rw [hk _ (hf.lt h)]; exact h) (by rw [hk _ (hf.lt hm)]; exact hm) hne h0

theorem wrap_nat (j : Nat) (h : j ≤ 9223372036854775807) : IntKind.i64.wrap (j : Int) = j := by rw [IntKind.wrap_i64]; omega

section
variable {d : Nat} {n : Int} {v : List UInt8} {it x y : AV} {more : Bool} {l : List (List UInt8 × List UInt8)}

set_option maxHeartbeats 1000000 in
theorem tell_round {s : Slots} {H : Heap Unit} {c : Nat} {buf : Option Nat} {bs : List UInt8} {j : Nat} {p : List UInt8 × List UInt8} (t : TI [.int .i64 n, .str v, it, .bool more, x, y] s H c buf bs)
    (g23 : s.get 23 = some (.isl ⟨2, 32⟩ (l.map itemE))) (g24 : s.get 24 = some (.int .i64 l.length)) (g25 : s.get 25 = some (.int .i64 j)) (hj : l[j]? = some p) (hl : bs.length + (itemT p).length ≤ 200000000000000) (hjs : j ≤ 1000000) :
    ∃ buf' s' H' c', codeA E0 (callA E0 O1 (d + 3)) 9 none 42 L9 ⟨s, []⟩ false H c = some ((.normal, ⟨s', []⟩), H', c', []) ∧
      TI [.int .i64 n, .str v, it, .bool more, x, y] s' H' c' buf' (bs ++ itemT p) ∧ s'.get 23 = some (.isl ⟨2, 32⟩ (l.map itemE)) ∧ s'.get 24 = some (.int .i64 l.length) ∧ s'.get 25 = some (.int .i64 (j + 1 : Nat)) := by
  have hP : E0.P = Tryz.prog := rfl
  have hG : E0.G = fun _ => none := rfl
  have hdm := t.dom
  have g1 := t.g1
  have g3 := t.g3
  obtain ⟨k, u⟩ := p
  have hlc := t.lc
  have hkeep : ∀ q, q < c → ((H.set c (.arr 29 [[.str [], .str []]])).set c (.arr 29 [[.str k, .str u]]) : Heap Unit).get q = H.get q := fun q hq => by
    rw [T.get_set, if_neg (by omega), T.get_set, if_neg (by omega)]
  have hf1 : Fresh ((H.set c (.arr 29 [[.str [], .str []]])).set c (.arr 29 [[.str k, .str u]]) : Heap Unit) (c + 1) := (t.fr.new _).set _ (by omega)
  simp only [itemT, List.length_append, List.length_cons, List.length_nil] at hl
  obtain ⟨H', c', buf', e1, w⟩ := ws_call (d := d) (s := itemT (k, u)) (t.bld.keep t.fr hkeep) hf1 (by omega) (by simp only [itemT, List.length_append, List.length_cons, List.length_nil]; omega)
  have hlt : j < l.length := (List.getElem?_eq_some_iff.1 hj).1
  have hltb : decide (j < l.length) = true := decide_eq_true hlt
  have hm : (l.map itemE)[j]? = some [.str k, .str u] := by rw [List.getElem?_map, hj]; rfl
  have hw : IntKind.i64.wrap ((j : Int) + 1) = (j : Int) + 1 := by rw [IntKind.wrap_i64]; omega
  have hc1 : 1 + k.length ≤ 4611686018427387904 := by omega
  have hc2 : 1 + k.length + 1 ≤ 4611686018427387904 := by omega
  have hc2' : k.length + 1 + 1 ≤ 4611686018427387904 := by omega
  have hc3 : 1 + k.length + 1 + u.length ≤ 4611686018427387904 := by omega
  have hc3' : k.length + 1 + 1 + u.length ≤ 4611686018427387904 := by omega
  have hc1' : k.length + 1 ≤ 4611686018427387904 := by omega
  refine ⟨buf', ?_⟩
  simp [itemT] at e1
  simp (maxDischargeDepth := 100) [codeA, opsA, wantA, operA, evalA, plainOp, M.bind, M.pure, M.lift, T.get_set, P42, Dom.set, envL, fieldAt, loadP, M.rdC, readC, mkV, ofVal, ofCell, sz_9, ag_9, bin, intBin, strBin, putN, L9, q4, r4, r3, cfst, csnd, cblk, cloop, b9, Tryz.f9, hP, hdm, g3, g23, g24, g25, hltb, indexAt, asI, Tryz.underlying23, et_29, hm, ag_29, sz_29, M.new, zt_29, storeP, AV.cells, oneAll, AV.one,
    M.wrC, writeC, splice, fo_i0, fo_i1, hc1, hc2', hc3', e1, hw]
  refine ⟨_, _, _, ⟨rfl, rfl, rfl⟩, ?_, ?_, ?_, ?_⟩
  · refine ⟨?_, ?_, ?_, ?_, w.bld, w.fresh hf1, ?_, ?_⟩
    · repeat (first | with_reducible exact hdm | with_reducible apply Dom.set)
    · simp [T.get_set, g1]
    · simp [T.get_set, g3]
    · rw [w.keep 1 (by omega) (fun e => by have := t.bf 1 e.symm; omega) (by omega), hkeep 1 (by omega)]; exact t.box
    · have := w.le; omega
    · intro m hm
      rcases w.new with e | ⟨m', e, hm'⟩
      · exact t.bf m (e ▸ hm)
      · rw [hm] at e; cases e; omega
  · simp [T.get_set, g23]
  · simp [T.get_set, g24]
  · simp []

theorem tell_out {s : Slots} {H : Heap Unit} {c : Nat} {buf : Option Nat} {bs : List UInt8} {j : Nat} (t : TI [.int .i64 n, .str v, it, .bool more, x, y] s H c buf bs)
    (g24 : s.get 24 = some (.int .i64 j)) (g25 : s.get 25 = some (.int .i64 j)) :
    ∃ s' H' c', codeA E0 (callA E0 O1 (d + 3)) 9 none 42 L9 ⟨s, []⟩ false H c = some ((.exit 0, ⟨s', []⟩), H', c', []) ∧ TI [.int .i64 n, .str v, it, .bool more, x, y] s' H' c' buf bs := by
  have hP : E0.P = Tryz.prog := rfl
  have hG : E0.G = fun _ => none := rfl
  have hdm := t.dom
  have g1 := t.g1
  have g3 := t.g3
  simp (maxDischargeDepth := 100) [codeA, opsA, wantA, operA, evalA, plainOp, M.bind, M.pure, M.lift, P42, bin, intBin, L9, q4, r4, r3, cfst, csnd, cblk, cloop, b9, Tryz.f9, hdm, g24, g25]
  refine ⟨_, _, _, ⟨rfl, rfl, rfl⟩, ?_⟩
  refine t.slots ?_ ?_ ?_
  · repeat (first | with_reducible exact hdm | with_reducible apply Dom.set)
  · simp [T.get_set, g1]
  · simp [T.get_set, g3]

def itemsT (l : List (List UInt8 × List UInt8)) : List UInt8 := (l.map itemT).flatten

theorem tell_loop : ∀ (k : Nat) {s : Slots} {H : Heap Unit} {c : Nat} {buf : Option Nat} {bs : List UInt8} {j f : Nat} (_ : l.length - j = k) (_ : j ≤ l.length) (_ : k < f) (_ : l.length ≤ 1000000)
    (_ : TI [.int .i64 n, .str v, it, .bool more, x, y] s H c buf bs) (_ : s.get 23 = some (.isl ⟨2, 32⟩ (l.map itemE))) (_ : s.get 24 = some (.int .i64 l.length)) (_ : s.get 25 = some (.int .i64 j)) (_ : bs.length + (itemsT (l.drop j)).length ≤ 200000000000000),
    ∃ buf' s' H' c', loopA (codeA E0 (callA E0 O1 (d + 3)) 9 none 42 L9) f ⟨s, []⟩ false H c = some ((.exit 0, ⟨s', []⟩), H', c', []) ∧ TI [.int .i64 n, .str v, it, .bool more, x, y] s' H' c' buf' (bs ++ itemsT (l.drop j))
  | 0, s, H, c, buf, bs, j, f, h1, h2, h3, h4, t, g23, g24, g25, hb => by
    have hj : j = l.length := by omega
    subst hj
    obtain ⟨s', H', c', e1, t1⟩ := tell_out (d := d) t g24 g25
    obtain ⟨f, rfl⟩ : ∃ q, f = q + 1 := ⟨f - 1, by omega⟩
    refine ⟨buf, s', H', c', ?_, by simpa [itemsT] using t1⟩
    simp [loopA, M.bind, e1, M.pure]
  | k + 1, s, H, c, buf, bs, j, f, h1, h2, h3, h4, t, g23, g24, g25, hb => by
    have hlt : j < l.length := by omega
    have hj : l[j]? = some l[j] := List.getElem?_eq_getElem hlt
    have hd : itemsT (l.drop j) = itemT l[j] ++ itemsT (l.drop (j + 1)) := by rw [List.drop_eq_getElem_cons hlt]; simp only [itemsT, List.map_cons, List.flatten_cons]
    rw [hd, List.length_append] at hb
    obtain ⟨buf1, s1, H1, c1, e1, t1, k23, k24, k25⟩ := tell_round (d := d) t g23 g24 g25 hj (by omega) (by omega)
    obtain ⟨f, rfl⟩ : ∃ q, f = q + 1 := ⟨f - 1, by omega⟩
    obtain ⟨buf', s', H', c', e2, t2⟩ := tell_loop k (f := f) (j := j + 1) (by omega) (by omega) (by omega) h4 t1 k23 k24 k25 (by rw [List.length_append]; omega)
    refine ⟨buf', s', H', c', ?_, by rw [hd, ← List.append_assoc]; exact t2⟩
    simp [loopA, M.bind, e1, e2]

theorem tell_items {s : Slots} {H : Heap Unit} {c : Nat} {buf : Option Nat} {bs : List UInt8} (hit : Its it l) (t : TI [.int .i64 n, .str v, it, .bool more, x, y] s H c buf bs) (hb : bs.length + (itemsT l).length ≤ 200000000000000) (hl : l.length ≤ 9000) :
    ∃ buf' s' H' c', codeA E0 (callA E0 O1 (d + 3)) 9 none 42 q4 ⟨s, []⟩ false H c = some ((.normal, ⟨s', []⟩), H', c', []) ∧
      TI [.int .i64 n, .str v, it, .bool more, x, y] s' H' c' buf' (bs ++ itemsT l) := by
  have hP : E0.P = Tryz.prog := rfl
  have hG : E0.G = fun _ => none := rfl
  have hF : E0.fuel = 10000 := rfl
  have hdm := t.dom
  have g1 := t.g1
  have g3 := t.g3
  have hbx := t.box
  have fin : ∀ (s1 : Slots), codeA E0 (callA E0 O1 (d + 3)) 9 none 42 (cfst q4) ⟨s, []⟩ false H c = some ((.normal, ⟨s1, []⟩), H, c, []) → TI [.int .i64 n, .str v, it, .bool more, x, y] s1 H c buf bs →
      (∃ buf' s' H' c', loopA (codeA E0 (callA E0 O1 (d + 3)) 9 none 42 L9) 10000 ⟨s1, []⟩ false H c = some ((.exit 0, ⟨s', []⟩), H', c', []) ∧ TI [.int .i64 n, .str v, it, .bool more, x, y] s' H' c' buf' (bs ++ itemsT l)) →
      ∃ buf' s' H' c', codeA E0 (callA E0 O1 (d + 3)) 9 none 42 q4 ⟨s, []⟩ false H c = some ((.normal, ⟨s', []⟩), H', c', []) ∧ TI [.int .i64 n, .str v, it, .bool more, x, y] s' H' c' buf' (bs ++ itemsT l) := by
    rintro s1 e1 t1 ⟨buf', s', H', c', e2, t2⟩
    refine ⟨buf', s', H', c', ?_, t2⟩
    rw [q4_eq]
    simp [codeA, M.bind, e1, hF, e2, M.pure]
  have t1 : ∀ s1 : Slots, Dom s1 42 → s1.get 1 = some (.ptr 1 0 0) → s1.get 3 = some (.ptr 2 0 0) → TI [.int .i64 n, .str v, it, .bool more, x, y] s1 H c buf bs := fun s1 a b e => t.slots a b e
  have head : ∃ s1, codeA E0 (callA E0 O1 (d + 3)) 9 none 42 (cfst q4) ⟨s, []⟩ false H c = some ((.normal, ⟨s1, []⟩), H, c, []) ∧ Dom s1 42 ∧ s1.get 1 = some (.ptr 1 0 0) ∧ s1.get 3 = some (.ptr 2 0 0) ∧
      s1.get 23 = some it ∧ s1.get 24 = some (.int .i64 l.length) ∧ s1.get 25 = some (.int .i64 (0 : Nat)) := by
    cases hit with
    | nils =>
      simp (maxDischargeDepth := 100) [codeA, opsA, wantA, operA, evalA, plainOp, M.bind, M.pure, M.lift, T.get_set, P42, Dom.set, envL, fieldAt, loadP, M.rdC, readC, mkV, ofVal, ofCell, fo_t2, sz_23, ag_23, q4, r4, r3, cfst, csnd, b9, Tryz.f9, hP, hdm, g1, g3, hbx, builtinP, lenP, Tryz.underlying23, goI]
      repeat (first | with_reducible exact hdm | with_reducible apply Dom.set)
    | zsl =>
      simp (maxDischargeDepth := 100) [codeA, opsA, wantA, operA, evalA, plainOp, M.bind, M.pure, M.lift, T.get_set, P42, Dom.set, envL, fieldAt, loadP, M.rdC, readC, mkV, ofVal, ofCell, fo_t2, sz_23, ag_23, q4, r4, r3, cfst, csnd, b9, Tryz.f9, hP, hdm, g1, g3, hbx, builtinP, lenP, Tryz.underlying23, goI]
      repeat (first | with_reducible exact hdm | with_reducible apply Dom.set)
    | isl l =>
      simp (maxDischargeDepth := 100) [codeA, opsA, wantA, operA, evalA, plainOp, M.bind, M.pure, M.lift, T.get_set, P42, Dom.set, envL, fieldAt, loadP, M.rdC, readC, mkV, ofVal, ofCell, fo_t2, sz_23, ag_23, q4, r4, r3, cfst, csnd, b9, Tryz.f9, hP, hdm, g1, g3, hbx, builtinP, lenP, Tryz.underlying23, goI]
      repeat (first | with_reducible exact hdm | with_reducible apply Dom.set)
  obtain ⟨s1, e1, d1, k1, k3, k23, k24, k25⟩ := head
  refine fin s1 e1 (t1 s1 d1 k1 k3) ?_
  cases hit with
  | nils =>
    obtain ⟨s', H', c', e2, t2⟩ := tell_out (d := d) (j := 0) (t1 s1 d1 k1 k3) k24 k25
    exact ⟨buf, s', H', c', by simp [loopA, M.bind, e2, M.pure], by simpa [itemsT] using t2⟩
  | zsl =>
    obtain ⟨s', H', c', e2, t2⟩ := tell_out (d := d) (j := 0) (t1 s1 d1 k1 k3) k24 k25
    exact ⟨buf, s', H', c', by simp [loopA, M.bind, e2, M.pure], by simpa [itemsT] using t2⟩
  | isl l =>
    have := tell_loop (d := d) l.length (j := 0) (f := 10000) (by omega) (by omega) (by omega) (by omega) (t1 s1 d1 k1 k3) k23 k24 k25 (by simpa using hb)
    simpa using this
end
end Go.Abs
