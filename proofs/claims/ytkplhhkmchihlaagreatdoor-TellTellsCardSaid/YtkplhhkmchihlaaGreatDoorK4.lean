/- rosary.Tell, run. -/
import Derived.Test.YtkplhhkmchihlaaGreatDoorK3
namespace Go.Abs
open Go Go.Proofs

def cfst : Code → Code
  | .seq a _ => a
  | c => c
def csnd : Code → Code
  | .seq _ b => b
  | c => c

/-- All places are there. -/
def Dom (s : Slots) (n : Nat) : Prop := ∀ i, i < n → (s.get i).isSome = true

theorem Dom.set {s : Slots} {n : Nat} (h : Dom s n) (d : Nat) (v : AV) : Dom (s.set d v) n := fun i hi => by
  rw [T.get_set]; split
  · rfl
  · exact h i hi

theorem Dom.put {s : Slots} {n d : Nat} {v : AV} (h : Dom s n) (hd : d < n) : putA s (some d) v = s.set d v := by
  have := h d hd
  unfold putA
  cases hg : s.get d with
  | none => rw [hg] at this; cases this
  | some _ => simp only [hg]

theorem P42 {s : Slots} {d : Nat} {v : AV} (h : Dom s 42) (hd : d < 42) : putA s (some d) v = s.set d v := h.put hd

theorem Dom.slotsOf (xs : List AV) (n : Nat) (h : xs.length ≤ n) : Dom (slotsOf xs n) n := fun i hi => by
  unfold Abs.slotsOf
  rw [fillS_get]
  have hl : (xs ++ List.replicate (n - xs.length) AV.undef).length = n := by simp; omega
  rw [if_neg (by omega), if_pos (by rw [hl]; omega)]
  simp only [Nat.sub_zero]
  rw [List.getElem?_eq_getElem (by rw [hl]; omega)]
  rfl

theorem fo_t0 : fieldOff Tryz.prog 25 0 = some (22, 0) := by decide +kernel
theorem fo_t1 : fieldOff Tryz.prog 25 1 = some (9, 1) := by decide +kernel
theorem fo_t2 : fieldOff Tryz.prog 25 2 = some (23, 2) := by decide +kernel
theorem fo_t3 : fieldOff Tryz.prog 25 3 = some (4, 3) := by decide +kernel
theorem fo_i0 : fieldOff Tryz.prog 29 0 = some (9, 0) := by decide +kernel
theorem fo_i1 : fieldOff Tryz.prog 29 1 = some (9, 1) := by decide +kernel
theorem sz_22 : sizeT Tryz.prog 22 = some 1 := by decide +kernel
theorem sz_9 : sizeT Tryz.prog 9 = some 1 := by decide +kernel
theorem sz_23 : sizeT Tryz.prog 23 = some 1 := by decide +kernel
theorem sz_4 : sizeT Tryz.prog 4 = some 1 := by decide +kernel
theorem sz_25 : sizeT Tryz.prog 25 = some 6 := by decide +kernel
theorem sz_29 : sizeT Tryz.prog 29 = some 2 := by decide +kernel
theorem ag_22 : aggT Tryz.prog 22 = some false := by decide +kernel
theorem ag_9 : aggT Tryz.prog 9 = some false := by decide +kernel
theorem ag_23 : aggT Tryz.prog 23 = some false := by decide +kernel
theorem ag_4 : aggT Tryz.prog 4 = some false := by decide +kernel
theorem ag_29 : aggT Tryz.prog 29 = some true := by decide +kernel
theorem et_29 : elemT Tryz.prog 29 = some ⟨2, 32⟩ := by decide +kernel
theorem zt_54 : zeroT Tryz.prog 54 = some [.nilp, .nils] := by kernel_rfl
theorem zt_29 : zeroT Tryz.prog 29 = some [.str [], .str []] := by kernel_rfl

noncomputable def b9 : Code := Tryz.f9.body.getD .skip

/-- What a call of WriteString comes to. -/
theorem ws_call {d n c : Nat} {H : Heap Unit} {buf : Option Nat} {bs s : List UInt8} (h : Bld H n buf bs) (hf : Fresh H c) (hn : n < c) (hb : bs.length + s.length + (bs.length + s.length) / 4 + 1024 ≤ 281474976710656) :
    ∃ H' c' buf', callA E0 O1 (d + 3) (.fn (.func 18) [] []) [.ptr n 0 0, .str s] false H c = some (.tup [.int .i64 s.length, .nili], H', c', []) ∧ Wrote H c n buf (bs ++ s) H' c' buf' := by
  obtain ⟨H', c', buf', h1, h2⟩ := ws_run (E := E0) (O := O1) (d := d + 1) rfl (by simp [O1]) (fun x H c => by simp [callA, O1, noEsc, M.pure]) h hf hn hb
  refine ⟨H', c', buf', ?_, h2⟩
  rw [← h1]
  simp [callA, O1]

/-- Where Tell stands: the answer's box is 1, the builder 2. -/
structure TI (box : List AV) (s : Slots) (H : Heap Unit) (c : Nat) (buf : Option Nat) (bs : List UInt8) : Prop where
  dom : Dom s 42
  g1 : s.get 1 = some (.ptr 1 0 0)
  g3 : s.get 3 = some (.ptr 2 0 0)
  box : H.get 1 = some (.arr 25 [box])
  bld : Bld H 2 buf bs
  fr : Fresh H c
  lc : 3 ≤ c
  bf : ∀ m, buf = some m → 3 ≤ m

theorem TI.wrote {box : List AV} {s s' : Slots} {H H' : Heap Unit} {c c' : Nat} {buf buf' : Option Nat} {bs bs' : List UInt8} (t : TI box s H c buf bs) (w : Wrote H c 2 buf bs' H' c' buf') (hd : Dom s' 42) (h1 : s'.get 1 = some (.ptr 1 0 0)) (h3 : s'.get 3 = some (.ptr 2 0 0)) :
    TI box s' H' c' buf' bs' := by
  refine ⟨hd, h1, h3, ?_, w.bld, w.fresh t.fr, Nat.le_trans t.lc w.le, ?_⟩
  · rw [w.keep 1 (by omega) (fun e => by have := t.bf 1 e.symm; omega) (by have := t.lc; omega)]; exact t.box
  · intro m hm
    rcases w.new with e | ⟨m', e, hm'⟩
    · exact t.bf m (e ▸ hm)
    · rw [hm] at e; cases e; have := t.lc; omega

theorem TI.slots {box : List AV} {s s' : Slots} {H : Heap Unit} {c : Nat} {buf : Option Nat} {bs : List UInt8} (t : TI box s H c buf bs) (hd : Dom s' 42) (h1 : s'.get 1 = some (.ptr 1 0 0)) (h3 : s'.get 3 = some (.ptr 2 0 0)) :
    TI box s' H c buf bs := ⟨hd, h1, h3, t.box, t.bld, t.fr, t.lc, t.bf⟩

/-- What one item is told as. -/
def itemT (p : List UInt8 × List UInt8) : List UInt8 := [32] ++ p.1 ++ [61] ++ p.2
def itemE (p : List UInt8 × List UInt8) : List AV := [.str p.1, .str p.2]

/-- A slice of items. -/
inductive Its : AV → List (List UInt8 × List UInt8) → Prop
  | nils : Its .nils []
  | zsl : Its .zsl []
  | isl (l : List (List UInt8 × List UInt8)) : Its (.isl ⟨2, 32⟩ (l.map itemE)) l

noncomputable def q2 : Code := cfst (csnd (csnd b9))
noncomputable def r3 : Code := csnd (csnd (csnd b9))
noncomputable def q3 : Code := cfst r3
noncomputable def r4 : Code := csnd r3
noncomputable def q4 : Code := cfst r4
noncomputable def r5 : Code := csnd r4
noncomputable def q5 : Code := cfst r5
noncomputable def q6 : Code := csnd r5

section
variable {d : Nat} {n : Int} {v : List UInt8} {it x y : AV} {more : Bool}

theorem tell_head {s : Slots} {H : Heap Unit} {c : Nat} (t : TI [.int .i64 n, .str v, it, .bool more, x, y] s H c none []) (h0 : 0 ≤ n) (h1 : n ≤ 9223372036854775807) (hl : (Lib.itoa n).length ≤ 100) :
    ∃ buf' s' H' c', codeA E0 (callA E0 O1 (d + 3)) 9 none 42 q2 ⟨s, []⟩ false H c = some ((.normal, ⟨s', []⟩), H', c', []) ∧
      TI [.int .i64 n, .str v, it, .bool more, x, y] s' H' c' buf' (if n = 0 then [111, 107] else [101, 114, 114, 111, 114, 32] ++ Lib.itoa n) := by
  have hP : E0.P = Tryz.prog := rfl
  have hG : E0.G = fun _ => none := rfl
  have hdm := t.dom
  have g1 := t.g1
  have g3 := t.g3
  have hb := t.box
  by_cases hn : n = 0
  · subst hn
    obtain ⟨H', c', buf', e1, w⟩ := ws_call (d := d) (s := [111, 107]) t.bld t.fr (by have := t.lc; omega) (by simp)
    refine ⟨buf', ?_⟩
    simp (maxDischargeDepth := 100) [codeA, opsA, wantA, operA, evalA, plainOp, M.bind, M.pure, M.lift, T.get_set, P42, Dom.set, envL, fieldAt, loadP, M.rdC, readC, mkV, ofVal, ofCell, fo_t0, sz_22, ag_22, bin, intBin, q2, cfst, csnd, b9, Tryz.f9, hP, hdm, g1, g3, hb, e1]
    refine ⟨_, _, _, ⟨rfl, rfl, rfl⟩, ?_⟩
    refine t.wrote w ?_ ?_ ?_
    · repeat (first | with_reducible exact hdm | with_reducible apply Dom.set)
    · simp [T.get_set, g1]
    · simp [T.get_set, g3]
  · have ei : callA E0 O1 (d + 3) (.fn (.func 19) [] []) [.int .i64 n] false H c = some (.str (Lib.itoa n), H, c, []) := by
      have : -9223372036854775808 ≤ n := by omega
      simp [callA, O1, itoaA, h1, this, M.pure]
    obtain ⟨H', c', buf', e1, w⟩ := ws_call (d := d) (s := [101, 114, 114, 111, 114, 32] ++ Lib.itoa n) t.bld t.fr (by have := t.lc; omega) (by simp; omega)
    have hlen : (Lib.itoa n).length + 6 ≤ 4611686018427387904 := by omega
    have hlen' : 6 + (Lib.itoa n).length ≤ 4611686018427387904 := by omega
    have hnb : (n == 0) = false := by simp [hn]
    rw [if_neg hn]
    refine ⟨buf', ?_⟩
    simp at e1
    simp (maxDischargeDepth := 100) [codeA, opsA, wantA, operA, evalA, plainOp, M.bind, M.pure, M.lift, T.get_set, P42, Dom.set, envL, fieldAt, loadP, M.rdC, readC, mkV, ofVal, ofCell, fo_t0, sz_22, ag_22, bin, intBin, strBin, q2, cfst, csnd, b9, Tryz.f9, hP, hdm, g1, g3, hb, e1, ei, hnb, hlen']
    refine ⟨_, _, _, ⟨rfl, rfl, rfl⟩, ?_⟩
    refine t.wrote (by simpa using w) ?_ ?_ ?_
    · repeat (first | with_reducible exact hdm | with_reducible apply Dom.set)
    · simp [T.get_set, g1]
    · simp [T.get_set, g3]

theorem tell_value {s : Slots} {H : Heap Unit} {c : Nat} {buf : Option Nat} {bs : List UInt8} (t : TI [.int .i64 n, .str v, it, .bool more, x, y] s H c buf bs) (hl : bs.length + v.length ≤ 200000000000000) :
    ∃ buf' s' H' c', codeA E0 (callA E0 O1 (d + 3)) 9 none 42 q3 ⟨s, []⟩ false H c = some ((.normal, ⟨s', []⟩), H', c', []) ∧
      TI [.int .i64 n, .str v, it, .bool more, x, y] s' H' c' buf' (bs ++ if v = [] then [] else 32 :: v) := by
  have hP : E0.P = Tryz.prog := rfl
  have hG : E0.G = fun _ => none := rfl
  have hdm := t.dom
  have g1 := t.g1
  have g3 := t.g3
  have hb := t.box
  by_cases hn : v = []
  · subst hn
    refine ⟨buf, ?_⟩
    simp (maxDischargeDepth := 100) [codeA, opsA, wantA, operA, evalA, plainOp, M.bind, M.pure, M.lift, P42, Dom.set, fieldAt, loadP, M.rdC, readC, mkV, ofVal, ofCell, fo_t1, sz_9, ag_9, bin, strBin, q3, r3, cfst, csnd, b9, Tryz.f9, hP, hdm, g1, hb]
    refine ⟨_, _, _, ⟨rfl, rfl, rfl⟩, ?_⟩
    refine t.slots ?_ ?_ ?_
    · repeat (first | with_reducible exact hdm | with_reducible apply Dom.set)
    · simp [T.get_set, g1]
    · simp [T.get_set, g3]
  · obtain ⟨H', c', buf', e1, w⟩ := ws_call (d := d) (s := 32 :: v) t.bld t.fr (by have := t.lc; omega) (by simp; omega)
    have hlen : 1 + v.length ≤ 4611686018427387904 := by omega
    have hnb : (v == []) = false := by cases v with
      | nil => exact absurd rfl hn
      | cons => rfl
    rw [if_neg hn]
    refine ⟨buf', ?_⟩
    simp at e1
    simp (maxDischargeDepth := 100) [codeA, opsA, wantA, operA, evalA, plainOp, M.bind, M.pure, M.lift, T.get_set, P42, Dom.set, envL, fieldAt, loadP, M.rdC, readC, mkV, ofVal, ofCell, fo_t1, sz_9, ag_9, bin, strBin, q3, r3, cfst, csnd, b9, Tryz.f9, hP, hdm, g1, g3, hb, e1, hnb, hlen]
    refine ⟨_, _, _, ⟨rfl, rfl, rfl⟩, ?_⟩
    refine t.wrote w ?_ ?_ ?_
    · repeat (first | with_reducible exact hdm | with_reducible apply Dom.set)
    · simp [T.get_set, g1]
    · simp [T.get_set, g3]

theorem tell_more {s : Slots} {H : Heap Unit} {c : Nat} {buf : Option Nat} {bs : List UInt8} (t : TI [.int .i64 n, .str v, it, .bool more, x, y] s H c buf bs) (hl : bs.length ≤ 200000000000000) :
    ∃ buf' s' H' c', codeA E0 (callA E0 O1 (d + 3)) 9 none 42 q5 ⟨s, []⟩ false H c = some ((.normal, ⟨s', []⟩), H', c', []) ∧
      TI [.int .i64 n, .str v, it, .bool more, x, y] s' H' c' buf' (bs ++ if more then [32, 109, 111, 114, 101] else []) := by
  have hP : E0.P = Tryz.prog := rfl
  have hG : E0.G = fun _ => none := rfl
  have hdm := t.dom
  have g1 := t.g1
  have g3 := t.g3
  have hb := t.box
  cases more with
  | false =>
    refine ⟨buf, ?_⟩
    simp (maxDischargeDepth := 100) [codeA, opsA, wantA, operA, evalA, plainOp, M.bind, M.pure, M.lift, P42, Dom.set, fieldAt, loadP, M.rdC, readC, mkV, fo_t3, sz_4, ag_4, q5, r5, r4, r3, cfst, csnd, b9, Tryz.f9, hP, hdm, g1, hb]
    refine ⟨_, _, _, ⟨rfl, rfl, rfl⟩, ?_⟩
    refine t.slots ?_ ?_ ?_
    · repeat (first | with_reducible exact hdm | with_reducible apply Dom.set)
    · simp [T.get_set, g1]
    · simp [T.get_set, g3]
  | true =>
    obtain ⟨H', c', buf', e1, w⟩ := ws_call (d := d) (s := [32, 109, 111, 114, 101]) t.bld t.fr (by have := t.lc; omega) (by simp; omega)
    refine ⟨buf', ?_⟩
    simp at e1
    simp (maxDischargeDepth := 100) [codeA, opsA, wantA, operA, evalA, plainOp, M.bind, M.pure, M.lift, T.get_set, P42, Dom.set, envL, fieldAt, loadP, M.rdC, readC, mkV, ofVal, ofCell, fo_t3, sz_4, ag_4, q5, r5, r4, r3, cfst, csnd, b9, Tryz.f9, hP, hdm, g1, g3, hb, e1]
    refine ⟨_, _, _, ⟨rfl, rfl, rfl⟩, ?_⟩
    refine t.wrote w ?_ ?_ ?_
    · repeat (first | with_reducible exact hdm | with_reducible apply Dom.set)
    · simp [T.get_set, g1]
    · simp [T.get_set, g3]

theorem tell_end {s : Slots} {H : Heap Unit} {c : Nat} {buf : Option Nat} {bs : List UInt8} (t : TI [.int .i64 n, .str v, it, .bool more, x, y] s H c buf bs) (hl : bs.length ≤ 200000000000000) :
    ∃ s' H' c', codeA E0 (callA E0 O1 (d + 3)) 9 none 42 q6 ⟨s, []⟩ false H c = some ((.ret, ⟨s', []⟩), H', c', []) ∧ s'.get 2 = some (.str bs) := by
  have hP : E0.P = Tryz.prog := rfl
  have hG : E0.G = fun _ => none := rfl
  have hdm := t.dom
  have g1 := t.g1
  have g3 := t.g3
  obtain ⟨H', e1, _, _⟩ := str_run (c := c) (E := E0) (call := callA E0 O1 (d + 2)) rfl t.bld (by omega)
  have e2 : callA E0 O1 (d + 3) (.fn (.func 20) [] []) [.ptr 2 0 0] false H c = some (.str bs, H', c, []) := by
    rw [← e1]; simp [callA, O1]
  simp (maxDischargeDepth := 100) [codeA, opsA, wantA, operA, evalA, plainOp, M.bind, M.pure, M.lift, P42, Dom.set, envL, q6, r5, r4, r3, csnd, b9, Tryz.f9, hdm, g3, e2]
end
end Go.Abs
