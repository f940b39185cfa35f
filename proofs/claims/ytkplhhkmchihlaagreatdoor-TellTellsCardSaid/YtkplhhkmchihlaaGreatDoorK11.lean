/- The law TellTells, run. -/
import Derived.Test.YtkplhhkmchihlaaGreatDoorK10
namespace Go.Abs
open Go Go.Proofs

theorem P70 {s : Slots} {d : Nat} {v : AV} (h : Dom s 70) (hd : d < 70) : putA s (some d) v = s.set d v := h.put hd
theorem ag_25 : aggT Tryz.prog 25 = some true := by decide +kernel

def digS : List AV → Option AV
  | [.int .i64 n] => if 0 ≤ n ∧ n ≤ 9223372036854775807 then some (.str (Lib.itoa n)) else none
  | _ => none

theorem dig_ok {R : Rep Unit} : FuncOK R E0 8 fun xs => M.lift (digS xs) := by
  refine FuncOK.pure (callA_func (E := E0) hmix hnum O2_good O2_ok 0 8 (by simp [O2, O1])) (fun g a h => by cases h) digS ?_
  intro xs r h
  unfold digS at h
  split at h
  · rename_i n
    split at h
    · rename_i hn
      simp only [Option.some.injEq] at h
      subst h
      obtain ⟨H', c', hrun⟩ := dg_run (O := O2) (by simp [O2, O1]) (d := 0) n hn.1 hn.2
      exact ⟨rfl, rfl, false, 1, H', c', [], hrun⟩
    · cases h
  · cases h

def O3 (f : FuncId) : Option (List AV → M Unit AV) := if f = 8 then some (fun xs => M.lift (digS xs)) else O2 f

theorem O3_good : ∀ f m, O3 f = some m → ∀ xs, Good (m xs) := by
  intro f m h xs
  unfold O3 at h
  split at h
  · simp at h; subst h; exact Good.lift _
  · exact O2_good f m h xs

theorem O3_ok {R : Rep Unit} : ∀ f m, O3 f = some m → FuncOK R E0 f m := by
  intro f m h
  unfold O3 at h
  split at h
  · rename_i e; simp at h; subst h; subst e; exact dig_ok
  · exact O2_ok f m h

noncomputable def b3 : Code := Tryz.f3.body.getD .skip
noncomputable def a3 : Code := cfst (csnd b3)
noncomputable def u3 : Code := csnd (csnd b3)
noncomputable def x3 : Code := csnd u3
noncomputable def y3 : Code := csnd x3
noncomputable def z3 : Code := csnd y3
noncomputable def w3 : Code := csnd z3
noncomputable def L3 : Code := cloop (cblk (csnd (cfst z3)))

theorem b3_eq : b3 = .seq (cfst b3) (.seq a3 (.seq (cfst u3) (.seq (cfst x3) (.seq (cfst y3) (.seq (.seq (cfst (cfst z3)) (.block 0 (.loop L3))) (.seq (cfst w3) (csnd w3))))))) := by
  simp [a3, u3, x3, y3, z3, w3, L3, b3, Tryz.f3, cfst, csnd, cblk, cloop]

/-- Where TellTells stands: the answer's box is 1; what is wanted so far. -/
structure TJ (box : List AV) (s : Slots) (H : Heap Unit) (c : Nat) (bs : List UInt8) : Prop where
  dom : Dom s 70
  g1 : s.get 1 = some (.ptr 1 0 0)
  g3 : s.get 3 = some (.str bs)
  box : H.get 1 = some (.arr 25 [box])
  fr : Fresh H c
  lc : 2 ≤ c

section
variable {d : Nat} {n nd : Int} {v nx : List UInt8} {it : AV} {more : Bool} {l : List (List UInt8 × List UInt8)}

theorem alive_call3 (H : Heap Unit) (c : Nat) : callA E0 O3 (d + 1) (.fn (.func 7) [] []) [] false H c = some (.bool true, H, c, []) := by
  simp [callA, O3, O2, aliveS, M.lift, M.pure]

theorem dig_call3 (n : Int) (H : Heap Unit) (c : Nat) (h0 : 0 ≤ n) (h1 : n ≤ 9223372036854775807) : callA E0 O3 (d + 1) (.fn (.func 8) [] []) [.int .i64 n] false H c = some (.str (Lib.itoa n), H, c, []) := by
  simp [callA, O3, digS, M.lift, M.pure, h0, h1]

theorem itsE_map : ∀ l : List (List UInt8 × List UInt8), itsE (l.map itemE) = some l
  | [] => rfl
  | p :: l => by
    show itsE ([.str p.1, .str p.2] :: l.map itemE) = _
    simp only [itsE]
    rw [itsE_map l]
    rfl

theorem its_back (h : Its it l) : itsA it = some l := by
  cases h with
  | nils => rfl
  | zsl => rfl
  | isl l => simp [itsA, itsE_map]

theorem tell_call3 (hit : Its it l) (H : Heap Unit) (c : Nat) (h0 : 0 ≤ n) (h1 : n ≤ 9223372036854775807) (hv : v.length + (itemsT l).length ≤ 190000000000000) (hl : l.length ≤ 9000) :
    callA E0 O3 (d + 1) (.fn (.func 9) [] []) [.agg [.int .i64 n, .str v, it, .bool more, .str nx, .int .i64 nd]] false H c = some (.str (tellT n v l more), H, c, []) := by
  simp [callA, O3, O2, tellS, h0, h1, its_back hit, M.lift, M.pure, hv, hl]

theorem tt_len (hit : Its it l) (H : Heap Unit) (c : Nat) : (lenP Tryz.prog 23 it : M Unit AV) false H c = some (.int .i64 l.length, H, c, []) := by
  cases hit <;> simp [lenP, Tryz.underlying23, M.pure, goI]

theorem tt_guard {s : Slots} {H : Heap Unit} {c : Nat} (hit : Its it l) (hd : Dom s 70) (g1 : s.get 1 = some (.ptr 1 0 0)) (hb : H.get 1 = some (.arr 25 [[.int .i64 n, .str v, it, .bool more, .str nx, .int .i64 nd]])) :
    ∃ e s' H' c', codeA E0 (callA E0 O3 (d + 1)) 3 none 70 a3 ⟨s, []⟩ false H c = some ((e, ⟨s', []⟩), H', c', []) ∧ H' = H ∧ c' = c ∧ Dom s' 70 ∧ s'.get 1 = some (.ptr 1 0 0) ∧
      (match e with | .normal => l.length ≤ 60 ∧ 0 ≤ n | .ret => s'.get 2 = some (.bool true) | .exit _ => False) := by
  have hP : E0.P = Tryz.prog := rfl
  have hG : E0.G = fun _ => none := rfl
  have al := fun (H : Heap Unit) c => alive_call3 (d := d) H c
  have hlen := fun (H : Heap Unit) c => tt_len hit H c
  by_cases c1 : (60 : Int) < (l.length : Int)
  · refine ⟨.ret, ?_⟩
    simp (maxDischargeDepth := 100) [codeA, opsA, wantA, operA, evalA, plainOp, M.bind, M.pure, M.lift, T.get_set, Dom.set, envL, fieldAt, loadP, M.rdC, readC, mkV, ofVal, ofCell, fo_t2, sz_23, ag_23, bin, intBin, yieldA, builtinP, P70, cfst, csnd, a3, b3, Tryz.f3, hP, hd, g1, hb, hlen, c1, al]
    refine ⟨_, _, _, ⟨rfl, rfl, rfl⟩, rfl, rfl, ?_, ?_, ?_⟩
    · repeat (first | with_reducible exact hd | with_reducible apply Dom.set)
    all_goals simp [T.get_set, g1]
  · by_cases c2 : n < 0
    · refine ⟨.ret, ?_⟩
      simp (maxDischargeDepth := 100) [codeA, opsA, wantA, operA, evalA, plainOp, M.bind, M.pure, M.lift, T.get_set, Dom.set, envL, fieldAt, loadP, M.rdC, readC, mkV, ofVal, ofCell, fo_t0, fo_t2, sz_22, sz_23, ag_22, ag_23, bin, intBin, yieldA, builtinP, P70, cfst, csnd, a3, b3, Tryz.f3, hP, hd, g1, hb, hlen, c1, c2, al]
      refine ⟨_, _, _, ⟨rfl, rfl, rfl⟩, rfl, rfl, ?_, ?_, ?_⟩
      · repeat (first | with_reducible exact hd | with_reducible apply Dom.set)
      all_goals simp [T.get_set, g1]
    · refine ⟨.normal, ?_⟩
      simp (maxDischargeDepth := 100) [codeA, opsA, wantA, operA, evalA, plainOp, M.bind, M.pure, M.lift, T.get_set, Dom.set, envL, fieldAt, loadP, M.rdC, readC, mkV, ofVal, ofCell, fo_t0, fo_t2, sz_22, sz_23, ag_22, ag_23, bin, intBin, yieldA, builtinP, un, P70, cfst, csnd, a3, b3, Tryz.f3, hP, hd, g1, hb, hlen, c1, c2, al]
      refine ⟨_, _, _, ⟨rfl, rfl, rfl⟩, rfl, rfl, ?_, ?_, ?_, ?_⟩
      · repeat (first | with_reducible exact hd | with_reducible apply Dom.set)
      · simp [T.get_set, g1]
      all_goals omega

theorem tt_r3 {s : Slots} {H : Heap Unit} {c : Nat} (hd : Dom s 70) (g1 : s.get 1 = some (.ptr 1 0 0)) (hb : H.get 1 = some (.arr 25 [[.int .i64 n, .str v, it, .bool more, .str nx, .int .i64 nd]])) (hf : Fresh H c) (hc : 2 ≤ c) :
    ∃ s', codeA E0 (callA E0 O3 (d + 1)) 3 none 70 (cfst u3) ⟨s, []⟩ false H c = some ((.normal, ⟨s', []⟩), H, c, []) ∧ TJ [.int .i64 n, .str v, it, .bool more, .str nx, .int .i64 nd] s' H c [111, 107] := by
  have hP : E0.P = Tryz.prog := rfl
  have hG : E0.G = fun _ => none := rfl
  simp (maxDischargeDepth := 100) [codeA, opsA, wantA, operA, evalA, plainOp, M.bind, M.pure, M.lift, ofVal, ofCell, P70, cfst, csnd, u3, b3, Tryz.f3, hd]
  refine ⟨?_, ?_, ?_, hb, hf, hc⟩
  · repeat (first | with_reducible exact hd | with_reducible apply Dom.set)
  all_goals simp [T.get_set, g1]

theorem tt_err {s : Slots} {H : Heap Unit} {c : Nat} (t : TJ [.int .i64 n, .str v, it, .bool more, .str nx, .int .i64 nd] s H c [111, 107]) (h0 : 0 ≤ n) (h1 : n ≤ 9223372036854775807) (hi : (Lib.itoa n).length ≤ 100) :
    ∃ s', codeA E0 (callA E0 O3 (d + 1)) 3 none 70 (cfst x3) ⟨s, []⟩ false H c = some ((.normal, ⟨s', []⟩), H, c, []) ∧ TJ [.int .i64 n, .str v, it, .bool more, .str nx, .int .i64 nd] s' H c (if n = 0 then [111, 107] else [101, 114, 114, 111, 114, 32] ++ Lib.itoa n) := by
  have hP : E0.P = Tryz.prog := rfl
  have hG : E0.G = fun _ => none := rfl
  have hd := t.dom
  have g1 := t.g1
  have g3 := t.g3
  have hb := t.box
  have di := fun (H : Heap Unit) c => dig_call3 (d := d) n H c h0 h1
  have hl1 : 6 + (Lib.itoa n).length ≤ 4611686018427387904 := by omega
  have hl2 : (Lib.itoa n).length + 6 ≤ 4611686018427387904 := by omega
  by_cases hn : n = 0
  · subst hn
    simp (maxDischargeDepth := 100) [codeA, opsA, wantA, operA, evalA, plainOp, M.bind, M.pure, M.lift, Dom.set, fieldAt, loadP, M.rdC, readC, mkV, ofVal, ofCell, fo_t0, sz_22, ag_22, bin, intBin, P70, cfst, csnd, u3, x3, b3, Tryz.f3, hP, hd, g1, hb]
    refine ⟨?_, ?_, ?_, hb, t.fr, t.lc⟩
    · repeat (first | with_reducible exact hd | with_reducible apply Dom.set)
    all_goals simp [T.get_set, g1, g3]
  · have hnb : (n == 0) = false := by simp [hn]
    rw [if_neg hn]
    simp (maxDischargeDepth := 100) [codeA, opsA, wantA, operA, evalA, plainOp, M.bind, M.pure, M.lift, T.get_set, Dom.set, envL, fieldAt, loadP, M.rdC, readC, mkV, ofVal, ofCell, fo_t0, sz_22, ag_22, bin, intBin, strBin, P70, cfst, csnd, u3, x3, b3, Tryz.f3, hP, hd, g1, hb, hnb, di, hl1, bne]
    refine ⟨?_, ?_, ?_, hb, t.fr, t.lc⟩
    · repeat (first | with_reducible exact hd | with_reducible apply Dom.set)
    all_goals simp [T.get_set, g1]

theorem tt_val {s : Slots} {H : Heap Unit} {c : Nat} {bs : List UInt8} (t : TJ [.int .i64 n, .str v, it, .bool more, .str nx, .int .i64 nd] s H c bs) (hl : bs.length + v.length ≤ 200000000000000) :
    ∃ s', codeA E0 (callA E0 O3 (d + 1)) 3 none 70 (cfst y3) ⟨s, []⟩ false H c = some ((.normal, ⟨s', []⟩), H, c, []) ∧ TJ [.int .i64 n, .str v, it, .bool more, .str nx, .int .i64 nd] s' H c (bs ++ if v = [] then [] else 32 :: v) := by
  have hP : E0.P = Tryz.prog := rfl
  have hG : E0.G = fun _ => none := rfl
  have hd := t.dom
  have g1 := t.g1
  have g3 := t.g3
  have hb := t.box
  have hl1 : 1 + v.length ≤ 4611686018427387904 := by omega
  have hl2 : bs.length + (v.length + 1) ≤ 4611686018427387904 := by omega
  by_cases hn : v = []
  · subst hn
    simp (maxDischargeDepth := 100) [codeA, opsA, wantA, operA, evalA, plainOp, M.bind, M.pure, M.lift, Dom.set, fieldAt, loadP, M.rdC, readC, mkV, ofVal, ofCell, fo_t1, sz_9, ag_9, bin, strBin, P70, cfst, csnd, u3, x3, y3, b3, Tryz.f3, hP, hd, g1, hb]
    refine ⟨?_, ?_, ?_, hb, t.fr, t.lc⟩
    · repeat (first | with_reducible exact hd | with_reducible apply Dom.set)
    all_goals simp [T.get_set, g1, g3]
  · have hnb : (v == []) = false := by cases v with
      | nil => exact absurd rfl hn
      | cons => rfl
    rw [if_neg hn]
    simp (maxDischargeDepth := 100) [codeA, opsA, wantA, operA, evalA, plainOp, M.bind, M.pure, M.lift, T.get_set, Dom.set, fieldAt, loadP, M.rdC, readC, mkV, ofVal, ofCell, fo_t1, sz_9, ag_9, bin, strBin, P70, cfst, csnd, u3, x3, y3, b3, Tryz.f3, hP, hd, g1, g3, hb, hnb, hl1, hl2]
    refine ⟨?_, ?_, ?_, hb, t.fr, t.lc⟩
    · repeat (first | with_reducible exact hd | with_reducible apply Dom.set)
    all_goals simp [T.get_set, g1]

theorem tt_more {s : Slots} {H : Heap Unit} {c : Nat} {bs : List UInt8} (t : TJ [.int .i64 n, .str v, it, .bool more, .str nx, .int .i64 nd] s H c bs) (hl : bs.length ≤ 200000000000000) :
    ∃ s', codeA E0 (callA E0 O3 (d + 1)) 3 none 70 (cfst w3) ⟨s, []⟩ false H c = some ((.normal, ⟨s', []⟩), H, c, []) ∧ TJ [.int .i64 n, .str v, it, .bool more, .str nx, .int .i64 nd] s' H c (bs ++ if more then [32, 109, 111, 114, 101] else []) := by
  have hP : E0.P = Tryz.prog := rfl
  have hG : E0.G = fun _ => none := rfl
  have hd := t.dom
  have g1 := t.g1
  have g3 := t.g3
  have hb := t.box
  have hl2 : bs.length + 5 ≤ 4611686018427387904 := by omega
  cases more with
  | false =>
    simp (maxDischargeDepth := 100) [codeA, opsA, wantA, operA, evalA, plainOp, M.bind, M.pure, M.lift, Dom.set, fieldAt, loadP, M.rdC, readC, mkV, fo_t3, sz_4, ag_4, P70, cfst, csnd, u3, x3, y3, z3, w3, b3, Tryz.f3, hP, hd, g1, hb]
    refine ⟨?_, ?_, ?_, hb, t.fr, t.lc⟩
    · repeat (first | with_reducible exact hd | with_reducible apply Dom.set)
    all_goals simp [T.get_set, g1, g3]
  | true =>
    simp (maxDischargeDepth := 100) [codeA, opsA, wantA, operA, evalA, plainOp, M.bind, M.pure, M.lift, T.get_set, Dom.set, fieldAt, loadP, M.rdC, readC, mkV, ofVal, ofCell, fo_t3, sz_4, ag_4, bin, strBin, P70, cfst, csnd, u3, x3, y3, z3, w3, b3, Tryz.f3, hP, hd, g1, g3, hb, hl2]
    refine ⟨?_, ?_, ?_, hb, t.fr, t.lc⟩
    · repeat (first | with_reducible exact hd | with_reducible apply Dom.set)
    all_goals simp [T.get_set, g1]

theorem tt_end {s : Slots} {H : Heap Unit} {c : Nat} (hit : Its it l) (t : TJ [.int .i64 n, .str v, it, .bool more, .str nx, .int .i64 nd] s H c (tellT n v l more)) (h0 : 0 ≤ n) (h1 : n ≤ 9223372036854775807) (hv : v.length + (itemsT l).length ≤ 190000000000000) (hl : l.length ≤ 9000) :
    ∃ s', codeA E0 (callA E0 O3 (d + 1)) 3 none 70 (csnd w3) ⟨s, []⟩ false H c = some ((.ret, ⟨s', []⟩), H, c, []) ∧ s'.get 2 = some (.bool true) := by
  have hP : E0.P = Tryz.prog := rfl
  have hG : E0.G = fun _ => none := rfl
  have hd := t.dom
  have g1 := t.g1
  have g3 := t.g3
  have hb := t.box
  have te := fun (H : Heap Unit) c => tell_call3 (d := d) (nx := nx) (nd := nd) (more := more) hit H c h0 h1 hv hl
  simp (maxDischargeDepth := 100) [codeA, opsA, wantA, operA, evalA, plainOp, M.bind, M.pure, M.lift, T.get_set, Dom.set, envL, loadP, M.rdC, readC, mkV, bin, strBin, P70, csnd, u3, x3, y3, z3, w3, b3, Tryz.f3, hP, hd, g1, g3, hb, ag_25, sz_25, te]
end
end Go.Abs
