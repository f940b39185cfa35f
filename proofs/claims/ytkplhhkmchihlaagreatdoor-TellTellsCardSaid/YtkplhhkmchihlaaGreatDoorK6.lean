/- rosary.Tell, the whole: what it is known to answer. -/
import Derived.Test.YtkplhhkmchihlaaGreatDoorK5
import Derived.Lib.ItoaLen
namespace Go.Abs
open Go Go.Proofs

theorem b9_eq : b9 = .seq (cfst b9) (.seq (cfst (csnd b9)) (.seq q2 (.seq q3 (.seq q4 (.seq q5 q6))))) := by
  simp [q6, q5, q4, q3, q2, r5, r4, r3, b9, Tryz.f9, cfst, csnd]

/-- An answer as a text. -/
def tellT (n : Int) (v : List UInt8) (l : List (List UInt8 × List UInt8)) (more : Bool) : List UInt8 :=
  (((if n = 0 then [111, 107] else [101, 114, 114, 111, 114, 32] ++ Lib.itoa n) ++ if v = [] then [] else 32 :: v) ++ itemsT l) ++ if more then [32, 109, 111, 114, 101] else []

section
variable {d : Nat} {n nd : Int} {v nx : List UInt8} {it : AV} {more : Bool} {l : List (List UInt8 × List UInt8)}

theorem seq_run {E : Cfg} {call : AV → List AV → M Unit AV} {fn nt : Nat} {a b : Code} {s s1 : Slots} {H H1 H2 : Heap Unit} {c c1 c2 : Nat} {r : XE × Fr}
    (h1 : codeA E call fn none nt a ⟨s, []⟩ false H c = some ((.normal, ⟨s1, []⟩), H1, c1, [])) (h2 : codeA E call fn none nt b ⟨s1, []⟩ false H1 c1 = some (r, H2, c2, [])) :
    codeA E call fn none nt (.seq a b) ⟨s, []⟩ false H c = some (r, H2, c2, []) := by
  simp [codeA, M.bind, h1, h2]

theorem Its.one (h : Its it l) : it.one = true := by cases h <;> rfl

theorem tell_run (hit : Its it l) (h0 : 0 ≤ n) (h1 : n ≤ 9223372036854775807) (hi : (Lib.itoa n).length ≤ 100) (hv : v.length + (itemsT l).length ≤ 190000000000000) (hl : l.length ≤ 9000) :
    ∃ H' c', callA E0 O1 (d + 4) (.fn (.func 9) [] []) [.agg [.int .i64 n, .str v, it, .bool more, .str nx, .int .i64 nd]] false (.leaf : Heap Unit) 1 = some (.str (tellT n v l more), H', c', []) := by
  have hP : E0.P = Tryz.prog := rfl
  have hG : E0.G = fun _ => none := rfl
  have ho : oneAll [.int .i64 n, .str v, it, .bool more, .str nx, .int .i64 nd] = true := by
    have := hit.one
    simp only [oneAll, List.all_cons, List.all_nil, this]
    rfl
  have head : ∃ s1, codeA E0 (callA E0 O1 (d + 3)) 9 none 42 (cfst b9) ⟨slotsOf [.agg [.int .i64 n, .str v, it, .bool more, .str nx, .int .i64 nd]] 42, []⟩ false (.leaf : Heap Unit) 1 =
        some ((.normal, ⟨s1, []⟩), (T.leaf : Heap Unit).set 1 (.arr 25 [[.int .i64 n, .str v, it, .bool more, .str nx, .int .i64 nd]]), 2, []) ∧ Dom s1 42 ∧ s1.get 1 = some (.ptr 1 0 0) := by
    have hd : Dom (slotsOf [.agg [.int .i64 n, .str v, it, .bool more, .str nx, .int .i64 nd]] 42) 42 := Dom.slotsOf _ _ (by simp)
    have g0 : (slotsOf [.agg [.int .i64 n, .str v, it, .bool more, .str nx, .int .i64 nd]] 42).get 0 = some (.agg [.int .i64 n, .str v, it, .bool more, .str nx, .int .i64 nd]) := by
      unfold slotsOf
      rw [fillS_get]
      simp
    generalize slotsOf [.agg [.int .i64 n, .str v, it, .bool more, .str nx, .int .i64 nd]] 42 = s0 at *
    simp (maxDischargeDepth := 100) [codeA, opsA, wantA, operA, evalA, plainOp, M.bind, M.pure, M.lift, T.get_set, P42, Dom.set, ofVal, ofCell, cfst, b9, Tryz.f9, hd, g0, AV.cells, ho, M.new]
    repeat (first | with_reducible exact hd | with_reducible apply Dom.set)
  obtain ⟨s1, e1, d1, k1⟩ := head
  have head2 : ∃ s2, codeA E0 (callA E0 O1 (d + 3)) 9 none 42 (cfst (csnd b9)) ⟨s1, []⟩ false ((T.leaf : Heap Unit).set 1 (.arr 25 [[.int .i64 n, .str v, it, .bool more, .str nx, .int .i64 nd]])) 2 =
        some ((.normal, ⟨s2, []⟩), ((T.leaf : Heap Unit).set 1 (.arr 25 [[.int .i64 n, .str v, it, .bool more, .str nx, .int .i64 nd]])).set 2 (.arr 54 [[.nilp, .nils]]), 3, []) ∧ Dom s2 42 ∧ s2.get 1 = some (.ptr 1 0 0) ∧ s2.get 3 = some (.ptr 2 0 0) := by
    simp (maxDischargeDepth := 100) [codeA, opsA, wantA, operA, plainOp, M.bind, M.pure, T.get_set, P42, Dom.set, cfst, csnd, b9, Tryz.f9, hP, d1, k1, M.new, zt_54]
    repeat (first | with_reducible exact d1 | with_reducible apply Dom.set)
  obtain ⟨s2, e2, d2, k2, k3⟩ := head2
  have t0 : TI [.int .i64 n, .str v, it, .bool more, .str nx, .int .i64 nd] s2 (((T.leaf : Heap Unit).set 1 (.arr 25 [[.int .i64 n, .str v, it, .bool more, .str nx, .int .i64 nd]])).set 2 (.arr 54 [[.nilp, .nils]])) 3 none [] := by
    refine ⟨d2, k2, k3, by simp [T.get_set], .fresh (by simp []), ?_, by omega, by simp⟩
    intro q hq
    rw [T.get_set, if_neg (by omega), T.get_set, if_neg (by omega)]
    simp
  obtain ⟨buf3, s3, H3, c3, e3, t3⟩ := tell_head (d := d) t0 h0 h1 hi
  have hb3 : (if n = 0 then [111, 107] else [101, 114, 114, 111, 114, 32] ++ Lib.itoa n : List UInt8).length ≤ 106 := by
    split
    · simp
    · simp; omega
  obtain ⟨buf4, s4, H4, c4, e4, t4⟩ := tell_value (d := d) t3 (by omega)
  have hb4 : (if v = [] then [] else 32 :: v : List UInt8).length ≤ v.length + 1 := by
    split
    · simp
    · simp
  obtain ⟨buf5, s5, H5, c5, e5, t5⟩ := tell_items (d := d) hit t4 (by rw [List.length_append]; omega) hl
  obtain ⟨buf6, s6, H6, c6, e6, t6⟩ := tell_more (d := d) t5 (by simp only [List.length_append]; omega)
  have hb6 : (if more then [32, 109, 111, 114, 101] else [] : List UInt8).length ≤ 5 := by
    split
    · simp
    · simp
  obtain ⟨s7, H7, c7, e7, g7⟩ := tell_end (d := d) t6 (by simp only [List.length_append]; omega)
  have hrun := seq_run e1 (seq_run e2 (seq_run e3 (seq_run e4 (seq_run e5 (seq_run e6 e7)))))
  rw [← b9_eq] at hrun
  refine ⟨H7, c7, ?_⟩
  have hO : O1 9 = none := by simp [O1]
  have hb : Tryz.f9.body = some b9 := by simp [b9, Tryz.f9]
  have hnt : Tryz.f9.ntmps = 42 := Tryz.ntmps9
  have hres : Tryz.f9.results.toList = [.tmp 2] := by simp [Tryz.f9]
  have hf : E0.P.funcs[9]? = some Tryz.f9 := Tryz.func9
  simp only [callA, hO, List.nil_append, List.append_nil, bodyA, hf, hb, hnt, hres, List.length_cons, List.length_nil]
  simp only [Nat.zero_add, Nat.reduceLeDiff, if_true, M.bind, hrun]
  simp [M.bind, resultsA, resultA, M.lift, M.pure, packA, g7, tellT]

def itsE : List (List AV) → Option (List (List UInt8 × List UInt8))
  | [] => some []
  | [.str k, .str v] :: r => (itsE r).map ((k, v) :: ·)
  | _ => none

def itsA : AV → Option (List (List UInt8 × List UInt8))
  | .nils => some []
  | .zsl => some []
  | .isl z es => if z = ⟨2, 32⟩ then itsE es else none
  | _ => none

theorem itsE_ok : ∀ {es : List (List AV)} {l : List (List UInt8 × List UInt8)}, itsE es = some l → es = l.map itemE
  | [], l, h => by simp [itsE] at h; subst h; rfl
  | e :: es, l, h => by
    unfold itsE at h
    split at h
    · rename_i e1; cases e1
    · rename_i k v r e1
      cases e1
      obtain ⟨l', h1, rfl⟩ := Option.map_eq_some_iff.1 h
      rw [itsE_ok h1]
      rfl
    · cases h

theorem itsA_ok {a : AV} {l : List (List UInt8 × List UInt8)} (h : itsA a = some l) : Its a l := by
  unfold itsA at h
  split at h
  · simp at h; subst h; exact .nils
  · simp at h; subst h; exact .zsl
  · split at h
    · rename_i z es hz
      subst hz
      rw [itsE_ok h]
      exact .isl l
    · cases h
  · cases h

/-- What is known of Tell. -/
def tellS : List AV → Option AV
  | [.agg [.int .i64 n, .str v, it, .bool more, .str _, .int .i64 _]] =>
    if 0 ≤ n ∧ n ≤ 9223372036854775807 then match itsA it with
      | some l => if v.length + (itemsT l).length ≤ 190000000000000 ∧ l.length ≤ 9000 then some (.str (tellT n v l more)) else none
      | none => none
    else none
  | _ => none

theorem Its.plain {a : AV} {l : List (List UInt8 × List UInt8)} (h : Its a l) : a.plain = true := by
  cases h with
  | nils => rfl
  | zsl => rfl
  | isl l =>
    simp only [AV.plain]
    rw [AV.plains_flatten]
    induction l with
    | nil => rfl
    | cons p l ih =>
      simp only [List.map_cons, List.flatten_cons, AV.plains_append, ih, Bool.and_true]
      rfl

theorem tell_ok {R : Rep Unit} : FuncOK R E0 9 fun xs => M.lift (tellS xs) := by
  refine FuncOK.pure (callA_func (E := E0) hmix hnum O1_good O1_ok 3 9 (by simp [O1])) (fun g a h => by cases h) tellS ?_
  intro xs r h
  unfold tellS at h
  split at h
  · rename_i n v it more nx nd
    split at h
    · rename_i hn
      cases hi : itsA it with
      | none => simp [hi] at h
      | some l =>
        simp only [hi] at h
        split at h
        · rename_i hb
          simp only [Option.some.injEq] at h
          subst h
          have hit := itsA_ok hi
          obtain ⟨H', c', hrun⟩ := tell_run (d := 0) (nx := nx) (nd := nd) (more := more) hit hn.1 hn.2 (by have := Lib.itoa_length_le n (by omega) hn.2; omega) hb.1 hb.2
          refine ⟨?_, rfl, false, 1, H', c', [], hrun⟩
          simp [AV.plains, AV.plain, hit.plain]
        · cases h
    · cases h
  · cases h

end
end Go.Abs
