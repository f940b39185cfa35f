/- WriteString and String, run. -/
import Derived.Test.YtkplhhkmchihlaaGreatDoorW1
namespace Go.Abs
open Go Go.Proofs

/-- A builder and its bytes. -/
inductive Bld (H : Heap Unit) (n : Nat) : Option Nat → List UInt8 → Prop
  | fresh (h : H.get n = some (.arr 54 [[.nilp, .nils]])) : Bld H n none []
  | empty (h : H.get n = some (.arr 54 [[.ptr n 0 0, .nils]])) : Bld H n none []
  | row {m : Nat} {bs : List UInt8} (h : H.get n = some (.arr 54 [[.ptr n 0 0, .sl ⟨1, 1⟩ m 0 bs.length bs.length]])) (hm : H.get m = some (.arr 5 (bytesE bs))) (hne : m ≠ n) (h0 : bs ≠ []) : Bld H n (some m) bs

section
variable {E : Cfg} {call : AV → List AV → M Unit AV} {H : Heap Unit} {c n : Nat}

theorem cc_any (hE : E.P = Tryz.prog) (hcall : ∀ x H c, call (.fn (.func 45) [] []) [x] false H c = some (x, H, c, [])) {buf : Option Nat} {bs : List UInt8} (h : Bld H n buf bs) :
    ∃ H' y, bodyA E call 37 [.ptr n 0 0] false H c = some (.tup [], H', c, []) ∧ H'.get n = some (.arr 54 [[.ptr n 0 0, y]]) ∧ (∀ q, q ≠ n → H'.get q = H.get q) ∧
      ((buf = none ∧ y = .nils ∧ bs = []) ∨ ∃ m, buf = some m ∧ bs ≠ [] ∧ m ≠ n ∧ y = .sl ⟨1, 1⟩ m 0 bs.length bs.length ∧ H'.get m = some (.arr 5 (bytesE bs))) := by
  cases h with
  | fresh h => exact ⟨_, _, cc_fresh hE hcall h, by simp [], fun q hq => by simp [T.get_set, hq], .inl ⟨rfl, rfl, rfl⟩⟩
  | empty h => exact ⟨_, _, cc_used hE h, h, fun _ _ => rfl, .inl ⟨rfl, rfl, rfl⟩⟩
  | row h hm hne h0 => exact ⟨_, _, cc_used hE h, h, fun _ _ => rfl, .inr ⟨_, rfl, h0, hne, rfl, hm⟩⟩

/-- What a builder's method has done to the heap. -/
structure Wrote (H : Heap Unit) (c n : Nat) (buf : Option Nat) (bs : List UInt8) (H' : Heap Unit) (c' : Nat) (buf' : Option Nat) : Prop where
  bld : Bld H' n buf' bs
  le : c ≤ c'
  fresh : Fresh H c → Fresh H' c'
  keep : ∀ q, q ≠ n → some q ≠ buf → q < c → H'.get q = H.get q
  new : buf' = buf ∨ ∃ m, buf' = some m ∧ c ≤ m

theorem ws_run (hE : E.P = Tryz.prog) {d : Nat} {O : FuncId → Option (List AV → M Unit AV)} (hO : O 37 = none) (hcall : ∀ x H c, callA E O d (.fn (.func 45) [] []) [x] false H c = some (x, H, c, [])) {buf : Option Nat} {bs s : List UInt8} (h : Bld H n buf bs)
    (hf : Fresh H c) (hn : n < c) (hb : bs.length + s.length + (bs.length + s.length) / 4 + 1024 ≤ 281474976710656) :
    ∃ H' c' buf', bodyA E (callA E O (d + 1)) 18 [.ptr n 0 0, .str s] false H c = some (.tup [.int .i64 s.length, .nili], H', c', []) ∧ Wrote H c n buf (bs ++ s) H' c' buf' := by
  obtain ⟨H1, y, h1, h2, h3, h4⟩ := cc_any (c := c) hE hcall h
  have hf1 : Fresh H1 c := fun q hq => by rw [h3 q (by omega)]; exact hf q hq
  have hcc : callA E O (d + 1) (.fn (.func 37) [] []) [.ptr n 0 0] false H c = some (.tup [], H1, c, []) := by
    simp only [callA, hO, List.nil_append, List.append_nil]; exact h1
  obtain ⟨P, G, fuel, raw⟩ := E
  simp only at hE
  subst hE
  rcases h4 with ⟨rfl, rfl, rfl⟩ | ⟨m, rfl, hbs, hne, rfl, hm⟩
  · by_cases hs : s = []
    · subst hs
      refine ⟨H1.set n (.arr 54 [[.ptr n 0 0, .nils]]), c, none, ?_, ?_⟩
      · simp [bodyA, Tryz.func18, Tryz.f18, codeA, opsA, wantA, operA, evalA, plainOp, M.bind, M.pure, M.lift, slotsOf, fillS, putA, T.get_set, List.replicate, fo_b1, fieldAt, sz_51, ag_51, loadP, M.rdC, readC, h2, mkV, ofVal, ofCell,
          envL, hcc, builtinP, appendP, Tryz.underlying51, et_5, zt_5, ni_9, srcP, storeP, AV.cells, oneAll, AV.one, M.wrC, writeC, splice, resultsA, resultA, packA, lenP, Tryz.underlying9, goI]
      · refine ⟨.empty (by simp []), Nat.le_refl _, fun _ => hf1.set _ hn, fun q q1 _ _ => by rw [T.get_set, if_neg q1, h3 q q1], .inl rfl⟩
    · have hl : ¬ s.length = 0 := fun e => hs (List.length_eq_zero_iff.1 e)
      have hfit : fitsE ⟨1, 1⟩ s.length = true := by simp [fitsE]; simp at hb; omega
      have hcn : ¬ n = c := by omega
      have hnc : ¬ c = n := by omega
      refine ⟨(H1.set c (.arr 5 (bytesE s))).set n (.arr 54 [[.ptr n 0 0, .sl ⟨1, 1⟩ c 0 s.length s.length]]), c + 1, some c, ?_, ?_⟩
      · simp [bodyA, Tryz.func18, Tryz.f18, codeA, opsA, wantA, operA, evalA, plainOp, M.bind, M.pure, M.lift, slotsOf, fillS, putA, T.get_set, List.replicate, fo_b1, fieldAt, sz_51, ag_51, loadP, M.rdC, readC, h2, mkV, ofVal, ofCell,
          envL, hcc, builtinP, appendP, Tryz.underlying51, et_5, zt_5, ni_9, srcP, storeP, AV.cells, oneAll, AV.one, M.wrC, writeC, splice, resultsA, resultA, packA, lenP, Tryz.underlying9, goI, hl, hfit, M.new, hcn, bytesE]
      · refine ⟨?_, by omega, fun _ => (hf1.new _).set _ (by omega), fun q q1 _ q3 => by rw [T.get_set, if_neg q1, T.get_set, if_neg (by omega), h3 q q1], .inr ⟨c, rfl, Nat.le_refl _⟩⟩
        exact .row (by simp []) (by simp [T.get_set, hnc]) (by omega) (by simpa using hs)
  · have hmc : m < c := hf1.lt hm
    have hmn : ¬ m = n := hne
    have hnm : ¬ n = m := fun e => hne e.symm
    by_cases hs : s = []
    · subst hs
      refine ⟨H1.set n (.arr 54 [[.ptr n 0 0, .sl ⟨1, 1⟩ m 0 bs.length bs.length]]), c, some m, ?_, ?_⟩
      · simp [bodyA, Tryz.func18, Tryz.f18, codeA, opsA, wantA, operA, evalA, plainOp, M.bind, M.pure, M.lift, slotsOf, fillS, putA, T.get_set, List.replicate, fo_b1, fieldAt, sz_51, ag_51, loadP, M.rdC, readC, h2, mkV, ofVal, ofCell,
          envL, hcc, builtinP, appendP, Tryz.underlying51, et_5, zt_5, ni_9, srcP, storeP, AV.cells, oneAll, AV.one, M.wrC, writeC, splice, resultsA, resultA, packA, lenP, Tryz.underlying9, goI]
      · refine ⟨?_, Nat.le_refl _, fun _ => hf1.set _ hn, fun q q1 _ _ => by rw [T.get_set, if_neg q1, h3 q q1], .inl rfl⟩
        rw [List.append_nil]
        exact .row (by simp []) (by simp [T.get_set, hmn, hm]) hne hbs
    · have hl : ¬ s.length = 0 := fun e => hs (List.length_eq_zero_iff.1 e)
      have hfit : fitsE ⟨1, 1⟩ (bs.length + s.length) = true := by simp [fitsE]; omega
      have hcn : ¬ n = c := by omega
      have hnc : ¬ c = n := by omega
      have hgt : ¬ bs.length + s.length ≤ bs.length := by omega
      have hlb : (bytesE bs).length = bs.length := bytesE_length bs
      refine ⟨((H1.del m).set c (.arr 5 (bytesE (bs ++ s)))).set n (.arr 54 [[.ptr n 0 0, .sl ⟨1, 1⟩ c 0 (bs ++ s).length (bs ++ s).length]]), c + 1, some c, ?_, ?_⟩
      · have ho := oneAll_bytes s
        simp only [oneAll, bytesE] at ho
        have htk : List.take bs.length (List.map (fun b : UInt8 => [AV.int .u8 b.toNat]) bs) = List.map (fun b : UInt8 => [AV.int .u8 b.toNat]) bs := List.take_of_length_le (by simp)
        simp [bodyA, Tryz.func18, Tryz.f18, codeA, opsA, wantA, operA, evalA, plainOp, M.bind, M.pure, M.lift, slotsOf, fillS, putA, T.get_set, T.get_del, List.replicate, fo_b1, fieldAt, sz_51, ag_51, loadP, M.rdC, readC, h2, mkV, ofVal, ofCell,
          envL, hcc, builtinP, appendP, Tryz.underlying51, et_5, zt_5, ni_9, srcP, storeP, AV.cells, oneAll, AV.one, M.wrC, writeC, splice, resultsA, resultA, packA, lenP, Tryz.underlying9, goI, hl, hfit, M.new, M.del, M.rdO, hm, hcn, hnm, bytesE, hgt, htk, ho]
      · refine ⟨?_, by omega, fun _ => ((hf1.del m).new _).set _ (by omega), fun q q1 q2 q3 => ?_, .inr ⟨c, rfl, Nat.le_refl _⟩⟩
        · exact .row (by simp []) (by simp [T.get_set, hnc]) (by omega) (by simp [hs])
        · rw [T.get_set, if_neg q1, T.get_set, if_neg (by omega), T.get_del, if_neg (fun e => q2 (by rw [e])), h3 q q1]


theorem str_run (hE : E.P = Tryz.prog) {buf : Option Nat} {bs : List UInt8} (h : Bld H n buf bs) (hb : bs.length ≤ 9223372036854775807) :
    ∃ H', bodyA E call 20 [.ptr n 0 0] false H c = some (.str bs, H', c, []) ∧ (∀ q, some q ≠ buf → H'.get q = H.get q) ∧ (Fresh H c → Fresh H' c) := by
  obtain ⟨P, G, fuel, raw⟩ := E
  simp only at hE
  subst hE
  have nil : ∀ a, H.get n = some (.arr 54 [[a, .nils]]) → bodyA ⟨Tryz.prog, G, fuel, raw⟩ call 20 [.ptr n 0 0] false H c = some (.str [], H, c, []) := fun a h => by
    simp [bodyA, Tryz.func20, Tryz.f20, codeA, opsA, wantA, operA, evalA, plainOp, M.bind, M.pure, M.lift, slotsOf, fillS, putA, T.get_set, List.replicate, fo_b1, fieldAt, sz_51, ag_51, loadP, M.rdC, readC, h, mkV, ofVal, ofCell,
      envL, builtinP, Tryz.underlying51, resultsA, resultA, packA, lenP, goI, drawnA, drawA, dataP, unsafeStrP, Tryz.underlying75, freeAll, freeOf, behind, indepL, Region.binds, Oper.apart, Oper.looksAt, Op.operands, Call.operands, indepA, Act.name, Act.isRead]
  cases h with
  | fresh h => exact ⟨H, nil _ h, fun _ _ => rfl, id⟩
  | empty h => exact ⟨H, nil _ h, fun _ _ => rfl, id⟩
  | @row m _ h hm hne h0 =>
    have hmn : ¬ m = n := hne
    have hnm : ¬ n = m := fun e => hne e.symm
    have h1 := bytesOf_bytesE bs
    have h2 : ((bytesE bs).length) = bs.length := bytesE_length bs
    have hl : ¬ bs.length = 0 := fun e => h0 (List.length_eq_zero_iff.1 e)
    have hb' : ((bs.length : Nat) : Int) ≤ 9223372036854775807 := by omega
    · refine ⟨H.del m, ?_, fun q hq => by rw [T.get_del, if_neg (fun e => hq (by rw [e]))], fun hf => hf.del m⟩
      have htk : List.take bs.length (bytesE bs) = bytesE bs := List.take_of_length_le (by simp)
      have hl' : ¬ bs = [] := fun e => hl (by rw [e]; rfl)
      have hp : 0 < bs.length := by omega
      simp [bodyA, Tryz.func20, Tryz.f20, codeA, opsA, wantA, operA, evalA, plainOp, M.bind, M.pure, M.lift, slotsOf, fillS, putA, T.get_set, List.replicate, fo_b1, fieldAt, sz_51, ag_51, loadP, M.rdC, readC, h, mkV, ofVal, ofCell,
        envL, builtinP, Tryz.underlying51, resultsA, resultA, packA, lenP, goI, drawnA, drawA, dataP, unsafeStrP, Tryz.underlying75, freeAll, freeOf, behind, indepL, Region.binds, Oper.apart, Oper.looksAt, Op.operands, Call.operands, indepA, Act.name, Act.isRead,
        hl, hp, sz_5, hb', M.rdO, hm, h1, htk, M.del, hnm]

end
end Go.Abs
