/- The builder's methods, run. -/
import Derived.Test.YtkplhhkmchihlaaGreatDoorSym
import Derived.Test.YtkplhhkmchihlaaGreatDoorProg
namespace Go.Abs
open Go Go.Proofs

theorem fo_b0 : fieldOff Tryz.prog 54 0 = some (52, 0) := by decide +kernel
theorem fo_b1 : fieldOff Tryz.prog 54 1 = some (51, 1) := by decide +kernel
theorem sz_52 : sizeT Tryz.prog 52 = some 1 := by decide +kernel
theorem sz_51 : sizeT Tryz.prog 51 = some 1 := by decide +kernel
theorem sz_54 : sizeT Tryz.prog 54 = some 2 := by decide +kernel
theorem sz_5 : sizeT Tryz.prog 5 = some 1 := by decide +kernel
theorem ag_52 : aggT Tryz.prog 52 = some false := by decide +kernel
theorem ag_51 : aggT Tryz.prog 51 = some false := by decide +kernel
theorem et_5 : elemT Tryz.prog 5 = some ⟨1, 1⟩ := by decide +kernel
theorem zt_5 : zeroT Tryz.prog 5 = some [.int .u8 0] := by kernel_rfl
theorem ni_9 : notIntT Tryz.prog 9 = true := by decide +kernel
theorem pe_52 : ptrElem Tryz.prog 52 = true := by decide +kernel

/-- Internal.abi.NoEscape hands back what it is given. -/
def noEsc : List AV → M Unit AV
  | [x] => M.pure x
  | _ => M.fail

section
variable {E : Cfg} {call : AV → List AV → M Unit AV} {H : Heap Unit} {c n : Nat}

theorem cc_fresh (hE : E.P = Tryz.prog) (hcall : ∀ x H c, call (.fn (.func 45) [] []) [x] false H c = some (x, H, c, [])) {y : AV} (hn : H.get n = some (.arr 54 [[.nilp, y]])) :
    bodyA E call 37 [.ptr n 0 0] false H c = some (.tup [], H.set n (.arr 54 [[.ptr n 0 0, y]]), c, []) := by
  obtain ⟨P, G, fuel, raw⟩ := E
  simp only at hE
  subst hE
  simp [bodyA, Tryz.func37, Tryz.f37, codeA, opsA, wantA, operA, evalA, plainOp, M.bind, M.pure, M.lift, slotsOf, fillS, putA, T.get_set, List.replicate, fo_b0, fieldAt, sz_52, ag_52, loadP, M.rdC, readC, hn, mkV, ofVal, ofCell, bin, eqBin, ptrFits, Tryz.underlying52, ptrEq,
    convertP, convPtrP, Tryz.underlying82, sz_54, M.rdO, envL, hcall, storeP, AV.cells, oneAll, AV.one, M.wrC, writeC, splice, resultsA, packA]

theorem cc_used (hE : E.P = Tryz.prog) {y : AV} (hn : H.get n = some (.arr 54 [[.ptr n 0 0, y]])) :
    bodyA E call 37 [.ptr n 0 0] false H c = some (.tup [], H, c, []) := by
  obtain ⟨P, G, fuel, raw⟩ := E
  simp only at hE
  subst hE
  simp [bodyA, Tryz.func37, Tryz.f37, codeA, opsA, wantA, operA, evalA, plainOp, M.bind, M.pure, M.lift, slotsOf, fillS, putA, T.get_set, List.replicate, fo_b0, fieldAt, sz_52, ag_52, loadP, M.rdC, readC, hn, mkV, ofVal, ofCell, bin, eqBin, ptrFits, Tryz.underlying52, ptrEq, pe_52, resultsA, packA]

end
end Go.Abs
