/- The closed facts of the row of TellErrors, one by one: the others; all of them. -/
import Derived.Test.YtkplhhkmchihlaaGreatDoorK9a
namespace Go.Proofs.YtkplhhkmchihlaaGreatDoor.tellErrors
open Go

theorem and_t {a b : Bool} (h1 : a = true) (h2 : b = true) : (a && b) = true := by rw [h1, h2]; rfl

theorem fact7 : ((Rows.tellErrorsRow.knobs == []) : Bool) = true := by kernel_rfl
theorem fact8 : ((Tryz.prog.stopKnobs == []) : Bool) = true := by kernel_rfl
theorem fact9 : ((Rows.tellErrorsRow.inPlace == Tryz.prog.inPlace 4) : Bool) = true := by kernel_rfl
theorem fact10 : ((Rows.tellErrorsRow.unfollowed == Tryz.prog.unfollowed 4) : Bool) = true := by kernel_rfl
theorem fact11 : ((Rows.tellErrorsRow.recurses == Tryz.prog.recurses 4) : Bool) = true := by kernel_rfl
theorem fact12 : ((Rows.tellErrorsRow.named == Tryz.prog.varsNamed 4) : Bool) = true := by kernel_rfl
theorem fact13 : ((Rows.tellErrorsRow.maps == (Tryz.f4.params.toList ++ Rows.tellErrorsSpec.plain.varTypes Tryz.prog).any (Tryz.prog.mapsRec ·)) : Bool) = true := by kernel_rfl
theorem fact14 : ((Rows.tellErrorsRow.ifaces == (Tryz.f4.params.toList ++ Rows.tellErrorsSpec.plain.varTypes Tryz.prog).any (Tryz.prog.ifacesRec ·)) : Bool) = true := by kernel_rfl
theorem fact15 : ((Rows.tellErrorsRow.mapsOut == Tryz.prog.mapsAmong Tryz.f4.resultTypes.toList) : Bool) = true := by kernel_rfl
theorem fact16 : ((Rows.tellErrorsRow.loops == (Tryz.f4.params.toList ++ Rows.tellErrorsSpec.plain.varTypes Tryz.prog).any (Tryz.prog.loopsFrom ·)) : Bool) = true := by kernel_rfl
theorem fact17 : ((Rows.tellErrorsRow.wideKeys == (Tryz.f4.params.toList ++ Rows.tellErrorsSpec.plain.varTypes Tryz.prog ++ Tryz.f4.resultTypes.toList).any (Tryz.prog.wideKeysFrom ·)) : Bool) = true := by kernel_rfl
theorem fact18 : (Rows.tellErrorsSpec.vars.all (Tryz.prog.varReadable ·) : Bool) = true := by kernel_rfl
theorem fact19 : (Tryz.f4.resultTypes.all (fun t => Tryz.prog.readableRec t && decide (t < Tryz.prog.types.size)) : Bool) = true := by kernel_rfl
theorem fact20 : ((Rows.tellErrorsRow.ifacesOut == Tryz.f4.resultTypes.toList.any (Tryz.prog.ifacesRec ·)) : Bool) = true := by kernel_rfl
theorem fact21 : ((Rows.tellErrorsRow.loopsOut == Tryz.f4.resultTypes.toList.any (Tryz.prog.loopsFrom ·)) : Bool) = true := by kernel_rfl
theorem fact22 : ((Rows.tellErrorsRow.plainKeys == Tryz.prog.plainKeys) : Bool) = true := by kernel_rfl
theorem fact23 : (Rows.tellErrorsRow.shortTexts.isNone : Bool) = true := by kernel_rfl
theorem fact24 : (Tryz.prog.stopsHeard : Bool) = true := by kernel_rfl
theorem fact25 : (Tryz.prog.mayEnter : Bool) = true := by kernel_rfl
theorem fact26 : ((Rows.tellErrorsRow.lifted == Tryz.prog.liftsFinal) : Bool) = true := by kernel_rfl
theorem fact27 : ((Tryz.prog.make == some Rows.tellErrorsRow.make) : Bool) = true := by kernel_rfl
theorem fact28 : ((Rows.tellErrorsRow.kinds == (if Rows.tellErrorsRow.domain.isEmpty then [] else Tryz.f4.params.toList.map fun t => match Tryz.prog.underlying t with | some (.int k) => some k | _ => none)) : Bool) = true := by kernel_rfl
theorem fact29 : ((Rows.tellErrorsRow.pinned == Rows.tellErrorsRow.pinnedBy) : Bool) = true := by kernel_rfl
theorem fact30 : ((Rows.tellErrorsRow.veiled == (Tryz.f4.params.toList ++ Rows.tellErrorsSpec.plain.varTypes Tryz.prog ++ Tryz.f4.resultTypes.toList).any (Tryz.prog.veiledRec ·)) : Bool) = true := by kernel_rfl
theorem fact31 : (Rows.tellErrorsRow.veiledFits Tryz.prog Tryz.f4.params.toList (Tryz.f4.params.toList ++ Rows.tellErrorsSpec.plain.varTypes Tryz.prog ++ Tryz.f4.resultTypes.toList) : Bool) = true := by kernel_rfl

end Go.Proofs.YtkplhhkmchihlaaGreatDoor.tellErrors
