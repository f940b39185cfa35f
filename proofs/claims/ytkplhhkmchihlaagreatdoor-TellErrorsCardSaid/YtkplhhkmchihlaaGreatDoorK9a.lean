/- The closed facts of the row of TellErrors, one by one: the first. -/
import Derived.Test.YtkplhhkmchihlaaGreatDoorRows
import Derived.JoinedOf
import Derived.KernelRfl
namespace Go.Proofs.YtkplhhkmchihlaaGreatDoor.tellErrors
open Go

theorem fact0 : (Rows.tellErrorsRow.wf (OpenSpec.ofChange Rows.tellErrorsSpec) : Bool) = true := by kernel_rfl
theorem fact1 : (laidOutB Tryz.prog : Bool) = true := by kernel_rfl
theorem fact2 : (mapsRowed Tryz.prog : Bool) = true := by kernel_rfl
theorem fact3 : (Tryz.f4.params.all (Tryz.prog.readableRec ·) : Bool) = true := by kernel_rfl
theorem fact4 : (namedTie Tryz.prog Rows.tellErrorsRow.named Rows.tellErrorsSpec.vars : Bool) = true := by kernel_rfl
theorem fact5 : ((Rows.tellErrorsRow.stops == []) : Bool) = true := by kernel_rfl
theorem fact6 : ((Tryz.prog.stops == []) : Bool) = true := by kernel_rfl

end Go.Proofs.YtkplhhkmchihlaaGreatDoor.tellErrors
