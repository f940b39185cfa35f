/- The closed facts of the row of tellTells, one by one: the first. -/
import Derived.Test.YtkplhhkmchihlaaGreatDoorRows
import Derived.JoinedOf
import Derived.KernelRfl
namespace Go.Proofs.YtkplhhkmchihlaaGreatDoor.tellTells
open Go

theorem fact0 : (Rows.tellTellsRow.wf (OpenSpec.ofChange Rows.tellTellsSpec) : Bool) = true := by kernel_rfl
theorem fact1 : (laidOutB Tryz.prog : Bool) = true := by kernel_rfl
theorem fact2 : (mapsRowed Tryz.prog : Bool) = true := by kernel_rfl
theorem fact3 : (Tryz.f3.params.all (Tryz.prog.readableRec ·) : Bool) = true := by kernel_rfl
theorem fact4 : (namedTie Tryz.prog Rows.tellTellsRow.named Rows.tellTellsSpec.vars : Bool) = true := by kernel_rfl
theorem fact5 : ((Rows.tellTellsRow.stops == []) : Bool) = true := by kernel_rfl
theorem fact6 : ((Tryz.prog.stops == []) : Bool) = true := by kernel_rfl

end Go.Proofs.YtkplhhkmchihlaaGreatDoor.tellTells
