/- The closed facts of the row of TellErrors: all of them. -/
import Derived.Test.YtkplhhkmchihlaaGreatDoorK9b
namespace Go.Proofs.YtkplhhkmchihlaaGreatDoor.tellErrors
open Go

set_option maxRecDepth 100000 in
theorem factclosed : joinedFacts Tryz.prog 4 Tryz.f4 Rows.tellErrorsSpec Rows.tellErrorsRow = true := by
  unfold joinedFacts
  exact (and_t (and_t (and_t (and_t (and_t (and_t (and_t (and_t (and_t (and_t (and_t (and_t (and_t (and_t (and_t (and_t (and_t (and_t (and_t (and_t (and_t (and_t (and_t (and_t (and_t (and_t (and_t (and_t (and_t (and_t (and_t fact0 fact1) fact2) fact3) fact4) fact5) fact6) fact7) fact8) fact9) fact10) fact11) fact12) fact13) fact14) fact15) fact16) fact17) fact18) fact19) fact20) fact21) fact22) fact23) fact24) fact25) fact26) fact27) fact28) fact29) fact30) fact31)

end Go.Proofs.YtkplhhkmchihlaaGreatDoor.tellErrors
