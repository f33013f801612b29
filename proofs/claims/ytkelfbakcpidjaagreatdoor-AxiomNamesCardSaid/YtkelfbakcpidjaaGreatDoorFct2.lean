/- The closed facts of the row, together. -/
import Derived.Test.YtkelfbakcpidjaaGreatDoorFct
set_option maxRecDepth 100000
namespace Go.Proofs.YtkelfbakcpidjaaGreatDoor
theorem fct_all : joinedFacts Tryz.prog 3 Tryz.f3 (OpenSpec.ofChange Rows.axiomNamesSpec).bare Rows.axiomNamesRow = true := by
  unfold joinedFacts
  rw [fct_inPlace, fct_unfollowed, fct_recurses, fct_vars]
  kernel_rfl
end Go.Proofs.YtkelfbakcpidjaaGreatDoor
