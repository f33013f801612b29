/- The closed facts of the row, one by one. -/
import Derived.Test.YtkelfbakcpidjaaGreatDoorRows
import Derived.JoinedCond
import Derived.KernelRfl
set_option maxRecDepth 100000
namespace Go.Proofs.YtkelfbakcpidjaaGreatDoor
theorem fct_named : Tryz.prog.funcNamed "enthymeme/enthymemelaw24.AxiomNames" = some 3 := by kernel_rfl
theorem fct_inPlace : Tryz.prog.inPlace 3 = Rows.axiomNamesRow.inPlace := by kernel_rfl
theorem fct_unfollowed : Tryz.prog.unfollowed 3 = Rows.axiomNamesRow.unfollowed := by kernel_rfl
theorem fct_recurses : Tryz.prog.recurses 3 = Rows.axiomNamesRow.recurses := by
  unfold Program.recurses
  rw [fct_unfollowed]; rfl
theorem fct_vars : Tryz.prog.varsNamed 3 = Rows.axiomNamesRow.named := by kernel_rfl
end Go.Proofs.YtkelfbakcpidjaaGreatDoor
