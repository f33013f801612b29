/- The node's type. -/
import Derived.Test.YtkelfbakcpidjaaGreatDoorAmInts
set_option linter.unusedVariables false
set_option linter.unusedSimpArgs false
set_option maxRecDepth 100000
namespace Go.Proofs.YtkelfbakcpidjaaGreatDoor
open Go.RowKit
theorem tyInst : ty Tryz.prog 28 = some (true, 2) := by kernel_rfl
theorem zeroInst : zeroL Tryz.prog 28 = some [.lit (.int .i64 0), .lit (.slice none 0 0)] := by kernel_rfl
theorem fldInst0 : fld Tryz.prog 28 0 = some (0, false, 1) := by kernel_rfl
theorem fldInst1 : fld Tryz.prog 28 1 = some (1, false, 1) := by kernel_rfl
theorem fldsInst : flds Tryz.prog 28 = some [(0, 1), (1, 1)] := by kernel_rfl
theorem appInts : appTy Tryz.prog 22 = some (1, 8) := by kernel_rfl
theorem eltSzInts : eltSz Tryz.prog 22 = some (3, 1) := by kernel_rfl
theorem eltSInts : eltS Tryz.prog 22 = some 1 := by kernel_rfl
theorem zeroInt : zeroL Tryz.prog 3 = some [.lit (.int .i64 0)] := by kernel_rfl
theorem cells_inst (k : IntKind) (r : Int) (c : Cap) (rows : List (List V)) : cellsV (.agg [.lit (.int k r), .sl c rows]) = some [.lit (.int k r), .sl c rows] := by simp [cellsV, oneV]
end Go.Proofs.YtkelfbakcpidjaaGreatDoor
