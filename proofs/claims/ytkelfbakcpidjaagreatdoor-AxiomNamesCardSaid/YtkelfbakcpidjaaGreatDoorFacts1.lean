/- What is known of the types. Printed by tools/factsgen.py. -/
import Derived.Test.YtkelfbakcpidjaaGreatDoorAmHeap
import Derived.Test.YtkelfbakcpidjaaGreatDoorProg
set_option maxRecDepth 100000
namespace Go.Proofs.YtkelfbakcpidjaaGreatDoor
open Go.RowKit
theorem f1_0_ty : ty Tryz.prog 3 = some (false, 1) := by kernel_rfl
theorem f1_0_arrT : arrT Tryz.prog 3 = none := by kernel_rfl
theorem f1_0_zero : zeroL Tryz.prog 3 = some [V.lit (Value.int IntKind.i64 0)] := by kernel_rfl
theorem f1_0_elt : elt Tryz.prog 3 = none := by kernel_rfl
theorem f1_0_intT : intT Tryz.prog 3 = some IntKind.i64 := by kernel_rfl
theorem f1_1_ty : ty Tryz.prog 4 = some (false, 1) := by kernel_rfl
theorem f1_1_arrT : arrT Tryz.prog 4 = none := by kernel_rfl
theorem f1_1_zero : zeroL Tryz.prog 4 = some [V.lit (Value.bool false)] := by kernel_rfl
theorem f1_1_elt : elt Tryz.prog 4 = none := by kernel_rfl
theorem f1_1_isB : isBoolT Tryz.prog 4 = true := by kernel_rfl
theorem f1_2_ty : ty Tryz.prog 9 = some (false, 1) := by kernel_rfl
theorem f1_2_arrT : arrT Tryz.prog 9 = none := by kernel_rfl
theorem f1_2_zero : zeroL Tryz.prog 9 = some [V.lit (Value.string ⟨#[]⟩)] := by kernel_rfl
theorem f1_2_elt : elt Tryz.prog 9 = none := by kernel_rfl
theorem f1_2_isT : isStrT Tryz.prog 9 = true := by kernel_rfl
theorem f1_3_ty : ty Tryz.prog 24 = some (false, 1) := by kernel_rfl
theorem f1_3_arrT : arrT Tryz.prog 24 = none := by kernel_rfl
theorem f1_3_zero : zeroL Tryz.prog 24 = some [V.lit (Value.int IntKind.i64 0)] := by kernel_rfl
theorem f1_3_elt : elt Tryz.prog 24 = none := by kernel_rfl
theorem f1_3_intT : intT Tryz.prog 24 = some IntKind.i64 := by kernel_rfl
theorem f1_4_ty : ty Tryz.prog 22 = some (false, 1) := by kernel_rfl
theorem f1_4_arrT : arrT Tryz.prog 22 = none := by kernel_rfl
theorem f1_4_zero : zeroL Tryz.prog 22 = some [V.lit (Value.slice none 0 0)] := by kernel_rfl
theorem f1_4_elt : elt Tryz.prog 22 = some 3 := by kernel_rfl
theorem f1_4_eltSz : eltSz Tryz.prog 22 = some (3, 1) := by kernel_rfl
theorem f1_4_eltS : eltS Tryz.prog 22 = some 1 := by kernel_rfl
theorem f1_4_appTy : appTy Tryz.prog 22 = some (1, 8) := by kernel_rfl
theorem f1_4_isS : isSliceT Tryz.prog 22 = true := by kernel_rfl
theorem f1_5_ty : ty Tryz.prog 28 = some (true, 2) := by kernel_rfl
theorem f1_5_arrT : arrT Tryz.prog 28 = none := by kernel_rfl
theorem f1_5_zero : zeroL Tryz.prog 28 = some [V.lit (Value.int IntKind.i64 0), V.lit (Value.slice none 0 0)] := by kernel_rfl
theorem f1_5_elt : elt Tryz.prog 28 = none := by kernel_rfl
theorem f1_5_flds : flds Tryz.prog 28 = some [(0, 1), (1, 1)] := by kernel_rfl
theorem f1_5_fld0 : fld Tryz.prog 28 0 = some (0, false, 1) := by kernel_rfl
theorem f1_5_fld1 : fld Tryz.prog 28 1 = some (1, false, 1) := by kernel_rfl
theorem f1_6_ty : ty Tryz.prog 38 = some (true, 5) := by kernel_rfl
theorem f1_6_arrT : arrT Tryz.prog 38 = none := by kernel_rfl
theorem f1_6_zero : zeroL Tryz.prog 38 = some [V.lit (Value.string ⟨#[]⟩), V.lit (Value.int IntKind.i64 0), V.lit Value.nilFunc, V.lit Value.nilFunc, V.lit Value.nilFunc] := by kernel_rfl
theorem f1_6_elt : elt Tryz.prog 38 = none := by kernel_rfl
theorem f1_6_flds : flds Tryz.prog 38 = some [(0, 1), (1, 1), (2, 1), (3, 1), (4, 1)] := by kernel_rfl
theorem f1_6_fld0 : fld Tryz.prog 38 0 = some (0, false, 1) := by kernel_rfl
theorem f1_6_fld1 : fld Tryz.prog 38 1 = some (1, false, 1) := by kernel_rfl
theorem f1_6_fld2 : fld Tryz.prog 38 2 = some (2, false, 1) := by kernel_rfl
theorem f1_6_fld3 : fld Tryz.prog 38 3 = some (3, false, 1) := by kernel_rfl
theorem f1_6_fld4 : fld Tryz.prog 38 4 = some (4, false, 1) := by kernel_rfl
theorem f1_7_ty : ty Tryz.prog 48 = some (true, 20) := by kernel_rfl
theorem f1_7_arrT : arrT Tryz.prog 48 = some (4, 5) := by kernel_rfl
theorem f1_7_zero : zeroL Tryz.prog 48 = some [V.lit (Value.string ⟨#[]⟩), V.lit (Value.int IntKind.i64 0), V.lit Value.nilFunc, V.lit Value.nilFunc, V.lit Value.nilFunc, V.lit (Value.string ⟨#[]⟩), V.lit (Value.int IntKind.i64 0), V.lit Value.nilFunc, V.lit Value.nilFunc, V.lit Value.nilFunc, V.lit (Value.string ⟨#[]⟩), V.lit (Value.int IntKind.i64 0), V.lit Value.nilFunc, V.lit Value.nilFunc, V.lit Value.nilFunc, V.lit (Value.string ⟨#[]⟩), V.lit (Value.int IntKind.i64 0), V.lit Value.nilFunc, V.lit Value.nilFunc, V.lit Value.nilFunc] := by kernel_rfl
theorem f1_7_elt : elt Tryz.prog 48 = none := by kernel_rfl
theorem f1_8_ty : ty Tryz.prog 53 = some (false, 1) := by kernel_rfl
theorem f1_8_arrT : arrT Tryz.prog 53 = none := by kernel_rfl
theorem f1_8_zero : zeroL Tryz.prog 53 = some [V.lit (Value.slice none 0 0)] := by kernel_rfl
theorem f1_8_elt : elt Tryz.prog 53 = some 38 := by kernel_rfl
theorem f1_8_eltSz : eltSz Tryz.prog 53 = some (38, 5) := by kernel_rfl
theorem f1_8_eltS : eltS Tryz.prog 53 = some 5 := by kernel_rfl
theorem f1_8_appTy : appTy Tryz.prog 53 = some (5, 48) := by kernel_rfl
theorem f1_8_isS : isSliceT Tryz.prog 53 = true := by kernel_rfl
theorem f1_9_ty : ty Tryz.prog 45 = some (false, 1) := by kernel_rfl
theorem f1_9_arrT : arrT Tryz.prog 45 = none := by kernel_rfl
theorem f1_9_zero : zeroL Tryz.prog 45 = some [V.lit (Value.slice none 0 0)] := by kernel_rfl
theorem f1_9_elt : elt Tryz.prog 45 = some 9 := by kernel_rfl
theorem f1_9_eltSz : eltSz Tryz.prog 45 = some (9, 1) := by kernel_rfl
theorem f1_9_eltS : eltS Tryz.prog 45 = some 1 := by kernel_rfl
theorem f1_9_appTy : appTy Tryz.prog 45 = some (1, 16) := by kernel_rfl
theorem f1_9_isS : isSliceT Tryz.prog 45 = true := by kernel_rfl
theorem f1_10_ty : ty Tryz.prog 51 = some (false, 1) := by kernel_rfl
theorem f1_10_arrT : arrT Tryz.prog 51 = none := by kernel_rfl
theorem f1_10_zero : zeroL Tryz.prog 51 = some [V.lit Value.nilFunc] := by kernel_rfl
theorem f1_10_elt : elt Tryz.prog 51 = none := by kernel_rfl
theorem f1_11_ty : ty Tryz.prog 47 = some (false, 1) := by kernel_rfl
theorem f1_11_arrT : arrT Tryz.prog 47 = none := by kernel_rfl
theorem f1_11_zero : zeroL Tryz.prog 47 = some [V.lit Value.nilFunc] := by kernel_rfl
theorem f1_11_elt : elt Tryz.prog 47 = none := by kernel_rfl
end Go.Proofs.YtkelfbakcpidjaaGreatDoor
