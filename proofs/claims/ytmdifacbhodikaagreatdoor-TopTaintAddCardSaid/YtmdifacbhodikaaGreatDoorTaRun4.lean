/-
  TopTaintAdd: runs that are told whole, part 4.
-/
import Derived.Test.YtmdifacbhodikaaGreatDoorTaT
set_option linter.all false
set_option maxRecDepth 20000
namespace Go.Fk
open Go Go.Fw

theorem r4_2_1 : run4 2 1 = true := by kernel_rfl
theorem r4_3_1 : run4 3 1 = true := by kernel_rfl
theorem r4_6_0 : run4 6 0 = true := by kernel_rfl
theorem r4_6_4 : run4 6 4 = true := by kernel_rfl
theorem r4_8_2 : run4 8 2 = true := by kernel_rfl
theorem r4_8_5 : run4 8 5 = true := by kernel_rfl
theorem r4_10_4 : run4 10 4 = true := by kernel_rfl
theorem r4_10_10 : run4 10 10 = true := by kernel_rfl
theorem r4_11_7 : run4 11 7 = true := by kernel_rfl
theorem r4_12_11 : run4 12 11 = true := by kernel_rfl
theorem r4_13_3 : run4 13 3 = true := by kernel_rfl
theorem r4_13_12 : run4 13 12 = true := by kernel_rfl
theorem r4_14_3 : run4 14 3 = true := by kernel_rfl
theorem r4_14_12 : run4 14 12 = true := by kernel_rfl
theorem r4_15_6 (j : Nat) : run4 (j + 15) 6 = true := by kernel_rfl
theorem r4_15_15 (j : Nat) : run4 (j + 15) 15 = true := by kernel_rfl

end Go.Fk
