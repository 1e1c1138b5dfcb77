/-
  TopTaintAdd: runs that are told whole, part 5.
-/
import Derived.Test.YtmdifacbhodikaaGreatDoorTaT
set_option linter.all false
set_option maxRecDepth 20000
namespace Go.Fk
open Go Go.Fw

theorem r4_2_2 : run4 2 2 = true := by kernel_rfl
theorem r4_3_2 : run4 3 2 = true := by kernel_rfl
theorem r4_6_1 : run4 6 1 = true := by kernel_rfl
theorem r4_6_5 : run4 6 5 = true := by kernel_rfl
theorem r4_8_6 : run4 8 6 = true := by kernel_rfl
theorem r4_9_0 : run4 9 0 = true := by kernel_rfl
theorem r4_9_4 : run4 9 4 = true := by kernel_rfl
theorem r4_10_5 : run4 10 5 = true := by kernel_rfl
theorem r4_11_8 : run4 11 8 = true := by kernel_rfl
theorem r4_12_12 : run4 12 12 = true := by kernel_rfl
theorem r4_13_4 : run4 13 4 = true := by kernel_rfl
theorem r4_13_13 : run4 13 13 = true := by kernel_rfl
theorem r4_14_4 : run4 14 4 = true := by kernel_rfl
theorem r4_14_13 : run4 14 13 = true := by kernel_rfl
theorem r4_15_7 (j : Nat) : run4 (j + 15) 7 = true := by kernel_rfl
theorem r4_15_16 (j : Nat) : run4 (j + 15) 16 = true := by kernel_rfl

end Go.Fk
