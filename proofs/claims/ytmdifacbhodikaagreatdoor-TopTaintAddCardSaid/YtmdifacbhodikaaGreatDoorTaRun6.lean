/-
  TopTaintAdd: runs that are told whole, part 6.
-/
import Derived.Test.YtmdifacbhodikaaGreatDoorTaT
set_option linter.all false
set_option maxRecDepth 20000
namespace Go.Fk
open Go Go.Fw

theorem r4_1_0 : run4 1 0 = true := by kernel_rfl
theorem r4_3_3 : run4 3 3 = true := by kernel_rfl
theorem r4_6_2 : run4 6 2 = true := by kernel_rfl
theorem r4_6_6 : run4 6 6 = true := by kernel_rfl
theorem r4_8_7 : run4 8 7 = true := by kernel_rfl
theorem r4_9_1 : run4 9 1 = true := by kernel_rfl
theorem r4_9_5 : run4 9 5 = true := by kernel_rfl
theorem r4_11_0 : run4 11 0 = true := by kernel_rfl
theorem r4_11_9 : run4 11 9 = true := by kernel_rfl
theorem r4_12_0 : run4 12 0 = true := by kernel_rfl
theorem r4_12_4 : run4 12 4 = true := by kernel_rfl
theorem r4_13_5 : run4 13 5 = true := by kernel_rfl
theorem r4_14_5 : run4 14 5 = true := by kernel_rfl
theorem r4_14_14 : run4 14 14 = true := by kernel_rfl
theorem r4_15_8 (j : Nat) : run4 (j + 15) 8 = true := by kernel_rfl
theorem r4_15_17 (j : Nat) : run4 (j + 15) 17 = true := by kernel_rfl

end Go.Fk
