/-
  TopTaintAdd: runs that are told whole, part 3.
-/
import Derived.Test.YtmdifacbhodikaaGreatDoorTaT
set_option linter.all false
set_option maxRecDepth 20000
namespace Go.Fk
open Go Go.Fw

theorem r4_2_0 : run4 2 0 = true := by kernel_rfl
theorem r4_3_0 : run4 3 0 = true := by kernel_rfl
theorem r4_5_5 : run4 5 5 = true := by kernel_rfl
theorem r4_7_7 : run4 7 7 = true := by kernel_rfl
theorem r4_8_1 : run4 8 1 = true := by kernel_rfl
theorem r4_8_4 : run4 8 4 = true := by kernel_rfl
theorem r4_10_3 : run4 10 3 = true := by kernel_rfl
theorem r4_10_9 : run4 10 9 = true := by kernel_rfl
theorem r4_11_6 : run4 11 6 = true := by kernel_rfl
theorem r4_12_10 : run4 12 10 = true := by kernel_rfl
theorem r4_13_2 : run4 13 2 = true := by kernel_rfl
theorem r4_13_11 : run4 13 11 = true := by kernel_rfl
theorem r4_14_2 : run4 14 2 = true := by kernel_rfl
theorem r4_14_11 : run4 14 11 = true := by kernel_rfl
theorem r4_15_5 (j : Nat) : run4 (j + 15) 5 = true := by kernel_rfl
theorem r4_15_14 (j : Nat) : run4 (j + 15) 14 = true := by kernel_rfl

end Go.Fk
