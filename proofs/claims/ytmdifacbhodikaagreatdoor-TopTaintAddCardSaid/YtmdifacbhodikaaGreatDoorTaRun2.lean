/-
  TopTaintAdd: runs that are told whole, part 2.
-/
import Derived.Test.YtmdifacbhodikaaGreatDoorTaT
set_option linter.all false
set_option maxRecDepth 20000
namespace Go.Fk
open Go Go.Fw

theorem r4_4_4 : run4 4 4 = true := by kernel_rfl
theorem r4_5_4 : run4 5 4 = true := by kernel_rfl
theorem r4_7_6 : run4 7 6 = true := by kernel_rfl
theorem r4_8_0 : run4 8 0 = true := by kernel_rfl
theorem r4_8_3 : run4 8 3 = true := by kernel_rfl
theorem r4_10_2 : run4 10 2 = true := by kernel_rfl
theorem r4_10_8 : run4 10 8 = true := by kernel_rfl
theorem r4_11_5 : run4 11 5 = true := by kernel_rfl
theorem r4_12_9 : run4 12 9 = true := by kernel_rfl
theorem r4_13_1 : run4 13 1 = true := by kernel_rfl
theorem r4_13_10 : run4 13 10 = true := by kernel_rfl
theorem r4_14_1 : run4 14 1 = true := by kernel_rfl
theorem r4_14_10 : run4 14 10 = true := by kernel_rfl
theorem r4_15_4 (j : Nat) : run4 (j + 15) 4 = true := by kernel_rfl
theorem r4_15_13 (j : Nat) : run4 (j + 15) 13 = true := by kernel_rfl

end Go.Fk
