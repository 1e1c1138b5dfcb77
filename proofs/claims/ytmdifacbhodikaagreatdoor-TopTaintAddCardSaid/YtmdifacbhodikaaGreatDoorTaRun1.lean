/-
  TopTaintAdd: runs that are told whole, part 1.
-/
import Derived.Test.YtmdifacbhodikaaGreatDoorTaT
set_option linter.all false
set_option maxRecDepth 20000
namespace Go.Fk
open Go Go.Fw

theorem r4_4_3 : run4 4 3 = true := by kernel_rfl
theorem r4_5_3 : run4 5 3 = true := by kernel_rfl
theorem r4_7_2 : run4 7 2 = true := by kernel_rfl
theorem r4_7_5 : run4 7 5 = true := by kernel_rfl
theorem r4_9_9 : run4 9 9 = true := by kernel_rfl
theorem r4_10_1 : run4 10 1 = true := by kernel_rfl
theorem r4_10_7 : run4 10 7 = true := by kernel_rfl
theorem r4_11_4 : run4 11 4 = true := by kernel_rfl
theorem r4_12_8 : run4 12 8 = true := by kernel_rfl
theorem r4_13_0 : run4 13 0 = true := by kernel_rfl
theorem r4_13_9 : run4 13 9 = true := by kernel_rfl
theorem r4_14_0 : run4 14 0 = true := by kernel_rfl
theorem r4_14_9 : run4 14 9 = true := by kernel_rfl
theorem r4_15_3 (j : Nat) : run4 (j + 15) 3 = true := by kernel_rfl
theorem r4_15_12 (j : Nat) : run4 (j + 15) 12 = true := by kernel_rfl

end Go.Fk
