/-
  TopTaintAdd: runs that are told whole, part 7.
-/
import Derived.Test.YtmdifacbhodikaaGreatDoorTaT
set_option linter.all false
set_option maxRecDepth 20000
namespace Go.Fk
open Go Go.Fw

theorem r4_1_1 : run4 1 1 = true := by kernel_rfl
theorem r4_4_0 : run4 4 0 = true := by kernel_rfl
theorem r4_5_0 : run4 5 0 = true := by kernel_rfl
theorem r4_6_3 : run4 6 3 = true := by kernel_rfl
theorem r4_8_8 : run4 8 8 = true := by kernel_rfl
theorem r4_9_2 : run4 9 2 = true := by kernel_rfl
theorem r4_9_6 : run4 9 6 = true := by kernel_rfl
theorem r4_11_1 : run4 11 1 = true := by kernel_rfl
theorem r4_11_10 : run4 11 10 = true := by kernel_rfl
theorem r4_12_1 : run4 12 1 = true := by kernel_rfl
theorem r4_12_5 : run4 12 5 = true := by kernel_rfl
theorem r4_13_6 : run4 13 6 = true := by kernel_rfl
theorem r4_14_6 : run4 14 6 = true := by kernel_rfl
theorem r4_15_0 (j : Nat) : run4 (j + 15) 0 = true := by kernel_rfl
theorem r4_15_9 (j : Nat) : run4 (j + 15) 9 = true := by kernel_rfl
theorem r4_15_18 (j : Nat) : run4 (j + 15) 18 = true := by kernel_rfl

end Go.Fk
