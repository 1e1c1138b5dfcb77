/-
  TopTaintAdd: runs that are told whole, part 8.
-/
import Derived.Test.YtmdifacbhodikaaGreatDoorTaT
set_option linter.all false
set_option maxRecDepth 20000
namespace Go.Fk
open Go Go.Fw

theorem r4_4_1 : run4 4 1 = true := by kernel_rfl
theorem r4_5_1 : run4 5 1 = true := by kernel_rfl
theorem r4_7_0 : run4 7 0 = true := by kernel_rfl
theorem r4_7_3 : run4 7 3 = true := by kernel_rfl
theorem r4_9_3 : run4 9 3 = true := by kernel_rfl
theorem r4_9_7 : run4 9 7 = true := by kernel_rfl
theorem r4_11_2 : run4 11 2 = true := by kernel_rfl
theorem r4_11_11 : run4 11 11 = true := by kernel_rfl
theorem r4_12_2 : run4 12 2 = true := by kernel_rfl
theorem r4_12_6 : run4 12 6 = true := by kernel_rfl
theorem r4_13_7 : run4 13 7 = true := by kernel_rfl
theorem r4_14_7 : run4 14 7 = true := by kernel_rfl
theorem r4_15_1 (j : Nat) : run4 (j + 15) 1 = true := by kernel_rfl
theorem r4_15_10 (j : Nat) : run4 (j + 15) 10 = true := by kernel_rfl
theorem r4_15_19 (j : Nat) : run4 (j + 15) 19 = true := by kernel_rfl

end Go.Fk
