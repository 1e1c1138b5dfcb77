/-
  TopTaintAdd: runs that are told whole, part 9.
-/
import Derived.Test.YtmdifacbhodikaaGreatDoorTaT
set_option linter.all false
set_option maxRecDepth 20000
namespace Go.Fk
open Go Go.Fw

theorem r4_4_2 : run4 4 2 = true := by kernel_rfl
theorem r4_5_2 : run4 5 2 = true := by kernel_rfl
theorem r4_7_1 : run4 7 1 = true := by kernel_rfl
theorem r4_7_4 : run4 7 4 = true := by kernel_rfl
theorem r4_9_8 : run4 9 8 = true := by kernel_rfl
theorem r4_10_0 : run4 10 0 = true := by kernel_rfl
theorem r4_10_6 : run4 10 6 = true := by kernel_rfl
theorem r4_11_3 : run4 11 3 = true := by kernel_rfl
theorem r4_12_3 : run4 12 3 = true := by kernel_rfl
theorem r4_12_7 : run4 12 7 = true := by kernel_rfl
theorem r4_13_8 : run4 13 8 = true := by kernel_rfl
theorem r4_14_8 : run4 14 8 = true := by kernel_rfl
theorem r4_15_2 (j : Nat) : run4 (j + 15) 2 = true := by kernel_rfl
theorem r4_15_11 (j : Nat) : run4 (j + 15) 11 = true := by kernel_rfl
theorem r4_15_20 (j : Nat) : run4 (j + 15) 20 = true := by kernel_rfl

end Go.Fk
