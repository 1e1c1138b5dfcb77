/-
  TopDead: runs that are told whole, part 3.
-/
import Derived.Test.YtmdifacbhodikaaGreatDoorTdT
set_option linter.all false
set_option maxRecDepth 20000
namespace Go.Fk
open Go Go.Fw

theorem r5_2_true : run5 2 true = true := by kernel_rfl
theorem r5_3_true : run5 3 true = true := by kernel_rfl
theorem r5_6_true : run5 6 true = true := by kernel_rfl
theorem r5_7_true : run5 7 true = true := by kernel_rfl

end Go.Fk
