/-
  TopDead: runs that are told whole, part 1.
-/
import Derived.Test.YtmdifacbhodikaaGreatDoorTdT
set_option linter.all false
set_option maxRecDepth 20000
namespace Go.Fk
open Go Go.Fw

theorem r5_1_true : run5 1 true = true := by kernel_rfl
theorem r5_4_true : run5 4 true = true := by kernel_rfl
theorem r5_5_true : run5 5 true = true := by kernel_rfl
theorem r5_8_true : run5 8 true = true := by kernel_rfl

end Go.Fk
