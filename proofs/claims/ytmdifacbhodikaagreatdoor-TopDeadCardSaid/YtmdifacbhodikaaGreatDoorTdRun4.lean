/-
  TopDead: runs that are told whole, part 4.
-/
import Derived.Test.YtmdifacbhodikaaGreatDoorTdT
set_option linter.all false
set_option maxRecDepth 20000
namespace Go.Fk
open Go Go.Fw

theorem r5_2_false : run5 2 false = true := by kernel_rfl
theorem r5_3_false : run5 3 false = true := by kernel_rfl
theorem r5_6_false : run5 6 false = true := by kernel_rfl
theorem r5_7_false : run5 7 false = true := by kernel_rfl

end Go.Fk
