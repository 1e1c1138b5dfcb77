/-
  TopDead: runs that are told whole, part 2.
-/
import Derived.Test.YtmdifacbhodikaaGreatDoorTdT
set_option linter.all false
set_option maxRecDepth 20000
namespace Go.Fk
open Go Go.Fw

theorem r5_1_false : run5 1 false = true := by kernel_rfl
theorem r5_4_false : run5 4 false = true := by kernel_rfl
theorem r5_5_false : run5 5 false = true := by kernel_rfl
theorem r5_8_false : run5 8 false = true := by kernel_rfl

end Go.Fk
