/-
  TopWay: runs that are told whole, part 12.
-/
import Derived.Test.YtmdifacbhodikaaGreatDoorTwT
set_option linter.all false
set_option maxRecDepth 20000
namespace Go.Fk
open Go Go.Fw

theorem r3_2_1 (z : Int) : run3 2 1 z = yesR := by kernel_rfl
theorem r3_6_3 (z : Int) : run3 6 3 z = yesR := by kernel_rfl
theorem r3_7_6 (z : Int) : run3 7 6 z = yesR := by kernel_rfl
theorem r3_9_7 (z : Int) : run3 9 7 z = yesR := by kernel_rfl
theorem r3_9_9 (z : Int) : run3 9 9 z = yesR := by kernel_rfl

end Go.Fk
