/-
  TopWay: runs that are told whole, part 2.
-/
import Derived.Test.YtmdifacbhodikaaGreatDoorTwT
set_option linter.all false
set_option maxRecDepth 20000
namespace Go.Fk
open Go Go.Fw

theorem r3_1_0 (z : Int) : run3 1 0 z = yesR := by kernel_rfl
theorem r3_6_0 (z : Int) : run3 6 0 z = yesR := by kernel_rfl
theorem r3_7_3 (z : Int) : run3 7 3 z = yesR := by kernel_rfl
theorem r3_9_4 (z : Int) : run3 9 4 z = yesR := by kernel_rfl
theorem r3_10_9 (z : Int) : run3 10 9 z = yesR := by kernel_rfl

end Go.Fk
