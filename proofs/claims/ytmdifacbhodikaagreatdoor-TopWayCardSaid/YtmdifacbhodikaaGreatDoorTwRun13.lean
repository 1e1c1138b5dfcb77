/-
  TopWay: runs that are told whole, part 13.
-/
import Derived.Test.YtmdifacbhodikaaGreatDoorTwT
set_option linter.all false
set_option maxRecDepth 20000
namespace Go.Fk
open Go Go.Fw

theorem r3_2_0 (z : Int) : run3 2 0 z = yesR := by kernel_rfl
theorem r3_6_2 (z : Int) : run3 6 2 z = yesR := by kernel_rfl
theorem r3_7_5 (z : Int) : run3 7 5 z = yesR := by kernel_rfl
theorem r3_9_6 (z : Int) : run3 9 6 z = yesR := by kernel_rfl
theorem r3_9_8 (z : Int) : run3 9 8 z = yesR := by kernel_rfl

end Go.Fk
