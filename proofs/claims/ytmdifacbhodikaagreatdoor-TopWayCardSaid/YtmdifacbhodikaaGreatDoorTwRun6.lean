/-
  TopWay: runs that are told whole, part 6.
-/
import Derived.Test.YtmdifacbhodikaaGreatDoorTwT
set_option linter.all false
set_option maxRecDepth 20000
namespace Go.Fk
open Go Go.Fw

theorem r3_3_3 (z : Int) : run3 3 3 z = yesR := by kernel_rfl
theorem r3_6_5 (z : Int) : run3 6 5 z = yesR := by kernel_rfl
theorem r3_6_6 (z : Int) : run3 6 6 z = yesR := by kernel_rfl
theorem r3_9_0 (z : Int) : run3 9 0 z = yesR := by kernel_rfl
theorem r3_10_5 (z : Int) : run3 10 5 z = yesR := by kernel_rfl

end Go.Fk
