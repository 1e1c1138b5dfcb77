/-
  TopWay: runs that are told whole, part 1.
-/
import Derived.Test.YtmdifacbhodikaaGreatDoorTwT
set_option linter.all false
set_option maxRecDepth 20000
namespace Go.Fk
open Go Go.Fw

theorem r3_1_1 (z : Int) : run3 1 1 z = yesR := by kernel_rfl
theorem r3_6_1 (z : Int) : run3 6 1 z = yesR := by kernel_rfl
theorem r3_7_4 (z : Int) : run3 7 4 z = yesR := by kernel_rfl
theorem r3_9_5 (z : Int) : run3 9 5 z = yesR := by kernel_rfl
theorem r3_10_10 (z : Int) : run3 10 10 z = yesR := by kernel_rfl

end Go.Fk
