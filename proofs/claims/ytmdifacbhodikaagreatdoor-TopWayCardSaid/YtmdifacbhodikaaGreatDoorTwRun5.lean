/-
  TopWay: runs that are told whole, part 5.
-/
import Derived.Test.YtmdifacbhodikaaGreatDoorTwT
set_option linter.all false
set_option maxRecDepth 20000
namespace Go.Fk
open Go Go.Fw

theorem r3_4_0 (z : Int) : run3 4 0 z = yesR := by kernel_rfl
theorem r3_5_3 (z : Int) : run3 5 3 z = yesR := by kernel_rfl
theorem r3_7_0 (z : Int) : run3 7 0 z = yesR := by kernel_rfl
theorem r3_9_1 (z : Int) : run3 9 1 z = yesR := by kernel_rfl
theorem r3_10_6 (z : Int) : run3 10 6 z = yesR := by kernel_rfl

end Go.Fk
