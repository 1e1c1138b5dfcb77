/-
  TopWay: runs that are told whole, part 4.
-/
import Derived.Test.YtmdifacbhodikaaGreatDoorTwT
set_option linter.all false
set_option maxRecDepth 20000
namespace Go.Fk
open Go Go.Fw

theorem r3_4_1 (z : Int) : run3 4 1 z = yesR := by kernel_rfl
theorem r3_5_4 (z : Int) : run3 5 4 z = yesR := by kernel_rfl
theorem r3_7_1 (z : Int) : run3 7 1 z = yesR := by kernel_rfl
theorem r3_9_2 (z : Int) : run3 9 2 z = yesR := by kernel_rfl
theorem r3_10_7 (z : Int) : run3 10 7 z = yesR := by kernel_rfl

end Go.Fk
