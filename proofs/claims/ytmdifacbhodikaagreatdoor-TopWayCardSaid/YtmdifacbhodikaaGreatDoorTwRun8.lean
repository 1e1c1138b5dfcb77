/-
  TopWay: runs that are told whole, part 8.
-/
import Derived.Test.YtmdifacbhodikaaGreatDoorTwT
set_option linter.all false
set_option maxRecDepth 20000
namespace Go.Fk
open Go Go.Fw

theorem r3_3_1 (z : Int) : run3 3 1 z = yesR := by kernel_rfl
theorem r3_5_1 (z : Int) : run3 5 1 z = yesR := by kernel_rfl
theorem r3_8_2 (z : Int) : run3 8 2 z = yesR := by kernel_rfl
theorem r3_8_7 (z : Int) : run3 8 7 z = yesR := by kernel_rfl
theorem r3_10_3 (z : Int) : run3 10 3 z = yesR := by kernel_rfl

end Go.Fk
