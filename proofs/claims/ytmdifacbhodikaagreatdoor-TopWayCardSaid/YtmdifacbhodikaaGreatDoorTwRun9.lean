/-
  TopWay: runs that are told whole, part 9.
-/
import Derived.Test.YtmdifacbhodikaaGreatDoorTwT
set_option linter.all false
set_option maxRecDepth 20000
namespace Go.Fk
open Go Go.Fw

theorem r3_3_0 (z : Int) : run3 3 0 z = yesR := by kernel_rfl
theorem r3_5_0 (z : Int) : run3 5 0 z = yesR := by kernel_rfl
theorem r3_8_1 (z : Int) : run3 8 1 z = yesR := by kernel_rfl
theorem r3_8_6 (z : Int) : run3 8 6 z = yesR := by kernel_rfl
theorem r3_10_2 (z : Int) : run3 10 2 z = yesR := by kernel_rfl

end Go.Fk
