/-
  TopWay: runs that are told whole, part 11.
-/
import Derived.Test.YtmdifacbhodikaaGreatDoorTwT
set_option linter.all false
set_option maxRecDepth 20000
namespace Go.Fk
open Go Go.Fw

theorem r3_2_2 (z : Int) : run3 2 2 z = yesR := by kernel_rfl
theorem r3_6_4 (z : Int) : run3 6 4 z = yesR := by kernel_rfl
theorem r3_7_7 (z : Int) : run3 7 7 z = yesR := by kernel_rfl
theorem r3_8_4 (z : Int) : run3 8 4 z = yesR := by kernel_rfl
theorem r3_10_0 (z : Int) : run3 10 0 z = yesR := by kernel_rfl

end Go.Fk
