/-
  TopWay: runs that are told whole, part 10.
-/
import Derived.Test.YtmdifacbhodikaaGreatDoorTwT
set_option linter.all false
set_option maxRecDepth 20000
namespace Go.Fk
open Go Go.Fw

theorem r3_4_3 (z : Int) : run3 4 3 z = yesR := by kernel_rfl
theorem r3_4_4 (z : Int) : run3 4 4 z = yesR := by kernel_rfl
theorem r3_8_0 (z : Int) : run3 8 0 z = yesR := by kernel_rfl
theorem r3_8_5 (z : Int) : run3 8 5 z = yesR := by kernel_rfl
theorem r3_10_1 (z : Int) : run3 10 1 z = yesR := by kernel_rfl

end Go.Fk
