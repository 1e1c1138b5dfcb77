/-
  TopWay: runs that are told whole, part 7.
-/
import Derived.Test.YtmdifacbhodikaaGreatDoorTwT
set_option linter.all false
set_option maxRecDepth 20000
namespace Go.Fk
open Go Go.Fw

theorem r3_3_2 (z : Int) : run3 3 2 z = yesR := by kernel_rfl
theorem r3_5_2 (z : Int) : run3 5 2 z = yesR := by kernel_rfl
theorem r3_8_3 (z : Int) : run3 8 3 z = yesR := by kernel_rfl
theorem r3_8_8 (z : Int) : run3 8 8 z = yesR := by kernel_rfl
theorem r3_10_4 (z : Int) : run3 10 4 z = yesR := by kernel_rfl

end Go.Fk
