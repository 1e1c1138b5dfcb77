/-
  TopWay: runs that are told whole, part 3.
-/
import Derived.Test.YtmdifacbhodikaaGreatDoorTwT
set_option linter.all false
set_option maxRecDepth 20000
namespace Go.Fk
open Go Go.Fw

theorem r3_4_2 (z : Int) : run3 4 2 z = yesR := by kernel_rfl
theorem r3_5_5 (z : Int) : run3 5 5 z = yesR := by kernel_rfl
theorem r3_7_2 (z : Int) : run3 7 2 z = yesR := by kernel_rfl
theorem r3_9_3 (z : Int) : run3 9 3 z = yesR := by kernel_rfl
theorem r3_10_8 (z : Int) : run3 10 8 z = yesR := by kernel_rfl

end Go.Fk
