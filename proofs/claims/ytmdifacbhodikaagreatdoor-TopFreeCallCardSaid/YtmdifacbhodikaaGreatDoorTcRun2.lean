/-
  TopFreeCall: runs that are told whole, part 2.
-/
import Derived.Test.YtmdifacbhodikaaGreatDoorTcT
set_option linter.all false
set_option maxRecDepth 20000
namespace Go.Fk
open Go Go.Fw

theorem r7_1_false : run7 1 false = yesR := by kernel_rfl
theorem r7_8_false : run7 8 false = yesR := by kernel_rfl

end Go.Fk
