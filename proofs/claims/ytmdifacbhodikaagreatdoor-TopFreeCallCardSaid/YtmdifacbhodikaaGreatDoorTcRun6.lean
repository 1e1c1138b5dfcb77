/-
  TopFreeCall: runs that are told whole, part 6.
-/
import Derived.Test.YtmdifacbhodikaaGreatDoorTcT
set_option linter.all false
set_option maxRecDepth 20000
namespace Go.Fk
open Go Go.Fw

theorem r7_3_false : run7 3 false = yesR := by kernel_rfl
theorem r7_6_false : run7 6 false = yesR := by kernel_rfl

end Go.Fk
