/-
  TopFreeCall: runs that are told whole, part 4.
-/
import Derived.Test.YtmdifacbhodikaaGreatDoorTcT
set_option linter.all false
set_option maxRecDepth 20000
namespace Go.Fk
open Go Go.Fw

theorem r7_2_false : run7 2 false = yesR := by kernel_rfl
theorem r7_7_false : run7 7 false = yesR := by kernel_rfl

end Go.Fk
