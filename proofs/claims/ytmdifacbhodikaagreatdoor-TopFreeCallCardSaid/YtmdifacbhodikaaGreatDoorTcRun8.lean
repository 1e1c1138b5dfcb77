/-
  TopFreeCall: runs that are told whole, part 8.
-/
import Derived.Test.YtmdifacbhodikaaGreatDoorTcT
set_option linter.all false
set_option maxRecDepth 20000
namespace Go.Fk
open Go Go.Fw

theorem r7_4_false : run7 4 false = yesR := by kernel_rfl
theorem r7_5_false : run7 5 false = yesR := by kernel_rfl

end Go.Fk
