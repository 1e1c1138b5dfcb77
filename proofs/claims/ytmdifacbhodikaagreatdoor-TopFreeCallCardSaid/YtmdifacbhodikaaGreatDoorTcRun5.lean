/-
  TopFreeCall: runs that are told whole, part 5.
-/
import Derived.Test.YtmdifacbhodikaaGreatDoorTcT
set_option linter.all false
set_option maxRecDepth 20000
namespace Go.Fk
open Go Go.Fw

theorem r7_3_true : run7 3 true = yesR := by kernel_rfl
theorem r7_6_true : run7 6 true = yesR := by kernel_rfl

end Go.Fk
