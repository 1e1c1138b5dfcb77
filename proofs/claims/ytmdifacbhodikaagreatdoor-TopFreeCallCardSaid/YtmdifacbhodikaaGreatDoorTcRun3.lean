/-
  TopFreeCall: runs that are told whole, part 3.
-/
import Derived.Test.YtmdifacbhodikaaGreatDoorTcT
set_option linter.all false
set_option maxRecDepth 20000
namespace Go.Fk
open Go Go.Fw

theorem r7_2_true : run7 2 true = yesR := by kernel_rfl
theorem r7_7_true : run7 7 true = yesR := by kernel_rfl

end Go.Fk
