/-
  TopFreeCall: runs that are told whole, part 1.
-/
import Derived.Test.YtmdifacbhodikaaGreatDoorTcT
set_option linter.all false
set_option maxRecDepth 20000
namespace Go.Fk
open Go Go.Fw

theorem r7_1_true : run7 1 true = yesR := by kernel_rfl
theorem r7_8_true : run7 8 true = yesR := by kernel_rfl

end Go.Fk
