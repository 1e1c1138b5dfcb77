/-
  TopFreeCall: runs that are told whole, part 7.
-/
import Derived.Test.YtmdifacbhodikaaGreatDoorTcT
set_option linter.all false
set_option maxRecDepth 20000
namespace Go.Fk
open Go Go.Fw

theorem r7_4_true : run7 4 true = yesR := by kernel_rfl
theorem r7_5_true : run7 5 true = yesR := by kernel_rfl

end Go.Fk
