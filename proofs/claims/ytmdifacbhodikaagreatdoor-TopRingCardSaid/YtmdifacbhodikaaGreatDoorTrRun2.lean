/-
  TopRing: runs that are told whole, part 2.
-/
import Derived.Test.YtmdifacbhodikaaGreatDoorTrT
set_option linter.all false
set_option maxRecDepth 20000
namespace Go.Fk
open Go Go.Fw

theorem r8_2 : run8 2  = yesR := by kernel_rfl
theorem r8_9 : run8 9  = yesR := by kernel_rfl

end Go.Fk
