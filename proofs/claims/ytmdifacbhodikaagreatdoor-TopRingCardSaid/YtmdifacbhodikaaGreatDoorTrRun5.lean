/-
  TopRing: runs that are told whole, part 5.
-/
import Derived.Test.YtmdifacbhodikaaGreatDoorTrT
set_option linter.all false
set_option maxRecDepth 20000
namespace Go.Fk
open Go Go.Fw

theorem r8_5 : run8 5  = yesR := by kernel_rfl
theorem r8_6 : run8 6  = yesR := by kernel_rfl

end Go.Fk
