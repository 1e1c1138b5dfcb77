/-
  TopRing: runs that are told whole, part 4.
-/
import Derived.Test.YtmdifacbhodikaaGreatDoorTrT
set_option linter.all false
set_option maxRecDepth 20000
namespace Go.Fk
open Go Go.Fw

theorem r8_4 : run8 4  = yesR := by kernel_rfl
theorem r8_7 : run8 7  = yesR := by kernel_rfl

end Go.Fk
