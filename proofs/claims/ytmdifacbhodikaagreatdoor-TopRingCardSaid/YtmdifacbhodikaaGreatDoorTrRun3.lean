/-
  TopRing: runs that are told whole, part 3.
-/
import Derived.Test.YtmdifacbhodikaaGreatDoorTrT
set_option linter.all false
set_option maxRecDepth 20000
namespace Go.Fk
open Go Go.Fw

theorem r8_3 : run8 3  = yesR := by kernel_rfl
theorem r8_8 : run8 8  = yesR := by kernel_rfl

end Go.Fk
