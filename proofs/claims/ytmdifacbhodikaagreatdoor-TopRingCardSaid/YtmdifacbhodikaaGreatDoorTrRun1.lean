/-
  TopRing: runs that are told whole, part 1.
-/
import Derived.Test.YtmdifacbhodikaaGreatDoorTrT
set_option linter.all false
set_option maxRecDepth 20000
namespace Go.Fk
open Go Go.Fw

theorem r8_1 : run8 1  = yesR := by kernel_rfl
theorem r8_10 : run8 10  = yesR := by kernel_rfl

end Go.Fk
