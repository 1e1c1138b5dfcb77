/-
  TopFreedWay: runs that are told whole, part 2.
-/
import Derived.Test.YtmdifacbhodikaaGreatDoorTfT
set_option linter.all false
set_option maxRecDepth 20000
namespace Go.Fk
open Go Go.Fw

theorem r6_1 : run6 1  = true := by kernel_rfl
theorem r6_4 : run6 4  = true := by kernel_rfl
theorem r6_7 : run6 7  = true := by kernel_rfl
theorem r6_10 : run6 10  = true := by kernel_rfl

end Go.Fk
