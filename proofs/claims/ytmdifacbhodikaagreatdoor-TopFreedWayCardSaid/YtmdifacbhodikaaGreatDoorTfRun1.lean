/-
  TopFreedWay: runs that are told whole, part 1.
-/
import Derived.Test.YtmdifacbhodikaaGreatDoorTfT
set_option linter.all false
set_option maxRecDepth 20000
namespace Go.Fk
open Go Go.Fw

theorem r6_0 : run6 0  = true := by kernel_rfl
theorem r6_5 : run6 5  = true := by kernel_rfl
theorem r6_6 : run6 6  = true := by kernel_rfl
theorem r6_11 : run6 11  = true := by kernel_rfl

end Go.Fk
