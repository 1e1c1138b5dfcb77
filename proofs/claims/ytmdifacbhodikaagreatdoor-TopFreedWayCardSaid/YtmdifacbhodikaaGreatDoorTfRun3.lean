/-
  TopFreedWay: runs that are told whole, part 3.
-/
import Derived.Test.YtmdifacbhodikaaGreatDoorTfT
set_option linter.all false
set_option maxRecDepth 20000
namespace Go.Fk
open Go Go.Fw

theorem r6_2 : run6 2  = true := by kernel_rfl
theorem r6_3 : run6 3  = true := by kernel_rfl
theorem r6_8 : run6 8  = true := by kernel_rfl
theorem r6_9 : run6 9  = true := by kernel_rfl

end Go.Fk
