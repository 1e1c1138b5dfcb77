/-
  TopFreedWay: all its runs.
-/
import Derived.Test.YtmdifacbhodikaaGreatDoorTfRun1
import Derived.Test.YtmdifacbhodikaaGreatDoorTfRun2
import Derived.Test.YtmdifacbhodikaaGreatDoorTfRun3
set_option linter.all false
namespace Go.Fk
open Go Go.Fw

/-- Every run. -/
theorem all6 : ∀ h, 0 ≤ h → h ≤ 11 → run6 h = true
  | 0, _, _ => r6_0
  | 1, _, _ => r6_1
  | 2, _, _ => r6_2
  | 3, _, _ => r6_3
  | 4, _, _ => r6_4
  | 5, _, _ => r6_5
  | 6, _, _ => r6_6
  | 7, _, _ => r6_7
  | 8, _, _ => r6_8
  | 9, _, _ => r6_9
  | 10, _, _ => r6_10
  | 11, _, _ => r6_11
  | h + 12, _, h2 => absurd h2 (by omega)

end Go.Fk
