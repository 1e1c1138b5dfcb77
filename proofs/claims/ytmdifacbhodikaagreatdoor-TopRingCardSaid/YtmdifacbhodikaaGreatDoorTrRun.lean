/-
  TopRing: all its runs.
-/
import Derived.Test.YtmdifacbhodikaaGreatDoorTrRun1
import Derived.Test.YtmdifacbhodikaaGreatDoorTrRun2
import Derived.Test.YtmdifacbhodikaaGreatDoorTrRun3
import Derived.Test.YtmdifacbhodikaaGreatDoorTrRun4
import Derived.Test.YtmdifacbhodikaaGreatDoorTrRun5
set_option linter.all false
namespace Go.Fk
open Go Go.Fw

/-- Every run. -/
theorem all8 : ∀ h, 1 ≤ h → h ≤ 10 → run8 h = yesR
  | 0, h1, _ => absurd h1 (by omega)
  | 1, _, _ => r8_1
  | 2, _, _ => r8_2
  | 3, _, _ => r8_3
  | 4, _, _ => r8_4
  | 5, _, _ => r8_5
  | 6, _, _ => r8_6
  | 7, _, _ => r8_7
  | 8, _, _ => r8_8
  | 9, _, _ => r8_9
  | 10, _, _ => r8_10
  | h + 11, _, h2 => absurd h2 (by omega)

end Go.Fk
