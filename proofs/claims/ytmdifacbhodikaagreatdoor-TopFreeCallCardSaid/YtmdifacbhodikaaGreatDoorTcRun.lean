/-
  TopFreeCall: all its runs.
-/
import Derived.Test.YtmdifacbhodikaaGreatDoorTcRun1
import Derived.Test.YtmdifacbhodikaaGreatDoorTcRun2
import Derived.Test.YtmdifacbhodikaaGreatDoorTcRun3
import Derived.Test.YtmdifacbhodikaaGreatDoorTcRun4
import Derived.Test.YtmdifacbhodikaaGreatDoorTcRun5
import Derived.Test.YtmdifacbhodikaaGreatDoorTcRun6
import Derived.Test.YtmdifacbhodikaaGreatDoorTcRun7
import Derived.Test.YtmdifacbhodikaaGreatDoorTcRun8
set_option linter.all false
namespace Go.Fk
open Go Go.Fw

/-- Every run. -/
theorem all7 : ∀ h b, 1 ≤ h → h ≤ 8 → run7 h b = yesR
  | 0, _, h1, _ => absurd h1 (by omega)
  | 1, true, _, _ => r7_1_true
  | 1, false, _, _ => r7_1_false
  | 2, true, _, _ => r7_2_true
  | 2, false, _, _ => r7_2_false
  | 3, true, _, _ => r7_3_true
  | 3, false, _, _ => r7_3_false
  | 4, true, _, _ => r7_4_true
  | 4, false, _, _ => r7_4_false
  | 5, true, _, _ => r7_5_true
  | 5, false, _, _ => r7_5_false
  | 6, true, _, _ => r7_6_true
  | 6, false, _, _ => r7_6_false
  | 7, true, _, _ => r7_7_true
  | 7, false, _, _ => r7_7_false
  | 8, true, _, _ => r7_8_true
  | 8, false, _, _ => r7_8_false
  | h + 9, _, _, h2 => absurd h2 (by omega)

end Go.Fk
