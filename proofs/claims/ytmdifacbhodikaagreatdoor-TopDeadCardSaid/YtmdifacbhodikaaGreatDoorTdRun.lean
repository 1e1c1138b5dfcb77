/-
  TopDead: all its runs.
-/
import Derived.Test.YtmdifacbhodikaaGreatDoorTdRun1
import Derived.Test.YtmdifacbhodikaaGreatDoorTdRun2
import Derived.Test.YtmdifacbhodikaaGreatDoorTdRun3
import Derived.Test.YtmdifacbhodikaaGreatDoorTdRun4
set_option linter.all false
namespace Go.Fk
open Go Go.Fw

/-- Every run. -/
theorem all5 : ∀ h b, 1 ≤ h → h ≤ 8 → run5 h b = true
  | 0, _, h1, _ => absurd h1 (by omega)
  | 1, true, _, _ => r5_1_true
  | 1, false, _, _ => r5_1_false
  | 2, true, _, _ => r5_2_true
  | 2, false, _, _ => r5_2_false
  | 3, true, _, _ => r5_3_true
  | 3, false, _, _ => r5_3_false
  | 4, true, _, _ => r5_4_true
  | 4, false, _, _ => r5_4_false
  | 5, true, _, _ => r5_5_true
  | 5, false, _, _ => r5_5_false
  | 6, true, _, _ => r5_6_true
  | 6, false, _, _ => r5_6_false
  | 7, true, _, _ => r5_7_true
  | 7, false, _, _ => r5_7_false
  | 8, true, _, _ => r5_8_true
  | 8, false, _, _ => r5_8_false
  | h + 9, _, _, h2 => absurd h2 (by omega)

end Go.Fk
