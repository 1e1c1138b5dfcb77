/-
  TopWay: all its runs.
-/
import Derived.Test.YtmdifacbhodikaaGreatDoorTwRun1
import Derived.Test.YtmdifacbhodikaaGreatDoorTwRun2
import Derived.Test.YtmdifacbhodikaaGreatDoorTwRun3
import Derived.Test.YtmdifacbhodikaaGreatDoorTwRun4
import Derived.Test.YtmdifacbhodikaaGreatDoorTwRun5
import Derived.Test.YtmdifacbhodikaaGreatDoorTwRun6
import Derived.Test.YtmdifacbhodikaaGreatDoorTwRun7
import Derived.Test.YtmdifacbhodikaaGreatDoorTwRun8
import Derived.Test.YtmdifacbhodikaaGreatDoorTwRun9
import Derived.Test.YtmdifacbhodikaaGreatDoorTwRun10
import Derived.Test.YtmdifacbhodikaaGreatDoorTwRun11
import Derived.Test.YtmdifacbhodikaaGreatDoorTwRun12
import Derived.Test.YtmdifacbhodikaaGreatDoorTwRun13
set_option linter.all false
namespace Go.Fk
open Go Go.Fw

theorem all3_1 (z : Int) : ∀ m, m < 2 → run3 1 m z = yesR
  | 0, _ => r3_1_0 z
  | 1, _ => r3_1_1 z
  | m + 2, q => absurd q (by omega)
theorem all3_2 (z : Int) : ∀ m, m < 3 → run3 2 m z = yesR
  | 0, _ => r3_2_0 z
  | 1, _ => r3_2_1 z
  | 2, _ => r3_2_2 z
  | m + 3, q => absurd q (by omega)
theorem all3_3 (z : Int) : ∀ m, m < 4 → run3 3 m z = yesR
  | 0, _ => r3_3_0 z
  | 1, _ => r3_3_1 z
  | 2, _ => r3_3_2 z
  | 3, _ => r3_3_3 z
  | m + 4, q => absurd q (by omega)
theorem all3_4 (z : Int) : ∀ m, m < 5 → run3 4 m z = yesR
  | 0, _ => r3_4_0 z
  | 1, _ => r3_4_1 z
  | 2, _ => r3_4_2 z
  | 3, _ => r3_4_3 z
  | 4, _ => r3_4_4 z
  | m + 5, q => absurd q (by omega)
theorem all3_5 (z : Int) : ∀ m, m < 6 → run3 5 m z = yesR
  | 0, _ => r3_5_0 z
  | 1, _ => r3_5_1 z
  | 2, _ => r3_5_2 z
  | 3, _ => r3_5_3 z
  | 4, _ => r3_5_4 z
  | 5, _ => r3_5_5 z
  | m + 6, q => absurd q (by omega)
theorem all3_6 (z : Int) : ∀ m, m < 7 → run3 6 m z = yesR
  | 0, _ => r3_6_0 z
  | 1, _ => r3_6_1 z
  | 2, _ => r3_6_2 z
  | 3, _ => r3_6_3 z
  | 4, _ => r3_6_4 z
  | 5, _ => r3_6_5 z
  | 6, _ => r3_6_6 z
  | m + 7, q => absurd q (by omega)
theorem all3_7 (z : Int) : ∀ m, m < 8 → run3 7 m z = yesR
  | 0, _ => r3_7_0 z
  | 1, _ => r3_7_1 z
  | 2, _ => r3_7_2 z
  | 3, _ => r3_7_3 z
  | 4, _ => r3_7_4 z
  | 5, _ => r3_7_5 z
  | 6, _ => r3_7_6 z
  | 7, _ => r3_7_7 z
  | m + 8, q => absurd q (by omega)
theorem all3_8 (z : Int) : ∀ m, m < 9 → run3 8 m z = yesR
  | 0, _ => r3_8_0 z
  | 1, _ => r3_8_1 z
  | 2, _ => r3_8_2 z
  | 3, _ => r3_8_3 z
  | 4, _ => r3_8_4 z
  | 5, _ => r3_8_5 z
  | 6, _ => r3_8_6 z
  | 7, _ => r3_8_7 z
  | 8, _ => r3_8_8 z
  | m + 9, q => absurd q (by omega)
theorem all3_9 (z : Int) : ∀ m, m < 10 → run3 9 m z = yesR
  | 0, _ => r3_9_0 z
  | 1, _ => r3_9_1 z
  | 2, _ => r3_9_2 z
  | 3, _ => r3_9_3 z
  | 4, _ => r3_9_4 z
  | 5, _ => r3_9_5 z
  | 6, _ => r3_9_6 z
  | 7, _ => r3_9_7 z
  | 8, _ => r3_9_8 z
  | 9, _ => r3_9_9 z
  | m + 10, q => absurd q (by omega)
theorem all3_10 (z : Int) : ∀ m, m < 11 → run3 10 m z = yesR
  | 0, _ => r3_10_0 z
  | 1, _ => r3_10_1 z
  | 2, _ => r3_10_2 z
  | 3, _ => r3_10_3 z
  | 4, _ => r3_10_4 z
  | 5, _ => r3_10_5 z
  | 6, _ => r3_10_6 z
  | 7, _ => r3_10_7 z
  | 8, _ => r3_10_8 z
  | 9, _ => r3_10_9 z
  | 10, _ => r3_10_10 z
  | m + 11, q => absurd q (by omega)
/-- Every run. -/
theorem all3 (z : Int) : ∀ h m, 1 ≤ h → h ≤ 10 → m < h + 1 → run3 h m z = yesR
  | 0, _, q, _, _ => absurd q (by omega)
  | 1, m, _, _, q => all3_1 z m q
  | 2, m, _, _, q => all3_2 z m q
  | 3, m, _, _, q => all3_3 z m q
  | 4, m, _, _, q => all3_4 z m q
  | 5, m, _, _, q => all3_5 z m q
  | 6, m, _, _, q => all3_6 z m q
  | 7, m, _, _, q => all3_7 z m q
  | 8, m, _, _, q => all3_8 z m q
  | 9, m, _, _, q => all3_9 z m q
  | 10, m, _, _, q => all3_10 z m q
  | h + 11, _, _, q, _ => absurd q (by omega)

end Go.Fk
