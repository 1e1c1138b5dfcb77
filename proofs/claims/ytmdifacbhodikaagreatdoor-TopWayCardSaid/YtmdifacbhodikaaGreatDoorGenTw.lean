/-
  The functions of this seat, all of them.
-/
import Derived.Test.YtmdifacbhodikaaGreatDoorGenTw2
set_option linter.all false
