/-
  The functions of this seat, all of them.
-/
import Derived.Test.YtmdifacbhodikaaGreatDoorGenTc2
set_option linter.all false
