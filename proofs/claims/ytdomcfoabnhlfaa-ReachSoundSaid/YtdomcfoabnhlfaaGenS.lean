/-
  The functions of this seat, all of them.
-/
import Derived.Test.YtdomcfoabnhlfaaGenS2
set_option linter.all false
