/-
  The functions of this seat, all of them.
-/
import Derived.Test.YtdomcfoabnhlfaaGenP2
