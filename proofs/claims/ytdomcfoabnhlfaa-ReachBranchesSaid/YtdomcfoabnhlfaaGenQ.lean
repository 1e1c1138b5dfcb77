/-
  The functions of this seat, all of them.
-/
import Derived.Test.YtdomcfoabnhlfaaGenQ4
