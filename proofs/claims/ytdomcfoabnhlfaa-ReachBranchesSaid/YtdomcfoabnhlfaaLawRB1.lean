/-
  ReachBranches, reckoned: 1 branches.
-/
import Derived.Test.YtdomcfoabnhlfaaGenQ
import Derived.Test.YtdomcfoabnhlfaaFwR
import Derived.KernelRfl
set_option maxRecDepth 20000
namespace Go.Fw
theorem rb_1_0 : gaveTrue ((L21_ReachBranches 400 (i64 1) (i64 0)).run 8 .leaf) = true := by kernel_rfl
theorem rb_1_neg (k : Nat) : gaveTrue ((L21_ReachBranches 400 (i64 1) (i64 (Int.negSucc k))).run 8 .leaf) = true := by kernel_rfl
theorem rb_1_more (k : Nat) : gaveTrue ((L21_ReachBranches 400 (i64 1) (i64 (Int.ofNat (k + 1)))).run 8 .leaf) = true := by kernel_rfl
end Go.Fw
