/-
  ReachBranches, reckoned: 2 branches.
-/
import Derived.Test.YtdomcfoabnhlfaaGenQ
import Derived.Test.YtdomcfoabnhlfaaFwR
import Derived.KernelRfl
set_option maxRecDepth 20000
namespace Go.Fw
theorem rb_2_0 : gaveTrue ((L21_ReachBranches 400 (i64 2) (i64 0)).run 8 .leaf) = true := by kernel_rfl
theorem rb_2_1 : gaveTrue ((L21_ReachBranches 400 (i64 2) (i64 1)).run 8 .leaf) = true := by kernel_rfl
theorem rb_2_neg (k : Nat) : gaveTrue ((L21_ReachBranches 400 (i64 2) (i64 (Int.negSucc k))).run 8 .leaf) = true := by kernel_rfl
theorem rb_2_more (k : Nat) : gaveTrue ((L21_ReachBranches 400 (i64 2) (i64 (Int.ofNat (k + 2)))).run 8 .leaf) = true := by kernel_rfl
end Go.Fw
