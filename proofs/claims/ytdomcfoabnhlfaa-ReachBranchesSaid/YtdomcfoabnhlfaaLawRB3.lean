/-
  ReachBranches, reckoned: 3 branches.
-/
import Derived.Test.YtdomcfoabnhlfaaGenQ
import Derived.Test.YtdomcfoabnhlfaaFwR
import Derived.KernelRfl
set_option maxRecDepth 20000
namespace Go.Fw
theorem rb_3_0 : gaveTrue ((L21_ReachBranches 400 (i64 3) (i64 0)).run 8 .leaf) = true := by kernel_rfl
theorem rb_3_1 : gaveTrue ((L21_ReachBranches 400 (i64 3) (i64 1)).run 8 .leaf) = true := by kernel_rfl
theorem rb_3_2 : gaveTrue ((L21_ReachBranches 400 (i64 3) (i64 2)).run 8 .leaf) = true := by kernel_rfl
theorem rb_3_neg (k : Nat) : gaveTrue ((L21_ReachBranches 400 (i64 3) (i64 (Int.negSucc k))).run 8 .leaf) = true := by kernel_rfl
theorem rb_3_more (k : Nat) : gaveTrue ((L21_ReachBranches 400 (i64 3) (i64 (Int.ofNat (k + 3)))).run 8 .leaf) = true := by kernel_rfl
end Go.Fw
