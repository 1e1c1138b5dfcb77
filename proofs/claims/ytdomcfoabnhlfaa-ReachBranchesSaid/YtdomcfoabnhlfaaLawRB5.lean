/-
  ReachBranches, reckoned: 5 branches.
-/
import Derived.Test.YtdomcfoabnhlfaaGenQ
import Derived.Test.YtdomcfoabnhlfaaFwR
import Derived.KernelRfl
set_option maxRecDepth 20000
namespace Go.Fw
theorem rb_5_0 : gaveTrue ((L21_ReachBranches 400 (i64 5) (i64 0)).run 8 .leaf) = true := by kernel_rfl
theorem rb_5_1 : gaveTrue ((L21_ReachBranches 400 (i64 5) (i64 1)).run 8 .leaf) = true := by kernel_rfl
theorem rb_5_2 : gaveTrue ((L21_ReachBranches 400 (i64 5) (i64 2)).run 8 .leaf) = true := by kernel_rfl
theorem rb_5_3 : gaveTrue ((L21_ReachBranches 400 (i64 5) (i64 3)).run 8 .leaf) = true := by kernel_rfl
theorem rb_5_4 : gaveTrue ((L21_ReachBranches 400 (i64 5) (i64 4)).run 8 .leaf) = true := by kernel_rfl
theorem rb_5_neg (k : Nat) : gaveTrue ((L21_ReachBranches 400 (i64 5) (i64 (Int.negSucc k))).run 8 .leaf) = true := by kernel_rfl
theorem rb_5_more (k : Nat) : gaveTrue ((L21_ReachBranches 400 (i64 5) (i64 (Int.ofNat (k + 5)))).run 8 .leaf) = true := by kernel_rfl
end Go.Fw
