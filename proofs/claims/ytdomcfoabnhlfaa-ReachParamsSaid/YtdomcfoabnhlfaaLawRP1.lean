/-
  ReachParams, reckoned: 1 parameters.
-/
import Derived.Test.YtdomcfoabnhlfaaGenP
import Derived.Test.YtdomcfoabnhlfaaFwR
import Derived.KernelRfl
set_option maxRecDepth 20000
namespace Go.Fw
theorem rp_1_0 : gaveTrue ((L21_ReachParams 200 (i64 1) (i64 0)).run 8 .leaf) = true := by kernel_rfl
theorem rp_1_1 : gaveTrue ((L21_ReachParams 200 (i64 1) (i64 1)).run 8 .leaf) = true := by kernel_rfl
theorem rp_1_2 : gaveTrue ((L21_ReachParams 200 (i64 1) (i64 2)).run 8 .leaf) = true := by kernel_rfl
theorem rp_1_3 : gaveTrue ((L21_ReachParams 200 (i64 1) (i64 3)).run 8 .leaf) = true := by kernel_rfl
theorem rp_1_4 : gaveTrue ((L21_ReachParams 200 (i64 1) (i64 4)).run 8 .leaf) = true := by kernel_rfl
theorem rp_1_5 : gaveTrue ((L21_ReachParams 200 (i64 1) (i64 5)).run 8 .leaf) = true := by kernel_rfl
theorem rp_1_6 : gaveTrue ((L21_ReachParams 200 (i64 1) (i64 6)).run 8 .leaf) = true := by kernel_rfl
theorem rp_1_7 : gaveTrue ((L21_ReachParams 200 (i64 1) (i64 7)).run 8 .leaf) = true := by kernel_rfl
theorem rp_1_8 : gaveTrue ((L21_ReachParams 200 (i64 1) (i64 8)).run 8 .leaf) = true := by kernel_rfl
theorem rp_1_9 : gaveTrue ((L21_ReachParams 200 (i64 1) (i64 9)).run 8 .leaf) = true := by kernel_rfl
theorem rp_1_10 : gaveTrue ((L21_ReachParams 200 (i64 1) (i64 10)).run 8 .leaf) = true := by kernel_rfl
end Go.Fw
