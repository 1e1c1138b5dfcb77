/-
  ReachParams, reckoned: 3 parameters.
-/
import Derived.Test.YtdomcfoabnhlfaaGenP
import Derived.Test.YtdomcfoabnhlfaaFwR
import Derived.KernelRfl
set_option maxRecDepth 20000
namespace Go.Fw
theorem rp_3_0 : gaveTrue ((L21_ReachParams 200 (i64 3) (i64 0)).run 8 .leaf) = true := by kernel_rfl
theorem rp_3_1 : gaveTrue ((L21_ReachParams 200 (i64 3) (i64 1)).run 8 .leaf) = true := by kernel_rfl
theorem rp_3_2 : gaveTrue ((L21_ReachParams 200 (i64 3) (i64 2)).run 8 .leaf) = true := by kernel_rfl
theorem rp_3_3 : gaveTrue ((L21_ReachParams 200 (i64 3) (i64 3)).run 8 .leaf) = true := by kernel_rfl
theorem rp_3_4 : gaveTrue ((L21_ReachParams 200 (i64 3) (i64 4)).run 8 .leaf) = true := by kernel_rfl
theorem rp_3_5 : gaveTrue ((L21_ReachParams 200 (i64 3) (i64 5)).run 8 .leaf) = true := by kernel_rfl
theorem rp_3_6 : gaveTrue ((L21_ReachParams 200 (i64 3) (i64 6)).run 8 .leaf) = true := by kernel_rfl
theorem rp_3_7 : gaveTrue ((L21_ReachParams 200 (i64 3) (i64 7)).run 8 .leaf) = true := by kernel_rfl
theorem rp_3_8 : gaveTrue ((L21_ReachParams 200 (i64 3) (i64 8)).run 8 .leaf) = true := by kernel_rfl
theorem rp_3_9 : gaveTrue ((L21_ReachParams 200 (i64 3) (i64 9)).run 8 .leaf) = true := by kernel_rfl
theorem rp_3_10 : gaveTrue ((L21_ReachParams 200 (i64 3) (i64 10)).run 8 .leaf) = true := by kernel_rfl
end Go.Fw
