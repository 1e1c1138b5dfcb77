/-
  TopWay: the row.
-/
import Derived.Test.YtmdifacbhodikaaGreatDoorLawTopWayA
set_option linter.all false
set_option maxHeartbeats 40000000
namespace Go.Proofs.YtmdifacbhodikaaGreatDoor
open Go.ChangeShapes Go.WideShapes Go.ChangeAt Go.RowKit Go.Fw Go.Fk

theorem and_t {a b : Bool} (ha : a = true) (hb : b = true) : (a && b) = true := by rw [ha, hb]; rfl
theorem topWay_closed : joinedFacts Tryz.prog 3 Tryz.f3 Rows.topWaySpec Rows.topWayRow = true := by
  unfold joinedFacts
  repeat' (with_reducible refine and_t ?_ ?_)
  all_goals (as_aux_lemma => kernel_rfl)

theorem topWay_row : Rows.TopWaySaid :=
  OpenClaim.holds_of_wide 3 Tryz.f3 rfl rfl rfl rfl rfl rfl rfl ⟨rfl, rfl, rfl, rfl, rfl⟩ rfl rfl rfl rfl rfl (by kernel_rfl) Tryz.func3 topWay_closed
    (of_decide_eq_true (by kernel_rfl)) (by unfold Func.isWrapper; first | (rw [if_pos (by decide +kernel)]; kernel_rfl) | (rw [if_neg (by decide +kernel)]; exact ⟨rfl, rfl⟩))
    (fun os started H enc _ => topWay_lifted os started H enc)

end Go.Proofs.YtmdifacbhodikaaGreatDoor
