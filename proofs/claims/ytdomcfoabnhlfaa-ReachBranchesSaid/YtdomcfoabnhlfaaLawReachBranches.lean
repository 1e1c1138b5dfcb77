/-
  ReachBranches: for every input the law answers true, and its arguments read afterwards as before.
-/
import Derived.Test.YtdomcfoabnhlfaaRows
import Derived.Test.YtdomcfoabnhlfaaLawRB
import Derived.Test.YtdomcfoabnhlfaaFwT
namespace Go.Proofs.Ytdomcfoabnhlfaa
open Go.ChangeShapes Go.WideShapes Go.ChangeAt Go.RowKit Go.Fw

theorem Try.own : ownKnob Try.prog.godebug = none := by kernel_rfl
theorem Try.kids : Kids Try.prog (· < Try.prog.types.size) := kids_rows (by kernel_rfl) (by kernel_rfl)
theorem Try.full : ∀ t e, t < Try.prog.types.size → Try.prog.underlying t = some (.slice e) → 0 < Try.prog.cellsOf e := slices_full_of Try.prog (by kernel_rfl)
theorem Try.noG : TryG = 0 := rfl

set_option maxRecDepth 100000 in
theorem reachBranches_lifted (os : Os) (started : os.Started) (H : Type) (enc : TypeId × Value → H) :
    ReturnsInHanded {} Try.checked os 4 .any (Rows.reachBranchesSpec.pre6 enc Try.prog Try.f4 Rows.reachBranchesRow.domain false) (Rows.reachBranchesSpec.post enc Try.prog Try.f4 false true false false) := by
  refine returnsInHanded_of_change (C := Try.checked) Try.own started (by kernel_rfl) Try.func4
    (ChangeSpec.witness6 (enc := enc) (C := Try.checked) false ⟨#[], #[.int .i64 0, .int .i64 0], []⟩ 8 (by kernel_rfl) (by kernel_rfl) (by kernel_rfl) (by kernel_rfl)) ?_
  intro W base args ds gs before hval0 hW _ _
  exact law_any (ks := [.int, .int]) (N := 8) (tb := 4) (L21_ReachBranches_ok 400) (Entry.nil W) (by kernel_rfl) (by decide) (fun h us f _ ha => branches_law h us f ha) hval0 hW rfl
    (fun hl => by
      cases ds with
      | nil => cases hl
      | cons d0 ds =>
      cases ds with
      | nil => cases hl
      | cons d1 ds =>
      cases ds with
      | cons _ _ => simp at hl
      | nil => rfl) (by kernel_rfl) (by kernel_rfl) Try.kids Try.full (by kernel_rfl)

theorem reachBranches_holds : Rows.ReachBranchesSaid :=
  OpenClaim.holds_of_wide 4 Try.f4 rfl rfl rfl rfl rfl rfl rfl ⟨rfl, rfl, rfl, rfl, rfl⟩ rfl rfl rfl rfl rfl (by kernel_rfl) Try.func4 (by kernel_rfl)
    (of_decide_eq_true (by kernel_rfl)) (by unfold Func.isWrapper; first | (rw [if_pos (by decide +kernel)]; kernel_rfl) | (rw [if_neg (by decide +kernel)]; exact ⟨rfl, rfl⟩))
    (fun os started H enc _ => reachBranches_lifted os started H enc)
end Go.Proofs.Ytdomcfoabnhlfaa
