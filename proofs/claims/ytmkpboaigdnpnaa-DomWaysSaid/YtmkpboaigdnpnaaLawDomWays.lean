/-
  DomWays: for every input the law answers true, and its arguments read afterwards as before.
-/
import Derived.Test.YtmkpboaigdnpnaaRows
import Derived.Test.YtmkpboaigdnpnaaLawDomI
import Derived.Test.YtmkpboaigdnpnaaFwT
namespace Go.Proofs.Ytmkpboaigdnpnaa
open Go.ChangeShapes Go.WideShapes Go.ChangeAt Go.RowKit Go.Fw

theorem Try.own : ownKnob Try.prog.godebug = none := by kernel_rfl
theorem Try.kids : Kids Try.prog (· < Try.prog.types.size) := kids_rows (by kernel_rfl) (by kernel_rfl)
theorem Try.full : ∀ t e, t < Try.prog.types.size → Try.prog.underlying t = some (.slice e) → 0 < Try.prog.cellsOf e := slices_full_of Try.prog (by kernel_rfl)
theorem Try.noG : TryG = 0 := rfl

set_option maxRecDepth 100000 in
theorem domWays_lifted (os : Os) (started : os.Started) (H : Type) (enc : TypeId × Value → H) :
    ReturnsInHanded {} Try.checked os 8 .any (Rows.domWaysSpec.pre6 enc Try.prog Try.f8 Rows.domWaysRow.domain false) (Rows.domWaysSpec.post enc Try.prog Try.f8 false true false false) := by
  refine returnsInHanded_of_change (C := Try.checked) Try.own started (by kernel_rfl) Try.func8
    (ChangeSpec.witness6 (enc := enc) (C := Try.checked) false ⟨#[], #[.int .i64 0, .slice none 0 0, .int .i64 0, .int .i64 0], []⟩ 8 (by kernel_rfl) (by kernel_rfl) (by kernel_rfl) (by kernel_rfl)) ?_
  intro W base args ds gs before hval0 hW _ _
  exact law_any (ks := [.int, .flat 2, .int, .int]) (N := 8) (tb := 4) (L6_DomWays_ok 1000000) (Entry.nil W) (by kernel_rfl) (by decide) (fun h us f _ ha => domways_law h us f ha) hval0 hW rfl
    (fun hl => by
      cases ds with
      | nil => cases hl
      | cons d0 ds =>
      cases ds with
      | nil => cases hl
      | cons d1 ds =>
      cases ds with
      | nil => cases hl
      | cons d2 ds =>
      cases ds with
      | nil => cases hl
      | cons d3 ds =>
      cases ds with
      | cons _ _ => simp at hl
      | nil => rfl) (by kernel_rfl) (by kernel_rfl) Try.kids Try.full (by kernel_rfl)

theorem domWays_holds : Rows.DomWaysSaid :=
  OpenClaim.holds_of_wide 8 Try.f8 rfl rfl rfl rfl rfl rfl rfl ⟨rfl, rfl, rfl, rfl, rfl⟩ rfl rfl rfl rfl rfl (by kernel_rfl) Try.func8 (by kernel_rfl)
    (of_decide_eq_true (by kernel_rfl)) (by unfold Func.isWrapper; first | (rw [if_pos (by decide +kernel)]; kernel_rfl) | (rw [if_neg (by decide +kernel)]; exact ⟨rfl, rfl⟩))
    (fun os started H enc _ => domWays_lifted os started H enc)
end Go.Proofs.Ytmkpboaigdnpnaa
