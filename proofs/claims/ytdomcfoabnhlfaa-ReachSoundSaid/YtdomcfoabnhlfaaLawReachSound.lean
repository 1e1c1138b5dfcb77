/-
  ReachSound: for every input the law answers true, and its arguments read afterwards as before.
-/
import Derived.Test.YtdomcfoabnhlfaaRows
import Derived.Test.YtdomcfoabnhlfaaSfn7
import Derived.Test.YtdomcfoabnhlfaaSwk2
set_option linter.all false
namespace Go.Proofs.Ytdomcfoabnhlfaa
open Go.ChangeShapes Go.WideShapes Go.ChangeAt Go.RowKit Go.Fw Go.Fn

theorem Try.own : ownKnob Try.prog.godebug = none := by kernel_rfl
theorem Try.kids : Kids Try.prog (· < Try.prog.types.size) := kids_rows (by kernel_rfl) (by kernel_rfl)
theorem Try.full : ∀ t e, t < Try.prog.types.size → Try.prog.underlying t = some (.slice e) → 0 < Try.prog.cellsOf e := slices_full_of Try.prog (by kernel_rfl)

set_option maxRecDepth 100000 in
theorem reachSound_lifted (os : Os) (started : os.Started) (H : Type) (enc : TypeId × Value → H) :
    ReturnsInHanded {} Try.checked os 3 .any (Rows.reachSoundSpec.pre6 enc Try.prog Try.f3 Rows.reachSoundRow.domain false) (Rows.reachSoundSpec.post enc Try.prog Try.f3 false true false false) := by
  refine returnsInHanded_of_change (C := Try.checked) Try.own started (by kernel_rfl) Try.func3
    (ChangeSpec.witness6 (enc := enc) (C := Try.checked) false ⟨#[], #[.pointer none, .slice none 0 0, .int .i64 0], []⟩ 8 (by kernel_rfl) (by kernel_rfl) (by kernel_rfl) (by kernel_rfl)) ?_
  intro W base args ds gs before hval0 hW _ _
  have hW0 := hW
  obtain ⟨p, q, h1, h2, h3, _, _⟩ := hW
  have hgs : gs = [] := by
    cases gs with
    | nil => rfl
    | cons _ _ => cases h2
  subst hgs
  obtain ⟨n, ρ, h, u0, u1, u2, en, hws, hlen, n', h', e⟩ := rs_enter (enc := enc) (W := W) (base := base) (vs := args.toList) (ds := ds) (p := p) (fun j t v ht hv => hval0 j t v (by
    have hp : Try.f3.params.toList = [22, 23, 3] := by kernel_rfl
    rw [← hp] at ht
    simpa using ht) (by simpa using hv)) (by
    have hp : Try.f3.params.toList = [22, 23, 3] := by kernel_rfl
    rw [hp] at h1
    exact h1)
  exact law_calls (tb := 4) (RS_ok 200000) en hws (m := apN 3 (RS 200000)) e hW0 rfl
    (by
      cases ds with
      | nil => cases hlen
      | cons d0 ds =>
      cases ds with
      | nil => cases hlen
      | cons d1 ds =>
      cases ds with
      | nil => cases hlen
      | cons d2 ds =>
      cases ds with
      | cons _ _ => simp at hlen
      | nil => rfl) (by kernel_rfl) (by kernel_rfl) Try.kids Try.full (by kernel_rfl)

theorem reachSound_holds : Rows.ReachSoundSaid :=
  OpenClaim.holds_of_wide 3 Try.f3 rfl rfl rfl rfl rfl rfl rfl ⟨rfl, rfl, rfl, rfl, rfl⟩ rfl rfl rfl rfl rfl (by kernel_rfl) Try.func3 (by kernel_rfl)
    (of_decide_eq_true (by kernel_rfl)) (by unfold Func.isWrapper; first | (rw [if_pos (by decide +kernel)]; kernel_rfl) | (rw [if_neg (by decide +kernel)]; exact ⟨rfl, rfl⟩))
    (fun os started H enc _ => reachSound_lifted os started H enc)
end Go.Proofs.Ytdomcfoabnhlfaa
