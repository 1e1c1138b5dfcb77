/-
  TopWay: for every input the law answers true, and its arguments read afterwards as before, where the listed variables hold what the program's text lays in them.
-/
import Derived.Test.YtmdifacbhodikaaGreatDoorRows
import Derived.Test.YtmdifacbhodikaaGreatDoorCards
import Derived.Test.YtmdifacbhodikaaGreatDoorTie
import Derived.Test.YtmdifacbhodikaaGreatDoorTwQ
set_option linter.all false
namespace Go.Proofs.YtmdifacbhodikaaGreatDoor
open Go.ChangeShapes Go.WideShapes Go.ChangeAt Go.RowKit Go.Fw Go.Fk

theorem Tryz.own : ownKnob Tryz.prog.godebug = none := by kernel_rfl
theorem Tryz.kids : Kids Tryz.prog (· < Tryz.prog.types.size) := kids_rows (by kernel_rfl) (by kernel_rfl)
theorem Tryz.full : ∀ t e, t < Tryz.prog.types.size → Tryz.prog.underlying t = some (.slice e) → 0 < Tryz.prog.cellsOf e := slices_full_of Tryz.prog (by kernel_rfl)

def laidL : List (String × DataW Unit) := [("math/bits.deBruijn64tab", Rows.laid_math_bits_deBruijn64tab), ("errors.errorType", Rows.laid_errors_errorType)]
theorem laidL_eq : (laidL.filter fun x => x.2.handleName?.isNone) = [("math/bits.deBruijn64tab", .agg (tabNs.map fun n : Nat => .lit (.int .u8 (n : Int))))] := by kernel_rfl
theorem laidL_met {W : World} (h : laidMetH Tryz.prog laidL W) : laidMet Tryz.prog (laidL.filter fun x => x.2.handleName?.isNone) W := h.1
theorem cellsL {W : World} (h : laidMetH Tryz.prog laidL W) : ∀ i v, (tabNs.map fun n : Nat => Value.int .u8 (n : Int))[i]? = some v → W.cell? ⟨1, i, none⟩ = some v := by
  have h := laidL_met h
  rw [laidL_eq] at h
  exact table_cells_met (g := 1) (t := 376) (e := 5) (by kernel_rfl) (by kernel_rfl) (by kernel_rfl) (by kernel_rfl) (by kernel_rfl) h
theorem door_met (os : Os) (args : Array Value) : laidMetH Tryz.prog laidL ((World.doorLaid Tryz.prog 400 os).forCall (fun _ _ => 0) ⟨#[], args, []⟩).memory :=
  laidMetH_of_parts3 (fuel := 8) (laidMet_of_run' 8 (by kernel_rfl) (by kernel_rfl)) (by kernel_rfl) (by kernel_rfl)

set_option maxRecDepth 100000 in
theorem topWay_lifted (os : Os) (started : os.Started) (H : Type) (enc : TypeId × Value → H) :
    ReturnsInHanded {} Tryz.checked os 3 .any (fun w args => (Rows.topWaySpec.pre enc Tryz.prog Tryz.f3 [] false w args ∧ laidMetH Tryz.prog laidL w) ∧ sizedMet enc Tryz.prog Tryz.f3 (OpenSpec.ofChange Rows.topWaySpec) false w args)
      (Rows.topWaySpec.post enc Tryz.prog Tryz.f3 false true false false) := by
  refine returnsInHanded_of_change_and (C := Tryz.checked) (X := fun w _ => laidMetH Tryz.prog laidL w) (fun _ _ _ hh h => h.of_heap hh) Tryz.own started (by kernel_rfl) Tryz.func3
    (ChangeSpec.witness_shaped (enc := enc) (C := Tryz.checked) (os := os) (X := fun w _ => laidMetH Tryz.prog laidL w) false (World.doorLaid Tryz.prog 400 os) #[.int .i64 0, .int .i64 0] 8 rfl (World.shaped_of_RefB (by kernel_rfl) (by kernel_rfl)) (by kernel_rfl) (by kernel_rfl) (by kernel_rfl) (door_met os _)) ?_
  intro W base args ds gs before hval0 hW _ _ hL _
  obtain ⟨m, hS, hC⟩ := q3_ok 2000
  exact law_any (ks := [.int, .int]) (N := 8) (tb := 4) hS (Entry.table2 (cs := tabNs.map fun n : Nat => Value.int .u8 (n : Int)) (by decide) (cellsL hL) (fun v hv => by
      obtain ⟨n, _, rfl⟩ := List.mem_map.1 hv
      exact .int _ _)) (by kernel_rfl) (by decide) (fun h us f hk ha => t3_run hC f ((hk 0 (by decide)).trans ((baseH2_get _ 0).trans rfl)) ((hk 1 (by decide)).trans ((baseH2_get _ 1).trans rfl)) ha) hval0 hW rfl
    (fun hl => by
      cases ds with
      | nil => cases hl
      | cons d0 ds =>
      cases ds with
      | nil => cases hl
      | cons d1 ds =>
      cases ds with
      | cons _ _ => simp at hl
      | nil => rfl) (by kernel_rfl) (by kernel_rfl) Tryz.kids Tryz.full (by kernel_rfl)

end Go.Proofs.YtmdifacbhodikaaGreatDoor
