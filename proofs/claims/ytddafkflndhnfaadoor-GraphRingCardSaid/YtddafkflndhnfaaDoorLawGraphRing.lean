/-
  GraphRing: for every input the law answers true, and its arguments read afterwards as before, where the listed table holds what the program's text lays in it.
-/
import Derived.Test.YtddafkflndhnfaaDoorRows
import Derived.Test.YtddafkflndhnfaaDoorCards
import Derived.Test.YtddafkflndhnfaaDoorTie
import Derived.Test.YtddafkflndhnfaaDoorLawTGRing
import Derived.Test.YtddafkflndhnfaaDoorFwU
namespace Go.Proofs.YtddafkflndhnfaaDoor
open Go.ChangeShapes Go.WideShapes Go.ChangeAt Go.RowKit Go.Fw

theorem Tryd.own : ownKnob Tryd.prog.godebug = none := by kernel_rfl
theorem Tryd.kids : Kids Tryd.prog (· < Tryd.prog.types.size) := kids_rows (by kernel_rfl) (by kernel_rfl)
theorem Tryd.full : ∀ t e, t < Tryd.prog.types.size → Tryd.prog.underlying t = some (.slice e) → 0 < Tryd.prog.cellsOf e := slices_full_of Tryd.prog (by kernel_rfl)

def laidL : List (String × DataW Unit) := [("math/bits.deBruijn64tab", Rows.laid_math_bits_deBruijn64tab)]
theorem laidL_eq : laidL = [("math/bits.deBruijn64tab", .agg (bytesOf.map fun n : Nat => .lit (.int .u8 (n : Int))))] := by kernel_rfl
theorem cellsL {W : World} (h : laidMetH Tryd.prog laidL W) : ∀ i v, (bytesOf.map fun n : Nat => Value.int .u8 (n : Int))[i]? = some v → W.cell? ⟨0, i, none⟩ = some v := by
  rw [laidL_eq] at h
  exact table_cells (t := 80) (e := 5) (by kernel_rfl) (by kernel_rfl) (by kernel_rfl) (by kernel_rfl) (by kernel_rfl) (fun w hw => by rw [MakeChecks.laidMetH_plain _ _ _ (by kernel_rfl)] at hw; exact hw) h
theorem door_met (os : Os) (args : Array Value) : laidMetH Tryd.prog laidL ((World.doorLaid Tryd.prog 400 os).forCall (fun _ _ => 0) ⟨#[], args, []⟩).memory :=
  laidMetH_of_parts3 (fuel := 8) (laidMet_of_run' 8 (by kernel_rfl) (by kernel_rfl)) (by kernel_rfl) (by kernel_rfl)

set_option maxRecDepth 100000 in
theorem graphRing_lifted (os : Os) (started : os.Started) (H : Type) (enc : TypeId × Value → H) :
    ReturnsInHanded {} Tryd.checked os 14 .any (fun w args => (Rows.graphRingSpec.pre enc Tryd.prog Tryd.f14 [] false w args ∧ laidMetH Tryd.prog laidL w) ∧ sizedMet enc Tryd.prog Tryd.f14 (OpenSpec.ofChange Rows.graphRingSpec) false w args)
      (Rows.graphRingSpec.post enc Tryd.prog Tryd.f14 false true false false) := by
  refine returnsInHanded_of_change_and (C := Tryd.checked) (X := fun w _ => laidMetH Tryd.prog laidL w) (fun _ _ _ hh h => h.of_heap hh) Tryd.own started (by kernel_rfl) Tryd.func14
    (ChangeSpec.witness_shaped (enc := enc) (C := Tryd.checked) (os := os) (X := fun w _ => laidMetH Tryd.prog laidL w) false (World.doorLaid Tryd.prog 400 os) #[.int .i64 0, .int .i64 0, .int .i64 0] 8 rfl (World.shaped_of_RefB (by kernel_rfl) (by kernel_rfl)) (by kernel_rfl) (by kernel_rfl) (by kernel_rfl) (door_met os _)) ?_
  intro W base args ds gs before hval0 hW _ _ hL _
  exact law_any (ks := [.int, .int, .int]) (N := 8) (tb := 4) (L5_GraphRing_ok 1000000) (Entry.table (cs := bytesOf.map fun n : Nat => Value.int .u8 (n : Int)) (by decide) (cellsL hL) (fun v hv => by
      obtain ⟨n, _, rfl⟩ := List.mem_map.1 hv
      exact .int _ _)) (by kernel_rfl) (by decide) (fun h us f hk ha => gring_law h us f ((hk 0 (by decide)).trans (Go.Fw.H.get_set_same _ _ _)) ha) hval0 hW rfl
    (fun hl => by
      cases ds with
      | nil => cases hl
      | cons d0 ds =>
      cases ds with
      | nil => cases hl
      | cons d1 ds =>
      cases ds with
      | nil => cases hl
      | cons d2 ds =>
      cases ds with
      | cons _ _ => simp at hl
      | nil => rfl) (by kernel_rfl) (by kernel_rfl) Tryd.kids Tryd.full (by kernel_rfl)

theorem graphRing_row : Rows.GraphRingSaid :=
  OpenClaim.holds_of_wide 14 Tryd.f14 rfl rfl rfl rfl rfl rfl rfl ⟨rfl, rfl, rfl, rfl, rfl⟩ rfl rfl rfl rfl rfl (by kernel_rfl) Tryd.func14 (by kernel_rfl)
    (of_decide_eq_true (by kernel_rfl)) (by unfold Func.isWrapper; first | (rw [if_pos (by decide +kernel)]; kernel_rfl) | (rw [if_neg (by decide +kernel)]; exact ⟨rfl, rfl⟩))
    (fun os started H enc _ => graphRing_lifted os started H enc)

theorem graphRing_card : Rows.GraphRingCardSaid :=
  Claim7.holds_tied_plain_at .later [] [.data] true (true, "ea5b3f35b24764269f03fd01d1e590e8a76020ee846f098635af8d5d8775b929") false
    graphRing_row (fun _ h => by cases h) (by kernel_rfl) (fun _ h => by cases h) graphRing_row_tie rfl ⟨rfl, rfl⟩ (by kernel_rfl) rfl
    (fun f fn hf hfn => by
      obtain rfl : f = 14 := Option.some.inj ((show Tryd.prog.funcNamed "haruspex/haruspexlaw5.GraphRing" = some 14 by kernel_rfl).symm.trans hf) |>.symm
      obtain rfl : fn = Tryd.f14 := (Option.some.inj (Tryd.func14.symm.trans hfn)).symm
      exact ⟨by kernel_rfl, fun j t ht => by
        rw [Tryd.params14] at ht
        have hm : t ∈ [3, 3, 3] := by simpa using Array.mem_of_getElem? ht
        have hall : ([3, 3, 3].all fun u => !Tryd.prog.wantsStandIn u) = true := by kernel_rfl
        exact (show Tryd.prog.wantsStandIn t = false by simpa using List.all_eq_true.1 hall t hm)⟩)
    (by kernel_rfl)
end Go.Proofs.YtddafkflndhnfaaDoor
