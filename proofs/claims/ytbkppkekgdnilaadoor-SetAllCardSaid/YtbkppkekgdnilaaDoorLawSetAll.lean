/-
  SetAll: for every input the law answers true, and its arguments read afterwards as before, where the listed table holds what the program's text lays in it.
-/
import Derived.Test.YtbkppkekgdnilaaDoorRows
import Derived.Test.YtbkppkekgdnilaaDoorCards
import Derived.Test.YtbkppkekgdnilaaDoorTie
import Derived.Test.YtbkppkekgdnilaaDoorLawSetL
import Derived.Test.YtbkppkekgdnilaaDoorFwU
namespace Go.Proofs.YtbkppkekgdnilaaDoor
open Go.ChangeShapes Go.WideShapes Go.ChangeAt Go.RowKit Go.Fw

theorem Tryd.own : ownKnob Tryd.prog.godebug = none := by kernel_rfl
theorem Tryd.kids : Kids Tryd.prog (· < Tryd.prog.types.size) := kids_rows (by kernel_rfl) (by kernel_rfl)
theorem Tryd.full : ∀ t e, t < Tryd.prog.types.size → Tryd.prog.underlying t = some (.slice e) → 0 < Tryd.prog.cellsOf e := slices_full_of Tryd.prog (by kernel_rfl)

def laidL : List (String × DataW Unit) := [("math/bits.deBruijn64tab", Rows.laid_math_bits_deBruijn64tab)]
theorem laidL_eq : laidL = [("math/bits.deBruijn64tab", .agg (bytesOf.map fun n : Nat => .lit (.int .u8 (n : Int))))] := by kernel_rfl
theorem cellsL {W : World} (h : laidMetH Tryd.prog laidL W) : ∀ i v, (bytesOf.map fun n : Nat => Value.int .u8 (n : Int))[i]? = some v → W.cell? ⟨0, i, none⟩ = some v := by
  rw [laidL_eq] at h
  exact table_cells (t := 53) (e := 5) (by kernel_rfl) (by kernel_rfl) (by kernel_rfl) (by kernel_rfl) (by kernel_rfl) (fun w hw => by rw [MakeChecks.laidMetH_plain _ _ _ (by kernel_rfl)] at hw; exact hw) h
theorem door_met (os : Os) (args : Array Value) : laidMetH Tryd.prog laidL ((World.doorLaid Tryd.prog 400 os).forCall (fun _ _ => 0) ⟨#[], args, []⟩).memory :=
  laidMetH_of_parts3 (fuel := 8) (laidMet_of_run' 8 (by kernel_rfl) (by kernel_rfl)) (by kernel_rfl) (by kernel_rfl)

set_option maxRecDepth 100000 in
theorem setAll_lifted (os : Os) (started : os.Started) (H : Type) (enc : TypeId × Value → H) :
    ReturnsInHanded {} Tryd.checked os 7 .any (fun w args => (Rows.setAllSpec.pre enc Tryd.prog Tryd.f7 [] false w args ∧ laidMetH Tryd.prog laidL w) ∧ sizedMet enc Tryd.prog Tryd.f7 (OpenSpec.ofChange Rows.setAllSpec) false w args)
      (Rows.setAllSpec.post enc Tryd.prog Tryd.f7 false true false false) := by
  refine returnsInHanded_of_change_and (C := Tryd.checked) (X := fun w _ => laidMetH Tryd.prog laidL w) (fun _ _ _ hh h => h.of_heap hh) Tryd.own started (by kernel_rfl) Tryd.func7
    (ChangeSpec.witness_shaped (enc := enc) (C := Tryd.checked) (os := os) (X := fun w _ => laidMetH Tryd.prog laidL w) false (World.doorLaid Tryd.prog 400 os) #[.slice none 0 0] 8 rfl (World.shaped_of_RefB (by kernel_rfl) (by kernel_rfl)) (by kernel_rfl) (by kernel_rfl) (by kernel_rfl) (door_met os _)) ?_
  intro W base args ds gs before hval0 hW _ _ hL _
  exact law_anyN (ks := [.nest [false, false, true] 50]) (N := 152) (tb := 4) (L1_SetAll_ok 6000) (Entry.table (cs := bytesOf.map fun n : Nat => Value.int .u8 (n : Int)) (by decide) (cellsL hL) (fun v hv => by
      obtain ⟨n, _, rfl⟩ := List.mem_map.1 hv
      exact .int _ _)) (by kernel_rfl) (by decide) (fun h us f hk ha => setall_law h us f ((hk 0 (by decide)).trans (Go.Fw.H.get_set_same _ _ _)) ha) hval0 hW rfl
    (fun hl => by
      cases ds with
      | nil => cases hl
      | cons d0 ds =>
      cases ds with
      | cons _ _ => simp at hl
      | nil => rfl) (by kernel_rfl) (by kernel_rfl) Tryd.kids Tryd.full (by kernel_rfl)

theorem setAll_row : Rows.SetAllSaid :=
  OpenClaim.holds_of_wide 7 Tryd.f7 rfl rfl rfl rfl rfl rfl rfl ⟨rfl, rfl, rfl, rfl, rfl⟩ rfl rfl rfl rfl rfl (by kernel_rfl) Tryd.func7 (by kernel_rfl)
    (of_decide_eq_true (by kernel_rfl)) (by unfold Func.isWrapper; first | (rw [if_pos (by decide +kernel)]; kernel_rfl) | (rw [if_neg (by decide +kernel)]; exact ⟨rfl, rfl⟩))
    (fun os started H enc _ => setAll_lifted os started H enc)

theorem setAll_card : Rows.SetAllCardSaid :=
  Claim7.holds_tied_plain_at .later [] [.data] true (true, "36fc468911c2f3da6f849cbaf8c4bbd75b84ceb4953728226fb4853cfcae30e5") false
    setAll_row (fun _ h => by cases h) (by kernel_rfl) (fun _ h => by cases h) setAll_row_tie rfl ⟨rfl, rfl⟩ (by kernel_rfl) rfl
    (fun f fn hf hfn => by
      obtain rfl : f = 7 := Option.some.inj ((show Tryd.prog.funcNamed "haruspex/haruspexlaw1.SetAll" = some 7 by kernel_rfl).symm.trans hf) |>.symm
      obtain rfl : fn = Tryd.f7 := (Option.some.inj (Tryd.func7.symm.trans hfn)).symm
      exact ⟨by kernel_rfl, fun j t ht => by
        rw [Tryd.params7] at ht
        have hm : t ∈ [40] := by simpa using Array.mem_of_getElem? ht
        have hall : ([40].all fun u => !Tryd.prog.wantsStandIn u) = true := by kernel_rfl
        exact (show Tryd.prog.wantsStandIn t = false by simpa using List.all_eq_true.1 hall t hm)⟩)
    (by kernel_rfl)
end Go.Proofs.YtbkppkekgdnilaaDoor
