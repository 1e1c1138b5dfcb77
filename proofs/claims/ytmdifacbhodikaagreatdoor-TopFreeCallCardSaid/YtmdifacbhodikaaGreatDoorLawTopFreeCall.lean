/-
  TopFreeCall: for every input the law answers true, and its arguments read afterwards as before, where the listed variables hold what the program lays in them.
-/
import Derived.Test.YtmdifacbhodikaaGreatDoorLawTopFreeCallB
set_option linter.all false
set_option maxHeartbeats 40000000
namespace Go.Proofs.YtmdifacbhodikaaGreatDoor
open Go.ChangeShapes Go.WideShapes Go.ChangeAt Go.RowKit Go.Fw Go.Fk

theorem topFreeCall_card : Rows.TopFreeCallCardSaid :=
  Claim7.holds_tied_plain_at .later [] [.data, .handle] true (true, "0cb7e82cab07c2f6b2dbc0321666d1b88ca672b637e64c0eb63857be5004eb6f") true
    topFreeCall_row (fun _ h => by cases h) (by as_aux_lemma => kernel_rfl) (fun _ h => by cases h) topFreeCall_row_tie rfl ⟨rfl, rfl⟩ (by as_aux_lemma => kernel_rfl) rfl
    (fun f fn hf hfn => by
      obtain rfl : f = 7 := Option.some.inj ((show Tryz.prog.funcNamed "haruspex/haruspextop.TopFreeCall" = some 7 by as_aux_lemma => kernel_rfl).symm.trans hf) |>.symm
      obtain rfl : fn = Tryz.f7 := (Option.some.inj (Tryz.func7.symm.trans hfn)).symm
      exact ⟨by as_aux_lemma => kernel_rfl, fun j t ht => by
        rw [Tryz.params7] at ht
        have hm : t ∈ [3, 4] := by simpa using Array.mem_of_getElem? ht
        have hall : ([3, 4].all fun u => !Tryz.prog.wantsStandIn u) = true := by as_aux_lemma => kernel_rfl
        exact (show Tryz.prog.wantsStandIn t = false by simpa using List.all_eq_true.1 hall t hm)⟩)
    (by as_aux_lemma => kernel_rfl)
end Go.Proofs.YtmdifacbhodikaaGreatDoor
