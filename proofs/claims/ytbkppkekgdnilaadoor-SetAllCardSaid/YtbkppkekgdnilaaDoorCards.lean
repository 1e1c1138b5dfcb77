/-
  DERIVED. GIVEN WITH THE SEED: THE CARDS: each row of YtbkppkekgdnilaaDoorRows.lean that lists a variable, with what it lists TIED to the program's text (the seventh form; the later family's looks); each row that meets fmt, with fmt's text TOLD by the authors' own Lean function (tested against real Go, not proved from fmt's source: count such statements apart). THE CARD IS WHAT COUNTS. Prove the row's statement (the work); the ties are given (YtbkppkekgdnilaaDoorTie.lean); close each card by the builder's one call (the guide's Derived/Test/ToyasCard.lean, 'card_holds'). Laid BY PROGRAM, IN A SANDBOX (cutbox-door.mjs). By AI agents, Wed Nov 11 2026. No macro, syntax, notation, axiom, sorry.
-/
import Derived.Test.YtbkppkekgdnilaaDoorRows
import GoSem.ClaimSeven
namespace Go.Proofs.YtbkppkekgdnilaaDoor
namespace Rows

/-- THE TIED CARD OF 'haruspexlaw1.SetEnds'. -/
def setEndsCard : Claim7 := { stood := { row := setEndsRow, standIns := [], harness := (true, "36fc468911c2f3da6f849cbaf8c4bbd75b84ceb4953728226fb4853cfcae30e5"), looks := false }, kinds := [], alts := [], laidByText := true, laidKinds := [.data], laidTests := true, laidLooks := .later }
def SetEndsCardSaid : Prop := Claim7.holds Tryd.pinned (.plain (OpenSpec.ofChange setEndsSpec)) setEndsCard

/-- THE TIED CARD OF 'haruspexlaw1.SetWalk'. -/
def setWalkCard : Claim7 := { stood := { row := setWalkRow, standIns := [], harness := (true, "36fc468911c2f3da6f849cbaf8c4bbd75b84ceb4953728226fb4853cfcae30e5"), looks := false }, kinds := [], alts := [], laidByText := true, laidKinds := [.data], laidTests := true, laidLooks := .later }
def SetWalkCardSaid : Prop := Claim7.holds Tryd.pinned (.plain (OpenSpec.ofChange setWalkSpec)) setWalkCard

/-- THE TIED CARD OF 'haruspexlaw1.SetMany'. -/
def setManyCard : Claim7 := { stood := { row := setManyRow, standIns := [], harness := (true, "36fc468911c2f3da6f849cbaf8c4bbd75b84ceb4953728226fb4853cfcae30e5"), looks := false }, kinds := [], alts := [], laidByText := true, laidKinds := [.data], laidTests := true, laidLooks := .later }
def SetManyCardSaid : Prop := Claim7.holds Tryd.pinned (.plain (OpenSpec.ofChange setManySpec)) setManyCard

/-- THE TIED CARD OF 'haruspexlaw1.SetOrder'. -/
def setOrderCard : Claim7 := { stood := { row := setOrderRow, standIns := [], harness := (true, "36fc468911c2f3da6f849cbaf8c4bbd75b84ceb4953728226fb4853cfcae30e5"), looks := false }, kinds := [], alts := [], laidByText := true, laidKinds := [.data], laidTests := true, laidLooks := .later }
def SetOrderCardSaid : Prop := Claim7.holds Tryd.pinned (.plain (OpenSpec.ofChange setOrderSpec)) setOrderCard

/-- THE TIED CARD OF 'haruspexlaw1.SetAll'. -/
def setAllCard : Claim7 := { stood := { row := setAllRow, standIns := [], harness := (true, "36fc468911c2f3da6f849cbaf8c4bbd75b84ceb4953728226fb4853cfcae30e5"), looks := false }, kinds := [], alts := [], laidByText := true, laidKinds := [.data], laidTests := true, laidLooks := .later }
def SetAllCardSaid : Prop := Claim7.holds Tryd.pinned (.plain (OpenSpec.ofChange setAllSpec)) setAllCard

/-- THE TIED CARD OF 'haruspexlaw1.SetPairs'. -/
def setPairsCard : Claim7 := { stood := { row := setPairsRow, standIns := [], harness := (true, "36fc468911c2f3da6f849cbaf8c4bbd75b84ceb4953728226fb4853cfcae30e5"), looks := false }, kinds := [], alts := [], laidByText := true, laidKinds := [.data], laidTests := true, laidLooks := .later }
def SetPairsCardSaid : Prop := Claim7.holds Tryd.pinned (.plain (OpenSpec.ofChange setPairsSpec)) setPairsCard

/-- THE SECOND FORM's CARD OF 'haruspexlaw1.SetEnds'. -/
def setEndsUptoCard : Claim7 := { stood := { row := setEndsUptoRow, standIns := [], harness := (true, "36fc468911c2f3da6f849cbaf8c4bbd75b84ceb4953728226fb4853cfcae30e5"), looks := false }, kinds := [], alts := [], laidByText := true, laidKinds := [.data], laidTests := true, laidLooks := .later }
def SetEndsUptoCardSaid : Prop := Claim7.holds Tryd.pinned (.plain (OpenSpec.upto setEndsSpec)) setEndsUptoCard

/-- THE SECOND FORM's CARD OF 'haruspexlaw1.SetWalk'. -/
def setWalkUptoCard : Claim7 := { stood := { row := setWalkUptoRow, standIns := [], harness := (true, "36fc468911c2f3da6f849cbaf8c4bbd75b84ceb4953728226fb4853cfcae30e5"), looks := false }, kinds := [], alts := [], laidByText := true, laidKinds := [.data], laidTests := true, laidLooks := .later }
def SetWalkUptoCardSaid : Prop := Claim7.holds Tryd.pinned (.plain (OpenSpec.upto setWalkSpec)) setWalkUptoCard

/-- THE SECOND FORM's CARD OF 'haruspexlaw1.SetMany'. -/
def setManyUptoCard : Claim7 := { stood := { row := setManyUptoRow, standIns := [], harness := (true, "36fc468911c2f3da6f849cbaf8c4bbd75b84ceb4953728226fb4853cfcae30e5"), looks := false }, kinds := [], alts := [], laidByText := true, laidKinds := [.data], laidTests := true, laidLooks := .later }
def SetManyUptoCardSaid : Prop := Claim7.holds Tryd.pinned (.plain (OpenSpec.upto setManySpec)) setManyUptoCard

/-- THE SECOND FORM's CARD OF 'haruspexlaw1.SetOrder'. -/
def setOrderUptoCard : Claim7 := { stood := { row := setOrderUptoRow, standIns := [], harness := (true, "36fc468911c2f3da6f849cbaf8c4bbd75b84ceb4953728226fb4853cfcae30e5"), looks := false }, kinds := [], alts := [], laidByText := true, laidKinds := [.data], laidTests := true, laidLooks := .later }
def SetOrderUptoCardSaid : Prop := Claim7.holds Tryd.pinned (.plain (OpenSpec.upto setOrderSpec)) setOrderUptoCard

/-- THE SECOND FORM's CARD OF 'haruspexlaw1.SetAll'. -/
def setAllUptoCard : Claim7 := { stood := { row := setAllUptoRow, standIns := [], harness := (true, "36fc468911c2f3da6f849cbaf8c4bbd75b84ceb4953728226fb4853cfcae30e5"), looks := false }, kinds := [], alts := [], laidByText := true, laidKinds := [.data], laidTests := true, laidLooks := .later }
def SetAllUptoCardSaid : Prop := Claim7.holds Tryd.pinned (.plain (OpenSpec.upto setAllSpec)) setAllUptoCard

/-- THE SECOND FORM's CARD OF 'haruspexlaw1.SetPairs'. -/
def setPairsUptoCard : Claim7 := { stood := { row := setPairsUptoRow, standIns := [], harness := (true, "36fc468911c2f3da6f849cbaf8c4bbd75b84ceb4953728226fb4853cfcae30e5"), looks := false }, kinds := [], alts := [], laidByText := true, laidKinds := [.data], laidTests := true, laidLooks := .later }
def SetPairsUptoCardSaid : Prop := Claim7.holds Tryd.pinned (.plain (OpenSpec.upto setPairsSpec)) setPairsUptoCard
end Rows
end Go.Proofs.YtbkppkekgdnilaaDoor
