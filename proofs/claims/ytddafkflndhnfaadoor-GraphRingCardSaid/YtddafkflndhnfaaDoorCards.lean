/-
  DERIVED. GIVEN WITH THE SEED: THE CARDS: each row of YtddafkflndhnfaaDoorRows.lean that lists a variable, with what it lists TIED to the program's text (the seventh form; the later family's looks); each row that meets fmt, with fmt's text TOLD by the authors' own Lean function (tested against real Go, not proved from fmt's source: count such statements apart). THE CARD IS WHAT COUNTS. Prove the row's statement (the work); the ties are given (YtddafkflndhnfaaDoorTie.lean); close each card by the builder's one call (the guide's Derived/Test/ToyasCard.lean, 'card_holds'). Laid BY PROGRAM, IN A SANDBOX (cutbox-door.mjs). By AI agents, Wed Nov 11 2026. No macro, syntax, notation, axiom, sorry.
-/
import Derived.Test.YtddafkflndhnfaaDoorRows
import GoSem.ClaimSeven
namespace Go.Proofs.YtddafkflndhnfaaDoor
namespace Rows

/-- THE TIED CARD OF 'haruspexlaw5.GraphReach'. -/
def graphReachCard : Claim7 := { stood := { row := graphReachRow, standIns := [], harness := (true, "ea5b3f35b24764269f03fd01d1e590e8a76020ee846f098635af8d5d8775b929"), looks := false }, kinds := [], alts := [], laidByText := true, laidKinds := [.data], laidTests := true, laidLooks := .later }
def GraphReachCardSaid : Prop := Claim7.holds Tryd.pinned (.plain (OpenSpec.ofChange graphReachSpec)) graphReachCard

/-- THE TIED CARD OF 'haruspexlaw5.GraphParts'. -/
def graphPartsCard : Claim7 := { stood := { row := graphPartsRow, standIns := [], harness := (true, "ea5b3f35b24764269f03fd01d1e590e8a76020ee846f098635af8d5d8775b929"), looks := false }, kinds := [], alts := [], laidByText := true, laidKinds := [.data], laidTests := true, laidLooks := .later }
def GraphPartsCardSaid : Prop := Claim7.holds Tryd.pinned (.plain (OpenSpec.ofChange graphPartsSpec)) graphPartsCard

/-- THE TIED CARD OF 'haruspexlaw5.GraphOrder'. -/
def graphOrderCard : Claim7 := { stood := { row := graphOrderRow, standIns := [], harness := (true, "ea5b3f35b24764269f03fd01d1e590e8a76020ee846f098635af8d5d8775b929"), looks := false }, kinds := [], alts := [], laidByText := true, laidKinds := [.data], laidTests := true, laidLooks := .later }
def GraphOrderCardSaid : Prop := Claim7.holds Tryd.pinned (.plain (OpenSpec.ofChange graphOrderSpec)) graphOrderCard

/-- THE TIED CARD OF 'haruspexlaw5.GraphPath'. -/
def graphPathCard : Claim7 := { stood := { row := graphPathRow, standIns := [], harness := (true, "ea5b3f35b24764269f03fd01d1e590e8a76020ee846f098635af8d5d8775b929"), looks := false }, kinds := [], alts := [], laidByText := true, laidKinds := [.data], laidTests := true, laidLooks := .later }
def GraphPathCardSaid : Prop := Claim7.holds Tryd.pinned (.plain (OpenSpec.ofChange graphPathSpec)) graphPathCard

/-- THE TIED CARD OF 'haruspexlaw5.GraphTurn'. -/
def graphTurnCard : Claim7 := { stood := { row := graphTurnRow, standIns := [], harness := (true, "ea5b3f35b24764269f03fd01d1e590e8a76020ee846f098635af8d5d8775b929"), looks := false }, kinds := [], alts := [], laidByText := true, laidKinds := [.data], laidTests := true, laidLooks := .later }
def GraphTurnCardSaid : Prop := Claim7.holds Tryd.pinned (.plain (OpenSpec.ofChange graphTurnSpec)) graphTurnCard

/-- THE TIED CARD OF 'haruspexlaw5.GraphLoopsParts'. -/
def graphLoopsPartsCard : Claim7 := { stood := { row := graphLoopsPartsRow, standIns := [], harness := (true, "ea5b3f35b24764269f03fd01d1e590e8a76020ee846f098635af8d5d8775b929"), looks := false }, kinds := [], alts := [], laidByText := true, laidKinds := [.data], laidTests := true, laidLooks := .later }
def GraphLoopsPartsCardSaid : Prop := Claim7.holds Tryd.pinned (.plain (OpenSpec.ofChange graphLoopsPartsSpec)) graphLoopsPartsCard

/-- THE TIED CARD OF 'haruspexlaw5.GraphPathLeast'. -/
def graphPathLeastCard : Claim7 := { stood := { row := graphPathLeastRow, standIns := [], harness := (true, "ea5b3f35b24764269f03fd01d1e590e8a76020ee846f098635af8d5d8775b929"), looks := false }, kinds := [], alts := [], laidByText := true, laidKinds := [.data], laidTests := true, laidLooks := .later }
def GraphPathLeastCardSaid : Prop := Claim7.holds Tryd.pinned (.plain (OpenSpec.ofChange graphPathLeastSpec)) graphPathLeastCard

/-- THE TIED CARD OF 'haruspexlaw5.GraphPartsOrder'. -/
def graphPartsOrderCard : Claim7 := { stood := { row := graphPartsOrderRow, standIns := [], harness := (true, "ea5b3f35b24764269f03fd01d1e590e8a76020ee846f098635af8d5d8775b929"), looks := false }, kinds := [], alts := [], laidByText := true, laidKinds := [.data], laidTests := true, laidLooks := .later }
def GraphPartsOrderCardSaid : Prop := Claim7.holds Tryd.pinned (.plain (OpenSpec.ofChange graphPartsOrderSpec)) graphPartsOrderCard

/-- THE TIED CARD OF 'haruspexlaw5.GraphOwn'. -/
def graphOwnCard : Claim7 := { stood := { row := graphOwnRow, standIns := [], harness := (true, "ea5b3f35b24764269f03fd01d1e590e8a76020ee846f098635af8d5d8775b929"), looks := false }, kinds := [], alts := [], laidByText := true, laidKinds := [.data], laidTests := true, laidLooks := .later }
def GraphOwnCardSaid : Prop := Claim7.holds Tryd.pinned (.plain (OpenSpec.ofChange graphOwnSpec)) graphOwnCard

/-- THE TIED CARD OF 'haruspexlaw5.GraphMore'. -/
def graphMoreCard : Claim7 := { stood := { row := graphMoreRow, standIns := [], harness := (true, "ea5b3f35b24764269f03fd01d1e590e8a76020ee846f098635af8d5d8775b929"), looks := false }, kinds := [], alts := [], laidByText := true, laidKinds := [.data], laidTests := true, laidLooks := .later }
def GraphMoreCardSaid : Prop := Claim7.holds Tryd.pinned (.plain (OpenSpec.ofChange graphMoreSpec)) graphMoreCard

/-- THE TIED CARD OF 'haruspexlaw5.GraphRaw'. -/
def graphRawCard : Claim7 := { stood := { row := graphRawRow, standIns := [], harness := (true, "ea5b3f35b24764269f03fd01d1e590e8a76020ee846f098635af8d5d8775b929"), looks := false }, kinds := [], alts := [], laidByText := true, laidKinds := [.data], laidTests := true, laidLooks := .later }
def GraphRawCardSaid : Prop := Claim7.holds Tryd.pinned (.plain (OpenSpec.ofChange graphRawSpec)) graphRawCard

/-- THE TIED CARD OF 'haruspexlaw5.GraphRing'. -/
def graphRingCard : Claim7 := { stood := { row := graphRingRow, standIns := [], harness := (true, "ea5b3f35b24764269f03fd01d1e590e8a76020ee846f098635af8d5d8775b929"), looks := false }, kinds := [], alts := [], laidByText := true, laidKinds := [.data], laidTests := true, laidLooks := .later }
def GraphRingCardSaid : Prop := Claim7.holds Tryd.pinned (.plain (OpenSpec.ofChange graphRingSpec)) graphRingCard

/-- THE TIED CARD OF 'haruspexlaw5.GraphGreat'. -/
def graphGreatCard : Claim7 := { stood := { row := graphGreatRow, standIns := [], harness := (true, "ea5b3f35b24764269f03fd01d1e590e8a76020ee846f098635af8d5d8775b929"), looks := false }, kinds := [], alts := [], laidByText := true, laidKinds := [.data], laidTests := true, laidLooks := .later }
def GraphGreatCardSaid : Prop := Claim7.holds Tryd.pinned (.plain (OpenSpec.ofChange graphGreatSpec)) graphGreatCard

/-- THE SECOND FORM's CARD OF 'haruspexlaw5.GraphReach'. -/
def graphReachUptoCard : Claim7 := { stood := { row := graphReachUptoRow, standIns := [], harness := (true, "ea5b3f35b24764269f03fd01d1e590e8a76020ee846f098635af8d5d8775b929"), looks := false }, kinds := [], alts := [], laidByText := true, laidKinds := [.data], laidTests := true, laidLooks := .later }
def GraphReachUptoCardSaid : Prop := Claim7.holds Tryd.pinned (.plain (OpenSpec.upto graphReachSpec)) graphReachUptoCard

/-- THE SECOND FORM's CARD OF 'haruspexlaw5.GraphParts'. -/
def graphPartsUptoCard : Claim7 := { stood := { row := graphPartsUptoRow, standIns := [], harness := (true, "ea5b3f35b24764269f03fd01d1e590e8a76020ee846f098635af8d5d8775b929"), looks := false }, kinds := [], alts := [], laidByText := true, laidKinds := [.data], laidTests := true, laidLooks := .later }
def GraphPartsUptoCardSaid : Prop := Claim7.holds Tryd.pinned (.plain (OpenSpec.upto graphPartsSpec)) graphPartsUptoCard

/-- THE SECOND FORM's CARD OF 'haruspexlaw5.GraphOrder'. -/
def graphOrderUptoCard : Claim7 := { stood := { row := graphOrderUptoRow, standIns := [], harness := (true, "ea5b3f35b24764269f03fd01d1e590e8a76020ee846f098635af8d5d8775b929"), looks := false }, kinds := [], alts := [], laidByText := true, laidKinds := [.data], laidTests := true, laidLooks := .later }
def GraphOrderUptoCardSaid : Prop := Claim7.holds Tryd.pinned (.plain (OpenSpec.upto graphOrderSpec)) graphOrderUptoCard

/-- THE SECOND FORM's CARD OF 'haruspexlaw5.GraphPath'. -/
def graphPathUptoCard : Claim7 := { stood := { row := graphPathUptoRow, standIns := [], harness := (true, "ea5b3f35b24764269f03fd01d1e590e8a76020ee846f098635af8d5d8775b929"), looks := false }, kinds := [], alts := [], laidByText := true, laidKinds := [.data], laidTests := true, laidLooks := .later }
def GraphPathUptoCardSaid : Prop := Claim7.holds Tryd.pinned (.plain (OpenSpec.upto graphPathSpec)) graphPathUptoCard

/-- THE SECOND FORM's CARD OF 'haruspexlaw5.GraphTurn'. -/
def graphTurnUptoCard : Claim7 := { stood := { row := graphTurnUptoRow, standIns := [], harness := (true, "ea5b3f35b24764269f03fd01d1e590e8a76020ee846f098635af8d5d8775b929"), looks := false }, kinds := [], alts := [], laidByText := true, laidKinds := [.data], laidTests := true, laidLooks := .later }
def GraphTurnUptoCardSaid : Prop := Claim7.holds Tryd.pinned (.plain (OpenSpec.upto graphTurnSpec)) graphTurnUptoCard

/-- THE SECOND FORM's CARD OF 'haruspexlaw5.GraphLoopsParts'. -/
def graphLoopsPartsUptoCard : Claim7 := { stood := { row := graphLoopsPartsUptoRow, standIns := [], harness := (true, "ea5b3f35b24764269f03fd01d1e590e8a76020ee846f098635af8d5d8775b929"), looks := false }, kinds := [], alts := [], laidByText := true, laidKinds := [.data], laidTests := true, laidLooks := .later }
def GraphLoopsPartsUptoCardSaid : Prop := Claim7.holds Tryd.pinned (.plain (OpenSpec.upto graphLoopsPartsSpec)) graphLoopsPartsUptoCard

/-- THE SECOND FORM's CARD OF 'haruspexlaw5.GraphPathLeast'. -/
def graphPathLeastUptoCard : Claim7 := { stood := { row := graphPathLeastUptoRow, standIns := [], harness := (true, "ea5b3f35b24764269f03fd01d1e590e8a76020ee846f098635af8d5d8775b929"), looks := false }, kinds := [], alts := [], laidByText := true, laidKinds := [.data], laidTests := true, laidLooks := .later }
def GraphPathLeastUptoCardSaid : Prop := Claim7.holds Tryd.pinned (.plain (OpenSpec.upto graphPathLeastSpec)) graphPathLeastUptoCard

/-- THE SECOND FORM's CARD OF 'haruspexlaw5.GraphPartsOrder'. -/
def graphPartsOrderUptoCard : Claim7 := { stood := { row := graphPartsOrderUptoRow, standIns := [], harness := (true, "ea5b3f35b24764269f03fd01d1e590e8a76020ee846f098635af8d5d8775b929"), looks := false }, kinds := [], alts := [], laidByText := true, laidKinds := [.data], laidTests := true, laidLooks := .later }
def GraphPartsOrderUptoCardSaid : Prop := Claim7.holds Tryd.pinned (.plain (OpenSpec.upto graphPartsOrderSpec)) graphPartsOrderUptoCard

/-- THE SECOND FORM's CARD OF 'haruspexlaw5.GraphOwn'. -/
def graphOwnUptoCard : Claim7 := { stood := { row := graphOwnUptoRow, standIns := [], harness := (true, "ea5b3f35b24764269f03fd01d1e590e8a76020ee846f098635af8d5d8775b929"), looks := false }, kinds := [], alts := [], laidByText := true, laidKinds := [.data], laidTests := true, laidLooks := .later }
def GraphOwnUptoCardSaid : Prop := Claim7.holds Tryd.pinned (.plain (OpenSpec.upto graphOwnSpec)) graphOwnUptoCard

/-- THE SECOND FORM's CARD OF 'haruspexlaw5.GraphMore'. -/
def graphMoreUptoCard : Claim7 := { stood := { row := graphMoreUptoRow, standIns := [], harness := (true, "ea5b3f35b24764269f03fd01d1e590e8a76020ee846f098635af8d5d8775b929"), looks := false }, kinds := [], alts := [], laidByText := true, laidKinds := [.data], laidTests := true, laidLooks := .later }
def GraphMoreUptoCardSaid : Prop := Claim7.holds Tryd.pinned (.plain (OpenSpec.upto graphMoreSpec)) graphMoreUptoCard

/-- THE SECOND FORM's CARD OF 'haruspexlaw5.GraphRaw'. -/
def graphRawUptoCard : Claim7 := { stood := { row := graphRawUptoRow, standIns := [], harness := (true, "ea5b3f35b24764269f03fd01d1e590e8a76020ee846f098635af8d5d8775b929"), looks := false }, kinds := [], alts := [], laidByText := true, laidKinds := [.data], laidTests := true, laidLooks := .later }
def GraphRawUptoCardSaid : Prop := Claim7.holds Tryd.pinned (.plain (OpenSpec.upto graphRawSpec)) graphRawUptoCard

/-- THE SECOND FORM's CARD OF 'haruspexlaw5.GraphRing'. -/
def graphRingUptoCard : Claim7 := { stood := { row := graphRingUptoRow, standIns := [], harness := (true, "ea5b3f35b24764269f03fd01d1e590e8a76020ee846f098635af8d5d8775b929"), looks := false }, kinds := [], alts := [], laidByText := true, laidKinds := [.data], laidTests := true, laidLooks := .later }
def GraphRingUptoCardSaid : Prop := Claim7.holds Tryd.pinned (.plain (OpenSpec.upto graphRingSpec)) graphRingUptoCard

/-- THE SECOND FORM's CARD OF 'haruspexlaw5.GraphGreat'. -/
def graphGreatUptoCard : Claim7 := { stood := { row := graphGreatUptoRow, standIns := [], harness := (true, "ea5b3f35b24764269f03fd01d1e590e8a76020ee846f098635af8d5d8775b929"), looks := false }, kinds := [], alts := [], laidByText := true, laidKinds := [.data], laidTests := true, laidLooks := .later }
def GraphGreatUptoCardSaid : Prop := Claim7.holds Tryd.pinned (.plain (OpenSpec.upto graphGreatSpec)) graphGreatUptoCard
end Rows
end Go.Proofs.YtddafkflndhnfaaDoor
