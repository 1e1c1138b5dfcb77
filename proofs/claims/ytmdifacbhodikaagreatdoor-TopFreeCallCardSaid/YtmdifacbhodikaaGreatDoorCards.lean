/-
  DERIVED. GIVEN WITH THE SEED: THE CARDS: each row of YtmdifacbhodikaaGreatDoorRows.lean that lists a variable, with what it lists TIED to the program's text (the seventh form; the later family's looks); each row that meets fmt, with fmt's text TOLD by the authors' own Lean function (tested against real Go, not proved from fmt's source: count such statements apart). THE CARD IS WHAT COUNTS. Prove the row's statement (the work); the ties are given (YtmdifacbhodikaaGreatDoorTie.lean); close each card by the builder's one call (the guide's Derived/Test/ToyasCard.lean, 'card_holds'). Laid BY PROGRAM, IN A SANDBOX (cutbox-door.mjs). By AI agents, Wed Nov 11 2026. No macro, syntax, notation, axiom, sorry.
-/
import Derived.Test.YtmdifacbhodikaaGreatDoorRows
import GoSem.ClaimSeven
namespace Go.Proofs.YtmdifacbhodikaaGreatDoor
namespace Rows

/-- THE TIED CARD OF 'haruspextop.TopWay'. -/
def topWayCard : Claim7 := { stood := { row := topWayRow, standIns := [], harness := (true, "0cb7e82cab07c2f6b2dbc0321666d1b88ca672b637e64c0eb63857be5004eb6f"), looks := true }, kinds := [], alts := [], laidByText := true, laidKinds := [.data, .handle], laidTests := true, laidLooks := .later }
def TopWayCardSaid : Prop := Claim7.holds Tryz.pinned (.plain (OpenSpec.ofChange topWaySpec)) topWayCard

/-- THE TIED CARD OF 'haruspextop.TopTaintAdd'. -/
def topTaintAddCard : Claim7 := { stood := { row := topTaintAddRow, standIns := [], harness := (true, "0cb7e82cab07c2f6b2dbc0321666d1b88ca672b637e64c0eb63857be5004eb6f"), looks := true }, kinds := [], alts := [], laidByText := true, laidKinds := [.data, .handle], laidTests := true, laidLooks := .later }
def TopTaintAddCardSaid : Prop := Claim7.holds Tryz.pinned (.plain (OpenSpec.ofChange topTaintAddSpec)) topTaintAddCard

/-- THE TIED CARD OF 'haruspextop.TopDead'. -/
def topDeadCard : Claim7 := { stood := { row := topDeadRow, standIns := [], harness := (true, "0cb7e82cab07c2f6b2dbc0321666d1b88ca672b637e64c0eb63857be5004eb6f"), looks := true }, kinds := [], alts := [], laidByText := true, laidKinds := [.data, .handle], laidTests := true, laidLooks := .later }
def TopDeadCardSaid : Prop := Claim7.holds Tryz.pinned (.plain (OpenSpec.ofChange topDeadSpec)) topDeadCard

/-- THE TIED CARD OF 'haruspextop.TopFreedWay'. -/
def topFreedWayCard : Claim7 := { stood := { row := topFreedWayRow, standIns := [], harness := (true, "0cb7e82cab07c2f6b2dbc0321666d1b88ca672b637e64c0eb63857be5004eb6f"), looks := true }, kinds := [], alts := [], laidByText := true, laidKinds := [.data, .handle], laidTests := true, laidLooks := .later }
def TopFreedWayCardSaid : Prop := Claim7.holds Tryz.pinned (.plain (OpenSpec.ofChange topFreedWaySpec)) topFreedWayCard

/-- THE TIED CARD OF 'haruspextop.TopFreeCall'. -/
def topFreeCallCard : Claim7 := { stood := { row := topFreeCallRow, standIns := [], harness := (true, "0cb7e82cab07c2f6b2dbc0321666d1b88ca672b637e64c0eb63857be5004eb6f"), looks := true }, kinds := [], alts := [], laidByText := true, laidKinds := [.data, .handle], laidTests := true, laidLooks := .later }
def TopFreeCallCardSaid : Prop := Claim7.holds Tryz.pinned (.plain (OpenSpec.ofChange topFreeCallSpec)) topFreeCallCard

/-- THE TIED CARD OF 'haruspextop.TopRing'. -/
def topRingCard : Claim7 := { stood := { row := topRingRow, standIns := [], harness := (true, "0cb7e82cab07c2f6b2dbc0321666d1b88ca672b637e64c0eb63857be5004eb6f"), looks := true }, kinds := [], alts := [], laidByText := true, laidKinds := [.data, .handle], laidTests := true, laidLooks := .later }
def TopRingCardSaid : Prop := Claim7.holds Tryz.pinned (.plain (OpenSpec.ofChange topRingSpec)) topRingCard

/-- THE SECOND FORM's CARD OF 'haruspextop.TopWay'. -/
def topWayUptoCard : Claim7 := { stood := { row := topWayUptoRow, standIns := [], harness := (true, "0cb7e82cab07c2f6b2dbc0321666d1b88ca672b637e64c0eb63857be5004eb6f"), looks := true }, kinds := [], alts := [], laidByText := true, laidKinds := [.data, .handle], laidTests := true, laidLooks := .later }
def TopWayUptoCardSaid : Prop := Claim7.holds Tryz.pinned (.plain (OpenSpec.upto topWaySpec)) topWayUptoCard

/-- THE SECOND FORM's CARD OF 'haruspextop.TopTaintAdd'. -/
def topTaintAddUptoCard : Claim7 := { stood := { row := topTaintAddUptoRow, standIns := [], harness := (true, "0cb7e82cab07c2f6b2dbc0321666d1b88ca672b637e64c0eb63857be5004eb6f"), looks := true }, kinds := [], alts := [], laidByText := true, laidKinds := [.data, .handle], laidTests := true, laidLooks := .later }
def TopTaintAddUptoCardSaid : Prop := Claim7.holds Tryz.pinned (.plain (OpenSpec.upto topTaintAddSpec)) topTaintAddUptoCard

/-- THE SECOND FORM's CARD OF 'haruspextop.TopDead'. -/
def topDeadUptoCard : Claim7 := { stood := { row := topDeadUptoRow, standIns := [], harness := (true, "0cb7e82cab07c2f6b2dbc0321666d1b88ca672b637e64c0eb63857be5004eb6f"), looks := true }, kinds := [], alts := [], laidByText := true, laidKinds := [.data, .handle], laidTests := true, laidLooks := .later }
def TopDeadUptoCardSaid : Prop := Claim7.holds Tryz.pinned (.plain (OpenSpec.upto topDeadSpec)) topDeadUptoCard

/-- THE SECOND FORM's CARD OF 'haruspextop.TopFreedWay'. -/
def topFreedWayUptoCard : Claim7 := { stood := { row := topFreedWayUptoRow, standIns := [], harness := (true, "0cb7e82cab07c2f6b2dbc0321666d1b88ca672b637e64c0eb63857be5004eb6f"), looks := true }, kinds := [], alts := [], laidByText := true, laidKinds := [.data, .handle], laidTests := true, laidLooks := .later }
def TopFreedWayUptoCardSaid : Prop := Claim7.holds Tryz.pinned (.plain (OpenSpec.upto topFreedWaySpec)) topFreedWayUptoCard

/-- THE SECOND FORM's CARD OF 'haruspextop.TopFreeCall'. -/
def topFreeCallUptoCard : Claim7 := { stood := { row := topFreeCallUptoRow, standIns := [], harness := (true, "0cb7e82cab07c2f6b2dbc0321666d1b88ca672b637e64c0eb63857be5004eb6f"), looks := true }, kinds := [], alts := [], laidByText := true, laidKinds := [.data, .handle], laidTests := true, laidLooks := .later }
def TopFreeCallUptoCardSaid : Prop := Claim7.holds Tryz.pinned (.plain (OpenSpec.upto topFreeCallSpec)) topFreeCallUptoCard

/-- THE SECOND FORM's CARD OF 'haruspextop.TopRing'. -/
def topRingUptoCard : Claim7 := { stood := { row := topRingUptoRow, standIns := [], harness := (true, "0cb7e82cab07c2f6b2dbc0321666d1b88ca672b637e64c0eb63857be5004eb6f"), looks := true }, kinds := [], alts := [], laidByText := true, laidKinds := [.data, .handle], laidTests := true, laidLooks := .later }
def TopRingUptoCardSaid : Prop := Claim7.holds Tryz.pinned (.plain (OpenSpec.upto topRingSpec)) topRingUptoCard
end Rows
end Go.Proofs.YtmdifacbhodikaaGreatDoor
