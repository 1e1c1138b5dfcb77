/-
  DERIVED. GIVEN WITH THE SEED: THE CARDS: each row of YtmkpboaigdnpnaaDoorRows.lean that lists a variable, with what it lists TIED to the program's text (the seventh form; the later family's looks); each row that meets fmt, with fmt's text TOLD by the authors' own Lean function (tested against real Go, not proved from fmt's source: count such statements apart). THE CARD IS WHAT COUNTS. Prove the row's statement (the work); the ties are given (YtmkpboaigdnpnaaDoorTie.lean); close each card by the builder's one call (the guide's Derived/Test/ToyasCard.lean, 'card_holds'). Laid BY PROGRAM, IN A SANDBOX (cutbox-door.mjs). By AI agents, Wed Nov 11 2026. No macro, syntax, notation, axiom, sorry.
-/
import Derived.Test.YtmkpboaigdnpnaaDoorRows
import GoSem.ClaimSeven
namespace Go.Proofs.YtmkpboaigdnpnaaDoor
namespace Rows

/-- THE TIED CARD OF 'haruspexlaw7.FrontOf'. -/
def frontOfCard : Claim7 := { stood := { row := frontOfRow, standIns := [], harness := (true, "557c12db15a2d549ff078e5a0b7ed75e47e56c4d5a0e14907849df5a2aec0afd"), looks := false }, kinds := [], alts := [], laidByText := true, laidKinds := [.data], laidTests := true, laidLooks := .later }
def FrontOfCardSaid : Prop := Claim7.holds Tryd.pinned (.plain (OpenSpec.ofChange frontOfSpec)) frontOfCard

/-- THE TIED CARD OF 'haruspexlaw7.FrontMeet'. -/
def frontMeetCard : Claim7 := { stood := { row := frontMeetRow, standIns := [], harness := (true, "557c12db15a2d549ff078e5a0b7ed75e47e56c4d5a0e14907849df5a2aec0afd"), looks := false }, kinds := [], alts := [], laidByText := true, laidKinds := [.data], laidTests := true, laidLooks := .later }
def FrontMeetCardSaid : Prop := Claim7.holds Tryd.pinned (.plain (OpenSpec.ofChange frontMeetSpec)) frontMeetCard

/-- THE TIED CARD OF 'haruspexlaw7.FrontBelow'. -/
def frontBelowCard : Claim7 := { stood := { row := frontBelowRow, standIns := [], harness := (true, "557c12db15a2d549ff078e5a0b7ed75e47e56c4d5a0e14907849df5a2aec0afd"), looks := false }, kinds := [], alts := [], laidByText := true, laidKinds := [.data], laidTests := true, laidLooks := .later }
def FrontBelowCardSaid : Prop := Claim7.holds Tryd.pinned (.plain (OpenSpec.ofChange frontBelowSpec)) frontBelowCard

/-- THE TIED CARD OF 'haruspexlaw7.FrontClosed'. -/
def frontClosedCard : Claim7 := { stood := { row := frontClosedRow, standIns := [], harness := (true, "557c12db15a2d549ff078e5a0b7ed75e47e56c4d5a0e14907849df5a2aec0afd"), looks := false }, kinds := [], alts := [], laidByText := true, laidKinds := [.data], laidTests := true, laidLooks := .later }
def FrontClosedCardSaid : Prop := Claim7.holds Tryd.pinned (.plain (OpenSpec.ofChange frontClosedSpec)) frontClosedCard

/-- THE TIED CARD OF 'haruspexlaw7.FrontLine'. -/
def frontLineCard : Claim7 := { stood := { row := frontLineRow, standIns := [], harness := (true, "557c12db15a2d549ff078e5a0b7ed75e47e56c4d5a0e14907849df5a2aec0afd"), looks := false }, kinds := [], alts := [], laidByText := true, laidKinds := [.data], laidTests := true, laidLooks := .later }
def FrontLineCardSaid : Prop := Claim7.holds Tryd.pinned (.plain (OpenSpec.ofChange frontLineSpec)) frontLineCard

/-- THE SECOND FORM's CARD OF 'haruspexlaw7.FrontOf'. -/
def frontOfUptoCard : Claim7 := { stood := { row := frontOfUptoRow, standIns := [], harness := (true, "557c12db15a2d549ff078e5a0b7ed75e47e56c4d5a0e14907849df5a2aec0afd"), looks := false }, kinds := [], alts := [], laidByText := true, laidKinds := [.data], laidTests := true, laidLooks := .later }
def FrontOfUptoCardSaid : Prop := Claim7.holds Tryd.pinned (.plain (OpenSpec.upto frontOfSpec)) frontOfUptoCard

/-- THE SECOND FORM's CARD OF 'haruspexlaw7.FrontMeet'. -/
def frontMeetUptoCard : Claim7 := { stood := { row := frontMeetUptoRow, standIns := [], harness := (true, "557c12db15a2d549ff078e5a0b7ed75e47e56c4d5a0e14907849df5a2aec0afd"), looks := false }, kinds := [], alts := [], laidByText := true, laidKinds := [.data], laidTests := true, laidLooks := .later }
def FrontMeetUptoCardSaid : Prop := Claim7.holds Tryd.pinned (.plain (OpenSpec.upto frontMeetSpec)) frontMeetUptoCard

/-- THE SECOND FORM's CARD OF 'haruspexlaw7.FrontBelow'. -/
def frontBelowUptoCard : Claim7 := { stood := { row := frontBelowUptoRow, standIns := [], harness := (true, "557c12db15a2d549ff078e5a0b7ed75e47e56c4d5a0e14907849df5a2aec0afd"), looks := false }, kinds := [], alts := [], laidByText := true, laidKinds := [.data], laidTests := true, laidLooks := .later }
def FrontBelowUptoCardSaid : Prop := Claim7.holds Tryd.pinned (.plain (OpenSpec.upto frontBelowSpec)) frontBelowUptoCard

/-- THE SECOND FORM's CARD OF 'haruspexlaw7.FrontClosed'. -/
def frontClosedUptoCard : Claim7 := { stood := { row := frontClosedUptoRow, standIns := [], harness := (true, "557c12db15a2d549ff078e5a0b7ed75e47e56c4d5a0e14907849df5a2aec0afd"), looks := false }, kinds := [], alts := [], laidByText := true, laidKinds := [.data], laidTests := true, laidLooks := .later }
def FrontClosedUptoCardSaid : Prop := Claim7.holds Tryd.pinned (.plain (OpenSpec.upto frontClosedSpec)) frontClosedUptoCard

/-- THE SECOND FORM's CARD OF 'haruspexlaw7.FrontLine'. -/
def frontLineUptoCard : Claim7 := { stood := { row := frontLineUptoRow, standIns := [], harness := (true, "557c12db15a2d549ff078e5a0b7ed75e47e56c4d5a0e14907849df5a2aec0afd"), looks := false }, kinds := [], alts := [], laidByText := true, laidKinds := [.data], laidTests := true, laidLooks := .later }
def FrontLineUptoCardSaid : Prop := Claim7.holds Tryd.pinned (.plain (OpenSpec.upto frontLineSpec)) frontLineUptoCard
end Rows
end Go.Proofs.YtmkpboaigdnpnaaDoor
