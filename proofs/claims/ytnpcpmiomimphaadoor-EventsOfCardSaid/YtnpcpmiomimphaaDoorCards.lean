/-
  DERIVED. GIVEN WITH THE SEED: THE CARDS: each row of YtnpcpmiomimphaaDoorRows.lean that lists a variable, with what it lists TIED to the program's text (the seventh form; the later family's looks); each row that meets fmt, with fmt's text TOLD by the authors' own Lean function (tested against real Go, not proved from fmt's source: count such statements apart). THE CARD IS WHAT COUNTS. Prove the row's statement (the work); the ties are given (YtnpcpmiomimphaaDoorTie.lean); close each card by the builder's one call (the guide's Derived/Test/ToyasCard.lean, 'card_holds'). Laid BY PROGRAM, IN A SANDBOX (cutbox-door.mjs). By AI agents, Wed Nov 11 2026. No macro, syntax, notation, axiom, sorry.
-/
import Derived.Test.YtnpcpmiomimphaaDoorRows
import GoSem.ClaimSeven
namespace Go.Proofs.YtnpcpmiomimphaaDoor
namespace Rows

/-- THE TIED CARD OF 'almonerlaw25.EventsBack'. -/
def eventsBackCard : Claim7 := { stood := { row := eventsBackRow, standIns := [], harness := (true, "64fc1ba094ffb92e267584edca60478a2d5ac288de54475c549c2e43390322af"), looks := false }, kinds := [], alts := [], laidByText := true, laidKinds := [.data], laidTests := true, laidLooks := .later }
def EventsBackCardSaid : Prop := Claim7.holds Tryd.pinned (.plain (OpenSpec.ofChange eventsBackSpec)) eventsBackCard

/-- THE TIED CARD OF 'almonerlaw25.EventsAgain'. -/
def eventsAgainCard : Claim7 := { stood := { row := eventsAgainRow, standIns := [], harness := (true, "64fc1ba094ffb92e267584edca60478a2d5ac288de54475c549c2e43390322af"), looks := false }, kinds := [], alts := [], laidByText := true, laidKinds := [.data], laidTests := true, laidLooks := .later }
def EventsAgainCardSaid : Prop := Claim7.holds Tryd.pinned (.plain (OpenSpec.ofChange eventsAgainSpec)) eventsAgainCard

/-- THE TIED CARD OF 'almonerlaw25.EventsFits'. -/
def eventsFitsCard : Claim7 := { stood := { row := eventsFitsRow, standIns := [], harness := (true, "64fc1ba094ffb92e267584edca60478a2d5ac288de54475c549c2e43390322af"), looks := false }, kinds := [], alts := [], laidByText := true, laidKinds := [.data], laidTests := true, laidLooks := .later }
def EventsFitsCardSaid : Prop := Claim7.holds Tryd.pinned (.plain (OpenSpec.ofChange eventsFitsSpec)) eventsFitsCard

/-- THE TIED CARD OF 'almonerlaw25.EventsUnlike'. -/
def eventsUnlikeCard : Claim7 := { stood := { row := eventsUnlikeRow, standIns := [], harness := (true, "64fc1ba094ffb92e267584edca60478a2d5ac288de54475c549c2e43390322af"), looks := false }, kinds := [], alts := [], laidByText := true, laidKinds := [.data], laidTests := true, laidLooks := .later }
def EventsUnlikeCardSaid : Prop := Claim7.holds Tryd.pinned (.plain (OpenSpec.ofChange eventsUnlikeSpec)) eventsUnlikeCard

/-- THE TIED CARD OF 'almonerlaw25.EventsOf'. -/
def eventsOfCard : Claim7 := { stood := { row := eventsOfRow, standIns := [], harness := (true, "64fc1ba094ffb92e267584edca60478a2d5ac288de54475c549c2e43390322af"), looks := false }, kinds := [], alts := [], laidByText := true, laidKinds := [.data, .data, .data, .data], laidTests := true, laidLooks := .later }
def EventsOfCardSaid : Prop := Claim7.holds Tryd.pinned (.plain (OpenSpec.ofChange eventsOfSpec)) eventsOfCard

/-- THE SECOND FORM's CARD OF 'almonerlaw25.EventsBack'. -/
def eventsBackUptoCard : Claim7 := { stood := { row := eventsBackUptoRow, standIns := [], harness := (true, "64fc1ba094ffb92e267584edca60478a2d5ac288de54475c549c2e43390322af"), looks := false }, kinds := [], alts := [], laidByText := true, laidKinds := [.data], laidTests := true, laidLooks := .later }
def EventsBackUptoCardSaid : Prop := Claim7.holds Tryd.pinned (.plain (OpenSpec.upto eventsBackSpec)) eventsBackUptoCard

/-- THE SECOND FORM's CARD OF 'almonerlaw25.EventsAgain'. -/
def eventsAgainUptoCard : Claim7 := { stood := { row := eventsAgainUptoRow, standIns := [], harness := (true, "64fc1ba094ffb92e267584edca60478a2d5ac288de54475c549c2e43390322af"), looks := false }, kinds := [], alts := [], laidByText := true, laidKinds := [.data], laidTests := true, laidLooks := .later }
def EventsAgainUptoCardSaid : Prop := Claim7.holds Tryd.pinned (.plain (OpenSpec.upto eventsAgainSpec)) eventsAgainUptoCard

/-- THE SECOND FORM's CARD OF 'almonerlaw25.EventsFits'. -/
def eventsFitsUptoCard : Claim7 := { stood := { row := eventsFitsUptoRow, standIns := [], harness := (true, "64fc1ba094ffb92e267584edca60478a2d5ac288de54475c549c2e43390322af"), looks := false }, kinds := [], alts := [], laidByText := true, laidKinds := [.data], laidTests := true, laidLooks := .later }
def EventsFitsUptoCardSaid : Prop := Claim7.holds Tryd.pinned (.plain (OpenSpec.upto eventsFitsSpec)) eventsFitsUptoCard

/-- THE SECOND FORM's CARD OF 'almonerlaw25.EventsUnlike'. -/
def eventsUnlikeUptoCard : Claim7 := { stood := { row := eventsUnlikeUptoRow, standIns := [], harness := (true, "64fc1ba094ffb92e267584edca60478a2d5ac288de54475c549c2e43390322af"), looks := false }, kinds := [], alts := [], laidByText := true, laidKinds := [.data], laidTests := true, laidLooks := .later }
def EventsUnlikeUptoCardSaid : Prop := Claim7.holds Tryd.pinned (.plain (OpenSpec.upto eventsUnlikeSpec)) eventsUnlikeUptoCard

/-- THE SECOND FORM's CARD OF 'almonerlaw25.EventsOf'. -/
def eventsOfUptoCard : Claim7 := { stood := { row := eventsOfUptoRow, standIns := [], harness := (true, "64fc1ba094ffb92e267584edca60478a2d5ac288de54475c549c2e43390322af"), looks := false }, kinds := [], alts := [], laidByText := true, laidKinds := [.data, .data, .data, .data], laidTests := true, laidLooks := .later }
def EventsOfUptoCardSaid : Prop := Claim7.holds Tryd.pinned (.plain (OpenSpec.upto eventsOfSpec)) eventsOfUptoCard
end Rows
end Go.Proofs.YtnpcpmiomimphaaDoor
