/-
  DERIVED. GIVEN WITH THE SEED: THE CARDS: each row of YtdnioigcgggdbaaGreatDoorRows.lean that lists a variable, with what it lists TIED to the program's text (the seventh form; the later family's looks); each row that meets fmt, with fmt's text TOLD by the authors' own Lean function (tested against real Go, not proved from fmt's source: count such statements apart). THE CARD IS WHAT COUNTS. Prove the row's statement (the work); the ties are given (YtdnioigcgggdbaaGreatDoorTie.lean); close each card by the builder's one call (the guide's Derived/Test/ToyasCard.lean, 'card_holds'). Laid BY PROGRAM, IN A SANDBOX (cutbox-door.mjs). By AI agents, Wed Nov 11 2026. No macro, syntax, notation, axiom, sorry.
-/
import Derived.Test.YtdnioigcgggdbaaGreatDoorRows
import GoSem.ClaimSeven
namespace Go.Proofs.YtdnioigcgggdbaaGreatDoor
namespace Rows

/-- THE TIED CARD OF 'almonerlaw07.StoresPlay'. -/
def storesPlayCard : Claim7 := { stood := { row := storesPlayRow, standIns := [], harness := (true, "54250c7a693029e0b445f54e188d564ab58ea3545f7356ed2921834098593b43"), looks := true }, kinds := [], alts := [], laidByText := true, laidKinds := [.data, .data, .data], laidTests := true, laidLooks := .later }
def StoresPlayCardSaid : Prop := Claim7.holds Tryz.pinned (.plain (OpenSpec.ofChange storesPlaySpec)) storesPlayCard

/-- THE SECOND FORM's CARD OF 'almonerlaw07.StoresPlay'. -/
def storesPlayUptoCard : Claim7 := { stood := { row := storesPlayUptoRow, standIns := [], harness := (true, "54250c7a693029e0b445f54e188d564ab58ea3545f7356ed2921834098593b43"), looks := true }, kinds := [], alts := [], laidByText := true, laidKinds := [.data, .data, .data], laidTests := true, laidLooks := .later }
def StoresPlayUptoCardSaid : Prop := Claim7.holds Tryz.pinned (.plain (OpenSpec.upto storesPlaySpec)) storesPlayUptoCard
end Rows
end Go.Proofs.YtdnioigcgggdbaaGreatDoor
