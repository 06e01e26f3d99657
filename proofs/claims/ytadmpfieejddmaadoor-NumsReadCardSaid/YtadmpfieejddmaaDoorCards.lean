/-
  DERIVED. GIVEN WITH THE SEED: THE CARDS: each row of YtadmpfieejddmaaDoorRows.lean that lists a variable, with what it lists TIED to the program's text (the seventh form; the later family's looks); each row that meets fmt, with fmt's text TOLD by the authors' own Lean function (tested against real Go, not proved from fmt's source: count such statements apart). THE CARD IS WHAT COUNTS. Prove the row's statement (the work); the ties are given (YtadmpfieejddmaaDoorTie.lean); close each card by the builder's one call (the guide's Derived/Test/ToyasCard.lean, 'card_holds'). Laid BY PROGRAM, IN A SANDBOX (cutbox-door.mjs). By AI agents, Wed Nov 11 2026. No macro, syntax, notation, axiom, sorry.
-/
import Derived.Test.YtadmpfieejddmaaDoorRows
import GoSem.ClaimSeven
namespace Go.Proofs.YtadmpfieejddmaaDoor
namespace Rows

/-- THE TIED CARD OF 'almonerlaw01.NumsRead'. -/
def numsReadCard : Claim7 := { stood := { row := numsReadRow, standIns := [], harness := (true, "a9c631d6a0b82dd500e45416e55ffa7e12e4c7e446a764500aa84524b9f85629"), looks := false }, kinds := [], alts := [], laidByText := true, laidKinds := [.data, .data, .data], laidTests := true, laidLooks := .later }
def NumsReadCardSaid : Prop := Claim7.holds Tryd.pinned (.plain (OpenSpec.ofChange numsReadSpec)) numsReadCard

/-- THE SECOND FORM's CARD OF 'almonerlaw01.NumsRead'. -/
def numsReadUptoCard : Claim7 := { stood := { row := numsReadUptoRow, standIns := [], harness := (true, "a9c631d6a0b82dd500e45416e55ffa7e12e4c7e446a764500aa84524b9f85629"), looks := false }, kinds := [], alts := [], laidByText := true, laidKinds := [.data, .data, .data], laidTests := true, laidLooks := .later }
def NumsReadUptoCardSaid : Prop := Claim7.holds Tryd.pinned (.plain (OpenSpec.upto numsReadSpec)) numsReadUptoCard
end Rows
end Go.Proofs.YtadmpfieejddmaaDoor
