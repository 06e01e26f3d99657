/-
  DERIVED. GIVEN WITH THE SEED: THE CARDS: each row of YtaegjjaabeakoaaDoorRows.lean that lists a variable, with what it lists TIED to the program's text (the seventh form; the later family's looks); each row that meets fmt, with fmt's text TOLD by the authors' own Lean function (tested against real Go, not proved from fmt's source: count such statements apart). THE CARD IS WHAT COUNTS. Prove the row's statement (the work); the ties are given (YtaegjjaabeakoaaDoorTie.lean); close each card by the builder's one call (the guide's Derived/Test/ToyasCard.lean, 'card_holds'). Laid BY PROGRAM, IN A SANDBOX (cutbox-door.mjs). By AI agents, Wed Nov 11 2026. No macro, syntax, notation, axiom, sorry.
-/
import Derived.Test.YtaegjjaabeakoaaDoorRows
import GoSem.ClaimSeven
namespace Go.Proofs.YtaegjjaabeakoaaDoor
namespace Rows

/-- THE TIED CARD OF 'almonerlaw05.DisksPlay'. -/
def disksPlayCard : Claim7 := { stood := { row := disksPlayRow, standIns := [], harness := (true, "fe5ba62b0415edcf5e68eff9c3f5a893c3d0ca6ae41bd8fe116c7f26b67bf77e"), looks := false }, kinds := [], alts := [], laidByText := true, laidKinds := [.data, .data, .data], laidTests := true, laidLooks := .later }
def DisksPlayCardSaid : Prop := Claim7.holds Tryd.pinned (.plain (OpenSpec.ofChange disksPlaySpec)) disksPlayCard

/-- THE SECOND FORM's CARD OF 'almonerlaw05.DisksPlay'. -/
def disksPlayUptoCard : Claim7 := { stood := { row := disksPlayUptoRow, standIns := [], harness := (true, "fe5ba62b0415edcf5e68eff9c3f5a893c3d0ca6ae41bd8fe116c7f26b67bf77e"), looks := false }, kinds := [], alts := [], laidByText := true, laidKinds := [.data, .data, .data], laidTests := true, laidLooks := .later }
def DisksPlayUptoCardSaid : Prop := Claim7.holds Tryd.pinned (.plain (OpenSpec.upto disksPlaySpec)) disksPlayUptoCard
end Rows
end Go.Proofs.YtaegjjaabeakoaaDoor
