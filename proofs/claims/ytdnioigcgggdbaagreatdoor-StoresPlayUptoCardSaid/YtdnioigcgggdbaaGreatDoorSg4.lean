/-
  stores: StoresPlay as the frame hands it over.
-/
import Derived.Test.YtdnioigcgggdbaaGreatDoorSg3
set_option linter.unusedVariables false
set_option linter.unusedSimpArgs false
namespace Go.Proofs.YtdnioigcgggdbaaGreatDoor
open Go.RowKit
theorem storesPlay_walk (W0 : World) (S : Int) (wS : (Lit.int .i64 S).wf = true) (F : Int) (wF : (Lit.int .i64 F).wf = true) (M : Int) (wM : (Lit.int .i64 M).wf = true) {A : Option Addr} {n c : Nat} {cs : List Value} {acts : List ActV} (hr : Rd W0 6 A n c cs) (hl : acts.length = n) {Bd : Nat} (hn : n ≤ Bd) (hat : ∀ j y, acts[j]? = some y → ActAt W0 Bd cs (j * 6) y) (hb : Bd ≤ 1048576) :
    Calls Tryz.prog 3 #[.agg #[.int .i64 S, .int .i64 F, .int .i64 M], .slice A n c] W0 fun e w' => e = .returned (.bool true) ∧ Ext W0 w' := by
  have h1 := rdA_base hr hl (by omega) hb hat
  exact storesPlay S F M h1 (holds_base W0) (Lib.hid fun w' h => ⟨rfl, h.head⟩)
end Go.Proofs.YtdnioigcgggdbaaGreatDoor
