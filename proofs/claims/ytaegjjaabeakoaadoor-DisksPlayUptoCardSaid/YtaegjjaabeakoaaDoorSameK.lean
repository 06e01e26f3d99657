/-
  SameBytes over entries.
-/
import Derived.Test.YtaegjjaabeakoaaDoorMem2
import Derived.Test.YtaegjjaabeakoaaDoorSame
set_option linter.unusedVariables false
set_option linter.unusedSimpArgs false
namespace Go.Proofs.YtaegjjaabeakoaaDoor
open Go.RowKit

section
variable {W : World} {L L' L0 : List Ent} {R : Ending → World → Prop}
theorem same_k {A1 A2 : Option Addr} {n1 c1 n2 c2 : Nat} {l1 l2 : List UInt8} (h1 : Gives L fun w => Rd w 1 A1 n1 c1 (bvs l1)) (h2 : Gives L fun w => Rd w 1 A2 n2 c2 (bvs l2)) (H : Holds W L) (k : ∀ w', Holds w' L → R (.returned (.bool (decide (l1 = l2)))) w') :
    Calls Tryd.prog 10 #[.slice A1 n1 c1, .slice A2 n2 c2] W R := by
  refine (same_any A1 n1 c1 l1 A2 n2 c2 l2 W (h1 W H) (h2 W H)).mono fun e w' h => ?_
  obtain ⟨he, d, rfl⟩ := h
  rw [he]
  exact k _ (H.drewN d)
end
end Go.Proofs.YtaegjjaabeakoaaDoor
