/-
  The reference of the events: Fits. (Written by gen_erc.py.)
-/
import Derived.Test.YtnpcpmiomimphaaDoorErC1
import Derived.Test.YtnpcpmiomimphaaDoorErC2
import Derived.Test.YtnpcpmiomimphaaDoorErC3
import Derived.Test.YtnpcpmiomimphaaDoorErC4
set_option linter.unusedVariables false
set_option linter.unusedSimpArgs false
namespace Go.Proofs.YtnpcpmiomimphaaDoor
open Go.RowKit

section
variable {W : World} {L L' L0 : List Ent} {R : Ending → World → Prop}

theorem rfits_small {k : Nat} {i p a0 a1 a2 b0 b1 b2 n m : Int} (hx : (Ask.mk k i p a0 a1 a2 b0 b1 b2 n m).Wf) (hk : 0 < k ∧ k < 16) (hs : (Ask.mk k i p a0 a1 a2 b0 b1 b2 n m).small) (H : Holds W L) (k_ : ∀ w', Holds w' L → R (.returned (.bool (Ask.mk k i p a0 a1 a2 b0 b1 b2 n m).fits)) w') :
    Calls Tryd.prog 17 #[.agg #[.int .u8 k, .int .u32 i, .int .u32 p, .int .u64 a0, .int .u64 a1, .int .u64 a2, .int .u64 b0, .int .u64 b1, .int .u64 b2, .int .u64 n, .int .u64 m]] W R := by
  rcases nS_cases hk with HZ | HZ | HZ | HZ | HZ | HZ | HZ | HZ | HZ | HZ | HZ
  · exact rfits_z0 hx hk hs HZ H k_
  · exact rfits_z1 hx hk hs HZ H k_
  · exact rfits_z2 hx hk hs HZ H k_
  · exact rfits_z3 hx hk hs HZ H k_
  · exact rfits_z4 hx hk hs HZ H k_
  · exact rfits_z5 hx hk hs HZ H k_
  · exact rfits_z6 hx hk hs HZ H k_
  · exact rfits_z7 hx hk hs HZ H k_
  · exact rfits_z8 hx hk hs HZ H k_
  · exact rfits_z9 hx hk hs HZ H k_
  · exact rfits_z10 hx hk hs HZ H k_
end
end Go.Proofs.YtnpcpmiomimphaaDoor
