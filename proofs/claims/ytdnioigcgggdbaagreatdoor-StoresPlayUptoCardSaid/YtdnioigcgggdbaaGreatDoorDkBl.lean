/-
  disks: contract of Blown.
-/
import Derived.Test.YtdnioigcgggdbaaGreatDoorDkM1
set_option linter.unusedVariables false
set_option linter.unusedSimpArgs false
namespace Go.Proofs.YtdnioigcgggdbaaGreatDoor
open Go.RowKit
section
variable {W : World} {L L' L0 : List Ent} {R : Ending → World → Prop} {g : Nat} {v : Dv} {d : Dd}
set_option maxRecDepth 100000 in
set_option maxHeartbeats 1000000 in
theorem blown_k (H : Holds W L) (hm : Pull (dkE g v d) L L0) (k : ∀ w', Holds w' (dkE g v d :: L0) → R (.returned (.bool d.bl)) w') : Calls Tryz.prog 64 #[.pointer (some ⟨g, 0, none⟩)] W R := by
  obtain ⟨ho, H⟩ := dk_open (H.pull hm)
  clear hm
  have HK := Lib.hid k; clear k
  obtain ⟨gs, cs, gn, cn, aw, m, cw⟩ := v; obtain ⟨su, no, wa, lf, bl⟩ := d; have h0 := ho.n0; have h1 := ho.n1; simp only at h0 h1; have Ho := Lib.hid ho; clear ho; simp only at H
  go_enter Tryz.func64, Tryz.ntmps64
  go_wp2_with (first | ((with_reducible apply wpl_load H); (case hs => exact sc _ rfl); (case hw | hx => rfl); (case hm => (with_reducible repeat first | exact mH)); (case hv => rfl)) )
  exact HK.out _ (dk_shut _ _ H Ho.out)
end
end Go.Proofs.YtdnioigcgggdbaaGreatDoor
