/-
  A Book that holds slices of bytes alone: the other kinds' fill, grow and look; Bytes; Apart.
-/
import Derived.Test.YtdnioigcgggdbaaGreatDoorBook6
import Derived.Test.YtdnioigcgggdbaaGreatDoorFlat
set_option linter.unusedVariables false
set_option linter.unusedSimpArgs false
namespace Go.Proofs.YtdnioigcgggdbaaGreatDoor
open Go.RowKit

section
variable {W : World} {L L' L0 : List Ent} {R : Ending → World → Prop} {g : Nat} {cs : List Value}
set_option maxRecDepth 100000 in
set_option maxHeartbeats 1000000 in
theorem no_fillInt (H : Holds W L) (hm : blk g cs 49 ∈ L) (hv : cs[2]? = some (.slice none 0 0)) (k : ∀ w', Holds w' L → R (.returned (.tuple #[])) w') : Calls Tryz.prog 67 #[.pointer (some ⟨g, 0, none⟩)] W R := by
  have HK := Lib.hid k; clear k
  go_enter Tryz.func67, Tryz.ntmps67
  go_wp2_with (first | go_big_skip )
  refine wp_loop_rounds 1 ?_
  rw [rounds_succ]
  go_wp2_with (first | ((with_reducible apply wpl_load H); (case hs => exact sc _ rfl); (case hw | hx => rfl); (case hm => exact hm); (case hv => exact hv)))
  go_end0
  exact HK.out _ H
set_option maxRecDepth 100000 in
set_option maxHeartbeats 1000000 in
theorem no_growInt (H : Holds W L) (hm : blk g cs 49 ∈ L) (hv : cs[2]? = some (.slice none 0 0)) (k : ∀ w', Holds w' L → R (.returned (.tuple #[])) w') : Calls Tryz.prog 76 #[.pointer (some ⟨g, 0, none⟩)] W R := by
  have HK := Lib.hid k; clear k
  go_enter Tryz.func76, Tryz.ntmps76
  go_wp2_with (first | go_big_skip )
  refine wp_loop_rounds 1 ?_
  rw [rounds_succ]
  go_wp2_with (first | ((with_reducible apply wpl_load H); (case hs => exact sc _ rfl); (case hw | hx => rfl); (case hm => exact hm); (case hv => exact hv)))
  go_end0
  exact HK.out _ H
set_option maxRecDepth 100000 in
set_option maxHeartbeats 1000000 in
theorem no_lookInt (H : Holds W L) (hm : blk g cs 49 ∈ L) (hv : cs[2]? = some (.slice none 0 0)) (k : ∀ w', Holds w' L → R (.returned (.bool true)) w') : Calls Tryz.prog 85 #[.pointer (some ⟨g, 0, none⟩)] W R := by
  have HK := Lib.hid k; clear k
  go_enter Tryz.func85, Tryz.ntmps85
  go_wp2_with (first | go_big_skip )
  refine wp_loop_rounds 1 ?_
  rw [rounds_succ]
  go_wp2_with (first | ((with_reducible apply wpl_load H); (case hs => exact sc _ rfl); (case hw | hx => rfl); (case hm => exact hm); (case hv => exact hv)))
  exact HK.out _ H
set_option maxRecDepth 100000 in
set_option maxHeartbeats 1000000 in
theorem no_fillText (H : Holds W L) (hm : blk g cs 49 ∈ L) (hv : cs[3]? = some (.slice none 0 0)) (k : ∀ w', Holds w' L → R (.returned (.tuple #[])) w') : Calls Tryz.prog 68 #[.pointer (some ⟨g, 0, none⟩)] W R := by
  have HK := Lib.hid k; clear k
  go_enter Tryz.func68, Tryz.ntmps68
  go_wp2_with (first | go_big_skip )
  refine wp_loop_rounds 1 ?_
  rw [rounds_succ]
  go_wp2_with (first | ((with_reducible apply wpl_load H); (case hs => exact sc _ rfl); (case hw | hx => rfl); (case hm => exact hm); (case hv => exact hv)))
  go_end0
  exact HK.out _ H
set_option maxRecDepth 100000 in
set_option maxHeartbeats 1000000 in
theorem no_growText (H : Holds W L) (hm : blk g cs 49 ∈ L) (hv : cs[3]? = some (.slice none 0 0)) (k : ∀ w', Holds w' L → R (.returned (.tuple #[])) w') : Calls Tryz.prog 77 #[.pointer (some ⟨g, 0, none⟩)] W R := by
  have HK := Lib.hid k; clear k
  go_enter Tryz.func77, Tryz.ntmps77
  go_wp2_with (first | go_big_skip )
  refine wp_loop_rounds 1 ?_
  rw [rounds_succ]
  go_wp2_with (first | ((with_reducible apply wpl_load H); (case hs => exact sc _ rfl); (case hw | hx => rfl); (case hm => exact hm); (case hv => exact hv)))
  go_end0
  exact HK.out _ H
set_option maxRecDepth 100000 in
set_option maxHeartbeats 1000000 in
theorem no_lookText (H : Holds W L) (hm : blk g cs 49 ∈ L) (hv : cs[3]? = some (.slice none 0 0)) (k : ∀ w', Holds w' L → R (.returned (.bool true)) w') : Calls Tryz.prog 86 #[.pointer (some ⟨g, 0, none⟩)] W R := by
  have HK := Lib.hid k; clear k
  go_enter Tryz.func86, Tryz.ntmps86
  go_wp2_with (first | go_big_skip )
  refine wp_loop_rounds 1 ?_
  rw [rounds_succ]
  go_wp2_with (first | ((with_reducible apply wpl_load H); (case hs => exact sc _ rfl); (case hw | hx => rfl); (case hm => exact hm); (case hv => exact hv)))
  exact HK.out _ H
set_option maxRecDepth 100000 in
set_option maxHeartbeats 1000000 in
theorem no_fillByteList (H : Holds W L) (hm : blk g cs 49 ∈ L) (hv : cs[4]? = some (.slice none 0 0)) (k : ∀ w', Holds w' L → R (.returned (.tuple #[])) w') : Calls Tryz.prog 69 #[.pointer (some ⟨g, 0, none⟩)] W R := by
  have HK := Lib.hid k; clear k
  go_enter Tryz.func69, Tryz.ntmps69
  go_wp2_with (first | go_big_skip )
  refine wp_loop_rounds 1 ?_
  rw [rounds_succ]
  go_wp2_with (first | ((with_reducible apply wpl_load H); (case hs => exact sc _ rfl); (case hw | hx => rfl); (case hm => exact hm); (case hv => exact hv)))
  go_end0
  exact HK.out _ H
set_option maxRecDepth 100000 in
set_option maxHeartbeats 1000000 in
theorem no_growByteList (H : Holds W L) (hm : blk g cs 49 ∈ L) (hv : cs[4]? = some (.slice none 0 0)) (k : ∀ w', Holds w' L → R (.returned (.tuple #[])) w') : Calls Tryz.prog 78 #[.pointer (some ⟨g, 0, none⟩)] W R := by
  have HK := Lib.hid k; clear k
  go_enter Tryz.func78, Tryz.ntmps78
  go_wp2_with (first | go_big_skip )
  refine wp_loop_rounds 1 ?_
  rw [rounds_succ]
  go_wp2_with (first | ((with_reducible apply wpl_load H); (case hs => exact sc _ rfl); (case hw | hx => rfl); (case hm => exact hm); (case hv => exact hv)))
  go_end0
  exact HK.out _ H
set_option maxRecDepth 100000 in
set_option maxHeartbeats 1000000 in
theorem no_lookByteList (H : Holds W L) (hm : blk g cs 49 ∈ L) (hv : cs[4]? = some (.slice none 0 0)) (k : ∀ w', Holds w' L → R (.returned (.bool true)) w') : Calls Tryz.prog 87 #[.pointer (some ⟨g, 0, none⟩)] W R := by
  have HK := Lib.hid k; clear k
  go_enter Tryz.func87, Tryz.ntmps87
  go_wp2_with (first | go_big_skip )
  refine wp_loop_rounds 1 ?_
  rw [rounds_succ]
  go_wp2_with (first | ((with_reducible apply wpl_load H); (case hs => exact sc _ rfl); (case hw | hx => rfl); (case hm => exact hm); (case hv => exact hv)))
  exact HK.out _ H
set_option maxRecDepth 100000 in
set_option maxHeartbeats 1000000 in
theorem no_fillSum (H : Holds W L) (hm : blk g cs 49 ∈ L) (hv : cs[5]? = some (.slice none 0 0)) (k : ∀ w', Holds w' L → R (.returned (.tuple #[])) w') : Calls Tryz.prog 70 #[.pointer (some ⟨g, 0, none⟩)] W R := by
  have HK := Lib.hid k; clear k
  go_enter Tryz.func70, Tryz.ntmps70
  go_wp2_with (first | go_big_skip )
  refine wp_loop_rounds 1 ?_
  rw [rounds_succ]
  go_wp2_with (first | ((with_reducible apply wpl_load H); (case hs => exact sc _ rfl); (case hw | hx => rfl); (case hm => exact hm); (case hv => exact hv)))
  go_end0
  exact HK.out _ H
set_option maxRecDepth 100000 in
set_option maxHeartbeats 1000000 in
theorem no_growSum (H : Holds W L) (hm : blk g cs 49 ∈ L) (hv : cs[5]? = some (.slice none 0 0)) (k : ∀ w', Holds w' L → R (.returned (.tuple #[])) w') : Calls Tryz.prog 79 #[.pointer (some ⟨g, 0, none⟩)] W R := by
  have HK := Lib.hid k; clear k
  go_enter Tryz.func79, Tryz.ntmps79
  go_wp2_with (first | go_big_skip )
  refine wp_loop_rounds 1 ?_
  rw [rounds_succ]
  go_wp2_with (first | ((with_reducible apply wpl_load H); (case hs => exact sc _ rfl); (case hw | hx => rfl); (case hm => exact hm); (case hv => exact hv)))
  go_end0
  exact HK.out _ H
set_option maxRecDepth 100000 in
set_option maxHeartbeats 1000000 in
theorem no_lookSum (H : Holds W L) (hm : blk g cs 49 ∈ L) (hv : cs[5]? = some (.slice none 0 0)) (k : ∀ w', Holds w' L → R (.returned (.bool true)) w') : Calls Tryz.prog 88 #[.pointer (some ⟨g, 0, none⟩)] W R := by
  have HK := Lib.hid k; clear k
  go_enter Tryz.func88, Tryz.ntmps88
  go_wp2_with (first | go_big_skip )
  refine wp_loop_rounds 1 ?_
  rw [rounds_succ]
  go_wp2_with (first | ((with_reducible apply wpl_load H); (case hs => exact sc _ rfl); (case hw | hx => rfl); (case hm => exact hm); (case hv => exact hv)))
  exact HK.out _ H
set_option maxRecDepth 100000 in
set_option maxHeartbeats 1000000 in
theorem no_fillPair (H : Holds W L) (hm : blk g cs 49 ∈ L) (hv : cs[6]? = some (.slice none 0 0)) (k : ∀ w', Holds w' L → R (.returned (.tuple #[])) w') : Calls Tryz.prog 71 #[.pointer (some ⟨g, 0, none⟩)] W R := by
  have HK := Lib.hid k; clear k
  go_enter Tryz.func71, Tryz.ntmps71
  go_wp2_with (first | go_big_skip )
  refine wp_loop_rounds 1 ?_
  rw [rounds_succ]
  go_wp2_with (first | ((with_reducible apply wpl_load H); (case hs => exact sc _ rfl); (case hw | hx => rfl); (case hm => exact hm); (case hv => exact hv)))
  go_end0
  exact HK.out _ H
set_option maxRecDepth 100000 in
set_option maxHeartbeats 1000000 in
theorem no_growPair (H : Holds W L) (hm : blk g cs 49 ∈ L) (hv : cs[6]? = some (.slice none 0 0)) (k : ∀ w', Holds w' L → R (.returned (.tuple #[])) w') : Calls Tryz.prog 80 #[.pointer (some ⟨g, 0, none⟩)] W R := by
  have HK := Lib.hid k; clear k
  go_enter Tryz.func80, Tryz.ntmps80
  go_wp2_with (first | go_big_skip )
  refine wp_loop_rounds 1 ?_
  rw [rounds_succ]
  go_wp2_with (first | ((with_reducible apply wpl_load H); (case hs => exact sc _ rfl); (case hw | hx => rfl); (case hm => exact hm); (case hv => exact hv)))
  go_end0
  exact HK.out _ H
set_option maxRecDepth 100000 in
set_option maxHeartbeats 1000000 in
theorem no_lookPair (H : Holds W L) (hm : blk g cs 49 ∈ L) (hv : cs[6]? = some (.slice none 0 0)) (k : ∀ w', Holds w' L → R (.returned (.bool true)) w') : Calls Tryz.prog 89 #[.pointer (some ⟨g, 0, none⟩)] W R := by
  have HK := Lib.hid k; clear k
  go_enter Tryz.func89, Tryz.ntmps89
  go_wp2_with (first | go_big_skip )
  refine wp_loop_rounds 1 ?_
  rw [rounds_succ]
  go_wp2_with (first | ((with_reducible apply wpl_load H); (case hs => exact sc _ rfl); (case hw | hx => rfl); (case hm => exact hm); (case hv => exact hv)))
  exact HK.out _ H
set_option maxRecDepth 100000 in
set_option maxHeartbeats 1000000 in
theorem no_fillTenant (H : Holds W L) (hm : blk g cs 49 ∈ L) (hv : cs[7]? = some (.slice none 0 0)) (k : ∀ w', Holds w' L → R (.returned (.tuple #[])) w') : Calls Tryz.prog 72 #[.pointer (some ⟨g, 0, none⟩)] W R := by
  have HK := Lib.hid k; clear k
  go_enter Tryz.func72, Tryz.ntmps72
  go_wp2_with (first | go_big_skip )
  refine wp_loop_rounds 1 ?_
  rw [rounds_succ]
  go_wp2_with (first | ((with_reducible apply wpl_load H); (case hs => exact sc _ rfl); (case hw | hx => rfl); (case hm => exact hm); (case hv => exact hv)))
  go_end0
  exact HK.out _ H
set_option maxRecDepth 100000 in
set_option maxHeartbeats 1000000 in
theorem no_growTenant (H : Holds W L) (hm : blk g cs 49 ∈ L) (hv : cs[7]? = some (.slice none 0 0)) (k : ∀ w', Holds w' L → R (.returned (.tuple #[])) w') : Calls Tryz.prog 81 #[.pointer (some ⟨g, 0, none⟩)] W R := by
  have HK := Lib.hid k; clear k
  go_enter Tryz.func81, Tryz.ntmps81
  go_wp2_with (first | go_big_skip )
  refine wp_loop_rounds 1 ?_
  rw [rounds_succ]
  go_wp2_with (first | ((with_reducible apply wpl_load H); (case hs => exact sc _ rfl); (case hw | hx => rfl); (case hm => exact hm); (case hv => exact hv)))
  go_end0
  exact HK.out _ H
set_option maxRecDepth 100000 in
set_option maxHeartbeats 1000000 in
theorem no_lookTenant (H : Holds W L) (hm : blk g cs 49 ∈ L) (hv : cs[7]? = some (.slice none 0 0)) (k : ∀ w', Holds w' L → R (.returned (.bool true)) w') : Calls Tryz.prog 90 #[.pointer (some ⟨g, 0, none⟩)] W R := by
  have HK := Lib.hid k; clear k
  go_enter Tryz.func90, Tryz.ntmps90
  go_wp2_with (first | go_big_skip )
  refine wp_loop_rounds 1 ?_
  rw [rounds_succ]
  go_wp2_with (first | ((with_reducible apply wpl_load H); (case hs => exact sc _ rfl); (case hw | hx => rfl); (case hm => exact hm); (case hv => exact hv)))
  exact HK.out _ H
set_option maxRecDepth 100000 in
set_option maxHeartbeats 1000000 in
theorem no_fillLease (H : Holds W L) (hm : blk g cs 49 ∈ L) (hv : cs[8]? = some (.slice none 0 0)) (k : ∀ w', Holds w' L → R (.returned (.tuple #[])) w') : Calls Tryz.prog 73 #[.pointer (some ⟨g, 0, none⟩)] W R := by
  have HK := Lib.hid k; clear k
  go_enter Tryz.func73, Tryz.ntmps73
  go_wp2_with (first | go_big_skip )
  refine wp_loop_rounds 1 ?_
  rw [rounds_succ]
  go_wp2_with (first | ((with_reducible apply wpl_load H); (case hs => exact sc _ rfl); (case hw | hx => rfl); (case hm => exact hm); (case hv => exact hv)))
  go_end0
  exact HK.out _ H
set_option maxRecDepth 100000 in
set_option maxHeartbeats 1000000 in
theorem no_growLease (H : Holds W L) (hm : blk g cs 49 ∈ L) (hv : cs[8]? = some (.slice none 0 0)) (k : ∀ w', Holds w' L → R (.returned (.tuple #[])) w') : Calls Tryz.prog 82 #[.pointer (some ⟨g, 0, none⟩)] W R := by
  have HK := Lib.hid k; clear k
  go_enter Tryz.func82, Tryz.ntmps82
  go_wp2_with (first | go_big_skip )
  refine wp_loop_rounds 1 ?_
  rw [rounds_succ]
  go_wp2_with (first | ((with_reducible apply wpl_load H); (case hs => exact sc _ rfl); (case hw | hx => rfl); (case hm => exact hm); (case hv => exact hv)))
  go_end0
  exact HK.out _ H
set_option maxRecDepth 100000 in
set_option maxHeartbeats 1000000 in
theorem no_lookLease (H : Holds W L) (hm : blk g cs 49 ∈ L) (hv : cs[8]? = some (.slice none 0 0)) (k : ∀ w', Holds w' L → R (.returned (.bool true)) w') : Calls Tryz.prog 91 #[.pointer (some ⟨g, 0, none⟩)] W R := by
  have HK := Lib.hid k; clear k
  go_enter Tryz.func91, Tryz.ntmps91
  go_wp2_with (first | go_big_skip )
  refine wp_loop_rounds 1 ?_
  rw [rounds_succ]
  go_wp2_with (first | ((with_reducible apply wpl_load H); (case hs => exact sc _ rfl); (case hw | hx => rfl); (case hm => exact hm); (case hv => exact hv)))
  exact HK.out _ H
set_option maxRecDepth 100000 in
set_option maxHeartbeats 1000000 in
theorem no_fillEvent (H : Holds W L) (hm : blk g cs 49 ∈ L) (hv : cs[9]? = some (.slice none 0 0)) (k : ∀ w', Holds w' L → R (.returned (.tuple #[])) w') : Calls Tryz.prog 74 #[.pointer (some ⟨g, 0, none⟩)] W R := by
  have HK := Lib.hid k; clear k
  go_enter Tryz.func74, Tryz.ntmps74
  go_wp2_with (first | go_big_skip )
  refine wp_loop_rounds 1 ?_
  rw [rounds_succ]
  go_wp2_with (first | ((with_reducible apply wpl_load H); (case hs => exact sc _ rfl); (case hw | hx => rfl); (case hm => exact hm); (case hv => exact hv)))
  go_end0
  exact HK.out _ H
set_option maxRecDepth 100000 in
set_option maxHeartbeats 1000000 in
theorem no_growEvent (H : Holds W L) (hm : blk g cs 49 ∈ L) (hv : cs[9]? = some (.slice none 0 0)) (k : ∀ w', Holds w' L → R (.returned (.tuple #[])) w') : Calls Tryz.prog 83 #[.pointer (some ⟨g, 0, none⟩)] W R := by
  have HK := Lib.hid k; clear k
  go_enter Tryz.func83, Tryz.ntmps83
  go_wp2_with (first | go_big_skip )
  refine wp_loop_rounds 1 ?_
  rw [rounds_succ]
  go_wp2_with (first | ((with_reducible apply wpl_load H); (case hs => exact sc _ rfl); (case hw | hx => rfl); (case hm => exact hm); (case hv => exact hv)))
  go_end0
  exact HK.out _ H
set_option maxRecDepth 100000 in
set_option maxHeartbeats 1000000 in
theorem no_lookEvent (H : Holds W L) (hm : blk g cs 49 ∈ L) (hv : cs[9]? = some (.slice none 0 0)) (k : ∀ w', Holds w' L → R (.returned (.bool true)) w') : Calls Tryz.prog 92 #[.pointer (some ⟨g, 0, none⟩)] W R := by
  have HK := Lib.hid k; clear k
  go_enter Tryz.func92, Tryz.ntmps92
  go_wp2_with (first | go_big_skip )
  refine wp_loop_rounds 1 ?_
  rw [rounds_succ]
  go_wp2_with (first | ((with_reducible apply wpl_load H); (case hs => exact sc _ rfl); (case hw | hx => rfl); (case hm => exact hm); (case hv => exact hv)))
  exact HK.out _ H
end
end Go.Proofs.YtdnioigcgggdbaaGreatDoor
