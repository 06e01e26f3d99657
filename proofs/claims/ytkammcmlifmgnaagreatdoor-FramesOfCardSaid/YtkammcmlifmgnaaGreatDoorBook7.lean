/-
  A Book that holds slices of bytes alone: the other kinds' fill, grow and look; Bytes; Apart.
-/
import Derived.Test.YtkammcmlifmgnaaGreatDoorBook6
import Derived.Test.YtkammcmlifmgnaaGreatDoorFlat
set_option linter.unusedVariables false
set_option linter.unusedSimpArgs false
namespace Go.Proofs.YtkammcmlifmgnaaGreatDoor
open Go.RowKit

section
variable {W : World} {L L' L0 : List Ent} {R : Ending → World → Prop} {g : Nat} {x y : Value}
set_option maxRecDepth 100000 in
set_option maxHeartbeats 1000000 in
theorem no_fillInt (H : Holds W L) (hm : blk g [x, y, .slice none 0 0, .slice none 0 0, .slice none 0 0, .slice none 0 0, .slice none 0 0, .slice none 0 0, .slice none 0 0, .slice none 0 0] 41 ∈ L) (k : ∀ w', Holds w' L → R (.returned (.tuple #[])) w') : Calls Tryz.prog 28 #[.pointer (some ⟨g, 0, none⟩)] W R := by
  have HK := Lib.hid k; clear k
  go_enter Tryz.func28, Tryz.ntmps28
  go_wp2_with (first | go_big_skip | ((with_reducible refine wpl_drew H ?_); clear H; (try clear W); intro W H) | ((with_reducible refine wpl_drewN H ?_); clear H; (try clear W); intro W H) | ((with_reducible apply wpl_load H); (case hs => exact sc _ rfl); (case hw => rfl); (case hx => rfl); (case hm => (repeat (first | with_reducible exact mH | with_reducible assumption | with_reducible apply mT))); (case hv => rfl)) | ((with_reducible apply wpl_loadA H); (case hs => exact ag _ _ rfl); (case hw => rfl); (case hx => rfl); (case hm => (repeat (first | with_reducible exact mH | with_reducible assumption | with_reducible apply mT))); (case hv => rfl); (case hl => rfl); (try simp only [List.drop_zero, List.drop_succ_cons, List.take_succ_cons, List.take_zero, List.take_nil])))
  refine wp_loop_rounds 1 ?_
  rw [rounds_succ]
  go_wp2_with (first | go_big_skip | ((with_reducible refine wpl_drew H ?_); clear H; (try clear W); intro W H) | ((with_reducible refine wpl_drewN H ?_); clear H; (try clear W); intro W H) | ((with_reducible apply wpl_load H); (case hs => exact sc _ rfl); (case hw => rfl); (case hx => rfl); (case hm => (repeat (first | with_reducible exact mH | with_reducible assumption | with_reducible apply mT))); (case hv => rfl)) | ((with_reducible apply wpl_loadA H); (case hs => exact ag _ _ rfl); (case hw => rfl); (case hx => rfl); (case hm => (repeat (first | with_reducible exact mH | with_reducible assumption | with_reducible apply mT))); (case hv => rfl); (case hl => rfl); (try simp only [List.drop_zero, List.drop_succ_cons, List.take_succ_cons, List.take_zero, List.take_nil])))
  go_end0
  exact HK.out _ H
set_option maxRecDepth 100000 in
set_option maxHeartbeats 1000000 in
theorem no_growInt (H : Holds W L) (hm : blk g [x, y, .slice none 0 0, .slice none 0 0, .slice none 0 0, .slice none 0 0, .slice none 0 0, .slice none 0 0, .slice none 0 0, .slice none 0 0] 41 ∈ L) (k : ∀ w', Holds w' L → R (.returned (.tuple #[])) w') : Calls Tryz.prog 37 #[.pointer (some ⟨g, 0, none⟩)] W R := by
  have HK := Lib.hid k; clear k
  go_enter Tryz.func37, Tryz.ntmps37
  go_wp2_with (first | go_big_skip | ((with_reducible refine wpl_drew H ?_); clear H; (try clear W); intro W H) | ((with_reducible refine wpl_drewN H ?_); clear H; (try clear W); intro W H) | ((with_reducible apply wpl_load H); (case hs => exact sc _ rfl); (case hw => rfl); (case hx => rfl); (case hm => (repeat (first | with_reducible exact mH | with_reducible assumption | with_reducible apply mT))); (case hv => rfl)) | ((with_reducible apply wpl_loadA H); (case hs => exact ag _ _ rfl); (case hw => rfl); (case hx => rfl); (case hm => (repeat (first | with_reducible exact mH | with_reducible assumption | with_reducible apply mT))); (case hv => rfl); (case hl => rfl); (try simp only [List.drop_zero, List.drop_succ_cons, List.take_succ_cons, List.take_zero, List.take_nil])))
  refine wp_loop_rounds 1 ?_
  rw [rounds_succ]
  go_wp2_with (first | go_big_skip | ((with_reducible refine wpl_drew H ?_); clear H; (try clear W); intro W H) | ((with_reducible refine wpl_drewN H ?_); clear H; (try clear W); intro W H) | ((with_reducible apply wpl_load H); (case hs => exact sc _ rfl); (case hw => rfl); (case hx => rfl); (case hm => (repeat (first | with_reducible exact mH | with_reducible assumption | with_reducible apply mT))); (case hv => rfl)) | ((with_reducible apply wpl_loadA H); (case hs => exact ag _ _ rfl); (case hw => rfl); (case hx => rfl); (case hm => (repeat (first | with_reducible exact mH | with_reducible assumption | with_reducible apply mT))); (case hv => rfl); (case hl => rfl); (try simp only [List.drop_zero, List.drop_succ_cons, List.take_succ_cons, List.take_zero, List.take_nil])))
  go_end0
  exact HK.out _ H
set_option maxRecDepth 100000 in
set_option maxHeartbeats 1000000 in
theorem no_lookInt (H : Holds W L) (hm : blk g [x, y, .slice none 0 0, .slice none 0 0, .slice none 0 0, .slice none 0 0, .slice none 0 0, .slice none 0 0, .slice none 0 0, .slice none 0 0] 41 ∈ L) (k : ∀ w', Holds w' L → R (.returned (.bool true)) w') : Calls Tryz.prog 46 #[.pointer (some ⟨g, 0, none⟩)] W R := by
  have HK := Lib.hid k; clear k
  go_enter Tryz.func46, Tryz.ntmps46
  go_wp2_with (first | go_big_skip | ((with_reducible refine wpl_drew H ?_); clear H; (try clear W); intro W H) | ((with_reducible refine wpl_drewN H ?_); clear H; (try clear W); intro W H) | ((with_reducible apply wpl_load H); (case hs => exact sc _ rfl); (case hw => rfl); (case hx => rfl); (case hm => (repeat (first | with_reducible exact mH | with_reducible assumption | with_reducible apply mT))); (case hv => rfl)) | ((with_reducible apply wpl_loadA H); (case hs => exact ag _ _ rfl); (case hw => rfl); (case hx => rfl); (case hm => (repeat (first | with_reducible exact mH | with_reducible assumption | with_reducible apply mT))); (case hv => rfl); (case hl => rfl); (try simp only [List.drop_zero, List.drop_succ_cons, List.take_succ_cons, List.take_zero, List.take_nil])))
  refine wp_loop_rounds 1 ?_
  rw [rounds_succ]
  go_wp2_with (first | go_big_skip | ((with_reducible refine wpl_drew H ?_); clear H; (try clear W); intro W H) | ((with_reducible refine wpl_drewN H ?_); clear H; (try clear W); intro W H) | ((with_reducible apply wpl_load H); (case hs => exact sc _ rfl); (case hw => rfl); (case hx => rfl); (case hm => (repeat (first | with_reducible exact mH | with_reducible assumption | with_reducible apply mT))); (case hv => rfl)) | ((with_reducible apply wpl_loadA H); (case hs => exact ag _ _ rfl); (case hw => rfl); (case hx => rfl); (case hm => (repeat (first | with_reducible exact mH | with_reducible assumption | with_reducible apply mT))); (case hv => rfl); (case hl => rfl); (try simp only [List.drop_zero, List.drop_succ_cons, List.take_succ_cons, List.take_zero, List.take_nil])))
  exact HK.out _ H
set_option maxRecDepth 100000 in
set_option maxHeartbeats 1000000 in
theorem no_fillText (H : Holds W L) (hm : blk g [x, y, .slice none 0 0, .slice none 0 0, .slice none 0 0, .slice none 0 0, .slice none 0 0, .slice none 0 0, .slice none 0 0, .slice none 0 0] 41 ∈ L) (k : ∀ w', Holds w' L → R (.returned (.tuple #[])) w') : Calls Tryz.prog 29 #[.pointer (some ⟨g, 0, none⟩)] W R := by
  have HK := Lib.hid k; clear k
  go_enter Tryz.func29, Tryz.ntmps29
  go_wp2_with (first | go_big_skip | ((with_reducible refine wpl_drew H ?_); clear H; (try clear W); intro W H) | ((with_reducible refine wpl_drewN H ?_); clear H; (try clear W); intro W H) | ((with_reducible apply wpl_load H); (case hs => exact sc _ rfl); (case hw => rfl); (case hx => rfl); (case hm => (repeat (first | with_reducible exact mH | with_reducible assumption | with_reducible apply mT))); (case hv => rfl)) | ((with_reducible apply wpl_loadA H); (case hs => exact ag _ _ rfl); (case hw => rfl); (case hx => rfl); (case hm => (repeat (first | with_reducible exact mH | with_reducible assumption | with_reducible apply mT))); (case hv => rfl); (case hl => rfl); (try simp only [List.drop_zero, List.drop_succ_cons, List.take_succ_cons, List.take_zero, List.take_nil])))
  refine wp_loop_rounds 1 ?_
  rw [rounds_succ]
  go_wp2_with (first | go_big_skip | ((with_reducible refine wpl_drew H ?_); clear H; (try clear W); intro W H) | ((with_reducible refine wpl_drewN H ?_); clear H; (try clear W); intro W H) | ((with_reducible apply wpl_load H); (case hs => exact sc _ rfl); (case hw => rfl); (case hx => rfl); (case hm => (repeat (first | with_reducible exact mH | with_reducible assumption | with_reducible apply mT))); (case hv => rfl)) | ((with_reducible apply wpl_loadA H); (case hs => exact ag _ _ rfl); (case hw => rfl); (case hx => rfl); (case hm => (repeat (first | with_reducible exact mH | with_reducible assumption | with_reducible apply mT))); (case hv => rfl); (case hl => rfl); (try simp only [List.drop_zero, List.drop_succ_cons, List.take_succ_cons, List.take_zero, List.take_nil])))
  go_end0
  exact HK.out _ H
set_option maxRecDepth 100000 in
set_option maxHeartbeats 1000000 in
theorem no_growText (H : Holds W L) (hm : blk g [x, y, .slice none 0 0, .slice none 0 0, .slice none 0 0, .slice none 0 0, .slice none 0 0, .slice none 0 0, .slice none 0 0, .slice none 0 0] 41 ∈ L) (k : ∀ w', Holds w' L → R (.returned (.tuple #[])) w') : Calls Tryz.prog 38 #[.pointer (some ⟨g, 0, none⟩)] W R := by
  have HK := Lib.hid k; clear k
  go_enter Tryz.func38, Tryz.ntmps38
  go_wp2_with (first | go_big_skip | ((with_reducible refine wpl_drew H ?_); clear H; (try clear W); intro W H) | ((with_reducible refine wpl_drewN H ?_); clear H; (try clear W); intro W H) | ((with_reducible apply wpl_load H); (case hs => exact sc _ rfl); (case hw => rfl); (case hx => rfl); (case hm => (repeat (first | with_reducible exact mH | with_reducible assumption | with_reducible apply mT))); (case hv => rfl)) | ((with_reducible apply wpl_loadA H); (case hs => exact ag _ _ rfl); (case hw => rfl); (case hx => rfl); (case hm => (repeat (first | with_reducible exact mH | with_reducible assumption | with_reducible apply mT))); (case hv => rfl); (case hl => rfl); (try simp only [List.drop_zero, List.drop_succ_cons, List.take_succ_cons, List.take_zero, List.take_nil])))
  refine wp_loop_rounds 1 ?_
  rw [rounds_succ]
  go_wp2_with (first | go_big_skip | ((with_reducible refine wpl_drew H ?_); clear H; (try clear W); intro W H) | ((with_reducible refine wpl_drewN H ?_); clear H; (try clear W); intro W H) | ((with_reducible apply wpl_load H); (case hs => exact sc _ rfl); (case hw => rfl); (case hx => rfl); (case hm => (repeat (first | with_reducible exact mH | with_reducible assumption | with_reducible apply mT))); (case hv => rfl)) | ((with_reducible apply wpl_loadA H); (case hs => exact ag _ _ rfl); (case hw => rfl); (case hx => rfl); (case hm => (repeat (first | with_reducible exact mH | with_reducible assumption | with_reducible apply mT))); (case hv => rfl); (case hl => rfl); (try simp only [List.drop_zero, List.drop_succ_cons, List.take_succ_cons, List.take_zero, List.take_nil])))
  go_end0
  exact HK.out _ H
set_option maxRecDepth 100000 in
set_option maxHeartbeats 1000000 in
theorem no_lookText (H : Holds W L) (hm : blk g [x, y, .slice none 0 0, .slice none 0 0, .slice none 0 0, .slice none 0 0, .slice none 0 0, .slice none 0 0, .slice none 0 0, .slice none 0 0] 41 ∈ L) (k : ∀ w', Holds w' L → R (.returned (.bool true)) w') : Calls Tryz.prog 47 #[.pointer (some ⟨g, 0, none⟩)] W R := by
  have HK := Lib.hid k; clear k
  go_enter Tryz.func47, Tryz.ntmps47
  go_wp2_with (first | go_big_skip | ((with_reducible refine wpl_drew H ?_); clear H; (try clear W); intro W H) | ((with_reducible refine wpl_drewN H ?_); clear H; (try clear W); intro W H) | ((with_reducible apply wpl_load H); (case hs => exact sc _ rfl); (case hw => rfl); (case hx => rfl); (case hm => (repeat (first | with_reducible exact mH | with_reducible assumption | with_reducible apply mT))); (case hv => rfl)) | ((with_reducible apply wpl_loadA H); (case hs => exact ag _ _ rfl); (case hw => rfl); (case hx => rfl); (case hm => (repeat (first | with_reducible exact mH | with_reducible assumption | with_reducible apply mT))); (case hv => rfl); (case hl => rfl); (try simp only [List.drop_zero, List.drop_succ_cons, List.take_succ_cons, List.take_zero, List.take_nil])))
  refine wp_loop_rounds 1 ?_
  rw [rounds_succ]
  go_wp2_with (first | go_big_skip | ((with_reducible refine wpl_drew H ?_); clear H; (try clear W); intro W H) | ((with_reducible refine wpl_drewN H ?_); clear H; (try clear W); intro W H) | ((with_reducible apply wpl_load H); (case hs => exact sc _ rfl); (case hw => rfl); (case hx => rfl); (case hm => (repeat (first | with_reducible exact mH | with_reducible assumption | with_reducible apply mT))); (case hv => rfl)) | ((with_reducible apply wpl_loadA H); (case hs => exact ag _ _ rfl); (case hw => rfl); (case hx => rfl); (case hm => (repeat (first | with_reducible exact mH | with_reducible assumption | with_reducible apply mT))); (case hv => rfl); (case hl => rfl); (try simp only [List.drop_zero, List.drop_succ_cons, List.take_succ_cons, List.take_zero, List.take_nil])))
  exact HK.out _ H
set_option maxRecDepth 100000 in
set_option maxHeartbeats 1000000 in
theorem no_fillByteList (H : Holds W L) (hm : blk g [x, y, .slice none 0 0, .slice none 0 0, .slice none 0 0, .slice none 0 0, .slice none 0 0, .slice none 0 0, .slice none 0 0, .slice none 0 0] 41 ∈ L) (k : ∀ w', Holds w' L → R (.returned (.tuple #[])) w') : Calls Tryz.prog 30 #[.pointer (some ⟨g, 0, none⟩)] W R := by
  have HK := Lib.hid k; clear k
  go_enter Tryz.func30, Tryz.ntmps30
  go_wp2_with (first | go_big_skip | ((with_reducible refine wpl_drew H ?_); clear H; (try clear W); intro W H) | ((with_reducible refine wpl_drewN H ?_); clear H; (try clear W); intro W H) | ((with_reducible apply wpl_load H); (case hs => exact sc _ rfl); (case hw => rfl); (case hx => rfl); (case hm => (repeat (first | with_reducible exact mH | with_reducible assumption | with_reducible apply mT))); (case hv => rfl)) | ((with_reducible apply wpl_loadA H); (case hs => exact ag _ _ rfl); (case hw => rfl); (case hx => rfl); (case hm => (repeat (first | with_reducible exact mH | with_reducible assumption | with_reducible apply mT))); (case hv => rfl); (case hl => rfl); (try simp only [List.drop_zero, List.drop_succ_cons, List.take_succ_cons, List.take_zero, List.take_nil])))
  refine wp_loop_rounds 1 ?_
  rw [rounds_succ]
  go_wp2_with (first | go_big_skip | ((with_reducible refine wpl_drew H ?_); clear H; (try clear W); intro W H) | ((with_reducible refine wpl_drewN H ?_); clear H; (try clear W); intro W H) | ((with_reducible apply wpl_load H); (case hs => exact sc _ rfl); (case hw => rfl); (case hx => rfl); (case hm => (repeat (first | with_reducible exact mH | with_reducible assumption | with_reducible apply mT))); (case hv => rfl)) | ((with_reducible apply wpl_loadA H); (case hs => exact ag _ _ rfl); (case hw => rfl); (case hx => rfl); (case hm => (repeat (first | with_reducible exact mH | with_reducible assumption | with_reducible apply mT))); (case hv => rfl); (case hl => rfl); (try simp only [List.drop_zero, List.drop_succ_cons, List.take_succ_cons, List.take_zero, List.take_nil])))
  go_end0
  exact HK.out _ H
set_option maxRecDepth 100000 in
set_option maxHeartbeats 1000000 in
theorem no_growByteList (H : Holds W L) (hm : blk g [x, y, .slice none 0 0, .slice none 0 0, .slice none 0 0, .slice none 0 0, .slice none 0 0, .slice none 0 0, .slice none 0 0, .slice none 0 0] 41 ∈ L) (k : ∀ w', Holds w' L → R (.returned (.tuple #[])) w') : Calls Tryz.prog 39 #[.pointer (some ⟨g, 0, none⟩)] W R := by
  have HK := Lib.hid k; clear k
  go_enter Tryz.func39, Tryz.ntmps39
  go_wp2_with (first | go_big_skip | ((with_reducible refine wpl_drew H ?_); clear H; (try clear W); intro W H) | ((with_reducible refine wpl_drewN H ?_); clear H; (try clear W); intro W H) | ((with_reducible apply wpl_load H); (case hs => exact sc _ rfl); (case hw => rfl); (case hx => rfl); (case hm => (repeat (first | with_reducible exact mH | with_reducible assumption | with_reducible apply mT))); (case hv => rfl)) | ((with_reducible apply wpl_loadA H); (case hs => exact ag _ _ rfl); (case hw => rfl); (case hx => rfl); (case hm => (repeat (first | with_reducible exact mH | with_reducible assumption | with_reducible apply mT))); (case hv => rfl); (case hl => rfl); (try simp only [List.drop_zero, List.drop_succ_cons, List.take_succ_cons, List.take_zero, List.take_nil])))
  refine wp_loop_rounds 1 ?_
  rw [rounds_succ]
  go_wp2_with (first | go_big_skip | ((with_reducible refine wpl_drew H ?_); clear H; (try clear W); intro W H) | ((with_reducible refine wpl_drewN H ?_); clear H; (try clear W); intro W H) | ((with_reducible apply wpl_load H); (case hs => exact sc _ rfl); (case hw => rfl); (case hx => rfl); (case hm => (repeat (first | with_reducible exact mH | with_reducible assumption | with_reducible apply mT))); (case hv => rfl)) | ((with_reducible apply wpl_loadA H); (case hs => exact ag _ _ rfl); (case hw => rfl); (case hx => rfl); (case hm => (repeat (first | with_reducible exact mH | with_reducible assumption | with_reducible apply mT))); (case hv => rfl); (case hl => rfl); (try simp only [List.drop_zero, List.drop_succ_cons, List.take_succ_cons, List.take_zero, List.take_nil])))
  go_end0
  exact HK.out _ H
set_option maxRecDepth 100000 in
set_option maxHeartbeats 1000000 in
theorem no_lookByteList (H : Holds W L) (hm : blk g [x, y, .slice none 0 0, .slice none 0 0, .slice none 0 0, .slice none 0 0, .slice none 0 0, .slice none 0 0, .slice none 0 0, .slice none 0 0] 41 ∈ L) (k : ∀ w', Holds w' L → R (.returned (.bool true)) w') : Calls Tryz.prog 48 #[.pointer (some ⟨g, 0, none⟩)] W R := by
  have HK := Lib.hid k; clear k
  go_enter Tryz.func48, Tryz.ntmps48
  go_wp2_with (first | go_big_skip | ((with_reducible refine wpl_drew H ?_); clear H; (try clear W); intro W H) | ((with_reducible refine wpl_drewN H ?_); clear H; (try clear W); intro W H) | ((with_reducible apply wpl_load H); (case hs => exact sc _ rfl); (case hw => rfl); (case hx => rfl); (case hm => (repeat (first | with_reducible exact mH | with_reducible assumption | with_reducible apply mT))); (case hv => rfl)) | ((with_reducible apply wpl_loadA H); (case hs => exact ag _ _ rfl); (case hw => rfl); (case hx => rfl); (case hm => (repeat (first | with_reducible exact mH | with_reducible assumption | with_reducible apply mT))); (case hv => rfl); (case hl => rfl); (try simp only [List.drop_zero, List.drop_succ_cons, List.take_succ_cons, List.take_zero, List.take_nil])))
  refine wp_loop_rounds 1 ?_
  rw [rounds_succ]
  go_wp2_with (first | go_big_skip | ((with_reducible refine wpl_drew H ?_); clear H; (try clear W); intro W H) | ((with_reducible refine wpl_drewN H ?_); clear H; (try clear W); intro W H) | ((with_reducible apply wpl_load H); (case hs => exact sc _ rfl); (case hw => rfl); (case hx => rfl); (case hm => (repeat (first | with_reducible exact mH | with_reducible assumption | with_reducible apply mT))); (case hv => rfl)) | ((with_reducible apply wpl_loadA H); (case hs => exact ag _ _ rfl); (case hw => rfl); (case hx => rfl); (case hm => (repeat (first | with_reducible exact mH | with_reducible assumption | with_reducible apply mT))); (case hv => rfl); (case hl => rfl); (try simp only [List.drop_zero, List.drop_succ_cons, List.take_succ_cons, List.take_zero, List.take_nil])))
  exact HK.out _ H
set_option maxRecDepth 100000 in
set_option maxHeartbeats 1000000 in
theorem no_fillSum (H : Holds W L) (hm : blk g [x, y, .slice none 0 0, .slice none 0 0, .slice none 0 0, .slice none 0 0, .slice none 0 0, .slice none 0 0, .slice none 0 0, .slice none 0 0] 41 ∈ L) (k : ∀ w', Holds w' L → R (.returned (.tuple #[])) w') : Calls Tryz.prog 31 #[.pointer (some ⟨g, 0, none⟩)] W R := by
  have HK := Lib.hid k; clear k
  go_enter Tryz.func31, Tryz.ntmps31
  go_wp2_with (first | go_big_skip | ((with_reducible refine wpl_drew H ?_); clear H; (try clear W); intro W H) | ((with_reducible refine wpl_drewN H ?_); clear H; (try clear W); intro W H) | ((with_reducible apply wpl_load H); (case hs => exact sc _ rfl); (case hw => rfl); (case hx => rfl); (case hm => (repeat (first | with_reducible exact mH | with_reducible assumption | with_reducible apply mT))); (case hv => rfl)) | ((with_reducible apply wpl_loadA H); (case hs => exact ag _ _ rfl); (case hw => rfl); (case hx => rfl); (case hm => (repeat (first | with_reducible exact mH | with_reducible assumption | with_reducible apply mT))); (case hv => rfl); (case hl => rfl); (try simp only [List.drop_zero, List.drop_succ_cons, List.take_succ_cons, List.take_zero, List.take_nil])))
  refine wp_loop_rounds 1 ?_
  rw [rounds_succ]
  go_wp2_with (first | go_big_skip | ((with_reducible refine wpl_drew H ?_); clear H; (try clear W); intro W H) | ((with_reducible refine wpl_drewN H ?_); clear H; (try clear W); intro W H) | ((with_reducible apply wpl_load H); (case hs => exact sc _ rfl); (case hw => rfl); (case hx => rfl); (case hm => (repeat (first | with_reducible exact mH | with_reducible assumption | with_reducible apply mT))); (case hv => rfl)) | ((with_reducible apply wpl_loadA H); (case hs => exact ag _ _ rfl); (case hw => rfl); (case hx => rfl); (case hm => (repeat (first | with_reducible exact mH | with_reducible assumption | with_reducible apply mT))); (case hv => rfl); (case hl => rfl); (try simp only [List.drop_zero, List.drop_succ_cons, List.take_succ_cons, List.take_zero, List.take_nil])))
  go_end0
  exact HK.out _ H
set_option maxRecDepth 100000 in
set_option maxHeartbeats 1000000 in
theorem no_growSum (H : Holds W L) (hm : blk g [x, y, .slice none 0 0, .slice none 0 0, .slice none 0 0, .slice none 0 0, .slice none 0 0, .slice none 0 0, .slice none 0 0, .slice none 0 0] 41 ∈ L) (k : ∀ w', Holds w' L → R (.returned (.tuple #[])) w') : Calls Tryz.prog 40 #[.pointer (some ⟨g, 0, none⟩)] W R := by
  have HK := Lib.hid k; clear k
  go_enter Tryz.func40, Tryz.ntmps40
  go_wp2_with (first | go_big_skip | ((with_reducible refine wpl_drew H ?_); clear H; (try clear W); intro W H) | ((with_reducible refine wpl_drewN H ?_); clear H; (try clear W); intro W H) | ((with_reducible apply wpl_load H); (case hs => exact sc _ rfl); (case hw => rfl); (case hx => rfl); (case hm => (repeat (first | with_reducible exact mH | with_reducible assumption | with_reducible apply mT))); (case hv => rfl)) | ((with_reducible apply wpl_loadA H); (case hs => exact ag _ _ rfl); (case hw => rfl); (case hx => rfl); (case hm => (repeat (first | with_reducible exact mH | with_reducible assumption | with_reducible apply mT))); (case hv => rfl); (case hl => rfl); (try simp only [List.drop_zero, List.drop_succ_cons, List.take_succ_cons, List.take_zero, List.take_nil])))
  refine wp_loop_rounds 1 ?_
  rw [rounds_succ]
  go_wp2_with (first | go_big_skip | ((with_reducible refine wpl_drew H ?_); clear H; (try clear W); intro W H) | ((with_reducible refine wpl_drewN H ?_); clear H; (try clear W); intro W H) | ((with_reducible apply wpl_load H); (case hs => exact sc _ rfl); (case hw => rfl); (case hx => rfl); (case hm => (repeat (first | with_reducible exact mH | with_reducible assumption | with_reducible apply mT))); (case hv => rfl)) | ((with_reducible apply wpl_loadA H); (case hs => exact ag _ _ rfl); (case hw => rfl); (case hx => rfl); (case hm => (repeat (first | with_reducible exact mH | with_reducible assumption | with_reducible apply mT))); (case hv => rfl); (case hl => rfl); (try simp only [List.drop_zero, List.drop_succ_cons, List.take_succ_cons, List.take_zero, List.take_nil])))
  go_end0
  exact HK.out _ H
set_option maxRecDepth 100000 in
set_option maxHeartbeats 1000000 in
theorem no_lookSum (H : Holds W L) (hm : blk g [x, y, .slice none 0 0, .slice none 0 0, .slice none 0 0, .slice none 0 0, .slice none 0 0, .slice none 0 0, .slice none 0 0, .slice none 0 0] 41 ∈ L) (k : ∀ w', Holds w' L → R (.returned (.bool true)) w') : Calls Tryz.prog 49 #[.pointer (some ⟨g, 0, none⟩)] W R := by
  have HK := Lib.hid k; clear k
  go_enter Tryz.func49, Tryz.ntmps49
  go_wp2_with (first | go_big_skip | ((with_reducible refine wpl_drew H ?_); clear H; (try clear W); intro W H) | ((with_reducible refine wpl_drewN H ?_); clear H; (try clear W); intro W H) | ((with_reducible apply wpl_load H); (case hs => exact sc _ rfl); (case hw => rfl); (case hx => rfl); (case hm => (repeat (first | with_reducible exact mH | with_reducible assumption | with_reducible apply mT))); (case hv => rfl)) | ((with_reducible apply wpl_loadA H); (case hs => exact ag _ _ rfl); (case hw => rfl); (case hx => rfl); (case hm => (repeat (first | with_reducible exact mH | with_reducible assumption | with_reducible apply mT))); (case hv => rfl); (case hl => rfl); (try simp only [List.drop_zero, List.drop_succ_cons, List.take_succ_cons, List.take_zero, List.take_nil])))
  refine wp_loop_rounds 1 ?_
  rw [rounds_succ]
  go_wp2_with (first | go_big_skip | ((with_reducible refine wpl_drew H ?_); clear H; (try clear W); intro W H) | ((with_reducible refine wpl_drewN H ?_); clear H; (try clear W); intro W H) | ((with_reducible apply wpl_load H); (case hs => exact sc _ rfl); (case hw => rfl); (case hx => rfl); (case hm => (repeat (first | with_reducible exact mH | with_reducible assumption | with_reducible apply mT))); (case hv => rfl)) | ((with_reducible apply wpl_loadA H); (case hs => exact ag _ _ rfl); (case hw => rfl); (case hx => rfl); (case hm => (repeat (first | with_reducible exact mH | with_reducible assumption | with_reducible apply mT))); (case hv => rfl); (case hl => rfl); (try simp only [List.drop_zero, List.drop_succ_cons, List.take_succ_cons, List.take_zero, List.take_nil])))
  exact HK.out _ H
set_option maxRecDepth 100000 in
set_option maxHeartbeats 1000000 in
theorem no_fillPair (H : Holds W L) (hm : blk g [x, y, .slice none 0 0, .slice none 0 0, .slice none 0 0, .slice none 0 0, .slice none 0 0, .slice none 0 0, .slice none 0 0, .slice none 0 0] 41 ∈ L) (k : ∀ w', Holds w' L → R (.returned (.tuple #[])) w') : Calls Tryz.prog 32 #[.pointer (some ⟨g, 0, none⟩)] W R := by
  have HK := Lib.hid k; clear k
  go_enter Tryz.func32, Tryz.ntmps32
  go_wp2_with (first | go_big_skip | ((with_reducible refine wpl_drew H ?_); clear H; (try clear W); intro W H) | ((with_reducible refine wpl_drewN H ?_); clear H; (try clear W); intro W H) | ((with_reducible apply wpl_load H); (case hs => exact sc _ rfl); (case hw => rfl); (case hx => rfl); (case hm => (repeat (first | with_reducible exact mH | with_reducible assumption | with_reducible apply mT))); (case hv => rfl)) | ((with_reducible apply wpl_loadA H); (case hs => exact ag _ _ rfl); (case hw => rfl); (case hx => rfl); (case hm => (repeat (first | with_reducible exact mH | with_reducible assumption | with_reducible apply mT))); (case hv => rfl); (case hl => rfl); (try simp only [List.drop_zero, List.drop_succ_cons, List.take_succ_cons, List.take_zero, List.take_nil])))
  refine wp_loop_rounds 1 ?_
  rw [rounds_succ]
  go_wp2_with (first | go_big_skip | ((with_reducible refine wpl_drew H ?_); clear H; (try clear W); intro W H) | ((with_reducible refine wpl_drewN H ?_); clear H; (try clear W); intro W H) | ((with_reducible apply wpl_load H); (case hs => exact sc _ rfl); (case hw => rfl); (case hx => rfl); (case hm => (repeat (first | with_reducible exact mH | with_reducible assumption | with_reducible apply mT))); (case hv => rfl)) | ((with_reducible apply wpl_loadA H); (case hs => exact ag _ _ rfl); (case hw => rfl); (case hx => rfl); (case hm => (repeat (first | with_reducible exact mH | with_reducible assumption | with_reducible apply mT))); (case hv => rfl); (case hl => rfl); (try simp only [List.drop_zero, List.drop_succ_cons, List.take_succ_cons, List.take_zero, List.take_nil])))
  go_end0
  exact HK.out _ H
set_option maxRecDepth 100000 in
set_option maxHeartbeats 1000000 in
theorem no_growPair (H : Holds W L) (hm : blk g [x, y, .slice none 0 0, .slice none 0 0, .slice none 0 0, .slice none 0 0, .slice none 0 0, .slice none 0 0, .slice none 0 0, .slice none 0 0] 41 ∈ L) (k : ∀ w', Holds w' L → R (.returned (.tuple #[])) w') : Calls Tryz.prog 41 #[.pointer (some ⟨g, 0, none⟩)] W R := by
  have HK := Lib.hid k; clear k
  go_enter Tryz.func41, Tryz.ntmps41
  go_wp2_with (first | go_big_skip | ((with_reducible refine wpl_drew H ?_); clear H; (try clear W); intro W H) | ((with_reducible refine wpl_drewN H ?_); clear H; (try clear W); intro W H) | ((with_reducible apply wpl_load H); (case hs => exact sc _ rfl); (case hw => rfl); (case hx => rfl); (case hm => (repeat (first | with_reducible exact mH | with_reducible assumption | with_reducible apply mT))); (case hv => rfl)) | ((with_reducible apply wpl_loadA H); (case hs => exact ag _ _ rfl); (case hw => rfl); (case hx => rfl); (case hm => (repeat (first | with_reducible exact mH | with_reducible assumption | with_reducible apply mT))); (case hv => rfl); (case hl => rfl); (try simp only [List.drop_zero, List.drop_succ_cons, List.take_succ_cons, List.take_zero, List.take_nil])))
  refine wp_loop_rounds 1 ?_
  rw [rounds_succ]
  go_wp2_with (first | go_big_skip | ((with_reducible refine wpl_drew H ?_); clear H; (try clear W); intro W H) | ((with_reducible refine wpl_drewN H ?_); clear H; (try clear W); intro W H) | ((with_reducible apply wpl_load H); (case hs => exact sc _ rfl); (case hw => rfl); (case hx => rfl); (case hm => (repeat (first | with_reducible exact mH | with_reducible assumption | with_reducible apply mT))); (case hv => rfl)) | ((with_reducible apply wpl_loadA H); (case hs => exact ag _ _ rfl); (case hw => rfl); (case hx => rfl); (case hm => (repeat (first | with_reducible exact mH | with_reducible assumption | with_reducible apply mT))); (case hv => rfl); (case hl => rfl); (try simp only [List.drop_zero, List.drop_succ_cons, List.take_succ_cons, List.take_zero, List.take_nil])))
  go_end0
  exact HK.out _ H
set_option maxRecDepth 100000 in
set_option maxHeartbeats 1000000 in
theorem no_lookPair (H : Holds W L) (hm : blk g [x, y, .slice none 0 0, .slice none 0 0, .slice none 0 0, .slice none 0 0, .slice none 0 0, .slice none 0 0, .slice none 0 0, .slice none 0 0] 41 ∈ L) (k : ∀ w', Holds w' L → R (.returned (.bool true)) w') : Calls Tryz.prog 50 #[.pointer (some ⟨g, 0, none⟩)] W R := by
  have HK := Lib.hid k; clear k
  go_enter Tryz.func50, Tryz.ntmps50
  go_wp2_with (first | go_big_skip | ((with_reducible refine wpl_drew H ?_); clear H; (try clear W); intro W H) | ((with_reducible refine wpl_drewN H ?_); clear H; (try clear W); intro W H) | ((with_reducible apply wpl_load H); (case hs => exact sc _ rfl); (case hw => rfl); (case hx => rfl); (case hm => (repeat (first | with_reducible exact mH | with_reducible assumption | with_reducible apply mT))); (case hv => rfl)) | ((with_reducible apply wpl_loadA H); (case hs => exact ag _ _ rfl); (case hw => rfl); (case hx => rfl); (case hm => (repeat (first | with_reducible exact mH | with_reducible assumption | with_reducible apply mT))); (case hv => rfl); (case hl => rfl); (try simp only [List.drop_zero, List.drop_succ_cons, List.take_succ_cons, List.take_zero, List.take_nil])))
  refine wp_loop_rounds 1 ?_
  rw [rounds_succ]
  go_wp2_with (first | go_big_skip | ((with_reducible refine wpl_drew H ?_); clear H; (try clear W); intro W H) | ((with_reducible refine wpl_drewN H ?_); clear H; (try clear W); intro W H) | ((with_reducible apply wpl_load H); (case hs => exact sc _ rfl); (case hw => rfl); (case hx => rfl); (case hm => (repeat (first | with_reducible exact mH | with_reducible assumption | with_reducible apply mT))); (case hv => rfl)) | ((with_reducible apply wpl_loadA H); (case hs => exact ag _ _ rfl); (case hw => rfl); (case hx => rfl); (case hm => (repeat (first | with_reducible exact mH | with_reducible assumption | with_reducible apply mT))); (case hv => rfl); (case hl => rfl); (try simp only [List.drop_zero, List.drop_succ_cons, List.take_succ_cons, List.take_zero, List.take_nil])))
  exact HK.out _ H
set_option maxRecDepth 100000 in
set_option maxHeartbeats 1000000 in
theorem no_fillTenant (H : Holds W L) (hm : blk g [x, y, .slice none 0 0, .slice none 0 0, .slice none 0 0, .slice none 0 0, .slice none 0 0, .slice none 0 0, .slice none 0 0, .slice none 0 0] 41 ∈ L) (k : ∀ w', Holds w' L → R (.returned (.tuple #[])) w') : Calls Tryz.prog 33 #[.pointer (some ⟨g, 0, none⟩)] W R := by
  have HK := Lib.hid k; clear k
  go_enter Tryz.func33, Tryz.ntmps33
  go_wp2_with (first | go_big_skip | ((with_reducible refine wpl_drew H ?_); clear H; (try clear W); intro W H) | ((with_reducible refine wpl_drewN H ?_); clear H; (try clear W); intro W H) | ((with_reducible apply wpl_load H); (case hs => exact sc _ rfl); (case hw => rfl); (case hx => rfl); (case hm => (repeat (first | with_reducible exact mH | with_reducible assumption | with_reducible apply mT))); (case hv => rfl)) | ((with_reducible apply wpl_loadA H); (case hs => exact ag _ _ rfl); (case hw => rfl); (case hx => rfl); (case hm => (repeat (first | with_reducible exact mH | with_reducible assumption | with_reducible apply mT))); (case hv => rfl); (case hl => rfl); (try simp only [List.drop_zero, List.drop_succ_cons, List.take_succ_cons, List.take_zero, List.take_nil])))
  refine wp_loop_rounds 1 ?_
  rw [rounds_succ]
  go_wp2_with (first | go_big_skip | ((with_reducible refine wpl_drew H ?_); clear H; (try clear W); intro W H) | ((with_reducible refine wpl_drewN H ?_); clear H; (try clear W); intro W H) | ((with_reducible apply wpl_load H); (case hs => exact sc _ rfl); (case hw => rfl); (case hx => rfl); (case hm => (repeat (first | with_reducible exact mH | with_reducible assumption | with_reducible apply mT))); (case hv => rfl)) | ((with_reducible apply wpl_loadA H); (case hs => exact ag _ _ rfl); (case hw => rfl); (case hx => rfl); (case hm => (repeat (first | with_reducible exact mH | with_reducible assumption | with_reducible apply mT))); (case hv => rfl); (case hl => rfl); (try simp only [List.drop_zero, List.drop_succ_cons, List.take_succ_cons, List.take_zero, List.take_nil])))
  go_end0
  exact HK.out _ H
set_option maxRecDepth 100000 in
set_option maxHeartbeats 1000000 in
theorem no_growTenant (H : Holds W L) (hm : blk g [x, y, .slice none 0 0, .slice none 0 0, .slice none 0 0, .slice none 0 0, .slice none 0 0, .slice none 0 0, .slice none 0 0, .slice none 0 0] 41 ∈ L) (k : ∀ w', Holds w' L → R (.returned (.tuple #[])) w') : Calls Tryz.prog 42 #[.pointer (some ⟨g, 0, none⟩)] W R := by
  have HK := Lib.hid k; clear k
  go_enter Tryz.func42, Tryz.ntmps42
  go_wp2_with (first | go_big_skip | ((with_reducible refine wpl_drew H ?_); clear H; (try clear W); intro W H) | ((with_reducible refine wpl_drewN H ?_); clear H; (try clear W); intro W H) | ((with_reducible apply wpl_load H); (case hs => exact sc _ rfl); (case hw => rfl); (case hx => rfl); (case hm => (repeat (first | with_reducible exact mH | with_reducible assumption | with_reducible apply mT))); (case hv => rfl)) | ((with_reducible apply wpl_loadA H); (case hs => exact ag _ _ rfl); (case hw => rfl); (case hx => rfl); (case hm => (repeat (first | with_reducible exact mH | with_reducible assumption | with_reducible apply mT))); (case hv => rfl); (case hl => rfl); (try simp only [List.drop_zero, List.drop_succ_cons, List.take_succ_cons, List.take_zero, List.take_nil])))
  refine wp_loop_rounds 1 ?_
  rw [rounds_succ]
  go_wp2_with (first | go_big_skip | ((with_reducible refine wpl_drew H ?_); clear H; (try clear W); intro W H) | ((with_reducible refine wpl_drewN H ?_); clear H; (try clear W); intro W H) | ((with_reducible apply wpl_load H); (case hs => exact sc _ rfl); (case hw => rfl); (case hx => rfl); (case hm => (repeat (first | with_reducible exact mH | with_reducible assumption | with_reducible apply mT))); (case hv => rfl)) | ((with_reducible apply wpl_loadA H); (case hs => exact ag _ _ rfl); (case hw => rfl); (case hx => rfl); (case hm => (repeat (first | with_reducible exact mH | with_reducible assumption | with_reducible apply mT))); (case hv => rfl); (case hl => rfl); (try simp only [List.drop_zero, List.drop_succ_cons, List.take_succ_cons, List.take_zero, List.take_nil])))
  go_end0
  exact HK.out _ H
set_option maxRecDepth 100000 in
set_option maxHeartbeats 1000000 in
theorem no_lookTenant (H : Holds W L) (hm : blk g [x, y, .slice none 0 0, .slice none 0 0, .slice none 0 0, .slice none 0 0, .slice none 0 0, .slice none 0 0, .slice none 0 0, .slice none 0 0] 41 ∈ L) (k : ∀ w', Holds w' L → R (.returned (.bool true)) w') : Calls Tryz.prog 51 #[.pointer (some ⟨g, 0, none⟩)] W R := by
  have HK := Lib.hid k; clear k
  go_enter Tryz.func51, Tryz.ntmps51
  go_wp2_with (first | go_big_skip | ((with_reducible refine wpl_drew H ?_); clear H; (try clear W); intro W H) | ((with_reducible refine wpl_drewN H ?_); clear H; (try clear W); intro W H) | ((with_reducible apply wpl_load H); (case hs => exact sc _ rfl); (case hw => rfl); (case hx => rfl); (case hm => (repeat (first | with_reducible exact mH | with_reducible assumption | with_reducible apply mT))); (case hv => rfl)) | ((with_reducible apply wpl_loadA H); (case hs => exact ag _ _ rfl); (case hw => rfl); (case hx => rfl); (case hm => (repeat (first | with_reducible exact mH | with_reducible assumption | with_reducible apply mT))); (case hv => rfl); (case hl => rfl); (try simp only [List.drop_zero, List.drop_succ_cons, List.take_succ_cons, List.take_zero, List.take_nil])))
  refine wp_loop_rounds 1 ?_
  rw [rounds_succ]
  go_wp2_with (first | go_big_skip | ((with_reducible refine wpl_drew H ?_); clear H; (try clear W); intro W H) | ((with_reducible refine wpl_drewN H ?_); clear H; (try clear W); intro W H) | ((with_reducible apply wpl_load H); (case hs => exact sc _ rfl); (case hw => rfl); (case hx => rfl); (case hm => (repeat (first | with_reducible exact mH | with_reducible assumption | with_reducible apply mT))); (case hv => rfl)) | ((with_reducible apply wpl_loadA H); (case hs => exact ag _ _ rfl); (case hw => rfl); (case hx => rfl); (case hm => (repeat (first | with_reducible exact mH | with_reducible assumption | with_reducible apply mT))); (case hv => rfl); (case hl => rfl); (try simp only [List.drop_zero, List.drop_succ_cons, List.take_succ_cons, List.take_zero, List.take_nil])))
  exact HK.out _ H
set_option maxRecDepth 100000 in
set_option maxHeartbeats 1000000 in
theorem no_fillLease (H : Holds W L) (hm : blk g [x, y, .slice none 0 0, .slice none 0 0, .slice none 0 0, .slice none 0 0, .slice none 0 0, .slice none 0 0, .slice none 0 0, .slice none 0 0] 41 ∈ L) (k : ∀ w', Holds w' L → R (.returned (.tuple #[])) w') : Calls Tryz.prog 34 #[.pointer (some ⟨g, 0, none⟩)] W R := by
  have HK := Lib.hid k; clear k
  go_enter Tryz.func34, Tryz.ntmps34
  go_wp2_with (first | go_big_skip | ((with_reducible refine wpl_drew H ?_); clear H; (try clear W); intro W H) | ((with_reducible refine wpl_drewN H ?_); clear H; (try clear W); intro W H) | ((with_reducible apply wpl_load H); (case hs => exact sc _ rfl); (case hw => rfl); (case hx => rfl); (case hm => (repeat (first | with_reducible exact mH | with_reducible assumption | with_reducible apply mT))); (case hv => rfl)) | ((with_reducible apply wpl_loadA H); (case hs => exact ag _ _ rfl); (case hw => rfl); (case hx => rfl); (case hm => (repeat (first | with_reducible exact mH | with_reducible assumption | with_reducible apply mT))); (case hv => rfl); (case hl => rfl); (try simp only [List.drop_zero, List.drop_succ_cons, List.take_succ_cons, List.take_zero, List.take_nil])))
  refine wp_loop_rounds 1 ?_
  rw [rounds_succ]
  go_wp2_with (first | go_big_skip | ((with_reducible refine wpl_drew H ?_); clear H; (try clear W); intro W H) | ((with_reducible refine wpl_drewN H ?_); clear H; (try clear W); intro W H) | ((with_reducible apply wpl_load H); (case hs => exact sc _ rfl); (case hw => rfl); (case hx => rfl); (case hm => (repeat (first | with_reducible exact mH | with_reducible assumption | with_reducible apply mT))); (case hv => rfl)) | ((with_reducible apply wpl_loadA H); (case hs => exact ag _ _ rfl); (case hw => rfl); (case hx => rfl); (case hm => (repeat (first | with_reducible exact mH | with_reducible assumption | with_reducible apply mT))); (case hv => rfl); (case hl => rfl); (try simp only [List.drop_zero, List.drop_succ_cons, List.take_succ_cons, List.take_zero, List.take_nil])))
  go_end0
  exact HK.out _ H
set_option maxRecDepth 100000 in
set_option maxHeartbeats 1000000 in
theorem no_growLease (H : Holds W L) (hm : blk g [x, y, .slice none 0 0, .slice none 0 0, .slice none 0 0, .slice none 0 0, .slice none 0 0, .slice none 0 0, .slice none 0 0, .slice none 0 0] 41 ∈ L) (k : ∀ w', Holds w' L → R (.returned (.tuple #[])) w') : Calls Tryz.prog 43 #[.pointer (some ⟨g, 0, none⟩)] W R := by
  have HK := Lib.hid k; clear k
  go_enter Tryz.func43, Tryz.ntmps43
  go_wp2_with (first | go_big_skip | ((with_reducible refine wpl_drew H ?_); clear H; (try clear W); intro W H) | ((with_reducible refine wpl_drewN H ?_); clear H; (try clear W); intro W H) | ((with_reducible apply wpl_load H); (case hs => exact sc _ rfl); (case hw => rfl); (case hx => rfl); (case hm => (repeat (first | with_reducible exact mH | with_reducible assumption | with_reducible apply mT))); (case hv => rfl)) | ((with_reducible apply wpl_loadA H); (case hs => exact ag _ _ rfl); (case hw => rfl); (case hx => rfl); (case hm => (repeat (first | with_reducible exact mH | with_reducible assumption | with_reducible apply mT))); (case hv => rfl); (case hl => rfl); (try simp only [List.drop_zero, List.drop_succ_cons, List.take_succ_cons, List.take_zero, List.take_nil])))
  refine wp_loop_rounds 1 ?_
  rw [rounds_succ]
  go_wp2_with (first | go_big_skip | ((with_reducible refine wpl_drew H ?_); clear H; (try clear W); intro W H) | ((with_reducible refine wpl_drewN H ?_); clear H; (try clear W); intro W H) | ((with_reducible apply wpl_load H); (case hs => exact sc _ rfl); (case hw => rfl); (case hx => rfl); (case hm => (repeat (first | with_reducible exact mH | with_reducible assumption | with_reducible apply mT))); (case hv => rfl)) | ((with_reducible apply wpl_loadA H); (case hs => exact ag _ _ rfl); (case hw => rfl); (case hx => rfl); (case hm => (repeat (first | with_reducible exact mH | with_reducible assumption | with_reducible apply mT))); (case hv => rfl); (case hl => rfl); (try simp only [List.drop_zero, List.drop_succ_cons, List.take_succ_cons, List.take_zero, List.take_nil])))
  go_end0
  exact HK.out _ H
set_option maxRecDepth 100000 in
set_option maxHeartbeats 1000000 in
theorem no_lookLease (H : Holds W L) (hm : blk g [x, y, .slice none 0 0, .slice none 0 0, .slice none 0 0, .slice none 0 0, .slice none 0 0, .slice none 0 0, .slice none 0 0, .slice none 0 0] 41 ∈ L) (k : ∀ w', Holds w' L → R (.returned (.bool true)) w') : Calls Tryz.prog 52 #[.pointer (some ⟨g, 0, none⟩)] W R := by
  have HK := Lib.hid k; clear k
  go_enter Tryz.func52, Tryz.ntmps52
  go_wp2_with (first | go_big_skip | ((with_reducible refine wpl_drew H ?_); clear H; (try clear W); intro W H) | ((with_reducible refine wpl_drewN H ?_); clear H; (try clear W); intro W H) | ((with_reducible apply wpl_load H); (case hs => exact sc _ rfl); (case hw => rfl); (case hx => rfl); (case hm => (repeat (first | with_reducible exact mH | with_reducible assumption | with_reducible apply mT))); (case hv => rfl)) | ((with_reducible apply wpl_loadA H); (case hs => exact ag _ _ rfl); (case hw => rfl); (case hx => rfl); (case hm => (repeat (first | with_reducible exact mH | with_reducible assumption | with_reducible apply mT))); (case hv => rfl); (case hl => rfl); (try simp only [List.drop_zero, List.drop_succ_cons, List.take_succ_cons, List.take_zero, List.take_nil])))
  refine wp_loop_rounds 1 ?_
  rw [rounds_succ]
  go_wp2_with (first | go_big_skip | ((with_reducible refine wpl_drew H ?_); clear H; (try clear W); intro W H) | ((with_reducible refine wpl_drewN H ?_); clear H; (try clear W); intro W H) | ((with_reducible apply wpl_load H); (case hs => exact sc _ rfl); (case hw => rfl); (case hx => rfl); (case hm => (repeat (first | with_reducible exact mH | with_reducible assumption | with_reducible apply mT))); (case hv => rfl)) | ((with_reducible apply wpl_loadA H); (case hs => exact ag _ _ rfl); (case hw => rfl); (case hx => rfl); (case hm => (repeat (first | with_reducible exact mH | with_reducible assumption | with_reducible apply mT))); (case hv => rfl); (case hl => rfl); (try simp only [List.drop_zero, List.drop_succ_cons, List.take_succ_cons, List.take_zero, List.take_nil])))
  exact HK.out _ H
set_option maxRecDepth 100000 in
set_option maxHeartbeats 1000000 in
theorem no_fillEvent (H : Holds W L) (hm : blk g [x, y, .slice none 0 0, .slice none 0 0, .slice none 0 0, .slice none 0 0, .slice none 0 0, .slice none 0 0, .slice none 0 0, .slice none 0 0] 41 ∈ L) (k : ∀ w', Holds w' L → R (.returned (.tuple #[])) w') : Calls Tryz.prog 35 #[.pointer (some ⟨g, 0, none⟩)] W R := by
  have HK := Lib.hid k; clear k
  go_enter Tryz.func35, Tryz.ntmps35
  go_wp2_with (first | go_big_skip | ((with_reducible refine wpl_drew H ?_); clear H; (try clear W); intro W H) | ((with_reducible refine wpl_drewN H ?_); clear H; (try clear W); intro W H) | ((with_reducible apply wpl_load H); (case hs => exact sc _ rfl); (case hw => rfl); (case hx => rfl); (case hm => (repeat (first | with_reducible exact mH | with_reducible assumption | with_reducible apply mT))); (case hv => rfl)) | ((with_reducible apply wpl_loadA H); (case hs => exact ag _ _ rfl); (case hw => rfl); (case hx => rfl); (case hm => (repeat (first | with_reducible exact mH | with_reducible assumption | with_reducible apply mT))); (case hv => rfl); (case hl => rfl); (try simp only [List.drop_zero, List.drop_succ_cons, List.take_succ_cons, List.take_zero, List.take_nil])))
  refine wp_loop_rounds 1 ?_
  rw [rounds_succ]
  go_wp2_with (first | go_big_skip | ((with_reducible refine wpl_drew H ?_); clear H; (try clear W); intro W H) | ((with_reducible refine wpl_drewN H ?_); clear H; (try clear W); intro W H) | ((with_reducible apply wpl_load H); (case hs => exact sc _ rfl); (case hw => rfl); (case hx => rfl); (case hm => (repeat (first | with_reducible exact mH | with_reducible assumption | with_reducible apply mT))); (case hv => rfl)) | ((with_reducible apply wpl_loadA H); (case hs => exact ag _ _ rfl); (case hw => rfl); (case hx => rfl); (case hm => (repeat (first | with_reducible exact mH | with_reducible assumption | with_reducible apply mT))); (case hv => rfl); (case hl => rfl); (try simp only [List.drop_zero, List.drop_succ_cons, List.take_succ_cons, List.take_zero, List.take_nil])))
  go_end0
  exact HK.out _ H
set_option maxRecDepth 100000 in
set_option maxHeartbeats 1000000 in
theorem no_growEvent (H : Holds W L) (hm : blk g [x, y, .slice none 0 0, .slice none 0 0, .slice none 0 0, .slice none 0 0, .slice none 0 0, .slice none 0 0, .slice none 0 0, .slice none 0 0] 41 ∈ L) (k : ∀ w', Holds w' L → R (.returned (.tuple #[])) w') : Calls Tryz.prog 44 #[.pointer (some ⟨g, 0, none⟩)] W R := by
  have HK := Lib.hid k; clear k
  go_enter Tryz.func44, Tryz.ntmps44
  go_wp2_with (first | go_big_skip | ((with_reducible refine wpl_drew H ?_); clear H; (try clear W); intro W H) | ((with_reducible refine wpl_drewN H ?_); clear H; (try clear W); intro W H) | ((with_reducible apply wpl_load H); (case hs => exact sc _ rfl); (case hw => rfl); (case hx => rfl); (case hm => (repeat (first | with_reducible exact mH | with_reducible assumption | with_reducible apply mT))); (case hv => rfl)) | ((with_reducible apply wpl_loadA H); (case hs => exact ag _ _ rfl); (case hw => rfl); (case hx => rfl); (case hm => (repeat (first | with_reducible exact mH | with_reducible assumption | with_reducible apply mT))); (case hv => rfl); (case hl => rfl); (try simp only [List.drop_zero, List.drop_succ_cons, List.take_succ_cons, List.take_zero, List.take_nil])))
  refine wp_loop_rounds 1 ?_
  rw [rounds_succ]
  go_wp2_with (first | go_big_skip | ((with_reducible refine wpl_drew H ?_); clear H; (try clear W); intro W H) | ((with_reducible refine wpl_drewN H ?_); clear H; (try clear W); intro W H) | ((with_reducible apply wpl_load H); (case hs => exact sc _ rfl); (case hw => rfl); (case hx => rfl); (case hm => (repeat (first | with_reducible exact mH | with_reducible assumption | with_reducible apply mT))); (case hv => rfl)) | ((with_reducible apply wpl_loadA H); (case hs => exact ag _ _ rfl); (case hw => rfl); (case hx => rfl); (case hm => (repeat (first | with_reducible exact mH | with_reducible assumption | with_reducible apply mT))); (case hv => rfl); (case hl => rfl); (try simp only [List.drop_zero, List.drop_succ_cons, List.take_succ_cons, List.take_zero, List.take_nil])))
  go_end0
  exact HK.out _ H
set_option maxRecDepth 100000 in
set_option maxHeartbeats 1000000 in
theorem no_lookEvent (H : Holds W L) (hm : blk g [x, y, .slice none 0 0, .slice none 0 0, .slice none 0 0, .slice none 0 0, .slice none 0 0, .slice none 0 0, .slice none 0 0, .slice none 0 0] 41 ∈ L) (k : ∀ w', Holds w' L → R (.returned (.bool true)) w') : Calls Tryz.prog 53 #[.pointer (some ⟨g, 0, none⟩)] W R := by
  have HK := Lib.hid k; clear k
  go_enter Tryz.func53, Tryz.ntmps53
  go_wp2_with (first | go_big_skip | ((with_reducible refine wpl_drew H ?_); clear H; (try clear W); intro W H) | ((with_reducible refine wpl_drewN H ?_); clear H; (try clear W); intro W H) | ((with_reducible apply wpl_load H); (case hs => exact sc _ rfl); (case hw => rfl); (case hx => rfl); (case hm => (repeat (first | with_reducible exact mH | with_reducible assumption | with_reducible apply mT))); (case hv => rfl)) | ((with_reducible apply wpl_loadA H); (case hs => exact ag _ _ rfl); (case hw => rfl); (case hx => rfl); (case hm => (repeat (first | with_reducible exact mH | with_reducible assumption | with_reducible apply mT))); (case hv => rfl); (case hl => rfl); (try simp only [List.drop_zero, List.drop_succ_cons, List.take_succ_cons, List.take_zero, List.take_nil])))
  refine wp_loop_rounds 1 ?_
  rw [rounds_succ]
  go_wp2_with (first | go_big_skip | ((with_reducible refine wpl_drew H ?_); clear H; (try clear W); intro W H) | ((with_reducible refine wpl_drewN H ?_); clear H; (try clear W); intro W H) | ((with_reducible apply wpl_load H); (case hs => exact sc _ rfl); (case hw => rfl); (case hx => rfl); (case hm => (repeat (first | with_reducible exact mH | with_reducible assumption | with_reducible apply mT))); (case hv => rfl)) | ((with_reducible apply wpl_loadA H); (case hs => exact ag _ _ rfl); (case hw => rfl); (case hx => rfl); (case hm => (repeat (first | with_reducible exact mH | with_reducible assumption | with_reducible apply mT))); (case hv => rfl); (case hl => rfl); (try simp only [List.drop_zero, List.drop_succ_cons, List.take_succ_cons, List.take_zero, List.take_nil])))
  exact HK.out _ H
end
end Go.Proofs.YtkammcmlifmgnaaGreatDoor
