/-
  A Book that holds slices of bytes alone: the other kinds' fill, grow and look; Bytes; Apart.
-/
import Derived.Test.YtnpcpmiomimphaaDoorBook6
import Derived.Test.YtnpcpmiomimphaaDoorFlat
set_option linter.unusedVariables false
set_option linter.unusedSimpArgs false
namespace Go.Proofs.YtnpcpmiomimphaaDoor
open Go.RowKit

section
variable {W : World} {L L' L0 : List Ent} {R : Ending → World → Prop} {g : Nat} {x y : Value}
set_option maxRecDepth 100000 in
set_option maxHeartbeats 1000000 in
theorem no_fillInt (H : Holds W L) (hm : blk g [x, y, .slice none 0 0, .slice none 0 0, .slice none 0 0, .slice none 0 0, .slice none 0 0, .slice none 0 0, .slice none 0 0, .slice none 0 0] 55 ∈ L) (k : ∀ w', Holds w' L → R (.returned (.tuple #[])) w') : Calls Tryd.prog 31 #[.pointer (some ⟨g, 0, none⟩)] W R := by
  have HK := Lib.hid k; clear k
  go_enter Tryd.func31, Tryd.ntmps31
  go_wp2_with (first | go_big_skip | ((with_reducible refine wpl_drew H ?_); clear H; (try clear W); intro W H) | ((with_reducible refine wpl_drewN H ?_); clear H; (try clear W); intro W H) | ((with_reducible apply wpl_load H); (case hs => exact sc _ rfl); (case hw => rfl); (case hx => rfl); (case hm => (repeat (first | with_reducible exact mH | with_reducible assumption | with_reducible apply mT))); (case hv => rfl)) | ((with_reducible apply wpl_loadA H); (case hs => exact ag _ _ rfl); (case hw => rfl); (case hx => rfl); (case hm => (repeat (first | with_reducible exact mH | with_reducible assumption | with_reducible apply mT))); (case hv => rfl); (case hl => rfl); (try simp only [List.drop_zero, List.drop_succ_cons, List.take_succ_cons, List.take_zero, List.take_nil])))
  refine wp_loop_rounds 1 ?_
  rw [rounds_succ]
  go_wp2_with (first | go_big_skip | ((with_reducible refine wpl_drew H ?_); clear H; (try clear W); intro W H) | ((with_reducible refine wpl_drewN H ?_); clear H; (try clear W); intro W H) | ((with_reducible apply wpl_load H); (case hs => exact sc _ rfl); (case hw => rfl); (case hx => rfl); (case hm => (repeat (first | with_reducible exact mH | with_reducible assumption | with_reducible apply mT))); (case hv => rfl)) | ((with_reducible apply wpl_loadA H); (case hs => exact ag _ _ rfl); (case hw => rfl); (case hx => rfl); (case hm => (repeat (first | with_reducible exact mH | with_reducible assumption | with_reducible apply mT))); (case hv => rfl); (case hl => rfl); (try simp only [List.drop_zero, List.drop_succ_cons, List.take_succ_cons, List.take_zero, List.take_nil])))
  go_end0
  exact HK.out _ H
set_option maxRecDepth 100000 in
set_option maxHeartbeats 1000000 in
theorem no_growInt (H : Holds W L) (hm : blk g [x, y, .slice none 0 0, .slice none 0 0, .slice none 0 0, .slice none 0 0, .slice none 0 0, .slice none 0 0, .slice none 0 0, .slice none 0 0] 55 ∈ L) (k : ∀ w', Holds w' L → R (.returned (.tuple #[])) w') : Calls Tryd.prog 40 #[.pointer (some ⟨g, 0, none⟩)] W R := by
  have HK := Lib.hid k; clear k
  go_enter Tryd.func40, Tryd.ntmps40
  go_wp2_with (first | go_big_skip | ((with_reducible refine wpl_drew H ?_); clear H; (try clear W); intro W H) | ((with_reducible refine wpl_drewN H ?_); clear H; (try clear W); intro W H) | ((with_reducible apply wpl_load H); (case hs => exact sc _ rfl); (case hw => rfl); (case hx => rfl); (case hm => (repeat (first | with_reducible exact mH | with_reducible assumption | with_reducible apply mT))); (case hv => rfl)) | ((with_reducible apply wpl_loadA H); (case hs => exact ag _ _ rfl); (case hw => rfl); (case hx => rfl); (case hm => (repeat (first | with_reducible exact mH | with_reducible assumption | with_reducible apply mT))); (case hv => rfl); (case hl => rfl); (try simp only [List.drop_zero, List.drop_succ_cons, List.take_succ_cons, List.take_zero, List.take_nil])))
  refine wp_loop_rounds 1 ?_
  rw [rounds_succ]
  go_wp2_with (first | go_big_skip | ((with_reducible refine wpl_drew H ?_); clear H; (try clear W); intro W H) | ((with_reducible refine wpl_drewN H ?_); clear H; (try clear W); intro W H) | ((with_reducible apply wpl_load H); (case hs => exact sc _ rfl); (case hw => rfl); (case hx => rfl); (case hm => (repeat (first | with_reducible exact mH | with_reducible assumption | with_reducible apply mT))); (case hv => rfl)) | ((with_reducible apply wpl_loadA H); (case hs => exact ag _ _ rfl); (case hw => rfl); (case hx => rfl); (case hm => (repeat (first | with_reducible exact mH | with_reducible assumption | with_reducible apply mT))); (case hv => rfl); (case hl => rfl); (try simp only [List.drop_zero, List.drop_succ_cons, List.take_succ_cons, List.take_zero, List.take_nil])))
  go_end0
  exact HK.out _ H
set_option maxRecDepth 100000 in
set_option maxHeartbeats 1000000 in
theorem no_lookInt (H : Holds W L) (hm : blk g [x, y, .slice none 0 0, .slice none 0 0, .slice none 0 0, .slice none 0 0, .slice none 0 0, .slice none 0 0, .slice none 0 0, .slice none 0 0] 55 ∈ L) (k : ∀ w', Holds w' L → R (.returned (.bool true)) w') : Calls Tryd.prog 49 #[.pointer (some ⟨g, 0, none⟩)] W R := by
  have HK := Lib.hid k; clear k
  go_enter Tryd.func49, Tryd.ntmps49
  go_wp2_with (first | go_big_skip | ((with_reducible refine wpl_drew H ?_); clear H; (try clear W); intro W H) | ((with_reducible refine wpl_drewN H ?_); clear H; (try clear W); intro W H) | ((with_reducible apply wpl_load H); (case hs => exact sc _ rfl); (case hw => rfl); (case hx => rfl); (case hm => (repeat (first | with_reducible exact mH | with_reducible assumption | with_reducible apply mT))); (case hv => rfl)) | ((with_reducible apply wpl_loadA H); (case hs => exact ag _ _ rfl); (case hw => rfl); (case hx => rfl); (case hm => (repeat (first | with_reducible exact mH | with_reducible assumption | with_reducible apply mT))); (case hv => rfl); (case hl => rfl); (try simp only [List.drop_zero, List.drop_succ_cons, List.take_succ_cons, List.take_zero, List.take_nil])))
  refine wp_loop_rounds 1 ?_
  rw [rounds_succ]
  go_wp2_with (first | go_big_skip | ((with_reducible refine wpl_drew H ?_); clear H; (try clear W); intro W H) | ((with_reducible refine wpl_drewN H ?_); clear H; (try clear W); intro W H) | ((with_reducible apply wpl_load H); (case hs => exact sc _ rfl); (case hw => rfl); (case hx => rfl); (case hm => (repeat (first | with_reducible exact mH | with_reducible assumption | with_reducible apply mT))); (case hv => rfl)) | ((with_reducible apply wpl_loadA H); (case hs => exact ag _ _ rfl); (case hw => rfl); (case hx => rfl); (case hm => (repeat (first | with_reducible exact mH | with_reducible assumption | with_reducible apply mT))); (case hv => rfl); (case hl => rfl); (try simp only [List.drop_zero, List.drop_succ_cons, List.take_succ_cons, List.take_zero, List.take_nil])))
  exact HK.out _ H
set_option maxRecDepth 100000 in
set_option maxHeartbeats 1000000 in
theorem no_fillText (H : Holds W L) (hm : blk g [x, y, .slice none 0 0, .slice none 0 0, .slice none 0 0, .slice none 0 0, .slice none 0 0, .slice none 0 0, .slice none 0 0, .slice none 0 0] 55 ∈ L) (k : ∀ w', Holds w' L → R (.returned (.tuple #[])) w') : Calls Tryd.prog 32 #[.pointer (some ⟨g, 0, none⟩)] W R := by
  have HK := Lib.hid k; clear k
  go_enter Tryd.func32, Tryd.ntmps32
  go_wp2_with (first | go_big_skip | ((with_reducible refine wpl_drew H ?_); clear H; (try clear W); intro W H) | ((with_reducible refine wpl_drewN H ?_); clear H; (try clear W); intro W H) | ((with_reducible apply wpl_load H); (case hs => exact sc _ rfl); (case hw => rfl); (case hx => rfl); (case hm => (repeat (first | with_reducible exact mH | with_reducible assumption | with_reducible apply mT))); (case hv => rfl)) | ((with_reducible apply wpl_loadA H); (case hs => exact ag _ _ rfl); (case hw => rfl); (case hx => rfl); (case hm => (repeat (first | with_reducible exact mH | with_reducible assumption | with_reducible apply mT))); (case hv => rfl); (case hl => rfl); (try simp only [List.drop_zero, List.drop_succ_cons, List.take_succ_cons, List.take_zero, List.take_nil])))
  refine wp_loop_rounds 1 ?_
  rw [rounds_succ]
  go_wp2_with (first | go_big_skip | ((with_reducible refine wpl_drew H ?_); clear H; (try clear W); intro W H) | ((with_reducible refine wpl_drewN H ?_); clear H; (try clear W); intro W H) | ((with_reducible apply wpl_load H); (case hs => exact sc _ rfl); (case hw => rfl); (case hx => rfl); (case hm => (repeat (first | with_reducible exact mH | with_reducible assumption | with_reducible apply mT))); (case hv => rfl)) | ((with_reducible apply wpl_loadA H); (case hs => exact ag _ _ rfl); (case hw => rfl); (case hx => rfl); (case hm => (repeat (first | with_reducible exact mH | with_reducible assumption | with_reducible apply mT))); (case hv => rfl); (case hl => rfl); (try simp only [List.drop_zero, List.drop_succ_cons, List.take_succ_cons, List.take_zero, List.take_nil])))
  go_end0
  exact HK.out _ H
set_option maxRecDepth 100000 in
set_option maxHeartbeats 1000000 in
theorem no_growText (H : Holds W L) (hm : blk g [x, y, .slice none 0 0, .slice none 0 0, .slice none 0 0, .slice none 0 0, .slice none 0 0, .slice none 0 0, .slice none 0 0, .slice none 0 0] 55 ∈ L) (k : ∀ w', Holds w' L → R (.returned (.tuple #[])) w') : Calls Tryd.prog 41 #[.pointer (some ⟨g, 0, none⟩)] W R := by
  have HK := Lib.hid k; clear k
  go_enter Tryd.func41, Tryd.ntmps41
  go_wp2_with (first | go_big_skip | ((with_reducible refine wpl_drew H ?_); clear H; (try clear W); intro W H) | ((with_reducible refine wpl_drewN H ?_); clear H; (try clear W); intro W H) | ((with_reducible apply wpl_load H); (case hs => exact sc _ rfl); (case hw => rfl); (case hx => rfl); (case hm => (repeat (first | with_reducible exact mH | with_reducible assumption | with_reducible apply mT))); (case hv => rfl)) | ((with_reducible apply wpl_loadA H); (case hs => exact ag _ _ rfl); (case hw => rfl); (case hx => rfl); (case hm => (repeat (first | with_reducible exact mH | with_reducible assumption | with_reducible apply mT))); (case hv => rfl); (case hl => rfl); (try simp only [List.drop_zero, List.drop_succ_cons, List.take_succ_cons, List.take_zero, List.take_nil])))
  refine wp_loop_rounds 1 ?_
  rw [rounds_succ]
  go_wp2_with (first | go_big_skip | ((with_reducible refine wpl_drew H ?_); clear H; (try clear W); intro W H) | ((with_reducible refine wpl_drewN H ?_); clear H; (try clear W); intro W H) | ((with_reducible apply wpl_load H); (case hs => exact sc _ rfl); (case hw => rfl); (case hx => rfl); (case hm => (repeat (first | with_reducible exact mH | with_reducible assumption | with_reducible apply mT))); (case hv => rfl)) | ((with_reducible apply wpl_loadA H); (case hs => exact ag _ _ rfl); (case hw => rfl); (case hx => rfl); (case hm => (repeat (first | with_reducible exact mH | with_reducible assumption | with_reducible apply mT))); (case hv => rfl); (case hl => rfl); (try simp only [List.drop_zero, List.drop_succ_cons, List.take_succ_cons, List.take_zero, List.take_nil])))
  go_end0
  exact HK.out _ H
set_option maxRecDepth 100000 in
set_option maxHeartbeats 1000000 in
theorem no_lookText (H : Holds W L) (hm : blk g [x, y, .slice none 0 0, .slice none 0 0, .slice none 0 0, .slice none 0 0, .slice none 0 0, .slice none 0 0, .slice none 0 0, .slice none 0 0] 55 ∈ L) (k : ∀ w', Holds w' L → R (.returned (.bool true)) w') : Calls Tryd.prog 50 #[.pointer (some ⟨g, 0, none⟩)] W R := by
  have HK := Lib.hid k; clear k
  go_enter Tryd.func50, Tryd.ntmps50
  go_wp2_with (first | go_big_skip | ((with_reducible refine wpl_drew H ?_); clear H; (try clear W); intro W H) | ((with_reducible refine wpl_drewN H ?_); clear H; (try clear W); intro W H) | ((with_reducible apply wpl_load H); (case hs => exact sc _ rfl); (case hw => rfl); (case hx => rfl); (case hm => (repeat (first | with_reducible exact mH | with_reducible assumption | with_reducible apply mT))); (case hv => rfl)) | ((with_reducible apply wpl_loadA H); (case hs => exact ag _ _ rfl); (case hw => rfl); (case hx => rfl); (case hm => (repeat (first | with_reducible exact mH | with_reducible assumption | with_reducible apply mT))); (case hv => rfl); (case hl => rfl); (try simp only [List.drop_zero, List.drop_succ_cons, List.take_succ_cons, List.take_zero, List.take_nil])))
  refine wp_loop_rounds 1 ?_
  rw [rounds_succ]
  go_wp2_with (first | go_big_skip | ((with_reducible refine wpl_drew H ?_); clear H; (try clear W); intro W H) | ((with_reducible refine wpl_drewN H ?_); clear H; (try clear W); intro W H) | ((with_reducible apply wpl_load H); (case hs => exact sc _ rfl); (case hw => rfl); (case hx => rfl); (case hm => (repeat (first | with_reducible exact mH | with_reducible assumption | with_reducible apply mT))); (case hv => rfl)) | ((with_reducible apply wpl_loadA H); (case hs => exact ag _ _ rfl); (case hw => rfl); (case hx => rfl); (case hm => (repeat (first | with_reducible exact mH | with_reducible assumption | with_reducible apply mT))); (case hv => rfl); (case hl => rfl); (try simp only [List.drop_zero, List.drop_succ_cons, List.take_succ_cons, List.take_zero, List.take_nil])))
  exact HK.out _ H
set_option maxRecDepth 100000 in
set_option maxHeartbeats 1000000 in
theorem no_fillByteList (H : Holds W L) (hm : blk g [x, y, .slice none 0 0, .slice none 0 0, .slice none 0 0, .slice none 0 0, .slice none 0 0, .slice none 0 0, .slice none 0 0, .slice none 0 0] 55 ∈ L) (k : ∀ w', Holds w' L → R (.returned (.tuple #[])) w') : Calls Tryd.prog 33 #[.pointer (some ⟨g, 0, none⟩)] W R := by
  have HK := Lib.hid k; clear k
  go_enter Tryd.func33, Tryd.ntmps33
  go_wp2_with (first | go_big_skip | ((with_reducible refine wpl_drew H ?_); clear H; (try clear W); intro W H) | ((with_reducible refine wpl_drewN H ?_); clear H; (try clear W); intro W H) | ((with_reducible apply wpl_load H); (case hs => exact sc _ rfl); (case hw => rfl); (case hx => rfl); (case hm => (repeat (first | with_reducible exact mH | with_reducible assumption | with_reducible apply mT))); (case hv => rfl)) | ((with_reducible apply wpl_loadA H); (case hs => exact ag _ _ rfl); (case hw => rfl); (case hx => rfl); (case hm => (repeat (first | with_reducible exact mH | with_reducible assumption | with_reducible apply mT))); (case hv => rfl); (case hl => rfl); (try simp only [List.drop_zero, List.drop_succ_cons, List.take_succ_cons, List.take_zero, List.take_nil])))
  refine wp_loop_rounds 1 ?_
  rw [rounds_succ]
  go_wp2_with (first | go_big_skip | ((with_reducible refine wpl_drew H ?_); clear H; (try clear W); intro W H) | ((with_reducible refine wpl_drewN H ?_); clear H; (try clear W); intro W H) | ((with_reducible apply wpl_load H); (case hs => exact sc _ rfl); (case hw => rfl); (case hx => rfl); (case hm => (repeat (first | with_reducible exact mH | with_reducible assumption | with_reducible apply mT))); (case hv => rfl)) | ((with_reducible apply wpl_loadA H); (case hs => exact ag _ _ rfl); (case hw => rfl); (case hx => rfl); (case hm => (repeat (first | with_reducible exact mH | with_reducible assumption | with_reducible apply mT))); (case hv => rfl); (case hl => rfl); (try simp only [List.drop_zero, List.drop_succ_cons, List.take_succ_cons, List.take_zero, List.take_nil])))
  go_end0
  exact HK.out _ H
set_option maxRecDepth 100000 in
set_option maxHeartbeats 1000000 in
theorem no_growByteList (H : Holds W L) (hm : blk g [x, y, .slice none 0 0, .slice none 0 0, .slice none 0 0, .slice none 0 0, .slice none 0 0, .slice none 0 0, .slice none 0 0, .slice none 0 0] 55 ∈ L) (k : ∀ w', Holds w' L → R (.returned (.tuple #[])) w') : Calls Tryd.prog 42 #[.pointer (some ⟨g, 0, none⟩)] W R := by
  have HK := Lib.hid k; clear k
  go_enter Tryd.func42, Tryd.ntmps42
  go_wp2_with (first | go_big_skip | ((with_reducible refine wpl_drew H ?_); clear H; (try clear W); intro W H) | ((with_reducible refine wpl_drewN H ?_); clear H; (try clear W); intro W H) | ((with_reducible apply wpl_load H); (case hs => exact sc _ rfl); (case hw => rfl); (case hx => rfl); (case hm => (repeat (first | with_reducible exact mH | with_reducible assumption | with_reducible apply mT))); (case hv => rfl)) | ((with_reducible apply wpl_loadA H); (case hs => exact ag _ _ rfl); (case hw => rfl); (case hx => rfl); (case hm => (repeat (first | with_reducible exact mH | with_reducible assumption | with_reducible apply mT))); (case hv => rfl); (case hl => rfl); (try simp only [List.drop_zero, List.drop_succ_cons, List.take_succ_cons, List.take_zero, List.take_nil])))
  refine wp_loop_rounds 1 ?_
  rw [rounds_succ]
  go_wp2_with (first | go_big_skip | ((with_reducible refine wpl_drew H ?_); clear H; (try clear W); intro W H) | ((with_reducible refine wpl_drewN H ?_); clear H; (try clear W); intro W H) | ((with_reducible apply wpl_load H); (case hs => exact sc _ rfl); (case hw => rfl); (case hx => rfl); (case hm => (repeat (first | with_reducible exact mH | with_reducible assumption | with_reducible apply mT))); (case hv => rfl)) | ((with_reducible apply wpl_loadA H); (case hs => exact ag _ _ rfl); (case hw => rfl); (case hx => rfl); (case hm => (repeat (first | with_reducible exact mH | with_reducible assumption | with_reducible apply mT))); (case hv => rfl); (case hl => rfl); (try simp only [List.drop_zero, List.drop_succ_cons, List.take_succ_cons, List.take_zero, List.take_nil])))
  go_end0
  exact HK.out _ H
set_option maxRecDepth 100000 in
set_option maxHeartbeats 1000000 in
theorem no_lookByteList (H : Holds W L) (hm : blk g [x, y, .slice none 0 0, .slice none 0 0, .slice none 0 0, .slice none 0 0, .slice none 0 0, .slice none 0 0, .slice none 0 0, .slice none 0 0] 55 ∈ L) (k : ∀ w', Holds w' L → R (.returned (.bool true)) w') : Calls Tryd.prog 51 #[.pointer (some ⟨g, 0, none⟩)] W R := by
  have HK := Lib.hid k; clear k
  go_enter Tryd.func51, Tryd.ntmps51
  go_wp2_with (first | go_big_skip | ((with_reducible refine wpl_drew H ?_); clear H; (try clear W); intro W H) | ((with_reducible refine wpl_drewN H ?_); clear H; (try clear W); intro W H) | ((with_reducible apply wpl_load H); (case hs => exact sc _ rfl); (case hw => rfl); (case hx => rfl); (case hm => (repeat (first | with_reducible exact mH | with_reducible assumption | with_reducible apply mT))); (case hv => rfl)) | ((with_reducible apply wpl_loadA H); (case hs => exact ag _ _ rfl); (case hw => rfl); (case hx => rfl); (case hm => (repeat (first | with_reducible exact mH | with_reducible assumption | with_reducible apply mT))); (case hv => rfl); (case hl => rfl); (try simp only [List.drop_zero, List.drop_succ_cons, List.take_succ_cons, List.take_zero, List.take_nil])))
  refine wp_loop_rounds 1 ?_
  rw [rounds_succ]
  go_wp2_with (first | go_big_skip | ((with_reducible refine wpl_drew H ?_); clear H; (try clear W); intro W H) | ((with_reducible refine wpl_drewN H ?_); clear H; (try clear W); intro W H) | ((with_reducible apply wpl_load H); (case hs => exact sc _ rfl); (case hw => rfl); (case hx => rfl); (case hm => (repeat (first | with_reducible exact mH | with_reducible assumption | with_reducible apply mT))); (case hv => rfl)) | ((with_reducible apply wpl_loadA H); (case hs => exact ag _ _ rfl); (case hw => rfl); (case hx => rfl); (case hm => (repeat (first | with_reducible exact mH | with_reducible assumption | with_reducible apply mT))); (case hv => rfl); (case hl => rfl); (try simp only [List.drop_zero, List.drop_succ_cons, List.take_succ_cons, List.take_zero, List.take_nil])))
  exact HK.out _ H
set_option maxRecDepth 100000 in
set_option maxHeartbeats 1000000 in
theorem no_fillSum (H : Holds W L) (hm : blk g [x, y, .slice none 0 0, .slice none 0 0, .slice none 0 0, .slice none 0 0, .slice none 0 0, .slice none 0 0, .slice none 0 0, .slice none 0 0] 55 ∈ L) (k : ∀ w', Holds w' L → R (.returned (.tuple #[])) w') : Calls Tryd.prog 34 #[.pointer (some ⟨g, 0, none⟩)] W R := by
  have HK := Lib.hid k; clear k
  go_enter Tryd.func34, Tryd.ntmps34
  go_wp2_with (first | go_big_skip | ((with_reducible refine wpl_drew H ?_); clear H; (try clear W); intro W H) | ((with_reducible refine wpl_drewN H ?_); clear H; (try clear W); intro W H) | ((with_reducible apply wpl_load H); (case hs => exact sc _ rfl); (case hw => rfl); (case hx => rfl); (case hm => (repeat (first | with_reducible exact mH | with_reducible assumption | with_reducible apply mT))); (case hv => rfl)) | ((with_reducible apply wpl_loadA H); (case hs => exact ag _ _ rfl); (case hw => rfl); (case hx => rfl); (case hm => (repeat (first | with_reducible exact mH | with_reducible assumption | with_reducible apply mT))); (case hv => rfl); (case hl => rfl); (try simp only [List.drop_zero, List.drop_succ_cons, List.take_succ_cons, List.take_zero, List.take_nil])))
  refine wp_loop_rounds 1 ?_
  rw [rounds_succ]
  go_wp2_with (first | go_big_skip | ((with_reducible refine wpl_drew H ?_); clear H; (try clear W); intro W H) | ((with_reducible refine wpl_drewN H ?_); clear H; (try clear W); intro W H) | ((with_reducible apply wpl_load H); (case hs => exact sc _ rfl); (case hw => rfl); (case hx => rfl); (case hm => (repeat (first | with_reducible exact mH | with_reducible assumption | with_reducible apply mT))); (case hv => rfl)) | ((with_reducible apply wpl_loadA H); (case hs => exact ag _ _ rfl); (case hw => rfl); (case hx => rfl); (case hm => (repeat (first | with_reducible exact mH | with_reducible assumption | with_reducible apply mT))); (case hv => rfl); (case hl => rfl); (try simp only [List.drop_zero, List.drop_succ_cons, List.take_succ_cons, List.take_zero, List.take_nil])))
  go_end0
  exact HK.out _ H
set_option maxRecDepth 100000 in
set_option maxHeartbeats 1000000 in
theorem no_growSum (H : Holds W L) (hm : blk g [x, y, .slice none 0 0, .slice none 0 0, .slice none 0 0, .slice none 0 0, .slice none 0 0, .slice none 0 0, .slice none 0 0, .slice none 0 0] 55 ∈ L) (k : ∀ w', Holds w' L → R (.returned (.tuple #[])) w') : Calls Tryd.prog 43 #[.pointer (some ⟨g, 0, none⟩)] W R := by
  have HK := Lib.hid k; clear k
  go_enter Tryd.func43, Tryd.ntmps43
  go_wp2_with (first | go_big_skip | ((with_reducible refine wpl_drew H ?_); clear H; (try clear W); intro W H) | ((with_reducible refine wpl_drewN H ?_); clear H; (try clear W); intro W H) | ((with_reducible apply wpl_load H); (case hs => exact sc _ rfl); (case hw => rfl); (case hx => rfl); (case hm => (repeat (first | with_reducible exact mH | with_reducible assumption | with_reducible apply mT))); (case hv => rfl)) | ((with_reducible apply wpl_loadA H); (case hs => exact ag _ _ rfl); (case hw => rfl); (case hx => rfl); (case hm => (repeat (first | with_reducible exact mH | with_reducible assumption | with_reducible apply mT))); (case hv => rfl); (case hl => rfl); (try simp only [List.drop_zero, List.drop_succ_cons, List.take_succ_cons, List.take_zero, List.take_nil])))
  refine wp_loop_rounds 1 ?_
  rw [rounds_succ]
  go_wp2_with (first | go_big_skip | ((with_reducible refine wpl_drew H ?_); clear H; (try clear W); intro W H) | ((with_reducible refine wpl_drewN H ?_); clear H; (try clear W); intro W H) | ((with_reducible apply wpl_load H); (case hs => exact sc _ rfl); (case hw => rfl); (case hx => rfl); (case hm => (repeat (first | with_reducible exact mH | with_reducible assumption | with_reducible apply mT))); (case hv => rfl)) | ((with_reducible apply wpl_loadA H); (case hs => exact ag _ _ rfl); (case hw => rfl); (case hx => rfl); (case hm => (repeat (first | with_reducible exact mH | with_reducible assumption | with_reducible apply mT))); (case hv => rfl); (case hl => rfl); (try simp only [List.drop_zero, List.drop_succ_cons, List.take_succ_cons, List.take_zero, List.take_nil])))
  go_end0
  exact HK.out _ H
set_option maxRecDepth 100000 in
set_option maxHeartbeats 1000000 in
theorem no_lookSum (H : Holds W L) (hm : blk g [x, y, .slice none 0 0, .slice none 0 0, .slice none 0 0, .slice none 0 0, .slice none 0 0, .slice none 0 0, .slice none 0 0, .slice none 0 0] 55 ∈ L) (k : ∀ w', Holds w' L → R (.returned (.bool true)) w') : Calls Tryd.prog 52 #[.pointer (some ⟨g, 0, none⟩)] W R := by
  have HK := Lib.hid k; clear k
  go_enter Tryd.func52, Tryd.ntmps52
  go_wp2_with (first | go_big_skip | ((with_reducible refine wpl_drew H ?_); clear H; (try clear W); intro W H) | ((with_reducible refine wpl_drewN H ?_); clear H; (try clear W); intro W H) | ((with_reducible apply wpl_load H); (case hs => exact sc _ rfl); (case hw => rfl); (case hx => rfl); (case hm => (repeat (first | with_reducible exact mH | with_reducible assumption | with_reducible apply mT))); (case hv => rfl)) | ((with_reducible apply wpl_loadA H); (case hs => exact ag _ _ rfl); (case hw => rfl); (case hx => rfl); (case hm => (repeat (first | with_reducible exact mH | with_reducible assumption | with_reducible apply mT))); (case hv => rfl); (case hl => rfl); (try simp only [List.drop_zero, List.drop_succ_cons, List.take_succ_cons, List.take_zero, List.take_nil])))
  refine wp_loop_rounds 1 ?_
  rw [rounds_succ]
  go_wp2_with (first | go_big_skip | ((with_reducible refine wpl_drew H ?_); clear H; (try clear W); intro W H) | ((with_reducible refine wpl_drewN H ?_); clear H; (try clear W); intro W H) | ((with_reducible apply wpl_load H); (case hs => exact sc _ rfl); (case hw => rfl); (case hx => rfl); (case hm => (repeat (first | with_reducible exact mH | with_reducible assumption | with_reducible apply mT))); (case hv => rfl)) | ((with_reducible apply wpl_loadA H); (case hs => exact ag _ _ rfl); (case hw => rfl); (case hx => rfl); (case hm => (repeat (first | with_reducible exact mH | with_reducible assumption | with_reducible apply mT))); (case hv => rfl); (case hl => rfl); (try simp only [List.drop_zero, List.drop_succ_cons, List.take_succ_cons, List.take_zero, List.take_nil])))
  exact HK.out _ H
set_option maxRecDepth 100000 in
set_option maxHeartbeats 1000000 in
theorem no_fillPair (H : Holds W L) (hm : blk g [x, y, .slice none 0 0, .slice none 0 0, .slice none 0 0, .slice none 0 0, .slice none 0 0, .slice none 0 0, .slice none 0 0, .slice none 0 0] 55 ∈ L) (k : ∀ w', Holds w' L → R (.returned (.tuple #[])) w') : Calls Tryd.prog 35 #[.pointer (some ⟨g, 0, none⟩)] W R := by
  have HK := Lib.hid k; clear k
  go_enter Tryd.func35, Tryd.ntmps35
  go_wp2_with (first | go_big_skip | ((with_reducible refine wpl_drew H ?_); clear H; (try clear W); intro W H) | ((with_reducible refine wpl_drewN H ?_); clear H; (try clear W); intro W H) | ((with_reducible apply wpl_load H); (case hs => exact sc _ rfl); (case hw => rfl); (case hx => rfl); (case hm => (repeat (first | with_reducible exact mH | with_reducible assumption | with_reducible apply mT))); (case hv => rfl)) | ((with_reducible apply wpl_loadA H); (case hs => exact ag _ _ rfl); (case hw => rfl); (case hx => rfl); (case hm => (repeat (first | with_reducible exact mH | with_reducible assumption | with_reducible apply mT))); (case hv => rfl); (case hl => rfl); (try simp only [List.drop_zero, List.drop_succ_cons, List.take_succ_cons, List.take_zero, List.take_nil])))
  refine wp_loop_rounds 1 ?_
  rw [rounds_succ]
  go_wp2_with (first | go_big_skip | ((with_reducible refine wpl_drew H ?_); clear H; (try clear W); intro W H) | ((with_reducible refine wpl_drewN H ?_); clear H; (try clear W); intro W H) | ((with_reducible apply wpl_load H); (case hs => exact sc _ rfl); (case hw => rfl); (case hx => rfl); (case hm => (repeat (first | with_reducible exact mH | with_reducible assumption | with_reducible apply mT))); (case hv => rfl)) | ((with_reducible apply wpl_loadA H); (case hs => exact ag _ _ rfl); (case hw => rfl); (case hx => rfl); (case hm => (repeat (first | with_reducible exact mH | with_reducible assumption | with_reducible apply mT))); (case hv => rfl); (case hl => rfl); (try simp only [List.drop_zero, List.drop_succ_cons, List.take_succ_cons, List.take_zero, List.take_nil])))
  go_end0
  exact HK.out _ H
set_option maxRecDepth 100000 in
set_option maxHeartbeats 1000000 in
theorem no_growPair (H : Holds W L) (hm : blk g [x, y, .slice none 0 0, .slice none 0 0, .slice none 0 0, .slice none 0 0, .slice none 0 0, .slice none 0 0, .slice none 0 0, .slice none 0 0] 55 ∈ L) (k : ∀ w', Holds w' L → R (.returned (.tuple #[])) w') : Calls Tryd.prog 44 #[.pointer (some ⟨g, 0, none⟩)] W R := by
  have HK := Lib.hid k; clear k
  go_enter Tryd.func44, Tryd.ntmps44
  go_wp2_with (first | go_big_skip | ((with_reducible refine wpl_drew H ?_); clear H; (try clear W); intro W H) | ((with_reducible refine wpl_drewN H ?_); clear H; (try clear W); intro W H) | ((with_reducible apply wpl_load H); (case hs => exact sc _ rfl); (case hw => rfl); (case hx => rfl); (case hm => (repeat (first | with_reducible exact mH | with_reducible assumption | with_reducible apply mT))); (case hv => rfl)) | ((with_reducible apply wpl_loadA H); (case hs => exact ag _ _ rfl); (case hw => rfl); (case hx => rfl); (case hm => (repeat (first | with_reducible exact mH | with_reducible assumption | with_reducible apply mT))); (case hv => rfl); (case hl => rfl); (try simp only [List.drop_zero, List.drop_succ_cons, List.take_succ_cons, List.take_zero, List.take_nil])))
  refine wp_loop_rounds 1 ?_
  rw [rounds_succ]
  go_wp2_with (first | go_big_skip | ((with_reducible refine wpl_drew H ?_); clear H; (try clear W); intro W H) | ((with_reducible refine wpl_drewN H ?_); clear H; (try clear W); intro W H) | ((with_reducible apply wpl_load H); (case hs => exact sc _ rfl); (case hw => rfl); (case hx => rfl); (case hm => (repeat (first | with_reducible exact mH | with_reducible assumption | with_reducible apply mT))); (case hv => rfl)) | ((with_reducible apply wpl_loadA H); (case hs => exact ag _ _ rfl); (case hw => rfl); (case hx => rfl); (case hm => (repeat (first | with_reducible exact mH | with_reducible assumption | with_reducible apply mT))); (case hv => rfl); (case hl => rfl); (try simp only [List.drop_zero, List.drop_succ_cons, List.take_succ_cons, List.take_zero, List.take_nil])))
  go_end0
  exact HK.out _ H
set_option maxRecDepth 100000 in
set_option maxHeartbeats 1000000 in
theorem no_lookPair (H : Holds W L) (hm : blk g [x, y, .slice none 0 0, .slice none 0 0, .slice none 0 0, .slice none 0 0, .slice none 0 0, .slice none 0 0, .slice none 0 0, .slice none 0 0] 55 ∈ L) (k : ∀ w', Holds w' L → R (.returned (.bool true)) w') : Calls Tryd.prog 53 #[.pointer (some ⟨g, 0, none⟩)] W R := by
  have HK := Lib.hid k; clear k
  go_enter Tryd.func53, Tryd.ntmps53
  go_wp2_with (first | go_big_skip | ((with_reducible refine wpl_drew H ?_); clear H; (try clear W); intro W H) | ((with_reducible refine wpl_drewN H ?_); clear H; (try clear W); intro W H) | ((with_reducible apply wpl_load H); (case hs => exact sc _ rfl); (case hw => rfl); (case hx => rfl); (case hm => (repeat (first | with_reducible exact mH | with_reducible assumption | with_reducible apply mT))); (case hv => rfl)) | ((with_reducible apply wpl_loadA H); (case hs => exact ag _ _ rfl); (case hw => rfl); (case hx => rfl); (case hm => (repeat (first | with_reducible exact mH | with_reducible assumption | with_reducible apply mT))); (case hv => rfl); (case hl => rfl); (try simp only [List.drop_zero, List.drop_succ_cons, List.take_succ_cons, List.take_zero, List.take_nil])))
  refine wp_loop_rounds 1 ?_
  rw [rounds_succ]
  go_wp2_with (first | go_big_skip | ((with_reducible refine wpl_drew H ?_); clear H; (try clear W); intro W H) | ((with_reducible refine wpl_drewN H ?_); clear H; (try clear W); intro W H) | ((with_reducible apply wpl_load H); (case hs => exact sc _ rfl); (case hw => rfl); (case hx => rfl); (case hm => (repeat (first | with_reducible exact mH | with_reducible assumption | with_reducible apply mT))); (case hv => rfl)) | ((with_reducible apply wpl_loadA H); (case hs => exact ag _ _ rfl); (case hw => rfl); (case hx => rfl); (case hm => (repeat (first | with_reducible exact mH | with_reducible assumption | with_reducible apply mT))); (case hv => rfl); (case hl => rfl); (try simp only [List.drop_zero, List.drop_succ_cons, List.take_succ_cons, List.take_zero, List.take_nil])))
  exact HK.out _ H
set_option maxRecDepth 100000 in
set_option maxHeartbeats 1000000 in
theorem no_fillTenant (H : Holds W L) (hm : blk g [x, y, .slice none 0 0, .slice none 0 0, .slice none 0 0, .slice none 0 0, .slice none 0 0, .slice none 0 0, .slice none 0 0, .slice none 0 0] 55 ∈ L) (k : ∀ w', Holds w' L → R (.returned (.tuple #[])) w') : Calls Tryd.prog 36 #[.pointer (some ⟨g, 0, none⟩)] W R := by
  have HK := Lib.hid k; clear k
  go_enter Tryd.func36, Tryd.ntmps36
  go_wp2_with (first | go_big_skip | ((with_reducible refine wpl_drew H ?_); clear H; (try clear W); intro W H) | ((with_reducible refine wpl_drewN H ?_); clear H; (try clear W); intro W H) | ((with_reducible apply wpl_load H); (case hs => exact sc _ rfl); (case hw => rfl); (case hx => rfl); (case hm => (repeat (first | with_reducible exact mH | with_reducible assumption | with_reducible apply mT))); (case hv => rfl)) | ((with_reducible apply wpl_loadA H); (case hs => exact ag _ _ rfl); (case hw => rfl); (case hx => rfl); (case hm => (repeat (first | with_reducible exact mH | with_reducible assumption | with_reducible apply mT))); (case hv => rfl); (case hl => rfl); (try simp only [List.drop_zero, List.drop_succ_cons, List.take_succ_cons, List.take_zero, List.take_nil])))
  refine wp_loop_rounds 1 ?_
  rw [rounds_succ]
  go_wp2_with (first | go_big_skip | ((with_reducible refine wpl_drew H ?_); clear H; (try clear W); intro W H) | ((with_reducible refine wpl_drewN H ?_); clear H; (try clear W); intro W H) | ((with_reducible apply wpl_load H); (case hs => exact sc _ rfl); (case hw => rfl); (case hx => rfl); (case hm => (repeat (first | with_reducible exact mH | with_reducible assumption | with_reducible apply mT))); (case hv => rfl)) | ((with_reducible apply wpl_loadA H); (case hs => exact ag _ _ rfl); (case hw => rfl); (case hx => rfl); (case hm => (repeat (first | with_reducible exact mH | with_reducible assumption | with_reducible apply mT))); (case hv => rfl); (case hl => rfl); (try simp only [List.drop_zero, List.drop_succ_cons, List.take_succ_cons, List.take_zero, List.take_nil])))
  go_end0
  exact HK.out _ H
set_option maxRecDepth 100000 in
set_option maxHeartbeats 1000000 in
theorem no_growTenant (H : Holds W L) (hm : blk g [x, y, .slice none 0 0, .slice none 0 0, .slice none 0 0, .slice none 0 0, .slice none 0 0, .slice none 0 0, .slice none 0 0, .slice none 0 0] 55 ∈ L) (k : ∀ w', Holds w' L → R (.returned (.tuple #[])) w') : Calls Tryd.prog 45 #[.pointer (some ⟨g, 0, none⟩)] W R := by
  have HK := Lib.hid k; clear k
  go_enter Tryd.func45, Tryd.ntmps45
  go_wp2_with (first | go_big_skip | ((with_reducible refine wpl_drew H ?_); clear H; (try clear W); intro W H) | ((with_reducible refine wpl_drewN H ?_); clear H; (try clear W); intro W H) | ((with_reducible apply wpl_load H); (case hs => exact sc _ rfl); (case hw => rfl); (case hx => rfl); (case hm => (repeat (first | with_reducible exact mH | with_reducible assumption | with_reducible apply mT))); (case hv => rfl)) | ((with_reducible apply wpl_loadA H); (case hs => exact ag _ _ rfl); (case hw => rfl); (case hx => rfl); (case hm => (repeat (first | with_reducible exact mH | with_reducible assumption | with_reducible apply mT))); (case hv => rfl); (case hl => rfl); (try simp only [List.drop_zero, List.drop_succ_cons, List.take_succ_cons, List.take_zero, List.take_nil])))
  refine wp_loop_rounds 1 ?_
  rw [rounds_succ]
  go_wp2_with (first | go_big_skip | ((with_reducible refine wpl_drew H ?_); clear H; (try clear W); intro W H) | ((with_reducible refine wpl_drewN H ?_); clear H; (try clear W); intro W H) | ((with_reducible apply wpl_load H); (case hs => exact sc _ rfl); (case hw => rfl); (case hx => rfl); (case hm => (repeat (first | with_reducible exact mH | with_reducible assumption | with_reducible apply mT))); (case hv => rfl)) | ((with_reducible apply wpl_loadA H); (case hs => exact ag _ _ rfl); (case hw => rfl); (case hx => rfl); (case hm => (repeat (first | with_reducible exact mH | with_reducible assumption | with_reducible apply mT))); (case hv => rfl); (case hl => rfl); (try simp only [List.drop_zero, List.drop_succ_cons, List.take_succ_cons, List.take_zero, List.take_nil])))
  go_end0
  exact HK.out _ H
set_option maxRecDepth 100000 in
set_option maxHeartbeats 1000000 in
theorem no_lookTenant (H : Holds W L) (hm : blk g [x, y, .slice none 0 0, .slice none 0 0, .slice none 0 0, .slice none 0 0, .slice none 0 0, .slice none 0 0, .slice none 0 0, .slice none 0 0] 55 ∈ L) (k : ∀ w', Holds w' L → R (.returned (.bool true)) w') : Calls Tryd.prog 54 #[.pointer (some ⟨g, 0, none⟩)] W R := by
  have HK := Lib.hid k; clear k
  go_enter Tryd.func54, Tryd.ntmps54
  go_wp2_with (first | go_big_skip | ((with_reducible refine wpl_drew H ?_); clear H; (try clear W); intro W H) | ((with_reducible refine wpl_drewN H ?_); clear H; (try clear W); intro W H) | ((with_reducible apply wpl_load H); (case hs => exact sc _ rfl); (case hw => rfl); (case hx => rfl); (case hm => (repeat (first | with_reducible exact mH | with_reducible assumption | with_reducible apply mT))); (case hv => rfl)) | ((with_reducible apply wpl_loadA H); (case hs => exact ag _ _ rfl); (case hw => rfl); (case hx => rfl); (case hm => (repeat (first | with_reducible exact mH | with_reducible assumption | with_reducible apply mT))); (case hv => rfl); (case hl => rfl); (try simp only [List.drop_zero, List.drop_succ_cons, List.take_succ_cons, List.take_zero, List.take_nil])))
  refine wp_loop_rounds 1 ?_
  rw [rounds_succ]
  go_wp2_with (first | go_big_skip | ((with_reducible refine wpl_drew H ?_); clear H; (try clear W); intro W H) | ((with_reducible refine wpl_drewN H ?_); clear H; (try clear W); intro W H) | ((with_reducible apply wpl_load H); (case hs => exact sc _ rfl); (case hw => rfl); (case hx => rfl); (case hm => (repeat (first | with_reducible exact mH | with_reducible assumption | with_reducible apply mT))); (case hv => rfl)) | ((with_reducible apply wpl_loadA H); (case hs => exact ag _ _ rfl); (case hw => rfl); (case hx => rfl); (case hm => (repeat (first | with_reducible exact mH | with_reducible assumption | with_reducible apply mT))); (case hv => rfl); (case hl => rfl); (try simp only [List.drop_zero, List.drop_succ_cons, List.take_succ_cons, List.take_zero, List.take_nil])))
  exact HK.out _ H
set_option maxRecDepth 100000 in
set_option maxHeartbeats 1000000 in
theorem no_fillLease (H : Holds W L) (hm : blk g [x, y, .slice none 0 0, .slice none 0 0, .slice none 0 0, .slice none 0 0, .slice none 0 0, .slice none 0 0, .slice none 0 0, .slice none 0 0] 55 ∈ L) (k : ∀ w', Holds w' L → R (.returned (.tuple #[])) w') : Calls Tryd.prog 37 #[.pointer (some ⟨g, 0, none⟩)] W R := by
  have HK := Lib.hid k; clear k
  go_enter Tryd.func37, Tryd.ntmps37
  go_wp2_with (first | go_big_skip | ((with_reducible refine wpl_drew H ?_); clear H; (try clear W); intro W H) | ((with_reducible refine wpl_drewN H ?_); clear H; (try clear W); intro W H) | ((with_reducible apply wpl_load H); (case hs => exact sc _ rfl); (case hw => rfl); (case hx => rfl); (case hm => (repeat (first | with_reducible exact mH | with_reducible assumption | with_reducible apply mT))); (case hv => rfl)) | ((with_reducible apply wpl_loadA H); (case hs => exact ag _ _ rfl); (case hw => rfl); (case hx => rfl); (case hm => (repeat (first | with_reducible exact mH | with_reducible assumption | with_reducible apply mT))); (case hv => rfl); (case hl => rfl); (try simp only [List.drop_zero, List.drop_succ_cons, List.take_succ_cons, List.take_zero, List.take_nil])))
  refine wp_loop_rounds 1 ?_
  rw [rounds_succ]
  go_wp2_with (first | go_big_skip | ((with_reducible refine wpl_drew H ?_); clear H; (try clear W); intro W H) | ((with_reducible refine wpl_drewN H ?_); clear H; (try clear W); intro W H) | ((with_reducible apply wpl_load H); (case hs => exact sc _ rfl); (case hw => rfl); (case hx => rfl); (case hm => (repeat (first | with_reducible exact mH | with_reducible assumption | with_reducible apply mT))); (case hv => rfl)) | ((with_reducible apply wpl_loadA H); (case hs => exact ag _ _ rfl); (case hw => rfl); (case hx => rfl); (case hm => (repeat (first | with_reducible exact mH | with_reducible assumption | with_reducible apply mT))); (case hv => rfl); (case hl => rfl); (try simp only [List.drop_zero, List.drop_succ_cons, List.take_succ_cons, List.take_zero, List.take_nil])))
  go_end0
  exact HK.out _ H
set_option maxRecDepth 100000 in
set_option maxHeartbeats 1000000 in
theorem no_growLease (H : Holds W L) (hm : blk g [x, y, .slice none 0 0, .slice none 0 0, .slice none 0 0, .slice none 0 0, .slice none 0 0, .slice none 0 0, .slice none 0 0, .slice none 0 0] 55 ∈ L) (k : ∀ w', Holds w' L → R (.returned (.tuple #[])) w') : Calls Tryd.prog 46 #[.pointer (some ⟨g, 0, none⟩)] W R := by
  have HK := Lib.hid k; clear k
  go_enter Tryd.func46, Tryd.ntmps46
  go_wp2_with (first | go_big_skip | ((with_reducible refine wpl_drew H ?_); clear H; (try clear W); intro W H) | ((with_reducible refine wpl_drewN H ?_); clear H; (try clear W); intro W H) | ((with_reducible apply wpl_load H); (case hs => exact sc _ rfl); (case hw => rfl); (case hx => rfl); (case hm => (repeat (first | with_reducible exact mH | with_reducible assumption | with_reducible apply mT))); (case hv => rfl)) | ((with_reducible apply wpl_loadA H); (case hs => exact ag _ _ rfl); (case hw => rfl); (case hx => rfl); (case hm => (repeat (first | with_reducible exact mH | with_reducible assumption | with_reducible apply mT))); (case hv => rfl); (case hl => rfl); (try simp only [List.drop_zero, List.drop_succ_cons, List.take_succ_cons, List.take_zero, List.take_nil])))
  refine wp_loop_rounds 1 ?_
  rw [rounds_succ]
  go_wp2_with (first | go_big_skip | ((with_reducible refine wpl_drew H ?_); clear H; (try clear W); intro W H) | ((with_reducible refine wpl_drewN H ?_); clear H; (try clear W); intro W H) | ((with_reducible apply wpl_load H); (case hs => exact sc _ rfl); (case hw => rfl); (case hx => rfl); (case hm => (repeat (first | with_reducible exact mH | with_reducible assumption | with_reducible apply mT))); (case hv => rfl)) | ((with_reducible apply wpl_loadA H); (case hs => exact ag _ _ rfl); (case hw => rfl); (case hx => rfl); (case hm => (repeat (first | with_reducible exact mH | with_reducible assumption | with_reducible apply mT))); (case hv => rfl); (case hl => rfl); (try simp only [List.drop_zero, List.drop_succ_cons, List.take_succ_cons, List.take_zero, List.take_nil])))
  go_end0
  exact HK.out _ H
set_option maxRecDepth 100000 in
set_option maxHeartbeats 1000000 in
theorem no_lookLease (H : Holds W L) (hm : blk g [x, y, .slice none 0 0, .slice none 0 0, .slice none 0 0, .slice none 0 0, .slice none 0 0, .slice none 0 0, .slice none 0 0, .slice none 0 0] 55 ∈ L) (k : ∀ w', Holds w' L → R (.returned (.bool true)) w') : Calls Tryd.prog 55 #[.pointer (some ⟨g, 0, none⟩)] W R := by
  have HK := Lib.hid k; clear k
  go_enter Tryd.func55, Tryd.ntmps55
  go_wp2_with (first | go_big_skip | ((with_reducible refine wpl_drew H ?_); clear H; (try clear W); intro W H) | ((with_reducible refine wpl_drewN H ?_); clear H; (try clear W); intro W H) | ((with_reducible apply wpl_load H); (case hs => exact sc _ rfl); (case hw => rfl); (case hx => rfl); (case hm => (repeat (first | with_reducible exact mH | with_reducible assumption | with_reducible apply mT))); (case hv => rfl)) | ((with_reducible apply wpl_loadA H); (case hs => exact ag _ _ rfl); (case hw => rfl); (case hx => rfl); (case hm => (repeat (first | with_reducible exact mH | with_reducible assumption | with_reducible apply mT))); (case hv => rfl); (case hl => rfl); (try simp only [List.drop_zero, List.drop_succ_cons, List.take_succ_cons, List.take_zero, List.take_nil])))
  refine wp_loop_rounds 1 ?_
  rw [rounds_succ]
  go_wp2_with (first | go_big_skip | ((with_reducible refine wpl_drew H ?_); clear H; (try clear W); intro W H) | ((with_reducible refine wpl_drewN H ?_); clear H; (try clear W); intro W H) | ((with_reducible apply wpl_load H); (case hs => exact sc _ rfl); (case hw => rfl); (case hx => rfl); (case hm => (repeat (first | with_reducible exact mH | with_reducible assumption | with_reducible apply mT))); (case hv => rfl)) | ((with_reducible apply wpl_loadA H); (case hs => exact ag _ _ rfl); (case hw => rfl); (case hx => rfl); (case hm => (repeat (first | with_reducible exact mH | with_reducible assumption | with_reducible apply mT))); (case hv => rfl); (case hl => rfl); (try simp only [List.drop_zero, List.drop_succ_cons, List.take_succ_cons, List.take_zero, List.take_nil])))
  exact HK.out _ H
set_option maxRecDepth 100000 in
set_option maxHeartbeats 1000000 in
theorem no_fillEvent (H : Holds W L) (hm : blk g [x, y, .slice none 0 0, .slice none 0 0, .slice none 0 0, .slice none 0 0, .slice none 0 0, .slice none 0 0, .slice none 0 0, .slice none 0 0] 55 ∈ L) (k : ∀ w', Holds w' L → R (.returned (.tuple #[])) w') : Calls Tryd.prog 38 #[.pointer (some ⟨g, 0, none⟩)] W R := by
  have HK := Lib.hid k; clear k
  go_enter Tryd.func38, Tryd.ntmps38
  go_wp2_with (first | go_big_skip | ((with_reducible refine wpl_drew H ?_); clear H; (try clear W); intro W H) | ((with_reducible refine wpl_drewN H ?_); clear H; (try clear W); intro W H) | ((with_reducible apply wpl_load H); (case hs => exact sc _ rfl); (case hw => rfl); (case hx => rfl); (case hm => (repeat (first | with_reducible exact mH | with_reducible assumption | with_reducible apply mT))); (case hv => rfl)) | ((with_reducible apply wpl_loadA H); (case hs => exact ag _ _ rfl); (case hw => rfl); (case hx => rfl); (case hm => (repeat (first | with_reducible exact mH | with_reducible assumption | with_reducible apply mT))); (case hv => rfl); (case hl => rfl); (try simp only [List.drop_zero, List.drop_succ_cons, List.take_succ_cons, List.take_zero, List.take_nil])))
  refine wp_loop_rounds 1 ?_
  rw [rounds_succ]
  go_wp2_with (first | go_big_skip | ((with_reducible refine wpl_drew H ?_); clear H; (try clear W); intro W H) | ((with_reducible refine wpl_drewN H ?_); clear H; (try clear W); intro W H) | ((with_reducible apply wpl_load H); (case hs => exact sc _ rfl); (case hw => rfl); (case hx => rfl); (case hm => (repeat (first | with_reducible exact mH | with_reducible assumption | with_reducible apply mT))); (case hv => rfl)) | ((with_reducible apply wpl_loadA H); (case hs => exact ag _ _ rfl); (case hw => rfl); (case hx => rfl); (case hm => (repeat (first | with_reducible exact mH | with_reducible assumption | with_reducible apply mT))); (case hv => rfl); (case hl => rfl); (try simp only [List.drop_zero, List.drop_succ_cons, List.take_succ_cons, List.take_zero, List.take_nil])))
  go_end0
  exact HK.out _ H
set_option maxRecDepth 100000 in
set_option maxHeartbeats 1000000 in
theorem no_growEvent (H : Holds W L) (hm : blk g [x, y, .slice none 0 0, .slice none 0 0, .slice none 0 0, .slice none 0 0, .slice none 0 0, .slice none 0 0, .slice none 0 0, .slice none 0 0] 55 ∈ L) (k : ∀ w', Holds w' L → R (.returned (.tuple #[])) w') : Calls Tryd.prog 47 #[.pointer (some ⟨g, 0, none⟩)] W R := by
  have HK := Lib.hid k; clear k
  go_enter Tryd.func47, Tryd.ntmps47
  go_wp2_with (first | go_big_skip | ((with_reducible refine wpl_drew H ?_); clear H; (try clear W); intro W H) | ((with_reducible refine wpl_drewN H ?_); clear H; (try clear W); intro W H) | ((with_reducible apply wpl_load H); (case hs => exact sc _ rfl); (case hw => rfl); (case hx => rfl); (case hm => (repeat (first | with_reducible exact mH | with_reducible assumption | with_reducible apply mT))); (case hv => rfl)) | ((with_reducible apply wpl_loadA H); (case hs => exact ag _ _ rfl); (case hw => rfl); (case hx => rfl); (case hm => (repeat (first | with_reducible exact mH | with_reducible assumption | with_reducible apply mT))); (case hv => rfl); (case hl => rfl); (try simp only [List.drop_zero, List.drop_succ_cons, List.take_succ_cons, List.take_zero, List.take_nil])))
  refine wp_loop_rounds 1 ?_
  rw [rounds_succ]
  go_wp2_with (first | go_big_skip | ((with_reducible refine wpl_drew H ?_); clear H; (try clear W); intro W H) | ((with_reducible refine wpl_drewN H ?_); clear H; (try clear W); intro W H) | ((with_reducible apply wpl_load H); (case hs => exact sc _ rfl); (case hw => rfl); (case hx => rfl); (case hm => (repeat (first | with_reducible exact mH | with_reducible assumption | with_reducible apply mT))); (case hv => rfl)) | ((with_reducible apply wpl_loadA H); (case hs => exact ag _ _ rfl); (case hw => rfl); (case hx => rfl); (case hm => (repeat (first | with_reducible exact mH | with_reducible assumption | with_reducible apply mT))); (case hv => rfl); (case hl => rfl); (try simp only [List.drop_zero, List.drop_succ_cons, List.take_succ_cons, List.take_zero, List.take_nil])))
  go_end0
  exact HK.out _ H
set_option maxRecDepth 100000 in
set_option maxHeartbeats 1000000 in
theorem no_lookEvent (H : Holds W L) (hm : blk g [x, y, .slice none 0 0, .slice none 0 0, .slice none 0 0, .slice none 0 0, .slice none 0 0, .slice none 0 0, .slice none 0 0, .slice none 0 0] 55 ∈ L) (k : ∀ w', Holds w' L → R (.returned (.bool true)) w') : Calls Tryd.prog 56 #[.pointer (some ⟨g, 0, none⟩)] W R := by
  have HK := Lib.hid k; clear k
  go_enter Tryd.func56, Tryd.ntmps56
  go_wp2_with (first | go_big_skip | ((with_reducible refine wpl_drew H ?_); clear H; (try clear W); intro W H) | ((with_reducible refine wpl_drewN H ?_); clear H; (try clear W); intro W H) | ((with_reducible apply wpl_load H); (case hs => exact sc _ rfl); (case hw => rfl); (case hx => rfl); (case hm => (repeat (first | with_reducible exact mH | with_reducible assumption | with_reducible apply mT))); (case hv => rfl)) | ((with_reducible apply wpl_loadA H); (case hs => exact ag _ _ rfl); (case hw => rfl); (case hx => rfl); (case hm => (repeat (first | with_reducible exact mH | with_reducible assumption | with_reducible apply mT))); (case hv => rfl); (case hl => rfl); (try simp only [List.drop_zero, List.drop_succ_cons, List.take_succ_cons, List.take_zero, List.take_nil])))
  refine wp_loop_rounds 1 ?_
  rw [rounds_succ]
  go_wp2_with (first | go_big_skip | ((with_reducible refine wpl_drew H ?_); clear H; (try clear W); intro W H) | ((with_reducible refine wpl_drewN H ?_); clear H; (try clear W); intro W H) | ((with_reducible apply wpl_load H); (case hs => exact sc _ rfl); (case hw => rfl); (case hx => rfl); (case hm => (repeat (first | with_reducible exact mH | with_reducible assumption | with_reducible apply mT))); (case hv => rfl)) | ((with_reducible apply wpl_loadA H); (case hs => exact ag _ _ rfl); (case hw => rfl); (case hx => rfl); (case hm => (repeat (first | with_reducible exact mH | with_reducible assumption | with_reducible apply mT))); (case hv => rfl); (case hl => rfl); (try simp only [List.drop_zero, List.drop_succ_cons, List.take_succ_cons, List.take_zero, List.take_nil])))
  exact HK.out _ H
end
end Go.Proofs.YtnpcpmiomimphaaDoor
