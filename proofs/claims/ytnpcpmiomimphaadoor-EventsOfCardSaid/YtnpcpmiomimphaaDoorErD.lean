/-
  The reference of the events: Fits, may.
-/
import Derived.Test.YtnpcpmiomimphaaDoorErC
set_option linter.unusedVariables false
set_option linter.unusedSimpArgs false
namespace Go.Proofs.YtnpcpmiomimphaaDoor
open Go.RowKit

section
variable {W : World} {L L' L0 : List Ent} {R : Ending → World → Prop} {k : Nat} {i p a0 a1 a2 b0 b1 b2 n m : Int}
set_option maxRecDepth 100000 in
set_option maxHeartbeats 2000000 in
theorem rfits_over (hk : 0 < k ∧ k < 16) (hs : ¬ (Ask.mk k i p a0 a1 a2 b0 b1 b2 n m).small) (H : Holds W L) (k_ : ∀ w', Holds w' L → R (.returned (.bool false)) w') :
    Calls Tryd.prog 17 #[.agg #[.int .u8 k, .int .u32 i, .int .u32 p, .int .u64 a0, .int .u64 a1, .int .u64 a2, .int .u64 b0, .int .u64 b1, .int .u64 b2, .int .u64 n, .int .u64 m]] W R := by
  have HK := Lib.hid k_; clear k_
  have Hb := Lib.hid hs
  clear hs
  have c0 : decide ((k : Int) < 1) = false := decide_eq_false (by omega)
  have c1 : decide ((15 : Int) < (k : Int)) = false := decide_eq_false (by omega)
  go_enter Tryd.func17, Tryd.ntmps17
  go_wp2_with (first | go_big_skip | ((with_reducible refine wpl_absorb H ?_); clear H; (first  | generalize W.heap.size = q0); (try clear W); intro W H) | ((with_reducible refine wpl_drew H ?_); clear H; (try clear W); intro W H) | ((with_reducible refine wpl_drewN H ?_); clear H; (try clear W); intro W H) | ((with_reducible apply wpl_load H); (case hs => exact sc _ rfl); (case hw => rfl); (case hx => rfl); (case hm => (repeat (first | with_reducible exact mH | with_reducible assumption | with_reducible apply mT))); (case hv => rfl)) | ((with_reducible apply wpl_loadA H); (case hs => exact ag _ _ rfl); (case hw => rfl); (case hx => rfl); (case hm => (repeat (first | with_reducible exact mH | with_reducible assumption | with_reducible apply mT))); (case hv => rfl); (case hl => rfl); (try simp only [List.drop_zero, List.drop_succ_cons, List.take_succ_cons, List.take_zero, List.take_nil])))
  go_loopw [3] (fun s wr => ∃ j : Nat, j ≤ 3 ∧ s = .int .i64 j ∧ Hid ((0 < j → a0 ≤ 1099511627776 ∧ b0 ≤ 1099511627776) ∧ (1 < j → a1 ≤ 1099511627776 ∧ b1 ≤ 1099511627776) ∧ (2 < j → a2 ≤ 1099511627776 ∧ b2 ≤ 1099511627776)) ∧ Holds wr (blk q0 [.int .u8 k, .int .u32 i, .int .u32 p, .int .u64 a0, .int .u64 a1, .int .u64 a2, .int .u64 b0, .int .u64 b1, .int .u64 b2, .int .u64 n, .int .u64 m] 28 :: L)) (fun s _ => 3 - (intOf s).toNat)
  case atStart => exact ⟨0, by omega, rfl, Lib.hid ⟨fun h => by omega, fun h => by omega, fun h => by omega⟩, H⟩
  case round =>
    clear H
    obtain ⟨j, hj, rfl, ho, H⟩ := hrel
    rename World => W
    rcases (show j = 0 ∨ j = 1 ∨ j = 2 ∨ j = 3 by omega) with rfl | rfl | rfl | rfl
    case inl =>
      by_cases c : a0 ≤ 1099511627776
      · have t1 : decide (1099511627776 < a0) = false := decide_eq_false (by omega)
        by_cases d : b0 ≤ 1099511627776
        · have t2 : decide (1099511627776 < b0) = false := decide_eq_false (by omega)
          go_wp2_with (first | go_big_skip | ((with_reducible refine wpl_drew H ?_); clear H; (try clear W); intro W H) | ((with_reducible refine wpl_drewN H ?_); clear H; (try clear W); intro W H) | ((with_reducible apply wpl_load H); (case hs => exact sc _ rfl); (case hw => rfl); (case hx => rfl); (case hm => (repeat (first | with_reducible exact mH | with_reducible assumption | with_reducible apply mT))); (case hv => rfl)) | ((with_reducible apply wpl_loadA H); (case hs => exact ag _ _ rfl); (case hw => rfl); (case hx => rfl); (case hm => (repeat (first | with_reducible exact mH | with_reducible assumption | with_reducible apply mT))); (case hv => rfl); (case hl => rfl); (try simp only [List.drop_zero, List.drop_succ_cons, List.take_succ_cons, List.take_zero, List.take_nil])))
          exact ⟨⟨1, by omega, rfl, Lib.hid ⟨fun _ => ⟨c, d⟩, fun h => by omega, fun h => by omega⟩, H⟩, by simp [intOf]⟩
        · have t2 : decide (1099511627776 < b0) = true := decide_eq_true (by omega)
          go_wp2_with (first | go_big_skip | ((with_reducible refine wpl_drew H ?_); clear H; (try clear W); intro W H) | ((with_reducible refine wpl_drewN H ?_); clear H; (try clear W); intro W H) | ((with_reducible apply wpl_load H); (case hs => exact sc _ rfl); (case hw => rfl); (case hx => rfl); (case hm => (repeat (first | with_reducible exact mH | with_reducible assumption | with_reducible apply mT))); (case hv => rfl)) | ((with_reducible apply wpl_loadA H); (case hs => exact ag _ _ rfl); (case hw => rfl); (case hx => rfl); (case hm => (repeat (first | with_reducible exact mH | with_reducible assumption | with_reducible apply mT))); (case hv => rfl); (case hl => rfl); (try simp only [List.drop_zero, List.drop_succ_cons, List.take_succ_cons, List.take_zero, List.take_nil])))
          exact HK.out _ H.tail
      · have t1 : decide (1099511627776 < a0) = true := decide_eq_true (by omega)
        go_wp2_with (first | go_big_skip | ((with_reducible refine wpl_drew H ?_); clear H; (try clear W); intro W H) | ((with_reducible refine wpl_drewN H ?_); clear H; (try clear W); intro W H) | ((with_reducible apply wpl_load H); (case hs => exact sc _ rfl); (case hw => rfl); (case hx => rfl); (case hm => (repeat (first | with_reducible exact mH | with_reducible assumption | with_reducible apply mT))); (case hv => rfl)) | ((with_reducible apply wpl_loadA H); (case hs => exact ag _ _ rfl); (case hw => rfl); (case hx => rfl); (case hm => (repeat (first | with_reducible exact mH | with_reducible assumption | with_reducible apply mT))); (case hv => rfl); (case hl => rfl); (try simp only [List.drop_zero, List.drop_succ_cons, List.take_succ_cons, List.take_zero, List.take_nil])))
        exact HK.out _ H.tail
    case inr.inl =>
      by_cases c : a1 ≤ 1099511627776
      · have t1 : decide (1099511627776 < a1) = false := decide_eq_false (by omega)
        by_cases d : b1 ≤ 1099511627776
        · have t2 : decide (1099511627776 < b1) = false := decide_eq_false (by omega)
          go_wp2_with (first | go_big_skip | ((with_reducible refine wpl_drew H ?_); clear H; (try clear W); intro W H) | ((with_reducible refine wpl_drewN H ?_); clear H; (try clear W); intro W H) | ((with_reducible apply wpl_load H); (case hs => exact sc _ rfl); (case hw => rfl); (case hx => rfl); (case hm => (repeat (first | with_reducible exact mH | with_reducible assumption | with_reducible apply mT))); (case hv => rfl)) | ((with_reducible apply wpl_loadA H); (case hs => exact ag _ _ rfl); (case hw => rfl); (case hx => rfl); (case hm => (repeat (first | with_reducible exact mH | with_reducible assumption | with_reducible apply mT))); (case hv => rfl); (case hl => rfl); (try simp only [List.drop_zero, List.drop_succ_cons, List.take_succ_cons, List.take_zero, List.take_nil])))
          exact ⟨⟨2, by omega, rfl, Lib.hid ⟨fun _ => ho.out.1 (by omega), fun _ => ⟨c, d⟩, fun h => by omega⟩, H⟩, by simp [intOf]⟩
        · have t2 : decide (1099511627776 < b1) = true := decide_eq_true (by omega)
          go_wp2_with (first | go_big_skip | ((with_reducible refine wpl_drew H ?_); clear H; (try clear W); intro W H) | ((with_reducible refine wpl_drewN H ?_); clear H; (try clear W); intro W H) | ((with_reducible apply wpl_load H); (case hs => exact sc _ rfl); (case hw => rfl); (case hx => rfl); (case hm => (repeat (first | with_reducible exact mH | with_reducible assumption | with_reducible apply mT))); (case hv => rfl)) | ((with_reducible apply wpl_loadA H); (case hs => exact ag _ _ rfl); (case hw => rfl); (case hx => rfl); (case hm => (repeat (first | with_reducible exact mH | with_reducible assumption | with_reducible apply mT))); (case hv => rfl); (case hl => rfl); (try simp only [List.drop_zero, List.drop_succ_cons, List.take_succ_cons, List.take_zero, List.take_nil])))
          exact HK.out _ H.tail
      · have t1 : decide (1099511627776 < a1) = true := decide_eq_true (by omega)
        go_wp2_with (first | go_big_skip | ((with_reducible refine wpl_drew H ?_); clear H; (try clear W); intro W H) | ((with_reducible refine wpl_drewN H ?_); clear H; (try clear W); intro W H) | ((with_reducible apply wpl_load H); (case hs => exact sc _ rfl); (case hw => rfl); (case hx => rfl); (case hm => (repeat (first | with_reducible exact mH | with_reducible assumption | with_reducible apply mT))); (case hv => rfl)) | ((with_reducible apply wpl_loadA H); (case hs => exact ag _ _ rfl); (case hw => rfl); (case hx => rfl); (case hm => (repeat (first | with_reducible exact mH | with_reducible assumption | with_reducible apply mT))); (case hv => rfl); (case hl => rfl); (try simp only [List.drop_zero, List.drop_succ_cons, List.take_succ_cons, List.take_zero, List.take_nil])))
        exact HK.out _ H.tail
    case inr.inr.inl =>
      by_cases c : a2 ≤ 1099511627776
      · have t1 : decide (1099511627776 < a2) = false := decide_eq_false (by omega)
        by_cases d : b2 ≤ 1099511627776
        · exact absurd ⟨(ho.out.1 (by omega)).1, (ho.out.2.1 (by omega)).1, c, (ho.out.1 (by omega)).2, (ho.out.2.1 (by omega)).2, d⟩ Hb.out
        · have t2 : decide (1099511627776 < b2) = true := decide_eq_true (by omega)
          go_wp2_with (first | go_big_skip | ((with_reducible refine wpl_drew H ?_); clear H; (try clear W); intro W H) | ((with_reducible refine wpl_drewN H ?_); clear H; (try clear W); intro W H) | ((with_reducible apply wpl_load H); (case hs => exact sc _ rfl); (case hw => rfl); (case hx => rfl); (case hm => (repeat (first | with_reducible exact mH | with_reducible assumption | with_reducible apply mT))); (case hv => rfl)) | ((with_reducible apply wpl_loadA H); (case hs => exact ag _ _ rfl); (case hw => rfl); (case hx => rfl); (case hm => (repeat (first | with_reducible exact mH | with_reducible assumption | with_reducible apply mT))); (case hv => rfl); (case hl => rfl); (try simp only [List.drop_zero, List.drop_succ_cons, List.take_succ_cons, List.take_zero, List.take_nil])))
          exact HK.out _ H.tail
      · have t1 : decide (1099511627776 < a2) = true := decide_eq_true (by omega)
        go_wp2_with (first | go_big_skip | ((with_reducible refine wpl_drew H ?_); clear H; (try clear W); intro W H) | ((with_reducible refine wpl_drewN H ?_); clear H; (try clear W); intro W H) | ((with_reducible apply wpl_load H); (case hs => exact sc _ rfl); (case hw => rfl); (case hx => rfl); (case hm => (repeat (first | with_reducible exact mH | with_reducible assumption | with_reducible apply mT))); (case hv => rfl)) | ((with_reducible apply wpl_loadA H); (case hs => exact ag _ _ rfl); (case hw => rfl); (case hx => rfl); (case hm => (repeat (first | with_reducible exact mH | with_reducible assumption | with_reducible apply mT))); (case hv => rfl); (case hl => rfl); (try simp only [List.drop_zero, List.drop_succ_cons, List.take_succ_cons, List.take_zero, List.take_nil])))
        exact HK.out _ H.tail
    case inr.inr.inr =>
      exact absurd ⟨(ho.out.1 (by omega)).1, (ho.out.2.1 (by omega)).1, (ho.out.2.2 (by omega)).1, (ho.out.1 (by omega)).2, (ho.out.2.1 (by omega)).2, (ho.out.2.2 (by omega)).2⟩ Hb.out
set_option maxRecDepth 100000 in
set_option maxHeartbeats 2000000 in
theorem rfits_bad (hk : k = 0 ∨ 16 ≤ k) (H : Holds W L) (k_ : ∀ w', Holds w' L → R (.returned (.bool false)) w') :
    Calls Tryd.prog 17 #[.agg #[.int .u8 k, .int .u32 i, .int .u32 p, .int .u64 a0, .int .u64 a1, .int .u64 a2, .int .u64 b0, .int .u64 b1, .int .u64 b2, .int .u64 n, .int .u64 m]] W R := by
  have HK := Lib.hid k_; clear k_
  by_cases h0 : k = 0
  · have c0 : decide ((k : Int) < 1) = true := decide_eq_true (by omega)
    go_enter Tryd.func17, Tryd.ntmps17
    go_wp2_with (first | go_big_skip | ((with_reducible refine wpl_absorb H ?_); clear H; (first  | generalize W.heap.size = q0); (try clear W); intro W H) | ((with_reducible refine wpl_drew H ?_); clear H; (try clear W); intro W H) | ((with_reducible refine wpl_drewN H ?_); clear H; (try clear W); intro W H) | ((with_reducible apply wpl_load H); (case hs => exact sc _ rfl); (case hw => rfl); (case hx => rfl); (case hm => (repeat (first | with_reducible exact mH | with_reducible assumption | with_reducible apply mT))); (case hv => rfl)) | ((with_reducible apply wpl_loadA H); (case hs => exact ag _ _ rfl); (case hw => rfl); (case hx => rfl); (case hm => (repeat (first | with_reducible exact mH | with_reducible assumption | with_reducible apply mT))); (case hv => rfl); (case hl => rfl); (try simp only [List.drop_zero, List.drop_succ_cons, List.take_succ_cons, List.take_zero, List.take_nil])))
    exact HK.out _ H.tail
  · have c0 : decide ((k : Int) < 1) = false := decide_eq_false (by omega)
    have c1 : decide ((15 : Int) < (k : Int)) = true := decide_eq_true (by omega)
    go_enter Tryd.func17, Tryd.ntmps17
    go_wp2_with (first | go_big_skip | ((with_reducible refine wpl_absorb H ?_); clear H; (first  | generalize W.heap.size = q0); (try clear W); intro W H) | ((with_reducible refine wpl_drew H ?_); clear H; (try clear W); intro W H) | ((with_reducible refine wpl_drewN H ?_); clear H; (try clear W); intro W H) | ((with_reducible apply wpl_load H); (case hs => exact sc _ rfl); (case hw => rfl); (case hx => rfl); (case hm => (repeat (first | with_reducible exact mH | with_reducible assumption | with_reducible apply mT))); (case hv => rfl)) | ((with_reducible apply wpl_loadA H); (case hs => exact ag _ _ rfl); (case hw => rfl); (case hx => rfl); (case hm => (repeat (first | with_reducible exact mH | with_reducible assumption | with_reducible apply mT))); (case hv => rfl); (case hl => rfl); (try simp only [List.drop_zero, List.drop_succ_cons, List.take_succ_cons, List.take_zero, List.take_nil])))
    exact HK.out _ H.tail
theorem rfits_k {fv : Bool} (hx : (Ask.mk k i p a0 a1 a2 b0 b1 b2 n m).Wf ∧ (Ask.mk k i p a0 a1 a2 b0 b1 b2 n m).fits = fv) (H : Holds W L) (k_ : ∀ w', Holds w' L → R (.returned (.bool fv)) w') :
    Calls Tryd.prog 17 #[.agg #[.int .u8 k, .int .u32 i, .int .u32 p, .int .u64 a0, .int .u64 a1, .int .u64 a2, .int .u64 b0, .int .u64 b1, .int .u64 b2, .int .u64 n, .int .u64 m]] W R := by
  obtain ⟨hx, rfl⟩ := hx
  by_cases hk : 0 < k ∧ k < 16
  · by_cases hs : (Ask.mk k i p a0 a1 a2 b0 b1 b2 n m).small
    · exact rfits_small hx hk hs H k_
    · rw [fits_no_small hs] at k_
      exact rfits_over hk hs H k_
  · rw [fits_no_kind hk] at k_
    exact rfits_bad (by omega) H k_
theorem over_tab : ∀ k : Fin 16, (bits .and .i64 (need k.val) 64 != 0) = (k.val == 1 || (k.val == 2 || (k.val == 4 || k.val == 5))) := by decide +kernel
set_option maxRecDepth 100000 in
set_option maxHeartbeats 4000000 in
theorem rmay_k {e : Int} {fv : Bool} (hx : (Ask.mk k i p a0 a1 a2 b0 b1 b2 n m).Wf ∧ (Ask.mk k i p a0 a1 a2 b0 b1 b2 n m).may e = fv) (H : Holds W L) (k_ : ∀ w', Holds w' L → R (.returned (.bool fv)) w') :
    Calls Tryd.prog 24 #[.agg #[.int .u8 k, .int .u32 i, .int .u32 p, .int .u64 a0, .int .u64 a1, .int .u64 a2, .int .u64 b0, .int .u64 b1, .int .u64 b2, .int .u64 n, .int .u64 m, .int .i64 e]] W R := by
  obtain ⟨hx, rfl⟩ := hx
  cases hf : (Ask.mk k i p a0 a1 a2 b0 b1 b2 n m).fits with
  | false =>
    have Hf := Lib.hid (And.intro hx hf)
    rw [show (Ask.mk k i p a0 a1 a2 b0 b1 b2 n m).may e = false by unfold Ask.may; rw [hf]; rfl] at k_
    have HK := Lib.hid k_; clear k_
    clear hf hx
    go_enter Tryd.func24, Tryd.ntmps24
    go_wp2_with (first | go_big_skip | ((with_reducible refine wpl_absorb H ?_); clear H; (first  | generalize W.heap.size = q0); (try clear W); intro W H) | ((with_reducible refine wpl_drew H ?_); clear H; (try clear W); intro W H) | ((with_reducible refine wpl_drewN H ?_); clear H; (try clear W); intro W H) | ((with_reducible apply wpl_load H); (case hs => exact sc _ rfl); (case hw => rfl); (case hx => rfl); (case hm => (repeat (first | with_reducible exact mH | with_reducible assumption | with_reducible apply mT))); (case hv => rfl)) | ((with_reducible apply wpl_loadA H); (case hs => exact ag _ _ rfl); (case hw => rfl); (case hx => rfl); (case hm => (repeat (first | with_reducible exact mH | with_reducible assumption | with_reducible apply mT))); (case hv => rfl); (case hl => rfl); (try simp only [List.drop_zero, List.drop_succ_cons, List.take_succ_cons, List.take_zero, List.take_nil])) | ((with_reducible apply rfits_k); (case hx => exact Hf.out); (case H => exact H); clear H; (try clear W); intro W H))
    exact HK.out _ H.tail
  | true =>
    have Hf := Lib.hid (And.intro hx hf)
    have hk16 : 0 < k ∧ k < 16 := by
      simp only [Ask.fits, Bool.and_eq_true, decide_eq_true_eq] at hf; exact hf.1.1
    have ho := over_tab ⟨k, hk16.2⟩
    simp only at ho
    rw [show (Ask.mk k i p a0 a1 a2 b0 b1 b2 n m).may e = (decide (k ≤ 9) && (decide (n ≤ 1099511627776) && (e == 0 || (e == 10 && (k == 1 || (k == 2 || (k == 4 || k == 5))))))) by unfold Ask.may; rw [hf, ho]; rfl] at k_
    clear hf ho hx
    by_cases h9 : k ≤ 9
    · have c1 : decide ((9 : Int) < (k : Int)) = false := decide_eq_false (by omega)
      by_cases hn : n ≤ 1099511627776
      · have c2 : decide (1099511627776 < n) = false := decide_eq_false (by omega)
        rw [decide_eq_true h9, decide_eq_true hn, Bool.true_and, Bool.true_and] at k_
        cases e0 : (e == 0) with
        | true =>
          rw [e0, Bool.true_or] at k_
          have HK := Lib.hid k_; clear k_
          go_enter Tryd.func24, Tryd.ntmps24
          go_wp2_with (first | go_big_skip | ((with_reducible refine wpl_absorb H ?_); clear H; (first  | generalize W.heap.size = q0); (try clear W); intro W H) | ((with_reducible refine wpl_drew H ?_); clear H; (try clear W); intro W H) | ((with_reducible refine wpl_drewN H ?_); clear H; (try clear W); intro W H) | ((with_reducible apply wpl_load H); (case hs => exact sc _ rfl); (case hw => rfl); (case hx => rfl); (case hm => (repeat (first | with_reducible exact mH | with_reducible assumption | with_reducible apply mT))); (case hv => rfl)) | ((with_reducible apply wpl_loadA H); (case hs => exact ag _ _ rfl); (case hw => rfl); (case hx => rfl); (case hm => (repeat (first | with_reducible exact mH | with_reducible assumption | with_reducible apply mT))); (case hv => rfl); (case hl => rfl); (try simp only [List.drop_zero, List.drop_succ_cons, List.take_succ_cons, List.take_zero, List.take_nil])) | ((with_reducible apply rfits_k); (case hx => exact Hf.out); (case H => exact H); clear H; (try clear W); intro W H))
          exact HK.out _ H.tail
        | false =>
          rw [e0, Bool.false_or] at k_
          cases e1 : (e == 10) with
          | false =>
            rw [e1, Bool.false_and] at k_
            have HK := Lib.hid k_; clear k_
            go_enter Tryd.func24, Tryd.ntmps24
            go_wp2_with (first | go_big_skip | ((with_reducible refine wpl_absorb H ?_); clear H; (first  | generalize W.heap.size = q0); (try clear W); intro W H) | ((with_reducible refine wpl_drew H ?_); clear H; (try clear W); intro W H) | ((with_reducible refine wpl_drewN H ?_); clear H; (try clear W); intro W H) | ((with_reducible apply wpl_load H); (case hs => exact sc _ rfl); (case hw => rfl); (case hx => rfl); (case hm => (repeat (first | with_reducible exact mH | with_reducible assumption | with_reducible apply mT))); (case hv => rfl)) | ((with_reducible apply wpl_loadA H); (case hs => exact ag _ _ rfl); (case hw => rfl); (case hx => rfl); (case hm => (repeat (first | with_reducible exact mH | with_reducible assumption | with_reducible apply mT))); (case hv => rfl); (case hl => rfl); (try simp only [List.drop_zero, List.drop_succ_cons, List.take_succ_cons, List.take_zero, List.take_nil])) | ((with_reducible apply rfits_k); (case hx => exact Hf.out); (case H => exact H); clear H; (try clear W); intro W H))
            exact HK.out _ H.tail
          | true =>
            rw [e1, Bool.true_and] at k_
            have hq1 : ((k : Int) == 1) = (k == 1) := by rw [Bool.eq_iff_iff, beq_iff_eq, beq_iff_eq]; omega
            have hq2 : ((k : Int) == 2) = (k == 2) := by rw [Bool.eq_iff_iff, beq_iff_eq, beq_iff_eq]; omega
            have hq4 : ((k : Int) == 4) = (k == 4) := by rw [Bool.eq_iff_iff, beq_iff_eq, beq_iff_eq]; omega
            have hq5 : ((k : Int) == 5) = (k == 5) := by rw [Bool.eq_iff_iff, beq_iff_eq, beq_iff_eq]; omega
            rw [← hq1, ← hq2, ← hq4, ← hq5] at k_
            clear hq1 hq2 hq4 hq5
            cases z1 : ((k : Int) == 1) with
            | true =>
              rw [z1, Bool.true_or] at k_
              have HK := Lib.hid k_; clear k_
              go_enter Tryd.func24, Tryd.ntmps24
              go_wp2_with (first | go_big_skip | ((with_reducible refine wpl_absorb H ?_); clear H; (first  | generalize W.heap.size = q0); (try clear W); intro W H) | ((with_reducible refine wpl_drew H ?_); clear H; (try clear W); intro W H) | ((with_reducible refine wpl_drewN H ?_); clear H; (try clear W); intro W H) | ((with_reducible apply wpl_load H); (case hs => exact sc _ rfl); (case hw => rfl); (case hx => rfl); (case hm => (repeat (first | with_reducible exact mH | with_reducible assumption | with_reducible apply mT))); (case hv => rfl)) | ((with_reducible apply wpl_loadA H); (case hs => exact ag _ _ rfl); (case hw => rfl); (case hx => rfl); (case hm => (repeat (first | with_reducible exact mH | with_reducible assumption | with_reducible apply mT))); (case hv => rfl); (case hl => rfl); (try simp only [List.drop_zero, List.drop_succ_cons, List.take_succ_cons, List.take_zero, List.take_nil])) | ((with_reducible apply rfits_k); (case hx => exact Hf.out); (case H => exact H); clear H; (try clear W); intro W H))
              exact HK.out _ H.tail
            | false =>
              rw [z1, Bool.false_or] at k_
              cases z2 : ((k : Int) == 2) with
              | true =>
                rw [z2, Bool.true_or] at k_
                have HK := Lib.hid k_; clear k_
                go_enter Tryd.func24, Tryd.ntmps24
                go_wp2_with (first | go_big_skip | ((with_reducible refine wpl_absorb H ?_); clear H; (first  | generalize W.heap.size = q0); (try clear W); intro W H) | ((with_reducible refine wpl_drew H ?_); clear H; (try clear W); intro W H) | ((with_reducible refine wpl_drewN H ?_); clear H; (try clear W); intro W H) | ((with_reducible apply wpl_load H); (case hs => exact sc _ rfl); (case hw => rfl); (case hx => rfl); (case hm => (repeat (first | with_reducible exact mH | with_reducible assumption | with_reducible apply mT))); (case hv => rfl)) | ((with_reducible apply wpl_loadA H); (case hs => exact ag _ _ rfl); (case hw => rfl); (case hx => rfl); (case hm => (repeat (first | with_reducible exact mH | with_reducible assumption | with_reducible apply mT))); (case hv => rfl); (case hl => rfl); (try simp only [List.drop_zero, List.drop_succ_cons, List.take_succ_cons, List.take_zero, List.take_nil])) | ((with_reducible apply rfits_k); (case hx => exact Hf.out); (case H => exact H); clear H; (try clear W); intro W H))
                exact HK.out _ H.tail
              | false =>
                rw [z2, Bool.false_or] at k_
                cases z4 : ((k : Int) == 4) with
                | true =>
                  rw [z4, Bool.true_or] at k_
                  have HK := Lib.hid k_; clear k_
                  go_enter Tryd.func24, Tryd.ntmps24
                  go_wp2_with (first | go_big_skip | ((with_reducible refine wpl_absorb H ?_); clear H; (first  | generalize W.heap.size = q0); (try clear W); intro W H) | ((with_reducible refine wpl_drew H ?_); clear H; (try clear W); intro W H) | ((with_reducible refine wpl_drewN H ?_); clear H; (try clear W); intro W H) | ((with_reducible apply wpl_load H); (case hs => exact sc _ rfl); (case hw => rfl); (case hx => rfl); (case hm => (repeat (first | with_reducible exact mH | with_reducible assumption | with_reducible apply mT))); (case hv => rfl)) | ((with_reducible apply wpl_loadA H); (case hs => exact ag _ _ rfl); (case hw => rfl); (case hx => rfl); (case hm => (repeat (first | with_reducible exact mH | with_reducible assumption | with_reducible apply mT))); (case hv => rfl); (case hl => rfl); (try simp only [List.drop_zero, List.drop_succ_cons, List.take_succ_cons, List.take_zero, List.take_nil])) | ((with_reducible apply rfits_k); (case hx => exact Hf.out); (case H => exact H); clear H; (try clear W); intro W H))
                  exact HK.out _ H.tail
                | false =>
                  rw [z4, Bool.false_or] at k_
                  cases z5 : ((k : Int) == 5) with
                  | true =>
                    rw [z5] at k_
                    have HK := Lib.hid k_; clear k_
                    go_enter Tryd.func24, Tryd.ntmps24
                    go_wp2_with (first | go_big_skip | ((with_reducible refine wpl_absorb H ?_); clear H; (first  | generalize W.heap.size = q0); (try clear W); intro W H) | ((with_reducible refine wpl_drew H ?_); clear H; (try clear W); intro W H) | ((with_reducible refine wpl_drewN H ?_); clear H; (try clear W); intro W H) | ((with_reducible apply wpl_load H); (case hs => exact sc _ rfl); (case hw => rfl); (case hx => rfl); (case hm => (repeat (first | with_reducible exact mH | with_reducible assumption | with_reducible apply mT))); (case hv => rfl)) | ((with_reducible apply wpl_loadA H); (case hs => exact ag _ _ rfl); (case hw => rfl); (case hx => rfl); (case hm => (repeat (first | with_reducible exact mH | with_reducible assumption | with_reducible apply mT))); (case hv => rfl); (case hl => rfl); (try simp only [List.drop_zero, List.drop_succ_cons, List.take_succ_cons, List.take_zero, List.take_nil])) | ((with_reducible apply rfits_k); (case hx => exact Hf.out); (case H => exact H); clear H; (try clear W); intro W H))
                    exact HK.out _ H.tail
                  | false =>
                    rw [z5] at k_
                    have HK := Lib.hid k_; clear k_
                    go_enter Tryd.func24, Tryd.ntmps24
                    go_wp2_with (first | go_big_skip | ((with_reducible refine wpl_absorb H ?_); clear H; (first  | generalize W.heap.size = q0); (try clear W); intro W H) | ((with_reducible refine wpl_drew H ?_); clear H; (try clear W); intro W H) | ((with_reducible refine wpl_drewN H ?_); clear H; (try clear W); intro W H) | ((with_reducible apply wpl_load H); (case hs => exact sc _ rfl); (case hw => rfl); (case hx => rfl); (case hm => (repeat (first | with_reducible exact mH | with_reducible assumption | with_reducible apply mT))); (case hv => rfl)) | ((with_reducible apply wpl_loadA H); (case hs => exact ag _ _ rfl); (case hw => rfl); (case hx => rfl); (case hm => (repeat (first | with_reducible exact mH | with_reducible assumption | with_reducible apply mT))); (case hv => rfl); (case hl => rfl); (try simp only [List.drop_zero, List.drop_succ_cons, List.take_succ_cons, List.take_zero, List.take_nil])) | ((with_reducible apply rfits_k); (case hx => exact Hf.out); (case H => exact H); clear H; (try clear W); intro W H))
                    exact HK.out _ H.tail
      · have c2 : decide (1099511627776 < n) = true := decide_eq_true (by omega)
        rw [decide_eq_false hn, Bool.false_and, Bool.and_false] at k_
        have HK := Lib.hid k_; clear k_
        go_enter Tryd.func24, Tryd.ntmps24
        go_wp2_with (first | go_big_skip | ((with_reducible refine wpl_absorb H ?_); clear H; (first  | generalize W.heap.size = q0); (try clear W); intro W H) | ((with_reducible refine wpl_drew H ?_); clear H; (try clear W); intro W H) | ((with_reducible refine wpl_drewN H ?_); clear H; (try clear W); intro W H) | ((with_reducible apply wpl_load H); (case hs => exact sc _ rfl); (case hw => rfl); (case hx => rfl); (case hm => (repeat (first | with_reducible exact mH | with_reducible assumption | with_reducible apply mT))); (case hv => rfl)) | ((with_reducible apply wpl_loadA H); (case hs => exact ag _ _ rfl); (case hw => rfl); (case hx => rfl); (case hm => (repeat (first | with_reducible exact mH | with_reducible assumption | with_reducible apply mT))); (case hv => rfl); (case hl => rfl); (try simp only [List.drop_zero, List.drop_succ_cons, List.take_succ_cons, List.take_zero, List.take_nil])) | ((with_reducible apply rfits_k); (case hx => exact Hf.out); (case H => exact H); clear H; (try clear W); intro W H))
        exact HK.out _ H.tail
    · have c1 : decide ((9 : Int) < (k : Int)) = true := decide_eq_true (by omega)
      rw [decide_eq_false h9, Bool.false_and] at k_
      have HK := Lib.hid k_; clear k_
      go_enter Tryd.func24, Tryd.ntmps24
      go_wp2_with (first | go_big_skip | ((with_reducible refine wpl_absorb H ?_); clear H; (first  | generalize W.heap.size = q0); (try clear W); intro W H) | ((with_reducible refine wpl_drew H ?_); clear H; (try clear W); intro W H) | ((with_reducible refine wpl_drewN H ?_); clear H; (try clear W); intro W H) | ((with_reducible apply wpl_load H); (case hs => exact sc _ rfl); (case hw => rfl); (case hx => rfl); (case hm => (repeat (first | with_reducible exact mH | with_reducible assumption | with_reducible apply mT))); (case hv => rfl)) | ((with_reducible apply wpl_loadA H); (case hs => exact ag _ _ rfl); (case hw => rfl); (case hx => rfl); (case hm => (repeat (first | with_reducible exact mH | with_reducible assumption | with_reducible apply mT))); (case hv => rfl); (case hl => rfl); (try simp only [List.drop_zero, List.drop_succ_cons, List.take_succ_cons, List.take_zero, List.take_nil])) | ((with_reducible apply rfits_k); (case hx => exact Hf.out); (case H => exact H); clear H; (try clear W); intro W H))
      exact HK.out _ H.tail
end
end Go.Proofs.YtnpcpmiomimphaaDoor
