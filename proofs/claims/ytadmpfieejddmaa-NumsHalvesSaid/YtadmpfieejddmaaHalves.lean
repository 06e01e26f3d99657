/-
  NumsHalves: the bytes of a number are those of its higher part, and behind these those of its lower one, wherever it is cut; read so, too. For every number, count of bytes and cut that the law draws.
-/
import Derived.Test.YtadmpfieejddmaaAlive1
import Derived.OpenShut
set_option linter.unusedVariables false
namespace Go.Proofs.Ytadmpfieejddmaa
open Go.RowKit

theorem be_halves (n k low : Nat) (hl : low ≤ k) : be (k - low) (n / 256 ^ low) ++ be low n = be k n := by
  have := be_add (k - low) low n
  rw [Nat.sub_add_cancel hl] at this
  exact this.symm
theorem take_halves (n k low : Nat) (hl : low ≤ k) : (be k n).take (k - low) = be (k - low) (n / 256 ^ low) := by
  rw [← be_halves n k low hl, List.take_left' (be_length _ _)]
theorem drop_halves (n k low : Nat) (hl : low ≤ k) : (be k n).drop (k - low) = be low n := by
  rw [← be_halves n k low hl, List.drop_left' (be_length _ _)]
theorem num_halves (n k low : Nat) (hl : low ≤ k) : n % 256 ^ k = (n / 256 ^ low % 256 ^ (k - low)) * 256 ^ low + n % 256 ^ low := by
  have h := congrArg ofBe (be_halves n k low hl)
  rw [ofBe_append, ofBe_be, ofBe_be, ofBe_be, be_length] at h
  exact h.symm
theorem pow256 (j : Nat) : (256 : Nat) ^ j = 2 ^ (8 * j) := by rw [show (256 : Nat) = 2 ^ 8 from rfl, ← Nat.pow_mul]
theorem pow_le64 {j : Nat} (h : j ≤ 8) : (256 : Nat) ^ j ≤ 18446744073709551616 := by
  have : (256 : Nat) ^ j ≤ 256 ^ 8 := Nat.pow_le_pow_right (by omega) h
  simpa using this
theorem getR_ok (l : List UInt8) (k : Nat) (hk : k ≤ 8) (h : k ≤ l.length) : getR l (k : Int) = (ofBe (l.take k), 0) := by
  unfold getR; rw [if_neg (by omega), if_neg (by omega)]; rfl
/-- y shifted back, and z: the number. -/
theorem or_halves (n k low : Nat) (hk : k ≤ 8) (hl : low ≤ k) :
    bits .or .u64 (IntKind.u64.wrap (((n / 256 ^ low % 256 ^ (k - low) : Nat) : Int) * 2 ^ (8 * low))) ((n % 256 ^ low : Nat) : Int) = ((n % 256 ^ k : Nat) : Int) := by
  have hz : n % 256 ^ low < 256 ^ low := Nat.mod_lt _ (Nat.pow_pos (by omega))
  have hx : n % 256 ^ k < 256 ^ k := Nat.mod_lt _ (Nat.pow_pos (by omega))
  have h8 := pow_le64 hk
  have hn := num_halves n k low hl
  generalize n / 256 ^ low % 256 ^ (k - low) = y at *
  generalize hzz : n % 256 ^ low = z at *
  generalize n % 256 ^ k = x at *
  have e : ((y : Nat) : Int) * 2 ^ (8 * low) = ((y * 256 ^ low : Nat) : Int) := by rw [pow256]; simp
  rw [e, IntKind.wrap_u64, Int.emod_eq_of_lt (by omega) (by omega), u64_or_nat _ _ (by omega) (by omega), Nat.or_comm]
  have := or_shift (t := z) (b := y) (j := low) hz
  rw [Nat.shiftLeft_eq, ← pow256] at this
  rw [this, hn]

set_option maxRecDepth 100000 in
set_option maxHeartbeats 400000 in
theorem halves_walk (n : Nat) (hn : n < 18446744073709551616) (b c : Int) (hb0 : 0 ≤ b) (hb1 : b ≤ 255) (hc0 : 0 ≤ c) (hc1 : c ≤ 255) (k low : Nat) (hk : b % 9 = (k : Int)) (hlow : c % ((k : Int) + 1) = (low : Int)) (hl8 : low < 8) (w : World) :
    Calls Try.prog 4 #[.int .u64 n, .int .u8 b, .int .u8 c] w fun e w' => e = .returned (.bool true) ∧ Ext w w' := by
  have hk8 : k ≤ 8 := by omega
  have hlk : low ≤ k := by
    have := Int.emod_lt_of_pos c (show (0 : Int) < (k : Int) + 1 by omega)
    omega
  have hsh : (n : Int) / 2 ^ (8 * low) = ((n / 256 ^ low : Nat) : Int) := by rw [pow256]; simp
  have hsub : (k : Int) - (low : Int) = ((k - low : Nat) : Int) := by omega
  have hsplit := be_halves n k low hlk
  have hor := or_halves n k low hk8 hlk
  have g1 : getR (be k n) (k : Int) = (n % 256 ^ k, 0) := by
    rw [getR_ok _ _ hk8 (by rw [be_length]; omega), List.take_of_length_le (by rw [be_length]; omega), ofBe_be]
  have g2 : getR (be k n) ((k - low : Nat) : Int) = (n / 256 ^ low % 256 ^ (k - low), 0) := by
    rw [getR_ok _ _ (by omega) (by rw [be_length]; omega), take_halves n k low hlk, ofBe_be]
  have g3 : getR (be low n) (low : Int) = (n % 256 ^ low, 0) := by
    rw [getR_ok _ _ (by omega) (by rw [be_length]; omega), List.take_of_length_le (by rw [be_length]; omega), ofBe_be]
  have hdrop := drop_halves n k low hlk
  have hx64 : n % 256 ^ k < 18446744073709551616 := Nat.lt_of_lt_of_le (Nat.mod_lt _ (Nat.pow_pos (by omega))) (pow_le64 hk8)
  generalize n / 256 ^ low = high at *
  generalize n % 256 ^ k = X at *
  generalize high % 256 ^ (k - low) = Y at *
  generalize n % 256 ^ low = Z at *
  have Hsplit := Lib.hid hsplit
  have Hdrop := Lib.hid hdrop
  have G1 := Lib.hid g1
  have G2 := Lib.hid g2
  have G3 := Lib.hid g3
  have Hor := Lib.hid hor
  generalize hr : k - low = r at *
  have hr8 : r ≤ 8 := by omega
  clear hsplit hdrop g1 g2 g3 hor
  go_enter Try.func4, Try.ntmps4
  go_wp2_with (fail)
  refine (put_any none 0 0 [] n k _ hk8 (by omega) (by omega) _ (Rd.nil_ _ _)).mono ?_
  rintro e w1 ⟨A1, m1, c1, rfl, ho1, x1⟩
  have r1 := Rd.of_own ho1
  rw [List.nil_append] at r1
  obtain rfl : m1 = k := by have := r1.blen; rw [be_length] at this; omega
  clear ho1
  go_wp2_with (fail)
  refine (put_lit none 0 0 [] high r high r (be r high) rfl hr8 (by omega) (by omega) _ (Rd.nil_ _ _) rfl).mono ?_
  rintro e w2 ⟨A2, m2, c2, rfl, r2, x2⟩
  go_wp2_with (fail)
  refine (put_lit A2 m2 c2 (be r high) n low n low _ rfl (by omega) (by omega) (by have := r2.blen; rw [be_length] at this; omega) _ r2 Hsplit.out).mono ?_
  clear r2
  rintro e w3 ⟨A3, m3, c3, rfl, r3, x3⟩
  replace r1 := (r1.ext x2).ext x3
  go_wp2_with (fail)
  refine (same_lit _ _ _ _ _ _ _ _ r3 r1).mono ?_
  clear r3
  rintro e w4 ⟨rfl, x4⟩
  replace r1 := r1.ext x4
  go_wp2_with (fail)
  refine (get_lit _ _ _ _ _ X 0 _ r1 (by rw [G1.out]) (by rw [G1.out])).mono ?_
  rintro e w5 ⟨rfl, x5⟩
  replace r1 := r1.ext x5
  go_wp2_with (fail)
  refine (get_lit _ _ _ _ _ Y 0 _ r1 (by rw [G2.out]) (by rw [G2.out])).mono ?_
  rintro e w6 ⟨rfl, x6⟩
  replace r1 := r1.ext x6
  go_wp2_with (fail)
  case' inl =>
    have r2 := r1.cut r m1 c1 (by omega) (Nat.le_refl _) r1.le (Nat.le_refl _)
    rw [if_pos (show c1 = r by omega), Nat.mul_one, Nat.mul_one, List.take_of_length_le (by rw [List.length_drop, bvs_length, be_length]; omega), ← bvs_drop, Hdrop.out] at r2
    rw [show c1 - r = 0 by omega] at r2
  case' inr =>
    have r2 := r1.cut r m1 c1 (by omega) (Nat.le_refl _) r1.le (Nat.le_refl _)
    rw [if_neg (show ¬ c1 = r by omega), Nat.mul_one, Nat.mul_one, List.take_of_length_le (by rw [List.length_drop, bvs_length, be_length]; omega), ← bvs_drop, Hdrop.out] at r2
  all_goals
    refine (get_lit _ _ _ _ _ Z 0 _ r2 (by rw [G3.out]) (by rw [G3.out])).mono ?_
    rintro e w7 ⟨rfl, x7⟩
    clear r1 r2
    replace hor := Hor.out
    clear Hor
    go_wp2_with (fail)
    refine (alive_any w7).mono ?_
    rintro e w8 ⟨rfl, x8⟩
    go_wp2_with (fail)
    go_ret
    exact ⟨by first | rfl | trivial, x1.trans (x2.trans (x3.trans (x4.trans (x5.trans (x6.trans (x7.trans x8))))))⟩
set_option maxRecDepth 100000 in
set_option maxHeartbeats 400000 in
theorem halves_eight (n : Nat) (hn : n < 18446744073709551616) (b c : Int) (hb0 : 0 ≤ b) (hb1 : b ≤ 255) (hc0 : 0 ≤ c) (hc1 : c ≤ 255) (k low : Nat) (hk : b % 9 = (k : Int)) (hlow : c % ((k : Int) + 1) = (low : Int)) (hl8 : 8 ≤ low) (w : World) :
    Calls Try.prog 4 #[.int .u64 n, .int .u8 b, .int .u8 c] w fun e w' => e = .returned (.bool true) ∧ Ext w w' := by
  have hk8 : k ≤ 8 := by omega
  have hlk : low ≤ k := by
    have := Int.emod_lt_of_pos c (show (0 : Int) < (k : Int) + 1 by omega)
    omega
  have hsub : (k : Int) - (low : Int) = ((k - low : Nat) : Int) := by omega
  have hr0 : k - low = 0 := by omega
  have g1 : getR (be k n) (k : Int) = (n, 0) := by
    rw [getR_ok _ _ hk8 (by rw [be_length]; omega), List.take_of_length_le (by rw [be_length]; omega), ofBe_be, show k = 8 by omega, Nat.mod_eq_of_lt (by simpa using hn)]
  have g2 : getR (be k n) ((k - low : Nat) : Int) = (0, 0) := by
    rw [hr0, getR_ok _ _ (by omega) (by rw [be_length]; omega)]; rfl
  have g3 : getR (be low n) (low : Int) = (n, 0) := by
    rw [getR_ok _ _ (by omega) (by rw [be_length]; omega), List.take_of_length_le (by rw [be_length]; omega), ofBe_be, show low = 8 by omega, Nat.mod_eq_of_lt (by simpa using hn)]
  have hdrop : List.drop (k - low) (be k n) = be low n := by rw [hr0, show low = k by omega]; rfl
  have hsplit : be (k - low) 0 ++ be low n = be k n := by rw [hr0, show low = k by omega]; rfl
  have Hsplit := Lib.hid hsplit
  have Hdrop := Lib.hid hdrop
  have G1 := Lib.hid g1
  have G2 := Lib.hid g2
  have G3 := Lib.hid g3
  have hor : bits .or .u64 (0 : Int) (n : Int) = (n : Int) := by
    have := u64_or_nat 0 n (by omega) hn
    simpa using this
  have Hor := Lib.hid hor
  generalize hr : k - low = r at *
  have hr8 : r ≤ 8 := by omega
  have hl8' : ¬ (low : Int) < 8 := by omega
  clear hsplit hdrop g1 g2 g3 hor hr0
  go_enter Try.func4, Try.ntmps4
  go_wp2_with (fail)
  refine (put_any none 0 0 [] n k _ hk8 (by omega) (by omega) _ (Rd.nil_ _ _)).mono ?_
  rintro e w1 ⟨A1, m1, c1, rfl, ho1, x1⟩
  have r1 := Rd.of_own ho1
  rw [List.nil_append] at r1
  obtain rfl : m1 = k := by have := r1.blen; rw [be_length] at this; omega
  clear ho1
  go_wp2_with (fail)
  refine (put_lit none 0 0 [] 0 r 0 r (be r 0) rfl hr8 (by omega) (by omega) _ (Rd.nil_ _ _) rfl).mono ?_
  rintro e w2 ⟨A2, m2, c2, rfl, r2, x2⟩
  go_wp2_with (fail)
  refine (put_lit A2 m2 c2 (be r 0) n low n low _ rfl (by omega) (by omega) (by have := r2.blen; rw [be_length] at this; omega) _ r2 Hsplit.out).mono ?_
  clear r2
  rintro e w3 ⟨A3, m3, c3, rfl, r3, x3⟩
  replace r1 := (r1.ext x2).ext x3
  go_wp2_with (fail)
  refine (same_lit _ _ _ _ _ _ _ _ r3 r1).mono ?_
  clear r3
  rintro e w4 ⟨rfl, x4⟩
  replace r1 := r1.ext x4
  go_wp2_with (fail)
  refine (get_lit _ _ _ _ _ n 0 _ r1 (by rw [G1.out]) (by rw [G1.out])).mono ?_
  rintro e w5 ⟨rfl, x5⟩
  replace r1 := r1.ext x5
  go_wp2_with (fail)
  refine (get_lit _ _ _ _ _ 0 0 _ r1 (by rw [G2.out]; rfl) (by rw [G2.out])).mono ?_
  rintro e w6 ⟨rfl, x6⟩
  replace r1 := r1.ext x6
  go_wp2_with (fail)
  case' inl =>
    have r2 := r1.cut r m1 c1 (by omega) (Nat.le_refl _) r1.le (Nat.le_refl _)
    rw [if_pos (show c1 = r by omega), Nat.mul_one, Nat.mul_one, List.take_of_length_le (by rw [List.length_drop, bvs_length, be_length]; omega), ← bvs_drop, Hdrop.out] at r2
    rw [show c1 - r = 0 by omega] at r2
  case' inr =>
    have r2 := r1.cut r m1 c1 (by omega) (Nat.le_refl _) r1.le (Nat.le_refl _)
    rw [if_neg (show ¬ c1 = r by omega), Nat.mul_one, Nat.mul_one, List.take_of_length_le (by rw [List.length_drop, bvs_length, be_length]; omega), ← bvs_drop, Hdrop.out] at r2
  all_goals
    refine (get_lit _ _ _ _ _ n 0 _ r2 (by rw [G3.out]) (by rw [G3.out])).mono ?_
    rintro e w7 ⟨rfl, x7⟩
    clear r1 r2
    replace hor := Hor.out
    clear Hor
    go_wp2_with (fail)
    refine (alive_any w7).mono ?_
    rintro e w8 ⟨rfl, x8⟩
    go_wp2_with (fail)
    go_ret
    exact ⟨by first | rfl | trivial, x1.trans (x2.trans (x3.trans (x4.trans (x5.trans (x6.trans (x7.trans x8))))))⟩

theorem halves_all (W : World) (a0 : Int) (w0 : (Lit.int .u64 a0).wf = true) (a1 : Int) (w1 : (Lit.int .u8 a1).wf = true) (a2 : Int) (w2 : (Lit.int .u8 a2).wf = true) :
    Calls Try.prog 4 #[.int .u64 a0, .int .u8 a1, .int .u8 a2] W fun e w' => e = .returned (.bool true) ∧ Ext W w' := by
  have r0 := bounds_u64 w0
  have r1 := bounds_u8 w1
  have r2 := bounds_u8 w2
  obtain ⟨n, rfl⟩ := Int.eq_ofNat_of_zero_le r0.1
  obtain ⟨k, hk⟩ := Int.eq_ofNat_of_zero_le (Int.emod_nonneg a1 (show (9 : Int) ≠ 0 by omega))
  obtain ⟨low, hlow⟩ := Int.eq_ofNat_of_zero_le (Int.emod_nonneg a2 (show (k : Int) + 1 ≠ 0 by omega))
  by_cases h8 : low < 8
  · exact halves_walk n (by omega) a1 a2 r1.1 r1.2 r2.1 r2.2 k low hk hlow h8 W
  · exact halves_eight n (by omega) a1 a2 r1.1 r1.2 r2.1 r2.2 k low hk hlow (by omega) W
end Go.Proofs.Ytadmpfieejddmaa
