/-
  NumsNext: one more changes the last byte that is not 255 by one, makes those behind it 0, and leaves those ahead of it. For every number and every count of bytes that the law draws.
-/
import Derived.Test.YtadmpfieejddmaaAlive1
import Derived.OpenShut
namespace Go.Proofs.Ytadmpfieejddmaa
open Go.RowKit

theorem succ_div (n m : Nat) (hm : 0 < m) : (n + 1) / m = n / m + if n % m = m - 1 then 1 else 0 := by
  have h1 := Nat.div_add_mod n m
  have h2 := Nat.mod_lt n hm
  have h3 := Nat.mul_add_div hm (n / m) (n % m + 1)
  have h4 : n + 1 = m * (n / m) + (n % m + 1) := by rw [← Nat.add_assoc, h1]
  rw [← h4] at h3
  rw [h3]
  congr 1
  split
  · rename_i h
    rw [h, Nat.sub_add_cancel hm, Nat.div_self hm]
  · exact Nat.div_eq_of_lt (by omega)
/-- has the carry come through j bytes? -/
def carry (n j : Nat) : Bool := decide (n % 256 ^ j = 256 ^ j - 1)
theorem carry_zero (n : Nat) : carry n 0 = true := by simp [carry, Nat.mod_one]
theorem carry_succ (n j : Nat) : carry n (j + 1) = (carry n j && (UInt8.ofNat (n / 256 ^ j) == 255)) := by
  have hp : 0 < 256 ^ j := Nat.pow_pos (by omega)
  have hb : (UInt8.ofNat (n / 256 ^ j) == 255) = decide (n / 256 ^ j % 256 = 255) := by
    rw [Bool.eq_iff_iff, beq_iff_eq, decide_eq_true_iff, ← UInt8.toNat_inj]
    simp
  rw [hb]
  unfold carry
  rw [Bool.eq_iff_iff]
  simp only [Bool.and_eq_true, decide_eq_true_iff]
  rw [Nat.pow_succ, Nat.mod_mul]
  have h1 := Nat.mod_lt n hp
  have h2 : n / 256 ^ j % 256 < 256 := Nat.mod_lt _ (by omega)
  generalize n % 256 ^ j = r at *
  generalize n / 256 ^ j % 256 = q at *
  generalize 256 ^ j = m at *
  constructor
  · intro h
    have hq : q = 255 := by
      rcases Nat.lt_or_ge q 255 with h3 | h3
      · have : m * q ≤ m * 254 := Nat.mul_le_mul_left _ (by omega)
        omega
      · omega
    subst hq
    omega
  · rintro ⟨h3, h4⟩
    subst h4
    omega
theorem next_byte (n k j : Nat) (h : j < k) : (be k (n + 1))[k - 1 - j]?.getD 0 = if carry n j then (be k n)[k - 1 - j]?.getD 0 + 1 else (be k n)[k - 1 - j]?.getD 0 := by
  rw [be_getElem? (by omega), be_getElem? (by omega)]
  have e : k - 1 - (k - 1 - j) = j := by omega
  rw [e, succ_div n _ (Nat.pow_pos (by omega))]
  unfold carry
  by_cases hc : n % 256 ^ j = 256 ^ j - 1
  · rw [if_pos hc, decide_eq_true hc]
    simp only [Option.getD_some, ↓reduceIte]
    apply UInt8.toNat.inj
    simp
  · rw [if_neg hc, decide_eq_false hc]
    rfl

theorem u8_beq (x y : UInt8) : ((x.toNat : Int) == (y.toNat : Int)) = (x == y) := by
  rw [Bool.eq_iff_iff, beq_iff_eq, beq_iff_eq]
  exact ⟨fun h => UInt8.toNat.inj (by omega), fun h => by rw [h]⟩

set_option maxRecDepth 100000 in
set_option maxHeartbeats 400000 in
theorem numsNext_walk (n : Nat) (b : Int) (hb0 : 0 ≤ b) (hb1 : b ≤ 255) (w : World) :
    Calls Try.prog 3 #[.int .u64 n, .int .u8 b] w fun e w' => e = .returned (.bool true) ∧ Ext w w' := by
  obtain ⟨k, hk⟩ : ∃ k : Nat, 1 + b % 8 = (k : Int) := ⟨(1 + b % 8).toNat, by omega⟩
  have hk1 : 1 ≤ k := by omega
  have hk8 : k ≤ 8 := by omega
  have hwr : IntKind.u64.wrap ((n : Int) + 1) = ((n + 1) % 18446744073709551616 : Nat) := by rw [IntKind.wrap_u64]; omega
  have hmod : be k ((n + 1) % 18446744073709551616) = be k (n + 1) := by
    have := be_mod k 8 (n + 1) hk8
    simpa using this
  generalize (n + 1) % 18446744073709551616 = n1 at *
  have Hmod := Lib.hid hmod
  have Hwr := Lib.hid hwr
  clear hmod hwr
  go_enter Try.func3, Try.ntmps3
  go_wp2_with (fail)
  refine (put_any none 0 0 [] n k _ hk8 (by omega) (by omega) _ (Rd.nil_ _ _)).mono ?_
  rintro e w1 ⟨A1, m1, c1, rfl, ho1, x1⟩
  have r1 := Rd.of_own ho1
  rw [List.nil_append] at r1
  clear ho1
  go_wp2_with (fail)
  rw [Hwr.out]
  refine (put_any none 0 0 [] n1 k _ hk8 (by omega) (by omega) _ (Rd.nil_ _ _)).mono ?_
  rintro e w2 ⟨A2, m2, c2, rfl, ho2, x2⟩
  have r2 := Rd.of_own ho2
  rw [List.nil_append, Hmod.out] at r2
  clear ho2
  replace r1 := r1.ext x2
  obtain rfl : m1 = k := by have := r1.blen; rw [be_length] at this; omega
  obtain rfl : m2 = m1 := by have := r2.blen; rw [be_length] at this; omega
  have hle := r1.top
  have hle2 := r1.le
  unfold maxLen at hle
  go_wp2
  go_loop [8, 9, 10] (fun c i _ => ∃ j : Nat, j ≤ m2 ∧ i = .int .i64 ((m2 : Int) - 1 - (j : Int)) ∧ c = .bool (carry n j)) (fun _ i _ => (intOf i + 1).toNat)
  case atStart => exact ⟨0, by omega, by congr 1; omega, by rw [carry_zero]⟩
  case round =>
    obtain ⟨j, hj, rfl, rfl⟩ := hrel
    by_cases hlt : j < m2
    · obtain ⟨b1, o1, rfl, g1⟩ := r1.byte (k := m2 - 1 - j) (by omega)
      obtain ⟨b2, o2, rfl, g2⟩ := r2.byte (k := m2 - 1 - j) (by omega)
      have hnb := next_byte n m2 j hlt
      have hcs := carry_succ n j
      rw [hnb] at g2
      rw [be_getElem? (show m2 - 1 - j < m2 by omega), show m2 - 1 - (m2 - 1 - j) = j by omega] at g1 g2
      simp only [Option.getD_some] at g1 g2
      have Hcs := Lib.hid hcs
      clear hnb hcs r1 r2
      generalize UInt8.ofNat (n / 256 ^ j) = x at *
      have hx := byte_lt x
      generalize carry n j = c at *
      have hadd : IntKind.u8.wrap ((x.toNat : Int) + 1) = (((x + 1).toNat : Nat) : Int) := by
        rw [IntKind.wrap_u8, UInt8.toNat_add]; simp
      cases c
      · simp only [Bool.false_eq_true, ↓reduceIte] at g2
        go_wp2
        go_round
        case rel => exact ⟨j + 1, by omega, by congr 1; omega, by rw [Hcs.out]; rfl⟩
        case measure => simp [intOf]; omega
      · simp only [↓reduceIte] at g2
        go_wp2
        go_round
        case rel => exact ⟨j + 1, by omega, by congr 1; omega, by rw [Hcs.out, Bool.true_and]; congr 1; exact u8_beq x 255⟩
        case measure => simp [intOf]; omega
    · go_wp2_with (fail)
      refine (alive_any _).mono ?_
      rintro e w3 ⟨rfl, x3⟩
      go_wp2
      go_ret
      exact ⟨rfl, (x1.trans x2).trans x3⟩
theorem numsNext_all (w : World) (x : Int) (wx : (Lit.int .u64 x).wf = true) (b : Int) (wb : (Lit.int .u8 b).wf = true) :
    Calls Try.prog 3 #[.int .u64 x, .int .u8 b] w fun e w' => e = .returned (.bool true) ∧ Ext w w' := by
  have hx := bounds_u64 wx
  have hb := bounds_u8 wb
  obtain ⟨n, rfl⟩ := Int.eq_ofNat_of_zero_le hx.1
  exact numsNext_walk n b hb.1 hb.2 w
end Go.Proofs.Ytadmpfieejddmaa
