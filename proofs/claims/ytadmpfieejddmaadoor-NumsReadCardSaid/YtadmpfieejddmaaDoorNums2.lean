/-
  Contracts of package nums, the others.
-/
import Derived.Test.YtadmpfieejddmaaDoorNumT
namespace Go.Proofs.YtadmpfieejddmaaDoor
open Go.RowKit

/-- what nums.Get answers. -/
def getR (l : List UInt8) (K : Int) : Nat × Int :=
  if K < 0 ∨ 8 < K then (0, 1) else if (l.length : Int) < K then (0, 5) else (ofBe (l.take K.toNat), 0)

theorem get_step (l : List UInt8) (k j : Nat) (h : j < k) (hk : k ≤ l.length) :
    ofBe ((l.take k).drop (k - (j + 1))) = (l[k - 1 - j]?.getD 0).toNat * 256 ^ j + ofBe ((l.take k).drop (k - j)) := by
  have e1 : k - (j + 1) < (l.take k).length := by rw [List.length_take]; omega
  rw [List.drop_eq_getElem_cons e1, ofBe_cons, List.length_drop, List.length_take]
  have e2 : k - (j + 1) + 1 = k - j := by omega
  have e3 : min k l.length - (k - j) = j := by omega
  rw [e2, e3, List.getElem_take]
  have e4 : k - 1 - j = k - (j + 1) := by omega
  rw [e4, List.getElem?_eq_getElem (by omega)]
  rfl

theorem or_val {t j : Nat} {b : UInt8} (ht : t < 256 ^ j) (hj : j < 8) : bits .or .u64 (t : Int) (IntKind.u64.wrap ((b.toNat : Int) * 2 ^ (j * 8))) = ((t ||| b.toNat <<< (8 * j) : Nat) : Int) := by
  have hb := b.toNat_lt
  have e : (b.toNat : Int) * 2 ^ (j * 8) = ((b.toNat * 2 ^ (8 * j) : Nat) : Int) := by rw [Nat.mul_comm 8 j]; simp
  have h2 : (2 : Nat) ^ (8 * j) ≤ 2 ^ 56 := Nat.pow_le_pow_right (by omega) (by omega)
  have h3 : b.toNat * 2 ^ (8 * j) ≤ 255 * 2 ^ 56 := Nat.mul_le_mul (by omega) h2
  have h4 : (256 : Nat) ^ j ≤ 256 ^ 7 := Nat.pow_le_pow_right (by omega) (by omega)
  rw [e, IntKind.wrap_u64, Int.emod_eq_of_lt (by omega) (by omega), u64_or_nat _ _ (by omega) (by omega), Nat.shiftLeft_eq]

set_option maxHeartbeats 400000 in
theorem get_any (A : Option Addr) (n cap : Nat) (l : List UInt8) (K : Int) (w : World) (hr : Rd w 1 A n cap (bvs l)) :
    Calls Tryd.prog 5 #[.slice A n cap, .int .i64 K] w fun e w' => e = .returned (.tuple #[.int .u64 ((getR l K).1 : Int), .int .i64 (getR l K).2]) ∧ w = w' := by
  have hn := hr.le
  have hc := hr.top
  have hl := hr.blen
  unfold maxLen at hc
  by_cases h1 : K < 0 ∨ 8 < K
  · have e : getR l K = (0, 1) := by unfold getR; rw [if_pos h1]
    rw [e]
    clear e hr
    go_enter Tryd.func5, Tryd.ntmps5
    go_wp2
    all_goals (go_ret2; exact ⟨rfl, rfl⟩)
  · by_cases h2 : (l.length : Int) < K
    · have e : getR l K = (0, 5) := by unfold getR; rw [if_neg h1, if_pos h2]
      rw [e]
      clear e hr
      go_enter Tryd.func5, Tryd.ntmps5
      go_wp2
      all_goals (go_ret2; exact ⟨rfl, rfl⟩)
    · have e : getR l K = (ofBe (l.take K.toNat), 0) := by unfold getR; rw [if_neg h1, if_neg h2]
      rw [e]
      clear e
      obtain ⟨k, rfl⟩ := Int.eq_ofNat_of_zero_le (show 0 ≤ K by omega)
      simp only [Int.toNat_natCast]
      have hk8 : k ≤ 8 := by omega
      have hkn : k ≤ n := by omega
      have Hl := Lib.hid hl
      clear hl h1 h2
      go_enter Tryd.func5, Tryd.ntmps5
      go_wp2
      go_loop [4, 6, 18] (fun s _ i => ∃ j : Nat, j ≤ k ∧ i = .int .i64 j ∧ s = .int .u64 (ofBe ((l.take k).drop (k - j)) : Nat)) (fun _ _ i => k - (intOf i).toNat)
      case atStart => exact ⟨0, Nat.zero_le _, rfl, by rw [List.drop_of_length_le (by rw [List.length_take]; omega)]; rfl⟩
      case round =>
        obtain ⟨j, hj, rfl, rfl⟩ := hrel
        by_cases hlt : j < k
        · obtain ⟨b, o, rfl, g1⟩ := hr.byte (k := k - 1 - j) (by omega)
          have st := Lib.hid (get_step l k j hlt (by have := Hl.out; omega))
          have hlt8 : ofBe ((l.take k).drop (k - j)) < 256 ^ j := by
            have := ofBe_lt ((l.take k).drop (k - j))
            have e : ((l.take k).drop (k - j)).length = j := by rw [List.length_drop, List.length_take]; have := Hl.out; omega
            rwa [e] at this
          have or := or_shift (b := (l[k - 1 - j]?.getD 0).toNat) hlt8
          rw [← st.out] at or
          have orv := or_val (b := (l[k - 1 - j]?.getD 0)) hlt8 (by omega)
          rw [or] at orv
          clear or
          generalize ofBe ((l.take k).drop (k - j)) = t at *
          generalize (l[k - 1 - j]?.getD 0) = bb at *
          have hbb := bb.toNat_lt
          have Hor := Lib.hid orv
          clear orv
          go_wp2
          go_round
          case rel => exact ⟨j + 1, by omega, by go_num, by rw [Hor.out]⟩
          case measure => simp [intOf]; omega
        · obtain rfl : j = k := by omega
          go_wp2
          go_ret2
          exact ⟨by simp, rfl⟩
end Go.Proofs.YtadmpfieejddmaaDoor
