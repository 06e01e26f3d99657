/-
  Contracts of package nums: PutSums, GetSums. A slice of sums is told by all its bytes, one behind the other.
-/
import Derived.Test.YtadmpfieejddmaaNums5
import Derived.Laws.CopyOwn
import Derived.StillTailTactics
namespace Go.Proofs.Ytadmpfieejddmaa
open Go.RowKit

/-- one sum of a slice of sums, as a slice of bytes. -/
theorem Rd.elem {w : World} {A : Option Addr} {n cap : Nat} {l : List UInt8} {size : Nat} (h : Rd w size A n cap (bvs l)) {k : Nat} (hk : k < n) (hs : size ≤ 1000000) :
    ∃ b o, A = some ⟨b, o, none⟩ ∧ Rd w 1 (some ⟨b, o + k * size, none⟩) size size (bvs ((l.drop (k * size)).take size)) := by
  obtain ⟨b, o, rfl, hc⟩ := h.at_ (by omega)
  have hl : l.length = n * size := by have := h.len; rwa [bvs_length] at this
  have hle : (k + 1) * size ≤ n * size := Nat.mul_le_mul_right _ (by omega)
  rw [Nat.add_mul] at hle
  refine ⟨b, o, rfl, Nat.le_refl _, by simp only [maxLen]; omega, ?_, (fun h => by cases h), fun hp => ⟨_, _, rfl, fun j hj => ?_⟩⟩
  · rw [bvs_length, List.length_take, List.length_drop]; omega
  · rw [Nat.add_assoc, hc _ (by omega), bvs_take, bvs_drop, List.getElem?_take, if_pos (by omega), List.getElem?_drop]

set_option maxHeartbeats 1000000 in
/-- **nums.PutSums** -/
theorem putSums_any (A : Option Addr) (m cap : Nat) (l : List UInt8) (A2 : Option Addr) (m2 cap2 : Nat) (l2 : List UInt8) (hm : m ≤ 35184372088832) (w : World) (hr : Rd w 1 A m cap (bvs l)) (hr2 : Rd w 32 A2 m2 cap2 (bvs l2)) :
    Calls Try.prog 12 #[.slice A m cap, .slice A2 m2 cap2] w fun e w' => ∃ A' n' cap', e = .returned (.slice A' n' n') ∧
      w'.ownsRow w.heap.size 5 1 (.slice A' n' cap') n' (bvs (l ++ be 2 (min m2 65535) ++ l2.take (32 * min m2 65535))) ∧ Ext w w' := by
  have hl := hr.blen
  have Hl := Lib.hid hl
  have hf := row_told
  have htop := hr2.top
  have hle := hr2.le
  have hl2 : l2.length = m2 * 32 := by have := hr2.len; rwa [bvs_length] at this
  have Hl2 := Lib.hid hl2
  unfold maxLen at htop
  obtain ⟨q, hq⟩ : ∃ q, q = min m2 65535 := ⟨_, rfl⟩
  rw [← hq]
  have hqi : min (m2 : Int) 65535 = (q : Int) := by omega
  have hq1 : q ≤ 65535 := by omega
  have hq2 : q ≤ m2 := by omega
  clear hl hl2 hq
  go_enter Try.func12, Try.ntmps12
  go_wp2_with (first
    | (go_at_call 22; refine (ofSums_any _).mono ?_; rintro e w1 ⟨rfl, hx1⟩)
    | (go_at_call 7; refine (put_any _ _ _ l q 2 _ (by omega) (by omega) (by omega) _ (hr.ext hx1)).mono ?_; rintro e w2 ⟨A3, n3, c3, rfl, ho3, hx2⟩)
    | (go_at_call 21; refine (grow_any A3 n3 c3 _ (q * 32) w1.heap.size (by omega) (by have := (Rd.of_own ho3).blen; have := Hl.out; rw [List.length_append, be_length] at *; omega) w2 hx2.size ho3).mono ?_; rintro e w3 ⟨A4, c4, rfl, ho4, hx3⟩))
  have hx13 := (hx1.trans hx2).trans hx3
  have ho := own_mono ho4 hx1.size
  clear ho3 ho4
  generalize hP : l ++ be 2 q = pre at *
  have hpl : pre.length ≤ 35184372088832 + 2 := by rw [← hP, List.length_append, be_length]; have := Hl.out; omega
  have HP := Lib.hid hP
  clear hP
  go_loopw [6, 7, 21] (fun v _ i wr => ∃ (k : Nat) (A' : Option Addr) (n' c' : Nat), k ≤ q ∧ i = .int .i64 k ∧ v = .slice A' n' c' ∧ wr.ownsRow w.heap.size 5 1 (.slice A' n' c') n' (bvs (pre ++ l2.take (32 * k))) ∧ Ext w wr) (fun _ _ i _ => q - (intOf i).toNat)
  case atStart => exact ⟨0, _, _, _, Nat.zero_le _, rfl, rfl, by simpa using ho, hx13⟩
  case round =>
    obtain ⟨k, A5, n5, c5, hk, rfl, rfl, ho5, hx5⟩ := hrel
    by_cases hlt : k < q
    · obtain ⟨b, o, rfl, hre⟩ := (hr2.ext hx5).elem (k := k) (by omega) (by omega)
      have hn5 : n5 ≤ 35184372088832 + 2 + 32 * 65535 := by
        have := (Rd.of_own ho5).blen
        rw [List.length_append, List.length_take] at this; omega
      have hnew : l2.take (32 * k) ++ (l2.drop (k * 32)).take 32 = l2.take (32 * (k + 1)) := by
        rw [Nat.mul_comm k 32, ← List.take_add]; rfl
      have Hnew := Lib.hid hnew
      clear hnew
      go_wp2_with (at_builtin; refine wpl_append rfl _ _ _ rfl Try.underlying23 info_u8 rfl (by decide) rfl rfl ho5 hre (bvs_oneCell _) (by simp only [maxLen]; omega) (by omega) hx5.size ?_; intro A6 n6 c6 w6 hn6 ho6 hg6 _)
      go_roundw
      case rel => exact ⟨k + 1, _, _, _, by omega, by go_num, rfl, by rw [← Hnew.out, ← List.append_assoc, bvs_append]; exact ho6, hx5.grown hg6 (own_block_ge ho5)⟩
      case measure => simp [intOf]; omega
    · obtain rfl : k = q := by omega
      go_wp2_with (go_at_call 19; refine (clip_any _ _ _ (Rd.of_own ho5).le _).mono ?_; rintro e w4 ⟨rfl, rfl⟩)
      go_ret
      exact ⟨_, _, _, rfl, by rw [HP.out]; exact ho5, hx5⟩
end Go.Proofs.Ytadmpfieejddmaa
