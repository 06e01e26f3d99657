/-
  Contracts of package nums, the others.
-/
import Derived.Test.YtadmpfieejddmaaDoorNums2
namespace Go.Proofs.YtadmpfieejddmaaDoor
open Go.RowKit

set_option maxHeartbeats 400000 in
theorem ofBytes_any (w : World) : Calls Tryd.prog 17 #[] w fun e w' => e = .returned (.agg #[.int .i64 4, .int .i64 1]) ∧ Ext w w' := by
  go_enter Tryd.func17, Tryd.ntmps17
  go_wp2
  exact bodyPost_ret (v := .agg #[.int .i64 4, .int .i64 1]) (by simp [results, Tryd.results17, go_sem]) rfl ⟨rfl, by repeat (first | exact Ext.refl _ | apply Ext.alloc | (refine Ext.setCell ?_ (by simp) _))⟩
set_option maxHeartbeats 400000 in
theorem ofSums_any (w : World) : Calls Tryd.prog 21 #[] w fun e w' => e = .returned (.agg #[.int .i64 2, .int .i64 32]) ∧ Ext w w' := by
  go_enter Tryd.func21, Tryd.ntmps21
  go_wp2
  exact bodyPost_ret (v := .agg #[.int .i64 2, .int .i64 32]) (by simp [results, Tryd.results21, go_sem]) rfl ⟨rfl, by repeat (first | exact Ext.refl _ | apply Ext.alloc | (refine Ext.setCell ?_ (by simp) _))⟩

theorem info_u8s : (Tryd.prog.info? 5).map (·.size) = some 1 := by kernel_rfl

set_option maxHeartbeats 400000 in
theorem cut_short (A : Option Addr) (n cap : Nat) (l : List UInt8) (T E : Nat) (hT : T ≤ 8) (w : World) (hr : Rd w 1 A n cap (bvs l)) (h : n < T) :
    Calls Tryd.prog 18 #[.agg #[.int .i64 T, .int .i64 E], .slice A n cap] w fun e w' => e = .returned (.tuple #[.slice none 0 0, .int .i64 0, .int .i64 5]) ∧ Ext w w' := by
  have hl := hr.blen
  have e : getR l T = (0, 5) := by unfold getR; rw [if_neg (by omega), if_pos (by omega)]
  have He := Lib.hid e
  have Hl := Lib.hid hl
  clear e hl
  go_enter Tryd.func18, Tryd.ntmps18
  go_wp2_with (go_at_call 5; refine (get_any _ _ _ l _ _ (hr.alloc _)).mono ?_; rintro e w' ⟨rfl, rfl⟩; rw [He.out])
  go_ret3
  exact ⟨rfl, (Ext.refl _).alloc _⟩

set_option maxHeartbeats 400000 in
theorem cut_over (A : Option Addr) (n cap : Nat) (l : List UInt8) (T E : Nat) (hT : T ≤ 8) (hE0 : 0 < E) (hE : E ≤ 64) (w : World) (hr : Rd w 1 A n cap (bvs l)) (h : T ≤ n) (h2 : n < T + ofBe (l.take T) * E) :
    Calls Tryd.prog 18 #[.agg #[.int .i64 T, .int .i64 E], .slice A n cap] w fun e w' => e = .returned (.tuple #[.slice none 0 0, .int .i64 0, .int .i64 5]) ∧ Ext w w' := by
  have hl := hr.blen
  have hn := hr.le
  have hc := hr.top
  unfold maxLen at hc
  have e : getR l T = (ofBe (l.take T), 0) := by unfold getR; rw [if_neg (by omega), if_neg (by omega)]; rfl
  have hb := ofBe_lt (l.take T)
  generalize ofBe (l.take T) = q at *
  have He := Lib.hid e
  have Hl := Lib.hid hl
  clear e hl
  have hd : ((n : Int) - (T : Int)) / (E : Int) < (q : Int) := by
    have : (n - T) / E < q := by rw [Nat.div_lt_iff_lt_mul hE0]; omega
    rw [← Int.natCast_sub h]; omega
  clear hb
  go_enter Tryd.func18, Tryd.ntmps18
  go_wp2_with (go_at_call 5; refine (get_any _ _ _ l _ _ (hr.alloc _)).mono ?_; rintro e w' ⟨rfl, rfl⟩; rw [He.out])
  go_ret3
  exact ⟨rfl, (Ext.refl _).alloc _⟩

set_option maxHeartbeats 400000 in
theorem cut_some (A : Option Addr) (n cap : Nat) (l : List UInt8) (T E : Nat) (hT : T ≤ 8) (hE0 : 0 < E) (hE : E ≤ 64) (w : World) (hr : Rd w 1 A n cap (bvs l)) (h2 : T + ofBe (l.take T) * E ≤ n) :
    Calls Tryd.prog 18 #[.agg #[.int .i64 T, .int .i64 E], .slice A n cap] w fun e w' => ∃ A' n' cap', e = .returned (.tuple #[.slice A' n' cap', .int .i64 ((T : Int) + (n' : Int)), .int .i64 0]) ∧
      n' = ofBe (l.take T) * E ∧ Rd w' 1 A' n' cap' (bvs ((l.drop T).take n')) ∧ Ext w w' := by
  have hl := hr.blen
  have hn := hr.le
  have hc := hr.top
  unfold maxLen at hc
  have h : T ≤ n := by omega
  have e : getR l T = (ofBe (l.take T), 0) := by unfold getR; rw [if_neg (by omega), if_neg (by omega)]; rfl
  generalize ofBe (l.take T) = q at *
  obtain ⟨m, hm⟩ : ∃ m, q * E = m := ⟨_, rfl⟩
  rw [hm] at h2
  have hqm : q ≤ m := by rw [← hm]; exact Nat.le_mul_of_pos_right q hE0
  obtain ⟨A', n', cap', hsl, hn', hcap', hrd⟩ := cut_lh Tryd.underlying22 info_u8s hr .i64 .i64 T (T + m) (by omega) (by omega)
  simp only [Int.natCast_add] at hsl
  have hd : (q : Int) ≤ ((n : Int) - (T : Int)) / (E : Int) := by
    have : q ≤ (n - T) / E := by rw [Nat.le_div_iff_mul_le hE0]; omega
    rw [← Int.natCast_sub h]; omega
  have hmi : (q : Int) * (E : Int) = (m : Int) := by rw [← hm]; simp
  have He := Lib.hid e
  have Hl := Lib.hid hl
  have Hm := Lib.hid hm
  obtain rfl : n' = m := by omega
  have Hrd : Rd w 1 A' n' cap' (bvs ((l.drop T).take n')) := by
    rw [bvs_take, bvs_drop]
    simpa using hrd
  clear e hl hm hrd hn' hcap'
  go_enter Tryd.func18, Tryd.ntmps18
  go_wp2_with (go_at_call 5; refine (get_any _ _ _ l _ _ (hr.alloc _)).mono ?_; rintro e w' ⟨rfl, rfl⟩; rw [He.out])
  go_ret3
  exact ⟨_, _, _, rfl, Hm.out.symm, Hrd.alloc _, (Ext.refl _).alloc _⟩
end Go.Proofs.YtadmpfieejddmaaDoor
