/-
  NumsTold: of bytes ahead of which any number is told just so many, the first ones, are got; if there are fewer, none. For all bytes, any number.
-/
import Derived.Test.YtadmpfieejddmaaAlive1
import Derived.OpenShut
namespace Go.Proofs.Ytadmpfieejddmaa
open Go.RowKit

theorem told_take (t : Nat) (ht : t < 4294967296) (l : List UInt8) : ofBe ((be 4 t ++ l).take 4) = t := by
  rw [List.take_left' (be_length 4 t), ofBe_be]; exact Nat.mod_eq_of_lt (by omega)
theorem told_drop (t : Nat) (l : List UInt8) : (be 4 t ++ l).drop 4 = l := by
  rw [List.drop_left' (be_length 4 t)]

set_option maxRecDepth 100000 in
set_option maxHeartbeats 400000 in
theorem told_long (A : Option Addr) (n cap : Nat) (l : List UInt8) (t : Int) (w : World) (hr : Rd w 1 A n cap (bvs l)) (h : 30000 < n) :
    Calls Try.prog 5 #[.slice A n cap, .int .u32 t] w fun e w' => e = .returned (.bool true) ∧ Ext w w' := by
  have h1 := hr.top
  have h2 := hr.le
  unfold maxLen at h1
  clear hr
  go_enter Try.func5, Try.ntmps5
  go_wp2_with (fail)
  refine (alive_any _).mono ?_
  rintro e w1 ⟨rfl, x1⟩
  go_wp2
  go_ret
  exact ⟨rfl, x1⟩

/-- the first half: what the number alone gives. -/
theorem told_alone (t : Nat) (ht : t < 4294967296) (A : Option Addr) (cap : Nat) (w : World) (hr : Rd w 1 A 4 cap (bvs (be 4 t))) :
    Calls Try.prog 11 #[.slice A 4 cap] w fun e w' => ∃ (A' : Option Addr) (k f : Int), e = .returned (.tuple #[.slice A' 0 0, .int .i64 k, .int .i64 f]) ∧ (0 < t → k = 0 ∧ f = 5) ∧ Ext w w' := by
  have h4 := told_take t ht []
  rw [List.append_nil] at h4
  by_cases h0 : t = 0
  · subst h0
    refine (getBytes_lit A 4 cap (be 4 0) [] 0 4 w (by omega) hr (by rw [h4]; omega) h4 (by decide) (by decide)).mono ?_
    rintro e w' ⟨A', rfl, _, hx⟩
    exact ⟨A', 4, 0, rfl, by omega, hx⟩
  · refine (getBytes_none A 4 cap (be 4 t) w hr (by rw [h4]; omega)).mono ?_
    rintro e w' ⟨A', rfl, hx⟩
    exact ⟨A', 0, 5, rfl, fun _ => ⟨rfl, rfl⟩, hx⟩

set_option maxRecDepth 100000 in
set_option maxHeartbeats 400000 in
theorem told_over (A : Option Addr) (n cap : Nat) (l : List UInt8) (t : Nat) (ht : t < 4294967296) (w : World) (hr : Rd w 1 A n cap (bvs l)) (h : n ≤ 30000) (ho : n < t) :
    Calls Try.prog 5 #[.slice A n cap, .int .u32 (t : Int)] w fun e w' => e = .returned (.bool true) ∧ Ext w w' := by
  have hl := hr.blen
  have Hl := Lib.hid hl
  clear hl
  go_enter Try.func5, Try.ntmps5
  go_wp2_with (fail)
  refine (put_any none 0 0 [] t 4 4 (by omega) (by omega) (by omega) _ (Rd.nil_ _ _)).mono ?_
  rintro e w1 ⟨A1, m1, c1, rfl, ho1, x1⟩
  have r1 := Rd.of_own ho1
  rw [List.nil_append] at r1
  obtain rfl : m1 = 4 := by have := r1.blen; rw [be_length] at this; omega
  clear ho1
  go_wp2_with (fail)
  refine (told_alone t ht A1 c1 _ r1).mono ?_
  rintro e w2 ⟨A2, k, f, rfl, hkf, x2⟩
  obtain ⟨rfl, rfl⟩ := hkf (by omega)
  clear hkf r1
  go_wp2_with (fail)
  refine (put_any none 0 0 [] t 4 4 (by omega) (by omega) (by omega) _ (Rd.nil_ _ _)).mono ?_
  rintro e w3 ⟨A3, m3, c3, rfl, ho3, x3⟩
  rw [List.nil_append] at ho3
  obtain rfl : m3 = 4 := by have := (Rd.of_own ho3).blen; rw [be_length] at this; omega
  have hr3 := hr.ext ((x1.trans x2).trans x3)
  go_wp2_with (at_builtin; refine wpl_append rfl _ _ _ rfl Try.underlying23 info_u8 rfl (by decide) rfl rfl ho3 hr3 (bvs_oneCell _) (by simp only [maxLen]; omega) (by omega) x3.size ?_; intro A4 n4 c4 w4 hn4 ho4 hg4 _)
  have x4 : Ext w2 w4 := x3.grown hg4 (own_block_ge ho3)
  rw [← bvs_append] at ho4
  obtain rfl := hn4.out
  clear hn4 ho3 hr3 hg4
  refine (getBytes_none A4 (4 + n) c4 _ w4 (Rd.of_own ho4) (by rw [told_take t ht]; omega)).mono ?_
  rintro e w5 ⟨A5, rfl, x5⟩
  clear ho4
  go_wp2_with (fail)
  refine (alive_any _).mono ?_
  rintro e w6 ⟨rfl, x6⟩
  go_wp2
  go_ret
  exact ⟨rfl, ((x1.trans x2).trans x4).trans (x5.trans x6)⟩

set_option maxRecDepth 100000 in
set_option maxHeartbeats 400000 in
theorem told_fits (A : Option Addr) (n cap : Nat) (l : List UInt8) (t : Nat) (ht : t < 4294967296) (w : World) (hr : Rd w 1 A n cap (bvs l)) (h : n ≤ 30000) (ho : t ≤ n) (h0 : 0 < t) :
    Calls Try.prog 5 #[.slice A n cap, .int .u32 (t : Int)] w fun e w' => e = .returned (.bool true) ∧ Ext w w' := by
  have hl := hr.blen
  have Hl := Lib.hid hl
  clear hl
  obtain ⟨A7, n7, c7, hcut, hn7, -, hr7⟩ := cut_h Try.underlying23 info_u8s hr .u32 t ho
  obtain rfl := hn7
  rw [Nat.mul_one, ← bvs_take] at hr7
  go_enter Try.func5, Try.ntmps5
  go_wp2_with (fail)
  refine (put_any none 0 0 [] n7 4 4 (by omega) (by omega) (by omega) _ (Rd.nil_ _ _)).mono ?_
  rintro e w1 ⟨A1, m1, c1, rfl, ho1, x1⟩
  have r1 := Rd.of_own ho1
  rw [List.nil_append] at r1
  obtain rfl : m1 = 4 := by have := r1.blen; rw [be_length] at this; omega
  clear ho1
  go_wp2_with (fail)
  refine (told_alone n7 ht A1 c1 _ r1).mono ?_
  rintro e w2 ⟨A2, k, f, rfl, hkf, x2⟩
  clear r1
  obtain ⟨rfl, rfl⟩ := hkf (by omega)
  clear hkf
  go_wp2_with (fail)
  refine (put_any none 0 0 [] n7 4 4 (by omega) (by omega) (by omega) _ (Rd.nil_ _ _)).mono ?_
  rintro e w3 ⟨A3, m3, c3, rfl, ho3, x3⟩
  rw [List.nil_append] at ho3
  obtain rfl : m3 = 4 := by have := (Rd.of_own ho3).blen; rw [be_length] at this; omega
  have hr3 := hr.ext ((x1.trans x2).trans x3)
  go_wp2_with (at_builtin; refine wpl_append rfl _ _ _ rfl Try.underlying23 info_u8 rfl (by decide) rfl rfl ho3 hr3 (bvs_oneCell _) (by simp only [maxLen]; omega) (by omega) x3.size ?_; intro A4 n4 c4 w4 hn4 ho4 hg4 _)
  have x4 : Ext w2 w4 := x3.grown hg4 (own_block_ge ho3)
  rw [← bvs_append] at ho4
  obtain rfl := hn4.out
  clear hn4 ho3 hr3 hg4
  refine (getBytes_some A4 (4 + n) c4 _ w4 (by omega) (Rd.of_own ho4) (by rw [told_take n7 ht]; omega)).mono ?_
  rintro e w5 ⟨A5, n5, c5, rfl, hn5, ho5, x5⟩
  rw [told_take n7 ht] at hn5
  obtain rfl := hn5
  rw [told_drop] at ho5
  have r5 := (Rd.of_own ho5).clip
  clear ho4 ho5
  go_wp2_with (fail)
  refine (alive_any _).mono ?_
  rintro e w6 ⟨rfl, x6⟩
  have hx06 := ((x1.trans x2).trans x4).trans (x5.trans x6)
  go_wp2_with (fail)
  refine (same_lit _ _ _ _ _ _ _ _ (r5.ext x6) (hr7.ext hx06)).mono ?_
  rintro e w7 ⟨rfl, x7⟩
  go_wp2
  go_ret
  exact ⟨rfl, hx06.trans x7⟩

set_option maxRecDepth 100000 in
set_option maxHeartbeats 400000 in
theorem told_zero (A : Option Addr) (n cap : Nat) (l : List UInt8) (w : World) (hr : Rd w 1 A n cap (bvs l)) (h : n ≤ 30000) :
    Calls Try.prog 5 #[.slice A n cap, .int .u32 0] w fun e w' => e = .returned (.bool true) ∧ Ext w w' := by
  have hl := hr.blen
  have Hl := Lib.hid hl
  clear hl
  obtain ⟨A7, n7, c7, hcut, hn7, -, hr7⟩ := cut_h Try.underlying23 info_u8s hr .u32 0 (by omega)
  obtain rfl := hn7
  rw [Nat.mul_one, ← bvs_take] at hr7
  have hcut : ∀ W, (Instr.slice 23 (.slice A n cap) none (some (.int .u32 0)) none).run Try.prog W = .ok (.slice A7 0 c7) W := hcut
  go_enter Try.func5, Try.ntmps5
  go_wp2_with (fail)
  refine (put_any none 0 0 [] 0 4 4 (by omega) (by omega) (by omega) _ (Rd.nil_ _ _)).mono ?_
  rintro e w1 ⟨A1, m1, c1, rfl, ho1, x1⟩
  have r1 := Rd.of_own ho1
  rw [List.nil_append] at r1
  obtain rfl : m1 = 4 := by have := r1.blen; rw [be_length] at this; omega
  clear ho1
  go_wp2_with (fail)
  refine (told_alone 0 (by omega) A1 c1 _ r1).mono ?_
  rintro e w2 ⟨A2, k, f, rfl, hkf, x2⟩
  clear r1
  clear hkf
  go_wp2_with (fail)
  refine (put_any none 0 0 [] 0 4 4 (by omega) (by omega) (by omega) _ (Rd.nil_ _ _)).mono ?_
  rintro e w3 ⟨A3, m3, c3, rfl, ho3, x3⟩
  rw [List.nil_append] at ho3
  obtain rfl : m3 = 4 := by have := (Rd.of_own ho3).blen; rw [be_length] at this; omega
  have hr3 := hr.ext ((x1.trans x2).trans x3)
  go_wp2_with (at_builtin; refine wpl_append rfl _ _ _ rfl Try.underlying23 info_u8 rfl (by decide) rfl rfl ho3 hr3 (bvs_oneCell _) (by simp only [maxLen]; omega) (by omega) x3.size ?_; intro A4 n4 c4 w4 hn4 ho4 hg4 _)
  have x4 : Ext w2 w4 := x3.grown hg4 (own_block_ge ho3)
  rw [← bvs_append] at ho4
  obtain rfl := hn4.out
  clear hn4 ho3 hr3 hg4
  refine (getBytes_some A4 (4 + n) c4 _ w4 (by omega) (Rd.of_own ho4) (by rw [told_take 0 (by omega)]; omega)).mono ?_
  rintro e w5 ⟨A5, n5, c5, rfl, hn5, ho5, x5⟩
  rw [told_take 0 (by omega)] at hn5
  obtain rfl := hn5
  rw [told_drop] at ho5
  have r5 := (Rd.of_own ho5).clip
  clear ho4 ho5
  go_wp2_with (fail)
  refine (alive_any _).mono ?_
  rintro e w6 ⟨rfl, x6⟩
  have hx06 := ((x1.trans x2).trans x4).trans (x5.trans x6)
  go_wp2_with (fail)
  refine (same_lit _ _ _ _ _ _ _ _ (r5.ext x6) (hr7.ext hx06)).mono ?_
  rintro e w7 ⟨rfl, x7⟩
  go_wp2
  go_ret
  exact ⟨rfl, hx06.trans x7⟩
theorem told_all (w : World) (A : Option Addr) (n cap : Nat) (l : List UInt8) (hr : Rd w 1 A n cap (bvs l)) (t : Int) (wt : (Lit.int .u32 t).wf = true) :
    Calls Try.prog 5 #[.slice A n cap, .int .u32 t] w fun e w' => e = .returned (.bool true) ∧ Ext w w' := by
  have ht := bounds_u32 wt
  obtain ⟨k, rfl⟩ := Int.eq_ofNat_of_zero_le ht.1
  by_cases h : n ≤ 30000
  · by_cases h1 : n < k
    · exact told_over A n cap l k (by omega) w hr h h1
    · by_cases h0 : k = 0
      · subst h0; exact told_zero A n cap l w hr h
      · exact told_fits A n cap l k (by omega) w hr h (by omega) (by omega)
  · exact told_long A n cap l _ w hr (by omega)
end Go.Proofs.Ytadmpfieejddmaa
