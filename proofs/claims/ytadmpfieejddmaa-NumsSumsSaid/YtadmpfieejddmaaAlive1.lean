/-
  alive of almonerlaw01: the chapter's answers.
-/
import Derived.Test.YtadmpfieejddmaaNums7
import Derived.Test.YtadmpfieejddmaaSame
namespace Go.Proofs.Ytadmpfieejddmaa
open Go.RowKit

theorem rd_lit (w : World) (l : List UInt8) (cs : Array Value) (e : TypeId) (n : Nat) (h : cs = (bvs l).toArray) (hn : l.length = n) (hl : n ≤ 1000000) : Rd (w.alloc (.cells cs e)) 1 (some ⟨w.heap.size, 0, none⟩) n n (bvs l) := by
  subst h
  have := rd_new w (bvs l).toArray e n (by simp [bvs_length, hn]) hl
  simpa using this
theorem get_lit (A : Option Addr) (n cap : Nat) (l : List UInt8) (K : Int) (v e0 : Int) (w : World) (hr : Rd w 1 A n cap (bvs l)) (hv : ((getR l K).1 : Int) = v) (he : (getR l K).2 = e0) :
    Calls Try.prog 10 #[.slice A n cap, .int .i64 K] w fun e w' => e = .returned (.tuple #[.int .u64 v, .int .i64 e0]) ∧ Ext w w' := by
  subst hv he; exact (get_any A n cap l K w hr).mono fun e w' h => ⟨h.1, by rw [← h.2]; exact Ext.refl _⟩
theorem getBytes_lit (A : Option Addr) (n cap : Nat) (l l2 : List UInt8) (k : Nat) (K : Int) (w : World) (hn : n ≤ 70368744177664) (hr : Rd w 1 A n cap (bvs l)) (h : 4 + ofBe (l.take 4) ≤ n) (hk : ofBe (l.take 4) = k) (hK : (k : Int) + 4 = K) (h2 : (l.drop 4).take k = l2) :
    Calls Try.prog 11 #[.slice A n cap] w fun e w' => ∃ A', e = .returned (.tuple #[.slice A' k k, .int .i64 K, .int .i64 0]) ∧ Rd w' 1 A' k k (bvs l2) ∧ Ext w w' := by
  refine (getBytes_some A n cap l w hn hr h).mono ?_
  rintro e w' ⟨A', n', c', rfl, hn', ho, hx⟩
  rw [hk] at hn'
  subst hn'
  rw [h2] at ho
  exact ⟨A', by rw [← hK, Int.add_comm], (Rd.of_own ho).clip, hx⟩
theorem getSums_lit (A : Option Addr) (n cap : Nat) (l l2 : List UInt8) (k : Nat) (K : Int) (w : World) (hr : Rd w 1 A n cap (bvs l)) (h : 2 + ofBe (l.take 2) * 32 ≤ n) (hk : ofBe (l.take 2) = k) (hK : 2 + (k : Int) * 32 = K) (h2 : (l.drop 2).take (k * 32) = l2) :
    Calls Try.prog 13 #[.slice A n cap] w fun e w' => ∃ A', e = .returned (.tuple #[.slice A' k k, .int .i64 K, .int .i64 0]) ∧ Rd w' 32 A' k k (bvs l2) ∧ Ext w w' := by
  refine (getSums_some A n cap l w hr h).mono ?_
  rintro e w' ⟨A', n', rfl, hn', ho, hx⟩
  rw [hk] at hn'
  subst hn'
  rw [h2] at ho
  exact ⟨A', by rw [hK], (Rd.of_own ho), hx⟩
theorem put_lit (A : Option Addr) (m cap : Nat) (l : List UInt8) (X K : Int) (x k : Nat) (l2 : List UInt8) (hX : X = (x : Int)) (hk : k ≤ 8) (hK : max 0 (min K 8) = (k : Int)) (hm : m ≤ 70368744177664) (w : World) (hr : Rd w 1 A m cap (bvs l)) (h2 : l ++ be k x = l2) :
    Calls Try.prog 7 #[.slice A m cap, .int .u64 X, .int .i64 K] w fun e w' => ∃ A' m' cap', e = .returned (.slice A' m' cap') ∧ Rd w' 1 A' m' cap' (bvs l2) ∧ Ext w w' := by
  subst hX
  refine (put_any A m cap l x k K hk hK hm w hr).mono ?_
  rintro e w' ⟨A', n', c', rfl, ho, hx⟩
  rw [h2] at ho
  exact ⟨A', n', c', rfl, Rd.of_own ho, hx⟩
theorem putBytes_lit (A : Option Addr) (m cap : Nat) (l : List UInt8) (A2 : Option Addr) (m2 cap2 : Nat) (l2 l3 : List UInt8) (hm : m + m2 ≤ 35184372088832) (w : World) (hr : Rd w 1 A m cap (bvs l)) (hr2 : Rd w 1 A2 m2 cap2 (bvs l2)) (h3 : l ++ be 4 l2.length ++ l2 = l3) :
    Calls Try.prog 16 #[.slice A m cap, .slice A2 m2 cap2] w fun e w' => ∃ A' n' cap', e = .returned (.slice A' n' cap') ∧ Rd w' 1 A' n' cap' (bvs l3) ∧ Ext w w' := by
  refine (putBytes_any A m cap l A2 m2 cap2 l2 hm w hr hr2).mono ?_
  rintro e w' ⟨A', n', c', rfl, ho, hx⟩
  rw [h3] at ho
  exact ⟨A', n', c', rfl, Rd.of_own ho, hx⟩
theorem same_lit (A1 : Option Addr) (n1 c1 : Nat) (l : List UInt8) (A2 : Option Addr) (n2 c2 : Nat) (w : World) (h1 : Rd w 1 A1 n1 c1 (bvs l)) (h2 : Rd w 1 A2 n2 c2 (bvs l)) :
    Calls Try.prog 9 #[.slice A1 n1 c1, .slice A2 n2 c2] w fun e w' => e = .returned (.bool true) ∧ Ext w w' := by
  refine (same_any A1 n1 c1 l A2 n2 c2 l w h1 h2).mono ?_
  rintro e w' ⟨rfl, d, rfl⟩
  exact ⟨by simp, (Ext.refl _).drewN _⟩

theorem append_zeros (A : Option Addr) (n : Nat) (l : List UInt8) (k : Nat) (w : World) (hr : Rd w 1 A n n (bvs l)) (hk : 0 < k) (hn : n + k ≤ 70368744177664) :
    ∃ A' cap' w', (Builtin.append_ #[23, 3] 23 #[.slice A n n, .int .i64 (k : Int)]).run Try.prog w = .ok (.slice A' (n + k) cap') w' ∧ Rd w' 1 A' (n + k) cap' (bvs (l ++ List.replicate k 0)) ∧ Ext w w' := by
  obtain ⟨i0, hi, hz0, hz1, hz2⟩ := info_parts info_u8
  have hl := hr.blen
  have hfc : (Builtin.firstCells i0.size n (.slice A n n)).run Try.prog w.drew = .ok (bvs l).toArray w.drew := by
    cases A with
    | none => have := hr.nil rfl; subst this; rw [List.eq_nil_of_length_eq_zero hl]; simp [Builtin.firstCells, bvs]
    | some p =>
      rw [hz1]
      refine run_firstCells_some (P := Try.prog) w.drew 1 n p n n (bvs l) (by rw [bvs_length, hl, Nat.mul_one]) ?_
      intro j u hu
      have hj : j < n := by have := (List.getElem?_eq_some_iff.1 hu).1; rw [bvs_length] at this; omega
      obtain ⟨b, o, e, hc⟩ := hr.at_ (by omega)
      injection e with e
      subst e
      rw [add_mk]
      exact (hc j (by omega)).trans hu
  have hap := Lib.run_append_grow_zeros (P := Try.prog) w 23 3 23 5 i0 (.int .u8 0) .i64 .i64 Try.underlying23 Try.underlying3 hi hz0 A n n (bvs l) hfc k hk (by rw [hz1]; omega) (by omega) (by omega) (by rw [hz2]; omega)
      (growslice_fits (by omega) (by rw [hz2]; omega))
  have hge := grownCap_ge w (n + k) n 5
  have hcm := grownCap_le_maxLen w (n + k) n 5 (by simp only [maxLen]; omega)
  generalize grownCap w (n + k) n 5 = G at *
  refine ⟨_, _, _, hap, ⟨hge, hcm, by simp [bvs_length, hl], (fun h => by cases h), fun _ => ⟨w.heap.size, 0, rfl, fun j hj => ?_⟩⟩, ((Ext.refl w).drew).alloc _⟩
  rw [cell_of_row _ w.heap.size (0 + j) _ 5 (0, 0) (heap_alloc_new w.drew _)]
  have hz : (Builtin.zeroCells (Value.int .u8 0).cells k).toList = bvs (List.replicate k 0) := by
    apply List.ext_getElem
    · simp [Builtin.zeroCells, bvs, Value.cells]
    · intro i h1 h2
      simp [Builtin.zeroCells, bvs, Value.cells, bv, Nat.mod_one]
  rw [← Array.getElem?_toList]
  simp only [Array.toList_append, hz]
  rw [List.getElem?_append_left (by simp [bvs_length, hl]; omega), bvs_append]
  simp

set_option maxRecDepth 100000 in
set_option maxHeartbeats 400000 in
theorem alive_any (w : World) : Calls Try.prog 8 #[] w fun e w' => e = .returned (.bool true) ∧ Ext w w' := by
  go_enter Try.func8, Try.ntmps8
  have r := rd_lit w [0, 2, 1, 9] #[.int .u8 0, .int .u8 2, .int .u8 1, .int .u8 9] 5 4 (by rfl) rfl (by decide)
  go_wp2_with (fail)
  refine (get_lit _ _ _ [0, 2, 1, 9] 3 513 0 _ r (by decide) (by decide)).mono ?_
  clear r
  rintro e w1 ⟨rfl, x1⟩
  replace x1 := ((Ext.refl w).alloc _).trans x1
  have r := rd_lit w1 [0, 2] #[.int .u8 0, .int .u8 2] 5 2 (by rfl) rfl (by decide)
  go_wp2_with (fail)
  refine (get_lit _ _ _ [0, 2] 3 0 5 _ r (by decide) (by decide)).mono ?_
  clear r
  rintro e w2 ⟨rfl, x2⟩
  replace x2 := ((Ext.refl w1).alloc _).trans x2
  go_wp2_with (fail)
  refine (get_lit _ _ _ [] 0 0 0 _ (Rd.nil_ _ _) (by decide) (by decide)).mono ?_
  rintro e w3 ⟨rfl, x3⟩
  have r := rd_lit w3 [0] #[.int .u8 0] 5 1 (by rfl) rfl (by decide)
  go_wp2_with (fail)
  refine (get_lit _ _ _ [0] 10 0 1 _ r (by decide) (by decide)).mono ?_
  clear r
  rintro e w4 ⟨rfl, x4⟩
  replace x4 := ((Ext.refl w3).alloc _).trans x4
  have r := rd_lit w4 [0, 0, 0, 1, 6, 5] #[.int .u8 0, .int .u8 0, .int .u8 0, .int .u8 1, .int .u8 6, .int .u8 5] 5 6 (by rfl) rfl (by decide)
  go_wp2_with (fail)
  refine (getBytes_lit _ _ _ [0, 0, 0, 1, 6, 5] [6] 1 5 _ (by omega) r (by decide) (by decide) (by decide) (by decide)).mono ?_
  clear r
  rintro e w5 ⟨A1, rfl, hl, x5⟩
  replace x5 := ((Ext.refl w4).alloc _).trans x5
  have r := rd_lit w5 [0, 0, 1] #[.int .u8 0, .int .u8 0, .int .u8 1] 5 3 (by rfl) rfl (by decide)
  go_wp2_with (fail)
  refine (getBytes_none _ _ _ [0, 0, 1] _ r (by decide)).mono ?_
  clear r
  rintro e w6 ⟨A2, rfl, x6⟩
  replace x6 := ((Ext.refl w5).alloc _).trans x6
  have r := rd_lit w6 [0, 0, 3] #[.int .u8 0, .int .u8 0, .int .u8 3] 5 3 (by rfl) rfl (by decide)
  go_wp2_with (fail)
  refine (getSums_lit _ _ _ [0, 0, 3] [] 0 2 _ r (by decide) (by decide) (by decide) (by decide)).mono ?_
  clear r
  rintro e w7 ⟨A3, rfl, hs, x7⟩
  replace x7 := ((Ext.refl w6).alloc _).trans x7
  have r := rd_lit w7 [0, 2] #[.int .u8 0, .int .u8 2] 5 2 (by rfl) rfl (by decide)
  obtain ⟨A4, c4, w8, hz, hrz, hxz⟩ := append_zeros _ _ _ 63 _ r (by omega) (by omega)
  have Hz := Lib.hid hz
  clear hz r
  replace hxz := ((Ext.refl w7).alloc _).trans hxz
  go_wp2_with (at_builtin; refine Lib.wpList_append_run _ rfl _ _ _ _ rfl _ _ rfl rfl _ _ Hz.out ?_)
  refine (getSums_none _ _ _ _ _ hrz (by right; decide)).mono ?_
  rintro e w9 ⟨A5, rfl, x9⟩
  clear hrz Hz
  replace hl := hl.ext (((x6.trans x7).trans hxz).trans x9)
  have r := rd_lit w9 [6] #[.int .u8 6] 5 1 (by rfl) rfl (by decide)
  go_wp2_with (fail)
  refine (same_lit _ _ _ [6] _ _ _ _ (hl.alloc _) r).mono ?_
  clear hl r
  rintro e w10 ⟨rfl, x10⟩
  replace x10 := ((Ext.refl w9).alloc _).trans x10
  have r := rd_lit w10 [7] #[.int .u8 7] 5 1 (by rfl) rfl (by decide)
  go_wp2_with (fail)
  refine (put_lit _ _ _ [7] 513 3 513 3 [7, 0, 2, 1] (by rfl) (by decide) (by decide) (by decide) _ r (by decide)).mono ?_
  clear r
  rintro e w11 ⟨P1, m1, c1, rfl, h1, x11⟩
  replace x11 := ((Ext.refl w10).alloc _).trans x11
  have r := rd_lit w11 [7, 0, 2, 1] #[.int .u8 7, .int .u8 0, .int .u8 2, .int .u8 1] 5 4 (by rfl) rfl (by decide)
  go_wp2_with (fail)
  refine (same_lit _ _ _ [7, 0, 2, 1] _ _ _ _ (h1.alloc _) r).mono ?_
  clear r h1
  rintro e w12 ⟨rfl, x12⟩
  replace x12 := ((Ext.refl w11).alloc _).trans x12
  go_wp2_with (fail)
  refine (put_lit _ _ _ [] 513 1 513 1 [1] (by rfl) (by decide) (by decide) (by decide) _ (Rd.nil_ _ _) (by decide)).mono ?_
  rintro e w13 ⟨P2, m2, c2, rfl, h1, x13⟩
  have r := rd_lit w13 [1] #[.int .u8 1] 5 1 (by rfl) rfl (by decide)
  go_wp2_with (fail)
  refine (same_lit _ _ _ [1] _ _ _ _ (h1.alloc _) r).mono ?_
  clear r h1
  rintro e w14 ⟨rfl, x14⟩
  replace x14 := ((Ext.refl w13).alloc _).trans x14
  have r := rd_lit w14 [4] #[.int .u8 4] 5 1 (by rfl) rfl (by decide)
  go_wp2_with (fail)
  refine (put_lit _ _ _ [4] 1 (-2) 1 0 [4] (by rfl) (by decide) (by decide) (by decide) _ r (by decide)).mono ?_
  clear r
  rintro e w15 ⟨P3, m3, c3, rfl, h1, x15⟩
  replace x15 := ((Ext.refl w14).alloc _).trans x15
  have r := rd_lit w15 [4] #[.int .u8 4] 5 1 (by rfl) rfl (by decide)
  go_wp2_with (fail)
  refine (same_lit _ _ _ [4] _ _ _ _ (h1.alloc _) r).mono ?_
  clear r h1
  rintro e w16 ⟨rfl, x16⟩
  replace x16 := ((Ext.refl w15).alloc _).trans x16
  have r1 := rd_lit w16 [8] #[.int .u8 8] 5 1 (by rfl) rfl (by decide)
  have r2 := rd_lit (w16.alloc (.cells #[.int .u8 8] 5)) [6, 5] #[.int .u8 6, .int .u8 5] 5 2 (by rfl) rfl (by decide)
  rw [World.size_alloc] at r2
  go_wp2_with (fail)
  refine (putBytes_lit _ _ _ [8] _ _ _ [6, 5] [8, 0, 0, 0, 2, 6, 5] (by decide) _ (r1.alloc _) r2 (by decide)).mono ?_
  clear r1 r2
  rintro e w17 ⟨P4, m4, c4', rfl, h1, x17⟩
  replace x17 := (((Ext.refl w16).alloc _).alloc _).trans x17
  have r := rd_lit w17 [8, 0, 0, 0, 2, 6, 5] #[.int .u8 8, .int .u8 0, .int .u8 0, .int .u8 0, .int .u8 2, .int .u8 6, .int .u8 5] 5 7 (by rfl) rfl (by decide)
  go_wp2_with (fail)
  refine (same_lit _ _ _ [8, 0, 0, 0, 2, 6, 5] _ _ _ _ (h1.alloc _) r).mono ?_
  clear r h1
  rintro e w18 ⟨rfl, x18⟩
  replace x18 := ((Ext.refl w17).alloc _).trans x18
  go_wp2_with (fail)
  go_ret
  exact ⟨rfl, x1.trans (x2.trans (x3.trans (x4.trans (x5.trans (x6.trans (x7.trans (hxz.trans (x9.trans (x10.trans (x11.trans (x12.trans (x13.trans (x14.trans (x15.trans (x16.trans (x17.trans x18))))))))))))))))⟩
end Go.Proofs.Ytadmpfieejddmaa
